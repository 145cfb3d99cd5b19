/- An arena made since a world, beside blocks of others that stay: each call restated for laws. -/
import Derived.Test.YtpaopcnbgdlgnaaANew
namespace Go.Proofs.Ytpaopcnbgdlgnaa
open Go.RowKit Go.MapKept
set_option linter.unusedVariables false
set_option linter.unusedSimpArgs false

/-- In the world w, made from w0, an arena stands at p; the blocks X are no part of it. -/
def Has (X : Nat → Prop) (w0 w : World) (p : Nat) (S : St) : Prop :=
  ∃ A : AP, A.p = p ∧ ArenaAt w A S ∧ Below w0.heap.size w0 w ∧ (∀ k, A.owns k → w0.heap.size ≤ k ∧ ¬ X k) ∧ (∀ k, X k → k < w.heap.size)

/-- The blocks X are as they were. -/
def Same (X : Nat → Prop) (w w' : World) : Prop := ∀ k, X k → w'.heap[k]? = w.heap[k]?

theorem Same.refl (X : Nat → Prop) (w : World) : Same X w w := fun _ _ => rfl
theorem Same.trans {X : Nat → Prop} {a b c : World} (h : Same X a b) (g : Same X b c) : Same X a c := fun k hk => (g k hk).trans (h k hk)

variable {X : Nat → Prop} {w0 w w' : World} {p : Nat} {S S' : St}

theorem Has.inv (h : Has X w0 w p S) : Inv S := by
  obtain ⟨A, _, H, _⟩ := h; exact H.inv
theorem Has.old (h : Has X w0 w p S) : Below w0.heap.size w0 w := by
  obtain ⟨A, _, _, hb, _⟩ := h; exact hb
theorem Has.lt (h : Has X w0 w p S) {k : Nat} (hk : X k) : k < w.heap.size := by
  obtain ⟨A, _, _, _, _, hX⟩ := h; exact hX k hk

theorem Has.below (h : Has X w0 w p S) (hb : Below w.heap.size w w') : Has X w0 w' p S ∧ Same X w w' := by
  obtain ⟨A, hp, H, h0, ho, hX⟩ := h
  exact ⟨⟨A, hp, H.below hb, h0.trans (hb.mono h0.size), ho, fun k hk => Nat.lt_of_lt_of_le (hX k hk) hb.size⟩, fun k hk => hb.block k (hX k hk)⟩

/-- Another block, that is no arena's, may be watched too. -/
theorem Has.watch (h : Has X w0 w p S) (k : Nat) (hw : w.heap.size ≤ k) (hb : Below w.heap.size w w') (hk : k < w'.heap.size) : Has (fun j => X j ∨ j = k) w0 w' p S := by
  obtain ⟨A, hp, H, h0, ho, hX⟩ := h
  refine ⟨A, hp, H.below hb, h0.trans (hb.mono h0.size), fun j hj => ⟨(ho j hj).1, ?_⟩, ?_⟩
  · rintro (h1 | rfl)
    · exact (ho j hj).2 h1
    · have := H.owns_lt hj; omega
  · rintro j (h1 | rfl)
    · exact Nat.lt_of_lt_of_le (hX j h1) hb.size
    · exact hk

/-- What is watched may be turned by the caller. -/
theorem Has.turn (h : Has X w0 w p S) (hk : Keep X w w') (h0 : Below w0.heap.size w0 w') : Has X w0 w' p S := by
  obtain ⟨A, hp, H, _, ho, hX⟩ := h
  exact ⟨A, hp, H.keep hk (fun k hk => (ho k hk).2), h0, ho, fun k hk' => Nat.lt_of_lt_of_le (hX k hk') hk.size⟩

/-- Less may be watched. -/
theorem Has.less {Y : Nat → Prop} (h : Has X w0 w p S) (hY : ∀ k, Y k → X k) : Has Y w0 w p S := by
  obtain ⟨A, hp, H, h0, ho, hX⟩ := h
  exact ⟨A, hp, H, h0, fun k hk => ⟨(ho k hk).1, fun hy => (ho k hk).2 (hY k hy)⟩, fun k hk => hX k (hY k hk)⟩

theorem Has.step {A A' : AP} (hp : A.p = p) (H : ArenaAt w A S) (h0 : Below w0.heap.size w0 w) (ho : ∀ k, A.owns k → w0.heap.size ≤ k ∧ ¬ X k) (hX : ∀ k, X k → k < w.heap.size) (H' : ArenaAt w' A' S') (st : Step w w' A A') : Has X w0 w' p S' ∧ Same X w w' := by
  refine ⟨⟨A', st.p.trans hp, H', h0.trans (st.keep.below h0.size ?_), ?_, fun k hk => Nat.lt_of_lt_of_le (hX k hk) st.keep.size⟩, fun k hk => st.keep.block k (hX k hk) (fun hA => (ho k hA).2 hk)⟩
  · intro k hk hA
    have := (ho k hA).1
    omega
  · intro k hk
    rcases st.new k hk with h1 | h1
    · exact ho k h1
    · refine ⟨Nat.le_trans h0.size h1, fun hx => ?_⟩
      have := hX k hx
      omega

theorem has_new (n : Int) (w : World) :
    Calls Try.prog 32 #[.int .i64 n] w fun e w' => (¬ (1 ≤ n ∧ n ≤ 65536) ∧ e = .returned (.tuple #[.pointer none, .int .i64 1]) ∧ w' = w) ∨
      ((1 ≤ n ∧ n ≤ 65536) ∧ ∃ p, e = .returned (.tuple #[.pointer (some ⟨p, 0, none⟩), .int .i64 0]) ∧ Has (fun _ => False) w w' p (newS n.toNat)) := by
  refine (new_any n w).mono fun e w' h => ?_
  rcases h with h | ⟨hn, A, he, H, hb, ho⟩
  · exact .inl h
  · exact .inr ⟨hn, A.p, he, A, rfl, H, hb, fun k hk => ⟨ho k hk, fun h => h⟩, fun k hk => hk.elim⟩

theorem has_alloc (h : Has X w0 w p S) (n : Int) :
    Calls Try.prog 14 #[.pointer (some ⟨p, 0, none⟩), .int .i64 n] w fun e w' => e = .returned (.tuple #[.int .i64 (allocR S n).1, .int .i64 (allocR S n).2]) ∧ Has X w0 w' p (allocS S n) ∧ Same X w w' := by
  obtain ⟨A, rfl, H, h0, ho, hX⟩ := h
  refine (alloc_any H n).mono fun e w' g => ?_
  obtain ⟨he, A', H', st⟩ := g
  exact ⟨he, Has.step rfl H h0 ho hX H' st⟩

theorem has_free (h : Has X w0 w p S) (n : Int) :
    Calls Try.prog 27 #[.pointer (some ⟨p, 0, none⟩), .int .i64 n] w fun e w' => e = .returned (.int .i64 (freeR S n)) ∧ Has X w0 w' p (freeS S n) ∧ Same X w w' := by
  obtain ⟨A, rfl, H, h0, ho, hX⟩ := h
  refine (free_any H n).mono fun e w' g => ?_
  obtain ⟨he, A', H', st⟩ := g
  exact ⟨he, Has.step rfl H h0 ho hX H' st⟩

theorem has_store (h : Has X w0 w p S) (n i x : Int) :
    Calls Try.prog 16 #[.pointer (some ⟨p, 0, none⟩), .int .i64 n, .int .i64 i, .int .i64 x] w fun e w' => e = .returned (.int .i64 (cellR S.L n i).2) ∧ Has X w0 w' p (storeS S n i x) ∧ Same X w w' := by
  obtain ⟨A, rfl, H, h0, ho, hX⟩ := h
  refine (store_any H n i x).mono fun e w' g => ?_
  obtain ⟨he, H', st⟩ := g
  exact ⟨he, Has.step rfl H h0 ho hX H' st⟩

theorem has_compact (h : Has X w0 w p S) :
    Calls Try.prog 24 #[.pointer (some ⟨p, 0, none⟩)] w fun e w' => e = .returned (.int .i64 (compM 0 S.L)) ∧ Has X w0 w' p (compactS S) ∧ Same X w w' := by
  obtain ⟨A, rfl, H, h0, ho, hX⟩ := h
  refine (compact_any H).mono fun e w' g => ?_
  obtain ⟨he, H', st⟩ := g
  exact ⟨he, Has.step rfl H h0 ho hX H' st⟩

theorem has_load (h : Has X w0 w p S) (n i : Int) :
    Calls Try.prog 18 #[.pointer (some ⟨p, 0, none⟩), .int .i64 n, .int .i64 i] w fun e w' => e = .returned (.tuple #[.int .i64 (loadR S n i).1, .int .i64 (loadR S n i).2]) ∧ Has X w0 w' p S ∧ Same X w w' := by
  have h' := h
  obtain ⟨A, rfl, H, _⟩ := h
  exact (load_any H n i).mono fun e w' g => ⟨g.1, h'.below g.2⟩

theorem has_len (h : Has X w0 w p S) (n : Int) :
    Calls Try.prog 19 #[.pointer (some ⟨p, 0, none⟩), .int .i64 n] w fun e w' => e = .returned (.int .i64 (findR S.L n).2.1) ∧ Has X w0 w' p S ∧ Same X w w' := by
  have h' := h
  obtain ⟨A, rfl, H, _⟩ := h
  exact (len_any H n).mono fun e w' g => ⟨g.1, h'.below g.2⟩

def addrR (L : List Blk) (h : Int) : Int := if (findR L h).2.2 = 0 then (findR L h).1 else -1

theorem has_addr (h : Has X w0 w p S) (n : Int) :
    Calls Try.prog 20 #[.pointer (some ⟨p, 0, none⟩), .int .i64 n] w fun e w' => e = .returned (.int .i64 (addrR S.L n)) ∧ Has X w0 w' p S ∧ Same X w w' := by
  have h' := h
  obtain ⟨A, rfl, H, _⟩ := h
  exact (addr_any H n).mono fun e w' g => ⟨g.1, h'.below g.2⟩

theorem has_live (h : Has X w0 w p S) :
    Calls Try.prog 23 #[.pointer (some ⟨p, 0, none⟩)] w fun e w' => e = .returned (.int .i64 (liveL S.L)) ∧ w = w' := by
  obtain ⟨A, rfl, H, _⟩ := h
  exact live_any H

theorem has_size (h : Has X w0 w p S) :
    Calls Try.prog 28 #[.pointer (some ⟨p, 0, none⟩)] w fun e w' => e = .returned (.int .i64 S.cells.length) ∧ w = w' := by
  obtain ⟨A, rfl, H, _⟩ := h
  exact size_any H

theorem has_top (h : Has X w0 w p S) :
    Calls Try.prog 29 #[.pointer (some ⟨p, 0, none⟩)] w fun e w' => e = .returned (.int .i64 (topL 0 S.L)) ∧ Has X w0 w' p S ∧ Same X w w' := by
  have h' := h
  obtain ⟨A, rfl, H, _⟩ := h
  exact (top_any H).mono fun e w' g => ⟨g.1, h'.below g.2⟩

theorem has_gap (h : Has X w0 w p S) :
    Calls Try.prog 22 #[.pointer (some ⟨p, 0, none⟩)] w fun e w' => e = .returned (.int .i64 (maxRun (runs S.cells.length 0 S.L))) ∧ Has X w0 w' p S ∧ Same X w w' := by
  have h' := h
  obtain ⟨A, rfl, H, _⟩ := h
  exact (gap_any H).mono fun e w' g => ⟨g.1, h'.below g.2⟩

theorem has_handles (h : Has X w0 w p S) :
    Calls Try.prog 25 #[.pointer (some ⟨p, 0, none⟩)] w fun e w' =>
      ∃ v, e = .returned v ∧ w'.ownsRow w.heap.size 3 1 v S.L.length ((hsTo S.L 70000).map fun h : Nat => iv h) ∧ Below w.heap.size w w' ∧ Has X w0 w' p S ∧ Same X w w' := by
  have h' := h
  obtain ⟨A, rfl, H, _⟩ := h
  exact (handles_any H).mono fun e w' g => by
    obtain ⟨v, h1, h2, h3⟩ := g
    exact ⟨v, h1, h2, h3, h'.below h3⟩
end Go.Proofs.Ytpaopcnbgdlgnaa
