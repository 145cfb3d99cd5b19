/- ArenaFirst in plain Lean. -/
import Derived.Test.YtpaopcnbgdlgnaaInts
namespace Go.Proofs.Ytpaopcnbgdlgnaa
open Go.RowKit
set_option linter.unusedVariables false
set_option linter.unusedSimpArgs false

theorem run_ends {N : Nat} : ∀ {L : List Blk} {lo i : Nat} {r : Run}, Laid lo L → r ∈ runsFrom N 0 lo i L → r.a = lo ∨ ∃ c ∈ L, c.a + c.n = r.a := by
  intro L
  induction L with
  | nil =>
    intro lo i r _ hr
    unfold runsFrom at hr
    split at hr
    · simp at hr; subst hr; exact .inl rfl
    · simp at hr
  | cons b l ih =>
    intro lo i r hl hr
    obtain ⟨h1, h2, h3, h4⟩ := hl
    unfold runsFrom at hr
    rw [if_neg (show ¬ (b.h : Int) = 0 by omega), List.mem_append] at hr
    rcases hr with hr | hr
    · split at hr
      · simp at hr; subst hr; exact .inl rfl
      · simp at hr
    · rcases ih h4 hr with h | ⟨c, hc, h⟩
      · exact .inr ⟨b, by simp, h.symm⟩
      · exact .inr ⟨c, by simp [hc], h⟩

theorem end_one {S : St} (hS : Inv S) {c d : Blk} (hc : c ∈ S.L) (hd : d ∈ S.L) (h : c.a + c.n = d.a + d.n) : c = d := by
  have h1 := (hS.mem hc).1
  have h2 := (hS.mem hd).1
  by_cases he : c.h = d.h
  · have e1 := getB_of_mem hS.nodup hc
    have e2 := getB_of_mem hS.nodup hd
    rw [he, e2] at e1
    simpa using e1.symm
  · have := laid_disj hS.laid hc hd he
    omega

/-- Where a handle's block ends. -/
def endOf (L : List Blk) (h : Nat) : Int := match getB h L with | some c => c.a + c.n | none => -1

def endsAt (L : List Blk) (q : Int) (hs : List Nat) : Nat := (hs.filter fun h => decide (endOf L h = q)).length

theorem endsAt_take {L : List Blk} {q : Int} {hs : List Nat} {i h : Nat} (hi : hs[i]? = some h) : endsAt L q (hs.take (i + 1)) = endsAt L q (hs.take i) + if endOf L h = q then 1 else 0 := by
  unfold endsAt
  rw [List.take_add_one, hi, List.filter_append, List.length_append]
  congr 1
  by_cases hq : endOf L h = q
  · simp [hq]
  · simp [hq]

theorem ends_le (L : List Blk) (q : Int) (hs : List Nat) : endsAt L q hs ≤ hs.length := List.length_filter_le _ _

theorem ends_one {S : St} (hS : Inv S) {r : Run} (hr : r ∈ runs S.cells.length 0 S.L) (h0 : r.a ≠ 0) : endsAt S.L r.a (hsTo S.L 70000) = 1 := by
  obtain ⟨c, hc, he⟩ := (run_ends hS.laid hr).resolve_left h0
  have hg := getB_of_mem hS.nodup hc
  have hend : endOf S.L c.h = r.a := by unfold endOf; rw [hg]; simp only; omega
  have hcm : c.h ∈ hsTo S.L 70000 := hsTo_mem.2 ⟨⟨(hS.mem hc).2.1, hS.small c hc⟩, List.mem_map.2 ⟨c, hc, rfl⟩⟩
  have hone : ∀ h ∈ hsTo S.L 70000, endOf S.L h = r.a → h = c.h := by
    intro h hh e
    obtain ⟨_, hm⟩ := hsTo_mem.1 hh
    obtain ⟨d, hd, rfl⟩ := List.mem_map.1 hm
    unfold endOf at e
    rw [getB_of_mem hS.nodup hd] at e
    simp only at e
    rw [end_one hS hd hc (by omega)]
  unfold endsAt
  have hmem : c.h ∈ (hsTo S.L 70000).filter fun h => decide (endOf S.L h = r.a) := List.mem_filter.2 ⟨hcm, by simpa using hend⟩
  have hnd : ((hsTo S.L 70000).filter fun h => decide (endOf S.L h = r.a)).Nodup := (hsTo_nodup _ _).sublist List.filter_sublist
  generalize hF : ((hsTo S.L 70000).filter fun h => decide (endOf S.L h = r.a)) = F at *
  have hall : ∀ x ∈ F, x = c.h := by
    intro x hx
    rw [← hF] at hx
    obtain ⟨h1, h2⟩ := List.mem_filter.1 hx
    exact hone x h1 (by simpa using h2)
  match F, hnd, hmem, hall with
  | [x], _, _, _ => rfl
  | x :: y :: t, hnd, _, hall =>
    have e1 := hall x (by simp)
    have e2 := hall y (by simp)
    simp [e1, e2] at hnd

/-! ### rows that are watched -/
theorem reads_of_row {w : World} {base n : Nat} {v : Value} {xs : List Int} (h : w.ownsRow base 3 1 v n (xs.map iv)) : Reads w w.heap.size v xs := by
  by_cases hx : xs = []
  · subst hx
    obtain ⟨a, c, rfl⟩ := row_shape h
    have hl := h.1
    simp at hl
    subst hl
    exact ⟨a, c, rfl, fun i x hi => by simp at hi⟩
  · obtain ⟨g, c, spare, rfl, hn, hg, hb, hlt⟩ := row_open' h (by simpa using hx)
    refine ⟨_, c, by rw [hn]; simp, fun i x hi => ⟨g, rfl, hlt, ?_⟩⟩
    rw [cell_of_list hg, List.getElem?_append_left (by simpa using (List.getElem?_eq_some_iff.1 hi).1), List.getElem?_map, hi]
    rfl

theorem Reads.same {X : Nat → Prop} {w w' : World} {B : Nat} {v : Value} {xs : List Int} (h : Reads w B v xs) (hs : ∀ k, k < B → w'.heap[k]? = w.heap[k]?) : Reads w' B v xs := by
  obtain ⟨A, c, hv, hx⟩ := h
  refine ⟨A, c, hv, fun i x hi => ?_⟩
  obtain ⟨g, h1, h2, h3⟩ := hx i x hi
  exact ⟨g, h1, h2, (World.cell?_of_block (w := w) (hs g h2)).trans h3⟩

/-- The blocks that a row may lie in are watched. -/
def Row (X : Nat → Prop) (w : World) (v : Value) (xs : List Int) : Prop :=
  ∃ A c, v = .slice A xs.length c ∧ ∀ (i : Nat) (x : Int), xs[i]? = some x → ∃ g, A = some ⟨g, 0, none⟩ ∧ X g ∧ w.cell? ⟨g, i, none⟩ = some (.int .i64 x)

theorem Row.same {X : Nat → Prop} {w w' : World} {v : Value} {xs : List Int} (h : Row X w v xs) (hs : Same X w w') : Row X w' v xs := by
  obtain ⟨A, c, hv, hx⟩ := h
  refine ⟨A, c, hv, fun i x hi => ?_⟩
  obtain ⟨g, h1, h2, h3⟩ := hx i x hi
  exact ⟨g, h1, h2, (World.cell?_of_block (w := w) (hs g h2)).trans h3⟩

theorem Row.reads {X : Nat → Prop} {w0 w : World} {p : Nat} {S : St} {v : Value} {xs : List Int} (h : Row X w v xs) (H : Has X w0 w p S) : Reads w w.heap.size v xs := by
  obtain ⟨A, c, hv, hx⟩ := h
  refine ⟨A, c, hv, fun i x hi => ?_⟩
  obtain ⟨g, h1, h2, h3⟩ := hx i x hi
  exact ⟨g, h1, H.lt h2, h3⟩

/-- The handles of an arena in a row, watched from here on. -/
theorem handles_row {w0 w : World} {p : Nat} {S : St} (h : Has (fun _ => False) w0 w p S) :
    Calls Try.prog 25 #[.pointer (some ⟨p, 0, none⟩)] w fun e w' =>
      ∃ v X, e = .returned v ∧ Has X w0 w' p S ∧ Row X w' v ((hsTo S.L 70000).map fun h : Nat => (h : Int)) := by
  have HO := h.toOld
  refine (has_handles h).mono fun e w' g => ?_
  obtain ⟨v, rfl, hr, hb, H, _⟩ := g
  have H' := (HO.below (Nat.le_refl _) hb H.old).toHas
  have e1 : ((hsTo S.L 70000).map fun h : Nat => iv h) = ((hsTo S.L 70000).map fun h : Nat => (h : Int)).map iv := by simp [Function.comp_def]
  rw [e1] at hr
  refine ⟨v, _, rfl, H', ?_⟩
  by_cases hx : hsTo S.L 70000 = []
  · rw [hx] at hr ⊢
    obtain ⟨a, c, rfl⟩ := row_shape hr
    have hl := hr.1
    simp at hl
    exact ⟨a, c, by rw [← hl]; rfl, fun i x hi => by simp at hi⟩
  · obtain ⟨g, c, spare, rfl, hn, hg, hbb, hlt⟩ := row_open' hr (by simpa using hx)
    refine ⟨_, c, by rw [hn]; simp, fun i x hi => ⟨g, rfl, ⟨hbb, hlt⟩, ?_⟩⟩
    rw [cell_of_list hg, List.getElem?_append_left (by simpa using (List.getElem?_eq_some_iff.1 hi).1), List.getElem?_map, hi]
    rfl

/-- An arena, and a row beside it. -/
def Two (X : Nat → Prop) (w : World) (p : Nat) (S : St) (v : Value) (xs : List Int) (wr : World) : Prop := Has X w wr p S ∧ Row X wr v xs

variable {X : Nat → Prop} {w wr : World} {p : Nat} {S : St} {v : Value} {xs : List Int}

theorem Two.drew (h : Two X w p S v xs wr) : Two X w p S v xs wr.drew := ⟨(h.1.below (Below.refl _ _).drew).1, h.2.same (fun _ _ => rfl)⟩

theorem Two.cell {g n c i : Nat} {x : Int} (h : Two X w p S (.slice (some ⟨g, 0, none⟩) n c) xs wr) (hi : xs[i]? = some x) : wr.cell? ⟨g, i, none⟩ = some (.int .i64 x) := by
  obtain ⟨_, A, c', hv, hx⟩ := h
  obtain ⟨g', h1, _, h3⟩ := hx i x hi
  simp only [Value.slice.injEq] at hv
  rw [← hv.1] at h1
  simp only [Option.some.injEq, Addr.mk.injEq] at h1
  rw [h1.1]; exact h3

theorem Two.at_ {A : Option Addr} {n c i : Nat} {x : Int} (h : Two X w p S (.slice A n c) xs wr) (hi : xs[i]? = some x) : ∃ g, A = some ⟨g, 0, none⟩ := by
  obtain ⟨_, A', c', hv, hx⟩ := h
  obtain ⟨g', h1, _, h3⟩ := hx i x hi
  simp only [Value.slice.injEq] at hv
  exact ⟨g', hv.1.trans h1⟩

theorem Two.addr (h : Two X w p S v xs wr) (n : Int) {q : Int} (hq : addrR S.L n = q) :
    Calls Try.prog 20 #[.pointer (some ⟨p, 0, none⟩), .int .i64 n] wr fun e w' => e = .returned (.int .i64 q) ∧ Two X w p S v xs w' := by
  have := has_addr h.1 n
  rw [hq] at this
  exact this.mono fun e w' g => ⟨g.1, g.2.1, h.2.same g.2.2⟩

theorem Two.len (h : Two X w p S v xs wr) (n : Int) {q : Int} (hq : (findR S.L n).2.1 = q) :
    Calls Try.prog 19 #[.pointer (some ⟨p, 0, none⟩), .int .i64 n] wr fun e w' => e = .returned (.int .i64 q) ∧ Two X w p S v xs w' := by
  have := has_len h.1 n
  rw [hq] at this
  exact this.mono fun e w' g => ⟨g.1, g.2.1, h.2.same g.2.2⟩

theorem Two.load (h : Two X w p S v xs wr) (n i : Int) {q : Int} (hq : loadR S n i = (q, 0)) :
    Calls Try.prog 18 #[.pointer (some ⟨p, 0, none⟩), .int .i64 n, .int .i64 i] wr fun e w' => e = .returned (.tuple #[.int .i64 q, .int .i64 0]) ∧ Two X w p S v xs w' := by
  have := has_load h.1 n i
  rw [hq] at this
  exact this.mono fun e w' g => ⟨g.1, g.2.1, h.2.same g.2.2⟩
end Go.Proofs.Ytpaopcnbgdlgnaa
