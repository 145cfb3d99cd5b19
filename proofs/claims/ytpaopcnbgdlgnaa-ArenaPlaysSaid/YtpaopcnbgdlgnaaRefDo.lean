/- The program's arena and the reference's, side by side: a call of both. -/
import Derived.Test.YtpaopcnbgdlgnaaRefExtend
namespace Go.Proofs.Ytpaopcnbgdlgnaa
open Go.RowKit Go.MapKept
set_option linter.unusedVariables false
set_option linter.unusedSimpArgs false

variable {X XB : Nat → Prop} {w0 w w1 w2 w' : World} {p pa pr N : Nat} {R T : List RBlk} {v v' : Value} {S S1 S2 S' : St}

/-- Both stand for one state. -/
def Both (w0 w : World) (pa pr : Nat) (S : St) : Prop := ∃ X, Has X w0 w pa S ∧ RefS X w pr S ∧ ∀ k, X k → w0.heap.size ≤ k

theorem Both.old (h : Both w0 w pa pr S) : Below w0.heap.size w0 w := by
  obtain ⟨X, h1, _⟩ := h; exact h1.old
theorem Both.below (h : Both w0 w pa pr S) (hb : Below w.heap.size w w') : Both w0 w' pa pr S := by
  obtain ⟨X, h1, h2, h3⟩ := h
  exact ⟨X, (h1.below hb).1, h2.below hb, h3⟩
theorem Both.inv (h : Both w0 w pa pr S) : Inv S := by
  obtain ⟨X, h1, _⟩ := h; exact h1.inv

theorem Has.turnAll (h : Has X w0 w p S) (hk : Keep X w w') (h0 : Below w0.heap.size w0 w') : Has (Grow X w w') w0 w' p S := by
  obtain ⟨A, hp, H, h0', ho, hX⟩ := h
  refine ⟨A, hp, H.keep hk (fun k hk => (ho k hk).2), h0, fun k hk' => ⟨(ho k hk').1, ?_⟩, ?_⟩
  · rintro (h | ⟨h, _⟩)
    · exact (ho k hk').2 h
    · have := H.owns_lt hk'; omega
  · rintro k (h | ⟨_, h⟩)
    · exact Nat.lt_of_lt_of_le (hX k h) hk.size
    · exact h

/-- Behind the program's call, ahead of the reference's. -/
def Mid (X XB : Nat → Prop) (w0 w : World) (pa pr : Nat) (S1 S2 : St) : Prop := Has XB w0 w pa S1 ∧ RefS X w pr S2 ∧ (∀ k, X k → XB k) ∧ ∀ k, XB k → w0.heap.size ≤ k

theorem Mid.arena (h : Mid X XB w0 w pa pr S1 S2) (H : Has XB w0 w' pa S') (s : Same XB w w') : Mid X XB w0 w' pa pr S' S2 :=
  ⟨H, h.2.1.same (fun k hk => s k (h.2.2.1 k hk)), h.2.2.1, h.2.2.2⟩
theorem Mid.below (h : Mid X XB w0 w pa pr S1 S2) (hb : Below w.heap.size w w') : Mid X XB w0 w' pa pr S1 S2 :=
  h.arena (h.1.below hb).1 (h.1.below hb).2
theorem Mid.fin {r : Value} {e : Ending} (h : Mid X XB w0 w pa pr S1 S2) (hp : RefPost X w pr S1 r e w') : Both w0 w' pa pr S1 := by
  obtain ⟨_, h2, h3⟩ := hp
  have hX : ∀ k, X k → w0.heap.size ≤ k := fun k hk => h.2.2.2 k (h.2.2.1 k hk)
  have h0 : Below w0.heap.size w0 w' := h.1.old.trans (h3.below h.1.old.size fun k hk hx => by have := hX k hx; omega)
  refine ⟨_, (h.1.less h.2.2.1).turnAll h3 h0, h2, ?_⟩
  rintro k (hk | ⟨hk, _⟩)
  · exact hX k hk
  · exact Nat.le_trans h.1.old.size hk
theorem Mid.both (h : Mid X XB w0 w pa pr S S) : Both w0 w pa pr S := ⟨X, h.1.less h.2.2.1, h.2.1, fun k hk => h.2.2.2 k (h.2.2.1 k hk)⟩

/-- The box in which a call's numbers lie. -/
def BoxAt (w : World) (b : Nat) (k h n x : Int) : Prop := w.heap[b]? = some (.cells #[.int .i64 k, .int .i64 h, .int .i64 n, .int .i64 x] 32 (0, 0))
theorem BoxAt.cells {b : Nat} {k h n x : Int} (hb : BoxAt w b k h n x) : w.cell? ⟨b, 0, none⟩ = some (.int .i64 k) ∧ w.cell? ⟨b, 1, none⟩ = some (.int .i64 h) ∧ w.cell? ⟨b, 2, none⟩ = some (.int .i64 n) ∧ w.cell? ⟨b, 3, none⟩ = some (.int .i64 x) := by
  unfold BoxAt at hb
  refine ⟨?_, ?_, ?_, ?_⟩ <;> simp [World.cell?, hb]

/-- Both and a box. -/
def Trio (X : Nat → Prop) (b : Nat) (w0 w : World) (pa pr : Nat) (S1 S2 : St) (k h n x : Int) : Prop :=
  Mid X (fun j => X j ∨ j = b) w0 w pa pr S1 S2 ∧ BoxAt w b k h n x ∧ ¬ X b

variable {b : Nat} {k h n x : Int}
theorem Trio.arena (t : Trio X b w0 w pa pr S1 S2 k h n x) (H : Has (fun j => X j ∨ j = b) w0 w' pa S') (s : Same (fun j => X j ∨ j = b) w w') : Trio X b w0 w' pa pr S' S2 k h n x :=
  ⟨t.1.arena H s, (s b (.inr rfl)).trans t.2.1, t.2.2⟩
theorem Trio.drew (t : Trio X b w0 w pa pr S1 S2 k h n x) : Trio X b w0 w.drew pa pr S1 S2 k h n x := t.arena (t.1.1.below (Below.refl _ _).drew).1 (fun _ _ => rfl)
theorem Trio.cells (t : Trio X b w0 w pa pr S1 S2 k h n x) : w.cell? ⟨b, 1, none⟩ = some (.int .i64 h) ∧ w.cell? ⟨b, 2, none⟩ = some (.int .i64 n) ∧ w.cell? ⟨b, 3, none⟩ = some (.int .i64 x) := t.2.1.cells.2

theorem Both.trio (H : Both w0 w pa pr S) (k h n x : Int) : ∃ X, Trio X w.heap.size w0 (w.alloc (.cells #[.int .i64 k, .int .i64 h, .int .i64 n, .int .i64 x] 32)) pa pr S S k h n x := by
  obtain ⟨X, h1, h2, h3⟩ := H
  have hb := below_alloc w (.cells #[.int .i64 k, .int .i64 h, .int .i64 n, .int .i64 x] 32)
  refine ⟨X, ⟨h1.watch _ (Nat.le_refl _) hb (by simp), h2.below hb, fun k hk => .inl hk, ?_⟩, heap_alloc_new w _, fun hx => by have := h1.lt hx; omega⟩
  rintro j (hj | rfl)
  · exact h3 j hj
  · exact h1.old.size

/-- A call that may turn the arena, beside the reference. -/
theorem trio_call {f : Nat} {args : Array Value} {r : Value} (t : Trio X b w0 w pa pr S1 S2 k h n x)
    (c : ∀ {Y : Nat → Prop}, Has Y w0 w pa S1 → Calls Try.prog f args w fun e w' => e = .returned r ∧ Has Y w0 w' pa S' ∧ Same Y w w') :
    Calls Try.prog f args w fun e w' => e = .returned r ∧ Trio X b w0 w' pa pr S' S2 k h n x :=
  (c t.1.1).mono fun e w' g => ⟨g.1, t.arena g.2.1 g.2.2⟩

/-- The reference's call behind it. -/
theorem trio_ref {f : Nat} {args : Array Value} {r : Value} (t : Trio X b w0 w pa pr S1 S2 k h n x)
    (c : RefS X w pr S2 → Calls Try.prog f args w fun e w' => RefPost X w pr S1 r e w') :
    Calls Try.prog f args w fun e w' => e = .returned r ∧ Both w0 w' pa pr S1 ∧ BoxAt w' b k h n x := by
  refine (c t.1.2.1).mono fun e w' g => ⟨g.1, t.1.fin g, ?_⟩
  exact (g.2.2.block b (t.1.1.lt (.inr rfl)) t.2.2).trans t.2.1

def DoPost (w0 : World) (pa pr : Nat) (S : St) (e : Ending) (w' : World) : Prop := e = .returned (.bool true) ∧ Both w0 w' pa pr S

set_option maxRecDepth 100000 in
set_option maxHeartbeats 2000000 in
theorem do_any (H : Both w0 w pa pr S) (k h n x : Int) :
    Calls Try.prog 34 #[.pointer (some ⟨pa, 0, none⟩), .pointer (some ⟨pr, 0, none⟩), .agg #[.int .i64 k, .int .i64 h, .int .i64 n, .int .i64 x]] w fun e w' => DoPost w0 pa pr (playS S ⟨k, h, n, x⟩) e w' := by
  obtain ⟨X, T0⟩ := H.trio k h n x
  obtain ⟨W, hW⟩ : ∃ W, W = w.alloc (.cells #[.int .i64 k, .int .i64 h, .int .i64 n, .int .i64 x] 32) := ⟨_, rfl⟩
  have HT := Lib.hid (hW ▸ T0 : Trio X w.heap.size w0 W pa pr S S k h n x)
  have HW := Lib.hid hW
  clear T0 H hW
  by_cases h2 : k = 2
  · subst h2
    have HS := Lib.hid (show playS S ⟨2, h, n, x⟩ = freeS S h from rfl)
    go_enter Try.func34, Try.ntmps34
    go_upto_region 7 with fail
    obtain ⟨bx, hbx⟩ : ∃ bx, bx = w.heap.size := ⟨_, rfl⟩
    rw [← HW.out, ← hbx]
    rw [← hbx] at HT
    clear hbx
    go_region_held3 (fun w' => w'.cell? ⟨bx, 1, none⟩ = some (.int .i64 h) ∧ w'.cell? ⟨bx, 2, none⟩ = some (.int .i64 n) ∧ w'.cell? ⟨bx, 3, none⟩ = some (.int .i64 x))
      (first | assumption | exact HT.out.drew.cells)
      ((first
        | (go_at_call 27; refine (trio_call HT.out.drew (fun H => has_free H h)).mono ?_; rintro e wa ⟨rfl, tA⟩; have s1 := tA.cells)
        | (go_at_call 15; refine (no_any _ _).mono ?_; rintro e wn ⟨rfl, rfl⟩)
        | (go_at_call 45; refine (trio_ref tA (fun J => ref_free J h)).mono ?_; rintro e wz ⟨rfl, tB, bB⟩; have s1 := bB.cells.2)))
    all_goals (
      have HP := Lib.hid (show DoPost w0 pa pr (playS S ⟨2, h, n, x⟩) (.returned (.bool true)) wz from ⟨rfl, by rw [HS.out]; exact tB⟩)
      clear tA tB bB s1
      go_wp2_with fail
      go_ret
      exact HP.out)
  by_cases h3 : k = 3
  · subst h3
    have HS := Lib.hid (show playS S ⟨3, h, n, x⟩ = resizeS S h n from rfl)
    go_enter Try.func34, Try.ntmps34
    go_upto_region 9 with fail
    obtain ⟨bx, hbx⟩ : ∃ bx, bx = w.heap.size := ⟨_, rfl⟩
    rw [← HW.out, ← hbx]
    rw [← hbx] at HT
    clear hbx
    go_region_held3 (fun w' => w'.cell? ⟨bx, 1, none⟩ = some (.int .i64 h) ∧ w'.cell? ⟨bx, 2, none⟩ = some (.int .i64 n) ∧ w'.cell? ⟨bx, 3, none⟩ = some (.int .i64 x))
      (first | assumption | exact HT.out.drew.cells)
      ((first
        | (go_at_call 21; refine (trio_call HT.out.drew (fun H => has_resize H h n)).mono ?_; rintro e wa ⟨rfl, tA⟩; have s1 := tA.cells)
        | (go_at_call 15; refine (no_any _ _).mono ?_; rintro e wn ⟨rfl, rfl⟩)
        | (go_at_call 46; refine (trio_ref tA (fun J => ref_resize J h n)).mono ?_; rintro e wz ⟨rfl, tB, bB⟩; have s1 := bB.cells.2)))
    all_goals (
      have HP := Lib.hid (show DoPost w0 pa pr (playS S ⟨3, h, n, x⟩) (.returned (.bool true)) wz from ⟨rfl, by rw [HS.out]; exact tB⟩)
      clear tA tB bB s1
      go_wp2_with fail
      go_ret
      exact HP.out)
  by_cases h4 : k = 4
  · subst h4
    have HS := Lib.hid (show playS S ⟨4, h, n, x⟩ = storeS S h n x from rfl)
    go_enter Try.func34, Try.ntmps34
    go_upto_region 11 with fail
    obtain ⟨bx, hbx⟩ : ∃ bx, bx = w.heap.size := ⟨_, rfl⟩
    rw [← HW.out, ← hbx]
    rw [← hbx] at HT
    clear hbx
    go_region_held3 (fun w' => w'.cell? ⟨bx, 1, none⟩ = some (.int .i64 h) ∧ w'.cell? ⟨bx, 2, none⟩ = some (.int .i64 n) ∧ w'.cell? ⟨bx, 3, none⟩ = some (.int .i64 x))
      (first | assumption | exact HT.out.drew.cells)
      ((first
        | (go_at_call 16; refine (trio_call HT.out.drew (fun H => has_store H h n x)).mono ?_; rintro e wa ⟨rfl, tA⟩; have s1 := tA.cells)
        | (go_at_call 15; refine (no_any _ _).mono ?_; rintro e wn ⟨rfl, rfl⟩)
        | (go_at_call 47; refine (trio_ref tA (fun J => ref_store J h n x)).mono ?_; rintro e wz ⟨rfl, tB, bB⟩; have s1 := bB.cells.2)))
    all_goals (
      have HP := Lib.hid (show DoPost w0 pa pr (playS S ⟨4, h, n, x⟩) (.returned (.bool true)) wz from ⟨rfl, by rw [HS.out]; exact tB⟩)
      clear tA tB bB s1
      go_wp2_with fail
      go_ret
      exact HP.out)
  by_cases h7 : k = 7
  · subst h7
    have HS := Lib.hid (show playS S ⟨7, h, n, x⟩ = extendS S h n from rfl)
    go_enter Try.func34, Try.ntmps34
    go_upto_region 19 with fail
    obtain ⟨bx, hbx⟩ : ∃ bx, bx = w.heap.size := ⟨_, rfl⟩
    rw [← HW.out, ← hbx]
    rw [← hbx] at HT
    clear hbx
    go_region_held3 (fun w' => w'.cell? ⟨bx, 1, none⟩ = some (.int .i64 h) ∧ w'.cell? ⟨bx, 2, none⟩ = some (.int .i64 n) ∧ w'.cell? ⟨bx, 3, none⟩ = some (.int .i64 x))
      (first | assumption | exact HT.out.drew.cells)
      ((first
        | (go_at_call 30; refine (trio_call HT.out.drew (fun H => has_extend H h n)).mono ?_; rintro e wa ⟨rfl, tA⟩; have s1 := tA.cells)
        | (go_at_call 15; refine (no_any _ _).mono ?_; rintro e wn ⟨rfl, rfl⟩)
        | (go_at_call 50; refine (trio_ref tA (fun J => ref_extend J h n)).mono ?_; rintro e wz ⟨rfl, tB, bB⟩; have s1 := bB.cells.2)))
    all_goals (
      have HP := Lib.hid (show DoPost w0 pa pr (playS S ⟨7, h, n, x⟩) (.returned (.bool true)) wz from ⟨rfl, by rw [HS.out]; exact tB⟩)
      clear tA tB bB s1
      go_wp2_with fail
      go_ret
      exact HP.out)
  by_cases h1 : k = 1
  · subst h1
    have HS := Lib.hid (show playS S ⟨1, h, n, x⟩ = allocS S n from rfl)
    go_enter Try.func34, Try.ntmps34
    have hcc := HT.out.cells
    rw [HW.out] at hcc
    go_wp2_with fail
    rw [← HW.out]
    refine (trio_call HT.out (fun H => has_alloc H n)).mono ?_
    clear hcc
    rintro e wa ⟨rfl, tA⟩
    obtain ⟨d1, d2, d3⟩ := tA.cells
    go_wp2_with fail
    refine (trio_ref tA (fun J => ref_alloc J n)).mono ?_
    clear d1 d2 d3
    rintro e wz ⟨rfl, tB, bB⟩
    have HP := Lib.hid (show DoPost w0 pa pr (playS S ⟨1, h, n, x⟩) (.returned (.bool true)) wz from ⟨rfl, by rw [HS.out]; exact tB⟩)
    clear tA tB bB
    go_wp2_with fail
    refine (no_any _ _).mono ?_
    rintro e wn ⟨rfl, rfl⟩
    go_wp2_with fail
    go_ret
    exact HP.out
  by_cases h6 : k = 6
  · subst h6
    have HS := Lib.hid (show playS S ⟨6, h, n, x⟩ = compactS S from rfl)
    go_enter Try.func34, Try.ntmps34
    have hcc := HT.out.cells
    rw [HW.out] at hcc
    go_wp2_with fail
    rw [← HW.out]
    refine (trio_call HT.out (fun H => has_compact H)).mono ?_
    clear hcc
    rintro e wa ⟨rfl, tA⟩
    obtain ⟨d1, d2, d3⟩ := tA.cells
    go_wp2_with fail
    refine (trio_ref tA (fun J => ref_compact J)).mono ?_
    clear d1 d2 d3
    rintro e wz ⟨rfl, tB, bB⟩
    have HP := Lib.hid (show DoPost w0 pa pr (playS S ⟨6, h, n, x⟩) (.returned (.bool true)) wz from ⟨rfl, by rw [HS.out]; exact tB⟩)
    clear tA tB bB
    go_wp2_with fail
    go_ret
    exact HP.out
  by_cases h5 : k = 5
  · subst h5
    have HS := Lib.hid (show playS S ⟨5, h, n, x⟩ = S from rfl)
    go_enter Try.func34, Try.ntmps34
    have hcc := HT.out.cells
    rw [HW.out] at hcc
    go_wp2_with fail
    rw [← HW.out]
    refine (trio_call HT.out (fun H => has_load H h n)).mono ?_
    clear hcc
    rintro e wa ⟨rfl, tA⟩
    obtain ⟨d1, d2, d3⟩ := tA.cells
    go_wp2_with fail
    refine (ref_load tA.1.2.1 h n).mono ?_
    rintro e wz ⟨rfl, rfl⟩
    have HP := Lib.hid (show DoPost w0 pa pr (playS S ⟨5, h, n, x⟩) (.returned (.bool true)) wz from ⟨rfl, by rw [HS.out]; exact tA.1.both⟩)
    clear tA d1 d2 d3
    go_wp2_with fail
    refine (no_any _ _).mono ?_
    rintro e wn ⟨rfl, rfl⟩
    go_wp2_with fail
    go_ret
    exact HP.out
  have HP := Lib.hid (show DoPost w0 pa pr (playS S ⟨k, h, n, x⟩) (.returned (.bool true)) (w.alloc (.cells #[.int .i64 k, .int .i64 h, .int .i64 n, .int .i64 x] 32)) from ⟨rfl, by
    unfold playS
    simp only
    rw [if_neg h1, if_neg h2, if_neg h3, if_neg h4, if_neg h6, if_neg h7, ← HW.out]
    exact HT.out.1.both⟩)
  go_enter Try.func34, Try.ntmps34
  go_wp2_with fail
  go_ret
  exact HP.out
end Go.Proofs.Ytpaopcnbgdlgnaa
