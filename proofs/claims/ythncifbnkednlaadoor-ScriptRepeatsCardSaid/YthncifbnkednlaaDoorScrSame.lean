/- Points, Same, no: two scenes that read alike. -/
import Derived.Test.YthncifbnkednlaaDoorScrBase
namespace Go.Proofs.YthncifbnkednlaaDoor
open Go.RowKit Go.Shelf
set_option linter.unusedVariables false
set_option linter.unusedSimpArgs false

theorem cell_lt {w : World} {a : Addr} {v : Value} (h : w.cell? a = some v) : a.block < w.heap.size := by
  by_cases hl : a.block < w.heap.size
  · exact hl
  · unfold World.cell? at h
    rw [Array.getElem?_eq_none (by omega)] at h
    cases h

/-- A slice of points, read. -/
def PtsV (W : World) (v : Value) (pts : List (Nat × Nat)) : Prop := ∃ a c, v = .slice a pts.length c ∧ ∀ j x, pts[j]? = some x → ∃ g, a = some ⟨g, 0, none⟩ ∧ W.cell? ⟨g, j * 2, none⟩ = some (.int .i64 x.1) ∧ W.cell? ⟨g, j * 2 + 1, none⟩ = some (.int .i64 x.2)
theorem PtsV.keep {W W' : World} {v : Value} {pts : List (Nat × Nat)} (h : PtsV W v pts) (hb : Below W.heap.size W W') : PtsV W' v pts := by
  obtain ⟨a, c, rfl, hc⟩ := h
  refine ⟨a, c, rfl, fun j x e => ?_⟩
  obtain ⟨g, rfl, h1, h2⟩ := hc j x e
  exact ⟨g, rfl, hb.cell (cell_lt h1) |>.trans h1, hb.cell (cell_lt h2) |>.trans h2⟩

theorem no_any (n : Nat) (w : World) : Calls Tryd.prog 12 #[.int .i64 n] w fun e w' => e = .returned (.int .i64 n) ∧ w' = w := by
  go_enter Tryd.func12, Tryd.ntmps12
  go_wp2_with fail
  go_ret
  exact ⟨rfl, rfl⟩

set_option maxHeartbeats 2000000 in
theorem points_same {W : World} {v v' : Value} {pts : List (Nat × Nat)} (h : PtsV W v pts) (h' : PtsV W v' pts) (hn : pts.length ≤ 100000) : Calls Tryd.prog 16 #[v, v'] W fun e w' => e = .returned (.bool true) ∧ Below W.heap.size W w' := by
  obtain ⟨a, c, rfl, hc⟩ := h
  obtain ⟨a', c', rfl, hc'⟩ := h'
  obtain ⟨N, hN⟩ : ∃ N, N = pts.length := ⟨_, rfl⟩
  rw [← hN]
  have HN := Lib.hid hN
  have HC := Lib.hid hc
  have HC' := Lib.hid hc'
  rw [← hN] at hn
  clear hN hc hc'
  go_enter Tryd.func16, Tryd.ntmps16
  go_wp2_with fail
  go_loopw [5] (fun t5 wr => ∃ k : Nat, k ≤ N ∧ t5 = .int .i64 k ∧ Below W.heap.size W wr) (fun t5 _ => N - (intOf t5).toNat)
  case atStart => exact ⟨0, Nat.zero_le _, rfl, Below.refl _ _⟩
  case round =>
    obtain ⟨k, hk, rfl, hb⟩ := hrel
    have HB := Lib.hid hb
    by_cases hlt : k < N
    · obtain ⟨x, hx⟩ : ∃ x, pts[k]? = some x := ⟨_, List.getElem?_eq_getElem (by rw [← HN.out]; exact hlt)⟩
      obtain ⟨g, rfl, e1, e2⟩ := HC.out k x hx
      obtain ⟨g', rfl, e1', e2'⟩ := HC'.out k x hx
      have f1 := (hb.cell (cell_lt e1)).trans e1
      have f2 := (hb.cell (cell_lt e2)).trans e2
      have f1' := (hb.cell (cell_lt e1')).trans e1'
      have f2' := (hb.cell (cell_lt e2')).trans e2'
      have hki : (k : Int) < N := by omega
      have hk0 : (0 : Int) ≤ k := by omega
      clear hb hx e1 e2 e1' e2'
      go_wp2_with fail
      go_quiet (fail)
      go_wp2_with fail
      go_roundw
      case rel => exact ⟨k + 1, by omega, by go_num, below_drewN HB.out _⟩
      case measure => simp [intOf]; omega
    · obtain rfl : k = N := by omega
      clear hb
      go_wp2_with fail
      go_ret
      exact ⟨rfl, HB.out⟩

/-- A scene in cells. -/
def sceneV (x : Sc) (pv : Value) : Value := .agg #[.int .i64 x.size, .int .i64 x.steps, pv, .string (str x.src)]
set_option maxHeartbeats 2000000 in
theorem same_any {W : World} {x : Sc} {v v' : Value} (h : PtsV W v x.pts) (h' : PtsV W v' x.pts) (hn : x.pts.length ≤ 100000) : Calls Tryd.prog 11 #[sceneV x v, sceneV x v'] W fun e w' => e = .returned (.bool true) ∧ Below W.heap.size W w' := by
  obtain ⟨sz, st, pts, src⟩ := x
  unfold sceneV
  simp only at h h' hn ⊢
  obtain ⟨sb, hsb⟩ : ∃ sb, sb = str src := ⟨_, rfl⟩
  rw [← hsb]
  clear hsb
  have HP : Hid (∀ w, Below W.heap.size W w → Calls Tryd.prog 16 #[v, v'] w fun e w' => e = .returned (.bool true) ∧ Below w.heap.size w w') := Lib.hid (fun w hb => points_same (h.keep hb) (h'.keep hb) hn)
  have HB : Hid (Below W.heap.size W ((W.alloc (.cells #[.int .i64 sz, .int .i64 st, v, .string sb] 25)).alloc (.cells #[.int .i64 sz, .int .i64 st, v', .string sb] 25))) := Lib.hid (((Below.refl _ W).alloc (Nat.le_refl _) _).alloc (by simp) _)
  clear h h'
  go_enter Tryd.func11, Tryd.ntmps11
  go_wp2_with fail
  refine (HP.out _ HB.out).mono ?_
  rintro e w1 ⟨rfl, hb⟩
  have HB2 := Lib.hid (HB.out.trans (hb.mono HB.out.size))
  clear hb
  go_wp2_with fail
  go_ret
  exact ⟨rfl, HB2.out⟩
end Go.Proofs.YthncifbnkednlaaDoor
