/- Slices of points, read; Points and Same over any numbers; vast. -/
import Derived.Test.YthncifbnkednlaaDoorScrDigits
import Derived.Test.YthncifbnkednlaaDoorScrParse
namespace Go.Proofs.YthncifbnkednlaaDoor
open Go.RowKit Go.Shelf
set_option linter.unusedVariables false
set_option linter.unusedSimpArgs false

theorem blk_add (a : Addr) (n : Nat) : (a.add n).block = a.block := by unfold Addr.add; split <;> rfl

/-- A slice of points, read. -/
def PtsZ (W : World) (v : Value) (pts : List Pt) : Prop := ∃ a c, v = .slice a pts.length c ∧ ∀ i x, pts[i]? = some x → ∃ ad, a = some ad ∧ W.cell? (ad.add (i * 2)) = some (.int .i64 x.1) ∧ W.cell? ⟨(ad.add (i * 2)).block, (ad.add (i * 2)).off + 1, none⟩ = some (.int .i64 x.2)
theorem PtsZ.keepB {W W' : World} {v : Value} {pts : List Pt} {B : Nat} (h : PtsZ W v pts) (hv : ∀ k, v.ownBlock = some k → k < B) (hb : Below B W W') : PtsZ W' v pts := by
  obtain ⟨a, c, rfl, hc⟩ := h
  refine ⟨a, c, rfl, fun j x e => ?_⟩
  obtain ⟨ad, rfl, h1, h2⟩ := hc j x e
  have hB : ad.block < B := hv _ rfl
  exact ⟨ad, rfl, (hb.cell (by rw [blk_add]; exact hB)).trans h1, (hb.cell (by show (ad.add (j * 2)).block < B; rw [blk_add]; exact hB)).trans h2⟩
theorem PtsZ.keep {W W' : World} {v : Value} {pts : List Pt} (h : PtsZ W v pts) (hb : Below W.heap.size W W') : PtsZ W' v pts := by
  obtain ⟨a, c, rfl, hc⟩ := h
  refine ⟨a, c, rfl, fun j x e => ?_⟩
  obtain ⟨ad, rfl, h1, h2⟩ := hc j x e
  exact ⟨ad, rfl, hb.cell (cell_lt h1) |>.trans h1, hb.cell (cell_lt h2) |>.trans h2⟩
def castP (x : Nat × Nat) : Pt := (x.1, x.2)
theorem PtsV.z {W : World} {v : Value} {pts : List (Nat × Nat)} (h : PtsV W v pts) : PtsZ W v (pts.map castP) := by
  obtain ⟨a, c, rfl, hc⟩ := h
  refine ⟨a, c, by rw [List.length_map], fun i x e => ?_⟩
  rw [List.getElem?_map] at e
  obtain ⟨y, hy, rfl⟩ := Option.map_eq_some_iff.1 e
  obtain ⟨g, rfl, h1, h2⟩ := hc i y hy
  have e0 : (⟨g, 0, none⟩ : Addr).add (i * 2) = ⟨g, i * 2, none⟩ := by
    unfold Addr.add
    split
    · rename_i h; rw [h]
    · simp
  exact ⟨⟨g, 0, none⟩, rfl, by rw [e0]; exact h1, by rw [e0]; exact h2⟩

set_option maxHeartbeats 2000000 in
theorem points_sameZ {W : World} {v v' : Value} {pts : List Pt} (h : PtsZ W v pts) (h' : PtsZ W v' pts) (hn : pts.length ≤ 100000) : Calls Tryd.prog 16 #[v, v'] W fun e w' => e = .returned (.bool true) ∧ Below W.heap.size W w' := by
  obtain ⟨a, c, rfl, hc⟩ := h
  obtain ⟨a', c', rfl, hc'⟩ := h'
  obtain ⟨N, hN⟩ : ∃ N, N = pts.length := ⟨_, rfl⟩
  rw [← hN]
  have HN := Lib.hid hN
  have HC := Lib.hid hc
  have HC' := Lib.hid hc'
  rw [← hN] at hn
  clear hN hc hc'
  go_enter Tryd.func16, Tryd.ntmps16
  go_wp2_with fail
  go_loopw [5] (fun t5 wr => ∃ k : Nat, k ≤ N ∧ t5 = .int .i64 k ∧ Below W.heap.size W wr) (fun t5 _ => N - (intOf t5).toNat)
  case atStart => exact ⟨0, Nat.zero_le _, rfl, Below.refl _ _⟩
  case round =>
    obtain ⟨k, hk, rfl, hb⟩ := hrel
    have HB := Lib.hid hb
    by_cases hlt : k < N
    · obtain ⟨⟨x1, x2⟩, hx⟩ : ∃ x, pts[k]? = some x := ⟨_, List.getElem?_eq_getElem (by rw [← HN.out]; exact hlt)⟩
      obtain ⟨ad, rfl, e1, e2⟩ := HC.out k _ hx
      obtain ⟨ad', rfl, e1', e2'⟩ := HC'.out k _ hx
      simp only at e1 e2 e1' e2'
      have f1 := (hb.cell (cell_lt e1)).trans e1
      have f2 := (hb.cell (cell_lt e2)).trans e2
      have f1' := (hb.cell (cell_lt e1')).trans e1'
      have f2' := (hb.cell (cell_lt e2')).trans e2'
      have hki : (k : Int) < N := by omega
      have hk0 : (0 : Int) ≤ k := by omega
      clear hb hx e1 e2 e1' e2'
      go_wp2_with fail
      go_quiet (fail)
      go_wp2_with fail
      go_roundw
      case rel => exact ⟨k + 1, by omega, by go_num, below_drewN HB.out _⟩
      case measure => simp [intOf]; omega
    · obtain rfl : k = N := by omega
      clear hb
      go_wp2_with fail
      go_ret
      exact ⟨rfl, HB.out⟩

/-- A scene in cells, any numbers. -/
structure ScZ where
  size : Int
  steps : Int
  pts : List Pt
  src : Bs
def sceneZ (x : ScZ) (pv : Value) : Value := .agg #[.int .i64 x.size, .int .i64 x.steps, pv, .string (str x.src)]
def scZ (x : Sc) : ScZ := ⟨x.size, x.steps, x.pts.map castP, x.src⟩
set_option maxHeartbeats 2000000 in
theorem same_anyZ {W : World} {x : ScZ} {v v' : Value} (h : PtsZ W v x.pts) (h' : PtsZ W v' x.pts) (hn : x.pts.length ≤ 100000) : Calls Tryd.prog 11 #[sceneZ x v, sceneZ x v'] W fun e w' => e = .returned (.bool true) ∧ Below W.heap.size W w' := by
  obtain ⟨sz, st, pts, src⟩ := x
  unfold sceneZ
  simp only at h h' hn ⊢
  obtain ⟨sb, hsb⟩ : ∃ sb, sb = str src := ⟨_, rfl⟩
  rw [← hsb]
  clear hsb
  have HP : Hid (∀ w, Below W.heap.size W w → Calls Tryd.prog 16 #[v, v'] w fun e w' => e = .returned (.bool true) ∧ Below w.heap.size w w') := Lib.hid (fun w hb => points_sameZ (h.keep hb) (h'.keep hb) hn)
  have HB : Hid (Below W.heap.size W ((W.alloc (.cells #[.int .i64 sz, .int .i64 st, v, .string sb] 25)).alloc (.cells #[.int .i64 sz, .int .i64 st, v', .string sb] 25))) := Lib.hid (((Below.refl _ W).alloc (Nat.le_refl _) _).alloc (by simp) _)
  clear h h'
  go_enter Tryd.func11, Tryd.ntmps11
  go_wp2_with fail
  refine (HP.out _ HB.out).mono ?_
  rintro e w1 ⟨rfl, hb⟩
  have HB2 := Lib.hid (HB.out.trans (hb.mono HB.out.size))
  clear hb
  go_wp2_with fail
  go_ret
  exact ⟨rfl, HB2.out⟩

set_option maxHeartbeats 2000000 in
theorem vast_any (sz st : Int) (a : Option Addr) (n c : Nat) (src : ByteArray) (w : World) : Calls Tryd.prog 13 #[.agg #[.int .i64 sz, .int .i64 st, .slice a n c, .string src]] w fun e w' => e = .returned (.bool (decide (5000 < n ∨ 20000 < src.size))) ∧ Below w.heap.size w w' := by
  obtain ⟨r, hr⟩ : ∃ r, decide (5000 < n ∨ 20000 < src.size) = r := ⟨_, rfl⟩
  rw [hr]
  have HB : Hid (Below w.heap.size w (w.alloc (.cells #[.int .i64 sz, .int .i64 st, .slice a n c, .string src] 25))) := Lib.hid (below_alloc _ _)
  by_cases h1 : 5000 < n
  · rw [decide_eq_true (.inl h1)] at hr
    subst hr
    go_enter Tryd.func13, Tryd.ntmps13
    go_wp2_with fail
    go_ret
    exact ⟨rfl, HB.out⟩
  · have HR := Lib.hid hr
    clear hr
    go_enter Tryd.func13, Tryd.ntmps13
    go_wp2_with fail
    go_ret
    refine ⟨?_, HB.out⟩
    show Ending.returned (.bool (decide ((5000 : Int) < n) || decide ((20000 : Int) < src.size))) = .returned (.bool r)
    rw [← HR.out]
    congr 2
    rw [Bool.eq_iff_iff]
    simp
    omega
end Go.Proofs.YthncifbnkednlaaDoor
