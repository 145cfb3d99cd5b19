/- Is it an object? The region of 28 operations, taken one by one. -/
import Derived.Test.YtminbemdcanakaaGreatQColRight
import Derived.Deep.RegionWith
import Derived.Deep.RegionLaw
namespace Go.Proofs.YtminbemdcanakaaGreat
open Go.RowKit
set_option linter.unusedVariables false
set_option linter.unusedSimpArgs false

theorem made_two (n : Nat) : madeCells #[Value.int .i64 0, Value.int .i64 0] (n * 2) = (flatV (List.replicate n nilV)).toArray := by
  apply Array.toList_inj.1
  apply List.ext_getElem
  · simp [madeCells, flatV_len]
  · intro i h1 h2
    have e1 : (madeCells #[Value.int .i64 0, Value.int .i64 0] (n * 2)).toList[i] = .int .i64 0 := by
      simp only [madeCells, Array.toList_map, List.getElem_map]
      rcases Nat.mod_two_eq_zero_or_one i with h | h <;> simp [h]
    have hm : ∀ u ∈ flatV (List.replicate n nilV), u = .int .i64 0 := by
      intro u hu
      obtain ⟨b, hb, hub⟩ := List.mem_flatMap.1 hu
      obtain rfl := (List.mem_replicate.1 hb).2
      simp [nilV] at hub
      exact hub
    rw [e1]
    exact (hm _ (List.getElem_mem _)).symm
theorem run_make2 (n : Nat) (hn : n ≤ 1000000) (w : World) :
    (Instr.makeSlice 23 (.int .i64 (n : Int)) (.int .i64 (n : Int))).run Tryz.prog w = .ok (.slice (some ⟨w.heap.size, 0, none⟩) n n) (w.alloc (.cells (flatV (List.replicate n nilV)).toArray 34)) := by
  obtain ⟨i, hi, hzz⟩ := Option.map_eq_some_iff.1 infC2
  simp only [Prod.mk.injEq] at hzz
  obtain ⟨hz, hs, hb⟩ := hzz
  have hr := run_make (P := Tryz.prog) w 23 34 i _ Tryz.underlying23 hi hz .i64 .i64 n n (by omega) (Int.le_refl _) (by rw [hb]; omega) (by omega)
  simp only [Int.toNat_natCast, hs] at hr
  rw [hr, ← made_two]; rfl
def rightT (o : Ob) : Bool := decide (o.kind ≠ 4 ∨ o.slots = []) && okOb o && decide (¬ (0 < o.array ∧ (o.slots.length : Int) ≤ o.array))
variable {w : World}
abbrev rightW (w : World) (o : Ob) (sa : Option Addr) (n sc : Nat) : World := (((w.alloc (.cells #[.int .i64 o.kind, .int .i64 o.weak, .int .i64 o.array, .slice sa n sc, .int .i64 o.fin] 36)).alloc (.cells (flatV (List.replicate n nilV)).toArray 34)).alloc (.cells #[.int .i64 o.kind, .int .i64 o.weak, .int .i64 o.array, .slice (some ⟨w.heap.size + 1, 0, none⟩) n n, .int .i64 o.fin] 36)).drew
def emptied (o : Ob) (n : Nat) : Ob := { o with slots := List.replicate n nilV }
theorem right_graph (w : World) (o : Ob) (sa : Option Addr) (n sc : Nat) : GrAt (rightW w o sa n sc) (.slice (some ⟨w.heap.size + 1 + 1, 0, none⟩) 1 1) (.slice none 0 0) [(emptied o n, .slice (some ⟨w.heap.size + 1, 0, none⟩) n n)] [] := by
  have b1 := Box.new (w.alloc (.cells #[.int .i64 o.kind, .int .i64 o.weak, .int .i64 o.array, .slice sa n sc, .int .i64 o.fin] 36)) (flatV (List.replicate n nilV)) 34
  rw [show (w.alloc (.cells #[.int .i64 o.kind, .int .i64 o.weak, .int .i64 o.array, .slice sa n sc, .int .i64 o.fin] 36)).heap.size = w.heap.size + 1 by simp] at b1
  have b2 := Box.new ((w.alloc (.cells #[.int .i64 o.kind, .int .i64 o.weak, .int .i64 o.array, .slice sa n sc, .int .i64 o.fin] 36)).alloc (.cells (flatV (List.replicate n nilV)).toArray 34)) [.int .i64 o.kind, .int .i64 o.weak, .int .i64 o.array, .slice (some ⟨w.heap.size + 1, 0, none⟩) n n, .int .i64 o.fin] 36
  rw [show ((w.alloc (.cells #[.int .i64 o.kind, .int .i64 o.weak, .int .i64 o.array, .slice sa n sc, .int .i64 o.fin] 36)).alloc (.cells (flatV (List.replicate n nilV)).toArray 34)).heap.size = w.heap.size + 1 + 1 by simp] at b2
  refine ⟨.inr ⟨_, _, rfl, fun j u hu => ?_⟩, ?_, .inl ⟨rfl, rfl, rfl⟩⟩
  · rw [addr_add, Nat.zero_add]
    exact (b2.cell j).trans hu
  · intro o2 sv h
    rw [List.mem_singleton] at h
    cases h
    refine .inr ⟨⟨w.heap.size + 1, 0, none⟩, n, by show _ = Value.slice _ (List.replicate n nilV).length n; rw [List.length_replicate], fun j u hu => ?_⟩
    rw [addr_add, Nat.zero_add]
    exact ((b1.alloc _).cell j).trans hu
theorem all_nil (l : List Ob) (n : Nat) : allG l (List.replicate n nilV) = true := by
  unfold allG
  rw [List.all_eq_true]
  intro x hx
  obtain rfl := (List.mem_replicate.1 hx).2
  exact decide_eq_true (by simp [nilV])
theorem right_one (o : Ob) (n : Nat) : rightG [emptied o n] [] = (okOb o && decide (¬ (0 < o.array ∧ (n : Int) ≤ o.array))) := by
  have e : okOb2 [emptied o n] [] (emptied o n) = decide (¬ (0 < o.array ∧ (n : Int) ≤ o.array)) := by
    unfold okOb2
    show (_ && allG _ (List.replicate n nilV)) = _
    rw [all_nil, Bool.and_true]
    show decide (¬ (0 < o.array ∧ ((List.replicate n nilV).length : Int) ≤ o.array) ∧ ¬ (0 < o.fin ∧ o.fin ∈ ([] : List Int))) = _
    rw [List.length_replicate]
    simp
  show ((okOb o && okOb2 [emptied o n] [] (emptied o n) && true) && true) = _
  rw [e, Bool.and_true, Bool.and_true]
def RightS (w : World) (o : Ob) (sa : Option Addr) (n sc : Nat) (w' : World) : Prop := w'.cell? ⟨w.heap.size, 0, none⟩ = some (.int .i64 o.kind) ∧ w'.cell? ⟨w.heap.size, 1, none⟩ = some (.int .i64 o.weak) ∧ w'.cell? ⟨w.heap.size, 2, none⟩ = some (.int .i64 o.array) ∧ w'.cell? ⟨w.heap.size, 3, none⟩ = some (.slice sa n sc) ∧ w'.cell? ⟨w.heap.size, 4, none⟩ = some (.int .i64 o.fin)
theorem rightS_kept (w : World) (o : Ob) (sa : Option Addr) (n sc : Nat) {w5 : World} (h : Below (rightW w o sa n sc).heap.size (rightW w o sa n sc) w5) : RightS w o sa n sc w5 := by
  have b := ((((Box.new w [.int .i64 o.kind, .int .i64 o.weak, .int .i64 o.array, .slice sa n sc, .int .i64 o.fin] 36).alloc (.cells (flatV (List.replicate n nilV)).toArray 34)).alloc (.cells #[.int .i64 o.kind, .int .i64 o.weak, .int .i64 o.array, .slice (some ⟨w.heap.size + 1, 0, none⟩) n n, .int .i64 o.fin] 36)).drew).below h (by simp; omega)
  exact ⟨b.cell 0, b.cell 1, b.cell 2, b.cell 3, b.cell 4⟩
theorem rightW_below (w : World) (o : Ob) (sa : Option Addr) (n sc : Nat) : Below w.heap.size w (rightW w o sa n sc) := below_drewN ((((Below.refl _ w).alloc (Nat.le_refl _) _).alloc (by simp) _).alloc (by simp; omega) _) 1
theorem RightS.alloc {w W : World} {o : Ob} {sa : Option Addr} {n sc : Nat} (h : RightS w o sa n sc W) (ob : Obj) : RightS w o sa n sc (W.alloc ob) := by
  obtain ⟨a, b, c, d, e⟩ := h
  exact ⟨Lib.cell?_alloc_some _ a, Lib.cell?_alloc_some _ b, Lib.cell?_alloc_some _ c, Lib.cell?_alloc_some _ d, Lib.cell?_alloc_some _ e⟩
set_option maxRecDepth 100000 in
set_option maxHeartbeats 8000000 in
theorem isRight_test {o : Ob} {sa : Option Addr} {sc n : Nat} (hs : n ≤ 100000) (e1 : (o.kind != 4) = true) :
    Calls Tryz.prog 74 #[.agg #[.int .i64 o.kind, .int .i64 o.weak, .int .i64 o.array, .slice sa n sc, .int .i64 o.fin]] w fun e w' => AllP w (rightG [emptied o n] []) e w' := by
  have hmk := run_make2 n (by omega)
  have hS0 : RightS w o sa n sc (w.alloc (.cells #[.int .i64 o.kind, .int .i64 o.weak, .int .i64 o.array, .slice sa n sc, .int .i64 o.fin] 36)).drew := by
    have b := (Box.new w [.int .i64 o.kind, .int .i64 o.weak, .int .i64 o.array, .slice sa n sc, .int .i64 o.fin] 36).drew
    exact ⟨b.cell 0, b.cell 1, b.cell 2, b.cell 3, b.cell 4⟩
  have HRG := Lib.hid (right_any (right_graph w o sa n sc) (by simp) (by intro o2 sv h; rw [List.mem_singleton] at h; cases h; show (List.replicate n nilV).length ≤ _; rw [List.length_replicate]; exact hs) (by decide))
  have HRK := Lib.hid (fun (w5 : World) h => rightS_kept w o sa n sc (w5 := w5) h)
  have HRB := Lib.hid (rightW_below w o sa n sc)
  go_enter Tryz.func74, Tryz.ntmps74
  go_wp2_with fail
  refine wp_region_noPanic ?_
  refine wp_region_held_drew (S := RightS w o sa n sc) (by kernel_rfl) ?_ (fun hHeld => ?_)
  · exact hS0
  refine wpAnyH_take (i := 0) (oi := ?oi0) (v := ?vv0) ?hi0 (by kernel_rfl) (by kernel_rfl) (by kernel_rfl) ?hQ0 ?hy0 (by assumption) ?rest0
  case hi0 => (simp only [List.getElem?_toArray, List.getElem?_cons_succ, List.getElem?_cons_zero]; rfl)
  case hQ0 => exact fun _ _ _ h => h
  case hy0 => (refine Or.inl ⟨by rfl, ?_⟩; intro w hSw; unfold RightS at hSw; obtain ⟨k0, k1, k2, k3, k4⟩ := hSw; go_simp; try with_reducible rfl)
  try simp only [Act.put, List.setIfInBounds_toArray, List.set_cons_zero, List.set_cons_succ]
  refine wpAnyH_take (i := 1) (oi := ?oi1) (v := ?vv1) ?hi1 (by kernel_rfl) (by kernel_rfl) (by kernel_rfl) ?hQ1 ?hy1 (by assumption) ?rest1
  case hi1 => (simp only [List.getElem?_toArray, List.getElem?_cons_succ, List.getElem?_cons_zero]; rfl)
  case hQ1 => exact fun _ _ _ h => h
  case hy1 => (refine Or.inl ⟨by rfl, ?_⟩; intro w hSw; unfold RightS at hSw; obtain ⟨k0, k1, k2, k3, k4⟩ := hSw; go_simp; try with_reducible rfl)
  try simp only [Act.put, List.setIfInBounds_toArray, List.set_cons_zero, List.set_cons_succ]
  refine wpAnyH_take (i := 2) (oi := ?oi2) (v := ?vv2) ?hi2 (by kernel_rfl) (by kernel_rfl) (by kernel_rfl) ?hQ2 ?hy2 (by assumption) ?rest2
  case hi2 => (simp only [List.getElem?_toArray, List.getElem?_cons_succ, List.getElem?_cons_zero]; rfl)
  case hQ2 => exact fun _ _ _ h => h
  case hy2 => (refine Or.inl ⟨by rfl, ?_⟩; intro w hSw; unfold RightS at hSw; obtain ⟨k0, k1, k2, k3, k4⟩ := hSw; go_simp; try with_reducible rfl)
  try simp only [Act.put, List.setIfInBounds_toArray, List.set_cons_zero, List.set_cons_succ]
  refine wpAnyH_take (i := 3) (oi := ?oi3) (v := ?vv3) ?hi3 (by kernel_rfl) (by kernel_rfl) (by kernel_rfl) ?hQ3 ?hy3 (by assumption) ?rest3
  case hi3 => (simp only [List.getElem?_toArray, List.getElem?_cons_succ, List.getElem?_cons_zero]; rfl)
  case hQ3 => exact fun _ _ _ h => h
  case hy3 => (refine Or.inl ⟨by rfl, ?_⟩; intro w hSw; unfold RightS at hSw; obtain ⟨k0, k1, k2, k3, k4⟩ := hSw; go_simp; try with_reducible rfl)
  try simp only [Act.put, List.setIfInBounds_toArray, List.set_cons_zero, List.set_cons_succ]
  refine wpAnyH_take (i := 4) (oi := ?oi4) (v := undef) ?hi4 (by kernel_rfl) (by kernel_rfl) (by kernel_rfl) ?hQ4 ?hy4 (by assumption) ?rest4
  case hi4 => (simp only [List.getElem?_toArray, List.getElem?_cons_succ, List.getElem?_cons_zero]; rfl)
  case hQ4 => exact fun _ _ _ h => h
  case hy4 => exact Or.inr ⟨by rfl, rfl⟩
  try simp only [Act.put, List.setIfInBounds_toArray, List.set_cons_zero, List.set_cons_succ]
  refine wpAnyH_take (i := 5) (oi := ?oi5) (v := undef) ?hi5 (by kernel_rfl) (by kernel_rfl) (by kernel_rfl) ?hQ5 ?hy5 (by assumption) ?rest5
  case hi5 => (simp only [List.getElem?_toArray, List.getElem?_cons_succ, List.getElem?_cons_zero]; rfl)
  case hQ5 => exact fun _ _ _ h => h
  case hy5 => exact Or.inr ⟨by rfl, rfl⟩
  try simp only [Act.put, List.setIfInBounds_toArray, List.set_cons_zero, List.set_cons_succ]
  refine wpAnyH_take (i := 6) (oi := ?oi6) (v := undef) ?hi6 (by kernel_rfl) (by kernel_rfl) (by kernel_rfl) ?hQ6 ?hy6 (by assumption) ?rest6
  case hi6 => (simp only [List.getElem?_toArray, List.getElem?_cons_succ, List.getElem?_cons_zero]; rfl)
  case hQ6 => exact fun _ _ _ h => h
  case hy6 => exact Or.inr ⟨by rfl, rfl⟩
  try simp only [Act.put, List.setIfInBounds_toArray, List.set_cons_zero, List.set_cons_succ]
  refine wpAnyH_take (i := 7) (oi := ?oi7) (v := undef) ?hi7 (by kernel_rfl) (by kernel_rfl) (by kernel_rfl) ?hQ7 ?hy7 (by assumption) ?rest7
  case hi7 => (simp only [List.getElem?_toArray, List.getElem?_cons_succ, List.getElem?_cons_zero]; rfl)
  case hQ7 => exact fun _ _ _ h => h
  case hy7 => exact Or.inr ⟨by rfl, rfl⟩
  try simp only [Act.put, List.setIfInBounds_toArray, List.set_cons_zero, List.set_cons_succ]
  refine wpAnyH_take (i := 8) (oi := ?oi8) (v := ?vv8) ?hi8 (by kernel_rfl) (by kernel_rfl) (by kernel_rfl) ?hQ8 ?hy8 (by assumption) ?rest8
  case hi8 => (simp only [List.getElem?_toArray, List.getElem?_cons_succ, List.getElem?_cons_zero]; rfl)
  case hQ8 => exact fun _ _ _ h => h
  case hy8 => (refine Or.inl ⟨by rfl, ?_⟩; intro w hSw; unfold RightS at hSw; obtain ⟨k0, k1, k2, k3, k4⟩ := hSw; go_simp; try with_reducible rfl)
  try simp only [Act.put, List.setIfInBounds_toArray, List.set_cons_zero, List.set_cons_succ]
  refine wpAnyH_take (i := 9) (oi := ?oi9) (v := ?vv9) ?hi9 (by kernel_rfl) (by kernel_rfl) (by kernel_rfl) ?hQ9 ?hy9 (by assumption) ?rest9
  case hi9 => (simp only [List.getElem?_toArray, List.getElem?_cons_succ, List.getElem?_cons_zero]; rfl)
  case hQ9 => exact fun _ _ _ h => h
  case hy9 => (refine Or.inl ⟨by rfl, ?_⟩; intro w hSw; unfold RightS at hSw; obtain ⟨k0, k1, k2, k3, k4⟩ := hSw; go_simp; try with_reducible rfl)
  try simp only [Act.put, List.setIfInBounds_toArray, List.set_cons_zero, List.set_cons_succ]
  refine wpAnyH_take (i := 10) (oi := ?oi10) (v := ?vv10) ?hi10 (by kernel_rfl) (by kernel_rfl) (by kernel_rfl) ?hQ10 ?hy10 (by assumption) ?rest10
  case hi10 => (simp only [List.getElem?_toArray, List.getElem?_cons_succ, List.getElem?_cons_zero]; rfl)
  case hQ10 => exact fun _ _ _ h => h
  case hy10 => (refine Or.inl ⟨by rfl, ?_⟩; intro w hSw; unfold RightS at hSw; obtain ⟨k0, k1, k2, k3, k4⟩ := hSw; go_simp; try with_reducible rfl)
  try simp only [Act.put, List.setIfInBounds_toArray, List.set_cons_zero, List.set_cons_succ]
  refine wpAnyH_take (i := 11) (oi := ?oi11) (v := ?vv11) ?hi11 (by kernel_rfl) (by kernel_rfl) (by kernel_rfl) ?hQ11 ?hy11 (by assumption) ?rest11
  case hi11 => (simp only [List.getElem?_toArray, List.getElem?_cons_succ, List.getElem?_cons_zero]; rfl)
  case hQ11 => exact fun _ _ _ h => h
  case hy11 => (refine Or.inl ⟨by rfl, ?_⟩; intro w hSw; unfold RightS at hSw; obtain ⟨k0, k1, k2, k3, k4⟩ := hSw; go_simp; try with_reducible rfl)
  try simp only [Act.put, List.setIfInBounds_toArray, List.set_cons_zero, List.set_cons_succ]
  refine wpAnyH_take (i := 12) (oi := ?oi12) (v := ?vv12) ?hi12 (by kernel_rfl) (by kernel_rfl) (by kernel_rfl) ?hQ12 ?hy12 (by assumption) ?rest12
  case hi12 => (simp only [List.getElem?_toArray, List.getElem?_cons_succ, List.getElem?_cons_zero]; rfl)
  case hQ12 => exact fun _ _ _ h => h
  case hy12 => (refine Or.inl ⟨by rfl, ?_⟩; intro w hSw; unfold RightS at hSw; obtain ⟨k0, k1, k2, k3, k4⟩ := hSw; go_simp; try with_reducible rfl)
  try simp only [Act.put, List.setIfInBounds_toArray, List.set_cons_zero, List.set_cons_succ]
  refine wpAnyH_take (i := 13) (oi := ?oi13) (v := ?vv13) ?hi13 (by kernel_rfl) (by kernel_rfl) (by kernel_rfl) ?hQ13 ?hy13 (by assumption) ?rest13
  case hi13 => (simp only [List.getElem?_toArray, List.getElem?_cons_succ, List.getElem?_cons_zero]; rfl)
  case hQ13 => exact fun _ _ _ h => h
  case hy13 => (refine Or.inl ⟨by rfl, ?_⟩; intro w hSw; unfold RightS at hSw; obtain ⟨k0, k1, k2, k3, k4⟩ := hSw; go_simp; try with_reducible rfl)
  try simp only [Act.put, List.setIfInBounds_toArray, List.set_cons_zero, List.set_cons_succ]
  refine wpAnyH_take (i := 14) (oi := ?oi14) (v := ?vv14) ?hi14 (by kernel_rfl) (by kernel_rfl) (by kernel_rfl) ?hQ14 ?hy14 (by assumption) ?rest14
  case hi14 => (simp only [List.getElem?_toArray, List.getElem?_cons_succ, List.getElem?_cons_zero]; rfl)
  case hQ14 => exact fun _ _ _ h => h
  case hy14 => (refine Or.inl ⟨by rfl, ?_⟩; intro w hSw; unfold RightS at hSw; obtain ⟨k0, k1, k2, k3, k4⟩ := hSw; go_simp; try with_reducible rfl)
  try simp only [Act.put, List.setIfInBounds_toArray, List.set_cons_zero, List.set_cons_succ]
  refine wpAnyH_take (i := 15) (oi := ?oi15) (v := ?vv15) ?hi15 (by kernel_rfl) (by kernel_rfl) (by kernel_rfl) ?hQ15 ?hy15 (by assumption) ?rest15
  case hi15 => (simp only [List.getElem?_toArray, List.getElem?_cons_succ, List.getElem?_cons_zero]; rfl)
  case hQ15 => exact fun _ _ _ h => h
  case hy15 => (refine Or.inl ⟨by rfl, ?_⟩; intro w hSw; unfold RightS at hSw; obtain ⟨k0, k1, k2, k3, k4⟩ := hSw; go_simp; try with_reducible rfl)
  try simp only [Act.put, List.setIfInBounds_toArray, List.set_cons_zero, List.set_cons_succ]
  refine wpAnyH_take (i := 16) (oi := ?oi16) (v := ?vv16) ?hi16 (by kernel_rfl) (by kernel_rfl) (by kernel_rfl) ?hQ16 ?hy16 (by assumption) ?rest16
  case hi16 => (simp only [List.getElem?_toArray, List.getElem?_cons_succ, List.getElem?_cons_zero]; rfl)
  case hQ16 => exact fun _ _ _ h => h
  case hy16 => (refine Or.inl ⟨by rfl, ?_⟩; intro w hSw; unfold RightS at hSw; obtain ⟨k0, k1, k2, k3, k4⟩ := hSw; go_simp; try with_reducible rfl)
  try simp only [Act.put, List.setIfInBounds_toArray, List.set_cons_zero, List.set_cons_succ]
  refine wpAnyH_take (i := 17) (oi := ?oi17) (v := ?vv17) ?hi17 (by kernel_rfl) (by kernel_rfl) (by kernel_rfl) ?hQ17 ?hy17 (by assumption) ?rest17
  case hi17 => (simp only [List.getElem?_toArray, List.getElem?_cons_succ, List.getElem?_cons_zero]; rfl)
  case hQ17 => exact fun _ _ _ h => h
  case hy17 => (refine Or.inl ⟨by rfl, ?_⟩; intro w hSw; unfold RightS at hSw; obtain ⟨k0, k1, k2, k3, k4⟩ := hSw; go_simp; try with_reducible rfl)
  try simp only [Act.put, List.setIfInBounds_toArray, List.set_cons_zero, List.set_cons_succ]
  refine wpAnyH_take (i := 18) (oi := ?oi18) (v := ?vv18) ?hi18 (by kernel_rfl) (by kernel_rfl) (by kernel_rfl) ?hQ18 ?hy18 (by assumption) ?rest18
  case hi18 => (simp only [List.getElem?_toArray, List.getElem?_cons_succ, List.getElem?_cons_zero]; rfl)
  case hQ18 => exact fun _ _ _ h => h
  case hy18 => (refine Or.inl ⟨by rfl, ?_⟩; intro w hSw; unfold RightS at hSw; obtain ⟨k0, k1, k2, k3, k4⟩ := hSw; go_simp; try with_reducible rfl)
  try simp only [Act.put, List.setIfInBounds_toArray, List.set_cons_zero, List.set_cons_succ]
  refine wpAnyH_take (i := 20) (oi := ?oi20) (v := ?vv20) ?hi20 (by kernel_rfl) (by kernel_rfl) (by kernel_rfl) ?hQ20 ?hy20 (by assumption) ?rest20
  case hi20 => (simp only [List.getElem?_toArray, List.getElem?_cons_succ, List.getElem?_cons_zero]; rfl)
  case hQ20 => exact fun _ _ _ h => h
  case hy20 => (refine Or.inl ⟨by rfl, ?_⟩; intro w hSw; unfold RightS at hSw; obtain ⟨k0, k1, k2, k3, k4⟩ := hSw; go_simp; try with_reducible rfl)
  try simp only [Act.put, List.setIfInBounds_toArray, List.set_cons_zero, List.set_cons_succ]
  refine wpAnyH_take (i := 21) (oi := ?oi21) (v := ?vv21) ?hi21 (by kernel_rfl) (by kernel_rfl) (by kernel_rfl) ?hQ21 ?hy21 (by assumption) ?rest21
  case hi21 => (simp only [List.getElem?_toArray, List.getElem?_cons_succ, List.getElem?_cons_zero]; rfl)
  case hQ21 => exact fun _ _ _ h => h
  case hy21 => (refine Or.inl ⟨by rfl, ?_⟩; intro w hSw; unfold RightS at hSw; obtain ⟨k0, k1, k2, k3, k4⟩ := hSw; go_simp; try with_reducible rfl)
  try simp only [Act.put, List.setIfInBounds_toArray, List.set_cons_zero, List.set_cons_succ]
  refine wpAnyH_ready (rs := [19]) (by kernel_rfl) (by simp) ?_
  refine AllReadyH.cons (o := ?o19) ?ho19 (fun K hK => ?st19) AllReadyH.nil
  case ho19 => (simp only [List.getElem?_toArray, List.getElem?_cons_succ, List.getElem?_cons_zero]; rfl)
  go_simp
  refine hK.out _ _ (hHeld.alloc _) (fun hHeld => ?_)
  clear hK K
  try simp only [Act.put, List.setIfInBounds_toArray, List.set_cons_zero, List.set_cons_succ]
  refine wpAnyH_take (i := 22) (oi := ?oi22) (v := ?vv22) ?hi22 (by kernel_rfl) (by kernel_rfl) (by kernel_rfl) ?hQ22 ?hy22 (by assumption) ?rest22
  case hi22 => (simp only [List.getElem?_toArray, List.getElem?_cons_succ, List.getElem?_cons_zero]; rfl)
  case hQ22 => exact fun _ _ _ h => h
  case hy22 => (refine Or.inl ⟨by rfl, ?_⟩; intro w hSw; go_simp; try with_reducible rfl)
  try simp only [Act.put, List.setIfInBounds_toArray, List.set_cons_zero, List.set_cons_succ]
  refine wpAnyH_ready (rs := [23]) (by kernel_rfl) (by simp) ?_
  refine AllReadyH.cons (o := ?o23) ?ho23 (fun K hK => ?st23) AllReadyH.nil
  case ho23 => (simp only [List.getElem?_toArray, List.getElem?_cons_succ, List.getElem?_cons_zero]; rfl)
  go_simp
  refine hK.out _ _ (hHeld.alloc _) (fun hHeld => ?_)
  clear hK K
  try simp only [Act.put, List.setIfInBounds_toArray, List.set_cons_zero, List.set_cons_succ]
  refine wpAnyH_take (i := 24) (oi := ?oi24) (v := ?vv24) ?hi24 (by kernel_rfl) (by kernel_rfl) (by kernel_rfl) ?hQ24 ?hy24 (by assumption) ?rest24
  case hi24 => (simp only [List.getElem?_toArray, List.getElem?_cons_succ, List.getElem?_cons_zero]; rfl)
  case hQ24 => exact fun _ _ _ h => h
  case hy24 => (refine Or.inl ⟨by rfl, ?_⟩; intro w hSw; go_simp; try with_reducible rfl)
  try simp only [Act.put, List.setIfInBounds_toArray, List.set_cons_zero, List.set_cons_succ]
  refine wpAnyH_ready (rs := [25]) (by kernel_rfl) (by simp) ?_
  refine AllReadyH.cons (o := ?o25) ?ho25 (fun K hK => ?st25) AllReadyH.nil
  case ho25 => (simp only [List.getElem?_toArray, List.getElem?_cons_succ, List.getElem?_cons_zero]; rfl)
  go_simp
  refine HRG.out.mono ?_
  rintro e w5 ⟨rfl, hb5⟩
  have k5 := HRK.out w5 hb5
  have HB5 := Lib.hid (HRB.out.trans (hb5.mono HRB.out.size))
  clear hb5 hHeld
  go_simp
  refine hK.out _ _ k5 (fun hHeld => ?_)
  clear hK K
  try simp only [Act.put, List.setIfInBounds_toArray, List.set_cons_zero, List.set_cons_succ]
  refine wpAnyH_take (i := 26) (oi := ?oi26) (v := ?vv26) ?hi26 (by kernel_rfl) (by kernel_rfl) (by kernel_rfl) ?hQ26 ?hy26 (by assumption) ?rest26
  case hi26 => (simp only [List.getElem?_toArray, List.getElem?_cons_succ, List.getElem?_cons_zero]; rfl)
  case hQ26 => exact fun _ _ _ h => h
  case hy26 => (refine Or.inl ⟨by rfl, ?_⟩; intro w hSw; go_simp; try with_reducible rfl)
  try simp only [Act.put, List.setIfInBounds_toArray, List.set_cons_zero, List.set_cons_succ]
  refine wpAnyH_take (i := 27) (oi := ?oi27) (v := ?vv27) ?hi27 (by kernel_rfl) (by kernel_rfl) (by kernel_rfl) ?hQ27 ?hy27 (by assumption) ?rest27
  case hi27 => (simp only [List.getElem?_toArray, List.getElem?_cons_succ, List.getElem?_cons_zero]; rfl)
  case hQ27 => exact fun _ _ _ h => h
  case hy27 => (refine Or.inl ⟨by rfl, ?_⟩; intro w hSw; go_simp; try with_reducible rfl)
  try simp only [Act.put, List.setIfInBounds_toArray, List.set_cons_zero, List.set_cons_succ]
  refine wpAnyH_done (by kernel_rfl) ?_ _
  refine NoPanic.normal ?_
  go_wp2_with fail
  go_ret
  exact ⟨rfl, HB5.out⟩
end Go.Proofs.YtminbemdcanakaaGreat
/- Is it an object? -/
namespace Go.Proofs.YtminbemdcanakaaGreat
open Go.RowKit
set_option linter.unusedVariables false
set_option linter.unusedSimpArgs false

variable {w : World}
set_option maxRecDepth 100000 in
set_option maxHeartbeats 2000000 in
theorem isRight_any {o : Ob} {sa : Option Addr} {sc n : Nat} (hn : n = o.slots.length) (hs : n ≤ 100000) :
    Calls Tryz.prog 74 #[.agg #[.int .i64 o.kind, .int .i64 o.weak, .int .i64 o.array, .slice sa n sc, .int .i64 o.fin]] w fun e w' => AllP w (rightT o) e w' := by
  have hmk := run_make2 n (by omega)
  have HNN := Lib.hid hn
  have hbx := Box.new w [.int .i64 o.kind, .int .i64 o.weak, .int .i64 o.array, .slice sa n sc, .int .i64 o.fin] 36
  have hba := below_alloc w (.cells #[.int .i64 o.kind, .int .i64 o.weak, .int .i64 o.array, .slice sa n sc, .int .i64 o.fin] 36)
  have HB := Lib.hid hba
  have HBX := Lib.hid hbx
  clear hbx hba
  by_cases h1 : o.kind = 4
  · have e1 : (o.kind != 4) = false := by rw [h1]; rfl
    by_cases h2 : n = 0
    · have e2 : ((n : Int) == 0) = true := by rw [h2]; rfl
      have HRT := Lib.hid (show rightT o = rightG [emptied o n] [] by rw [right_one, hn]; unfold rightT; rw [decide_eq_true (Or.inr (List.eq_nil_of_length_eq_zero (by omega)) : o.kind ≠ 4 ∨ o.slots = []), Bool.true_and])
      clear hn h1 h2
      have HRG := Lib.hid (right_any (right_graph w o sa n sc) (by simp) (by intro o2 sv h; rw [List.mem_singleton] at h; cases h; show (List.replicate n nilV).length ≤ _; rw [List.length_replicate]; exact hs) (by decide))
      have HRK := Lib.hid (fun (w5 : World) h => rightS_kept w o sa n sc (w5 := w5) h)
      have HRB := Lib.hid (rightW_below w o sa n sc)
      go_enter Tryz.func74, Tryz.ntmps74
      go_wp2_with fail
      (go_region_held3 (fun w' => w'.cell? ⟨w.heap.size, 0, none⟩ = some (.int .i64 o.kind) ∧ w'.cell? ⟨w.heap.size, 1, none⟩ = some (.int .i64 o.weak) ∧ w'.cell? ⟨w.heap.size, 2, none⟩ = some (.int .i64 o.array) ∧ w'.cell? ⟨w.heap.size, 3, none⟩ = some (.slice sa n sc) ∧ w'.cell? ⟨w.heap.size, 4, none⟩ = some (.int .i64 o.fin))
        (first | assumption | refine ⟨?_, ?_, ?_, ?_, ?_⟩ <;> (first | go_keep | (simp [*, World.cell?_alloc_some, World.cell?_setCell_far])))
        ((go_at_call 71; refine HRG.out.mono ?_; rintro e w5 ⟨rfl, hb5⟩; have k5 := HRK.out w5 hb5; have HB5 := Lib.hid (HRB.out.trans (hb5.mono HRB.out.size)); clear hb5; unfold RightS at k5)))
      all_goals go_wp2_with fail
      all_goals (
        go_ret
        exact ⟨by rw [HRT.out]; rfl, HB5.out⟩)
    · have e2 : ((n : Int) == 0) = false := by simp; omega
      have HR := Lib.hid (show rightT o = false by unfold rightT; rw [decide_eq_false (by rintro (h | h); exact h h1; exact h2 (by rw [hn, h]; rfl))]; rfl)
      clear h1 h2 hn
      go_enter Tryz.func74, Tryz.ntmps74
      go_wp2_with fail
      go_quiet (fail)
      go_wp2_with fail
      go_ret
      exact ⟨by rw [HR.out]; rfl, HB.out.trans (below_drewN (Below.refl _ _) _)⟩
  · have e1 : (o.kind != 4) = true := by simp [h1]
    have HRT := Lib.hid (show rightT o = rightG [emptied o n] [] by rw [right_one, hn]; unfold rightT; rw [decide_eq_true (Or.inl h1 : o.kind ≠ 4 ∨ o.slots = []), Bool.true_and])
    rw [HRT.out]
    exact isRight_test hs e1
end Go.Proofs.YtminbemdcanakaaGreat
/- One more object. -/
namespace Go.Proofs.YtminbemdcanakaaGreat
open Go.RowKit
set_option linter.unusedVariables false
set_option linter.unusedSimpArgs false

/-- The objects lie where they lay, or in new blocks. -/
def MTo (w : World) (L : ML) (w' : World) (M' : Mm) : Prop := ∃ L' : ML, L'.p = L.p ∧ MemAt w' L' M' ∧ Keep L.own w w' ∧ ∀ k, L'.own k → L.own k ∨ w.heap.size ≤ k
theorem MTo.same {w w' : World} {L : ML} {M : Mm} (h : MemAt w' L M) (k : Keep L.own w w') : MTo w L w' M := ⟨L, rfl, h, k, fun _ h => .inl h⟩
def newOb (o : Ob) : Ob := { o with col := 0, age := 0 }
def Mm.added (M : Mm) (o : Ob) : Mm := if rightT o = true then M.add (newOb o) else M
def addH (M : Mm) (o : Ob) : Int := if rightT o = true then (M.obs.length : Int) + 1 else 0

theorem zip_snoc {α β γ : Type} (f : α → β → γ) (a : List α) (b : List β) (x : α) (y : β) (h : a.length = b.length) : List.zipWith f (a ++ [x]) (b ++ [y]) = List.zipWith f a b ++ [f x y] := by
  rw [List.zipWith_append h]; rfl
theorem MemAt.added {W W7 : World} {L : ML} {M : Mm} (h : MemAt W L M) {B : Nat} {u v' : Value} {o : Ob} (hu : W.ownsRow B 34 2 u o.slots.length (flatV o.slots)) (hB : ∀ k, L.own k → k < B)
    (hv : W7.ownsRow 0 112 1 v' (M.obs.length + 1) (L.ptrs M.obs ++ [.pointer (some ⟨W.heap.size, 0, none⟩)]))
    (hg : ((W.alloc (.cells (obL o u).toArray 114)).alloc (.cells #[.pointer (some ⟨W.heap.size, 0, none⟩)] 112)).grownBy W7 L.all.ownBlock)
    (hb : v'.ownBlock = L.all.ownBlock ∨ v'.ownBlock = some (W.heap.size + 2)) (hBW : B ≤ W.heap.size) :
    MemAt (W7.setCell ⟨L.p, 0, none⟩ v') { L with all := v', cs := L.cs ++ [(W.heap.size, u)] } (M.add o) ∧ Keep L.own W (W7.setCell ⟨L.p, 0, none⟩ v') ∧
      ∀ k, ({ L with all := v', cs := L.cs ++ [(W.heap.size, u)] } : ML).own k → L.own k ∨ B ≤ k := by
  have hall : ∀ k, L.all.ownBlock = some k → k < W.heap.size := fun k hk => h.own_lt (.inr (.inl hk))
  have hsz : W.heap.size + 2 ≤ W7.heap.size := by have := hg.size; simpa using this
  have hold : ∀ k, k < W.heap.size → L.all.ownBlock ≠ some k → W7.heap[k]? = W.heap[k]? := by
    intro k hk hn
    rw [hg.block k (by simp; omega) (fun e => hn e.symm), Below.heap_alloc _ _ _ (by simp; omega), Below.heap_alloc _ _ _ hk]
  have hnew : Box W7 W.heap.size (obL o u) 114 := by
    have b := (Box.new W (obL o u) 114).alloc (.cells #[.pointer (some ⟨W.heap.size, 0, none⟩)] 112)
    exact b.of_block (hg.block _ b.lt (fun e => by have := hall _ e.symm; omega))
  have hp7 : Box W7 L.p [L.all, L.roots, .bool true] 109 := h.box.of_block (hold _ h.box.lt (fun e => h.box.ne_row h.row (by decide) e rfl))
  have hset : ∀ k, k ≠ L.p → (W7.setCell ⟨L.p, 0, none⟩ v').heap[k]? = W7.heap[k]? := fun k hk => Below.heap_setCell _ _ _ _ hk
  have hsz8 : (W7.setCell ⟨L.p, 0, none⟩ v').heap.size = W7.heap.size := by simp [World.setCell]
  have hk8 : Keep L.own W (W7.setCell ⟨L.p, 0, none⟩ v') := by
    refine ⟨hg.os, hg.tape, hg.output, by rw [hsz8]; omega, fun k hk hn => ?_⟩
    rw [hset k (fun e => hn (.inl e)), hold k hk (fun e => hn (.inr (.inl e)))]
  have hobs : ∀ (j b' : Nat) (sv' : Value) (o2 : Ob), L.cs[j]? = some (b', sv') → M.obs[j]? = some (some o2) → ObAt (W7.setCell ⟨L.p, 0, none⟩ v') b' sv' o2 := by
    intro j b' sv' o2 hj ho2
    have h2 := h.ob j b' sv' o2 hj ho2
    refine ⟨h2.box.of_block ?_, ownsRow_of_block h2.row fun k hk => ?_⟩
    · rw [hset _ (h2.box.ne_box h.box (by decide)), hold _ h2.box.lt (fun e => h2.box.ne_row h.row (by decide) e rfl)]
    · rw [hset _ (fun e => h.box.ne_row h2.row (by decide) hk e), hold _ (h2.row.lt k hk).2 (fun e => row_ne_row h.row h2.row (by decide) e hk)]
  refine ⟨⟨hp7.set 0 v', ?_, ?_, ?_, ?_, ?_, ?_, ?_⟩, hk8, ?_⟩
  · show World.ownsRow _ _ _ _ v' (M.obs ++ [some o]).length (List.zipWith ptrV (L.cs ++ [(W.heap.size, u)]) (M.obs ++ [some o]))
    rw [zip_snoc _ _ _ _ _ h.len, List.length_append, List.length_singleton]
    exact ownsRow_setCell_other hv (fun e => hp7.ne_row hv (by decide) e rfl) v'
  · refine ownsRow_of_block h.roots fun k hk => ?_
    rw [hset _ (fun e => h.box.ne_row h.roots (by decide) hk e), hold _ (h.roots.lt k hk).2 (fun e => row_ne_row h.row h.roots (by decide) e hk)]
  · show (L.cs ++ [(W.heap.size, u)]).length = (M.obs ++ [some o]).length
    rw [List.length_append, List.length_append, h.len]; rfl
  · intro j b' sv' o2 hj ho2
    have hj' : (L.cs ++ [(W.heap.size, u)])[j]? = some (b', sv') := hj
    have ho2' : (M.obs ++ [some o])[j]? = some (some o2) := ho2
    by_cases hlt : j < M.obs.length
    · rw [List.getElem?_append_left (by rw [h.len]; exact hlt)] at hj'
      rw [List.getElem?_append_left hlt] at ho2'
      exact hobs j b' sv' o2 hj' ho2'
    · rw [List.getElem?_append_right (by rw [h.len]; omega)] at hj'
      rw [List.getElem?_append_right (by omega)] at ho2'
      have e0 : j - M.obs.length = 0 := by
        have := (List.getElem?_eq_some_iff.1 ho2').1
        simp at this; omega
      rw [h.len, e0] at hj'
      rw [e0] at ho2'
      simp only [List.getElem?_cons_zero, Option.some.injEq, Prod.mk.injEq] at hj' ho2'
      obtain ⟨rfl, rfl⟩ := hj'
      subst ho2'
      refine ⟨hnew.of_block (hset _ (hnew.ne_box hp7 (by decide))), ownsRow_of_block (row_of_base hu fun _ _ => Nat.zero_le _) fun k hk => ?_⟩
      have hkW := (hu.lt k hk).2
      rw [hset _ (fun e => h.box.ne_row hu (by decide) hk e), hold _ hkW (fun e => row_ne_row h.row hu (by decide) e hk)]
  · intro j b' sv' hj
    have hj' : (L.cs ++ [(W.heap.size, u)])[j]? = some (b', sv') := hj
    rw [hsz8]
    by_cases hlt : j < L.cs.length
    · rw [List.getElem?_append_left hlt] at hj'
      obtain ⟨a, b⟩ := h.lt j b' sv' hj'
      exact ⟨by omega, fun k hk => by have := b k hk; omega⟩
    · rw [List.getElem?_append_right (by omega)] at hj'
      have e0 : j - L.cs.length = 0 := by have := (List.getElem?_eq_some_iff.1 hj').1; simp at this; omega
      rw [e0] at hj'
      simp only [List.getElem?_cons_zero, Option.some.injEq, Prod.mk.injEq] at hj'
      obtain ⟨rfl, rfl⟩ := hj'
      exact ⟨by omega, fun k hk => by have := (hu.lt k hk).2; omega⟩
  · intro i j b b' sv sv' hi hj hij
    have hi' : (L.cs ++ [(W.heap.size, u)])[i]? = some (b, sv) := hi
    have hj' : (L.cs ++ [(W.heap.size, u)])[j]? = some (b', sv') := hj
    have old : ∀ (i b : Nat) (sv : Value), L.cs[i]? = some (b, sv) → b ≠ W.heap.size ∧ ∀ k, sv.ownBlock = some k → u.ownBlock ≠ some k := by
      intro i b sv hi
      refine ⟨fun e => by have := (h.lt i b sv hi).1; omega, fun k hk e => ?_⟩
      have h1 := hB k (.inr (.inr (.inr ⟨i, b, sv, hi, .inr hk⟩)))
      have h2 := (hu.lt k e).1
      omega
    by_cases h1 : i < L.cs.length
    · rw [List.getElem?_append_left h1] at hi'
      by_cases h2 : j < L.cs.length
      · rw [List.getElem?_append_left h2] at hj'
        exact h.inj i j b b' sv sv' hi' hj' hij
      · rw [List.getElem?_append_right (by omega)] at hj'
        have e0 : j - L.cs.length = 0 := by have := (List.getElem?_eq_some_iff.1 hj').1; simp at this; omega
        rw [e0] at hj'
        simp only [List.getElem?_cons_zero, Option.some.injEq, Prod.mk.injEq] at hj'
        obtain ⟨rfl, rfl⟩ := hj'
        exact old i b sv hi'
    · rw [List.getElem?_append_right (by omega)] at hi'
      have e0 : i - L.cs.length = 0 := by have := (List.getElem?_eq_some_iff.1 hi').1; simp at this; omega
      rw [e0] at hi'
      simp only [List.getElem?_cons_zero, Option.some.injEq, Prod.mk.injEq] at hi'
      obtain ⟨rfl, rfl⟩ := hi'
      by_cases h2 : j < L.cs.length
      · rw [List.getElem?_append_left h2] at hj'
        obtain ⟨a, b⟩ := old j b' sv' hj'
        exact ⟨fun e => a e.symm, fun k hk e => b k e hk⟩
      · rw [List.getElem?_append_right (by omega)] at hj'
        have e1 : j - L.cs.length = 0 := by have := (List.getElem?_eq_some_iff.1 hj').1; simp at this; omega
        omega
  · intro i b sv hi k hk e
    have hi' : (L.cs ++ [(W.heap.size, u)])[i]? = some (b, sv) := hi
    by_cases h1 : i < L.cs.length
    · rw [List.getElem?_append_left h1] at hi'
      exact h.sep i b sv hi' k hk e
    · rw [List.getElem?_append_right (by omega)] at hi'
      have e0 : i - L.cs.length = 0 := by have := (List.getElem?_eq_some_iff.1 hi').1; simp at this; omega
      rw [e0] at hi'
      simp only [List.getElem?_cons_zero, Option.some.injEq, Prod.mk.injEq] at hi'
      obtain ⟨rfl, rfl⟩ := hi'
      have h1 := hB k (.inr (.inr (.inl hk)))
      have h2 := (hu.lt k e).1
      omega
  · rintro k (e | e | e | ⟨i, b, sv, hi, e⟩)
    · exact .inl (.inl e)
    · have e' : v'.ownBlock = some k := e
      rcases hb with e1 | e1
      · exact .inl (.inr (.inl (e1 ▸ e')))
      · rw [e1] at e'
        cases e'
        exact .inr (by omega)
    · exact .inl (.inr (.inr (.inl e)))
    · have hi' : (L.cs ++ [(W.heap.size, u)])[i]? = some (b, sv) := hi
      by_cases h1 : i < L.cs.length
      · rw [List.getElem?_append_left h1] at hi'
        exact .inl (.inr (.inr (.inr ⟨i, b, sv, hi', e⟩)))
      · rw [List.getElem?_append_right (by omega)] at hi'
        have e0 : i - L.cs.length = 0 := by have := (List.getElem?_eq_some_iff.1 hi').1; simp at this; omega
        rw [e0] at hi'
        simp only [List.getElem?_cons_zero, Option.some.injEq, Prod.mk.injEq] at hi'
        obtain ⟨rfl, rfl⟩ := hi'
        rcases e with rfl | e
        · exact .inr hBW
        · exact .inr (hu.lt k e).1
variable {w : World} {L : ML} {M : Mm}
def AddP (w : World) (L : ML) (M : Mm) (o : Ob) (e : Ending) (w' : World) : Prop := e = .returned (.int .i64 (addH M o)) ∧ MTo w L w' (M.added o)
theorem MemAt.drew' (h : MemAt w L M) : MemAt w.drew L M := h.below (below_drewN (Below.refl _ _) 1)
theorem infP : (Tryz.prog.info? 112).map (fun i => (i.zero, i.size, i.bytes)) = some (some (.pointer none), 1, 8) := by kernel_rfl
set_option maxRecDepth 100000 in
set_option maxHeartbeats 4000000 in
theorem add_any (h : MemAt w L M) (hs : M.obs.length ≤ 100000) {o : Ob} {sv : Value} (hv : RdV w sv o.slots) (hn : o.slots.length ≤ 100000) :
    Calls Tryz.prog 19 #[.pointer (some ⟨L.p, 0, none⟩), thingV o sv] w fun e w' => AddP w L M o e w' := by
  obtain ⟨i0, hi0, hz0, hz1, hz2⟩ := info_parts infP
  obtain ⟨sa, sc, rfl⟩ := rd_slice hv
  obtain ⟨N, hN⟩ : ∃ N, N = o.slots.length := ⟨_, rfl⟩
  have hb0 := below_alloc w (.cells #[.int .i64 o.kind, .int .i64 o.weak, .int .i64 o.array, .slice sa o.slots.length sc, .int .i64 o.fin] 36)
  have hbx := Box.new w [.int .i64 o.kind, .int .i64 o.weak, .int .i64 o.array, .slice sa o.slots.length sc, .int .i64 o.fin] 36
  have H1 := h.below hb0
  obtain ⟨-, -, d2⟩ := H1.cells
  have HR := Lib.hid (isRight_any (w := w.alloc (.cells #[.int .i64 o.kind, .int .i64 o.weak, .int .i64 o.array, .slice sa o.slots.length sc, .int .i64 o.fin] 36)) (o := o) (sa := sa) (sc := sc) (n := o.slots.length) rfl hn)
  rw [← hN] at HR hb0 hbx d2 ⊢
  have HH := Lib.hid h
  have HV := Lib.hid hv
  have HB0 := Lib.hid hb0
  have HBX := Lib.hid hbx
  have HNN := Lib.hid hN
  have HS := Lib.hid hs
  have HN := Lib.hid hn
  clear h hv hb0 hbx H1 hN
  unfold thingV
  go_enter Tryz.func19, Tryz.ntmps19
  go_wp2_with fail
  refine HR.out.mono ?_
  rintro e w2 ⟨rfl, hb2⟩
  have hk2 : Keep L.own w w2 := (Keep.of_below HB0.out).trans (Keep.of_below hb2)
  have HK2 := Lib.hid hk2
  have HB2 := Lib.hid hb2
  have H2 := (HH.out.below HB0.out).below hb2
  cases hr : rightT o with
  | false =>
    have HP : AddP w L M o (.returned (.int .i64 0)) w2 := ⟨by unfold addH; rw [hr]; rfl, by unfold Mm.added; rw [hr]; exact MTo.same H2 hk2⟩
    have HPP := Lib.hid HP
    clear HP H2 hk2 hb2 hr
    go_wp2_with fail
    go_ret
    exact HPP.out
  | true =>
    have hx2 := HBX.out.below hb2 (by simp)
    have x3 := hx2.cell 3
    simp only [List.getElem?_cons_zero, List.getElem?_cons_succ] at x3
    have f3 := hx2.free 3
    have hv2 : RdV w2 (.slice sa o.slots.length sc) o.slots := by have := Rd.below (Rd.below HV.out HB0.out) hb2; exact this
    have HC := Lib.hid (cloneV_any hv2 HN.out (flatV_len _) (flatV_one _))
    have HX2 := Lib.hid hx2
    have HH2 := Lib.hid H2
    have HRT := Lib.hid hr
    have hw2 : w.heap.size + 1 ≤ w2.heap.size := by have := hb2.size; simpa using this
    rw [← HNN.out] at HC
    clear hx2 hv2 H2 hk2 hb2 hr
    go_wp2_with fail
    refine HC.out.mono ?_
    rintro e w3 ⟨u, rfl, hu, hb3⟩
    obtain ⟨ua, uc, rfl⟩ := row_slice hu
    have hx3 := HX2.out.below hb3 (by omega)
    have g3 := hx3.free 3
    have z3 := hx3.cell 3
    simp only [List.getElem?_cons_zero, List.getElem?_cons_succ] at z3
    have HX3 := Lib.hid hx3
    have HU := Lib.hid hu
    have HB3 := Lib.hid hb3
    clear hx3 hu hb3 x3 f3
    go_wp2_with fail
    obtain ⟨W4, hW4⟩ : ∃ W, W = w3.setCell ⟨w.heap.size, 3, none⟩ (.slice ua N uc) := ⟨_, rfl⟩
    rw [← hW4]
    have hbw : Below w.heap.size w W4 := by
      have h1 := HB3.out.size
      have h2 : Below w.heap.size w w2 := HB0.out.trans (HB2.out.mono (by simp))
      rw [hW4]; exact (h2.trans (HB3.out.mono (by omega))).setCell (Nat.le_refl _) _
    have hx4 : Box W4 w.heap.size [.int .i64 o.kind, .int .i64 o.weak, .int .i64 o.array, .slice ua N uc, .int .i64 o.fin] 36 := by rw [hW4]; exact HX3.out.set 3 _
    have HW := HH.out.below hbw
    obtain ⟨c0, -, -⟩ := HW.cells
    obtain ⟨la, lc, hla⟩ := row_slice HW.row
    have hrow := HW.row
    rw [hla] at c0 hrow
    have f0 : W4.frozen? ⟨L.p, 0, none⟩ = false := HW.box.free 0
    have y0 := hx4.cell 0
    have y1 := hx4.cell 1
    have y2 := hx4.cell 2
    have y3 := hx4.cell 3
    have y4 := hx4.cell 4
    simp only [List.getElem?_cons_zero, List.getElem?_cons_succ] at y0 y1 y2 y3 y4
    have hu4 : W4.drew.ownsRow w2.heap.size 34 2 (.slice ua N uc) (newOb o).slots.length (flatV (newOb o).slots) := by
      have : (w3.setCell ⟨w.heap.size, 3, none⟩ (.slice ua N uc)).ownsRow w2.heap.size 34 2 (.slice ua N uc) N (flatV o.slots) := ownsRow_setCell_other HU.out (fun e => HX3.out.ne_row HU.out (by decide) e rfl) _
      rw [← hW4, HNN.out] at this
      rw [HNN.out]; exact this
    have HU4 := Lib.hid hu4
    have hub : ∀ k, (Value.slice ua N uc).ownBlock = some k → w.heap.size ≤ k := fun k hk => by have := (HU.out.lt k hk).1; omega
    have HUB := Lib.hid hub
    clear hu4 hub
    have HW4 := Lib.hid hW4
    have HBW := Lib.hid hbw
    have HHW := Lib.hid HW
    have HLA := Lib.hid hla
    have HROW := Lib.hid hrow
    obtain ⟨N2, hN2⟩ : ∃ n, n = M.obs.length := ⟨_, rfl⟩
    rw [← hN2] at HROW c0 hs
    have HN2 := Lib.hid hN2
    have hall : ∀ k, (Value.slice la N2 lc).ownBlock = some k → k < W4.heap.size ∧ k ≠ L.p := by
      intro k hk
      exact ⟨(HROW.out.lt k hk).2, fun e => HW.box.ne_row hrow (by decide) (by rw [← hN2]; exact hk) e⟩
    have hpl := HW.box.lt
    have HALL := Lib.hid hall
    have hnew : ∀ (j : Nat) (x : Value), [Value.pointer (some ⟨W4.heap.size, 0, none⟩)][j]? = some x → (((W4.drew.alloc (.cells (obL (newOb o) (.slice ua N uc)).toArray 114)).alloc (.cells #[.pointer (some ⟨W4.heap.size, 0, none⟩)] 112)).cell? ((⟨W4.heap.size + 1, 0, none⟩ : Addr).add j) = some x) := by
      have := cell_new1 (W4.drew.alloc (.cells (obL (newOb o) (.slice ua N uc)).toArray 114)) (.pointer (some ⟨W4.heap.size, 0, none⟩)) 112
      rw [show (W4.drew.alloc (.cells (obL (newOb o) (.slice ua N uc)).toArray 114)).heap.size = W4.heap.size + 1 by simp] at this
      exact this
    have HNEW := Lib.hid hnew
    clear z3 g3 hW4 hbw HW hla hrow hN2 hall hx4 hnew
    go_region_law ((refine step_append_row rfl (.tmp 27) (.tmp 31) 107 rfl 112 i0 (.pointer none) 1 8 Tryz.underlying107 hi0 hz0 hz1 hz2 rfl Nat.one_pos (.slice la N2 lc) N2 (L.ptrs M.obs) rfl ((HROW.out.drew.alloc _).alloc _) ⟨W4.heap.size + 1, 0, none⟩ 1 1 [.pointer (some ⟨W4.heap.size, 0, none⟩)] rfl rfl HNEW.out (by intro x hx; simp at hx; subst hx; rfl) (by unfold maxLen; omega) (by omega) ?_; intro v7 w7 hown7 hg7 hb7; obtain ⟨va7, vc7, rfl⟩ := row_slice hown7; have k7 : w7.cell? ⟨L.p, 0, none⟩ = some (.slice la N2 lc) := (World.cell?_of_block (w := W4) ((hg7.block L.p (by simp; omega) (fun e => (HALL.out L.p e.symm).2 rfl)).trans ((Below.heap_alloc _ _ _ (by simp; omega)).trans (Below.heap_alloc _ _ _ hpl)))).trans c0; have e7 : w7.frozen? ⟨L.p, 0, none⟩ = false := (World.frozen?_of_block (w := W4) ((hg7.block L.p (by simp; omega) (fun e => (HALL.out L.p e.symm).2 rfl)).trans ((Below.heap_alloc _ _ _ (by simp; omega)).trans (Below.heap_alloc _ _ _ hpl)))).trans f0))
    all_goals (
      have hrow7 : w7.ownsRow 0 112 1 (.slice va7 (M.obs.length + 1) vc7) (M.obs.length + 1) (L.ptrs M.obs ++ [.pointer (some ⟨W4.heap.size, 0, none⟩)]) := by rw [← HN2.out]; exact hown7
      have HADD := HHW.out.drew'.added (o := newOb o) (B := w.heap.size) (row_of_base (HU4.out) fun k hk => HUB.out k hk) (fun k hk => HH.out.own_lt hk) hrow7 (by rw [HLA.out, ← HN2.out]; exact hg7) (by rw [HLA.out, ← HN2.out]; exact hb7.imp id (fun e => e.trans (by simp))) (HBW.out.size)
      have HADD2 := Lib.hid HADD
      clear HADD hown7 hg7 hb7 hrow7
      go_wp2_with fail
      go_ret
      obtain ⟨q1, q2, q3⟩ := HADD2.out
      refine ⟨?_, ?_⟩
      · unfold addH
        rw [HRT.out, if_pos rfl, ← HN2.out]
        exact ret_int rfl
      · unfold Mm.added
        rw [HRT.out, if_pos rfl, HN2.out]
        exact ⟨{ L with all := .slice va7 (M.obs.length + 1) vc7, cs := L.cs ++ [(W4.drew.heap.size, .slice ua N uc)] }, rfl, q1, (Keep.of_below HBW.out).trans ((Keep.of_below (below_drewN (Below.refl _ _) 1)).trans q2), q3⟩)
end Go.Proofs.YtminbemdcanakaaGreat
/- Objects of a graph are made. -/
namespace Go.Proofs.YtminbemdcanakaaGreat
open Go.RowKit
set_option linter.unusedVariables false
set_option linter.unusedSimpArgs false

variable {w : World}
def memM (l : List Ob) (roots : List V) : Mm := ⟨l.map fun o => some (newOb o), roots⟩
def newM (ts : List Ob) (roots : List V) : Option Mm := if rightG ts roots = true ∧ ts.all rightT = true then some (memM ts roots) else none
theorem memM_snoc {l : List Ob} {o : Ob} (h : rightT o = true) : (memM l []).added o = memM (l ++ [o]) [] := by
  unfold Mm.added
  rw [h, if_pos rfl]
  unfold Mm.add memM
  simp
def NewP (w : World) (m : Option Mm) (e : Ending) (w' : World) : Prop := match m with
  | none => e = .returned (.pointer none) ∧ Below w.heap.size w w'
  | some M => ∃ L : ML, e = .returned (.pointer (some ⟨L.p, 0, none⟩)) ∧ MemAt w' L M ∧ Below w.heap.size w w' ∧ ∀ k, L.own k → w.heap.size ≤ k
/-- What NewMem has made. -/
structure NS (w wr : World) (p : Nat) (tv rv : Value) (L : ML) (M : Mm) : Prop where
  at_ : MemAt wr L M
  p : L.p = p
  hg : Box wr w.heap.size [tv, rv] 25
  below : Below w.heap.size w wr
  own : ∀ k, L.own k → w.heap.size < k
theorem NS.next {w wr wr' : World} {p : Nat} {tv rv : Value} {L : ML} {M : Mm} (h : NS w wr p tv rv L M) (hb : Below wr.heap.size wr wr') : NS w wr' p tv rv L M :=
  ⟨h.at_.below hb, h.p, h.hg.below hb h.hg.lt, h.below.trans (hb.mono h.below.size), h.own⟩
theorem NS.to {w wr wr' : World} {p : Nat} {tv rv : Value} {L : ML} {M M' : Mm} (h : NS w wr p tv rv L M) (hm : MTo wr L wr' M') : ∃ L', NS w wr' p tv rv L' M' := by
  obtain ⟨L', h1, h2, h3, h4⟩ := hm
  refine ⟨L', h2, h1.trans h.p, h.hg.of_block (h3.block _ h.hg.lt fun e => by have := h.own _ e; omega), h.below.trans (h3.below h.below.size fun k hk e => by have := h.own k e; omega), fun k hk => ?_⟩
  rcases h4 k hk with e | e
  · exact h.own k e
  · have := h.hg.lt; omega
theorem mem_new (W : World) : MemAt (W.alloc (.cells #[.slice none 0 0, .slice none 0 0, .bool true] 109)) ⟨W.heap.size, .slice none 0 0, .slice none 0 0, []⟩ (memM [] []) := by
  refine ⟨Box.new W _ _, World.ownsRow_nil _ _ _ _, World.ownsRow_nil _ _ _ _, rfl, ?_, ?_, ?_, ?_⟩
  · intro i b sv o hi; simp at hi
  · intro i b sv hi; simp at hi
  · intro i j b b' sv sv' hi; simp at hi
  · intro i b sv hi; simp at hi
set_option maxRecDepth 100000 in
set_option maxHeartbeats 4000000 in
theorem newMem_any {tv rv : Value} {ts : List (Ob × Value)} {roots : List V} (hg : GrAt w tv rv ts roots) (hs : ts.length ≤ 100000) (hss : ∀ o sv, (o, sv) ∈ ts → o.slots.length ≤ 100000) (hsr : roots.length ≤ 100000) :
    Calls Tryz.prog 17 #[.agg #[tv, rv]] w fun e w' => NewP w (newM (ts.map Prod.fst) roots) e w' := by
  obtain ⟨ta, tc, rfl⟩ := rd_slice hg.things
  obtain ⟨ra, rc, rfl⟩ := rd_slice hg.roots
  obtain ⟨N, hN⟩ : ∃ N, N = ts.length := ⟨_, rfl⟩
  obtain ⟨RN, hRN⟩ : ∃ N, N = roots.length := ⟨_, rfl⟩
  have hb0 := below_alloc w (.cells #[.slice ta ts.length tc, .slice ra roots.length rc] 25)
  have hbx := Box.new w [.slice ta ts.length tc, .slice ra roots.length rc] 25
  have HG := Lib.hid hg
  have HR := Lib.hid (right_any (hg.below hb0) hs hss hsr)
  rw [← hN, ← hRN] at HR hb0 hbx ⊢
  have HB0 := Lib.hid hb0
  have HBX := Lib.hid hbx
  have HT0 := Lib.hid (show Rd w (.slice ta N tc) ts.length (flatT ts) by rw [hN]; exact hg.things)
  have HRV := Lib.hid (show RdV w (.slice ra RN rc) roots by rw [hRN]; exact hg.roots)
  have HN := Lib.hid hN
  have HRN := Lib.hid hRN
  have HSS := Lib.hid hss
  have hsN : N ≤ 100000 := by omega
  have HS := Lib.hid hs
  have HSR := Lib.hid hsr
  clear hg hN hRN hss hb0 hbx hsr hs
  go_enter Tryz.func17, Tryz.ntmps17
  go_wp2_with fail
  refine HR.out.mono ?_
  rintro e w1 ⟨rfl, hb1⟩
  cases hr : rightG (ts.map Prod.fst) roots with
  | false =>
    have HP : NewP w (newM (ts.map Prod.fst) roots) (.returned (.pointer none)) w1 := by
      unfold newM NewP
      rw [hr, if_neg (by rintro ⟨h, -⟩; cases h)]
      exact ⟨rfl, HB0.out.trans (hb1.mono (by simp))⟩
    have HPP := Lib.hid HP
    clear HP hb1 hr
    go_wp2_with fail
    go_ret
    exact HPP.out
  | true =>
    have hx1 := HBX.out.below hb1 (by simp)
    have hNS : NS w (w1.alloc (.cells #[.slice none 0 0, .slice none 0 0, .bool true] 109)) w1.heap.size (.slice ta N tc) (.slice ra RN rc) ⟨w1.heap.size, .slice none 0 0, .slice none 0 0, []⟩ (memM [] []) := by
      have h1 := hb1.size
      have h1' : w.heap.size + 1 ≤ w1.heap.size := by simpa using h1
      refine ⟨mem_new w1, rfl, hx1.alloc _, (HB0.out.trans (hb1.mono (by simp))).alloc (by omega) _, ?_⟩
      rintro k (rfl | e | e | ⟨i, b, sv, hi, e⟩)
      · show w.heap.size < w1.heap.size; omega
      · cases e
      · cases e
      · simp at hi
    have x0 := hNS.hg.cell 0
    simp only [List.getElem?_cons_zero] at x0
    have HNS := Lib.hid hNS
    have HRG := Lib.hid hr
    clear hx1 hNS hb1 hr
    go_wp2_with fail
    go_loopw [14] (fun t14 wr => ∃ (i : Nat) (L : ML), i ≤ N ∧ t14 = .int .i64 i ∧ ((ts.take i).map Prod.fst).all rightT = true ∧ NS w wr w1.heap.size (.slice ta N tc) (.slice ra RN rc) L (memM ((ts.take i).map Prod.fst) [])) (fun t14 _ => N - (intOf t14).toNat)
    case atStart => exact ⟨0, _, Nat.zero_le _, by go_num, rfl, HNS.out⟩
    case round =>
      obtain ⟨i, L, hi, rfl, hacc, R⟩ := hrel
      by_cases hlt : i < N
      · obtain ⟨⟨o, sv⟩, hx⟩ : ∃ x, ts[i]? = some x := ⟨ts[i]'(by rw [← HN.out]; exact hlt), List.getElem?_eq_getElem _⟩
        have hmem : (o, sv) ∈ ts := List.mem_of_getElem? hx
        obtain ⟨ad, c2, ha, hc⟩ := rd_at (Rd.below HG.out.things R.below) (by intro e; have := flatT_len ts; rw [e] at this; simp at this; have := HN.out; omega)
        rw [← HN.out] at ha
        simp only [Value.slice.injEq] at ha
        obtain ⟨rfl, -, rfl⟩ := ha
        obtain ⟨f0, f1, f2, f3, f4⟩ := flatT_at _ _ _ hx
        have d0 := hc _ _ f0
        have d1 := cell_more (hc _ _ f1)
        have d2 := cell_more (k := 1) (hc _ _ f2)
        have d3 := cell_more (k := 2) (hc _ _ f3)
        have d4 := cell_more (k := 3) (hc _ _ f4)
        simp only [Nat.zero_add, Nat.reduceAdd] at d0 d1 d2 d3 d4
        have hsl := HG.out.slots o sv hmem
        have hsz := HSS.out o sv hmem
        obtain ⟨sa, sc, rfl⟩ := rd_slice hsl
        have hts : (ts.take (i + 1)).map Prod.fst = (ts.take i).map Prod.fst ++ [o] := by
          rw [List.take_add_one, hx]; simp
        have HTS := Lib.hid hts
        have HSL := Lib.hid hsl
        have HSZ := Lib.hid hsz
        have HRR := Lib.hid R
        have HACC := Lib.hid hacc
        have HMEM := Lib.hid hmem
        have HIX := Lib.hid hx
        have HP2 := Lib.hid R.p
        clear hc hx hmem f0 f1 f2 f3 f4 hsl hsz hts hacc R
        have hW : NS w (wr.alloc (.cells #[.int .i64 o.kind, .int .i64 o.weak, .int .i64 o.array, .slice sa o.slots.length sc, .int .i64 o.fin] 36)) w1.heap.size (.slice (some ad) N tc) (.slice ra RN rc) L (memM ((ts.take i).map Prod.fst) []) := HRR.out.next (below_alloc _ _)
        have hA := add_any hW.at_ (by show (((ts.take i).map Prod.fst).map _).length ≤ _; simp; have := HS.out; omega) (Rd.below HSL.out hW.below) HSZ.out
        rw [HP2.out] at hA
        unfold thingV at hA
        have HA := Lib.hid hA
        have HW := Lib.hid hW
        clear hW hA
        go_wp2_with fail
        refine HA.out.mono ?_
        rintro e w2 ⟨rfl, hM⟩
        obtain ⟨L2, hM2⟩ := HW.out.to hM
        have HM2 := Lib.hid hM2
        clear hM hM2
        cases hr : rightT o with
        | false =>
          have hz : addH (memM ((ts.take i).map Prod.fst) []) o = 0 := by unfold addH; rw [hr]; rfl
          rw [hz]
          have HP : NewP w (newM (ts.map Prod.fst) roots) (.returned (.pointer none)) w2 := by
            unfold newM NewP
            rw [if_neg]
            · exact ⟨rfl, HM2.out.below⟩
            · rintro ⟨-, h⟩
              have := List.all_eq_true.1 h o (List.mem_map.2 ⟨(o, _), HMEM.out, rfl⟩)
              rw [hr] at this; cases this
          have HPP := Lib.hid HP
          clear HP hr hz
          go_wp2_with fail
          go_ret
          exact HPP.out
        | true =>
          have hz : addH (memM ((ts.take i).map Prod.fst) []) o = (i : Int) + 1 := by
            unfold addH
            rw [hr, if_pos rfl]
            show ((((ts.take i).map Prod.fst).map _).length : Int) + 1 = _
            have := HN.out
            simp only [List.length_map, List.length_take]
            omega
          rw [hz]
          have hz1 : ((i : Int) + 1 == 0) = false := by simp; omega
          have hM3 : NS w w2 w1.heap.size (.slice (some ad) N tc) (.slice ra RN rc) L2 (memM ((ts.take (i + 1)).map Prod.fst) []) := by
            rw [HTS.out, ← memM_snoc hr]; exact HM2.out
          have hac2 : ((ts.take (i + 1)).map Prod.fst).all rightT = true := by
            rw [HTS.out, List.all_append, HACC.out]; simp [hr]
          have HM3 := Lib.hid hM3
          have HAC2 := Lib.hid hac2
          clear hr hz hM3 hac2
          go_wp2_with fail
          go_roundw
          case rel => exact ⟨i + 1, L2, by omega, by go_num, HAC2.out, HM3.out⟩
          case measure => simp [intOf]; omega
      · obtain rfl : i = N := by omega
        have e0 : ts.take i = ts := by rw [HN.out, List.take_length]
        rw [e0] at hacc R
        obtain ⟨p0, la, lr, lcs⟩ := L
        obtain rfl : p0 = w1.heap.size := R.p
        have hcall := setRoots_any R.at_ (Rd.below HRV.out R.below) HSR.out
        have x1 := R.hg.cell 1
        simp only [List.getElem?_cons_zero, List.getElem?_cons_succ] at x1
        have HC := Lib.hid hcall
        have HRR := Lib.hid R
        have HACC := Lib.hid hacc
        clear hcall R hacc e0
        go_wp2_with fail
        refine HC.out.mono ?_
        rintro e w2 ⟨rfl, u, hm, hk, ho⟩
        have HP : NewP w (newM (ts.map Prod.fst) roots) (.returned (.pointer (some ⟨w1.heap.size, 0, none⟩))) w2 := by
          unfold newM NewP
          rw [if_pos ⟨HRG.out, HACC.out⟩]
          refine ⟨⟨w1.heap.size, la, u, lcs⟩, rfl, hm, HRR.out.below.trans (hk.below HRR.out.below.size fun k hk e => by have := HRR.out.own k e; omega), fun k hk => ?_⟩
          rcases ho k hk with e | e
          · have := HRR.out.own k e; omega
          · have := HRR.out.below.size; omega
        have HPP := Lib.hid HP
        clear HP hm hk ho
        go_wp2_with fail
        go_ret
        exact HPP.out
end Go.Proofs.YtminbemdcanakaaGreat
