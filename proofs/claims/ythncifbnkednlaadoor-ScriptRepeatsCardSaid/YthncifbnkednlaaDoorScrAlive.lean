/- alive: the chapter's examples. -/
import Derived.Test.YthncifbnkednlaaDoorScrParse
namespace Go.Proofs.YthncifbnkednlaaDoor
open Go.RowKit Go.Shelf
set_option linter.unusedVariables false
set_option linter.unusedSimpArgs false

theorem no_int (z : Int) (w : World) : Calls Tryd.prog 12 #[.int .i64 z] w fun e w' => e = .returned (.int .i64 z) ∧ w' = w := by
  go_enter Tryd.func12, Tryd.ntmps12
  go_wp2_with fail
  go_ret
  exact ⟨rfl, rfl⟩

theorem al_one : parseD (bs { data := #[115, 105, 122, 101, 32, 57, 48, 48, 10, 115, 116, 101, 112, 115, 32, 53, 48, 10, 121, 111, 117, 110, 103, 32, 120, 51, 10, 109, 111, 100, 101, 32, 49, 10, 115, 111, 117, 114, 99, 101, 10, 101, 109, 105, 116, 40, 49, 41] }) = (⟨900, 50, [(2, 0), (2, 0), (2, 0), (4, 1)], [101, 109, 105, 116, 40, 49, 41]⟩, 0, 0) := by kernel_rfl
theorem al_two : parseD (bs { data := #[115, 105, 122, 101, 32, 48, 10] }) = (zeroSc, 0, 7) := by kernel_rfl
theorem al_three : parseD (bs { data := #[115, 116, 101, 112, 115, 32, 53, 10] }) = (zeroSc, 0, 6) := by kernel_rfl

set_option maxRecDepth 100000 in
set_option maxHeartbeats 4000000 in
theorem alive_any (w : World) (he : Env w) : Calls Tryd.prog 8 #[] w fun e w' => e = .returned (.bool true) ∧ Below w.heap.size w w' := by
  have H1 : Hid (Calls Tryd.prog 9 #[.string { data := #[115, 105, 122, 101, 32, 57, 48, 48, 10, 115, 116, 101, 112, 115, 32, 53, 48, 10, 121, 111, 117, 110, 103, 32, 120, 51, 10, 109, 111, 100, 101, 32, 49, 10, 115, 111, 117, 114, 99, 101, 10, 101, 109, 105, 116, 40, 49, 41] }] w fun e w' => (∃ pv, e = .returned (.tuple #[.agg #[.int .i64 900, .int .i64 50, pv, .string { data := #[101, 109, 105, 116, 40, 49, 41] }], .int .i64 0, .int .i64 0]) ∧ PtsV w' pv [(2, 0), (2, 0), (2, 0), (4, 1)]) ∧ Below w.heap.size w w') := Lib.hid (by
    have := parse_any { data := #[115, 105, 122, 101, 32, 57, 48, 48, 10, 115, 116, 101, 112, 115, 32, 53, 48, 10, 121, 111, 117, 110, 103, 32, 120, 51, 10, 109, 111, 100, 101, 32, 49, 10, 115, 111, 117, 114, 99, 101, 10, 101, 109, 105, 116, 40, 49, 41] } w (by decide) he
    rw [al_one] at this
    exact this.mono fun _ _ h => h)
  have H2 : Hid (∀ w, Env w → Calls Tryd.prog 9 #[.string { data := #[115, 105, 122, 101, 32, 48, 10] }] w fun e w' => (∃ pv, e = .returned (.tuple #[.agg #[.int .i64 0, .int .i64 0, pv, .string { data := #[] }], .int .i64 0, .int .i64 7]) ∧ PtsV w' pv []) ∧ Below w.heap.size w w') := Lib.hid (by
    intro w he
    have := parse_any { data := #[115, 105, 122, 101, 32, 48, 10] } w (by decide) he
    rw [al_two] at this
    exact this.mono fun _ _ h => h)
  have H3 : Hid (∀ w, Env w → Calls Tryd.prog 9 #[.string { data := #[115, 116, 101, 112, 115, 32, 53, 10] }] w fun e w' => (∃ pv, e = .returned (.tuple #[.agg #[.int .i64 0, .int .i64 0, pv, .string { data := #[] }], .int .i64 0, .int .i64 6]) ∧ PtsV w' pv []) ∧ Below w.heap.size w w') := Lib.hid (by
    intro w he
    have := parse_any { data := #[115, 116, 101, 112, 115, 32, 53, 10] } w (by decide) he
    rw [al_three] at this
    exact this.mono fun _ _ h => h)
  have HE := Lib.hid he
  clear he
  go_enter Tryd.func8, Tryd.ntmps8
  go_wp2_with fail
  refine H1.out.mono ?_
  rintro e w1 ⟨⟨pv, rfl, hp⟩, hb1⟩
  obtain ⟨a, c, rfl, hc⟩ : ∃ a c, pv = .slice a 4 c ∧ _ := hp
  obtain ⟨g, rfl, k1, k2⟩ := hc 3 (4, 1) rfl
  clear hc
  obtain ⟨W1, hW1⟩ : ∃ W, W = w1.alloc (.cells #[.int .i64 900, .int .i64 50, .slice (some ⟨g, 0, none⟩) 4 c, .string { data := #[101, 109, 105, 116, 40, 49, 41] }] 25) := ⟨_, rfl⟩
  obtain ⟨b1, hb1'⟩ : ∃ b, b = w1.heap.size := ⟨_, rfl⟩
  have HX1 : Hid (Box W1 b1 [.int .i64 900, .int .i64 50, .slice (some ⟨g, 0, none⟩) 4 c, .string { data := #[101, 109, 105, 116, 40, 49, 41] }] 25) := Lib.hid (by rw [hW1, hb1']; exact heap_alloc_new w1 _)
  have hbA := below_alloc w1 (.cells #[.int .i64 900, .int .i64 50, .slice (some ⟨g, 0, none⟩) 4 c, .string { data := #[101, 109, 105, 116, 40, 49, 41] }] 25)
  rw [← hW1] at hbA
  have HB1 := Lib.hid (hb1.trans (hbA.mono hb1.size))
  have HE1 := Lib.hid (HE.out.below HB1.out)
  have K1 := Lib.hid (⟨(hbA.cell (cell_lt k1)).trans k1, (hbA.cell (cell_lt k2)).trans k2⟩ : W1.cell? ⟨g, 6, none⟩ = some (.int .i64 4) ∧ W1.cell? ⟨g, 7, none⟩ = some (.int .i64 1))
  clear k1 k2 hb1 hbA
  go_wp2_with fail
  rw [← hb1', ← hW1]
  clear hW1 hb1'
  refine (H2.out _ HE1.out).mono ?_
  rintro e w2 ⟨⟨pv2, rfl, hp2⟩, hb2⟩
  obtain ⟨a2, c2, rfl, -⟩ : ∃ a c, pv2 = .slice a 0 c ∧ _ := hp2
  have hbA := below_alloc w2 (.cells #[.int .i64 0, .int .i64 0, .slice a2 0 c2, .string { data := #[] }] 25)
  have hb2A := hb2.trans (hbA.mono hb2.size)
  have HB2 := Lib.hid (HB1.out.trans (hb2A.mono HB1.out.size))
  have HX2 := Lib.hid (HX1.out.below hb2A HX1.out.lt)
  have HE2 := Lib.hid (HE1.out.below hb2A)
  have K2 := Lib.hid (⟨(hb2A.cell (cell_lt K1.out.1)).trans K1.out.1, (hb2A.cell (cell_lt K1.out.2)).trans K1.out.2⟩ : _ ∧ _)
  clear hb2 hbA hb2A
  go_wp2_with fail
  refine (H3.out _ HE2.out).mono ?_
  rintro e w3 ⟨⟨pv3, rfl, hp3⟩, hb3⟩
  obtain ⟨a3, c3, rfl, -⟩ : ∃ a c, pv3 = .slice a 0 c ∧ _ := hp3
  have hbA := below_alloc w3 (.cells #[.int .i64 0, .int .i64 0, .slice a3 0 c3, .string { data := #[] }] 25)
  have hb3A := hb3.trans (hbA.mono hb3.size)
  have HB3 := Lib.hid (HB2.out.trans (hb3A.mono HB2.out.size))
  have HX3 := Lib.hid (HX2.out.below hb3A HX2.out.lt)
  have k1 := (hb3A.cell (cell_lt K2.out.1)).trans K2.out.1
  have k2 := (hb3A.cell (cell_lt K2.out.2)).trans K2.out.2
  have x0 := HX3.out.cell 0
  have x1 := HX3.out.cell 1
  have x2 := HX3.out.cell 2
  have x3 := HX3.out.cell 3
  simp only [List.getElem?_cons_zero, List.getElem?_cons_succ] at x0 x1 x2 x3
  clear hb3 hbA hb3A
  go_wp2_with (go_at_call 12; refine (no_int _ _).mono ?_; rintro e w' ⟨rfl, rfl⟩)
  go_ret
  exact ⟨rfl, HB3.out⟩
end Go.Proofs.YthncifbnkednlaaDoor
