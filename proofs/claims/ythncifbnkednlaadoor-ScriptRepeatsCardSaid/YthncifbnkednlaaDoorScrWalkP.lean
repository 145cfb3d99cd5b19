/- ScriptParses: its walk. -/
import Derived.Test.YthncifbnkednlaaDoorScrAlive
import Derived.Test.YthncifbnkednlaaDoorScrRParse
namespace Go.Proofs.YthncifbnkednlaaDoor
open Go.RowKit Go.Shelf
set_option linter.unusedVariables false
set_option linter.unusedSimpArgs false

theorem parseF_pts : ∀ (f i : Nat) (x : Sc) (s : Bs), x.pts.length ≤ 4000 → (parseF f i x s).1.pts.length ≤ 4000 := by
  intro f
  induction f with
  | zero => intro i x s h; exact Nat.zero_le _
  | succ f ih =>
    intro i x s h
    unfold parseF
    split
    · exact Nat.zero_le _
    · split
      · exact Nat.zero_le _
      · rename_i y hl
        have := lineStep_pts hl h
        split
        · exact Nat.zero_le _
        · exact this
      · rename_i y hl
        exact ih _ _ _ (lineStep_pts hl h)
theorem parseD_pts (s : Bs) : (parseD s).1.pts.length ≤ 4000 := by
  unfold parseD
  split
  · exact Nat.zero_le _
  · exact parseF_pts _ _ _ _ (Nat.zero_le _)
theorem parseF_no : ∀ (f i : Nat) (x : Sc) (s : Bs), (parseF f i x s).2.2 < 10 := by
  intro f
  induction f with
  | zero => intro i x s; exact (by decide : 6 < 10)
  | succ f ih =>
    intro i x s
    unfold parseF
    split
    · exact (by decide : 6 < 10)
    · split
      · rename_i e hl
        have := lineStep_err hl
        show e < 10
        omega
      · rename_i y hl
        split
        · exact (by decide : 3 < 10)
        · exact (by decide : 0 < 10)
      · exact ih _ _ _

set_option maxRecDepth 100000 in
set_option maxHeartbeats 4000000 in
theorem parses_any (s : ByteArray) (w : World) (he : Env w) : Calls Tryd.prog 3 #[.string s] w fun e w' => e = .returned (.bool true) ∧ Below w.heap.size w w' := by
  have HE := Lib.hid he
  clear he
  by_cases hbig : 80000 < s.size
  · go_enter Tryd.func3, Tryd.ntmps3
    go_wp2_with fail
    refine (alive_any _ HE.out).mono ?_
    rintro e w1 ⟨rfl, hb⟩
    have HB := Lib.hid hb
    clear hb
    go_wp2_with fail
    go_ret
    exact ⟨rfl, HB.out⟩
  · obtain ⟨r, hr⟩ : ∃ r, parseD (bs s) = r := ⟨_, rfl⟩
    have hp := parseD_pts (bs s)
    have HPA := Lib.hid (parse_any s w (by omega) HE.out)
    have HRA := Lib.hid (fun w => rparse_any s w (by omega))
    rw [hr] at HPA HRA hp
    obtain ⟨x, i, c⟩ := r
    simp only at hp
    have HPT := Lib.hid hp
    clear hr hp
    go_enter Tryd.func3, Tryd.ntmps3
    go_wp2_with fail
    refine HPA.out.mono ?_
    rintro e w1 ⟨⟨pv, rfl, hp⟩, hb1⟩
    simp only [sceneV]
    obtain ⟨pa, pc, hpe⟩ : ∃ a c, pv = .slice a x.pts.length c := by obtain ⟨a, c, h, -⟩ := hp; exact ⟨a, c, h⟩
    obtain ⟨L, hL⟩ : ∃ L, L = x.pts.length := ⟨_, rfl⟩
    rw [← hL] at hpe
    clear hL
    subst hpe
    obtain ⟨b1, hb1'⟩ : ∃ b, b = w1.heap.size := ⟨_, rfl⟩
    obtain ⟨W1, hW1⟩ : ∃ W, W = w1.alloc (.cells #[.int .i64 x.size, .int .i64 x.steps, .slice pa L pc, .string (str x.src)] 25) := ⟨_, rfl⟩
    have HX1 : Hid (Box W1 b1 [.int .i64 x.size, .int .i64 x.steps, .slice pa L pc, .string (str x.src)] 25) := Lib.hid (by rw [hW1, hb1']; exact heap_alloc_new w1 _)
    have hbA := below_alloc w1 (.cells #[.int .i64 x.size, .int .i64 x.steps, .slice pa L pc, .string (str x.src)] 25)
    rw [← hW1] at hbA
    have HB1 := Lib.hid (hb1.trans (hbA.mono hb1.size))
    have HE1 := Lib.hid (HE.out.below HB1.out)
    have HP1 := Lib.hid (hp.keep hbA)
    simp only at HP1
    clear hb1 hbA hp
    go_wp2_with fail
    rw [← hb1', ← hW1]
    clear hb1' hW1
    refine (HRA.out _).mono ?_
    rintro e w2 ⟨⟨pv2, rfl, hp2⟩, hb2⟩
    simp only [sceneV]
    obtain ⟨pa2, pc2, hpe⟩ : ∃ a c, pv2 = .slice a x.pts.length c := by obtain ⟨a, c, h, -⟩ := hp2; exact ⟨a, c, h⟩
    obtain ⟨L2, hL⟩ : ∃ L, L = x.pts.length := ⟨_, rfl⟩
    rw [← hL] at hpe
    clear hL
    subst hpe
    obtain ⟨b2, hb2'⟩ : ∃ b, b = w2.heap.size := ⟨_, rfl⟩
    obtain ⟨W2, hW2⟩ : ∃ W, W = w2.alloc (.cells #[.int .i64 x.size, .int .i64 x.steps, .slice pa2 L2 pc2, .string (str x.src)] 25) := ⟨_, rfl⟩
    have HX2 : Hid (Box W2 b2 [.int .i64 x.size, .int .i64 x.steps, .slice pa2 L2 pc2, .string (str x.src)] 25) := Lib.hid (by rw [hW2, hb2']; exact heap_alloc_new w2 _)
    have hbA := below_alloc w2 (.cells #[.int .i64 x.size, .int .i64 x.steps, .slice pa2 L2 pc2, .string (str x.src)] 25)
    rw [← hW2] at hbA
    have hbB := hb2.trans (hbA.mono hb2.size)
    have HB2 := Lib.hid (HB1.out.trans (hbB.mono HB1.out.size))
    have HE2 := Lib.hid (HE1.out.below hbB)
    have HX1' := Lib.hid (HX1.out.below hbB HX1.out.lt)
    have HP1' := Lib.hid (HP1.out.keep hbB)
    have HP2 := Lib.hid (hp2.keep hbA)
    have HSA := Lib.hid (same_any (x := x) HP1'.out HP2.out (by have := HPT.out; omega))
    simp only at HP2
    clear hb2 hbA hbB hp2
    go_upto_region 5 with fail
    rw [← hb2', ← hW2]
    clear hb2' hW2
    have x0 := HX1'.out.cell 0
    have x1 := HX1'.out.cell 1
    have x2 := HX1'.out.cell 2
    have x3 := HX1'.out.cell 3
    have y0 := HX2.out.cell 0
    have y1 := HX2.out.cell 1
    have y2 := HX2.out.cell 2
    have y3 := HX2.out.cell 3
    simp only [List.getElem?_cons_zero, List.getElem?_cons_succ] at x0 x1 x2 x3 y0 y1 y2 y3
    go_wp2_with fail
    refine HSA.out.mono ?_
    rintro e w3 ⟨rfl, hb3⟩
    have HB3 := Lib.hid (HB2.out.trans (hb3.mono HB2.out.size))
    have HE3 := Lib.hid (HE2.out.below hb3)
    clear hb3
    go_wp2_with (go_at_call 12; refine (no_int _ _).mono ?_; rintro e w' ⟨rfl, rfl⟩)
    refine (alive_any _ HE3.out).mono ?_
    rintro e w4 ⟨rfl, hb4⟩
    have HB4 := Lib.hid (HB3.out.trans (hb4.mono HB3.out.size))
    clear hb4
    go_wp2_with fail
    go_ret
    exact ⟨rfl, HB4.out⟩
end Go.Proofs.YthncifbnkednlaaDoor
