/- fits, Fits, dec, vast, Points over any points. -/
import Derived.Test.YthncifbnkednlaaDoorScrPlainP
import Derived.Test.YthncifbnkednlaaDoorScrSame
import Derived.Test.YthncifbnkednlaaDoorScrPoint
namespace Go.Proofs.YthncifbnkednlaaDoor
open Go.RowKit Go.Shelf
set_option linter.unusedVariables false
set_option linter.unusedSimpArgs false

theorem env_word {w : World} (he : Env w) {k : Int} (h0 : 0 ≤ k) (h6 : k < 6) : w.cell? ⟨0, 2 * k.toNat, none⟩ = some (.string (str (wordZ k))) := by
  refine he.word k.toNat _ ?_
  unfold wordZ
  have hl : k.toNat < wordsL.length := by show k.toNat < 6; omega
  rw [List.getElem?_eq_getElem hl]; rfl
theorem env_most {w : World} (he : Env w) {k : Int} (h0 : 0 ≤ k) (h6 : k < 6) : w.cell? ⟨0, 2 * k.toNat + 1, none⟩ = some (.int .i64 (mostZ k)) := by
  refine he.max k.toNat _ ?_
  unfold mostZ
  have hl : k.toNat < maxL.length := by show k.toNat < 6; omega
  rw [List.getElem?_eq_getElem hl]; rfl

set_option maxRecDepth 100000 in
set_option maxHeartbeats 2000000 in
theorem fits_any (a b : Int) (w : World) (he : Env w) : Calls Tryd.prog 24 #[.agg #[.int .i64 a, .int .i64 b]] w fun e w' => e = .returned (.bool (fitsZ (a, b))) ∧ Below w.heap.size w w' := by
  obtain ⟨r, hr⟩ : ∃ r, fitsZ (a, b) = r := ⟨_, rfl⟩
  rw [hr]
  unfold fitsZ at hr
  simp only at hr
  have HR := Lib.hid hr
  have HB : Hid (Below w.heap.size w (w.alloc (.cells #[.int .i64 a, .int .i64 b] 43))) := Lib.hid (below_alloc _ _)
  have HE := Lib.hid (he.below HB.out)
  clear hr he
  by_cases h1 : a < 0
  · have hr := HR.out
    rw [decide_eq_false (by omega)] at hr
    subst hr
    go_enter Tryd.func24, Tryd.ntmps24
    go_wp2_with fail
    go_ret
    exact ⟨rfl, HB.out⟩
  · by_cases h2 : 6 ≤ a
    · have hr := HR.out
      rw [decide_eq_false (by omega)] at hr
      subst hr
      go_enter Tryd.func24, Tryd.ntmps24
      go_wp2_with fail
      go_ret
      exact ⟨rfl, HB.out⟩
    · have hm := env_most HE.out (k := a) (by omega) (by omega)
      obtain ⟨m, hmm⟩ : ∃ m, mostZ a = m := ⟨_, rfl⟩
      have HM := Lib.hid hmm
      rw [hmm] at hm
      clear hmm
      obtain ⟨k, rfl⟩ : ∃ k : Nat, a = k := ⟨a.toNat, by omega⟩
      have hk : k < 6 := by omega
      rw [Int.toNat_natCast] at hm
      by_cases h3 : 0 ≤ b
      · have d3 : decide (0 ≤ b) = true := decide_eq_true h3
        go_enter Tryd.func24, Tryd.ntmps24
        go_wp2_with fail
        have hm' : (w.alloc (.cells #[.int .i64 k, .int .i64 b] 43)).cell? ⟨0, k * 2 + 1, none⟩ = some (.int .i64 m) := by rw [Nat.mul_comm]; exact hm
        go_quiet (fail)
        go_wp2_with fail
        go_ret
        refine ⟨?_, below_drewN HB.out _⟩
        show Ending.returned (.bool (decide (b ≤ max 0 m))) = .returned (.bool r)
        rw [← HR.out, HM.out, decide_eq_decide.2 (show b ≤ max 0 m ↔ (0 ≤ (k : Int) ∧ (k : Int) < 6 ∧ 0 ≤ b ∧ b ≤ max 0 m) from ⟨fun h => ⟨by omega, by omega, h3, h⟩, fun h => h.2.2.2⟩)]
      · have hr := HR.out
        rw [decide_eq_false (by omega)] at hr
        subst hr
        have d3 : decide (0 ≤ b) = false := decide_eq_false h3
        go_enter Tryd.func24, Tryd.ntmps24
        go_wp2_with fail
        go_quiet (fail)
        go_wp2_with fail
        go_ret
        exact ⟨rfl, below_drewN HB.out _⟩

theorem fitsZ_one (b : Int) : fitsZ (1, b) = decide (0 ≤ b ∧ b ≤ 999999999) := by
  unfold fitsZ; apply decide_eq_decide.2; simp [mostZ, maxL]; omega
theorem fitsZ_four (b : Int) : fitsZ (4, b) = decide (b = 0 ∨ b = 1) := by
  unfold fitsZ; apply decide_eq_decide.2; simp [mostZ, maxL]; omega
theorem fitsZ_other {a : Int} (b : Int) (h1 : a ≠ 1) (h4 : a ≠ 4) : fitsZ (a, b) = decide (0 ≤ a ∧ a ≤ 5 ∧ b = 0) := by
  by_cases h : 0 ≤ a ∧ a ≤ 5
  · obtain rfl | rfl | rfl | rfl : a = 0 ∨ a = 2 ∨ a = 3 ∨ a = 5 := by omega
    all_goals
      unfold fitsZ; apply decide_eq_decide.2; simp [mostZ, maxL]; omega
  · unfold fitsZ; apply decide_eq_decide.2
    constructor
    · rintro ⟨h1, h2, -⟩; exact absurd ⟨h1, by simp only at h2; omega⟩ h
    · rintro ⟨h1, h2, -⟩; exact absurd ⟨h1, h2⟩ h

set_option maxRecDepth 100000 in
set_option maxHeartbeats 2000000 in
theorem rfits_any (a b : Int) (w : World) : Calls Tryd.prog 28 #[.agg #[.int .i64 a, .int .i64 b]] w fun e w' => e = .returned (.bool (fitsZ (a, b))) ∧ Below w.heap.size w w' := by
  obtain ⟨r, hr⟩ : ∃ r, fitsZ (a, b) = r := ⟨_, rfl⟩
  rw [hr]
  have HB : Hid (Below w.heap.size w (w.alloc (.cells #[.int .i64 a, .int .i64 b] 43))) := Lib.hid (below_alloc _ _)
  by_cases h1 : a = 1
  · subst h1
    rw [fitsZ_one] at hr
    by_cases h2 : 0 ≤ b
    · by_cases h3 : b ≤ 999999999
      · rw [decide_eq_true ⟨h2, h3⟩] at hr
        subst hr
        go_enter Tryd.func28, Tryd.ntmps28
        go_wp2_with fail
        go_ret
        exact ⟨rfl, HB.out⟩
      · rw [decide_eq_false (by omega)] at hr
        subst hr
        go_enter Tryd.func28, Tryd.ntmps28
        go_wp2_with fail
        go_ret
        exact ⟨rfl, HB.out⟩
    · rw [decide_eq_false (by omega)] at hr
      subst hr
      go_enter Tryd.func28, Tryd.ntmps28
      go_wp2_with fail
      go_ret
      exact ⟨rfl, HB.out⟩
  · have e1 : (a == 1) = false := by rw [beq_eq_false_iff_ne]; exact h1
    by_cases h4 : a = 4
    · subst h4
      rw [fitsZ_four] at hr
      by_cases h2 : b = 0
      · subst h2
        rw [decide_eq_true (.inl rfl)] at hr
        subst hr
        go_enter Tryd.func28, Tryd.ntmps28
        go_wp2_with fail
        go_ret
        exact ⟨rfl, HB.out⟩
      · have e2 : (b == 0) = false := by rw [beq_eq_false_iff_ne]; exact h2
        by_cases h3 : b = 1
        · subst h3
          rw [decide_eq_true (.inr rfl)] at hr
          subst hr
          go_enter Tryd.func28, Tryd.ntmps28
          go_wp2_with fail
          go_ret
          exact ⟨rfl, HB.out⟩
        · have e3 : (b == 1) = false := by rw [beq_eq_false_iff_ne]; exact h3
          rw [decide_eq_false (by omega)] at hr
          subst hr
          clear h2 h3
          go_enter Tryd.func28, Tryd.ntmps28
          go_wp2_with fail
          go_ret
          exact ⟨rfl, HB.out⟩
    · have e4 : (a == 4) = false := by rw [beq_eq_false_iff_ne]; exact h4
      rw [fitsZ_other b h1 h4] at hr
      by_cases h0 : 0 ≤ a
      · by_cases h5 : a ≤ 5
        · by_cases h2 : b = 0
          · subst h2
            rw [decide_eq_true ⟨h0, h5, rfl⟩] at hr
            subst hr
            clear h1 h4
            go_enter Tryd.func28, Tryd.ntmps28
            go_wp2_with fail
            go_ret
            exact ⟨rfl, HB.out⟩
          · have e2 : (b == 0) = false := by rw [beq_eq_false_iff_ne]; exact h2
            rw [decide_eq_false (by omega)] at hr
            subst hr
            clear h1 h4 h2
            go_enter Tryd.func28, Tryd.ntmps28
            go_wp2_with fail
            go_ret
            exact ⟨rfl, HB.out⟩
        · rw [decide_eq_false (by omega)] at hr
          subst hr
          clear h1 h4
          go_enter Tryd.func28, Tryd.ntmps28
          go_wp2_with fail
          go_ret
          exact ⟨rfl, HB.out⟩
      · rw [decide_eq_false (by omega)] at hr
        subst hr
        clear h1 h4
        go_enter Tryd.func28, Tryd.ntmps28
        go_wp2_with fail
        go_ret
        exact ⟨rfl, HB.out⟩
end Go.Proofs.YthncifbnkednlaaDoor
