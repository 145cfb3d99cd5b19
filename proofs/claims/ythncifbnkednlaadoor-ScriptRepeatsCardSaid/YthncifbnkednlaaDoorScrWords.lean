/- The words of a line, as strings.Split gives them. -/
import Derived.Test.YthncifbnkednlaaDoorScrBase
import Derived.Lib.SplitLaws
namespace Go.Proofs.YthncifbnkednlaaDoor
open Go.RowKit Go.Shelf
set_option linter.unusedVariables false
set_option linter.unusedSimpArgs false

def wsL (l : Bs) : List Bs := Lib.splitK [32] 0 (Lib.count l [32]) l
theorem ws_no {l : Bs} (h : (cut1 32 l).2.2 = false) : wsL l = [l] := by
  have hi := index1 32 l
  rw [h, if_neg (by decide)] at hi
  unfold wsL
  rw [Lib.count_miss hi]; rfl
theorem ws_yes {l : Bs} (h : (cut1 32 l).2.2 = true) : wsL l = (cut1 32 l).1 :: wsL (cut1 32 l).2.1 := by
  have hi := index1 32 l
  rw [h, if_pos rfl] at hi
  have hy := (cut1_yes h).1
  unfold wsL
  have hd : l.drop ((cut1 32 l).1.length + 1) = (cut1 32 l).2.1 := by
    generalize cut1 32 l = r at *
    rw [hy]; simp
  have ht : l.take ((cut1 32 l).1.length) = (cut1 32 l).1 := by
    generalize cut1 32 l = r at *
    rw [hy]; simp
  rw [Lib.count_hit (by simp) hi, show ([32] : Bs).length = 1 from rfl, hd, Nat.add_comm 1]
  unfold Lib.splitK
  rw [hi, if_neg (by simp), Int.toNat_natCast, Nat.add_zero, ht, show ([32] : Bs).length = 1 from rfl, hd]
  cases hc : Lib.count (cut1 32 l).2.1 [32] with
  | zero => rfl
  | succ n => rfl
theorem ws_len : ∀ (n : Nat) (l : Bs), l.length ≤ n → (wsL l).length = Lib.count l [32] + 1 := by
  intro n
  induction n with
  | zero =>
    intro l h
    obtain rfl : l = [] := List.eq_nil_of_length_eq_zero (by omega)
    rfl
  | succ n ih =>
    intro l h
    cases hc : (cut1 32 l).2.2 with
    | false =>
      have hi := index1 32 l
      rw [hc, if_neg (by decide)] at hi
      rw [ws_no hc, Lib.count_miss hi]; rfl
    | true =>
      have hi := index1 32 l
      rw [hc, if_pos rfl] at hi
      have hd : l.drop ((cut1 32 l).1.length + 1) = (cut1 32 l).2.1 := by
        have hy := (cut1_yes hc).1
        generalize cut1 32 l = r at *
        rw [hy]; simp
      have := (cut1_len 32 l).2 hc
      rw [ws_yes hc, List.length_cons, ih _ (by omega), Lib.count_hit (by simp) hi, show ([32] : Bs).length = 1 from rfl, hd]
      omega
theorem ws_cells (s : ByteArray) : (Lib.splitB (str [32]) 0 (Lib.countB s (str [32])) s).map Value.string = (wsL (bs s)).map fun x => Value.string (str x) := by
  have := Lib.splitB_data (str [32]) 0 (Lib.countB s (str [32])) s
  unfold wsL
  show _ = (Lib.splitK (str [32]).data.toList 0 (Lib.countB s (str [32])) s.data.toList).map _
  rw [← this, List.map_map]
  rfl
theorem ws_count (s : ByteArray) : Lib.countB s (str [32]) + 1 = (wsL (bs s)).length := (ws_len _ _ (Nat.le_refl _)).symm
theorem ws_pos (l : Bs) : ∃ h t, wsL l = h :: t := by
  cases hc : (cut1 32 l).2.2 with
  | false => exact ⟨_, _, ws_no hc⟩
  | true => exact ⟨_, _, ws_yes hc⟩
theorem ws_head (l : Bs) : ∃ t, wsL l = (cut1 32 l).1 :: t := by
  cases hc : (cut1 32 l).2.2 with
  | false => exact ⟨[], by rw [ws_no hc, (cut1_no hc).1]⟩
  | true => exact ⟨_, ws_yes hc⟩
theorem numL_blank {l : Bs} (h : (32 : UInt8) ∈ l) : numL l = none := by
  unfold numL
  split
  · rfl
  · rw [if_neg]
    intro ha
    have := List.all_eq_true.1 ha 32 h
    revert this
    decide

def headX (h : Bs) : Bool := Lib.hasPrefix h [120]
def tailX (h : Bs) : Bs := Lib.trimPrefix h [120]
theorem headX_yes (r : Bs) : headX (120 :: r) = true := by unfold headX Lib.hasPrefix; simp [List.isPrefixOf]
theorem headX_no {b : UInt8} (r : Bs) (h : b ≠ 120) : headX (b :: r) = false := by unfold headX Lib.hasPrefix; simp [List.isPrefixOf]; exact fun e => h e.symm
theorem tailX_yes (r : Bs) : tailX (120 :: r) = r := by
  have h := headX_yes r
  unfold headX at h
  unfold tailX Lib.trimPrefix
  rw [if_pos h]; rfl
theorem times_one {l : Bs} (hc : (cut1 32 l).2.2 = false) : timesL true l = if (numL (tailX l)).isSome && headX l && decide (2 ≤ (numL (tailX l)).getD 0) then numL (tailX l) else none := by
  unfold timesL
  rw [if_neg (by decide)]
  cases l with
  | nil => rfl
  | cons b r =>
    simp only
    by_cases hb : b = 120
    · subst hb
      rw [if_pos rfl, headX_yes, tailX_yes]
      cases numL r with
      | none => rfl
      | some m => simp
    · rw [if_neg hb, headX_no r hb]
      simp
theorem times_more {l : Bs} (hc : (cut1 32 l).2.2 = true) : timesL true l = none := by
  have hy := (cut1_yes hc).1
  have hm : (32 : UInt8) ∈ l := by rw [hy]; simp
  unfold timesL
  rw [if_neg (by decide)]
  cases l with
  | nil => rfl
  | cons b r =>
    simp only
    by_cases hb : b = 120
    · subst hb
      rw [if_pos rfl, numL_blank (by simpa using hm)]
    · rw [if_neg hb]
end Go.Proofs.YthncifbnkednlaaDoor
