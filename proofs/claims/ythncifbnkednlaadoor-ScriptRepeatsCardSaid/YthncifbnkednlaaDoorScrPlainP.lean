/- Print in plain Lean: a scene's text, or why it has none. -/
import Derived.Test.YthncifbnkednlaaDoorScrEnv
import Derived.Lib.ItoaNum
namespace Go.Proofs.YthncifbnkednlaaDoor
set_option linter.unusedVariables false
set_option linter.unusedSimpArgs false

abbrev Pt := Int × Int
def decZ (n : Int) : Bs := Lib.decDigits n.toNat
def mostZ (k : Int) : Int := maxL[k.toNat]?.getD 0
def wordZ (k : Int) : Bs := wordsL[k.toNat]?.getD []
def fitsZ (p : Pt) : Bool := decide (0 ≤ p.1 ∧ p.1 < 6 ∧ 0 ≤ p.2 ∧ p.2 ≤ max 0 (mostZ p.1))
/-- A run's line: the point, how many there are of it. -/
def lineZ (p : Pt) (n : Nat) : Bs := wordZ p.1 ++ (if 0 ≤ mostZ p.1 then 32 :: decZ p.2 else []) ++ (if 1 < n then 32 :: 120 :: decZ n else []) ++ [10]
/-- The point lines; n points like the first one were met ahead; none: a point does not fit. -/
def bodyR : Nat → List Pt → Option Bs
  | _, [] => some []
  | n, p :: l => if fitsZ p = true then (if l.head? = some p then bodyR (n + 1) l else (bodyR 0 l).map (lineZ p (n + 1) ++ ·)) else none
def headZ (size steps : Int) : Bs := [115, 105, 122, 101, 32] ++ decZ size ++ [10, 115, 116, 101, 112, 115, 32] ++ decZ steps ++ [10]
def tailZ (src : Bs) : Bs := [115, 111, 117, 114, 99, 101, 10] ++ src
def printZ (size steps : Int) (pts : List Pt) (src : Bs) : Bs × Nat :=
  if size < 1 ∨ 65536 < size ∨ steps < 0 ∨ 20000 < steps then ([], 7)
  else if 4000 < pts.length then ([], 4)
  else match bodyR 0 pts with
    | none => ([], 6)
    | some t => if 8192 < src.length then ([], 3) else (headZ size steps ++ t ++ tailZ src, 0)

theorem fitsZ_iff (p : Pt) : fitsZ p = true ↔ 0 ≤ p.1 ∧ p.1 < 6 ∧ 0 ≤ p.2 ∧ p.2 ≤ max 0 (mostZ p.1) := by unfold fitsZ; rw [decide_eq_true_iff]
theorem fitsZ_cases {k N : Int} (h : fitsZ (k, N) = true) : 0 ≤ k ∧ k < 6 ∧ 0 ≤ N ∧ N ≤ 999999999 ∧ (k ≠ 1 → k ≠ 4 → N = 0) ∧ (k = 4 → N ≤ 1) := by
  rw [fitsZ_iff] at h
  obtain ⟨h1, h2, h3, h4⟩ := h
  simp only at h1 h2 h3 h4
  obtain rfl | rfl | rfl | rfl | rfl | rfl : k = 0 ∨ k = 1 ∨ k = 2 ∨ k = 3 ∨ k = 4 ∨ k = 5 := by omega
  all_goals
    simp [mostZ, maxL] at h4
    omega
theorem most_iff {k : Int} (h0 : 0 ≤ k) (h6 : k < 6) : 0 ≤ mostZ k ↔ k = 1 ∨ k = 4 := by
  obtain rfl | rfl | rfl | rfl | rfl | rfl : k = 0 ∨ k = 1 ∨ k = 2 ∨ k = 3 ∨ k = 4 ∨ k = 5 := by omega
  all_goals simp [mostZ, maxL]
theorem bodyR_no {n : Nat} {p : Pt} {l : List Pt} (h : fitsZ p = false) : bodyR n (p :: l) = none := by
  unfold bodyR; rw [if_neg (by rw [h]; decide)]
theorem bodyR_same {n : Nat} {p : Pt} {l : List Pt} (h : fitsZ p = true) (hh : l.head? = some p) : bodyR n (p :: l) = bodyR (n + 1) l := by
  conv => lhs; unfold bodyR
  rw [if_pos h, if_pos hh]
theorem bodyR_end {n : Nat} {p : Pt} {l : List Pt} (h : fitsZ p = true) (hh : l.head? ≠ some p) : bodyR n (p :: l) = (bodyR 0 l).map (lineZ p (n + 1) ++ ·) := by
  conv => lhs; unfold bodyR
  rw [if_pos h, if_neg hh]
theorem bodyR_nil (n : Nat) : bodyR n [] = some [] := rfl

/-- What is left behind the text so far. -/
def withZ (acc : Bs) (src : Bs) (r : Option Bs) : Bs × Nat := match r with
  | none => ([], 6)
  | some t => if 8192 < src.length then ([], 3) else (acc ++ t ++ tailZ src, 0)
theorem printZ_range {size steps : Int} {pts : List Pt} {src : Bs} (h : size < 1 ∨ 65536 < size ∨ steps < 0 ∨ 20000 < steps) : printZ size steps pts src = ([], 7) := by unfold printZ; rw [if_pos h]
theorem printZ_many {size steps : Int} {pts : List Pt} {src : Bs} (h : ¬ (size < 1 ∨ 65536 < size ∨ steps < 0 ∨ 20000 < steps)) (hm : 4000 < pts.length) : printZ size steps pts src = ([], 4) := by unfold printZ; rw [if_neg h, if_pos hm]
theorem printZ_with {size steps : Int} {pts : List Pt} {src : Bs} (h : ¬ (size < 1 ∨ 65536 < size ∨ steps < 0 ∨ 20000 < steps)) (hm : ¬ 4000 < pts.length) : printZ size steps pts src = withZ (headZ size steps) src (bodyR 0 pts) := by unfold printZ; rw [if_neg h, if_neg hm]; rfl
theorem withZ_map (acc src x : Bs) (r : Option Bs) : withZ acc src (r.map (x ++ ·)) = withZ (acc ++ x) src r := by
  cases r with
  | none => rfl
  | some t => simp [withZ, List.append_assoc]

theorem decDigits_len (n : Nat) : ∀ k, n < 10 ^ (k + 1) → (Lib.decDigits n).length ≤ k + 1 := by
  intro k
  induction k generalizing n with
  | zero => intro h; unfold Lib.decDigits; rw [dif_pos (by simpa using h)]; simp
  | succ k ih =>
    intro h
    unfold Lib.decDigits
    split
    · simp
    · rw [List.length_append]
      have := ih (n / 10) (by rw [Nat.pow_succ] at h; omega)
      simp; omega
theorem decZ_len {n : Int} (h0 : 0 ≤ n) (h : n ≤ 999999999) : (decZ n).length ≤ 9 := by
  unfold decZ
  exact decDigits_len _ 8 (by have : (10 : Nat) ^ 9 = 1000000000 := by decide
                              omega)
theorem wordZ_len {k : Int} (h0 : 0 ≤ k) (h6 : k < 6) : (wordZ k).length ≤ 7 := by
  obtain rfl | rfl | rfl | rfl | rfl | rfl : k = 0 ∨ k = 1 ∨ k = 2 ∨ k = 3 ∨ k = 4 ∨ k = 5 := by omega
  all_goals decide
theorem lineZ_len {p : Pt} {n : Nat} (h : fitsZ p = true) (hn : n ≤ 4000) : (lineZ p n).length ≤ 100 := by
  obtain ⟨k, N⟩ := p
  obtain ⟨h1, h2, h3, h4, -, -⟩ := fitsZ_cases h
  have hw := wordZ_len h1 h2
  have hd := decZ_len h3 h4
  have he := decZ_len (n := (n : Int)) (by omega) (by omega)
  unfold lineZ
  simp only [List.length_append, List.length_cons, List.length_nil]
  split <;> split <;> simp only [List.length_cons, List.length_nil] <;> omega
end Go.Proofs.YthncifbnkednlaaDoor
