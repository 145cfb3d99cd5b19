/- Scenes as texts, in plain Lean: numbers, cuts, point lines, a whole text. -/
import Derived.Lib.Atoi
import Derived.Lib.IndexMore
import Derived.Lib.Split
import Derived.Lib.Strings
namespace Go.Proofs.YthncifbnkednlaaDoor
set_option linter.unusedVariables false
set_option linter.unusedSimpArgs false

abbrev Bs := List UInt8
def digB (c : UInt8) : Bool := decide (48 ≤ c.toNat ∧ c.toNat ≤ 57)
def decV (l : Bs) : Nat := l.foldl (fun n c => 10 * n + (c.toNat - 48)) 0
def badN (l : Bs) : Bool := decide (l.length = 0 ∨ 9 < l.length ∨ (1 < l.length ∧ l[0]? = some 48))
def numL (l : Bs) : Option Nat := if badN l = true then none else if l.all digB = true then some (decV l) else none

theorem decV_snoc (l : Bs) (c : UInt8) : decV (l ++ [c]) = 10 * decV l + (c.toNat - 48) := by unfold decV; rw [List.foldl_append]; rfl
theorem decV_le : ∀ (l : Bs), l.all digB = true → decV l < 10 ^ l.length := by
  intro l
  induction hn : l.length generalizing l with
  | zero => intro _; obtain rfl : l = [] := List.eq_nil_of_length_eq_zero hn; decide
  | succ n ih =>
    intro h
    obtain ⟨m, c, rfl⟩ : ∃ m c, l = m ++ [c] := ⟨l.dropLast, l.getLast (by intro e; rw [e] at hn; simp at hn), (List.dropLast_concat_getLast _).symm⟩
    rw [List.length_append] at hn
    simp only [List.length_cons, List.length_nil] at hn
    rw [List.all_append, Bool.and_eq_true] at h
    have h1 := ih m (by omega) h.1
    have h2 : digB c = true := by simpa using h.2
    unfold digB at h2
    rw [decide_eq_true_iff] at h2
    rw [decV_snoc, Nat.pow_succ]
    omega
theorem numL_lt {l : Bs} {n : Nat} (h : numL l = some n) : n < 1000000000 ∧ l.length ≤ 9 ∧ 0 < l.length := by
  unfold numL at h
  split at h
  · cases h
  · rename_i hb
    split at h
    · rename_i ha
      cases h
      have := decV_le l ha
      unfold badN at hb
      rw [decide_eq_true_iff] at hb
      have h9 : l.length ≤ 9 := by omega
      have : (10 : Nat) ^ l.length ≤ 10 ^ 9 := Nat.pow_le_pow_right (by omega) h9
      exact ⟨by omega, h9, by omega⟩
    · cases h

theorem digitVal_dig {c : UInt8} (h : digB c = true) : Lib.digitVal c = some (c.toNat - 48) := by
  unfold digB at h
  rw [decide_eq_true_iff] at h
  unfold Lib.digitVal
  rw [if_pos h]
theorem decFrom_dig : ∀ (l : Bs) (acc : Nat), l.all digB = true → Lib.decFrom acc l = some (l.foldl (fun n c => 10 * n + (c.toNat - 48)) acc) := by
  intro l
  induction l with
  | nil => intro acc _; rfl
  | cons b l ih =>
    intro acc h
    rw [List.all_cons, Bool.and_eq_true] at h
    unfold Lib.decFrom
    rw [digitVal_dig h.1]
    simp only [List.foldl_cons]
    rw [ih _ h.2, Nat.mul_comm acc 10]
theorem numL_some {l : Bs} {n : Nat} (h : numL l = some n) : badN l = false ∧ l.all digB = true ∧ n = decV l := by
  unfold numL at h
  split at h
  · cases h
  · rename_i hb
    split at h
    · rename_i ha; cases h; exact ⟨by simpa using hb, ha, rfl⟩
    · cases h
theorem atoi_dig {l : Bs} (h0 : l ≠ []) (ha : l.all digB = true) : Lib.atoi l = some (decV l : Int) := by
  cases l with
  | nil => exact absurd rfl h0
  | cons b r =>
    have hd : digB b = true := by rw [List.all_cons, Bool.and_eq_true] at ha; exact ha.1
    unfold digB at hd
    rw [decide_eq_true_iff] at hd
    have h1 : (b == 45) = false := by rw [beq_eq_false_iff_ne]; rintro rfl; simp at hd
    have h2 : (b == 43) = false := by rw [beq_eq_false_iff_ne]; rintro rfl; simp at hd
    unfold Lib.atoi
    simp only
    rw [h1, h2, if_neg (by decide), if_neg (by decide)]
    unfold Lib.decNat
    rw [if_neg (by simp), decFrom_dig _ _ ha]
    rfl

/-! ### cuts -/
def cut1 (c : UInt8) : Bs → Bs × Bs × Bool
  | [] => ([], [], false)
  | b :: l => if b = c then ([], l, true) else (b :: (cut1 c l).1, (cut1 c l).2.1, (cut1 c l).2.2)
theorem cut1_no {c : UInt8} : ∀ {l : Bs}, (cut1 c l).2.2 = false → (cut1 c l).1 = l ∧ (cut1 c l).2.1 = [] ∧ c ∉ l := by
  intro l
  induction l with
  | nil => intro _; exact ⟨rfl, rfl, by simp⟩
  | cons b l ih =>
    unfold cut1
    by_cases h : b = c
    · rw [if_pos h]; intro e; cases e
    · rw [if_neg h]
      intro e
      obtain ⟨h1, h2, h3⟩ := ih e
      exact ⟨by simp only; rw [h1], h2, by simp [h3]; exact fun e => h e.symm⟩
theorem cut1_yes {c : UInt8} : ∀ {l : Bs}, (cut1 c l).2.2 = true → l = (cut1 c l).1 ++ c :: (cut1 c l).2.1 ∧ c ∉ (cut1 c l).1 := by
  intro l
  induction l with
  | nil => intro h; cases h
  | cons b l ih =>
    unfold cut1
    by_cases h : b = c
    · rw [if_pos h]; intro _; subst h; exact ⟨rfl, by simp⟩
    · rw [if_neg h]
      intro e
      obtain ⟨h1, h2⟩ := ih e
      refine ⟨by simp only; conv => lhs; rw [h1]
                 rfl, ?_⟩
      simp only [List.mem_cons, not_or]
      exact ⟨fun e => h e.symm, h2⟩
theorem cut1_len (c : UInt8) (l : Bs) : (cut1 c l).2.1.length ≤ l.length ∧ ((cut1 c l).2.2 = true → (cut1 c l).2.1.length < l.length) := by
  cases h : (cut1 c l).2.2 with
  | false => rw [(cut1_no h).2.1]; exact ⟨Nat.zero_le _, fun h => by cases h⟩
  | true =>
    have := congrArg List.length (cut1_yes h).1
    rw [List.length_append, List.length_cons] at this
    exact ⟨by omega, fun _ => by omega⟩
theorem index1 (c : UInt8) : ∀ l : Bs, Lib.index l [c] = if (cut1 c l).2.2 = true then ((cut1 c l).1.length : Int) else -1 := by
  intro l
  induction l with
  | nil => rfl
  | cons b l ih =>
    unfold Lib.index cut1
    by_cases h : b = c
    · subst h; simp
    · rw [if_neg h]
      have h2 : ([c].isPrefixOf (b :: l)) = false := by simp [List.isPrefixOf, show (c == b) = false by simp; exact fun e => h e.symm]
      rw [h2, if_neg (by decide), ih]
      simp only
      cases h3 : (cut1 c l).2.2 with
      | true => rw [if_pos rfl, if_pos rfl, if_neg (by simp)]; simp
      | false => rfl
theorem cut_one (c : UInt8) (l : Bs) : Lib.cut l [c] = cut1 c l := by
  have hi := index1 c l
  unfold Lib.cut
  cases h : (cut1 c l).2.2 with
  | false =>
    rw [h, if_neg (by decide)] at hi
    rw [hi, if_neg (by decide)]
    obtain ⟨h1, h2, -⟩ := cut1_no h
    exact Prod.ext h1.symm (Prod.ext h2.symm h.symm)
  | true =>
    rw [h, if_pos rfl] at hi
    rw [hi, if_pos (Int.natCast_nonneg _), Int.toNat_natCast]
    have hy := (cut1_yes h).1
    generalize cut1 c l = r at *
    obtain ⟨r1, r2, r3⟩ := r
    simp only at hy h
    subst hy h
    simp

/-! ### the words of a line -/
def splitW : Nat → Bs → List Bs
  | 0, l => [l]
  | f + 1, l => if (cut1 32 l).2.2 = true then (cut1 32 l).1 :: splitW f (cut1 32 l).2.1 else [l]
def wordsL : List Bs := [[110, 111, 110, 101], [115, 116, 101, 112], [121, 111, 117, 110, 103], [109, 97, 106, 111, 114], [109, 111, 100, 101], [99, 111, 109, 112, 97, 99, 116]]
/-- What follows a point's word: how many; none: it may not be. -/
def timesL (more : Bool) (rest : Bs) : Option Nat :=
  if more = false then some 1 else match rest with
    | [] => none
    | b :: r => if b = 120 then (match numL r with | some m => if 2 ≤ m then some m else none | none => none) else none
/-- A point line: kind, N, how many. -/
def lineP (l : Bs) : Option (Nat × Nat × Nat) :=
  let c := cut1 32 l
  let k := wordsL.idxOf c.1
  if 6 ≤ k then none
  else if k = 1 ∨ k = 4 then
    if c.2.2 = false then none else
      let d := cut1 32 c.2.1
      match numL d.1 with
      | none => none
      | some n => if k = 4 ∧ 1 < n then none else (timesL d.2.2 d.2.1).map fun m => (k, n, m)
  else (timesL c.2.2 c.2.1).map fun m => (k, 0, m)

/-! ### a whole text -/
structure Sc where
  size : Nat
  steps : Nat
  pts : List (Nat × Nat)
  src : Bs
def zeroSc : Sc := ⟨0, 0, [], []⟩
def sizeW : Bs := [115, 105, 122, 101, 32]
def stepsW : Bs := [115, 116, 101, 112, 115, 32]
def sourceW : Bs := [115, 111, 117, 114, 99, 101]
def afterL (w l : Bs) : Option Nat := if w.isPrefixOf l = true then numL (l.drop w.length) else none

/-- One line, by its number: the scene so far and whether it is done; or an error. -/
def lineStep (i : Nat) (x : Sc) (line : Bs) : Except Nat (Sc × Bool) :=
  if i = 0 then match afterL sizeW line with
    | none => .error 6
    | some n => if n < 1 ∨ 65536 < n then .error 7 else .ok ({ x with size := n }, false)
  else if i = 1 then match afterL stepsW line with
    | none => .error 6
    | some n => if 20000 < n then .error 7 else .ok ({ x with steps := n }, false)
  else if line = sourceW then .ok (x, true)
  else match lineP line with
    | none => .error 6
    | some (k, n, m) => if 4000 < x.pts.length + m then .error 4 else .ok ({ x with pts := x.pts ++ List.replicate m (k, n) }, false)
def parseF : Nat → Nat → Sc → Bs → Sc × Nat × Nat
  | 0, i, _, _ => (zeroSc, i, 6)
  | f + 1, i, x, s =>
    if (cut1 10 s).2.2 = false then (zeroSc, i, 6)
    else match lineStep i x (cut1 10 s).1 with
      | .error e => (zeroSc, i, e)
      | .ok (y, true) => if 8192 < (cut1 10 s).2.1.length then (zeroSc, i, 3) else ({ y with src := (cut1 10 s).2.1 }, 0, 0)
      | .ok (y, false) => parseF f (i + 1) y (cut1 10 s).2.1
def parseD (s : Bs) : Sc × Nat × Nat := if 73728 < s.length then (zeroSc, 0, 3) else parseF (s.length + 1) 0 zeroSc s

theorem parseF_eq : ∀ (f g i : Nat) (x : Sc) (s : Bs), s.length < f → s.length < g → parseF f i x s = parseF g i x s := by
  intro f
  induction f with
  | zero => intro g i x s h; omega
  | succ f ih =>
    intro g i x s h hg
    obtain ⟨g, rfl⟩ : ∃ g', g = g' + 1 := ⟨g - 1, by omega⟩
    unfold parseF
    by_cases hc : (cut1 10 s).2.2 = false
    · rw [if_pos hc, if_pos hc]
    · rw [if_neg hc, if_neg hc]
      have hl := (cut1_len 10 s).2 (by simpa using hc)
      split
      · rfl
      · rfl
      · exact ih g (i + 1) _ _ (by omega) (by omega)
/-- What is left to read: the answer from line i on. -/
def restP (i : Nat) (x : Sc) (s : Bs) : Sc × Nat × Nat := parseF (s.length + 1) i x s
theorem restP_no {i : Nat} {x : Sc} {s : Bs} (h : (cut1 10 s).2.2 = false) : restP i x s = (zeroSc, i, 6) := by unfold restP parseF; rw [if_pos h]
theorem restP_err {i e : Nat} {x : Sc} {s : Bs} (h : (cut1 10 s).2.2 = true) (hl : lineStep i x (cut1 10 s).1 = .error e) : restP i x s = (zeroSc, i, e) := by
  unfold restP parseF; rw [if_neg (by rw [h]; decide), hl]
theorem restP_done {i : Nat} {x y : Sc} {s : Bs} (h : (cut1 10 s).2.2 = true) (hl : lineStep i x (cut1 10 s).1 = .ok (y, true)) :
    restP i x s = if 8192 < (cut1 10 s).2.1.length then (zeroSc, i, 3) else ({ y with src := (cut1 10 s).2.1 }, 0, 0) := by
  unfold restP parseF; rw [if_neg (by rw [h]; decide), hl]
theorem restP_next {i : Nat} {x y : Sc} {s : Bs} (h : (cut1 10 s).2.2 = true) (hl : lineStep i x (cut1 10 s).1 = .ok (y, false)) :
    restP i x s = restP (i + 1) y (cut1 10 s).2.1 := by
  have hlt := (cut1_len 10 s).2 h
  conv => lhs; unfold restP parseF
  rw [if_neg (by rw [h]; decide), hl]
  exact parseF_eq _ _ _ _ _ (by omega) (by omega)
theorem parseD_rest {s : Bs} (h : ¬ 73728 < s.length) : parseD s = restP 0 zeroSc s := by unfold parseD; rw [if_neg h]; rfl
theorem parseD_long {s : Bs} (h : 73728 < s.length) : parseD s = (zeroSc, 0, 3) := by unfold parseD; rw [if_pos h]
end Go.Proofs.YthncifbnkednlaaDoor
