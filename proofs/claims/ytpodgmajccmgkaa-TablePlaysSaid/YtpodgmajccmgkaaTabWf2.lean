/- The pairs of such tables; how many they are; what put and renew make of them: in plain Lean. -/
import Derived.Test.YtpodgmajccmgkaaTabWf
namespace Go.Proofs.Ytpodgmajccmgkaa
set_option linter.unusedVariables false
set_option linter.unusedSimpArgs false

variable {T T' : Tb}

/-! ### the pairs -/
theorem arrP_eq (T : Tb) (i : Nat) : arrP T i = if (aN T i).t = 0 then none else some ⟨i, ⟨2, (i : Int) + 1⟩, aN T i⟩ := rfl
theorem nodP_eq (T : Tb) (i : Nat) : nodP T i = if (vN T i).t = 0 then none else some ⟨T.a + 2 * i + 1, kN T i, vN T i⟩ := rfl

theorem mem_pairs {x : Pr} : x ∈ pairsL T ↔ (∃ i, i < T.a ∧ (aN T i).t ≠ 0 ∧ x = ⟨i, ⟨2, (i : Int) + 1⟩, aN T i⟩) ∨ (∃ j, j < T.nodes ∧ (vN T j).t ≠ 0 ∧ x = ⟨T.a + 2 * j + 1, kN T j, vN T j⟩) := by
  unfold pairsL arrL nodL
  rw [List.mem_append, List.mem_filterMap, List.mem_filterMap]
  refine or_congr ?_ ?_
  · constructor
    · rintro ⟨i, hi, h⟩
      rw [arrP_eq] at h
      split at h
      · cases h
      · rename_i h0
        exact ⟨i, List.mem_range.1 hi, h0, by simpa using h.symm⟩
    · rintro ⟨i, hi, h0, rfl⟩
      exact ⟨i, List.mem_range.2 hi, by rw [arrP_eq, if_neg h0]⟩
  · constructor
    · rintro ⟨i, hi, h⟩
      rw [nodP_eq] at h
      split at h
      · cases h
      · rename_i h0
        exact ⟨i, List.mem_range.1 hi, h0, by simpa using h.symm⟩
    · rintro ⟨i, hi, h0, rfl⟩
      exact ⟨i, List.mem_range.2 hi, by rw [nodP_eq, if_neg h0]⟩

/-- What lies at a key. -/
def valT (T : Tb) (k : V) : V := if (findT T k).1 < 0 then nilV else slotT T (findT T k).1
theorem getT_val {k k' : V} (h : keyR k = some k') : getT T k = valT T k' := by unfold getT valT; rw [h]
theorem getT_none {k : V} (h : keyR k = none) : getT T k = nilV := by unfold getT; rw [h]

theorem find_arr {i : Nat} (hi : i < T.a) : findT T ⟨2, (i : Int) + 1⟩ = ((i : Int), -1) := by
  unfold findT
  rw [if_pos ⟨rfl, by show (1 : Int) ≤ (i : Int) + 1; omega, by show (i : Int) + 1 ≤ T.a; omega⟩]
  show ((i : Int) + 1 - 1, (-1 : Int)) = _
  rw [show (i : Int) + 1 - 1 = i by omega]

/-- Each pair's key is found at its place. -/
theorem WF.pair (H : WF T) {x : Pr} (hx : x ∈ pairsL T) : findT T x.k = ((x.i : Int), -1) ∧ keyR x.k = some x.k ∧ slotT T (x.i : Int) = x.v ∧ x.v.t ≠ 0 := by
  rcases mem_pairs.1 hx with ⟨i, hi, h0, rfl⟩ | ⟨j, hj, h0, rfl⟩
  · exact ⟨find_arr hi, keyR_int _, rfl, h0⟩
  · have hu : (kN T j).t ≠ 0 := fun h => h0 (H.free j hj (.inl h))
    obtain ⟨g1, g2, g3⟩ := H.good j hj hu (fun h => h0 (H.free j hj (.inr h)))
    exact ⟨g3, g1, rfl, h0⟩
theorem WF.pair_val (H : WF T) {x : Pr} (hx : x ∈ pairsL T) : valT T x.k = x.v := by
  obtain ⟨h1, -, h3, -⟩ := H.pair hx
  unfold valT
  rw [h1, if_neg (by show ¬ (x.i : Int) < 0; omega)]
  exact h3
theorem WF.pair_eq (H : WF T) {x y : Pr} (hx : x ∈ pairsL T) (hy : y ∈ pairsL T) (h : x.k = y.k) : x = y := by
  obtain ⟨h1, -, h3, -⟩ := H.pair hx
  obtain ⟨k1, -, k3, -⟩ := H.pair hy
  rw [h] at h1
  have hi : x.i = y.i := by have := h1.symm.trans k1; simp only [Prod.mk.injEq, Int.natCast_inj] at this; exact this.1
  obtain ⟨xi, xk, xv⟩ := x
  obtain ⟨yi, yk, yv⟩ := y
  simp only at hi h h3 k3
  subst hi; subst h
  rw [← h3, ← k3]

/-- A found key is at an array slot, or at a node that bears it. -/
theorem find_at {k : V} {r : Int} (hr : 0 ≤ r) (h : (findT T k).1 = r) : (inA T k ∧ ∃ i, i < T.a ∧ r = (i : Int) ∧ k = ⟨2, (i : Int) + 1⟩) ∨ (¬ inA T k ∧ ∃ j, j < T.nodes ∧ r = ((T.a + 2 * j + 1 : Nat) : Int) ∧ kN T j = k) := by
  by_cases hin : inA T k
  · refine .inl ⟨hin, (k.n - 1).toNat, ?_, ?_, ?_⟩
    · unfold inA at hin; omega
    · unfold findT at h; unfold inA at hin; rw [if_pos hin] at h; simp only at h; omega
    · obtain ⟨kt, kn⟩ := k
      unfold inA at hin
      simp only at hin
      rw [V.mk.injEq]
      exact ⟨hin.1, by simp only; omega⟩
  · refine .inr ⟨hin, ?_⟩
    unfold findT at h
    unfold inA at hin
    rw [if_neg hin] at h
    rcases (findL_range (T := T) k (wayL T k)).1 with h1 | ⟨y, hy, h1, h2⟩
    · omega
    · exact ⟨y, wayL_lt k y hy, h.symm.trans h1, h2⟩

/-- A value that is got is a pair's. -/
theorem val_pair {k : V} (h : (valT T k).t ≠ 0) : ∃ x, x ∈ pairsL T ∧ x.k = k ∧ x.v = valT T k ∧ (findT T k).1 = (x.i : Int) := by
  unfold valT at h ⊢
  split at h
  · exact absurd rfl h
  · rename_i hr
    rw [if_neg hr]
    rcases find_at (T := T) (k := k) (r := (findT T k).1) (by omega) rfl with ⟨-, i, hi, h1, h2⟩ | ⟨-, j, hj, h1, h2⟩
    · rw [h1] at h ⊢
      exact ⟨⟨i, ⟨2, (i : Int) + 1⟩, aN T i⟩, mem_pairs.2 (.inl ⟨i, hi, h, rfl⟩), h2.symm, rfl, rfl⟩
    · rw [h1] at h ⊢
      exact ⟨⟨T.a + 2 * j + 1, kN T j, vN T j⟩, mem_pairs.2 (.inr ⟨j, hj, h, rfl⟩), h2, rfl, rfl⟩

/-! ### how many pairs -/
theorem arr_len_set {T T' : Tb} {j : Nat} (h : ∀ i, i ≠ j → aN T' i = aN T i) : ∀ n, (arrL T' n).length ≤ (arrL T n).length + if j < n then 1 else 0 := by
  intro n
  induction n with
  | zero => simp [arrL]
  | succ n ih =>
    rw [arrL_succ, arrL_succ, List.length_append, List.length_append, arrP_eq, arrP_eq]
    by_cases hj : n = j
    · subst hj
      rw [if_neg (Nat.lt_irrefl n)] at ih
      rw [if_pos (Nat.lt_succ_self n)]
      split <;> split <;> simp <;> omega
    · rw [h n hj]
      by_cases h1 : j < n
      · rw [if_pos h1] at ih; rw [if_pos (show j < n + 1 by omega)]; omega
      · rw [if_neg h1] at ih; rw [if_neg (show ¬ j < n + 1 by omega)]; omega
theorem nod_len_set {T T' : Tb} {j : Nat} (h : ∀ i, i ≠ j → vN T' i = vN T i) : ∀ n, (nodL T' n).length ≤ (nodL T n).length + if j < n then 1 else 0 := by
  intro n
  induction n with
  | zero => simp [nodL]
  | succ n ih =>
    rw [nodL_succ, nodL_succ, List.length_append, List.length_append, nodP_eq, nodP_eq]
    by_cases hj : n = j
    · subst hj
      rw [if_neg (Nat.lt_irrefl n)] at ih
      rw [if_pos (Nat.lt_succ_self n)]
      split <;> split <;> simp <;> omega
    · rw [h n hj]
      have hs : ∀ (c : Prop) [Decidable c] (x y : Pr), (if c then none else some x : Option Pr).toList.length = (if c then none else some y : Option Pr).toList.length := by
        intro c _ x y; split <;> rfl
      rw [hs _ _ ⟨T.a + 2 * n + 1, kN T n, vN T n⟩]
      by_cases h1 : j < n
      · rw [if_pos h1] at ih; rw [if_pos (show j < n + 1 by omega)]; omega
      · rw [if_neg h1] at ih; rw [if_neg (show ¬ j < n + 1 by omega)]; omega
theorem arr_len_eq {T T' : Tb} : ∀ n, (∀ i, i < n → aN T' i = aN T i) → (arrL T' n).length = (arrL T n).length := by
  intro n
  induction n with
  | zero => intro _; rfl
  | succ n ih =>
    intro h
    rw [arrL_succ, arrL_succ, List.length_append, List.length_append, arrP_eq, arrP_eq, h n (by omega), ih (fun i hi => h i (by omega))]

theorem pairs_setV (hle : T.a ≤ T.sl.length) {x : Nat} (hx : x < T.nodes) (v : V) : (pairsL (setT T ((T.a + 2 * x + 1 : Nat) : Int) v)).length ≤ (pairsL T).length + 1 := by
  unfold pairsL
  rw [setT_a, setT_nodes, List.length_append, List.length_append, arr_len_eq T.a (fun i hi => aN_setV hle hx v hi)]
  have := nod_len_set (j := x) (T := T) (T' := setT T ((T.a + 2 * x + 1 : Nat) : Int) v) (fun i hi => by rw [vN_setV hle hx, if_neg hi]) T.nodes
  split at this <;> omega
theorem pairs_setA (hle : T.a ≤ T.sl.length) {j : Nat} (hj : j < T.a) (v : V) : (pairsL (setT T (j : Int) v)).length ≤ (pairsL T).length + 1 := by
  unfold pairsL
  rw [setT_a, setT_nodes, List.length_append, List.length_append]
  have h1 := arr_len_set (j := j) (T := T) (T' := setT T (j : Int) v) (fun i hi => by rw [aN_setA hle hj, if_neg hi]) T.a
  have h2 := nod_len_set (j := T.nodes) (T := T) (T' := setT T (j : Int) v) (fun i hi => vN_setA hle hj v i) T.nodes
  rw [if_pos hj] at h1
  rw [if_neg (Nat.lt_irrefl _)] at h2
  omega
theorem pairs_ins (hle : T.a ≤ T.sl.length) {x : Nat} (hx : x < T.nodes) (k v : V) : (pairsL (insN T x k v)).length ≤ (pairsL T).length + 1 := by
  obtain ⟨s1, s2, s3⟩ := insN_shape T x k v
  unfold pairsL
  rw [s1, s2, List.length_append, List.length_append, arr_len_eq T.a (fun i hi => insN_aN hle hx k v hi)]
  have := nod_len_set (j := x) (T := T) (T' := insN T x k v) (fun i hi => by rw [insN_vN hle hx, if_neg hi]) T.nodes
  split at this <;> omega

/-! ### the used nodes -/
def usedC (T : Tb) : Nat → Nat
  | 0 => 0
  | n + 1 => usedC T n + if (kN T n).t = 0 then 0 else 1
theorem used_free : ∀ n, usedC T n < n → ∃ z, z < n ∧ (kN T z).t = 0 := by
  intro n
  induction n with
  | zero => intro h; omega
  | succ n ih =>
    intro h
    unfold usedC at h
    by_cases h0 : (kN T n).t = 0
    · exact ⟨n, by omega, h0⟩
    · rw [if_neg h0] at h
      obtain ⟨z, hz, h1⟩ := ih (by omega)
      exact ⟨z, by omega, h1⟩
theorem used_set {y : Nat} (h : ∀ x, x ≠ y → kN T' x = kN T x) : ∀ n, usedC T' n ≤ usedC T n + if y < n then 1 else 0 := by
  intro n
  induction n with
  | zero => simp [usedC]
  | succ n ih =>
    unfold usedC
    by_cases hy : n = y
    · subst hy
      rw [if_neg (Nat.lt_irrefl n)] at ih
      rw [if_pos (Nat.lt_succ_self n)]
      split <;> split <;> omega
    · rw [h n hy]
      by_cases h1 : y < n
      · rw [if_pos h1] at ih; rw [if_pos (show y < n + 1 by omega)]; omega
      · rw [if_neg h1] at ih; rw [if_neg (show ¬ y < n + 1 by omega)]; omega
theorem used_congr (h : ∀ x, kN T' x = kN T x) : ∀ n, usedC T' n = usedC T n := by
  intro n
  induction n with
  | zero => rfl
  | succ n ih => unfold usedC; rw [ih, h n]
end Go.Proofs.Ytpodgmajccmgkaa
