/- What put makes of such a table; the sizes that renew takes: in plain Lean. -/
import Derived.Test.YtpodgmajccmgkaaTabWf2
namespace Go.Proofs.Ytpodgmajccmgkaa
set_option linter.unusedVariables false
set_option linter.unusedSimpArgs false

variable {T T' : Tb}

structure PutOK (T T' : Tb) (k v : V) : Prop where
  wf : WF T'
  a : T'.a = T.a
  nodes : T'.nodes = T.nodes
  cnt : (pairsL T').length ≤ (pairsL T).length + 1
  val : (valT T' k).t = v.t ∧ (v.t ≠ 0 → valT T' k = v)
  other : ∀ k', keyR k' = some k' → k' ≠ k → valT T' k' = valT T k'
  used : usedC T' T.nodes ≤ usedC T T.nodes + if T.a < (if k.t = 2 ∧ 1 ≤ k.n then k.n else (T.a : Int) + 1) then 1 else 0

theorem notA_iff (T : Tb) (k : V) : (T.a : Int) < (if k.t = 2 ∧ 1 ≤ k.n then k.n else (T.a : Int) + 1) ↔ ¬ inA T k := by
  unfold inA
  split <;> omega

theorem valT_set {i : Nat} (hi : i < T.sl.length) (v k : V) (h : ∀ x, i ≠ T.a + 2 * x) : valT (setT T (i : Int) v) k = if (findT T k).1 = (i : Int) then v else valT T k := by
  unfold valT
  rw [findT_set hi v h]
  by_cases h1 : (findT T k).1 < 0
  · rw [if_pos h1, if_pos h1, if_neg (by omega)]
  · rw [if_neg h1, if_neg h1]
    obtain ⟨r, hr⟩ : ∃ r : Nat, (findT T k).1 = (r : Int) := ⟨(findT T k).1.toNat, by omega⟩
    rw [hr, slotT_set hi]
    by_cases h2 : r = i
    · rw [if_pos h2, if_pos (by omega)]
    · rw [if_neg h2, if_neg (by omega)]

/-- Two keys at one slot are one. -/
theorem find_same {k k' : V} {r : Int} (hr : 0 ≤ r) (h : (findT T k).1 = r) (h' : (findT T k').1 = r) : k' = k := by
  rcases find_at hr h with ⟨-, i, hi, h1, h2⟩ | ⟨-, j, hj, h1, h2⟩ <;> rcases find_at hr h' with ⟨-, i', hi', h1', h2'⟩ | ⟨-, j', hj', h1', h2'⟩
  · have : i' = i := by omega
    rw [h2, h2', this]
  · omega
  · omega
  · have : j' = j := by omega
    rw [← h2, ← h2', this]

theorem put_ok (H : WF T) {k v : V} (hk : keyR k = some k) (h : (putT T k v).2 = true) : PutOK T (putT T k v).1 k v := by
  unfold putT at h ⊢
  by_cases h1 : 0 ≤ (findT T k).1
  · rw [if_pos h1]
    simp only
    rcases find_at h1 rfl with ⟨hin, i, hi, hr, hki⟩ | ⟨hin, j, hj, hr, hkj⟩
    · have hle := H.le
      have hv : ∀ k', valT (setT T (i : Int) v) k' = if (findT T k').1 = (i : Int) then v else valT T k' := fun k' => valT_set (by omega) v k' (by omega)
      rw [hr]
      refine ⟨H.setA hi v, setT_a _ _ _, setT_nodes _ _ _, pairs_setA hle hi v, ?_, ?_, ?_⟩
      · rw [hv, if_pos hr]; exact ⟨rfl, fun _ => rfl⟩
      · intro k' _ hne
        rw [hv, if_neg]
        intro he
        exact hne (find_same h1 rfl (he.trans hr.symm))
      · rw [used_congr (fun x => kN_setA hle hi v x)]; omega
    · have hle := H.le
      have hil := idx_lt hle hj
      have hv : ∀ k', valT (setT T ((T.a + 2 * j + 1 : Nat) : Int) v) k' = if (findT T k').1 = ((T.a + 2 * j + 1 : Nat) : Int) then v else valT T k' := fun k' => valT_set hil v k' (by omega)
      rw [hr]
      refine ⟨H.setV hj (by rw [hkj]; exact keyR_t hk) v, setT_a _ _ _, setT_nodes _ _ _, pairs_setV hle hj v, ?_, ?_, ?_⟩
      · rw [hv, if_pos hr]; exact ⟨rfl, fun _ => rfl⟩
      · intro k' _ hne
        rw [hv, if_neg]
        intro he
        exact hne (find_same h1 rfl (he.trans hr.symm))
      · rw [used_congr (fun x => kN_setV hle hj v x)]; omega
  · rw [if_neg h1] at h ⊢
    by_cases h2 : v.t = 0
    · rw [if_pos h2]
      have hv : valT T k = nilV := by unfold valT; rw [if_pos (by omega)]
      exact ⟨H, rfl, rfl, Nat.le_succ _, ⟨by rw [hv, h2]; rfl, fun h => absurd h2 h⟩, fun _ _ _ => rfl, Nat.le_add_right _ _⟩
    · rw [if_neg h2] at h ⊢
      by_cases h3 : 0 ≤ (findT T k).2
      · rw [if_pos h3]
        have hna : ¬ inA T k := by
          intro hin
          unfold inA at hin
          unfold findT at h1
          rw [if_pos hin] at h1
          simp only at h1
          omega
        obtain ⟨y, hf, hy, h0⟩ : ∃ y : Nat, findT T k = (-1, (y : Int)) ∧ y < T.nodes ∧ (kN T y).t = 0 := by
          have hna' := hna
          unfold inA at hna'
          have hfl : findT T k = findL T k (wayL T k) := by unfold findT; rw [if_neg hna']
          obtain ⟨g1, g2⟩ := findL_range (T := T) k (wayL T k)
          rw [hfl] at h1 h3
          rcases g2 with g2 | ⟨y, hy, g2, g3, g4⟩
          · omega
          · exact ⟨y, by rw [hfl]; exact Prod.ext g3 g2, wayL_lt k y hy, g4⟩
        have hT : setT (setT T ((T.a : Int) + 2 * (findT T k).2) k) ((T.a : Int) + 2 * (findT T k).2 + 1) v = insN T y k v := by
          unfold insN
          rw [hf]
          simp only
          rw [show (T.a : Int) + 2 * (y : Int) = ((T.a + 2 * y : Nat) : Int) by omega, show ((T.a + 2 * y : Nat) : Int) + 1 = ((T.a + 2 * y + 1 : Nat) : Int) by omega]
        simp only
        rw [hT]
        have hle := H.le
        obtain ⟨s1, s2, s3⟩ := insN_shape T y k v
        refine ⟨H.ins hy hk h0 hna hf, s1, s2, pairs_ins hle hy k v, ?_, ?_, ?_⟩
        · have hv : valT (insN T y k v) k = v := by
            unfold valT
            rw [insN_new hle hy h0 hna hf, if_neg (by simp only; omega), insN_slot hle hy, if_pos rfl]
          rw [hv]; exact ⟨rfl, fun _ => rfl⟩
        · intro k' hk' hne
          by_cases hf' : 0 ≤ (findT T k').1
          · have hfe : findT T k' = ((findT T k').1, -1) := by
              rcases find_at hf' rfl with ⟨hin, i, hi, hr, hki⟩ | ⟨hin, j, hj, hr, hkj⟩
              · rw [hki, find_arr hi]
              · have hu : (kN T j).t ≠ 0 := by rw [hkj]; exact (keyR_t hk').1
                have := (H.good j hj hu (by rw [hkj]; exact (keyR_t hk').2)).2.2
                rw [hkj] at this
                rw [this]
            have hold := insN_old (k := k) (v := v) hle hy h0 (keyR_t hk').1 hf' hfe
            unfold valT
            rw [hold, if_neg (by simp only; omega), if_neg (by omega)]
            rcases find_at hf' rfl with ⟨hin, i, hi, hr, hki⟩ | ⟨hin, j, hj, hr, hkj⟩
            · simp only
              rw [hr, insN_slot hle hy, if_neg (by omega), if_neg (by omega)]
            · have hjy : j ≠ y := by rintro rfl; rw [hkj] at h0; exact (keyR_t hk').1 h0
              simp only
              rw [hr, insN_slot hle hy, if_neg (by omega), if_neg (by omega)]
          · have h4 : (findT (insN T y k v) k').1 < 0 := by
              rcases Int.lt_or_le (findT (insN T y k v) k').1 0 with h | h
              · exact h
              · exfalso
                rcases find_at h rfl with ⟨hin, i, hi, hr, hki⟩ | ⟨hin, j, hj, hr, hkj⟩
                · rw [s1] at hi
                  apply hf'
                  rw [hki, find_arr hi]
                  exact Int.natCast_nonneg _
                · rw [s2] at hj
                  rw [insN_kN hle hy] at hkj
                  by_cases hjy : j = y
                  · rw [if_pos hjy] at hkj; exact hne hkj.symm
                  · rw [if_neg hjy] at hkj
                    have hu : (kN T j).t ≠ 0 := by rw [hkj]; exact (keyR_t hk').1
                    have := (H.good j hj hu (by rw [hkj]; exact (keyR_t hk').2)).2.2
                    rw [hkj] at this
                    apply hf'
                    rw [this]
                    exact Int.natCast_nonneg _
            unfold valT
            rw [if_pos h4, if_pos (by omega)]
        · have := used_set (T := T) (T' := insN T y k v) (y := y) (fun x hx => by rw [insN_kN hle hy, if_neg hx]) T.nodes
          rw [if_pos hy] at this
          rw [if_pos ((notA_iff T k).2 hna)]
          exact this
      · rw [if_neg h3] at h; cases h

/-! ### sizes -/
theorem stepF_iff (n : Int) : ∀ f k j, k ≤ j → j < k + f → (stepF n f k ≤ j ↔ n ≤ ((2 ^ j : Nat) : Int)) := by
  intro f
  induction f with
  | zero => intro k j h1 h2; omega
  | succ f ih =>
    intro k j h1 h2
    unfold stepF
    have hge : ∀ g m, m ≤ stepF n g m := by
      intro g
      induction g with
      | zero => intro m; exact Nat.le_refl _
      | succ g ih => intro m; unfold stepF; split; exact Nat.le_trans (Nat.le_succ m) (ih (m + 1)); exact Nat.le_refl _
    by_cases hlt : ((2 ^ k : Nat) : Int) < n
    · rw [if_pos hlt]
      rcases Nat.lt_or_ge k j with h3 | h3
      · exact ih (k + 1) j h3 (by omega)
      · obtain rfl : k = j := by omega
        have := hge f (k + 1)
        constructor
        · intro h; omega
        · intro h; omega
    · rw [if_neg hlt]
      have : 2 ^ k ≤ 2 ^ j := Nat.pow_le_pow_right (by omega) h1
      constructor
      · intro _; omega
      · intro _; exact h1
theorem stepT_iff {n : Int} {j : Nat} (hj : j < 13) : stepT n < j + 1 ↔ n ≤ ((2 ^ j : Nat) : Int) := by
  rw [Nat.lt_succ_iff]
  exact stepF_iff n 13 0 j (Nat.zero_le _) (by omega)

/-- How many keys ask for one of the first a array slots. -/
def inC (a : Nat) (K : List V) : Nat := (K.filter fun v => decide (v.t = 2 ∧ 1 ≤ v.n ∧ v.n ≤ (a : Int))).length

theorem bestT_spec (K : List V) : ∀ m, m ≤ 13 → (bestT K m).2 = inC (bestT K m).1 K ∧ ((bestT K m).1 = 0 ∨ ∃ j, j < 13 ∧ (bestT K m).1 = 2 ^ j ∧ 2 ^ j < 2 * (bestT K m).2) := by
  intro m
  induction m with
  | zero =>
    intro _
    refine ⟨?_, .inl rfl⟩
    show 0 = inC 0 K
    unfold inC
    rw [List.filter_eq_nil_iff.2 (by intro v _; simp; intro _ h; omega)]; rfl
  | succ m ih =>
    intro hm
    unfold bestT
    split
    · rename_i h
      refine ⟨?_, .inr ⟨m, by omega, rfl, h⟩⟩
      show sumT K (m + 1) = inC (2 ^ m) K
      rw [sumT_eq]
      unfold inC
      congr 1
      apply List.filter_congr
      intro v _
      rw [decide_eq_decide]
      have := stepT_iff (n := v.n) (j := m) (by omega)
      constructor
      · rintro ⟨h1, h2, h3⟩; exact ⟨h1, h2, this.1 h3⟩
      · rintro ⟨h1, h2, h3⟩; exact ⟨h1, h2, this.2 h3⟩
    · exact ih (by omega)

theorem upF_ge (rest : Nat) : ∀ f n, rest ≤ n * 2 ^ f → rest ≤ upF rest f n := by
  intro f
  induction f with
  | zero => intro n h; unfold upF; simpa using h
  | succ f ih =>
    intro n h
    unfold upF
    split
    · exact ih (2 * n) (by rw [Nat.pow_succ] at h; rw [Nat.mul_comm 2 n, Nat.mul_assoc, Nat.mul_comm 2 (2 ^ f)]; exact h)
    · omega
theorem upF_lt (rest : Nat) : ∀ f n, n < 2 * rest → upF rest f n < 2 * rest := by
  intro f
  induction f with
  | zero => intro n h; exact h
  | succ f ih =>
    intro n h
    unfold upF
    split
    · exact ih _ (by omega)
    · exact h
theorem nodT_ge {rest : Nat} (h : rest ≤ 8192) : rest ≤ nodT rest := by
  unfold nodT
  split
  · omega
  · exact upF_ge rest 13 1 (by omega)
theorem nodT_lt {rest : Nat} (h : 0 < nodT rest) : nodT rest < 2 * rest := by
  unfold nodT at h ⊢
  split
  · rename_i h0; rw [if_pos h0] at h; omega
  · exact upF_lt rest 13 1 (by omega)
end Go.Proofs.Ytpodgmajccmgkaa
