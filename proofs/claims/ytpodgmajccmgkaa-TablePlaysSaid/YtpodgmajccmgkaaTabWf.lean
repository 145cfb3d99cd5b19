/- The tables that Set makes: what is true of their slots, in plain Lean. -/
import Derived.Test.YtpodgmajccmgkaaTabHas
namespace Go.Proofs.Ytpodgmajccmgkaa
set_option linter.unusedVariables false
set_option linter.unusedSimpArgs false

variable {T T' : Tb}

def kN (T : Tb) (x : Nat) : V := slotT T ((T.a + 2 * x : Nat) : Int)
def vN (T : Tb) (x : Nat) : V := slotT T ((T.a + 2 * x + 1 : Nat) : Int)
def aN (T : Tb) (i : Nat) : V := slotT T (i : Int)
def inA (T : Tb) (k : V) : Prop := k.t = 2 ∧ 1 ≤ k.n ∧ k.n ≤ T.a

theorem slotT_set {i : Nat} (hi : i < T.sl.length) (v : V) (j : Nat) : slotT (setT T (i : Int) v) (j : Int) = if j = i then v else slotT T (j : Int) := by
  unfold slotT setT
  rw [if_pos (Int.natCast_nonneg _), if_pos (Int.natCast_nonneg _), if_pos (Int.natCast_nonneg _)]
  simp only [Int.toNat_natCast, List.getD_eq_getElem?_getD, List.getElem?_set]
  by_cases h : i = j
  · subst h; simp [hi]
  · rw [if_neg h, if_neg (fun e => h e.symm)]

/-! ### the way hangs on the keys alone -/
theorem wayF_congr (ha : T'.a = T.a) (hn : T'.nodes = T.nodes) (hk : ∀ x, kN T' x = kN T x) : ∀ f x, wayF T' f x = wayF T f x := by
  intro f
  induction f with
  | zero => intro x; rfl
  | succ f ih =>
    intro x
    unfold wayF
    have h := hk x
    unfold kN at h
    rw [h, ih, hn]
theorem findL_congr (ha : T'.a = T.a) (hk : ∀ x, kN T' x = kN T x) (k : V) : ∀ l, findL T' k l = findL T k l := by
  intro l
  induction l with
  | nil => rfl
  | cons x l ih =>
    unfold findL
    have h := hk x
    unfold kN at h
    rw [h, ih, ha]
theorem findT_congr (ha : T'.a = T.a) (hn : T'.nodes = T.nodes) (hk : ∀ x, kN T' x = kN T x) (k : V) : findT T' k = findT T k := by
  unfold findT wayL
  rw [ha, hn, findL_congr ha hk, wayF_congr ha hn hk]

/-- A slot that is no key's. -/
theorem kN_set {i : Nat} (hi : i < T.sl.length) (v : V) (h : ∀ x, i ≠ T.a + 2 * x) (x : Nat) : kN (setT T (i : Int) v) x = kN T x := by
  unfold kN
  rw [setT_a, slotT_set hi, if_neg (fun e => h x e.symm)]
theorem findT_set {i : Nat} (hi : i < T.sl.length) (v : V) (h : ∀ x, i ≠ T.a + 2 * x) (k : V) : findT (setT T (i : Int) v) k = findT T k :=
  findT_congr (setT_a _ _ _) (setT_nodes _ _ _) (kN_set hi v h) k

/-! ### a key is put into a free node -/
theorem findL_hit {k : V} {y : Nat} (ha : T'.a = T.a) (hn : T'.nodes = T.nodes) (hk : ∀ x, x ≠ y → kN T' x = kN T x) (h0 : (kN T y).t = 0) (hkt : k.t ≠ 0) :
    ∀ f s r, 0 ≤ r → findL T k (wayF T f s) = (r, -1) → findL T' k (wayF T' f s) = (r, -1) := by
  intro f
  induction f with
  | zero => intro s r hr h; unfold wayF findL at h; simp only [Prod.mk.injEq] at h; omega
  | succ f ih =>
    intro s r hr h
    unfold wayF findL at h ⊢
    change (if kN T s = k then _ else if (kN T s).t = 0 then _ else _) = _ at h
    change (if kN T' s = k then _ else if (kN T' s).t = 0 then _ else _) = _
    by_cases h1 : kN T s = k
    · have hne : s ≠ y := by rintro rfl; rw [h1] at h0; exact hkt h0
      rw [if_pos h1] at h
      rw [hk s hne, if_pos h1, ha]; exact h
    · rw [if_neg h1] at h
      by_cases h2 : (kN T s).t = 0
      · rw [if_pos h2] at h; simp only [Prod.mk.injEq] at h; omega
      · rw [if_neg h2] at h
        have hne : s ≠ y := by rintro rfl; exact h2 h0
        have h3 : ¬ (kN T' s).t = 0 := by rw [hk s hne]; exact h2
        rw [hk s hne, if_neg h1, if_neg h2]
        change ¬ (slotT T ((T.a + 2 * s : Nat) : Int)).t = 0 at h2
        change ¬ (slotT T' ((T'.a + 2 * s : Nat) : Int)).t = 0 at h3
        rw [if_neg h2] at h
        rw [if_neg h3, hn]
        exact ih _ _ hr h
theorem findL_new {k : V} {y : Nat} (ha : T'.a = T.a) (hn : T'.nodes = T.nodes) (hk : ∀ x, x ≠ y → kN T' x = kN T x) (hy : kN T' y = k) (h0 : (kN T y).t = 0) :
    ∀ f s, findL T k (wayF T f s) = (-1, (y : Int)) → findL T' k (wayF T' f s) = (((T.a + 2 * y + 1 : Nat) : Int), -1) := by
  intro f
  induction f with
  | zero => intro s h; unfold wayF findL at h; simp only [Prod.mk.injEq] at h; omega
  | succ f ih =>
    intro s h
    unfold wayF findL at h ⊢
    change (if kN T s = k then _ else if (kN T s).t = 0 then _ else _) = _ at h
    change (if kN T' s = k then _ else if (kN T' s).t = 0 then _ else _) = _
    by_cases h1 : kN T s = k
    · rw [if_pos h1] at h; simp only [Prod.mk.injEq] at h; omega
    · rw [if_neg h1] at h
      by_cases h2 : (kN T s).t = 0
      · rw [if_pos h2] at h
        simp only [Prod.mk.injEq, Int.natCast_inj, true_and] at h
        obtain rfl : s = y := h
        rw [if_pos hy, ha]
      · rw [if_neg h2] at h
        have hne : s ≠ y := by rintro rfl; exact h2 h0
        have h3 : ¬ (kN T' s).t = 0 := by rw [hk s hne]; exact h2
        rw [hk s hne, if_neg h1, if_neg h2]
        change ¬ (slotT T ((T.a + 2 * s : Nat) : Int)).t = 0 at h2
        change ¬ (slotT T' ((T'.a + 2 * s : Nat) : Int)).t = 0 at h3
        rw [if_neg h2] at h
        rw [if_neg h3, hn]
        exact ih _ h

/-! ### where there is a free node one is found -/
theorem findL_full {k : V} : ∀ f s, findL T k (wayF T f s) = (-1, -1) → s < T.nodes → ∀ j, j < f → (kN T ((s + j) % T.nodes)).t ≠ 0 := by
  intro f
  induction f with
  | zero => intro s _ _ j hj; omega
  | succ f ih =>
    intro s h hs j hj
    unfold wayF findL at h
    change (if kN T s = k then _ else if (kN T s).t = 0 then _ else _) = _ at h
    by_cases h1 : kN T s = k
    · rw [if_pos h1] at h; simp only [Prod.mk.injEq] at h; omega
    · rw [if_neg h1] at h
      by_cases h2 : (kN T s).t = 0
      · rw [if_pos h2] at h; simp only [Prod.mk.injEq] at h; omega
      · rw [if_neg h2] at h
        have h2' := h2
        change ¬ (slotT T ((T.a + 2 * s : Nat) : Int)).t = 0 at h2'
        rw [if_neg h2'] at h
        cases j with
        | zero => rw [Nat.add_zero, Nat.mod_eq_of_lt hs]; exact h2
        | succ j =>
          have := ih _ h (Nat.mod_lt _ (by omega)) j (by omega)
          rwa [Nat.mod_add_mod, Nat.add_assoc, Nat.add_comm 1 j] at this

theorem findT_free {k : V} (hna : ¬ inA T k) (h : (findT T k).1 < 0) (hz : ∃ z, z < T.nodes ∧ (kN T z).t = 0) : ∃ y : Nat, findT T k = (-1, (y : Int)) ∧ y < T.nodes ∧ (kN T y).t = 0 := by
  obtain ⟨z, hz, hz0⟩ := hz
  unfold findT at h ⊢
  unfold inA at hna
  rw [if_neg hna] at h ⊢
  obtain ⟨h1, h2⟩ := findL_range (T := T) k (wayL T k)
  have h1 : (findL T k (wayL T k)).1 = -1 := by
    rcases h1 with h1 | ⟨y, _, h1, _⟩
    · exact h1
    · omega
  rcases h2 with h2 | ⟨y, hy, h2, _, h3⟩
  · exfalso
    have hw : wayL T k = wayF T T.nodes ((mixR k.t k.n).toNat % T.nodes) := by unfold wayL; rw [if_neg (by omega)]
    have hs : (mixR k.t k.n).toNat % T.nodes < T.nodes := Nat.mod_lt _ (by omega)
    rw [hw] at h1 h2
    generalize (mixR k.t k.n).toNat % T.nodes = s at hs h1 h2
    have hf := findL_full (k := k) T.nodes s (Prod.ext h1 h2) hs
    have := hf ((z + (T.nodes - s)) % T.nodes) (Nat.mod_lt _ (by omega))
    rw [Nat.add_mod_mod, show s + (z + (T.nodes - s)) = z + T.nodes by omega, Nat.add_mod_right, Nat.mod_eq_of_lt hz] at this
    exact this hz0
  · exact ⟨y, Prod.ext h1 h2, wayL_lt k y hy, h3⟩

/-! ### keys -/
theorem wholeR_int (n : Int) : wholeR ⟨2, n⟩ = some n := by
  unfold wholeR isR
  simp
theorem keyR_int (n : Int) : keyR ⟨2, n⟩ = some ⟨2, n⟩ := by
  unfold keyR numKey
  rw [wholeR_int]
  simp
theorem keyR_t {k k' : V} (h : keyR k = some k') : k'.t ≠ 0 ∧ k'.t ≠ 11 := by
  unfold keyR at h
  split at h
  · cases h
  · rename_i h0
    split at h
    · cases h
    · simp only [Option.some.injEq] at h
      subst h
      unfold numKey
      split
      · exact ⟨by simp, by simp⟩
      · exact ⟨fun e => h0 (.inl e), fun e => h0 (.inr e)⟩
theorem keyR_idem {k k' : V} (h : keyR k = some k') : keyR k' = some k' := by
  have h0 := h
  unfold keyR at h
  split at h
  · cases h
  · split at h
    · cases h
    · simp only [Option.some.injEq] at h
      unfold numKey at h
      split at h
      · subst h; exact keyR_int _
      · subst h; exact h0

/-! ### tables that Set makes -/
structure WF (T : Tb) : Prop where
  le : T.a ≤ T.sl.length
  good : ∀ x, x < T.nodes → (kN T x).t ≠ 0 → (kN T x).t ≠ 11 → keyR (kN T x) = some (kN T x) ∧ ¬ inA T (kN T x) ∧ findT T (kN T x) = (((T.a + 2 * x + 1 : Nat) : Int), -1)
  free : ∀ x, x < T.nodes → (kN T x).t = 0 ∨ (kN T x).t = 11 → (vN T x).t = 0

theorem idx_lt (hle : T.a ≤ T.sl.length) {x : Nat} (hx : x < T.nodes) : T.a + 2 * x + 1 < T.sl.length := by have := nodes_le hle; omega

theorem vN_setV (hle : T.a ≤ T.sl.length) {x : Nat} (hx : x < T.nodes) (v : V) (j : Nat) : vN (setT T ((T.a + 2 * x + 1 : Nat) : Int) v) j = if j = x then v else vN T j := by
  unfold vN
  rw [setT_a, slotT_set (idx_lt hle hx)]
  by_cases h : j = x
  · subst h; rw [if_pos rfl, if_pos rfl]
  · rw [if_neg h, if_neg (by omega)]
theorem aN_setV (hle : T.a ≤ T.sl.length) {x : Nat} (hx : x < T.nodes) (v : V) {j : Nat} (hj : j < T.a) : aN (setT T ((T.a + 2 * x + 1 : Nat) : Int) v) j = aN T j := by
  unfold aN
  rw [slotT_set (idx_lt hle hx), if_neg (by omega)]
theorem kN_setV (hle : T.a ≤ T.sl.length) {x : Nat} (hx : x < T.nodes) (v : V) (j : Nat) : kN (setT T ((T.a + 2 * x + 1 : Nat) : Int) v) j = kN T j := kN_set (idx_lt hle hx) v (by omega) j
theorem find_setV (hle : T.a ≤ T.sl.length) {x : Nat} (hx : x < T.nodes) (v : V) (k : V) : findT (setT T ((T.a + 2 * x + 1 : Nat) : Int) v) k = findT T k := findT_set (idx_lt hle hx) v (by omega) k
theorem kN_setA {i : Nat} (hle : T.a ≤ T.sl.length) (hi : i < T.a) (v : V) (j : Nat) : kN (setT T (i : Int) v) j = kN T j := kN_set (by omega) v (by omega) j
theorem vN_setA {i : Nat} (hle : T.a ≤ T.sl.length) (hi : i < T.a) (v : V) (j : Nat) : vN (setT T (i : Int) v) j = vN T j := by
  unfold vN
  rw [setT_a, slotT_set (by omega), if_neg (by omega)]
theorem aN_setA {i : Nat} (hle : T.a ≤ T.sl.length) (hi : i < T.a) (v : V) (j : Nat) : aN (setT T (i : Int) v) j = if j = i then v else aN T j := by
  unfold aN
  rw [slotT_set (by omega)]
theorem find_setA {i : Nat} (hle : T.a ≤ T.sl.length) (hi : i < T.a) (v : V) (k : V) : findT (setT T (i : Int) v) k = findT T k := findT_set (by omega) v (by omega) k

theorem WF.setV (H : WF T) {x : Nat} (hx : x < T.nodes) (hu : (kN T x).t ≠ 0 ∧ (kN T x).t ≠ 11) (v : V) : WF (setT T ((T.a + 2 * x + 1 : Nat) : Int) v) := by
  refine ⟨by rw [setT_a, setT_len]; exact H.le, fun j hj => ?_, fun j hj => ?_⟩
  · rw [setT_nodes] at hj
    rw [kN_setV H.le hx, find_setV H.le hx, setT_a]
    unfold inA; rw [setT_a]
    exact H.good j hj
  · rw [setT_nodes] at hj
    rw [kN_setV H.le hx, vN_setV H.le hx]
    intro h
    by_cases he : j = x
    · subst he; exact absurd h (fun h => h.elim hu.1 hu.2)
    · rw [if_neg he]; exact H.free j hj h
theorem WF.setA (H : WF T) {i : Nat} (hi : i < T.a) (v : V) : WF (setT T (i : Int) v) := by
  refine ⟨by rw [setT_a, setT_len]; exact H.le, fun j hj => ?_, fun j hj => ?_⟩
  · rw [setT_nodes] at hj
    rw [kN_setA H.le hi, find_setA H.le hi, setT_a]
    unfold inA; rw [setT_a]
    exact H.good j hj
  · rw [setT_nodes] at hj
    rw [kN_setA H.le hi, vN_setA H.le hi]
    exact H.free j hj

/-- A new key and its value in a free node. -/
def insN (T : Tb) (y : Nat) (k v : V) : Tb := setT (setT T ((T.a + 2 * y : Nat) : Int) k) ((T.a + 2 * y + 1 : Nat) : Int) v
theorem insN_shape (T : Tb) (y : Nat) (k v : V) : (insN T y k v).a = T.a ∧ (insN T y k v).nodes = T.nodes ∧ (insN T y k v).sl.length = T.sl.length := by
  unfold insN; simp [setT_a, setT_nodes, setT_len]
theorem insN_slot (hle : T.a ≤ T.sl.length) {y : Nat} (hy : y < T.nodes) (k v : V) (j : Nat) : slotT (insN T y k v) (j : Int) = if j = T.a + 2 * y + 1 then v else if j = T.a + 2 * y then k else slotT T (j : Int) := by
  have h1 := idx_lt hle hy
  unfold insN
  rw [slotT_set (by rw [setT_len]; exact h1), slotT_set (by omega)]
theorem insN_kN (hle : T.a ≤ T.sl.length) {y : Nat} (hy : y < T.nodes) (k v : V) (j : Nat) : kN (insN T y k v) j = if j = y then k else kN T j := by
  unfold kN
  rw [(insN_shape T y k v).1, insN_slot hle hy, if_neg (by omega)]
  by_cases h : j = y
  · subst h; rw [if_pos rfl, if_pos rfl]
  · rw [if_neg h, if_neg (by omega)]
theorem insN_vN (hle : T.a ≤ T.sl.length) {y : Nat} (hy : y < T.nodes) (k v : V) (j : Nat) : vN (insN T y k v) j = if j = y then v else vN T j := by
  unfold vN
  rw [(insN_shape T y k v).1, insN_slot hle hy]
  by_cases h : j = y
  · subst h; rw [if_pos rfl, if_pos rfl]
  · rw [if_neg h, if_neg (by omega), if_neg (by omega)]
theorem insN_aN (hle : T.a ≤ T.sl.length) {y : Nat} (hy : y < T.nodes) (k v : V) {j : Nat} (hj : j < T.a) : aN (insN T y k v) j = aN T j := by
  unfold aN
  rw [insN_slot hle hy, if_neg (by omega), if_neg (by omega)]

theorem findT_wayF {k : V} (hna : ¬ inA T k) (hn : T.nodes ≠ 0) : findT T k = findL T k (wayF T T.nodes ((mixR k.t k.n).toNat % T.nodes)) := by
  unfold findT wayL
  unfold inA at hna
  rw [if_neg hna, if_neg hn]

theorem insN_new (hle : T.a ≤ T.sl.length) {y : Nat} (hy : y < T.nodes) {k v : V} (h0 : (kN T y).t = 0) (hna : ¬ inA T k) (hf : findT T k = (-1, (y : Int))) : findT (insN T y k v) k = (((T.a + 2 * y + 1 : Nat) : Int), -1) := by
  obtain ⟨s1, s2, s3⟩ := insN_shape T y k v
  rw [findT_wayF hna (by omega)] at hf
  rw [findT_wayF (by unfold inA; rw [s1]; exact hna) (by omega), s2]
  exact findL_new s1 s2 (fun x hx => by rw [insN_kN hle hy, if_neg hx]) (by rw [insN_kN hle hy, if_pos rfl]) h0 _ _ hf
theorem insN_old (hle : T.a ≤ T.sl.length) {y : Nat} (hy : y < T.nodes) {k v k' : V} (h0 : (kN T y).t = 0) (hk' : k'.t ≠ 0) {r : Int} (hr : 0 ≤ r) (hf : findT T k' = (r, -1)) : findT (insN T y k v) k' = (r, -1) := by
  obtain ⟨s1, s2, s3⟩ := insN_shape T y k v
  by_cases hin : inA T k'
  · unfold inA at hin
    unfold findT at hf ⊢
    rw [s1]
    rw [if_pos hin] at hf ⊢
    exact hf
  · rw [findT_wayF hin (by omega)] at hf
    rw [findT_wayF (by unfold inA; rw [s1]; exact hin) (by omega), s2]
    exact findL_hit s1 s2 (fun x hx => by rw [insN_kN hle hy, if_neg hx]) h0 hk' _ _ _ hr hf

theorem WF.ins (H : WF T) {y : Nat} (hy : y < T.nodes) {k v : V} (hk : keyR k = some k) (h0 : (kN T y).t = 0) (hna : ¬ inA T k) (hf : findT T k = (-1, (y : Int))) : WF (insN T y k v) := by
  obtain ⟨s1, s2, s3⟩ := insN_shape T y k v
  refine ⟨by rw [s1, s3]; exact H.le, fun j hj => ?_, fun j hj => ?_⟩
  · rw [s2] at hj
    rw [insN_kN H.le hy, s1]
    unfold inA; rw [s1]
    by_cases he : j = y
    · subst he
      rw [if_pos rfl]
      intro _ _
      exact ⟨hk, hna, insN_new H.le hy h0 hna hf⟩
    · rw [if_neg he]
      intro hu hd
      obtain ⟨g1, g2, g3⟩ := H.good j hj hu hd
      exact ⟨g1, g2, insN_old H.le hy h0 hu (Int.natCast_nonneg _) g3⟩
  · rw [s2] at hj
    rw [insN_kN H.le hy, insN_vN H.le hy]
    by_cases he : j = y
    · rw [if_pos he, if_pos he]
      intro h
      exact absurd h (fun h => h.elim (keyR_t hk).1 (keyR_t hk).2)
    · rw [if_neg he, if_neg he]; exact H.free j hj
end Go.Proofs.Ytpodgmajccmgkaa
