/- Kill: in plain Lean, and both walks. -/
import Derived.Test.YtpodgmajccmgkaaR6Set
namespace Go.Proofs.Ytpodgmajccmgkaa
open Go.RowKit Go.Shelf
set_option linter.unusedVariables false
set_option linter.unusedSimpArgs false
attribute [local go_sem] Oper.semAt_some nil_slot field_t meth_array meth_nodes meth_slot meth_setslot meth_resize meth_hash

variable {w0 w w' W W' : World} {p g : Nat} {sv A L A' L' : Value} {T T' : Tb}

def deadB (v : V) : Bool := decide (4 ≤ v.t ∧ v.t ≤ 9)
def killN (T : Tb) (j : Nat) : Tb :=
  if deadB (kN T j) = true then setT (setT T ((T.a + 2 * j + 1 : Nat) : Int) nilV) ((T.a + 2 * j : Nat) : Int) ⟨11, (kN T j).n⟩ else setT T ((T.a + 2 * j + 1 : Nat) : Int) nilV
/-- Which slot is killed: none, an array slot, a node. -/
def killT (T : Tb) (i : Int) : Tb :=
  if i < 0 then T else if i < T.a then setT T i nilV else if (i - T.a) % 2 = 0 then T else if T.a + 2 * T.nodes ≤ i then T else killN T ((i - T.a) / 2).toNat

theorem killT_cases (T : Tb) (i : Int) : (i < 0 ∧ killT T i = T) ∨ (∃ m : Nat, m < T.a ∧ i = (m : Int) ∧ killT T i = setT T (m : Int) nilV) ∨ ((T.a : Int) ≤ i ∧ (i - T.a) % 2 = 0 ∧ killT T i = T) ∨
    ((T.a : Int) ≤ i ∧ (i - T.a) % 2 = 1 ∧ (T.a : Int) + 2 * T.nodes ≤ i ∧ killT T i = T) ∨ ∃ j : Nat, j < T.nodes ∧ i = ((T.a + 2 * j + 1 : Nat) : Int) ∧ killT T i = killN T j := by
  unfold killT
  by_cases h0 : i < 0
  · exact .inl ⟨h0, by rw [if_pos h0]⟩
  · rw [if_neg h0]
    by_cases h1 : i < T.a
    · exact .inr (.inl ⟨i.toNat, by omega, by omega, by rw [if_pos h1, Int.toNat_of_nonneg (by omega)]⟩)
    · rw [if_neg h1]
      by_cases h2 : (i - T.a) % 2 = 0
      · exact .inr (.inr (.inl ⟨by omega, h2, by rw [if_pos h2]⟩))
      · rw [if_neg h2]
        by_cases h3 : (T.a : Int) + 2 * T.nodes ≤ i
        · exact .inr (.inr (.inr (.inl ⟨by omega, by omega, h3, by rw [if_pos h3]⟩)))
        · rw [if_neg h3]
          exact .inr (.inr (.inr (.inr ⟨((i - T.a) / 2).toNat, by omega, by omega, rfl⟩)))

/-! ### a key's slot is another's -/
theorem kN_setK (hle : T.a ≤ T.sl.length) {j : Nat} (hj : j < T.nodes) (v : V) (x : Nat) : kN (setT T ((T.a + 2 * j : Nat) : Int) v) x = if x = j then v else kN T x := by
  have := idx_lt hle hj
  unfold kN
  rw [setT_a, slotT_set (by omega)]
  by_cases h : x = j
  · subst h; rw [if_pos rfl, if_pos rfl]
  · rw [if_neg h, if_neg (by omega)]
theorem vN_setK (hle : T.a ≤ T.sl.length) {j : Nat} (hj : j < T.nodes) (v : V) (x : Nat) : vN (setT T ((T.a + 2 * j : Nat) : Int) v) x = vN T x := by
  have := idx_lt hle hj
  unfold vN
  rw [setT_a, slotT_set (by omega), if_neg (by omega)]
theorem aN_setK (hle : T.a ≤ T.sl.length) {j : Nat} (hj : j < T.nodes) (v : V) {x : Nat} (hx : x < T.a) : aN (setT T ((T.a + 2 * j : Nat) : Int) v) x = aN T x := by
  have := idx_lt hle hj
  unfold aN
  rw [slotT_set (by omega), if_neg (by omega)]
theorem wayF_zero (hn : T'.nodes = T.nodes) (hk : ∀ x, (kN T' x).t = 0 ↔ (kN T x).t = 0) : ∀ f x, wayF T' f x = wayF T f x := by
  intro f
  induction f with
  | zero => intro x; rfl
  | succ f ih =>
    intro x
    unfold wayF
    change x :: (if (kN T' x).t = 0 then _ else _) = x :: (if (kN T x).t = 0 then _ else _)
    rw [ih, hn]
    by_cases h : (kN T x).t = 0
    · rw [if_pos h, if_pos ((hk x).2 h)]
    · rw [if_neg h, if_neg (fun e => h ((hk x).1 e))]
theorem findL_zero (ha : T'.a = T.a) {k : V} (hk : ∀ x, (kN T' x).t = 0 ↔ (kN T x).t = 0) (hq : ∀ x, kN T' x = k ↔ kN T x = k) : ∀ l, findL T' k l = findL T k l := by
  intro l
  induction l with
  | nil => rfl
  | cons x l ih =>
    unfold findL
    change (if kN T' x = k then _ else if (kN T' x).t = 0 then _ else _) = (if kN T x = k then _ else if (kN T x).t = 0 then _ else _)
    rw [ih, ha]
    by_cases h1 : kN T x = k
    · rw [if_pos h1, if_pos ((hq x).2 h1)]
    · rw [if_neg h1, if_neg (fun e => h1 ((hq x).1 e))]
      by_cases h : (kN T x).t = 0
      · rw [if_pos h, if_pos ((hk x).2 h)]
      · rw [if_neg h, if_neg (fun e => h ((hk x).1 e))]
theorem find_setK (hle : T.a ≤ T.sl.length) {j : Nat} (hj : j < T.nodes) {v k : V} (h0 : (kN T j).t ≠ 0) (hv : v.t ≠ 0) (hk1 : kN T j ≠ k) (hk2 : v ≠ k) : findT (setT T ((T.a + 2 * j : Nat) : Int) v) k = findT T k := by
  have hz : ∀ x, (kN (setT T ((T.a + 2 * j : Nat) : Int) v) x).t = 0 ↔ (kN T x).t = 0 := by
    intro x
    rw [kN_setK hle hj]
    by_cases h : x = j
    · subst h; rw [if_pos rfl]; exact ⟨fun e => absurd e hv, fun e => absurd e h0⟩
    · rw [if_neg h]
  have hq : ∀ x, kN (setT T ((T.a + 2 * j : Nat) : Int) v) x = k ↔ kN T x = k := by
    intro x
    rw [kN_setK hle hj]
    by_cases h : x = j
    · subst h; rw [if_pos rfl]; exact ⟨fun e => absurd e hk2, fun e => absurd e hk1⟩
    · rw [if_neg h]
  unfold findT wayL
  rw [setT_a, setT_nodes, findL_zero (setT_a _ _ _) hz hq, wayF_zero (setT_nodes _ _ _) hz]
theorem nod_len_eq {T T' : Tb} : ∀ n, (∀ i, vN T' i = vN T i) → (nodL T' n).length = (nodL T n).length := by
  intro n h
  have h1 := nod_len_set (T := T) (T' := T') (j := n) (fun i _ => h i) n
  have h2 := nod_len_set (T := T') (T' := T) (j := n) (fun i _ => (h i).symm) n
  rw [if_neg (Nat.lt_irrefl n)] at h1 h2
  omega

theorem killN_pairs (hle : T.a ≤ T.sl.length) {j : Nat} (hj : j < T.nodes) : (pairsL (killN T j)).length ≤ (pairsL T).length + 1 := by
  have h1 := pairs_setV hle hj nilV
  unfold killN
  split
  · have hle1 : (setT T ((T.a + 2 * j + 1 : Nat) : Int) nilV).a ≤ (setT T ((T.a + 2 * j + 1 : Nat) : Int) nilV).sl.length := by rw [setT_a, setT_len]; exact hle
    have hj1 : j < (setT T ((T.a + 2 * j + 1 : Nat) : Int) nilV).nodes := by rw [setT_nodes]; exact hj
    have hv := vN_setK hle1 hj1 ⟨11, (kN T j).n⟩
    have ha := fun (x : Nat) (hx : x < T.a) => aN_setK hle1 hj1 ⟨11, (kN T j).n⟩ (x := x) (by rw [setT_a]; exact hx)
    rw [setT_a] at hv ha
    refine Nat.le_trans (Nat.le_of_eq ?_) h1
    unfold pairsL
    rw [setT_a, setT_nodes, List.length_append, List.length_append, arr_len_eq _ (fun i hi => ha i (by rw [setT_a] at hi; exact hi)), nod_len_eq _ hv]
  · exact h1

theorem deadB_iff {v : V} : deadB v = true ↔ 4 ≤ v.t ∧ v.t ≤ 9 := by unfold deadB; rw [decide_eq_true_iff]

theorem WF.kill (H : WF T) (i : Int) : WF (killT T i) := by
  rcases killT_cases T i with ⟨-, h⟩ | ⟨m, hm, -, h⟩ | ⟨-, -, h⟩ | ⟨-, -, -, h⟩ | ⟨j, hj, -, h⟩
  · rw [h]; exact H
  · rw [h]; exact H.setA hm nilV
  · rw [h]; exact H
  · rw [h]; exact H
  · rw [h]
    have hle := H.le
    have h1 : WF (setT T ((T.a + 2 * j + 1 : Nat) : Int) nilV) := by
      by_cases hu : (kN T j).t ≠ 0 ∧ (kN T j).t ≠ 11
      · exact H.setV hj hu nilV
      · have hv : vN T j = vN T j := rfl
        have hf := H.free j hj (by omega)
        refine ⟨by rw [setT_a, setT_len]; exact hle, fun x hx => ?_, fun x hx => ?_⟩
        · rw [setT_nodes] at hx
          rw [kN_setV hle hj, find_setV hle hj, setT_a]
          unfold inA; rw [setT_a]
          exact H.good x hx
        · rw [setT_nodes] at hx
          rw [kN_setV hle hj, vN_setV hle hj]
          intro hh
          split
          · rfl
          · exact H.free x hx hh
    unfold killN
    by_cases hd : deadB (kN T j) = true
    · rw [if_pos hd]
      have hd2 := deadB_iff.1 hd
      obtain ⟨T1, hT1⟩ : ∃ T1, T1 = setT T ((T.a + 2 * j + 1 : Nat) : Int) nilV := ⟨_, rfl⟩
      have hk1 : kN T1 j = kN T j := by rw [hT1, kN_setV hle hj]
      have hv1 : (vN T1 j).t = 0 := by rw [hT1, vN_setV hle hj, if_pos rfl]; rfl
      have ha1 : T1.a = T.a := by rw [hT1, setT_a]
      have hn1 : T1.nodes = T.nodes := by rw [hT1, setT_nodes]
      rw [← hT1] at h1 ⊢
      rw [← ha1, ← hk1]
      rw [← hk1] at hd2
      have hle1 := h1.le
      have hj1 : j < T1.nodes := by rw [hn1]; exact hj
      refine ⟨by rw [setT_a, setT_len]; exact hle1, fun x hx => ?_, fun x hx => ?_⟩
      · rw [setT_nodes] at hx
        rw [kN_setK hle1 hj1, setT_a]
        by_cases he : x = j
        · rw [if_pos he]; intro _ h; exact absurd rfl h
        · rw [if_neg he]
          intro hu hdd
          obtain ⟨g1, g2, g3⟩ := h1.good x hx hu hdd
          refine ⟨g1, by unfold inA at g2 ⊢; rw [setT_a]; exact g2, ?_⟩
          rw [find_setK hle1 hj1 (by omega) (by simp) ?_ ?_]
          · exact g3
          · intro e
            have := (h1.good j hj1 (by omega) (by omega)).2.2
            rw [e, g3] at this
            simp only [Prod.mk.injEq, and_true] at this
            omega
          · intro e; rw [← e] at hdd; exact hdd rfl
      · rw [setT_nodes] at hx
        rw [kN_setK hle1 hj1, vN_setK hle1 hj1]
        by_cases he : x = j
        · subst he; intro _; exact hv1
        · rw [if_neg he]; exact h1.free x hx
    · rw [if_neg hd]; exact h1

theorem MT.kill {n : Nat} (h : MT T n) (i : Int) : MT (killT T i) (n + 1) := by
  refine ⟨h.wf.kill i, ?_⟩
  have hc := h.cnt
  rcases killT_cases T i with ⟨-, e⟩ | ⟨m, hm, -, e⟩ | ⟨-, -, e⟩ | ⟨-, -, -, e⟩ | ⟨j, hj, -, e⟩
  · rw [e]; omega
  · rw [e]; exact Nat.le_trans (pairs_setA h.wf.le hm nilV) (by omega)
  · rw [e]; omega
  · rw [e]; omega
  · rw [e]; exact Nat.le_trans (killN_pairs h.wf.le hj) (by omega)
theorem killT_shape (T : Tb) (i : Int) : (killT T i).a = T.a ∧ (killT T i).sl.length = T.sl.length ∧ (killT T i).most = T.most := by
  rcases killT_cases T i with ⟨-, e⟩ | ⟨m, hm, -, e⟩ | ⟨-, -, e⟩ | ⟨-, -, -, e⟩ | ⟨j, hj, -, e⟩
  · rw [e]; exact ⟨rfl, rfl, rfl⟩
  · rw [e]; simp [setT_a, setT_len, setT_most]
  · rw [e]; exact ⟨rfl, rfl, rfl⟩
  · rw [e]; exact ⟨rfl, rfl, rfl⟩
  · rw [e]; unfold killN; split <;> simp [setT_a, setT_len, setT_most]
theorem killT_nodes (T : Tb) (i : Int) : (killT T i).nodes = T.nodes := by
  obtain ⟨h1, h2, -⟩ := killT_shape T i
  unfold Tb.nodes; rw [h1, h2]

/-! ### the program's Kill -/
def KillP (w : World) (p : Nat) (sv : Value) (T : Tb) (e : Ending) (w' : World) : Prop := e = .returned (.tuple #[]) ∧ MemAt w' p sv T ∧ Mv p sv w w' sv

set_option maxRecDepth 100000 in
set_option maxHeartbeats 2000000 in
theorem kill_any (H : MemAt w p sv T) (i : Int) (hi64 : i < 2 ^ 63 ∧ -(2 ^ 63) ≤ i) : Calls Try.prog 25 #[.iface 23 (.pointer (some ⟨p, 0, none⟩)), .int .i64 i] w fun e w' => KillP w p sv (killT T i) e w' := by
  obtain ⟨R, hR⟩ : ∃ R, R = killT T i := ⟨_, rfl⟩
  rw [← hR]
  have hle := H.le
  have hsm := H.small
  have hnd := nodes_le hle
  have AR := array_any H
  have NR := nodes_any H
  have HH := Lib.hid H
  rcases killT_cases T i with ⟨h0, h⟩ | ⟨m, hm, rfl, h⟩ | ⟨h0, h1, h⟩ | ⟨h0, h1, h2, h⟩ | ⟨j, hj, rfl, h⟩
  · have HR := Lib.hid (hR.trans h)
    clear h hR H AR NR hle hsm hnd
    go_enter Try.func25, Try.ntmps25
    go_wp2_with fail
    go_end0
    exact ⟨rfl, by rw [HR.out]; exact HH.out, Mv.refl _ _ _⟩
  · have HR := Lib.hid (hR.trans h)
    have h0 : ¬ (m : Int) < 0 := by omega
    have SC := Lib.hid (setslot_any H (m : Int) nilV)
    obtain ⟨a, ha⟩ : ∃ a, a = T.a := ⟨_, rfl⟩
    rw [← ha] at hm AR
    have hm2 : (m : Int) < (a : Int) := by omega
    clear h hR H NR hle hsm hnd ha
    go_enter Try.func25, Try.ntmps25
    go_wp2_with fail
    refine AR.mono ?_
    rintro e w1 ⟨rfl, rfl⟩
    clear AR
    go_wp2_with fail
    refine SC.out.mono ?_
    rintro e w2 ⟨rfl, h5, h6⟩
    have HE : Hid (KillP w1 p sv R (.returned (.tuple #[])) w2) := Lib.hid ⟨rfl, by rw [HR.out]; exact h5, h6⟩
    clear h5 h6
    go_wp2_with fail
    go_end0
    exact HE.out
  · have HR := Lib.hid (hR.trans h)
    obtain ⟨a, ha⟩ : ∃ a, a = T.a := ⟨_, rfl⟩
    rw [← ha] at h0 h1 AR
    have hn0 : ¬ i < 0 := by omega
    have hn1 : ¬ i < (a : Int) := by omega
    obtain ⟨d, hd⟩ : ∃ d, d = i - (a : Int) := ⟨_, rfl⟩
    have hw1 : IntKind.i64.wrap (i - (a : Int)) = d := by rw [hd]; exact IntWalk.i64_in _ (by omega)
    have hq1 : d % 2 = 0 := by omega
    have hq2 : d.tmod 2 = 0 := by rw [Int.tmod_eq_emod_of_nonneg (by omega)]; exact hq1
    clear h hR H NR hle hsm hnd ha hd h1 h0
    go_enter Try.func25, Try.ntmps25
    go_wp2_with fail
    refine AR.mono ?_
    rintro e w1 ⟨rfl, rfl⟩
    clear AR
    go_wp2_with fail
    go_end0
    exact ⟨rfl, by rw [HR.out]; exact HH.out, Mv.refl _ _ _⟩
  · have HR := Lib.hid (hR.trans h)
    obtain ⟨a, ha⟩ : ∃ a, a = T.a := ⟨_, rfl⟩
    obtain ⟨n, hn⟩ : ∃ n, n = T.nodes := ⟨_, rfl⟩
    rw [← ha] at h0 h1 h2 AR hnd
    rw [← hn] at h2 NR hnd
    have hn0 : ¬ i < 0 := by omega
    have hn1 : ¬ i < (a : Int) := by omega
    obtain ⟨d, hd⟩ : ∃ d, d = i - (a : Int) := ⟨_, rfl⟩
    have hw1 : IntKind.i64.wrap (i - (a : Int)) = d := by rw [hd]; exact IntWalk.i64_in _ (by omega)
    have hq1 : d % 2 = 1 := by omega
    have hq2 : d.tmod 2 = 1 := by rw [Int.tmod_eq_emod_of_nonneg (by omega)]; exact hq1
    have hw2 : IntKind.i64.wrap (2 * (n : Int)) = 2 * (n : Int) := IntWalk.i64_in _ (by omega)
    have hw3 : IntKind.i64.wrap ((a : Int) + 2 * (n : Int)) = (a : Int) + 2 * (n : Int) := IntWalk.i64_in _ (by omega)
    have g1 : decide ((a : Int) + 2 * (n : Int) ≤ i) = true := decide_eq_true h2
    have NRH := Lib.hid NR
    clear h hR H hle hsm hnd ha hd h1 h0 hn NR
    go_enter Try.func25, Try.ntmps25
    go_wp2_with fail
    refine AR.mono ?_
    rintro e w1 ⟨rfl, rfl⟩
    clear AR
    go_wp2_with fail
    refine NRH.out.mono ?_
    rintro e w2 ⟨rfl, hb2⟩
    have HE : Hid (KillP w1 p sv R (.returned (.tuple #[])) w2) := Lib.hid ⟨rfl, by rw [HR.out]; exact HH.out.below hb2, Mv.below hb2⟩
    clear hb2
    go_wp2_with fail
    go_end0
    exact HE.out
  · have HR := Lib.hid (hR.trans h)
    have hk1 : kN (setT T ((T.a + 2 * j + 1 : Nat) : Int) nilV) j = kN T j := kN_setV hle hj nilV j
    have hsl : slotT (setT T ((T.a + 2 * j + 1 : Nat) : Int) nilV) ((T.a + 2 * j : Nat) : Int) = kN T j := by rw [← hk1]; unfold kN; rw [setT_a]
    obtain ⟨a, ha⟩ : ∃ a, a = T.a := ⟨_, rfl⟩
    obtain ⟨n, hn⟩ : ∃ n, n = T.nodes := ⟨_, rfl⟩
    obtain ⟨I, hI⟩ : ∃ I : Int, I = ((T.a + 2 * j + 1 : Nat) : Int) := ⟨_, rfl⟩
    obtain ⟨J, hJ⟩ : ∃ J : Int, J = ((T.a + 2 * j : Nat) : Int) := ⟨_, rfl⟩
    have hIJ : I - 1 = J := by omega
    have SC := Lib.hid (setslot_any H I nilV)
    rw [← hI] at hsl
    rw [← hJ] at hsl
    obtain ⟨T1, hT1⟩ : ∃ T1, T1 = setT T I nilV := ⟨_, rfl⟩
    rw [← hT1] at hsl SC
    obtain ⟨⟨kt, kn⟩, hk⟩ : ∃ v, v = kN T j := ⟨_, rfl⟩
    rw [← hk] at hsl
    have hRk : R = if deadB ⟨kt, kn⟩ = true then setT T1 J ⟨11, kn⟩ else T1 := by
      rw [HR.out]; unfold killN; rw [← hk, hT1, hI, hJ]
    have HRK := Lib.hid hRk
    rw [← hI]
    have HT1 := Lib.hid hT1
    rw [← ha] at AR hnd hI
    rw [← hn] at NR hnd hj
    have hi2 := hI
    have hn0 : ¬ I < 0 := by omega
    have hn1 : ¬ I < (a : Int) := by omega
    obtain ⟨d, hd⟩ : ∃ d, d = I - (a : Int) := ⟨_, rfl⟩
    have hw1 : IntKind.i64.wrap (I - (a : Int)) = d := by rw [hd]; exact IntWalk.i64_in _ (by omega)
    have hq1 : d % 2 = 1 := by omega
    have hq2 : d.tmod 2 = 1 := by rw [Int.tmod_eq_emod_of_nonneg (by omega)]; exact hq1
    have hw2 : IntKind.i64.wrap (2 * (n : Int)) = 2 * (n : Int) := IntWalk.i64_in _ (by omega)
    have hw3 : IntKind.i64.wrap ((a : Int) + 2 * (n : Int)) = (a : Int) + 2 * (n : Int) := IntWalk.i64_in _ (by omega)
    have hw4 : IntKind.i64.wrap (I - 1) = J := by rw [hIJ]; exact IntWalk.i64_in _ (by omega)
    have g1 : decide ((a : Int) + 2 * (n : Int) ≤ I) = false := decide_eq_false (by omega)
    have HSL := Lib.hid hsl
    have NRH := Lib.hid NR
    clear h hR H hle hsm hnd ha hd hn NR hi2 hI hJ hIJ hk1 hsl hT1 hk hRk hj hi64
    go_enter Try.func25, Try.ntmps25
    go_wp2_with fail
    refine AR.mono ?_
    rintro e w1 ⟨rfl, rfl⟩
    clear AR
    go_wp2_with fail
    refine NRH.out.mono ?_
    rintro e w2 ⟨rfl, hb2⟩
    have SC2 := Lib.hid (setslot_any (HH.out.below hb2) I nilV)
    have HB2 := Lib.hid hb2
    clear hb2 NRH SC
    go_wp2_with fail
    refine SC2.out.mono ?_
    rintro e w3 ⟨rfl, h5, h6⟩
    rw [← HT1.out] at h5
    have H3 := Lib.hid h5
    have hm3 := (Mv.below HB2.out).trans h6
    have HM3 := Lib.hid hm3
    have SL : Hid (Calls Try.prog 22 #[.pointer (some ⟨p, 0, none⟩), .int .i64 J] w3 fun e w' => e = .returned (.agg #[.int .i64 kt, .int .i64 kn]) ∧ Below w3.heap.size w3 w') := by
      have := slot_any h5 J
      rw [HSL.out] at this
      exact Lib.hid this
    clear h5 h6 hm3 SC2
    go_wp2_with fail
    refine SL.out.mono ?_
    rintro e w4 ⟨rfl, hb4⟩
    have hb5 : Below w3.heap.size w3 (w4.alloc (.cells #[.int .i64 kt, .int .i64 kn] 27)) := hb4.alloc hb4.size _
    have H5 := Lib.hid (H3.out.below hb5)
    have HM5 := Lib.hid (HM3.out.trans (Mv.below hb5))
    have SC3 := Lib.hid (setslot_any H5.out J ⟨11, kn⟩)
    clear hb4 hb5 SL
    by_cases hd4 : 4 ≤ kt
    · by_cases hd9 : kt ≤ 9
      · have hR := HRK.out
        rw [if_pos (deadB_iff.2 ⟨hd4, hd9⟩)] at hR
        have HR2 := Lib.hid hR
        clear hR HRK
        go_wp2_with fail
        refine SC3.out.mono ?_
        rintro e w6 ⟨rfl, h7, h8⟩
        have HE : Hid (KillP w1 p sv R (.returned (.tuple #[])) w6) := Lib.hid ⟨rfl, by rw [HR2.out]; exact h7, HM5.out.trans h8⟩
        clear h7 h8
        go_wp2_with fail
        go_end0
        exact HE.out
      · have hR := HRK.out
        rw [if_neg (fun h => hd9 (deadB_iff.1 h).2)] at hR
        have HE : Hid (KillP w1 p sv R (.returned (.tuple #[])) (w4.alloc (.cells #[.int .i64 kt, .int .i64 kn] 27))) := Lib.hid ⟨rfl, by rw [hR]; exact H5.out, HM5.out⟩
        clear hR HRK
        go_wp2_with fail
        go_end0
        exact HE.out
    · have hR := HRK.out
      rw [if_neg (fun h => hd4 (deadB_iff.1 h).1)] at hR
      have HE : Hid (KillP w1 p sv R (.returned (.tuple #[])) (w4.alloc (.cells #[.int .i64 kt, .int .i64 kn] 27))) := Lib.hid ⟨rfl, by rw [hR]; exact H5.out, HM5.out⟩
      clear hR HRK
      go_wp2_with fail
      go_end0
      exact HE.out

/-! ### the document's Kill -/
def KillRP (w : World) (p : Nat) (A L : Value) (R : Tb) (e : Ending) (w' : World) : Prop := e = .returned (.tuple #[]) ∧ RefAt w' p A L R ∧ Keep (OwnR p A L) w w'

theorem RefAt.setKT {n c : Nat} (H : RefAt w p A (.slice (some ⟨g, 0, none⟩) n c) T) {i : Nat} (hi : i < T.nodes) (t : Int) :
    RefAt (w.setCell ⟨g, i * 4, none⟩ (.int .i64 t)) p A (.slice (some ⟨g, 0, none⟩) n c) (setT T ((T.a + 2 * i : Nat) : Int) ⟨t, (kN T i).n⟩) := by
  obtain ⟨a1, a2, a3⟩ := H.apart
  have hgp : p ≠ g := fun e => a2 (by rw [e]; rfl)
  have hex := H.exact_
  have h0 := H.setK hi ⟨t, (kN T i).n⟩
  have hat := H.nod_at
  have hs : (T.sl.drop T.a)[2 * i]? = some (kN T i) := by
    rw [List.getElem?_drop]
    exact slot_some (by omega)
  have hcell : (flatV (T.sl.drop T.a))[i * 4 + 1]? = some (.int .i64 (kN T i).n) := by
    have := flatV_get (k := 1) hs (by omega)
    rw [show 2 * i * 2 + 1 = i * 4 + 1 by omega] at this
    rw [this]; rfl
  have h1 := setCell_list (i := i * 4) hat (.int .i64 t)
  have he : ((w.setCell ⟨g, i * 4, none⟩ (.int .i64 t)).setCell ⟨g, i * 4 + 1, none⟩ (.int .i64 (kN T i).n)).heap[g]? = (w.setCell ⟨g, i * 4, none⟩ (.int .i64 t)).heap[g]? := by
    rw [setCell_list (i := i * 4 + 1) h1 (.int .i64 (kN T i).n), h1]
    congr 3
    apply List.ext_getElem?
    intro m
    rw [List.getElem?_set]
    split
    · rename_i hm
      subst hm
      have hlt : i * 4 + 1 < (flatV (T.sl.drop T.a)).length := (List.getElem?_eq_some_iff.1 hcell).1
      rw [if_pos (by simpa using hlt), List.getElem?_set_ne (by omega), hcell]
    · rfl
  refine h0.keep (B := fun _ => False) ⟨rfl, rfl, rfl, by simp [World.setCell], fun k _ _ => ?_⟩ (fun _ _ h => h)
  by_cases hk : k = g
  · subst hk; exact he.symm
  · exact (Below.heap_setCell _ _ _ _ hk).symm
end Go.Proofs.Ytpodgmajccmgkaa
