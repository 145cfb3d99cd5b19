/- What renew and Set make of such a table: in plain Lean. -/
import Derived.Test.YtpodgmajccmgkaaTabWf3
namespace Go.Proofs.Ytpodgmajccmgkaa
set_option linter.unusedVariables false
set_option linter.unusedSimpArgs false

variable {T T' : Tb}

/-! ### the pairs in order -/
theorem pairs_sorted (T : Tb) : (pairsL T).Pairwise (fun x y => x.i < y.i) := by
  unfold pairsL
  rw [List.pairwise_append]
  refine ⟨?_, ?_, ?_⟩
  · unfold arrL
    refine List.Pairwise.filterMap (R := fun a b : Nat => a < b) (arrP T) ?_ List.pairwise_lt_range
    intro a a' h b hb b' hb'
    rw [arrP_eq] at hb hb'
    split at hb
    · cases hb
    · split at hb'
      · cases hb'
      · cases hb; cases hb'; exact h
  · unfold nodL
    refine List.Pairwise.filterMap (R := fun a b : Nat => a < b) (nodP T) ?_ List.pairwise_lt_range
    intro a a' h b hb b' hb'
    rw [nodP_eq] at hb hb'
    split at hb
    · cases hb
    · split at hb'
      · cases hb'
      · cases hb; cases hb'; show T.a + 2 * a + 1 < T.a + 2 * a' + 1; omega
  · intro x hx y hy
    obtain ⟨i, hi, h⟩ := List.mem_filterMap.1 hx
    obtain ⟨j, hj, h'⟩ := List.mem_filterMap.1 hy
    rw [arrP_eq] at h
    rw [nodP_eq] at h'
    have := List.mem_range.1 hi
    split at h
    · cases h
    · split at h'
      · cases h'
      · cases h; cases h'; show i < T.a + 2 * j + 1; omega
theorem WF.keys_nodup (H : WF T) : ((pairsL T).map Pr.k).Nodup := by
  unfold List.Nodup
  rw [List.pairwise_map]
  refine List.Pairwise.imp_of_mem ?_ (pairs_sorted T)
  intro x y hx hy hlt he
  have := H.pair_eq hx hy he
  subst this
  omega

/-! ### renew -/
def nonA (a : Nat) (k : V) : Bool := !decide (k.t = 2 ∧ 1 ≤ k.n ∧ k.n ≤ (a : Int))
theorem nonA_iff {T : Tb} {k : V} : nonA T.a k = true ↔ ¬ inA T k := by unfold nonA inA; rw [Bool.not_eq_true', decide_eq_false_iff_not]

theorem sized_slot (T : Tb) (a n : Nat) (i : Int) : slotT (sizedT T a n) i = nilV := by
  unfold slotT sizedT
  split
  · rw [List.getD_eq_getElem?_getD, List.getElem?_replicate]
    split <;> rfl
  · rfl
theorem sized_wf (T : Tb) (a n : Nat) : WF (sizedT T a n) := by
  refine ⟨by simp [sizedT], ?_, ?_⟩
  · intro x _ h; exact absurd (by unfold kN; rw [sized_slot]; rfl) h
  · intro x _ _; unfold vN; rw [sized_slot]; rfl
theorem sized_val (T : Tb) (a n : Nat) (k : V) : valT (sizedT T a n) k = nilV := by
  unfold valT; split
  · rfl
  · exact sized_slot _ _ _ _
theorem sized_pairs (T : Tb) (a n : Nat) : pairsL (sizedT T a n) = [] := by
  rw [List.eq_nil_iff_forall_not_mem]
  intro x hx
  rcases mem_pairs.1 hx with ⟨i, _, h, _⟩ | ⟨j, _, h, _⟩
  · exact h (by unfold aN; rw [sized_slot]; rfl)
  · exact h (by unfold vN; rw [sized_slot]; rfl)
theorem sized_used (T : Tb) (a n : Nat) : ∀ m, usedC (sizedT T a n) m = 0 := by
  intro m
  induction m with
  | zero => rfl
  | succ m ih => unfold usedC; rw [ih, if_pos (by unfold kN; rw [sized_slot]; rfl)]

structure RI (T0 : Tb) (pre : List Pr) (R : Tb) : Prop where
  wf : WF R
  a : R.a = T0.a
  nodes : R.nodes = T0.nodes
  cnt : (pairsL R).length ≤ pre.length
  key : ∀ x, x ∈ pre → keyR x.k = some x.k
  val : ∀ x, x ∈ pre → valT R x.k = x.v
  only : ∀ k, keyR k = some k → (∀ x, x ∈ pre → x.k ≠ k) → valT R k = nilV
  used : usedC R T0.nodes ≤ (pre.filter (fun x => nonA T0.a x.k)).length

theorem RI.start (T : Tb) (a n : Nat) : RI (sizedT T a n) [] (sizedT T a n) :=
  ⟨sized_wf _ _ _, rfl, rfl, by rw [sized_pairs]; exact Nat.le_refl _, by simp, by simp, fun k _ _ => sized_val _ _ _ _, by rw [sized_used]; exact Nat.zero_le _⟩

theorem insT_put {T : Tb} {x : Pr} (hv : x.v.t ≠ 0) (h : 0 ≤ (findT T x.k).1 ∨ 0 ≤ (findT T x.k).2) : insT T x = (putT T x.k x.v).1 ∧ (putT T x.k x.v).2 = true := by
  unfold insT putT
  by_cases h1 : 0 ≤ (findT T x.k).1
  · rw [if_neg (by omega), if_pos h1]; exact ⟨rfl, rfl⟩
  · rw [if_pos (by omega), if_neg h1, if_neg hv, if_pos (by omega)]; exact ⟨rfl, rfl⟩

theorem RI.step {T0 : Tb} {pre : List Pr} {R : Tb} (h : RI T0 pre R) {x : Pr} (hk : keyR x.k = some x.k) (hv : x.v.t ≠ 0) (hnew : ∀ y, y ∈ pre → y.k ≠ x.k)
    (hroom : nonA T0.a x.k = true → (pre.filter (fun x => nonA T0.a x.k)).length < T0.nodes) : RI T0 (pre ++ [x]) (insT R x) := by
  have hfr : 0 ≤ (findT R x.k).1 ∨ 0 ≤ (findT R x.k).2 := by
    by_cases h1 : 0 ≤ (findT R x.k).1
    · exact .inl h1
    · right
      have hna : ¬ inA R x.k := by
        intro hin
        unfold inA at hin
        unfold findT at h1
        rw [if_pos hin] at h1
        simp only at h1
        omega
      have hroom := hroom (by rw [← h.a]; exact nonA_iff.2 hna)
      have hu := h.used
      obtain ⟨y, hf, -, -⟩ := findT_free hna (by omega) (by
        have := used_free (T := R) R.nodes (by rw [h.nodes]; omega)
        exact this)
      rw [hf]; simp only; omega
  obtain ⟨h1, h2⟩ := insT_put hv hfr
  rw [h1]
  have P := put_ok h.wf hk h2
  refine ⟨P.wf, P.a.trans h.a, P.nodes.trans h.nodes, ?_, ?_, ?_, ?_, ?_⟩
  · have := P.cnt; have := h.cnt; rw [List.length_append]; simp only [List.length_cons, List.length_nil]; omega
  · intro y hy
    rcases List.mem_append.1 hy with hy | hy
    · exact h.key y hy
    · obtain rfl := List.mem_singleton.1 hy; exact hk
  · intro y hy
    rcases List.mem_append.1 hy with hy | hy
    · rw [P.other _ (h.key y hy) (hnew y hy)]; exact h.val y hy
    · obtain rfl := List.mem_singleton.1 hy
      exact P.val.2 hv
  · intro k hkk hno
    rw [P.other _ hkk (fun e => hno x (by simp) e.symm)]
    exact h.only k hkk (fun y hy => hno y (by simp [hy]))
  · have hu := P.used
    rw [h.nodes] at hu
    have h0 := h.used
    rw [List.filter_append, List.length_append, List.filter_cons]
    have hi := notA_iff R x.k
    by_cases hc : nonA T0.a x.k = true
    · rw [if_pos hc]
      simp only [List.filter_nil, List.length_cons, List.length_nil]
      have h1 : ∀ (c : Prop) [Decidable c], (if c then 1 else 0) ≤ 1 := fun c _ => by split <;> omega
      exact Nat.le_trans hu (Nat.add_le_add h0 (h1 _))
    · rw [if_neg (fun e => hc (by rw [← h.a]; exact nonA_iff.2 (hi.1 e)))] at hu
      rw [if_neg hc]
      simp only [List.filter_nil, List.length_nil]
      omega

theorem RI.all {T0 : Tb} : ∀ (L pre : List Pr) (R : Tb), RI T0 pre R → (∀ x, x ∈ L → keyR x.k = some x.k ∧ x.v.t ≠ 0) → ((pre ++ L).map Pr.k).Nodup → ((pre ++ L).filter (fun x => nonA T0.a x.k)).length ≤ T0.nodes → RI T0 (pre ++ L) (L.foldl insT R) := by
  intro L
  induction L with
  | nil => intro pre R h _ _ _; rw [List.append_nil]; exact h
  | cons x L ih =>
    intro pre R h hg hnd hlen
    obtain ⟨g1, g2⟩ := hg x (by simp)
    have hs := h.step (x := x) g1 g2 (by
      intro y hy he
      rw [List.map_append, List.nodup_append] at hnd
      exact hnd.2.2 y.k (List.mem_map.2 ⟨y, hy, rfl⟩) x.k (by simp) he) (by
      intro hn
      rw [List.filter_append, List.length_append, List.filter_cons, if_pos hn, List.length_cons] at hlen
      omega)
    have := ih (pre ++ [x]) (insT R x) hs (fun y hy => hg y (by simp [hy])) (by rw [List.append_assoc]; exact hnd) (by rw [List.append_assoc]; exact hlen)
    rw [List.append_assoc] at this
    exact this

theorem filter_split {α : Type} (p : α → Bool) : ∀ l : List α, (l.filter p).length + (l.filter (fun x => !p x)).length = l.length := by
  intro l
  induction l with
  | nil => rfl
  | cons x l ih =>
    rw [List.filter_cons, List.filter_cons]
    cases h : p x <;> simp [h] <;> omega

/-- The nodes that renew takes are enough for all keys that want one. -/
theorem newSz_room (T : Tb) (k : V) (hl : (pairsL T).length + 1 ≤ 8000) :
    ((pairsL T).filter (fun x => nonA (newSz T k).1 x.k)).length + (if nonA (newSz T k).1 k = true then 1 else 0) ≤ (newSz T k).2 ∧
    (inC (newSz T k).1 ((pairsL T).map Pr.k ++ [k]) + (((pairsL T).filter (fun x => nonA (newSz T k).1 x.k)).length + (if nonA (newSz T k).1 k = true then 1 else 0)) = (pairsL T).length + 1) := by
  have hb := (bestT_spec ((pairsL T).map Pr.k ++ [k]) 13 (Nat.le_refl _)).1
  have e1 : (newSz T k).1 = (bestT ((pairsL T).map Pr.k ++ [k]) 13).1 := rfl
  have e2 : (newSz T k).2 = nodT (((pairsL T).map Pr.k ++ [k]).length - (bestT ((pairsL T).map Pr.k ++ [k]) 13).2) := rfl
  rw [← e1] at hb
  rw [hb] at e2
  have hs := filter_split (fun v : V => decide (v.t = 2 ∧ 1 ≤ v.n ∧ v.n ≤ ((newSz T k).1 : Int))) ((pairsL T).map Pr.k ++ [k])
  have hK : (((pairsL T).map Pr.k ++ [k]).filter (fun v => !decide (v.t = 2 ∧ 1 ≤ v.n ∧ v.n ≤ ((newSz T k).1 : Int)))).length = ((pairsL T).filter (fun x => nonA (newSz T k).1 x.k)).length + (if nonA (newSz T k).1 k = true then 1 else 0) := by
    rw [List.filter_append, List.length_append, List.filter_map, List.length_map]
    congr 1
    rw [List.filter_cons]
    change List.length (if nonA (newSz T k).1 k = true then ([k] : List V) else []) = _
    split <;> rfl
  rw [hK] at hs
  have hlen : ((pairsL T).map Pr.k ++ [k]).length = (pairsL T).length + 1 := by simp
  change inC (newSz T k).1 ((pairsL T).map Pr.k ++ [k]) + _ = _ at hs
  rw [hlen] at hs e2
  refine ⟨?_, hs⟩
  rw [e2]
  refine Nat.le_trans ?_ (nodT_ge (by omega))
  omega

structure RenewOK (T R : Tb) (k : V) : Prop where
  wf : WF R
  a : R.a = (newSz T k).1
  nodes : R.nodes = (newSz T k).2
  cnt : (pairsL R).length ≤ (pairsL T).length
  val : ∀ x, x ∈ pairsL T → valT R x.k = x.v
  only : ∀ k', keyR k' = some k' → (∀ x, x ∈ pairsL T → x.k ≠ k') → valT R k' = nilV
  room : ¬ inA R k → usedC R R.nodes < R.nodes

theorem renew_ok (H : WF T) {k : V} (hl : (pairsL T).length + 1 ≤ 8000) (h : (renewT T k).2 = 0) : RenewOK T (renewT T k).1 k := by
  have e : renewT T k = ((pairsL T).foldl insT (sizedT T (newSz T k).1 (newSz T k).2), 0) := by
    unfold renewT at h ⊢
    split at h
    · rename_i h1; rw [if_pos h1]
    · cases h
  rw [e]
  simp only
  obtain ⟨hr, -⟩ := newSz_room T k hl
  have hn : (sizedT T (newSz T k).1 (newSz T k).2).nodes = (newSz T k).2 := sizedT_nodes _ _ _
  have A := RI.all (T0 := sizedT T (newSz T k).1 (newSz T k).2) (pairsL T) [] _ (RI.start T _ _) (fun x hx => ⟨(H.pair hx).2.1, (H.pair hx).2.2.2⟩) (by rw [List.nil_append]; exact H.keys_nodup) (by
    rw [List.nil_append, hn]
    exact Nat.le_trans (Nat.le_add_right _ _) hr)
  rw [List.nil_append] at A
  refine ⟨A.wf, A.a, A.nodes.trans hn, A.cnt, A.val, A.only, ?_⟩
  intro hna
  have hu := A.used
  rw [A.nodes, hn]
  rw [hn] at hu
  have hc : nonA (newSz T k).1 k = true := by
    have h1 := nonA_iff (T := (pairsL T).foldl insT (sizedT T (newSz T k).1 (newSz T k).2)) (k := k)
    rw [A.a] at h1
    exact h1.2 hna
  rw [if_pos hc] at hr
  exact Nat.lt_of_le_of_lt hu (by show _ < _; exact hr)

/-! ### Set -/
structure SetOK (T T' : Tb) (k v : V) : Prop where
  wf : WF T'
  cnt : (pairsL T').length ≤ (pairsL T).length + 1
  val : (valT T' k).t = v.t ∧ (v.t ≠ 0 → valT T' k = v)
  other : ∀ k', keyR k' = some k' → k' ≠ k → (valT T' k').t = (valT T k').t ∧ ((valT T k').t ≠ 0 → valT T' k' = valT T k')

theorem set_ok (H : WF T) (hl : (pairsL T).length + 1 ≤ 8000) (k0 v : V) :
    ((setR T k0 v).2 ≠ 0 ∧ (setR T k0 v).1 = T) ∨ (v.t ≠ 11 ∧ ∃ k, keyR k0 = some k ∧ (setR T k0 v).2 = 0 ∧ SetOK T (setR T k0 v).1 k v) := by
  unfold setR
  cases hk : keyR k0 with
  | none => exact .inl ⟨by simp, rfl⟩
  | some k =>
    simp only
    by_cases h11 : v.t = 11
    · rw [if_pos h11]; exact .inl ⟨by simp, rfl⟩
    · rw [if_neg h11]
      have hkk := keyR_idem hk
      by_cases hp : (putT T k v).2 = true
      · rw [if_pos hp]
        have P := put_ok H hkk hp
        exact .inr ⟨h11, k, rfl, rfl, P.wf, P.cnt, P.val, fun k' h1 h2 => by rw [P.other k' h1 h2]; exact ⟨rfl, fun _ => rfl⟩⟩
      · rw [if_neg hp]
        by_cases hr : (renewT T k).2 = 0
        · rw [if_pos hr]
          have A := renew_ok H (k := k) hl hr
          have hp2 : (putT (renewT T k).1 k v).2 = true := by
            unfold putT
            split
            · rfl
            · rename_i h1
              split
              · rfl
              · split
                · rfl
                · rename_i h2 h3
                  exfalso
                  have hna : ¬ inA (renewT T k).1 k := by
                    intro hin
                    unfold inA at hin
                    unfold findT at h1
                    rw [if_pos hin] at h1
                    simp only at h1
                    omega
                  obtain ⟨y, hf, -, -⟩ := findT_free hna (by omega) (used_free _ (A.room hna))
                  apply h3
                  rw [hf]; simp only; omega
          have P := put_ok A.wf hkk hp2
          refine .inr ⟨h11, k, rfl, rfl, P.wf, Nat.le_trans P.cnt (Nat.add_le_add_right A.cnt 1), P.val, fun k' h1 h2 => ?_⟩
          simp only
          rw [P.other k' h1 h2]
          by_cases h0 : (valT T k').t = 0
          · rw [A.only k' h1 (fun x hx he => by
              have := H.pair_val hx
              rw [he] at this
              exact (H.pair hx).2.2.2 (by rw [← this]; exact h0))]
            exact ⟨by rw [h0]; rfl, fun h => absurd h0 h⟩
          · obtain ⟨x, hx, hxk, hxv, -⟩ := val_pair h0
            have := A.val x hx
            rw [hxk, hxv] at this
            rw [this]
            exact ⟨rfl, fun _ => rfl⟩
        · rw [if_neg hr]
          exact .inl ⟨hr, rfl⟩
end Go.Proofs.Ytpodgmajccmgkaa
