/- Behind a renewal no part is spare by half; what does not fit leaves the table: in plain Lean. -/
import Derived.Test.YtpodgmajccmgkaaTabMade
namespace Go.Proofs.Ytpodgmajccmgkaa
set_option linter.unusedVariables false
set_option linter.unusedSimpArgs false

variable {T T' : Tb}

theorem nodup_le {α : Type} [DecidableEq α] : ∀ (l m : List α), l.Nodup → (∀ x, x ∈ l → x ∈ m) → l.length ≤ m.length := by
  intro l
  induction l with
  | nil => intro m _ _; exact Nat.zero_le _
  | cons x l ih =>
    intro m hn hs
    rw [List.nodup_cons] at hn
    have hx := hs x (by simp)
    have := ih (m.erase x) hn.2 (fun y hy => (List.mem_erase_of_ne (fun e => hn.1 (by rw [← e]; exact hy))).2 (hs y (by simp [hy])))
    rw [List.length_erase_of_mem hx] at this
    have := List.length_pos_of_mem hx
    rw [List.length_cons]; omega

def NoSpare (T : Tb) : Prop := (T.a = 0 ∨ T.a < 2 * (arrL T T.a).length) ∧ (T.nodes = 0 ∨ T.nodes < 2 * (nodL T T.nodes).length)

theorem mem_arr {x : Pr} (H : WF T) (hx : x ∈ pairsL T) (h : inA T x.k) : x ∈ arrL T T.a := by
  unfold pairsL at hx
  rcases List.mem_append.1 hx with h1 | h1
  · exact h1
  · exfalso
    obtain ⟨j, hj, he⟩ := List.mem_filterMap.1 h1
    rw [nodP_eq] at he
    split at he
    · cases he
    · rename_i h0
      cases he
      have hj := List.mem_range.1 hj
      exact (H.good j hj (fun e => h0 (H.free j hj e))).2.1 h
theorem mem_nod {x : Pr} (hx : x ∈ pairsL T) (h : ¬ inA T x.k) : x ∈ nodL T T.nodes := by
  unfold pairsL at hx
  rcases List.mem_append.1 hx with h1 | h1
  · exfalso
    obtain ⟨j, hj, he⟩ := List.mem_filterMap.1 h1
    rw [arrP_eq] at he
    have hj := List.mem_range.1 hj
    split at he
    · cases he
    · cases he
      exact h ⟨rfl, by show (1 : Int) ≤ (j : Int) + 1; omega, by show (j : Int) + 1 ≤ T.a; omega⟩
  · exact h1

theorem pow2_newSz (T : Tb) (k : V) : Pow2 (newSz T k).1 ∧ ((newSz T k).1 = 0 ∨ (newSz T k).1 < 2 * inC (newSz T k).1 ((pairsL T).map Pr.k ++ [k])) := by
  obtain ⟨h1, h2⟩ := bestT_spec ((pairsL T).map Pr.k ++ [k]) 13 (Nat.le_refl _)
  rw [h1] at h2
  change Pow2 (bestT ((pairsL T).map Pr.k ++ [k]) 13).1 ∧ ((bestT ((pairsL T).map Pr.k ++ [k]) 13).1 = 0 ∨ (bestT ((pairsL T).map Pr.k ++ [k]) 13).1 < 2 * inC (bestT ((pairsL T).map Pr.k ++ [k]) 13).1 ((pairsL T).map Pr.k ++ [k]))
  rcases h2 with h2 | ⟨j, hj, h2, h3⟩
  · exact ⟨.inl h2, .inl h2⟩
  · exact ⟨.inr ⟨j, by omega, h2⟩, .inr (by rw [h2] at h3 ⊢; exact h3)⟩

theorem put_true {T : Tb} {k v : V} (hr : ¬ inA T k → usedC T T.nodes < T.nodes) : (putT T k v).2 = true := by
  unfold putT
  by_cases h1 : 0 ≤ (findT T k).1
  · rw [if_pos h1]
  · rw [if_neg h1]
    by_cases h2 : v.t = 0
    · rw [if_pos h2]
    · rw [if_neg h2]
      have hna : ¬ inA T k := by
        intro hin
        unfold inA at hin
        unfold findT at h1
        rw [if_pos hin] at h1
        simp only at h1
        omega
      obtain ⟨y, hf, -, -⟩ := findT_free hna (by omega) (used_free _ (hr hna))
      rw [if_pos (by rw [hf]; simp only; omega)]

theorem sizes_law (H : WF T) (hl : (pairsL T).length + 1 ≤ 8000) (k0 v : V) : ((setR T k0 v).1.a = T.a ∧ (setR T k0 v).1.nodes = T.nodes) ∨ (NoSpare (setR T k0 v).1 ∧ Pow2 (setR T k0 v).1.a) := by
  unfold setR
  cases hk : keyR k0 with
  | none => exact .inl ⟨rfl, rfl⟩
  | some k =>
    simp only
    by_cases h11 : v.t = 11
    · rw [if_pos h11]; exact .inl ⟨rfl, rfl⟩
    · rw [if_neg h11]
      have hkk := keyR_idem hk
      by_cases hp : (putT T k v).2 = true
      · rw [if_pos hp]; exact .inl ⟨(putT_shape T k v).1, putT_nodes T k v⟩
      · rw [if_neg hp]
        by_cases hr : (renewT T k).2 = 0
        · rw [if_pos hr]
          right
          simp only
          have A := renew_ok H (k := k) hl hr
          have hnf : ¬ 0 ≤ (findT T k).1 := fun h => hp (by unfold putT; rw [if_pos h])
          have hvt : v.t ≠ 0 := fun h => hp (by unfold putT; rw [if_neg hnf, if_pos h])
          obtain ⟨hroom, hsum⟩ := newSz_room T k hl
          obtain ⟨hpw, hna⟩ := pow2_newSz T k
          have hp2 : (putT (renewT T k).1 k v).2 = true := put_true A.room
          have P := put_ok A.wf hkk hp2
          obtain ⟨R, hR⟩ : ∃ R, R = (putT (renewT T k).1 k v).1 := ⟨_, rfl⟩
          rw [← hR] at P ⊢
          have hRa : R.a = (newSz T k).1 := P.a.trans A.a
          have hRn : R.nodes = (newSz T k).2 := P.nodes.trans A.nodes
          have hxk : ∀ x, x ∈ pairsL T → x.k ≠ k := fun x hx e => by
            have := (H.pair hx).1
            rw [e] at this
            apply hnf; rw [this]; exact Int.natCast_nonneg _
          have hval : ∀ u, u ∈ (pairsL T).map Pr.k ++ [k] → ∃ x, x ∈ pairsL R ∧ x.k = u := by
            intro u hu
            have : (valT R u).t ≠ 0 := by
              rcases List.mem_append.1 hu with hu | hu
              · obtain ⟨x, hx, rfl⟩ := List.mem_map.1 hu
                rw [P.other x.k (H.pair hx).2.1 (hxk x hx), A.val x hx]
                exact (H.pair hx).2.2.2
              · obtain rfl := List.mem_singleton.1 hu
                rw [P.val.1]; exact hvt
            obtain ⟨x, h1, h2, -⟩ := val_pair this
            exact ⟨x, h1, h2⟩
          have hnd : ((pairsL T).map Pr.k ++ [k]).Nodup := by
            rw [List.nodup_append]
            refine ⟨H.keys_nodup, by simp, ?_⟩
            intro a ha b hb he
            obtain ⟨x, hx, rfl⟩ := List.mem_map.1 ha
            obtain rfl := List.mem_singleton.1 hb
            exact hxk x hx he
          have c1 : inC R.a ((pairsL T).map Pr.k ++ [k]) ≤ (arrL R R.a).length := by
            have := nodup_le (((pairsL T).map Pr.k ++ [k]).filter fun v => decide (v.t = 2 ∧ 1 ≤ v.n ∧ v.n ≤ (R.a : Int))) ((arrL R R.a).map Pr.k) (hnd.sublist List.filter_sublist) (by
              intro u hu
              rw [List.mem_filter, decide_eq_true_eq] at hu
              obtain ⟨x, hx, rfl⟩ := hval u hu.1
              exact List.mem_map.2 ⟨x, mem_arr P.wf hx hu.2, rfl⟩)
            rwa [List.length_map] at this
          have c2 : (((pairsL T).map Pr.k ++ [k]).filter fun v => nonA R.a v).length ≤ (nodL R R.nodes).length := by
            have := nodup_le (((pairsL T).map Pr.k ++ [k]).filter fun v => nonA R.a v) ((nodL R R.nodes).map Pr.k) (hnd.sublist List.filter_sublist) (by
              intro u hu
              rw [List.mem_filter] at hu
              obtain ⟨x, hx, rfl⟩ := hval u hu.1
              exact List.mem_map.2 ⟨x, mem_nod hx (nonA_iff.1 hu.2), rfl⟩)
            rwa [List.length_map] at this
          refine ⟨⟨?_, ?_⟩, by rw [hRa]; exact hpw⟩
          · rw [hRa] at c1 ⊢
            rcases hna with h | h
            · exact .inl h
            · right; omega
          · have e2 : (newSz T k).2 = nodT (((pairsL T).map Pr.k ++ [k]).length - (bestT ((pairsL T).map Pr.k ++ [k]) 13).2) := rfl
            have hb := (bestT_spec ((pairsL T).map Pr.k ++ [k]) 13 (Nat.le_refl _)).1
            change (bestT ((pairsL T).map Pr.k ++ [k]) 13).2 = inC (newSz T k).1 ((pairsL T).map Pr.k ++ [k]) at hb
            have hs := filter_split (fun v : V => decide (v.t = 2 ∧ 1 ≤ v.n ∧ v.n ≤ (R.a : Int))) ((pairsL T).map Pr.k ++ [k])
            change inC R.a ((pairsL T).map Pr.k ++ [k]) + (((pairsL T).map Pr.k ++ [k]).filter fun v => nonA R.a v).length = _ at hs
            rw [hb, ← hRa] at e2
            rw [hRn]
            rcases Nat.eq_zero_or_pos (newSz T k).2 with h | h
            · exact .inl h
            · right
              rw [hRn] at c2
              rw [e2] at h c2 ⊢
              have := nodT_lt h
              omega
        · rw [if_neg hr]; exact .inl ⟨rfl, rfl⟩

/-- What is refused leaves the table as it was; no more slots than may be. -/
theorem setR_refused (H : WF T) (hl : (pairsL T).length + 1 ≤ 8000) {k0 v : V} (h : (setR T k0 v).2 ≠ 0) : (setR T k0 v).1 = T := by
  rcases set_ok H hl k0 v with ⟨-, h2⟩ | ⟨-, k, -, h2, -⟩
  · exact h2
  · exact absurd h2 h
def Fits (T : Tb) : Prop := (T.a + 2 * T.nodes : Int) ≤ max T.most 0
theorem setR_fits (h : Fits T) (k0 v : V) : Fits (setR T k0 v).1 := by
  unfold setR
  cases keyR k0 with
  | none => exact h
  | some k =>
    simp only
    have hput : ∀ T : Tb, Fits T → Fits (putT T k v).1 := by
      intro T h
      unfold Fits at h ⊢
      obtain ⟨h1, -, h3⟩ := putT_shape T k v
      rw [h1, h3, putT_nodes]; exact h
    split
    · exact h
    · split
      · exact hput _ h
      · split
        · refine hput _ ?_
          unfold renewT
          split
          · rename_i hf
            obtain ⟨h1, h2, h3⟩ := foldl_shape (pairsL T) (sizedT T (newSz T k).1 (newSz T k).2)
            have hn : ((pairsL T).foldl insT (sizedT T (newSz T k).1 (newSz T k).2)).nodes = (newSz T k).2 :=
              (show _ = (sizedT T (newSz T k).1 (newSz T k).2).nodes by unfold Tb.nodes; rw [h1, h2]).trans (sizedT_nodes _ _ _)
            unfold Fits
            simp only
            rw [h1, h3, hn]
            show ((newSz T k).1 + 2 * (newSz T k).2 : Int) ≤ max T.most 0
            omega
          · exact h
        · exact h
end Go.Proofs.Ytpodgmajccmgkaa
