/- Going over a table, and emptying it meanwhile: in plain Lean. -/
import Derived.Test.YtpodgmajccmgkaaTabMade
namespace Go.Proofs.Ytpodgmajccmgkaa
set_option linter.unusedVariables false
set_option linter.unusedSimpArgs false

variable {T T' : Tb}

theorem find_fm {α β : Type} (p : β → Bool) {f g : α → Option β} : ∀ l : List α, (∀ i, i ∈ l → (f i).filter p = (g i).filter p) → (l.filterMap f).find? p = (l.filterMap g).find? p := by
  intro l
  induction l with
  | nil => intro _; rfl
  | cons x l ih =>
    intro h
    have hx := h x (by simp)
    have hl := ih (fun i hi => h i (by simp [hi]))
    rw [List.filterMap_cons, List.filterMap_cons]
    cases hf : f x with
    | none =>
      cases hg : g x with
      | none => exact hl
      | some b =>
        rw [hf, hg] at hx
        simp only [Option.filter] at hx
        split at hx
        · cases hx
        · rename_i hp
          simp only [List.find?_cons, hp]
          exact hl
    | some a =>
      cases hg : g x with
      | none =>
        rw [hf, hg] at hx
        simp only [Option.filter] at hx
        split at hx
        · cases hx
        · rename_i hp
          simp only [List.find?_cons, hp]
          exact hl
      | some b =>
        rw [hf, hg] at hx
        simp only [Option.filter] at hx
        simp only [List.find?_cons]
        cases ha : p a with
        | false =>
          cases hb : p b with
          | false => exact hl
          | true => rw [ha, hb] at hx; simp at hx
        | true =>
          cases hb : p b with
          | false => rw [ha, hb] at hx; simp at hx
          | true => rw [ha, hb] at hx; simpa using hx

/-- A slot at or ahead of f does not matter to what comes behind f. -/
theorem nx_set (hle : T.a ≤ T.sl.length) {x : Pr} (hx : x ∈ pairsL T) {f : Int} (hf : (x.i : Int) ≤ f) (v : V) : nx (setT T (x.i : Int) v) f = nx T f := by
  unfold nx pairsL
  rw [List.find?_append, List.find?_append, setT_a, setT_nodes]
  have e1 : (arrL (setT T (x.i : Int) v) T.a).find? (isNx f) = (arrL T T.a).find? (isNx f) := by
    unfold arrL
    refine find_fm _ _ fun i hi => ?_
    have hi := List.mem_range.1 hi
    rw [arrP_eq, arrP_eq]
    by_cases he : i = x.i
    · subst he
      have hn : ∀ u : V, isNx f ⟨x.i, ⟨2, (x.i : Int) + 1⟩, u⟩ = false := fun u => by unfold isNx; rw [decide_eq_false_iff_not]; simp only; omega
      split <;> split <;> simp [Option.filter, hn]
    · have : aN (setT T (x.i : Int) v) i = aN T i := by
        rcases mem_pairs.1 hx with ⟨j, hj, -, rfl⟩ | ⟨j, hj, -, rfl⟩
        · simp only at he ⊢; rw [aN_setA hle hj, if_neg he]
        · exact aN_setV hle hj v hi
      rw [this]
  have e2 : (nodL (setT T (x.i : Int) v) T.nodes).find? (isNx f) = (nodL T T.nodes).find? (isNx f) := by
    unfold nodL
    refine find_fm _ _ fun i hi => ?_
    rw [nodP_eq, nodP_eq, setT_a]
    rcases mem_pairs.1 hx with ⟨j, hj, -, rfl⟩ | ⟨j, hj, -, rfl⟩
    · simp only
      rw [vN_setA hle hj, kN_setA hle hj]
    · simp only at hf ⊢
      rw [vN_setV hle hj, kN_setV hle hj]
      by_cases he : i = j
      · subst he
        have hn : ∀ k u : V, isNx f ⟨T.a + 2 * i + 1, k, u⟩ = false := fun k u => by unfold isNx; rw [decide_eq_false_iff_not]; simp only; omega
        rw [if_pos rfl]
        split <;> split <;> simp [Option.filter, hn]
      · rw [if_neg he]
  rw [e1, e2]

/-- What comes behind the pair number j. -/
theorem find_sorted : ∀ (l : List Pr), l.Pairwise (fun x y => x.i < y.i) → ∀ (j : Nat) (x : Pr), l[j]? = some x → l.find? (isNx (x.i : Int)) = l[j + 1]? := by
  intro l
  induction l with
  | nil => intro _ j x h; simp at h
  | cons y l ih =>
    intro hp j x h
    rw [List.pairwise_cons] at hp
    rw [List.find?_cons]
    cases j with
    | zero =>
      simp only [List.getElem?_cons_zero, Option.some.injEq] at h
      subst h
      have : isNx (y.i : Int) y = false := by unfold isNx; rw [decide_eq_false_iff_not]; omega
      rw [this]
      simp only [Nat.zero_add, List.getElem?_cons_succ]
      cases l with
      | nil => rfl
      | cons z l =>
        have hz := hp.1 z (by simp)
        rw [List.find?_cons, show isNx (y.i : Int) z = true by unfold isNx; rw [decide_eq_true_eq]; omega]
        rfl
    | succ j =>
      rw [List.getElem?_cons_succ] at h
      have hm : x ∈ l := List.mem_of_getElem? h
      have := hp.1 x hm
      rw [show isNx (x.i : Int) y = false by unfold isNx; rw [decide_eq_false_iff_not]; omega]
      simp only [List.getElem?_cons_succ]
      exact ih hp.2 j x h

theorem nx_first (T : Tb) : nx T (-1) = nxR ((pairsL T)[0]?) := by
  unfold nx
  cases h : pairsL T with
  | nil => rfl
  | cons x l =>
    rw [List.find?_cons, show isNx (-1) x = true by unfold isNx; rw [decide_eq_true_eq]; omega]
    rfl
theorem nx_after (T : Tb) {j : Nat} {x : Pr} (h : (pairsL T)[j]? = some x) : nx T (x.i : Int) = nxR ((pairsL T)[j + 1]?) := by
  unfold nx
  rw [find_sorted _ (pairs_sorted T) j x h]

theorem next_first (T : Tb) : nextR T ⟨0, 0⟩ = nxR ((pairsL T)[0]?) := by
  unfold nextR
  rw [if_pos rfl, nx_first]
theorem next_after (H : WF T) {j : Nat} {x : Pr} (h : (pairsL T)[j]? = some x) : nextR T x.k = nxR ((pairsL T)[j + 1]?) := by
  obtain ⟨h1, h2, -, -⟩ := H.pair (List.mem_of_getElem? h)
  unfold nextR
  rw [if_neg (keyR_t h2).1, h2]
  simp only
  rw [h1, if_neg (by simp only; omega)]
  exact nx_after T h

/-! ### emptied -/
/-- The table without its first j values. -/
structure Em (T : Tb) (j : Nat) (R : Tb) : Prop where
  le : R.a ≤ R.sl.length
  a : R.a = T.a
  nodes : R.nodes = T.nodes
  find : ∀ k, findT R k = findT T k
  gone : ∀ x, x ∈ (pairsL T).take j → (slotT R (x.i : Int)).t = 0
  same : ∀ i : Nat, (∀ x, x ∈ (pairsL T).take j → x.i ≠ i) → slotT R (i : Int) = slotT T (i : Int)
  keys : ∀ y, kN R y = kN T y
  nx : ∀ f : Int, (∀ x, x ∈ (pairsL T).take j → (x.i : Int) ≤ f) → nx R f = nx T f
  cnt : (pairsL R).length ≤ (pairsL T).length + j

theorem Em.start (hle : T.a ≤ T.sl.length) : Em T 0 T := ⟨hle, rfl, rfl, fun _ => rfl, by simp, fun _ _ => rfl, fun _ => rfl, fun _ _ => rfl, Nat.le_refl _⟩

theorem slot_pair (hle : T.a ≤ T.sl.length) {x : Pr} (hx : x ∈ pairsL T) : x.i < T.sl.length ∧ ∀ y, x.i ≠ T.a + 2 * y := by
  rcases mem_pairs.1 hx with ⟨i, hi, -, rfl⟩ | ⟨j, hj, -, rfl⟩
  · exact ⟨by simp only; omega, fun y => by simp only; omega⟩
  · exact ⟨by have := idx_lt hle hj; simp only; omega, fun y => by simp only; omega⟩

theorem Em.step (hle : T.a ≤ T.sl.length) {j : Nat} {R : Tb} (h : Em T j R) {x : Pr} (hx : (pairsL T)[j]? = some x) : Em T (j + 1) (setT R (x.i : Int) nilV) := by
  have hm := List.mem_of_getElem? hx
  have htk : (pairsL T).take (j + 1) = (pairsL T).take j ++ [x] := by rw [List.take_add_one, hx]; rfl
  have hlt : ∀ y, y ∈ (pairsL T).take j → y.i < x.i := by
    intro y hy
    obtain ⟨k, hk, he⟩ := List.mem_take_iff_getElem.1 hy
    have hs := pairs_sorted T
    rw [List.pairwise_iff_getElem] at hs
    obtain ⟨hjl, hje⟩ := List.getElem?_eq_some_iff.1 hx
    have := hs k j (by omega) hjl (by omega)
    rw [he, hje] at this
    exact this
  obtain ⟨s1, s2⟩ := slot_pair hle hm
  have hxR : slotT R (x.i : Int) = slotT T (x.i : Int) := h.same x.i fun y hy e => by have := hlt y hy; omega
  have hnd := nodes_le h.le
  have hil : x.i < R.sl.length := by
    rcases mem_pairs.1 hm with ⟨i, hi, -, rfl⟩ | ⟨k, hk, -, rfl⟩
    · simp only; have := h.le; rw [h.a] at this; omega
    · simp only; rw [h.nodes, h.a] at hnd; omega
  have hmR : x ∈ pairsL R := by
    rcases mem_pairs.1 hm with ⟨i, hi, h0, he⟩ | ⟨k, hk, h0, he⟩
    · subst he
      refine mem_pairs.2 (.inl ⟨i, by rw [h.a]; exact hi, ?_, ?_⟩)
      · unfold aN; rw [hxR]; exact h0
      · unfold aN at hxR ⊢; rw [hxR]
    · subst he
      have hv : vN R k = vN T k := by unfold vN; rw [h.a]; exact hxR
      exact mem_pairs.2 (.inr ⟨k, by rw [h.nodes]; exact hk, by rw [hv]; exact h0, by rw [hv, h.keys, h.a]⟩)
  have hne : ∀ y, x.i ≠ R.a + 2 * y := by rw [h.a]; exact s2
  refine ⟨by rw [setT_a, setT_len]; exact h.le, (setT_a _ _ _).trans h.a, (setT_nodes _ _ _).trans h.nodes, fun k => (findT_set hil nilV hne k).trans (h.find k), ?_, ?_, fun y => (kN_set hil nilV hne y).trans (h.keys y), ?_, ?_⟩
  · intro y hy
    rw [htk, List.mem_append] at hy
    rw [slotT_set hil]
    by_cases he : y.i = x.i
    · rw [if_pos he]; rfl
    · rw [if_neg he]
      rcases hy with hy | hy
      · exact h.gone y hy
      · exact absurd (by rw [List.mem_singleton.1 hy]) he
  · intro i hi
    rw [slotT_set hil, if_neg (fun e => hi x (by rw [htk]; simp) e.symm)]
    exact h.same i fun y hy => hi y (by rw [htk]; simp [hy])
  · intro f hf
    rw [nx_set h.le hmR (hf x (by rw [htk]; simp))]
    exact h.nx f fun y hy => hf y (by rw [htk]; simp [hy])
  · have hc := h.cnt
    have : (pairsL (setT R (x.i : Int) nilV)).length ≤ (pairsL R).length + 1 := by
      rcases mem_pairs.1 hmR with ⟨i, hi, -, he⟩ | ⟨k, hk, -, he⟩
      · subst he; exact pairs_setA h.le hi nilV
      · subst he; exact pairs_setV h.le hk nilV
    omega

/-- Setting nil at the pair's key. -/
theorem Em.set (H : WF T) {j : Nat} {R : Tb} (h : Em T j R) {x : Pr} (hx : (pairsL T)[j]? = some x) : setR R x.k nilV = (setT R (x.i : Int) nilV, 0) := by
  obtain ⟨h1, h2, -, -⟩ := H.pair (List.mem_of_getElem? hx)
  have hf : findT R x.k = ((x.i : Int), -1) := (h.find x.k).trans h1
  have hp : putT R x.k nilV = (setT R (x.i : Int) nilV, true) := by unfold putT; rw [hf, if_pos (by simp only; omega)]
  unfold setR
  rw [h2]
  simp only
  rw [if_neg (by decide), hp]
  simp
theorem Em.next (H : WF T) {j : Nat} {R : Tb} (h : Em T (j + 1) R) {x : Pr} (hx : (pairsL T)[j]? = some x) : nextR R x.k = nxR ((pairsL T)[j + 1]?) := by
  obtain ⟨h1, h2, -, -⟩ := H.pair (List.mem_of_getElem? hx)
  have hf : findT R x.k = ((x.i : Int), -1) := (h.find x.k).trans h1
  unfold nextR
  rw [if_neg (keyR_t h2).1, h2]
  simp only
  rw [hf, if_neg (by simp only; omega), ← nx_after T hx]
  simp only
  refine h.nx _ fun y hy => ?_
  rw [List.take_add_one, hx, List.mem_append] at hy
  rcases hy with hy | hy
  · obtain ⟨k, hk, he⟩ := List.mem_take_iff_getElem.1 hy
    have hs := pairs_sorted T
    rw [List.pairwise_iff_getElem] at hs
    obtain ⟨hjl, hje⟩ := List.getElem?_eq_some_iff.1 hx
    have := hs k j (by omega) hjl (by omega)
    rw [he, hje] at this
    omega
  · simp only [Option.toList, List.mem_singleton] at hy
    rw [hy]; exact Int.le_refl _
/-- All gone. -/
theorem Em.last {j : Nat} {R : Tb} (h : Em T j R) (hj : (pairsL T).length ≤ j) : nextR R ⟨0, 0⟩ = (nilV, nilV, 0) := by
  have hp : pairsL R = [] := by
    rw [List.eq_nil_iff_forall_not_mem]
    intro x hx
    have htk : (pairsL T).take j = pairsL T := List.take_of_length_le hj
    have hslot : (slotT R (x.i : Int)).t ≠ 0 := by
      rcases mem_pairs.1 hx with ⟨i, -, h0, rfl⟩ | ⟨k, -, h0, rfl⟩
      · exact h0
      · exact h0
    have hx2 : ∀ y, y ∈ (pairsL T).take j → y.i ≠ x.i := fun y hy e => hslot (by rw [← e]; exact h.gone y hy)
    have hs := h.same x.i hx2
    rw [hs] at hslot
    rw [htk] at hx2
    rcases mem_pairs.1 hx with ⟨i, hi, h0, rfl⟩ | ⟨k, hk, h0, rfl⟩
    · rw [h.a] at hi
      exact hx2 ⟨i, ⟨2, (i : Int) + 1⟩, aN T i⟩ (mem_pairs.2 (.inl ⟨i, hi, hslot, rfl⟩)) rfl
    · rw [h.nodes] at hk
      simp only [h.a] at hslot hx2
      exact hx2 ⟨T.a + 2 * k + 1, kN T k, vN T k⟩ (mem_pairs.2 (.inr ⟨k, hk, hslot, rfl⟩)) rfl
  rw [next_first, hp]
  rfl
end Go.Proofs.Ytpodgmajccmgkaa
