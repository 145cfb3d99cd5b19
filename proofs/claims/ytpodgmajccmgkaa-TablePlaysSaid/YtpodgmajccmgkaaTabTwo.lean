/- A table and the document's table side by side. -/
import Derived.Test.YtpodgmajccmgkaaR6Kill
namespace Go.Proofs.Ytpodgmajccmgkaa
open Go.ChangeShapes Go.WideShapes Go.ChangeAt Go.RowKit Go.Deep
set_option linter.unusedVariables false
set_option linter.unusedSimpArgs false
attribute [local go_sem] Oper.semAt_some nil_slot field_t meth_array meth_nodes meth_slot meth_setslot meth_resize meth_hash

section
variable {H : Type} {enc : TypeId × Value → H} {W : World} {spare : Nat → Bool}
theorem open_actW {fuel : Nat} {cs : List Value} {x : DataW H × List MemPlace} (h : DataW.trod enc Try.prog W 0 spare true fuel 36 cs = some x) : ∃ u : ActV, cs = u.cells ∧ (Lit.int .i64 u.i).wf = true := by
  obtain ⟨ys, n', hn', hy, hlen, hyl, hf⟩ := DataW.trod_struct actFs_eq h
  rw [cells_act] at hlen
  rw [fields_size actFs_all] at hyl
  obtain ⟨a, b, c, d, e, f, rfl⟩ := len6 hlen
  · skip
    obtain ⟨f0, e0, t0, o0⟩ := field_at actFs_all (j := 0) rfl
    obtain ⟨f1, e1, t1, o1⟩ := field_at actFs_all (j := 1) rfl
    obtain ⟨f2, e2, t2, o2⟩ := field_at actFs_all (j := 2) rfl
    obtain ⟨f3, e3, t3, o3⟩ := field_at actFs_all (j := 3) rfl
    have h0 := hf 0 f0 e0
    have h1 := hf 1 f1 e1
    have h2 := hf 2 f2 e2
    have h3 := hf 3 f3 e3
    rw [t0, o0, cells_int] at h0
    rw [t1, o1, cells_val] at h1
    rw [t2, o2, cells_val] at h2
    rw [t3, o3, cells_int] at h3
    simp only [List.length_cons, List.length_nil] at hyl
    have g0 : ys[0]? = some (ys[0]'(by omega)) := List.getElem?_eq_getElem (by omega)
    have g1 : ys[1]? = some (ys[1]'(by omega)) := List.getElem?_eq_getElem (by omega)
    have g2 : ys[2]? = some (ys[2]'(by omega)) := List.getElem?_eq_getElem (by omega)
    have g3 : ys[3]? = some (ys[3]'(by omega)) := List.getElem?_eq_getElem (by omega)
    obtain ⟨x0, rfl⟩ := trod_i64 Try.underlying3 (h0.trans g0)
    obtain ⟨u1, k1⟩ := open_val (h1.trans g1)
    obtain ⟨u2, k2⟩ := open_val (h2.trans g2)
    obtain ⟨x3, hx3, -, hwf⟩ := DataW.trod_int Try.underlying3 (h3.trans g3)
    obtain rfl : f = .int .i64 x3 := by simpa using hx3
    simp only [V.cells, List.drop_succ_cons, List.drop_zero, List.take_succ_cons, List.take_zero, List.cons.injEq, and_true] at k1 k2
    obtain ⟨rfl, rfl⟩ := k1
    obtain ⟨rfl, rfl⟩ := k2
    exact ⟨⟨x0, u1, u2, x3⟩, rfl, hwf⟩

theorem open_actsW {fuel : Nat} {cs : List Value} {x : DataW H × List MemPlace} (h : DataW.trod enc Try.prog W 0 spare true fuel 22 cs = some x) :
    ∃ A l c, cs = [.slice A (List.length (α := ActV) l) c] ∧ Lst W W.heap.size A l ∧ l.length ≤ maxLen ∧ ∀ (i : Nat) (a : ActV), (l : List ActV)[i]? = some a → (Lit.int .i64 a.i).wf = true := by
  rcases open_slice Try.underlying22 h with ⟨hcs, hx⟩ | ⟨a, len, cap, m, n, D, Pl, hcs, _, hl, hm, hmm, hx, hel⟩
  · exact ⟨none, [], 0, by rw [hcs]; rfl, fun i a hi => by simp at hi, by simp [maxLen], fun i a hi => by simp at hi⟩
  · have key : ∀ i, i < len → ∃ act : ActV, (∀ j v, act.cells[j]? = some v → W.cell? ((a.add (i * 6)).add j) = some v) ∧ (Lit.int .i64 act.i).wf = true := by
      intro i hi
      obtain ⟨cs', hc, ht'⟩ := hel i (by rw [hmm]; split <;> omega)
      rw [cells_act] at hc
      obtain ⟨_, hcl, hat⟩ := World.cells?_some hc
      obtain ⟨u, rfl, hwf⟩ := open_actW ht'
      exact ⟨u, fun j v hj => (hat j (by have := (List.getElem?_eq_some_iff.1 hj).1; simpa [ActV.cells] using this)).trans hj, hwf⟩
    let g : Nat → ActV := fun i => if hi : i < len then Classical.choose (key i hi) else ⟨0, nilV, nilV, 0⟩
    refine ⟨some a, (List.range len).map g, cap, by simpa using hcs, ?_, by simp; omega, ?_⟩
    all_goals intro i act hi
    all_goals (
      rw [List.getElem?_map] at hi
      have hlt : i < len := by
        by_cases hlt : i < len
        · exact hlt
        · rw [List.getElem?_eq_none (by simp; omega)] at hi; simp at hi
      rw [List.getElem?_range hlt] at hi
      simp only [Option.map_some, Option.some.injEq] at hi
      have hs := Classical.choose_spec (key i hlt)
      have hg : g i = Classical.choose (key i hlt) := by simp [g, hlt]
      rw [← hg, hi] at hs)
    · refine ⟨a, rfl, ?_, hs.1⟩
      have := cell_lt (hs.1 0 _ rfl)
      rw [blk_add, blk_add] at this
      exact this
    · exact hs.2
end

variable {w0 w w' W W' : World} {p pm pr g n : Nat} {sv sv' A L A' L' : Value} {T T' R R' : Tb}
theorem wf_i64' {n : Int} (h : (Lit.int .i64 n).wf = true) : n < 2 ^ 63 ∧ -(2 ^ 63) ≤ n := by
  have h1 : IntKind.i64.min = -9223372036854775808 ∧ IntKind.i64.max = 9223372036854775807 := by decide
  simp [Lit.wf] at h
  omega
theorem nodup_le {α : Type} [DecidableEq α] : ∀ (l m : List α), l.Nodup → (∀ x, x ∈ l → x ∈ m) → l.length ≤ m.length := by
  intro l
  induction l with
  | nil => intro m _ _; exact Nat.zero_le _
  | cons x l ih =>
    intro m hn hs
    rw [List.nodup_cons] at hn
    have hx := hs x (by simp)
    have := ih (m.erase x) hn.2 (fun y hy => (List.mem_erase_of_ne (fun e => hn.1 (by rw [← e]; exact hy))).2 (hs y (by simp [hy])))
    rw [List.length_erase_of_mem hx] at this
    have := List.length_pos_of_mem hx
    rw [List.length_cons]; omega

theorem len_bound {c : Nat} (H : MT T c) (N : Nat) (h : ∀ i : Nat, i < N → (getT T ⟨2, (i : Int) + 1⟩).t ≠ 0) : N ≤ c := by
  have := nodup_le ((List.range N).map fun (i : Nat) => (⟨2, (i : Int) + 1⟩ : V)) ((pairsL T).map Pr.k) (by
    unfold List.Nodup
    rw [List.pairwise_map]
    refine List.Pairwise.imp ?_ List.pairwise_lt_range
    intro a b hab he
    simp only [V.mk.injEq, true_and] at he
    omega) (by
    intro x hx
    obtain ⟨i, hi, rfl⟩ := List.mem_map.1 hx
    have := h i (List.mem_range.1 hi)
    rw [getT_val (keyR_int _)] at this
    obtain ⟨y, hy, hk, -⟩ := val_pair this
    exact List.mem_map.2 ⟨y, hy, hk⟩)
  rw [List.length_map, List.length_map, List.length_range] at this
  exact Nat.le_trans this H.cnt

theorem len_exists {c : Nat} (H : MT T c) : ∃ N, N ≤ c ∧ IsLen T N := by
  have key : ∀ m, (∃ N, N ≤ m ∧ IsLen T N) ∨ (∀ i : Nat, i < m + 1 → (getT T ⟨2, (i : Int) + 1⟩).t ≠ 0) := by
    intro m
    induction m with
    | zero =>
      by_cases h : (getT T ⟨2, ((0 : Nat) : Int) + 1⟩).t = 0
      · exact .inl ⟨0, Nat.le_refl _, h, fun i hi => by omega⟩
      · right; intro i hi; obtain rfl : i = 0 := by omega
        exact h
    | succ m ih =>
      rcases ih with ⟨N, h1, h2⟩ | ih
      · exact .inl ⟨N, by omega, h2⟩
      · by_cases h : (getT T ⟨2, ((m + 1 : Nat) : Int) + 1⟩).t = 0
        · exact .inl ⟨m + 1, Nat.le_refl _, h, ih⟩
        · right
          intro i hi
          rcases Nat.lt_or_ge i (m + 1) with h1 | h1
          · exact ih i h1
          · obtain rfl : i = m + 1 := by omega
            exact h
  rcases key c with h | h
  · exact h
  · have := len_bound H (c + 1) h
    omega


/-! ### both side by side -/
/-- The program's table at pm holds T, the document's at pr holds R; the blocks in X are no part of either. -/
def St (w0 w : World) (X : Nat → Prop) (pm pr : Nat) (T R : Tb) : Prop :=
  ∃ sv A L, HasT w0 w pm sv T ∧ RefAt w pr A L R ∧ (∀ k, OwnR pr A L k → w0.heap.size ≤ k) ∧ (∀ k, OwnS pm sv k → ¬ OwnR pr A L k) ∧ ∀ k, X k → k < w.heap.size ∧ ¬ OwnS pm sv k ∧ ¬ OwnR pr A L k
def Kp (X : Nat → Prop) (w w' : World) : Prop := ∀ k, X k → w'.heap[k]? = w.heap[k]?
variable {X : Nat → Prop}
theorem Kp.box {b : Nat} {l : List Value} {e : TypeId} (h : Kp X w w') (hb : X b) (hx : Box w b l e) : Box w' b l e := hx.of_block (h b hb)
theorem Kp.trans (h : Kp X w w') (k : Kp X w' W) : Kp X w W := fun i hi => (k i hi).trans (h i hi)

theorem St.step (h : St w0 w X pm pr T R) (hb : Below w.heap.size w w') : St w0 w' X pm pr T R ∧ Kp X w w' := by
  obtain ⟨sv, A, L, h1, h2, h3, h4, h5⟩ := h
  exact ⟨⟨sv, A, L, h1.step hb, h2.below hb, h3, h4, fun k hk => ⟨Nat.lt_of_lt_of_le (h5 k hk).1 hb.size, (h5 k hk).2⟩⟩, fun k hk => hb.block k (h5 k hk).1⟩
theorem St.b (h : St w0 w X pm pr T R) : Below w0.heap.size w0 w := by obtain ⟨sv, A, L, h1, -⟩ := h; exact h1.b
/-- More blocks, made since, are no part of either. -/
theorem St.more {Y : Nat → Prop} (h : St w0 w X pm pr T R) (hb : Below w.heap.size w w') (hY : ∀ k, Y k → w.heap.size ≤ k ∧ k < w'.heap.size) : St w0 w' (fun k => X k ∨ Y k) pm pr T R := by
  obtain ⟨sv, A, L, h1, h2, h3, h4, h5⟩ := h
  refine ⟨sv, A, L, h1.step hb, h2.below hb, h3, h4, fun k hk => ?_⟩
  rcases hk with hk | hk
  · exact ⟨Nat.lt_of_lt_of_le (h5 k hk).1 hb.size, (h5 k hk).2⟩
  · have := hY k hk
    exact ⟨this.2, fun h => by have := h1.m.own_lt h; omega, fun h => by have := h2.own_lt h; omega⟩
theorem St.less {Y : Nat → Prop} (h : St w0 w X pm pr T R) (hY : ∀ k, Y k → X k) : St w0 w Y pm pr T R := by
  obtain ⟨sv, A, L, h1, h2, h3, h4, h5⟩ := h
  exact ⟨sv, A, L, h1, h2, h3, h4, fun k hk => h5 k (hY k hk)⟩

theorem St.mvm {sv A L} (h1 : HasT w0 w pm sv T) (h2 : RefAt w pr A L R) (h3 : ∀ k, OwnR pr A L k → w0.heap.size ≤ k) (h4 : ∀ k, OwnS pm sv k → ¬ OwnR pr A L k) (h5 : ∀ k, X k → k < w.heap.size ∧ ¬ OwnS pm sv k ∧ ¬ OwnR pr A L k)
    (hm : HasT w0 w' pm sv' T') (hv : Mv pm sv w w' sv') : St w0 w' X pm pr T' R ∧ Kp X w w' := by
  refine ⟨⟨sv', A, L, hm, h2.keep hv.1 (fun k hk ho => h4 k ho hk), h3, fun k hk ho => ?_, fun k hk => ?_⟩, fun k hk => hv.1.block k (h5 k hk).1 (h5 k hk).2.1⟩
  · rcases hv.2 k hk with h | h
    · exact h4 k h ho
    · have := h2.own_lt ho; omega
  · obtain ⟨a, b, c⟩ := h5 k hk
    refine ⟨Nat.lt_of_lt_of_le a hv.1.size, fun ho => ?_, c⟩
    rcases hv.2 k ho with h | h
    · exact b h
    · omega
theorem St.mvr {sv A L A' L'} (h1 : HasT w0 w pm sv T) (h2 : RefAt w pr A L R) (h3 : ∀ k, OwnR pr A L k → w0.heap.size ≤ k) (h4 : ∀ k, OwnS pm sv k → ¬ OwnR pr A L k) (h5 : ∀ k, X k → k < w.heap.size ∧ ¬ OwnS pm sv k ∧ ¬ OwnR pr A L k)
    (hm : RefAt w' pr A' L' R') (hv : MvR pr A L w w' A' L') : St w0 w' X pm pr T R' ∧ Kp X w w' := by
  have hmm : MemAt w' pm sv T := h1.m.keep hv.1 (fun k hk ho => h4 k hk ho)
  have hb : Below w0.heap.size w0 w' := h1.b.trans (hv.1.below h1.b.size (fun k hk ho => by have := h3 k ho; omega))
  refine ⟨⟨sv, A', L', ⟨hmm, h1.own, hb, h1.pow, h1.most⟩, hm, fun k hk => ?_, fun k hk ho => ?_, fun k hk => ?_⟩, fun k hk => hv.1.block k (h5 k hk).1 (h5 k hk).2.2⟩
  · rcases hv.2 k hk with h | h
    · exact h3 k h
    · exact Nat.le_trans h1.b.size h
  · rcases hv.2 k ho with h | h
    · exact h4 k hk h
    · have := h1.m.own_lt hk; omega
  · obtain ⟨a, b, c⟩ := h5 k hk
    refine ⟨Nat.lt_of_lt_of_le a hv.1.size, b, fun ho => ?_⟩
    rcases hv.2 k ho with h | h
    · exact c h
    · omega

def StP (w0 w : World) (X : Nat → Prop) (pm pr : Nat) (T R : Tb) (v : Value) (e : Ending) (w' : World) : Prop := e = .returned v ∧ St w0 w' X pm pr T R ∧ Kp X w w'

theorem st_set (h : St w0 w X pm pr T R) (hpl : (pairsL T).length + 1 ≤ 8000) (k v : V) {T' : Tb} {r : Int} (hr : setR T k v = (T', r)) :
    Calls Try.prog 16 #[.iface 23 (.pointer (some ⟨pm, 0, none⟩)), .agg #[.int .i64 k.t, .int .i64 k.n], .agg #[.int .i64 v.t, .int .i64 v.n]] w fun e w' => StP w0 w X pm pr T' R (.int .i64 r) e w' := by
  obtain ⟨sv, A, L, h1, h2, h3, h4, h5⟩ := h
  refine (set_has h1 hpl k v).mono ?_
  rintro e w1 ⟨sv', he, hm, hv⟩
  rw [hr] at he hm
  exact ⟨he, St.mvm h1 h2 h3 h4 h5 hm hv⟩
theorem st_get (h : St w0 w X pm pr T R) (k : V) {a b : Int} (hr : getT T k = ⟨a, b⟩) : Calls Try.prog 13 #[.iface 23 (.pointer (some ⟨pm, 0, none⟩)), .agg #[.int .i64 k.t, .int .i64 k.n]] w fun e w' => StP w0 w X pm pr T R (.agg #[.int .i64 a, .int .i64 b]) e w' := by
  have hs := fun {w'} (hb : Below w.heap.size w w') => h.step hb
  obtain ⟨sv, A, L, h1, h2, h3, h4, h5⟩ := h
  refine (get_has h1 k).mono ?_
  rintro e w1 ⟨he, hb⟩
  rw [hr] at he
  exact ⟨he, hs hb⟩
theorem st_next (h : St w0 w X pm pr T R) (k : V) {a b c d f : Int} (hr : nextR T k = (⟨a, b⟩, ⟨c, d⟩, f)) : Calls Try.prog 11 #[.iface 23 (.pointer (some ⟨pm, 0, none⟩)), .agg #[.int .i64 k.t, .int .i64 k.n]] w fun e w' => StP w0 w X pm pr T R (.tuple #[.agg #[.int .i64 a, .int .i64 b], .agg #[.int .i64 c, .int .i64 d], .int .i64 f]) e w' := by
  have hs := fun {w'} (hb : Below w.heap.size w w') => h.step hb
  obtain ⟨sv, A, L, h1, h2, h3, h4, h5⟩ := h
  refine (next_has h1 k).mono ?_
  rintro e w1 ⟨he, hb⟩
  rw [hr] at he
  exact ⟨he, hs hb⟩
theorem st_kill (h : St w0 w X pm pr T R) (i : Int) (hi : i < 2 ^ 63 ∧ -(2 ^ 63) ≤ i) : Calls Try.prog 25 #[.iface 23 (.pointer (some ⟨pm, 0, none⟩)), .int .i64 i] w fun e w' => StP w0 w X pm pr (killT T i) R (.tuple #[]) e w' := by
  obtain ⟨sv, A, L, h1, h2, h3, h4, h5⟩ := h
  refine (kill_any h1.m i hi).mono ?_
  rintro e w1 ⟨he, hm, hv⟩
  exact ⟨he, St.mvm h1 h2 h3 h4 h5 (h1.mv hm hv (by rw [killT_nodes]; exact h1.pow) (killT_shape T i).2.2) hv⟩
theorem st_rset (h : St w0 w X pm pr T R) (hW : WF R) (hpl : (pairsL R).length + 1 ≤ 8000) (k v : V) {R' : Tb} {r : Int} (hr : setR R k v = (R', r)) :
    Calls Try.prog 38 #[.pointer (some ⟨pr, 0, none⟩), .agg #[.bool false, .slice none 0 0, .slice none 0 0], .agg #[.int .i64 k.t, .int .i64 k.n], .agg #[.int .i64 v.t, .int .i64 v.n]] w fun e w' => StP w0 w X pm pr T R' (.int .i64 r) e w' := by
  obtain ⟨sv, A, L, h1, h2, h3, h4, h5⟩ := h
  refine (rset_any h2 hW hpl k v).mono ?_
  rintro e w1 ⟨A', L', he, hm, hv⟩
  rw [hr] at he hm
  exact ⟨he, St.mvr h1 h2 h3 h4 h5 hm hv⟩
theorem st_rget (h : St w0 w X pm pr T R) (k : V) {a b : Int} (hr : getT R k = ⟨a, b⟩) : Calls Try.prog 39 #[.pointer (some ⟨pr, 0, none⟩), .agg #[.bool false, .slice none 0 0, .slice none 0 0], .agg #[.int .i64 k.t, .int .i64 k.n]] w fun e w' => StP w0 w X pm pr T R (.agg #[.int .i64 a, .int .i64 b]) e w' := by
  have hs := fun {w'} (hb : Below w.heap.size w w') => h.step hb
  obtain ⟨sv, A, L, h1, h2, h3, h4, h5⟩ := h
  refine (rget_any h2 k).mono ?_
  rintro e w1 ⟨he, hb⟩
  rw [hr] at he
  exact ⟨he, hs hb⟩
theorem st_rnext (h : St w0 w X pm pr T R) (k : V) {a b c d f : Int} (hr : nextR R k = (⟨a, b⟩, ⟨c, d⟩, f)) : Calls Try.prog 40 #[.pointer (some ⟨pr, 0, none⟩), .agg #[.bool false, .slice none 0 0, .slice none 0 0], .agg #[.int .i64 k.t, .int .i64 k.n]] w fun e w' => StP w0 w X pm pr T R (.tuple #[.agg #[.int .i64 a, .int .i64 b], .agg #[.int .i64 c, .int .i64 d], .int .i64 f]) e w' := by
  have hs := fun {w'} (hb : Below w.heap.size w w') => h.step hb
  obtain ⟨sv, A, L, h1, h2, h3, h4, h5⟩ := h
  refine (rnext_any h2 k).mono ?_
  rintro e w1 ⟨he, hb⟩
  rw [hr] at he
  exact ⟨he, hs hb⟩
theorem st_rkill (h : St w0 w X pm pr T R) (i : Int) (hi : i < 2 ^ 63 ∧ -(2 ^ 63) ≤ i) : Calls Try.prog 41 #[.pointer (some ⟨pr, 0, none⟩), .int .i64 i] w fun e w' => StP w0 w X pm pr T (killT R i) (.tuple #[]) e w' := by
  obtain ⟨sv, A, L, h1, h2, h3, h4, h5⟩ := h
  refine (rkill_any h2 i hi).mono ?_
  rintro e w1 ⟨he, hm, hv⟩
  exact ⟨he, St.mvr h1 h2 h3 h4 h5 hm ⟨hv, fun k hk => .inl hk⟩⟩

/-- What a call makes of a table. -/
def actX (T : Tb) (a : ActV) : Tb := if a.kind = 1 then (setR T a.k a.v).1 else if a.kind = 4 then killT T a.i else T
theorem MT.actX {n : Nat} (h : MT T n) (hn : n + 1 ≤ 8000) (a : ActV) : MT (actX T a) (n + 1) := by
  unfold Go.Proofs.Ytpodgmajccmgkaa.actX
  split
  · exact h.set hn _ _
  · split
    · exact h.kill _
    · exact ⟨h.wf, Nat.le_succ_of_le h.cnt⟩
end Go.Proofs.Ytpodgmajccmgkaa
