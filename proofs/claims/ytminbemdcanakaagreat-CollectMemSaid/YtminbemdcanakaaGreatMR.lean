/- A law's graphs, opened. -/
import Derived.Test.YtminbemdcanakaaGreatMO
import Derived.SizedLaws
import Derived.Test.YtminbemdcanakaaGreatMQ
namespace Go.Proofs.YtminbemdcanakaaGreat
open Go.ChangeShapes Go.WideShapes Go.ChangeAt Go.RowKit Go.Deep
set_option linter.unusedVariables false
set_option linter.unusedSimpArgs false

theorem choose_list {α : Type} {n : Nat} {P : Nat → α → Prop} (h : ∀ i, i < n → ∃ x, P i x) : ∃ l : List α, l.length = n ∧ ∀ (i : Nat) (x : α), l[i]? = some x → P i x := by
  induction n with
  | zero => exact ⟨[], rfl, fun i x hi => by simp at hi⟩
  | succ n ih =>
    obtain ⟨l, hl, hp⟩ := ih fun i hi => h i (by omega)
    obtain ⟨x, hx⟩ := h n (by omega)
    refine ⟨l ++ [x], by simp [hl], fun i y hi => ?_⟩
    by_cases hin : i < l.length
    · rw [List.getElem?_append_left hin] at hi; exact hp i y hi
    · have h1 := (List.getElem?_eq_some_iff.1 hi).1
      rw [List.length_append, List.length_singleton] at h1
      have e : i = n := by omega
      subst e
      rw [List.getElem?_append_right (by omega), hl, Nat.sub_self] at hi
      simp only [List.getElem?_cons_zero, Option.some.injEq] at hi
      subst hi
      exact hx
theorem flat_len {α : Type} {f : α → List Value} {n : Nat} (hf : ∀ x, (f x).length = n) (l : List α) : (l.flatMap f).length = l.length * n := by
  induction l with
  | nil => simp
  | cons x l ih => rw [List.flatMap_cons, List.length_append, ih, hf, List.length_cons, Nat.add_mul, Nat.one_mul, Nat.add_comm]
theorem flat_at {α : Type} {f : α → List Value} {n : Nat} (hf : ∀ x, (f x).length = n) : ∀ (l : List α) (j : Nat) (x : α), l[j]? = some x → ∀ k, k < n → (l.flatMap f)[j * n + k]? = (f x)[k]? := by
  intro l
  induction l with
  | nil => intro j x h; simp at h
  | cons y l ih =>
    intro j x h k hk
    rw [List.flatMap_cons]
    cases j with
    | zero =>
      simp only [List.getElem?_cons_zero, Option.some.injEq] at h
      subst h
      rw [Nat.zero_mul, Nat.zero_add, List.getElem?_append_left (by rw [hf]; exact hk)]
    | succ j =>
      rw [List.getElem?_cons_succ] at h
      rw [List.getElem?_append_right (by rw [hf, Nat.add_mul]; omega), show (j + 1) * n + k - (f y).length = j * n + k by rw [hf, Nat.add_mul]; omega]
      exact ih j x h k hk
theorem rd_parts {W : World} {a : Addr} {α : Type} {f : α → List Value} {n : Nat} (hn : 0 < n) (hf : ∀ x, (f x).length = n) {l : List α} (h : ∀ (i : Nat) (x : α), l[i]? = some x → ∀ k, k < n → W.cell? ((a.add (i * n)).add k) = (f x)[k]?) :
    ∀ (j : Nat) (u : Value), (l.flatMap f)[j]? = some u → W.cell? (a.add j) = some u := by
  intro j u hu
  have hj := (List.getElem?_eq_some_iff.1 hu).1
  rw [flat_len hf] at hj
  have hi : j / n < l.length := (Nat.div_lt_iff_lt_mul hn).2 hj
  obtain ⟨x, hx⟩ : ∃ x, l[j / n]? = some x := ⟨_, List.getElem?_eq_getElem hi⟩
  have hk : j % n < n := Nat.mod_lt _ hn
  have e : j / n * n + j % n = j := by rw [Nat.mul_comm]; exact Nat.div_add_mod j n
  have h1 := h _ _ hx _ hk
  rw [Addr.add_add, e, ← flat_at hf l _ x hx _ hk, e, hu] at h1
  exact h1
theorem weights_all {H : Type} {P : Program} {e : TypeId} {l : List (DataW H)} {d : DataW H} (hd : d ∈ l) : ∀ n ∈ d.weights P e, n ∈ DataW.weightsAll P e l := by
  intro n hn
  induction l with
  | nil => cases hd
  | cons x l ih =>
    simp only [DataW.weightsAll, List.mem_append]
    rcases List.mem_cons.1 hd with rfl | h
    · exact .inl hn
    · exact .inr (ih h)
theorem w_slice {H : Type} {P : Program} {t e : TypeId} {elems spare : List (DataW H)} (hu : P.underlying t = some (.slice e)) (hz : ∀ n ∈ (DataW.slice elems spare).weights P t, n ≤ reachBytes) :
    (elems.length + spare.length) * P.bytesOf e ≤ reachBytes ∧ ∀ d ∈ elems, ∀ n ∈ d.weights P e, n ≤ reachBytes := by
  refine ⟨hz _ (by simp [DataW.weights, hu]), fun d hd n hn => hz n ?_⟩
  simp only [DataW.weights, hu, List.mem_cons, List.mem_append]
  exact .inr (.inl (weights_all hd n hn))
theorem w_struct {H : Type} {P : Program} {t : TypeId} {fs : Array Field} {parts : List (DataW H)} (hu : P.underlying t = some (.struct fs)) (hz : ∀ n ∈ (DataW.agg parts).weights P t, n ≤ reachBytes) {j : Nat} {f : Field} {d : DataW H} (hf : fs[j]? = some f) (hd : parts[j]? = some d) :
    ∀ n ∈ d.weights P f.type, n ≤ reachBytes := by
  intro n hn
  refine hz n ?_
  simp only [DataW.weights, hu]
  exact DataW.weights_mem_each (j := j) (by rw [List.getElem?_map, Array.getElem?_toList, hf]; rfl) hd n hn
variable {H : Type} {enc : TypeId × Value → H} {W : World} {spare : Nat → Bool}
theorem bytes_val : Tryz.prog.bytesOf 34 = 16 := by kernel_rfl
theorem bytes_thing : Tryz.prog.bytesOf 36 = 56 := by kernel_rfl
theorem cells_thing : Tryz.prog.cellsOf 36 = 5 := by kernel_rfl
theorem cells_vals : Tryz.prog.cellsOf 23 = 1 := by kernel_rfl
theorem cells_things : Tryz.prog.cellsOf 22 = 1 := by kernel_rfl
theorem cells_graph : Tryz.prog.cellsOf 25 = 2 := by kernel_rfl
noncomputable def thFs : Array Field := match Tryz.prog.underlying 36 with | some (.struct fs) => fs | _ => #[]
theorem thFs_eq : Tryz.prog.underlying 36 = some (.struct thFs) := by kernel_rfl
theorem thFs_all : thFs.toList.map (fun f => (f.type, f.offset)) = [(3, 0), (3, 1), (3, 2), (23, 3), (3, 4)] := by kernel_rfl
noncomputable def grFs : Array Field := match Tryz.prog.underlying 25 with | some (.struct fs) => fs | _ => #[]
theorem grFs_eq : Tryz.prog.underlying 25 = some (.struct grFs) := by kernel_rfl
theorem grFs_all : grFs.toList.map (fun f => (f.type, f.offset)) = [(22, 0), (23, 1)] := by kernel_rfl
abbrev big : Nat := 8796093022208
theorem open_vals {fuel : Nat} {cs : List Value} {d : DataW H} {pl : List MemPlace} (h : DataW.trod enc Tryz.prog W 0 spare true fuel 23 cs = some (d, pl)) (hz : ∀ n ∈ d.weights Tryz.prog 23, n ≤ reachBytes) :
    ∃ v l, cs = [v] ∧ RdV W v l ∧ l.length ≤ big := by
  rcases open_slice Tryz.underlying23 h with ⟨hcs, hx⟩ | ⟨a, len, cap, m, n, D, Pl, hcs, _, hl, hm, hmm, hx, hel⟩
  · exact ⟨_, [], hcs, .inl ⟨rfl, rfl, rfl⟩, by simp⟩
  · have key : ∀ i, i < len → ∃ u : V, ∀ k, k < 2 → W.cell? ((a.add (i * 2)).add k) = (u.cells)[k]? := by
      intro i hi
      obtain ⟨cs', hc, ht'⟩ := hel i (by rw [hmm]; split <;> omega)
      rw [cells_val] at hc
      obtain ⟨_, hcl, hat⟩ := World.cells?_some hc
      obtain ⟨u, rfl⟩ := open_val ht'
      exact ⟨u, fun k hk => hat k hk⟩
    obtain ⟨l, hlen, hp⟩ := choose_list key
    have e := congrArg Prod.fst hx
    simp only at e
    subst e
    have hw := (w_slice Tryz.underlying23 hz).1
    rw [bytes_val] at hw
    simp only [List.length_map, List.length_range] at hw
    refine ⟨_, l, hcs, .inr ⟨a, cap, by rw [hlen], rd_parts (f := V.cells) (by decide) (fun _ => rfl) hp⟩, ?_⟩
    have : reachBytes < 2 ^ 47 := reachBytes_lt
    rw [hlen]
    show len ≤ 8796093022208
    have h2 : len * 16 ≤ reachBytes := Nat.le_trans (Nat.mul_le_mul_right 16 (Nat.le_add_right _ _)) hw
    omega
theorem len5 {l : List Value} (h : l.length = 5) : ∃ a b c d e, l = [a, b, c, d, e] := by
  obtain ⟨a, b, h1⟩ := len2 (l := l.take 2) (by rw [List.length_take]; omega)
  obtain ⟨c, d, h2⟩ := len2 (l := (l.drop 2).take 2) (by rw [List.length_take, List.length_drop]; omega)
  have h3 : ((l.drop 2).drop 2).length = 1 := by rw [List.length_drop, List.length_drop]; omega
  obtain ⟨e, h4⟩ := List.length_eq_one_iff.1 h3
  refine ⟨a, b, c, d, e, ?_⟩
  rw [← List.take_append_drop 2 l, h1, ← List.take_append_drop 2 (l.drop 2), h2, h4]; rfl
theorem open_thing {fuel : Nat} {cs : List Value} {d : DataW H} {pl : List MemPlace} (h : DataW.trod enc Tryz.prog W 0 spare true fuel 36 cs = some (d, pl)) (hz : ∀ n ∈ d.weights Tryz.prog 36, n ≤ reachBytes) :
    ∃ (o : Ob) (sv : Value), cs = thingL o sv ∧ RdV W sv o.slots ∧ o.slots.length ≤ big := by
  obtain ⟨ys, n', hn', hy, hlen, hyl, hf⟩ := DataW.trod_struct thFs_eq h
  have e := congrArg Prod.fst hy
  simp only at e
  subst e
  rw [cells_thing] at hlen
  rw [fields_size thFs_all] at hyl
  obtain ⟨a, b, c, dd, ee, rfl⟩ := len5 hlen
  obtain ⟨f0, e0, t0, o0⟩ := field_at thFs_all (j := 0) rfl
  obtain ⟨f1, e1, t1, o1⟩ := field_at thFs_all (j := 1) rfl
  obtain ⟨f2, e2, t2, o2⟩ := field_at thFs_all (j := 2) rfl
  obtain ⟨f3, e3, t3, o3⟩ := field_at thFs_all (j := 3) rfl
  obtain ⟨f4, e4, t4, o4⟩ := field_at thFs_all (j := 4) rfl
  have h0 := hf 0 f0 e0
  have h1 := hf 1 f1 e1
  have h2 := hf 2 f2 e2
  have h3 := hf 3 f3 e3
  have h4 := hf 4 f4 e4
  rw [t0, o0, cells_int] at h0
  rw [t1, o1, cells_int] at h1
  rw [t2, o2, cells_int] at h2
  rw [t3, o3, cells_vals] at h3
  rw [t4, o4, cells_int] at h4
  simp only [List.length_cons, List.length_nil] at hyl
  have g0 : ys[0]? = some (ys[0]'(by omega)) := List.getElem?_eq_getElem (by omega)
  have g1 : ys[1]? = some (ys[1]'(by omega)) := List.getElem?_eq_getElem (by omega)
  have g2 : ys[2]? = some (ys[2]'(by omega)) := List.getElem?_eq_getElem (by omega)
  have g3 : ys[3]? = some (ys[3]'(by omega)) := List.getElem?_eq_getElem (by omega)
  have g4 : ys[4]? = some (ys[4]'(by omega)) := List.getElem?_eq_getElem (by omega)
  obtain ⟨x0, rfl⟩ := trod_i64 Tryz.underlying3 (h0.trans g0)
  obtain ⟨x1, rfl⟩ := trod_i64 Tryz.underlying3 (h1.trans g1)
  obtain ⟨x2, rfl⟩ := trod_i64 Tryz.underlying3 (h2.trans g2)
  obtain ⟨x4, rfl⟩ := trod_i64 Tryz.underlying3 (h4.trans g4)
  have hz3 := w_struct thFs_eq hz e3 (d := (ys[3]'(by omega)).1) (by rw [List.getElem?_map, g3]; rfl)
  rw [t3] at hz3
  obtain ⟨v, l, hv, hr, hb⟩ := open_vals (d := (ys[3]'(by omega)).1) (pl := (ys[3]'(by omega)).2) (h3.trans g3) hz3
  simp only [List.drop_succ_cons, List.drop_zero, List.take_succ_cons, List.take_zero, List.cons.injEq, and_true] at hv
  subst hv
  exact ⟨⟨x0, x1, x2, l, x4, 0, 0⟩, _, rfl, hr, hb⟩
theorem open_things {fuel : Nat} {cs : List Value} {d : DataW H} {pl : List MemPlace} (h : DataW.trod enc Tryz.prog W 0 spare true fuel 22 cs = some (d, pl)) (hz : ∀ n ∈ d.weights Tryz.prog 22, n ≤ reachBytes) :
    ∃ (v : Value) (ts : List (Ob × Value)), cs = [v] ∧ Rd W v ts.length (flatT ts) ∧ (∀ o sv, (o, sv) ∈ ts → RdV W sv o.slots ∧ o.slots.length ≤ big) ∧ ts.length ≤ big := by
  rcases open_slice Tryz.underlying22 h with ⟨hcs, hx⟩ | ⟨a, len, cap, m, n, D, Pl, hcs, _, hl, hm, hmm, hx, hel⟩
  · exact ⟨_, [], hcs, .inl ⟨rfl, rfl, rfl⟩, fun o sv ho => by simp at ho, by simp⟩
  · have e := congrArg Prod.fst hx
    simp only at e
    subst e
    obtain ⟨hw, hw2⟩ := w_slice Tryz.underlying22 hz
    have key : ∀ i, i < len → ∃ x : Ob × Value, (∀ k, k < 5 → W.cell? ((a.add (i * 5)).add k) = (thingL x.1 x.2)[k]?) ∧ RdV W x.2 x.1.slots ∧ x.1.slots.length ≤ big := by
      intro i hi
      obtain ⟨cs', hc, ht'⟩ := hel i (by rw [hmm]; split <;> omega)
      rw [cells_thing] at hc
      obtain ⟨_, hcl, hat⟩ := World.cells?_some hc
      obtain ⟨o, sv, rfl, hr, hb⟩ := open_thing ht' (hw2 (D i) (List.mem_map.2 ⟨i, List.mem_range.2 hi, rfl⟩))
      exact ⟨(o, sv), fun k hk => hat k hk, hr, hb⟩
    obtain ⟨ts, hlen, hp⟩ := choose_list key
    rw [bytes_thing] at hw
    simp only [List.length_map, List.length_range] at hw
    refine ⟨_, ts, hcs, .inr ⟨a, cap, by rw [hlen], rd_parts (f := fun x : Ob × Value => thingL x.1 x.2) (by decide) (fun _ => rfl) fun i x hx => (hp i x hx).1⟩, fun o sv ho => ?_, ?_⟩
    · obtain ⟨i, hi⟩ := List.mem_iff_getElem?.1 ho
      exact (hp i _ hi).2
    · have : reachBytes < 2 ^ 47 := reachBytes_lt
      rw [hlen]
      show len ≤ 8796093022208
      have h2 : len * 56 ≤ reachBytes := Nat.le_trans (Nat.mul_le_mul_right 56 (Nat.le_add_right _ _)) hw
      omega
theorem open_graph {fuel : Nat} {cs : List Value} {d : DataW H} {pl : List MemPlace} (h : DataW.trod enc Tryz.prog W 0 spare true fuel 25 cs = some (d, pl)) (hz : ∀ n ∈ d.weights Tryz.prog 25, n ≤ reachBytes) :
    ∃ (tv rv : Value) (ts : List (Ob × Value)) (roots : List V), cs = [tv, rv] ∧ GrAt W tv rv ts roots ∧ ts.length ≤ big ∧ roots.length ≤ big ∧ ∀ o sv, (o, sv) ∈ ts → o.slots.length ≤ big := by
  obtain ⟨ys, n', hn', hy, hlen, hyl, hf⟩ := DataW.trod_struct grFs_eq h
  have e := congrArg Prod.fst hy
  simp only at e
  subst e
  rw [cells_graph] at hlen
  rw [fields_size grFs_all] at hyl
  obtain ⟨a, b, rfl⟩ := len2 hlen
  obtain ⟨f0, e0, t0, o0⟩ := field_at grFs_all (j := 0) rfl
  obtain ⟨f1, e1, t1, o1⟩ := field_at grFs_all (j := 1) rfl
  have h0 := hf 0 f0 e0
  have h1 := hf 1 f1 e1
  rw [t0, o0, cells_things] at h0
  rw [t1, o1, cells_vals] at h1
  simp only [List.length_cons, List.length_nil] at hyl
  have g0 : ys[0]? = some (ys[0]'(by omega)) := List.getElem?_eq_getElem (by omega)
  have g1 : ys[1]? = some (ys[1]'(by omega)) := List.getElem?_eq_getElem (by omega)
  have hz0 := w_struct grFs_eq hz e0 (d := (ys[0]'(by omega)).1) (by rw [List.getElem?_map, g0]; rfl)
  have hz1 := w_struct grFs_eq hz e1 (d := (ys[1]'(by omega)).1) (by rw [List.getElem?_map, g1]; rfl)
  rw [t0] at hz0
  rw [t1] at hz1
  obtain ⟨v, ts, hv, hr, hs, hb⟩ := open_things (d := (ys[0]'(by omega)).1) (pl := (ys[0]'(by omega)).2) (h0.trans g0) hz0
  obtain ⟨v2, l, hv2, hr2, hb2⟩ := open_vals (d := (ys[1]'(by omega)).1) (pl := (ys[1]'(by omega)).2) (h1.trans g1) hz1
  simp only [List.drop_succ_cons, List.drop_zero, List.take_succ_cons, List.take_zero, List.cons.injEq, and_true] at hv hv2
  subst hv
  subst hv2
  exact ⟨_, _, ts, l, rfl, ⟨hr, fun o sv ho => (hs o sv ho).1, hr2⟩, hb, hb2, fun o sv ho => (hs o sv ho).2⟩
end Go.Proofs.YtminbemdcanakaaGreat
/- A law's calls of objects, opened. -/
namespace Go.Proofs.YtminbemdcanakaaGreat
open Go.ChangeShapes Go.WideShapes Go.ChangeAt Go.RowKit Go.Deep
set_option linter.unusedVariables false
set_option linter.unusedSimpArgs false

structure CallV where
  kind : Int
  h : Int
  n : Int
  v : V
  t : Ob
  key : Bool
def callL (x : CallV × Value) : List Value := [.int .i64 x.1.kind, .int .i64 x.1.h, .int .i64 x.1.n, .int .i64 x.1.v.t, .int .i64 x.1.v.n, .int .i64 x.1.t.kind, .int .i64 x.1.t.weak, .int .i64 x.1.t.array, x.2, .int .i64 x.1.t.fin, .bool x.1.key]
variable {H : Type} {enc : TypeId × Value → H} {W : World} {spare : Nat → Bool}
noncomputable def clFs : Array Field := match Tryz.prog.underlying 38 with | some (.struct fs) => fs | _ => #[]
theorem clFs_eq : Tryz.prog.underlying 38 = some (.struct clFs) := by kernel_rfl
theorem clFs_all : clFs.toList.map (fun f => (f.type, f.offset)) = [(3, 0), (3, 1), (3, 2), (34, 3), (36, 5), (4, 10)] := by kernel_rfl
theorem cells_call : Tryz.prog.cellsOf 38 = 11 := by kernel_rfl
theorem cells_bool : Tryz.prog.cellsOf 4 = 1 := by kernel_rfl
theorem bytes_call : 1 ≤ Tryz.prog.bytesOf 38 := of_decide_eq_true (by kernel_rfl)
theorem trod_b {t : TypeId} (ht : Tryz.prog.underlying t = some .bool) {fuel : Nat} {v : Value} {x : DataW H × List MemPlace} (h : DataW.trod enc Tryz.prog W 0 spare true fuel t [v] = some x) : ∃ b, v = .bool b := by
  obtain ⟨b, hv, _⟩ := DataW.trod_bool ht h
  exact ⟨b, by simpa using hv⟩
theorem open_call {fuel : Nat} {cs : List Value} {d : DataW H} {pl : List MemPlace} (h : DataW.trod enc Tryz.prog W 0 spare true fuel 38 cs = some (d, pl)) (hz : ∀ n ∈ d.weights Tryz.prog 38, n ≤ reachBytes) :
    ∃ (c : CallV) (sv : Value), cs = callL (c, sv) ∧ RdV W sv c.t.slots ∧ c.t.slots.length ≤ big := by
  obtain ⟨ys, n', hn', hy, hlen, hyl, hf⟩ := DataW.trod_struct clFs_eq h
  have e := congrArg Prod.fst hy
  simp only at e
  subst e
  rw [cells_call] at hlen
  rw [fields_size clFs_all] at hyl
  obtain ⟨c0, c1, c2, c3, c4, r1⟩ := len5 (l := cs.take 5) (by rw [List.length_take]; omega)
  obtain ⟨c5, c6, c7, c8, c9, r2⟩ := len5 (l := (cs.drop 5).take 5) (by rw [List.length_take, List.length_drop]; omega)
  obtain ⟨c10, r3⟩ := List.length_eq_one_iff.1 (show ((cs.drop 5).drop 5).length = 1 by rw [List.length_drop, List.length_drop]; omega)
  have hcs : cs = [c0, c1, c2, c3, c4, c5, c6, c7, c8, c9, c10] := by
    rw [← List.take_append_drop 5 cs, r1, ← List.take_append_drop 5 (cs.drop 5), r2, r3]; rfl
  subst hcs
  obtain ⟨f0, e0, t0, o0⟩ := field_at clFs_all (j := 0) rfl
  obtain ⟨f1, e1, t1, o1⟩ := field_at clFs_all (j := 1) rfl
  obtain ⟨f2, e2, t2, o2⟩ := field_at clFs_all (j := 2) rfl
  obtain ⟨f3, e3, t3, o3⟩ := field_at clFs_all (j := 3) rfl
  obtain ⟨f4, e4, t4, o4⟩ := field_at clFs_all (j := 4) rfl
  obtain ⟨f5, e5, t5, o5⟩ := field_at clFs_all (j := 5) rfl
  have h0 := hf 0 f0 e0
  have h1 := hf 1 f1 e1
  have h2 := hf 2 f2 e2
  have h3 := hf 3 f3 e3
  have h4 := hf 4 f4 e4
  have h5 := hf 5 f5 e5
  rw [t0, o0, cells_int] at h0
  rw [t1, o1, cells_int] at h1
  rw [t2, o2, cells_int] at h2
  rw [t3, o3, cells_val] at h3
  rw [t4, o4, cells_thing] at h4
  rw [t5, o5, cells_bool] at h5
  simp only [List.length_cons, List.length_nil] at hyl
  have g0 : ys[0]? = some (ys[0]'(by omega)) := List.getElem?_eq_getElem (by omega)
  have g1 : ys[1]? = some (ys[1]'(by omega)) := List.getElem?_eq_getElem (by omega)
  have g2 : ys[2]? = some (ys[2]'(by omega)) := List.getElem?_eq_getElem (by omega)
  have g3 : ys[3]? = some (ys[3]'(by omega)) := List.getElem?_eq_getElem (by omega)
  have g4 : ys[4]? = some (ys[4]'(by omega)) := List.getElem?_eq_getElem (by omega)
  have g5 : ys[5]? = some (ys[5]'(by omega)) := List.getElem?_eq_getElem (by omega)
  obtain ⟨x0, rfl⟩ := trod_i64 Tryz.underlying3 (h0.trans g0)
  obtain ⟨x1, rfl⟩ := trod_i64 Tryz.underlying3 (h1.trans g1)
  obtain ⟨x2, rfl⟩ := trod_i64 Tryz.underlying3 (h2.trans g2)
  obtain ⟨u3, k3⟩ := open_val (h3.trans g3)
  obtain ⟨x5, rfl⟩ := trod_b Tryz.underlying4 (h5.trans g5)
  have hz4 := w_struct clFs_eq hz e4 (d := (ys[4]'(by omega)).1) (by rw [List.getElem?_map, g4]; rfl)
  rw [t4] at hz4
  obtain ⟨o, sv, hv, hr, hb⟩ := open_thing (d := (ys[4]'(by omega)).1) (pl := (ys[4]'(by omega)).2) (h4.trans g4) hz4
  simp only [V.cells, thingL, List.drop_succ_cons, List.drop_zero, List.take_succ_cons, List.take_zero, List.cons.injEq, and_true] at hv k3
  obtain ⟨rfl, rfl⟩ := k3
  obtain ⟨rfl, rfl, rfl, rfl, rfl⟩ := hv
  exact ⟨⟨x0, x1, x2, u3, o, x5⟩, _, rfl, hr, hb⟩
/-- A slice of calls, as it lies. -/
structure CallsAt (W : World) (v : Value) (l : List (CallV × Value)) : Prop where
  rd : Rd W v l.length (l.flatMap callL)
  slots : ∀ c sv, (c, sv) ∈ l → RdV W sv c.t.slots ∧ c.t.slots.length ≤ big
theorem CallsAt.below {w w' : World} {v : Value} {l : List (CallV × Value)} (h : CallsAt w v l) (hb : Below w.heap.size w w') : CallsAt w' v l := ⟨Rd.below h.rd hb, fun c sv hc => ⟨Rd.below (h.slots c sv hc).1 hb, (h.slots c sv hc).2⟩⟩
theorem open_calls {fuel : Nat} {cs : List Value} {d : DataW H} {pl : List MemPlace} (h : DataW.trod enc Tryz.prog W 0 spare true fuel 26 cs = some (d, pl)) (hz : ∀ n ∈ d.weights Tryz.prog 26, n ≤ reachBytes) :
    ∃ (v : Value) (l : List (CallV × Value)), cs = [v] ∧ CallsAt W v l ∧ l.length < 9223372036854775807 := by
  rcases open_slice Tryz.underlying26 h with ⟨hcs, hx⟩ | ⟨a, len, cap, m, n, D, Pl, hcs, _, hl, hm, hmm, hx, hel⟩
  · exact ⟨_, [], hcs, ⟨.inl ⟨rfl, rfl, rfl⟩, fun c sv ho => by simp at ho⟩, by simp⟩
  · have e := congrArg Prod.fst hx
    simp only at e
    subst e
    obtain ⟨hw, hw2⟩ := w_slice Tryz.underlying26 hz
    have key : ∀ i, i < len → ∃ x : CallV × Value, (∀ k, k < 11 → W.cell? ((a.add (i * 11)).add k) = (callL x)[k]?) ∧ RdV W x.2 x.1.t.slots ∧ x.1.t.slots.length ≤ big := by
      intro i hi
      obtain ⟨cs', hc, ht'⟩ := hel i (by rw [hmm]; split <;> omega)
      rw [cells_call] at hc
      obtain ⟨_, hcl, hat⟩ := World.cells?_some hc
      obtain ⟨o, sv, rfl, hr, hb⟩ := open_call ht' (hw2 (D i) (List.mem_map.2 ⟨i, List.mem_range.2 hi, rfl⟩))
      exact ⟨(o, sv), fun k hk => hat k hk, hr, hb⟩
    obtain ⟨ts, hlen, hp⟩ := choose_list key
    simp only [List.length_map, List.length_range] at hw
    refine ⟨_, ts, hcs, ⟨.inr ⟨a, cap, by rw [hlen], rd_parts (f := callL) (by decide) (fun _ => rfl) fun i x hx => (hp i x hx).1⟩, fun o sv ho => ?_⟩, ?_⟩
    · obtain ⟨i, hi⟩ := List.mem_iff_getElem?.1 ho
      exact (hp i _ hi).2
    · have : reachBytes < 2 ^ 47 := reachBytes_lt
      rw [hlen]
      have h2 : len * 1 ≤ reachBytes := Nat.le_trans (Nat.mul_le_mul (Nat.le_add_right _ _) bytes_call) hw
      omega
end Go.Proofs.YtminbemdcanakaaGreat
/- Is a graph gone through? -/
namespace Go.Proofs.YtminbemdcanakaaGreat
open Go.RowKit
set_option linter.unusedVariables false
set_option linter.unusedSimpArgs false

variable {w : World}
def Few (ts : List (Ob × Value)) (roots : List V) : Prop := ts.length ≤ 60 ∧ roots.length ≤ 600 ∧ ∀ o sv, (o, sv) ∈ ts → o.slots.length ≤ 600
def FewP (w : World) (ts : List (Ob × Value)) (roots : List V) (e : Ending) (w' : World) : Prop := ∃ b, e = .returned (.bool b) ∧ (b = true → Few ts roots) ∧ Below w.heap.size w w'
def slotSum (ts : List (Ob × Value)) : Nat := (ts.map fun x => x.1.slots.length).sum
theorem slotSum_snoc (ts : List (Ob × Value)) (x : Ob × Value) : slotSum (ts ++ [x]) = slotSum ts + x.1.slots.length := by unfold slotSum; simp
theorem slotSum_le {ts : List (Ob × Value)} {o : Ob} {sv : Value} (h : (o, sv) ∈ ts) : o.slots.length ≤ slotSum ts := by
  unfold slotSum
  induction ts with
  | nil => cases h
  | cons x ts ih =>
    rw [List.map_cons, List.sum_cons]
    rcases List.mem_cons.1 h with rfl | h
    · show o.slots.length ≤ o.slots.length + _; omega
    · have := ih h; omega
set_option maxRecDepth 100000 in
set_option maxHeartbeats 4000000 in
theorem few_any {tv rv : Value} {ts : List (Ob × Value)} {roots : List V} (hg : GrAt w tv rv ts roots) (h1 : ts.length ≤ big) (h2 : roots.length ≤ big) (h3 : ∀ o sv, (o, sv) ∈ ts → o.slots.length ≤ big) :
    Calls Tryz.prog 15 #[.agg #[tv, rv]] w fun e w' => FewP w ts roots e w' := by
  obtain ⟨ta, tc, rfl⟩ := rd_slice hg.things
  obtain ⟨ra, rc, rfl⟩ := rd_slice hg.roots
  obtain ⟨N, hN⟩ : ∃ N, N = ts.length := ⟨_, rfl⟩
  obtain ⟨RN, hRN⟩ : ∃ N, N = roots.length := ⟨_, rfl⟩
  have hb0 := below_alloc w (.cells #[.slice ta ts.length tc, .slice ra roots.length rc] 25)
  have hbx := Box.new w [.slice ta ts.length tc, .slice ra roots.length rc] 25
  have HT := Lib.hid (hg.below hb0).things
  have HSL := Lib.hid (hg.below hb0).slots
  obtain ⟨W0, hW0⟩ : ∃ W, W = w.alloc (.cells #[.slice ta ts.length tc, .slice ra roots.length rc] 25) := ⟨_, rfl⟩
  have HSZ := Lib.hid (show W0.heap.size = w.heap.size + 1 by rw [hW0]; simp)
  have HB0 := Lib.hid (show Below w.heap.size w W0 by rw [hW0]; exact hb0)
  have HX := Lib.hid (show Box W0 w.heap.size [.slice ta ts.length tc, .slice ra roots.length rc] 25 by rw [hW0]; exact hbx)
  rw [← hW0] at HT HSL
  rw [← hN, ← hRN] at hW0 HX
  rw [← hN] at h1
  rw [← hRN] at h2
  have HN := Lib.hid hN
  have HRN := Lib.hid hRN
  have H3 := Lib.hid h3
  rw [← hN, ← hRN]
  clear hg hb0 hbx hN hRN h3
  have h1' : N ≤ 8796093022208 := h1
  have h2' : RN ≤ 8796093022208 := h2
  clear h1 h2
  go_enter Tryz.func15, Tryz.ntmps15
  go_wp2_with fail
  rw [← hW0]
  clear hW0
  go_loopw [3, 4] (fun t3 t4 wr => ∃ (i nn : Nat), i ≤ N ∧ i ≤ 61 ∧ t3 = .int .i64 (nn : Int) ∧ t4 = .int .i64 i ∧ nn = RN + slotSum (ts.take i) ∧ nn ≤ 8796093022208 * (i + 1) ∧ Below W0.heap.size W0 wr) (fun _ t4 _ => N - (intOf t4).toNat)
  case atStart => exact ⟨0, RN, Nat.zero_le _, by omega, by go_num, by go_num, by simp [slotSum], by omega, Below.refl _ _⟩
  case round =>
    obtain ⟨i, nn, hi, hi61, rfl, rfl, hnn, hnb, hB⟩ := hrel
    have z0 := ((HX.out.below hB (by have := HSZ.out; omega)).cell 0)
    simp only [List.getElem?_cons_zero] at z0
    by_cases hlt : i < N
    · by_cases h60 : i ≤ 60
      · have e2 : decide ((i : Int) ≤ 60) = true := decide_eq_true (by omega)
        obtain ⟨⟨o, sv⟩, hx⟩ : ∃ x, ts[i]? = some x := ⟨ts[i]'(by rw [← HN.out]; exact hlt), List.getElem?_eq_getElem _⟩
        have hmem : (o, sv) ∈ ts := List.mem_of_getElem? hx
        obtain ⟨ad, c2, ha, hc⟩ := rd_at (Rd.below HT.out hB) (by intro e; have := flatT_len ts; rw [e] at this; simp at this; have := HN.out; omega)
        rw [← HN.out] at ha
        simp only [Value.slice.injEq] at ha
        obtain ⟨rfl, -, rfl⟩ := ha
        obtain ⟨f0, f1, f2, f3, f4⟩ := flatT_at _ _ _ hx
        have d3 := cell_more (k := 2) (hc _ _ f3)
        simp only [Nat.reduceAdd] at d3
        have hsl := HSL.out o sv hmem
        have hsz : o.slots.length ≤ 8796093022208 := H3.out o sv hmem
        obtain ⟨sa, sc, rfl⟩ := rd_slice hsl
        have hts : slotSum (ts.take (i + 1)) = slotSum (ts.take i) + o.slots.length := by
          rw [List.take_add_one, hx]; exact slotSum_snoc _ _
        have HTS := Lib.hid hts
        obtain ⟨K, hK⟩ : ∃ K, K = o.slots.length := ⟨_, rfl⟩
        rw [← hK] at d3 hsz HTS
        have HNN := Lib.hid hnn
        have q1 : IntKind.i64.wrap ((nn : Int) + (K : Int)) = (nn : Int) + (K : Int) := IntWalk.i64_in _ (by omega)
        clear hc hx hmem f0 f1 f2 f3 f4 hsl hts hK hnn
        go_wp2_with fail
        go_roundw
        case rel => exact ⟨i + 1, nn + K, by omega, by omega, by go_num, by go_num, by rw [HTS.out, HNN.out]; omega, by omega, hB⟩
        case measure => simp [intOf]; omega
      · have e2 : decide ((i : Int) ≤ 60) = false := decide_eq_false (by omega)
        have e3 : decide ((N : Int) ≤ 60) = false := decide_eq_false (by omega)
        have HB1 := Lib.hid (HB0.out.trans (hB.mono (by have := HSZ.out; omega)))
        clear hnn
        go_wp2_with fail
        go_ret
        exact ⟨false, rfl, (fun h => nomatch h), HB1.out⟩
    · obtain rfl : i = N := by omega
      have HB1 := Lib.hid (HB0.out.trans (hB.mono (by have := HSZ.out; omega)))
      by_cases h60 : i ≤ 60
      · have e3 : decide ((i : Int) ≤ 60) = true := decide_eq_true (by omega)
        by_cases h600 : nn ≤ 600
        · have e4 : decide ((nn : Int) ≤ 600) = true := decide_eq_true (by omega)
          have HF := Lib.hid (show Few ts roots from by
            rw [HN.out, List.take_length] at hnn
            refine ⟨by rw [← HN.out]; exact h60, by rw [← HRN.out]; omega, fun o sv ho => ?_⟩
            have := slotSum_le ho
            omega)
          clear hnn
          go_wp2_with fail
          go_ret
          exact ⟨true, rfl, fun _ => HF.out, HB1.out⟩
        · have e4 : decide ((nn : Int) ≤ 600) = false := decide_eq_false (by omega)
          clear hnn
          go_wp2_with fail
          go_ret
          exact ⟨false, rfl, (fun h => nomatch h), HB1.out⟩
      · have e3 : decide ((i : Int) ≤ 60) = false := decide_eq_false (by omega)
        clear hnn
        go_wp2_with fail
        go_ret
        exact ⟨false, rfl, (fun h => nomatch h), HB1.out⟩
end Go.Proofs.YtminbemdcanakaaGreat
/- The program's objects and the reference's, side by side. -/
namespace Go.Proofs.YtminbemdcanakaaGreat
open Go.RowKit
set_option linter.unusedVariables false
set_option linter.unusedSimpArgs false

/-- Objects M at p, the reference's N at L, both made since w0; blocks X are neither's. -/
structure Two (X : Nat → Prop) (w0 w : World) (p : Nat) (L : RL) (M N : Mm) : Prop where
  m : ∃ Lm : ML, Lm.p = p ∧ MemAt w Lm M ∧ ∀ k, Lm.own k → w0.heap.size ≤ k ∧ ¬ L.own k ∧ ¬ X k
  r : RMAt w L N
  ro : ∀ k, L.own k → w0.heap.size ≤ k ∧ ¬ X k
  below : Below w0.heap.size w0 w
  lt : ∀ k, X k → k < w.heap.size
variable {X : Nat → Prop} {w0 w w' : World} {p : Nat} {L : RL} {M M' N N' : Mm}
theorem Two.next (h : Two X w0 w p L M N) (hb : Below w.heap.size w w') : Two X w0 w' p L M N := by
  obtain ⟨⟨Lm, e, hm, ho⟩, hr, hro, hbl, hl⟩ := h
  exact ⟨⟨Lm, e, hm.below hb, ho⟩, hr.below hb, hro, hbl.trans (hb.mono hbl.size), fun k y => Nat.lt_of_lt_of_le (hl k y) hb.size⟩
theorem Two.alloc (h : Two X w0 w p L M N) (o : Obj) : Two (fun k => k = w.heap.size) w0 (w.alloc o) p L M N := by
  obtain ⟨⟨Lm, e, hm, ho⟩, hr, hro, hbl, hl⟩ := h
  have hb := below_alloc w o
  exact ⟨⟨Lm, e, hm.below hb, fun k hk => ⟨(ho k hk).1, (ho k hk).2.1, fun y => by have := hm.own_lt hk; omega⟩⟩, hr.below hb, fun k hk => ⟨(hro k hk).1, fun y => by have := hr.own_lt hk; omega⟩, hbl.trans (hb.mono hbl.size), fun k y => by subst y; simp⟩
/-- What is watched stays. -/
def Stay (X : Nat → Prop) (w w' : World) : Prop := ∀ k, X k → w'.heap[k]? = w.heap[k]?
theorem two_mem {Lm : ML} (ho : ∀ k, Lm.own k → w0.heap.size ≤ k ∧ ¬ L.own k ∧ ¬ X k) (hr : RMAt w L N) (hro : ∀ k, L.own k → w0.heap.size ≤ k ∧ ¬ X k) (hbl : Below w0.heap.size w0 w) (hl : ∀ k, X k → k < w.heap.size) (hT : MTo w Lm w' M') : Two X w0 w' Lm.p L M' N ∧ Stay X w w' := by
  obtain ⟨L', hp, hm, hk, ho'⟩ := hT
  refine ⟨⟨⟨L', hp, hm, fun k hk' => ?_⟩, hr.keep hk fun k hk1 hk2 => (ho k hk2).2.1 hk1, hro, hbl.trans (hk.below hbl.size fun k hk1 hk2 => by have := (ho k hk2).1; omega), fun k y => Nat.lt_of_lt_of_le (hl k y) hk.size⟩, fun k y => hk.block k (hl k y) fun e => (ho k e).2.2 y⟩
  rcases ho' k hk' with e | e
  · exact ho k e
  · exact ⟨Nat.le_trans hbl.size e, fun x => by have := hr.own_lt x; omega, fun x => by have := hl k x; omega⟩
theorem Two.ref (h : Two X w0 w p L M N) (hT : RTo w L w' N') : ∃ L', L'.p = L.p ∧ Two X w0 w' p L' M N' ∧ Stay X w w' := by
  obtain ⟨⟨Lm, e, hm, ho⟩, hr, hro, hbl, hl⟩ := h
  obtain ⟨L', hp, hr', hk, ho'⟩ := hT
  refine ⟨L', hp, ⟨⟨Lm, e, hm.keep hk fun k hk1 hk2 => (ho k hk1).2.1 hk2, fun k hk1 => ⟨(ho k hk1).1, fun x => ?_, (ho k hk1).2.2⟩⟩, hr', fun k hk1 => ?_, hbl.trans (hk.below hbl.size fun k hk1 hk2 => by have := (hro k hk2).1; omega), fun k y => Nat.lt_of_lt_of_le (hl k y) hk.size⟩, fun k y => hk.block k (hl k y) fun e => (hro k e).2 y⟩
  · rcases ho' k x with y | y
    · exact (ho k hk1).2.1 y
    · have := hm.own_lt hk1; omega
  · rcases ho' k hk1 with y | y
    · exact hro k y
    · exact ⟨by have := hbl.size; omega, fun x => by have := hl k x; omega⟩
def MC (X : Nat → Prop) (w0 w : World) (p : Nat) (L : RL) (M' N : Mm) (v : Value) (e : Ending) (w' : World) : Prop := e = .returned v ∧ Two X w0 w' p L M' N ∧ Stay X w w'
def RC' (X : Nat → Prop) (w0 w : World) (p q : Nat) (M N' : Mm) (v : Value) (e : Ending) (w' : World) : Prop := e = .returned v ∧ ∃ L', L'.p = q ∧ Two X w0 w' p L' M N' ∧ Stay X w w'
theorem Two.mem (h : Two X w0 w p L M N) : MemIs w p M := by obtain ⟨⟨Lm, e, hm, -⟩, -⟩ := h; exact ⟨Lm, e, hm⟩
theorem mc_add (h : Two X w0 w p L M N) (hs : M.obs.length ≤ 100000) {o : Ob} {sv : Value} (hv : RdV w sv o.slots) (hn : o.slots.length ≤ 100000) : Calls Tryz.prog 19 #[.pointer (some ⟨p, 0, none⟩), thingV o sv] w fun e w' => MC X w0 w p L (M.added o) N (.int .i64 (addH M o)) e w' := by
  obtain ⟨⟨Lm, rfl, hm, ho⟩, hr, hro, hbl, hl⟩ := h
  exact (add_any hm hs hv hn).mono fun e w' ⟨he, hT⟩ => ⟨he, two_mem ho hr hro hbl hl hT⟩
theorem mc_set (h : Two X w0 w p L M N) (hs : Sz M) (x i : Int) (v : V) : Calls Tryz.prog 21 #[.pointer (some ⟨p, 0, none⟩), .int .i64 x, .int .i64 i, v.val] w fun e w' => MC X w0 w p L (M.set x i v) N (.bool (M.canSet x i)) e w' := by
  obtain ⟨⟨Lm, rfl, hm, ho⟩, hr, hro, hbl, hl⟩ := h
  exact (set_any hm hs.n x i v (at_small hs)).mono fun e w' ⟨he, h1, hk⟩ => ⟨he, two_mem ho hr hro hbl hl (MTo.same h1 hk)⟩
theorem mc_setRoots (h : Two X w0 w p L M N) {v : Value} {l : List V} (hv : RdV w v l) (hs : l.length ≤ 100000) : Calls Tryz.prog 23 #[.pointer (some ⟨p, 0, none⟩), v] w fun e w' => MC X w0 w p L { M with roots := l } N (.tuple #[]) e w' := by
  obtain ⟨⟨Lm, rfl, hm, ho⟩, hr, hro, hbl, hl⟩ := h
  exact (setRoots_any hm hv hs).mono fun e w' ⟨he, u, h1, hk, hown⟩ => ⟨he, two_mem ho hr hro hbl hl (show MTo w Lm w' { M with roots := l } from ⟨{ Lm with roots := u }, rfl, h1, hk, hown⟩)⟩
theorem mc_setColour (h : Two X w0 w p L M N) (hs : M.obs.length ≤ 100000) (x i : Int) : Calls Tryz.prog 24 #[.pointer (some ⟨p, 0, none⟩), .int .i64 x, .int .i64 i] w fun e w' => MC X w0 w p L (M.setCol x i) N (.tuple #[]) e w' := by
  obtain ⟨⟨Lm, rfl, hm, ho⟩, hr, hro, hbl, hl⟩ := h
  exact (setColour_any hm hs x i).mono fun e w' ⟨he, h1, hk⟩ => ⟨he, two_mem ho hr hro hbl hl (MTo.same h1 hk)⟩
theorem mc_setAge (h : Two X w0 w p L M N) (hs : M.obs.length ≤ 100000) (x i : Int) : Calls Tryz.prog 25 #[.pointer (some ⟨p, 0, none⟩), .int .i64 x, .int .i64 i] w fun e w' => MC X w0 w p L (M.setAge x i) N (.tuple #[]) e w' := by
  obtain ⟨⟨Lm, rfl, hm, ho⟩, hr, hro, hbl, hl⟩ := h
  exact (setAge_any hm hs x i).mono fun e w' ⟨he, h1, hk⟩ => ⟨he, two_mem ho hr hro hbl hl (MTo.same h1 hk)⟩
theorem mc_setFin (h : Two X w0 w p L M N) (hs : M.obs.length ≤ 100000) (x i : Int) : Calls Tryz.prog 27 #[.pointer (some ⟨p, 0, none⟩), .int .i64 x, .int .i64 i] w fun e w' => MC X w0 w p L (M.setFin x i) N (.tuple #[]) e w' := by
  obtain ⟨⟨Lm, rfl, hm, ho⟩, hr, hro, hbl, hl⟩ := h
  exact (setFin_any hm hs x i).mono fun e w' ⟨he, h1, hk⟩ => ⟨he, two_mem ho hr hro hbl hl (MTo.same h1 hk)⟩
theorem mc_clear (h : Two X w0 w p L M N) (hs : Sz M) (x i : Int) (b : Bool) : Calls Tryz.prog 29 #[.pointer (some ⟨p, 0, none⟩), .int .i64 x, .int .i64 i, .bool b] w fun e w' => MC X w0 w p L (M.clear x i b) N (.tuple #[]) e w' := by
  obtain ⟨⟨Lm, rfl, hm, ho⟩, hr, hro, hbl, hl⟩ := h
  exact (clear_any hm hs.n x i b (at_small hs)).mono fun e w' ⟨he, h1, hk⟩ => ⟨he, two_mem ho hr hro hbl hl (MTo.same h1 hk)⟩
theorem mc_drop (h : Two X w0 w p L M N) (hs : M.obs.length ≤ 100000) (x : Int) : Calls Tryz.prog 31 #[.pointer (some ⟨p, 0, none⟩), .int .i64 x] w fun e w' => MC X w0 w p L (M.drop x) N (.tuple #[]) e w' := by
  obtain ⟨⟨Lm, rfl, hm, ho⟩, hr, hro, hbl, hl⟩ := h
  exact (drop_any hm hs x).mono fun e w' ⟨he, h1, hk⟩ => ⟨he, two_mem ho hr hro hbl hl (MTo.same h1 hk)⟩
theorem rc_add (h : Two X w0 w p L M N) (hs : N.obs.length ≤ 100000) {o : Ob} {sv : Value} (hv : RdV w sv o.slots) (hn : o.slots.length ≤ 100000) : Calls Tryz.prog 20 #[.pointer (some ⟨L.p, 0, none⟩), thingV o sv] w fun e w' => RC' X w0 w p L.p M (N.added o) (.int .i64 (addH N o)) e w' :=
  (radd_any h.r hs hv hn).mono fun e w' ⟨he, hT⟩ => ⟨he, h.ref hT⟩
theorem rc_set (h : Two X w0 w p L M N) (hs : Sz N) (x i : Int) (v : V) : Calls Tryz.prog 22 #[.pointer (some ⟨L.p, 0, none⟩), .int .i64 x, .int .i64 i, v.val] w fun e w' => RC' X w0 w p L.p M (N.set x i v) (.bool (N.canSet x i)) e w' :=
  (rset_any h.r hs.n x i v (at_small hs)).mono fun e w' ⟨he, h1, hk⟩ => ⟨he, h.ref (RTo.same h1 hk)⟩
theorem rc_put (h : Two X w0 w p L M N) (hs : N.obs.length ≤ 100000) (x c a : Int) : Calls Tryz.prog 26 #[.pointer (some ⟨L.p, 0, none⟩), .int .i64 x, .int .i64 c, .int .i64 a] w fun e w' => RC' X w0 w p L.p M ((N.setCol x c).setAge x a) (.tuple #[]) e w' :=
  (rput_any h.r hs x c a).mono fun e w' ⟨he, h1, hk⟩ => ⟨he, h.ref (RTo.same h1 hk)⟩
theorem rc_setFin (h : Two X w0 w p L M N) (hs : N.obs.length ≤ 100000) (x c : Int) : Calls Tryz.prog 28 #[.pointer (some ⟨L.p, 0, none⟩), .int .i64 x, .int .i64 c] w fun e w' => RC' X w0 w p L.p M (N.setFin x c) (.tuple #[]) e w' :=
  (rsetFin_any h.r hs x c).mono fun e w' ⟨he, h1, hk⟩ => ⟨he, h.ref (RTo.same h1 hk)⟩
theorem rc_clear (h : Two X w0 w p L M N) (hs : Sz N) (x i : Int) (b : Bool) : Calls Tryz.prog 30 #[.pointer (some ⟨L.p, 0, none⟩), .int .i64 x, .int .i64 i, .bool b] w fun e w' => RC' X w0 w p L.p M (N.clear x i b) (.tuple #[]) e w' :=
  (rclear_any h.r hs.n x i b (at_small hs)).mono fun e w' ⟨he, h1, hk⟩ => ⟨he, h.ref (RTo.same h1 hk)⟩
theorem rc_drop (h : Two X w0 w p L M N) (hs : N.obs.length ≤ 100000) (x : Int) : Calls Tryz.prog 32 #[.pointer (some ⟨L.p, 0, none⟩), .int .i64 x] w fun e w' => RC' X w0 w p L.p M (N.drop x) (.tuple #[]) e w' :=
  (rdrop_any h.r hs x).mono fun e w' ⟨he, hT⟩ => ⟨he, h.ref hT⟩
/-- Roots are set, by the law itself. -/
theorem Two.roots (h : Two X w0 w p L M N) {w2 : World} {B : Nat} {u : Value} {l : List V} (hB : w.heap.size ≤ B) (hb : Below w.heap.size w w2) (hu : w2.ownsRow B 34 2 u l.length (flatV l)) :
    ∃ L', L'.p = L.p ∧ Two X w0 (w2.setCell ⟨L.p, 1, none⟩ u) p L' M { N with roots := l } ∧ Stay X w (w2.setCell ⟨L.p, 1, none⟩ u) := by
  have h2 := h.next hb
  have hk : Keep (fun b => b = L.p) w2 (w2.setCell ⟨L.p, 1, none⟩ u) := Keep.setCell (B := fun b => b = L.p) (p := ⟨L.p, 1, none⟩) (Keep.refl _ w2) (fun _ => rfl) _
  have hr := h2.r
  have hub : ∀ k, u.ownBlock = some k → w.heap.size ≤ k ∧ k < w2.heap.size := fun k e => by have := hu.lt k e; omega
  have hR : RTo w L (w2.setCell ⟨L.p, 1, none⟩ u) { N with roots := l } := by
    have hrow : ∀ {base n e size : Nat} {x : Value} {xs : List Value}, w2.ownsRow base e size x n xs → x.ownBlock ≠ some L.p → (w2.setCell ⟨L.p, 1, none⟩ u).ownsRow base e size x n xs := fun hx hne => ownsRow_setCell_other hx hne _
    have hu2 := ownsRow_setCell_other (a := ⟨L.p, 1, none⟩) hu (fun e => hr.box.ne_row hu (by decide) e rfl) u
    refine ⟨{ L with rv := u }, rfl, ⟨hr.box.set 1 u, ownsRow_setCell_other hr.row (fun e => hr.box.ne_row hr.row (by decide) e rfl) _, ⟨hu2.1, ?_⟩, hr.len, fun i o sv ho hs => ownsRow_setCell_other (hr.sl i o sv ho hs) (fun e => hr.box.ne_row (hr.sl i o sv ho hs) (by decide) e rfl) _, hr.no, hr.inj, ?_⟩, (Keep.of_below hb).trans (hk.mono fun k _ e => .inl e), fun k hk1 => ?_⟩
    · rcases hu2.2 with x | ⟨g, cap, cur, h1, h2, h3⟩
      · exact .inl x
      · exact .inr ⟨g, cap, cur, h1, Nat.zero_le _, h3⟩
    · intro i sv hs k hk1 hk2
      have h1 := hub k hk1
      have := h.r.own_lt (.inr (.inr (.inr ⟨i, sv, hs, hk2⟩)))
      omega
    · rcases hk1 with e | e | e | e
      · exact .inl (.inl e)
      · exact .inl (.inr (.inl e))
      · exact .inr (hub k e).1
      · exact .inl (.inr (.inr (.inr e)))
  exact h.ref hR
end Go.Proofs.YtminbemdcanakaaGreat
/- Do both tell the same of an object, and of all? -/
namespace Go.Proofs.YtminbemdcanakaaGreat
open Go.RowKit
set_option linter.unusedVariables false
set_option linter.unusedSimpArgs false

variable {X : Nat → Prop} {w0 w w' : World} {p : Nat} {L : RL} {M : Mm}
theorem values_same {u v : Value} {a : List V} (ha : RdV w u a) (hb : RdV w v a) (hl : a.length ≤ 100000000) : Calls Tryz.prog 81 #[u, v] w fun e w' => e = .returned (.bool true) ∧ Below w.heap.size w w' :=
  (values_any ha hb hl).mono fun e w' h => by rw [decide_eq_true rfl] at h; exact h
set_option maxRecDepth 100000 in
set_option maxHeartbeats 8000000 in
theorem likeM_any (h : Two X w0 w p L M M) (hs : Sz M) (hd : Int) : Calls Tryz.prog 33 #[.pointer (some ⟨p, 0, none⟩), .pointer (some ⟨L.p, 0, none⟩), .int .i64 hd] w fun e w' => e = .returned (.bool true) ∧ Below w.heap.size w w' := by
  have HH := Lib.hid h
  have HS := Lib.hid hs
  have HGET := Lib.hid (rget_any h.r hs.n hd)
  obtain ⟨RV, hrv⟩ : ∃ v, v = L.rv := ⟨_, rfl⟩
  have hr1 := h.r.cells.2
  rw [← hrv] at hr1
  obtain ⟨ra, rc, hra⟩ := row_slice h.r.roots
  rw [← hrv] at hra
  have HRV := Lib.hid hrv
  clear h hs hrv
  go_enter Tryz.func33, Tryz.ntmps33
  go_wp2_with fail
  refine HGET.out.mono ?_
  rintro e w1 ⟨sv, rfl, hsv, hb1⟩
  obtain ⟨sa, sc, rfl⟩ := rd_slice hsv
  obtain ⟨o, ho⟩ : ∃ o, o = M.get hd := ⟨_, rfl⟩
  obtain ⟨bb, hbb⟩ : ∃ b, b = (M.at hd).isSome := ⟨_, rfl⟩
  unfold cellV
  rw [← hbb]
  rw [← ho] at hsv ⊢
  have HO := Lib.hid ho
  have HSV := Lib.hid hsv
  have HB1 := Lib.hid hb1
  clear hsv ho hbb
  have hx := Box.new w1 [.int .i64 o.kind, .int .i64 o.weak, .int .i64 o.array, .slice sa o.slots.length sc, .int .i64 o.fin, .int .i64 0, .int .i64 o.col, .int .i64 o.age, .bool bb] 116
  obtain ⟨W2, hW2⟩ : ∃ W2, W2 = w1.alloc (.cells #[.int .i64 o.kind, .int .i64 o.weak, .int .i64 o.array, .slice sa o.slots.length sc, .int .i64 o.fin, .int .i64 0, .int .i64 o.col, .int .i64 o.age, .bool bb] 116) := ⟨_, rfl⟩
  have hx2 : Box W2 w1.heap.size [.int .i64 o.kind, .int .i64 o.weak, .int .i64 o.array, .slice sa o.slots.length sc, .int .i64 o.fin, .int .i64 0, .int .i64 o.col, .int .i64 o.age, .bool bb] 116 := by rw [hW2]; exact hx
  have hb2 : Below w1.heap.size w1 W2 := by rw [hW2]; exact below_alloc _ _
  have HB2 := Lib.hid (hb1.trans (hb2.mono hb1.size))
  have HSV2 := Lib.hid (show RdV W2 (.slice sa o.slots.length sc) o.slots from Rd.below HSV.out hb2)
  have hc2 : W2.cell? ⟨L.p, 1, none⟩ = some RV := ((hb1.trans (hb2.mono hb1.size)).cell (p := ⟨L.p, 1, none⟩) (cell_lt hr1)).trans hr1
  have hst : ∀ W', Below W2.heap.size W2 W' → (W'.cell? ⟨L.p, 1, none⟩ = some RV ∧ W'.cell? ⟨w1.heap.size, 0, none⟩ = some (.int .i64 o.kind) ∧ W'.cell? ⟨w1.heap.size, 1, none⟩ = some (.int .i64 o.weak) ∧ W'.cell? ⟨w1.heap.size, 2, none⟩ = some (.int .i64 o.array) ∧ W'.cell? ⟨w1.heap.size, 3, none⟩ = some (.slice sa o.slots.length sc) ∧ W'.cell? ⟨w1.heap.size, 4, none⟩ = some (.int .i64 o.fin) ∧ W'.cell? ⟨w1.heap.size, 6, none⟩ = some (.int .i64 o.col) ∧ W'.cell? ⟨w1.heap.size, 7, none⟩ = some (.int .i64 o.age)) := fun W' hb =>
    have hx3 := hx2.below hb hx2.lt
    ⟨(hb.cell (p := ⟨L.p, 1, none⟩) (cell_lt hc2)).trans hc2, hx3.cell 0, hx3.cell 1, hx3.cell 2, hx3.cell 3, hx3.cell 4, hx3.cell 6, hx3.cell 7⟩
  have HTW := Lib.hid (fun (W' : World) (hb : Below W2.heap.size W2 W') => HH.out.next (HB2.out.trans (hb.mono HB2.out.size)))
  have ek : M.kind hd = o.kind := by rw [HO.out]; exact kind_get M hd
  have ec : M.col hd = o.col := by rw [HO.out]; exact col_get M hd
  have ea : M.age hd = o.age := by rw [HO.out]; exact age_get M hd
  have hsz : o.slots.length ≤ 100000 := by
    rw [HO.out]
    cases ha : M.at hd with
    | none => rw [get_of_none ha]; decide
    | some o2 => rw [get_of_at ha]; exact at_small HS.out o2 ha
  obtain ⟨cl, hcl⟩ : ∃ n, n = M.cells hd := ⟨_, rfl⟩
  have HCL := Lib.hid hcl
  have HEK := Lib.hid ek
  have HEC := Lib.hid ec
  have HEA := Lib.hid ea
  have HSZ := Lib.hid hsz
  have k1 : (o.kind == o.kind) = true := by simp
  have k2 : (cl == cl) = true := by simp
  have k3 : (o.col == o.col) = true := by simp
  have k4 : (o.age == o.age) = true := by simp
  clear hx hx2 hb2 hc2 ek ec ea hsz hcl hr1 hb1
  rw [hra] at hst
  have HRA := Lib.hid hra
  clear hra
  go_wp2_with fail
  rw [← hW2]
  clear hW2
  have hB : Below W2.heap.size W2 W2.drew := below_drewN (Below.refl _ _) 1
  have hS0 := hst _ (Below.refl _ _)
  refine wp_region_noPanic ?_
  refine wp_region_held_drew (S := (fun W' => W'.cell? ⟨L.p, 1, none⟩ = some (.slice ra M.roots.length rc) ∧ W'.cell? ⟨w1.heap.size, 0, none⟩ = some (.int .i64 o.kind) ∧ W'.cell? ⟨w1.heap.size, 1, none⟩ = some (.int .i64 o.weak) ∧ W'.cell? ⟨w1.heap.size, 2, none⟩ = some (.int .i64 o.array) ∧ W'.cell? ⟨w1.heap.size, 3, none⟩ = some (.slice sa o.slots.length sc) ∧ W'.cell? ⟨w1.heap.size, 4, none⟩ = some (.int .i64 o.fin) ∧ W'.cell? ⟨w1.heap.size, 6, none⟩ = some (.int .i64 o.col) ∧ W'.cell? ⟨w1.heap.size, 7, none⟩ = some (.int .i64 o.age))) (by kernel_rfl) ?_ (fun hHeld => ?_)
  · exact hS0
  clear hS0
  refine wpAnyH_take (i := 0) (oi := ?oia0_1) (v := ?vva0_1) ?hia0_1 (by kernel_rfl) (by kernel_rfl) (by kernel_rfl) ?hQa0_1 ?hya0_1 (by assumption) ?resta0_1
  case hia0_1 => (simp only [List.getElem?_toArray, List.getElem?_cons_succ, List.getElem?_cons_zero]; rfl)
  case hQa0_1 => exact fun _ _ _ h => h
  case hya0_1 => (refine Or.inl ⟨by rfl, ?_⟩; intro w hSw; (try dsimp only at hSw); go_simp; try with_reducible rfl)
  try simp only [Act.put, List.setIfInBounds_toArray, List.set_cons_zero, List.set_cons_succ]
  refine wpAnyH_take (i := 2) (oi := ?oia2_2) (v := ?vva2_2) ?hia2_2 (by kernel_rfl) (by kernel_rfl) (by kernel_rfl) ?hQa2_2 ?hya2_2 (by assumption) ?resta2_2
  case hia2_2 => (simp only [List.getElem?_toArray, List.getElem?_cons_succ, List.getElem?_cons_zero]; rfl)
  case hQa2_2 => exact fun _ _ _ h => h
  case hya2_2 => (refine Or.inl ⟨by rfl, ?_⟩; intro w hSw; (try dsimp only at hSw); go_simp; try with_reducible rfl)
  try simp only [Act.put, List.setIfInBounds_toArray, List.set_cons_zero, List.set_cons_succ]
  refine wpAnyH_ready (rs := [1]) (by kernel_rfl) (by simp) ?_
  refine AllReadyH.cons (o := ?oa1_3) ?hoa1_3 (fun Kz hK => ?sta1_3) AllReadyH.nil
  case hoa1_3 => (simp only [List.getElem?_toArray, List.getElem?_cons_succ, List.getElem?_cons_zero]; rfl)
  go_simp
  refine (m_order (HTW.out _ hB).mem HS.out.n).mono ?_
  rintro e w3 ⟨ov, rfl, hov, hb3⟩
  obtain ⟨oa, oc, rfl⟩ := row_slice hov
  have HOV := Lib.hid hov
  replace hB := hB.trans (hb3.mono hB.size)
  clear hov hb3
  have hS := hst _ hB
  go_simp
  refine hK.out _ _ hS (fun hHeld => ?_)
  clear hK Kz
  try simp only [Act.put, List.setIfInBounds_toArray, List.set_cons_zero, List.set_cons_succ]
  clear hS
  refine wpAnyH_ready (rs := [3]) (by kernel_rfl) (by simp) ?_
  refine AllReadyH.cons (o := ?oa3_4) ?hoa3_4 (fun Kz hK => ?sta3_4) AllReadyH.nil
  case hoa3_4 => (simp only [List.getElem?_toArray, List.getElem?_cons_succ, List.getElem?_cons_zero]; rfl)
  go_simp
  refine (rorder_any (HTW.out _ hB).r HS.out.n).mono ?_
  rintro e w4 ⟨ov2, rfl, hov2, hb4⟩
  obtain ⟨oa2, oc2, rfl⟩ := row_slice hov2
  have HI := Lib.hid (ints_same (Rd.below (rd_row HOV.out) hb4) (rd_row hov2) (by have := orderF_length M.obs 0; have := HS.out.n; show (orderF 0 M.obs).length ≤ _; omega))
  replace hB := hB.trans (hb4.mono hB.size)
  clear hov2 hb4
  have hS := hst _ hB
  go_simp
  refine hK.out _ _ hS (fun hHeld => ?_)
  clear hK Kz
  try simp only [Act.put, List.setIfInBounds_toArray, List.set_cons_zero, List.set_cons_succ]
  clear hS
  refine wpAnyH_ready (rs := [4]) (by kernel_rfl) (by simp) ?_
  refine AllReadyH.cons (o := ?oa4_5) ?hoa4_5 (fun Kz hK => ?sta4_5) AllReadyH.nil
  case hoa4_5 => (simp only [List.getElem?_toArray, List.getElem?_cons_succ, List.getElem?_cons_zero]; rfl)
  go_simp
  refine HI.out.mono ?_
  rintro e w5 ⟨rfl, hb5⟩
  replace hB := hB.trans (hb5.mono hB.size)
  clear hb5
  have hS := hst _ hB
  go_simp
  refine hK.out _ _ hS (fun hHeld => ?_)
  clear hK Kz
  try simp only [Act.put, List.setIfInBounds_toArray, List.set_cons_zero, List.set_cons_succ]
  clear hS
  refine wpAnyH_take (i := 5) (oi := ?oib5_6) (v := ?vvb5_6) ?hib5_6 (by kernel_rfl) (by kernel_rfl) (by kernel_rfl) ?hQb5_6 ?hyb5_6 (by assumption) ?restb5_6
  case hib5_6 => (simp only [List.getElem?_toArray, List.getElem?_cons_succ, List.getElem?_cons_zero]; rfl)
  case hQb5_6 => exact fun _ _ _ h => h
  case hyb5_6 => (refine Or.inl ⟨by rfl, ?_⟩; intro w hSw; (try dsimp only at hSw); go_simp; try with_reducible rfl)
  try simp only [Act.put, List.setIfInBounds_toArray, List.set_cons_zero, List.set_cons_succ]
  refine wpAnyH_take (i := 6) (oi := ?oib6_7) (v := ?vvb6_7) ?hib6_7 (by kernel_rfl) (by kernel_rfl) (by kernel_rfl) ?hQb6_7 ?hyb6_7 (by assumption) ?restb6_7
  case hib6_7 => (simp only [List.getElem?_toArray, List.getElem?_cons_succ, List.getElem?_cons_zero]; rfl)
  case hQb6_7 => exact fun _ _ _ h => h
  case hyb6_7 => (refine Or.inl ⟨by rfl, ?_⟩; intro w hSw; (try dsimp only at hSw); go_simp; try with_reducible rfl)
  try simp only [Act.put, List.setIfInBounds_toArray, List.set_cons_zero, List.set_cons_succ]
  refine wpAnyH_take (i := 8) (oi := ?oib8_8) (v := ?vvb8_8) ?hib8_8 (by kernel_rfl) (by kernel_rfl) (by kernel_rfl) ?hQb8_8 ?hyb8_8 (by assumption) ?restb8_8
  case hib8_8 => (simp only [List.getElem?_toArray, List.getElem?_cons_succ, List.getElem?_cons_zero]; rfl)
  case hQb8_8 => exact fun _ _ _ h => h
  case hyb8_8 => (refine Or.inl ⟨by rfl, ?_⟩; intro w hSw; (try dsimp only at hSw); go_simp; try with_reducible rfl)
  try simp only [Act.put, List.setIfInBounds_toArray, List.set_cons_zero, List.set_cons_succ]
  refine wpAnyH_take (i := 9) (oi := ?oib9_9) (v := ?vvb9_9) ?hib9_9 (by kernel_rfl) (by kernel_rfl) (by kernel_rfl) ?hQb9_9 ?hyb9_9 (by assumption) ?restb9_9
  case hib9_9 => (simp only [List.getElem?_toArray, List.getElem?_cons_succ, List.getElem?_cons_zero]; rfl)
  case hQb9_9 => exact fun _ _ _ h => h
  case hyb9_9 => (refine Or.inl ⟨by rfl, ?_⟩; intro w hSw; (try dsimp only at hSw); go_simp; try with_reducible rfl)
  try simp only [Act.put, List.setIfInBounds_toArray, List.set_cons_zero, List.set_cons_succ]
  refine wpAnyH_take (i := 10) (oi := ?oib10_10) (v := ?vvb10_10) ?hib10_10 (by kernel_rfl) (by kernel_rfl) (by kernel_rfl) ?hQb10_10 ?hyb10_10 (by assumption) ?restb10_10
  case hib10_10 => (simp only [List.getElem?_toArray, List.getElem?_cons_succ, List.getElem?_cons_zero]; rfl)
  case hQb10_10 => exact fun _ _ _ h => h
  case hyb10_10 => (refine Or.inl ⟨by rfl, ?_⟩; intro w hSw; (try dsimp only at hSw); go_simp; try with_reducible rfl)
  try simp only [Act.put, List.setIfInBounds_toArray, List.set_cons_zero, List.set_cons_succ]
  refine wpAnyH_take (i := 11) (oi := ?oib11_11) (v := ?vvb11_11) ?hib11_11 (by kernel_rfl) (by kernel_rfl) (by kernel_rfl) ?hQb11_11 ?hyb11_11 (by assumption) ?restb11_11
  case hib11_11 => (simp only [List.getElem?_toArray, List.getElem?_cons_succ, List.getElem?_cons_zero]; rfl)
  case hQb11_11 => exact fun _ _ _ h => h
  case hyb11_11 => (refine Or.inl ⟨by rfl, ?_⟩; intro w hSw; (try dsimp only at hSw); go_simp; try with_reducible rfl)
  try simp only [Act.put, List.setIfInBounds_toArray, List.set_cons_zero, List.set_cons_succ]
  refine wpAnyH_ready (rs := [7]) (by kernel_rfl) (by simp) ?_
  refine AllReadyH.cons (o := ?ob7_12) ?hob7_12 (fun Kz hK => ?stb7_12) AllReadyH.nil
  case hob7_12 => (simp only [List.getElem?_toArray, List.getElem?_cons_succ, List.getElem?_cons_zero]; rfl)
  go_simp
  refine (m_roots (HTW.out _ hB).mem HS.out.r).mono ?_
  rintro e w6 ⟨rv6, rfl, hrv6, hb6⟩
  obtain ⟨ra6, rc6, rfl⟩ := row_slice hrv6
  have HRV6 := Lib.hid hrv6
  replace hB := hB.trans (hb6.mono hB.size)
  clear hrv6 hb6
  have hS := hst _ hB
  go_simp
  refine hK.out _ _ hS (fun hHeld => ?_)
  clear hK Kz
  try simp only [Act.put, List.setIfInBounds_toArray, List.set_cons_zero, List.set_cons_succ]
  clear hS
  refine wpAnyH_ready (rs := [12]) (by kernel_rfl) (by simp) ?_
  refine AllReadyH.cons (o := ?ob12_13) ?hob12_13 (fun Kz hK => ?stb12_13) AllReadyH.nil
  case hob12_13 => (simp only [List.getElem?_toArray, List.getElem?_cons_succ, List.getElem?_cons_zero]; rfl)
  go_simp
  refine (values_same (rd_row HRV6.out) (show RdV _ (.slice ra M.roots.length rc) M.roots by rw [← HRA.out, HRV.out]; exact rd_row (HTW.out _ hB).r.roots) (by have := HS.out.r; omega)).mono ?_
  rintro e w7 ⟨rfl, hb7⟩
  replace hB := hB.trans (hb7.mono hB.size)
  clear hb7
  have hS := hst _ hB
  go_simp
  refine hK.out _ _ hS (fun hHeld => ?_)
  clear hK Kz
  try simp only [Act.put, List.setIfInBounds_toArray, List.set_cons_zero, List.set_cons_succ]
  clear hS
  refine wpAnyH_take (i := 13) (oi := ?oic13_14) (v := ?vvc13_14) ?hic13_14 (by kernel_rfl) (by kernel_rfl) (by kernel_rfl) ?hQc13_14 ?hyc13_14 (by assumption) ?restc13_14
  case hic13_14 => (simp only [List.getElem?_toArray, List.getElem?_cons_succ, List.getElem?_cons_zero]; rfl)
  case hQc13_14 => exact fun _ _ _ h => h
  case hyc13_14 => (refine Or.inl ⟨by rfl, ?_⟩; intro w hSw; (try dsimp only at hSw); go_simp; try with_reducible rfl)
  try simp only [Act.put, List.setIfInBounds_toArray, List.set_cons_zero, List.set_cons_succ]
  refine wpAnyH_take (i := 14) (oi := ?oic14_15) (v := ?vvc14_15) ?hic14_15 (by kernel_rfl) (by kernel_rfl) (by kernel_rfl) ?hQc14_15 ?hyc14_15 (by assumption) ?restc14_15
  case hic14_15 => (simp only [List.getElem?_toArray, List.getElem?_cons_succ, List.getElem?_cons_zero]; rfl)
  case hQc14_15 => exact fun _ _ _ h => h
  case hyc14_15 => (refine Or.inl ⟨by rfl, ?_⟩; intro w hSw; (try dsimp only at hSw); go_simp; try with_reducible rfl)
  try simp only [Act.put, List.setIfInBounds_toArray, List.set_cons_zero, List.set_cons_succ]
  refine wpAnyH_take (i := 15) (oi := ?oic15_16) (v := ?vvc15_16) ?hic15_16 (by kernel_rfl) (by kernel_rfl) (by kernel_rfl) ?hQc15_16 ?hyc15_16 (by assumption) ?restc15_16
  case hic15_16 => (simp only [List.getElem?_toArray, List.getElem?_cons_succ, List.getElem?_cons_zero]; rfl)
  case hQc15_16 => exact fun _ _ _ h => h
  case hyc15_16 => (refine Or.inl ⟨by rfl, ?_⟩; intro w hSw; (try dsimp only at hSw); go_simp; try with_reducible rfl)
  try simp only [Act.put, List.setIfInBounds_toArray, List.set_cons_zero, List.set_cons_succ]
  refine wpAnyH_take (i := 16) (oi := ?oic16_17) (v := ?vvc16_17) ?hic16_17 (by kernel_rfl) (by kernel_rfl) (by kernel_rfl) ?hQc16_17 ?hyc16_17 (by assumption) ?restc16_17
  case hic16_17 => (simp only [List.getElem?_toArray, List.getElem?_cons_succ, List.getElem?_cons_zero]; rfl)
  case hQc16_17 => exact fun _ _ _ h => h
  case hyc16_17 => (refine Or.inl ⟨by rfl, ?_⟩; intro w hSw; (try dsimp only at hSw); go_simp; try with_reducible rfl)
  try simp only [Act.put, List.setIfInBounds_toArray, List.set_cons_zero, List.set_cons_succ]
  refine wpAnyH_take (i := 18) (oi := ?oic18_18) (v := ?vvc18_18) ?hic18_18 (by kernel_rfl) (by kernel_rfl) (by kernel_rfl) ?hQc18_18 ?hyc18_18 (by assumption) ?restc18_18
  case hic18_18 => (simp only [List.getElem?_toArray, List.getElem?_cons_succ, List.getElem?_cons_zero]; rfl)
  case hQc18_18 => exact fun _ _ _ h => h
  case hyc18_18 => (refine Or.inl ⟨by rfl, ?_⟩; intro w hSw; (try dsimp only at hSw); go_simp; try with_reducible rfl)
  try simp only [Act.put, List.setIfInBounds_toArray, List.set_cons_zero, List.set_cons_succ]
  refine wpAnyH_take (i := 19) (oi := ?oic19_19) (v := ?vvc19_19) ?hic19_19 (by kernel_rfl) (by kernel_rfl) (by kernel_rfl) ?hQc19_19 ?hyc19_19 (by assumption) ?restc19_19
  case hic19_19 => (simp only [List.getElem?_toArray, List.getElem?_cons_succ, List.getElem?_cons_zero]; rfl)
  case hQc19_19 => exact fun _ _ _ h => h
  case hyc19_19 => (refine Or.inl ⟨by rfl, ?_⟩; intro w hSw; (try dsimp only at hSw); go_simp; try with_reducible rfl)
  try simp only [Act.put, List.setIfInBounds_toArray, List.set_cons_zero, List.set_cons_succ]
  refine wpAnyH_ready (rs := [17]) (by kernel_rfl) (by simp) ?_
  refine AllReadyH.cons (o := ?oc17_20) ?hoc17_20 (fun Kz hK => ?stc17_20) AllReadyH.nil
  case hoc17_20 => (simp only [List.getElem?_toArray, List.getElem?_cons_succ, List.getElem?_cons_zero]; rfl)
  go_simp
  refine (m_thing (HTW.out _ hB).mem HS.out hd).mono ?_
  rintro e w8 ⟨sv8, rfl, hsv8, hb8⟩
  rw [← HO.out] at hsv8 ⊢
  obtain ⟨sa8, sc8, rfl⟩ := row_slice hsv8
  have HSV8 := Lib.hid hsv8
  replace hB := hB.trans (hb8.mono hB.size)
  clear hsv8 hb8
  unfold thingV
  have hS := hst _ hB
  go_simp
  refine hK.out _ _ hS (fun hHeld => ?_)
  clear hK Kz
  try simp only [Act.put, List.setIfInBounds_toArray, List.set_cons_zero, List.set_cons_succ]
  clear hS
  refine wpAnyH_ready (rs := [20]) (by kernel_rfl) (by simp) ?_
  refine AllReadyH.cons (o := ?oc20_21) ?hoc20_21 (fun Kz hK => ?stc20_21) AllReadyH.nil
  case hoc20_21 => (simp only [List.getElem?_toArray, List.getElem?_cons_succ, List.getElem?_cons_zero]; rfl)
  go_simp
  have hal := alike_any (a := o) (b := o) (rd_row HSV8.out) (Rd.below HSV2.out hB) (by have := HSZ.out; omega)
  rw [likeO_refl] at hal
  unfold thingV at hal
  refine hal.mono ?_
  rintro e w9 ⟨rfl, hb9⟩
  replace hB := hB.trans (hb9.mono hB.size)
  clear hb9 hal
  have hS := hst _ hB
  go_simp
  refine hK.out _ _ hS (fun hHeld => ?_)
  clear hK Kz
  try simp only [Act.put, List.setIfInBounds_toArray, List.set_cons_zero, List.set_cons_succ]
  clear hS
  refine wpAnyH_take (i := 21) (oi := ?oid21_22) (v := ?vvd21_22) ?hid21_22 (by kernel_rfl) (by kernel_rfl) (by kernel_rfl) ?hQd21_22 ?hyd21_22 (by assumption) ?restd21_22
  case hid21_22 => (simp only [List.getElem?_toArray, List.getElem?_cons_succ, List.getElem?_cons_zero]; rfl)
  case hQd21_22 => exact fun _ _ _ h => h
  case hyd21_22 => (refine Or.inl ⟨by rfl, ?_⟩; intro w hSw; (try dsimp only at hSw); go_simp; try with_reducible rfl)
  try simp only [Act.put, List.setIfInBounds_toArray, List.set_cons_zero, List.set_cons_succ]
  refine wpAnyH_take (i := 22) (oi := ?oid22_23) (v := ?vvd22_23) ?hid22_23 (by kernel_rfl) (by kernel_rfl) (by kernel_rfl) ?hQd22_23 ?hyd22_23 (by assumption) ?restd22_23
  case hid22_23 => (simp only [List.getElem?_toArray, List.getElem?_cons_succ, List.getElem?_cons_zero]; rfl)
  case hQd22_23 => exact fun _ _ _ h => h
  case hyd22_23 => (refine Or.inl ⟨by rfl, ?_⟩; intro w hSw; (try dsimp only at hSw); go_simp; try with_reducible rfl)
  try simp only [Act.put, List.setIfInBounds_toArray, List.set_cons_zero, List.set_cons_succ]
  refine wpAnyH_take (i := 23) (oi := ?oid23_24) (v := ?vvd23_24) ?hid23_24 (by kernel_rfl) (by kernel_rfl) (by kernel_rfl) ?hQd23_24 ?hyd23_24 (by assumption) ?restd23_24
  case hid23_24 => (simp only [List.getElem?_toArray, List.getElem?_cons_succ, List.getElem?_cons_zero]; rfl)
  case hQd23_24 => exact fun _ _ _ h => h
  case hyd23_24 => (refine Or.inl ⟨by rfl, ?_⟩; intro w hSw; (try dsimp only at hSw); go_simp; try with_reducible rfl)
  try simp only [Act.put, List.setIfInBounds_toArray, List.set_cons_zero, List.set_cons_succ]
  refine wpAnyH_take (i := 24) (oi := ?oid24_25) (v := ?vvd24_25) ?hid24_25 (by kernel_rfl) (by kernel_rfl) (by kernel_rfl) ?hQd24_25 ?hyd24_25 (by assumption) ?restd24_25
  case hid24_25 => (simp only [List.getElem?_toArray, List.getElem?_cons_succ, List.getElem?_cons_zero]; rfl)
  case hQd24_25 => exact fun _ _ _ h => h
  case hyd24_25 => (refine Or.inl ⟨by rfl, ?_⟩; intro w hSw; (try dsimp only at hSw); go_simp; try with_reducible rfl)
  try simp only [Act.put, List.setIfInBounds_toArray, List.set_cons_zero, List.set_cons_succ]
  refine wpAnyH_take (i := 26) (oi := ?oid26_26) (v := ?vvd26_26) ?hid26_26 (by kernel_rfl) (by kernel_rfl) (by kernel_rfl) ?hQd26_26 ?hyd26_26 (by assumption) ?restd26_26
  case hid26_26 => (simp only [List.getElem?_toArray, List.getElem?_cons_succ, List.getElem?_cons_zero]; rfl)
  case hQd26_26 => exact fun _ _ _ h => h
  case hyd26_26 => (refine Or.inl ⟨by rfl, ?_⟩; intro w hSw; (try dsimp only at hSw); go_simp; try with_reducible rfl)
  try simp only [Act.put, List.setIfInBounds_toArray, List.set_cons_zero, List.set_cons_succ]
  refine wpAnyH_take (i := 27) (oi := ?oid27_27) (v := ?vvd27_27) ?hid27_27 (by kernel_rfl) (by kernel_rfl) (by kernel_rfl) ?hQd27_27 ?hyd27_27 (by assumption) ?restd27_27
  case hid27_27 => (simp only [List.getElem?_toArray, List.getElem?_cons_succ, List.getElem?_cons_zero]; rfl)
  case hQd27_27 => exact fun _ _ _ h => h
  case hyd27_27 => (refine Or.inl ⟨by rfl, ?_⟩; intro w hSw; (try dsimp only at hSw); go_simp; try with_reducible rfl)
  try simp only [Act.put, List.setIfInBounds_toArray, List.set_cons_zero, List.set_cons_succ]
  refine wpAnyH_take (i := 28) (oi := ?oid28_28) (v := ?vvd28_28) ?hid28_28 (by kernel_rfl) (by kernel_rfl) (by kernel_rfl) ?hQd28_28 ?hyd28_28 (by assumption) ?restd28_28
  case hid28_28 => (simp only [List.getElem?_toArray, List.getElem?_cons_succ, List.getElem?_cons_zero]; rfl)
  case hQd28_28 => exact fun _ _ _ h => h
  case hyd28_28 => (refine Or.inl ⟨by rfl, ?_⟩; intro w hSw; (try dsimp only at hSw); go_simp; try with_reducible rfl)
  try simp only [Act.put, List.setIfInBounds_toArray, List.set_cons_zero, List.set_cons_succ]
  refine wpAnyH_ready (rs := [25]) (by kernel_rfl) (by simp) ?_
  refine AllReadyH.cons (o := ?od25_29) ?hod25_29 (fun Kz hK => ?std25_29) AllReadyH.nil
  case hod25_29 => (simp only [List.getElem?_toArray, List.getElem?_cons_succ, List.getElem?_cons_zero]; rfl)
  go_simp
  have hk := m_kind (HTW.out _ hB).mem HS.out.n hd
  rw [HEK.out] at hk
  refine (hk).mono ?_
  rintro x10 w10 ⟨rfl, hww⟩
  have hww' := hww.symm
  subst hww'
  clear hww
  clear hk
  have hS := hst _ hB
  go_simp
  refine hK.out _ _ hS (fun hHeld => ?_)
  clear hK Kz
  try simp only [Act.put, List.setIfInBounds_toArray, List.set_cons_zero, List.set_cons_succ]
  clear hS
  refine wpAnyH_take (i := 29) (oi := ?oie29_30) (v := ?vve29_30) ?hie29_30 (by kernel_rfl) (by kernel_rfl) (by kernel_rfl) ?hQe29_30 ?hye29_30 (by assumption) ?reste29_30
  case hie29_30 => (simp only [List.getElem?_toArray, List.getElem?_cons_succ, List.getElem?_cons_zero]; rfl)
  case hQe29_30 => exact fun _ _ _ h => h
  case hye29_30 => (refine Or.inl ⟨by rfl, ?_⟩; intro w hSw; (try dsimp only at hSw); go_simp; try with_reducible rfl)
  try simp only [Act.put, List.setIfInBounds_toArray, List.set_cons_zero, List.set_cons_succ]
  refine wpAnyH_take (i := 30) (oi := ?oie30_31) (v := ?vve30_31) ?hie30_31 (by kernel_rfl) (by kernel_rfl) (by kernel_rfl) ?hQe30_31 ?hye30_31 (by assumption) ?reste30_31
  case hie30_31 => (simp only [List.getElem?_toArray, List.getElem?_cons_succ, List.getElem?_cons_zero]; rfl)
  case hQe30_31 => exact fun _ _ _ h => h
  case hye30_31 => (refine Or.inl ⟨by rfl, ?_⟩; intro w hSw; (try dsimp only at hSw); go_simp; try with_reducible rfl)
  try simp only [Act.put, List.setIfInBounds_toArray, List.set_cons_zero, List.set_cons_succ]
  refine wpAnyH_take (i := 31) (oi := ?oie31_32) (v := ?vve31_32) ?hie31_32 (by kernel_rfl) (by kernel_rfl) (by kernel_rfl) ?hQe31_32 ?hye31_32 (by assumption) ?reste31_32
  case hie31_32 => (simp only [List.getElem?_toArray, List.getElem?_cons_succ, List.getElem?_cons_zero]; rfl)
  case hQe31_32 => exact fun _ _ _ h => h
  case hye31_32 => (refine Or.inl ⟨by rfl, ?_⟩; intro w hSw; (try dsimp only at hSw); go_simp; try with_reducible rfl)
  try simp only [Act.put, List.setIfInBounds_toArray, List.set_cons_zero, List.set_cons_succ]
  refine wpAnyH_take (i := 32) (oi := ?oie32_33) (v := ?vve32_33) ?hie32_33 (by kernel_rfl) (by kernel_rfl) (by kernel_rfl) ?hQe32_33 ?hye32_33 (by assumption) ?reste32_33
  case hie32_33 => (simp only [List.getElem?_toArray, List.getElem?_cons_succ, List.getElem?_cons_zero]; rfl)
  case hQe32_33 => exact fun _ _ _ h => h
  case hye32_33 => (refine Or.inl ⟨by rfl, ?_⟩; intro w hSw; (try dsimp only at hSw); go_simp; try with_reducible rfl)
  try simp only [Act.put, List.setIfInBounds_toArray, List.set_cons_zero, List.set_cons_succ]
  refine wpAnyH_take (i := 33) (oi := ?oie33_34) (v := ?vve33_34) ?hie33_34 (by kernel_rfl) (by kernel_rfl) (by kernel_rfl) ?hQe33_34 ?hye33_34 (by assumption) ?reste33_34
  case hie33_34 => (simp only [List.getElem?_toArray, List.getElem?_cons_succ, List.getElem?_cons_zero]; rfl)
  case hQe33_34 => exact fun _ _ _ h => h
  case hye33_34 => (refine Or.inl ⟨by rfl, ?_⟩; intro w hSw; (try dsimp only at hSw); go_simp; try with_reducible rfl)
  try simp only [Act.put, List.setIfInBounds_toArray, List.set_cons_zero, List.set_cons_succ]
  refine wpAnyH_take (i := 35) (oi := ?oie35_35) (v := ?vve35_35) ?hie35_35 (by kernel_rfl) (by kernel_rfl) (by kernel_rfl) ?hQe35_35 ?hye35_35 (by assumption) ?reste35_35
  case hie35_35 => (simp only [List.getElem?_toArray, List.getElem?_cons_succ, List.getElem?_cons_zero]; rfl)
  case hQe35_35 => exact fun _ _ _ h => h
  case hye35_35 => (refine Or.inl ⟨by rfl, ?_⟩; intro w hSw; (try dsimp only at hSw); go_simp; try with_reducible rfl)
  try simp only [Act.put, List.setIfInBounds_toArray, List.set_cons_zero, List.set_cons_succ]
  refine wpAnyH_take (i := 36) (oi := ?oie36_36) (v := ?vve36_36) ?hie36_36 (by kernel_rfl) (by kernel_rfl) (by kernel_rfl) ?hQe36_36 ?hye36_36 (by assumption) ?reste36_36
  case hie36_36 => (simp only [List.getElem?_toArray, List.getElem?_cons_succ, List.getElem?_cons_zero]; rfl)
  case hQe36_36 => exact fun _ _ _ h => h
  case hye36_36 => (refine Or.inl ⟨by rfl, ?_⟩; intro w hSw; (try dsimp only at hSw); go_simp; try with_reducible rfl)
  try simp only [Act.put, List.setIfInBounds_toArray, List.set_cons_zero, List.set_cons_succ]
  refine wpAnyH_ready (rs := [34]) (by kernel_rfl) (by simp) ?_
  refine AllReadyH.cons (o := ?oe34_37) ?hoe34_37 (fun Kz hK => ?ste34_37) AllReadyH.nil
  case hoe34_37 => (simp only [List.getElem?_toArray, List.getElem?_cons_succ, List.getElem?_cons_zero]; rfl)
  go_simp
  have hk := m_cells (HTW.out _ hB).mem HS.out hd
  rw [← HCL.out] at hk
  refine (hk).mono ?_
  rintro x11 w11 ⟨rfl, hww⟩
  have hww' := hww.symm
  subst hww'
  clear hww
  clear hk
  have hS := hst _ hB
  go_simp
  refine hK.out _ _ hS (fun hHeld => ?_)
  clear hK Kz
  try simp only [Act.put, List.setIfInBounds_toArray, List.set_cons_zero, List.set_cons_succ]
  clear hS
  refine wpAnyH_ready (rs := [37]) (by kernel_rfl) (by simp) ?_
  refine AllReadyH.cons (o := ?oe37_38) ?hoe37_38 (fun Kz hK => ?ste37_38) AllReadyH.nil
  case hoe37_38 => (simp only [List.getElem?_toArray, List.getElem?_cons_succ, List.getElem?_cons_zero]; rfl)
  go_simp
  have hk := rcells_any (HTW.out _ hB).r HS.out.n hd (at_small HS.out)
  rw [← HCL.out] at hk
  refine (hk).mono ?_
  rintro x12 w12 ⟨rfl, hww⟩
  have hww' := hww.symm
  subst hww'
  clear hww
  clear hk
  have hS := hst _ hB
  go_simp
  refine hK.out _ _ hS (fun hHeld => ?_)
  clear hK Kz
  try simp only [Act.put, List.setIfInBounds_toArray, List.set_cons_zero, List.set_cons_succ]
  clear hS
  refine wpAnyH_take (i := 38) (oi := ?oif38_39) (v := ?vvf38_39) ?hif38_39 (by kernel_rfl) (by kernel_rfl) (by kernel_rfl) ?hQf38_39 ?hyf38_39 (by assumption) ?restf38_39
  case hif38_39 => (simp only [List.getElem?_toArray, List.getElem?_cons_succ, List.getElem?_cons_zero]; rfl)
  case hQf38_39 => exact fun _ _ _ h => h
  case hyf38_39 => (refine Or.inl ⟨by rfl, ?_⟩; intro w hSw; (try dsimp only at hSw); go_simp; try with_reducible rfl)
  try simp only [Act.put, List.setIfInBounds_toArray, List.set_cons_zero, List.set_cons_succ]
  refine wpAnyH_take (i := 39) (oi := ?oif39_40) (v := ?vvf39_40) ?hif39_40 (by kernel_rfl) (by kernel_rfl) (by kernel_rfl) ?hQf39_40 ?hyf39_40 (by assumption) ?restf39_40
  case hif39_40 => (simp only [List.getElem?_toArray, List.getElem?_cons_succ, List.getElem?_cons_zero]; rfl)
  case hQf39_40 => exact fun _ _ _ h => h
  case hyf39_40 => (refine Or.inl ⟨by rfl, ?_⟩; intro w hSw; (try dsimp only at hSw); go_simp; try with_reducible rfl)
  try simp only [Act.put, List.setIfInBounds_toArray, List.set_cons_zero, List.set_cons_succ]
  refine wpAnyH_take (i := 40) (oi := ?oif40_41) (v := ?vvf40_41) ?hif40_41 (by kernel_rfl) (by kernel_rfl) (by kernel_rfl) ?hQf40_41 ?hyf40_41 (by assumption) ?restf40_41
  case hif40_41 => (simp only [List.getElem?_toArray, List.getElem?_cons_succ, List.getElem?_cons_zero]; rfl)
  case hQf40_41 => exact fun _ _ _ h => h
  case hyf40_41 => (refine Or.inl ⟨by rfl, ?_⟩; intro w hSw; (try dsimp only at hSw); go_simp; try with_reducible rfl)
  try simp only [Act.put, List.setIfInBounds_toArray, List.set_cons_zero, List.set_cons_succ]
  refine wpAnyH_take (i := 41) (oi := ?oif41_42) (v := ?vvf41_42) ?hif41_42 (by kernel_rfl) (by kernel_rfl) (by kernel_rfl) ?hQf41_42 ?hyf41_42 (by assumption) ?restf41_42
  case hif41_42 => (simp only [List.getElem?_toArray, List.getElem?_cons_succ, List.getElem?_cons_zero]; rfl)
  case hQf41_42 => exact fun _ _ _ h => h
  case hyf41_42 => (refine Or.inl ⟨by rfl, ?_⟩; intro w hSw; (try dsimp only at hSw); go_simp; try with_reducible rfl)
  try simp only [Act.put, List.setIfInBounds_toArray, List.set_cons_zero, List.set_cons_succ]
  refine wpAnyH_take (i := 42) (oi := ?oif42_43) (v := ?vvf42_43) ?hif42_43 (by kernel_rfl) (by kernel_rfl) (by kernel_rfl) ?hQf42_43 ?hyf42_43 (by assumption) ?restf42_43
  case hif42_43 => (simp only [List.getElem?_toArray, List.getElem?_cons_succ, List.getElem?_cons_zero]; rfl)
  case hQf42_43 => exact fun _ _ _ h => h
  case hyf42_43 => (refine Or.inl ⟨by rfl, ?_⟩; intro w hSw; (try dsimp only at hSw); go_simp; try with_reducible rfl)
  try simp only [Act.put, List.setIfInBounds_toArray, List.set_cons_zero, List.set_cons_succ]
  refine wpAnyH_take (i := 44) (oi := ?oif44_44) (v := ?vvf44_44) ?hif44_44 (by kernel_rfl) (by kernel_rfl) (by kernel_rfl) ?hQf44_44 ?hyf44_44 (by assumption) ?restf44_44
  case hif44_44 => (simp only [List.getElem?_toArray, List.getElem?_cons_succ, List.getElem?_cons_zero]; rfl)
  case hQf44_44 => exact fun _ _ _ h => h
  case hyf44_44 => (refine Or.inl ⟨by rfl, ?_⟩; intro w hSw; (try dsimp only at hSw); go_simp; try with_reducible rfl)
  try simp only [Act.put, List.setIfInBounds_toArray, List.set_cons_zero, List.set_cons_succ]
  refine wpAnyH_take (i := 45) (oi := ?oif45_45) (v := ?vvf45_45) ?hif45_45 (by kernel_rfl) (by kernel_rfl) (by kernel_rfl) ?hQf45_45 ?hyf45_45 (by assumption) ?restf45_45
  case hif45_45 => (simp only [List.getElem?_toArray, List.getElem?_cons_succ, List.getElem?_cons_zero]; rfl)
  case hQf45_45 => exact fun _ _ _ h => h
  case hyf45_45 => (refine Or.inl ⟨by rfl, ?_⟩; intro w hSw; (try dsimp only at hSw); go_simp; try with_reducible rfl)
  try simp only [Act.put, List.setIfInBounds_toArray, List.set_cons_zero, List.set_cons_succ]
  refine wpAnyH_ready (rs := [43]) (by kernel_rfl) (by simp) ?_
  refine AllReadyH.cons (o := ?of43_46) ?hof43_46 (fun Kz hK => ?stf43_46) AllReadyH.nil
  case hof43_46 => (simp only [List.getElem?_toArray, List.getElem?_cons_succ, List.getElem?_cons_zero]; rfl)
  go_simp
  have hk := m_colour (HTW.out _ hB).mem HS.out.n hd
  rw [HEC.out] at hk
  refine (hk).mono ?_
  rintro x13 w13 ⟨rfl, hww⟩
  have hww' := hww.symm
  subst hww'
  clear hww
  clear hk
  have hS := hst _ hB
  go_simp
  refine hK.out _ _ hS (fun hHeld => ?_)
  clear hK Kz
  try simp only [Act.put, List.setIfInBounds_toArray, List.set_cons_zero, List.set_cons_succ]
  clear hS
  refine wpAnyH_take (i := 46) (oi := ?oig46_47) (v := ?vvg46_47) ?hig46_47 (by kernel_rfl) (by kernel_rfl) (by kernel_rfl) ?hQg46_47 ?hyg46_47 (by assumption) ?restg46_47
  case hig46_47 => (simp only [List.getElem?_toArray, List.getElem?_cons_succ, List.getElem?_cons_zero]; rfl)
  case hQg46_47 => exact fun _ _ _ h => h
  case hyg46_47 => (refine Or.inl ⟨by rfl, ?_⟩; intro w hSw; (try dsimp only at hSw); go_simp; try with_reducible rfl)
  try simp only [Act.put, List.setIfInBounds_toArray, List.set_cons_zero, List.set_cons_succ]
  refine wpAnyH_take (i := 47) (oi := ?oig47_48) (v := ?vvg47_48) ?hig47_48 (by kernel_rfl) (by kernel_rfl) (by kernel_rfl) ?hQg47_48 ?hyg47_48 (by assumption) ?restg47_48
  case hig47_48 => (simp only [List.getElem?_toArray, List.getElem?_cons_succ, List.getElem?_cons_zero]; rfl)
  case hQg47_48 => exact fun _ _ _ h => h
  case hyg47_48 => (refine Or.inl ⟨by rfl, ?_⟩; intro w hSw; (try dsimp only at hSw); go_simp; try with_reducible rfl)
  try simp only [Act.put, List.setIfInBounds_toArray, List.set_cons_zero, List.set_cons_succ]
  refine wpAnyH_take (i := 48) (oi := ?oig48_49) (v := ?vvg48_49) ?hig48_49 (by kernel_rfl) (by kernel_rfl) (by kernel_rfl) ?hQg48_49 ?hyg48_49 (by assumption) ?restg48_49
  case hig48_49 => (simp only [List.getElem?_toArray, List.getElem?_cons_succ, List.getElem?_cons_zero]; rfl)
  case hQg48_49 => exact fun _ _ _ h => h
  case hyg48_49 => (refine Or.inl ⟨by rfl, ?_⟩; intro w hSw; (try dsimp only at hSw); go_simp; try with_reducible rfl)
  try simp only [Act.put, List.setIfInBounds_toArray, List.set_cons_zero, List.set_cons_succ]
  refine wpAnyH_take (i := 49) (oi := ?oig49_50) (v := ?vvg49_50) ?hig49_50 (by kernel_rfl) (by kernel_rfl) (by kernel_rfl) ?hQg49_50 ?hyg49_50 (by assumption) ?restg49_50
  case hig49_50 => (simp only [List.getElem?_toArray, List.getElem?_cons_succ, List.getElem?_cons_zero]; rfl)
  case hQg49_50 => exact fun _ _ _ h => h
  case hyg49_50 => (refine Or.inl ⟨by rfl, ?_⟩; intro w hSw; (try dsimp only at hSw); go_simp; try with_reducible rfl)
  try simp only [Act.put, List.setIfInBounds_toArray, List.set_cons_zero, List.set_cons_succ]
  refine wpAnyH_take (i := 50) (oi := ?oig50_51) (v := ?vvg50_51) ?hig50_51 (by kernel_rfl) (by kernel_rfl) (by kernel_rfl) ?hQg50_51 ?hyg50_51 (by assumption) ?restg50_51
  case hig50_51 => (simp only [List.getElem?_toArray, List.getElem?_cons_succ, List.getElem?_cons_zero]; rfl)
  case hQg50_51 => exact fun _ _ _ h => h
  case hyg50_51 => (refine Or.inl ⟨by rfl, ?_⟩; intro w hSw; (try dsimp only at hSw); go_simp; try with_reducible rfl)
  try simp only [Act.put, List.setIfInBounds_toArray, List.set_cons_zero, List.set_cons_succ]
  refine wpAnyH_take (i := 52) (oi := ?oig52_52) (v := ?vvg52_52) ?hig52_52 (by kernel_rfl) (by kernel_rfl) (by kernel_rfl) ?hQg52_52 ?hyg52_52 (by assumption) ?restg52_52
  case hig52_52 => (simp only [List.getElem?_toArray, List.getElem?_cons_succ, List.getElem?_cons_zero]; rfl)
  case hQg52_52 => exact fun _ _ _ h => h
  case hyg52_52 => (refine Or.inl ⟨by rfl, ?_⟩; intro w hSw; (try dsimp only at hSw); go_simp; try with_reducible rfl)
  try simp only [Act.put, List.setIfInBounds_toArray, List.set_cons_zero, List.set_cons_succ]
  refine wpAnyH_take (i := 53) (oi := ?oig53_53) (v := ?vvg53_53) ?hig53_53 (by kernel_rfl) (by kernel_rfl) (by kernel_rfl) ?hQg53_53 ?hyg53_53 (by assumption) ?restg53_53
  case hig53_53 => (simp only [List.getElem?_toArray, List.getElem?_cons_succ, List.getElem?_cons_zero]; rfl)
  case hQg53_53 => exact fun _ _ _ h => h
  case hyg53_53 => (refine Or.inl ⟨by rfl, ?_⟩; intro w hSw; (try dsimp only at hSw); go_simp; try with_reducible rfl)
  try simp only [Act.put, List.setIfInBounds_toArray, List.set_cons_zero, List.set_cons_succ]
  refine wpAnyH_ready (rs := [51]) (by kernel_rfl) (by simp) ?_
  refine AllReadyH.cons (o := ?og51_54) ?hog51_54 (fun Kz hK => ?stg51_54) AllReadyH.nil
  case hog51_54 => (simp only [List.getElem?_toArray, List.getElem?_cons_succ, List.getElem?_cons_zero]; rfl)
  go_simp
  have hk := m_age (HTW.out _ hB).mem HS.out.n hd
  rw [HEA.out] at hk
  refine (hk).mono ?_
  rintro x14 w14 ⟨rfl, hww⟩
  have hww' := hww.symm
  subst hww'
  clear hww
  clear hk
  have hS := hst _ hB
  go_simp
  refine hK.out _ _ hS (fun hHeld => ?_)
  clear hK Kz
  try simp only [Act.put, List.setIfInBounds_toArray, List.set_cons_zero, List.set_cons_succ]
  clear hS
  refine wpAnyH_take (i := 54) (oi := ?oig54_55) (v := ?vvg54_55) ?hig54_55 (by kernel_rfl) (by kernel_rfl) (by kernel_rfl) ?hQg54_55 ?hyg54_55 (by assumption) ?restg54_55
  case hig54_55 => (simp only [List.getElem?_toArray, List.getElem?_cons_succ, List.getElem?_cons_zero]; rfl)
  case hQg54_55 => exact fun _ _ _ h => h
  case hyg54_55 => (refine Or.inl ⟨by rfl, ?_⟩; intro w hSw; (try dsimp only at hSw); go_simp; try with_reducible rfl)
  try simp only [Act.put, List.setIfInBounds_toArray, List.set_cons_zero, List.set_cons_succ]
  refine wpAnyH_take (i := 55) (oi := ?oig55_56) (v := ?vvg55_56) ?hig55_56 (by kernel_rfl) (by kernel_rfl) (by kernel_rfl) ?hQg55_56 ?hyg55_56 (by assumption) ?restg55_56
  case hig55_56 => (simp only [List.getElem?_toArray, List.getElem?_cons_succ, List.getElem?_cons_zero]; rfl)
  case hQg55_56 => exact fun _ _ _ h => h
  case hyg55_56 => (refine Or.inl ⟨by rfl, ?_⟩; intro w hSw; (try dsimp only at hSw); go_simp; try with_reducible rfl)
  try simp only [Act.put, List.setIfInBounds_toArray, List.set_cons_zero, List.set_cons_succ]
  refine wpAnyH_take (i := 56) (oi := ?oig56_57) (v := ?vvg56_57) ?hig56_57 (by kernel_rfl) (by kernel_rfl) (by kernel_rfl) ?hQg56_57 ?hyg56_57 (by assumption) ?restg56_57
  case hig56_57 => (simp only [List.getElem?_toArray, List.getElem?_cons_succ, List.getElem?_cons_zero]; rfl)
  case hQg56_57 => exact fun _ _ _ h => h
  case hyg56_57 => (refine Or.inl ⟨by rfl, ?_⟩; intro w hSw; (try dsimp only at hSw); go_simp; try with_reducible rfl)
  try simp only [Act.put, List.setIfInBounds_toArray, List.set_cons_zero, List.set_cons_succ]
  refine wpAnyH_done (by kernel_rfl) ?_ _
  refine NoPanic.normal ?_
  have HBE := Lib.hid (HB2.out.trans (hB.mono HB2.out.size))
  go_wp2_with fail
  go_ret
  exact ⟨rfl, HBE.out⟩
end Go.Proofs.YtminbemdcanakaaGreat
