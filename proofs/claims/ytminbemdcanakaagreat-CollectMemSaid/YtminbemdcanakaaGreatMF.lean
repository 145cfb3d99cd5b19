/- Queues of numbers: slices that stand at any place of their blocks. -/
import Derived.Test.YtminbemdcanakaaGreatME
import Derived.Deep.Upon
import Derived.Deep.LoopGhost
import Derived.StillTailTactics
namespace Go.Proofs.YtminbemdcanakaaGreat
open Go.RowKit
set_option linter.unusedVariables false
set_option linter.unusedSimpArgs false

def QAt (w : World) (v : Value) (xs : List Int) : Prop := (v = .slice none 0 0 ∧ xs = []) ∨
  ∃ g off cap l, v = .slice (some ⟨g, off, none⟩) xs.length cap ∧ w.heap[g]? = some (.cells (List.toArray l) 3 (0, 0)) ∧ xs.length ≤ cap ∧ cap ≤ maxLen ∧ off + cap ≤ l.length ∧ (l.drop off).take xs.length = intL xs
theorem intL_app (a b : List Int) : intL (a ++ b) = intL a ++ intL b := by unfold intL; simp
theorem intL_get {l : List Int} {j : Nat} {x : Int} (h : l[j]? = some x) : (intL l)[j]? = some (.int .i64 x) := by unfold intL; rw [List.getElem?_map, h]; rfl

section
variable {w w' : World} {v : Value} {xs : List Int}
theorem QAt.nil (w : World) : QAt w (.slice none 0 0) [] := .inl ⟨rfl, rfl⟩
theorem QAt.slice (h : QAt w v xs) : ∃ a c, v = .slice a xs.length c := by
  rcases h with ⟨rfl, rfl⟩ | ⟨g, off, cap, l, rfl, _⟩
  · exact ⟨none, 0, rfl⟩
  · exact ⟨_, _, rfl⟩
theorem QAt.lt (h : QAt w v xs) {k : Nat} (hk : v.ownBlock = some k) : k < w.heap.size := by
  rcases h with ⟨rfl, rfl⟩ | ⟨g, off, cap, l, rfl, hg, _⟩
  · cases hk
  · cases hk; exact (Array.getElem?_eq_some_iff.1 hg).1
theorem QAt.type (h : QAt w v xs) {k : Nat} (hk : v.ownBlock = some k) : ∃ cur, w.heap[k]? = some (.cells cur 3 (0, 0)) := by
  rcases h with ⟨rfl, rfl⟩ | ⟨g, off, cap, l, rfl, hg, _⟩
  · cases hk
  · cases hk; exact ⟨_, hg⟩
theorem QAt.of_block (h : QAt w v xs) (hb : ∀ k, v.ownBlock = some k → w'.heap[k]? = w.heap[k]?) : QAt w' v xs := by
  rcases h with hn | ⟨g, off, cap, l, rfl, hg, rest⟩
  · exact .inl hn
  · exact .inr ⟨g, off, cap, l, rfl, by rw [hb g rfl]; exact hg, rest⟩
theorem QAt.below (h : QAt w v xs) (hb : Below w.heap.size w w') : QAt w' v xs := h.of_block fun k hk => hb.block k (h.lt hk)
theorem QAt.keep {B : Nat → Prop} (h : QAt w v xs) (hk : Keep B w w') (hB : ∀ k, v.ownBlock = some k → ¬ B k) : QAt w' v xs := h.of_block fun k e => hk.block k (h.lt e) (hB k e)
theorem QAt.of_row {base : Nat} (h : w.ownsRow base 3 1 v xs.length (intL xs)) : QAt w v xs := by
  rcases h.2 with ⟨rfl, h0⟩ | ⟨g, cap, cur, rfl, hb, hg, h1, h2, h3, h4⟩
  · exact .inl ⟨by first | rfl | rw [h0], List.eq_nil_of_length_eq_zero h0⟩
  · refine .inr ⟨g, 0, cap, cur.toList, rfl, hg, h1, h2, by simp; omega, ?_⟩
    rw [List.drop_zero, ← h4, Nat.mul_one]
/-- The cells of a queue that is not empty. -/
theorem QAt.get (h : QAt w v xs) (hne : xs ≠ []) : ∃ g off cap, v = .slice (some ⟨g, off, none⟩) xs.length cap ∧ xs.length ≤ cap ∧ cap ≤ maxLen ∧ ∀ j x, xs[j]? = some x → w.cell? ⟨g, off + j, none⟩ = some (.int .i64 x) := by
  rcases h with ⟨rfl, rfl⟩ | ⟨g, off, cap, l, rfl, hg, h1, h2, h3, h4⟩
  · exact absurd rfl hne
  · refine ⟨g, off, cap, rfl, h1, h2, fun j x hx => ?_⟩
    rw [cell_of_list hg]
    have hj := (List.getElem?_eq_some_iff.1 hx).1
    have e := intL_get hx
    rw [← h4, List.getElem?_take, if_pos hj, List.getElem?_drop] at e
    exact e
theorem QAt.init {g off cap : Nat} (h : QAt w (.slice (some ⟨g, off, none⟩) xs.length cap) xs) (hne : xs ≠ []) : QAt w (.slice (some ⟨g, off, none⟩) (xs.length - 1) cap) xs.dropLast := by
  rcases h with ⟨e, rfl⟩ | ⟨g', off', cap', l, e, hg, h1, h2, h3, h4⟩
  · exact absurd rfl hne
  · simp only [Value.slice.injEq, Option.some.injEq, Addr.mk.injEq, true_and, and_true] at e
    obtain ⟨⟨rfl, rfl⟩, rfl⟩ := e
    refine .inr ⟨_, _, _, l, by rw [List.length_dropLast], hg, by rw [List.length_dropLast]; omega, h2, h3, ?_⟩
    have e2 : intL xs.dropLast = (intL xs).dropLast := by unfold intL; rw [List.map_dropLast]
    rw [List.length_dropLast, e2, ← h4, List.dropLast_eq_take (l := List.take xs.length (List.drop off l)), List.take_take]
    congr 1
    simp; omega
/-- The first one goes. -/
theorem QAt.tail {g off cap : Nat} {x : Int} (h : QAt w (.slice (some ⟨g, off, none⟩) (xs.length + 1) cap) (x :: xs)) (off' : Nat) (ho : off' = off + 1 ∨ (cap = 1 ∧ off' = off)) : QAt w (.slice (some ⟨g, off', none⟩) xs.length (cap - 1)) xs := by
  rcases h with ⟨e, h0⟩ | ⟨g', off2, cap', l, e, hg, h1, h2, h3, h4⟩
  · cases h0
  · simp only [Value.slice.injEq, Option.some.injEq, Addr.mk.injEq, true_and, and_true, List.length_cons] at e
    obtain ⟨⟨rfl, rfl⟩, rfl⟩ := e
    simp only [List.length_cons] at h1 h4
    have hd : (l.drop (off + 1)).take xs.length = intL xs := by
      have := congrArg List.tail h4
      rw [show intL (x :: xs) = .int .i64 x :: intL xs from rfl, List.tail_cons] at this
      rw [← this]
      apply List.ext_getElem?
      intro j
      rw [List.getElem?_take, List.getElem?_drop, List.getElem?_tail, List.getElem?_take, List.getElem?_drop]
      by_cases hj : j < xs.length
      · rw [if_pos hj, if_pos (by omega), show off + 1 + j = off + (j + 1) by omega]
      · rw [if_neg hj, if_neg (by omega)]
    rcases ho with rfl | ⟨rfl, rfl⟩
    · exact .inr ⟨_, _, _, l, rfl, hg, by omega, by omega, by omega, hd⟩
    · have hx : xs = [] := List.eq_nil_of_length_eq_zero (by omega)
      subst hx
      exact .inr ⟨_, _, _, l, rfl, hg, by simp, by unfold maxLen; omega, by omega, by simp [intL]⟩
end

/-! ### append -/
theorem setCells_heap {g : Nat} {e : TypeId} : ∀ (vs : List Value) (o : Nat) (w : World) (l : List Value), w.heap[g]? = some (.cells l.toArray e (0, 0)) → o + vs.length ≤ l.length →
    (w.setCells g o vs).heap[g]? = some (.cells (l.take o ++ vs ++ l.drop (o + vs.length)).toArray e (0, 0)) := by
  intro vs
  induction vs with
  | nil => intro o w l h _; show w.heap[g]? = _; rw [h]; simp
  | cons v vs ih =>
    intro o w l h hl
    simp only [List.length_cons] at hl
    show ((w.setCell ⟨g, o, none⟩ v).setCells g (o + 1) vs).heap[g]? = _
    rw [ih (o + 1) _ (l.set o v) (setCell_list h v) (by simp; omega)]
    have e1 : (l.set o v).take (o + 1) = l.take o ++ [v] := by
      rw [List.take_add_one, List.take_set, List.getElem?_set_self (by omega)]
      rw [List.set_eq_of_length_le (by simp; omega)]
      rfl
    have e2 : (l.set o v).drop (o + 1 + vs.length) = l.drop (o + (vs.length + 1)) := by
      rw [List.drop_set_of_lt (by omega), show o + 1 + vs.length = o + (vs.length + 1) by omega]
    rw [e1, e2]
    simp
theorem setCells_flat (g : Nat) : ∀ (vs : List Value) (o : Nat) (w : World), (w.setCells g o vs).os = w.os ∧ (w.setCells g o vs).tape = w.tape ∧ (w.setCells g o vs).output = w.output ∧ (w.setCells g o vs).heap.size = w.heap.size ∧ ∀ k, k ≠ g → (w.setCells g o vs).heap[k]? = w.heap[k]? := by
  intro vs
  induction vs with
  | nil => intro o w; exact ⟨rfl, rfl, rfl, rfl, fun _ _ => rfl⟩
  | cons v vs ih =>
    intro o w
    obtain ⟨a, b, c, d, e⟩ := ih (o + 1) (w.setCell ⟨g, o, none⟩ v)
    exact ⟨a, b, c, d.trans (by simp [World.setCell]), fun k hk => (e k hk).trans (Below.heap_setCell _ _ _ _ hk)⟩
theorem src_of {w : World} {sv : Value} {news : List Int} (h : Rd w sv news.length (intL news)) : Src Tryz.prog 1 54 sv news.length (intL news) w := by
  rcases h with ⟨rfl, h0, h1⟩ | ⟨ad, c, rfl, hc⟩
  · rw [h0, h1]; exact Src.ofNil w Tryz.underlying54 0
  · exact Src.ofSlice w Tryz.underlying54 ad _ c _ (by rw [intL_len, Nat.mul_one]) hc (by intro u hu; unfold intL at hu; obtain ⟨x, _, rfl⟩ := List.mem_map.1 hu; rfl)
theorem run_append_q {w : World} {v : Value} {xs : List Int} (hq : QAt w v xs) {sv : Value} {news : List Int} (hs : Rd w sv news.length (intL news)) (hb : xs.length + news.length ≤ 100000000) (ty : TypeId) :
    ∃ v' w', (Builtin.append_ #[54, 54] ty #[v, sv]).run Tryz.prog w = .ok v' w' ∧ QAt w' v' (xs ++ news) ∧ w.grownBy w' v.ownBlock ∧ (v'.ownBlock = v.ownBlock ∨ v'.ownBlock = some w.heap.size) := by
  obtain ⟨i, hi, hz, hz1, hz2⟩ := info_parts infC1
  have hsrc := src_of hs
  have ht := Tryz.underlying54
  by_cases hn : news = []
  · subst hn
    obtain ⟨a, c, rfl⟩ := hq.slice
    have hle : xs.length ≤ c := by
      rcases hq with ⟨e, h0⟩ | ⟨g, off, cap, l, e, hg, h1, _⟩
      · simp only [Value.slice.injEq] at e; omega
      · simp only [Value.slice.injEq] at e; omega
    have := run_append_nothing w 54 54 ty 3 i ht hi a xs.length c hle sv (by rw [hz1]; exact hsrc)
    exact ⟨_, _, this, by rw [List.append_nil]; exact hq, ⟨rfl, rfl, rfl, Nat.le_refl _, fun _ _ _ => rfl⟩, .inl rfl⟩
  · have hn1 : 0 < news.length := List.length_pos_iff.2 hn
    have grow : ∀ (bs : Option Addr) (sc : Nat), v = .slice bs xs.length sc → sc < xs.length + news.length →
        (Builtin.firstCells i.size xs.length (.slice bs xs.length sc)).run Tryz.prog w.drew = .ok (intL xs).toArray w.drew →
        ∃ v' w', (Builtin.append_ #[54, 54] ty #[v, sv]).run Tryz.prog w = .ok v' w' ∧ QAt w' v' (xs ++ news) ∧ w.grownBy w' v.ownBlock ∧ (v'.ownBlock = v.ownBlock ∨ v'.ownBlock = some w.heap.size) := by
      rintro bs sc rfl hsc hold
      have hrun := run_append_grow_src (P := Tryz.prog) w 54 54 ty 3 i (.int .i64 0) ht hi hz bs xs.length sc (intL xs) hold sv news.length (intL news) (by rw [hz1]; exact hsrc) hsc (by omega) (growslice_fits hsc (by rw [hz2]; omega))
      have hge := grownCap_ge w (xs.length + news.length) sc 3
      have hcm := grownCap_le_maxLen w (xs.length + news.length) sc 3 (by unfold maxLen; omega)
      refine ⟨_, _, hrun, .inr ⟨w.heap.size, 0, _, ((intL xs ++ intL news).toArray ++ Builtin.zeroCells (Value.int .i64 0).cells (grownCap w (xs.length + news.length) sc 3 - (xs.length + news.length))).toList, by rw [List.length_append], ?_, by rw [List.length_append]; exact hge, hcm, ?_, ?_⟩, ⟨rfl, rfl, rfl, by simp, fun k hk _ => Below.heap_alloc w.drew _ k hk⟩, .inr rfl⟩
      · exact World.alloc_heap_new w.drew _
      · simp only [Array.toList_append, List.length_append, Array.length_toList, intL_len]
        rw [size_zeroCells]
        show 0 + _ ≤ xs.length + news.length + (_ - _) * 1
        omega
      · rw [List.drop_zero, Array.toList_append, intL_app, List.length_append]
        rw [List.take_append_of_le_length (by simp [intL_len])]
        exact List.take_of_length_le (by simp [intL_len])
    rcases hq with ⟨rfl, rfl⟩ | ⟨g, off, cap, l, rfl, hg, h1, h2, h3, h4⟩
    · exact grow none 0 rfl (by simpa using hn1) (run_firstCells_none w.drew _ 0 0 0)
    · have hl0 : (l.drop off).length = l.length - off := by simp
      have hcells : ∀ j x, xs[j]? = some x → w.cell? ⟨g, off + j, none⟩ = some (.int .i64 x) := by
        intro j x hx
        rw [cell_of_list hg]
        have hj := (List.getElem?_eq_some_iff.1 hx).1
        have e := intL_get hx
        rw [← h4, List.getElem?_take, if_pos hj, List.getElem?_drop] at e
        exact e
      by_cases hroom : xs.length + news.length ≤ cap
      · have hthere : ∀ j, j < (intL news).length → (w.cell? ⟨g, off + xs.length * i.size + j, none⟩).isSome = true := by
          intro j hj
          rw [intL_len] at hj
          rw [hz1, Nat.mul_one, cell_of_list hg, List.getElem?_eq_getElem (by omega)]
          rfl
        have hfree : ∀ j, j < (intL news).length → w.frozen? ⟨g, off + xs.length * i.size + j, none⟩ = false := fun j _ => free_of_list hg _
        have hrun := run_append_room_src (P := Tryz.prog) w 54 54 ty 3 i ht hi g off xs.length cap sv news.length (intL news) (by rw [hz1]; exact hsrc) hroom hthere hfree
        rw [hz1, Nat.mul_one] at hrun
        have hh := setCells_heap (g := g) (intL news) (off + xs.length) w l hg (by rw [intL_len]; omega)
        obtain ⟨a1, a2, a3, a4, a5⟩ := setCells_flat g (intL news) (off + xs.length) w
        refine ⟨_, _, hrun, .inr ⟨g, off, cap, _, by rw [List.length_append], hh, by rw [List.length_append]; exact hroom, h2, ?_, ?_⟩, ⟨a1, a2, a3, by rw [a4]; exact Nat.le_refl _, fun k _ hk => a5 k (fun e => hk (by rw [e]; rfl))⟩, .inl rfl⟩
        · simp only [List.length_append, List.length_take, List.length_drop, intL_len]
          omega
        · have e1 : (l.take (off + xs.length)).drop off = intL xs := by
            rw [List.drop_take, show off + xs.length - off = xs.length by omega]; exact h4
          rw [List.append_assoc, List.drop_append_of_le_length (by simp; omega), e1, intL_app, List.length_append, ← List.append_assoc]
          rw [List.take_append_of_le_length (by simp [intL_len])]
          exact List.take_of_length_le (by simp [intL_len])
      · refine grow (some ⟨g, off, none⟩) cap rfl (by omega) ?_
        refine run_firstCells_some w.drew i.size xs.length ⟨g, off, none⟩ xs.length cap (intL xs) (by rw [hz1, intL_len, Nat.mul_one]) ?_
        intro j u hu
        unfold intL at hu
        rw [List.getElem?_map] at hu
        obtain ⟨x, hx, rfl⟩ := Option.map_eq_some_iff.1 hu
        rw [addr_add]
        exact hcells j x hx
theorem wpList_append_q {w : World} {ops : Array Oper} {rest : List Oper} {o : Oper} {a : Act} {Q : Exit → Act → World → Prop} (hgd : o.guard = none) (s x : Operand)
    (ho : o.op = .call { callee := .builtin .append, args := #[s, x], argTypes := #[54, 54] })
    (v : Value) (xs : List Int) (hsv : a.eval s = v) (hq : QAt w v xs) (sv : Value) (news : List Int) (hx : a.eval x = sv) (hs : Rd w sv news.length (intL news)) (hb : xs.length + news.length ≤ 100000000)
    (h : ∀ v' w', QAt w' v' (xs ++ news) → w.grownBy w' v.ownBlock → (v'.ownBlock = v.ownBlock ∨ v'.ownBlock = some w.heap.size) → wpList Tryz.prog ops Q rest (a.put o.dst v') w') : wpList Tryz.prog ops Q (o :: rest) a w := by
  refine wpList_plain hgd fun K hK => ?_
  obtain ⟨v', w', hr, h2, h3, h4⟩ := run_append_q hq hs hb o.type
  unfold Oper.wp execOp
  simp only [ho, resolve, invoke, builtin, Sem.run_bind, Sem.run_pure, Result.andThen_ok, List.map_toArray, List.map_cons, List.map_nil, hsv, hx, hr]
  exact hK _ _ (h v' w' h2 h3 h4)
theorem rd_one (w : World) (x : Int) : Rd (w.alloc (.cells #[.int .i64 x] 3)) (.slice (some ⟨w.heap.size, 0, none⟩) 1 1) [x].length (intL [x]) := by
  refine .inr ⟨_, _, rfl, ?_⟩
  exact cell_new1 w (.int .i64 x) 3
end Go.Proofs.YtminbemdcanakaaGreat
/- A collector in memory. -/
namespace Go.Proofs.YtminbemdcanakaaGreat
open Go.RowKit
set_option linter.unusedVariables false
set_option linter.unusedSimpArgs false

abbrev memI (p : Nat) : Value := .iface 29 (.pointer (some ⟨p, 0, none⟩))
/-- Where a collector lies: its block, its objects, its queues (0: grey, 1: again, 2: pending, 3: sweep). -/
structure CL where
  cp : Nat
  L : ML
  q : Nat → Value
def Cs.q (c : Cs) : Nat → List Int
  | 0 => c.grey
  | 1 => c.again
  | 2 => c.pending
  | 3 => c.sweep
  | _ => []
def Cs.setQ (c : Cs) (i : Nat) (l : List Int) : Cs := match i with
  | 0 => c.withGrey l
  | 1 => c.withAgain l
  | 2 => c.withPending l
  | 3 => c.withSweep l
  | _ => c
def CL.setQ (K : CL) (i : Nat) (v : Value) : CL := { K with q := fun j => if j = i then v else K.q j }
def CL.own (K : CL) (k : Nat) : Prop := k = K.cp ∨ K.L.own k ∨ ∃ i, i < 4 ∧ (K.q i).ownBlock = some k
def boxC (K : CL) (c : Cs) : List Value := [memI K.L.p, .int .i64 c.mode, .int .i64 c.phase, .int .i64 c.white, K.q 0, K.q 1, K.q 2, K.q 3, .int .i64 c.base]
structure CAt (w : World) (K : CL) (c : Cs) : Prop where
  box : Box w K.cp (boxC K c) 126
  mem : MemAt w K.L c.m
  q : ∀ i, i < 4 → QAt w (K.q i) (c.q i)
  sepM : ¬ K.L.own K.cp
  sepQ : ∀ i, i < 4 → ∀ k, (K.q i).ownBlock = some k → ¬ K.L.own k
  sep : ∀ i j, i < 4 → j < 4 → i ≠ j → ∀ k, (K.q i).ownBlock = some k → (K.q j).ownBlock ≠ some k
/-- What may be turned, where of the queues those of s alone may be. -/
def CL.ownS (K : CL) (s : Nat → Prop) (k : Nat) : Prop := k = K.cp ∨ K.L.own k ∨ ∃ i, i < 4 ∧ s i ∧ (K.q i).ownBlock = some k
theorem CL.ownS_own {K : CL} {s : Nat → Prop} {k : Nat} (h : K.ownS s k) : K.own k := by
  rcases h with h | h | ⟨i, hi, _, h⟩
  · exact .inl h
  · exact .inr (.inl h)
  · exact .inr (.inr ⟨i, hi, h⟩)
theorem CL.ownS_mono {K : CL} {s t : Nat → Prop} (hst : ∀ i, s i → t i) {k : Nat} (h : K.ownS s k) : K.ownS t k := by
  rcases h with h | h | ⟨i, hi, hs, h⟩
  · exact .inl h
  · exact .inr (.inl h)
  · exact .inr (.inr ⟨i, hi, hst i hs, h⟩)
abbrev allQ : Nat → Prop := fun _ => True
abbrev noQ : Nat → Prop := fun _ => False
abbrev marksQ : Nat → Prop := fun i => i = 0
abbrev goesQ : Nat → Prop := fun i => i < 2
/-- The collector lies where it lay, or in new blocks; of its queues those of s alone were turned. -/
structure CGo (s : Nat → Prop) (w : World) (K : CL) (w' : World) (K' : CL) (c' : Cs) : Prop where
  cp : K'.cp = K.cp
  p : K'.L.p = K.L.p
  at_ : CAt w' K' c'
  q : ∀ i, i < 4 → ¬ s i → K'.q i = K.q i
  keep : Keep (K.ownS s) w w'
  own : ∀ k, K'.ownS s k → K.ownS s k ∨ w.heap.size ≤ k
def CTo (s : Nat → Prop) (w : World) (K : CL) (w' : World) (c' : Cs) : Prop := ∃ K' : CL, CGo s w K w' K' c'

section
variable {w w' : World} {K : CL} {c c' : Cs}
theorem CAt.own_lt (h : CAt w K c) {k : Nat} (hk : K.own k) : k < w.heap.size := by
  rcases hk with rfl | hk | ⟨i, hi, hk⟩
  · exact h.box.lt
  · exact h.mem.own_lt hk
  · exact (h.q i hi).lt hk
theorem CAt.of_blocks (h : CAt w K c) (hs : w.heap.size ≤ w'.heap.size) (hb : ∀ k, K.own k → w'.heap[k]? = w.heap[k]?) : CAt w' K c :=
  ⟨h.box.of_block (hb _ (.inl rfl)), h.mem.of_blocks hs fun k hk => hb k (.inr (.inl hk)), fun i hi => (h.q i hi).of_block fun k hk => hb k (.inr (.inr ⟨i, hi, hk⟩)), h.sepM, h.sepQ, h.sep⟩
theorem CAt.below (h : CAt w K c) (hb : Below w.heap.size w w') : CAt w' K c := h.of_blocks hb.size fun k hk => hb.block k (h.own_lt hk)
theorem CAt.keep {B : Nat → Prop} (h : CAt w K c) (hk : Keep B w w') (hB : ∀ k, K.own k → ¬ B k) : CAt w' K c := h.of_blocks hk.size fun k ho => hk.block k (h.own_lt ho) (hB k ho)
theorem CAt.cp_ne (h : CAt w K c) {i : Nat} (hi : i < 4) {k : Nat} (hk : (K.q i).ownBlock = some k) : k ≠ K.cp := by
  rintro rfl
  obtain ⟨cur, hc⟩ := (h.q i hi).type hk
  have hb := h.box
  unfold Box at hb
  rw [hb] at hc
  cases hc
variable {s : Nat → Prop}
theorem CTo.refl (h : CAt w K c) : CTo s w K w c := ⟨K, rfl, rfl, h, fun _ _ _ => rfl, Keep.refl _ _, fun _ hk => .inl hk⟩
theorem CTo.below (h : CAt w K c) (hb : Below w.heap.size w w') : CTo s w K w' c := ⟨K, rfl, rfl, h.below hb, fun _ _ _ => rfl, Keep.of_below hb, fun _ hk => .inl hk⟩
theorem CGo.to {w0 : World} {K0 : CL} {w1 : World} {K1 : CL} {c1 : Cs} (h : CGo s w0 K0 w1 K1 c1) {w2 : World} {c2 : Cs} (hn : CTo s w1 K1 w2 c2) : CTo s w0 K0 w2 c2 := by
  obtain ⟨K2, b1, b2, b3, b6, b4, b5⟩ := hn
  obtain ⟨a1, a2, a3, a6, a4, a5⟩ := h
  refine ⟨K2, b1.trans a1, b2.trans a2, b3, fun i hi hn => (b6 i hi hn).trans (a6 i hi hn), a4.trans' b4 (fun k hk ho => ?_), fun k hk => ?_⟩
  · rcases a5 k ho with e | e
    · exact e
    · omega
  · rcases b5 k hk with e | e
    · exact a5 k e
    · have := a4.size; exact .inr (by omega)
/-- One step behind another. -/
theorem CTo.step {w0 : World} {K0 : CL} {w1 : World} {c1 : Cs} (h : CTo s w0 K0 w1 c1) {w2 : World} {c2 : Cs} (hn : ∀ K1 : CL, K1.cp = K0.cp → K1.L.p = K0.L.p → CAt w1 K1 c1 → CTo s w1 K1 w2 c2) : CTo s w0 K0 w2 c2 := by
  obtain ⟨K1, hg⟩ := h
  exact hg.to (hn K1 hg.cp hg.p hg.at_)
theorem CTo.then_below {w0 : World} {K0 : CL} {w1 w2 : World} {c1 : Cs} (h : CTo s w0 K0 w1 c1) (hb : Below w1.heap.size w1 w2) : CTo s w0 K0 w2 c1 := h.step fun _ _ _ h1 => CTo.below h1 hb
theorem CTo.keepS (h : CTo s w K w' c') : Keep (K.ownS s) w w' := by obtain ⟨K', hg⟩ := h; exact hg.keep
theorem CTo.keep (h : CTo s w K w' c') : Keep K.own w w' := h.keepS.mono fun k _ hk => CL.ownS_own hk
theorem CTo.size (h : CTo s w K w' c') : w.heap.size ≤ w'.heap.size := h.keep.size
theorem CGo.keepAll {K' : CL} (h : CGo s w K w' K' c') : Keep K.own w w' := h.keep.mono fun k _ hk => CL.ownS_own hk
theorem CGo.ownAll {K' : CL} (h : CGo s w K w' K' c') {k : Nat} (hk : K'.own k) : K.own k ∨ w.heap.size ≤ k := by
  by_cases hs : K'.ownS s k
  · rcases h.own k hs with e | e
    · exact .inl (CL.ownS_own e)
    · exact .inr e
  · rcases hk with e | e | ⟨i, hi, e⟩
    · exact absurd (.inl e) hs
    · exact absurd (.inr (.inl e)) hs
    · have hn : ¬ s i := fun hsi => hs (.inr (.inr ⟨i, hi, hsi, e⟩))
      exact .inl (.inr (.inr ⟨i, hi, h.q i hi hn ▸ e⟩))
theorem CTo.mono {t : Nat → Prop} (hst : ∀ i, s i → t i) (h : CTo s w K w' c') : CTo t w K w' c' := by
  obtain ⟨K', hg⟩ := h
  refine ⟨K', hg.cp, hg.p, hg.at_, fun i hi hn => hg.q i hi fun h => hn (hst i h), hg.keep.mono fun k _ hk => CL.ownS_mono hst hk, fun k hk => ?_⟩
  by_cases hs : K'.ownS s k
  · rcases hg.own k hs with e | e
    · exact .inl (CL.ownS_mono hst e)
    · exact .inr e
  · rcases hk with e | e | ⟨i, hi, ht, e⟩
    · exact absurd (.inl e) hs
    · exact absurd (.inr (.inl e)) hs
    · have hn : ¬ s i := fun hsi => hs (.inr (.inr ⟨i, hi, hsi, e⟩))
      exact .inl (.inr (.inr ⟨i, hi, ht, hg.q i hi hn ▸ e⟩))
theorem CTo.all (h : CTo s w K w' c') : CTo allQ w K w' c' := h.mono fun _ _ => trivial
/-- A world ahead of it. -/
theorem CTo.ahead {w0 w1 : World} (hb : Below w0.heap.size w0 w1) (hc : CAt w0 K c) (h : CTo s w1 K w' c') : CTo s w0 K w' c' := by
  obtain ⟨K1, a1, a2, a3, a6, a4, a5⟩ := h
  refine ⟨K1, a1, a2, a3, a6, (Keep.of_below hb).trans a4, fun k hk => ?_⟩
  rcases a5 k hk with e | e
  · exact .inl e
  · have := hb.size; exact .inr (by omega)
/-- A box that is not the collector's. -/
theorem CTo.box (h : CTo s w K w' c') {b : Nat} {l : List Value} {t : TypeId} (hb : Box w b l t) (hn : ¬ K.own b) : Box w' b l t := h.keep.box hb hn
/-- A queue that may not be turned. -/
theorem CGo.row {K' : CL} (h : CGo s w K w' K' c') (hc : CAt w K c) {i : Nat} (hi : i < 4) (hn : ¬ s i) {l : List Int} (hq : QAt w (K.q i) l) : QAt w' (K.q i) l := by
  refine hq.keep h.keep fun k hk => ?_
  rintro (e | e | ⟨j, hj, hs, e⟩)
  · exact hc.cp_ne hi hk e
  · exact hc.sepQ i hi k hk e
  · exact hc.sep i j hi hj (fun e => hn (e ▸ hs)) k hk e

/-! ### cells -/
theorem CAt.cells (h : CAt w K c) : w.cell? ⟨K.cp, 0, none⟩ = some (memI K.L.p) ∧ w.cell? ⟨K.cp, 1, none⟩ = some (.int .i64 c.mode) ∧ w.cell? ⟨K.cp, 2, none⟩ = some (.int .i64 c.phase) ∧ w.cell? ⟨K.cp, 3, none⟩ = some (.int .i64 c.white) ∧
    w.cell? ⟨K.cp, 4, none⟩ = some (K.q 0) ∧ w.cell? ⟨K.cp, 5, none⟩ = some (K.q 1) ∧ w.cell? ⟨K.cp, 6, none⟩ = some (K.q 2) ∧ w.cell? ⟨K.cp, 7, none⟩ = some (K.q 3) ∧ w.cell? ⟨K.cp, 8, none⟩ = some (.int .i64 c.base) :=
  ⟨h.box.cell 0, h.box.cell 1, h.box.cell 2, h.box.cell 3, h.box.cell 4, h.box.cell 5, h.box.cell 6, h.box.cell 7, h.box.cell 8⟩

/-! ### turns -/
theorem boxC_setQ (K : CL) (c : Cs) (i : Nat) (hi : i < 4) (v : Value) (l : List Int) : (boxC K c).set (4 + i) v = boxC (K.setQ i v) (c.setQ i l) := by
  match i, hi with
  | 0, _ => rfl
  | 1, _ => rfl
  | 2, _ => rfl
  | 3, _ => rfl
theorem q_setQ (c : Cs) (i j : Nat) (hi : i < 4) (hj : j < 4) (l : List Int) : (c.setQ i l).q j = if j = i then l else c.q j := by
  match i, hi, j, hj with
  | 0, _, 0, _ => rfl
  | 0, _, 1, _ => rfl
  | 0, _, 2, _ => rfl
  | 0, _, 3, _ => rfl
  | 1, _, 0, _ => rfl
  | 1, _, 1, _ => rfl
  | 1, _, 2, _ => rfl
  | 1, _, 3, _ => rfl
  | 2, _, 0, _ => rfl
  | 2, _, 1, _ => rfl
  | 2, _, 2, _ => rfl
  | 2, _, 3, _ => rfl
  | 3, _, 0, _ => rfl
  | 3, _, 1, _ => rfl
  | 3, _, 2, _ => rfl
  | 3, _, 3, _ => rfl
theorem m_setQ (c : Cs) (i : Nat) (l : List Int) : (c.setQ i l).m = c.m := by unfold Cs.setQ; split <;> rfl
/-- A queue is another. -/
theorem CAt.turnQ (h : CAt w K c) (i : Nat) (hi : i < 4) {v : Value} {l : List Int} (hq : QAt w' v l) (hk : Keep (fun k => (K.q i).ownBlock = some k) w w') (hv : ∀ k, v.ownBlock = some k → (K.q i).ownBlock = some k ∨ w.heap.size ≤ k) :
    CTo (fun j => j = i) w K (w'.setCell ⟨K.cp, 4 + i, none⟩ v) (c.setQ i l) := by
  have hcp : ∀ k, k ≠ K.cp → (w'.setCell ⟨K.cp, 4 + i, none⟩ v).heap[k]? = w'.heap[k]? := fun k hk => Below.heap_setCell _ _ _ _ hk
  have hlt := h.box.lt
  have hb1 : Box w' K.cp (boxC K c) 126 := h.box.of_block (hk.block _ hlt fun e => h.cp_ne hi e rfl)
  have hvc : v.ownBlock ≠ some K.cp := fun e => by
    rcases hv _ e with e | e
    · exact h.cp_ne hi e rfl
    · omega
  have hm : ∀ k, K.L.own k → (w'.setCell ⟨K.cp, 4 + i, none⟩ v).heap[k]? = w.heap[k]? := by
    intro k ho
    rw [hcp k (fun e => h.sepM (e ▸ ho))]
    exact hk.block k (h.mem.own_lt ho) fun e => h.sepQ i hi k e ho
  have hsz : (w'.setCell ⟨K.cp, 4 + i, none⟩ v).heap.size = w'.heap.size := by simp [World.setCell]
  refine ⟨K.setQ i v, rfl, rfl, ⟨?_, ?_, ?_, h.sepM, ?_, ?_⟩, fun j _ hn => if_neg hn, ?_, ?_⟩
  · rw [← boxC_setQ K c i hi v l]
    exact hb1.set (4 + i) v
  · rw [m_setQ]
    exact h.mem.of_blocks (by rw [hsz]; exact hk.size) hm
  · intro j hj
    rw [q_setQ c i j hi hj]
    show QAt _ (if j = i then v else K.q j) _
    by_cases e : j = i
    · rw [if_pos e, if_pos e]
      exact hq.of_block fun k ho => hcp k (fun e => hvc (e ▸ ho))
    · rw [if_neg e, if_neg e]
      exact (h.q j hj).of_block fun k ho => (hcp k (h.cp_ne hj ho)).trans (hk.block k ((h.q j hj).lt ho) fun e2 => h.sep j i hj hi e k ho e2)
  · intro j hj k ho
    show ¬ K.L.own k
    have ho' : (if j = i then v else K.q j).ownBlock = some k := ho
    by_cases e : j = i
    · rw [if_pos e] at ho'
      rcases hv k ho' with e2 | e2
      · exact h.sepQ i hi k e2
      · intro hl; have := h.mem.own_lt hl; omega
    · rw [if_neg e] at ho'
      exact h.sepQ j hj k ho'
  · intro a b ha hb hab k ho ho2
    have h1 : (if a = i then v else K.q a).ownBlock = some k := ho
    have h2 : (if b = i then v else K.q b).ownBlock = some k := ho2
    by_cases ea : a = i
    · have eb : b ≠ i := fun e => hab (ea.trans e.symm)
      rw [if_pos ea] at h1
      rw [if_neg eb] at h2
      rcases hv k h1 with e2 | e2
      · exact h.sep i b hi hb (fun e => eb e.symm) k e2 h2
      · have := (h.q b hb).lt h2; omega
    · rw [if_neg ea] at h1
      by_cases eb : b = i
      · rw [if_pos eb] at h2
        rcases hv k h2 with e2 | e2
        · exact h.sep a i ha hi ea k h1 e2
        · have := (h.q a ha).lt h1; omega
      · rw [if_neg eb] at h2
        exact h.sep a b ha hb hab k h1 h2
  · refine ⟨hk.os, hk.tape, hk.output, by rw [hsz]; exact hk.size, fun k hl hn => ?_⟩
    rw [hcp k (fun e => hn (.inl e))]
    exact hk.block k hl fun e => hn (.inr (.inr ⟨i, hi, rfl, e⟩))
  · rintro k (e | e | ⟨j, hj, hji, e⟩)
    · exact .inl (.inl e)
    · exact .inl (.inr (.inl e))
    · have e' : (if j = i then v else K.q j).ownBlock = some k := e
      rw [if_pos hji] at e'
      rcases hv k e' with e2 | e2
      · exact .inl (.inr (.inr ⟨i, hi, rfl, e2⟩))
      · exact .inr e2
/-- The objects are others. -/
theorem CAt.turnM (h : CAt w K c) {M : Mm} (hm : MTo w K.L w' M) : CTo s w K w' (c.withM M) := by
  obtain ⟨L', hp, hat, hk, ho⟩ := hm
  have hkk : ∀ k, k < w.heap.size → ¬ K.L.own k → w'.heap[k]? = w.heap[k]? := hk.block
  refine ⟨{ K with L := L' }, rfl, hp, ⟨?_, hat, ?_, ?_, ?_, h.sep⟩, fun _ _ _ => rfl, hk.mono fun k _ e => .inr (.inl e), ?_⟩
  · have : boxC { K with L := L' } (c.withM M) = boxC K c := by unfold boxC; rw [show ({ K with L := L' } : CL).L.p = K.L.p from hp]; rfl
    rw [this]
    exact h.box.of_block (hkk _ h.box.lt h.sepM)
  · intro i hi
    have : (c.withM M).q i = c.q i := by unfold Cs.q; split <;> rfl
    rw [this]
    exact (h.q i hi).of_block fun k e => hkk k ((h.q i hi).lt e) (h.sepQ i hi k e)
  · intro e
    rcases ho _ e with e | e
    · exact h.sepM e
    · have := h.box.lt; have e2 : w.heap.size ≤ K.cp := e; exact absurd this (by omega)
  · intro i hi k e e2
    rcases ho _ e2 with e3 | e3
    · exact h.sepQ i hi k e e3
    · have := (h.q i hi).lt e; omega
  · rintro k (e | e | e)
    · exact .inl (.inl e)
    · rcases ho _ e with e | e
      · exact .inl (.inr (.inl e))
      · exact .inr e
    · exact .inl (.inr (.inr e))
theorem CAt.turnK (h : CAt w K c) {M : Mm} (hm : MemAt w' K.L M) (hk : Keep K.L.own w w') : CTo s w K w' (c.withM M) := h.turnM (MTo.same hm hk)
/-- A number of the collector's own is another. -/
theorem CAt.turnF (h : CAt w K c) (j : Nat) {n : Int} (hb : (boxC K c).set j (.int .i64 n) = boxC K c') (hm : c'.m = c.m) (hq : c'.q = c.q) : CTo s w K (w.setCell ⟨K.cp, j, none⟩ (.int .i64 n)) c' := by
  have hcp : ∀ k, k ≠ K.cp → (w.setCell ⟨K.cp, j, none⟩ (.int .i64 n)).heap[k]? = w.heap[k]? := fun k hk => Below.heap_setCell _ _ _ _ hk
  have hsz : (w.setCell ⟨K.cp, j, none⟩ (.int .i64 n)).heap.size = w.heap.size := by simp [World.setCell]
  refine ⟨K, rfl, rfl, ⟨?_, ?_, ?_, h.sepM, h.sepQ, h.sep⟩, fun _ _ _ => rfl, ?_, fun _ hk => .inl hk⟩
  · rw [← hb]; exact h.box.set j _
  · rw [hm]; exact h.mem.of_blocks (by rw [hsz]; exact Nat.le_refl _) fun k ho => hcp k fun e => h.sepM (e ▸ ho)
  · intro i hi
    rw [hq]
    exact (h.q i hi).of_block fun k e => hcp k (h.cp_ne hi e)
  · exact ⟨rfl, rfl, rfl, by rw [hsz]; exact Nat.le_refl _, fun k _ hn => hcp k fun e => hn (.inl e)⟩
end
end Go.Proofs.YtminbemdcanakaaGreat
/- Marking. -/
namespace Go.Proofs.YtminbemdcanakaaGreat
open Go.RowKit Go.Shelf
set_option linter.unusedVariables false
set_option linter.unusedSimpArgs false

theorem meth_order (p : Nat) (w : World) : (method 307 29 (.pointer (some ⟨p, 0, none⟩)) "Order").run Tryz.prog w = .ok (63, .pointer (some ⟨p, 0, none⟩)) w := by kernel_rfl
theorem meth_thing (p : Nat) (w : World) : (method 307 29 (.pointer (some ⟨p, 0, none⟩)) "Thing").run Tryz.prog w = .ok (39, .pointer (some ⟨p, 0, none⟩)) w := by kernel_rfl
theorem meth_kind (p : Nat) (w : World) : (method 307 29 (.pointer (some ⟨p, 0, none⟩)) "Kind").run Tryz.prog w = .ok (38, .pointer (some ⟨p, 0, none⟩)) w := by kernel_rfl
theorem meth_cells (p : Nat) (w : World) : (method 307 29 (.pointer (some ⟨p, 0, none⟩)) "Cells").run Tryz.prog w = .ok (64, .pointer (some ⟨p, 0, none⟩)) w := by kernel_rfl
theorem meth_colour (p : Nat) (w : World) : (method 307 29 (.pointer (some ⟨p, 0, none⟩)) "Colour").run Tryz.prog w = .ok (65, .pointer (some ⟨p, 0, none⟩)) w := by kernel_rfl
theorem meth_age (p : Nat) (w : World) : (method 307 29 (.pointer (some ⟨p, 0, none⟩)) "Age").run Tryz.prog w = .ok (66, .pointer (some ⟨p, 0, none⟩)) w := by kernel_rfl
theorem meth_setColour (p : Nat) (w : World) : (method 307 29 (.pointer (some ⟨p, 0, none⟩)) "SetColour").run Tryz.prog w = .ok (24, .pointer (some ⟨p, 0, none⟩)) w := by kernel_rfl
theorem meth_setAge (p : Nat) (w : World) : (method 307 29 (.pointer (some ⟨p, 0, none⟩)) "SetAge").run Tryz.prog w = .ok (25, .pointer (some ⟨p, 0, none⟩)) w := by kernel_rfl
theorem meth_setFin (p : Nat) (w : World) : (method 307 29 (.pointer (some ⟨p, 0, none⟩)) "SetFin").run Tryz.prog w = .ok (27, .pointer (some ⟨p, 0, none⟩)) w := by kernel_rfl
theorem meth_clear (p : Nat) (w : World) : (method 307 29 (.pointer (some ⟨p, 0, none⟩)) "Clear").run Tryz.prog w = .ok (29, .pointer (some ⟨p, 0, none⟩)) w := by kernel_rfl
theorem meth_drop (p : Nat) (w : World) : (method 307 29 (.pointer (some ⟨p, 0, none⟩)) "Drop").run Tryz.prog w = .ok (31, .pointer (some ⟨p, 0, none⟩)) w := by kernel_rfl
theorem meth_roots (p : Nat) (w : World) : (method 307 29 (.pointer (some ⟨p, 0, none⟩)) "Roots").run Tryz.prog w = .ok (53, .pointer (some ⟨p, 0, none⟩)) w := by kernel_rfl
attribute [local go_sem] Oper.semAt_some meth_order meth_thing meth_kind meth_cells meth_colour meth_age meth_setColour meth_setAge meth_setFin meth_clear meth_drop meth_roots

/-- The objects are not so many, their slots neither. -/
structure Bd (c : Cs) : Prop where
  sz : Sz c.m
  w01 : W01 c
  dm : dm c ≤ 10000000
  pend : c.pending.length ≤ 10000000
theorem Bd.mk' {k : Nat} {c c' : Cs} (h : Bd c) (k : Mk 0 c c') : Bd c' := ⟨k.lk.sz h.sz, k.w01 h.w01, by have := k.dm; have := h.dm; omega, by rw [k.pending]; exact h.pend⟩
def IntB (w : World) (n : Int) (e : Ending) (w' : World) : Prop := e = .returned (.int .i64 n) ∧ Below w.heap.size w w'
def BoolB (w : World) (b : Bool) (e : Ending) (w' : World) : Prop := e = .returned (.bool b) ∧ Below w.heap.size w w'

variable {w : World} {K : CL} {c : Cs}
set_option maxRecDepth 100000 in
set_option maxHeartbeats 2000000 in
theorem leads_any (h : CAt w K c) (hs : Sz c.m) (v : V) : Calls Tryz.prog 144 #[.pointer (some ⟨K.cp, 0, none⟩), v.val] w fun e w' => IntB w (leads c.m v) e w' := by
  have hb := below_alloc w (.cells #[.int .i64 v.t, .int .i64 v.n] 34)
  have HB := Lib.hid hb
  have hno : (v.t < 4 ∨ 9 < v.t ∨ v.n < 1 ∨ 1099511627776 < v.n) → leads c.m v = 0 := by
    intro h
    unfold leads
    rw [if_neg]
    rintro ⟨a, b, d, e⟩
    have h1 : 1099511627776 < v.n := by omega
    have : c.m.kind v.n = 0 := by
      unfold Mm.kind Mm.at
      rw [if_neg (by have := hs.n; omega)]
    omega
  have HNO := Lib.hid hno
  clear hb hno
  unfold V.val
  by_cases h1 : v.t < 4
  · have HR := Lib.hid (HNO.out (.inl h1))
    have e1 : decide (v.t < 4) = true := decide_eq_true h1
    clear h
    go_enter Tryz.func144, Tryz.ntmps144
    go_wp2_with fail
    go_ret
    exact ⟨ret_int HR.out.symm, HB.out⟩
  by_cases h2 : 9 < v.t
  · have HR := Lib.hid (HNO.out (.inr (.inl h2)))
    have e1 : decide (v.t < 4) = false := decide_eq_false h1
    have e2 : decide (9 < v.t) = true := decide_eq_true h2
    clear h
    go_enter Tryz.func144, Tryz.ntmps144
    go_wp2_with fail
    go_ret
    exact ⟨ret_int HR.out.symm, HB.out⟩
  by_cases h3 : v.n < 1
  · have HR := Lib.hid (HNO.out (.inr (.inr (.inl h3))))
    have e1 : decide (v.t < 4) = false := decide_eq_false h1
    have e2 : decide (9 < v.t) = false := decide_eq_false h2
    have e3 : decide (v.n < 1) = true := decide_eq_true h3
    clear h
    go_enter Tryz.func144, Tryz.ntmps144
    go_wp2_with fail
    go_ret
    exact ⟨ret_int HR.out.symm, HB.out⟩
  by_cases h4 : 1099511627776 < v.n
  · have HR := Lib.hid (HNO.out (.inr (.inr (.inr h4))))
    have e1 : decide (v.t < 4) = false := decide_eq_false h1
    have e2 : decide (9 < v.t) = false := decide_eq_false h2
    have e3 : decide (v.n < 1) = false := decide_eq_false h3
    have e4 : decide (1099511627776 < v.n) = true := decide_eq_true h4
    clear h
    go_enter Tryz.func144, Tryz.ntmps144
    go_wp2_with fail
    go_ret
    exact ⟨ret_int HR.out.symm, HB.out⟩
  have e1 : decide (v.t < 4) = false := decide_eq_false h1
  have e2 : decide (9 < v.t) = false := decide_eq_false h2
  have e3 : decide (v.n < 1) = false := decide_eq_false h3
  have e4 : decide (1099511627776 < v.n) = false := decide_eq_false h4
  have H1 := h.below HB.out
  have c0 := H1.cells.1
  have HKND := Lib.hid (kind_any H1.mem.drew' hs.n v.n)
  clear H1 h
  by_cases h5 : c.m.kind v.n = v.t
  · have HR := Lib.hid (show leads c.m v = v.n by unfold leads; rw [if_pos ⟨by omega, by omega, by omega, h5⟩])
    have e5 : (c.m.kind v.n != v.t) = false := by simp [h5]
    clear h5
    go_enter Tryz.func144, Tryz.ntmps144
    go_wp2_with fail
    go_region_held3 (fun w' => w'.cell? ⟨K.cp, 0, none⟩ = some (memI K.L.p) ∧ w'.cell? ⟨w.heap.size, 0, none⟩ = some (.int .i64 v.t) ∧ w'.cell? ⟨w.heap.size, 1, none⟩ = some (.int .i64 v.n))
      (first | assumption | refine ⟨?_, ?_, ?_⟩ <;> (first | go_keep | (simp [*, World.cell?_alloc_some, World.cell?_setCell_far])))
      ((go_at_call 38; refine HKND.out.mono ?_; rintro e w5 ⟨rfl, rfl⟩))
    go_wp2_with fail
    go_ret
    exact ⟨ret_int HR.out.symm, HB.out.trans (below_drewN (Below.refl _ _) 1)⟩
  · have HR := Lib.hid (show leads c.m v = 0 by unfold leads; rw [if_neg (fun h => h5 h.2.2.2)])
    have e5 : (c.m.kind v.n != v.t) = true := by simp [h5]
    clear h5
    go_enter Tryz.func144, Tryz.ntmps144
    go_wp2_with fail
    go_region_held3 (fun w' => w'.cell? ⟨K.cp, 0, none⟩ = some (memI K.L.p) ∧ w'.cell? ⟨w.heap.size, 0, none⟩ = some (.int .i64 v.t) ∧ w'.cell? ⟨w.heap.size, 1, none⟩ = some (.int .i64 v.n))
      (first | assumption | refine ⟨?_, ?_, ?_⟩ <;> (first | go_keep | (simp [*, World.cell?_alloc_some, World.cell?_setCell_far])))
      ((go_at_call 38; refine HKND.out.mono ?_; rintro e w5 ⟨rfl, rfl⟩))
    go_wp2_with fail
    go_ret
    exact ⟨ret_int HR.out.symm, HB.out.trans (below_drewN (Below.refl _ _) 1)⟩

theorem leads_cases (m : Mm) (v : V) : leads m v = 0 ∨ (0 < leads m v ∧ leads m v = v.n) := by
  unfold leads
  split
  · rename_i h; exact .inr ⟨by omega, rfl⟩
  · exact .inl rfl
set_option maxRecDepth 100000 in
set_option maxHeartbeats 2000000 in
theorem fresh_any (h : CAt w K c) (hs : Sz c.m) (v : V) : Calls Tryz.prog 112 #[.pointer (some ⟨K.cp, 0, none⟩), v.val] w fun e w' => BoolB w (fresh c.m c.white v) e w' := by
  have hb := below_alloc w (.cells #[.int .i64 v.t, .int .i64 v.n] 34)
  have HB := Lib.hid hb
  have HL := Lib.hid (leads_any (h.below hb) hs v)
  have HH := Lib.hid h
  have HS := Lib.hid hs
  clear hb h hs
  unfold V.val at *
  go_enter Tryz.func112, Tryz.ntmps112
  go_wp2_with fail
  refine HL.out.mono ?_
  rintro e w1 ⟨rfl, hb1⟩
  have HB1 := Lib.hid (HB.out.trans (hb1.mono (by simp)))
  clear hb1
  have H1 := HH.out.below HB1.out
  have c0 := H1.cells.1
  have c3 := H1.cells.2.2.2.1
  have HK := Lib.hid (fun n => colour_any (w := w1.drewN n) (H1.mem.below (below_drewN (Below.refl _ _) n)) HS.out.n v.n)
  clear H1
  rcases leads_cases c.m v with h0 | ⟨h0, h1⟩
  · have HR := Lib.hid (show fresh c.m c.white v = false by unfold fresh; rw [decide_eq_false (by omega)])
    rw [h0]
    clear h0
    go_wp2_with fail
    go_quiet (fail)
    go_wp2_with fail
    go_ret
    exact ⟨by rw [HR.out]; rfl, HB1.out.trans (below_drewN (Below.refl _ _) _)⟩
  · have HL0 := Lib.hid h0
    have d0 : decide (0 < v.n) = true := decide_eq_true (by omega)
    rw [h1]
    by_cases hc : c.m.col v.n = c.white
    · have HR := Lib.hid (show fresh c.m c.white v = true from decide_eq_true ⟨h0, hc⟩)
      have e5 : (c.m.col v.n == c.white) = true := by simp [hc]
      clear hc h0 h1
      go_wp2_with fail
      go_quiet ((go_at_call 65; exact Calls.quiet_of_same (HK.out _)))
      go_wp2_with fail
      go_ret
      exact ⟨by rw [HR.out]; rfl, HB1.out.trans (below_drewN (Below.refl _ _) _)⟩
    · have HR := Lib.hid (show fresh c.m c.white v = false from decide_eq_false (fun h => hc h.2))
      have e5 : (c.m.col v.n == c.white) = false := by simp [hc]
      clear hc h0 h1
      go_wp2_with fail
      go_quiet ((go_at_call 65; exact Calls.quiet_of_same (HK.out _)))
      go_wp2_with fail
      go_ret
      exact ⟨by rw [HR.out]; rfl, HB1.out.trans (below_drewN (Below.refl _ _) _)⟩
end Go.Proofs.YtminbemdcanakaaGreat
/- A value is marked. -/
namespace Go.Proofs.YtminbemdcanakaaGreat
open Go.RowKit Go.Shelf
set_option linter.unusedVariables false
set_option linter.unusedSimpArgs false
attribute [local go_sem] Oper.semAt_some meth_order meth_thing meth_kind meth_cells meth_colour meth_age meth_setColour meth_setAge meth_setFin meth_clear meth_drop meth_roots

variable {w : World} {K : CL} {c : Cs}
/-- A queue is appended to: what the store finds, what it leaves. -/
theorem CAt.appended {w2 : World} {K2 : CL} {c2 : Cs} (H : CAt w2 K2 c2) (i j : Nat) (hi : i < 4) (hj : j = 4 + i) {ob : Obj} {w3 : World} {v : Value} {l : List Int} (hq : QAt w3 v l) (hg : (w2.alloc ob).grownBy w3 (K2.q i).ownBlock) (hb : v.ownBlock = (K2.q i).ownBlock ∨ v.ownBlock = some (w2.heap.size + 1)) :
    (∃ u, w3.cell? ⟨K2.cp, j, none⟩ = some u) ∧ w3.frozen? ⟨K2.cp, j, none⟩ = false ∧ CTo (fun j => j = i) w2 K2 (w3.setCell ⟨K2.cp, j, none⟩ v) (c2.setQ i l) := by
  subst hj
  have hk : Keep (fun k => (K2.q i).ownBlock = some k) w2 w3 := ((Keep.refl _ w2).alloc ob).grown hg (fun k e _ => e)
  have hb3 : Box w3 K2.cp (boxC K2 c2) 126 := H.box.of_block (hk.block _ H.box.lt fun e => H.cp_ne hi e rfl)
  refine ⟨?_, hb3.free _, H.turnQ i hi hq hk fun k hk2 => ?_⟩
  · rw [hb3.cell]
    exact ⟨_, List.getElem?_eq_getElem (by show 4 + i < 9; omega)⟩
  · rcases hb with e | e
    · exact .inl (e ▸ hk2)
    · rw [e] at hk2
      cases hk2
      exact .inr (by omega)
def MarkP (w : World) (K : CL) (c : Cs) (v : V) (e : Ending) (w' : World) : Prop := e = .returned (.bool (fresh c.m c.white v)) ∧ CTo marksQ w K w' (mark c v)
theorem grey_dm (c : Cs) : c.grey.length ≤ dm c := by unfold dm; omega
theorem again_dm (c : Cs) : c.again.length ≤ dm c := by unfold dm; omega
set_option maxRecDepth 100000 in
set_option maxHeartbeats 2000000 in
theorem mark_any (h : CAt w K c) (hB : Bd c) (v : V) : Calls Tryz.prog 114 #[.pointer (some ⟨K.cp, 0, none⟩), v.val] w fun e w' => MarkP w K c v e w' := by
  have hb := below_alloc w (.cells #[.int .i64 v.t, .int .i64 v.n] 34)
  have HF := Lib.hid (fresh_any (h.below hb) hB.sz v)
  have HX := Lib.hid (Box.new w [.int .i64 v.t, .int .i64 v.n] 34)
  have HB := Lib.hid hb
  have HH := Lib.hid h
  have HBD := Lib.hid hB
  clear hb h hB
  unfold V.val at *
  go_enter Tryz.func114, Tryz.ntmps114
  go_wp2_with fail
  refine HF.out.mono ?_
  rintro e w1 ⟨rfl, hb1⟩
  have HX1 := Lib.hid (HX.out.below hb1 (by simp))
  have HB1 := Lib.hid (HB.out.trans (hb1.mono (by simp)))
  clear hb1
  have H1 := HH.out.below HB1.out
  have c0 := H1.cells.1
  have x0 := HX1.out.cell 0
  have x1 := HX1.out.cell 1
  simp only [List.getElem?_cons_zero, List.getElem?_cons_succ] at x0 x1
  cases hf : fresh c.m c.white v with
  | false =>
    have HR := Lib.hid (show MarkP w K c v (.returned (.bool false)) w1 from ⟨by rw [hf], by unfold mark; rw [hf]; exact CTo.below HH.out HB1.out⟩)
    clear H1 hf
    go_wp2_with fail
    go_ret
    exact HR.out
  | true =>
    have HFR := Lib.hid hf
    have HM3 := Lib.hid (setColour_any H1.mem HBD.out.sz.n v.n 3)
    have HM2 := Lib.hid (setColour_any H1.mem HBD.out.sz.n v.n 2)
    have HH1 := Lib.hid H1
    clear hf H1
    by_cases h4 : v.t = 4
    · have e4 : (v.t == 4) = true := by simp [h4]
      have HE := Lib.hid (show mark c v = c.withM (c.m.setCol v.n 3) by unfold mark; rw [HFR.out, if_pos rfl, if_pos h4])
      clear h4
      go_wp2_with fail
      refine HM3.out.mono ?_
      rintro e w2 ⟨rfl, hm, hk⟩
      have HR := Lib.hid (show MarkP w K c v (.returned (.bool true)) w2 from ⟨by rw [HFR.out], by rw [HE.out]; exact CTo.ahead HB1.out HH.out (HH1.out.turnK hm hk)⟩)
      clear hm hk
      go_wp2_with fail
      go_ret
      exact HR.out
    · have e4 : (v.t == 4) = false := by simp [h4]
      have HE := Lib.hid (show mark c v = (c.withM (c.m.setCol v.n 2)).setQ 0 (c.grey ++ [v.n]) by unfold mark; rw [HFR.out, if_pos rfl, if_neg h4]; rfl)
      clear h4
      go_wp2_with fail
      refine HM2.out.mono ?_
      rintro e w2 ⟨rfl, hm, hk⟩
      have hT : CTo marksQ w K w2 (c.withM (c.m.setCol v.n 2)) := CTo.ahead HB1.out HH.out (HH1.out.turnK hm hk)
      obtain ⟨K2, G2⟩ := hT
      have d4 := G2.at_.cells.2.2.2.2.1
      have d0 := G2.at_.cells.1
      have f4 := G2.at_.box.free 4
      rw [G2.cp] at d4 d0 f4
      rw [G2.p] at d0
      have hq := G2.at_.q 0 (by omega)
      obtain ⟨qa, qc, hqv⟩ := hq.slice
      rw [hqv] at d4
      have HQV := Lib.hid hqv
      have HG2 := Lib.hid G2
      have HQ := Lib.hid hq
      clear hm hk hqv G2 hq
      go_wp2_with (at_builtin; refine wpList_append_q rfl _ _ rfl (K2.q 0) c.grey (by rw [HQV.out]; rfl) (HQ.out.below (below_alloc _ _)) _ [v.n] rfl (rd_one _ _) (by have := grey_dm c; have := HBD.out.dm; simp; omega) ?_)
      intro v3 w3 hq3 hg3 hb3
      obtain ⟨⟨u3, hu3⟩, f3, hT3⟩ := HG2.out.at_.appended 0 4 (by omega) rfl hq3 hg3 hb3
      rw [HG2.out.cp] at hu3 f3 hT3
      obtain ⟨a3, cc3, rfl⟩ := hq3.slice
      rw [show (c.grey ++ [v.n]).length = c.grey.length + 1 by simp] at hT3
      have HR := Lib.hid (show MarkP w K c v (.returned (.bool true)) (w3.setCell ⟨K.cp, 4, none⟩ (.slice a3 (c.grey.length + 1) cc3)) from ⟨by rw [HFR.out], by rw [HE.out]; exact HG2.out.to hT3⟩)
      clear hq3 hg3 hb3 hT3
      go_wp2_with fail
      go_ret
      exact HR.out
end Go.Proofs.YtminbemdcanakaaGreat
/- An object is gone through. -/
namespace Go.Proofs.YtminbemdcanakaaGreat
open Go.RowKit Go.Shelf
set_option linter.unusedVariables false
set_option linter.unusedSimpArgs false
attribute [local go_sem] Oper.semAt_some meth_order meth_thing meth_kind meth_cells meth_colour meth_age meth_setColour meth_setAge meth_setFin meth_clear meth_drop meth_roots

variable {w : World} {K : CL} {c : Cs}
set_option maxHeartbeats 1000000 in
theorem weak_any (o : Ob) (sv : Value) : Calls Tryz.prog 157 #[thingV o sv] w fun e w' => BoolB w (weakB o) e w' := by
  have HB := Lib.hid (below_alloc w (.cells #[.int .i64 o.kind, .int .i64 o.weak, .int .i64 o.array, sv, .int .i64 o.fin] 36))
  unfold thingV
  by_cases h1 : o.kind = 5
  · have e1 : (o.kind == 5) = true := by simp [h1]
    by_cases h2 : o.weak = 0
    · have e2 : (o.weak != 0) = false := by simp [h2]
      have HR := Lib.hid (show weakB o = false from decide_eq_false (fun h => h.2 h2))
      clear h1 h2
      go_enter Tryz.func157, Tryz.ntmps157
      go_wp2_with fail
      go_ret
      exact ⟨by rw [HR.out]; rfl, HB.out⟩
    · have e2 : (o.weak != 0) = true := by simp [h2]
      have HR := Lib.hid (show weakB o = true from decide_eq_true ⟨h1, h2⟩)
      clear h1 h2
      go_enter Tryz.func157, Tryz.ntmps157
      go_wp2_with fail
      go_ret
      exact ⟨by rw [HR.out]; rfl, HB.out⟩
  · have e1 : (o.kind == 5) = false := by simp [h1]
    have HR := Lib.hid (show weakB o = false from decide_eq_false (fun h => h1 h.1))
    clear h1
    go_enter Tryz.func157, Tryz.ntmps157
    go_wp2_with fail
    go_ret
    exact ⟨by rw [HR.out]; rfl, HB.out⟩
def UnitTo (s : Nat → Prop) (w : World) (K : CL) (c' : Cs) (e : Ending) (w' : World) : Prop := e = .returned (.tuple #[]) ∧ CTo s w K w' c'
theorem marks_goes : ∀ i, marksQ i → goesQ i := fun i h => by show i < 2; have h' : i = 0 := h; omega
/-- A row that was made behind the collector. -/
theorem CTo.fresh {s : Nat → Prop} {w' : World} {c' : Cs} (hc : CAt w K c) (h : CTo s w K w' c') {base : Nat} {e : TypeId} {size n : Nat} {v : Value} {xs : List Value} (hr : w.ownsRow base e size v n xs) (hb : ∀ k, v.ownBlock = some k → ¬ K.own k) : w'.ownsRow base e size v n xs :=
  ownsRow_of_block hr fun k hk => h.keep.block k (hr.lt k hk).2 (hb k hk)
theorem get_small {m : Mm} (hs : Sz m) (hd : Int) : (m.get hd).slots.length ≤ 100000 ∧ 0 ≤ (m.get hd).array ∧ (m.get hd).array ≤ 100000 := by
  cases ha : m.at hd with
  | none => rw [get_of_none ha]; decide
  | some o => rw [get_of_at ha]; exact hs.s o (at_mem ha)
theorem at_small {m : Mm} (hs : Sz m) {hd : Int} : ∀ o, m.at hd = some o → o.slots.length ≤ 100000 := fun o ha => (hs.s o (at_mem ha)).1
set_option maxRecDepth 100000 in
set_option maxHeartbeats 4000000 in
theorem through_any (h : CAt w K c) (hB : Bd c) (hd : Int) : Calls Tryz.prog 124 #[.pointer (some ⟨K.cp, 0, none⟩), .int .i64 hd] w fun e w' => UnitTo goesQ w K (through c hd) e w' := by
  have HT := Lib.hid (thing_any h.mem hB.sz.n hd (at_small hB.sz))
  have c0 := h.cells.1
  have HH := Lib.hid h
  have HBD := Lib.hid hB
  have hn := (get_small hB.sz hd).1
  clear h hB
  go_enter Tryz.func124, Tryz.ntmps124
  go_wp2_with fail
  refine HT.out.mono ?_
  rintro e w1 ⟨sv, rfl, hv, hb1⟩
  unfold thingV
  obtain ⟨o, ho⟩ : ∃ o, o = c.m.get hd := ⟨_, rfl⟩
  rw [← ho] at hv hn ⊢
  obtain ⟨sa, sc, rfl⟩ := row_slice hv
  have HO := Lib.hid ho
  have hb2 : Below w.heap.size w (w1.alloc (.cells #[.int .i64 o.kind, .int .i64 o.weak, .int .i64 o.array, .slice sa o.slots.length sc, .int .i64 o.fin] 36)) := hb1.alloc hb1.size _
  have hx2 := Box.new w1 [.int .i64 o.kind, .int .i64 o.weak, .int .i64 o.array, .slice sa o.slots.length sc, .int .i64 o.fin] 36
  have hv2 := hv.alloc (.cells #[.int .i64 o.kind, .int .i64 o.weak, .int .i64 o.array, .slice sa o.slots.length sc, .int .i64 o.fin] 36)
  have HW1 := Lib.hid hb1.size
  have HB2 := Lib.hid hb2
  have HX2 := Lib.hid hx2
  have HV2 := Lib.hid hv2
  have HH2 := Lib.hid (HH.out.below hb2)
  clear ho hb1 hv hb2 hx2 hv2
  by_cases h0 : o.kind = 0
  · have e0 : (o.kind == 0) = true := by simp [h0]
    have HR := Lib.hid (show UnitTo goesQ w K (through c hd) (.returned (.tuple #[])) (w1.alloc (.cells #[.int .i64 o.kind, .int .i64 o.weak, .int .i64 o.array, .slice sa o.slots.length sc, .int .i64 o.fin] 36)) from
      ⟨rfl, by unfold through; rw [← HO.out, if_pos h0]; exact CTo.below HH.out HB2.out⟩)
    clear h0
    go_wp2_with fail
    first | go_end0 | refine bodyPost_ret (results_none rfl _ _ _) rfl ?_
    exact HR.out
  · have e0 : (o.kind == 0) = false := by simp [h0]
    have HK0 := Lib.hid h0
    have HWK := Lib.hid (weak_any (w := w1.alloc (.cells #[.int .i64 o.kind, .int .i64 o.weak, .int .i64 o.array, .slice sa o.slots.length sc, .int .i64 o.fin] 36)) o (.slice sa o.slots.length sc))
    clear h0
    unfold thingV at HWK
    go_wp2_with fail
    refine HWK.out.mono ?_
    rintro e w3 ⟨rfl, hb3⟩
    have HB3 := Lib.hid (HB2.out.trans (hb3.mono HB2.out.size))
    have hv3 := ownsRow_of_block HV2.out (fun k hk => hb3.block k (HV2.out.lt k hk).2)
    have hx3 := HX2.out.below hb3 HX2.out.lt
    have H3 := HH2.out.below hb3
    have HH3 := Lib.hid H3
    have HV3 := Lib.hid hv3
    have HX3 := Lib.hid hx3
    have hxn : ¬ K.own w1.heap.size := fun ho => by have h1 := HH.out.own_lt ho; have h2 := HB2.out.size; simp at h2; have := HW1.out; omega
    have HXN := Lib.hid hxn
    have hnew : ∀ k, (Value.slice sa o.slots.length sc).ownBlock = some k → ¬ K.own k := fun k hk ho => by
      have := (hv3.lt k hk).1
      have := HH.out.own_lt ho
      omega
    have HNEW := Lib.hid hnew
    have c3 := H3.cells.1
    have x3 := hx3.cell 3
    simp only [List.getElem?_cons_zero, List.getElem?_cons_succ] at x3
    clear hb3 hv3 hx3 H3 c0 hnew hxn
    cases hw : weakB o with
    | true =>
      have HE := Lib.hid (show through c hd = (markFirst c o.slots).setQ 1 ((markFirst c o.slots).again ++ [hd]) by unfold through; rw [← HO.out, if_neg HK0.out, hw, if_pos rfl]; rfl)
      clear hw
      by_cases hN : o.slots = []
      · have e2 : decide (0 < (o.slots.length : Int)) = false := by rw [hN]; rfl
        have e2' : decide (0 < o.slots.length) = false := by rw [hN]; rfl
        have d5 := HH3.out.cells.2.2.2.2.2.1
        have f5 := HH3.out.box.free 5
        have hq := HH3.out.q 1 (by omega)
        obtain ⟨qa, qc, hqv⟩ := hq.slice
        rw [hqv] at d5
        have HQV := Lib.hid hqv
        have HQ := Lib.hid hq
        have HE2 := Lib.hid (show through c hd = c.setQ 1 (c.again ++ [hd]) by rw [HE.out, hN]; rfl)
        clear hqv hq hN
        go_wp2_with (at_builtin; refine wpList_append_q rfl _ _ rfl (K.q 1) c.again (by rw [HQV.out]; rfl) (HQ.out.below (below_alloc _ _)) _ [hd] rfl (rd_one _ _) (by have := again_dm c; have := HBD.out.dm; simp; omega) ?_)
        intro v4 w4 hq4 hg4 hb4
        obtain ⟨⟨u4, hu4⟩, f4, hT4⟩ := HH3.out.appended 1 5 (by omega) rfl hq4 hg4 hb4
        obtain ⟨a4, cc4, rfl⟩ := hq4.slice
        rw [show (c.again ++ [hd]).length = c.again.length + 1 by simp] at hT4
        have HR := Lib.hid (show UnitTo goesQ w K (through c hd) (.returned (.tuple #[])) (w4.setCell ⟨K.cp, 5, none⟩ (.slice a4 (c.again.length + 1) cc4)) from ⟨rfl, by rw [HE2.out]; exact CTo.ahead HB3.out HH.out (hT4.mono fun i hi => by show i < 2; omega)⟩)
        clear hq4 hg4 hb4 hT4
        go_wp2_with fail
        first | go_end0 | refine bodyPost_ret (results_none rfl _ _ _) rfl ?_
        exact HR.out
      · obtain ⟨s0, hs0⟩ : ∃ s0, o.slots[0]? = some s0 := ⟨o.slots[0]'(List.length_pos_iff.2 hN), List.getElem?_eq_getElem _⟩
        have hpos : 0 < o.slots.length := List.length_pos_iff.2 hN
        have e2 : decide (0 < (o.slots.length : Int)) = true := decide_eq_true (by omega)
        have e2' : decide (0 < o.slots.length) = true := decide_eq_true hpos
        obtain ⟨q, qcap, hsv, hcell⟩ := row_at HV3.out hpos
        simp only [Value.slice.injEq] at hsv
        obtain ⟨rfl, -, rfl⟩ := hsv
        obtain ⟨g0, g1⟩ := flatV_at _ _ _ hs0
        have y0 := hcell _ _ g0
        have y1 := hcell _ _ g1
        simp only [Nat.zero_mul, Nat.zero_add] at y0 y1
        have HF := Lib.hid (show markFirst c o.slots = mark c s0 by
          cases hl : o.slots with
          | nil => exact absurd hl hN
          | cons x l => rw [hl] at hs0; simp at hs0; subst hs0; rfl)
        have HM := Lib.hid (mark_any HH3.out HBD.out s0)
        have HMB := Lib.hid (HBD.out.mk' (k := 0) (mark_mk HBD.out.w01 s0))
        unfold V.val at HM
        clear hN hs0 hcell g0 g1
        go_wp2_with fail
        refine HM.out.mono ?_
        rintro e w4 ⟨rfl, hT⟩
        obtain ⟨K4, G4⟩ := hT.mono marks_goes
        have d5 := G4.at_.cells.2.2.2.2.2.1
        have f5 := G4.at_.box.free 5
        rw [G4.cp] at d5 f5
        have hq := G4.at_.q 1 (by omega)
        obtain ⟨qa, qc, hqv⟩ := hq.slice
        rw [hqv] at d5
        have HQV := Lib.hid hqv
        have HQ := Lib.hid hq
        have HG4 := Lib.hid G4
        have HE2 := Lib.hid (show through c hd = (mark c s0).setQ 1 ((mark c s0).again ++ [hd]) by rw [HE.out, HF.out])
        clear hqv hq hT G4
        go_wp2_with (at_builtin; refine wpList_append_q rfl _ _ rfl (K4.q 1) (mark c s0).again (by rw [HQV.out]; rfl) (HQ.out.below (below_alloc _ _)) _ [hd] rfl (rd_one _ _) (by have := again_dm (mark c s0); have := HMB.out.dm; simp; omega) ?_)
        intro v5 w5 hq5 hg5 hb5
        obtain ⟨⟨u5, hu5⟩, f6, hT5⟩ := HG4.out.at_.appended 1 5 (by omega) rfl hq5 hg5 hb5
        rw [HG4.out.cp] at hu5 f6 hT5
        obtain ⟨a5, cc5, rfl⟩ := hq5.slice
        rw [show ((mark c s0).again ++ [hd]).length = (mark c s0).again.length + 1 by simp] at hT5
        have HR := Lib.hid (show UnitTo goesQ w K (through c hd) (.returned (.tuple #[])) (w5.setCell ⟨K.cp, 5, none⟩ (.slice a5 ((mark c s0).again.length + 1) cc5)) from ⟨rfl, by rw [HE2.out]; exact CTo.ahead HB3.out HH.out (HG4.out.to (hT5.mono fun i hi => by show i < 2; omega))⟩)
        clear hq5 hg5 hb5 hT5
        go_wp2_with fail
        first | go_end0 | refine bodyPost_ret (results_none rfl _ _ _) rfl ?_
        exact HR.out
    | false =>
      obtain ⟨cc, hcc⟩ : ∃ cc, cc = c.withM (c.m.setCol hd 3) := ⟨_, rfl⟩
      have HE := Lib.hid (show through c hd = o.slots.foldl mark cc by unfold through; rw [← HO.out, if_neg HK0.out, hw, if_neg (by decide), hcc])
      have HCM := Lib.hid (show Mk 0 c cc by rw [hcc]; exact Mk.setCol3 c hd HBD.out.w01)
      have HSC := Lib.hid (setColour_any HH3.out.mem HBD.out.sz.n hd 3)
      have HCC := Lib.hid hcc
      clear hw hcc
      go_wp2_with fail
      refine HSC.out.mono ?_
      rintro e w4 ⟨rfl, hm, hk⟩
      have hT : CTo goesQ w3 K w4 cc := by rw [HCC.out]; exact HH3.out.turnK hm hk
      have x4 := (hT.box HX3.out HXN.out).cell 3
      simp only [List.getElem?_cons_zero, List.getElem?_cons_succ] at x4
      obtain ⟨K4, G4⟩ := hT
      have HG4 := Lib.hid G4
      clear hm hk G4 x3
      go_wp2_with fail
      go_loopw [49] (fun t49 wr => ∃ (i : Nat) (Ki : CL), i ≤ o.slots.length ∧ t49 = .int .i64 i ∧ CGo goesQ w3 K wr Ki ((o.slots.take i).foldl mark cc)) (fun t49 _ => o.slots.length - (intOf t49).toNat)
      case atStart => exact ⟨0, K4, Nat.zero_le _, by go_num, HG4.out⟩
      case round =>
        obtain ⟨i, Ki, hi, rfl, G⟩ := hrel
        by_cases hlt : i < o.slots.length
        · obtain ⟨s0, hs0⟩ : ∃ s0, o.slots[i]? = some s0 := ⟨o.slots[i], List.getElem?_eq_getElem _⟩
          have hvr : wr.ownsRow w.heap.size 34 2 (.slice sa o.slots.length sc) o.slots.length (flatV o.slots) := ownsRow_of_block HV3.out fun k hk => G.keepAll.block k (HV3.out.lt k hk).2 (HNEW.out k hk)
          obtain ⟨q, qcap, hsv, hcell⟩ := row_at hvr (by omega)
          simp only [Value.slice.injEq] at hsv
          obtain ⟨rfl, -, rfl⟩ := hsv
          obtain ⟨g0, g1⟩ := flatV_at _ _ _ hs0
          have y0 := hcell _ _ g0
          have y1 := hcell _ _ g1
          have hmk := marks_mk mark (fun c v h => mark_mk h v) (o.slots.take i) cc (HCM.out.w01 HBD.out.w01)
          have hbd : Bd ((o.slots.take i).foldl mark cc) := HBD.out.mk' (k := 0) (HCM.out.trans0 hmk)
          have HM := Lib.hid (mark_any (G.at_.below (below_alloc wr (.cells #[.int .i64 s0.t, .int .i64 s0.n] 34))) hbd s0)
          rw [G.cp] at HM
          have hts : (o.slots.take (i + 1)).foldl mark cc = mark ((o.slots.take i).foldl mark cc) s0 := by
            rw [List.take_add_one, hs0, List.foldl_append]; rfl
          have HTS := Lib.hid hts
          have HG := Lib.hid G
          unfold V.val at HM
          clear hs0 hvr hcell g0 g1 hmk hbd hts G
          go_wp2_with fail
          refine HM.out.mono ?_
          rintro e w5 ⟨rfl, hT5⟩
          have hT6 := HG.out.to (CTo.ahead (below_alloc wr _) HG.out.at_ (hT5.mono marks_goes))
          obtain ⟨K6, G6⟩ := hT6
          have HG6 := Lib.hid G6
          clear hT5 G6
          go_wp2_with fail
          go_roundw
          case rel => exact ⟨i + 1, K6, by omega, by go_num, by rw [HTS.out]; exact HG6.out⟩
          case measure => simp [intOf]; omega
        · obtain rfl : i = o.slots.length := by omega
          have HR := Lib.hid (show UnitTo goesQ w K (through c hd) (.returned (.tuple #[])) wr from ⟨rfl, by
            rw [HE.out]
            rw [List.take_length] at G
            exact CTo.ahead HB3.out HH.out ⟨Ki, G⟩⟩)
          clear G
          go_wp2_with fail
          first | go_end0 | refine bodyPost_ret (results_none rfl _ _ _) rfl ?_
          exact HR.out
end Go.Proofs.YtminbemdcanakaaGreat
/- One goes on. -/
namespace Go.Proofs.YtminbemdcanakaaGreat
open Go.RowKit Go.Shelf
set_option linter.unusedVariables false
set_option linter.unusedSimpArgs false
attribute [local go_sem] Oper.semAt_some meth_order meth_thing meth_kind meth_cells meth_colour meth_age meth_setColour meth_setAge meth_setFin meth_clear meth_drop meth_roots

variable {w : World} {K : CL} {c : Cs}
def LastP (w : World) (K : CL) (c : Cs) (x : Int) (e : Ending) (w' : World) : Prop := e = .returned (.int .i64 x) ∧ CTo goesQ w K w' (c.withGrey c.grey.dropLast)
theorem getLast_at {l : List Int} {x : Int} (h : l.getLast? = some x) : 0 < l.length ∧ l[l.length - 1]? = some x := by
  have hne : l ≠ [] := by intro e; rw [e] at h; cases h
  rw [List.getLast?_eq_getElem?] at h
  exact ⟨List.length_pos_iff.2 hne, h⟩
theorem drew_below (w : World) : Below w.heap.size w w.drew := below_drewN (Below.refl _ _) 1
set_option maxRecDepth 100000 in
set_option maxHeartbeats 2000000 in
theorem last_any (h : CAt w K c) (hB : c.grey.length ≤ 10000000) {x : Int} (hx : c.grey.getLast? = some x) : Calls Tryz.prog 125 #[.pointer (some ⟨K.cp, 0, none⟩)] w fun e w' => LastP w K c x e w' := by
  obtain ⟨hpos, hget⟩ := getLast_at hx
  have c4 := h.cells.2.2.2.2.1
  have f4 := h.box.free 4
  have hq := h.q 0 (by omega)
  have hq' : QAt w (K.q 0) c.grey := hq
  obtain ⟨g, off, cap, hqv, hle, hmx, hcell⟩ := hq'.get (List.length_pos_iff.1 hpos)
  have d0 := hcell _ _ hget
  rw [hqv] at c4 hq'
  have hinit := hq'.init (List.length_pos_iff.1 hpos)
  obtain ⟨N, hN⟩ : ∃ N, N = c.grey.length := ⟨_, rfl⟩
  rw [← hN] at c4 d0 hpos hle hB
  rw [← hN] at hinit
  have q1 : IntKind.i64.wrap ((N : Int) - 1) = (N : Int) - 1 := IntWalk.i64_in _ (by omega)
  have q2 : (0 : Int) ≤ (N : Int) - 1 := by omega
  have q3 : ((N : Int) - 1).toNat = N - 1 := by omega
  have q4 : (N : Int) - 1 < N := by omega
  have q5 : (1 : Int) ≤ (N : Int) := by omega
  have q6 : (N : Int) - 1 ≤ cap := by omega
  have q7 : N - 1 ≤ cap := by omega
  have q8 : N - 1 < N := by omega
  have hfin : ∀ W, Below w.heap.size w W → LastP w K c x (.returned (.int .i64 x)) (W.setCell ⟨K.cp, 4, none⟩ (.slice (some ⟨g, off, none⟩) (N - 1) cap)) := by
    intro W hb
    refine ⟨rfl, ?_⟩
    have := h.turnQ (w' := W) 0 (by omega) (v := .slice (some ⟨g, off, none⟩) (N - 1) cap) (l := c.grey.dropLast) (hinit.below hb) (Keep.of_below hb) (fun k hk => .inl (by rw [hqv]; exact hk))
    exact this.mono fun i hi => by show i < 2; omega
  have HFIN := Lib.hid hfin
  have HQV := Lib.hid hqv
  have HNN := Lib.hid hN
  clear h hq hq' hqv hcell hinit hget hx hN hfin
  go_enter Tryz.func125, Tryz.ntmps125
  go_wp2_with fail
  go_quiet (fail)
  go_wp2_with fail
  refine wp_region_still_tail 14 (by kernel_rfl) (by kernel_rfl) ?_
  simp only [List.take_succ_cons, List.take_zero, List.drop_succ_cons, List.drop_zero]
  change wpStill _ _ (World.drew (w.drewN nq)) _ _ _
  repeat still_step
  refine wpStill_nil ?_
  change wpList _ _ _ _ _ (World.drew (w.drewN nq))
  go_wp2_with fail
  go_ret
  exact HFIN.out _ (below_drewN (below_drewN (Below.refl _ _) nq) 1)
theorem Bd.len {c : Cs} (h : Bd c) : c.grey.length ≤ 10000000 ∧ c.again.length ≤ 10000000 := ⟨Nat.le_trans (grey_dm c) h.dm, Nat.le_trans (again_dm c) h.dm⟩
set_option maxRecDepth 100000 in
set_option maxHeartbeats 2000000 in
theorem goOn_any (h : CAt w K c) (hB : Bd c) : Calls Tryz.prog 93 #[.pointer (some ⟨K.cp, 0, none⟩)] w fun e w' => UnitTo goesQ w K (goOn c) e w' := by
  have HH := Lib.hid h
  have HBD := Lib.hid hB
  clear h hB
  go_enter Tryz.func93, Tryz.ntmps93
  go_wp2_with fail
  go_loopg [] (gm c) (fun k wr => ∃ (Ki : CL) (ci : Cs), gm ci = k ∧ goOn ci = goOn c ∧ Bd ci ∧ CGo goesQ w K wr Ki ci)
  case atStart => exact ⟨K, c, rfl, rfl, HBD.out, ⟨rfl, rfl, HH.out, fun _ _ _ => rfl, Keep.refl _ _, fun _ hk => .inl hk⟩⟩
  case round =>
    obtain ⟨Ki, ci, hk, he, hb, G⟩ := hrel
    have c4 := G.at_.cells.2.2.2.2.1
    have hq := G.at_.q 0 (by omega)
    obtain ⟨qa, qc, hqv⟩ := hq.slice
    rw [hqv, G.cp] at c4
    have HQV := Lib.hid hqv
    have HQ := Lib.hid hq
    have HG := Lib.hid G
    have HE := Lib.hid he
    have HKK := Lib.hid hk
    have HBI := Lib.hid hb
    obtain ⟨N, hN⟩ : ∃ N, N = (ci.q 0).length := ⟨_, rfl⟩
    rw [← hN] at c4
    have HNN := Lib.hid hN
    clear hqv hq G he hk hb
    by_cases h0 : N = 0
    · have e0 : decide (0 < (N : Int)) = false := by rw [h0]; rfl
      have e0' : decide (0 < N) = false := by rw [h0]; rfl
      have hgr : ci.grey = [] := List.eq_nil_of_length_eq_zero (by have : ci.grey.length = N := hN.symm; omega)
      have HR := Lib.hid (show UnitTo goesQ w K (goOn c) (.returned (.tuple #[])) wr from ⟨rfl, by rw [← HE.out, goOn_done hgr]; exact ⟨Ki, HG.out⟩⟩)
      clear h0 hgr hN
      go_wp2_with fail
      first | go_end0 | refine bodyPost_ret (results_none rfl _ _ _) rfl ?_
      exact HR.out
    · have e0 : decide (0 < (N : Int)) = true := decide_eq_true (by omega)
      have e0' : decide (0 < N) = true := decide_eq_true (by omega)
      have hne : ci.grey ≠ [] := fun e => h0 (by rw [hN]; show ci.grey.length = 0; rw [e]; rfl)
      obtain ⟨x, hx⟩ : ∃ x, ci.grey.getLast? = some x := ⟨_, List.getLast?_eq_some_getLast hne⟩
      have HL := Lib.hid (last_any HG.out.at_ HBI.out.len.1 hx)
      rw [HG.out.cp] at HL
      have HX := Lib.hid hx
      have HNE := Lib.hid hne
      clear h0 hne hx hN
      go_wp2_with fail
      refine HL.out.mono ?_
      rintro e w2 ⟨rfl, hT⟩
      obtain ⟨K2, G2⟩ := HG.out.to hT
      have hbd2 : Bd (ci.withGrey ci.grey.dropLast) := by
        refine ⟨HBI.out.sz, HBI.out.w01, ?_, HBI.out.pend⟩
        refine Nat.le_trans ?_ HBI.out.dm
        show 2 * whites ci + ci.grey.dropLast.length + ci.again.length ≤ 2 * whites ci + ci.grey.length + ci.again.length
        rw [List.length_dropLast]; omega
      have HTH := Lib.hid (through_any G2.at_ hbd2 x)
      rw [G2.cp] at HTH
      have HG2 := Lib.hid G2
      have HN2 := Lib.hid (show through (ci.withGrey ci.grey.dropLast) x = next ci by unfold next; rw [HX.out])
      clear hT G2 hbd2
      go_wp2_with fail
      refine HTH.out.mono ?_
      rintro e w3 ⟨rfl, hT3⟩
      rw [HN2.out] at hT3
      obtain ⟨K3, G3⟩ := HG2.out.to hT3
      have HG3 := Lib.hid G3
      clear hT3 G3
      go_wp2_with fail
      go_roundg (gm (next ci))
      case measure => rw [← HKK.out]; exact (next_mk HBI.out.w01).2 HNE.out
      case rel => exact ⟨K3, next ci, rfl, (goOn_step HBI.out.w01 HNE.out).symm.trans HE.out, HBI.out.mk' (k := 0) (next_mk HBI.out.w01).1, HG3.out⟩
end Go.Proofs.YtminbemdcanakaaGreat
/- The roots and what is pending are marked. -/
namespace Go.Proofs.YtminbemdcanakaaGreat
open Go.RowKit Go.Shelf
set_option linter.unusedVariables false
set_option linter.unusedSimpArgs false
attribute [local go_sem] Oper.semAt_some meth_order meth_thing meth_kind meth_cells meth_colour meth_age meth_setColour meth_setAge meth_setFin meth_clear meth_drop meth_roots

variable {w : World} {K : CL} {c : Cs}
theorem infV : (Tryz.prog.info? 34).map (·.size) = some 2 := by kernel_rfl
theorem res_val {fn : Func} {p : Tmp} (h : fn.results = #[.cell p 34]) (tmps : Array Value) (W : World) (q : Nat) (hp : tmps.getD p undef = .pointer (some ⟨q, 0, none⟩)) {a b : Value} (hb : Box W q [a, b] 34) : (results fn tmps).run Tryz.prog W = .ok (.agg #[a, b]) W := by
  refine results_cell_row h tmps W q 34 #[a, b] (0, 0) _ hp hb Tryz.underlying34 ?_ ?_
  · rfl
  · exact infV
def ValB (w : World) (v : V) (e : Ending) (w' : World) : Prop := e = .returned v.val ∧ Below w.heap.size w w'
set_option maxRecDepth 100000 in
set_option maxHeartbeats 2000000 in
theorem value_any (h : CAt w K c) (hs : Sz c.m) (hd : Int) : Calls Tryz.prog 123 #[.pointer (some ⟨K.cp, 0, none⟩), .int .i64 hd] w fun e w' => ValB w (valueOf c.m hd) e w' := by
  have hb := below_alloc w (.cells #[.int .i64 0, .int .i64 0] 34)
  have hx := Box.new w [.int .i64 0, .int .i64 0] 34
  have H1 := h.below hb
  have c0 := H1.cells.1
  have HKN := Lib.hid (kind_any H1.mem hs.n hd)
  have y0 := hx.cell 0
  have y1 := hx.cell 1
  simp only [List.getElem?_cons_zero, List.getElem?_cons_succ] at y0 y1
  have f0 := hx.free 0
  have f1 := hx.free 1
  have HX := Lib.hid (Box.new w [.int .i64 (c.m.kind hd), .int .i64 hd] 34)
  have HB := Lib.hid (below_alloc w (.cells #[.int .i64 (c.m.kind hd), .int .i64 hd] 34))
  clear h H1 hb hx
  go_enter Tryz.func123, Tryz.ntmps123
  go_wp2_with fail
  refine HKN.out.mono ?_
  rintro e w1 ⟨rfl, rfl⟩
  go_wp2_with fail
  refine bodyPost_ret (res_val rfl _ _ w.heap.size rfl HX.out) rfl ?_
  exact ⟨rfl, HB.out⟩
set_option maxRecDepth 100000 in
set_option maxHeartbeats 4000000 in
theorem begin_any (h : CAt w K c) (hB : Bd c) : Calls Tryz.prog 92 #[.pointer (some ⟨K.cp, 0, none⟩)] w fun e w' => UnitTo marksQ w K (begin_ c) e w' := by
  have HR := Lib.hid (roots_any h.mem hB.sz.r)
  have c0 := h.cells.1
  have HH := Lib.hid h
  have HBD := Lib.hid hB
  have hrn := hB.sz.r
  obtain ⟨R, hR⟩ : ∃ R, R = c.m.roots := ⟨_, rfl⟩
  rw [← hR] at HR hrn
  have HRR := Lib.hid hR
  clear h hB hR
  go_enter Tryz.func92, Tryz.ntmps92
  go_wp2_with fail
  refine HR.out.mono ?_
  rintro e w1 ⟨v, rfl, hv, hb1⟩
  obtain ⟨va, vc, rfl⟩ := row_slice hv
  have H1 := HH.out.below hb1
  have hnew : ∀ k, (Value.slice va R.length vc).ownBlock = some k → ¬ K.own k := fun k hk ho => by
    have := (hv.lt k hk).1
    have := HH.out.own_lt ho
    omega
  have HNEW := Lib.hid hnew
  have HV := Lib.hid hv
  have HB1 := Lib.hid hb1
  have HH1 := Lib.hid H1
  clear hv hb1 H1 hnew
  go_wp2_with fail
  go_loopw [12] (fun t12 wr => ∃ (i : Nat) (Ki : CL), i ≤ R.length ∧ t12 = .int .i64 i ∧ CGo marksQ w1 K wr Ki ((R.take i).foldl mark c)) (fun t12 _ => R.length - (intOf t12).toNat)
  case atStart => exact ⟨0, K, Nat.zero_le _, by go_num, ⟨rfl, rfl, HH1.out, fun _ _ _ => rfl, Keep.refl _ _, fun _ hk => .inl hk⟩⟩
  case round =>
    obtain ⟨i, Ki, hi, rfl, G⟩ := hrel
    have hmk := marks_mk mark (fun c v h => mark_mk h v) (R.take i) c HBD.out.w01
    have hbd : Bd ((R.take i).foldl mark c) := HBD.out.mk' (k := 0) hmk
    by_cases hlt : i < R.length
    · obtain ⟨s0, hs0⟩ : ∃ s0, R[i]? = some s0 := ⟨R[i], List.getElem?_eq_getElem _⟩
      have hvr : wr.ownsRow w.heap.size 34 2 (.slice va R.length vc) R.length (flatV R) := ownsRow_of_block HV.out fun k hk => G.keepAll.block k (HV.out.lt k hk).2 (HNEW.out k hk)
      obtain ⟨q, qcap, hsv, hcell⟩ := row_at hvr (by omega)
      simp only [Value.slice.injEq] at hsv
      obtain ⟨rfl, -, rfl⟩ := hsv
      obtain ⟨g0, g1⟩ := flatV_at _ _ _ hs0
      have y0 := hcell _ _ g0
      have y1 := hcell _ _ g1
      have HM := Lib.hid (mark_any (G.at_.below (below_alloc wr (.cells #[.int .i64 s0.t, .int .i64 s0.n] 34))) hbd s0)
      rw [G.cp] at HM
      have HTS := Lib.hid (show (R.take (i + 1)).foldl mark c = mark ((R.take i).foldl mark c) s0 by
        rw [List.take_add_one, hs0, List.foldl_append]; rfl)
      have HG := Lib.hid G
      unfold V.val at HM
      clear hs0 hvr hcell g0 g1 hmk hbd G
      go_wp2_with fail
      refine HM.out.mono ?_
      rintro e w5 ⟨rfl, hT5⟩
      obtain ⟨K6, G6⟩ := HG.out.to (CTo.ahead (below_alloc wr _) HG.out.at_ hT5)
      have HG6 := Lib.hid G6
      clear hT5 G6
      go_wp2_with fail
      go_roundw
      case rel => exact ⟨i + 1, K6, by omega, by go_num, by rw [HTS.out]; exact HG6.out⟩
      case measure => simp [intOf]; omega
    · obtain rfl : i = R.length := by omega
      rw [List.take_length] at G hmk hbd
      obtain ⟨c1, hc1⟩ : ∃ c1, c1 = R.foldl mark c := ⟨_, rfl⟩
      rw [← hc1] at G hmk hbd
      have HC1 := Lib.hid (show c1 = c.m.roots.foldl mark c by rw [hc1, HRR.out])
      have hpl := hbd.pend
      have hq := G.at_.q 2 (by omega)
      have hq' : QAt wr (Ki.q 2) c1.pending := hq
      obtain ⟨qa, qc, hqv⟩ := hq'.slice
      have c6 := G.at_.cells.2.2.2.2.2.2.1
      rw [hqv, G.cp] at c6
      have HQV := Lib.hid hqv
      have HQ := Lib.hid hq'
      have HG := Lib.hid G
      have HBD1 := Lib.hid hbd
      obtain ⟨P, hP⟩ : ∃ P, P = c1.pending := ⟨_, rfl⟩
      rw [← hP] at c6 HQ HQV hpl
      have HP := Lib.hid hP
      clear hqv hq hq' G hmk hbd hc1 hP
      go_wp2_with fail
      go_loopw [25] (fun t25 ws => ∃ (j : Nat) (Kj : CL), j ≤ P.length ∧ t25 = .int .i64 j ∧ CGo marksQ wr Ki ws Kj ((P.take j).foldl (fun c h => mark c (valueOf c.m h)) c1)) (fun t25 _ => P.length - (intOf t25).toNat)
      case atStart => exact ⟨0, Ki, Nat.zero_le _, by go_num, ⟨rfl, rfl, HG.out.at_, fun _ _ _ => rfl, Keep.refl _ _, fun _ hk => .inl hk⟩⟩
      case round =>
        obtain ⟨j, Kj, hj, rfl, G⟩ := hrel
        have hmk := marks_mk (fun c h => mark c (valueOf c.m h)) (fun c h hw => mark_mk hw _) (P.take j) c1 HBD1.out.w01
        have hbd := HBD1.out.mk' (k := 0) hmk
        by_cases hlt : j < P.length
        · obtain ⟨x, hx⟩ : ∃ x, P[j]? = some x := ⟨P[j], List.getElem?_eq_getElem _⟩
          have hqr := G.row HG.out.at_ (i := 2) (by omega) (by show ¬ (2 = 0); omega) HQ.out
          obtain ⟨g, off, cap, hqg, hle, hmx, hcell⟩ := hqr.get (by intro e; rw [e] at hlt; simp at hlt)
          rw [HQV.out] at hqg
          simp only [Value.slice.injEq] at hqg
          obtain ⟨rfl, -, rfl⟩ := hqg
          have y0 := hcell _ _ hx
          obtain ⟨cj, hcj⟩ : ∃ cj, cj = (P.take j).foldl (fun c h => mark c (valueOf c.m h)) c1 := ⟨_, rfl⟩
          rw [← hcj] at G hbd
          have HVA := Lib.hid (value_any G.at_ hbd.sz x)
          rw [G.cp, HG.out.cp] at HVA
          have HTS := Lib.hid (show (P.take (j + 1)).foldl (fun c h => mark c (valueOf c.m h)) c1 = mark cj (valueOf cj.m x) by
            rw [List.take_add_one, hx, List.foldl_append, ← hcj]; rfl)
          have HG2 := Lib.hid G
          have HBJ := Lib.hid hbd
          clear hx hqr hcell hcj G hbd hmk
          go_wp2_with fail
          refine HVA.out.mono ?_
          rintro e w5 ⟨rfl, hb5⟩
          have HM := Lib.hid (mark_any (HG2.out.at_.below hb5) HBJ.out (valueOf cj.m x))
          rw [HG2.out.cp, HG.out.cp] at HM
          have HB5 := Lib.hid hb5
          clear hb5
          unfold V.val at *
          go_wp2_with fail
          refine HM.out.mono ?_
          rintro e w6 ⟨rfl, hT6⟩
          obtain ⟨K7, G7⟩ := HG2.out.to (CTo.ahead HB5.out HG2.out.at_ hT6)
          have HG7 := Lib.hid G7
          clear hT6 G7
          go_wp2_with fail
          go_roundw
          case rel => exact ⟨j + 1, K7, by omega, by go_num, by rw [HTS.out]; exact HG7.out⟩
          case measure => simp [intOf]; omega
        · obtain rfl : j = P.length := by omega
          have HRES := Lib.hid (show UnitTo marksQ w K (begin_ c) (.returned (.tuple #[])) wr from ⟨rfl, by
            rw [List.take_length, HP.out] at G
            unfold begin_
            rw [← HC1.out]
            have hpe : c1.pending = c.pending := by rw [HC1.out]; exact (marks_mk mark (fun c v h => mark_mk h v) c.m.roots c HBD.out.w01).pending
            rw [← hpe]
            exact CTo.ahead HB1.out HH.out (HG.out.to ⟨Kj, G⟩)⟩)
          clear G hmk hbd
          go_wp2_with fail
          first | go_end0 | refine bodyPost_ret (results_none rfl _ _ _) rfl ?_
          exact HRES.out
end Go.Proofs.YtminbemdcanakaaGreat
