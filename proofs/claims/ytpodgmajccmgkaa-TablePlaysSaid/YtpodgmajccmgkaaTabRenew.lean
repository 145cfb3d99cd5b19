/- renew: a store gets the sizes that its keys, and one more, ask for. -/
import Derived.Test.YtpodgmajccmgkaaTabPairs
import Derived.Test.YtpodgmajccmgkaaTabSizes
import Derived.Test.YtpodgmajccmgkaaTabPut
namespace Go.Proofs.Ytpodgmajccmgkaa
open Go.RowKit Go.Shelf
set_option linter.unusedVariables false
set_option linter.unusedSimpArgs false
attribute [local go_sem] Oper.semAt_some nil_slot field_t meth_array meth_nodes meth_slot meth_setslot meth_resize meth_hash

variable {w w' : World} {p : Nat} {sv sv' : Value} {T T' : Tb}

theorem Try.infoB66 : (Try.prog.info? 66).map (fun i => (i.zero, i.size, i.bytes)) = some (some (.agg #[.int .i64 0, .int .i64 0, .int .i64 0, .int .i64 0]), 4, 32) := by kernel_rfl
theorem Try.infoB98 : (Try.prog.info? 98).map (fun i => (i.zero, i.size, i.bytes)) = some (some (.slice none 0 0), 1, 24) := by kernel_rfl

set_option maxHeartbeats 400000 in
theorem pairs_in (F : Fence) (n : Nat) (hF : ∀ f, F.fn f) (hro : F.round = none) (p : Nat) (w : World) :
    CallsIn F n Try.prog 31 #[.iface 23 (.pointer (some ⟨p, 0, none⟩))] w fun e w' => e = .returned (.func (.func 47) #[] #[.pointer (some ⟨w.heap.size, 0, none⟩)]) ∧
      w' = w.alloc (.cells #[.iface 23 (.pointer (some ⟨p, 0, none⟩))] 59) := by
  refine callsIn_of_wp Try.func31 rfl (hF _) ?_ hro
  simp only [Try.ntmps31, List.size_toArray, List.length_cons, List.length_nil, Nat.reduceAdd, Nat.reduceSub, Array.replicate_succ, Array.replicate_zero, List.push_toArray, List.append_toArray, List.nil_append, List.cons_append]
  gi_wp2
  go_ret
  exact ⟨rfl, rfl⟩

theorem pairs_stops (F : Fence) (n : Nat) (hF : ∀ f, F.fn f) (hal : F.alive = false) (hd : F.depth = none) (hro : F.round = none) (hn : 1 ≤ n) (C : Nat → Prop) (w : World) (H : MemAt w p sv T) (bs : Nat)
    (hbs : Box w bs [memV p] 59) (hC : ∀ k, OwnS p sv k → ¬ C k) (hCb : ¬ C bs) :
    SeqStopsK F n Try.prog 47 #[.pointer (some ⟨bs, 0, none⟩)] encP (KpC C) (fun ys => ys = pairsL T) (fun pre => pre <+: pairsL T) (T.sl.length + 1) w := by
  intro l J Jx W hW hJ _ hY h0
  exact (pairs1_in F n hF hal hd hro hn l bs C J Jx W hJ (fun pre x W1 h2 hlen => hY pre x W1 h2 hlen) (H.below hW) hC hCb (hbs.below hW hbs.lt) h0)

def prC (x : Pr) : List Value := [.int .i64 x.k.t, .int .i64 x.k.n, .int .i64 x.v.t, .int .i64 x.v.n]
def flatP (l : List Pr) : List Value := l.flatMap prC
theorem flatP_snoc (l : List Pr) (x : Pr) : flatP (l ++ [x]) = flatP l ++ [.int .i64 x.k.t, .int .i64 x.k.n, .int .i64 x.v.t, .int .i64 x.v.n] := by simp [flatP, prC]
theorem flatP_length : ∀ l : List Pr, (flatP l).length = l.length * 4 := by
  intro l
  induction l with
  | nil => rfl
  | cons b l ih => unfold flatP at *; rw [List.flatMap_cons, List.length_append, ih]; simp [prC]; omega
theorem flatP_get : ∀ {l : List Pr} {i k : Nat} {x : Pr}, l[i]? = some x → k < 4 → (flatP l)[i * 4 + k]? = (prC x)[k]? := by
  intro l
  induction l with
  | nil => intro i k b h; simp at h
  | cons c l ih =>
    intro i k b h hk
    have e : flatP (c :: l) = prC c ++ flatP l := rfl
    rw [e]
    cases i with
    | zero =>
      simp only [List.getElem?_cons_zero, Option.some.injEq] at h
      subst h
      rw [List.getElem?_append_left (by simp [prC]; omega)]
      congr 1; omega
    | succ i =>
      rw [List.getElem?_cons_succ] at h
      rw [List.getElem?_append_right (by simp [prC]; omega), ← ih h hk]
      congr 1
      simp [prC]; omega
theorem flatP_one (x y z u : Int) : ∀ v ∈ [Value.int .i64 x, .int .i64 y, .int .i64 z, .int .i64 u], v.oneCell' = true := by
  intro v hv
  simp at hv
  rcases hv with rfl | rfl | rfl | rfl <;> rfl
theorem cell_new4 (w : World) (l : List Value) (t : TypeId) : ∀ (j : Nat) (u : Value), l[j]? = some u → (w.alloc (.cells l.toArray t)).cell? ((⟨w.heap.size, 0, none⟩ : Addr).add j) = some u := by
  intro j u hu
  rw [addr_add, Nat.zero_add]
  exact (cell_of_list (heap_alloc_new w _) j).trans hu

theorem KpC.grown {C : Nat → Prop} {W W' : World} {row : Option Nat} (hg : W.grownBy W' row) (hC : ∀ r, row = some r → C r) : KpC C W W' :=
  ⟨hg.size, fun k o hk _ hc => (hg.block k (Array.getElem?_eq_some_iff.1 hk).1 (fun e => hc (hC k e.symm))).trans hk⟩
theorem Box.grownC {W W' : World} {b : Nat} {l : List Value} {t : TypeId} (h : Box W b l t) {row : Option Nat} (hg : W.grownBy W' row) (hr : ∀ r, row = some r → r ≠ b) : Box W' b l t :=
  h.of_block (hg.block b h.lt (fun e => hr b e.symm rfl))
theorem row_ge {W : World} {base : Nat} {e : TypeId} {size : Nat} {v : Value} {n : Nat} {xs : List Value} (h : W.ownsRow base e size v n xs) : ∀ r, v.ownBlock = some r → base ≤ r ∧ ∃ c, W.heap[r]? = some (.cells c e (0, 0)) := by
  intro r hr
  rcases h.2 with ⟨rfl, _⟩ | ⟨g, cap, cur, rfl, hb, hg, _⟩
  · cases hr
  · cases hr; exact ⟨hb, _, hg⟩
theorem row_set {W : World} {base : Nat} {e : TypeId} {size : Nat} {v : Value} {n : Nat} {xs : List Value} (h : W.ownsRow base e size v n xs) {a : Addr} (ha : a.block < base) (u : Value) : (W.setCell a u).ownsRow base e size v n xs := by
  refine ⟨h.1, h.2.imp id ?_⟩
  rintro ⟨g, cap, cur, hv, hb, hg, h4⟩
  exact ⟨g, cap, cur, hv, hb, (Below.heap_setCell _ _ _ _ (by omega)).trans hg, h4⟩
theorem row_abides {W W' : World} {base : Nat} {e : TypeId} {size : Nat} {v : Value} {n : Nat} {xs : List Value} (h : W.ownsRow base e size v n xs) {row : Option Nat} (hg : W.grownBy W' row) (hr : ∀ r, row = some r → ∃ o : Obj, W.heap[r]? = some o ∧ o.isCells = false) : W'.ownsRow base e size v n xs := by
  refine ⟨h.1, h.2.imp id ?_⟩
  rintro ⟨g, cap, cur, hv, hb, hgg, h4⟩
  refine ⟨g, cap, cur, hv, hb, (hg.block g (Array.getElem?_eq_some_iff.1 hgg).1 ?_).trans hgg, h4⟩
  intro e
  obtain ⟨o, ho, hc⟩ := hr g e.symm
  rw [hgg] at ho; cases ho; cases hc

theorem rowP_of {W : World} {g : Nat} {e : TypeId} {l : List Pr} {spare : List Value} (h : W.heap[g]? = some (.cells (flatP l ++ spare).toArray e (0, 0))) : RowP W g (l.map fun x => (x.k, x.v)) := by
  refine ⟨(Array.getElem?_eq_some_iff.1 h).1, fun i x hx => ?_⟩
  rw [List.getElem?_map, Option.map_eq_some_iff] at hx
  obtain ⟨y, hy, rfl⟩ := hx
  have hi := (List.getElem?_eq_some_iff.1 hy).1
  have hc : ∀ k, k < 4 → W.cell? ⟨g, i * 4 + k, none⟩ = (prC y)[k]? := by
    intro k hk
    rw [cell_of_list h, List.getElem?_append_left (by rw [flatP_length]; omega), flatP_get hy hk]
  exact ⟨hc 0 (by omega), hc 1 (by omega), hc 2 (by omega), hc 3 (by omega)⟩

theorem fits32 {n : Nat} (h : n + 1 ≤ 10000) : Builtin.nextslicecap (n + 1) n * 32 ≤ 281474976710656 := growslice_fits (by omega) (by omega)

/-- 'append' to a slice that has no room: a new row. -/
theorem step_append_full {P : Program} {w : World} {ops : Array Oper} {o : Oper} {a : Act} {K : Act → World → Prop} {Q : Exit → Act → World → Prop} {E : Prop} (hgd : o.guard = none) (s x : Operand) (t : TypeId)
    (ho : o.op = .call { callee := .builtin .append, args := #[s, x], argTypes := #[t, t] })
    (e : TypeId) (i : TypeInfo) (z : Value) (size bytes : Nat) (ht : P.underlying t = some (.slice e)) (hi : P.info? e = some i) (hz : i.zero = some z) (hsize : i.size = size) (hby : i.bytes = bytes)
    (v : Value) (n : Nat) (olds : List Value) (hs : a.eval s = v) (hv : (v = .slice none 0 0 ∧ n = 0 ∧ olds = []) ∨ ∃ g, v = .slice (some ⟨g, 0, none⟩) n n ∧ olds.length = n * size ∧ ∀ j u, olds[j]? = some u → w.cell? ((⟨g, 0, none⟩ : Addr).add j) = some u)
    (ad : Addr) (m c : Nat) (news : List Value) (hx : a.eval x = .slice (some ad) m c) (hl : news.length = m * size) (hnews : ∀ j u, news[j]? = some u → w.cell? (ad.add j) = some u) (hm : 0 < m) (h63 : n + m ≤ 1000000) (hbytes : bytes ≤ 64) (hfit : Builtin.nextslicecap (n + m) n * bytes ≤ 281474976710656)
    (h : ∀ w' cc spare, w'.heap[w.heap.size]? = some (.cells (olds ++ news ++ spare).toArray e (0, 0)) → Below w.heap.size w w' → K (a.put o.dst (.slice (some ⟨w.heap.size, 0, none⟩) (n + m) cc)) w') :
    if Region.wanted o (yielded ops a.tmps) = true then Oper.wp P o a w K Q else E := by
  have hw : Region.wanted o (yielded ops a.tmps) = true := by simp [Region.wanted, hgd]
  rw [if_pos hw]
  subst hsize
  subst hby
  have key : ∃ cc spare, (Builtin.append_ #[t, t] o.type #[v, .slice (some ad) m c]).run P w = .ok (.slice (some ⟨w.heap.size, 0, none⟩) (n + m) cc) (w.drew.alloc (.cells (olds ++ news ++ spare).toArray e)) := by
    rcases hv with ⟨rfl, rfl, rfl⟩ | ⟨g, rfl, hlo, holds⟩
    · refine ⟨grownCap w m 0 e, (Builtin.zeroCells z.cells (grownCap w m 0 e - m)).toList, (run_append_nil (P := P) (w := w) t o.type e i z ht hi hz ad m c news hl hnews hm (by omega) ?_).trans ?_⟩
      · have : m * i.bytes ≤ 1000000 * 64 := Nat.mul_le_mul (by omega) hbytes
        omega
      · rw [Nat.zero_add]
        congr 3
        apply Array.ext'
        simp
    · refine ⟨grownCap w (n + m) n e, (Builtin.zeroCells z.cells (grownCap w (n + m) n e - (n + m))).toList, (run_append_grow (P := P) (w := w) t o.type e i z ht hi hz ⟨g, 0, none⟩ n n olds hlo holds ad m c news hl hnews (by omega) (by omega) hfit).trans ?_⟩
      congr 3
      apply Array.ext'
      simp
  obtain ⟨cc, spare, hr⟩ := key
  unfold Oper.wp execOp
  simp only [ho, resolve, invoke, builtin, Sem.run_bind, Sem.run_pure, Result.andThen_ok, List.map_toArray, List.map_cons, List.map_nil, hs, hx, hr]
  exact h _ cc spare (heap_alloc_new w.drew _) ((Below.refl _ w).drew.alloc (Nat.le_refl _) _)

/-- One pair is put into the new slots. -/
def insT (T : Tb) (x : Pr) : Tb :=
  if (findT T x.k).1 < 0 then setT (setT T ((T.a : Int) + 2 * (findT T x.k).2) x.k) ((T.a : Int) + 2 * (findT T x.k).2 + 1) x.v else setT T (findT T x.k).1 x.v
def newSz (T : Tb) (k : V) : Nat × Nat := sizesT ((pairsL T).map Pr.k ++ [k])
def renewT (T : Tb) (k : V) : Tb × Int :=
  if ((newSz T k).1 + 2 * (newSz T k).2 : Int) ≤ T.most then ((pairsL T).foldl insT (sizedT T (newSz T k).1 (newSz T k).2), 0) else (T, 8)

theorem setT_a (T : Tb) (i : Int) (v : V) : (setT T i v).a = T.a := by unfold setT; split <;> rfl
theorem setT_most (T : Tb) (i : Int) (v : V) : (setT T i v).most = T.most := by unfold setT; split <;> rfl
theorem setT_len (T : Tb) (i : Int) (v : V) : (setT T i v).sl.length = T.sl.length := by unfold setT; split <;> simp
theorem setT_nodes (T : Tb) (i : Int) (v : V) : (setT T i v).nodes = T.nodes := by unfold Tb.nodes; rw [setT_a, setT_len]
theorem insT_shape (T : Tb) (x : Pr) : (insT T x).a = T.a ∧ (insT T x).sl.length = T.sl.length ∧ (insT T x).most = T.most := by
  unfold insT
  split <;> simp [setT_a, setT_len, setT_most]
theorem foldl_shape : ∀ (l : List Pr) (T : Tb), (l.foldl insT T).a = T.a ∧ (l.foldl insT T).sl.length = T.sl.length ∧ (l.foldl insT T).most = T.most := by
  intro l
  induction l with
  | nil => intro T; exact ⟨rfl, rfl, rfl⟩
  | cons x l ih =>
    intro T
    obtain ⟨h1, h2, h3⟩ := ih (insT T x)
    obtain ⟨k1, k2, k3⟩ := insT_shape T x
    exact ⟨h1.trans k1, h2.trans k2, h3.trans k3⟩
theorem sizedT_nodes (T : Tb) (a n : Nat) : (sizedT T a n).nodes = n := by unfold Tb.nodes sizedT; simp
theorem newSz_ok (T : Tb) (k : V) : (newSz T k).1 ≤ 4096 ∧ Pow2 (newSz T k).2 := ⟨(bestT_le _ 13 (Nat.le_refl _)).1, nodT_pow _⟩
theorem pow2_le {n : Nat} (h : Pow2 n) : n ≤ 8192 := by
  rcases h with rfl | ⟨k, hk, rfl⟩
  · omega
  · exact Nat.le_trans (Nat.pow_le_pow_right (by omega) hk) (by decide)

def RenewPost (w : World) (p : Nat) (sv : Value) (T : Tb) (k : V) (e : Ending) (w' : World) : Prop :=
  ∃ sv', e = .returned (.int .i64 (renewT T k).2) ∧ MemAt w' p sv' (renewT T k).1 ∧ Mv p sv w w' sv'

/-- What the first loop has: the list of pairs so far. -/
def RnI (b : Nat) (t n : Int) (w : World) (pre : List Pr) (W : World) : Prop :=
  (∃ v, Box W (b + 1) [v] 98 ∧ W.ownsRow (b + 3) 66 4 v pre.length (flatP pre)) ∧ Box W b [.int .i64 t, .int .i64 n] 27 ∧ Below b w W

theorem RnI.from (b : Nat) (t n : Int) (w : World) (hb : b = w.heap.size) : OwnFrom (b + 3) (RnI b t n w) := by
  rintro s X Y row ⟨⟨v, h1, h2⟩, h3, h4⟩ hg hr
  refine ⟨⟨v, h1.grown hg (fun r e => (hr r e).2), row_abides h2 hg (fun r e => (hr r e).2)⟩, h3.grown hg (fun r e => (hr r e).2), ?_⟩
  subst hb
  exact ownFrom_below (Nat.le_refl _) (by omega) () X Y row h4 hg hr

theorem RowP.keep {B : Nat → Prop} {g : Nat} {L : List (V × V)} (h : RowP w g L) (hk : Keep B w w') (hB : ¬ B g) : RowP w' g L :=
  ⟨Nat.lt_of_lt_of_le h.lt hk.size, fun i x hx => by
    obtain ⟨h0, h1, h2, h3⟩ := h.at_ i x hx
    have hc : ∀ j, w'.cell? ⟨g, j, none⟩ = w.cell? ⟨g, j, none⟩ := fun j => World.cell?_of_block (w := w) (hk.block g h.lt hB)
    rw [hc, hc, hc, hc]; exact ⟨h0, h1, h2, h3⟩⟩
theorem Mv.putObj (h : Mv p sv w w' sv') {D : Nat} (hD : w.heap.size ≤ D) (o : Obj) : Mv p sv w (w'.putObj D o) sv' :=
  ⟨⟨h.1.os, h.1.tape, h.1.output, by rw [World.putObj_size]; exact h.1.size, fun k hk hb => (World.putObj_heap_other (by omega)).trans (h.1.block k hk hb)⟩, h.2⟩
theorem Box.cells4 {W : World} {b : Nat} {x y z u : Value} {e : TypeId} (h : Box W b [x, y, z, u] e) : W.cell? ⟨b, 0, none⟩ = some x ∧ W.cell? ⟨b, 1, none⟩ = some y ∧ W.cell? ⟨b, 2, none⟩ = some z ∧ W.cell? ⟨b, 3, none⟩ = some u :=
  ⟨h.cell 0, h.cell 1, h.cell 2, h.cell 3⟩

theorem szc {T : Tb} {t n : Int} {N : Nat} (hN : N = (pairsL T).length) (hl : N + 1 ≤ 8000) {w' : World} {g c : Nat} (hR : RowP w' g ((pairsL T ++ [(⟨0, ⟨t, n⟩, nilV⟩ : Pr)]).map fun x => (x.k, x.v))) :
    Calls Try.prog 52 #[.slice (some ⟨g, 0, none⟩) (N + 1) c] w' fun e w'' => e = .returned (.tuple #[.int .i64 (newSz T ⟨t, n⟩).1, .int .i64 (newSz T ⟨t, n⟩).2]) ∧ Below w'.heap.size w' w'' := by
  have h := sizes_any hR (c := c) (by simp; omega)
  have e1 : ((pairsL T ++ [(⟨0, ⟨t, n⟩, nilV⟩ : Pr)]).map fun x => (x.k, x.v)).length = N + 1 := by simp [hN]
  have e2 : (((pairsL T ++ [(⟨0, ⟨t, n⟩, nilV⟩ : Pr)]).map fun x => (x.k, x.v)).map Prod.fst) = (pairsL T).map Pr.k ++ [⟨t, n⟩] := by simp [List.map_map, Function.comp_def]
  rw [e1, e2] at h
  exact h

set_option maxRecDepth 100000 in
set_option maxHeartbeats 4000000 in
theorem renew_in (F : Fence) (m : Nat) (hF : ∀ f, F.fn f) (hal : F.alive = false) (hd : F.depth = none) (hro : F.round = none) (hn : 3 ≤ m) (H : MemAt w p sv T) (hP : Pow2 T.nodes) (hpl : (pairsL T).length + 1 ≤ 8000) (hmost : T.most < 2 ^ 63 ∧ -(2 ^ 63) ≤ T.most) (k : V) : CallsIn F m Try.prog 37 #[memV p, k.val] w fun e w' => RenewPost w p sv T k e w' := by
  have h1 : 1 ≤ m := by omega
  obtain ⟨t, n⟩ := k
  unfold memV V.val
  simp only
  have HH := Lib.hid H
  have HP := Lib.hid hP
  have HPL := Lib.hid hpl
  clear H hP hpl
  refine callsIn_of_wp_marks Try.func37 rfl (hF _) ?_ hro
  simp only [Try.ntmps37, List.size_toArray, List.length_cons, List.length_nil, Nat.reduceAdd, Nat.reduceSub, Array.replicate_succ, Array.replicate_zero, List.push_toArray, List.append_toArray, List.nil_append, List.cons_append]
  gi_wp2_with (gi_at_call 31; refine (pairs_in F (m - 1) hF hro p _).mono ?_; rintro e w' ⟨rfl, rfl⟩)
  obtain ⟨W0, hW0⟩ : ∃ W0, W0 = ((w.alloc (.cells #[.int .i64 t, .int .i64 n] 27)).alloc (.cells #[.slice none 0 0] 98)).alloc (.cells #[.iface 23 (.pointer (some ⟨p, 0, none⟩))] 59) := ⟨_, rfl⟩
  have hsz : W0.heap.size = w.heap.size + 3 := by rw [hW0]; simp
  have hB0 : Below w.heap.size w W0 := by rw [hW0]; exact (by repeat (first | exact Below.refl _ _ | refine Below.alloc ?_ (by first | (simp; done) | (simp; omega)) _ | refine Below.drew ?_ | refine Below.setCell ?_ (by first | (simp; done) | (simp; omega)) _))
  have hm0 : Box W0 w.heap.size [.int .i64 t, .int .i64 n] 27 := (by rw [hW0]; unfold Box World.alloc; simp only [Array.getElem?_push, Array.size_push]; repeat (first | rw [if_neg (by omega)] | rw [if_pos (by omega)] | rw [if_pos trivial]))
  have hl0 : Box W0 (w.heap.size + 1) [.slice none 0 0] 98 := (by rw [hW0]; unfold Box World.alloc; simp only [Array.getElem?_push, Array.size_push]; repeat (first | rw [if_neg (by omega)] | rw [if_pos (by omega)] | rw [if_pos trivial]))
  have hs0 : Box W0 (w.heap.size + 1 + 1) [.iface 23 (.pointer (some ⟨p, 0, none⟩))] 59 := (by rw [hW0]; unfold Box World.alloc; simp only [Array.getElem?_push, Array.size_push]; repeat (first | rw [if_neg (by omega)] | rw [if_pos (by omega)] | rw [if_pos trivial]))
  rw [← hW0]
  clear hW0
  have hown : ∀ k, OwnS p sv k → k < w.heap.size := fun k hk => HH.out.own_lt hk
  obtain ⟨i0, hi0, hz0, hz1, hz2⟩ := info_parts Try.infoB66
  obtain ⟨b, hb⟩ : ∃ b, b = w.heap.size := ⟨_, rfl⟩
  rw [← hb] at hB0 hsz hm0 hl0 hs0 hown ⊢
  have HBB := Lib.hid hb
  have hown' := Lib.hid hown
  have HSZ := Lib.hid hsz
  clear hb hown hsz
  refine wpIn_rangeFunc_ownH hro h1 (gf := 47) (lb := #[.pointer (some ⟨b + 1 + 1, 0, none⟩)]) rfl (hF _) (enters_of Try.func47 (by kernel_rfl) rfl)
    (pairs_stops F (m - 1) hF hal hd hro (by omega) (fun k => k = b + 1 ∨ b + 3 ≤ k) W0 (HH.out.below (by rw [← HBB.out]; exact hB0)) (b + 1 + 1) hs0 (fun k hk e => by have := hown'.out k hk; omega) (by omega))
    kpC_t kpC_b (Below.refl _ _) (fun _ => rfl)
    (RnI b t n w)
    (fun c pre W => False)
    (by rw [HSZ.out]; exact RnI.from b t n w HBB.out)
    (fun c s X Y row hs hg hr => hs)
    ⟨⟨_, hl0, World.ownsRow_nil _ _ _ _⟩, hm0, hB0⟩
    (fun (x : Pr) a' W => ∃ c7 u19 u20 u21 u22 u23 u24 u25 u26 u27 u28 u29 u30, Box W c7 (prC x) 66 ∧ a' = { tmps := #[.iface 23 (.pointer (some ⟨p, 0, none⟩)), .agg #[.int .i64 t, .int .i64 n], undef, .pointer (some ⟨b, 0, none⟩), .int .i64 0, .pointer (some ⟨b + 1, 0, none⟩), undef, .pointer (some ⟨c7, 0, none⟩), undef, undef, undef, undef, undef, undef, undef, .iface 23 (.pointer (some ⟨p, 0, none⟩)), .func (.func 47) #[] #[.pointer (some ⟨b + 1 + 1, 0, none⟩)], .int .i64 (x.i : Int), .agg #[.int .i64 x.k.t, .int .i64 x.k.n, .int .i64 x.v.t, .int .i64 x.v.n],
       u19, u20, u21, u22, u23, u24, u25, u26, u27, u28, u29, u30, undef, undef, undef, undef, undef, undef, undef, undef, undef, undef, undef, undef, undef, undef, undef, undef, undef, undef, undef, undef, undef, undef, undef, undef, undef, undef, undef, undef, undef, undef, undef, undef, undef, undef, undef, undef, undef, undef, undef, undef, undef, undef, undef, undef, undef, undef], defers := [] })
    (fun x a' s X Y row hs hg hr => by
      obtain ⟨c7, u19, u20, u21, u22, u23, u24, u25, u26, u27, u28, u29, u30, h1, h2⟩ := hs
      exact ⟨c7, u19, u20, u21, u22, u23, u24, u25, u26, u27, u28, u29, u30, h1.grown hg (fun r e => (hr r e).2), h2⟩)
    ?assign ?body ?done ?stop
  case assign =>
    rintro l pre ⟨xi, ⟨kt, kn⟩, ⟨vt, vn⟩⟩ W K ⟨⟨v, hv1, hv2⟩, hm, hB⟩ hK
    simp only [encP]
    have hbx := Box.new W [.int .i64 kt, .int .i64 kn, .int .i64 vt, .int .i64 vn] 66
    have HBX := Lib.hid hbx
    clear hbx
    gi_wp2
    exact hK _ _ ((KeepsOthers.alloc W _).from _) (KpC.alloc _ _ _) ⟨⟨v, hv1.alloc _, hv2.alloc _⟩, hm.alloc _, hB.alloc (by have := hm.lt; omega) _⟩ ⟨_, _, _, _, _, _, _, _, _, _, _, _, _, HBX.out, rfl⟩
  case body =>
    rintro l pre ⟨xi, ⟨kt, kn⟩, ⟨vt, vn⟩⟩ a' W hl hrec ⟨⟨v, hv1, hv2⟩, hm, hB⟩ ⟨c7, u19, u20, u21, u22, u23, u24, u25, u26, u27, u28, u29, u30, hc7, rfl⟩ hlen
    have hle := HH.out.small
    have d0 := hc7.cell 0
    have d1 := hc7.cell 1
    have d2 := hc7.cell 2
    have d3 := hc7.cell 3
    have e0 := hv1.cell 0
    have e1 := hv1.free 0
    simp only [prC, List.getElem?_cons_zero, List.getElem?_cons_succ] at d0 d1 d2 d3 e0
    have hv3 := hv2.alloc (.cells #[.int .i64 kt, .int .i64 kn, .int .i64 vt, .int .i64 vn] 66)
    have hl3 := hv1.alloc (.cells #[.int .i64 kt, .int .i64 kn, .int .i64 vt, .int .i64 vn] 66)
    have hm3 := hm.alloc (.cells #[.int .i64 kt, .int .i64 kn, .int .i64 vt, .int .i64 vn] 66)
    have hB3 := hB.alloc (by have := hm.lt; omega) (.cells #[.int .i64 kt, .int .i64 kn, .int .i64 vt, .int .i64 vn] 66)
    have HV3 := Lib.hid hv3
    have HL3 := Lib.hid hl3
    have HM3 := Lib.hid hm3
    have HB3 := Lib.hid hB3
    clear hv2 hv3 hl3 hm3 hB3 hm hB
    dsimp only
    have hlen2 : pre.length + 1 ≤ 1000001 + 1 := by omega
    have hnews := cell_new4 W [.int .i64 kt, .int .i64 kn, .int .i64 vt, .int .i64 vn] 66
    have hbase : b + 3 ≤ (W.alloc (.cells #[.int .i64 kt, .int .i64 kn, .int .i64 vt, .int .i64 vn] 66)).heap.size := by
      have := (Array.getElem?_eq_some_iff.1 hrec.choose_spec).1
      have := HSZ.out
      simp; omega
    gi_wp2_with (gi_at_builtin; refine wpListIn_append_own _ rfl _ _ 98 rfl (b + 3) 66 i0 (.agg #[.int .i64 0, .int .i64 0, .int .i64 0, .int .i64 0]) 4 32 Try.underlying98 hi0 hz0 hz1 hz2 rfl (by decide) _ _ _ rfl HV3.out _ _ _ [.int .i64 kt, .int .i64 kn, .int .i64 vt, .int .i64 vn] rfl rfl hnews (flatP_one _ _ _ _) (by unfold maxLen; omega) (by omega) hbase ?_)
    intro v' W2 hown2 hg2 _
    obtain ⟨g', cap', rfl⟩ : ∃ g c, v' = .slice (some ⟨g, 0, none⟩) (pre.length + 1) c := by
      rcases hown2.2 with ⟨_, h0⟩ | ⟨g, cap, cur, hv, _⟩
      · omega
      · exact ⟨_, _, hv⟩
    have hne : ∀ r, v.ownBlock = some r → r ≠ b + 1 := fun r hr e => by have := (row_ge HV3.out r hr).1; omega
    have hne0 : ∀ r, v.ownBlock = some r → r ≠ b := fun r hr e => by have := (row_ge HV3.out r hr).1; omega
    have hl4 := HL3.out.grownC hg2 hne
    have e2 := hl4.cell 0
    have e3 := hl4.free 0
    simp only [List.getElem?_cons_zero] at e2
    have HL4 := Lib.hid hl4
    have HG2 := Lib.hid hg2
    have HO2 := Lib.hid hown2
    clear hl4 hg2 hown2 hne
    gi_wp2
    refine ⟨?_, ?_, ⟨.slice (some ⟨g', 0, none⟩) (pre.length + 1) cap', ?_, ?_⟩, ?_, ?_⟩
    · refine ((((KeepsOthers.alloc W _).trans (KeepsOthers.of_grownBy HG2.out ?_)).trans (KeepsOthers.setCell _ _ _)).from _)
      intro j o hr ho
      obtain ⟨c, hc⟩ := (row_ge HV3.out j hr).2
      rw [hc] at ho; cases ho; rfl
    · exact ((KpC.alloc _ W _).trans (KpC.grown HG2.out (fun r hr => .inr (row_ge HV3.out r hr).1))).trans (KpC.setCell _ _ (.inl rfl) _)
    · exact HL4.out.set 0 _
    · rw [List.length_append, flatP_snoc]
      exact row_set HO2.out (by show b + 1 < b + 3; omega) _
    · exact (HM3.out.grownC HG2.out hne0).setOther _ (by show b ≠ b + 1; omega) _
    · exact (HB3.out.grown HG2.out (by have := HB3.out.size; have := HBB.out; omega) (fun r hr => by have := (row_ge HV3.out r hr).1; omega)).setCell (p := ⟨b + 1, 0, none⟩) (by show b ≤ b + 1; omega) _
  case done =>
    rintro D ys W hD rfl ⟨⟨v, hv1, hv2⟩, hm, hB⟩ hK
    have hlen := HPL.out
    obtain ⟨N, hN⟩ : ∃ N, N = (pairsL T).length := ⟨_, rfl⟩
    have HN := Lib.hid hN
    rw [← hN] at hlen hv2
    have HV := Lib.hid hv2
    have HM := Lib.hid hm
    have HL := Lib.hid hv1
    have HB := Lib.hid hB
    have e0 := hv1.cell 0
    have m0 := hm.cell 0
    have m1 := hm.cell 1
    simp only [List.getElem?_cons_zero, List.getElem?_cons_succ] at e0 m0 m1
    clear hv1 hv2 hm hB hN
    have hWD : D < W.heap.size := (Array.getElem?_eq_some_iff.1 hK).1
    obtain ⟨sa, hsa⟩ : ∃ a, a = (newSz T ⟨t, n⟩).1 := ⟨_, rfl⟩
    obtain ⟨sn, hsn⟩ : ∃ a, a = (newSz T ⟨t, n⟩).2 := ⟨_, rfl⟩
    have hszs := newSz_ok T ⟨t, n⟩
    rw [← hsa, ← hsn] at hszs
    have hszn := pow2_le hszs.2
    have HSA := Lib.hid hsa
    have HSN := Lib.hid hsn
    have HKK := Lib.hid hK
    have hbW : b + 3 ≤ W.heap.size := by have := HSZ.out; omega
    clear hsa hsn hK
    gi_wp2
    gi_cut [8, 9] from 1000 (fun t8 t9 wc => t8 = .int .i64 sa ∧ t9 = .int .i64 sn ∧ Below W.heap.size W wc)
    case first =>
      have SZC : ∀ w' g c, RowP w' g ((pairsL T ++ [(⟨0, ⟨t, n⟩, nilV⟩ : Pr)]).map fun x => (x.k, x.v)) → Calls Try.prog 52 #[.slice (some ⟨g, 0, none⟩) (N + 1) c] w' fun e w'' => e = .returned (.tuple #[.int .i64 sa, .int .i64 sn]) ∧ Below w'.heap.size w' w'' := by
        intro w' g c hR
        rw [HSA.out, HSN.out]
        exact szc HN.out hlen hR
      have HSC := Lib.hid SZC
      clear SZC
      rcases HV.out.2 with ⟨rfl, h0⟩ | ⟨g, cap, cur, rfl, hbg, hgg, hnc, hcm, hcs, htk⟩
      · have HF0 := Lib.hid (show flatP (pairsL T) = [] from List.eq_nil_of_length_eq_zero (by rw [flatP_length, ← HN.out, h0]))
        subst h0
        have HRS := Lib.hid (show ∀ w', Below W.heap.size W w' → (Below W.heap.size W w' ∧ w'.cell? ⟨b + 1, 0, none⟩ = some (.slice none 0 0) ∧ w'.cell? ⟨b, 0, none⟩ = some (.int .i64 t) ∧ w'.cell? ⟨b, 1, none⟩ = some (.int .i64 n)) from fun w' h =>
          ⟨h, (h.cell (p := ⟨b + 1, 0, none⟩) (by show b + 1 < _; omega)).trans e0, (h.cell (p := ⟨b, 0, none⟩) (by show b < _; omega)).trans m0, (h.cell (p := ⟨b, 1, none⟩) (by show b < _; omega)).trans m1⟩)
        refine wpIn_of_wp hF hal hd hro ?_
        go_region_held3 (fun w' => Below W.heap.size W w' ∧ w'.cell? ⟨b + 1, 0, none⟩ = some (.slice none 0 0) ∧ w'.cell? ⟨b, 0, none⟩ = some (.int .i64 t) ∧ w'.cell? ⟨b, 1, none⟩ = some (.int .i64 n))
          (first | (with_reducible assumption) | exact HRS.out _ (by first | (with_reducible assumption) | exact (by repeat (first | exact Below.refl _ _ | refine Below.alloc ?_ (by first | (simp; done) | (simp; omega)) _ | refine Below.drew ?_ | refine Below.setCell ?_ (by first | (simp; done) | (simp; omega)) _))))
          ((first | (go_at_call 52; refine (HSC.out _ _ _ (by first | (with_reducible assumption) | simpa using hR)).mono ?_; rintro e w4 ⟨rfl, hb5⟩; have hb6 : Below W.heap.size W w4 := hb4.trans (hb5.mono hb4.size)) | (refine step_append_full rfl (.tmp 29) (.tmp 32) 98 rfl 66 i0 (.agg #[.int .i64 0, .int .i64 0, .int .i64 0, .int .i64 0]) 4 32 Try.underlying98 hi0 hz0 hz1 hz2 (.slice none 0 0) 0 [] rfl (.inl ⟨rfl, rfl, rfl⟩) ⟨W.heap.size, 0, none⟩ 1 1 [.int .i64 t, .int .i64 n, .int .i64 0, .int .i64 0] rfl rfl (cell_new4 W [.int .i64 t, .int .i64 n, .int .i64 0, .int .i64 0] 66) Nat.one_pos (by omega) (by omega) (fits32 (by omega)) ?_; intro w3 cc spare hg3 hb3; have hb4 : Below W.heap.size W w3 := (show Below W.heap.size W _ from (by repeat (first | exact Below.refl _ _ | refine Below.alloc ?_ (by first | (simp; done) | (simp; omega)) _ | refine Below.drew ?_ | refine Below.setCell ?_ (by first | (simp; done) | (simp; omega)) _))).trans (hb3.mono (by simp)); have hR := rowP_of (l := pairsL T ++ [(⟨0, ⟨t, n⟩, nilV⟩ : Pr)]) (by rw [flatP_snoc, HF0.out]; exact hg3))))
        all_goals simp only [Exit.then]
        all_goals (apply_assumption; refine Met.intro ?_; apply_assumption; (repeat apply Exists.intro); refine ⟨⟨rfl, rfl, ?_⟩, rfl⟩; assumption)
      · have hN1 : (N : Int) ≤ cap := by omega
        have hN2 : (N : Int) ≤ N := Int.le_refl _
        have hN3 : (0 : Int) ≤ N := by omega
        have AR := Lib.hid (show ∀ W', Below W.heap.size W W' → ∀ j u, (flatP (pairsL T))[j]? = some u → W'.cell? ((⟨g, 0, none⟩ : Addr).add j) = some u from by
          intro W' hb j u hu
          have h := HV.out.cells (g := g) rfl j u hu
          rw [addr_add] at h ⊢
          exact (hb.cell (p := ⟨g, 0 + j, none⟩) (Array.getElem?_eq_some_iff.1 hgg).1).trans h)
        have HRS := Lib.hid (show ∀ w', Below W.heap.size W w' → (Below W.heap.size W w' ∧ w'.cell? ⟨b + 1, 0, none⟩ = some (.slice (some ⟨g, 0, none⟩) N cap) ∧ w'.cell? ⟨b, 0, none⟩ = some (.int .i64 t) ∧ w'.cell? ⟨b, 1, none⟩ = some (.int .i64 n)) from fun w' h =>
          ⟨h, (h.cell (p := ⟨b + 1, 0, none⟩) (by show b + 1 < _; omega)).trans e0, (h.cell (p := ⟨b, 0, none⟩) (by show b < _; omega)).trans m0, (h.cell (p := ⟨b, 1, none⟩) (by show b < _; omega)).trans m1⟩)
        clear hgg hcs htk hcm
        refine wpIn_of_wp hF hal hd hro ?_
        go_region_held3 (fun w' => Below W.heap.size W w' ∧ w'.cell? ⟨b + 1, 0, none⟩ = some (.slice (some ⟨g, 0, none⟩) N cap) ∧ w'.cell? ⟨b, 0, none⟩ = some (.int .i64 t) ∧ w'.cell? ⟨b, 1, none⟩ = some (.int .i64 n))
          (first | (with_reducible assumption) | exact HRS.out _ (by first | (with_reducible assumption) | exact (by repeat (first | exact Below.refl _ _ | refine Below.alloc ?_ (by first | (simp; done) | (simp; omega)) _ | refine Below.drew ?_ | refine Below.setCell ?_ (by first | (simp; done) | (simp; omega)) _))))
          ((first | (go_at_call 52; refine (HSC.out _ _ _ (by first | (with_reducible assumption) | simpa using hR)).mono ?_; rintro e w4 ⟨rfl, hb5⟩; have hb6 : Below W.heap.size W w4 := hb4.trans (hb5.mono hb4.size)) | (refine step_append_full rfl (.tmp 29) (.tmp 32) 98 rfl 66 i0 (.agg #[.int .i64 0, .int .i64 0, .int .i64 0, .int .i64 0]) 4 32 Try.underlying98 hi0 hz0 hz1 hz2 (.slice (some ⟨g, 0, none⟩) N N) N (flatP (pairsL T)) rfl (.inr ⟨g, rfl, by rw [flatP_length, HN.out], AR.out _ (by repeat (first | exact Below.refl _ _ | refine Below.alloc ?_ (by first | (simp; done) | (simp; omega)) _ | refine Below.drew ?_ | refine Below.setCell ?_ (by first | (simp; done) | (simp; omega)) _))⟩) ⟨W.heap.size, 0, none⟩ 1 1 [.int .i64 t, .int .i64 n, .int .i64 0, .int .i64 0] rfl rfl (cell_new4 W [.int .i64 t, .int .i64 n, .int .i64 0, .int .i64 0] 66) Nat.one_pos (by omega) (by omega) (fits32 (by omega)) ?_; intro w3 cc spare hg3 hb3; have hb4 : Below W.heap.size W w3 := (show Below W.heap.size W _ from (by repeat (first | exact Below.refl _ _ | refine Below.alloc ?_ (by first | (simp; done) | (simp; omega)) _ | refine Below.drew ?_ | refine Below.setCell ?_ (by first | (simp; done) | (simp; omega)) _))).trans (hb3.mono (by simp)); have hR := rowP_of (l := pairsL T ++ [(⟨0, ⟨t, n⟩, nilV⟩ : Pr)]) (by rw [flatP_snoc]; exact hg3))))
        all_goals simp only [Exit.then]
        all_goals (apply_assumption; refine Met.intro ?_; apply_assumption; (repeat apply Exists.intro); refine ⟨⟨rfl, rfl, ?_⟩, rfl⟩; assumption)
    case rest =>
      obtain ⟨rfl, rfl, hbc⟩ := hcut
      have e1 := (hbc.cell (p := ⟨b + 1, 0, none⟩) (by show b + 1 < _; omega)).trans e0
      have hBc := HB.out.trans (hbc.mono (by omega))
      have RC := resize_any (HH.out.below (by rw [← HBB.out]; exact hBc)) sa sn (by omega) hszs.2 hmost
      have HBc := Lib.hid hBc
      have HBC := Lib.hid hbc
      clear hBc hbc e0 m0 m1
      gi_wp2
      refine (calls_wide hF hal hd RC).mono ?_
      clear RC
      rintro e w4 ⟨rfl, hc⟩
      rcases hc with ⟨hfit, sv', hm4, hv4⟩ | ⟨hfit, rfl⟩
      · have hr0 : resizeR T sa sn = 0 := by unfold resizeR; rw [if_pos hfit]
        rw [hr0]
        have HRN := Lib.hid (show renewT T ⟨t, n⟩ = ((pairsL T).foldl insT (sizedT T sa sn), 0) from by unfold renewT; rw [← HSA.out, ← HSN.out, if_pos hfit])
        have hns : ∀ k, b ≤ k → ¬ OwnS p sv k := fun k hk h => by have := hown'.out k h; omega
        have HNS := Lib.hid (show ∀ k, b ≤ k → k < wc.heap.size → ¬ OwnS p sv' k from fun k hk hl h => by
          rcases hv4.2 k h with h | h
          · exact hns k hk h
          · omega)
        have hWc := HBC.out.size
        have hK4 : w4.heap[D]? = some (.deferred (some [])) := ((hv4.1.block D (by omega) (hns D (by have := HSZ.out; omega))).trans (HBC.out.block D hWD)).trans HKK.out
        have hbx4 := ((HL.out.below HBC.out HL.out.lt).mv hv4 (hns _ (by omega))).cell 0
        obtain ⟨A, cap, rfl, hA⟩ : ∃ A cap, v = .slice A N cap ∧ (0 < N → ∃ g, A = some ⟨g, 0, none⟩ ∧ RowP w4 g ((pairsL T).map fun x => (x.k, x.v)) ∧ ¬ OwnS p sv' g) := by
          rcases HV.out.2 with ⟨rfl, h0⟩ | ⟨g, cap, cur, rfl, hbg, hgg, hnc, hcm, hcs, htk⟩
          · exact ⟨none, 0, by rw [h0], fun h => by omega⟩
          · have hgl := (Array.getElem?_eq_some_iff.1 hgg).1
            refine ⟨_, cap, rfl, fun _ => ⟨g, rfl, ?_, HNS.out g (by omega) (by omega)⟩⟩
            have h5 : W.heap[g]? = some (.cells (flatP (pairsL T) ++ cur.toList.drop (N * 4)).toArray 66 (0, 0)) := by
              rw [hgg, ← htk, List.take_append_drop]
            exact ((rowP_of h5).below HBC.out).keep hv4.1 (hns g (by omega))
        simp only [List.getElem?_cons_zero] at hbx4
        have HK4 := Lib.hid hK4
        have HAA := Lib.hid hA
        have HM4 := Lib.hid hm4
        have HMV := Lib.hid ((Mv.below (sv := sv) (p := p) (by rw [HBB.out] at HBc; exact HBc.out)).trans hv4)
        obtain ⟨T0, hT0⟩ : ∃ T0, T0 = sizedT T sa sn := ⟨_, rfl⟩
        have HT0 := Lib.hid hT0
        have HP0 := Lib.hid (show Pow2 T0.nodes from by rw [hT0, sizedT_nodes]; exact hszs.2)
        rw [← hT0] at HRN HM4
        clear hr0 hfit hns hK4 hA hm4 hv4 e1 hT0
        gi_wp2
        gi_loopw [46] (fun t46 wr => ∃ i : Nat, i ≤ N ∧ t46 = .int .i64 i ∧ MemAt wr p sv' (((pairsL T).take i).foldl insT T0) ∧ Keep (OwnS p sv') w4 wr) (fun t46 _ => N - (intOf t46).toNat)
        case atStart => exact ⟨0, Nat.zero_le _, by go_num, HM4.out, Keep.refl _ _⟩
        case round =>
          obtain ⟨i, hi, rfl, hmr, hkr⟩ := hrel
          by_cases hlt : i < N
          · obtain ⟨g, rfl, hrow, hng⟩ := HAA.out (by omega)
            obtain ⟨x, hx⟩ : ∃ x, (pairsL T)[i]? = some x := ⟨(pairsL T)[i]'(by rw [← HN.out]; exact hlt), List.getElem?_eq_getElem _⟩
            have htk : (pairsL T).take (i + 1) = (pairsL T).take i ++ [x] := by rw [List.take_add_one, hx]; rfl
            have hfo : ((pairsL T).take (i + 1)).foldl insT T0 = insT (((pairsL T).take i).foldl insT T0) x := by rw [htk, List.foldl_append]; rfl
            obtain ⟨c0, c1, c2, c3⟩ := (hrow.keep hkr hng).at_ i (x.k, x.v) (by rw [List.getElem?_map, hx]; rfl)
            have hsh := foldl_shape ((pairsL T).take i) T0
            obtain ⟨Ti, hTi⟩ : ∃ Ti, Ti = ((pairsL T).take i).foldl insT T0 := ⟨_, rfl⟩
            rw [← hTi] at hmr hfo hsh
            obtain ⟨xi, ⟨kt, kn⟩, ⟨vt, vn⟩⟩ := x
            have hPi : Pow2 Ti.nodes := by have h := HP0.out; unfold Tb.nodes at h ⊢; rw [hsh.1, hsh.2.1]; exact h
            have hrg := findT_range ⟨kt, kn⟩ hmr.le
            have hnd := nodes_le hmr.le
            have hsm := hmr.small
            have FC := find_any' (hmr.below (below_alloc wr (.cells #[.int .i64 kt, .int .i64 kn, .int .i64 vt, .int .i64 vn] 66))) hPi ⟨kt, kn⟩
            have hins : insT Ti ⟨xi, ⟨kt, kn⟩, ⟨vt, vn⟩⟩ = if (findT Ti ⟨kt, kn⟩).1 < 0 then setT (setT Ti ((Ti.a : Int) + 2 * (findT Ti ⟨kt, kn⟩).2) ⟨kt, kn⟩) ((Ti.a : Int) + 2 * (findT Ti ⟨kt, kn⟩).2 + 1) ⟨vt, vn⟩ else setT Ti (findT Ti ⟨kt, kn⟩).1 ⟨vt, vn⟩ := rfl
            obtain ⟨⟨f1, f2⟩, hf⟩ : ∃ f, f = findT Ti ⟨kt, kn⟩ := ⟨_, rfl⟩
            rw [← hf] at hrg FC hins
            rw [← hfo] at hins
            simp only at c0 c1 c2 c3 hrg FC hins
            have hf2 : -1 ≤ f2 ∧ f2 ≤ 1000000 := by
              rcases hrg.2 with h | ⟨y, h, hy, -⟩ <;> omega
            obtain ⟨a, ha⟩ : ∃ a, a = Ti.a := ⟨_, rfl⟩
            rw [← ha] at hins hnd
            have q1 : IntKind.i64.wrap (2 * f2) = 2 * f2 := IntWalk.i64_in _ (by omega)
            have q2 : IntKind.i64.wrap ((a : Int) + 2 * f2) = (a : Int) + 2 * f2 := IntWalk.i64_in _ (by omega)
            have q3 : IntKind.i64.wrap ((a : Int) + 2 * f2 + 1) = (a : Int) + 2 * f2 + 1 := IntWalk.i64_in _ (by omega)
            have HA2 := Lib.hid ha
            have HINS := Lib.hid hins
            have HMR := Lib.hid hmr
            have HKR := Lib.hid hkr
            have HBX := Lib.hid (Box.new wr [.int .i64 kt, .int .i64 kn, .int .i64 vt, .int .i64 vn] 66)
            have HROW := Lib.hid hrow
            clear hx htk hfo hsh hTi hrg hins hf ha hmr hkr hrow hng hnd
            gi_wp2
            refine (calls_wide hF hal hd FC).mono ?_
            clear FC
            rintro e w5 ⟨rfl, hb5⟩
            have hbx5 := HBX.out.below hb5 HBX.out.lt
            obtain ⟨p0, p1, p2, p3⟩ := hbx5.cells4
            have hb6 : Below wr.heap.size wr w5 := (below_alloc _ _).trans (hb5.mono (by simp))
            have hm5 := HMR.out.below hb6
            have HB6 := Lib.hid hb6
            have HM5 := Lib.hid hm5
            have HOX := Lib.hid (show ¬ OwnS p sv' wr.heap.size from fun h => by have := HMR.out.own_lt h; omega)
            by_cases h0 : f1 < 0
            · have AC := array_any hm5
              rw [← HA2.out] at AC
              have SC1 := setslot_any hm5 ((a : Int) + 2 * f2) ⟨kt, kn⟩
              unfold V.val at SC1
              simp only at SC1
              clear hb5 hb6 hm5
              gi_wp2
              refine (calls_wide hF hal hd AC).mono ?_
              clear AC
              rintro e w6 ⟨rfl, rfl⟩
              gi_wp2
              refine (calls_wide hF hal hd SC1).mono ?_
              clear SC1
              rintro e w6 ⟨rfl, hm6, hv6⟩
              have hbx6 := hbx5.mv hv6 HOX.out
              clear p0 p1 p2 p3
              obtain ⟨p0, p1, p2, p3⟩ := hbx6.cells4
              have SC2 := setslot_any hm6 ((a : Int) + 2 * f2 + 1) ⟨vt, vn⟩
              unfold V.val at SC2
              simp only at SC2
              have HV6 := Lib.hid hv6
              clear hv6 hm6
              gi_wp2
              refine (calls_wide hF hal hd SC2).mono ?_
              clear SC2
              rintro e w7 ⟨rfl, hm7, hv7⟩
              have HM7 := Lib.hid (show MemAt w7 p sv' (((pairsL T).take (i + 1)).foldl insT T0) from by rw [HINS.out, if_pos h0]; exact hm7)
              have HK7 := Lib.hid ((((HKR.out.trans (Keep.of_below HB6.out)).trans HV6.out.1)).trans hv7.1)
              clear hm7 hv7
              gi_wp2
              go_roundw
              case rel => exact ⟨i + 1, by omega, by go_num, HM7.out, HK7.out⟩
              case measure => simp [intOf]; omega
            · have SC1 := setslot_any hm5 f1 ⟨vt, vn⟩
              unfold V.val at SC1
              simp only at SC1
              clear hb5 hb6 hm5
              gi_wp2
              refine (calls_wide hF hal hd SC1).mono ?_
              clear SC1
              rintro e w7 ⟨rfl, hm7, hv7⟩
              have HM7 := Lib.hid (show MemAt w7 p sv' (((pairsL T).take (i + 1)).foldl insT T0) from by rw [HINS.out, if_neg (by omega)]; exact hm7)
              have HK7 := Lib.hid ((HKR.out.trans (Keep.of_below HB6.out)).trans hv7.1)
              clear hm7 hv7
              gi_wp2
              go_roundw
              case rel => exact ⟨i + 1, by omega, by go_num, HM7.out, HK7.out⟩
              case measure => simp [intOf]; omega
          · obtain rfl : N = i := by omega
            have HMR := Lib.hid (show MemAt wr p sv' (renewT T ⟨t, n⟩).1 from by rw [HRN.out]; rw [show (pairsL T).take N = pairsL T by rw [HN.out, List.take_length]] at hmr; exact hmr)
            have HKR := Lib.hid hkr
            clear hmr hkr
            gi_wp2
            have hK5 : wr.heap[D]? = some (.deferred (some [])) := (HKR.out.block D (by have := HMV.out.1.size; exact (Array.getElem?_eq_some_iff.1 HK4.out).1) (HNS.out D (by have := HSZ.out; omega) (by omega))).trans HK4.out
            refine ⟨by simp, .inl ⟨_, _, rfl, run_takeDeferred hK5, ?_⟩⟩
            refine ⟨.int .i64 0, ?_, ?_⟩
            · simp [results, Try.f37, go_sem]
            · exact ⟨sv', by rw [HRN.out], HMR.out.grown (grownBy_putObj' _ D _) (fun r e => by cases e; exact ⟨_, hK5, rfl⟩), (HMV.out.trans ⟨HKR.out, fun _ h => .inl h⟩).putObj (by have := HSZ.out; have := HBB.out; omega) _⟩
      · have hr8 : resizeR T sa sn = 8 := by unfold resizeR; rw [if_neg (by omega)]
        rw [hr8]
        have HRN := Lib.hid (show renewT T ⟨t, n⟩ = (T, 8) from by unfold renewT; rw [← HSA.out, ← HSN.out, if_neg (by omega)])
        clear hr8 hfit
        gi_wp2
        have hK5 : w4.heap[D]? = some (.deferred (some [])) := (HBC.out.block D hWD).trans HKK.out
        refine ⟨by simp, .inl ⟨_, _, rfl, run_takeDeferred hK5, ?_⟩⟩
        refine ⟨.int .i64 8, ?_, ?_⟩
        · simp [results, Try.f37, go_sem]
        · have hBB := HBc.out
          rw [HBB.out] at hBB
          exact ⟨sv, by rw [HRN.out], by rw [HRN.out]; exact (HH.out.below hBB).grown (grownBy_putObj' _ D _) (fun r e => by cases e; exact ⟨_, hK5, rfl⟩), (Mv.below hBB).putObj (by have := HSZ.out; have := HBB.out; omega) _⟩
  case stop =>
    rintro D c pre W hD _ hF
    exact hF.elim
end Go.Proofs.Ytpodgmajccmgkaa
