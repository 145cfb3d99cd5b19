/- pairs: the iterator over the keys that have a value. -/
import Derived.Test.YtpodgmajccmgkaaTabPut
import Derived.Deep.RegionHeld3
import Derived.Sort.CutIn
namespace Go.Proofs.Ytpodgmajccmgkaa
open Go.RowKit Go.Shelf Go.BigFrame
set_option linter.unusedVariables false
set_option linter.unusedSimpArgs false
attribute [local go_sem] Oper.semAt_some nil_slot field_t meth_array meth_nodes meth_slot meth_setslot meth_resize meth_hash

variable {w w' : World} {p : Nat} {sv sv' : Value} {T T' : Tb}

/-- What pairs hands out: a place, a key, its value. -/
structure Pr where
  i : Nat
  k : V
  v : V

def arrP (T : Tb) (i : Nat) : Option Pr := if (slotT T (i : Int)).t = 0 then none else some ⟨i, ⟨2, (i : Int) + 1⟩, slotT T (i : Int)⟩
def nodP (T : Tb) (i : Nat) : Option Pr := if (slotT T ((T.a + 2 * i + 1 : Nat) : Int)).t = 0 then none else some ⟨T.a + 2 * i + 1, slotT T ((T.a + 2 * i : Nat) : Int), slotT T ((T.a + 2 * i + 1 : Nat) : Int)⟩
def arrL (T : Tb) (n : Nat) : List Pr := (List.range n).filterMap (arrP T)
def nodL (T : Tb) (n : Nat) : List Pr := (List.range n).filterMap (nodP T)
def pairsL (T : Tb) : List Pr := arrL T T.a ++ nodL T T.nodes

theorem arrL_succ (T : Tb) (n : Nat) : arrL T (n + 1) = arrL T n ++ (arrP T n).toList := by
  unfold arrL
  rw [List.range_succ, List.filterMap_append]
  cases h : arrP T n <;> simp [h]
theorem nodL_succ (T : Tb) (n : Nat) : nodL T (n + 1) = nodL T n ++ (nodP T n).toList := by
  unfold nodL
  rw [List.range_succ, List.filterMap_append]
  cases h : nodP T n <;> simp [h]

theorem arrL_pre {T : Tb} {n : Nat} (h : n ≤ T.a) : arrL T n <+: pairsL T := by
  have : ∀ d, arrL T n <+: arrL T (n + d) := by
    intro d
    induction d with
    | zero => exact List.prefix_refl _
    | succ d ih => rw [← Nat.add_assoc, arrL_succ]; exact ih.trans (List.prefix_append _ _)
  have h2 := this (T.a - n)
  rw [show n + (T.a - n) = T.a by omega] at h2
  exact h2.trans (List.prefix_append _ _)
theorem nodL_pre {T : Tb} {n : Nat} (h : n ≤ T.nodes) : arrL T T.a ++ nodL T n <+: pairsL T := by
  have : ∀ d, nodL T n <+: nodL T (n + d) := by
    intro d
    induction d with
    | zero => exact List.prefix_refl _
    | succ d ih => rw [← Nat.add_assoc, nodL_succ]; exact ih.trans (List.prefix_append _ _)
  have h2 := this (T.nodes - n)
  rw [show n + (T.nodes - n) = T.nodes by omega] at h2
  exact (List.prefix_append_right_inj _).2 h2

theorem filterMap_range_len {α : Type} (f : Nat → Option α) (n : Nat) : ((List.range n).filterMap f).length ≤ n := by
  have := List.length_filterMap_le f (List.range n)
  simpa using this
theorem arrL_len (T : Tb) (n : Nat) : (arrL T n).length ≤ n := filterMap_range_len _ _
theorem nodL_len (T : Tb) (n : Nat) : (nodL T n).length ≤ n := filterMap_range_len _ _

def encP (x : Pr) : Array Value := #[.int .i64 x.i, .agg #[.int .i64 x.k.t, .int .i64 x.k.n, .int .i64 x.v.t, .int .i64 x.v.n]]

def PairsPost (T : Tb) (J Jx : List Pr → World → Prop) (e : Ending) (W' : World) : Prop := (∃ v, e = .returned v) ∧
      ((∃ ys, ys = pairsL T ∧ J ys W') ∨ (∃ pre, pre <+: pairsL T ∧ Jx pre W'))

/-- A world behind wr, in which the store's box stands. -/
def PS (wr : World) (bs p : Nat) (w' : World) : Prop := bs < wr.heap.size ∧ Below wr.heap.size wr w'
def PSC (wr : World) (bs p : Nat) (w' : World) : Prop := PS wr bs p w' ∧ w'.cell? ⟨bs, 0, none⟩ = some (.iface 23 (.pointer (some ⟨p, 0, none⟩)))
theorem PSC.le {wr : World} {bs p : Nat} {w' : World} (h : PSC wr bs p w') : wr.heap.size ≤ w'.heap.size := h.1.2.size
theorem PSC.alloc {wr : World} {bs p : Nat} {w' : World} (h : PSC wr bs p w') (o : Obj) : PSC wr bs p (w'.alloc o) :=
  ⟨⟨h.1.1, h.1.2.alloc h.le o⟩, by rw [World.cell?_alloc_some _ _ _ (by rw [h.2]; rfl)]; exact h.2⟩
theorem PSC.set {wr : World} {bs p : Nat} {w' : World} (h : PSC wr bs p w') {q : Addr} (hq : wr.heap.size ≤ q.block) (v : Value) : PSC wr bs p (w'.setCell q v) :=
  ⟨⟨h.1.1, h.1.2.setCell hq v⟩, by rw [World.cell?_setCell_far _ _ _ _ (by have := h.1.1; show q.block ≠ bs; omega)]; exact h.2⟩
theorem PSC.trans {wr : World} {bs p : Nat} {w' w'' : World} (h : PSC wr bs p w') (hb : Below w'.heap.size w' w'') : PSC wr bs p w'' :=
  ⟨⟨h.1.1, h.1.2.trans (hb.mono h.le)⟩, by have := hb.cell (p := ⟨bs, 0, none⟩) (show bs < w'.heap.size from Nat.lt_of_lt_of_le h.1.1 h.le); rw [this]; exact h.2⟩
theorem PSC.alloc2 {wr : World} {bs p : Nat} {w' : World} (h : PSC wr bs p w' ∧ w'.cell? ⟨bs, 0, none⟩ = some (.iface 23 (.pointer (some ⟨p, 0, none⟩)))) (o : Obj) : PSC wr bs p (w'.alloc o) ∧ (w'.alloc o).cell? ⟨bs, 0, none⟩ = some (.iface 23 (.pointer (some ⟨p, 0, none⟩))) := ⟨h.1.alloc o, (h.1.alloc o).2⟩
theorem PSC.drew2 {wr : World} {bs p : Nat} {w' : World} (h : PSC wr bs p w' ∧ w'.cell? ⟨bs, 0, none⟩ = some (.iface 23 (.pointer (some ⟨p, 0, none⟩)))) : PSC wr bs p w'.drew ∧ w'.drew.cell? ⟨bs, 0, none⟩ = some (.iface 23 (.pointer (some ⟨p, 0, none⟩))) := ⟨⟨⟨h.1.1.1, h.1.1.2.drew⟩, h.2⟩, h.2⟩
theorem PSC.set2 {wr : World} {bs p : Nat} {w' : World} (h : PSC wr bs p w' ∧ w'.cell? ⟨bs, 0, none⟩ = some (.iface 23 (.pointer (some ⟨p, 0, none⟩)))) {q : Addr} (hq : wr.heap.size ≤ q.block) (v : Value) : PSC wr bs p (w'.setCell q v) ∧ (w'.setCell q v).cell? ⟨bs, 0, none⟩ = some (.iface 23 (.pointer (some ⟨p, 0, none⟩))) := ⟨h.1.set hq v, (h.1.set hq v).2⟩
theorem PSC.trans2 {wr : World} {bs p : Nat} {w' w'' : World} (h : PSC wr bs p w' ∧ w'.cell? ⟨bs, 0, none⟩ = some (.iface 23 (.pointer (some ⟨p, 0, none⟩)))) (hb : Below w'.heap.size w' w'') : PSC wr bs p w'' ∧ w''.cell? ⟨bs, 0, none⟩ = some (.iface 23 (.pointer (some ⟨p, 0, none⟩))) := ⟨h.1.trans hb, (h.1.trans hb).2⟩
theorem PSC.le2 {wr : World} {bs p : Nat} {w' : World} (h : PSC wr bs p w' ∧ w'.cell? ⟨bs, 0, none⟩ = some (.iface 23 (.pointer (some ⟨p, 0, none⟩)))) : wr.heap.size ≤ w'.heap.size := h.1.le
theorem box1 {w w1 : World} {x y : Value} {e : TypeId} (hb : Below (w.alloc (.cells #[x, y] e)).heap.size (w.alloc (.cells #[x, y] e)) w1) : Box w1 w.heap.size [x, y] e :=
  (Box.new w [x, y] e).below hb (by simp)

theorem below_drew {w w1 : World} (hb : Below w.drew.heap.size w.drew w1) : Below w.heap.size w w1 := ⟨hb.os, hb.tape, hb.output, hb.size, hb.block⟩
theorem box1d {w w1 : World} {x y : Value} {e : TypeId} (hb : Below (w.alloc (.cells #[x, y] e)).drew.heap.size (w.alloc (.cells #[x, y] e)).drew w1) : Box w1 w.heap.size [x, y] e := box1 (below_drew hb)
theorem boxes2d {w w1 : World} {x y x' y' : Value} {e e' : TypeId} (hb : Below ((w.alloc (.cells #[x, y] e)).alloc (.cells #[x', y'] e')).drew.heap.size ((w.alloc (.cells #[x, y] e)).alloc (.cells #[x', y'] e')).drew w1) :
    Box w1 w.heap.size [x, y] e ∧ Box w1 (w.heap.size + 1) [x', y'] e' ∧ Below w.heap.size w w1 := boxes2 (below_drew hb)

set_option maxRecDepth 100000 in
set_option maxHeartbeats 4000000 in
theorem pairs1_in (F : Fence) (n : Nat) (hF : ∀ f, F.fn f) (hal : F.alive = false) (hd : F.depth = none) (hro : F.round = none) (hn : 1 ≤ n) (l bs : Nat) (C : Nat → Prop) (J Jx : List Pr → World → Prop) (W : World)
    (hJ : AbidesFrom W.heap.size J)
    (hY : ∀ pre x W1, J pre W1 → pre.length < T.sl.length + 1 → YieldAt F (n - 1) Try.prog l (encP x) W1 fun e W' =>
      (e = .returned (.bool true) ∧ J (pre ++ [x]) W' ∧ KpC C W1 W') ∨ (e = .returned (.bool false) ∧ Jx (pre ++ [x]) W'))
    (H : MemAt W p sv T) (hC : ∀ k, OwnS p sv k → ¬ C k) (hCb : ¬ C bs)
    (hbs : Box W bs [memV p] 59) (h0 : J [] W) :
    CallsIn F n Try.prog 47 #[.func (.yield l) #[] #[], .pointer (some ⟨bs, 0, none⟩)] W fun e W' => PairsPost T J Jx e W' := by
  refine callsIn_of_wp Try.func47 rfl (hF _) ?_ hro
  simp only [Try.ntmps47, List.size_toArray, List.length_cons, List.length_nil, Nat.reduceAdd, Nat.reduceSub, Array.replicate_succ, Array.replicate_zero, List.push_toArray, List.append_toArray, List.nil_append, List.cons_append]
  unfold memV at hbs
  have HC := Lib.hid hC
  have HJ := Lib.hid hJ
  have HY := Lib.hid hY
  have HH := Lib.hid H
  clear hC hJ hY H
  have b1 := hbs.cell 0
  simp only [List.getElem?_cons_zero] at b1
  obtain ⟨a, ha⟩ : ∃ a, a = T.a := ⟨_, rfl⟩
  have HA := Lib.hid ha
  have AC := array_any HH.out
  rw [← ha] at AC
  have hn2 := nodes_le HH.out.le
  have hsm := HH.out.small
  have hal2 := HH.out.le
  rw [← ha] at hn2 hal2
  clear ha
  gi_wp2
  refine (calls_wide hF hal hd AC).mono ?_
  rintro e w1 ⟨rfl, rfl⟩
  clear AC
  gi_wp2
  gi_loopw [12] (fun t12 wr => ∃ i : Nat, i ≤ a ∧ t12 = .int .i64 i ∧ J (arrL T i) wr ∧ KpC C w1 wr) (fun t12 _ => a - (intOf t12).toNat)
  case atStart => exact ⟨0, Nat.zero_le _, by go_num, h0, KpC.refl _ _⟩
  case round =>
    obtain ⟨i, hi, rfl, hJr, hkr⟩ := hrel
    by_cases hlt : i < a
    · have Hr := HH.out.kp hkr HC.out
      have hbr := hbs.kp hkr hCb
      have b2 := hbr.cell 0
      simp only [List.getElem?_cons_zero] at b2
      have SC := slot_any Hr (i : Int)
      obtain ⟨y, hy⟩ : ∃ y, y = slotT T (i : Int) := ⟨_, rfl⟩
      rw [← hy] at SC
      have HY1 := Lib.hid hy
      obtain ⟨yt, yn⟩ := y
      unfold V.val at SC
      simp only at SC
      have HJr := Lib.hid hJr
      have HKr := Lib.hid hkr
      clear hJr hkr hy Hr hbr
      gi_wp2
      refine (calls_wide hF hal hd SC).mono ?_
      clear SC
      rintro e w2 ⟨rfl, hb2⟩
      gi_wp2
      have HB2 := Lib.hid hb2
      clear b2
      by_cases h0 : yt = 0
      · have hq : (yt != 0) = false := by simp [h0]
        have hq2 : (yt == 0) = true := by simp [h0]
        subst h0
        refine wpIn_of_wp hF hal hd hro ?_
        go_quiet (fail)
        have HJN := Lib.hid (show J (arrL T (i + 1)) w2 from by
          have e : arrL T (i + 1) = arrL T i := by rw [arrL_succ]; unfold arrP; rw [← HY1.out, if_pos rfl]; simp
          rw [e]
          exact HJ.out _ wr w2 none HJr.out ⟨hb2.os, hb2.tape, hb2.output, hb2.size, fun k hk _ => hb2.block k hk⟩ (fun r e => by cases e))
        have hJ3 := HJ.out _ w2 ((w2.alloc (Obj.cells #[.int .i64 0, .int .i64 yn] 27)).drewN nq) none HJN.out ⟨rfl, rfl, rfl, by simp [World.drewN], fun k hk _ => (Below.heap_alloc _ _ _ hk)⟩ (fun r e => by cases e)
        have hk3 : KpC C w1 ((w2.alloc (Obj.cells #[.int .i64 0, .int .i64 yn] 27)).drewN nq) := (HKr.out.trans (KpC.of_below hb2)).trans ((KpC.alloc C w2 _).trans ⟨Nat.le_refl _, fun _ _ h _ _ => h⟩)
        have HJ3 := Lib.hid hJ3
        have HK3 := Lib.hid hk3
        clear hJ3 hk3 hb2
        simp only [Exit.then]
        gi_wp2
        go_roundw
        case rel => exact ⟨i + 1, by omega, by go_num, HJ3.out, HK3.out⟩
        case measure => simp [intOf]; omega
      · have hq : (yt != 0) = true := by simp [h0]
        have hq2 : (yt == 0) = false := by simp [h0]
        have hw1 : IntKind.i64.wrap ((i : Int) + 1) = (i : Int) + 1 := IntWalk.i64_in _ (by omega)
        obtain ⟨w3, hw3⟩ : ∃ w3, w3 = (w2.alloc (Obj.cells #[.int .i64 yt, .int .i64 yn] 27)).drew := ⟨_, rfl⟩
        have hbx : Box w3 w2.heap.size [.int .i64 yt, .int .i64 yn] 27 := by rw [hw3]; exact Box.new w2 _ _
        have hB3 : Below w2.heap.size w2 w3 := by rw [hw3]; exact (below_alloc _ _).drew
        have HJ3 := Lib.hid (show J (arrL T i) w3 from by
          have hb := hb2.trans (hB3.mono hb2.size)
          exact HJ.out _ wr w3 none HJr.out ⟨hb.os, hb.tape, hb.output, hb.size, fun k hk _ => hb.block k hk⟩ (fun r e => by cases e))
        have HK3 := Lib.hid (show KpC C w1 w3 from (HKr.out.trans (KpC.of_below hb2)).trans ⟨hB3.size, fun k o hk _ _ => (hB3.block k (Array.getElem?_eq_some_iff.1 hk).1).trans hk⟩)
        have hnew := HKr.out.size
        have hn3 : w1.heap.size ≤ w2.heap.size := Nat.le_trans hnew hb2.size
        clear hnew
        refine wpIn_region_any (by kernel_rfl) ?_
        change wpAnyIn _ _ _ _ _ _ _ _ _ (World.drew _)
        rw [← hw3]
        clear hw3 hB3 hb2
        obtain ⟨z0, z1, -, -⟩ := hbx.cells2
        have HBX := Lib.hid hbx
        clear hbx
        refine wpAnyIn_ready (rs := [0]) (by kernel_rfl) (by simp) ?_
        refine AllReadyIn.cons rfl (fun KK hKK => ?_) AllReadyIn.nil
        go_simp
        refine hKK _ _ ?_
        clear hKK KK
        refine wpAnyIn_ready (rs := [1]) (by kernel_rfl) (by simp) ?_
        refine AllReadyIn.cons rfl (fun KK hKK => ?_) AllReadyIn.nil
        go_simp
        refine hKK _ _ ?_
        clear hKK KK
        refine wpAnyIn_ready (rs := [2]) (by kernel_rfl) (by simp) ?_
        refine AllReadyIn.cons rfl (fun KK hKK => ?_) AllReadyIn.nil
        go_simp
        refine hKK _ _ ?_
        clear hKK KK
        refine wpAnyIn_ready (rs := [3]) (by kernel_rfl) (by simp) ?_
        refine AllReadyIn.cons rfl (fun KK hKK => ?_) AllReadyIn.nil
        go_simp
        refine hKK _ _ ?_
        clear hKK KK
        refine wpAnyIn_take (i := 4) (v := ?_) hro rfl (by kernel_rfl) (by kernel_rfl) (by kernel_rfl) (fun _ _ _ h => h) ⟨Or.inl ⟨by rfl, ?_⟩, fun _ => rfl⟩ ?_
        rotate_left
        · intro w; go_simp
          all_goals (with_reducible rfl)
        refine wpAnyIn_take (i := 5) (v := ?_) hro rfl (by kernel_rfl) (by kernel_rfl) (by kernel_rfl) (fun _ _ _ h => h) ⟨Or.inl ⟨by rfl, ?_⟩, fun _ => rfl⟩ ?_
        rotate_left
        · intro w; go_simp
          all_goals (with_reducible rfl)
        refine wpAnyIn_take (i := 6) (v := ?_) hro rfl (by kernel_rfl) (by kernel_rfl) (by kernel_rfl) (fun _ _ _ h => h) ⟨Or.inl ⟨by rfl, ?_⟩, fun _ => rfl⟩ ?_
        rotate_left
        · intro w; go_simp
          all_goals (with_reducible rfl)
        refine wpAnyIn_take (i := 7) (v := ?_) hro rfl (by kernel_rfl) (by kernel_rfl) (by kernel_rfl) (fun _ _ _ h => h) ⟨Or.inl ⟨by rfl, ?_⟩, fun _ => rfl⟩ ?_
        rotate_left
        · intro w; go_simp
          all_goals (with_reducible rfl)
        have hYT : ∀ w4, Below w3.heap.size w3 w4 → YieldAt F (n - 1) Try.prog l (encP ⟨i, ⟨2, (i : Int) + 1⟩, ⟨yt, yn⟩⟩) w4 fun e W' =>
            (e = .returned (.bool true) ∧ J (arrL T (i + 1)) W' ∧ KpC C w4 W') ∨ (e = .returned (.bool false) ∧ Jx (arrL T (i + 1)) W') := by
          intro w4 hb
          have e : arrL T (i + 1) = arrL T i ++ [⟨i, ⟨2, (i : Int) + 1⟩, ⟨yt, yn⟩⟩] := by rw [arrL_succ]; unfold arrP; rw [← HY1.out, if_neg h0]; rfl
          rw [e]
          exact HY.out _ _ _ (HJ.out _ w3 w4 none HJ3.out ⟨hb.os, hb.tape, hb.output, hb.size, fun k hk _ => hb.block k hk⟩ (fun r e => by cases e)) (by have := arrL_len T i; omega)
        have HYT := Lib.hid hYT
        clear hYT
        have IC : ∀ w', Calls Try.prog 18 #[.int .i64 ((i : Int) + 1)] w' fun e w'' => e = .returned (.agg #[.int .i64 2, .int .i64 ((i : Int) + 1)]) ∧ Below w'.heap.size w' w'' := fun w' => int_any _ w'
        have HIC := Lib.hid IC
        clear IC
        refine wpAnyIn_ready (rs := [8, 9]) (by kernel_rfl) (by simp) ?_
        refine AllReadyIn.cons rfl (fun KK hKK => ?_) (AllReadyIn.cons rfl (fun KK hKK => ?_) AllReadyIn.nil)
        · go_simp
          refine (calls_wide hF hal hd (HIC.out _)).mono ?_
          rintro e w4 ⟨rfl, hb4⟩
          have hb5 := HBX.out.below hb4 HBX.out.lt
          obtain ⟨y0, y1, -, -⟩ := hb5.cells2
          have HB4 := Lib.hid hb4
          clear hb4 hb5 z0 z1
          go_simp
          refine hKK _ _ ?_
          clear hKK KK
          refine wpAnyIn_ready (rs := [9]) (by kernel_rfl) (by simp) ?_
          refine AllReadyIn.cons rfl (fun KK hKK => ?_) AllReadyIn.nil
          go_simp
          refine hKK _ _ ?_
          clear hKK KK
          refine wpAnyIn_ready (rs := [10]) (by kernel_rfl) (by simp) ?_
          refine AllReadyIn.cons rfl (fun KK hKK => ?_) AllReadyIn.nil
          go_simp
          refine hKK _ _ ?_
          clear hKK KK
          obtain ⟨fn, tmps, assign, body, hy, hR⟩ := HYT.out w4 HB4.out
          simp only [encP] at hy
          refine wpAnyIn_ready (rs := [11]) (by kernel_rfl) (by simp) ?_
          refine AllReadyIn.cons rfl (fun KK hKK => ?_) AllReadyIn.nil
          go_simp
          refine hR.mono ?_
          rintro e W3 (⟨rfl, hJ5, hk5⟩ | ⟨rfl, hJx5⟩)
          · refine hKK _ _ ?_
            clear hKK KK hR hy
            have HK5 := Lib.hid ((HK3.out.trans (KpC.of_below HB4.out)).trans hk5)
            have HJ5 := Lib.hid hJ5
            clear hk5 hJ5
            refine wpAnyIn_ready (rs := [12]) (by kernel_rfl) (by simp) ?_
            refine AllReadyIn.cons rfl (fun KK hKK => ?_) AllReadyIn.nil
            go_simp
            refine hKK _ _ ?_
            clear hKK KK
            refine wpAnyIn_ready (rs := [13]) (by kernel_rfl) (by simp) ?_
            refine AllReadyIn.cons rfl (fun KK hKK => ?_) AllReadyIn.nil
            go_simp
            refine hKK _ _ ?_
            clear hKK KK
            refine wpAnyIn_done (by kernel_rfl) ?_ _
            gi_wp2
            go_roundw
            case rel => exact ⟨i + 1, by omega, by go_num, HJ5.out, HK5.out⟩
            case measure => simp [intOf]; omega
          · refine hKK _ _ ?_
            clear hKK KK hR hy
            have HJ5 := Lib.hid (show PairsPost T J Jx (.returned (.tuple #[])) W3 from ⟨⟨_, rfl⟩, .inr ⟨_, arrL_pre (by have := HA.out; omega), hJx5⟩⟩)
            clear hJx5
            refine wpAnyIn_ready (rs := [12]) (by kernel_rfl) (by simp) ?_
            refine AllReadyIn.cons rfl (fun KK hKK => ?_) AllReadyIn.nil
            go_simp
            refine hKK _ _ ?_
            clear hKK KK
            refine wpAnyIn_ready (rs := [13]) (by kernel_rfl) (by simp) ?_
            refine AllReadyIn.cons rfl (fun KK hKK => ?_) AllReadyIn.nil
            go_simp
            refine hKK _ _ ?_
            clear hKK KK
            refine wpAnyIn_done (by kernel_rfl) ?_ _
            gi_wp2
            go_end0
            exact HJ5.out
        · go_simp
          refine hKK _ _ ?_
          clear hKK KK
          refine wpAnyIn_ready (rs := [8]) (by kernel_rfl) (by simp) ?_
          refine AllReadyIn.cons rfl (fun KK hKK => ?_) AllReadyIn.nil
          go_simp
          refine (calls_wide hF hal hd (HIC.out _)).mono ?_
          rintro e w4 ⟨rfl, hb4⟩
          have HB4 := Lib.hid hb4
          clear hb4
          go_simp
          refine hKK _ _ ?_
          clear hKK KK
          refine wpAnyIn_ready (rs := [10]) (by kernel_rfl) (by simp) ?_
          refine AllReadyIn.cons rfl (fun KK hKK => ?_) AllReadyIn.nil
          go_simp
          refine hKK _ _ ?_
          clear hKK KK
          obtain ⟨fn, tmps, assign, body, hy, hR⟩ := HYT.out w4 HB4.out
          simp only [encP] at hy
          refine wpAnyIn_ready (rs := [11]) (by kernel_rfl) (by simp) ?_
          refine AllReadyIn.cons rfl (fun KK hKK => ?_) AllReadyIn.nil
          go_simp
          refine hR.mono ?_
          rintro e W3 (⟨rfl, hJ5, hk5⟩ | ⟨rfl, hJx5⟩)
          · refine hKK _ _ ?_
            clear hKK KK hR hy
            have HK5 := Lib.hid ((HK3.out.trans (KpC.of_below HB4.out)).trans hk5)
            have HJ5 := Lib.hid hJ5
            clear hk5 hJ5
            refine wpAnyIn_ready (rs := [12]) (by kernel_rfl) (by simp) ?_
            refine AllReadyIn.cons rfl (fun KK hKK => ?_) AllReadyIn.nil
            go_simp
            refine hKK _ _ ?_
            clear hKK KK
            refine wpAnyIn_ready (rs := [13]) (by kernel_rfl) (by simp) ?_
            refine AllReadyIn.cons rfl (fun KK hKK => ?_) AllReadyIn.nil
            go_simp
            refine hKK _ _ ?_
            clear hKK KK
            refine wpAnyIn_done (by kernel_rfl) ?_ _
            gi_wp2
            go_roundw
            case rel => exact ⟨i + 1, by omega, by go_num, HJ5.out, HK5.out⟩
            case measure => simp [intOf]; omega
          · refine hKK _ _ ?_
            clear hKK KK hR hy
            have HJ5 := Lib.hid (show PairsPost T J Jx (.returned (.tuple #[])) W3 from ⟨⟨_, rfl⟩, .inr ⟨_, arrL_pre (by have := HA.out; omega), hJx5⟩⟩)
            clear hJx5
            refine wpAnyIn_ready (rs := [12]) (by kernel_rfl) (by simp) ?_
            refine AllReadyIn.cons rfl (fun KK hKK => ?_) AllReadyIn.nil
            go_simp
            refine hKK _ _ ?_
            clear hKK KK
            refine wpAnyIn_ready (rs := [13]) (by kernel_rfl) (by simp) ?_
            refine AllReadyIn.cons rfl (fun KK hKK => ?_) AllReadyIn.nil
            go_simp
            refine hKK _ _ ?_
            clear hKK KK
            refine wpAnyIn_done (by kernel_rfl) ?_ _
            gi_wp2
            go_end0
            exact HJ5.out
    · obtain rfl : a = i := by omega
      have HJr := Lib.hid hJr
      have HKr := Lib.hid hkr
      have b2 := (hbs.kp hkr hCb).cell 0
      simp only [List.getElem?_cons_zero] at b2
      have NC := nodes_any (HH.out.kp hkr HC.out)
      obtain ⟨N, hN⟩ : ∃ N, N = T.nodes := ⟨_, rfl⟩
      have HN := Lib.hid hN
      rw [← hN] at NC hn2
      clear hJr hkr hN
      gi_wp2
      refine (calls_wide hF hal hd NC).mono ?_
      clear NC
      rintro e w2 ⟨rfl, hb2⟩
      have HJ2 := Lib.hid (show J (arrL T T.a ++ nodL T 0) w2 from by
        rw [← HA.out]
        simpa [nodL] using HJ.out (arrL T a) wr w2 none HJr.out ⟨hb2.os, hb2.tape, hb2.output, hb2.size, fun k hk _ => hb2.block k hk⟩ (fun r e => by cases e))
      have HK2 := Lib.hid (HKr.out.trans (KpC.of_below hb2))
      clear hb2 b2
      gi_wp2
      gi_loopw [35] (fun t35 wr => ∃ i : Nat, i ≤ N ∧ t35 = .int .i64 i ∧ J (arrL T T.a ++ nodL T i) wr ∧ KpC C w1 wr) (fun t35 _ => N - (intOf t35).toNat)
      case atStart => exact ⟨0, Nat.zero_le _, by go_num, HJ2.out, HK2.out⟩
      case round =>
        obtain ⟨i, hi, rfl, hJr, hkr⟩ := hrel
        by_cases hlt : i < N
        · have Hr := HH.out.kp hkr HC.out
          have hbr := hbs.kp hkr hCb
          have b2 := hbr.cell 0
          simp only [List.getElem?_cons_zero] at b2
          have hps0 : PSC wr bs p wr.drew := ⟨⟨hbr.lt, (Below.refl _ _).drew⟩, b2⟩
          have SC : ∀ (j : Int) w', PSC wr bs p w' → Calls Try.prog 22 #[.pointer (some ⟨p, 0, none⟩), .int .i64 j] w' fun e w'' => e = .returned (.agg #[.int .i64 (slotT T j).t, .int .i64 (slotT T j).n]) ∧ Below w'.heap.size w' w'' := fun j w' hw => slot_any (Hr.below hw.1.2) j
          have q1 : IntKind.i64.wrap (2 * (i : Int)) = 2 * (i : Int) := IntWalk.i64_in _ (by omega)
          have q2 : IntKind.i64.wrap ((a : Int) + 2 * (i : Int)) = (a : Int) + 2 * (i : Int) := IntWalk.i64_in _ (by omega)
          have q3 : IntKind.i64.wrap ((a : Int) + 2 * (i : Int) + 1) = (a : Int) + 2 * (i : Int) + 1 := IntWalk.i64_in _ (by omega)
          have HPS := Lib.hid hps0
          have HPW := Lib.hid (show PSC wr bs p wr from ⟨⟨hbr.lt, Below.refl _ _⟩, b2⟩)
          have HSC := Lib.hid SC
          have HJr := Lib.hid hJr
          have HKr := Lib.hid hkr
          clear hJr hkr Hr hbr SC hps0
          gi_wp2
          gi_cut [7, 8] from 1000 (fun t7 t8 wc => ∃ b7 b8 : Nat, t7 = .pointer (some ⟨b7, 0, none⟩) ∧ t8 = .pointer (some ⟨b8, 0, none⟩) ∧ wc.cell? ⟨b7, 0, none⟩ = some (.int .i64 (slotT T ((a : Int) + 2 * (i : Int))).t) ∧ wc.cell? ⟨b7, 1, none⟩ = some (.int .i64 (slotT T ((a : Int) + 2 * (i : Int))).n) ∧
            wc.cell? ⟨b8, 0, none⟩ = some (.int .i64 (slotT T ((a : Int) + 2 * (i : Int) + 1)).t) ∧ wc.cell? ⟨b8, 1, none⟩ = some (.int .i64 (slotT T ((a : Int) + 2 * (i : Int) + 1)).n) ∧ PSC wr bs p wc)
          case first =>
            refine wpIn_of_wp hF hal hd hro ?_
            go_region_held3 (fun w' => PSC wr bs p w' ∧ w'.cell? ⟨bs, 0, none⟩ = some (.iface 23 (.pointer (some ⟨p, 0, none⟩))))
              (first | (with_reducible assumption) | exact ⟨HPS.out, HPS.out.2⟩ | ((repeat (with_reducible first | refine PSC.alloc2 ?_ _ | refine PSC.drew2 ?_ | refine PSC.set2 ?_ (by first | exact Nat.le_refl _ | exact Nat.le_succ _ | exact PSC.le2 (by assumption) | exact Nat.le_succ_of_le (PSC.le2 (by assumption)) | exact HPS.out.le | exact Nat.le_succ_of_le HPS.out.le) _)); first | (with_reducible assumption) | exact ⟨HPW.out, HPW.out.2⟩))
              ((refine (HSC.out _ _ (And.left (by assumption))).mono ?_; rintro e wz ⟨rfl, hb⟩; have s1 := PSC.trans2 (by assumption) hb; (first | (with_reducible have y1 := x1.below hb x1.lt; obtain ⟨p0, p1, p2, p3⟩ := y1.cells2; have l1 := y1.lt) | (with_reducible have y1 := (x1.alloc _).below hb (x1.alloc _).lt; obtain ⟨p0, p1, p2, p3⟩ := y1.cells2; have l1 := y1.lt) | skip); (first | (with_reducible have y2 := x2.below hb x2.lt; obtain ⟨r0, r1, r2, r3⟩ := y2.cells2; have l2 := y2.lt) | skip); (first | (with_reducible have x12 := boxes2d hb; obtain ⟨x1, x2, -⟩ := x12; obtain ⟨g0, g1, g2, g3⟩ := x1.cells2; have l3 := x1.lt; obtain ⟨h0, h1, h2, h3⟩ := x2.cells2; have l4 := x2.lt) | (with_reducible have x1 := box1d hb; obtain ⟨g0, g1, g2, g3⟩ := x1.cells2; have l3 := x1.lt) | (with_reducible have x12 := boxes2 hb; obtain ⟨x1, x2, -⟩ := x12; obtain ⟨g0, g1, g2, g3⟩ := x1.cells2; have l3 := x1.lt; obtain ⟨h0, h1, h2, h3⟩ := x2.cells2; have l4 := x2.lt) | (with_reducible have x1 := box1 hb; obtain ⟨g0, g1, g2, g3⟩ := x1.cells2; have l3 := x1.lt) | skip)))
            all_goals simp only [Exit.then]
            all_goals (apply_assumption; refine Met.intro ?_; apply_assumption; (repeat apply Exists.intro); refine ⟨?_, rfl⟩)
            all_goals (first
              | exact ⟨_, _, rfl, rfl, by go_simp, by go_simp, by go_simp, by go_simp, And.left (by assumption)⟩
              | (refine ⟨_, _, rfl, rfl, ?_, ?_, ?_, ?_, And.left (by assumption)⟩ <;> first | assumption | (go_simp; done) | (go_simp; trace_state) | trace_state)
              | trace_state)
          case rest =>
            obtain ⟨b7, b8, rfl, rfl, c0, c1, d0, d1, hps⟩ := hcut
            obtain ⟨⟨yt, yn⟩, hY⟩ : ∃ Y, Y = slotT T ((a : Int) + 2 * (i : Int) + 1) := ⟨_, rfl⟩
            obtain ⟨⟨kt, kn⟩, hK⟩ : ∃ Y, Y = slotT T ((a : Int) + 2 * (i : Int)) := ⟨_, rfl⟩
            rw [← hK] at c0 c1
            rw [← hY] at d0 d1
            simp only at c0 c1 d0 d1
            have hnod : nodP T i = if yt = 0 then none else some ⟨a + 2 * i + 1, ⟨kt, kn⟩, ⟨yt, yn⟩⟩ := by
              unfold nodP
              rw [← HA.out, show ((a + 2 * i + 1 : Nat) : Int) = (a : Int) + 2 * (i : Int) + 1 by omega, show ((a + 2 * i : Nat) : Int) = (a : Int) + 2 * (i : Int) by omega, ← hY, ← hK]
            have HPB := Lib.hid hps.1.2
            have hJ2 : J (arrL T T.a ++ nodL T i) wc := HJ.out _ wr wc none HJr.out ⟨hps.1.2.os, hps.1.2.tape, hps.1.2.output, hps.1.2.size, fun k hk _ => hps.1.2.block k hk⟩ (fun r e => by cases e)
            have HJ2 := Lib.hid hJ2
            have HKC := Lib.hid (HKr.out.trans (KpC.of_below hps.1.2))
            have HND := Lib.hid hnod
            clear hJ2 hps hY hK hnod b2
            by_cases h0 : yt = 0
            · have hq : (yt != 0) = false := by simp [h0]
              have hq2 : (yt == 0) = true := by simp [h0]
              have HJ3 := Lib.hid (show J (arrL T T.a ++ nodL T (i + 1)) wc from by
                rw [nodL_succ, HND.out, if_pos h0]; simpa using HJ2.out)
              subst h0
              gi_wp2
              go_roundw
              case rel => exact ⟨i + 1, by omega, by go_num, HJ3.out, HKC.out⟩
              case measure => simp [intOf]; omega
            · have hq : (yt != 0) = true := by simp [h0]
              have hq2 : (yt == 0) = false := by simp [h0]
              have e := HND.out
              rw [if_neg h0] at e
              have hyt := HY.out (arrL T T.a ++ nodL T i) ⟨a + 2 * i + 1, ⟨kt, kn⟩, ⟨yt, yn⟩⟩ wc HJ2.out (by
                have h1 := arrL_len T T.a
                have h2 := nodL_len T i
                have h3 := HA.out
                rw [List.length_append]; omega)
              rw [show arrL T T.a ++ nodL T i ++ [⟨a + 2 * i + 1, ⟨kt, kn⟩, ⟨yt, yn⟩⟩] = arrL T T.a ++ nodL T (i + 1) by rw [nodL_succ, e, List.append_assoc]; rfl] at hyt
              obtain ⟨fn, tmps, assign, body, hy, hR⟩ := hyt
              simp only [encP] at hy
              rw [show ((a + 2 * i + 1 : Nat) : Int) = (a : Int) + 2 * (i : Int) + 1 by omega] at hy
              clear e
              gi_wp2
              refine hR.mono ?_
              rintro e W3 (⟨rfl, hJ5, hk5⟩ | ⟨rfl, hJx5⟩)
              · have HJ5 := Lib.hid hJ5
                have HK5 := Lib.hid (HKC.out.trans hk5)
                clear hJ5 hk5 hR hy
                gi_wp2
                go_roundw
                case rel => exact ⟨i + 1, by omega, by go_num, HJ5.out, HK5.out⟩
                case measure => simp [intOf]; omega
              · have HJ5 := Lib.hid (show PairsPost T J Jx (.returned (.tuple #[])) W3 from ⟨⟨_, rfl⟩, .inr ⟨_, nodL_pre (by have := HN.out; omega), hJx5⟩⟩)
                clear hJx5 hR hy
                gi_wp2
                go_end0
                exact HJ5.out
        · obtain rfl : N = i := by omega
          have HP := Lib.hid (show PairsPost T J Jx (.returned (.tuple #[])) wr from ⟨⟨_, rfl⟩, .inl ⟨_, by rw [HN.out]; rfl, hJr⟩⟩)
          clear hJr hkr
          gi_wp2
          go_end0
          exact HP.out
end Go.Proofs.Ytpodgmajccmgkaa
