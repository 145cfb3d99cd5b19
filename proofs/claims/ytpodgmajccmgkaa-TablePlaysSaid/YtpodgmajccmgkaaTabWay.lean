/- way: the iterator over the nodes in which a key may lie. -/
import Derived.Test.YtpodgmajccmgkaaTabKey2
import Derived.Test.YtpodgmajccmgkaaQuietIn
import Derived.Stop.RegionWithIn
namespace Go.Proofs.Ytpodgmajccmgkaa
open Go.RowKit Go.Shelf Go.BigFrame
set_option linter.unusedVariables false
set_option linter.unusedSimpArgs false
attribute [local go_sem] Oper.semAt_some

variable {w w' : World} {p : Nat} {sv sv' : Value} {T T' : Tb}

def memV (p : Nat) : Value := .iface 23 (.pointer (some ⟨p, 0, none⟩))

theorem MemAt.kp {C : Nat → Prop} (H : MemAt w p sv T) (hk : KpC C w w') (hC : ∀ k, OwnS p sv k → ¬ C k) : MemAt w' p sv T := by
  refine ⟨(hk.cells H.head (hC p (.inl rfl))).trans H.head, ?_, H.le, H.small⟩
  rcases H.row with h | ⟨g, h, hg⟩
  · exact .inl h
  · exact .inr ⟨g, h, (hk.cells hg (hC g (.inr (by rw [h]; rfl)))).trans hg⟩

theorem meth_array (p : Nat) (w : World) : (method 231 23 (.pointer (some ⟨p, 0, none⟩)) "Array").run Try.prog w = .ok (20, .pointer (some ⟨p, 0, none⟩)) w := by kernel_rfl
theorem meth_nodes (p : Nat) (w : World) : (method 231 23 (.pointer (some ⟨p, 0, none⟩)) "Nodes").run Try.prog w = .ok (21, .pointer (some ⟨p, 0, none⟩)) w := by kernel_rfl
theorem meth_slot (p : Nat) (w : World) : (method 231 23 (.pointer (some ⟨p, 0, none⟩)) "Slot").run Try.prog w = .ok (22, .pointer (some ⟨p, 0, none⟩)) w := by kernel_rfl
theorem meth_setslot (p : Nat) (w : World) : (method 231 23 (.pointer (some ⟨p, 0, none⟩)) "SetSlot").run Try.prog w = .ok (26, .pointer (some ⟨p, 0, none⟩)) w := by kernel_rfl
theorem meth_resize (p : Nat) (w : World) : (method 231 23 (.pointer (some ⟨p, 0, none⟩)) "Resize").run Try.prog w = .ok (27, .pointer (some ⟨p, 0, none⟩)) w := by kernel_rfl
theorem meth_hash (p : Nat) (w : World) : (method 231 23 (.pointer (some ⟨p, 0, none⟩)) "Hash").run Try.prog w = .ok (28, .pointer (some ⟨p, 0, none⟩)) w := by kernel_rfl
theorem nil_slot (p : Nat) (w : World) : (nilAhead 231 23 (.pointer (some ⟨p, 0, none⟩)) "Slot").run Try.prog w = .ok (some false) w := by kernel_rfl
theorem field_t (x y : Value) (w : World) : (Instr.field 27 (.agg #[x, y]) 0).run Try.prog w = .ok x w := by kernel_rfl
attribute [local go_sem] nil_slot field_t meth_array meth_nodes meth_slot meth_setslot meth_resize meth_hash

/-- The nodes on a key's way. -/
def wayF (T : Tb) : Nat → Nat → List Nat
  | 0, _ => []
  | f + 1, x => x :: if (slotT T (T.a + 2 * x : Nat)).t = 0 then [] else wayF T f ((x + 1) % T.nodes)

def wayL (T : Tb) (k : V) : List Nat := if T.nodes = 0 then [] else wayF T T.nodes ((mixR k.t k.n).toNat % T.nodes)

def WayPost (T : Tb) (k : V) (J Jx : List Nat → World → Prop) (e : Ending) (W' : World) : Prop := (∃ v, e = .returned v) ∧
      ((∃ ys, ys = wayL T k ∧ J ys W') ∨ (∃ pre, pre <+: wayL T k ∧ Jx pre W'))

def encN (x : Nat) : Array Value := #[.int .i64 x]

theorem wayF_step (T : Tb) {d x : Nat} (hd : 1 ≤ d) : wayF T d x = x :: if (slotT T (T.a + 2 * x : Nat)).t = 0 then [] else wayF T (d - 1) ((x + 1) % T.nodes) := by
  obtain ⟨e, rfl⟩ : ∃ e, d = e + 1 := ⟨d - 1, by omega⟩
  rfl

set_option maxRecDepth 100000 in
set_option maxHeartbeats 2000000 in
theorem way1_in (F : Fence) (n : Nat) (hF : ∀ f, F.fn f) (hal : F.alive = false) (hd : F.depth = none) (hro : F.round = none) (hn : 1 ≤ n) (l bs bk : Nat) (k : V) (C : Nat → Prop) (J Jx : List Nat → World → Prop) (W : World)
    (hJ : AbidesFrom W.heap.size J)
    (hY : ∀ pre x W1, J pre W1 → pre.length < T.nodes + 1 → x < T.nodes → YieldAt F (n - 1) Try.prog l (encN x) W1 fun e W' =>
      (e = .returned (.bool true) ∧ J (pre ++ [x]) W' ∧ KpC C W1 W') ∨ (e = .returned (.bool false) ∧ Jx (pre ++ [x]) W'))
    (H : MemAt W p sv T) (hP : Pow2 T.nodes) (hC : ∀ k, OwnS p sv k → ¬ C k) (hCb : ¬ C bs ∧ ¬ C bk) (hCn : ∀ k, C k → k < W.heap.size)
    (hbs : Box W bs [memV p] 59) (hbk : Box W bk [.int .i64 k.t, .int .i64 k.n] 27) (h0 : J [] W) :
    CallsIn F n Try.prog 62 #[.func (.yield l) #[] #[], .pointer (some ⟨bs, 0, none⟩), .pointer (some ⟨bk, 0, none⟩)] W fun e W' => WayPost T k J Jx e W' := by
  refine callsIn_of_wp Try.func62 rfl (hF _) ?_ hro
  simp only [Try.ntmps62, List.size_toArray, List.length_cons, List.length_nil, Nat.reduceAdd, Nat.reduceSub, Array.replicate_succ, Array.replicate_zero, List.push_toArray, List.append_toArray, List.nil_append, List.cons_append]
  unfold memV at hbs
  have HC := Lib.hid hC
  have HCN := Lib.hid hCn
  have HJ := Lib.hid hJ
  have HY := Lib.hid hY
  have HH := Lib.hid H
  clear hC hCn hJ hY H
  have b1 := hbs.cell 0
  have b2 := hbk.cell 0
  have b3 := hbk.cell 1
  simp only [List.getElem?_cons_zero, List.getElem?_cons_succ] at b1 b2 b3
  obtain ⟨N, hN⟩ : ∃ N, N = T.nodes := ⟨_, rfl⟩
  have HN := Lib.hid hN
  have NC := nodes_any HH.out
  rw [← hN] at NC hP
  clear hN
  gi_wp2
  refine (calls_wide hF hal hd NC).mono ?_
  rintro e w1 ⟨rfl, hb1⟩
  have hJ1 := HJ.out [] W w1 none h0 ⟨hb1.os, hb1.tape, hb1.output, hb1.size, fun k hk _ => hb1.block k hk⟩ (fun r e => by cases e)
  by_cases hN0 : N = 0
  · have HP := Lib.hid (show WayPost T k J Jx (.returned (.tuple #[])) w1 from ⟨⟨_, rfl⟩, .inl ⟨[], by unfold wayL; rw [← HN.out, if_pos hN0], hJ1⟩⟩)
    subst hN0
    clear hJ1 h0 hb1 NC
    gi_wp2
    go_end0
    exact HP.out
  · obtain ⟨q, hq, hNq⟩ := hP.resolve_left hN0
    have HNQ := Lib.hid hNq
    have hN8 : N ≤ 8192 := by rw [hNq]; exact Nat.le_trans (Nat.pow_le_pow_right (by omega) hq) (by decide)
    have hN0b : ((N : Int) == 0) = false := by simp; omega
    clear hNq hP
    have hk1 : KpC C W w1 := KpC.of_below hb1
    have hbs1 := hbs.kp hk1 hCb.1
    have hbk1 := hbk.kp hk1 hCb.2
    have b1' := hbs1.cell 0
    have b2' := hbk1.cell 0
    have b3' := hbk1.cell 1
    simp only [List.getElem?_cons_zero, List.getElem?_cons_succ] at b1' b2' b3'
    have HJ1 := Lib.hid hJ1
    have HK1 := Lib.hid hk1
    clear hJ1 hk1 b1 b2 b3 NC h0
    gi_wp2
    refine (calls_wide hF hal hd (hash_any k w1 p)).mono ?_
    rintro e w2 ⟨rfl, hb2⟩
    obtain ⟨hx, hhx⟩ : ∃ hx : Nat, mixR k.t k.n = (hx : Int) := ⟨_, (Int.toNat_of_nonneg (mixR_range k.t k.n).1).symm⟩
    have hxlt : hx < 4294967296 := by have := (mixR_range k.t k.n).2; omega
    rw [hhx]
    have hmk := mask hq HNQ.out hx (by omega)
    have hN1 : IntKind.i64.wrap ((N : Int) - 1) = (N : Int) - 1 := IntWalk.i64_in _ (by omega)
    gi_wp2
    have hJ2 := HJ.out [] w1 w2 none HJ1.out ⟨hb2.os, hb2.tape, hb2.output, hb2.size, fun k hk _ => hb2.block k hk⟩ (fun r e => by cases e)
    have hk2 := HK1.out.trans (KpC.of_below hb2)
    have hw0 : wayF T (N - 0) (hx % N) = wayL T k := by unfold wayL; rw [← HN.out, if_neg hN0, hhx, Int.toNat_natCast, Nat.sub_zero]
    clear hb1 hb2 b1' b2' b3' hbs1 hbk1 hmk hN1
    have HW0 := Lib.hid hw0
    clear hw0
    gi_loopw [5, 18] (fun t5 t18 wr => ∃ (i x : Nat) (pre : List Nat), i ≤ N ∧ t18 = .int .i64 i ∧ t5 = .int .i64 x ∧ x < N ∧ pre ++ wayF T (N - i) x = wayL T k ∧ J pre wr ∧ KpC C W wr ∧ pre.length ≤ i) (fun _ t18 _ => N - (intOf t18).toNat)
    case atStart => exact ⟨0, hx % N, [], Nat.zero_le _, by go_num, by go_num, Nat.mod_lt _ (by omega), by simpa using HW0.out, hJ2, hk2, Nat.le_refl _⟩
    case round =>
      clear hJ2 hk2
      obtain ⟨i, x, pre, hi, rfl, rfl, hxN, hway, hJr, hkr, hpl⟩ := hrel
      by_cases hlt : i < N
      · have hJd := HJ.out pre wr wr.drew none hJr ⟨rfl, rfl, rfl, Nat.le_refl _, fun _ _ _ => rfl⟩ (fun r e => by cases e)
        obtain ⟨fn, tmps, assign, body, hy, hR⟩ := HY.out pre x _ hJd (by have := HN.out; omega) (by have := HN.out; omega)
        simp only [encN] at hy
        have HWAY := Lib.hid hway
        have HKR := Lib.hid hkr
        clear hway hkr hJr hJd
        gi_wp2
        refine wpIn_region_any (by kernel_rfl) ?_
        change wpAnyIn _ _ _ _ _ _ _ _ _ (World.drew wr)
        refine wpAnyIn_take (i := 0) (v := ?_) hro rfl (by kernel_rfl) (by kernel_rfl) (by kernel_rfl) (fun _ _ _ h => h) ⟨Or.inl ⟨by rfl, ?_⟩, fun _ => rfl⟩ ?_
        rotate_left
        · intro w; go_simp
          all_goals (with_reducible rfl)
        refine wpAnyIn_take (i := 1) (v := ?_) hro rfl (by kernel_rfl) (by kernel_rfl) (by kernel_rfl) (fun _ _ _ h => h) ⟨Or.inl ⟨by rfl, ?_⟩, fun _ => rfl⟩ ?_
        rotate_left
        · intro w; go_simp
          all_goals (with_reducible rfl)
        refine wpAnyIn_ready (rs := [2]) (by kernel_rfl) (by simp) ?_
        refine AllReadyIn.cons rfl (fun KK hKK => ?_) AllReadyIn.nil
        go_simp
        refine hR.mono ?_
        rintro e W3 (⟨rfl, hJ3, hk3⟩ | ⟨rfl, hJx3⟩)
        · have hk4 := HKR.out.trans ((KpC.drew C wr).trans hk3)
          have H3 := HH.out.kp hk4 HC.out
          have hbs3 := hbs.kp hk4 hCb.1
          have b3 := hbs3.cell 0
          simp only [List.getElem?_cons_zero] at b3
          have hbl : bs < W3.heap.size := hbs3.lt
          obtain ⟨a, ha⟩ : ∃ a, a = T.a := ⟨_, rfl⟩
          have ha6 : a ≤ 1000000 := by rw [ha]; exact Nat.le_trans H3.le H3.small
          obtain ⟨s, hs⟩ : ∃ s, s = slotT T ((T.a + 2 * x : Nat) : Int) := ⟨_, rfl⟩
          have AC : ∀ w', Below W3.heap.size W3 w' → Calls Try.prog 20 #[.pointer (some ⟨p, 0, none⟩)] w' fun e w'' => e = .returned (.int .i64 a) ∧ w'' = w' := fun w' hw => by rw [ha]; exact array_any (H3.below hw)
          have SC : ∀ w', Below W3.heap.size W3 w' → Calls Try.prog 22 #[.pointer (some ⟨p, 0, none⟩), .int .i64 ((a : Int) + 2 * x)] w' fun e w'' => e = .returned s.val ∧ Below W3.heap.size W3 w'' := fun w' hw => by
            have := slot_any (H3.below hw) ((T.a + 2 * x : Nat) : Int)
            rw [← hs] at this
            have e1 : ((T.a + 2 * x : Nat) : Int) = (a : Int) + 2 * x := by rw [ha]; omega
            rw [e1] at this
            exact this.mono fun e w'' g => ⟨g.1, hw.trans (g.2.mono hw.size)⟩
          have q1 : IntKind.i64.wrap (2 * (x : Int)) = 2 * (x : Int) := IntWalk.i64_in _ (by omega)
          have q2 : IntKind.i64.wrap ((a : Int) + 2 * (x : Int)) = (a : Int) + 2 * (x : Int) := IntWalk.i64_in _ (by omega)
          have HA := Lib.hid ha
          have HS := Lib.hid hs
          have HHK := Lib.hid hk4
          have HAC := Lib.hid AC
          have HSC := Lib.hid SC
          refine hKK _ _ ?_
          clear hKK KK ha hs hk4 hk3 H3 hbs3 hR hy AC SC
          refine wpAnyIn_drop hF hal hd hro (fun w' => Below W3.heap.size W3 w' ∧ w'.cell? ⟨bs, 0, none⟩ = some (.iface 23 (.pointer (some ⟨p, 0, none⟩)))) 3 ?_ ?_ ?_ ?_ ?_
          · kernel_rfl
          · kernel_rfl
          · exact ⟨Below.refl _ _, b3⟩
          · kernel_rfl
          simp only [List.drop_succ_cons, List.drop_zero]
          have HB3 := Lib.hid b3
          clear b3
          go_big_quiet_want
          refine quiet_val (v := .bool false) ?_ ?_
          · rintro w' ⟨hw1, hw2⟩
            go_simp
          go_simp
          go_big_quiet_on
          go_big_quiet_want; go_big_quiet_op; go_big_quiet_on
          go_big_quiet_want
          refine quiet_val (v := .iface 23 (.pointer (some ⟨p, 0, none⟩))) ?_ ?_
          · rintro w' ⟨hw1, hw2⟩
            go_simp
          go_simp
          go_big_quiet_on
          go_big_quiet_want
          refine quiet_val (v := .iface 23 (.pointer (some ⟨p, 0, none⟩))) ?_ ?_
          · rintro w' ⟨hw1, hw2⟩
            go_simp
          go_simp
          go_big_quiet_on
          go_big_quiet_want
          refine quiet_call (v := .int .i64 a) (f := 20) (args := #[.pointer (some ⟨p, 0, none⟩)]) ?_ ?_ ?_
          · rintro w' ⟨hw1, hw2⟩
            go_simp
          · rintro w' ⟨hw1, hw2⟩
            exact (HAC.out w' hw1).mono fun e w'' g => ⟨g.1, by rw [g.2]; exact ⟨hw1, hw2⟩⟩
          go_simp
          go_big_quiet_on
          go_big_quiet_want; go_big_quiet_op; go_big_quiet_on
          go_big_quiet_want
          refine quiet_val (v := .int .i64 (2 * (x : Int))) ?_ ?_
          · rintro w' ⟨hw1, hw2⟩
            go_simp
          go_simp
          go_big_quiet_on
          go_big_quiet_want
          refine quiet_val (v := .int .i64 ((a : Int) + 2 * (x : Int))) ?_ ?_
          · rintro w' ⟨hw1, hw2⟩
            go_simp
          go_simp
          go_big_quiet_on
          go_big_quiet_want
          refine quiet_val (v := .func (.method "Slot") #[.iface 23 (.pointer (some ⟨p, 0, none⟩))] #[]) ?_ ?_
          · rintro w' ⟨hw1, hw2⟩
            go_simp
          go_simp
          go_big_quiet_on
          go_big_quiet_want
          refine quiet_val (v := .func (.method "Slot") #[.iface 23 (.pointer (some ⟨p, 0, none⟩))] #[]) ?_ ?_
          · rintro w' ⟨hw1, hw2⟩
            go_simp
          go_simp
          go_big_quiet_on
          go_big_quiet_want; go_big_quiet_op; go_big_quiet_on
          go_big_quiet_want
          refine quiet_call (v := .agg #[.int .i64 s.t, .int .i64 s.n]) (f := 22) (args := #[.pointer (some ⟨p, 0, none⟩), .int .i64 ((a : Int) + 2 * x)]) ?_ ?_ ?_
          · rintro w' ⟨hw1, hw2⟩
            go_simp
          · rintro w' ⟨hw1, hw2⟩
            exact (HSC.out w' hw1).mono fun e w'' g => ⟨g.1, g.2, by have := g.2.cell (p := ⟨bs, 0, none⟩) hbl; rw [this]; exact HB3.out⟩
          go_simp
          go_big_quiet_on
          by_cases hs0 : s.t = 0
          · have hs1 : (s.t == 0) = true := by simp [hs0]
            go_big_quiet_want
            refine quiet_val (v := .int .i64 s.t) ?_ ?_
            · rintro w' ⟨hw1, hw2⟩
              go_simp
            go_simp
            go_big_quiet_on
            go_big_quiet_want
            refine quiet_val (v := .bool true) ?_ ?_
            · rintro w' ⟨hw1, hw2⟩
              go_simp
            go_simp
            go_big_quiet_on
            go_big_quiet_want
            refine quiet_val (v := .bool true) ?_ ?_
            · rintro w' ⟨hw1, hw2⟩
              go_simp
            go_simp
            go_big_quiet_on
            refine wpQuiet_nil ?_
            rintro w' ⟨hw1, -⟩
            have hJ4 := HJ.out (pre ++ [x]) W3 w' none hJ3 ⟨hw1.os, hw1.tape, hw1.output, hw1.size, fun k hk _ => hw1.block k hk⟩ (fun r e => by cases e)
            have hk5 := HHK.out.trans (KpC.of_below (C := C) hw1)
            have HP := Lib.hid (show WayPost T k J Jx (.returned (.tuple #[])) w' from ⟨⟨_, rfl⟩, .inl ⟨pre ++ [x], by
              rw [← HWAY.out, wayF_step T (by omega), ← HS.out, if_pos hs0], hJ4⟩⟩)
            clear hJ4 hJ3 hk5 hw1 hs0 hs1
            gi_wp2
            go_end0
            exact HP.out
          · have hs1 : (s.t == 0) = false := by simp [hs0]
            go_big_quiet_want
            refine quiet_val (v := .int .i64 s.t) ?_ ?_
            · rintro w' ⟨hw1, hw2⟩
              go_simp
            go_simp
            go_big_quiet_on
            go_big_quiet_want
            refine quiet_val (v := .bool false) ?_ ?_
            · rintro w' ⟨hw1, hw2⟩
              go_simp
            go_simp
            go_big_quiet_on
            go_big_quiet_want
            refine quiet_val (v := .bool false) ?_ ?_
            · rintro w' ⟨hw1, hw2⟩
              go_simp
            go_simp
            go_big_quiet_on
            refine wpQuiet_nil ?_
            rintro w' ⟨hw1, -⟩
            have hJ4 := HJ.out (pre ++ [x]) W3 w' none hJ3 ⟨hw1.os, hw1.tape, hw1.output, hw1.size, fun k hk _ => hw1.block k hk⟩ (fun r e => by cases e)
            have hk5 := HHK.out.trans (KpC.of_below (C := C) hw1)
            have HNX := Lib.hid (show (pre ++ [x]) ++ wayF T (N - (i + 1)) ((x + 1) % N) = wayL T k from by
              rw [← HWAY.out, wayF_step T (d := N - i) (by omega), ← HS.out, if_neg hs0, HN.out, List.append_assoc]
              rfl)
            have hmk := mask hq HNQ.out (x + 1) (by omega)
            have hmk' : bits BinOp.and .i64 ((x : Int) + 1) ((N : Int) - 1) = (((x + 1) % N : Nat) : Int) := by rw [← hmk]; rfl
            have HJ4 := Lib.hid hJ4
            have HK5 := Lib.hid hk5
            clear hJ4 hJ3 hk5 hw1 hs0 hs1 hmk
            gi_wp2
            go_roundw
            case rel => exact ⟨i + 1, (x + 1) % N, pre ++ [x], by omega, by go_num, by go_num, Nat.mod_lt _ (by omega), HNX.out, HJ4.out, HK5.out, by simp; omega⟩
            case measure => simp [intOf]; omega
        · refine hKK _ _ ?_
          clear hKK KK
          refine wpAnyIn_drop hF hal hd hro (fun w' => w' = W3) 3 ?_ ?_ ?_ ?_ ?_
          · kernel_rfl
          · kernel_rfl
          · rfl
          · kernel_rfl
          simp only [List.drop_succ_cons, List.drop_zero]
          repeat (first | go_big_quiet_skip | (go_big_quiet_want; go_big_quiet_op; go_big_quiet_on))
          refine wpQuiet_nil ?_
          rintro w' rfl
          have HP := Lib.hid (show WayPost T k J Jx (.returned (.tuple #[])) w' from ⟨⟨_, rfl⟩, .inr ⟨pre ++ [x], by
            rw [← HWAY.out, wayF_step T (by omega)]
            exact ⟨_, by rw [List.append_assoc]; rfl⟩, hJx3⟩⟩)
          clear hJx3 hR hy
          gi_wp2
          go_end0
          exact HP.out
      · obtain rfl : i = N := by omega
        have HP := Lib.hid (show WayPost T k J Jx (.returned (.tuple #[])) wr from ⟨⟨_, rfl⟩, .inl ⟨pre, by
          rw [← hway, Nat.sub_self]; unfold wayF; rw [List.append_nil], hJr⟩⟩)
        clear hway hJr hkr
        gi_wp2
        go_end0
        exact HP.out
end Go.Proofs.Ytpodgmajccmgkaa
