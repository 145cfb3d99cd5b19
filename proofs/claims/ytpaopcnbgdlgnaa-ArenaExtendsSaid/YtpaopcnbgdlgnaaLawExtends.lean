/- ArenaExtends: a block is refused more cells by Extend just if all others, and it with these, have no room; else it and all others have what was in them, and stand together: the law returns true for every size, list of calls, handle and length. -/
import Derived.Test.YtpaopcnbgdlgnaaRows
import Derived.Test.YtpaopcnbgdlgnaaCells
namespace Go.Proofs.Ytpaopcnbgdlgnaa.arenaExtends
open Go.ChangeShapes Go.WideShapes Go.ChangeAt Go.RowKit
set_option linter.unusedVariables false
set_option linter.unusedSimpArgs false

theorem own : ownKnob Try.prog.godebug = none := by kernel_rfl

theorem Try.laidOut : laidOutB Try.prog = true := by kernel_rfl
theorem Try.infoW38 : (Try.prog.info? 38).map (fun i => (i.zero, i.size, i.bytes)) = some (some (.slice none 0 0), 1, 24) := by kernel_rfl

set_option maxRecDepth 100000 in
set_option maxHeartbeats 1000000 in
theorem walk (a0 : Int) (A : Option Addr) (l : List ActV) (c : Nat) (h n : Int) (w : World) (hl : Lst w w.heap.size A l) (hlen : l.length ≤ maxLen) :
    Calls Try.prog 10 #[.int .i64 a0, .slice A l.length c, .int .i64 h, .int .i64 n] w fun e w' => e = .returned (.bool true) ∧ Below w.heap.size w w' := by
  have M := Lib.hid (made_ok a0 A l c w hl hlen)
  obtain ⟨i0, hi0, hz0, hz1, hz2⟩ := info_parts Try.infoW38
  clear hl hlen
  go_enter Try.func10, Try.ntmps10
  go_wp2_with fail
  refine M.out.mono ?_
  clear M
  rintro e w1 (⟨rfl, hb⟩ | ⟨p, S, rfl, H, hS⟩)
  · go_wp2_with fail
    refine (alive_any _).mono ?_
    rintro e wa ⟨rfl, hba⟩
    have HF := Lib.hid ((hb).trans (hba.mono (hb).size))
    go_wp2_with fail
    go_ret
    exact ⟨rfl, HF.out⟩
  subst hS
  have HI := H.inv
  have HHL := hsTo_len HI
  have HLL := HI.length
  have HLS := HI.size
  have HLV := HI.live
  cases hb : getB h S.L with
  | none =>
    have C := has_len H h
    rw [show (findR S.L h).2.1 = 0 by unfold findR; rw [hb]] at C
    obtain ⟨hr, hs⟩ := extend_none n hb
    clear hb HHL HLL HLS HLV
    go_wp2_with fail
    refine C.mono ?_
    clear C
    rintro e w2 ⟨rfl, H2, -⟩
    go_wp2_with fail
    have X2 := has_extend H2 h n
    rw [hr, hs] at X2
    refine X2.mono ?_
    clear X2 H H2
    rintro e w3 ⟨rfl, H3, -⟩
    go_wp2_with fail
    refine (no_any 5 _).mono ?_
    rintro e wn ⟨rfl, rfl⟩
    go_wp2_with fail
    refine (alive_any _).mono ?_
    rintro e wa ⟨rfl, hba⟩
    have HF := Lib.hid ((H3.old).trans (hba.mono (H3.old).size))
    go_wp2_with fail
    go_ret
    exact ⟨rfl, HF.out⟩
  | some b =>
  obtain ⟨hb1, hb2, hb3, hb4, hb5⟩ := HI.get hb
  have hbl := live_erase hb
  have hfl : (findR S.L h).2.1 = (b.n : Int) := by unfold findR; rw [hb]
  have C := has_len H h
  rw [hfl] at C
  obtain ⟨lv, hlv⟩ : ∃ lv, lv = liveL S.L := ⟨_, rfl⟩
  have hlv2 : b.n ≤ lv := by omega
  rw [← hlv] at HLV
  obtain ⟨Z, hZ⟩ : ∃ Z, Z = S.cells.length := ⟨_, rfl⟩
  rw [← hZ] at HLS HLV ⊢
  obtain ⟨bn, hbn⟩ : ∃ bn, bn = b.n := ⟨_, rfl⟩
  rw [← hbn] at hlv2 C hfl
  have hbn0 : ¬ bn = 0 := by omega
  have HFL := Lib.hid hfl
  have HBN := Lib.hid hbn
  have HLVE := Lib.hid hlv
  have HZ := Lib.hid hZ
  have HB := Lib.hid hb
  clear hb hb1 hb2 hb3 hb4 hb5 hbl hfl hbn hlv hZ
  obtain ⟨hsI, hhs⟩ : ∃ hsI : List Int, hsI = (hsTo S.L 70000).map fun h : Nat => (h : Int) := ⟨_, rfl⟩
  have hsl : hsI.length = S.L.length := by rw [hhs, List.length_map, HHL]
  have hn6 : hsI.length ≤ 65536 := by rw [hsl]; have := HZ.out; omega
  have hget : ∀ (i : Nat) (k : Int), hsI[i]? = some k → ∃ c, getB k S.L = some c := by
    intro i k hk
    rw [hhs, List.getElem?_map] at hk
    cases hq : (hsTo S.L 70000)[i]? with
    | none => rw [hq] at hk; simp at hk
    | some j =>
      rw [hq] at hk
      simp only [Option.map_some, Option.some.injEq] at hk
      obtain ⟨_, hm⟩ := hsTo_mem.1 (List.mem_of_getElem? hq)
      obtain ⟨d, hd, rfl⟩ := List.mem_map.1 hm
      exact ⟨d, by rw [← hk]; exact getB_of_mem HI.nodup hd⟩
  have HGET := Lib.hid hget
  have HHS := Lib.hid hhs
  have HSL := Lib.hid hsl
  clear hhs hsl hget HHL HLL
  go_wp2_with fail
  refine C.mono ?_
  clear C
  rintro e w2 ⟨rfl, H2, -⟩
  go_wp2_with fail
  have HW := handles_row H2
  rw [← HHS.out] at HW
  refine HW.mono ?_
  clear HW H H2
  rintro e w3 ⟨v, X, rfl, H, hrow⟩
  have T : Two X w p S v hsI w3 := ⟨H, hrow⟩
  obtain ⟨A', c', rfl, -⟩ := hrow
  obtain ⟨N, hN⟩ : ∃ N, N = hsI.length := ⟨_, rfl⟩
  rw [← hN] at T hn6 ⊢
  have HN := Lib.hid hN
  clear hN H
  obtain ⟨vss, hvs⟩ : ∃ vss : List (List Int), vss = hsI.map (contL S) := ⟨_, rfl⟩
  have hvl : vss.length = N := by rw [hvs, List.length_map, HN.out]
  have HVS := Lib.hid hvs
  have HVL := Lib.hid hvl
  have HT := Lib.hid T
  clear hvs hvl T
  go_wp2_with fail
  go_loopw [11, 57] (fun t11 t57 wr => ∃ (i : Nat) (vs : List Value), i ≤ N ∧ t57 = .int .i64 i ∧ vs.length = i ∧ wr.ownsRow w3.heap.size 38 1 t11 i vs ∧ Inners w3.heap.size wr vs i vss ∧ Below w3.heap.size w3 wr) (fun _ t57 _ => N - (intOf t57).toNat)
  case atStart => exact ⟨0, [], Nat.zero_le _, by go_num, rfl, World.ownsRow_nil _ _ _ _, fun j xs hj => by omega, Below.refl _ _⟩
  case round =>
    obtain ⟨i, vs, hi, rfl, hvl, hown, hin, hB⟩ := hrel
    by_cases hlt : i < N
    · obtain ⟨k, hk⟩ : ∃ k, hsI[i]? = some k := ⟨hsI[i]'(by rw [← HN.out]; exact hlt), List.getElem?_eq_getElem _⟩
      obtain ⟨d, hd⟩ := HGET.out i k hk
      obtain ⟨hc1, hc2⟩ := contL_of HI hd
      have hd4 := (HI.get hd).2.2.2.1
      have hxs : vss[i]? = some (contL S k) := by rw [HVS.out, List.getElem?_map, hk]; rfl
      obtain ⟨xs, hx⟩ : ∃ xs, xs = contL S k := ⟨_, rfl⟩
      rw [← hx] at hc1 hc2 hxs
      have T1 : Two X w p S (.slice A' N c') hsI wr := ⟨(HT.out.1.below hB).1, HT.out.2.same (HT.out.1.below hB).2⟩
      obtain ⟨g0, rfl⟩ := T1.at_ hk
      have hcell := T1.cell hk
      have CC := has_cells T1.1 hc1 (by have := (HI.get hd).2.2.2.1; omega)
      have HIN := Lib.hid hin
      have HXS := Lib.hid hxs
      have HVL2 := Lib.hid hvl
      have HBB := Lib.hid hB
      have HOWN := Lib.hid hown
      have hs3 := hB.size
      clear hk hd hd4 hc1 hc2 hxs hx hin hvl hB T1 hown
      go_wp2_with fail
      refine CC.mono ?_
      clear CC
      rintro e w4 ⟨u, rfl, hr4, hb4⟩
      have own4 := row_below HOWN.out hb4
      have in4 := HIN.out.below hb4
      have B4 := HBB.out.trans (hb4.mono hs3)
      have hs4 := B4.size
      have hus := row_since hr4
      obtain ⟨ua, uc, hu⟩ := row_shape hr4
      subst hu
      have hlow : ∀ g, (Value.ownBlock u11) = some g → g < wr.heap.size := fun g hg => (HOWN.out.lt g hg).2
      have HUS := Lib.hid hus
      have HLOW := Lib.hid hlow
      have HIN4 := Lib.hid in4
      clear hr4 hb4 hus hlow in4
      go_wp2_with (at_builtin; refine wpList_append_own _ rfl _ _ 49 rfl w3.heap.size 38 i0 (.slice none 0 0) 1 24 Try.underlying49 hi0 hz0 hz1 hz2 rfl (by decide) _ _ _ rfl (own4.alloc _) _ _ _ [.slice ua xs.length uc] rfl rfl ?_ ?_ ?_ ?_ ?_ ?_)
      · exact cell_new1 w4 (.slice ua xs.length uc) 38
      · intro u hu; simp at hu; subst hu; rfl
      · unfold maxLen; omega
      · omega
      · simp; omega
      intro v' w5 hown5 hg5 _
      go_wp2_with fail
      go_roundw
      case rel =>
        refine ⟨i + 1, vs ++ [.slice ua xs.length uc], by omega, by go_num, by simp [HVL2.out], hown5, ?_, ?_⟩
        · exact (HIN4.out.below (below_alloc _ _)).grown HVL2.out (own4.alloc _) HXS.out HLOW.out hs3 (HUS.out.below (below_alloc _ _)) hg5
        · refine (B4.alloc hs4 _).grown hg5 (by simp; omega) ?_
          intro j hj
          exact (own4.lt j hj).1
      case measure => simp [intOf]; omega
    · obtain rfl : i = N := by omega
      have hwa := HT.out.1.watchAll hB
      have hsm : Same X w3 wr := (HT.out.1.below hB).2
      have E : Ext (fun k => X k ∨ (w3.heap.size ≤ k ∧ k < wr.heap.size)) w p S (.slice A' i c') hsI u11 vss wr :=
        ⟨⟨hwa, (HT.out.2.same hsm).mono (fun k hk => .inl hk)⟩, hin.was HVL.out.symm hown (fun k h1 h2 => .inr ⟨h1, h2⟩)⟩
      obtain ⟨X2, hX2⟩ : ∃ X2 : Nat → Prop, X2 = (fun k => X k ∨ (w3.heap.size ≤ k ∧ k < wr.heap.size)) := ⟨_, rfl⟩
      rw [← hX2] at E
      obtain ⟨ua, uc, rfl⟩ := row_shape hown
      clear hX2 hwa hsm hin hvl hown hB HT
      have L1 := has_live E.1.1
      rw [← HLVE.out] at L1
      go_wp2_with fail
      refine L1.mono ?_
      clear L1
      rintro e w4 ⟨rfl, rfl⟩
      have L2 := has_len E.1.1 h
      rw [HFL.out] at L2
      go_wp2_with fail
      refine L2.mono ?_
      clear L2
      rintro e w4 ⟨rfl, H4, s4⟩
      have E4 := E.next H4 s4
      clear E H4 s4
      go_wp2_with fail
      have XT := has_extend E4.1.1 h n
      by_cases hn : n < 1 ∨ 65536 < n
      · obtain ⟨hr, hs⟩ := extend_arg HB.out hn
        rw [hr, hs] at XT
        rcases hn with hn | hn
        all_goals
          refine XT.mono ?_
          clear XT
          rintro e w5 ⟨rfl, H5, s5⟩
          clear E4 s5
          go_wp2_with fail
          first
            | (refine (no_any 1 _).mono ?_; rintro e wn ⟨rfl, rfl⟩; go_wp2_with fail)
            | skip
          have L5 := has_live H5
          rw [← HLVE.out] at L5
          refine L5.mono ?_
          clear L5
          rintro e w6 ⟨rfl, rfl⟩
          go_wp2_with fail
          refine (alive_any _).mono ?_
          rintro e wa ⟨rfl, hba⟩
          have HF := Lib.hid ((H5.old).trans (hba.mono (H5.old).size))
          go_wp2_with fail
          go_ret
          exact ⟨rfl, HF.out⟩
      · obtain ⟨m, rfl⟩ := Int.eq_ofNat_of_zero_le (show 0 ≤ n by omega)
        have hm1 : 1 ≤ m := by omega
        have hm6 : m ≤ 65536 := by omega
        clear hn
        obtain ⟨r, hr⟩ : ∃ r, r = lv - bn := ⟨_, rfl⟩
        obtain ⟨t, ht⟩ : ∃ t, t = r + m := ⟨_, rfl⟩
        have hw1 : IntKind.i64.wrap ((lv : Int) - bn) = (r : Int) := by rw [IntWalk.i64_in _ (by omega)]; omega
        have hw2 : IntKind.i64.wrap ((r : Int) + m) = (t : Int) := by rw [IntWalk.i64_in _ (by omega)]; omega
        have hw3 : IntKind.i64.wrap ((t : Int) - m) = (r : Int) := by rw [IntWalk.i64_in _ (by omega)]; omega
        have hq1 : ¬ (m : Int) < 1 := by omega
        have hq2 : ¬ (65536 : Int) < m := by omega
        by_cases hfit : t ≤ Z
        · have F := extend_fits HI HB.out hm1 hm6 (by rw [← HLVE.out, ← HBN.out, ← HZ.out]; omega)
          have FO : ∀ (k : Int) xs, h ≠ k → Cont S k xs → Cont (extendS S h m) k xs := fun k xs hk hc => hc.extend HI hk m
          obtain ⟨S', hS'⟩ : ∃ S', S' = extendS S h m := ⟨_, rfl⟩
          rw [← hS'] at F FO XT
          rw [← HLVE.out, ← HBN.out, ← hr, ← ht] at F
          obtain ⟨f1, f2, f3, f4, f5, f6⟩ := F
          rw [f1] at XT
          have FL := Lib.hid f2
          have FT := Lib.hid f3
          have FA := Lib.hid f4
          have FH := Lib.hid f5
          have FC := Lib.hid f6
          have FOO := Lib.hid FO
          clear f1 f2 f3 f4 f5 f6 FO hS' hr ht
          refine XT.mono ?_
          clear XT
          rintro e w5 ⟨rfl, H5, s5⟩
          have E5 := E4.next H5 s5
          clear E4 H5 s5
          go_wp2_with fail
          refine (no_any 0 _).mono ?_
          rintro e wn ⟨rfl, rfl⟩
          go_wp2_with fail
          have L5 := has_live E5.1.1
          rw [FL.out] at L5
          refine L5.mono ?_
          rintro e w6 ⟨rfl, rfl⟩
          go_wp2_with fail
          have T5 := has_top E5.1.1
          rw [FT.out] at T5
          refine T5.mono ?_
          clear T5 L5
          rintro e w6 ⟨rfl, H6, s6⟩
          have E6 := E5.next H6 s6
          clear E5 H6 s6
          go_wp2_with fail
          have L6 := has_live E6.1.1
          rw [FL.out] at L6
          refine L6.mono ?_
          clear L6
          rintro e w7 ⟨rfl, rfl⟩
          go_wp2_with fail
          have A6 := has_addr E6.1.1 h
          rw [FA.out] at A6
          refine A6.mono ?_
          clear A6
          rintro e w7 ⟨rfl, H7, s7⟩
          have E7 := E6.next H7 s7
          clear E6 H7 s7
          go_wp2_with fail
          have L7 := has_live E7.1.1
          rw [FL.out] at L7
          refine L7.mono ?_
          clear L7
          rintro e w8 ⟨rfl, rfl⟩
          go_wp2_with fail
          refine (has_handles E7.1.1).mono ?_
          rintro e w8 ⟨v2, rfl, hr8, hb8, H8, s8⟩
          have E8 := E7.next H8 s8
          have e1 : ((hsTo S'.L 70000).map fun h : Nat => iv h) = hsI.map iv := by rw [FH.out, HHS.out]; simp [Function.comp_def]
          rw [e1] at hr8
          have Q8 := reads_of hr8
          obtain ⟨a2, cc2, rfl⟩ := row_shape hr8
          have IS := ints_same Q8 (E8.1.2.reads E8.1.1) (by rw [← HN.out]; omega)
          clear hb8 s8 H8 e1 Q8 E7 hr8
          go_wp2_with fail
          refine IS.mono ?_
          clear IS
          rintro e w9 ⟨rfl, hb9⟩
          have E9 := E8.below hb9
          clear hb9 E8
          go_wp2_with fail
          go_loopw [160] (fun t160 wr => ∃ i' : Nat, i' ≤ i ∧ t160 = .int .i64 i' ∧ Ext X2 w p S' (.slice A' i c') hsI (.slice ua i uc) vss wr) (fun t160 _ => i - (intOf t160).toNat)
          case atStart => exact ⟨0, Nat.zero_le _, by go_num, E9⟩
          case round =>
            clear E9
            obtain ⟨i', hi', rfl, E⟩ := hrel
            by_cases hlt' : i' < i
            · obtain ⟨k, hk⟩ : ∃ k, hsI[i']? = some k := ⟨hsI[i']'(by rw [← HN.out]; exact hlt'), List.getElem?_eq_getElem _⟩
              obtain ⟨d, hd⟩ := HGET.out i' k hk
              obtain ⟨hc1, hc2⟩ := contL_of HI hd
              have hd4 := (HI.get hd).2.2.2.1
              have hxs : vss[i']? = some (contL S k) := by rw [HVS.out, List.getElem?_map, hk]; rfl
              obtain ⟨xs, hx⟩ : ∃ xs, xs = contL S k := ⟨_, rfl⟩
              rw [← hx] at hc1 hc2 hxs
              obtain ⟨ys, hy1, hy2, hy3, hy4⟩ : ∃ ys : List Int, Cont S' k ys ∧ ys.length ≤ 65536 ∧ (∀ (q : Nat) (y : Int), ys[q]? = some y → y = xs.getD q 0) ∧ (¬ k = h → ys.length = xs.length) := by
                by_cases hkh : k = h
                · subst hkh
                  refine ⟨_, FC.out xs hc1, by simp; omega, fun q y hq => ?_, fun hh => absurd rfl hh⟩
                  have hqm : q < m := by
                    have := (List.getElem?_eq_some_iff.1 hq).1
                    simpa using this
                  rw [List.getElem?_map, List.getElem?_range hqm] at hq
                  simpa using hq.symm
                · refine ⟨xs, FOO.out k xs (fun e => hkh e.symm) hc1, by omega, fun q y hq => ?_, fun _ => rfl⟩
                  rw [List.getD_eq_getElem?_getD, hq]; rfl
              obtain ⟨L, hL⟩ : ∃ L, L = ys.length := ⟨_, rfl⟩
              obtain ⟨L0, hL0⟩ : ∃ L0, L0 = xs.length := ⟨_, rfl⟩
              have CC := has_cells E.1.1 hy1 hy2
              rw [← hL] at hy2 hy4
              rw [← hL0] at hy4
              have hxl6 : L0 ≤ 65536 := by omega
              obtain ⟨g0, rfl⟩ := E.1.at_ hk
              have hcell := E.1.cell hk
              have HXS := Lib.hid hxs
              have HY3 := Lib.hid hy3
              have HY4 := Lib.hid hy4
              have HL := Lib.hid hL
              have HL0 := Lib.hid hL0
              have HE := Lib.hid E
              clear hk hd hd4 hc1 hc2 hxs hx hy1 hy3 hy4 hL hL0 E
              go_wp2_with fail
              refine CC.mono ?_
              clear CC
              rintro e w10 ⟨u, rfl, hr10, hb10⟩
              have E10 := HE.out.below hb10
              have N10 := row_since hr10
              obtain ⟨na, nc, hu⟩ := row_shape hr10
              subst hu
              obtain ⟨base, hbase⟩ : ∃ base, base = wr.heap.size := ⟨_, rfl⟩
              rw [← hbase] at N10
              rw [← HL.out] at N10 ⊢
              clear hbase hr10 hb10 hcell HE
              go_wp2_with fail
              go_loopw [170] (fun t170 wr => ∃ q : Nat, q ≤ L ∧ t170 = .int .i64 q ∧ Ext X2 w p S' (.slice (some ⟨g0, 0, none⟩) i c') hsI (.slice ua i uc) vss wr ∧ Since base wr (.slice na L nc) ys) (fun t170 _ => L - (intOf t170).toNat)
              case atStart => exact ⟨0, Nat.zero_le _, by go_num, E10, N10⟩
              case round =>
                clear E10 N10
                obtain ⟨q, hq, rfl, E11, N11⟩ := hrel
                have HE11 := Lib.hid E11
                have HN11 := Lib.hid N11
                obtain ⟨gw, wu, hua, -, hwc, -⟩ := E11.2.at_ HXS.out
                subst hua
                obtain ⟨A9, c9, hcw, hrow⟩ := E11.row HXS.out
                rw [← HL0.out] at hcw
                by_cases hqL : q < L
                · obtain ⟨y, hy⟩ : ∃ y, ys[q]? = some y := ⟨ys[q]'(by rw [← HL.out]; exact hqL), List.getElem?_eq_getElem _⟩
                  have hyx := HY3.out q y hy
                  obtain ⟨gn, hna, -, -, hcn⟩ := N11.at_ hy
                  subst hna
                  by_cases hqx : q < L0
                  · obtain ⟨x, hx⟩ : ∃ x, xs[q]? = some x := ⟨xs[q]'(by rw [← HL0.out]; exact hqx), List.getElem?_eq_getElem _⟩
                    have hxy : y = x := by rw [hyx, List.getD_eq_getElem?_getD, hx]; rfl
                    subst hxy
                    obtain ⟨gx, rfl, hcx⟩ := hrow q y hx
                    clear hx hyx hy hrow E11 N11 hwc
                    go_wp2_with fail
                    go_roundw
                    case rel => exact ⟨q + 1, by omega, by go_num, HE11.out, HN11.out⟩
                    case measure => simp [intOf]; omega
                  · have hxy : y = 0 := by rw [hyx, List.getD_eq_getElem?_getD, List.getElem?_eq_none (by rw [← HL0.out]; omega)]; rfl
                    subst hxy
                    clear hyx hy hrow E11 N11 hwc
                    go_wp2_with fail
                    go_roundw
                    case rel => exact ⟨q + 1, by omega, by go_num, HE11.out, HN11.out⟩
                    case measure => simp [intOf]; omega
                · obtain rfl : q = L := by omega
                  clear hrow E11 N11 hwc
                  by_cases hkh : k = h
                  · subst hkh
                    go_wp2_with fail
                    go_roundw
                    case rel => exact ⟨i' + 1, by omega, by go_num, HE11.out⟩
                    case measure => simp [intOf]; omega
                  · obtain rfl := HY4.out hkh
                    go_wp2_with fail
                    go_roundw
                    case rel => exact ⟨i' + 1, by omega, by go_num, HE11.out⟩
                    case measure => simp [intOf]; omega
            · obtain rfl : i' = i := by omega
              go_wp2_with fail
              refine (alive_any _).mono ?_
              rintro e wa ⟨rfl, hba⟩
              have HF := Lib.hid ((E.1.1.old).trans (hba.mono (E.1.1.old).size))
              go_wp2_with fail
              go_ret
              exact ⟨rfl, HF.out⟩
        · obtain ⟨hr5, hs5⟩ := extend_full HB.out hm1 hm6 (by rw [← HLVE.out, ← HBN.out, ← HZ.out]; omega) (by rw [← HLVE.out, ← HBN.out]; omega)
          rw [hr5, hs5] at XT
          clear hr5 hs5 hr ht
          refine XT.mono ?_
          clear XT
          rintro e w5 ⟨rfl, H5, s5⟩
          have E5 := E4.next H5 s5
          clear E4 H5 s5
          go_wp2_with fail
          refine (no_any 8 _).mono ?_
          rintro e wn ⟨rfl, rfl⟩
          go_wp2_with fail
          have L5 := has_live E5.1.1
          rw [← HLVE.out] at L5
          refine L5.mono ?_
          clear L5
          rintro e w6 ⟨rfl, rfl⟩
          go_wp2_with fail
          have L6 := has_len E5.1.1 h
          rw [HFL.out] at L6
          refine L6.mono ?_
          clear L6
          rintro e w6 ⟨rfl, H6, -⟩
          clear E5
          go_wp2_with fail
          refine (alive_any _).mono ?_
          rintro e wa ⟨rfl, hba⟩
          have HF := Lib.hid ((H6.old).trans (hba.mono (H6.old).size))
          go_wp2_with fail
          go_ret
          exact ⟨rfl, HF.out⟩

set_option maxRecDepth 100000 in
theorem lifted (os : Os) (started : os.Started) (H : Type) (enc : TypeId × Value → H) :
    ReturnsInHanded {} Try.checked os 10 .any (Rows.arenaExtendsSpec.pre6 enc Try.prog Try.f10 Rows.arenaExtendsRow.domain false) (Rows.arenaExtendsSpec.post enc Try.prog Try.f10 false true false false) := by
  refine returnsInHanded_of_change (C := Try.checked) own started (by kernel_rfl) Try.func10
    (ChangeSpec.witness6 (enc := enc) (C := Try.checked) false ⟨#[], #[.int .i64 0, .slice none 0 0, .int .i64 0, .int .i64 0], []⟩ 8 (by kernel_rfl) (by kernel_rfl) (by kernel_rfl) (by kernel_rfl)) ?_
  intro W base args ds gs before hval0 hW hcnd _
  have hval : ∀ (j : Nat) t v, Try.f10.params[j]? = some t → args[j]? = some v → Value.okWide Try.prog W .any base t v := hval0
  have hW' := hW
  obtain ⟨p, q, hA0, hV, rfl, hfz, hnd⟩ := hW
  have hA : DataW.TrodAll enc Try.prog W 0 (fun _ => true) true Try.f10.params.toList args.toList ds p := hA0
  rw [Try.params10] at hA hval
  obtain ⟨v0, vs0, d0, ds0, p0, q0, hargs, rfl, rfl, h0, r0⟩ := trodAll_cons hA
  obtain ⟨v1, vs1, d1, ds1, p1, q1, rfl, rfl, rfl, h1, r1⟩ := trodAll_cons r0
  obtain ⟨v2, vs2, d2, ds2, p2, q2, rfl, rfl, rfl, h2, r2⟩ := trodAll_cons r1
  obtain ⟨v3, vs3, d3, ds3, p3, q3, rfl, rfl, rfl, h3, r3⟩ := trodAll_cons r2
  obtain ⟨rfl, rfl, rfl⟩ := trodAll_nil r3
  obtain rfl : args = #[v0, v1, v2, v3] := by cases args; simp_all
  obtain ⟨rfl, rfl⟩ := trodVars_none hV
  simp only [List.append_nil] at hW'
  obtain ⟨a0, rfl, rfl, rfl, w0⟩ := open_int Try.underlying3 (hval 0 3 v0 rfl rfl) h0
  have h1k := h1
  obtain ⟨x1, y1, z1, rfl⟩ := okWide_slice Try.underlying22 (hval 1 22 v1 rfl rfl)
  obtain ⟨fuel1, hf1⟩ := h1
  obtain ⟨A1, l1, c1, hcs1, hl1, hlen1⟩ := open_acts hf1
  simp only [Value.cells, List.cons.injEq, and_true, Value.slice.injEq] at hcs1
  obtain ⟨rfl, rfl, rfl⟩ := hcs1
  obtain ⟨a2, rfl, rfl, rfl, w2⟩ := open_int Try.underlying3 (hval 2 3 v2 rfl rfl) h2
  obtain ⟨a3, rfl, rfl, rfl, w3⟩ := open_int Try.underlying3 (hval 3 3 v3 rfl rfl) h3
  clear hA0 hval0
  try simp only [List.append_nil] at hW'
  refine (walk a0 x1 l1 z1 a2 a3 W hl1 hlen1).mono fun e W' ⟨he, hg⟩ => ?_
  subst he
  exact ⟨_, rfl, _, _, _, [], _, [], hW', (trodAll_cons_mk (shut_bool Try.underlying4 _) trodAll_mk0), (trodAll_cons_mk (shut_int Try.underlying3 w0) (trodAll_cons_mk (Below.trod Try.laidOut (by kernel_rfl) (of_decide_eq_true (by kernel_rfl)) h1k hg (fun x hx => by have := hW'.lt x (by simp [hx]); simpa using this)) (trodAll_cons_mk (shut_int Try.underlying3 w2) (trodAll_cons_mk (shut_int Try.underlying3 w3) trodAll_mk0)))), rfl,
    hg.frame _, fun h => by cases h⟩

theorem over : Rows.arenaExtendsRow.holds Try.pinned (OpenSpec.ofChange Rows.arenaExtendsSpec) :=
  OpenClaim.holds_of_wide 10 Try.f10 rfl rfl rfl rfl rfl rfl rfl ⟨rfl, rfl, rfl, rfl, rfl⟩ rfl rfl rfl rfl rfl (by kernel_rfl) Try.func10 (by kernel_rfl)
    (of_decide_eq_true (by kernel_rfl)) (by unfold Func.isWrapper; first | (rw [if_pos (by decide +kernel)]; kernel_rfl) | (rw [if_neg (by decide +kernel)]; exact ⟨rfl, rfl⟩))
    (fun os started H enc _ => lifted os started H enc)

theorem proved : Rows.ArenaExtendsSaid :=
  over
#print axioms proved
end Go.Proofs.Ytpaopcnbgdlgnaa.arenaExtends
