/- ArenaTight: behind a compaction all blocks lie at the beginning, one behind the other, in the order in which they lay: the law returns true for every size and list of calls. -/
import Derived.Test.YtpaopcnbgdlgnaaRows
import Derived.Test.YtpaopcnbgdlgnaaTri
import Derived.Deep.RegionHeld3
import Derived.Deep.DeepCutAuto
import Derived.Deep.QuietTactic
import Derived.BigQuiet
namespace Go.Proofs.Ytpaopcnbgdlgnaa.arenaTight
open Go.ChangeShapes Go.WideShapes Go.ChangeAt Go.RowKit
set_option linter.unusedVariables false
set_option linter.unusedSimpArgs false

theorem own : ownKnob Try.prog.godebug = none := by kernel_rfl

theorem Try.laidOut : laidOutB Try.prog = true := by kernel_rfl

def wasL (S : St) (xs : List Int) (N i : Nat) : List Int := (xs.take i).map (addrR S.L) ++ List.replicate (N - i) 0

theorem wasL_set {S : St} {xs : List Int} {N i : Nat} {x : Int} (hN : N = xs.length) (hi : xs[i]? = some x) : i < (wasL S xs N i).length ∧ (wasL S xs N i)[i]? = some 0 ∧ (wasL S xs N i).set i (addrR S.L x) = wasL S xs N (i + 1) := by
  have hlt := (List.getElem?_eq_some_iff.1 hi).1
  have hl : ((xs.take i).map (addrR S.L)).length = i := by rw [List.length_map, List.length_take]; omega
  unfold wasL
  refine ⟨by rw [List.length_append, hl, List.length_replicate]; omega, ?_, ?_⟩
  · rw [List.getElem?_append_right (by omega), hl, Nat.sub_self, List.getElem?_replicate, if_pos (by omega)]
  · rw [List.set_append_right _ _ (by omega), hl, Nat.sub_self, List.take_add_one, hi, List.map_append, List.append_assoc]
    congr 1
    rw [show N - i = (N - (i + 1)) + 1 by omega, List.replicate_succ]
    rfl

set_option maxRecDepth 100000 in
set_option maxHeartbeats 1000000 in
theorem walk (a0 : Int) (A : Option Addr) (l : List ActV) (c : Nat) (w : World) (hl : Lst w w.heap.size A l) (hlen : l.length ≤ maxLen) :
    Calls Try.prog 9 #[.int .i64 a0, .slice A l.length c] w fun e w' => e = .returned (.bool true) ∧ Below w.heap.size w w' := by
  have M := Lib.hid (made_ok a0 A l c w hl hlen)
  obtain ⟨i0, hi0, hz0, hz1, hz2⟩ := info_parts Try.infoH3
  clear hl hlen
  go_enter Try.func9, Try.ntmps9
  go_wp2_with fail
  refine M.out.mono ?_
  clear M
  rintro e w1 (⟨rfl, hb⟩ | ⟨p, S, rfl, H, hS⟩)
  · go_wp2_with fail
    refine (alive_any _).mono ?_
    rintro e wa ⟨rfl, hba⟩
    have HF := Lib.hid ((hb).trans (hba.mono (hb).size))
    go_wp2_with fail
    go_ret
    exact ⟨rfl, HF.out⟩
  subst hS
  have HI := H.inv
  have HHL := hsTo_len HI
  have HLL := HI.length
  have HLS := HI.size
  have HW := handles_row H
  obtain ⟨hsI, hhs⟩ : ∃ hsI : List Int, hsI = (hsTo S.L 70000).map fun h : Nat => (h : Int) := ⟨_, rfl⟩
  rw [← hhs] at HW
  have hsl : (hsTo S.L 70000).length = hsI.length := by rw [hhs, List.length_map]
  have hn6 : hsI.length ≤ 65536 := by omega
  have HHS := Lib.hid hhs
  have HSL := Lib.hid hsl
  clear hhs hsl HHL HLL
  go_wp2_with fail
  refine HW.mono ?_
  clear HW H
  rintro e w2 ⟨v, X, rfl, H, hrow⟩
  have T : Two X w p S v hsI w2 := ⟨H, hrow⟩
  obtain ⟨A', c', rfl, -⟩ := hrow
  obtain ⟨N, hN⟩ : ∃ N, N = hsI.length := ⟨_, rfl⟩
  rw [← hN] at T hn6 ⊢
  have HN := Lib.hid hN
  clear hN H
  obtain ⟨Z, hZ⟩ : ∃ Z, Z = S.cells.length := ⟨_, rfl⟩
  rw [← hZ] at HLS ⊢
  have HZ := Lib.hid hZ
  clear hZ
  go_wp2_with (at_make; refine wpList_make_full w2 rfl (.tmp 22) (.tmp 22) 43 rfl w2.heap.size 3 i0 (.int .i64 0) 1 Try.underlying43 hi0 hz0 hz1 .i64 .i64 N N N rfl rfl rfl rfl (by rw [hz2]; omega) (by unfold maxLen; omega) (Nat.le_refl _) ?_)
  intro w3 hown hg1
  have hfull := own_full hown
  rw [made_replicate] at hfull
  have T3 : Tri X w p S (.slice A' N c') hsI w2.heap.size (wasL S hsI N 0) w3 := T.tri ((Below.refl _ w2).grown hg1 (Nat.le_refl _) (by simp)) (by rw [hfull]; simp [wasL, iv])
  obtain ⟨g, hg⟩ : ∃ g, g = w2.heap.size := ⟨_, rfl⟩
  rw [← hg] at T3 ⊢
  clear hown hfull hg1 T hg
  go_wp2_with fail
  go_loopw [8] (fun t wr => ∃ i : Nat, i ≤ N ∧ t = .int .i64 i ∧ Tri X w p S (.slice A' N c') hsI g (wasL S hsI N i) wr) (fun t _ => N - (intOf t).toNat)
  case atStart => exact ⟨0, Nat.zero_le _, by go_num, T3⟩
  case round =>
    clear T3
    obtain ⟨i, hi, rfl, T4⟩ := hrel
    by_cases hlt : i < N
    · obtain ⟨x, hx⟩ : ∃ x, hsI[i]? = some x := ⟨hsI[i]'(by rw [← HN.out]; exact hlt), List.getElem?_eq_getElem _⟩
      obtain ⟨k1, k2, k3⟩ := wasL_set (S := S) HN.out hx
      obtain ⟨g0, rfl⟩ := T4.two.at_ hx
      have hcell := T4.two.cell hx
      obtain ⟨q, hq⟩ : ∃ q, q = addrR S.L x := ⟨_, rfl⟩
      rw [← hq] at k3
      have CA := T4.addr x hq.symm
      have K2 := Lib.hid k2
      have K3 := Lib.hid k3
      clear hx hq k2 k3 T4
      go_wp2_with fail
      refine CA.mono ?_
      clear CA hcell
      rintro e w4 ⟨rfl, T5⟩
      have hcw := T5.was K2.out
      have hfz := T5.frz i
      have T6 := Lib.hid (T5.set k1 q)
      clear T5
      go_wp2_with fail
      go_roundw
      case rel => exact ⟨i + 1, by omega, by go_num, by rw [← K3.out]; exact T6.out⟩
      case measure => simp [intOf]; omega
    · obtain rfl : i = N := by omega
      have hwl : wasL S hsI i i = hsI.map (addrR S.L) := by unfold wasL; rw [Nat.sub_self, HN.out, List.take_length]; simp
      rw [hwl] at T4
      obtain ⟨mv, hmv⟩ : ∃ mv, mv = compM 0 S.L := ⟨_, rfl⟩
      have CP := T4.compact (q := (mv : Int)) (by rw [hmv])
      have HMV := Lib.hid hmv
      clear hwl hmv T4
      go_wp2_with fail
      refine CP.mono ?_
      clear CP
      rintro e w5 ⟨rfl, T5⟩
      go_wp2_with fail
      go_loopw [10, 11] (fun t t2 wr => ∃ q : Nat, q ≤ i ∧ t2 = .int .i64 q ∧ t = .int .i64 (movedOf S.L (compactS S).L ((hsTo S.L 70000).take q)) ∧ Tri X w p (compactS S) (.slice A' i c') hsI g (hsI.map (addrR S.L)) wr) (fun _ t2 _ => i - (intOf t2).toNat)
      case atStart => exact ⟨0, Nat.zero_le _, by go_num, rfl, T5⟩
      case round =>
        clear T5
        obtain ⟨q, hq, rfl, rfl, T6⟩ := hrel
        by_cases hqi : q < i
        · obtain ⟨hh, hhq⟩ : ∃ hh, (hsTo S.L 70000)[q]? = some hh := ⟨(hsTo S.L 70000)[q]'(by rw [HSL.out, ← HN.out]; exact hqi), List.getElem?_eq_getElem _⟩
          have hix : hsI[q]? = some (hh : Int) := by rw [HHS.out, List.getElem?_map, hhq]; rfl
          have hwx : (hsI.map (addrR S.L))[q]? = some (addrR S.L hh) := by rw [List.getElem?_map, hix]; rfl
          have hT' := moved_take (L := S.L) (R := (compactS S).L) hhq
          have hzl : movedOf S.L (compactS S).L ((hsTo S.L 70000).take q) ≤ 65536 := by
            refine Nat.le_trans (List.length_filter_le _ _) ?_
            rw [List.length_take]; omega
          obtain ⟨z, hz⟩ : ∃ z, z = movedOf S.L (compactS S).L ((hsTo S.L 70000).take q) := ⟨_, rfl⟩
          obtain ⟨u, hu⟩ : ∃ u, u = addrR S.L hh := ⟨_, rfl⟩
          obtain ⟨u', hu'⟩ : ∃ u', u' = addrR (compactS S).L hh := ⟨_, rfl⟩
          rw [← hz] at hT' hzl ⊢
          rw [← hu] at hwx hT'
          rw [← hu'] at hT'
          obtain ⟨g0, rfl⟩ := T6.two.at_ hix
          have hcell := T6.two.cell hix
          have hcw := T6.was hwx
          have HIX := Lib.hid hix
          have HWX := Lib.hid hwx
          have HU := Lib.hid hu'
          have HUU := Lib.hid hu
          have HTT := Lib.hid hT'
          have HHQ := Lib.hid hhq
          have HT6 := Lib.hid T6
          have hlh : q < (hsI.map (addrR S.L)).length := (List.getElem?_eq_some_iff.1 hwx).1
          clear hix hwx hu hu' hz hT' hhq hlh
          obtain ⟨bb, hbb⟩ : ∃ bb, bb = (u' != u) := ⟨_, rfl⟩
          have HBB := Lib.hid hbb
          clear hbb
          go_upto_region 15 with fail
          go_cut [57] (fun s wx => s = .bool bb ∧ Tri X w p (compactS S) (.slice (some ⟨g0, 0, none⟩) i c') hsI g (hsI.map (addrR S.L)) wx)
          case first =>
            go_region_held3 (fun w' => Tri X w p (compactS S) (.slice (some ⟨g0, 0, none⟩) i c') hsI g (hsI.map (addrR S.L)) w' ∧ w'.cell? ⟨g0, q, none⟩ = some (.int .i64 hh) ∧ w'.cell? ⟨g, q, none⟩ = some (.int .i64 u))
              (first | assumption | exact ⟨HT6.out.drew, Two.cell HT6.out.drew.two HIX.out, Tri.was HT6.out.drew HWX.out⟩)
              ((first | (go_at_call 20; refine (Tri.addr (by first | assumption | exact HT6.out.drew) hh HU.out.symm).mono ?_; rintro e wz ⟨rfl, hT⟩; have s1 := And.intro hT (And.intro (Two.cell hT.two HIX.out) (Tri.was hT HWX.out)))))
            all_goals (
              go_wp2_with fail
              go_meet
              exact ⟨by rw [HBB.out], by assumption⟩)
          case rest =>
            obtain ⟨rfl, T8⟩ := hcut
            clear hcell hcw HT6 T6
            have ORD := Lib.hid (show ∀ (j hk : Nat), j < q → (hsTo S.L 70000)[j]? = some hk → (addrR S.L hh < addrR S.L hk ↔ addrR (compactS S).L hh < addrR (compactS S).L hk) from by
              intro j hk hj hjk
              obtain ⟨xb, hx1, hx2, hx3⟩ := hs_block HI HHQ.out
              obtain ⟨yb, hy1, hy2, hy3⟩ := hs_block HI hjk
              have hlt := hs_lt hjk HHQ.out hj
              obtain ⟨x', y', e1, e2, e3⟩ := comp_order (lo := 0) HI.laid HI.nodup hx1 hy1 (by omega)
              rw [hx2] at e1
              rw [hy2] at e2
              rw [addr_get hx3, addr_get hy3, addr_get (L := (compactS S).L) e1, addr_get (L := (compactS S).L) e2]
              omega)
            have hbb := HBB.out
            clear HBB
            cases bb with
            | false =>
              have hm : u' = u := by simpa using hbb.symm
              clear hbb
              have ht := HTT.out
              rw [if_neg (by simp [hm])] at ht
              have HM := Lib.hid hm
              clear hm
              have HZ := Lib.hid ht
              clear ht HTT
              go_wp2_with fail
              go_loopw [12] (fun t wr => ∃ j : Nat, j ≤ q ∧ t = .int .i64 j ∧ Tri X w p (compactS S) (.slice (some ⟨g0, 0, none⟩) i c') hsI g (hsI.map (addrR S.L)) wr) (fun t _ => q - (intOf t).toNat)
              case atStart => exact ⟨0, Nat.zero_le _, by go_num, T8⟩
              case round =>
                clear T8
                obtain ⟨j, hj, rfl, T9⟩ := hrel
                by_cases hjq : j < q
                · obtain ⟨hk, hhk⟩ : ∃ hk, (hsTo S.L 70000)[j]? = some hk := ⟨(hsTo S.L 70000)[j]'(by rw [HSL.out, ← HN.out]; omega), List.getElem?_eq_getElem _⟩
                  have hord := ORD.out j hk hjq hhk
                  have hjx : hsI[j]? = some (hk : Int) := by rw [HHS.out, List.getElem?_map, hhk]; rfl
                  have hwj : (hsI.map (addrR S.L))[j]? = some (addrR S.L hk) := by rw [List.getElem?_map, hjx]; rfl
                  obtain ⟨y, hy⟩ : ∃ y, y = addrR S.L hk := ⟨_, rfl⟩
                  obtain ⟨y', hy'⟩ : ∃ y', y' = addrR (compactS S).L hk := ⟨_, rfl⟩
                  rw [← HUU.out, ← HU.out, ← hy, ← hy'] at hord
                  rw [← hy] at hwj
                  have HORD := Lib.hid hord
                  have HJX := Lib.hid hjx
                  have HWJ := Lib.hid hwj
                  have HY := Lib.hid hy'
                  have HT9 := Lib.hid T9
                  have hc1 := T9.two.cell hjx
                  have hc2 := T9.two.cell HIX.out
                  have hc3 := T9.was hwj
                  have hc4 := T9.was HWX.out
                  have hjN : j < i := by omega
                  have hlj : j < (hsI.map (addrR S.L)).length := (List.getElem?_eq_some_iff.1 hwj).1
                  clear hord hjx hwj hy hy' hhk hlj
                  go_upto_region 20 with fail
                  go_cut [87] (fun s wx => s = .bool false ∧ Tri X w p (compactS S) (.slice (some ⟨g0, 0, none⟩) i c') hsI g (hsI.map (addrR S.L)) wx)
                  case first =>
                    go_region_held3 (fun w' => Tri X w p (compactS S) (.slice (some ⟨g0, 0, none⟩) i c') hsI g (hsI.map (addrR S.L)) w' ∧ w'.cell? ⟨g0, j, none⟩ = some (.int .i64 hk) ∧ w'.cell? ⟨g0, q, none⟩ = some (.int .i64 hh) ∧ w'.cell? ⟨g, j, none⟩ = some (.int .i64 y) ∧ w'.cell? ⟨g, q, none⟩ = some (.int .i64 u))
                      (first | assumption | exact ⟨HT9.out.drew, Two.cell HT9.out.drew.two HJX.out, Two.cell HT9.out.drew.two HIX.out, Tri.was HT9.out.drew HWJ.out, Tri.was HT9.out.drew HWX.out⟩)
                      ((first | (go_at_call_of 20 (Value.int .i64 (hh : Int)); refine (Tri.addr (by first | assumption | exact HT9.out.drew) hh HU.out.symm).mono ?_; rintro e wz ⟨rfl, hT⟩; have s1 := And.intro hT (And.intro (Two.cell hT.two HJX.out) (And.intro (Two.cell hT.two HIX.out) (And.intro (Tri.was hT HWJ.out) (Tri.was hT HWX.out))))) | (go_at_call_of 20 (Value.int .i64 (hk : Int)); refine (Tri.addr (by first | assumption | exact HT9.out.drew) hk HY.out.symm).mono ?_; rintro e wz ⟨rfl, hT⟩; have s1 := And.intro hT (And.intro (Two.cell hT.two HJX.out) (And.intro (Two.cell hT.two HIX.out) (And.intro (Tri.was hT HWJ.out) (Tri.was hT HWX.out)))))))
                    all_goals (
                      go_wp2_with fail
                      go_meet
                      exact ⟨by simp [HORD.out], by assumption⟩)
                  case rest =>
                    obtain ⟨rfl, T10⟩ := hcut
                    have HT10 := Lib.hid T10
                    clear hc1 hc2 hc3 hc4 HT9 T9 T10
                    go_wp2_with fail
                    go_roundw
                    case rel => exact ⟨j + 1, by omega, by go_num, HT10.out⟩
                    case measure => simp [intOf]; omega
                · obtain rfl : j = q := by omega
                  have HT10 := Lib.hid T9
                  clear T9
                  go_wp2_with fail
                  go_roundw
                  case rel => exact ⟨j + 1, by omega, by go_num, by rw [HZ.out]; first | rfl | go_num | simp, HT10.out⟩
                  case measure => simp [intOf]; omega
            | true =>
              have hm : ¬ u' = u := by simpa using hbb.symm
              clear hbb
              have ht := HTT.out
              rw [if_pos hm] at ht
              have HM := Lib.hid hm
              clear hm
              have HZ := Lib.hid ht
              clear ht HTT
              go_wp2_with fail
              go_loopw [12] (fun t wr => ∃ j : Nat, j ≤ q ∧ t = .int .i64 j ∧ Tri X w p (compactS S) (.slice (some ⟨g0, 0, none⟩) i c') hsI g (hsI.map (addrR S.L)) wr) (fun t _ => q - (intOf t).toNat)
              case atStart => exact ⟨0, Nat.zero_le _, by go_num, T8⟩
              case round =>
                clear T8
                obtain ⟨j, hj, rfl, T9⟩ := hrel
                by_cases hjq : j < q
                · obtain ⟨hk, hhk⟩ : ∃ hk, (hsTo S.L 70000)[j]? = some hk := ⟨(hsTo S.L 70000)[j]'(by rw [HSL.out, ← HN.out]; omega), List.getElem?_eq_getElem _⟩
                  have hord := ORD.out j hk hjq hhk
                  have hjx : hsI[j]? = some (hk : Int) := by rw [HHS.out, List.getElem?_map, hhk]; rfl
                  have hwj : (hsI.map (addrR S.L))[j]? = some (addrR S.L hk) := by rw [List.getElem?_map, hjx]; rfl
                  obtain ⟨y, hy⟩ : ∃ y, y = addrR S.L hk := ⟨_, rfl⟩
                  obtain ⟨y', hy'⟩ : ∃ y', y' = addrR (compactS S).L hk := ⟨_, rfl⟩
                  rw [← HUU.out, ← HU.out, ← hy, ← hy'] at hord
                  rw [← hy] at hwj
                  have HORD := Lib.hid hord
                  have HJX := Lib.hid hjx
                  have HWJ := Lib.hid hwj
                  have HY := Lib.hid hy'
                  have HT9 := Lib.hid T9
                  have hc1 := T9.two.cell hjx
                  have hc2 := T9.two.cell HIX.out
                  have hc3 := T9.was hwj
                  have hc4 := T9.was HWX.out
                  have hjN : j < i := by omega
                  have hlj : j < (hsI.map (addrR S.L)).length := (List.getElem?_eq_some_iff.1 hwj).1
                  clear hord hjx hwj hy hy' hhk hlj
                  go_upto_region 20 with fail
                  go_cut [87] (fun s wx => s = .bool false ∧ Tri X w p (compactS S) (.slice (some ⟨g0, 0, none⟩) i c') hsI g (hsI.map (addrR S.L)) wx)
                  case first =>
                    go_region_held3 (fun w' => Tri X w p (compactS S) (.slice (some ⟨g0, 0, none⟩) i c') hsI g (hsI.map (addrR S.L)) w' ∧ w'.cell? ⟨g0, j, none⟩ = some (.int .i64 hk) ∧ w'.cell? ⟨g0, q, none⟩ = some (.int .i64 hh) ∧ w'.cell? ⟨g, j, none⟩ = some (.int .i64 y) ∧ w'.cell? ⟨g, q, none⟩ = some (.int .i64 u))
                      (first | assumption | exact ⟨HT9.out.drew, Two.cell HT9.out.drew.two HJX.out, Two.cell HT9.out.drew.two HIX.out, Tri.was HT9.out.drew HWJ.out, Tri.was HT9.out.drew HWX.out⟩)
                      ((first | (go_at_call_of 20 (Value.int .i64 (hh : Int)); refine (Tri.addr (by first | assumption | exact HT9.out.drew) hh HU.out.symm).mono ?_; rintro e wz ⟨rfl, hT⟩; have s1 := And.intro hT (And.intro (Two.cell hT.two HJX.out) (And.intro (Two.cell hT.two HIX.out) (And.intro (Tri.was hT HWJ.out) (Tri.was hT HWX.out))))) | (go_at_call_of 20 (Value.int .i64 (hk : Int)); refine (Tri.addr (by first | assumption | exact HT9.out.drew) hk HY.out.symm).mono ?_; rintro e wz ⟨rfl, hT⟩; have s1 := And.intro hT (And.intro (Two.cell hT.two HJX.out) (And.intro (Two.cell hT.two HIX.out) (And.intro (Tri.was hT HWJ.out) (Tri.was hT HWX.out)))))))
                    all_goals (
                      go_wp2_with fail
                      go_meet
                      exact ⟨by simp [HORD.out], by assumption⟩)
                  case rest =>
                    obtain ⟨rfl, T10⟩ := hcut
                    have HT10 := Lib.hid T10
                    clear hc1 hc2 hc3 hc4 HT9 T9 T10
                    go_wp2_with fail
                    go_roundw
                    case rel => exact ⟨j + 1, by omega, by go_num, HT10.out⟩
                    case measure => simp [intOf]; omega
                · obtain rfl : j = q := by omega
                  have HT10 := Lib.hid T9
                  clear T9
                  go_wp2_with fail
                  go_roundw
                  case rel => exact ⟨j + 1, by omega, by go_num, by rw [HZ.out]; first | rfl | go_num | simp, HT10.out⟩
                  case measure => simp [intOf]; omega
        · obtain rfl : q = i := by omega
          have htk : (hsTo S.L 70000).take q = hsTo S.L 70000 := List.take_of_length_le (by rw [HSL.out, ← HN.out]; exact Nat.le_refl _)
          have HI2 := HI.compact
          have hml := compM_le 0 S.L
          have hLL := HI.length
          have hsz := HI.size
          have hmvq : movedOf S.L (compactS S).L ((hsTo S.L 70000).take q) = mv := by rw [htk, moved_hs HI, HMV.out]
          rw [hmvq]
          have hmv6 : mv ≤ 65536 := by rw [HMV.out]; omega
          have T0 := has_top T6.1
          have htop : topL 0 (compactS S).L = liveL S.L := by show topL 0 (compL 0 S.L) = _; rw [compL_top]; omega
          have hlive : liveL (compactS S).L = liveL S.L := compL_live
          have hgap := gap_comp HI
          have hlvl := HI.live
          rw [htop] at T0
          obtain ⟨lv, hlv⟩ : ∃ lv, lv = liveL S.L := ⟨_, rfl⟩
          rw [← hlv] at T0 hlive hgap hlvl
          rw [← HZ.out] at hgap hlvl
          have HLV := Lib.hid hlive
          have HGP := Lib.hid hgap
          have hwz : IntKind.i64.wrap ((Z : Int) - lv) = ((Z - lv : Nat) : Int) := by rw [IntWalk.i64_in _ (by omega)]; omega
          have HX6 := Lib.hid T6
          have R6 := T6.2.1
          clear htk hmvq hml hLL hsz htop hlive hgap hlv T6
          go_wp2_with fail
          refine T0.mono ?_
          clear T0
          rintro e w7 ⟨rfl, H7, s7⟩
          have T7 := HX6.out.next H7 s7
          clear H7 s7 HX6
          go_wp2_with fail
          have L7 := has_live T7.1
          rw [HLV.out] at L7
          refine L7.mono ?_
          clear L7
          rintro e w8 ⟨rfl, rfl⟩
          go_wp2_with fail
          have G7 := has_gap T7.1
          rw [HGP.out] at G7
          refine G7.mono ?_
          clear G7
          rintro e w8 ⟨rfl, H8, s8⟩
          have T8 := T7.next H8 s8
          clear H8 s8 T7
          go_wp2_with fail
          have L8 := has_live T8.1
          rw [HLV.out] at L8
          refine L8.mono ?_
          clear L8
          rintro e w9 ⟨rfl, rfl⟩
          go_wp2_with fail
          refine (has_handles T8.1).mono ?_
          rintro e w9 ⟨v2, rfl, hr2, hb2, H9, s9⟩
          have T9 := T8.next H9 s9
          have e1 : ((hsTo (compactS S).L 70000).map fun h : Nat => iv h) = hsI.map iv := by rw [show (compactS S).L = compL 0 S.L from rfl, hsTo_comp, HHS.out]; simp [Function.comp_def]
          rw [e1] at hr2
          have Q9 := reads_of_row hr2
          obtain ⟨a2, cc2, rfl⟩ := row_shape hr2
          have IS := ints_same Q9 (T9.2.1.reads T9.two.1) (by rw [← HN.out]; omega)
          have hnn : (hsI.map iv).length = q := by rw [List.length_map, ← HN.out]
          clear hb2 s9 H9 e1 Q9 T8
          go_wp2_with fail
          refine IS.mono ?_
          clear IS
          rintro e w10 ⟨rfl, hb10⟩
          have H10 := (T9.1.below hb10).1
          clear hb10 T9
          go_wp2_with fail
          have C10 := has_compact H10
          rw [show compM 0 (compactS S).L = 0 from compM_again] at C10
          refine C10.mono ?_
          clear C10
          rintro e w11 ⟨rfl, H11, -⟩
          clear H10
          go_wp2_with fail
          refine (alive_any _).mono ?_
          rintro e wa ⟨rfl, hba⟩
          have HF := Lib.hid ((H11.old).trans (hba.mono (H11.old).size))
          go_wp2_with fail
          go_ret
          exact ⟨rfl, HF.out⟩

set_option maxRecDepth 100000 in
theorem lifted (os : Os) (started : os.Started) (H : Type) (enc : TypeId × Value → H) :
    ReturnsInHanded {} Try.checked os 9 .any (Rows.arenaTightSpec.pre6 enc Try.prog Try.f9 Rows.arenaTightRow.domain false) (Rows.arenaTightSpec.post enc Try.prog Try.f9 false true false false) := by
  refine returnsInHanded_of_change (C := Try.checked) own started (by kernel_rfl) Try.func9
    (ChangeSpec.witness6 (enc := enc) (C := Try.checked) false ⟨#[], #[.int .i64 0, .slice none 0 0], []⟩ 8 (by kernel_rfl) (by kernel_rfl) (by kernel_rfl) (by kernel_rfl)) ?_
  intro W base args ds gs before hval0 hW hcnd _
  have hval : ∀ (j : Nat) t v, Try.f9.params[j]? = some t → args[j]? = some v → Value.okWide Try.prog W .any base t v := hval0
  have hW' := hW
  obtain ⟨p, q, hA0, hV, rfl, hfz, hnd⟩ := hW
  have hA : DataW.TrodAll enc Try.prog W 0 (fun _ => true) true Try.f9.params.toList args.toList ds p := hA0
  rw [Try.params9] at hA hval
  obtain ⟨v0, vs0, d0, ds0, p0, q0, hargs, rfl, rfl, h0, r0⟩ := trodAll_cons hA
  obtain ⟨v1, vs1, d1, ds1, p1, q1, rfl, rfl, rfl, h1, r1⟩ := trodAll_cons r0
  obtain ⟨rfl, rfl, rfl⟩ := trodAll_nil r1
  obtain rfl : args = #[v0, v1] := by cases args; simp_all
  obtain ⟨rfl, rfl⟩ := trodVars_none hV
  simp only [List.append_nil] at hW'
  obtain ⟨a0, rfl, rfl, rfl, w0⟩ := open_int Try.underlying3 (hval 0 3 v0 rfl rfl) h0
  have h1k := h1
  obtain ⟨x1, y1, z1, rfl⟩ := okWide_slice Try.underlying22 (hval 1 22 v1 rfl rfl)
  obtain ⟨fuel1, hf1⟩ := h1
  obtain ⟨A1, l1, c1, hcs1, hl1, hlen1⟩ := open_acts hf1
  simp only [Value.cells, List.cons.injEq, and_true, Value.slice.injEq] at hcs1
  obtain ⟨rfl, rfl, rfl⟩ := hcs1
  clear hA0 hval0
  try simp only [List.append_nil] at hW'
  refine (walk a0 x1 l1 z1 W hl1 hlen1).mono fun e W' ⟨he, hg⟩ => ?_
  subst he
  exact ⟨_, rfl, _, _, _, [], _, [], hW', (trodAll_cons_mk (shut_bool Try.underlying4 _) trodAll_mk0), (trodAll_cons_mk (shut_int Try.underlying3 w0) (trodAll_cons_mk (Below.trod Try.laidOut (by kernel_rfl) (of_decide_eq_true (by kernel_rfl)) h1k hg (fun x hx => by have := hW'.lt x (by simp [hx]); simpa using this)) trodAll_mk0)), rfl,
    hg.frame _, fun h => by cases h⟩

theorem over : Rows.arenaTightRow.holds Try.pinned (OpenSpec.ofChange Rows.arenaTightSpec) :=
  OpenClaim.holds_of_wide 9 Try.f9 rfl rfl rfl rfl rfl rfl rfl ⟨rfl, rfl, rfl, rfl, rfl⟩ rfl rfl rfl rfl rfl (by kernel_rfl) Try.func9 (by kernel_rfl)
    (of_decide_eq_true (by kernel_rfl)) (by unfold Func.isWrapper; first | (rw [if_pos (by decide +kernel)]; kernel_rfl) | (rw [if_neg (by decide +kernel)]; exact ⟨rfl, rfl⟩))
    (fun os started H enc _ => lifted os started H enc)

theorem proved : Rows.ArenaTightSaid :=
  over
#print axioms proved
end Go.Proofs.Ytpaopcnbgdlgnaa.arenaTight
