/- TableSizes: the nodes are a power of two, the array part too, and behind a renewal no node is spare by half: the law returns true for every list of calls. -/
import Derived.Test.YtpodgmajccmgkaaRows
import Derived.Test.YtpodgmajccmgkaaTabSz
namespace Go.Proofs.Ytpodgmajccmgkaa.tableSizes
open Go.ChangeShapes Go.WideShapes Go.ChangeAt Go.RowKit Go.Shelf
set_option linter.unusedVariables false
set_option linter.unusedSimpArgs false
attribute [local go_sem] Oper.semAt_some nil_slot field_t meth_array meth_nodes meth_slot meth_setslot meth_resize meth_hash

theorem own : ownKnob Try.prog.godebug = none := by kernel_rfl

variable {w0 w w' : World} {p : Nat} {sv sv' : Value} {T T' : Tb}

set_option maxRecDepth 100000 in
set_option maxHeartbeats 20000000 in
theorem walk (A : Option Addr) (l : List ActV) (c : Nat) (w : World) (hl : Lst w w.heap.size A l) (hlen : l.length ≤ maxLen) :
    Calls Try.prog 6 #[.slice A l.length c] w fun e w' => e = .returned (.bool true) ∧ Below w.heap.size w w' := by
  obtain ⟨N, hN⟩ : ∃ N, N = l.length := ⟨_, rfl⟩
  rw [← hN] at hlen ⊢
  have HN := Lib.hid hN
  have HLEN := Lib.hid hlen
  have HL := Lib.hid hl
  clear hN hl hlen
  go_enter Try.func6, Try.ntmps6
  go_wp2_with fail
  refine (new_has 400 ⟨by decide, by decide⟩ _).mono ?_
  rintro e w1 ⟨p, rfl, H⟩
  have HH := Lib.hid H
  clear H
  go_wp2_with fail
  refine (alive_any _).mono ?_
  rintro e w2 ⟨rfl, hb⟩
  have H2 := Lib.hid (HH.out.step hb)
  clear hb HH
  go_wp2_with fail
  go_loopw [4] (fun t4 wr => ∃ (i : Nat) (sv : Value) (T : Tb), i ≤ N ∧ i ≤ 80 ∧ t4 = .int .i64 i ∧ HasT w wr p sv T ∧ MT T i ∧ Pow2 T.a) (fun t4 _ => 80 - (intOf t4).toNat)
  case atStart => exact ⟨0, _, _, Nat.zero_le _, Nat.zero_le _, by go_num, H2.out, MT.start 400, .inl rfl⟩
  case round =>
    obtain ⟨i, sv, T, hi, hi8, rfl, H1, hmt, hpa⟩ := hrel
    by_cases hlt : i < N
    · by_cases hlt8 : i < 80
      · obtain ⟨a, ha⟩ : ∃ a, l[i]? = some a := ⟨l[i]'(by rw [← HN.out]; exact hlt), List.getElem?_eq_getElem _⟩
        have HMT := Lib.hid hmt
        have HPA := Lib.hid hpa
        have H1' := Lib.hid H1
        have HLI := Lib.hid (show ∀ wx, Below w.heap.size w wx → _ from fun wx hb => (HL.out.below hb) i a ha)
        obtain ⟨ad, hA, hB, hc⟩ := (HL.out.below H1.b) i a ha
        obtain ⟨kind, ⟨kt, kn⟩, ⟨vt, vn⟩, ai⟩ := a
        subst hA
        have HB := Lib.hid hB
        have HCC := Lib.hid (show ∀ wx, Below w.heap.size w wx → wx.cell? (ad.add (i * 6)) = some (.int .i64 kind) ∧ wx.cell? ⟨(ad.add (i * 6)).block, (ad.add (i * 6)).off + 1, none⟩ = some (.int .i64 kt) ∧ wx.cell? ⟨(ad.add (i * 6)).block, (ad.add (i * 6)).off + 1 + 1, none⟩ = some (.int .i64 kn) ∧
            wx.cell? ⟨(ad.add (i * 6)).block, (ad.add (i * 6)).off + 3, none⟩ = some (.int .i64 vt) ∧ wx.cell? ⟨(ad.add (i * 6)).block, (ad.add (i * 6)).off + 3 + 1, none⟩ = some (.int .i64 vn) from fun wx hb => by
          obtain ⟨ad', hA', _, hc'⟩ := (HL.out.below hb) i _ ha
          simp only [Option.some.injEq] at hA'
          subst hA'
          exact ⟨hc' 0 _ rfl, hc' 1 _ rfl, hc' 2 _ rfl, hc' 3 _ rfl, hc' 4 _ rfl⟩)
        obtain ⟨hc0, -, -, -, -⟩ := HCC.out _ H1.b
        clear hc ha H1 hmt hpa hB HLI
        by_cases hk : kind = 1
        · subst hk
          obtain ⟨na, hna⟩ : ∃ a, a = T.a := ⟨_, rfl⟩
          obtain ⟨nn, hnn⟩ : ∃ a, a = T.nodes := ⟨_, rfl⟩
          have AC := array_any H1'.out.m
          have NC := nodes_any H1'.out.m
          rw [← hna] at AC
          rw [← hnn] at NC
          have HNA := Lib.hid hna
          have HNN := Lib.hid hnn
          clear hna hnn
          go_wp2_with fail
          refine AC.mono ?_
          clear AC
          rintro e w3 ⟨rfl, rfl⟩
          go_wp2_with fail
          refine NC.mono ?_
          clear NC
          rintro e w3 ⟨rfl, hb3⟩
          have H3 := Lib.hid (H1'.out.step hb3)
          clear hb3 H1' hc0
          obtain ⟨-, hc1, hc2, hc3, hc4⟩ := HCC.out _ H3.out.b
          have SC := set_has (H3.out.step (Below.refl _ w3).drew) (by have := HMT.out.cnt; omega) ⟨kt, kn⟩ ⟨vt, vn⟩
          simp only at SC
          have HSC := Lib.hid SC
          clear SC
          go_wp2_with fail
          go_region_with (go_at_call 16; refine HSC.out.mono ?_; rintro e w4 ⟨sv4, rfl, H4, hv4⟩; have H5 := Lib.hid H4; clear H4 hv4)
          all_goals (
            clear hc1 hc2 hc3 hc4 HSC
            have hm2 := HMT.out.set (by omega) ⟨kt, kn⟩ ⟨vt, vn⟩
            have hsl := sizes_law HMT.out.wf (by have := HMT.out.cnt; omega) ⟨kt, kn⟩ ⟨vt, vn⟩
            obtain ⟨T2, hT2⟩ : ∃ T2, T2 = (setR T ⟨kt, kn⟩ ⟨vt, vn⟩).1 := ⟨_, rfl⟩
            have HH5 := H5.out
            rw [← hT2] at hm2 hsl HH5
            obtain ⟨nb, hnb⟩ : ∃ a, a = T2.a := ⟨_, rfl⟩
            obtain ⟨nk, hnk⟩ : ∃ a, a = T2.nodes := ⟨_, rfl⟩
            have AC := array_any HH5.m
            have NC := nodes_any HH5.m
            rw [← hnb] at AC
            rw [← hnk] at NC
            have hpb : Pow2 nb := by
              rcases hsl with ⟨h, -⟩ | ⟨-, h⟩
              · rw [hnb, h]; exact HPA.out
              · rw [hnb]; exact h
            have hpk : Pow2 nk := by rw [hnk]; exact HH5.pow
            have b1 := pow2_le hpb
            have b2 := pow2_le hpk
            have e1 := mask_self hpb
            have e2 := mask_self hpk
            have q1 : IntKind.i64.wrap ((nb : Int) - 1) = (nb : Int) - 1 := IntWalk.i64_in _ (by omega)
            have q2 : IntKind.i64.wrap ((nk : Int) - 1) = (nk : Int) - 1 := IntWalk.i64_in _ (by omega)
            rw [← HNA.out, ← HNN.out, ← hnb, ← hnk] at hsl
            have HSL := Lib.hid hsl
            have HM2 := Lib.hid hm2
            have HPB := Lib.hid hpb
            have HNB := Lib.hid hnb
            have HNK := Lib.hid hnk
            have H6 := Lib.hid HH5
            clear hm2 hsl hT2 hnb hnk HH5 hpb hpk H5
            go_wp2_with fail
            refine AC.mono ?_
            clear AC
            rintro e w5 ⟨rfl, rfl⟩
            go_wp2_with fail
            refine NC.mono ?_
            clear NC
            rintro e w5 ⟨rfl, hb5⟩
            have H7 := Lib.hid (H6.out.step hb5)
            clear hb5 H6
            by_cases hsame : na = nb ∧ nn = nk
            · obtain ⟨rfl, rfl⟩ := hsame
              go_wp2_with fail
              go_roundw
              case rel => exact ⟨i + 1, _, T2, by omega, by omega, by go_num, H7.out, HM2.out, by rw [← HNB.out]; exact HPB.out⟩
              case measure => simp [intOf]; omega
            · have hns : NoSpare T2 := by
                rcases HSL.out with ⟨h1, h2⟩ | ⟨h, -⟩
                · exact absurd ⟨h1.symm, h2.symm⟩ hsame
                · exact h
              unfold NoSpare at hns
              rw [← HNB.out, ← HNK.out] at hns
              have HNS := Lib.hid hns
              have hcs : na ≠ nb ∨ (na = nb ∧ nn ≠ nk) := by omega
              clear hns hsame
              have hal := arrL_len T2 nb
              have hnl := nodL_len T2 nk
              rcases hcs with hne | ⟨heq, hne⟩
              · have hd : ((na : Int) == (nb : Int)) = false := by rw [beq_eq_false_iff_ne]; omega
                have hd2 : ¬ (na : Int) = (nb : Int) := by omega
                go_wp2_with fail
                go_loopw [9, 11] (fun t9 t11 wr => ∃ j : Nat, j ≤ nb ∧ t11 = .int .i64 j ∧ t9 = .int .i64 (arrL T2 j).length ∧ HasT w wr p sv4 T2) (fun _ t11 _ => nb - (intOf t11).toNat)
                case atStart => exact ⟨0, Nat.zero_le _, by go_num, by go_num, H7.out⟩
                case round =>
                  obtain ⟨j, hj, rfl, rfl, hr⟩ := hrel
                  have hsu := arrL_succ T2 j
                  have hjl := arrL_len T2 j
                  rw [arrP_eq] at hsu
                  obtain ⟨q, hq⟩ : ∃ q, q = (arrL T2 j).length := ⟨_, rfl⟩
                  rw [← hq] at hjl ⊢
                  by_cases hjb : j < nb
                  · have SC := slot_any hr.m (j : Int)
                    change Calls _ _ _ _ (fun e w' => e = .returned (aN T2 j).val ∧ _) at SC
                    obtain ⟨⟨st, sn⟩, hst⟩ : ∃ s, s = aN T2 j := ⟨_, rfl⟩
                    rw [← hst] at SC hsu
                    unfold V.val at SC
                    simp only at SC hsu
                    have HQ := Lib.hid hq
                    have HSU := Lib.hid hsu
                    have HR := Lib.hid hr
                    clear hq hsu hr hst
                    go_wp2_with fail
                    refine SC.mono ?_
                    clear SC
                    rintro e w6 ⟨rfl, hb6⟩
                    have HR6 := Lib.hid (HR.out.step hb6)
                    clear hb6 HR
                    by_cases hz : st = 0
                    · have HE := Lib.hid (show (arrL T2 (j + 1)).length = q from by rw [HSU.out, if_pos hz, HQ.out]; simp)
                      have hz1 : (st == 0) = true := by simp [hz]
                      subst hz
                      go_wp2_with fail
                      go_roundw
                      case rel => exact ⟨j + 1, by omega, by go_num, by rw [HE.out], HR6.out⟩
                      case measure => simp [intOf]; omega
                    · have HE := Lib.hid (show (arrL T2 (j + 1)).length = q + 1 from by rw [HSU.out, if_neg hz, HQ.out]; simp)
                      have hz1 : (st == 0) = false := by simp [hz]
                      have hz2 : (st != 0) = true := by simp [hz]
                      go_wp2_with fail
                      go_roundw
                      case rel => exact ⟨j + 1, by omega, by go_num, by rw [HE.out]; go_num, HR6.out⟩
                      case measure => simp [intOf]; omega
                  · obtain rfl : j = nb := by omega
                    have HQ := Lib.hid hq
                    have HR := Lib.hid hr
                    clear hq hsu hr
                    go_wp2_with fail
                    go_loopw [10, 12] (fun t10 t12 wr => ∃ m : Nat, m ≤ nk ∧ t12 = .int .i64 m ∧ t10 = .int .i64 (nodL T2 m).length ∧ HasT w wr p sv4 T2) (fun _ t12 _ => nk - (intOf t12).toNat)
                    case atStart => exact ⟨0, Nat.zero_le _, by go_num, by go_num, HR.out⟩
                    case round =>
                      obtain ⟨m, hm, rfl, rfl, hr⟩ := hrel
                      have hsu := nodL_succ T2 m
                      have hml := nodL_len T2 m
                      rw [nodP_eq] at hsu
                      obtain ⟨u, hu⟩ : ∃ u, u = (nodL T2 m).length := ⟨_, rfl⟩
                      rw [← hu] at hml ⊢
                      have z1 : IntKind.i64.wrap (2 * (m : Int)) = 2 * (m : Int) := IntWalk.i64_in _ (by omega)
                      have z2 : IntKind.i64.wrap ((j : Int) + 2 * (m : Int)) = (j : Int) + 2 * (m : Int) := IntWalk.i64_in _ (by omega)
                      have z3 : IntKind.i64.wrap ((j : Int) + 2 * (m : Int) + 1) = (j : Int) + 2 * (m : Int) + 1 := IntWalk.i64_in _ (by omega)
                      by_cases hmk : m < nk
                      · have SC := slot_any hr.m ((j : Int) + 2 * (m : Int) + 1)
                        have hvn : slotT T2 ((j : Int) + 2 * (m : Int) + 1) = vN T2 m := by unfold vN; rw [← HNB.out]; first | (congr 1; done) | (congr 1; omega)
                        rw [hvn] at SC
                        obtain ⟨⟨st, sn⟩, hst⟩ : ∃ s, s = vN T2 m := ⟨_, rfl⟩
                        rw [← hst] at SC hsu
                        unfold V.val at SC
                        simp only at SC hsu
                        have HU := Lib.hid hu
                        have HSU := Lib.hid hsu
                        have HR := Lib.hid hr
                        clear hu hsu hr hst hvn
                        go_wp2_with fail
                        refine SC.mono ?_
                        clear SC
                        rintro e w6 ⟨rfl, hb6⟩
                        have HR6 := Lib.hid (HR.out.step hb6)
                        clear hb6 HR
                        by_cases hz : st = 0
                        · have HE := Lib.hid (show (nodL T2 (m + 1)).length = u from by rw [HSU.out, if_pos hz, HU.out]; simp)
                          have hz1 : (st == 0) = true := by simp [hz]
                          subst hz
                          go_wp2_with fail
                          go_roundw
                          case rel => exact ⟨m + 1, by omega, by go_num, by rw [HE.out], HR6.out⟩
                          case measure => simp [intOf]; omega
                        · have HE := Lib.hid (show (nodL T2 (m + 1)).length = u + 1 from by rw [HSU.out, if_neg hz, HU.out]; simp)
                          have hz1 : (st == 0) = false := by simp [hz]
                          have hz2 : (st != 0) = true := by simp [hz]
                          go_wp2_with fail
                          go_roundw
                          case rel => exact ⟨m + 1, by omega, by go_num, by rw [HE.out]; go_num, HR6.out⟩
                          case measure => simp [intOf]; omega
                      · obtain rfl : m = nk := by omega
                        have hns := HNS.out
                        rw [← HQ.out, ← hu] at hns
                        have y1 : IntKind.i64.wrap (2 * (q : Int)) = 2 * (q : Int) := IntWalk.i64_in _ (by omega)
                        have y2 : IntKind.i64.wrap (2 * (u : Int)) = 2 * (u : Int) := IntWalk.i64_in _ (by omega)
                        have hj4 : ((j : Int) ≤ 0 ∧ decide ((0 : Int) < (j : Int)) = false) ∨ ((0 : Int) < (j : Int) ∧ decide ((0 : Int) < (j : Int)) = true ∧ ¬ 2 * (q : Int) ≤ (j : Int) ∧ decide (2 * (q : Int) ≤ (j : Int)) = false) := by
                          rcases hns.1 with h | h
                          · left; exact ⟨by omega, by rw [decide_eq_false_iff_not]; omega⟩
                          · by_cases h0 : j = 0
                            · left; exact ⟨by omega, by rw [decide_eq_false_iff_not]; omega⟩
                            · right; exact ⟨by omega, by rw [decide_eq_true_eq]; omega, by omega, by rw [decide_eq_false_iff_not]; omega⟩
                        have hm4 : ((m : Int) ≤ 0 ∧ decide ((0 : Int) < (m : Int)) = false) ∨ ((0 : Int) < (m : Int) ∧ decide ((0 : Int) < (m : Int)) = true ∧ ¬ 2 * (u : Int) ≤ (m : Int) ∧ decide (2 * (u : Int) ≤ (m : Int)) = false) := by
                          rcases hns.2 with h | h
                          · left; exact ⟨by omega, by rw [decide_eq_false_iff_not]; omega⟩
                          · by_cases h0 : m = 0
                            · left; exact ⟨by omega, by rw [decide_eq_false_iff_not]; omega⟩
                            · right; exact ⟨by omega, by rw [decide_eq_true_eq]; omega, by omega, by rw [decide_eq_false_iff_not]; omega⟩
                        have HR := Lib.hid hr
                        have HNB2 := Lib.hid (show j = T2.a from HNB.out)
                        clear hns hsu hr hu
                        rcases hj4 with ⟨x1, x2⟩ | ⟨x1, x2, x3, x4⟩ <;> rcases hm4 with ⟨x5, x6⟩ | ⟨x5, x6, x7, x8⟩
                        all_goals (
                          go_wp2_with fail
                          go_roundw
                          case rel => exact ⟨i + 1, _, T2, by omega, by omega, by go_num, HR.out, HM2.out, by rw [← HNB2.out]; exact HPB.out⟩
                          case measure => simp [intOf]; omega)
              · subst heq
                have hd : ((nn : Int) == (nk : Int)) = false := by rw [beq_eq_false_iff_ne]; omega
                have hd2 : ¬ (nn : Int) = (nk : Int) := by omega
                go_wp2_with fail
                go_loopw [9, 11] (fun t9 t11 wr => ∃ j : Nat, j ≤ na ∧ t11 = .int .i64 j ∧ t9 = .int .i64 (arrL T2 j).length ∧ HasT w wr p sv4 T2) (fun _ t11 _ => na - (intOf t11).toNat)
                case atStart => exact ⟨0, Nat.zero_le _, by go_num, by go_num, H7.out⟩
                case round =>
                  obtain ⟨j, hj, rfl, rfl, hr⟩ := hrel
                  have hsu := arrL_succ T2 j
                  have hjl := arrL_len T2 j
                  rw [arrP_eq] at hsu
                  obtain ⟨q, hq⟩ : ∃ q, q = (arrL T2 j).length := ⟨_, rfl⟩
                  rw [← hq] at hjl ⊢
                  by_cases hjb : j < na
                  · have SC := slot_any hr.m (j : Int)
                    change Calls _ _ _ _ (fun e w' => e = .returned (aN T2 j).val ∧ _) at SC
                    obtain ⟨⟨st, sn⟩, hst⟩ : ∃ s, s = aN T2 j := ⟨_, rfl⟩
                    rw [← hst] at SC hsu
                    unfold V.val at SC
                    simp only at SC hsu
                    have HQ := Lib.hid hq
                    have HSU := Lib.hid hsu
                    have HR := Lib.hid hr
                    clear hq hsu hr hst
                    go_wp2_with fail
                    refine SC.mono ?_
                    clear SC
                    rintro e w6 ⟨rfl, hb6⟩
                    have HR6 := Lib.hid (HR.out.step hb6)
                    clear hb6 HR
                    by_cases hz : st = 0
                    · have HE := Lib.hid (show (arrL T2 (j + 1)).length = q from by rw [HSU.out, if_pos hz, HQ.out]; simp)
                      have hz1 : (st == 0) = true := by simp [hz]
                      subst hz
                      go_wp2_with fail
                      go_roundw
                      case rel => exact ⟨j + 1, by omega, by go_num, by rw [HE.out], HR6.out⟩
                      case measure => simp [intOf]; omega
                    · have HE := Lib.hid (show (arrL T2 (j + 1)).length = q + 1 from by rw [HSU.out, if_neg hz, HQ.out]; simp)
                      have hz1 : (st == 0) = false := by simp [hz]
                      have hz2 : (st != 0) = true := by simp [hz]
                      go_wp2_with fail
                      go_roundw
                      case rel => exact ⟨j + 1, by omega, by go_num, by rw [HE.out]; go_num, HR6.out⟩
                      case measure => simp [intOf]; omega
                  · obtain rfl : j = na := by omega
                    have HQ := Lib.hid hq
                    have HR := Lib.hid hr
                    clear hq hsu hr
                    go_wp2_with fail
                    go_loopw [10, 12] (fun t10 t12 wr => ∃ m : Nat, m ≤ nk ∧ t12 = .int .i64 m ∧ t10 = .int .i64 (nodL T2 m).length ∧ HasT w wr p sv4 T2) (fun _ t12 _ => nk - (intOf t12).toNat)
                    case atStart => exact ⟨0, Nat.zero_le _, by go_num, by go_num, HR.out⟩
                    case round =>
                      obtain ⟨m, hm, rfl, rfl, hr⟩ := hrel
                      have hsu := nodL_succ T2 m
                      have hml := nodL_len T2 m
                      rw [nodP_eq] at hsu
                      obtain ⟨u, hu⟩ : ∃ u, u = (nodL T2 m).length := ⟨_, rfl⟩
                      rw [← hu] at hml ⊢
                      have z1 : IntKind.i64.wrap (2 * (m : Int)) = 2 * (m : Int) := IntWalk.i64_in _ (by omega)
                      have z2 : IntKind.i64.wrap ((j : Int) + 2 * (m : Int)) = (j : Int) + 2 * (m : Int) := IntWalk.i64_in _ (by omega)
                      have z3 : IntKind.i64.wrap ((j : Int) + 2 * (m : Int) + 1) = (j : Int) + 2 * (m : Int) + 1 := IntWalk.i64_in _ (by omega)
                      by_cases hmk : m < nk
                      · have SC := slot_any hr.m ((j : Int) + 2 * (m : Int) + 1)
                        have hvn : slotT T2 ((j : Int) + 2 * (m : Int) + 1) = vN T2 m := by unfold vN; rw [← HNB.out]; first | (congr 1; done) | (congr 1; omega)
                        rw [hvn] at SC
                        obtain ⟨⟨st, sn⟩, hst⟩ : ∃ s, s = vN T2 m := ⟨_, rfl⟩
                        rw [← hst] at SC hsu
                        unfold V.val at SC
                        simp only at SC hsu
                        have HU := Lib.hid hu
                        have HSU := Lib.hid hsu
                        have HR := Lib.hid hr
                        clear hu hsu hr hst hvn
                        go_wp2_with fail
                        refine SC.mono ?_
                        clear SC
                        rintro e w6 ⟨rfl, hb6⟩
                        have HR6 := Lib.hid (HR.out.step hb6)
                        clear hb6 HR
                        by_cases hz : st = 0
                        · have HE := Lib.hid (show (nodL T2 (m + 1)).length = u from by rw [HSU.out, if_pos hz, HU.out]; simp)
                          have hz1 : (st == 0) = true := by simp [hz]
                          subst hz
                          go_wp2_with fail
                          go_roundw
                          case rel => exact ⟨m + 1, by omega, by go_num, by rw [HE.out], HR6.out⟩
                          case measure => simp [intOf]; omega
                        · have HE := Lib.hid (show (nodL T2 (m + 1)).length = u + 1 from by rw [HSU.out, if_neg hz, HU.out]; simp)
                          have hz1 : (st == 0) = false := by simp [hz]
                          have hz2 : (st != 0) = true := by simp [hz]
                          go_wp2_with fail
                          go_roundw
                          case rel => exact ⟨m + 1, by omega, by go_num, by rw [HE.out]; go_num, HR6.out⟩
                          case measure => simp [intOf]; omega
                      · obtain rfl : m = nk := by omega
                        have hns := HNS.out
                        rw [← HQ.out, ← hu] at hns
                        have y1 : IntKind.i64.wrap (2 * (q : Int)) = 2 * (q : Int) := IntWalk.i64_in _ (by omega)
                        have y2 : IntKind.i64.wrap (2 * (u : Int)) = 2 * (u : Int) := IntWalk.i64_in _ (by omega)
                        have hj4 : ((j : Int) ≤ 0 ∧ decide ((0 : Int) < (j : Int)) = false) ∨ ((0 : Int) < (j : Int) ∧ decide ((0 : Int) < (j : Int)) = true ∧ ¬ 2 * (q : Int) ≤ (j : Int) ∧ decide (2 * (q : Int) ≤ (j : Int)) = false) := by
                          rcases hns.1 with h | h
                          · left; exact ⟨by omega, by rw [decide_eq_false_iff_not]; omega⟩
                          · by_cases h0 : j = 0
                            · left; exact ⟨by omega, by rw [decide_eq_false_iff_not]; omega⟩
                            · right; exact ⟨by omega, by rw [decide_eq_true_eq]; omega, by omega, by rw [decide_eq_false_iff_not]; omega⟩
                        have hm4 : ((m : Int) ≤ 0 ∧ decide ((0 : Int) < (m : Int)) = false) ∨ ((0 : Int) < (m : Int) ∧ decide ((0 : Int) < (m : Int)) = true ∧ ¬ 2 * (u : Int) ≤ (m : Int) ∧ decide (2 * (u : Int) ≤ (m : Int)) = false) := by
                          rcases hns.2 with h | h
                          · left; exact ⟨by omega, by rw [decide_eq_false_iff_not]; omega⟩
                          · by_cases h0 : m = 0
                            · left; exact ⟨by omega, by rw [decide_eq_false_iff_not]; omega⟩
                            · right; exact ⟨by omega, by rw [decide_eq_true_eq]; omega, by omega, by rw [decide_eq_false_iff_not]; omega⟩
                        have HR := Lib.hid hr
                        have HNB2 := Lib.hid (show j = T2.a from HNB.out)
                        clear hns hsu hr hu
                        rcases hj4 with ⟨x1, x2⟩ | ⟨x1, x2, x3, x4⟩ <;> rcases hm4 with ⟨x5, x6⟩ | ⟨x5, x6, x7, x8⟩
                        all_goals (
                          go_wp2_with fail
                          go_roundw
                          case rel => exact ⟨i + 1, _, T2, by omega, by omega, by go_num, HR.out, HM2.out, by rw [← HNB2.out]; exact HPB.out⟩
                          case measure => simp [intOf]; omega))
        · have hk1 : (kind == 1) = false := by simp [hk]
          have hk2 : (kind != 1) = true := by simp [hk]
          go_wp2_with fail
          go_roundw
          case rel => exact ⟨i + 1, _, T, by omega, by omega, by go_num, H1'.out, ⟨HMT.out.wf, Nat.le_succ_of_le HMT.out.cnt⟩, HPA.out⟩
          case measure => simp [intOf]; omega
      · obtain rfl : i = 80 := by omega
        have HP := Lib.hid H1.b
        clear H1
        go_wp2_with fail
        go_ret
        exact ⟨rfl, HP.out⟩
    · obtain rfl : i = N := by omega
      have HP := Lib.hid H1.b
      clear H1
      go_wp2_with fail
      go_ret
      exact ⟨rfl, HP.out⟩

set_option maxRecDepth 100000 in
theorem lifted (os : Os) (started : os.Started) (H : Type) (enc : TypeId × Value → H) :
    ReturnsInHanded {} Try.checked os 6 .any (Rows.tableSizesSpec.pre6 enc Try.prog Try.f6 Rows.tableSizesRow.domain false) (Rows.tableSizesSpec.post enc Try.prog Try.f6 false true false false) := by
  refine returnsInHanded_of_change (C := Try.checked) own started (by kernel_rfl) Try.func6
    (ChangeSpec.witness6 (enc := enc) (C := Try.checked) false ⟨#[], #[.slice none 0 0], []⟩ 8 (by kernel_rfl) (by kernel_rfl) (by kernel_rfl) (by kernel_rfl)) ?_
  intro W base args ds gs before hval0 hW hcnd _
  have hval : ∀ (j : Nat) t v, Try.f6.params[j]? = some t → args[j]? = some v → Value.okWide Try.prog W .any base t v := hval0
  have hW' := hW
  obtain ⟨p, q, hA0, hV, rfl, hfz, hnd⟩ := hW
  have hA : DataW.TrodAll enc Try.prog W 0 (fun _ => true) true Try.f6.params.toList args.toList ds p := hA0
  rw [Try.params6] at hA hval
  obtain ⟨v0, vs0, d0, ds0, p0, q0, hargs, rfl, rfl, h0, r0⟩ := trodAll_cons hA
  obtain ⟨rfl, rfl, rfl⟩ := trodAll_nil r0
  obtain rfl : args = #[v0] := by cases args; simp_all
  obtain ⟨rfl, rfl⟩ := trodVars_none hV
  simp only [List.append_nil] at hW'
  have h0k := h0
  obtain ⟨x0, y0, z0, rfl⟩ := okWide_slice Try.underlying22 (hval 0 22 v0 rfl rfl)
  obtain ⟨fuel0, hf0⟩ := h0
  obtain ⟨A0, l0, c0, hcs0, hl0, hlen0⟩ := open_acts hf0
  simp only [Value.cells, List.cons.injEq, and_true, Value.slice.injEq] at hcs0
  obtain ⟨rfl, rfl, rfl⟩ := hcs0
  clear hA0 hval0
  try simp only [List.append_nil] at hW'
  refine (walk x0 l0 z0 W hl0 hlen0).mono fun e W' ⟨he, hg⟩ => ?_
  subst he
  exact ⟨_, rfl, _, _, _, [], _, [], hW', (trodAll_cons_mk (shut_bool Try.underlying4 _) trodAll_mk0), (trodAll_cons_mk (Below.trod Try.laidOut (by kernel_rfl) (of_decide_eq_true (by kernel_rfl)) h0k hg (fun x hx => by have := hW'.lt x (by simp [hx]); simpa using this)) trodAll_mk0), rfl,
    hg.frame _, fun h => by cases h⟩

theorem over : Rows.tableSizesRow.holds Try.pinned (OpenSpec.ofChange Rows.tableSizesSpec) :=
  OpenClaim.holds_of_wide 6 Try.f6 rfl rfl rfl rfl rfl rfl rfl ⟨rfl, rfl, rfl, rfl, rfl⟩ rfl rfl rfl rfl rfl (by kernel_rfl) Try.func6 (by kernel_rfl)
    (of_decide_eq_true (by kernel_rfl)) (by unfold Func.isWrapper; first | (rw [if_pos (by decide +kernel)]; kernel_rfl) | (rw [if_neg (by decide +kernel)]; exact ⟨rfl, rfl⟩))
    (fun os started H enc _ => lifted os started H enc)

theorem proved : Rows.TableSizesSaid :=
  over
#print axioms proved
end Go.Proofs.Ytpodgmajccmgkaa.tableSizes
