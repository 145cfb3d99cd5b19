/- ArenaApart: no two blocks ever have a cell in common, and all lie within the arena: the law returns true for every size and list of calls. -/
import Derived.Test.YtpaopcnbgdlgnaaRows
import Derived.Test.YtpaopcnbgdlgnaaApartP
import Derived.Deep.RegionHeld3
import Derived.Deep.DeepCutAuto
import Derived.Deep.QuietTactic
import Derived.BigQuiet
namespace Go.Proofs.Ytpaopcnbgdlgnaa.arenaApart
open Go.ChangeShapes Go.WideShapes Go.ChangeAt Go.RowKit
set_option linter.unusedVariables false
set_option linter.unusedSimpArgs false

theorem own : ownKnob Try.prog.godebug = none := by kernel_rfl

theorem Try.laidOut : laidOutB Try.prog = true := by kernel_rfl

set_option maxRecDepth 100000 in
set_option maxHeartbeats 1000000 in
theorem walk (a0 : Int) (A : Option Addr) (l : List ActV) (c : Nat) (w : World) (hl : Lst w w.heap.size A l) (hlen : l.length ≤ maxLen) :
    Calls Try.prog 8 #[.int .i64 a0, .slice A l.length c] w fun e w' => e = .returned (.bool true) ∧ Below w.heap.size w w' := by
  have M := Lib.hid (made_ok a0 A l c w hl hlen)
  clear hl hlen
  go_enter Try.func8, Try.ntmps8
  go_wp2_with fail
  refine M.out.mono ?_
  clear M
  rintro e w1 (⟨rfl, hb⟩ | ⟨p, S, rfl, H, hS⟩)
  · go_wp2_with fail
    refine (alive_any _).mono ?_
    rintro e wa ⟨rfl, hba⟩
    have HF := Lib.hid ((hb).trans (hba.mono (hb).size))
    go_wp2_with fail
    go_ret
    exact ⟨rfl, HF.out⟩
  subst hS
  have HI := H.inv
  have HHL := hsTo_len HI
  have HLL := HI.length
  have HLS := HI.size
  have HW := handles_row H
  obtain ⟨hsI, hhs⟩ : ∃ hsI : List Int, hsI = (hsTo S.L 70000).map fun h : Nat => (h : Int) := ⟨_, rfl⟩
  rw [← hhs] at HW
  have hsl : (hsTo S.L 70000).length = hsI.length := by rw [hhs, List.length_map]
  have hn6 : hsI.length ≤ 65536 := by omega
  have HHS := Lib.hid hhs
  have HSL := Lib.hid hsl
  clear hhs hsl HHL HLL
  go_wp2_with fail
  refine HW.mono ?_
  clear HW H
  rintro e w2 ⟨v, X, rfl, H, hrow⟩
  have T : Two X w p S v hsI w2 := ⟨H, hrow⟩
  obtain ⟨A', c', rfl, -⟩ := hrow
  obtain ⟨N, hN⟩ : ∃ N, N = hsI.length := ⟨_, rfl⟩
  rw [← hN] at T hn6 ⊢
  have HN := Lib.hid hN
  clear hN H
  obtain ⟨Z, hZ⟩ : ∃ Z, Z = S.cells.length := ⟨_, rfl⟩
  rw [← hZ] at HLS ⊢
  have HZ := Lib.hid hZ
  clear hZ
  go_wp2_with fail
  go_loopw [7, 8] (fun t t2 wr => ∃ q : Nat, q ≤ N ∧ t2 = .int .i64 q ∧ t = .int .i64 (((hsTo S.L 70000).take q).map (lenOf S.L)).sum ∧ Two X w p S (.slice A' N c') hsI wr) (fun _ t2 _ => N - (intOf t2).toNat)
  case atStart => exact ⟨0, Nat.zero_le _, by go_num, rfl, T⟩
  case round =>
    clear T
    obtain ⟨q, hq, rfl, rfl, T7⟩ := hrel
    by_cases hqn : q < N
    · obtain ⟨hh, hhq⟩ : ∃ hh, (hsTo S.L 70000)[q]? = some hh := ⟨(hsTo S.L 70000)[q]'(by rw [HSL.out, ← HN.out]; exact hqn), List.getElem?_eq_getElem _⟩
      have hix : hsI[q]? = some (hh : Int) := by rw [HHS.out, List.getElem?_map, hhq]; rfl
      obtain ⟨cb, hcb, rfl, hgb⟩ := hs_block HI hhq
      have hcm := HI.mem hcb
      rw [← HZ.out] at hcm
      obtain ⟨hb1, hb2, hb3, hb4, hb5⟩ := hcm
      have hA : addrR S.L cb.h = cb.a := by unfold addrR findR; rw [hgb]; rfl
      have hF : (findR S.L cb.h).2.1 = cb.n := by unfold findR; rw [hgb]
      have hT' := sum_take (L := S.L) hhq
      have hlo : lenOf S.L cb.h = cb.n := by unfold lenOf; rw [hgb]
      rw [hlo] at hT'
      have hsl1 := sum_take_le (L := S.L) (hs := hsTo S.L 70000) q
      rw [sum_hs HI] at hsl1
      have hlv := HI.live
      rw [← HZ.out] at hlv
      obtain ⟨z, hz⟩ : ∃ z, z = (((hsTo S.L 70000).take q).map (lenOf S.L)).sum := ⟨_, rfl⟩
      rw [← hz] at hT' hsl1 ⊢
      have hz6 : z ≤ 65536 := by omega
      have hwr : IntKind.i64.wrap ((Z : Int) - cb.a) = (Z : Int) - cb.a := IntWalk.i64_in _ (by omega)
      obtain ⟨g, rfl⟩ := T7.at_ hix
      have hcell := T7.cell hix
      have HIX := Lib.hid hix
      have HHQ := Lib.hid hhq
      have HCB := Lib.hid hcb
      have HA := Lib.hid hA
      have HF := Lib.hid hF
      have HTT := Lib.hid hT'
      have HT7 := Lib.hid T7
      clear hix hA hF hT' hz hsl1 hgb hhq hlv hlo hcb
      go_upto_region 9 with fail
      go_cut [9, 10] (fun s s2 wx => s = .int .i64 cb.a ∧ s2 = .int .i64 cb.n ∧ Two X w p S (.slice (some ⟨g, 0, none⟩) N c') hsI wx)
      case first =>
        go_region_held3 (fun w' => Two X w p S (.slice (some ⟨g, 0, none⟩) N c') hsI w' ∧ w'.cell? ⟨g, q, none⟩ = some (.int .i64 cb.h))
          (first | assumption | exact ⟨HT7.out.drew, Two.cell HT7.out.drew HIX.out⟩)
          ((first | (go_at_call 20; refine (Two.addr (by first | assumption | exact HT7.out.drew) cb.h HA.out).mono ?_; rintro e wz ⟨rfl, hT⟩; have s1 := And.intro hT (Two.cell hT HIX.out)) | (go_at_call 19; refine (Two.len (by first | assumption | exact HT7.out.drew) cb.h HF.out).mono ?_; rintro e wz ⟨rfl, hT⟩; have s1 := And.intro hT (Two.cell hT HIX.out))))
        all_goals (
          go_wp2_with fail
          go_meet
          exact ⟨rfl, rfl, by assumption⟩)
      case rest =>
        obtain ⟨rfl, rfl, T8⟩ := hcut
        clear hcell HT7 T7
        have hcell := T8.cell HIX.out
        have HT8 := Lib.hid T8
        clear T8
        go_upto_region 10 with fail
        go_cut [67] (fun s wx => s = .bool false ∧ Two X w p S (.slice (some ⟨g, 0, none⟩) N c') hsI wx)
        case first =>
          have g1 : decide ((cb.a : Int) < 0) = false := decide_eq_false (by omega)
          have g2 : decide ((cb.n : Int) < 1) = false := decide_eq_false (by omega)
          have g3 : decide ((Z : Int) - cb.a < cb.n) = false := decide_eq_false (by omega)
          by_cases hq0 : q = 0
          · have g4 : decide ((0 : Int) < (q : Int)) = false := decide_eq_false (by omega)
            have g4n : decide (0 < q) = false := decide_eq_false (by omega)
            clear hq0
            go_quiet (fail)
            go_wp2_with fail
            go_meet
            exact ⟨rfl, HT8.out.drewN _⟩
          · have g4 : decide ((0 : Int) < (q : Int)) = true := decide_eq_true (by omega)
            have g4n : decide (0 < q) = true := decide_eq_true (by omega)
            obtain ⟨hp, hhp⟩ : ∃ hp, (hsTo S.L 70000)[q - 1]? = some hp := ⟨(hsTo S.L 70000)[q - 1]'(by rw [HSL.out, ← HN.out]; omega), List.getElem?_eq_getElem _⟩
            have hplt := hs_lt hhp HHQ.out (by omega)
            have g5 : decide ((cb.h : Int) ≤ (hp : Int)) = false := decide_eq_false (by omega)
            have g5n : decide (cb.h ≤ hp) = false := decide_eq_false (by omega)
            have hcp : wc.cell? ⟨g, q - 1, none⟩ = some (.int .i64 hp) := HT8.out.cell (by rw [HHS.out, List.getElem?_map, hhp]; rfl)
            have e1 : IntKind.i64.wrap ((q : Int) - 1) = (q : Int) - 1 := IntWalk.i64_in _ (by omega)
            have e2 : 0 ≤ (q : Int) - 1 := by omega
            have e3 : ((q : Int) - 1).toNat = q - 1 := by omega
            have e4 : (q : Int) - 1 < N := by omega
            clear hq0 hhp hplt
            go_quiet (fail)
            go_wp2_with fail
            go_meet
            exact ⟨rfl, HT8.out.drewN _⟩
        case rest =>
          obtain ⟨rfl, T9⟩ := hcut
          clear hcell HT8 hwr
          have hwr2 : IntKind.i64.wrap ((cb.a : Int) + cb.n) = (cb.a : Int) + cb.n := IntWalk.i64_in _ (by omega)
          have HW2 := Lib.hid hwr2
          clear hwr2
          go_wp2_with fail
          go_loopw [11] (fun t wr => ∃ j : Nat, j ≤ q ∧ t = .int .i64 j ∧ Two X w p S (.slice (some ⟨g, 0, none⟩) N c') hsI wr) (fun t _ => q - (intOf t).toNat)
          case atStart => exact ⟨0, Nat.zero_le _, by go_num, T9⟩
          case round =>
            clear T9
            obtain ⟨j, hj, rfl, T10⟩ := hrel
            by_cases hjq : j < q
            · obtain ⟨hk, hhk⟩ : ∃ hk, (hsTo S.L 70000)[j]? = some hk := ⟨(hsTo S.L 70000)[j]'(by rw [HSL.out, ← HN.out]; omega), List.getElem?_eq_getElem _⟩
              have hlt := hs_lt hhk HHQ.out hjq
              obtain ⟨db, hdb, rfl, hgd⟩ := hs_block HI hhk
              have hdm := HI.mem hdb
              rw [← HZ.out] at hdm
              obtain ⟨hd1, hd2, hd3, hd4, hd5⟩ := hdm
              have hdis := laid_disj HI.laid HCB.out hdb (by omega)
              have hA : addrR S.L db.h = db.a := by unfold addrR findR; rw [hgd]; rfl
              have hF : (findR S.L db.h).2.1 = db.n := by unfold findR; rw [hgd]
              have hjx : hsI[j]? = some (db.h : Int) := by rw [HHS.out, List.getElem?_map, hhk]; rfl
              have CA := T10.addr db.h hA
              have hcell := T10.cell hjx
              have HJX := Lib.hid hjx
              have HF2 := Lib.hid hF
              have hw3 : IntKind.i64.wrap ((db.a : Int) + db.n) = (db.a : Int) + db.n := IntWalk.i64_in _ (by omega)
              have hw2 := HW2.out
              have hjN : j < N := by omega
              clear hA hF hjx hgd hhk hdb hlt T10
              rcases hdis with hdis | hdis
              · have t1 : (cb.a : Int) < (db.a : Int) + db.n := by omega
                have t2 : ¬ (db.a : Int) < (cb.a : Int) + cb.n := by omega
                clear hdis
                go_wp2_with fail
                refine CA.mono ?_
                clear CA hcell
                rintro e wy ⟨rfl, T11⟩
                have hcell := T11.cell HJX.out
                have CL := T11.len db.h HF2.out
                clear T11
                go_wp2_with fail
                refine CL.mono ?_
                clear CL hcell
                rintro e wz ⟨rfl, T12⟩
                have HT := Lib.hid T12
                clear T12
                go_wp2_with fail
                go_roundw
                case rel => exact ⟨j + 1, by omega, by go_num, HT.out⟩
                case measure => simp [intOf]; omega
              · have t1 : ¬ (cb.a : Int) < (db.a : Int) + db.n := by omega
                clear hdis
                go_wp2_with fail
                refine CA.mono ?_
                clear CA hcell
                rintro e wy ⟨rfl, T11⟩
                have hcell := T11.cell HJX.out
                have CL := T11.len db.h HF2.out
                clear T11
                go_wp2_with fail
                refine CL.mono ?_
                clear CL hcell
                rintro e wz ⟨rfl, T12⟩
                have HT := Lib.hid T12
                clear T12
                go_wp2_with fail
                go_roundw
                case rel => exact ⟨j + 1, by omega, by go_num, HT.out⟩
                case measure => simp [intOf]; omega
            · obtain rfl : j = q := by omega
              have HT := Lib.hid T10
              clear T10
              go_wp2_with fail
              go_roundw
              case rel => exact ⟨j + 1, by omega, by go_num, by rw [HTT.out]; go_num, HT.out⟩
              case measure => simp [intOf]; omega
    · obtain rfl : q = N := by omega
      have htk : (hsTo S.L 70000).take q = hsTo S.L 70000 := by rw [HN.out, ← HSL.out, List.take_length]
      rw [htk, sum_hs HI]
      have LV := has_live T7.1
      have TP := has_top T7.1
      have hlv := HI.live
      have htop := HI.top
      rw [← HZ.out] at hlv htop
      obtain ⟨lv, hlv'⟩ : ∃ lv, lv = liveL S.L := ⟨_, rfl⟩
      obtain ⟨tp, htp'⟩ : ∃ tp, tp = topL 0 S.L := ⟨_, rfl⟩
      rw [← hlv'] at LV hlv ⊢
      rw [← htp'] at TP htop
      have hti : (tp : Int) ≤ Z := by omega
      clear htk hlv' htp'
      go_wp2_with fail
      refine LV.mono ?_
      clear LV
      rintro e wy ⟨rfl, rfl⟩
      go_wp2_with fail
      refine TP.mono ?_
      clear TP T7
      rintro e wz ⟨rfl, H8, -⟩
      have SZ := has_size H8
      rw [← HZ.out] at SZ
      go_wp2_with fail
      refine SZ.mono ?_
      clear SZ
      rintro e wy ⟨rfl, rfl⟩
      go_wp2_with fail
      refine (alive_any _).mono ?_
      rintro e wa ⟨rfl, hba⟩
      have HF := Lib.hid ((H8.old).trans (hba.mono (H8.old).size))
      go_wp2_with fail
      go_ret
      exact ⟨rfl, HF.out⟩
set_option maxRecDepth 100000 in
theorem lifted (os : Os) (started : os.Started) (H : Type) (enc : TypeId × Value → H) :
    ReturnsInHanded {} Try.checked os 8 .any (Rows.arenaApartSpec.pre6 enc Try.prog Try.f8 Rows.arenaApartRow.domain false) (Rows.arenaApartSpec.post enc Try.prog Try.f8 false true false false) := by
  refine returnsInHanded_of_change (C := Try.checked) own started (by kernel_rfl) Try.func8
    (ChangeSpec.witness6 (enc := enc) (C := Try.checked) false ⟨#[], #[.int .i64 0, .slice none 0 0], []⟩ 8 (by kernel_rfl) (by kernel_rfl) (by kernel_rfl) (by kernel_rfl)) ?_
  intro W base args ds gs before hval0 hW hcnd _
  have hval : ∀ (j : Nat) t v, Try.f8.params[j]? = some t → args[j]? = some v → Value.okWide Try.prog W .any base t v := hval0
  have hW' := hW
  obtain ⟨p, q, hA0, hV, rfl, hfz, hnd⟩ := hW
  have hA : DataW.TrodAll enc Try.prog W 0 (fun _ => true) true Try.f8.params.toList args.toList ds p := hA0
  rw [Try.params8] at hA hval
  obtain ⟨v0, vs0, d0, ds0, p0, q0, hargs, rfl, rfl, h0, r0⟩ := trodAll_cons hA
  obtain ⟨v1, vs1, d1, ds1, p1, q1, rfl, rfl, rfl, h1, r1⟩ := trodAll_cons r0
  obtain ⟨rfl, rfl, rfl⟩ := trodAll_nil r1
  obtain rfl : args = #[v0, v1] := by cases args; simp_all
  obtain ⟨rfl, rfl⟩ := trodVars_none hV
  simp only [List.append_nil] at hW'
  obtain ⟨a0, rfl, rfl, rfl, w0⟩ := open_int Try.underlying3 (hval 0 3 v0 rfl rfl) h0
  have h1k := h1
  obtain ⟨x1, y1, z1, rfl⟩ := okWide_slice Try.underlying22 (hval 1 22 v1 rfl rfl)
  obtain ⟨fuel1, hf1⟩ := h1
  obtain ⟨A1, l1, c1, hcs1, hl1, hlen1⟩ := open_acts hf1
  simp only [Value.cells, List.cons.injEq, and_true, Value.slice.injEq] at hcs1
  obtain ⟨rfl, rfl, rfl⟩ := hcs1
  clear hA0 hval0
  try simp only [List.append_nil] at hW'
  refine (walk a0 x1 l1 z1 W hl1 hlen1).mono fun e W' ⟨he, hg⟩ => ?_
  subst he
  exact ⟨_, rfl, _, _, _, [], _, [], hW', (trodAll_cons_mk (shut_bool Try.underlying4 _) trodAll_mk0), (trodAll_cons_mk (shut_int Try.underlying3 w0) (trodAll_cons_mk (Below.trod Try.laidOut (by kernel_rfl) (of_decide_eq_true (by kernel_rfl)) h1k hg (fun x hx => by have := hW'.lt x (by simp [hx]); simpa using this)) trodAll_mk0)), rfl,
    hg.frame _, fun h => by cases h⟩

theorem over : Rows.arenaApartRow.holds Try.pinned (OpenSpec.ofChange Rows.arenaApartSpec) :=
  OpenClaim.holds_of_wide 8 Try.f8 rfl rfl rfl rfl rfl rfl rfl ⟨rfl, rfl, rfl, rfl, rfl⟩ rfl rfl rfl rfl rfl (by kernel_rfl) Try.func8 (by kernel_rfl)
    (of_decide_eq_true (by kernel_rfl)) (by unfold Func.isWrapper; first | (rw [if_pos (by decide +kernel)]; kernel_rfl) | (rw [if_neg (by decide +kernel)]; exact ⟨rfl, rfl⟩))
    (fun os started H enc _ => lifted os started H enc)

theorem proved : Rows.ArenaApartSaid :=
  over
#print axioms proved
end Go.Proofs.Ytpaopcnbgdlgnaa.arenaApart
