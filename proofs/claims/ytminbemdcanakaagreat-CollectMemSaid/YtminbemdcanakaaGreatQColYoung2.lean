/- A young collection. -/
import Derived.Test.YtminbemdcanakaaGreatMN
import Derived.Test.YtminbemdcanakaaGreatQColYoung1
import Derived.Test.YtminbemdcanakaaGreatML
import Derived.BigQuiet
namespace Go.Proofs.YtminbemdcanakaaGreat
open Go.RowKit Go.Shelf
set_option linter.unusedVariables false
set_option linter.unusedSimpArgs false
attribute [local go_sem high] run_tail

variable {w : World} {K : CL} {c : Cs}
theorem MX.below {K' : CL} {W W' : World} {c' : Cs} {bc : Nat} (h : MX w K W K' c' bc) (hb : Below W.heap.size W W') : ∃ K2, K2.cp = K.cp ∧ K2.L.p = K.L.p ∧ MX w K W' K2 c' bc := h.to (CTo.below h.go.at_ hb)
theorem do_young1 (bc g : Nat) (hg : g ≤ 9900000) : DoC 109 bc (PY g) youngBegin := fun i c W K1 x hi h hP hn hb => youngBegin_any ⟨h, hP.1, hP.2.1, hb, hn⟩ (by have := hP.2.2; omega)
theorem do_young2 (bc : Nat) : DoC 110 bc PN youngEnd := fun i c W K1 x _ h hP hn hb => youngEnd_any ⟨h, hP.1, hP.2, hb, hn⟩
set_option maxRecDepth 100000 in
set_option maxHeartbeats 8000000 in
theorem youngC_any (h : CAt w K c) (hs : Sz c.m) (hw : W01 c) (hd : dm c ≤ 9000000) (hp : c.pending.length ≤ 8000000) (hbs : c.base ≤ 1000000000000) : Calls Tryz.prog 58 #[.pointer (some ⟨K.cp, 0, none⟩)] w fun e w' => BoolTo w K (young c) e w' := by
  have X0 := MX.start h
  have HT := Lib.hid (there_any X0.go.at_)
  have r0 := X0.cell
  have m0 := X0.go.at_.cells.2.1
  have HX0 := Lib.hid X0
  have HS := Lib.hid hs
  have HW := Lib.hid hw
  have HD := Lib.hid hd
  have HP := Lib.hid hp
  have HH := Lib.hid h
  have k8 := X0.go.at_.cells.2.2.2.2.2.2.2.2
  clear h hs hw hp X0 hd
  by_cases m1 : c.mode = 1
  · have e1 : (c.mode != 1) = false := by simp [m1]
    by_cases b1 : 0 < c.base
    · have e2 : decide (0 < c.base) = true := decide_eq_true b1
      have q1 : IntKind.i64.wrap (2 * c.base) = 2 * c.base := IntWalk.i64_in _ (by omega)
      have HLV := Lib.hid (live_any (HX0.out.go.at_.below (drew_below _)) HS.out)
      obtain ⟨lv, hlv⟩ : ∃ lv, lv = live c.m := ⟨_, rfl⟩
      rw [← hlv] at HLV
      by_cases b2 : 2 * c.base < lv
      · have e3 : decide (2 * c.base < lv) = true := decide_eq_true b2
        have HE := Lib.hid (show young c = (major c, true) by unfold young; rw [if_neg (by omega), if_pos ⟨b1, by rw [← hlv]; exact b2⟩])
        clear hlv b1 b2 m1 hbs
        go_enter Tryz.func58, Tryz.ntmps58
        go_wp2_with fail
        refine (HT.out).mono ?_
        rintro x1 w1 ⟨rfl, hww⟩
        have hww' := hww.symm
        subst hww'
        clear hww
        go_wp2_with fail
        refine wp_region_noPanic ?_
        refine wp_region_held_drew (S := (fun W => W.cell? ⟨w.heap.size, 0, none⟩ = some (.pointer (some ⟨K.cp, 0, none⟩)) ∧ W.cell? ⟨K.cp, 8, none⟩ = some (.int .i64 c.base))) (by kernel_rfl) ?_ (fun hHeld => ?_)
        · exact ⟨r0, k8⟩
        refine wpAnyH_take (i := 0) (oi := ?oia0_1) (v := ?vva0_1) ?hia0_1 (by kernel_rfl) (by kernel_rfl) (by kernel_rfl) ?hQa0_1 ?hya0_1 (by assumption) ?resta0_1
        case hia0_1 => (simp only [List.getElem?_toArray, List.getElem?_cons_succ, List.getElem?_cons_zero]; rfl)
        case hQa0_1 => exact fun _ _ _ h => h
        case hya0_1 => (refine Or.inl ⟨by rfl, ?_⟩; intro w hSw; (try dsimp only at hSw); go_simp; try with_reducible rfl)
        try simp only [Act.put, List.setIfInBounds_toArray, List.set_cons_zero, List.set_cons_succ]
        refine wpAnyH_take (i := 1) (oi := ?oia1_2) (v := ?vva1_2) ?hia1_2 (by kernel_rfl) (by kernel_rfl) (by kernel_rfl) ?hQa1_2 ?hya1_2 (by assumption) ?resta1_2
        case hia1_2 => (simp only [List.getElem?_toArray, List.getElem?_cons_succ, List.getElem?_cons_zero]; rfl)
        case hQa1_2 => exact fun _ _ _ h => h
        case hya1_2 => (refine Or.inl ⟨by rfl, ?_⟩; intro w hSw; (try dsimp only at hSw); go_simp; try with_reducible rfl)
        try simp only [Act.put, List.setIfInBounds_toArray, List.set_cons_zero, List.set_cons_succ]
        refine wpAnyH_take (i := 2) (oi := ?oia2_3) (v := ?vva2_3) ?hia2_3 (by kernel_rfl) (by kernel_rfl) (by kernel_rfl) ?hQa2_3 ?hya2_3 (by assumption) ?resta2_3
        case hia2_3 => (simp only [List.getElem?_toArray, List.getElem?_cons_succ, List.getElem?_cons_zero]; rfl)
        case hQa2_3 => exact fun _ _ _ h => h
        case hya2_3 => (refine Or.inl ⟨by rfl, ?_⟩; intro w hSw; (try dsimp only at hSw); go_simp; try with_reducible rfl)
        try simp only [Act.put, List.setIfInBounds_toArray, List.set_cons_zero, List.set_cons_succ]
        refine wpAnyH_take (i := 3) (oi := ?oia3_4) (v := ?vva3_4) ?hia3_4 (by kernel_rfl) (by kernel_rfl) (by kernel_rfl) ?hQa3_4 ?hya3_4 (by assumption) ?resta3_4
        case hia3_4 => (simp only [List.getElem?_toArray, List.getElem?_cons_succ, List.getElem?_cons_zero]; rfl)
        case hQa3_4 => exact fun _ _ _ h => h
        case hya3_4 => (refine Or.inl ⟨by rfl, ?_⟩; intro w hSw; (try dsimp only at hSw); go_simp; try with_reducible rfl)
        try simp only [Act.put, List.setIfInBounds_toArray, List.set_cons_zero, List.set_cons_succ]
        refine wpAnyH_take (i := 4) (oi := ?oia4_5) (v := ?vva4_5) ?hia4_5 (by kernel_rfl) (by kernel_rfl) (by kernel_rfl) ?hQa4_5 ?hya4_5 (by assumption) ?resta4_5
        case hia4_5 => (simp only [List.getElem?_toArray, List.getElem?_cons_succ, List.getElem?_cons_zero]; rfl)
        case hQa4_5 => exact fun _ _ _ h => h
        case hya4_5 => (refine Or.inl ⟨by rfl, ?_⟩; intro w hSw; (try dsimp only at hSw); go_simp; try with_reducible rfl)
        try simp only [Act.put, List.setIfInBounds_toArray, List.set_cons_zero, List.set_cons_succ]
        refine wpAnyH_take (i := 5) (oi := ?oia5_6) (v := ?vva5_6) ?hia5_6 (by kernel_rfl) (by kernel_rfl) (by kernel_rfl) ?hQa5_6 ?hya5_6 (by assumption) ?resta5_6
        case hia5_6 => (simp only [List.getElem?_toArray, List.getElem?_cons_succ, List.getElem?_cons_zero]; rfl)
        case hQa5_6 => exact fun _ _ _ h => h
        case hya5_6 => (refine Or.inl ⟨by rfl, ?_⟩; intro w hSw; (try dsimp only at hSw); go_simp; try with_reducible rfl)
        try simp only [Act.put, List.setIfInBounds_toArray, List.set_cons_zero, List.set_cons_succ]
        refine wpAnyH_take (i := 6) (oi := ?oia6_7) (v := ?vva6_7) ?hia6_7 (by kernel_rfl) (by kernel_rfl) (by kernel_rfl) ?hQa6_7 ?hya6_7 (by assumption) ?resta6_7
        case hia6_7 => (simp only [List.getElem?_toArray, List.getElem?_cons_succ, List.getElem?_cons_zero]; rfl)
        case hQa6_7 => exact fun _ _ _ h => h
        case hya6_7 => (refine Or.inl ⟨by rfl, ?_⟩; intro w hSw; (try dsimp only at hSw); go_simp; try with_reducible rfl)
        try simp only [Act.put, List.setIfInBounds_toArray, List.set_cons_zero, List.set_cons_succ]
        refine wpAnyH_take (i := 8) (oi := ?oia8_8) (v := ?vva8_8) ?hia8_8 (by kernel_rfl) (by kernel_rfl) (by kernel_rfl) ?hQa8_8 ?hya8_8 (by assumption) ?resta8_8
        case hia8_8 => (simp only [List.getElem?_toArray, List.getElem?_cons_succ, List.getElem?_cons_zero]; rfl)
        case hQa8_8 => exact fun _ _ _ h => h
        case hya8_8 => (refine Or.inl ⟨by rfl, ?_⟩; intro w hSw; (try dsimp only at hSw); go_simp; try with_reducible rfl)
        try simp only [Act.put, List.setIfInBounds_toArray, List.set_cons_zero, List.set_cons_succ]
        refine wpAnyH_take (i := 9) (oi := ?oia9_9) (v := ?vva9_9) ?hia9_9 (by kernel_rfl) (by kernel_rfl) (by kernel_rfl) ?hQa9_9 ?hya9_9 (by assumption) ?resta9_9
        case hia9_9 => (simp only [List.getElem?_toArray, List.getElem?_cons_succ, List.getElem?_cons_zero]; rfl)
        case hQa9_9 => exact fun _ _ _ h => h
        case hya9_9 => (refine Or.inl ⟨by rfl, ?_⟩; intro w hSw; (try dsimp only at hSw); go_simp; try with_reducible rfl)
        try simp only [Act.put, List.setIfInBounds_toArray, List.set_cons_zero, List.set_cons_succ]
        refine wpAnyH_take (i := 10) (oi := ?oia10_10) (v := ?vva10_10) ?hia10_10 (by kernel_rfl) (by kernel_rfl) (by kernel_rfl) ?hQa10_10 ?hya10_10 (by assumption) ?resta10_10
        case hia10_10 => (simp only [List.getElem?_toArray, List.getElem?_cons_succ, List.getElem?_cons_zero]; rfl)
        case hQa10_10 => exact fun _ _ _ h => h
        case hya10_10 => (refine Or.inl ⟨by rfl, ?_⟩; intro w hSw; (try dsimp only at hSw); go_simp; try with_reducible rfl)
        try simp only [Act.put, List.setIfInBounds_toArray, List.set_cons_zero, List.set_cons_succ]
        refine wpAnyH_take (i := 11) (oi := ?oia11_11) (v := ?vva11_11) ?hia11_11 (by kernel_rfl) (by kernel_rfl) (by kernel_rfl) ?hQa11_11 ?hya11_11 (by assumption) ?resta11_11
        case hia11_11 => (simp only [List.getElem?_toArray, List.getElem?_cons_succ, List.getElem?_cons_zero]; rfl)
        case hQa11_11 => exact fun _ _ _ h => h
        case hya11_11 => (refine Or.inl ⟨by rfl, ?_⟩; intro w hSw; (try dsimp only at hSw); go_simp; try with_reducible rfl)
        try simp only [Act.put, List.setIfInBounds_toArray, List.set_cons_zero, List.set_cons_succ]
        refine wpAnyH_take (i := 12) (oi := ?oia12_12) (v := ?vva12_12) ?hia12_12 (by kernel_rfl) (by kernel_rfl) (by kernel_rfl) ?hQa12_12 ?hya12_12 (by assumption) ?resta12_12
        case hia12_12 => (simp only [List.getElem?_toArray, List.getElem?_cons_succ, List.getElem?_cons_zero]; rfl)
        case hQa12_12 => exact fun _ _ _ h => h
        case hya12_12 => (refine Or.inl ⟨by rfl, ?_⟩; intro w hSw; (try dsimp only at hSw); go_simp; try with_reducible rfl)
        try simp only [Act.put, List.setIfInBounds_toArray, List.set_cons_zero, List.set_cons_succ]
        refine wpAnyH_ready (rs := [7]) (by kernel_rfl) (by simp) ?_
        refine AllReadyH.cons (o := ?oa7_13) ?hoa7_13 (fun Kz hK => ?sta7_13) AllReadyH.nil
        case hoa7_13 => (simp only [List.getElem?_toArray, List.getElem?_cons_succ, List.getElem?_cons_zero]; rfl)
        go_simp
        refine HLV.out.mono ?_
        rintro x9 w9 ⟨rfl, hb9⟩
        obtain ⟨K1, s1, t1, X1⟩ := HX0.out.below ((drew_below _).trans (hb9.mono (Nat.le_refl _)))
        have r9 := X1.cell
        have k9 := X1.go.at_.cells.2.2.2.2.2.2.2.2
        rw [s1] at k9
        have HX1 := Lib.hid X1
        clear X1 hb9
        go_simp
        refine hK.out _ _ ⟨r9, k9⟩ (fun hHeld => ?_)
        clear hK Kz
        try simp only [Act.put, List.setIfInBounds_toArray, List.set_cons_zero, List.set_cons_succ]
        refine wpAnyH_take (i := 13) (oi := ?oib13_14) (v := ?vvb13_14) ?hib13_14 (by kernel_rfl) (by kernel_rfl) (by kernel_rfl) ?hQb13_14 ?hyb13_14 (by assumption) ?restb13_14
        case hib13_14 => (simp only [List.getElem?_toArray, List.getElem?_cons_succ, List.getElem?_cons_zero]; rfl)
        case hQb13_14 => exact fun _ _ _ h => h
        case hyb13_14 => (refine Or.inl ⟨by rfl, ?_⟩; intro w hSw; (try dsimp only at hSw); go_simp; try with_reducible rfl)
        try simp only [Act.put, List.setIfInBounds_toArray, List.set_cons_zero, List.set_cons_succ]
        refine wpAnyH_take (i := 14) (oi := ?oib14_15) (v := ?vvb14_15) ?hib14_15 (by kernel_rfl) (by kernel_rfl) (by kernel_rfl) ?hQb14_15 ?hyb14_15 (by assumption) ?restb14_15
        case hib14_15 => (simp only [List.getElem?_toArray, List.getElem?_cons_succ, List.getElem?_cons_zero]; rfl)
        case hQb14_15 => exact fun _ _ _ h => h
        case hyb14_15 => (refine Or.inl ⟨by rfl, ?_⟩; intro w hSw; (try dsimp only at hSw); go_simp; try with_reducible rfl)
        try simp only [Act.put, List.setIfInBounds_toArray, List.set_cons_zero, List.set_cons_succ]
        refine wpAnyH_done (by kernel_rfl) ?_ _
        refine NoPanic.normal ?_
        have HM := Lib.hid (major_any HX1.out.go.at_ HS.out HW.out (by have := HP.out; omega))
        rw [s1] at HM
        clear k9 r0 m0 k8
        go_wp2_with fail
        refine HM.out.mono ?_
        rintro x5 w5 ⟨rfl, hT⟩
        have HR := Lib.hid (show BoolTo w K (young c) (.returned (.bool true)) w5 from ⟨by rw [HE.out], by rw [HE.out]; exact HX1.out.go.to hT⟩)
        clear hT
        go_wp2_with fail
        go_ret
        exact HR.out
      · have e3 : decide (2 * c.base < lv) = false := decide_eq_false b2
        have HE := Lib.hid (show young c = (allC youngEnd (end_ (allC youngBegin c)), false) by unfold young; rw [if_neg (by omega), if_neg (fun x => b2 (by rw [hlv]; exact x.2))])
        clear hlv b1 b2 m1 hbs
        go_enter Tryz.func58, Tryz.ntmps58
        go_wp2_with fail
        refine (HT.out).mono ?_
        rintro x1 w1 ⟨rfl, hww⟩
        have hww' := hww.symm
        subst hww'
        clear hww
        go_wp2_with fail
        refine wp_region_noPanic ?_
        refine wp_region_held_drew (S := (fun W => W.cell? ⟨w.heap.size, 0, none⟩ = some (.pointer (some ⟨K.cp, 0, none⟩)) ∧ W.cell? ⟨K.cp, 8, none⟩ = some (.int .i64 c.base))) (by kernel_rfl) ?_ (fun hHeld => ?_)
        · exact ⟨r0, k8⟩
        refine wpAnyH_take (i := 0) (oi := ?oia0_16) (v := ?vva0_16) ?hia0_16 (by kernel_rfl) (by kernel_rfl) (by kernel_rfl) ?hQa0_16 ?hya0_16 (by assumption) ?resta0_16
        case hia0_16 => (simp only [List.getElem?_toArray, List.getElem?_cons_succ, List.getElem?_cons_zero]; rfl)
        case hQa0_16 => exact fun _ _ _ h => h
        case hya0_16 => (refine Or.inl ⟨by rfl, ?_⟩; intro w hSw; (try dsimp only at hSw); go_simp; try with_reducible rfl)
        try simp only [Act.put, List.setIfInBounds_toArray, List.set_cons_zero, List.set_cons_succ]
        refine wpAnyH_take (i := 1) (oi := ?oia1_17) (v := ?vva1_17) ?hia1_17 (by kernel_rfl) (by kernel_rfl) (by kernel_rfl) ?hQa1_17 ?hya1_17 (by assumption) ?resta1_17
        case hia1_17 => (simp only [List.getElem?_toArray, List.getElem?_cons_succ, List.getElem?_cons_zero]; rfl)
        case hQa1_17 => exact fun _ _ _ h => h
        case hya1_17 => (refine Or.inl ⟨by rfl, ?_⟩; intro w hSw; (try dsimp only at hSw); go_simp; try with_reducible rfl)
        try simp only [Act.put, List.setIfInBounds_toArray, List.set_cons_zero, List.set_cons_succ]
        refine wpAnyH_take (i := 2) (oi := ?oia2_18) (v := ?vva2_18) ?hia2_18 (by kernel_rfl) (by kernel_rfl) (by kernel_rfl) ?hQa2_18 ?hya2_18 (by assumption) ?resta2_18
        case hia2_18 => (simp only [List.getElem?_toArray, List.getElem?_cons_succ, List.getElem?_cons_zero]; rfl)
        case hQa2_18 => exact fun _ _ _ h => h
        case hya2_18 => (refine Or.inl ⟨by rfl, ?_⟩; intro w hSw; (try dsimp only at hSw); go_simp; try with_reducible rfl)
        try simp only [Act.put, List.setIfInBounds_toArray, List.set_cons_zero, List.set_cons_succ]
        refine wpAnyH_take (i := 3) (oi := ?oia3_19) (v := ?vva3_19) ?hia3_19 (by kernel_rfl) (by kernel_rfl) (by kernel_rfl) ?hQa3_19 ?hya3_19 (by assumption) ?resta3_19
        case hia3_19 => (simp only [List.getElem?_toArray, List.getElem?_cons_succ, List.getElem?_cons_zero]; rfl)
        case hQa3_19 => exact fun _ _ _ h => h
        case hya3_19 => (refine Or.inl ⟨by rfl, ?_⟩; intro w hSw; (try dsimp only at hSw); go_simp; try with_reducible rfl)
        try simp only [Act.put, List.setIfInBounds_toArray, List.set_cons_zero, List.set_cons_succ]
        refine wpAnyH_take (i := 4) (oi := ?oia4_20) (v := ?vva4_20) ?hia4_20 (by kernel_rfl) (by kernel_rfl) (by kernel_rfl) ?hQa4_20 ?hya4_20 (by assumption) ?resta4_20
        case hia4_20 => (simp only [List.getElem?_toArray, List.getElem?_cons_succ, List.getElem?_cons_zero]; rfl)
        case hQa4_20 => exact fun _ _ _ h => h
        case hya4_20 => (refine Or.inl ⟨by rfl, ?_⟩; intro w hSw; (try dsimp only at hSw); go_simp; try with_reducible rfl)
        try simp only [Act.put, List.setIfInBounds_toArray, List.set_cons_zero, List.set_cons_succ]
        refine wpAnyH_take (i := 5) (oi := ?oia5_21) (v := ?vva5_21) ?hia5_21 (by kernel_rfl) (by kernel_rfl) (by kernel_rfl) ?hQa5_21 ?hya5_21 (by assumption) ?resta5_21
        case hia5_21 => (simp only [List.getElem?_toArray, List.getElem?_cons_succ, List.getElem?_cons_zero]; rfl)
        case hQa5_21 => exact fun _ _ _ h => h
        case hya5_21 => (refine Or.inl ⟨by rfl, ?_⟩; intro w hSw; (try dsimp only at hSw); go_simp; try with_reducible rfl)
        try simp only [Act.put, List.setIfInBounds_toArray, List.set_cons_zero, List.set_cons_succ]
        refine wpAnyH_take (i := 6) (oi := ?oia6_22) (v := ?vva6_22) ?hia6_22 (by kernel_rfl) (by kernel_rfl) (by kernel_rfl) ?hQa6_22 ?hya6_22 (by assumption) ?resta6_22
        case hia6_22 => (simp only [List.getElem?_toArray, List.getElem?_cons_succ, List.getElem?_cons_zero]; rfl)
        case hQa6_22 => exact fun _ _ _ h => h
        case hya6_22 => (refine Or.inl ⟨by rfl, ?_⟩; intro w hSw; (try dsimp only at hSw); go_simp; try with_reducible rfl)
        try simp only [Act.put, List.setIfInBounds_toArray, List.set_cons_zero, List.set_cons_succ]
        refine wpAnyH_take (i := 8) (oi := ?oia8_23) (v := ?vva8_23) ?hia8_23 (by kernel_rfl) (by kernel_rfl) (by kernel_rfl) ?hQa8_23 ?hya8_23 (by assumption) ?resta8_23
        case hia8_23 => (simp only [List.getElem?_toArray, List.getElem?_cons_succ, List.getElem?_cons_zero]; rfl)
        case hQa8_23 => exact fun _ _ _ h => h
        case hya8_23 => (refine Or.inl ⟨by rfl, ?_⟩; intro w hSw; (try dsimp only at hSw); go_simp; try with_reducible rfl)
        try simp only [Act.put, List.setIfInBounds_toArray, List.set_cons_zero, List.set_cons_succ]
        refine wpAnyH_take (i := 9) (oi := ?oia9_24) (v := ?vva9_24) ?hia9_24 (by kernel_rfl) (by kernel_rfl) (by kernel_rfl) ?hQa9_24 ?hya9_24 (by assumption) ?resta9_24
        case hia9_24 => (simp only [List.getElem?_toArray, List.getElem?_cons_succ, List.getElem?_cons_zero]; rfl)
        case hQa9_24 => exact fun _ _ _ h => h
        case hya9_24 => (refine Or.inl ⟨by rfl, ?_⟩; intro w hSw; (try dsimp only at hSw); go_simp; try with_reducible rfl)
        try simp only [Act.put, List.setIfInBounds_toArray, List.set_cons_zero, List.set_cons_succ]
        refine wpAnyH_take (i := 10) (oi := ?oia10_25) (v := ?vva10_25) ?hia10_25 (by kernel_rfl) (by kernel_rfl) (by kernel_rfl) ?hQa10_25 ?hya10_25 (by assumption) ?resta10_25
        case hia10_25 => (simp only [List.getElem?_toArray, List.getElem?_cons_succ, List.getElem?_cons_zero]; rfl)
        case hQa10_25 => exact fun _ _ _ h => h
        case hya10_25 => (refine Or.inl ⟨by rfl, ?_⟩; intro w hSw; (try dsimp only at hSw); go_simp; try with_reducible rfl)
        try simp only [Act.put, List.setIfInBounds_toArray, List.set_cons_zero, List.set_cons_succ]
        refine wpAnyH_take (i := 11) (oi := ?oia11_26) (v := ?vva11_26) ?hia11_26 (by kernel_rfl) (by kernel_rfl) (by kernel_rfl) ?hQa11_26 ?hya11_26 (by assumption) ?resta11_26
        case hia11_26 => (simp only [List.getElem?_toArray, List.getElem?_cons_succ, List.getElem?_cons_zero]; rfl)
        case hQa11_26 => exact fun _ _ _ h => h
        case hya11_26 => (refine Or.inl ⟨by rfl, ?_⟩; intro w hSw; (try dsimp only at hSw); go_simp; try with_reducible rfl)
        try simp only [Act.put, List.setIfInBounds_toArray, List.set_cons_zero, List.set_cons_succ]
        refine wpAnyH_take (i := 12) (oi := ?oia12_27) (v := ?vva12_27) ?hia12_27 (by kernel_rfl) (by kernel_rfl) (by kernel_rfl) ?hQa12_27 ?hya12_27 (by assumption) ?resta12_27
        case hia12_27 => (simp only [List.getElem?_toArray, List.getElem?_cons_succ, List.getElem?_cons_zero]; rfl)
        case hQa12_27 => exact fun _ _ _ h => h
        case hya12_27 => (refine Or.inl ⟨by rfl, ?_⟩; intro w hSw; (try dsimp only at hSw); go_simp; try with_reducible rfl)
        try simp only [Act.put, List.setIfInBounds_toArray, List.set_cons_zero, List.set_cons_succ]
        refine wpAnyH_ready (rs := [7]) (by kernel_rfl) (by simp) ?_
        refine AllReadyH.cons (o := ?oa7_28) ?hoa7_28 (fun Kz hK => ?sta7_28) AllReadyH.nil
        case hoa7_28 => (simp only [List.getElem?_toArray, List.getElem?_cons_succ, List.getElem?_cons_zero]; rfl)
        go_simp
        refine HLV.out.mono ?_
        rintro x9 w9 ⟨rfl, hb9⟩
        obtain ⟨K1, s1, t1, X1⟩ := HX0.out.below ((drew_below _).trans (hb9.mono (Nat.le_refl _)))
        have r9 := X1.cell
        have k9 := X1.go.at_.cells.2.2.2.2.2.2.2.2
        rw [s1] at k9
        have HX1 := Lib.hid X1
        clear X1 hb9
        go_simp
        refine hK.out _ _ ⟨r9, k9⟩ (fun hHeld => ?_)
        clear hK Kz
        try simp only [Act.put, List.setIfInBounds_toArray, List.set_cons_zero, List.set_cons_succ]
        refine wpAnyH_take (i := 13) (oi := ?oib13_29) (v := ?vvb13_29) ?hib13_29 (by kernel_rfl) (by kernel_rfl) (by kernel_rfl) ?hQb13_29 ?hyb13_29 (by assumption) ?restb13_29
        case hib13_29 => (simp only [List.getElem?_toArray, List.getElem?_cons_succ, List.getElem?_cons_zero]; rfl)
        case hQb13_29 => exact fun _ _ _ h => h
        case hyb13_29 => (refine Or.inl ⟨by rfl, ?_⟩; intro w hSw; (try dsimp only at hSw); go_simp; try with_reducible rfl)
        try simp only [Act.put, List.setIfInBounds_toArray, List.set_cons_zero, List.set_cons_succ]
        refine wpAnyH_take (i := 14) (oi := ?oib14_30) (v := ?vvb14_30) ?hib14_30 (by kernel_rfl) (by kernel_rfl) (by kernel_rfl) ?hQb14_30 ?hyb14_30 (by assumption) ?restb14_30
        case hib14_30 => (simp only [List.getElem?_toArray, List.getElem?_cons_succ, List.getElem?_cons_zero]; rfl)
        case hQb14_30 => exact fun _ _ _ h => h
        case hyb14_30 => (refine Or.inl ⟨by rfl, ?_⟩; intro w hSw; (try dsimp only at hSw); go_simp; try with_reducible rfl)
        try simp only [Act.put, List.setIfInBounds_toArray, List.set_cons_zero, List.set_cons_succ]
        refine wpAnyH_done (by kernel_rfl) ?_ _
        refine NoPanic.normal ?_
        clear k9 r0 m0 k8
        have HAl := Lib.hid (all_young1 (P := PY c.grey.length) (fun i c x h => h.step x) (do_young1 _ _ (by have := grey_dm c; have := HD.out; omega)) (HX1).out.go.at_ ⟨HS.out.n, HW.out, Nat.le_refl _⟩ HS.out.n (by rw [s1]; exact (HX1).out.bx) (HX1).out.nb)
        rw [s1] at HAl
        have rr := (HX1).out.cell
        go_wp2_with fail
        refine HAl.out.mono ?_
        rintro y2 v2 ⟨rfl, hU2⟩
        obtain ⟨L2, s2, t2, Y2⟩ := (HX1).out.to hU2
        have r2 := Y2.cell
        have hyb := youngAll_yb HW.out HS.out.n
        obtain ⟨cA, hcA⟩ : ∃ cA, cA = allC youngBegin c := ⟨_, rfl⟩
        rw [← hcA] at Y2 hyb HE
        have HBA := Lib.hid (show Bd cA from ⟨hyb.lk.sz HS.out, hyb.w01 HW.out, by have := hyb.dm; have := HD.out; omega, by rw [hyb.pending]; have := HP.out; omega⟩)
        have HE2 := Lib.hid (end_any Y2.go.at_ HBA.out (by rw [hyb.pending]; have := HP.out; omega))
        rw [s2] at HE2
        have HY2 := Lib.hid Y2
        obtain ⟨cE, hcE⟩ : ∃ cE, cE = end_ cA := ⟨_, rfl⟩
        have hes := end_sp HBA.out.w01
        rw [← hcE] at HE2 HE hes
        have HSE := Lib.hid (show Sz cE.m from hes.1.sz HBA.out.sz)
        have HWE := Lib.hid (show W01 cE from by have h1 := hes.2.2.2.1; have h2 := HBA.out.w01; unfold W01 at *; omega)
        clear hU2 Y2 hcA hcE hes hyb rr
        go_wp2_with fail
        refine HE2.out.mono ?_
        rintro y3 v3 ⟨rfl, hU3⟩
        obtain ⟨L3, s3, t3, Y3⟩ := HY2.out.to hU3
        have r3 := Y3.cell
        have HY3 := Lib.hid Y3
        have HA3 := Lib.hid (all_young2 (fun i c x h => h.so (youngEnd_so c x)) (do_young2 _) Y3.go.at_ ⟨HSE.out.n, HWE.out⟩ HSE.out.n (by rw [s3]; exact Y3.bx) Y3.nb)
        rw [s3] at HA3
        clear hU3 Y3 r2
        go_wp2_with fail
        refine HA3.out.mono ?_
        rintro y4 v4 ⟨rfl, hU4⟩
        have HR := Lib.hid (show BoolTo w K (young c) (.returned (.bool false)) v4 from ⟨by rw [HE.out], by rw [HE.out]; exact HY3.out.go.to hU4⟩)
        clear hU4 r3
        go_wp2_with fail
        go_ret
        exact HR.out
    · have e2 : decide (0 < c.base) = false := decide_eq_false b1
      have HE := Lib.hid (show young c = (allC youngEnd (end_ (allC youngBegin c)), false) by unfold young; rw [if_neg (by omega), if_neg (fun x => b1 x.1)])
      clear b1 m1 hbs
      go_enter Tryz.func58, Tryz.ntmps58
      go_wp2_with fail
      refine (HT.out).mono ?_
      rintro x1 w1 ⟨rfl, hww⟩
      have hww' := hww.symm
      subst hww'
      clear hww
      go_wp2_with fail
      go_quiet (fail)
      obtain ⟨K1, s1, t1, X1⟩ := HX0.out.below (below_drewN (Below.refl _ _) nq)
      have HX1 := Lib.hid X1
      clear X1 r0 m0 k8
      have HAl := Lib.hid (all_young1 (P := PY c.grey.length) (fun i c x h => h.step x) (do_young1 _ _ (by have := grey_dm c; have := HD.out; omega)) (HX1).out.go.at_ ⟨HS.out.n, HW.out, Nat.le_refl _⟩ HS.out.n (by rw [s1]; exact (HX1).out.bx) (HX1).out.nb)
      rw [s1] at HAl
      have rr := (HX1).out.cell
      go_wp2_with fail
      refine HAl.out.mono ?_
      rintro y2 v2 ⟨rfl, hU2⟩
      obtain ⟨L2, s2, t2, Y2⟩ := (HX1).out.to hU2
      have r2 := Y2.cell
      have hyb := youngAll_yb HW.out HS.out.n
      obtain ⟨cA, hcA⟩ : ∃ cA, cA = allC youngBegin c := ⟨_, rfl⟩
      rw [← hcA] at Y2 hyb HE
      have HBA := Lib.hid (show Bd cA from ⟨hyb.lk.sz HS.out, hyb.w01 HW.out, by have := hyb.dm; have := HD.out; omega, by rw [hyb.pending]; have := HP.out; omega⟩)
      have HE2 := Lib.hid (end_any Y2.go.at_ HBA.out (by rw [hyb.pending]; have := HP.out; omega))
      rw [s2] at HE2
      have HY2 := Lib.hid Y2
      obtain ⟨cE, hcE⟩ : ∃ cE, cE = end_ cA := ⟨_, rfl⟩
      have hes := end_sp HBA.out.w01
      rw [← hcE] at HE2 HE hes
      have HSE := Lib.hid (show Sz cE.m from hes.1.sz HBA.out.sz)
      have HWE := Lib.hid (show W01 cE from by have h1 := hes.2.2.2.1; have h2 := HBA.out.w01; unfold W01 at *; omega)
      clear hU2 Y2 hcA hcE hes hyb rr
      go_wp2_with fail
      refine HE2.out.mono ?_
      rintro y3 v3 ⟨rfl, hU3⟩
      obtain ⟨L3, s3, t3, Y3⟩ := HY2.out.to hU3
      have r3 := Y3.cell
      have HY3 := Lib.hid Y3
      have HA3 := Lib.hid (all_young2 (fun i c x h => h.so (youngEnd_so c x)) (do_young2 _) Y3.go.at_ ⟨HSE.out.n, HWE.out⟩ HSE.out.n (by rw [s3]; exact Y3.bx) Y3.nb)
      rw [s3] at HA3
      clear hU3 Y3 r2
      go_wp2_with fail
      refine HA3.out.mono ?_
      rintro y4 v4 ⟨rfl, hU4⟩
      have HR := Lib.hid (show BoolTo w K (young c) (.returned (.bool false)) v4 from ⟨by rw [HE.out], by rw [HE.out]; exact HY3.out.go.to hU4⟩)
      clear hU4 r3
      go_wp2_with fail
      go_ret
      exact HR.out
  · have e1 : (c.mode != 1) = true := by simp [m1]
    have HE := Lib.hid (show young c = (c, false) by unfold young; rw [if_pos m1])
    clear m1 k8 hbs
    go_enter Tryz.func58, Tryz.ntmps58
    go_wp2_with fail
    refine (HT.out).mono ?_
    rintro x1 w1 ⟨rfl, hww⟩
    have hww' := hww.symm
    subst hww'
    clear hww
    go_wp2_with fail
    go_ret
    exact ⟨by rw [HE.out]; rfl, by rw [HE.out]; exact CTo.below HH.out (below_alloc _ _)⟩
end Go.Proofs.YtminbemdcanakaaGreat
