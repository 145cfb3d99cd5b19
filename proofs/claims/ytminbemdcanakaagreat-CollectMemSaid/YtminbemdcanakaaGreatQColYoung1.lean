/- A young collection: its first closure. -/
import Derived.Test.YtminbemdcanakaaGreatMN
namespace Go.Proofs.YtminbemdcanakaaGreat
open Go.RowKit Go.Shelf
set_option linter.unusedVariables false
set_option linter.unusedSimpArgs false
attribute [local go_sem] Oper.semAt_some meth_order meth_thing meth_kind meth_cells meth_colour meth_age meth_setColour meth_setAge meth_setFin meth_clear meth_drop meth_roots

variable {w : World} {K : CL} {c : Cs}
theorem CGo.allY {s : Nat → Prop} {w' : World} {K' : CL} {c' : Cs} (hg : CGo s w K w' K' c') : CGo allQ w K w' K' c' := by
  refine ⟨hg.cp, hg.p, hg.at_, fun _ _ hn => absurd trivial hn, hg.keep.mono fun k _ hk => CL.ownS_mono (fun _ _ => trivial) hk, fun k hk => ?_⟩
  by_cases hs : K'.ownS s k
  · rcases hg.own k hs with e | e
    · exact .inl (CL.ownS_mono (fun _ _ => trivial) e)
    · exact .inr e
  · rcases hk with e | e | ⟨i, hi, ht, e⟩
    · exact absurd (.inl e) hs
    · exact absurd (.inr (.inl e)) hs
    · have hn : ¬ s i := fun hsi => hs (.inr (.inr ⟨i, hi, hsi, e⟩))
      exact .inl (.inr (.inr ⟨i, hi, trivial, hg.q i hi hn ▸ e⟩))
set_option maxRecDepth 100000 in
set_option maxHeartbeats 4000000 in
theorem youngBegin_any {bc : Nat} {x : Int} (h : BC w K c bc) (hg : c.grey.length ≤ 10000000) : Calls Tryz.prog 109 #[.int .i64 x, .pointer (some ⟨bc, 0, none⟩)] w fun e w' => UnitTo allQ w K (youngBegin c x) e w' := by
  have HH := Lib.hid h
  have HG := Lib.hid hg
  obtain ⟨b0, c0, c1, c3⟩ := h.cells
  have HAG := Lib.hid (age_any h.at_.mem h.n x)
  have HKI := Lib.hid (kind_any h.at_.mem h.n x)
  obtain ⟨a, ha⟩ : ∃ a, a = c.m.age x := ⟨_, rfl⟩
  obtain ⟨k, hk⟩ : ∃ k, k = c.m.kind x := ⟨_, rfl⟩
  rw [← ha] at HAG
  rw [← hk] at HKI
  have HY := Lib.hid (show youngBegin c x = if (a = 3 ∨ a = 6) ∧ k ≠ 4 then ((c.withM (c.m.setCol x 2)).withGrey (c.grey ++ [x])) else c by rw [ha, hk]; rfl)
  clear h hg ha hk
  by_cases k1 : a = 3 ∨ a = 6
  · by_cases k3 : a = 3
    · have e1 : (a == 3) = true := by simp [k3]
      by_cases k4 : k = 4
      · have e4 : (k != 4) = false := by simp [k4]
        have HE := Lib.hid (show youngBegin c x = c by rw [HY.out, if_neg (fun y => y.2 k4)])
        clear k4 k1
        go_enter Tryz.func109, Tryz.ntmps109
        go_wp2_with fail
        refine (HAG.out).mono ?_
        rintro x3 w3 ⟨rfl, hww⟩
        have hww' := hww.symm
        subst hww'
        clear hww
        go_wp2_with fail
        refine (HKI.out).mono ?_
        rintro x4 w4 ⟨rfl, hww⟩
        have hww' := hww.symm
        subst hww'
        clear hww
        go_wp2_with fail
        first | go_end0 | refine bodyPost_ret (results_none rfl _ _ _) rfl ?_
        exact ⟨rfl, by rw [HE.out]; exact CTo.refl HH.out.at_⟩
      · have e4 : (k != 4) = true := by simp [k4]
        have HE := Lib.hid (show youngBegin c x = ((c.withM (c.m.setCol x 2)).withGrey (c.grey ++ [x])) by rw [HY.out, if_pos ⟨k1, k4⟩])
        have HSC := Lib.hid (setColour_any HH.out.at_.mem HH.out.n x 2)
        clear k4 k1
        go_enter Tryz.func109, Tryz.ntmps109
        go_wp2_with fail
        refine (HAG.out).mono ?_
        rintro x3 w3 ⟨rfl, hww⟩
        have hww' := hww.symm
        subst hww'
        clear hww
        go_wp2_with fail
        refine (HKI.out).mono ?_
        rintro x4 w4 ⟨rfl, hww⟩
        have hww' := hww.symm
        subst hww'
        clear hww
        go_wp2_with fail
        refine HSC.out.mono ?_
        rintro x5 w5 ⟨rfl, hm, hk⟩
        have hT5 := HH.out.at_.turnK (s := noQ) hm hk
        have hbx := hT5.box HH.out.bx HH.out.nb
        have HBX := Lib.hid hbx
        obtain ⟨K5, G5⟩ := hT5
        have s0 := hbx.cell 0
        simp only [List.getElem?_cons_zero] at s0
        have a4 := G5.at_.cells.2.2.2.2.1
        have hq : QAt w5 (K5.q 0) c.grey := G5.at_.q 0 (by omega)
        obtain ⟨qa, qc, hqv⟩ := hq.slice
        rw [hqv, G5.cp] at a4
        have HQV := Lib.hid hqv
        have HQ := Lib.hid hq
        have HG5 := Lib.hid G5
        have HNB := Lib.hid HH.out.nb
        have hN : ∃ N, N = c.grey.length := ⟨_, rfl⟩
        clear hm hk hbx hq hqv G5
        go_wp2_with fail
        refine wp_region_noPanic ?_
        refine wp_region_held_drew (S := (fun W => W.cell? ⟨bc, 0, none⟩ = some (.pointer (some ⟨K.cp, 0, none⟩)))) (by kernel_rfl) ?_ (fun hHeld => ?_)
        · exact s0
        refine wpAnyH_take (i := 0) (oi := ?oia0_1) (v := ?vva0_1) ?hia0_1 (by kernel_rfl) (by kernel_rfl) (by kernel_rfl) ?hQa0_1 ?hya0_1 (by assumption) ?resta0_1
        case hia0_1 => (simp only [List.getElem?_toArray, List.getElem?_cons_succ, List.getElem?_cons_zero]; rfl)
        case hQa0_1 => exact fun _ _ _ h => h
        case hya0_1 => (refine Or.inl ⟨by rfl, ?_⟩; intro w hSw; (try dsimp only at hSw); go_simp; try with_reducible rfl)
        try simp only [Act.put, List.setIfInBounds_toArray, List.set_cons_zero, List.set_cons_succ]
        refine wpAnyH_take (i := 1) (oi := ?oia1_2) (v := ?vva1_2) ?hia1_2 (by kernel_rfl) (by kernel_rfl) (by kernel_rfl) ?hQa1_2 ?hya1_2 (by assumption) ?resta1_2
        case hia1_2 => (simp only [List.getElem?_toArray, List.getElem?_cons_succ, List.getElem?_cons_zero]; rfl)
        case hQa1_2 => exact fun _ _ _ h => h
        case hya1_2 => (refine Or.inl ⟨by rfl, ?_⟩; intro w hSw; (try dsimp only at hSw); go_simp; try with_reducible rfl)
        try simp only [Act.put, List.setIfInBounds_toArray, List.set_cons_zero, List.set_cons_succ]
        refine wpAnyH_take (i := 2) (oi := ?oia2_3) (v := ?vva2_3) ?hia2_3 (by kernel_rfl) (by kernel_rfl) (by kernel_rfl) ?hQa2_3 ?hya2_3 (by assumption) ?resta2_3
        case hia2_3 => (simp only [List.getElem?_toArray, List.getElem?_cons_succ, List.getElem?_cons_zero]; rfl)
        case hQa2_3 => exact fun _ _ _ h => h
        case hya2_3 => (refine Or.inl ⟨by rfl, ?_⟩; intro w hSw; (try dsimp only at hSw); go_simp; try with_reducible rfl)
        try simp only [Act.put, List.setIfInBounds_toArray, List.set_cons_zero, List.set_cons_succ]
        refine wpAnyH_take (i := 3) (oi := ?oia3_4) (v := ?vva3_4) ?hia3_4 (by kernel_rfl) (by kernel_rfl) (by kernel_rfl) ?hQa3_4 ?hya3_4 (by assumption) ?resta3_4
        case hia3_4 => (simp only [List.getElem?_toArray, List.getElem?_cons_succ, List.getElem?_cons_zero]; rfl)
        case hQa3_4 => exact fun _ _ _ h => h
        case hya3_4 => (refine Or.inl ⟨by rfl, ?_⟩; intro w hSw; (try dsimp only at hSw); go_simp; try with_reducible rfl)
        try simp only [Act.put, List.setIfInBounds_toArray, List.set_cons_zero, List.set_cons_succ]
        refine wpAnyH_take (i := 5) (oi := ?oia5_5) (v := ?vva5_5) ?hia5_5 (by kernel_rfl) (by kernel_rfl) (by kernel_rfl) ?hQa5_5 ?hya5_5 (by assumption) ?resta5_5
        case hia5_5 => (simp only [List.getElem?_toArray, List.getElem?_cons_succ, List.getElem?_cons_zero]; rfl)
        case hQa5_5 => exact fun _ _ _ h => h
        case hya5_5 => (refine Or.inl ⟨by rfl, ?_⟩; intro w hSw; (try dsimp only at hSw); go_simp; try with_reducible rfl)
        try simp only [Act.put, List.setIfInBounds_toArray, List.set_cons_zero, List.set_cons_succ]
        refine wpAnyH_ready (rs := [4, 6]) (by kernel_rfl) (by simp) ?_
        refine AllReadyH.cons (o := ?oa4_6) ?hoa4_6 (fun Kz hK => ?sta4_6) (AllReadyH.cons (o := ?oa6_6x) ?hoa6_6x (fun Kz hK => ?sta6_6x) AllReadyH.nil)
        case hoa4_6 => (simp only [List.getElem?_toArray, List.getElem?_cons_succ, List.getElem?_cons_zero]; rfl)
        case hoa6_6x => (simp only [List.getElem?_toArray, List.getElem?_cons_succ, List.getElem?_cons_zero]; rfl)
        · go_simp
          refine hK.out _ _ s0 (fun hHeld => ?_)
          clear hK Kz
          try simp only [Act.put, List.setIfInBounds_toArray, List.set_cons_zero, List.set_cons_succ]
          refine wpAnyH_ready (rs := [6]) (by kernel_rfl) (by simp) ?_
          refine AllReadyH.cons (o := ?ob6_7) ?hob6_7 (fun Kz hK => ?stb6_7) AllReadyH.nil
          case hob6_7 => (simp only [List.getElem?_toArray, List.getElem?_cons_succ, List.getElem?_cons_zero]; rfl)
          go_simp
          refine hK.out _ _ (Lib.cell?_alloc_some _ s0) (fun hHeld => ?_)
          clear hK Kz
          try simp only [Act.put, List.setIfInBounds_toArray, List.set_cons_zero, List.set_cons_succ]
          refine wpAnyH_ready (rs := [7]) (by kernel_rfl) (by simp) ?_
          refine AllReadyH.cons (o := ?oa7_8) ?hoa7_8 (fun Kz hK => ?sta7_8) AllReadyH.nil
          case hoa7_8 => (simp only [List.getElem?_toArray, List.getElem?_cons_succ, List.getElem?_cons_zero]; rfl)
          refine step_append_q rfl (.tmp 35) (.tmp 37) rfl (K5.q 0) c.grey (by rw [HQV.out]; rfl) (HQ.out.below ((drew_below w5).alloc (Nat.le_refl _) _)) _ [x] rfl (rd_one _ _) (by have := HG.out; simp; omega) ?_
          intro v9 w9 hq9 hg9 hb9
          obtain ⟨⟨u9, hu9⟩, f9, hT9⟩ := (HG5.out.at_.below (drew_below w5)).appended 0 4 (by omega) rfl hq9 hg9 (by rcases hb9 with y | y; exact .inl y; exact .inr (y.trans (congrArg some (Array.size_push _))))
          rw [HG5.out.cp] at hu9 f9 hT9
          have hne : bc ≠ K.cp := fun e => HNB.out (.inl e)
          have hk9 : Keep (fun k => (K5.q 0).ownBlock = some k) w5 w9 := (show Keep (fun k => (K5.q 0).ownBlock = some k) w5 ((w5.alloc (.cells #[.int .i64 x] 3)).drew) from Keep.of_below ((drew_below w5).alloc (Nat.le_refl _) _)).grown hg9 (fun k e _ => e)
          have hbx9 := (HBX.out).of_block (hk9.block _ HBX.out.lt fun e => (HG5.out.ownAll (.inr (.inr ⟨0, by omega, e⟩))).elim HNB.out fun y => absurd HH.out.bx.lt (by omega))
          have t9 := hbx9.cell 0
          obtain ⟨a9, c9, rfl⟩ := hq9.slice
          rw [show (c.grey ++ [x]).length = c.grey.length + 1 by simp] at hT9
          have HR := Lib.hid (show UnitTo allQ w K (youngBegin c x) (.returned (.tuple #[])) (w9.setCell ⟨K.cp, 4, none⟩ (.slice a9 (c.grey.length + 1) c9)) from ⟨rfl, by rw [HE.out]; exact HG5.out.allY.to (CTo.ahead (drew_below w5) HG5.out.at_ hT9.all)⟩)
          clear hq9 hg9 hb9 hT9
          have z9 := ((HG5.out.at_.box).of_block (hk9.block _ HG5.out.at_.box.lt fun e => HG5.out.at_.cp_ne (by omega) e rfl)).cell 4
          have z9' : w9.cell? ⟨K5.cp, 4, none⟩ = some (K5.q 0) := z9
          rw [HG5.out.cp, HQV.out] at z9'
          refine hK.out _ _ t9 (fun hHeld => ?_)
          clear hK Kz
          try simp only [Act.put, List.setIfInBounds_toArray, List.set_cons_zero, List.set_cons_succ]
          refine wpAnyH_take (i := 8) (oi := ?oia8_9) (v := ?vva8_9) ?hia8_9 (by kernel_rfl) (by kernel_rfl) (by kernel_rfl) ?hQa8_9 ?hya8_9 (by assumption) ?resta8_9
          case hia8_9 => (simp only [List.getElem?_toArray, List.getElem?_cons_succ, List.getElem?_cons_zero]; rfl)
          case hQa8_9 => exact fun _ _ _ h => h
          case hya8_9 => (refine Or.inl ⟨by rfl, ?_⟩; intro w hSw; (try dsimp only at hSw); go_simp; try with_reducible rfl)
          try simp only [Act.put, List.setIfInBounds_toArray, List.set_cons_zero, List.set_cons_succ]
          refine wpAnyH_take (i := 9) (oi := ?oia9_10) (v := ?vva9_10) ?hia9_10 (by kernel_rfl) (by kernel_rfl) (by kernel_rfl) ?hQa9_10 ?hya9_10 (by assumption) ?resta9_10
          case hia9_10 => (simp only [List.getElem?_toArray, List.getElem?_cons_succ, List.getElem?_cons_zero]; rfl)
          case hQa9_10 => exact fun _ _ _ h => h
          case hya9_10 => (refine Or.inl ⟨by rfl, ?_⟩; intro w hSw; (try dsimp only at hSw); go_simp; try with_reducible rfl)
          try simp only [Act.put, List.setIfInBounds_toArray, List.set_cons_zero, List.set_cons_succ]
          refine wpAnyH_ready (rs := [10]) (by kernel_rfl) (by simp) ?_
          refine AllReadyH.cons (o := ?oa10_11) ?hoa10_11 (fun Kz hK => ?sta10_11) AllReadyH.nil
          case hoa10_11 => (simp only [List.getElem?_toArray, List.getElem?_cons_succ, List.getElem?_cons_zero]; rfl)
          go_simp
          refine hK.out _ _ ((World.cell?_setCell_far _ _ _ _ (fun y => hne y.symm)).trans t9) (fun hHeld => ?_)
          clear hK Kz
          try simp only [Act.put, List.setIfInBounds_toArray, List.set_cons_zero, List.set_cons_succ]
          refine wpAnyH_done (by kernel_rfl) ?_ _
          refine NoPanic.normal ?_
          go_wp2_with fail
          first | go_end0 | refine bodyPost_ret (results_none rfl _ _ _) rfl ?_
          exact HR.out
        · go_simp
          refine hK.out _ _ (Lib.cell?_alloc_some _ s0) (fun hHeld => ?_)
          clear hK Kz
          try simp only [Act.put, List.setIfInBounds_toArray, List.set_cons_zero, List.set_cons_succ]
          have a4' := Lib.cell?_alloc_some (.cells #[.int .i64 x] 3) a4
          refine wpAnyH_ready (rs := [4]) (by kernel_rfl) (by simp) ?_
          refine AllReadyH.cons (o := ?oc4_12) ?hoc4_12 (fun Kz hK => ?stc4_12) AllReadyH.nil
          case hoc4_12 => (simp only [List.getElem?_toArray, List.getElem?_cons_succ, List.getElem?_cons_zero]; rfl)
          go_simp
          refine hK.out _ _ (Lib.cell?_alloc_some _ s0) (fun hHeld => ?_)
          clear hK Kz
          try simp only [Act.put, List.setIfInBounds_toArray, List.set_cons_zero, List.set_cons_succ]
          refine wpAnyH_ready (rs := [7]) (by kernel_rfl) (by simp) ?_
          refine AllReadyH.cons (o := ?oa7_13) ?hoa7_13 (fun Kz hK => ?sta7_13) AllReadyH.nil
          case hoa7_13 => (simp only [List.getElem?_toArray, List.getElem?_cons_succ, List.getElem?_cons_zero]; rfl)
          refine step_append_q rfl (.tmp 35) (.tmp 37) rfl (K5.q 0) c.grey (by rw [HQV.out]; rfl) (HQ.out.below ((drew_below w5).alloc (Nat.le_refl _) _)) _ [x] rfl (rd_one _ _) (by have := HG.out; simp; omega) ?_
          intro v9 w9 hq9 hg9 hb9
          obtain ⟨⟨u9, hu9⟩, f9, hT9⟩ := (HG5.out.at_.below (drew_below w5)).appended 0 4 (by omega) rfl hq9 hg9 (by rcases hb9 with y | y; exact .inl y; exact .inr (y.trans (congrArg some (Array.size_push _))))
          rw [HG5.out.cp] at hu9 f9 hT9
          have hne : bc ≠ K.cp := fun e => HNB.out (.inl e)
          have hk9 : Keep (fun k => (K5.q 0).ownBlock = some k) w5 w9 := (show Keep (fun k => (K5.q 0).ownBlock = some k) w5 ((w5.alloc (.cells #[.int .i64 x] 3)).drew) from Keep.of_below ((drew_below w5).alloc (Nat.le_refl _) _)).grown hg9 (fun k e _ => e)
          have hbx9 := (HBX.out).of_block (hk9.block _ HBX.out.lt fun e => (HG5.out.ownAll (.inr (.inr ⟨0, by omega, e⟩))).elim HNB.out fun y => absurd HH.out.bx.lt (by omega))
          have t9 := hbx9.cell 0
          obtain ⟨a9, c9, rfl⟩ := hq9.slice
          rw [show (c.grey ++ [x]).length = c.grey.length + 1 by simp] at hT9
          have HR := Lib.hid (show UnitTo allQ w K (youngBegin c x) (.returned (.tuple #[])) (w9.setCell ⟨K.cp, 4, none⟩ (.slice a9 (c.grey.length + 1) c9)) from ⟨rfl, by rw [HE.out]; exact HG5.out.allY.to (CTo.ahead (drew_below w5) HG5.out.at_ hT9.all)⟩)
          clear hq9 hg9 hb9 hT9
          have z9 := ((HG5.out.at_.box).of_block (hk9.block _ HG5.out.at_.box.lt fun e => HG5.out.at_.cp_ne (by omega) e rfl)).cell 4
          have z9' : w9.cell? ⟨K5.cp, 4, none⟩ = some (K5.q 0) := z9
          rw [HG5.out.cp, HQV.out] at z9'
          refine hK.out _ _ t9 (fun hHeld => ?_)
          clear hK Kz
          try simp only [Act.put, List.setIfInBounds_toArray, List.set_cons_zero, List.set_cons_succ]
          refine wpAnyH_take (i := 8) (oi := ?oia8_14) (v := ?vva8_14) ?hia8_14 (by kernel_rfl) (by kernel_rfl) (by kernel_rfl) ?hQa8_14 ?hya8_14 (by assumption) ?resta8_14
          case hia8_14 => (simp only [List.getElem?_toArray, List.getElem?_cons_succ, List.getElem?_cons_zero]; rfl)
          case hQa8_14 => exact fun _ _ _ h => h
          case hya8_14 => (refine Or.inl ⟨by rfl, ?_⟩; intro w hSw; (try dsimp only at hSw); go_simp; try with_reducible rfl)
          try simp only [Act.put, List.setIfInBounds_toArray, List.set_cons_zero, List.set_cons_succ]
          refine wpAnyH_take (i := 9) (oi := ?oia9_15) (v := ?vva9_15) ?hia9_15 (by kernel_rfl) (by kernel_rfl) (by kernel_rfl) ?hQa9_15 ?hya9_15 (by assumption) ?resta9_15
          case hia9_15 => (simp only [List.getElem?_toArray, List.getElem?_cons_succ, List.getElem?_cons_zero]; rfl)
          case hQa9_15 => exact fun _ _ _ h => h
          case hya9_15 => (refine Or.inl ⟨by rfl, ?_⟩; intro w hSw; (try dsimp only at hSw); go_simp; try with_reducible rfl)
          try simp only [Act.put, List.setIfInBounds_toArray, List.set_cons_zero, List.set_cons_succ]
          refine wpAnyH_ready (rs := [10]) (by kernel_rfl) (by simp) ?_
          refine AllReadyH.cons (o := ?oa10_16) ?hoa10_16 (fun Kz hK => ?sta10_16) AllReadyH.nil
          case hoa10_16 => (simp only [List.getElem?_toArray, List.getElem?_cons_succ, List.getElem?_cons_zero]; rfl)
          go_simp
          refine hK.out _ _ ((World.cell?_setCell_far _ _ _ _ (fun y => hne y.symm)).trans t9) (fun hHeld => ?_)
          clear hK Kz
          try simp only [Act.put, List.setIfInBounds_toArray, List.set_cons_zero, List.set_cons_succ]
          refine wpAnyH_done (by kernel_rfl) ?_ _
          refine NoPanic.normal ?_
          go_wp2_with fail
          first | go_end0 | refine bodyPost_ret (results_none rfl _ _ _) rfl ?_
          exact HR.out
    · have e1 : (a == 3) = false := by simp [k3]
      have e2 : (a == 6) = true := by simp; rcases k1 with y | y; exact absurd y k3; exact y
      by_cases k4 : k = 4
      · have e4 : (k != 4) = false := by simp [k4]
        have HE := Lib.hid (show youngBegin c x = c by rw [HY.out, if_neg (fun y => y.2 k4)])
        clear k4 k1
        go_enter Tryz.func109, Tryz.ntmps109
        go_wp2_with fail
        refine (HAG.out).mono ?_
        rintro x3 w3 ⟨rfl, hww⟩
        have hww' := hww.symm
        subst hww'
        clear hww
        go_wp2_with fail
        refine (HKI.out).mono ?_
        rintro x4 w4 ⟨rfl, hww⟩
        have hww' := hww.symm
        subst hww'
        clear hww
        go_wp2_with fail
        first | go_end0 | refine bodyPost_ret (results_none rfl _ _ _) rfl ?_
        exact ⟨rfl, by rw [HE.out]; exact CTo.refl HH.out.at_⟩
      · have e4 : (k != 4) = true := by simp [k4]
        have HE := Lib.hid (show youngBegin c x = ((c.withM (c.m.setCol x 2)).withGrey (c.grey ++ [x])) by rw [HY.out, if_pos ⟨k1, k4⟩])
        have HSC := Lib.hid (setColour_any HH.out.at_.mem HH.out.n x 2)
        clear k4 k1
        go_enter Tryz.func109, Tryz.ntmps109
        go_wp2_with fail
        refine (HAG.out).mono ?_
        rintro x3 w3 ⟨rfl, hww⟩
        have hww' := hww.symm
        subst hww'
        clear hww
        go_wp2_with fail
        refine (HKI.out).mono ?_
        rintro x4 w4 ⟨rfl, hww⟩
        have hww' := hww.symm
        subst hww'
        clear hww
        go_wp2_with fail
        refine HSC.out.mono ?_
        rintro x5 w5 ⟨rfl, hm, hk⟩
        have hT5 := HH.out.at_.turnK (s := noQ) hm hk
        have hbx := hT5.box HH.out.bx HH.out.nb
        have HBX := Lib.hid hbx
        obtain ⟨K5, G5⟩ := hT5
        have s0 := hbx.cell 0
        simp only [List.getElem?_cons_zero] at s0
        have a4 := G5.at_.cells.2.2.2.2.1
        have hq : QAt w5 (K5.q 0) c.grey := G5.at_.q 0 (by omega)
        obtain ⟨qa, qc, hqv⟩ := hq.slice
        rw [hqv, G5.cp] at a4
        have HQV := Lib.hid hqv
        have HQ := Lib.hid hq
        have HG5 := Lib.hid G5
        have HNB := Lib.hid HH.out.nb
        have hN : ∃ N, N = c.grey.length := ⟨_, rfl⟩
        clear hm hk hbx hq hqv G5
        go_wp2_with fail
        refine wp_region_noPanic ?_
        refine wp_region_held_drew (S := (fun W => W.cell? ⟨bc, 0, none⟩ = some (.pointer (some ⟨K.cp, 0, none⟩)))) (by kernel_rfl) ?_ (fun hHeld => ?_)
        · exact s0
        refine wpAnyH_take (i := 0) (oi := ?oia0_17) (v := ?vva0_17) ?hia0_17 (by kernel_rfl) (by kernel_rfl) (by kernel_rfl) ?hQa0_17 ?hya0_17 (by assumption) ?resta0_17
        case hia0_17 => (simp only [List.getElem?_toArray, List.getElem?_cons_succ, List.getElem?_cons_zero]; rfl)
        case hQa0_17 => exact fun _ _ _ h => h
        case hya0_17 => (refine Or.inl ⟨by rfl, ?_⟩; intro w hSw; (try dsimp only at hSw); go_simp; try with_reducible rfl)
        try simp only [Act.put, List.setIfInBounds_toArray, List.set_cons_zero, List.set_cons_succ]
        refine wpAnyH_take (i := 1) (oi := ?oia1_18) (v := ?vva1_18) ?hia1_18 (by kernel_rfl) (by kernel_rfl) (by kernel_rfl) ?hQa1_18 ?hya1_18 (by assumption) ?resta1_18
        case hia1_18 => (simp only [List.getElem?_toArray, List.getElem?_cons_succ, List.getElem?_cons_zero]; rfl)
        case hQa1_18 => exact fun _ _ _ h => h
        case hya1_18 => (refine Or.inl ⟨by rfl, ?_⟩; intro w hSw; (try dsimp only at hSw); go_simp; try with_reducible rfl)
        try simp only [Act.put, List.setIfInBounds_toArray, List.set_cons_zero, List.set_cons_succ]
        refine wpAnyH_take (i := 2) (oi := ?oia2_19) (v := ?vva2_19) ?hia2_19 (by kernel_rfl) (by kernel_rfl) (by kernel_rfl) ?hQa2_19 ?hya2_19 (by assumption) ?resta2_19
        case hia2_19 => (simp only [List.getElem?_toArray, List.getElem?_cons_succ, List.getElem?_cons_zero]; rfl)
        case hQa2_19 => exact fun _ _ _ h => h
        case hya2_19 => (refine Or.inl ⟨by rfl, ?_⟩; intro w hSw; (try dsimp only at hSw); go_simp; try with_reducible rfl)
        try simp only [Act.put, List.setIfInBounds_toArray, List.set_cons_zero, List.set_cons_succ]
        refine wpAnyH_take (i := 3) (oi := ?oia3_20) (v := ?vva3_20) ?hia3_20 (by kernel_rfl) (by kernel_rfl) (by kernel_rfl) ?hQa3_20 ?hya3_20 (by assumption) ?resta3_20
        case hia3_20 => (simp only [List.getElem?_toArray, List.getElem?_cons_succ, List.getElem?_cons_zero]; rfl)
        case hQa3_20 => exact fun _ _ _ h => h
        case hya3_20 => (refine Or.inl ⟨by rfl, ?_⟩; intro w hSw; (try dsimp only at hSw); go_simp; try with_reducible rfl)
        try simp only [Act.put, List.setIfInBounds_toArray, List.set_cons_zero, List.set_cons_succ]
        refine wpAnyH_take (i := 5) (oi := ?oia5_21) (v := ?vva5_21) ?hia5_21 (by kernel_rfl) (by kernel_rfl) (by kernel_rfl) ?hQa5_21 ?hya5_21 (by assumption) ?resta5_21
        case hia5_21 => (simp only [List.getElem?_toArray, List.getElem?_cons_succ, List.getElem?_cons_zero]; rfl)
        case hQa5_21 => exact fun _ _ _ h => h
        case hya5_21 => (refine Or.inl ⟨by rfl, ?_⟩; intro w hSw; (try dsimp only at hSw); go_simp; try with_reducible rfl)
        try simp only [Act.put, List.setIfInBounds_toArray, List.set_cons_zero, List.set_cons_succ]
        refine wpAnyH_ready (rs := [4, 6]) (by kernel_rfl) (by simp) ?_
        refine AllReadyH.cons (o := ?oa4_22) ?hoa4_22 (fun Kz hK => ?sta4_22) (AllReadyH.cons (o := ?oa6_22x) ?hoa6_22x (fun Kz hK => ?sta6_22x) AllReadyH.nil)
        case hoa4_22 => (simp only [List.getElem?_toArray, List.getElem?_cons_succ, List.getElem?_cons_zero]; rfl)
        case hoa6_22x => (simp only [List.getElem?_toArray, List.getElem?_cons_succ, List.getElem?_cons_zero]; rfl)
        · go_simp
          refine hK.out _ _ s0 (fun hHeld => ?_)
          clear hK Kz
          try simp only [Act.put, List.setIfInBounds_toArray, List.set_cons_zero, List.set_cons_succ]
          refine wpAnyH_ready (rs := [6]) (by kernel_rfl) (by simp) ?_
          refine AllReadyH.cons (o := ?ob6_23) ?hob6_23 (fun Kz hK => ?stb6_23) AllReadyH.nil
          case hob6_23 => (simp only [List.getElem?_toArray, List.getElem?_cons_succ, List.getElem?_cons_zero]; rfl)
          go_simp
          refine hK.out _ _ (Lib.cell?_alloc_some _ s0) (fun hHeld => ?_)
          clear hK Kz
          try simp only [Act.put, List.setIfInBounds_toArray, List.set_cons_zero, List.set_cons_succ]
          refine wpAnyH_ready (rs := [7]) (by kernel_rfl) (by simp) ?_
          refine AllReadyH.cons (o := ?oa7_24) ?hoa7_24 (fun Kz hK => ?sta7_24) AllReadyH.nil
          case hoa7_24 => (simp only [List.getElem?_toArray, List.getElem?_cons_succ, List.getElem?_cons_zero]; rfl)
          refine step_append_q rfl (.tmp 35) (.tmp 37) rfl (K5.q 0) c.grey (by rw [HQV.out]; rfl) (HQ.out.below ((drew_below w5).alloc (Nat.le_refl _) _)) _ [x] rfl (rd_one _ _) (by have := HG.out; simp; omega) ?_
          intro v9 w9 hq9 hg9 hb9
          obtain ⟨⟨u9, hu9⟩, f9, hT9⟩ := (HG5.out.at_.below (drew_below w5)).appended 0 4 (by omega) rfl hq9 hg9 (by rcases hb9 with y | y; exact .inl y; exact .inr (y.trans (congrArg some (Array.size_push _))))
          rw [HG5.out.cp] at hu9 f9 hT9
          have hne : bc ≠ K.cp := fun e => HNB.out (.inl e)
          have hk9 : Keep (fun k => (K5.q 0).ownBlock = some k) w5 w9 := (show Keep (fun k => (K5.q 0).ownBlock = some k) w5 ((w5.alloc (.cells #[.int .i64 x] 3)).drew) from Keep.of_below ((drew_below w5).alloc (Nat.le_refl _) _)).grown hg9 (fun k e _ => e)
          have hbx9 := (HBX.out).of_block (hk9.block _ HBX.out.lt fun e => (HG5.out.ownAll (.inr (.inr ⟨0, by omega, e⟩))).elim HNB.out fun y => absurd HH.out.bx.lt (by omega))
          have t9 := hbx9.cell 0
          obtain ⟨a9, c9, rfl⟩ := hq9.slice
          rw [show (c.grey ++ [x]).length = c.grey.length + 1 by simp] at hT9
          have HR := Lib.hid (show UnitTo allQ w K (youngBegin c x) (.returned (.tuple #[])) (w9.setCell ⟨K.cp, 4, none⟩ (.slice a9 (c.grey.length + 1) c9)) from ⟨rfl, by rw [HE.out]; exact HG5.out.allY.to (CTo.ahead (drew_below w5) HG5.out.at_ hT9.all)⟩)
          clear hq9 hg9 hb9 hT9
          have z9 := ((HG5.out.at_.box).of_block (hk9.block _ HG5.out.at_.box.lt fun e => HG5.out.at_.cp_ne (by omega) e rfl)).cell 4
          have z9' : w9.cell? ⟨K5.cp, 4, none⟩ = some (K5.q 0) := z9
          rw [HG5.out.cp, HQV.out] at z9'
          refine hK.out _ _ t9 (fun hHeld => ?_)
          clear hK Kz
          try simp only [Act.put, List.setIfInBounds_toArray, List.set_cons_zero, List.set_cons_succ]
          refine wpAnyH_take (i := 8) (oi := ?oia8_25) (v := ?vva8_25) ?hia8_25 (by kernel_rfl) (by kernel_rfl) (by kernel_rfl) ?hQa8_25 ?hya8_25 (by assumption) ?resta8_25
          case hia8_25 => (simp only [List.getElem?_toArray, List.getElem?_cons_succ, List.getElem?_cons_zero]; rfl)
          case hQa8_25 => exact fun _ _ _ h => h
          case hya8_25 => (refine Or.inl ⟨by rfl, ?_⟩; intro w hSw; (try dsimp only at hSw); go_simp; try with_reducible rfl)
          try simp only [Act.put, List.setIfInBounds_toArray, List.set_cons_zero, List.set_cons_succ]
          refine wpAnyH_take (i := 9) (oi := ?oia9_26) (v := ?vva9_26) ?hia9_26 (by kernel_rfl) (by kernel_rfl) (by kernel_rfl) ?hQa9_26 ?hya9_26 (by assumption) ?resta9_26
          case hia9_26 => (simp only [List.getElem?_toArray, List.getElem?_cons_succ, List.getElem?_cons_zero]; rfl)
          case hQa9_26 => exact fun _ _ _ h => h
          case hya9_26 => (refine Or.inl ⟨by rfl, ?_⟩; intro w hSw; (try dsimp only at hSw); go_simp; try with_reducible rfl)
          try simp only [Act.put, List.setIfInBounds_toArray, List.set_cons_zero, List.set_cons_succ]
          refine wpAnyH_ready (rs := [10]) (by kernel_rfl) (by simp) ?_
          refine AllReadyH.cons (o := ?oa10_27) ?hoa10_27 (fun Kz hK => ?sta10_27) AllReadyH.nil
          case hoa10_27 => (simp only [List.getElem?_toArray, List.getElem?_cons_succ, List.getElem?_cons_zero]; rfl)
          go_simp
          refine hK.out _ _ ((World.cell?_setCell_far _ _ _ _ (fun y => hne y.symm)).trans t9) (fun hHeld => ?_)
          clear hK Kz
          try simp only [Act.put, List.setIfInBounds_toArray, List.set_cons_zero, List.set_cons_succ]
          refine wpAnyH_done (by kernel_rfl) ?_ _
          refine NoPanic.normal ?_
          go_wp2_with fail
          first | go_end0 | refine bodyPost_ret (results_none rfl _ _ _) rfl ?_
          exact HR.out
        · go_simp
          refine hK.out _ _ (Lib.cell?_alloc_some _ s0) (fun hHeld => ?_)
          clear hK Kz
          try simp only [Act.put, List.setIfInBounds_toArray, List.set_cons_zero, List.set_cons_succ]
          have a4' := Lib.cell?_alloc_some (.cells #[.int .i64 x] 3) a4
          refine wpAnyH_ready (rs := [4]) (by kernel_rfl) (by simp) ?_
          refine AllReadyH.cons (o := ?oc4_28) ?hoc4_28 (fun Kz hK => ?stc4_28) AllReadyH.nil
          case hoc4_28 => (simp only [List.getElem?_toArray, List.getElem?_cons_succ, List.getElem?_cons_zero]; rfl)
          go_simp
          refine hK.out _ _ (Lib.cell?_alloc_some _ s0) (fun hHeld => ?_)
          clear hK Kz
          try simp only [Act.put, List.setIfInBounds_toArray, List.set_cons_zero, List.set_cons_succ]
          refine wpAnyH_ready (rs := [7]) (by kernel_rfl) (by simp) ?_
          refine AllReadyH.cons (o := ?oa7_29) ?hoa7_29 (fun Kz hK => ?sta7_29) AllReadyH.nil
          case hoa7_29 => (simp only [List.getElem?_toArray, List.getElem?_cons_succ, List.getElem?_cons_zero]; rfl)
          refine step_append_q rfl (.tmp 35) (.tmp 37) rfl (K5.q 0) c.grey (by rw [HQV.out]; rfl) (HQ.out.below ((drew_below w5).alloc (Nat.le_refl _) _)) _ [x] rfl (rd_one _ _) (by have := HG.out; simp; omega) ?_
          intro v9 w9 hq9 hg9 hb9
          obtain ⟨⟨u9, hu9⟩, f9, hT9⟩ := (HG5.out.at_.below (drew_below w5)).appended 0 4 (by omega) rfl hq9 hg9 (by rcases hb9 with y | y; exact .inl y; exact .inr (y.trans (congrArg some (Array.size_push _))))
          rw [HG5.out.cp] at hu9 f9 hT9
          have hne : bc ≠ K.cp := fun e => HNB.out (.inl e)
          have hk9 : Keep (fun k => (K5.q 0).ownBlock = some k) w5 w9 := (show Keep (fun k => (K5.q 0).ownBlock = some k) w5 ((w5.alloc (.cells #[.int .i64 x] 3)).drew) from Keep.of_below ((drew_below w5).alloc (Nat.le_refl _) _)).grown hg9 (fun k e _ => e)
          have hbx9 := (HBX.out).of_block (hk9.block _ HBX.out.lt fun e => (HG5.out.ownAll (.inr (.inr ⟨0, by omega, e⟩))).elim HNB.out fun y => absurd HH.out.bx.lt (by omega))
          have t9 := hbx9.cell 0
          obtain ⟨a9, c9, rfl⟩ := hq9.slice
          rw [show (c.grey ++ [x]).length = c.grey.length + 1 by simp] at hT9
          have HR := Lib.hid (show UnitTo allQ w K (youngBegin c x) (.returned (.tuple #[])) (w9.setCell ⟨K.cp, 4, none⟩ (.slice a9 (c.grey.length + 1) c9)) from ⟨rfl, by rw [HE.out]; exact HG5.out.allY.to (CTo.ahead (drew_below w5) HG5.out.at_ hT9.all)⟩)
          clear hq9 hg9 hb9 hT9
          have z9 := ((HG5.out.at_.box).of_block (hk9.block _ HG5.out.at_.box.lt fun e => HG5.out.at_.cp_ne (by omega) e rfl)).cell 4
          have z9' : w9.cell? ⟨K5.cp, 4, none⟩ = some (K5.q 0) := z9
          rw [HG5.out.cp, HQV.out] at z9'
          refine hK.out _ _ t9 (fun hHeld => ?_)
          clear hK Kz
          try simp only [Act.put, List.setIfInBounds_toArray, List.set_cons_zero, List.set_cons_succ]
          refine wpAnyH_take (i := 8) (oi := ?oia8_30) (v := ?vva8_30) ?hia8_30 (by kernel_rfl) (by kernel_rfl) (by kernel_rfl) ?hQa8_30 ?hya8_30 (by assumption) ?resta8_30
          case hia8_30 => (simp only [List.getElem?_toArray, List.getElem?_cons_succ, List.getElem?_cons_zero]; rfl)
          case hQa8_30 => exact fun _ _ _ h => h
          case hya8_30 => (refine Or.inl ⟨by rfl, ?_⟩; intro w hSw; (try dsimp only at hSw); go_simp; try with_reducible rfl)
          try simp only [Act.put, List.setIfInBounds_toArray, List.set_cons_zero, List.set_cons_succ]
          refine wpAnyH_take (i := 9) (oi := ?oia9_31) (v := ?vva9_31) ?hia9_31 (by kernel_rfl) (by kernel_rfl) (by kernel_rfl) ?hQa9_31 ?hya9_31 (by assumption) ?resta9_31
          case hia9_31 => (simp only [List.getElem?_toArray, List.getElem?_cons_succ, List.getElem?_cons_zero]; rfl)
          case hQa9_31 => exact fun _ _ _ h => h
          case hya9_31 => (refine Or.inl ⟨by rfl, ?_⟩; intro w hSw; (try dsimp only at hSw); go_simp; try with_reducible rfl)
          try simp only [Act.put, List.setIfInBounds_toArray, List.set_cons_zero, List.set_cons_succ]
          refine wpAnyH_ready (rs := [10]) (by kernel_rfl) (by simp) ?_
          refine AllReadyH.cons (o := ?oa10_32) ?hoa10_32 (fun Kz hK => ?sta10_32) AllReadyH.nil
          case hoa10_32 => (simp only [List.getElem?_toArray, List.getElem?_cons_succ, List.getElem?_cons_zero]; rfl)
          go_simp
          refine hK.out _ _ ((World.cell?_setCell_far _ _ _ _ (fun y => hne y.symm)).trans t9) (fun hHeld => ?_)
          clear hK Kz
          try simp only [Act.put, List.setIfInBounds_toArray, List.set_cons_zero, List.set_cons_succ]
          refine wpAnyH_done (by kernel_rfl) ?_ _
          refine NoPanic.normal ?_
          go_wp2_with fail
          first | go_end0 | refine bodyPost_ret (results_none rfl _ _ _) rfl ?_
          exact HR.out
  · have e1 : (a == 3) = false := by simp; exact fun e => k1 (.inl e)
    have e2 : (a == 6) = false := by simp; exact fun e => k1 (.inr e)
    have HE := Lib.hid (show youngBegin c x = c by rw [HY.out, if_neg (fun y => k1 y.1)])
    clear k1
    go_enter Tryz.func109, Tryz.ntmps109
    go_wp2_with fail
    refine (HAG.out).mono ?_
    rintro x3 w3 ⟨rfl, hww⟩
    have hww' := hww.symm
    subst hww'
    clear hww
    go_wp2_with fail
    first | go_end0 | refine bodyPost_ret (results_none rfl _ _ _) rfl ?_
    exact ⟨rfl, by rw [HE.out]; exact CTo.refl HH.out.at_⟩
end Go.Proofs.YtminbemdcanakaaGreat
