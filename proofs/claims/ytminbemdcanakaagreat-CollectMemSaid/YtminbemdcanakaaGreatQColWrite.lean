/- A value is written into an object. -/
import Derived.Test.YtminbemdcanakaaGreatML
namespace Go.Proofs.YtminbemdcanakaaGreat
open Go.RowKit Go.Shelf
set_option linter.unusedVariables false
set_option linter.unusedSimpArgs false
attribute [local go_sem] Oper.semAt_some meth_order meth_thing meth_kind meth_cells meth_colour meth_age meth_setColour meth_setAge meth_setFin meth_clear meth_drop meth_roots
attribute [local go_sem high] run_tail

variable {w : World} {K : CL} {c : Cs}
theorem CGo.allW {s : Nat → Prop} {w' : World} {K' : CL} {c' : Cs} (hg : CGo s w K w' K' c') : CGo allQ w K w' K' c' := by
  refine ⟨hg.cp, hg.p, hg.at_, fun _ _ hn => absurd trivial hn, hg.keep.mono fun k _ hk => CL.ownS_mono (fun _ _ => trivial) hk, fun k hk => ?_⟩
  by_cases hs : K'.ownS s k
  · rcases hg.own k hs with e | e
    · exact .inl (CL.ownS_mono (fun _ _ => trivial) e)
    · exact .inr e
  · rcases hk with e | e | ⟨i, hi, ht, e⟩
    · exact absurd (.inl e) hs
    · exact absurd (.inr (.inl e)) hs
    · have hn : ¬ s i := fun hsi => hs (.inr (.inr ⟨i, hi, hsi, e⟩))
      exact .inl (.inr (.inr ⟨i, hi, trivial, hg.q i hi hn ▸ e⟩))
set_option maxRecDepth 100000 in
set_option maxHeartbeats 8000000 in
theorem write_any (h : CAt w K c) (hB : Bd c) (x : Int) (v : V) : Calls Tryz.prog 61 #[.pointer (some ⟨K.cp, 0, none⟩), .int .i64 x, v.val] w fun e w' => UnitTo allQ w K (write c x v) e w' := by
  have hb := below_alloc w (.cells #[.int .i64 v.t, .int .i64 v.n] 34)
  have H0 := h.below hb
  have c0 := H0.cells.1
  have HT := Lib.hid (there_any H0)
  have HCO := Lib.hid (colour_any H0.mem hB.sz.n x)
  have HF := Lib.hid (fresh_any H0 hB.sz v)
  have HX := Lib.hid (Box.new w [.int .i64 v.t, .int .i64 v.n] 34)
  have HNB := Lib.hid (show ¬ K.own w.heap.size from fun ho => by have h1 : w.heap.size < w.heap.size := h.own_lt ho; omega)
  have HB := Lib.hid hb
  have HH := Lib.hid h
  have HBD := Lib.hid hB
  obtain ⟨co, hco⟩ : ∃ co, co = c.m.col x := ⟨_, rfl⟩
  rw [← hco] at HCO
  have HC := Lib.hid hco
  clear hb h hB H0 hco
  unfold V.val at *
  by_cases k1 : co = 3
  · have e1 : (co != 3) = false := by simp [k1]
    go_enter Tryz.func61, Tryz.ntmps61
    go_wp2_with fail
    refine (HT.out).mono ?_
    rintro x1 w1 ⟨rfl, hww⟩
    have hww' := hww.symm
    subst hww'
    clear hww
    go_wp2_with fail
    refine (HCO.out).mono ?_
    rintro x2 w2 ⟨rfl, hww⟩
    have hww' := hww.symm
    subst hww'
    clear hww
    go_wp2_with fail
    refine HF.out.mono ?_
    rintro e w1 ⟨rfl, hb1⟩
    have HX1 := Lib.hid (HX.out.below hb1 (by simp))
    have HB1 := Lib.hid (HB.out.trans (hb1.mono (by simp)))
    clear hb1 c0
    have H1 := HH.out.below HB1.out
    have c0 := H1.cells.1
    have c1 := H1.cells.2.1
    have c2 := H1.cells.2.2.1
    have x0 := HX1.out.cell 0
    have x1 := HX1.out.cell 1
    simp only [List.getElem?_cons_zero, List.getElem?_cons_succ] at x0 x1
    cases hf : fresh c.m c.white v with
    | false =>
      have HE := Lib.hid (show write c x v = c by unfold write; rw [if_pos (.inr (.inl hf))])
      clear H1 hf k1
      go_wp2_with fail
      first | go_end0 | refine bodyPost_ret (results_none rfl _ _ _) rfl ?_
      exact ⟨rfl, by rw [HE.out]; exact CTo.below HH.out HB1.out⟩
    | true =>
      by_cases p1 : c.phase = 1
      · have e2 : (c.phase != 1) = false := by simp [p1]
        have HWR := Lib.hid (show write c x v = if c.m.kind x = 0 then c
          else if c.m.kind x = 5 ∨ c.m.kind x = 8 then (setCA c x 2 (backA (c.m.age x))).withAgain (c.again ++ [x])
          else (mark c v).withM ((mark c v).m.setAge v.n (forwardA ((mark c v).m.age x) ((mark c v).m.age v.n))) by
            unfold write
            rw [if_neg]
            rintro (y | y | y)
            · exact y (by rw [← HC.out]; exact k1)
            · rw [hf] at y; cases y
            · exact y.1 p1)
        clear hf k1 p1
        have HH1 := Lib.hid H1
        have HKI := Lib.hid (kind_any H1.mem HBD.out.sz.n x)
        have HAG := Lib.hid (age_any H1.mem HBD.out.sz.n x)
        obtain ⟨kd, hkd⟩ : ∃ kd, kd = c.m.kind x := ⟨_, rfl⟩
        obtain ⟨ag, hag⟩ : ∃ ag, ag = c.m.age x := ⟨_, rfl⟩
        rw [← hkd] at HKI
        rw [← hag] at HAG
        have HBK := Lib.hid (back_any (w := w1) ag)
        have HSE := Lib.hid (cset_any H1 HBD.out.sz.n x 2 (backA ag))
        have HMK := Lib.hid (mark_any H1 HBD.out v)
        have HKD := Lib.hid hkd
        have HAGE := Lib.hid hag
        clear hkd hag H1
        go_wp2_with fail
        refine (HKI.out).mono ?_
        rintro x3 w3 ⟨rfl, hww⟩
        have hww' := hww.symm
        subst hww'
        clear hww
        by_cases k0 : kd = 0
        · have g0 : (kd == 0) = true := by simp [k0]
          have HE := Lib.hid (show write c x v = c by rw [HWR.out, if_pos (by rw [← HKD.out]; exact k0)])
          clear k0
          go_wp2_with fail
          first | go_end0 | refine bodyPost_ret (results_none rfl _ _ _) rfl ?_
          exact ⟨rfl, by rw [HE.out]; exact CTo.below HH.out HB1.out⟩
        have g0 : (kd == 0) = false := by simp [k0]
        by_cases k5 : kd = 5
        · have g5 : (kd == 5) = true := by simp [k5]
          have HE := Lib.hid (show write c x v = (setCA c x 2 (backA ag)).setQ 1 (c.again ++ [x]) by rw [HWR.out, if_neg (by rw [← HKD.out]; omega), if_pos (by rw [← HKD.out]; omega), ← HAGE.out]; rfl)
          go_wp2_with fail
          refine (HAG.out).mono ?_
          rintro x4 w4 ⟨rfl, hww⟩
          have hww' := hww.symm
          subst hww'
          clear hww
          go_wp2_with fail
          refine (HBK.out).mono ?_
          rintro x5 w5 ⟨rfl, hww⟩
          have hww' := hww.symm
          subst hww'
          clear hww
          go_wp2_with fail
          refine HSE.out.mono ?_
          rintro x6 w6 ⟨rfl, hT6⟩
          obtain ⟨K6, G6⟩ := hT6
          have d5 := G6.at_.cells.2.2.2.2.2.1
          have f5 := G6.at_.box.free 5
          rw [G6.cp] at d5 f5
          have hq : QAt w6 (K6.q 1) c.again := G6.at_.q 1 (by omega)
          obtain ⟨qa, qc, hqv⟩ := hq.slice
          rw [hqv] at d5
          have HQV := Lib.hid hqv
          have HG6 := Lib.hid G6
          have HQ := Lib.hid hq
          clear hqv G6 hq
          go_wp2_with (at_builtin; refine wpList_append_q rfl _ _ rfl (K6.q 1) c.again (by rw [HQV.out]; rfl) (HQ.out.below (below_alloc _ _)) _ [x] rfl (rd_one _ _) (by have := again_dm c; have := HBD.out.dm; simp; omega) ?_)
          intro v7 w7 hq7 hg7 hb7
          obtain ⟨⟨u7, hu7⟩, f7, hT7⟩ := HG6.out.at_.appended 1 5 (by omega) rfl hq7 hg7 hb7
          rw [HG6.out.cp] at hu7 f7 hT7
          obtain ⟨a7, cc7, rfl⟩ := hq7.slice
          rw [show (c.again ++ [x]).length = c.again.length + 1 by simp] at hT7
          have HR := Lib.hid (show UnitTo allQ w K (write c x v) (.returned (.tuple #[])) (w7.setCell ⟨K.cp, 5, none⟩ (.slice a7 (c.again.length + 1) cc7)) from ⟨rfl, by rw [HE.out]; exact CTo.ahead HB1.out HH.out (HG6.out.allW.to hT7.all)⟩)
          clear hq7 hg7 hb7 hT7
          go_wp2_with fail
          first | go_end0 | refine bodyPost_ret (results_none rfl _ _ _) rfl ?_
          exact HR.out
        have g5 : (kd == 5) = false := by simp [k5]
        by_cases k8 : kd = 8
        · have g8 : (kd == 8) = true := by simp [k8]
          have HE := Lib.hid (show write c x v = (setCA c x 2 (backA ag)).setQ 1 (c.again ++ [x]) by rw [HWR.out, if_neg (by rw [← HKD.out]; omega), if_pos (by rw [← HKD.out]; omega), ← HAGE.out]; rfl)
          go_wp2_with fail
          refine (HAG.out).mono ?_
          rintro x4 w4 ⟨rfl, hww⟩
          have hww' := hww.symm
          subst hww'
          clear hww
          go_wp2_with fail
          refine (HBK.out).mono ?_
          rintro x5 w5 ⟨rfl, hww⟩
          have hww' := hww.symm
          subst hww'
          clear hww
          go_wp2_with fail
          refine HSE.out.mono ?_
          rintro x6 w6 ⟨rfl, hT6⟩
          obtain ⟨K6, G6⟩ := hT6
          have d5 := G6.at_.cells.2.2.2.2.2.1
          have f5 := G6.at_.box.free 5
          rw [G6.cp] at d5 f5
          have hq : QAt w6 (K6.q 1) c.again := G6.at_.q 1 (by omega)
          obtain ⟨qa, qc, hqv⟩ := hq.slice
          rw [hqv] at d5
          have HQV := Lib.hid hqv
          have HG6 := Lib.hid G6
          have HQ := Lib.hid hq
          clear hqv G6 hq
          go_wp2_with (at_builtin; refine wpList_append_q rfl _ _ rfl (K6.q 1) c.again (by rw [HQV.out]; rfl) (HQ.out.below (below_alloc _ _)) _ [x] rfl (rd_one _ _) (by have := again_dm c; have := HBD.out.dm; simp; omega) ?_)
          intro v7 w7 hq7 hg7 hb7
          obtain ⟨⟨u7, hu7⟩, f7, hT7⟩ := HG6.out.at_.appended 1 5 (by omega) rfl hq7 hg7 hb7
          rw [HG6.out.cp] at hu7 f7 hT7
          obtain ⟨a7, cc7, rfl⟩ := hq7.slice
          rw [show (c.again ++ [x]).length = c.again.length + 1 by simp] at hT7
          have HR := Lib.hid (show UnitTo allQ w K (write c x v) (.returned (.tuple #[])) (w7.setCell ⟨K.cp, 5, none⟩ (.slice a7 (c.again.length + 1) cc7)) from ⟨rfl, by rw [HE.out]; exact CTo.ahead HB1.out HH.out (HG6.out.allW.to hT7.all)⟩)
          clear hq7 hg7 hb7 hT7
          go_wp2_with fail
          first | go_end0 | refine bodyPost_ret (results_none rfl _ _ _) rfl ?_
          exact HR.out
        have g8 : (kd == 8) = false := by simp [k8]
        have HE := Lib.hid (show write c x v = (mark c v).withM ((mark c v).m.setAge v.n (forwardA ((mark c v).m.age x) ((mark c v).m.age v.n))) by rw [HWR.out, if_neg (by rw [← HKD.out]; omega), if_neg (by rw [← HKD.out]; omega)])
        clear k0 k5 k8
        go_wp2_with fail
        refine HMK.out.mono ?_
        rintro x4 w4 ⟨rfl, hT4⟩
        have hb4 := hT4.box HX1.out HNB.out
        have hT4' := hT4.all
        obtain ⟨K4, G4⟩ := hT4'
        have G3 := G4.at_.below (drew_below w4)
        have d0 := G3.cells.1
        rw [G4.cp, G4.p] at d0
        have hb3 := hb4.below (drew_below w4) hb4.lt
        have b1 := hb3.cell 1
        simp only [List.getElem?_cons_zero, List.getElem?_cons_succ] at b1
        have hlen : (mark c v).m.obs.length ≤ 100000 := by rw [(mark_mk HBD.out.w01 v).lk.len]; exact HBD.out.sz.n
        obtain ⟨a1, ha1⟩ : ∃ a1, a1 = (mark c v).m.age x := ⟨_, rfl⟩
        obtain ⟨a2, ha2⟩ : ∃ a2, a2 = (mark c v).m.age v.n := ⟨_, rfl⟩
        have HA1 := Lib.hid (age_any G3.mem hlen x)
        have HA2 := Lib.hid (age_any G3.mem hlen v.n)
        rw [← ha1] at HA1 HE
        rw [← ha2] at HA2 HE
        have HFW := Lib.hid (forward_any (w := w4.drew) a1 a2)
        have HSA := Lib.hid (setAge_any G3.mem hlen v.n (forwardA a1 a2))
        rw [G4.p] at HA1 HA2 HSA
        have HG3 := Lib.hid (show CGo allQ w4 K4 w4.drew K4 (mark c v) from ⟨rfl, rfl, G3, fun _ _ hn => absurd trivial hn, Keep.of_below (drew_below w4), fun _ h => .inl h⟩)
        have HCP3 := Lib.hid (And.intro G4.cp G4.p)
        have HBX3 := Lib.hid hb3
        have HNB3 := Lib.hid (show ¬ K4.own w.heap.size from fun ho => (G4.ownAll ho).elim HNB.out fun y => by have := HX1.out.lt; omega)
        have HTO := Lib.hid (show ∀ (W : World) (c2 : Cs), CTo allQ w4.drew K4 W c2 → CTo allQ w K W c2 from fun W c2 k => CTo.ahead HB1.out HH.out (G4.to (CTo.ahead (drew_below w4) G4.at_ k)))
        clear hT4 hb4 G4 G3 hb3 hlen ha1 ha2
        go_wp2_with fail
        refine wp_region_noPanic ?_
        refine wp_region_held_drew (S := (fun W => W.cell? ⟨K.cp, 0, none⟩ = some (memI K.L.p) ∧ W.cell? ⟨w.heap.size, 1, none⟩ = some (.int .i64 v.n))) (by kernel_rfl) ?_ (fun hHeld => ?_)
        · exact ⟨d0, b1⟩
        refine wpAnyH_take (i := 0) (oi := ?oia0_1) (v := ?vva0_1) ?hia0_1 (by kernel_rfl) (by kernel_rfl) (by kernel_rfl) ?hQa0_1 ?hya0_1 (by assumption) ?resta0_1
        case hia0_1 => (simp only [List.getElem?_toArray, List.getElem?_cons_succ, List.getElem?_cons_zero]; rfl)
        case hQa0_1 => exact fun _ _ _ h => h
        case hya0_1 => (refine Or.inl ⟨by rfl, ?_⟩; intro w hSw; (try dsimp only at hSw); go_simp; try with_reducible rfl)
        try simp only [Act.put, List.setIfInBounds_toArray, List.set_cons_zero, List.set_cons_succ]
        refine wpAnyH_take (i := 1) (oi := ?oia1_2) (v := ?vva1_2) ?hia1_2 (by kernel_rfl) (by kernel_rfl) (by kernel_rfl) ?hQa1_2 ?hya1_2 (by assumption) ?resta1_2
        case hia1_2 => (simp only [List.getElem?_toArray, List.getElem?_cons_succ, List.getElem?_cons_zero]; rfl)
        case hQa1_2 => exact fun _ _ _ h => h
        case hya1_2 => (refine Or.inl ⟨by rfl, ?_⟩; intro w hSw; (try dsimp only at hSw); go_simp; try with_reducible rfl)
        try simp only [Act.put, List.setIfInBounds_toArray, List.set_cons_zero, List.set_cons_succ]
        refine wpAnyH_take (i := 2) (oi := ?oia2_3) (v := ?vva2_3) ?hia2_3 (by kernel_rfl) (by kernel_rfl) (by kernel_rfl) ?hQa2_3 ?hya2_3 (by assumption) ?resta2_3
        case hia2_3 => (simp only [List.getElem?_toArray, List.getElem?_cons_succ, List.getElem?_cons_zero]; rfl)
        case hQa2_3 => exact fun _ _ _ h => h
        case hya2_3 => (refine Or.inl ⟨by rfl, ?_⟩; intro w hSw; (try dsimp only at hSw); go_simp; try with_reducible rfl)
        try simp only [Act.put, List.setIfInBounds_toArray, List.set_cons_zero, List.set_cons_succ]
        refine wpAnyH_take (i := 3) (oi := ?oia3_4) (v := ?vva3_4) ?hia3_4 (by kernel_rfl) (by kernel_rfl) (by kernel_rfl) ?hQa3_4 ?hya3_4 (by assumption) ?resta3_4
        case hia3_4 => (simp only [List.getElem?_toArray, List.getElem?_cons_succ, List.getElem?_cons_zero]; rfl)
        case hQa3_4 => exact fun _ _ _ h => h
        case hya3_4 => (refine Or.inl ⟨by rfl, ?_⟩; intro w hSw; (try dsimp only at hSw); go_simp; try with_reducible rfl)
        try simp only [Act.put, List.setIfInBounds_toArray, List.set_cons_zero, List.set_cons_succ]
        refine wpAnyH_take (i := 4) (oi := ?oia4_5) (v := ?vva4_5) ?hia4_5 (by kernel_rfl) (by kernel_rfl) (by kernel_rfl) ?hQa4_5 ?hya4_5 (by assumption) ?resta4_5
        case hia4_5 => (simp only [List.getElem?_toArray, List.getElem?_cons_succ, List.getElem?_cons_zero]; rfl)
        case hQa4_5 => exact fun _ _ _ h => h
        case hya4_5 => (refine Or.inl ⟨by rfl, ?_⟩; intro w hSw; (try dsimp only at hSw); go_simp; try with_reducible rfl)
        try simp only [Act.put, List.setIfInBounds_toArray, List.set_cons_zero, List.set_cons_succ]
        refine wpAnyH_take (i := 5) (oi := ?oia5_6) (v := ?vva5_6) ?hia5_6 (by kernel_rfl) (by kernel_rfl) (by kernel_rfl) ?hQa5_6 ?hya5_6 (by assumption) ?resta5_6
        case hia5_6 => (simp only [List.getElem?_toArray, List.getElem?_cons_succ, List.getElem?_cons_zero]; rfl)
        case hQa5_6 => exact fun _ _ _ h => h
        case hya5_6 => (refine Or.inl ⟨by rfl, ?_⟩; intro w hSw; (try dsimp only at hSw); go_simp; try with_reducible rfl)
        try simp only [Act.put, List.setIfInBounds_toArray, List.set_cons_zero, List.set_cons_succ]
        refine wpAnyH_take (i := 6) (oi := ?oia6_7) (v := ?vva6_7) ?hia6_7 (by kernel_rfl) (by kernel_rfl) (by kernel_rfl) ?hQa6_7 ?hya6_7 (by assumption) ?resta6_7
        case hia6_7 => (simp only [List.getElem?_toArray, List.getElem?_cons_succ, List.getElem?_cons_zero]; rfl)
        case hQa6_7 => exact fun _ _ _ h => h
        case hya6_7 => (refine Or.inl ⟨by rfl, ?_⟩; intro w hSw; (try dsimp only at hSw); go_simp; try with_reducible rfl)
        try simp only [Act.put, List.setIfInBounds_toArray, List.set_cons_zero, List.set_cons_succ]
        refine wpAnyH_take (i := 7) (oi := ?oia7_8) (v := ?vva7_8) ?hia7_8 (by kernel_rfl) (by kernel_rfl) (by kernel_rfl) ?hQa7_8 ?hya7_8 (by assumption) ?resta7_8
        case hia7_8 => (simp only [List.getElem?_toArray, List.getElem?_cons_succ, List.getElem?_cons_zero]; rfl)
        case hQa7_8 => exact fun _ _ _ h => h
        case hya7_8 => (refine Or.inl ⟨by rfl, ?_⟩; intro w hSw; (try dsimp only at hSw); go_simp; try with_reducible rfl)
        try simp only [Act.put, List.setIfInBounds_toArray, List.set_cons_zero, List.set_cons_succ]
        refine wpAnyH_take (i := 8) (oi := ?oia8_9) (v := ?vva8_9) ?hia8_9 (by kernel_rfl) (by kernel_rfl) (by kernel_rfl) ?hQa8_9 ?hya8_9 (by assumption) ?resta8_9
        case hia8_9 => (simp only [List.getElem?_toArray, List.getElem?_cons_succ, List.getElem?_cons_zero]; rfl)
        case hQa8_9 => exact fun _ _ _ h => h
        case hya8_9 => (refine Or.inl ⟨by rfl, ?_⟩; intro w hSw; (try dsimp only at hSw); go_simp; try with_reducible rfl)
        try simp only [Act.put, List.setIfInBounds_toArray, List.set_cons_zero, List.set_cons_succ]
        refine wpAnyH_take (i := 9) (oi := ?oia9_10) (v := ?vva9_10) ?hia9_10 (by kernel_rfl) (by kernel_rfl) (by kernel_rfl) ?hQa9_10 ?hya9_10 (by assumption) ?resta9_10
        case hia9_10 => (simp only [List.getElem?_toArray, List.getElem?_cons_succ, List.getElem?_cons_zero]; rfl)
        case hQa9_10 => exact fun _ _ _ h => h
        case hya9_10 => (refine Or.inl ⟨by rfl, ?_⟩; intro w hSw; (try dsimp only at hSw); go_simp; try with_reducible rfl)
        try simp only [Act.put, List.setIfInBounds_toArray, List.set_cons_zero, List.set_cons_succ]
        refine wpAnyH_take (i := 10) (oi := ?oia10_11) (v := ?vva10_11) ?hia10_11 (by kernel_rfl) (by kernel_rfl) (by kernel_rfl) ?hQa10_11 ?hya10_11 (by assumption) ?resta10_11
        case hia10_11 => (simp only [List.getElem?_toArray, List.getElem?_cons_succ, List.getElem?_cons_zero]; rfl)
        case hQa10_11 => exact fun _ _ _ h => h
        case hya10_11 => (refine Or.inl ⟨by rfl, ?_⟩; intro w hSw; (try dsimp only at hSw); go_simp; try with_reducible rfl)
        try simp only [Act.put, List.setIfInBounds_toArray, List.set_cons_zero, List.set_cons_succ]
        refine wpAnyH_take (i := 12) (oi := ?oia12_12) (v := ?vva12_12) ?hia12_12 (by kernel_rfl) (by kernel_rfl) (by kernel_rfl) ?hQa12_12 ?hya12_12 (by assumption) ?resta12_12
        case hia12_12 => (simp only [List.getElem?_toArray, List.getElem?_cons_succ, List.getElem?_cons_zero]; rfl)
        case hQa12_12 => exact fun _ _ _ h => h
        case hya12_12 => (refine Or.inl ⟨by rfl, ?_⟩; intro w hSw; (try dsimp only at hSw); go_simp; try with_reducible rfl)
        try simp only [Act.put, List.setIfInBounds_toArray, List.set_cons_zero, List.set_cons_succ]
        refine wpAnyH_take (i := 13) (oi := ?oia13_13) (v := ?vva13_13) ?hia13_13 (by kernel_rfl) (by kernel_rfl) (by kernel_rfl) ?hQa13_13 ?hya13_13 (by assumption) ?resta13_13
        case hia13_13 => (simp only [List.getElem?_toArray, List.getElem?_cons_succ, List.getElem?_cons_zero]; rfl)
        case hQa13_13 => exact fun _ _ _ h => h
        case hya13_13 => (refine Or.inl ⟨by rfl, ?_⟩; intro w hSw; (try dsimp only at hSw); go_simp; try with_reducible rfl)
        try simp only [Act.put, List.setIfInBounds_toArray, List.set_cons_zero, List.set_cons_succ]
        refine wpAnyH_take (i := 14) (oi := ?oia14_14) (v := ?vva14_14) ?hia14_14 (by kernel_rfl) (by kernel_rfl) (by kernel_rfl) ?hQa14_14 ?hya14_14 (by assumption) ?resta14_14
        case hia14_14 => (simp only [List.getElem?_toArray, List.getElem?_cons_succ, List.getElem?_cons_zero]; rfl)
        case hQa14_14 => exact fun _ _ _ h => h
        case hya14_14 => (refine Or.inl ⟨by rfl, ?_⟩; intro w hSw; (try dsimp only at hSw); go_simp; try with_reducible rfl)
        try simp only [Act.put, List.setIfInBounds_toArray, List.set_cons_zero, List.set_cons_succ]
        refine wpAnyH_take (i := 15) (oi := ?oia15_15) (v := ?vva15_15) ?hia15_15 (by kernel_rfl) (by kernel_rfl) (by kernel_rfl) ?hQa15_15 ?hya15_15 (by assumption) ?resta15_15
        case hia15_15 => (simp only [List.getElem?_toArray, List.getElem?_cons_succ, List.getElem?_cons_zero]; rfl)
        case hQa15_15 => exact fun _ _ _ h => h
        case hya15_15 => (refine Or.inl ⟨by rfl, ?_⟩; intro w hSw; (try dsimp only at hSw); go_simp; try with_reducible rfl)
        try simp only [Act.put, List.setIfInBounds_toArray, List.set_cons_zero, List.set_cons_succ]
        refine wpAnyH_take (i := 16) (oi := ?oia16_16) (v := ?vva16_16) ?hia16_16 (by kernel_rfl) (by kernel_rfl) (by kernel_rfl) ?hQa16_16 ?hya16_16 (by assumption) ?resta16_16
        case hia16_16 => (simp only [List.getElem?_toArray, List.getElem?_cons_succ, List.getElem?_cons_zero]; rfl)
        case hQa16_16 => exact fun _ _ _ h => h
        case hya16_16 => (refine Or.inl ⟨by rfl, ?_⟩; intro w hSw; (try dsimp only at hSw); go_simp; try with_reducible rfl)
        try simp only [Act.put, List.setIfInBounds_toArray, List.set_cons_zero, List.set_cons_succ]
        refine wpAnyH_take (i := 17) (oi := ?oia17_17) (v := ?vva17_17) ?hia17_17 (by kernel_rfl) (by kernel_rfl) (by kernel_rfl) ?hQa17_17 ?hya17_17 (by assumption) ?resta17_17
        case hia17_17 => (simp only [List.getElem?_toArray, List.getElem?_cons_succ, List.getElem?_cons_zero]; rfl)
        case hQa17_17 => exact fun _ _ _ h => h
        case hya17_17 => (refine Or.inl ⟨by rfl, ?_⟩; intro w hSw; (try dsimp only at hSw); go_simp; try with_reducible rfl)
        try simp only [Act.put, List.setIfInBounds_toArray, List.set_cons_zero, List.set_cons_succ]
        refine wpAnyH_take (i := 20) (oi := ?oia20_18) (v := ?vva20_18) ?hia20_18 (by kernel_rfl) (by kernel_rfl) (by kernel_rfl) ?hQa20_18 ?hya20_18 (by assumption) ?resta20_18
        case hia20_18 => (simp only [List.getElem?_toArray, List.getElem?_cons_succ, List.getElem?_cons_zero]; rfl)
        case hQa20_18 => exact fun _ _ _ h => h
        case hya20_18 => (refine Or.inl ⟨by rfl, ?_⟩; intro w hSw; (try dsimp only at hSw); go_simp; try with_reducible rfl)
        try simp only [Act.put, List.setIfInBounds_toArray, List.set_cons_zero, List.set_cons_succ]
        refine wpAnyH_take (i := 21) (oi := ?oia21_19) (v := ?vva21_19) ?hia21_19 (by kernel_rfl) (by kernel_rfl) (by kernel_rfl) ?hQa21_19 ?hya21_19 (by assumption) ?resta21_19
        case hia21_19 => (simp only [List.getElem?_toArray, List.getElem?_cons_succ, List.getElem?_cons_zero]; rfl)
        case hQa21_19 => exact fun _ _ _ h => h
        case hya21_19 => (refine Or.inl ⟨by rfl, ?_⟩; intro w hSw; (try dsimp only at hSw); go_simp; try with_reducible rfl)
        try simp only [Act.put, List.setIfInBounds_toArray, List.set_cons_zero, List.set_cons_succ]
        refine wpAnyH_ready (rs := [11]) (by kernel_rfl) (by simp) ?_
        refine AllReadyH.cons (o := ?oa11_20) ?hoa11_20 (fun Kz hK => ?sta11_20) AllReadyH.nil
        case hoa11_20 => (simp only [List.getElem?_toArray, List.getElem?_cons_succ, List.getElem?_cons_zero]; rfl)
        go_simp
        refine HA1.out.mono ?_
        rintro x5 w5 ⟨rfl, rfl⟩
        go_simp
        refine hK.out _ _ ⟨d0, b1⟩ (fun hHeld => ?_)
        clear hK Kz
        try simp only [Act.put, List.setIfInBounds_toArray, List.set_cons_zero, List.set_cons_succ]
        refine wpAnyH_ready (rs := [18]) (by kernel_rfl) (by simp) ?_
        refine AllReadyH.cons (o := ?ob18_21) ?hob18_21 (fun Kz hK => ?stb18_21) AllReadyH.nil
        case hob18_21 => (simp only [List.getElem?_toArray, List.getElem?_cons_succ, List.getElem?_cons_zero]; rfl)
        go_simp
        refine HA2.out.mono ?_
        rintro x5 w5 ⟨rfl, rfl⟩
        go_simp
        refine hK.out _ _ ⟨d0, b1⟩ (fun hHeld => ?_)
        clear hK Kz
        try simp only [Act.put, List.setIfInBounds_toArray, List.set_cons_zero, List.set_cons_succ]
        refine wpAnyH_ready (rs := [19]) (by kernel_rfl) (by simp) ?_
        refine AllReadyH.cons (o := ?oe19_22) ?hoe19_22 (fun Kz hK => ?ste19_22) AllReadyH.nil
        case hoe19_22 => (simp only [List.getElem?_toArray, List.getElem?_cons_succ, List.getElem?_cons_zero]; rfl)
        go_simp
        refine HFW.out.mono ?_
        rintro x6 w6 ⟨rfl, rfl⟩
        go_simp
        refine hK.out _ _ ⟨d0, b1⟩ (fun hHeld => ?_)
        clear hK Kz
        try simp only [Act.put, List.setIfInBounds_toArray, List.set_cons_zero, List.set_cons_succ]
        refine wpAnyH_ready (rs := [22]) (by kernel_rfl) (by simp) ?_
        refine AllReadyH.cons (o := ?oe22_23) ?hoe22_23 (fun Kz hK => ?ste22_23) AllReadyH.nil
        case hoe22_23 => (simp only [List.getElem?_toArray, List.getElem?_cons_succ, List.getElem?_cons_zero]; rfl)
        go_simp
        refine HSA.out.mono ?_
        rintro x7 w7 ⟨rfl, hm, hk⟩
        have hT7 := HG3.out.at_.turnK (s := allQ) hm hk
        have hbx7 := hT7.box HBX3.out HNB3.out
        obtain ⟨K7, G7⟩ := hT7
        have d7 := G7.at_.cells.1
        rw [G7.cp, G7.p, HCP3.out.1, HCP3.out.2] at d7
        have HR := Lib.hid (show UnitTo allQ w K (write c x v) (.returned (.tuple #[])) w7 from ⟨rfl, by rw [HE.out]; exact HTO.out _ _ ⟨K7, G7⟩⟩)
        clear hm hk G7
        go_simp
        refine hK.out _ _ ⟨d7, hbx7.cell 1⟩ (fun hHeld => ?_)
        clear hK Kz
        try simp only [Act.put, List.setIfInBounds_toArray, List.set_cons_zero, List.set_cons_succ]
        refine wpAnyH_done (by kernel_rfl) ?_ _
        refine NoPanic.normal ?_
        go_wp2_with fail
        first | go_end0 | refine bodyPost_ret (results_none rfl _ _ _) rfl ?_
        exact HR.out
      have e2 : (c.phase != 1) = true := by simp [p1]
      by_cases m1 : c.mode = 1
      · have e3 : (c.mode != 1) = false := by simp [m1]
        have HWR := Lib.hid (show write c x v = if c.m.kind x = 0 then c
          else if c.m.kind x = 5 ∨ c.m.kind x = 8 then (setCA c x 2 (backA (c.m.age x))).withAgain (c.again ++ [x])
          else (mark c v).withM ((mark c v).m.setAge v.n (forwardA ((mark c v).m.age x) ((mark c v).m.age v.n))) by
            unfold write
            rw [if_neg]
            rintro (y | y | y)
            · exact y (by rw [← HC.out]; exact k1)
            · rw [hf] at y; cases y
            · exact y.2 m1)
        clear hf k1 p1 m1
        have HH1 := Lib.hid H1
        have HKI := Lib.hid (kind_any H1.mem HBD.out.sz.n x)
        have HAG := Lib.hid (age_any H1.mem HBD.out.sz.n x)
        obtain ⟨kd, hkd⟩ : ∃ kd, kd = c.m.kind x := ⟨_, rfl⟩
        obtain ⟨ag, hag⟩ : ∃ ag, ag = c.m.age x := ⟨_, rfl⟩
        rw [← hkd] at HKI
        rw [← hag] at HAG
        have HBK := Lib.hid (back_any (w := w1) ag)
        have HSE := Lib.hid (cset_any H1 HBD.out.sz.n x 2 (backA ag))
        have HMK := Lib.hid (mark_any H1 HBD.out v)
        have HKD := Lib.hid hkd
        have HAGE := Lib.hid hag
        clear hkd hag H1
        go_wp2_with fail
        refine (HKI.out).mono ?_
        rintro x3 w3 ⟨rfl, hww⟩
        have hww' := hww.symm
        subst hww'
        clear hww
        by_cases k0 : kd = 0
        · have g0 : (kd == 0) = true := by simp [k0]
          have HE := Lib.hid (show write c x v = c by rw [HWR.out, if_pos (by rw [← HKD.out]; exact k0)])
          clear k0
          go_wp2_with fail
          first | go_end0 | refine bodyPost_ret (results_none rfl _ _ _) rfl ?_
          exact ⟨rfl, by rw [HE.out]; exact CTo.below HH.out HB1.out⟩
        have g0 : (kd == 0) = false := by simp [k0]
        by_cases k5 : kd = 5
        · have g5 : (kd == 5) = true := by simp [k5]
          have HE := Lib.hid (show write c x v = (setCA c x 2 (backA ag)).setQ 1 (c.again ++ [x]) by rw [HWR.out, if_neg (by rw [← HKD.out]; omega), if_pos (by rw [← HKD.out]; omega), ← HAGE.out]; rfl)
          go_wp2_with fail
          refine (HAG.out).mono ?_
          rintro x4 w4 ⟨rfl, hww⟩
          have hww' := hww.symm
          subst hww'
          clear hww
          go_wp2_with fail
          refine (HBK.out).mono ?_
          rintro x5 w5 ⟨rfl, hww⟩
          have hww' := hww.symm
          subst hww'
          clear hww
          go_wp2_with fail
          refine HSE.out.mono ?_
          rintro x6 w6 ⟨rfl, hT6⟩
          obtain ⟨K6, G6⟩ := hT6
          have d5 := G6.at_.cells.2.2.2.2.2.1
          have f5 := G6.at_.box.free 5
          rw [G6.cp] at d5 f5
          have hq : QAt w6 (K6.q 1) c.again := G6.at_.q 1 (by omega)
          obtain ⟨qa, qc, hqv⟩ := hq.slice
          rw [hqv] at d5
          have HQV := Lib.hid hqv
          have HG6 := Lib.hid G6
          have HQ := Lib.hid hq
          clear hqv G6 hq
          go_wp2_with (at_builtin; refine wpList_append_q rfl _ _ rfl (K6.q 1) c.again (by rw [HQV.out]; rfl) (HQ.out.below (below_alloc _ _)) _ [x] rfl (rd_one _ _) (by have := again_dm c; have := HBD.out.dm; simp; omega) ?_)
          intro v7 w7 hq7 hg7 hb7
          obtain ⟨⟨u7, hu7⟩, f7, hT7⟩ := HG6.out.at_.appended 1 5 (by omega) rfl hq7 hg7 hb7
          rw [HG6.out.cp] at hu7 f7 hT7
          obtain ⟨a7, cc7, rfl⟩ := hq7.slice
          rw [show (c.again ++ [x]).length = c.again.length + 1 by simp] at hT7
          have HR := Lib.hid (show UnitTo allQ w K (write c x v) (.returned (.tuple #[])) (w7.setCell ⟨K.cp, 5, none⟩ (.slice a7 (c.again.length + 1) cc7)) from ⟨rfl, by rw [HE.out]; exact CTo.ahead HB1.out HH.out (HG6.out.allW.to hT7.all)⟩)
          clear hq7 hg7 hb7 hT7
          go_wp2_with fail
          first | go_end0 | refine bodyPost_ret (results_none rfl _ _ _) rfl ?_
          exact HR.out
        have g5 : (kd == 5) = false := by simp [k5]
        by_cases k8 : kd = 8
        · have g8 : (kd == 8) = true := by simp [k8]
          have HE := Lib.hid (show write c x v = (setCA c x 2 (backA ag)).setQ 1 (c.again ++ [x]) by rw [HWR.out, if_neg (by rw [← HKD.out]; omega), if_pos (by rw [← HKD.out]; omega), ← HAGE.out]; rfl)
          go_wp2_with fail
          refine (HAG.out).mono ?_
          rintro x4 w4 ⟨rfl, hww⟩
          have hww' := hww.symm
          subst hww'
          clear hww
          go_wp2_with fail
          refine (HBK.out).mono ?_
          rintro x5 w5 ⟨rfl, hww⟩
          have hww' := hww.symm
          subst hww'
          clear hww
          go_wp2_with fail
          refine HSE.out.mono ?_
          rintro x6 w6 ⟨rfl, hT6⟩
          obtain ⟨K6, G6⟩ := hT6
          have d5 := G6.at_.cells.2.2.2.2.2.1
          have f5 := G6.at_.box.free 5
          rw [G6.cp] at d5 f5
          have hq : QAt w6 (K6.q 1) c.again := G6.at_.q 1 (by omega)
          obtain ⟨qa, qc, hqv⟩ := hq.slice
          rw [hqv] at d5
          have HQV := Lib.hid hqv
          have HG6 := Lib.hid G6
          have HQ := Lib.hid hq
          clear hqv G6 hq
          go_wp2_with (at_builtin; refine wpList_append_q rfl _ _ rfl (K6.q 1) c.again (by rw [HQV.out]; rfl) (HQ.out.below (below_alloc _ _)) _ [x] rfl (rd_one _ _) (by have := again_dm c; have := HBD.out.dm; simp; omega) ?_)
          intro v7 w7 hq7 hg7 hb7
          obtain ⟨⟨u7, hu7⟩, f7, hT7⟩ := HG6.out.at_.appended 1 5 (by omega) rfl hq7 hg7 hb7
          rw [HG6.out.cp] at hu7 f7 hT7
          obtain ⟨a7, cc7, rfl⟩ := hq7.slice
          rw [show (c.again ++ [x]).length = c.again.length + 1 by simp] at hT7
          have HR := Lib.hid (show UnitTo allQ w K (write c x v) (.returned (.tuple #[])) (w7.setCell ⟨K.cp, 5, none⟩ (.slice a7 (c.again.length + 1) cc7)) from ⟨rfl, by rw [HE.out]; exact CTo.ahead HB1.out HH.out (HG6.out.allW.to hT7.all)⟩)
          clear hq7 hg7 hb7 hT7
          go_wp2_with fail
          first | go_end0 | refine bodyPost_ret (results_none rfl _ _ _) rfl ?_
          exact HR.out
        have g8 : (kd == 8) = false := by simp [k8]
        have HE := Lib.hid (show write c x v = (mark c v).withM ((mark c v).m.setAge v.n (forwardA ((mark c v).m.age x) ((mark c v).m.age v.n))) by rw [HWR.out, if_neg (by rw [← HKD.out]; omega), if_neg (by rw [← HKD.out]; omega)])
        clear k0 k5 k8
        go_wp2_with fail
        refine HMK.out.mono ?_
        rintro x4 w4 ⟨rfl, hT4⟩
        have hb4 := hT4.box HX1.out HNB.out
        have hT4' := hT4.all
        obtain ⟨K4, G4⟩ := hT4'
        have G3 := G4.at_.below (drew_below w4)
        have d0 := G3.cells.1
        rw [G4.cp, G4.p] at d0
        have hb3 := hb4.below (drew_below w4) hb4.lt
        have b1 := hb3.cell 1
        simp only [List.getElem?_cons_zero, List.getElem?_cons_succ] at b1
        have hlen : (mark c v).m.obs.length ≤ 100000 := by rw [(mark_mk HBD.out.w01 v).lk.len]; exact HBD.out.sz.n
        obtain ⟨a1, ha1⟩ : ∃ a1, a1 = (mark c v).m.age x := ⟨_, rfl⟩
        obtain ⟨a2, ha2⟩ : ∃ a2, a2 = (mark c v).m.age v.n := ⟨_, rfl⟩
        have HA1 := Lib.hid (age_any G3.mem hlen x)
        have HA2 := Lib.hid (age_any G3.mem hlen v.n)
        rw [← ha1] at HA1 HE
        rw [← ha2] at HA2 HE
        have HFW := Lib.hid (forward_any (w := w4.drew) a1 a2)
        have HSA := Lib.hid (setAge_any G3.mem hlen v.n (forwardA a1 a2))
        rw [G4.p] at HA1 HA2 HSA
        have HG3 := Lib.hid (show CGo allQ w4 K4 w4.drew K4 (mark c v) from ⟨rfl, rfl, G3, fun _ _ hn => absurd trivial hn, Keep.of_below (drew_below w4), fun _ h => .inl h⟩)
        have HCP3 := Lib.hid (And.intro G4.cp G4.p)
        have HBX3 := Lib.hid hb3
        have HNB3 := Lib.hid (show ¬ K4.own w.heap.size from fun ho => (G4.ownAll ho).elim HNB.out fun y => by have := HX1.out.lt; omega)
        have HTO := Lib.hid (show ∀ (W : World) (c2 : Cs), CTo allQ w4.drew K4 W c2 → CTo allQ w K W c2 from fun W c2 k => CTo.ahead HB1.out HH.out (G4.to (CTo.ahead (drew_below w4) G4.at_ k)))
        clear hT4 hb4 G4 G3 hb3 hlen ha1 ha2
        go_wp2_with fail
        refine wp_region_noPanic ?_
        refine wp_region_held_drew (S := (fun W => W.cell? ⟨K.cp, 0, none⟩ = some (memI K.L.p) ∧ W.cell? ⟨w.heap.size, 1, none⟩ = some (.int .i64 v.n))) (by kernel_rfl) ?_ (fun hHeld => ?_)
        · exact ⟨d0, b1⟩
        refine wpAnyH_take (i := 0) (oi := ?oia0_24) (v := ?vva0_24) ?hia0_24 (by kernel_rfl) (by kernel_rfl) (by kernel_rfl) ?hQa0_24 ?hya0_24 (by assumption) ?resta0_24
        case hia0_24 => (simp only [List.getElem?_toArray, List.getElem?_cons_succ, List.getElem?_cons_zero]; rfl)
        case hQa0_24 => exact fun _ _ _ h => h
        case hya0_24 => (refine Or.inl ⟨by rfl, ?_⟩; intro w hSw; (try dsimp only at hSw); go_simp; try with_reducible rfl)
        try simp only [Act.put, List.setIfInBounds_toArray, List.set_cons_zero, List.set_cons_succ]
        refine wpAnyH_take (i := 1) (oi := ?oia1_25) (v := ?vva1_25) ?hia1_25 (by kernel_rfl) (by kernel_rfl) (by kernel_rfl) ?hQa1_25 ?hya1_25 (by assumption) ?resta1_25
        case hia1_25 => (simp only [List.getElem?_toArray, List.getElem?_cons_succ, List.getElem?_cons_zero]; rfl)
        case hQa1_25 => exact fun _ _ _ h => h
        case hya1_25 => (refine Or.inl ⟨by rfl, ?_⟩; intro w hSw; (try dsimp only at hSw); go_simp; try with_reducible rfl)
        try simp only [Act.put, List.setIfInBounds_toArray, List.set_cons_zero, List.set_cons_succ]
        refine wpAnyH_take (i := 2) (oi := ?oia2_26) (v := ?vva2_26) ?hia2_26 (by kernel_rfl) (by kernel_rfl) (by kernel_rfl) ?hQa2_26 ?hya2_26 (by assumption) ?resta2_26
        case hia2_26 => (simp only [List.getElem?_toArray, List.getElem?_cons_succ, List.getElem?_cons_zero]; rfl)
        case hQa2_26 => exact fun _ _ _ h => h
        case hya2_26 => (refine Or.inl ⟨by rfl, ?_⟩; intro w hSw; (try dsimp only at hSw); go_simp; try with_reducible rfl)
        try simp only [Act.put, List.setIfInBounds_toArray, List.set_cons_zero, List.set_cons_succ]
        refine wpAnyH_take (i := 3) (oi := ?oia3_27) (v := ?vva3_27) ?hia3_27 (by kernel_rfl) (by kernel_rfl) (by kernel_rfl) ?hQa3_27 ?hya3_27 (by assumption) ?resta3_27
        case hia3_27 => (simp only [List.getElem?_toArray, List.getElem?_cons_succ, List.getElem?_cons_zero]; rfl)
        case hQa3_27 => exact fun _ _ _ h => h
        case hya3_27 => (refine Or.inl ⟨by rfl, ?_⟩; intro w hSw; (try dsimp only at hSw); go_simp; try with_reducible rfl)
        try simp only [Act.put, List.setIfInBounds_toArray, List.set_cons_zero, List.set_cons_succ]
        refine wpAnyH_take (i := 4) (oi := ?oia4_28) (v := ?vva4_28) ?hia4_28 (by kernel_rfl) (by kernel_rfl) (by kernel_rfl) ?hQa4_28 ?hya4_28 (by assumption) ?resta4_28
        case hia4_28 => (simp only [List.getElem?_toArray, List.getElem?_cons_succ, List.getElem?_cons_zero]; rfl)
        case hQa4_28 => exact fun _ _ _ h => h
        case hya4_28 => (refine Or.inl ⟨by rfl, ?_⟩; intro w hSw; (try dsimp only at hSw); go_simp; try with_reducible rfl)
        try simp only [Act.put, List.setIfInBounds_toArray, List.set_cons_zero, List.set_cons_succ]
        refine wpAnyH_take (i := 5) (oi := ?oia5_29) (v := ?vva5_29) ?hia5_29 (by kernel_rfl) (by kernel_rfl) (by kernel_rfl) ?hQa5_29 ?hya5_29 (by assumption) ?resta5_29
        case hia5_29 => (simp only [List.getElem?_toArray, List.getElem?_cons_succ, List.getElem?_cons_zero]; rfl)
        case hQa5_29 => exact fun _ _ _ h => h
        case hya5_29 => (refine Or.inl ⟨by rfl, ?_⟩; intro w hSw; (try dsimp only at hSw); go_simp; try with_reducible rfl)
        try simp only [Act.put, List.setIfInBounds_toArray, List.set_cons_zero, List.set_cons_succ]
        refine wpAnyH_take (i := 6) (oi := ?oia6_30) (v := ?vva6_30) ?hia6_30 (by kernel_rfl) (by kernel_rfl) (by kernel_rfl) ?hQa6_30 ?hya6_30 (by assumption) ?resta6_30
        case hia6_30 => (simp only [List.getElem?_toArray, List.getElem?_cons_succ, List.getElem?_cons_zero]; rfl)
        case hQa6_30 => exact fun _ _ _ h => h
        case hya6_30 => (refine Or.inl ⟨by rfl, ?_⟩; intro w hSw; (try dsimp only at hSw); go_simp; try with_reducible rfl)
        try simp only [Act.put, List.setIfInBounds_toArray, List.set_cons_zero, List.set_cons_succ]
        refine wpAnyH_take (i := 7) (oi := ?oia7_31) (v := ?vva7_31) ?hia7_31 (by kernel_rfl) (by kernel_rfl) (by kernel_rfl) ?hQa7_31 ?hya7_31 (by assumption) ?resta7_31
        case hia7_31 => (simp only [List.getElem?_toArray, List.getElem?_cons_succ, List.getElem?_cons_zero]; rfl)
        case hQa7_31 => exact fun _ _ _ h => h
        case hya7_31 => (refine Or.inl ⟨by rfl, ?_⟩; intro w hSw; (try dsimp only at hSw); go_simp; try with_reducible rfl)
        try simp only [Act.put, List.setIfInBounds_toArray, List.set_cons_zero, List.set_cons_succ]
        refine wpAnyH_take (i := 8) (oi := ?oia8_32) (v := ?vva8_32) ?hia8_32 (by kernel_rfl) (by kernel_rfl) (by kernel_rfl) ?hQa8_32 ?hya8_32 (by assumption) ?resta8_32
        case hia8_32 => (simp only [List.getElem?_toArray, List.getElem?_cons_succ, List.getElem?_cons_zero]; rfl)
        case hQa8_32 => exact fun _ _ _ h => h
        case hya8_32 => (refine Or.inl ⟨by rfl, ?_⟩; intro w hSw; (try dsimp only at hSw); go_simp; try with_reducible rfl)
        try simp only [Act.put, List.setIfInBounds_toArray, List.set_cons_zero, List.set_cons_succ]
        refine wpAnyH_take (i := 9) (oi := ?oia9_33) (v := ?vva9_33) ?hia9_33 (by kernel_rfl) (by kernel_rfl) (by kernel_rfl) ?hQa9_33 ?hya9_33 (by assumption) ?resta9_33
        case hia9_33 => (simp only [List.getElem?_toArray, List.getElem?_cons_succ, List.getElem?_cons_zero]; rfl)
        case hQa9_33 => exact fun _ _ _ h => h
        case hya9_33 => (refine Or.inl ⟨by rfl, ?_⟩; intro w hSw; (try dsimp only at hSw); go_simp; try with_reducible rfl)
        try simp only [Act.put, List.setIfInBounds_toArray, List.set_cons_zero, List.set_cons_succ]
        refine wpAnyH_take (i := 10) (oi := ?oia10_34) (v := ?vva10_34) ?hia10_34 (by kernel_rfl) (by kernel_rfl) (by kernel_rfl) ?hQa10_34 ?hya10_34 (by assumption) ?resta10_34
        case hia10_34 => (simp only [List.getElem?_toArray, List.getElem?_cons_succ, List.getElem?_cons_zero]; rfl)
        case hQa10_34 => exact fun _ _ _ h => h
        case hya10_34 => (refine Or.inl ⟨by rfl, ?_⟩; intro w hSw; (try dsimp only at hSw); go_simp; try with_reducible rfl)
        try simp only [Act.put, List.setIfInBounds_toArray, List.set_cons_zero, List.set_cons_succ]
        refine wpAnyH_take (i := 12) (oi := ?oia12_35) (v := ?vva12_35) ?hia12_35 (by kernel_rfl) (by kernel_rfl) (by kernel_rfl) ?hQa12_35 ?hya12_35 (by assumption) ?resta12_35
        case hia12_35 => (simp only [List.getElem?_toArray, List.getElem?_cons_succ, List.getElem?_cons_zero]; rfl)
        case hQa12_35 => exact fun _ _ _ h => h
        case hya12_35 => (refine Or.inl ⟨by rfl, ?_⟩; intro w hSw; (try dsimp only at hSw); go_simp; try with_reducible rfl)
        try simp only [Act.put, List.setIfInBounds_toArray, List.set_cons_zero, List.set_cons_succ]
        refine wpAnyH_take (i := 13) (oi := ?oia13_36) (v := ?vva13_36) ?hia13_36 (by kernel_rfl) (by kernel_rfl) (by kernel_rfl) ?hQa13_36 ?hya13_36 (by assumption) ?resta13_36
        case hia13_36 => (simp only [List.getElem?_toArray, List.getElem?_cons_succ, List.getElem?_cons_zero]; rfl)
        case hQa13_36 => exact fun _ _ _ h => h
        case hya13_36 => (refine Or.inl ⟨by rfl, ?_⟩; intro w hSw; (try dsimp only at hSw); go_simp; try with_reducible rfl)
        try simp only [Act.put, List.setIfInBounds_toArray, List.set_cons_zero, List.set_cons_succ]
        refine wpAnyH_take (i := 14) (oi := ?oia14_37) (v := ?vva14_37) ?hia14_37 (by kernel_rfl) (by kernel_rfl) (by kernel_rfl) ?hQa14_37 ?hya14_37 (by assumption) ?resta14_37
        case hia14_37 => (simp only [List.getElem?_toArray, List.getElem?_cons_succ, List.getElem?_cons_zero]; rfl)
        case hQa14_37 => exact fun _ _ _ h => h
        case hya14_37 => (refine Or.inl ⟨by rfl, ?_⟩; intro w hSw; (try dsimp only at hSw); go_simp; try with_reducible rfl)
        try simp only [Act.put, List.setIfInBounds_toArray, List.set_cons_zero, List.set_cons_succ]
        refine wpAnyH_take (i := 15) (oi := ?oia15_38) (v := ?vva15_38) ?hia15_38 (by kernel_rfl) (by kernel_rfl) (by kernel_rfl) ?hQa15_38 ?hya15_38 (by assumption) ?resta15_38
        case hia15_38 => (simp only [List.getElem?_toArray, List.getElem?_cons_succ, List.getElem?_cons_zero]; rfl)
        case hQa15_38 => exact fun _ _ _ h => h
        case hya15_38 => (refine Or.inl ⟨by rfl, ?_⟩; intro w hSw; (try dsimp only at hSw); go_simp; try with_reducible rfl)
        try simp only [Act.put, List.setIfInBounds_toArray, List.set_cons_zero, List.set_cons_succ]
        refine wpAnyH_take (i := 16) (oi := ?oia16_39) (v := ?vva16_39) ?hia16_39 (by kernel_rfl) (by kernel_rfl) (by kernel_rfl) ?hQa16_39 ?hya16_39 (by assumption) ?resta16_39
        case hia16_39 => (simp only [List.getElem?_toArray, List.getElem?_cons_succ, List.getElem?_cons_zero]; rfl)
        case hQa16_39 => exact fun _ _ _ h => h
        case hya16_39 => (refine Or.inl ⟨by rfl, ?_⟩; intro w hSw; (try dsimp only at hSw); go_simp; try with_reducible rfl)
        try simp only [Act.put, List.setIfInBounds_toArray, List.set_cons_zero, List.set_cons_succ]
        refine wpAnyH_take (i := 17) (oi := ?oia17_40) (v := ?vva17_40) ?hia17_40 (by kernel_rfl) (by kernel_rfl) (by kernel_rfl) ?hQa17_40 ?hya17_40 (by assumption) ?resta17_40
        case hia17_40 => (simp only [List.getElem?_toArray, List.getElem?_cons_succ, List.getElem?_cons_zero]; rfl)
        case hQa17_40 => exact fun _ _ _ h => h
        case hya17_40 => (refine Or.inl ⟨by rfl, ?_⟩; intro w hSw; (try dsimp only at hSw); go_simp; try with_reducible rfl)
        try simp only [Act.put, List.setIfInBounds_toArray, List.set_cons_zero, List.set_cons_succ]
        refine wpAnyH_take (i := 20) (oi := ?oia20_41) (v := ?vva20_41) ?hia20_41 (by kernel_rfl) (by kernel_rfl) (by kernel_rfl) ?hQa20_41 ?hya20_41 (by assumption) ?resta20_41
        case hia20_41 => (simp only [List.getElem?_toArray, List.getElem?_cons_succ, List.getElem?_cons_zero]; rfl)
        case hQa20_41 => exact fun _ _ _ h => h
        case hya20_41 => (refine Or.inl ⟨by rfl, ?_⟩; intro w hSw; (try dsimp only at hSw); go_simp; try with_reducible rfl)
        try simp only [Act.put, List.setIfInBounds_toArray, List.set_cons_zero, List.set_cons_succ]
        refine wpAnyH_take (i := 21) (oi := ?oia21_42) (v := ?vva21_42) ?hia21_42 (by kernel_rfl) (by kernel_rfl) (by kernel_rfl) ?hQa21_42 ?hya21_42 (by assumption) ?resta21_42
        case hia21_42 => (simp only [List.getElem?_toArray, List.getElem?_cons_succ, List.getElem?_cons_zero]; rfl)
        case hQa21_42 => exact fun _ _ _ h => h
        case hya21_42 => (refine Or.inl ⟨by rfl, ?_⟩; intro w hSw; (try dsimp only at hSw); go_simp; try with_reducible rfl)
        try simp only [Act.put, List.setIfInBounds_toArray, List.set_cons_zero, List.set_cons_succ]
        refine wpAnyH_ready (rs := [11]) (by kernel_rfl) (by simp) ?_
        refine AllReadyH.cons (o := ?oa11_43) ?hoa11_43 (fun Kz hK => ?sta11_43) AllReadyH.nil
        case hoa11_43 => (simp only [List.getElem?_toArray, List.getElem?_cons_succ, List.getElem?_cons_zero]; rfl)
        go_simp
        refine HA1.out.mono ?_
        rintro x5 w5 ⟨rfl, rfl⟩
        go_simp
        refine hK.out _ _ ⟨d0, b1⟩ (fun hHeld => ?_)
        clear hK Kz
        try simp only [Act.put, List.setIfInBounds_toArray, List.set_cons_zero, List.set_cons_succ]
        refine wpAnyH_ready (rs := [18]) (by kernel_rfl) (by simp) ?_
        refine AllReadyH.cons (o := ?ob18_44) ?hob18_44 (fun Kz hK => ?stb18_44) AllReadyH.nil
        case hob18_44 => (simp only [List.getElem?_toArray, List.getElem?_cons_succ, List.getElem?_cons_zero]; rfl)
        go_simp
        refine HA2.out.mono ?_
        rintro x5 w5 ⟨rfl, rfl⟩
        go_simp
        refine hK.out _ _ ⟨d0, b1⟩ (fun hHeld => ?_)
        clear hK Kz
        try simp only [Act.put, List.setIfInBounds_toArray, List.set_cons_zero, List.set_cons_succ]
        refine wpAnyH_ready (rs := [19]) (by kernel_rfl) (by simp) ?_
        refine AllReadyH.cons (o := ?oe19_45) ?hoe19_45 (fun Kz hK => ?ste19_45) AllReadyH.nil
        case hoe19_45 => (simp only [List.getElem?_toArray, List.getElem?_cons_succ, List.getElem?_cons_zero]; rfl)
        go_simp
        refine HFW.out.mono ?_
        rintro x6 w6 ⟨rfl, rfl⟩
        go_simp
        refine hK.out _ _ ⟨d0, b1⟩ (fun hHeld => ?_)
        clear hK Kz
        try simp only [Act.put, List.setIfInBounds_toArray, List.set_cons_zero, List.set_cons_succ]
        refine wpAnyH_ready (rs := [22]) (by kernel_rfl) (by simp) ?_
        refine AllReadyH.cons (o := ?oe22_46) ?hoe22_46 (fun Kz hK => ?ste22_46) AllReadyH.nil
        case hoe22_46 => (simp only [List.getElem?_toArray, List.getElem?_cons_succ, List.getElem?_cons_zero]; rfl)
        go_simp
        refine HSA.out.mono ?_
        rintro x7 w7 ⟨rfl, hm, hk⟩
        have hT7 := HG3.out.at_.turnK (s := allQ) hm hk
        have hbx7 := hT7.box HBX3.out HNB3.out
        obtain ⟨K7, G7⟩ := hT7
        have d7 := G7.at_.cells.1
        rw [G7.cp, G7.p, HCP3.out.1, HCP3.out.2] at d7
        have HR := Lib.hid (show UnitTo allQ w K (write c x v) (.returned (.tuple #[])) w7 from ⟨rfl, by rw [HE.out]; exact HTO.out _ _ ⟨K7, G7⟩⟩)
        clear hm hk G7
        go_simp
        refine hK.out _ _ ⟨d7, hbx7.cell 1⟩ (fun hHeld => ?_)
        clear hK Kz
        try simp only [Act.put, List.setIfInBounds_toArray, List.set_cons_zero, List.set_cons_succ]
        refine wpAnyH_done (by kernel_rfl) ?_ _
        refine NoPanic.normal ?_
        go_wp2_with fail
        first | go_end0 | refine bodyPost_ret (results_none rfl _ _ _) rfl ?_
        exact HR.out
      · have e3 : (c.mode != 1) = true := by simp [m1]
        have HE := Lib.hid (show write c x v = c by unfold write; rw [if_pos (.inr (.inr ⟨p1, m1⟩))])
        clear H1 hf k1 p1 m1
        go_wp2_with fail
        first | go_end0 | refine bodyPost_ret (results_none rfl _ _ _) rfl ?_
        exact ⟨rfl, by rw [HE.out]; exact CTo.below HH.out HB1.out⟩
  · have e1 : (co != 3) = true := by simp [k1]
    have HE := Lib.hid (show write c x v = c by unfold write; rw [if_pos (.inl (by rw [← HC.out]; exact k1))])
    clear k1
    go_enter Tryz.func61, Tryz.ntmps61
    go_wp2_with fail
    refine (HT.out).mono ?_
    rintro x1 w1 ⟨rfl, hww⟩
    have hww' := hww.symm
    subst hww'
    clear hww
    go_wp2_with fail
    refine (HCO.out).mono ?_
    rintro x2 w2 ⟨rfl, hww⟩
    have hww' := hww.symm
    subst hww'
    clear hww
    go_wp2_with fail
    first | go_end0 | refine bodyPost_ret (results_none rfl _ _ _) rfl ?_
    exact ⟨rfl, by rw [HE.out]; exact CTo.below HH.out HB.out⟩
end Go.Proofs.YtminbemdcanakaaGreat
