/- The collector's small ones. -/
import Derived.Test.YtminbemdcanakaaGreatQColEnd
namespace Go.Proofs.YtminbemdcanakaaGreat
open Go.RowKit Go.Shelf
set_option linter.unusedVariables false
set_option linter.unusedSimpArgs false
attribute [local go_sem] Oper.semAt_some meth_order meth_thing meth_kind meth_cells meth_colour meth_age meth_setColour meth_setAge meth_setFin meth_clear meth_drop meth_roots

variable {w : World} {K : CL} {c : Cs}
set_option maxHeartbeats 1000000 in
theorem there_any (h : CAt w K c) : Calls Tryz.prog 87 #[.pointer (some ⟨K.cp, 0, none⟩)] w fun x w' => x = .returned (.bool true) ∧ w' = w := by
  have c0 := h.cells.1
  clear h
  go_enter Tryz.func87, Tryz.ntmps87
  go_wp2_with fail
  go_ret
  exact ⟨rfl, rfl⟩
set_option maxHeartbeats 1000000 in
theorem there_nil : Calls Tryz.prog 87 #[.pointer none] w fun x w' => x = .returned (.bool false) ∧ w' = w := by
  go_enter Tryz.func87, Tryz.ntmps87
  go_wp2_with fail
  go_ret
  exact ⟨rfl, rfl⟩
set_option maxHeartbeats 1000000 in
theorem other_same (h : CAt w K c) (hw : W01 c) : Calls Tryz.prog 96 #[.pointer (some ⟨K.cp, 0, none⟩)] w fun x w' => x = .returned (.int .i64 (other c)) ∧ w' = w := by
  have c3 := h.cells.2.2.2.1
  have q1 : IntKind.i64.wrap (1 - c.white) = 1 - c.white := IntWalk.i64_in _ (by unfold W01 at hw; omega)
  clear h hw
  go_enter Tryz.func96, Tryz.ntmps96
  go_wp2_with fail
  go_ret
  exact ⟨rfl, rfl⟩
set_option maxHeartbeats 1000000 in
theorem cset_any (h : CAt w K c) (hs : c.m.obs.length ≤ 100000) (x col age : Int) : Calls Tryz.prog 90 #[.pointer (some ⟨K.cp, 0, none⟩), .int .i64 x, .int .i64 col, .int .i64 age] w fun e w' => UnitTo noQ w K (setCA c x col age) e w' := by
  have c0 := h.cells.1
  have HH := Lib.hid h
  have HS := Lib.hid hs
  have HC := Lib.hid (setColour_any h.mem hs x col)
  clear h hs
  go_enter Tryz.func90, Tryz.ntmps90
  go_wp2_with fail
  refine HC.out.mono ?_
  rintro x2 w2 ⟨rfl, hm, hk⟩
  obtain ⟨K2, G⟩ := HH.out.turnK (s := noQ) hm hk
  have d0 := G.at_.cells.1
  rw [G.cp, G.p] at d0
  have HA := Lib.hid (setAge_any G.at_.mem (by show (c.m.setCol x col).obs.length ≤ _; rw [(lk_setCol _ _ _).len]; exact HS.out) x age)
  rw [G.p] at HA
  have HG := Lib.hid G
  clear hm hk G
  go_wp2_with fail
  refine HA.out.mono ?_
  rintro x3 w3 ⟨rfl, hm, hk⟩
  have HR := Lib.hid (show UnitTo noQ w K (setCA c x col age) (.returned (.tuple #[])) w3 from ⟨rfl, HG.out.to (HG.out.at_.turnK hm hk)⟩)
  clear hm hk
  go_wp2_with fail
  first | go_end0 | refine bodyPost_ret (results_none rfl _ _ _) rfl ?_
  exact HR.out
theorem setCA_lk (c : Cs) (x col age : Int) : Lk c.m (setCA c x col age).m := (lk_setCol _ _ _).trans (lk_setAge _ _ _)

/-! ### all -/
/-- Closure number id, over the collector's box bc, does f; P of a number: what then holds. -/
def DoC (id : FuncId) (bc : Nat) (P : Nat → Cs → Prop) (f : Cs → Int → Cs) : Prop := ∀ (i : Nat) (c : Cs) (W : World) (K1 : CL) (h : Int), i < 100000 →
  CAt W K1 c → P i c → ¬ K1.own bc → Box W bc [.pointer (some ⟨K1.cp, 0, none⟩)] 59 → Calls Tryz.prog id #[.int .i64 h, .pointer (some ⟨bc, 0, none⟩)] W fun x w' => UnitTo allQ W K1 (f c h) x w'
set_option maxRecDepth 100000 in
set_option maxHeartbeats 4000000 in
theorem all_major1 {bc : Nat} {P : Nat → Cs → Prop} {f : Cs → Int → Cs} (hf : ∀ i c x, P i c → P (i + 1) (f c x)) (hdo : DoC 91 bc P f) (h : CAt w K c) (hP : P 0 c) (hs : c.m.obs.length ≤ 100000) (hbc : Box w bc [.pointer (some ⟨K.cp, 0, none⟩)] 59) (hn : ¬ K.own bc) :
    Calls Tryz.prog 88 #[.pointer (some ⟨K.cp, 0, none⟩), .func (.func 91) #[] #[.pointer (some ⟨bc, 0, none⟩)]] w fun x w' => UnitTo allQ w K (allC f c) x w' := by
  have HO := Lib.hid (order_any h.mem hs)
  obtain ⟨ord, hord⟩ : ∃ ord, ord = c.m.order := ⟨_, rfl⟩
  rw [← hord] at HO
  have holen : ord.length ≤ 100000 := by rw [hord]; exact Nat.le_trans (orderF_length _ _) hs
  have c0 := h.cells.1
  have HH := Lib.hid h
  have HBC := Lib.hid hbc
  have HN := Lib.hid hn
  have HDO := Lib.hid hdo
  have HF := Lib.hid hf
  have HP := Lib.hid hP
  have HE := Lib.hid (show allC f c = ord.foldl f c by rw [hord]; rfl)
  clear h hbc hn hdo hf hP hs hord
  go_enter Tryz.func88, Tryz.ntmps88
  go_wp2_with fail
  refine HO.out.mono ?_
  rintro x1 w1 ⟨ov, rfl, hov, hb1⟩
  obtain ⟨oa, oc, rfl⟩ := row_slice hov
  have HB1 := Lib.hid hb1
  have HOV := Lib.hid hov
  have HH1 := Lib.hid (HH.out.below hb1)
  clear hov hb1 c0
  go_wp2_with fail
  go_loopw [12] (fun t12 wr => ∃ (i : Nat) (Ki : CL), i ≤ ord.length ∧ t12 = .int .i64 i ∧ CGo allQ w1 K wr Ki ((ord.take i).foldl f c) ∧ P i ((ord.take i).foldl f c)) (fun t12 _ => ord.length - (intOf t12).toNat)
  case atStart => exact ⟨0, K, Nat.zero_le _, by go_num, CGo.self HH1.out, HP.out⟩
  case round =>
    obtain ⟨i, Ki, hi, rfl, G, hPi⟩ := hrel
    by_cases hlt : i < ord.length
    · obtain ⟨x, hx⟩ : ∃ x, ord[i]? = some x := ⟨ord[i], List.getElem?_eq_getElem _⟩
      have hovr := ownsRow_of_block HOV.out fun k hk => G.keepAll.block k (HOV.out.lt k hk).2 fun ho => by
        have := (HOV.out.lt k hk).1
        have := HH.out.own_lt ho
        omega
      obtain ⟨g, c2, ha2, hcell⟩ := row_at hovr (by omega)
      simp only [Value.slice.injEq] at ha2
      obtain ⟨rfl, -, rfl⟩ := ha2
      have y0 := hcell _ _ (intL_get hx)
      have hbl := HBC.out.lt
      have hni : ¬ Ki.own bc := fun ho => by
        rcases G.ownAll ho with y | y
        · exact HN.out y
        · have := HB1.out.size; omega
      have hbx := G.keepAll.box (HBC.out.below HB1.out hbl) HN.out
      rw [← G.cp] at hbx
      have HD := Lib.hid (HDO.out i _ wr Ki x (by omega) G.at_ hPi hni hbx)
      have hts : (ord.take (i + 1)).foldl f c = f ((ord.take i).foldl f c) x := by rw [List.take_add_one, hx, List.foldl_append]; rfl
      have HTS := Lib.hid hts
      have HP2 := Lib.hid (show P (i + 1) ((ord.take (i + 1)).foldl f c) from by rw [hts]; exact HF.out _ _ _ hPi)
      have HG := Lib.hid G
      clear hx hovr hcell hts hbl hni hbx G hPi
      go_wp2_with fail
      refine HD.out.mono ?_
      rintro x5 w5 ⟨rfl, hT5⟩
      obtain ⟨K5, G5⟩ := HG.out.to hT5
      have HG5 := Lib.hid (show CGo allQ w1 K w5 K5 ((ord.take (i + 1)).foldl f c) from by rw [HTS.out]; exact G5)
      clear hT5 G5
      go_wp2_with fail
      go_roundw
      case rel => exact ⟨i + 1, K5, by omega, by go_num, HG5.out, HP2.out⟩
      case measure => simp [intOf]; omega
    · obtain rfl : i = ord.length := by omega
      have HR := Lib.hid (show UnitTo allQ w K (allC f c) (.returned (.tuple #[])) wr from ⟨rfl, by rw [HE.out]; rw [List.take_length] at G; exact CTo.ahead HB1.out HH.out ⟨Ki, G⟩⟩)
      clear G hPi
      go_wp2_with fail
      first | go_end0 | refine bodyPost_ret (results_none rfl _ _ _) rfl ?_
      exact HR.out
set_option maxRecDepth 100000 in
set_option maxHeartbeats 4000000 in
theorem all_major2 {bc : Nat} {P : Nat → Cs → Prop} {f : Cs → Int → Cs} (hf : ∀ i c x, P i c → P (i + 1) (f c x)) (hdo : DoC 95 bc P f) (h : CAt w K c) (hP : P 0 c) (hs : c.m.obs.length ≤ 100000) (hbc : Box w bc [.pointer (some ⟨K.cp, 0, none⟩)] 59) (hn : ¬ K.own bc) :
    Calls Tryz.prog 88 #[.pointer (some ⟨K.cp, 0, none⟩), .func (.func 95) #[] #[.pointer (some ⟨bc, 0, none⟩)]] w fun x w' => UnitTo allQ w K (allC f c) x w' := by
  have HO := Lib.hid (order_any h.mem hs)
  obtain ⟨ord, hord⟩ : ∃ ord, ord = c.m.order := ⟨_, rfl⟩
  rw [← hord] at HO
  have holen : ord.length ≤ 100000 := by rw [hord]; exact Nat.le_trans (orderF_length _ _) hs
  have c0 := h.cells.1
  have HH := Lib.hid h
  have HBC := Lib.hid hbc
  have HN := Lib.hid hn
  have HDO := Lib.hid hdo
  have HF := Lib.hid hf
  have HP := Lib.hid hP
  have HE := Lib.hid (show allC f c = ord.foldl f c by rw [hord]; rfl)
  clear h hbc hn hdo hf hP hs hord
  go_enter Tryz.func88, Tryz.ntmps88
  go_wp2_with fail
  refine HO.out.mono ?_
  rintro x1 w1 ⟨ov, rfl, hov, hb1⟩
  obtain ⟨oa, oc, rfl⟩ := row_slice hov
  have HB1 := Lib.hid hb1
  have HOV := Lib.hid hov
  have HH1 := Lib.hid (HH.out.below hb1)
  clear hov hb1 c0
  go_wp2_with fail
  go_loopw [12] (fun t12 wr => ∃ (i : Nat) (Ki : CL), i ≤ ord.length ∧ t12 = .int .i64 i ∧ CGo allQ w1 K wr Ki ((ord.take i).foldl f c) ∧ P i ((ord.take i).foldl f c)) (fun t12 _ => ord.length - (intOf t12).toNat)
  case atStart => exact ⟨0, K, Nat.zero_le _, by go_num, CGo.self HH1.out, HP.out⟩
  case round =>
    obtain ⟨i, Ki, hi, rfl, G, hPi⟩ := hrel
    by_cases hlt : i < ord.length
    · obtain ⟨x, hx⟩ : ∃ x, ord[i]? = some x := ⟨ord[i], List.getElem?_eq_getElem _⟩
      have hovr := ownsRow_of_block HOV.out fun k hk => G.keepAll.block k (HOV.out.lt k hk).2 fun ho => by
        have := (HOV.out.lt k hk).1
        have := HH.out.own_lt ho
        omega
      obtain ⟨g, c2, ha2, hcell⟩ := row_at hovr (by omega)
      simp only [Value.slice.injEq] at ha2
      obtain ⟨rfl, -, rfl⟩ := ha2
      have y0 := hcell _ _ (intL_get hx)
      have hbl := HBC.out.lt
      have hni : ¬ Ki.own bc := fun ho => by
        rcases G.ownAll ho with y | y
        · exact HN.out y
        · have := HB1.out.size; omega
      have hbx := G.keepAll.box (HBC.out.below HB1.out hbl) HN.out
      rw [← G.cp] at hbx
      have HD := Lib.hid (HDO.out i _ wr Ki x (by omega) G.at_ hPi hni hbx)
      have hts : (ord.take (i + 1)).foldl f c = f ((ord.take i).foldl f c) x := by rw [List.take_add_one, hx, List.foldl_append]; rfl
      have HTS := Lib.hid hts
      have HP2 := Lib.hid (show P (i + 1) ((ord.take (i + 1)).foldl f c) from by rw [hts]; exact HF.out _ _ _ hPi)
      have HG := Lib.hid G
      clear hx hovr hcell hts hbl hni hbx G hPi
      go_wp2_with fail
      refine HD.out.mono ?_
      rintro x5 w5 ⟨rfl, hT5⟩
      obtain ⟨K5, G5⟩ := HG.out.to hT5
      have HG5 := Lib.hid (show CGo allQ w1 K w5 K5 ((ord.take (i + 1)).foldl f c) from by rw [HTS.out]; exact G5)
      clear hT5 G5
      go_wp2_with fail
      go_roundw
      case rel => exact ⟨i + 1, K5, by omega, by go_num, HG5.out, HP2.out⟩
      case measure => simp [intOf]; omega
    · obtain rfl : i = ord.length := by omega
      have HR := Lib.hid (show UnitTo allQ w K (allC f c) (.returned (.tuple #[])) wr from ⟨rfl, by rw [HE.out]; rw [List.take_length] at G; exact CTo.ahead HB1.out HH.out ⟨Ki, G⟩⟩)
      clear G hPi
      go_wp2_with fail
      first | go_end0 | refine bodyPost_ret (results_none rfl _ _ _) rfl ?_
      exact HR.out
set_option maxRecDepth 100000 in
set_option maxHeartbeats 4000000 in
theorem all_young1 {bc : Nat} {P : Nat → Cs → Prop} {f : Cs → Int → Cs} (hf : ∀ i c x, P i c → P (i + 1) (f c x)) (hdo : DoC 109 bc P f) (h : CAt w K c) (hP : P 0 c) (hs : c.m.obs.length ≤ 100000) (hbc : Box w bc [.pointer (some ⟨K.cp, 0, none⟩)] 59) (hn : ¬ K.own bc) :
    Calls Tryz.prog 88 #[.pointer (some ⟨K.cp, 0, none⟩), .func (.func 109) #[] #[.pointer (some ⟨bc, 0, none⟩)]] w fun x w' => UnitTo allQ w K (allC f c) x w' := by
  have HO := Lib.hid (order_any h.mem hs)
  obtain ⟨ord, hord⟩ : ∃ ord, ord = c.m.order := ⟨_, rfl⟩
  rw [← hord] at HO
  have holen : ord.length ≤ 100000 := by rw [hord]; exact Nat.le_trans (orderF_length _ _) hs
  have c0 := h.cells.1
  have HH := Lib.hid h
  have HBC := Lib.hid hbc
  have HN := Lib.hid hn
  have HDO := Lib.hid hdo
  have HF := Lib.hid hf
  have HP := Lib.hid hP
  have HE := Lib.hid (show allC f c = ord.foldl f c by rw [hord]; rfl)
  clear h hbc hn hdo hf hP hs hord
  go_enter Tryz.func88, Tryz.ntmps88
  go_wp2_with fail
  refine HO.out.mono ?_
  rintro x1 w1 ⟨ov, rfl, hov, hb1⟩
  obtain ⟨oa, oc, rfl⟩ := row_slice hov
  have HB1 := Lib.hid hb1
  have HOV := Lib.hid hov
  have HH1 := Lib.hid (HH.out.below hb1)
  clear hov hb1 c0
  go_wp2_with fail
  go_loopw [12] (fun t12 wr => ∃ (i : Nat) (Ki : CL), i ≤ ord.length ∧ t12 = .int .i64 i ∧ CGo allQ w1 K wr Ki ((ord.take i).foldl f c) ∧ P i ((ord.take i).foldl f c)) (fun t12 _ => ord.length - (intOf t12).toNat)
  case atStart => exact ⟨0, K, Nat.zero_le _, by go_num, CGo.self HH1.out, HP.out⟩
  case round =>
    obtain ⟨i, Ki, hi, rfl, G, hPi⟩ := hrel
    by_cases hlt : i < ord.length
    · obtain ⟨x, hx⟩ : ∃ x, ord[i]? = some x := ⟨ord[i], List.getElem?_eq_getElem _⟩
      have hovr := ownsRow_of_block HOV.out fun k hk => G.keepAll.block k (HOV.out.lt k hk).2 fun ho => by
        have := (HOV.out.lt k hk).1
        have := HH.out.own_lt ho
        omega
      obtain ⟨g, c2, ha2, hcell⟩ := row_at hovr (by omega)
      simp only [Value.slice.injEq] at ha2
      obtain ⟨rfl, -, rfl⟩ := ha2
      have y0 := hcell _ _ (intL_get hx)
      have hbl := HBC.out.lt
      have hni : ¬ Ki.own bc := fun ho => by
        rcases G.ownAll ho with y | y
        · exact HN.out y
        · have := HB1.out.size; omega
      have hbx := G.keepAll.box (HBC.out.below HB1.out hbl) HN.out
      rw [← G.cp] at hbx
      have HD := Lib.hid (HDO.out i _ wr Ki x (by omega) G.at_ hPi hni hbx)
      have hts : (ord.take (i + 1)).foldl f c = f ((ord.take i).foldl f c) x := by rw [List.take_add_one, hx, List.foldl_append]; rfl
      have HTS := Lib.hid hts
      have HP2 := Lib.hid (show P (i + 1) ((ord.take (i + 1)).foldl f c) from by rw [hts]; exact HF.out _ _ _ hPi)
      have HG := Lib.hid G
      clear hx hovr hcell hts hbl hni hbx G hPi
      go_wp2_with fail
      refine HD.out.mono ?_
      rintro x5 w5 ⟨rfl, hT5⟩
      obtain ⟨K5, G5⟩ := HG.out.to hT5
      have HG5 := Lib.hid (show CGo allQ w1 K w5 K5 ((ord.take (i + 1)).foldl f c) from by rw [HTS.out]; exact G5)
      clear hT5 G5
      go_wp2_with fail
      go_roundw
      case rel => exact ⟨i + 1, K5, by omega, by go_num, HG5.out, HP2.out⟩
      case measure => simp [intOf]; omega
    · obtain rfl : i = ord.length := by omega
      have HR := Lib.hid (show UnitTo allQ w K (allC f c) (.returned (.tuple #[])) wr from ⟨rfl, by rw [HE.out]; rw [List.take_length] at G; exact CTo.ahead HB1.out HH.out ⟨Ki, G⟩⟩)
      clear G hPi
      go_wp2_with fail
      first | go_end0 | refine bodyPost_ret (results_none rfl _ _ _) rfl ?_
      exact HR.out
set_option maxRecDepth 100000 in
set_option maxHeartbeats 4000000 in
theorem all_young2 {bc : Nat} {P : Nat → Cs → Prop} {f : Cs → Int → Cs} (hf : ∀ i c x, P i c → P (i + 1) (f c x)) (hdo : DoC 110 bc P f) (h : CAt w K c) (hP : P 0 c) (hs : c.m.obs.length ≤ 100000) (hbc : Box w bc [.pointer (some ⟨K.cp, 0, none⟩)] 59) (hn : ¬ K.own bc) :
    Calls Tryz.prog 88 #[.pointer (some ⟨K.cp, 0, none⟩), .func (.func 110) #[] #[.pointer (some ⟨bc, 0, none⟩)]] w fun x w' => UnitTo allQ w K (allC f c) x w' := by
  have HO := Lib.hid (order_any h.mem hs)
  obtain ⟨ord, hord⟩ : ∃ ord, ord = c.m.order := ⟨_, rfl⟩
  rw [← hord] at HO
  have holen : ord.length ≤ 100000 := by rw [hord]; exact Nat.le_trans (orderF_length _ _) hs
  have c0 := h.cells.1
  have HH := Lib.hid h
  have HBC := Lib.hid hbc
  have HN := Lib.hid hn
  have HDO := Lib.hid hdo
  have HF := Lib.hid hf
  have HP := Lib.hid hP
  have HE := Lib.hid (show allC f c = ord.foldl f c by rw [hord]; rfl)
  clear h hbc hn hdo hf hP hs hord
  go_enter Tryz.func88, Tryz.ntmps88
  go_wp2_with fail
  refine HO.out.mono ?_
  rintro x1 w1 ⟨ov, rfl, hov, hb1⟩
  obtain ⟨oa, oc, rfl⟩ := row_slice hov
  have HB1 := Lib.hid hb1
  have HOV := Lib.hid hov
  have HH1 := Lib.hid (HH.out.below hb1)
  clear hov hb1 c0
  go_wp2_with fail
  go_loopw [12] (fun t12 wr => ∃ (i : Nat) (Ki : CL), i ≤ ord.length ∧ t12 = .int .i64 i ∧ CGo allQ w1 K wr Ki ((ord.take i).foldl f c) ∧ P i ((ord.take i).foldl f c)) (fun t12 _ => ord.length - (intOf t12).toNat)
  case atStart => exact ⟨0, K, Nat.zero_le _, by go_num, CGo.self HH1.out, HP.out⟩
  case round =>
    obtain ⟨i, Ki, hi, rfl, G, hPi⟩ := hrel
    by_cases hlt : i < ord.length
    · obtain ⟨x, hx⟩ : ∃ x, ord[i]? = some x := ⟨ord[i], List.getElem?_eq_getElem _⟩
      have hovr := ownsRow_of_block HOV.out fun k hk => G.keepAll.block k (HOV.out.lt k hk).2 fun ho => by
        have := (HOV.out.lt k hk).1
        have := HH.out.own_lt ho
        omega
      obtain ⟨g, c2, ha2, hcell⟩ := row_at hovr (by omega)
      simp only [Value.slice.injEq] at ha2
      obtain ⟨rfl, -, rfl⟩ := ha2
      have y0 := hcell _ _ (intL_get hx)
      have hbl := HBC.out.lt
      have hni : ¬ Ki.own bc := fun ho => by
        rcases G.ownAll ho with y | y
        · exact HN.out y
        · have := HB1.out.size; omega
      have hbx := G.keepAll.box (HBC.out.below HB1.out hbl) HN.out
      rw [← G.cp] at hbx
      have HD := Lib.hid (HDO.out i _ wr Ki x (by omega) G.at_ hPi hni hbx)
      have hts : (ord.take (i + 1)).foldl f c = f ((ord.take i).foldl f c) x := by rw [List.take_add_one, hx, List.foldl_append]; rfl
      have HTS := Lib.hid hts
      have HP2 := Lib.hid (show P (i + 1) ((ord.take (i + 1)).foldl f c) from by rw [hts]; exact HF.out _ _ _ hPi)
      have HG := Lib.hid G
      clear hx hovr hcell hts hbl hni hbx G hPi
      go_wp2_with fail
      refine HD.out.mono ?_
      rintro x5 w5 ⟨rfl, hT5⟩
      obtain ⟨K5, G5⟩ := HG.out.to hT5
      have HG5 := Lib.hid (show CGo allQ w1 K w5 K5 ((ord.take (i + 1)).foldl f c) from by rw [HTS.out]; exact G5)
      clear hT5 G5
      go_wp2_with fail
      go_roundw
      case rel => exact ⟨i + 1, K5, by omega, by go_num, HG5.out, HP2.out⟩
      case measure => simp [intOf]; omega
    · obtain rfl : i = ord.length := by omega
      have HR := Lib.hid (show UnitTo allQ w K (allC f c) (.returned (.tuple #[])) wr from ⟨rfl, by rw [HE.out]; rw [List.take_length] at G; exact CTo.ahead HB1.out HH.out ⟨Ki, G⟩⟩)
      clear G hPi
      go_wp2_with fail
      first | go_end0 | refine bodyPost_ret (results_none rfl _ _ _) rfl ?_
      exact HR.out
set_option maxRecDepth 100000 in
set_option maxHeartbeats 4000000 in
theorem all_mode1 {bc : Nat} {P : Nat → Cs → Prop} {f : Cs → Int → Cs} (hf : ∀ i c x, P i c → P (i + 1) (f c x)) (hdo : DoC 89 bc P f) (h : CAt w K c) (hP : P 0 c) (hs : c.m.obs.length ≤ 100000) (hbc : Box w bc [.pointer (some ⟨K.cp, 0, none⟩)] 59) (hn : ¬ K.own bc) :
    Calls Tryz.prog 88 #[.pointer (some ⟨K.cp, 0, none⟩), .func (.func 89) #[] #[.pointer (some ⟨bc, 0, none⟩)]] w fun x w' => UnitTo allQ w K (allC f c) x w' := by
  have HO := Lib.hid (order_any h.mem hs)
  obtain ⟨ord, hord⟩ : ∃ ord, ord = c.m.order := ⟨_, rfl⟩
  rw [← hord] at HO
  have holen : ord.length ≤ 100000 := by rw [hord]; exact Nat.le_trans (orderF_length _ _) hs
  have c0 := h.cells.1
  have HH := Lib.hid h
  have HBC := Lib.hid hbc
  have HN := Lib.hid hn
  have HDO := Lib.hid hdo
  have HF := Lib.hid hf
  have HP := Lib.hid hP
  have HE := Lib.hid (show allC f c = ord.foldl f c by rw [hord]; rfl)
  clear h hbc hn hdo hf hP hs hord
  go_enter Tryz.func88, Tryz.ntmps88
  go_wp2_with fail
  refine HO.out.mono ?_
  rintro x1 w1 ⟨ov, rfl, hov, hb1⟩
  obtain ⟨oa, oc, rfl⟩ := row_slice hov
  have HB1 := Lib.hid hb1
  have HOV := Lib.hid hov
  have HH1 := Lib.hid (HH.out.below hb1)
  clear hov hb1 c0
  go_wp2_with fail
  go_loopw [12] (fun t12 wr => ∃ (i : Nat) (Ki : CL), i ≤ ord.length ∧ t12 = .int .i64 i ∧ CGo allQ w1 K wr Ki ((ord.take i).foldl f c) ∧ P i ((ord.take i).foldl f c)) (fun t12 _ => ord.length - (intOf t12).toNat)
  case atStart => exact ⟨0, K, Nat.zero_le _, by go_num, CGo.self HH1.out, HP.out⟩
  case round =>
    obtain ⟨i, Ki, hi, rfl, G, hPi⟩ := hrel
    by_cases hlt : i < ord.length
    · obtain ⟨x, hx⟩ : ∃ x, ord[i]? = some x := ⟨ord[i], List.getElem?_eq_getElem _⟩
      have hovr := ownsRow_of_block HOV.out fun k hk => G.keepAll.block k (HOV.out.lt k hk).2 fun ho => by
        have := (HOV.out.lt k hk).1
        have := HH.out.own_lt ho
        omega
      obtain ⟨g, c2, ha2, hcell⟩ := row_at hovr (by omega)
      simp only [Value.slice.injEq] at ha2
      obtain ⟨rfl, -, rfl⟩ := ha2
      have y0 := hcell _ _ (intL_get hx)
      have hbl := HBC.out.lt
      have hni : ¬ Ki.own bc := fun ho => by
        rcases G.ownAll ho with y | y
        · exact HN.out y
        · have := HB1.out.size; omega
      have hbx := G.keepAll.box (HBC.out.below HB1.out hbl) HN.out
      rw [← G.cp] at hbx
      have HD := Lib.hid (HDO.out i _ wr Ki x (by omega) G.at_ hPi hni hbx)
      have hts : (ord.take (i + 1)).foldl f c = f ((ord.take i).foldl f c) x := by rw [List.take_add_one, hx, List.foldl_append]; rfl
      have HTS := Lib.hid hts
      have HP2 := Lib.hid (show P (i + 1) ((ord.take (i + 1)).foldl f c) from by rw [hts]; exact HF.out _ _ _ hPi)
      have HG := Lib.hid G
      clear hx hovr hcell hts hbl hni hbx G hPi
      go_wp2_with fail
      refine HD.out.mono ?_
      rintro x5 w5 ⟨rfl, hT5⟩
      obtain ⟨K5, G5⟩ := HG.out.to hT5
      have HG5 := Lib.hid (show CGo allQ w1 K w5 K5 ((ord.take (i + 1)).foldl f c) from by rw [HTS.out]; exact G5)
      clear hT5 G5
      go_wp2_with fail
      go_roundw
      case rel => exact ⟨i + 1, K5, by omega, by go_num, HG5.out, HP2.out⟩
      case measure => simp [intOf]; omega
    · obtain rfl : i = ord.length := by omega
      have HR := Lib.hid (show UnitTo allQ w K (allC f c) (.returned (.tuple #[])) wr from ⟨rfl, by rw [HE.out]; rw [List.take_length] at G; exact CTo.ahead HB1.out HH.out ⟨Ki, G⟩⟩)
      clear G hPi
      go_wp2_with fail
      first | go_end0 | refine bodyPost_ret (results_none rfl _ _ _) rfl ?_
      exact HR.out

/-! ### each anew -/
def newC (c : Cs) (h : Int) : Cs := setCA c h c.white 0
set_option maxRecDepth 100000 in
set_option maxHeartbeats 2000000 in
theorem newC_major1 {bc : Nat} {x : Int} (h : CAt w K c) (hs : c.m.obs.length ≤ 100000) (hn : ¬ K.own bc) (hbc : Box w bc [.pointer (some ⟨K.cp, 0, none⟩)] 59) : Calls Tryz.prog 91 #[.int .i64 x, .pointer (some ⟨bc, 0, none⟩)] w fun e w' => UnitTo allQ w K (newC c x) e w' := by
  have HS := Lib.hid (cset_any h hs x c.white 0)
  have HC := Lib.hid h.cells.2.2.2.1
  have HB := Lib.hid hbc
  have HN := Lib.hid hn
  have b0 := hbc.cell 0
  have c3 := h.cells.2.2.2.1
  simp only [List.getElem?_cons_zero] at b0
  have HCS := Lib.hid (fun (W : World) (hb : Below w.heap.size w W) => cset_any (h.below hb) hs x c.white 0)
  have HH := Lib.hid h
  clear h hs hbc hn
  go_enter Tryz.func91, Tryz.ntmps91
  go_wp2_with fail
  refine wp_region_noPanic ?_
  refine wp_region_held_drew (S := (fun W => W.cell? ⟨bc, 0, none⟩ = some (.pointer (some ⟨K.cp, 0, none⟩)) ∧ W.cell? ⟨K.cp, 3, none⟩ = some (.int .i64 c.white))) (by kernel_rfl) ?_ (fun hHeld => ?_)
  · exact ⟨b0, c3⟩
  refine wpAnyH_take (i := 0) (oi := ?oia0) (v := ?vva0) ?hia0 (by kernel_rfl) (by kernel_rfl) (by kernel_rfl) ?hQa0 ?hya0 (by assumption) ?resta0
  case hia0 => (simp only [List.getElem?_toArray, List.getElem?_cons_succ, List.getElem?_cons_zero]; rfl)
  case hQa0 => exact fun _ _ _ h => h
  case hya0 => (refine Or.inl ⟨by rfl, ?_⟩; intro w hSw; (try dsimp only at hSw); go_simp; try with_reducible rfl)
  try simp only [Act.put, List.setIfInBounds_toArray, List.set_cons_zero, List.set_cons_succ]
  refine wpAnyH_take (i := 1) (oi := ?oia1) (v := ?vva1) ?hia1 (by kernel_rfl) (by kernel_rfl) (by kernel_rfl) ?hQa1 ?hya1 (by assumption) ?resta1
  case hia1 => (simp only [List.getElem?_toArray, List.getElem?_cons_succ, List.getElem?_cons_zero]; rfl)
  case hQa1 => exact fun _ _ _ h => h
  case hya1 => (refine Or.inl ⟨by rfl, ?_⟩; intro w hSw; (try dsimp only at hSw); go_simp; try with_reducible rfl)
  try simp only [Act.put, List.setIfInBounds_toArray, List.set_cons_zero, List.set_cons_succ]
  refine wpAnyH_take (i := 2) (oi := ?oia2) (v := ?vva2) ?hia2 (by kernel_rfl) (by kernel_rfl) (by kernel_rfl) ?hQa2 ?hya2 (by assumption) ?resta2
  case hia2 => (simp only [List.getElem?_toArray, List.getElem?_cons_succ, List.getElem?_cons_zero]; rfl)
  case hQa2 => exact fun _ _ _ h => h
  case hya2 => (refine Or.inl ⟨by rfl, ?_⟩; intro w hSw; (try dsimp only at hSw); go_simp; try with_reducible rfl)
  try simp only [Act.put, List.setIfInBounds_toArray, List.set_cons_zero, List.set_cons_succ]
  refine wpAnyH_take (i := 3) (oi := ?oia3) (v := ?vva3) ?hia3 (by kernel_rfl) (by kernel_rfl) (by kernel_rfl) ?hQa3 ?hya3 (by assumption) ?resta3
  case hia3 => (simp only [List.getElem?_toArray, List.getElem?_cons_succ, List.getElem?_cons_zero]; rfl)
  case hQa3 => exact fun _ _ _ h => h
  case hya3 => (refine Or.inl ⟨by rfl, ?_⟩; intro w hSw; (try dsimp only at hSw); go_simp; try with_reducible rfl)
  try simp only [Act.put, List.setIfInBounds_toArray, List.set_cons_zero, List.set_cons_succ]
  refine wpAnyH_take (i := 4) (oi := ?oia4) (v := ?vva4) ?hia4 (by kernel_rfl) (by kernel_rfl) (by kernel_rfl) ?hQa4 ?hya4 (by assumption) ?resta4
  case hia4 => (simp only [List.getElem?_toArray, List.getElem?_cons_succ, List.getElem?_cons_zero]; rfl)
  case hQa4 => exact fun _ _ _ h => h
  case hya4 => (refine Or.inl ⟨by rfl, ?_⟩; intro w hSw; (try dsimp only at hSw); go_simp; try with_reducible rfl)
  try simp only [Act.put, List.setIfInBounds_toArray, List.set_cons_zero, List.set_cons_succ]
  refine wpAnyH_take (i := 5) (oi := ?oia5) (v := ?vva5) ?hia5 (by kernel_rfl) (by kernel_rfl) (by kernel_rfl) ?hQa5 ?hya5 (by assumption) ?resta5
  case hia5 => (simp only [List.getElem?_toArray, List.getElem?_cons_succ, List.getElem?_cons_zero]; rfl)
  case hQa5 => exact fun _ _ _ h => h
  case hya5 => (refine Or.inl ⟨by rfl, ?_⟩; intro w hSw; (try dsimp only at hSw); go_simp; try with_reducible rfl)
  try simp only [Act.put, List.setIfInBounds_toArray, List.set_cons_zero, List.set_cons_succ]
  refine wpAnyH_ready (rs := [6]) (by kernel_rfl) (by simp) ?_
  refine AllReadyH.cons (o := ?oa6) ?hoa6 (fun Kz hK => ?sta6) AllReadyH.nil
  case hoa6 => (simp only [List.getElem?_toArray, List.getElem?_cons_succ, List.getElem?_cons_zero]; rfl)
  go_simp
  refine (HCS.out _ (drew_below _)).mono ?_
  rintro x5 w5 ⟨rfl, hT5⟩
  have hT6 := hT5.all
  have hbx := hT6.box (HB.out.below (drew_below w) HB.out.lt) HN.out
  obtain ⟨K6, G6⟩ := hT6
  have k6 := G6.at_.cells.2.2.2.1
  rw [G6.cp] at k6
  have HR := Lib.hid (show UnitTo allQ w K (newC c x) (.returned (.tuple #[])) w5 from ⟨rfl, CTo.ahead (drew_below w) HH.out ⟨K6, G6⟩⟩)
  clear hT5 G6
  go_simp
  refine hK.out _ _ ⟨hbx.cell 0, k6⟩ (fun hHeld => ?_)
  clear hK Kz
  try simp only [Act.put, List.setIfInBounds_toArray, List.set_cons_zero, List.set_cons_succ]
  refine wpAnyH_done (by kernel_rfl) ?_ _
  refine NoPanic.normal ?_
  go_wp2_with fail
  first | go_end0 | refine bodyPost_ret (results_none rfl _ _ _) rfl ?_
  exact HR.out
set_option maxRecDepth 100000 in
set_option maxHeartbeats 2000000 in
theorem newC_mode1 {bc : Nat} {x : Int} (h : CAt w K c) (hs : c.m.obs.length ≤ 100000) (hn : ¬ K.own bc) (hbc : Box w bc [.pointer (some ⟨K.cp, 0, none⟩)] 59) : Calls Tryz.prog 89 #[.int .i64 x, .pointer (some ⟨bc, 0, none⟩)] w fun e w' => UnitTo allQ w K (newC c x) e w' := by
  have HS := Lib.hid (cset_any h hs x c.white 0)
  have HC := Lib.hid h.cells.2.2.2.1
  have HB := Lib.hid hbc
  have HN := Lib.hid hn
  have b0 := hbc.cell 0
  have c3 := h.cells.2.2.2.1
  simp only [List.getElem?_cons_zero] at b0
  have HCS := Lib.hid (fun (W : World) (hb : Below w.heap.size w W) => cset_any (h.below hb) hs x c.white 0)
  have HH := Lib.hid h
  clear h hs hbc hn
  go_enter Tryz.func89, Tryz.ntmps89
  go_wp2_with fail
  refine wp_region_noPanic ?_
  refine wp_region_held_drew (S := (fun W => W.cell? ⟨bc, 0, none⟩ = some (.pointer (some ⟨K.cp, 0, none⟩)) ∧ W.cell? ⟨K.cp, 3, none⟩ = some (.int .i64 c.white))) (by kernel_rfl) ?_ (fun hHeld => ?_)
  · exact ⟨b0, c3⟩
  refine wpAnyH_take (i := 0) (oi := ?oia0) (v := ?vva0) ?hia0 (by kernel_rfl) (by kernel_rfl) (by kernel_rfl) ?hQa0 ?hya0 (by assumption) ?resta0
  case hia0 => (simp only [List.getElem?_toArray, List.getElem?_cons_succ, List.getElem?_cons_zero]; rfl)
  case hQa0 => exact fun _ _ _ h => h
  case hya0 => (refine Or.inl ⟨by rfl, ?_⟩; intro w hSw; (try dsimp only at hSw); go_simp; try with_reducible rfl)
  try simp only [Act.put, List.setIfInBounds_toArray, List.set_cons_zero, List.set_cons_succ]
  refine wpAnyH_take (i := 1) (oi := ?oia1) (v := ?vva1) ?hia1 (by kernel_rfl) (by kernel_rfl) (by kernel_rfl) ?hQa1 ?hya1 (by assumption) ?resta1
  case hia1 => (simp only [List.getElem?_toArray, List.getElem?_cons_succ, List.getElem?_cons_zero]; rfl)
  case hQa1 => exact fun _ _ _ h => h
  case hya1 => (refine Or.inl ⟨by rfl, ?_⟩; intro w hSw; (try dsimp only at hSw); go_simp; try with_reducible rfl)
  try simp only [Act.put, List.setIfInBounds_toArray, List.set_cons_zero, List.set_cons_succ]
  refine wpAnyH_take (i := 2) (oi := ?oia2) (v := ?vva2) ?hia2 (by kernel_rfl) (by kernel_rfl) (by kernel_rfl) ?hQa2 ?hya2 (by assumption) ?resta2
  case hia2 => (simp only [List.getElem?_toArray, List.getElem?_cons_succ, List.getElem?_cons_zero]; rfl)
  case hQa2 => exact fun _ _ _ h => h
  case hya2 => (refine Or.inl ⟨by rfl, ?_⟩; intro w hSw; (try dsimp only at hSw); go_simp; try with_reducible rfl)
  try simp only [Act.put, List.setIfInBounds_toArray, List.set_cons_zero, List.set_cons_succ]
  refine wpAnyH_take (i := 3) (oi := ?oia3) (v := ?vva3) ?hia3 (by kernel_rfl) (by kernel_rfl) (by kernel_rfl) ?hQa3 ?hya3 (by assumption) ?resta3
  case hia3 => (simp only [List.getElem?_toArray, List.getElem?_cons_succ, List.getElem?_cons_zero]; rfl)
  case hQa3 => exact fun _ _ _ h => h
  case hya3 => (refine Or.inl ⟨by rfl, ?_⟩; intro w hSw; (try dsimp only at hSw); go_simp; try with_reducible rfl)
  try simp only [Act.put, List.setIfInBounds_toArray, List.set_cons_zero, List.set_cons_succ]
  refine wpAnyH_take (i := 4) (oi := ?oia4) (v := ?vva4) ?hia4 (by kernel_rfl) (by kernel_rfl) (by kernel_rfl) ?hQa4 ?hya4 (by assumption) ?resta4
  case hia4 => (simp only [List.getElem?_toArray, List.getElem?_cons_succ, List.getElem?_cons_zero]; rfl)
  case hQa4 => exact fun _ _ _ h => h
  case hya4 => (refine Or.inl ⟨by rfl, ?_⟩; intro w hSw; (try dsimp only at hSw); go_simp; try with_reducible rfl)
  try simp only [Act.put, List.setIfInBounds_toArray, List.set_cons_zero, List.set_cons_succ]
  refine wpAnyH_take (i := 5) (oi := ?oia5) (v := ?vva5) ?hia5 (by kernel_rfl) (by kernel_rfl) (by kernel_rfl) ?hQa5 ?hya5 (by assumption) ?resta5
  case hia5 => (simp only [List.getElem?_toArray, List.getElem?_cons_succ, List.getElem?_cons_zero]; rfl)
  case hQa5 => exact fun _ _ _ h => h
  case hya5 => (refine Or.inl ⟨by rfl, ?_⟩; intro w hSw; (try dsimp only at hSw); go_simp; try with_reducible rfl)
  try simp only [Act.put, List.setIfInBounds_toArray, List.set_cons_zero, List.set_cons_succ]
  refine wpAnyH_ready (rs := [6]) (by kernel_rfl) (by simp) ?_
  refine AllReadyH.cons (o := ?oa6) ?hoa6 (fun Kz hK => ?sta6) AllReadyH.nil
  case hoa6 => (simp only [List.getElem?_toArray, List.getElem?_cons_succ, List.getElem?_cons_zero]; rfl)
  go_simp
  refine (HCS.out _ (drew_below _)).mono ?_
  rintro x5 w5 ⟨rfl, hT5⟩
  have hT6 := hT5.all
  have hbx := hT6.box (HB.out.below (drew_below w) HB.out.lt) HN.out
  obtain ⟨K6, G6⟩ := hT6
  have k6 := G6.at_.cells.2.2.2.1
  rw [G6.cp] at k6
  have HR := Lib.hid (show UnitTo allQ w K (newC c x) (.returned (.tuple #[])) w5 from ⟨rfl, CTo.ahead (drew_below w) HH.out ⟨K6, G6⟩⟩)
  clear hT5 G6
  go_simp
  refine hK.out _ _ ⟨hbx.cell 0, k6⟩ (fun hHeld => ?_)
  clear hK Kz
  try simp only [Act.put, List.setIfInBounds_toArray, List.set_cons_zero, List.set_cons_succ]
  refine wpAnyH_done (by kernel_rfl) ?_ _
  refine NoPanic.normal ?_
  go_wp2_with fail
  first | go_end0 | refine bodyPost_ret (results_none rfl _ _ _) rfl ?_
  exact HR.out
end Go.Proofs.YtminbemdcanakaaGreat
