/- A whole collection. -/
import Derived.Test.YtminbemdcanakaaGreatML
import Derived.Test.YtminbemdcanakaaGreatMB
namespace Go.Proofs.YtminbemdcanakaaGreat
open Go.RowKit Go.Shelf
set_option linter.unusedVariables false
set_option linter.unusedSimpArgs false

variable {w : World} {K : CL} {c : Cs}
/-- The same but for the objects. -/
structure So (c c' : Cs) : Prop where
  mode : c'.mode = c.mode
  phase : c'.phase = c.phase
  white : c'.white = c.white
  grey : c'.grey = c.grey
  again : c'.again = c.again
  pending : c'.pending = c.pending
  sweep : c'.sweep = c.sweep
  base : c'.base = c.base
  len : c'.m.obs.length = c.m.obs.length
  sz : Sz c.m → Sz c'.m
theorem So.refl (c : Cs) : So c c := ⟨rfl, rfl, rfl, rfl, rfl, rfl, rfl, rfl, rfl, fun s => s⟩
theorem So.trans {a b c : Cs} (h : So a b) (k : So b c) : So a c := ⟨k.mode.trans h.mode, k.phase.trans h.phase, k.white.trans h.white, k.grey.trans h.grey, k.again.trans h.again, k.pending.trans h.pending, k.sweep.trans h.sweep, k.base.trans h.base, k.len.trans h.len, fun s => k.sz (h.sz s)⟩
theorem sos {α : Type} (f : Cs → α → Cs) (hf : ∀ c x, So c (f c x)) : ∀ (l : List α) (c : Cs), So c (l.foldl f c) := by
  intro l
  induction l with
  | nil => intro c; exact So.refl c
  | cons x l ih => intro c; exact (hf c x).trans (ih _)
theorem setCA_so (c : Cs) (x col age : Int) : So c (setCA c x col age) := ⟨rfl, rfl, rfl, rfl, rfl, rfl, rfl, rfl, (setCA_lk' c x col age).len, (setCA_lk' c x col age).sz⟩
theorem drop_so (c : Cs) (x : Int) : So c (c.withM (c.m.drop x)) := ⟨rfl, rfl, rfl, rfl, rfl, rfl, rfl, rfl, drop_len _ _, fun s => drop_sz s _⟩
theorem newC_so (c : Cs) (x : Int) : So c (newC c x) := setCA_so _ _ _ _
theorem majorEnd_so (c : Cs) (x : Int) : So c (majorEnd c x) := by
  unfold majorEnd
  split
  · exact drop_so _ _
  split
  · exact setCA_so _ _ _ _
  · exact setCA_so _ _ _ _
theorem newAll_so (c : Cs) : So c (newAll c) := sos newC newC_so _ _
/-- Grey, Again and Sweep are emptied. -/
theorem CAt.clear3 (h : CAt w K c) : CTo allQ w K (((w.setCell ⟨K.cp, 4, none⟩ (.slice none 0 0)).setCell ⟨K.cp, 5, none⟩ (.slice none 0 0)).setCell ⟨K.cp, 7, none⟩ (.slice none 0 0)) (((c.withGrey []).withAgain []).withSweep []) := by
  refine h.clear2.step fun K1 e1 _ a1 => ?_
  have := (a1.turnQ 3 (by omega) (QAt.nil _) (Keep.refl _ _) (fun k hk => by cases hk)).all
  rw [e1] at this
  exact this
theorem clear3_bd {c : Cs} (hs : Sz c.m) (hw : W01 c) (hp : c.pending.length ≤ 10000000) : Bd (((c.withGrey []).withAgain []).withSweep []) := ⟨hs, hw, by
  have h1 := whites_le c
  have h2 := hs.n
  show 2 * Proofs.YtminbemdcanakaaGreat.whites c + 0 + 0 ≤ _
  omega, hp⟩
def PN : Nat → Cs → Prop := fun _ c => c.m.obs.length ≤ 100000 ∧ W01 c
theorem PN.so {i j : Nat} {c c' : Cs} (h : PN i c) (k : So c c') : PN j c' := ⟨by rw [k.len]; exact h.1, by unfold W01; rw [k.white]; exact h.2⟩
theorem do_major1 (bc : Nat) : DoC 91 bc PN newC := fun i c W K1 x _ h hP hn hb => newC_major1 h hP.1 hn hb
theorem do_mode1 (bc : Nat) : DoC 89 bc PN newC := fun i c W K1 x _ h hP hn hb => newC_mode1 h hP.1 hn hb
theorem do_major2 (bc : Nat) : DoC 95 bc PN majorEnd := fun i c W K1 x _ h hP hn hb => majorEnd_any ⟨h, hP.1, hP.2, hb, hn⟩
/-- The collector K of w and its box, under way in W. -/
structure MX (w : World) (K : CL) (W : World) (K' : CL) (c' : Cs) (bc : Nat) : Prop where
  go : CGo allQ w K W K' c'
  bx : Box W bc [.pointer (some ⟨K.cp, 0, none⟩)] 59
  nb : ¬ K'.own bc
theorem MX.to {K' : CL} {W W' : World} {c' c2 : Cs} {bc : Nat} (h : MX w K W K' c' bc) (k : CTo allQ W K' W' c2) : ∃ K2, K2.cp = K.cp ∧ K2.L.p = K.L.p ∧ MX w K W' K2 c2 bc := by
  have hb := k.box h.bx h.nb
  have hlt := h.bx.lt
  obtain ⟨K2, G⟩ := k
  obtain ⟨K3, G3⟩ := h.go.to ⟨K2, G⟩
  refine ⟨K2, G.cp.trans h.go.cp, G.p.trans h.go.p, ⟨⟨G.cp.trans h.go.cp, G.p.trans h.go.p, G.at_, fun _ _ hn => absurd trivial hn, G3.keep, fun k hk => ?_⟩, hb, fun ho => ?_⟩⟩
  · rcases G.own k hk with x | x
    · exact h.go.own k x
    · have := h.go.keep.size; exact .inr (by omega)
  · rcases G.ownAll ho with x | x
    · exact h.nb x
    · omega
theorem MX.start (h : CAt w K c) : MX w K (w.alloc (.cells #[.pointer (some ⟨K.cp, 0, none⟩)] 59)) K c w.heap.size := by
  have hb := below_alloc w (.cells #[.pointer (some ⟨K.cp, 0, none⟩)] 59)
  refine ⟨⟨rfl, rfl, h.below hb, fun _ _ _ => rfl, Keep.of_below hb, fun _ hk => .inl hk⟩, Box.new w _ _, fun ho => ?_⟩
  have := h.own_lt ho
  omega
theorem MX.cell {K' : CL} {W : World} {c' : Cs} {bc : Nat} (h : MX w K W K' c' bc) : W.cell? ⟨bc, 0, none⟩ = some (.pointer (some ⟨K.cp, 0, none⟩)) := h.bx.cell 0
set_option maxRecDepth 100000 in
set_option maxHeartbeats 8000000 in
theorem major_any (h : CAt w K c) (hs : Sz c.m) (hw : W01 c) (hp : c.pending.length ≤ 9000000) : Calls Tryz.prog 37 #[.pointer (some ⟨K.cp, 0, none⟩)] w fun e w' => UnitTo allQ w K (major c) e w' := by
  have X0 := MX.start h
  have HT := Lib.hid (there_any X0.go.at_)
  have r0 := X0.cell
  have HA := Lib.hid (all_major1 (fun i c x h => h.so (newC_so c x)) (do_major1 _) X0.go.at_ ⟨hs.n, hw⟩ hs.n X0.bx X0.nb)
  have HX0 := Lib.hid X0
  have HS := Lib.hid hs
  have HW := Lib.hid hw
  have HP := Lib.hid hp
  clear h hs hw hp X0 r0
  go_enter Tryz.func37, Tryz.ntmps37
  go_wp2_with fail
  refine HT.out.mono ?_
  rintro x1 w1 ⟨rfl, hww⟩
  have hww' := hww.symm
  subst hww'
  clear hww
  go_wp2_with fail
  refine HA.out.mono ?_
  rintro x2 w2 ⟨rfl, hT2⟩
  obtain ⟨K2, q2, p2, X2⟩ := HX0.out.to hT2
  have r2 := X2.cell
  have a4 := X2.go.at_.cells.2.2.2.2.1
  have a5 := X2.go.at_.cells.2.2.2.2.2.1
  have a7 := X2.go.at_.cells.2.2.2.2.2.2.2.1
  have f4 := X2.go.at_.box.free 4
  have f5 := X2.go.at_.box.free 5
  have f7 := X2.go.at_.box.free 7
  rw [q2] at a4 a5 a7 f4 f5 f7
  have HX2 := Lib.hid X2
  have hne : w.heap.size ≠ K.cp := fun e => X2.nb (.inl (by rw [q2]; exact e))
  clear hT2 X2
  have hb2 : Sz (newAll c).m := (newAll_so c).sz HS.out
  have hw2 : W01 (newAll c) := by unfold W01; rw [(newAll_so c).white]; exact HW.out
  have hp2 : (newAll c).pending.length ≤ 9000000 := by rw [(newAll_so c).pending]; exact HP.out
  obtain ⟨cA, hcA⟩ : ∃ cA, cA = (((newAll c).withGrey []).withAgain []).withSweep [] := ⟨_, rfl⟩
  have hbA : Bd cA := by rw [hcA]; exact clear3_bd hb2 hw2 (by omega)
  have hpA : cA.pending.length ≤ 9000000 := by rw [hcA]; exact hp2
  have hmA : major c = ((allC majorEnd (end_ (goOn (begin_ cA)))).withPhase 0).withBase (live ((allC majorEnd (end_ (goOn (begin_ cA)))).withPhase 0).m) := by rw [hcA]; rfl
  have HBA := Lib.hid hbA
  have HPA := Lib.hid hpA
  have HMA := Lib.hid hmA
  have HCA := Lib.hid hcA
  clear hb2 hw2 hp2 hbA hpA hmA hcA
  go_wp2_with fail
  go_region
  obtain ⟨K3, q3, p3, X3⟩ := HX2.out.to (show CTo allQ w2 K2 _ cA from by
    have := HX2.out.go.at_.clear3.then_below (drew_below _)
    rw [q2] at this
    rw [HCA.out]
    exact this)
  have r3 := X3.cell
  have HX3 := Lib.hid X3
  have HB3 := Lib.hid (begin_any X3.go.at_ HBA.out)
  rw [q3] at HB3
  clear X3 a4 a5 a7 f4 f5 f7 r2
  go_wp2_with fail
  refine HB3.out.mono ?_
  rintro x4 w4 ⟨rfl, hT4⟩
  obtain ⟨K4, q4, p4, X4⟩ := HX3.out.to hT4.all
  have r4 := X4.cell
  have HX4 := Lib.hid X4
  have hk4 := begin_mk (c := cA) HBA.out.w01
  have hb4 := HBA.out.mk' (k := 0) hk4
  have HG4 := Lib.hid (goOn_any X4.go.at_ hb4)
  rw [q4] at HG4
  have hk5 := (goOn_mk (begin_ cA) hb4.w01).1
  have HB5 := Lib.hid (hb4.mk' (k := 0) hk5)
  have HP5 := Lib.hid (show (goOn (begin_ cA)).pending.length ≤ 9000000 by rw [hk5.pending, hk4.pending]; exact HPA.out)
  clear hT4 X4 hk4 hb4 hk5
  go_wp2_with fail
  refine HG4.out.mono ?_
  rintro x5 w5 ⟨rfl, hT5⟩
  obtain ⟨K5, q5, p5, X5⟩ := HX4.out.to hT5.all
  have r5 := X5.cell
  have HX5 := Lib.hid X5
  have HE5 := Lib.hid (end_any X5.go.at_ HB5.out HP5.out)
  rw [q5] at HE5
  obtain ⟨cE, hcE⟩ : ∃ cE, cE = end_ (goOn (begin_ cA)) := ⟨_, rfl⟩
  have hes := end_sp HB5.out.w01
  rw [← hcE] at HE5 HMA hes
  have hsE : Sz cE.m := hes.1.sz HB5.out.sz
  have hwE : W01 cE := by have h1 := hes.2.2.2.1; have h2 := HB5.out.w01; unfold W01 at *; omega
  have HSE := Lib.hid hsE
  have HWE := Lib.hid hwE
  clear hT5 X5 hcE hes hsE hwE
  go_wp2_with fail
  refine HE5.out.mono ?_
  rintro x6 w6 ⟨rfl, hT6⟩
  obtain ⟨K6, q6, p6, X6⟩ := HX5.out.to hT6
  have r6 := X6.cell
  have HX6 := Lib.hid X6
  have HA6 := Lib.hid (all_major2 (fun i c x h => h.so (majorEnd_so c x)) (do_major2 _) X6.go.at_ ⟨HSE.out.n, HWE.out⟩ HSE.out.n (by rw [q6]; exact X6.bx) X6.nb)
  rw [q6] at HA6
  clear hT6 X6
  go_wp2_with fail
  refine HA6.out.mono ?_
  rintro x7 w7 ⟨rfl, hT7⟩
  obtain ⟨K7, q7, p7, X7⟩ := HX6.out.to hT7
  obtain ⟨cF, hcF⟩ : ∃ cF, cF = allC majorEnd cE := ⟨_, rfl⟩
  rw [← hcF] at X7 HMA
  have hsF : Sz cF.m := by rw [hcF]; exact (sos majorEnd majorEnd_so _ _).sz HSE.out
  have HSF := Lib.hid hsF
  have r7 := X7.cell
  have f7 := X7.go.at_.box.free 2
  have e7 := X7.go.at_.cells.2.2.1
  have X8 := X7.to (X7.go.at_.turnF (s := allQ) 2 (n := 0) (c' := cF.withPhase 0) rfl rfl rfl)
  rw [q7] at f7 e7 X8
  obtain ⟨K8, q8, p8, X8⟩ := X8
  have r8 := X8.cell
  have HX8 := Lib.hid X8
  have hne8 : w.heap.size ≠ K.cp := fun e => X8.nb (.inl (by rw [q8]; exact e))
  have HNE := Lib.hid hne8
  clear hT7 X7 hcF hsF X8 hne hne8
  go_wp2_with fail
  refine wp_region_noPanic ?_
  refine wp_region_held_drew (S := (fun W => W.cell? ⟨w.heap.size, 0, none⟩ = some (.pointer (some ⟨K.cp, 0, none⟩)))) (by kernel_rfl) ?_ (fun hHeld => ?_)
  · exact r8
  refine wpAnyH_take (i := 0) (oi := ?oia0) (v := ?vva0) ?hia0 (by kernel_rfl) (by kernel_rfl) (by kernel_rfl) ?hQa0 ?hya0 (by assumption) ?resta0
  case hia0 => (simp only [List.getElem?_toArray, List.getElem?_cons_succ, List.getElem?_cons_zero]; rfl)
  case hQa0 => exact fun _ _ _ h => h
  case hya0 => (refine Or.inl ⟨by rfl, ?_⟩; intro w hSw; (try dsimp only at hSw); go_simp; try with_reducible rfl)
  try simp only [Act.put, List.setIfInBounds_toArray, List.set_cons_zero, List.set_cons_succ]
  refine wpAnyH_take (i := 1) (oi := ?oia1) (v := ?vva1) ?hia1 (by kernel_rfl) (by kernel_rfl) (by kernel_rfl) ?hQa1 ?hya1 (by assumption) ?resta1
  case hia1 => (simp only [List.getElem?_toArray, List.getElem?_cons_succ, List.getElem?_cons_zero]; rfl)
  case hQa1 => exact fun _ _ _ h => h
  case hya1 => (refine Or.inl ⟨by rfl, ?_⟩; intro w hSw; (try dsimp only at hSw); go_simp; try with_reducible rfl)
  try simp only [Act.put, List.setIfInBounds_toArray, List.set_cons_zero, List.set_cons_succ]
  refine wpAnyH_ready (rs := [2]) (by kernel_rfl) (by simp) ?_
  refine AllReadyH.cons (o := ?oa2) ?hoa2 (fun Kz hK => ?sta2) AllReadyH.nil
  case hoa2 => (simp only [List.getElem?_toArray, List.getElem?_cons_succ, List.getElem?_cons_zero]; rfl)
  go_simp
  have H9 := HX8.out.go.at_.below (drew_below _)
  have HL := live_any H9 HSF.out
  rw [q8] at HL
  refine HL.mono ?_
  rintro x9 w9 ⟨rfl, hb9⟩
  have B9 := (drew_below (w7.setCell ⟨K.cp, 2, none⟩ (.int .i64 0))).trans (hb9.mono (Nat.le_refl _))
  have H10 := HX8.out.go.at_.below B9
  have k9 : w9.cell? ⟨w.heap.size, 0, none⟩ = some (.pointer (some ⟨K.cp, 0, none⟩)) := (HX8.out.bx.below B9 HX8.out.bx.lt).cell 0
  have f9 := H10.box.free 8
  have e9 := H10.cells.2.2.2.2.2.2.2.2
  rw [q8] at f9 e9
  have hT10 : CTo allQ w K (w9.setCell ⟨K.cp, 8, none⟩ (.int .i64 (live cF.m))) (major c) := by
    have h1 := H10.turnF (s := allQ) 8 (n := live cF.m) (c' := (cF.withPhase 0).withBase (live cF.m)) rfl rfl rfl
    rw [q8] at h1
    rw [HMA.out]
    exact HX8.out.go.to (CTo.ahead B9 HX8.out.go.at_ h1)
  have HR := Lib.hid (show UnitTo allQ w K (major c) (.returned (.tuple #[])) (w9.setCell ⟨K.cp, 8, none⟩ (.int .i64 (live cF.m))) from ⟨rfl, hT10⟩)
  clear hT10 H10 H9 HL hb9 B9
  go_simp
  refine hK.out _ _ k9 (fun hHeld => ?_)
  clear hK Kz
  try simp only [Act.put, List.setIfInBounds_toArray, List.set_cons_zero, List.set_cons_succ]
  refine wpAnyH_take (i := 3) (oi := ?oia3) (v := ?vva3) ?hia3 (by kernel_rfl) (by kernel_rfl) (by kernel_rfl) ?hQa3 ?hya3 (by assumption) ?resta3
  case hia3 => (simp only [List.getElem?_toArray, List.getElem?_cons_succ, List.getElem?_cons_zero]; rfl)
  case hQa3 => exact fun _ _ _ h => h
  case hya3 => (refine Or.inl ⟨by rfl, ?_⟩; intro w hSw; (try dsimp only at hSw); go_simp; try with_reducible rfl)
  try simp only [Act.put, List.setIfInBounds_toArray, List.set_cons_zero, List.set_cons_succ]
  refine wpAnyH_take (i := 4) (oi := ?oia4) (v := ?vva4) ?hia4 (by kernel_rfl) (by kernel_rfl) (by kernel_rfl) ?hQa4 ?hya4 (by assumption) ?resta4
  case hia4 => (simp only [List.getElem?_toArray, List.getElem?_cons_succ, List.getElem?_cons_zero]; rfl)
  case hQa4 => exact fun _ _ _ h => h
  case hya4 => (refine Or.inl ⟨by rfl, ?_⟩; intro w hSw; (try dsimp only at hSw); go_simp; try with_reducible rfl)
  try simp only [Act.put, List.setIfInBounds_toArray, List.set_cons_zero, List.set_cons_succ]
  refine wpAnyH_ready (rs := [5]) (by kernel_rfl) (by simp) ?_
  refine AllReadyH.cons (o := ?oa5) ?hoa5 (fun Kz hK => ?sta5) AllReadyH.nil
  case hoa5 => (simp only [List.getElem?_toArray, List.getElem?_cons_succ, List.getElem?_cons_zero]; rfl)
  go_simp
  refine hK.out _ _ ((World.cell?_setCell_far _ _ _ _ (fun x => HNE.out x.symm)).trans k9) (fun hHeld => ?_)
  clear hK Kz
  try simp only [Act.put, List.setIfInBounds_toArray, List.set_cons_zero, List.set_cons_succ]
  refine wpAnyH_done (by kernel_rfl) ?_ _
  refine NoPanic.normal ?_
  go_wp2_with fail
  first | go_end0 | refine bodyPost_ret (results_none rfl _ _ _) rfl ?_
  exact HR.out
end Go.Proofs.YtminbemdcanakaaGreat
/- The mode is set; what is pending is taken. -/
namespace Go.Proofs.YtminbemdcanakaaGreat
open Go.RowKit Go.Shelf
set_option linter.unusedVariables false
set_option linter.unusedSimpArgs false
attribute [local go_sem high] run_tail

variable {w : World} {K : CL} {c : Cs}
set_option maxRecDepth 100000 in
set_option maxHeartbeats 8000000 in
theorem setMode_any (h : CAt w K c) (hs : Sz c.m) (hw : W01 c) (hp : c.pending.length ≤ 9000000) (n : Int) : Calls Tryz.prog 36 #[.pointer (some ⟨K.cp, 0, none⟩), .int .i64 n] w fun e w' => UnitTo allQ w K (setMode c n) e w' := by
  have X0 := MX.start h
  have HT := Lib.hid (there_any X0.go.at_)
  have r0 := X0.cell
  have m0 := X0.go.at_.cells.2.1
  have HX0 := Lib.hid X0
  have HS := Lib.hid hs
  have HW := Lib.hid hw
  have HP := Lib.hid hp
  have HH := Lib.hid h
  have f1 := X0.go.at_.box.free 1
  clear h hs hw hp X0
  by_cases k1 : n = c.mode
  · have e1 : (n == c.mode) = true := by simp [k1]
    have HE := Lib.hid (show setMode c n = c by unfold setMode; rw [if_pos (.inl k1)])
    clear k1
    go_enter Tryz.func36, Tryz.ntmps36
    go_wp2_with fail
    refine HT.out.mono ?_
    rintro x1 w1 ⟨rfl, hww⟩
    have hww' := hww.symm
    subst hww'
    clear hww
    go_wp2_with fail
    first | go_end0 | refine bodyPost_ret (results_none rfl _ _ _) rfl ?_
    exact ⟨rfl, by rw [HE.out]; exact CTo.below HH.out (below_alloc _ _)⟩
  have e1 : (n == c.mode) = false := by simp [k1]
  by_cases k2 : n = 1
  · subst k2
    have HE := Lib.hid (show setMode c 1 = major (c.withMode 1) by unfold setMode; rw [if_neg (by rintro (x | x); exact k1 x; exact x.2 rfl), if_pos rfl])
    have X1 := HX0.out.to (HX0.out.go.at_.turnF (s := allQ) 1 (n := 1) (c' := c.withMode 1) rfl rfl rfl)
    obtain ⟨K1, q1, p1, X1⟩ := X1
    have r1 := X1.cell
    have HX1 := Lib.hid X1
    have HM := Lib.hid (major_any X1.go.at_ HS.out HW.out HP.out)
    rw [q1] at HM
    clear k1 X1
    go_enter Tryz.func36, Tryz.ntmps36
    go_wp2_with fail
    refine HT.out.mono ?_
    rintro x1 w1 ⟨rfl, hww⟩
    have hww' := hww.symm
    subst hww'
    clear hww
    go_wp2_with fail
    refine HM.out.mono ?_
    rintro x2 w2 ⟨rfl, hT⟩
    have HR := Lib.hid (show UnitTo allQ w K (setMode c 1) (.returned (.tuple #[])) w2 from ⟨rfl, by rw [HE.out]; exact HX1.out.go.to hT⟩)
    clear hT
    go_wp2_with fail
    first | go_end0 | refine bodyPost_ret (results_none rfl _ _ _) rfl ?_
    exact HR.out
  have e2 : (n == 1) = false := by simp [k2]
  have e2' : (n != 1) = true := by simp [k2]
  by_cases k3 : n = 0
  · subst k3
    have X1 := HX0.out.to (HX0.out.go.at_.turnF (s := allQ) 1 (n := 0) (c' := c.withMode 0) rfl rfl rfl)
    obtain ⟨K1, q1, p1, X1⟩ := X1
    have r1 := X1.cell
    have f2 := X1.go.at_.box.free 2
    have e3 := X1.go.at_.cells.2.2.1
    have X2 := X1.to (X1.go.at_.turnF (s := allQ) 2 (n := 0) (c' := (c.withMode 0).withPhase 0) rfl rfl rfl)
    rw [q1] at f2 e3 X2
    obtain ⟨K2, q2, p2, X2⟩ := X2
    have r2 := X2.cell
    have a4 := X2.go.at_.cells.2.2.2.2.1
    have a5 := X2.go.at_.cells.2.2.2.2.2.1
    have a7 := X2.go.at_.cells.2.2.2.2.2.2.2.1
    have f4 := X2.go.at_.box.free 4
    have f5 := X2.go.at_.box.free 5
    have f7 := X2.go.at_.box.free 7
    rw [q2] at a4 a5 a7 f4 f5 f7
    have HX2 := Lib.hid X2
    have hne : w.heap.size ≠ K.cp := fun e => X2.nb (.inl (by rw [q2]; exact e))
    obtain ⟨cA, hcA⟩ : ∃ cA, cA = (((((c.withMode 0).withPhase 0).withGrey []).withAgain []).withSweep []) := ⟨_, rfl⟩
    have HE := Lib.hid (show setMode c 0 = newAll cA by unfold setMode; rw [if_neg (by rintro (x | x); exact k1 x; exact x.1 rfl), if_neg k2, hcA])
    have HCA := Lib.hid hcA
    have HSA := Lib.hid (show cA.m.obs.length ≤ 100000 ∧ W01 cA from by rw [hcA]; exact ⟨HS.out.n, HW.out⟩)
    have hT3 := HX2.out.go.at_.clear3.then_below (drew_below _)
    rw [q2, ← hcA] at hT3
    obtain ⟨K3, q3, p3, X3⟩ := HX2.out.to hT3
    have r3 := X3.cell
    have HX3 := Lib.hid X3
    have HA := Lib.hid (all_mode1 (fun i c x h => h.so (newC_so c x)) (do_mode1 _) X3.go.at_ HSA.out HSA.out.1 (by rw [q3]; exact X3.bx) X3.nb)
    rw [q3] at HA
    clear hT3 X3
    clear k1 X1 X2 hcA
    go_enter Tryz.func36, Tryz.ntmps36
    go_wp2_with fail
    refine HT.out.mono ?_
    rintro x1 w1 ⟨rfl, hww⟩
    have hww' := hww.symm
    subst hww'
    clear hww
    go_wp2_with fail
    go_region
    clear a4 a5 a7 f4 f5 f7 r2
    go_wp2_with fail
    refine HA.out.mono ?_
    rintro x4 w4 ⟨rfl, hT⟩
    have HR := Lib.hid (show UnitTo allQ w K (setMode c 0) (.returned (.tuple #[])) w4 from ⟨rfl, by rw [HE.out]; exact HX3.out.go.to hT⟩)
    clear hT
    go_wp2_with fail
    first | go_end0 | refine bodyPost_ret (results_none rfl _ _ _) rfl ?_
    exact HR.out
  · have e3 : (n == 0) = false := by simp [k3]
    have e3' : (n != 0) = true := by simp [k3]
    have HE := Lib.hid (show setMode c n = c by unfold setMode; rw [if_pos (.inr ⟨k3, k2⟩)])
    clear k1 k2 k3
    go_enter Tryz.func36, Tryz.ntmps36
    go_wp2_with fail
    refine HT.out.mono ?_
    rintro x1 w1 ⟨rfl, hww⟩
    have hww' := hww.symm
    subst hww'
    clear hww
    go_wp2_with fail
    first | go_end0 | refine bodyPost_ret (results_none rfl _ _ _) rfl ?_
    exact ⟨rfl, by rw [HE.out]; exact CTo.below HH.out (below_alloc _ _)⟩
end Go.Proofs.YtminbemdcanakaaGreat
/- What is pending is taken; White. -/
namespace Go.Proofs.YtminbemdcanakaaGreat
open Go.RowKit Go.Shelf
set_option linter.unusedVariables false
set_option linter.unusedSimpArgs false
attribute [local go_sem high] run_tail

variable {w : World} {K : CL} {c : Cs}
def TakeTo (w : World) (K : CL) (r : Cs × Option Int) (e : Ending) (w' : World) : Prop := e = .returned (.tuple #[.int .i64 (r.2.getD 0), .bool r.2.isSome]) ∧ CTo allQ w K w' r.1
set_option maxRecDepth 100000 in
set_option maxHeartbeats 2000000 in
theorem take_any (h : CAt w K c) : Calls Tryz.prog 62 #[.pointer (some ⟨K.cp, 0, none⟩)] w fun e w' => TakeTo w K (take c) e w' := by
  have HT := Lib.hid (there_any h)
  have HH := Lib.hid h
  have c6 := h.cells.2.2.2.2.2.2.1
  cases hs : c.pending with
  | nil =>
    have hq : QAt w (K.q 2) c.pending := h.q 2 (by omega)
    obtain ⟨qa, qc, hqv⟩ := hq.slice
    rw [hqv, hs] at c6
    simp only [List.length_nil] at c6
    have HE := Lib.hid (show take c = (c, none) by unfold take; rw [hs])
    clear h hs hqv hq
    go_enter Tryz.func62, Tryz.ntmps62
    go_wp2_with fail
    refine HT.out.mono ?_
    rintro x1 w1 ⟨rfl, hww⟩
    have hww' := hww.symm
    subst hww'
    clear hww
    go_wp2_with fail
    go_ret2
    exact ⟨by rw [HE.out]; rfl, by rw [HE.out]; exact CTo.refl HH.out⟩
  | cons x l =>
    obtain ⟨g, off, cap, hqv, hc1, hcm, d0, hpop⟩ := h.popped 2 (by omega) (x := x) (l := l) hs
    rw [hqv] at c6
    have f6 := h.box.free 6
    obtain ⟨N, hN⟩ : ∃ N, N = l.length := ⟨_, rfl⟩
    have hT1 : CTo allQ w K (w.setCell ⟨K.cp, 6, none⟩ (.slice (some ⟨g, tailAddr off cap, none⟩) l.length (cap - 1))) (c.withPending l) := hpop w (tailAddr off cap) (Below.refl _ _) (tailAddr_or _ _)
    rw [← hN] at c6 hT1
    have e5 : (((N + 1 : Nat) : Int) == 0) = false := by simp; omega
    have e6 : decide (0 < ((N + 1 : Nat) : Int)) = true := decide_eq_true (by omega)
    have HE := Lib.hid (show take c = (c.withPending l, some x) by unfold take; rw [hs])
    have HT1 := Lib.hid hT1
    clear h hs hqv hpop hT1 hN
    go_enter Tryz.func62, Tryz.ntmps62
    go_wp2_with fail
    refine HT.out.mono ?_
    rintro x1 w1 ⟨rfl, hww⟩
    have hww' := hww.symm
    subst hww'
    clear hww
    go_wp2_with fail
    go_ret2
    exact ⟨by rw [HE.out]; rfl, by rw [HE.out]; exact HT1.out⟩
end Go.Proofs.YtminbemdcanakaaGreat
/- A young collection: its second closure. -/
namespace Go.Proofs.YtminbemdcanakaaGreat
open Go.RowKit Go.Shelf
set_option linter.unusedVariables false
set_option linter.unusedSimpArgs false
attribute [local go_sem] Oper.semAt_some meth_order meth_thing meth_kind meth_cells meth_colour meth_age meth_setColour meth_setAge meth_setFin meth_clear meth_drop meth_roots

variable {w : World} {K : CL} {c : Cs}
set_option maxRecDepth 100000 in
set_option maxHeartbeats 4000000 in
theorem youngEnd_any {bc : Nat} {x : Int} (h : BC w K c bc) : Calls Tryz.prog 110 #[.int .i64 x, .pointer (some ⟨bc, 0, none⟩)] w fun e w' => UnitTo allQ w K (youngEnd c x) e w' := by
  have HH := Lib.hid h
  have HD := Lib.hid (fun (n : Nat) => h.below (below_drewN (Below.refl w.heap.size w) n))
  obtain ⟨b0, c0, c1, c3⟩ := h.cells
  have HCO := Lib.hid (fun (n : Nat) => colour_any (HD.out n).at_.mem h.n x)
  have HOT := Lib.hid (fun (n : Nat) => other_same (HD.out n).at_ h.w01)
  obtain ⟨oc, hoc⟩ : ∃ oc, oc = other c := ⟨_, rfl⟩
  obtain ⟨co, hco⟩ : ∃ co, co = c.m.col x := ⟨_, rfl⟩
  rw [← hoc] at HOT
  rw [← hco] at HCO
  have HOC := Lib.hid hoc
  have HCC := Lib.hid hco
  clear h hoc hco
  by_cases k1 : co = oc
  · have e1 : (co == oc) = true := by simp [k1]
    have HE := Lib.hid (show youngEnd c x = c.withM (c.m.drop x) by unfold youngEnd; rw [if_pos (by rw [← HCC.out, ← HOC.out]; exact k1)])
    clear k1
    go_enter Tryz.func110, Tryz.ntmps110
    go_wp2_with fail
    go_quiet (first | (go_at_call 65; exact Calls.quiet_of_same (HCO.out _)) | (go_at_call 96; exact Calls.quiet_of_same (HOT.out _)))
    have HDR := Lib.hid (drop_any (HD.out nq).at_.mem HH.out.n x)
    go_wp2_with fail
    refine HDR.out.mono ?_
    rintro x3 w3 ⟨rfl, hm, hk⟩
    have HR := Lib.hid (show UnitTo allQ w K (youngEnd c x) (.returned (.tuple #[])) w3 from ⟨rfl, by rw [HE.out]; exact CTo.ahead (below_drewN (Below.refl _ _) nq) HH.out.at_ ((HD.out nq).at_.turnK hm hk)⟩)
    clear hm hk
    go_wp2_with fail
    first | go_end0 | refine bodyPost_ret (results_none rfl _ _ _) rfl ?_
    exact HR.out
  · have e1 : (co == oc) = false := by simp [k1]
    obtain ⟨na, hna⟩ : ∃ na, na = nextA (c.m.age x) := ⟨_, rfl⟩
    have HE := Lib.hid (show youngEnd c x = setCA c x (if na = 1 then c.white else 3) na by unfold youngEnd; rw [if_neg (by rw [← HCC.out, ← HOC.out]; exact k1), hna])
    have HNA := Lib.hid hna
    clear k1 hna
    by_cases k2 : na = 1
    · have e2 : (na == 1) = true := by simp [k2]
      have HE2 := Lib.hid (show youngEnd c x = setCA c x c.white na by rw [HE.out, if_pos k2])
      clear k2
      go_enter Tryz.func110, Tryz.ntmps110
      go_wp2_with fail
      go_quiet (first | (go_at_call 65; exact Calls.quiet_of_same (HCO.out _)) | (go_at_call 96; exact Calls.quiet_of_same (HOT.out _)))
      have HAG := Lib.hid (age_any (HD.out nq).at_.mem HH.out.n x)
      have HNX := Lib.hid (next_any (w := w.drewN nq) (c.m.age x))
      rw [← HNA.out] at HNX
      go_wp2_with fail
      refine HAG.out.mono ?_
      rintro x3 w3 ⟨rfl, hww⟩
      have hww' := hww.symm
      subst hww'
      clear hww
      go_wp2_with fail
      refine HNX.out.mono ?_
      rintro x4 w4 ⟨rfl, hb4⟩
      have HB4 := Lib.hid ((below_drewN (Below.refl w.heap.size w) nq).trans (hb4.mono (Nat.le_refl _)))
      have HBD := Lib.hid (HH.out.below HB4.out)
      obtain ⟨d0, d1, d2, d3⟩ := HBD.out.cells
      have HSE := Lib.hid (cset_any HBD.out.at_ HH.out.n x c.white na)
      clear hb4
      go_wp2_with fail
      refine HSE.out.mono ?_
      rintro x5 w5 ⟨rfl, hT⟩
      have HR := Lib.hid (show UnitTo allQ w K (youngEnd c x) (.returned (.tuple #[])) w5 from ⟨rfl, by rw [HE2.out]; exact CTo.ahead HB4.out HH.out.at_ hT.all⟩)
      clear hT
      go_wp2_with fail
      first | go_end0 | refine bodyPost_ret (results_none rfl _ _ _) rfl ?_
      exact HR.out
    · have e2 : (na == 1) = false := by simp [k2]
      have HE2 := Lib.hid (show youngEnd c x = setCA c x 3 na by rw [HE.out, if_neg k2])
      clear k2
      go_enter Tryz.func110, Tryz.ntmps110
      go_wp2_with fail
      go_quiet (first | (go_at_call 65; exact Calls.quiet_of_same (HCO.out _)) | (go_at_call 96; exact Calls.quiet_of_same (HOT.out _)))
      have HAG := Lib.hid (age_any (HD.out nq).at_.mem HH.out.n x)
      have HNX := Lib.hid (next_any (w := w.drewN nq) (c.m.age x))
      rw [← HNA.out] at HNX
      go_wp2_with fail
      refine HAG.out.mono ?_
      rintro x3 w3 ⟨rfl, hww⟩
      have hww' := hww.symm
      subst hww'
      clear hww
      go_wp2_with fail
      refine HNX.out.mono ?_
      rintro x4 w4 ⟨rfl, hb4⟩
      have HB4 := Lib.hid ((below_drewN (Below.refl w.heap.size w) nq).trans (hb4.mono (Nat.le_refl _)))
      have HBD := Lib.hid (HH.out.below HB4.out)
      obtain ⟨d0, d1, d2, d3⟩ := HBD.out.cells
      have HSE := Lib.hid (cset_any HBD.out.at_ HH.out.n x 3 na)
      clear hb4
      go_wp2_with fail
      refine HSE.out.mono ?_
      rintro x5 w5 ⟨rfl, hT⟩
      have HR := Lib.hid (show UnitTo allQ w K (youngEnd c x) (.returned (.tuple #[])) w5 from ⟨rfl, by rw [HE2.out]; exact CTo.ahead HB4.out HH.out.at_ hT.all⟩)
      clear hT
      go_wp2_with fail
      first | go_end0 | refine bodyPost_ret (results_none rfl _ _ _) rfl ?_
      exact HR.out
end Go.Proofs.YtminbemdcanakaaGreat
/- A new collector. -/
namespace Go.Proofs.YtminbemdcanakaaGreat
open Go.RowKit Go.Shelf
set_option linter.unusedVariables false
set_option linter.unusedSimpArgs false

variable {w : World} {L : ML} {m : Mm}
def firstK (n : Nat) (L : ML) : CL := ⟨n, L, fun _ => .slice none 0 0⟩
theorem CAt.first (h : MemAt w L m) : CAt (w.alloc (.cells #[memI L.p, .int .i64 0, .int .i64 0, .int .i64 0, .slice none 0 0, .slice none 0 0, .slice none 0 0, .slice none 0 0, .int .i64 0] 126)) (firstK w.heap.size L) (first m) := by
  have hb := below_alloc w (.cells #[memI L.p, .int .i64 0, .int .i64 0, .int .i64 0, .slice none 0 0, .slice none 0 0, .slice none 0 0, .slice none 0 0, .int .i64 0] 126)
  refine ⟨Box.new w _ _, h.below hb, fun i hi => ?_, fun ho => ?_, fun i hi k hk => (by cases hk), fun i j _ _ _ k hk => (by cases hk)⟩
  · match i, hi with
    | 0, _ => exact QAt.nil _
    | 1, _ => exact QAt.nil _
    | 2, _ => exact QAt.nil _
    | 3, _ => exact QAt.nil _
  · have h1 : w.heap.size < w.heap.size := h.own_lt ho
    omega
set_option maxHeartbeats 1000000 in
theorem newC_any (h : MemAt w L m) : Calls Tryz.prog 42 #[memI L.p] w fun e w' => e = .returned (.pointer (some ⟨w.heap.size, 0, none⟩)) ∧ CAt w' (firstK w.heap.size L) (first m) ∧ Below w.heap.size w w' := by
  have HF := Lib.hid (CAt.first h)
  clear h
  go_enter Tryz.func42, Tryz.ntmps42
  go_wp2_with fail
  go_ret
  exact ⟨rfl, HF.out, below_alloc _ _⟩
end Go.Proofs.YtminbemdcanakaaGreat
/- What the closures of a young collection leave within bounds. -/
namespace Go.Proofs.YtminbemdcanakaaGreat
set_option linter.unusedVariables false
set_option linter.unusedSimpArgs false

/-- What the first closure leaves. -/
structure Yb (k : Nat) (c c' : Cs) : Prop where
  lk : Lk c.m c'.m
  mode : c'.mode = c.mode
  phase : c'.phase = c.phase
  white : c'.white = c.white
  again : c'.again = c.again
  pending : c'.pending = c.pending
  sweep : c'.sweep = c.sweep
  base : c'.base = c.base
  grey : c'.grey.length ≤ c.grey.length + k
  dm : dm c' ≤ dm c + k
theorem Yb.refl (c : Cs) : Yb 0 c c := ⟨Lk.refl _, rfl, rfl, rfl, rfl, rfl, rfl, rfl, Nat.le_refl _, Nat.le_refl _⟩
theorem Yb.trans {i j : Nat} {a b c : Cs} (h : Yb i a b) (k : Yb j b c) : Yb (i + j) a c :=
  ⟨h.lk.trans k.lk, k.mode.trans h.mode, k.phase.trans h.phase, k.white.trans h.white, k.again.trans h.again, k.pending.trans h.pending, k.sweep.trans h.sweep, k.base.trans h.base, by have := h.grey; have := k.grey; omega, by have := h.dm; have := k.dm; omega⟩
theorem Yb.w01 {k : Nat} {a b : Cs} (h : Yb k a b) (hw : W01 a) : W01 b := by unfold W01 at *; rw [h.white]; exact hw
theorem youngBegin_yb {c : Cs} (hw : W01 c) (x : Int) : Yb 1 c (youngBegin c x) := by
  unfold youngBegin
  split
  · refine ⟨lk_setCol _ _ _, rfl, rfl, rfl, rfl, rfl, rfl, rfl, ?_, ?_⟩
    · show (c.grey ++ [x]).length ≤ _
      simp
    · have h1 : (c.m.setCol x 2).obs.countP (isW c.white) ≤ c.m.obs.countP (isW c.white) := whites_setCol_le (by unfold W01 at hw; omega)
      have e : Proofs.YtminbemdcanakaaGreat.dm c = 2 * c.m.obs.countP (isW c.white) + c.grey.length + c.again.length := rfl
      show 2 * (c.m.setCol x 2).obs.countP (isW c.white) + (c.grey ++ [x]).length + c.again.length ≤ _
      simp only [List.length_append, List.length_cons, List.length_nil]
      omega
  · exact ⟨Lk.refl _, rfl, rfl, rfl, rfl, rfl, rfl, rfl, by omega, by omega⟩
theorem young_fold : ∀ (l : List Int) {c : Cs} (hw : W01 c), Yb l.length c (l.foldl youngBegin c) := by
  intro l
  induction l with
  | nil => intro c _; exact Yb.refl c
  | cons x l ih =>
    intro c hw
    have h1 := youngBegin_yb hw x
    have h2 := h1.trans (ih (h1.w01 hw))
    rw [Nat.add_comm] at h2
    exact h2
theorem youngAll_yb {c : Cs} (hw : W01 c) (hn : c.m.obs.length ≤ 100000) : Yb 100000 c (allC youngBegin c) := by
  have h : Yb c.m.order.length c (allC youngBegin c) := young_fold c.m.order hw
  have hl : c.m.order.length ≤ 100000 := Nat.le_trans (orderF_length _ _) hn
  exact ⟨h.lk, h.mode, h.phase, h.white, h.again, h.pending, h.sweep, h.base, by have := h.grey; omega, by have := h.dm; omega⟩
theorem youngEnd_so (c : Cs) (x : Int) : So c (youngEnd c x) := by
  unfold youngEnd
  split
  · exact drop_so _ _
  · exact setCA_so _ _ _ _
/-- What holds at the closure's turn i. -/
def PY (g : Nat) : Nat → Cs → Prop := fun i c => c.m.obs.length ≤ 100000 ∧ W01 c ∧ c.grey.length ≤ g + i
theorem PY.step {g i : Nat} {c : Cs} (h : PY g i c) (x : Int) : PY g (i + 1) (youngBegin c x) := by
  have k := youngBegin_yb h.2.1 x
  exact ⟨by rw [k.lk.len]; exact h.1, k.w01 h.2.1, by have := k.grey; have := h.2.2; omega⟩
end Go.Proofs.YtminbemdcanakaaGreat
