/- Steps. -/
import Derived.Test.YtminbemdcanakaaGreatMK
import Derived.Test.YtminbemdcanakaaGreatMB
import Derived.BigQuiet
namespace Go.Proofs.YtminbemdcanakaaGreat
open Go.RowKit Go.Shelf
set_option linter.unusedVariables false
set_option linter.unusedSimpArgs false

variable {w : World} {K : CL} {c : Cs}
def BoolTo (w : World) (K : CL) (r : Cs × Bool) (e : Ending) (w' : World) : Prop := e = .returned (.bool r.2) ∧ CTo allQ w K w' r.1
set_option maxRecDepth 100000 in
set_option maxHeartbeats 4000000 in
theorem step_any (h : CAt w K c) (hs : Sz c.m) (hw : W01 c) (k : Int) (hk : k ≤ 100000) (hd : dm c + 2 * k.toNat ≤ 10000000) (hm : 2 * c.m.obs.length + 2 * k.toNat ≤ 10000000) (hp : c.pending.length + k.toNat * c.m.obs.length ≤ 9000000) :
    Calls Tryz.prog 56 #[.pointer (some ⟨K.cp, 0, none⟩), .int .i64 k] w fun e w' => BoolTo w K (step c k) e w' := by
  have c1 := h.cells.2.1
  have HT := Lib.hid (there_any h)
  have HH := Lib.hid h
  by_cases m0 : c.mode = 0
  · have e0 : (c.mode != 0) = false := by simp [m0]
    have HS := Lib.hid (show step c k = steps k.toNat c by unfold step; rw [if_neg (fun x => x m0)])
    obtain ⟨M, hM⟩ : ∃ M, M = c.m.obs.length := ⟨_, rfl⟩
    rw [← hM] at hm hp
    have HR := Lib.hid (show ∃ (r : Nat) (Ki : CL) (ci : Cs), k.toNat = r ∧ k ≤ 100000 ∧ steps r ci = steps k.toNat c ∧ Sz ci.m ∧ W01 ci ∧ ci.m.obs.length = M ∧ dm ci + 2 * r ≤ 10000000 ∧ 2 * M + 2 * r ≤ 10000000 ∧ ci.pending.length + r * M ≤ 9000000 ∧ CGo allQ w K w Ki ci from ⟨_, K, c, rfl, hk, rfl, hs, hw, hM.symm, hd, hm, hp, CGo.self h⟩)
    clear h m0 hs hw hd hm hp hM hk
    go_enter Tryz.func56, Tryz.ntmps56
    go_wp2_with fail
    refine HT.out.mono ?_
    rintro x1 w1 ⟨rfl, hww⟩
    have hww' := hww.symm
    subst hww'
    go_wp2_with fail
    go_loopw [1] (fun t1 wr => ∃ (x : Int) (r : Nat) (Ki : CL) (ci : Cs), t1 = .int .i64 x ∧ x.toNat = r ∧ x ≤ 100000 ∧ steps r ci = steps k.toNat c ∧ Sz ci.m ∧ W01 ci ∧ ci.m.obs.length = M ∧ dm ci + 2 * r ≤ 10000000 ∧ 2 * M + 2 * r ≤ 10000000 ∧ ci.pending.length + r * M ≤ 9000000 ∧ CGo allQ w K wr Ki ci) (fun t1 _ => (intOf t1).toNat)
    case atStart =>
      obtain ⟨r, Ki, ci, a⟩ := HR.out
      exact ⟨k, r, Ki, ci, rfl, a⟩
    case round =>
      obtain ⟨x, r, Ki, ci, rfl, hr, hx, hst, hs, hw, hM, hd, hm, hp, G⟩ := hrel
      by_cases hx0 : 0 < x
      · have e1 : decide (0 < x) = true := decide_eq_true hx0
        have q1 : IntKind.i64.wrap (x - 1) = x - 1 := IntWalk.i64_in _ (by omega)
        obtain ⟨r', rfl⟩ : ∃ r', r = r' + 1 := ⟨r - 1, by omega⟩
        have hpp : ci.pending.length ≤ 9000000 := by omega
        have hB : Bd ci := ⟨hs, hw, by omega, by omega⟩
        have HU := Lib.hid (unit_any G.at_ hB hpp)
        rw [G.cp] at HU
        have hun := unit_un hw
        have hp2 : ci.pending.length + M + r' * M ≤ 9000000 := by rw [Nat.succ_mul] at hp; omega
        have HN := Lib.hid (show Sz (unit ci).m ∧ W01 (unit ci) ∧ (unit ci).m.obs.length = M ∧ dm (unit ci) + 2 * r' ≤ 10000000 ∧ 2 * M + 2 * r' ≤ 10000000 ∧ (unit ci).pending.length + r' * M ≤ 9000000 from by
          have h1 := hun.dm
          have h2 := hun.pend
          rw [hM] at h1 h2
          exact ⟨hun.sz hs, hun.w01, hun.len.trans hM, by omega, by omega, by omega⟩)
        have HG := Lib.hid G
        have HX := Lib.hid (show (x - 1).toNat = r' ∧ x - 1 ≤ 100000 ∧ (x - 1).toNat < x.toNat from ⟨by omega, by omega, by omega⟩)
        have hss : steps (r' + 1) ci = if (unit ci).phase = 0 then (unit ci, true) else steps r' (unit ci) := rfl
        rw [hss] at hst
        have HST := Lib.hid hst
        clear hx0 hpp hB hun hp2 G hss hst hs hw hM hd hm hp hr hx
        go_wp2_with fail
        refine HU.out.mono ?_
        rintro x2 w2 ⟨rfl, hT⟩
        obtain ⟨K2, G2⟩ := HG.out.to hT
        have c2 := G2.at_.cells.2.2.1
        rw [G2.cp] at c2
        have HG2 := Lib.hid G2
        clear hT G2
        by_cases hph : (unit ci).phase = 0
        · have e2 : ((unit ci).phase == 0) = true := by simp [hph]
          have HF := Lib.hid (show step c k = (unit ci, true) by rw [HS.out, ← HST.out, if_pos hph])
          clear hph
          go_wp2_with fail
          go_ret
          exact ⟨by rw [HF.out]; rfl, by rw [HF.out]; exact ⟨K2, HG2.out⟩⟩
        · have e2 : ((unit ci).phase == 0) = false := by simp [hph]
          have HF := Lib.hid (show steps r' (unit ci) = steps k.toNat c by rw [← HST.out, if_neg hph])
          clear hph
          go_wp2_with fail
          go_roundw
          case rel => exact ⟨x - 1, r', K2, unit ci, by go_num, HX.out.1, HX.out.2.1, HF.out, HN.out.1, HN.out.2.1, HN.out.2.2.1, HN.out.2.2.2.1, HN.out.2.2.2.2.1, HN.out.2.2.2.2.2, HG2.out⟩
          case measure => have := HX.out.2.2; simp [intOf]; omega
      · have e1 : decide (0 < x) = false := decide_eq_false hx0
        have HF := Lib.hid (show step c k = (ci, false) by
          rw [HS.out, ← hst, show r = 0 by omega]; rfl)
        have HG := Lib.hid G
        clear hx0 hr hx hst hs hw hM hd hm hp G
        go_wp2_with fail
        go_ret
        exact ⟨by rw [HF.out]; rfl, by rw [HF.out]; exact ⟨Ki, HG.out⟩⟩
  · have e0 : (c.mode != 0) = true := by simp [m0]
    have HS := Lib.hid (show step c k = (c, false) by unfold step; rw [if_pos m0])
    clear h m0 hs hw hd hm hp hk
    go_enter Tryz.func56, Tryz.ntmps56
    go_wp2_with fail
    refine HT.out.mono ?_
    rintro x1 w1 ⟨rfl, hww⟩
    have hww' := hww.symm
    subst hww'
    go_wp2_with fail
    go_ret
    exact ⟨by rw [HS.out]; rfl, by rw [HS.out]; exact CTo.refl HH.out⟩
end Go.Proofs.YtminbemdcanakaaGreat
/- Live, Birth, Take, White. -/
namespace Go.Proofs.YtminbemdcanakaaGreat
open Go.RowKit Go.Shelf
set_option linter.unusedVariables false
set_option linter.unusedSimpArgs false
attribute [local go_sem] Oper.semAt_some meth_order meth_thing meth_kind meth_cells meth_colour meth_age meth_setColour meth_setAge meth_setFin meth_clear meth_drop meth_roots
attribute [local go_sem high] run_tail

variable {w : World} {K : CL} {c : Cs}
theorem cells_small {m : Mm} (s : Sz m) (h : Int) : 0 ≤ m.cells h ∧ m.cells h ≤ 100001 := by
  unfold Mm.cells
  cases ha : m.at h with
  | none => exact ⟨Int.le_refl _, by decide⟩
  | some o =>
    have := (s.s o (at_mem ha)).1
    show (0 : Int) ≤ 1 + (o.slots.length : Int) ∧ 1 + (o.slots.length : Int) ≤ 100001
    omega
def liveT (m : Mm) (i : Nat) : Int := (m.order.take i).foldl (fun n h => n + m.cells h) 0
theorem liveT_small {m : Mm} (s : Sz m) (i : Nat) (hi : i ≤ m.order.length) : 0 ≤ liveT m i ∧ liveT m i ≤ i * 100001 := by
  induction i with
  | zero => exact ⟨Int.le_refl _, by show (0 : Int) ≤ _; omega⟩
  | succ i ih =>
    obtain ⟨a, b⟩ := ih (by omega)
    have hx : m.order[i]? = some (m.order[i]'(by omega)) := List.getElem?_eq_getElem _
    have e : liveT m (i + 1) = liveT m i + m.cells (m.order[i]'(by omega)) := by unfold liveT; rw [List.take_add_one, hx, List.foldl_append]; rfl
    have := cells_small s (m.order[i]'(by omega))
    rw [e]
    omega
set_option maxRecDepth 100000 in
set_option maxHeartbeats 4000000 in
theorem live_any (h : CAt w K c) (hs : Sz c.m) : Calls Tryz.prog 46 #[.pointer (some ⟨K.cp, 0, none⟩)] w fun e w' => IntB w (live c.m) e w' := by
  have c0 := h.cells.1
  have HT := Lib.hid (there_any h)
  have HO := Lib.hid (order_any h.mem hs.n)
  have HH := Lib.hid h
  have HS := Lib.hid hs
  have hll : c.m.order.length ≤ 100000 := Nat.le_trans (orderF_length _ _) hs.n
  obtain ⟨ord, hord⟩ : ∃ ord, ord = c.m.order := ⟨_, rfl⟩
  rw [← hord] at HO hll
  have HORD := Lib.hid hord
  clear h hs hord
  go_enter Tryz.func46, Tryz.ntmps46
  go_wp2_with fail
  refine HT.out.mono ?_
  rintro x1 w1 ⟨rfl, hww⟩
  have hww' := hww.symm
  subst hww'
  clear hww
  go_wp2_with fail
  refine HO.out.mono ?_
  rintro x2 w2 ⟨ov, rfl, hov, hb2⟩
  obtain ⟨oa, oc, rfl⟩ := row_slice hov
  have HB2 := Lib.hid hb2
  have HOV := Lib.hid hov
  have H2 := HH.out.below hb2
  have d0 := H2.cells.1
  have HH2 := Lib.hid H2
  clear hov hb2 H2 c0
  go_wp2_with fail
  go_loop [3, 14] (fun t3 t14 => ∃ i : Nat, i ≤ ord.length ∧ t3 = .int .i64 (liveT c.m i) ∧ t14 = .int .i64 i) (fun _ t14 => ord.length - (intOf t14).toNat)
  case atStart => exact ⟨0, Nat.zero_le _, rfl, by go_num⟩
  case round =>
    obtain ⟨i, hi, rfl, rfl⟩ := hrel
    obtain ⟨b1, b2⟩ := liveT_small HS.out i (by rw [← HORD.out]; exact hi)
    by_cases hlt : i < ord.length
    · obtain ⟨x, hx⟩ : ∃ x, ord[i]? = some x := ⟨ord[i], List.getElem?_eq_getElem _⟩
      obtain ⟨g, c2, ha2, hcell⟩ := row_at HOV.out (by omega)
      simp only [Value.slice.injEq] at ha2
      obtain ⟨rfl, -, rfl⟩ := ha2
      have y0 := hcell _ _ (intL_get hx)
      obtain ⟨b3, b4⟩ := cells_small HS.out x
      have HC := Lib.hid (cells_any HH2.out.mem HS.out.n x (at_small HS.out))
      have HE := Lib.hid (show liveT c.m (i + 1) = liveT c.m i + c.m.cells x by unfold liveT; rw [← HORD.out, List.take_add_one, hx, List.foldl_append]; rfl)
      have q1 : IntKind.i64.wrap (liveT c.m i + c.m.cells x) = liveT c.m i + c.m.cells x := IntWalk.i64_in _ (by omega)
      clear hx hcell b1 b2 b3 b4
      go_wp2_with fail
      refine HC.out.mono ?_
      rintro x5 w5 ⟨rfl, hww⟩
      have hww' := hww.symm
      subst hww'
      clear hww
      go_wp2_with fail
      go_round
      case rel => exact ⟨i + 1, by omega, by rw [HE.out], by go_num⟩
      case measure => simp [intOf]; omega
    · obtain rfl : i = ord.length := by omega
      have HR := Lib.hid (show liveT c.m ord.length = live c.m by unfold liveT; rw [← HORD.out, List.take_length, HORD.out]; rfl)
      clear b1 b2
      go_wp2_with fail
      go_ret
      exact ⟨by rw [HR.out]; rfl, HB2.out⟩
set_option maxRecDepth 100000 in
set_option maxHeartbeats 2000000 in
theorem birth_any (h : CAt w K c) (hs : c.m.obs.length ≤ 100000) (x : Int) : Calls Tryz.prog 60 #[.pointer (some ⟨K.cp, 0, none⟩), .int .i64 x] w fun e w' => UnitTo allQ w K (birth c x) e w' := by
  have c0 := h.cells.1
  have c3 := h.cells.2.2.2.1
  have HT := Lib.hid (there_any h)
  have HH := Lib.hid h
  have HS := Lib.hid hs
  have H1 := h.below (drew_below w)
  have HC := Lib.hid (setColour_any H1.mem hs x c.white)
  have HH1 := Lib.hid H1
  clear h hs H1
  go_enter Tryz.func60, Tryz.ntmps60
  go_wp2_with fail
  refine HT.out.mono ?_
  rintro x1 w1 ⟨rfl, hww⟩
  have hww' := hww.symm
  subst hww'
  clear hww
  go_wp2_with fail
  refine wp_region_noPanic ?_
  refine wp_region_held_drew (S := (fun W => W.cell? ⟨K.cp, 0, none⟩ = some (memI K.L.p) ∧ W.cell? ⟨K.cp, 3, none⟩ = some (.int .i64 c.white))) (by kernel_rfl) ?_ (fun hHeld => ?_)
  · exact ⟨c0, c3⟩
  refine wpAnyH_take (i := 0) (oi := ?oia0) (v := ?vva0) ?hia0 (by kernel_rfl) (by kernel_rfl) (by kernel_rfl) ?hQa0 ?hya0 (by assumption) ?resta0
  case hia0 => (simp only [List.getElem?_toArray, List.getElem?_cons_succ, List.getElem?_cons_zero]; rfl)
  case hQa0 => exact fun _ _ _ h => h
  case hya0 => (refine Or.inl ⟨by rfl, ?_⟩; intro w hSw; (try dsimp only at hSw); go_simp; try with_reducible rfl)
  try simp only [Act.put, List.setIfInBounds_toArray, List.set_cons_zero, List.set_cons_succ]
  refine wpAnyH_take (i := 1) (oi := ?oia1) (v := ?vva1) ?hia1 (by kernel_rfl) (by kernel_rfl) (by kernel_rfl) ?hQa1 ?hya1 (by assumption) ?resta1
  case hia1 => (simp only [List.getElem?_toArray, List.getElem?_cons_succ, List.getElem?_cons_zero]; rfl)
  case hQa1 => exact fun _ _ _ h => h
  case hya1 => (refine Or.inl ⟨by rfl, ?_⟩; intro w hSw; (try dsimp only at hSw); go_simp; try with_reducible rfl)
  try simp only [Act.put, List.setIfInBounds_toArray, List.set_cons_zero, List.set_cons_succ]
  refine wpAnyH_take (i := 2) (oi := ?oia2) (v := ?vva2) ?hia2 (by kernel_rfl) (by kernel_rfl) (by kernel_rfl) ?hQa2 ?hya2 (by assumption) ?resta2
  case hia2 => (simp only [List.getElem?_toArray, List.getElem?_cons_succ, List.getElem?_cons_zero]; rfl)
  case hQa2 => exact fun _ _ _ h => h
  case hya2 => (refine Or.inl ⟨by rfl, ?_⟩; intro w hSw; (try dsimp only at hSw); go_simp; try with_reducible rfl)
  try simp only [Act.put, List.setIfInBounds_toArray, List.set_cons_zero, List.set_cons_succ]
  refine wpAnyH_take (i := 3) (oi := ?oia3) (v := ?vva3) ?hia3 (by kernel_rfl) (by kernel_rfl) (by kernel_rfl) ?hQa3 ?hya3 (by assumption) ?resta3
  case hia3 => (simp only [List.getElem?_toArray, List.getElem?_cons_succ, List.getElem?_cons_zero]; rfl)
  case hQa3 => exact fun _ _ _ h => h
  case hya3 => (refine Or.inl ⟨by rfl, ?_⟩; intro w hSw; (try dsimp only at hSw); go_simp; try with_reducible rfl)
  try simp only [Act.put, List.setIfInBounds_toArray, List.set_cons_zero, List.set_cons_succ]
  refine wpAnyH_take (i := 4) (oi := ?oia4) (v := ?vva4) ?hia4 (by kernel_rfl) (by kernel_rfl) (by kernel_rfl) ?hQa4 ?hya4 (by assumption) ?resta4
  case hia4 => (simp only [List.getElem?_toArray, List.getElem?_cons_succ, List.getElem?_cons_zero]; rfl)
  case hQa4 => exact fun _ _ _ h => h
  case hya4 => (refine Or.inl ⟨by rfl, ?_⟩; intro w hSw; (try dsimp only at hSw); go_simp; try with_reducible rfl)
  try simp only [Act.put, List.setIfInBounds_toArray, List.set_cons_zero, List.set_cons_succ]
  refine wpAnyH_take (i := 5) (oi := ?oia5) (v := ?vva5) ?hia5 (by kernel_rfl) (by kernel_rfl) (by kernel_rfl) ?hQa5 ?hya5 (by assumption) ?resta5
  case hia5 => (simp only [List.getElem?_toArray, List.getElem?_cons_succ, List.getElem?_cons_zero]; rfl)
  case hQa5 => exact fun _ _ _ h => h
  case hya5 => (refine Or.inl ⟨by rfl, ?_⟩; intro w hSw; (try dsimp only at hSw); go_simp; try with_reducible rfl)
  try simp only [Act.put, List.setIfInBounds_toArray, List.set_cons_zero, List.set_cons_succ]
  refine wpAnyH_take (i := 6) (oi := ?oia6) (v := ?vva6) ?hia6 (by kernel_rfl) (by kernel_rfl) (by kernel_rfl) ?hQa6 ?hya6 (by assumption) ?resta6
  case hia6 => (simp only [List.getElem?_toArray, List.getElem?_cons_succ, List.getElem?_cons_zero]; rfl)
  case hQa6 => exact fun _ _ _ h => h
  case hya6 => (refine Or.inl ⟨by rfl, ?_⟩; intro w hSw; (try dsimp only at hSw); go_simp; try with_reducible rfl)
  try simp only [Act.put, List.setIfInBounds_toArray, List.set_cons_zero, List.set_cons_succ]
  refine wpAnyH_take (i := 7) (oi := ?oia7) (v := ?vva7) ?hia7 (by kernel_rfl) (by kernel_rfl) (by kernel_rfl) ?hQa7 ?hya7 (by assumption) ?resta7
  case hia7 => (simp only [List.getElem?_toArray, List.getElem?_cons_succ, List.getElem?_cons_zero]; rfl)
  case hQa7 => exact fun _ _ _ h => h
  case hya7 => (refine Or.inl ⟨by rfl, ?_⟩; intro w hSw; (try dsimp only at hSw); go_simp; try with_reducible rfl)
  try simp only [Act.put, List.setIfInBounds_toArray, List.set_cons_zero, List.set_cons_succ]
  refine wpAnyH_take (i := 8) (oi := ?oia8) (v := ?vva8) ?hia8 (by kernel_rfl) (by kernel_rfl) (by kernel_rfl) ?hQa8 ?hya8 (by assumption) ?resta8
  case hia8 => (simp only [List.getElem?_toArray, List.getElem?_cons_succ, List.getElem?_cons_zero]; rfl)
  case hQa8 => exact fun _ _ _ h => h
  case hya8 => (refine Or.inl ⟨by rfl, ?_⟩; intro w hSw; (try dsimp only at hSw); go_simp; try with_reducible rfl)
  try simp only [Act.put, List.setIfInBounds_toArray, List.set_cons_zero, List.set_cons_succ]
  refine wpAnyH_take (i := 9) (oi := ?oia9) (v := ?vva9) ?hia9 (by kernel_rfl) (by kernel_rfl) (by kernel_rfl) ?hQa9 ?hya9 (by assumption) ?resta9
  case hia9 => (simp only [List.getElem?_toArray, List.getElem?_cons_succ, List.getElem?_cons_zero]; rfl)
  case hQa9 => exact fun _ _ _ h => h
  case hya9 => (refine Or.inl ⟨by rfl, ?_⟩; intro w hSw; (try dsimp only at hSw); go_simp; try with_reducible rfl)
  try simp only [Act.put, List.setIfInBounds_toArray, List.set_cons_zero, List.set_cons_succ]
  refine wpAnyH_take (i := 10) (oi := ?oia10) (v := ?vva10) ?hia10 (by kernel_rfl) (by kernel_rfl) (by kernel_rfl) ?hQa10 ?hya10 (by assumption) ?resta10
  case hia10 => (simp only [List.getElem?_toArray, List.getElem?_cons_succ, List.getElem?_cons_zero]; rfl)
  case hQa10 => exact fun _ _ _ h => h
  case hya10 => (refine Or.inl ⟨by rfl, ?_⟩; intro w hSw; (try dsimp only at hSw); go_simp; try with_reducible rfl)
  try simp only [Act.put, List.setIfInBounds_toArray, List.set_cons_zero, List.set_cons_succ]
  refine wpAnyH_ready (rs := [11]) (by kernel_rfl) (by simp) ?_
  refine AllReadyH.cons (o := ?oa11) ?hoa11 (fun Kz hK => ?sta11) AllReadyH.nil
  case hoa11 => (simp only [List.getElem?_toArray, List.getElem?_cons_succ, List.getElem?_cons_zero]; rfl)
  go_simp
  refine HC.out.mono ?_
  rintro x2 w2 ⟨rfl, hm, hk⟩
  obtain ⟨K2, G⟩ := HH1.out.turnK (s := noQ) hm hk
  have d0 := G.at_.cells.1
  have d3 := G.at_.cells.2.2.2.1
  rw [G.cp, G.p] at d0
  rw [G.cp] at d3
  have HA := Lib.hid (setAge_any G.at_.mem (by show (c.m.setCol x c.white).obs.length ≤ _; rw [(lk_setCol _ _ _).len]; exact HS.out) x 0)
  rw [G.p] at HA
  have HG := Lib.hid G
  clear hm hk G
  go_simp
  refine hK.out _ _ ⟨d0, d3⟩ (fun hHeld => ?_)
  clear hK Kz
  try simp only [Act.put, List.setIfInBounds_toArray, List.set_cons_zero, List.set_cons_succ]
  refine wpAnyH_done (by kernel_rfl) ?_ _
  refine NoPanic.normal ?_
  go_wp2_with fail
  refine HA.out.mono ?_
  rintro x3 w3 ⟨rfl, hm, hk⟩
  have HR := Lib.hid (show UnitTo allQ w K (birth c x) (.returned (.tuple #[])) w3 from ⟨rfl, (CTo.ahead (drew_below w) HH.out (HG.out.to (HG.out.at_.turnK hm hk))).all⟩)
  clear hm hk
  go_wp2_with fail
  first | go_end0 | refine bodyPost_ret (results_none rfl _ _ _) rfl ?_
  exact HR.out
end Go.Proofs.YtminbemdcanakaaGreat
/- A whole collection: the second closure. -/
namespace Go.Proofs.YtminbemdcanakaaGreat
open Go.RowKit Go.Shelf
set_option linter.unusedVariables false
set_option linter.unusedSimpArgs false
attribute [local go_sem] Oper.semAt_some meth_order meth_thing meth_kind meth_cells meth_colour meth_age meth_setColour meth_setAge meth_setFin meth_clear meth_drop meth_roots

variable {w : World} {K : CL} {c : Cs}
/-- Facts of a collector and its box, in worlds behind. -/
structure BC (w : World) (K : CL) (c : Cs) (bc : Nat) : Prop where
  at_ : CAt w K c
  n : c.m.obs.length ≤ 100000
  w01 : W01 c
  bx : Box w bc [.pointer (some ⟨K.cp, 0, none⟩)] 59
  nb : ¬ K.own bc
theorem BC.below {bc : Nat} (h : BC w K c bc) {w' : World} (hb : Below w.heap.size w w') : BC w' K c bc := ⟨h.at_.below hb, h.n, h.w01, h.bx.below hb h.bx.lt, h.nb⟩
theorem BC.cells {bc : Nat} (h : BC w K c bc) : w.cell? ⟨bc, 0, none⟩ = some (.pointer (some ⟨K.cp, 0, none⟩)) ∧ w.cell? ⟨K.cp, 0, none⟩ = some (memI K.L.p) ∧ w.cell? ⟨K.cp, 1, none⟩ = some (.int .i64 c.mode) ∧ w.cell? ⟨K.cp, 3, none⟩ = some (.int .i64 c.white) := ⟨h.bx.cell 0, h.at_.cells.1, h.at_.cells.2.1, h.at_.cells.2.2.2.1⟩
theorem BC.to {bc : Nat} (h : BC w K c bc) {w' : World} {c' : Cs} {s : Nat → Prop} (k : CTo s w K w' c') (hw : c'.white = c.white) : w'.cell? ⟨bc, 0, none⟩ = some (.pointer (some ⟨K.cp, 0, none⟩)) ∧ w'.cell? ⟨K.cp, 3, none⟩ = some (.int .i64 c.white) := by
  have hb := k.box h.bx h.nb
  obtain ⟨K', G⟩ := k
  have := G.at_.cells.2.2.2.1
  rw [G.cp, hw] at this
  exact ⟨hb.cell 0, this⟩
set_option maxRecDepth 100000 in
set_option maxHeartbeats 4000000 in
theorem majorEnd_any {bc : Nat} {x : Int} (h : BC w K c bc) : Calls Tryz.prog 95 #[.int .i64 x, .pointer (some ⟨bc, 0, none⟩)] w fun e w' => UnitTo allQ w K (majorEnd c x) e w' := by
  have HH := Lib.hid h
  have HD := Lib.hid (fun (n : Nat) => h.below (below_drewN (Below.refl w.heap.size w) n))
  obtain ⟨b0, c0, c1, c3⟩ := h.cells
  have HCO := Lib.hid (fun (n : Nat) => colour_any (HD.out n).at_.mem h.n x)
  have HOT := Lib.hid (fun (n : Nat) => other_same (HD.out n).at_ h.w01)
  obtain ⟨oc, hoc⟩ : ∃ oc, oc = other c := ⟨_, rfl⟩
  obtain ⟨co, hco⟩ : ∃ co, co = c.m.col x := ⟨_, rfl⟩
  rw [← hoc] at HOT
  rw [← hco] at HCO
  have HOC := Lib.hid hoc
  have HCC := Lib.hid hco
  clear h hoc hco
  by_cases k1 : co = oc
  · have e1 : (co == oc) = true := by simp [k1]
    have HE := Lib.hid (show majorEnd c x = c.withM (c.m.drop x) by unfold majorEnd; rw [if_pos (by rw [← HCC.out, ← HOC.out]; exact k1)])
    clear k1
    go_enter Tryz.func95, Tryz.ntmps95
    go_wp2_with fail
    go_quiet (first | (go_at_call 65; exact Calls.quiet_of_same (HCO.out _)) | (go_at_call 96; exact Calls.quiet_of_same (HOT.out _)))
    have HDR := Lib.hid (drop_any (HD.out nq).at_.mem HH.out.n x)
    go_wp2_with fail
    refine HDR.out.mono ?_
    rintro x3 w3 ⟨rfl, hm, hk⟩
    have HR := Lib.hid (show UnitTo allQ w K (majorEnd c x) (.returned (.tuple #[])) w3 from ⟨rfl, by rw [HE.out]; exact CTo.ahead (below_drewN (Below.refl _ _) nq) HH.out.at_ ((HD.out nq).at_.turnK hm hk)⟩)
    clear hm hk
    go_wp2_with fail
    first | go_end0 | refine bodyPost_ret (results_none rfl _ _ _) rfl ?_
    exact HR.out
  · have e1 : (co == oc) = false := by simp [k1]
    have HK1 := Lib.hid (show ¬ c.m.col x = other c by rw [← HCC.out, ← HOC.out]; exact k1)
    clear k1
    by_cases m1 : c.mode = 1
    · have e2 : (c.mode == 1) = true := by simp [m1]
      have HE := Lib.hid (show majorEnd c x = setCA c x 3 4 by unfold majorEnd; rw [if_neg HK1.out, if_pos m1])
      clear m1
      go_enter Tryz.func95, Tryz.ntmps95
      go_wp2_with fail
      go_quiet (first | (go_at_call 65; exact Calls.quiet_of_same (HCO.out _)) | (go_at_call 96; exact Calls.quiet_of_same (HOT.out _)))
      have HSE := Lib.hid (cset_any (HD.out nq).at_ HH.out.n x 3 4)
      go_wp2_with fail
      refine HSE.out.mono ?_
      rintro x3 w3 ⟨rfl, hT⟩
      have HR := Lib.hid (show UnitTo allQ w K (majorEnd c x) (.returned (.tuple #[])) w3 from ⟨rfl, by rw [HE.out]; exact CTo.ahead (below_drewN (Below.refl _ _) nq) HH.out.at_ hT.all⟩)
      clear hT
      go_wp2_with fail
      first | go_end0 | refine bodyPost_ret (results_none rfl _ _ _) rfl ?_
      exact HR.out
    · have e2 : (c.mode == 1) = false := by simp [m1]
      have HE := Lib.hid (show majorEnd c x = setCA c x c.white 0 by unfold majorEnd; rw [if_neg HK1.out, if_neg m1])
      clear m1
      go_enter Tryz.func95, Tryz.ntmps95
      go_wp2_with fail
      go_quiet (first | (go_at_call 65; exact Calls.quiet_of_same (HCO.out _)) | (go_at_call 96; exact Calls.quiet_of_same (HOT.out _)))
      have HB1 := Lib.hid (below_drewN (below_drewN (Below.refl w.heap.size w) nq) 1)
      have HBD := Lib.hid (HH.out.below HB1.out)
      have HSE := Lib.hid (cset_any HBD.out.at_ HH.out.n x c.white 0)
      go_wp2_with fail
      refine wp_region_noPanic ?_
      refine wp_region_held_drew (S := (fun W => W.cell? ⟨bc, 0, none⟩ = some (.pointer (some ⟨K.cp, 0, none⟩)) ∧ W.cell? ⟨K.cp, 3, none⟩ = some (.int .i64 c.white))) (by kernel_rfl) ?_ (fun hHeld => ?_)
      · exact ⟨HBD.out.cells.1, HBD.out.cells.2.2.2⟩
      refine wpAnyH_take (i := 0) (oi := ?oia0) (v := ?vva0) ?hia0 (by kernel_rfl) (by kernel_rfl) (by kernel_rfl) ?hQa0 ?hya0 (by assumption) ?resta0
      case hia0 => (simp only [List.getElem?_toArray, List.getElem?_cons_succ, List.getElem?_cons_zero]; rfl)
      case hQa0 => exact fun _ _ _ h => h
      case hya0 => (refine Or.inl ⟨by rfl, ?_⟩; intro w hSw; (try dsimp only at hSw); go_simp; try with_reducible rfl)
      try simp only [Act.put, List.setIfInBounds_toArray, List.set_cons_zero, List.set_cons_succ]
      refine wpAnyH_take (i := 1) (oi := ?oia1) (v := ?vva1) ?hia1 (by kernel_rfl) (by kernel_rfl) (by kernel_rfl) ?hQa1 ?hya1 (by assumption) ?resta1
      case hia1 => (simp only [List.getElem?_toArray, List.getElem?_cons_succ, List.getElem?_cons_zero]; rfl)
      case hQa1 => exact fun _ _ _ h => h
      case hya1 => (refine Or.inl ⟨by rfl, ?_⟩; intro w hSw; (try dsimp only at hSw); go_simp; try with_reducible rfl)
      try simp only [Act.put, List.setIfInBounds_toArray, List.set_cons_zero, List.set_cons_succ]
      refine wpAnyH_take (i := 2) (oi := ?oia2) (v := ?vva2) ?hia2 (by kernel_rfl) (by kernel_rfl) (by kernel_rfl) ?hQa2 ?hya2 (by assumption) ?resta2
      case hia2 => (simp only [List.getElem?_toArray, List.getElem?_cons_succ, List.getElem?_cons_zero]; rfl)
      case hQa2 => exact fun _ _ _ h => h
      case hya2 => (refine Or.inl ⟨by rfl, ?_⟩; intro w hSw; (try dsimp only at hSw); go_simp; try with_reducible rfl)
      try simp only [Act.put, List.setIfInBounds_toArray, List.set_cons_zero, List.set_cons_succ]
      refine wpAnyH_take (i := 3) (oi := ?oia3) (v := ?vva3) ?hia3 (by kernel_rfl) (by kernel_rfl) (by kernel_rfl) ?hQa3 ?hya3 (by assumption) ?resta3
      case hia3 => (simp only [List.getElem?_toArray, List.getElem?_cons_succ, List.getElem?_cons_zero]; rfl)
      case hQa3 => exact fun _ _ _ h => h
      case hya3 => (refine Or.inl ⟨by rfl, ?_⟩; intro w hSw; (try dsimp only at hSw); go_simp; try with_reducible rfl)
      try simp only [Act.put, List.setIfInBounds_toArray, List.set_cons_zero, List.set_cons_succ]
      refine wpAnyH_take (i := 4) (oi := ?oia4) (v := ?vva4) ?hia4 (by kernel_rfl) (by kernel_rfl) (by kernel_rfl) ?hQa4 ?hya4 (by assumption) ?resta4
      case hia4 => (simp only [List.getElem?_toArray, List.getElem?_cons_succ, List.getElem?_cons_zero]; rfl)
      case hQa4 => exact fun _ _ _ h => h
      case hya4 => (refine Or.inl ⟨by rfl, ?_⟩; intro w hSw; (try dsimp only at hSw); go_simp; try with_reducible rfl)
      try simp only [Act.put, List.setIfInBounds_toArray, List.set_cons_zero, List.set_cons_succ]
      refine wpAnyH_take (i := 5) (oi := ?oia5) (v := ?vva5) ?hia5 (by kernel_rfl) (by kernel_rfl) (by kernel_rfl) ?hQa5 ?hya5 (by assumption) ?resta5
      case hia5 => (simp only [List.getElem?_toArray, List.getElem?_cons_succ, List.getElem?_cons_zero]; rfl)
      case hQa5 => exact fun _ _ _ h => h
      case hya5 => (refine Or.inl ⟨by rfl, ?_⟩; intro w hSw; (try dsimp only at hSw); go_simp; try with_reducible rfl)
      try simp only [Act.put, List.setIfInBounds_toArray, List.set_cons_zero, List.set_cons_succ]
      refine wpAnyH_ready (rs := [6]) (by kernel_rfl) (by simp) ?_
      refine AllReadyH.cons (o := ?oa6) ?hoa6 (fun Kz hK => ?sta6) AllReadyH.nil
      case hoa6 => (simp only [List.getElem?_toArray, List.getElem?_cons_succ, List.getElem?_cons_zero]; rfl)
      go_simp
      refine HSE.out.mono ?_
      rintro x5 w5 ⟨rfl, hT⟩
      have hS := HBD.out.to hT rfl
      have HR := Lib.hid (show UnitTo allQ w K (majorEnd c x) (.returned (.tuple #[])) w5 from ⟨rfl, by rw [HE.out]; exact CTo.ahead HB1.out HH.out.at_ hT.all⟩)
      clear hT
      go_simp
      refine hK.out _ _ hS (fun hHeld => ?_)
      clear hK Kz
      try simp only [Act.put, List.setIfInBounds_toArray, List.set_cons_zero, List.set_cons_succ]
      refine wpAnyH_done (by kernel_rfl) ?_ _
      refine NoPanic.normal ?_
      go_wp2_with fail
      first | go_end0 | refine bodyPost_ret (results_none rfl _ _ _) rfl ?_
      exact HR.out
end Go.Proofs.YtminbemdcanakaaGreat
