/- TableFull: a value for which there is no room is refused, and the table is as it was: the law returns true for every number of slots and list of calls. -/
import Derived.Test.YtpodgmajccmgkaaRows
import Derived.Test.YtpodgmajccmgkaaTabSz
namespace Go.Proofs.Ytpodgmajccmgkaa.tableFull
open Go.ChangeShapes Go.WideShapes Go.ChangeAt Go.RowKit Go.Shelf
set_option linter.unusedVariables false
set_option linter.unusedSimpArgs false
attribute [local go_sem] Oper.semAt_some nil_slot field_t meth_array meth_nodes meth_slot meth_setslot meth_resize meth_hash

theorem own : ownKnob Try.prog.godebug = none := by kernel_rfl

variable {w0 w w' : World} {p : Nat} {sv sv' : Value} {T T' : Tb}

theorem wf_i64 {n : Int} (h : (Lit.int .i64 n).wf = true) : n < 2 ^ 63 ∧ -(2 ^ 63) ≤ n := by
  have h1 : IntKind.i64.min = -9223372036854775808 := rfl
  simp [Lit.wf] at h
  omega

def wasL (T : Tb) (j : Nat) : List V := (List.range j).map fun (i : Nat) => slotT T (i : Int)
theorem wasL_succ (T : Tb) (j : Nat) : wasL T (j + 1) = wasL T j ++ [slotT T (j : Int)] := by unfold wasL; rw [List.range_succ, List.map_append]; rfl
theorem wasL_get (T : Tb) {j n : Nat} (h : j < n) : (wasL T n)[j]? = some (slotT T (j : Int)) := by unfold wasL; rw [List.getElem?_map, List.getElem?_range h]; rfl
theorem flatV_snoc (l : List V) (v : V) : flatV (l ++ [v]) = flatV l ++ [.int .i64 v.t, .int .i64 v.n] := by simp [flatV, V.cells]
theorem flatV_one (x y : Int) : ∀ v ∈ [Value.int .i64 x, .int .i64 y], v.oneCell' = true := by
  intro v hv
  simp at hv
  rcases hv with rfl | rfl <;> rfl
theorem row_keep {W W' : World} {base : Nat} {e : TypeId} {size : Nat} {v : Value} {n : Nat} {xs : List Value} (h : W.ownsRow base e size v n xs) {B : Nat → Prop} (hk : Keep B W W') (hB : ∀ k, B k → k < base) : W'.ownsRow base e size v n xs := by
  refine ⟨h.1, h.2.imp id ?_⟩
  rintro ⟨g, cap, cur, hv, hb, hg, h4⟩
  exact ⟨g, cap, cur, hv, hb, (hk.block g (Array.getElem?_eq_some_iff.1 hg).1 (fun hh => by have := hB g hh; omega)).trans hg, h4⟩

theorem hasT_grown (H : HasT w0 w p sv T) {row : Option Nat} {B : Nat} (hg : w.grownBy w' row) (hr : ∀ r, row = some r → B ≤ r) (hown : ∀ k, OwnS p sv k → k < B) (hB : w0.heap.size ≤ B) : HasT w0 w' p sv T :=
  ⟨H.m.keep (B := fun k => row = some k) ⟨hg.os, hg.tape, hg.output, hg.size, fun k hk hb => hg.block k hk (fun e => hb e.symm)⟩ (fun k hk e => by have := hown k hk; have := hr k e; omega), H.own,
    H.b.grown hg H.b.size (fun r e => Nat.le_trans hB (hr r e)), H.pow, H.most⟩
theorem row_up {W W' : World} {base : Nat} {e : TypeId} {size : Nat} {v : Value} {n : Nat} {xs : List Value} (h : W.ownsRow base e size v n xs) (hb : Below W.heap.size W W') : W'.ownsRow base e size v n xs :=
  row_keep (B := fun _ => False) h (Keep.of_below hb) (fun _ h => h.elim)

set_option maxRecDepth 100000 in
set_option maxHeartbeats 3000000 in
theorem walk (most : Int) (A : Option Addr) (l : List ActV) (c : Nat) (w : World) (hmo : (Lit.int .i64 most).wf = true) (hl : Lst w w.heap.size A l) (hlen : l.length ≤ maxLen) :
    Calls Try.prog 7 #[.int .i64 most, .slice A l.length c] w fun e w' => e = .returned (.bool true) ∧ Below w.heap.size w w' := by
  have hmost := wf_i64 hmo
  obtain ⟨N, hN⟩ : ∃ N, N = l.length := ⟨_, rfl⟩
  rw [← hN] at hlen ⊢
  have HN := Lib.hid hN
  have HLEN := Lib.hid hlen
  have HL := Lib.hid hl
  clear hN hl hlen hmo
  go_enter Try.func7, Try.ntmps7
  go_wp2_with fail
  refine (new_has most hmost _).mono ?_
  rintro e w1 ⟨p, rfl, H⟩
  have HH := Lib.hid H
  clear H
  go_wp2_with fail
  refine (alive_any _).mono ?_
  rintro e w2 ⟨rfl, hb⟩
  have H2 := Lib.hid (HH.out.step hb)
  clear hb HH
  obtain ⟨i0, hi0, hz0, hz1, hz2⟩ := info_parts Try.infoV27
  go_wp2_with fail
  go_loopw [6] (fun t6 wr => ∃ (i : Nat) (sv : Value) (T : Tb), i ≤ N ∧ i ≤ 80 ∧ t6 = .int .i64 i ∧ HasT w wr p sv T ∧ MT T i ∧ Fits T ∧ T.most = most) (fun t6 _ => 80 - (intOf t6).toNat)
  case atStart => exact ⟨0, _, _, Nat.zero_le _, Nat.zero_le _, by go_num, H2.out, MT.start most, by unfold Fits Tb.nodes; simp; omega, rfl⟩
  case round =>
    obtain ⟨i, sv, T, hi, hi8, rfl, H1, hmt, hfi, hme⟩ := hrel
    by_cases hlt : i < N
    · by_cases hlt8 : i < 80
      · obtain ⟨a, ha⟩ : ∃ a, l[i]? = some a := ⟨l[i]'(by rw [← HN.out]; exact hlt), List.getElem?_eq_getElem _⟩
        obtain ⟨B, hBB⟩ : ∃ B, B = wr.heap.size := ⟨_, rfl⟩
        have HOWN := Lib.hid (show ∀ k, OwnS p sv k → k < B from fun k hk => by rw [hBB]; exact H1.m.own_lt hk)
        have HW0 := Lib.hid (show w.heap.size ≤ B from by rw [hBB]; exact H1.b.size)
        have hnl := nodes_le H1.m.le
        have hsm := H1.m.small
        have HMT := Lib.hid hmt
        have HFI := Lib.hid hfi
        have HME := Lib.hid hme
        have H1' := Lib.hid H1
        have HBB := Lib.hid hBB
        obtain ⟨ad, hA, hB, hc⟩ := (HL.out.below H1.b) i a ha
        obtain ⟨kind, ⟨kt, kn⟩, ⟨vt, vn⟩, ai⟩ := a
        subst hA
        have HCC := Lib.hid (show ∀ wx, Below w.heap.size w wx → wx.cell? (ad.add (i * 6)) = some (.int .i64 kind) ∧ wx.cell? ⟨(ad.add (i * 6)).block, (ad.add (i * 6)).off + 1, none⟩ = some (.int .i64 kt) ∧ wx.cell? ⟨(ad.add (i * 6)).block, (ad.add (i * 6)).off + 1 + 1, none⟩ = some (.int .i64 kn) ∧
            wx.cell? ⟨(ad.add (i * 6)).block, (ad.add (i * 6)).off + 3, none⟩ = some (.int .i64 vt) ∧ wx.cell? ⟨(ad.add (i * 6)).block, (ad.add (i * 6)).off + 3 + 1, none⟩ = some (.int .i64 vn) from fun wx hb => by
          obtain ⟨ad', hA', _, hc'⟩ := (HL.out.below hb) i _ ha
          simp only [Option.some.injEq] at hA'
          subst hA'
          exact ⟨hc' 0 _ rfl, hc' 1 _ rfl, hc' 2 _ rfl, hc' 3 _ rfl, hc' 4 _ rfl⟩)
        obtain ⟨na, hna⟩ : ∃ a, a = T.a := ⟨_, rfl⟩
        obtain ⟨nn, hnn⟩ : ∃ a, a = T.nodes := ⟨_, rfl⟩
        have AC := array_any H1.m
        have NC := nodes_any H1.m
        rw [← hna] at AC
        rw [← hnn] at NC
        rw [← hna, ← hnn] at hnl
        have HNA := Lib.hid hna
        have HNN := Lib.hid hnn
        clear hc ha H1 hmt hfi hme hB hBB hna hnn
        go_wp2_with fail
        refine AC.mono ?_
        clear AC
        rintro e w3 ⟨rfl, rfl⟩
        go_wp2_with fail
        refine NC.mono ?_
        clear NC
        rintro e w3 ⟨rfl, hb3⟩
        have H3 := Lib.hid (H1'.out.step hb3)
        have hB3 : B ≤ w3.heap.size := by rw [HBB.out]; exact hb3.size
        clear hb3 H1'
        obtain ⟨M, hM⟩ : ∃ M, M = na + 2 * nn := ⟨_, rfl⟩
        have q1 : IntKind.i64.wrap (2 * (nn : Int)) = 2 * (nn : Int) := IntWalk.i64_in _ (by omega)
        have q2 : IntKind.i64.wrap ((na : Int) + 2 * (nn : Int)) = (M : Int) := by rw [IntWalk.i64_in _ (by omega)]; omega
        have hM6 : M ≤ 1000000 := by omega
        have HMM := Lib.hid hM
        clear hM
        go_wp2_with fail
        go_loopw [9, 10] (fun t9 t10 wx => ∃ j : Nat, j ≤ M ∧ t10 = .int .i64 j ∧ wx.ownsRow B 27 2 t9 j (flatV (wasL T j)) ∧ HasT w wx p sv T ∧ B ≤ wx.heap.size) (fun _ t10 _ => M - (intOf t10).toNat)
        case atStart => exact ⟨0, Nat.zero_le _, by go_num, World.ownsRow_nil _ _ _ _, H3.out, hB3⟩
        case round =>
          obtain ⟨j, hj, rfl, hrow, hr, hBx⟩ := hrel
          by_cases hjm : j < M
          · have SC := slot_any hr.m (j : Int)
            have hwl := wasL_succ T j
            obtain ⟨⟨st, sn⟩, hst⟩ : ∃ s, s = slotT T (j : Int) := ⟨_, rfl⟩
            rw [← hst] at SC hwl
            unfold V.val at SC
            simp only at SC
            have HROW := Lib.hid hrow
            have HR := Lib.hid hr
            have HWL := Lib.hid hwl
            clear hrow hr hst hwl
            go_wp2_with fail
            refine SC.mono ?_
            clear SC
            rintro e w6 ⟨rfl, hb6⟩
            have HROW6 := Lib.hid (row_up HROW.out hb6)
            have HR6 := Lib.hid (HR.out.step hb6)
            have hB6 : B ≤ (w6.alloc (.cells #[.int .i64 st, .int .i64 sn] 27)).heap.size := by have := hb6.size; simp; omega
            have hnews := cell_new4 w6 [.int .i64 st, .int .i64 sn] 27
            clear hb6 HROW HR
            go_wp2_with (at_builtin; refine wpList_append_own _ rfl _ _ 25 rfl B 27 i0 (.agg #[.int .i64 0, .int .i64 0]) 2 16 Try.underlying25 hi0 hz0 hz1 hz2 rfl (by decide) _ _ _ rfl (HROW6.out.alloc _) _ _ _ [.int .i64 st, .int .i64 sn] rfl rfl hnews (flatV_one _ _) (by unfold maxLen; omega) (by omega) hB6 ?_)
            intro v' w7 hown7 hg7 _
            have HO7 := Lib.hid hown7
            have HR7 := Lib.hid (hasT_grown (HR6.out.step (below_alloc _ _)) hg7 (fun r hr => (row_ge (HROW6.out.alloc (.cells #[.int .i64 st, .int .i64 sn] 27)) r hr).1) HOWN.out HW0.out)
            have hB7 : B ≤ w7.heap.size := Nat.le_trans hB6 hg7.size
            clear hown7 hg7 hnews hB6
            go_wp2_with fail
            go_roundw
            case rel => exact ⟨j + 1, by omega, by go_num, by rw [HWL.out, flatV_snoc]; exact HO7.out, HR7.out, hB7⟩
            case measure => simp [intOf]; omega
          · obtain rfl : j = M := by omega
            obtain ⟨A', cap', rfl, hA'⟩ : ∃ A' cap', u9 = .slice A' j cap' ∧ (0 < j → ∃ g, A' = some ⟨g, 0, none⟩) := by
              rcases hrow.2 with ⟨rfl, h0⟩ | ⟨g, cap, cur, rfl, -⟩
              · exact ⟨none, 0, by rw [h0], fun h => by omega⟩
              · exact ⟨_, cap, rfl, fun _ => ⟨g, rfl⟩⟩
            have HROW := Lib.hid hrow
            have HR := Lib.hid hr
            have HA := Lib.hid hA'
            clear hrow hr hA'
            obtain ⟨hc0, hc1, hc2, hc3, hc4⟩ := HCC.out _ HR.out.b
            by_cases hk : kind = 1
            · subst hk
              have HRS := Lib.hid (show ∀ w', Below w.heap.size w w' → _ from fun w' (h : Below w.heap.size w w') => And.intro h (HCC.out w' h))
              have hm2 := HMT.out.set (by omega) ⟨kt, kn⟩ ⟨vt, vn⟩
              have hf2 := setR_fits HFI.out ⟨kt, kn⟩ ⟨vt, vn⟩
              have hmo2 := setR_most T ⟨kt, kn⟩ ⟨vt, vn⟩
              have href := @setR_refused T HMT.out.wf (by have := HMT.out.cnt; omega) ⟨kt, kn⟩ ⟨vt, vn⟩
              have SC := set_has (HR.out.step (Below.refl _ wr).drew) (by have := HMT.out.cnt; omega) ⟨kt, kn⟩ ⟨vt, vn⟩
              obtain ⟨⟨T2, r⟩, hg⟩ : ∃ g, g = setR T ⟨kt, kn⟩ ⟨vt, vn⟩ := ⟨_, rfl⟩
              rw [← hg] at hm2 hf2 hmo2 href SC
              simp only at hm2 hf2 hmo2 href SC
              have HSC := Lib.hid SC
              have HM2 := Lib.hid hm2
              have HF2 := Lib.hid hf2
              have HMO2 := Lib.hid (hmo2.trans HME.out)
              have HREF := Lib.hid href
              clear hm2 hf2 hmo2 href SC hg
              by_cases hr0 : r = 0
              · have hr1 : (r == 0) = true := by simp [hr0]
                subst hr0
                go_wp2_with fail
                go_region_held3 (fun w' => Below w.heap.size w w' ∧ w'.cell? (ad.add (i * 6)) = some (.int .i64 1) ∧ w'.cell? ⟨(ad.add (i * 6)).block, (ad.add (i * 6)).off + 1, none⟩ = some (.int .i64 kt) ∧ w'.cell? ⟨(ad.add (i * 6)).block, (ad.add (i * 6)).off + 1 + 1, none⟩ = some (.int .i64 kn) ∧ w'.cell? ⟨(ad.add (i * 6)).block, (ad.add (i * 6)).off + 3, none⟩ = some (.int .i64 vt) ∧ w'.cell? ⟨(ad.add (i * 6)).block, (ad.add (i * 6)).off + 3 + 1, none⟩ = some (.int .i64 vn)) (first | (with_reducible assumption) | exact HRS.out _ HR.out.b.drew) ((first | (go_at_call 16; refine HSC.out.mono ?_; rintro e w4 ⟨sv4, rfl, H4, hv4⟩; have H5 := Lib.hid H4; have s1 := HRS.out _ H4.b; clear H4 hv4) | (go_at_call 12; refine (no_any _ _).mono ?_; rintro e wn ⟨rfl, rfl⟩)))
                all_goals (
                  clear hc0 hc1 hc2 hc3 hc4
                  go_wp2_with fail
                  go_roundw
                  case rel => exact ⟨i + 1, _, T2, by omega, by omega, by go_num, H5.out, HM2.out, HF2.out, HMO2.out⟩
                  case measure => simp [intOf]; omega)
              · have hr1 : (r == 0) = false := by simp [hr0]
                have HT2 := Lib.hid (HREF.out hr0)
                go_wp2_with fail
                go_region_held3 (fun w' => Below w.heap.size w w' ∧ w'.cell? (ad.add (i * 6)) = some (.int .i64 1) ∧ w'.cell? ⟨(ad.add (i * 6)).block, (ad.add (i * 6)).off + 1, none⟩ = some (.int .i64 kt) ∧ w'.cell? ⟨(ad.add (i * 6)).block, (ad.add (i * 6)).off + 1 + 1, none⟩ = some (.int .i64 kn) ∧ w'.cell? ⟨(ad.add (i * 6)).block, (ad.add (i * 6)).off + 3, none⟩ = some (.int .i64 vt) ∧ w'.cell? ⟨(ad.add (i * 6)).block, (ad.add (i * 6)).off + 3 + 1, none⟩ = some (.int .i64 vn)) (first | (with_reducible assumption) | exact HRS.out _ HR.out.b.drew) ((first | (go_at_call 16; refine HSC.out.mono ?_; rintro e w4 ⟨sv4, rfl, H4, hv4⟩; have H5 := Lib.hid H4; have HV := Lib.hid hv4; have s1 := HRS.out _ H4.b; clear H4 hv4) | (go_at_call 12; refine (no_any _ _).mono ?_; rintro e wn ⟨rfl, rfl⟩)))
                all_goals (
                  clear hc0 hc1 hc2 hc3 hc4
                  have H5' := H5.out
                  rw [HT2.out] at H5'
                  have hrow4 := row_keep (W := wr.drew) HROW.out HV.out.1 HOWN.out
                  have AC := array_any H5'.m
                  have NC := nodes_any H5'.m
                  rw [← HNA.out] at AC
                  rw [← HNN.out] at NC
                  have HROW4 := Lib.hid hrow4
                  have H6 := Lib.hid H5'
                  clear hrow4 H5'
                  go_wp2_with fail
                  refine AC.mono ?_
                  clear AC
                  rintro e w5 ⟨rfl, rfl⟩
                  go_wp2_with fail
                  refine NC.mono ?_
                  clear NC
                  rintro e w5 ⟨rfl, hb5⟩
                  have H7 := Lib.hid (H6.out.step hb5)
                  have HROW5 := Lib.hid (row_up HROW4.out hb5)
                  clear hb5 H6 HROW4
                  go_wp2_with fail
                  go_loopw [11] (fun t11 wx => ∃ m : Nat, m ≤ j ∧ t11 = .int .i64 m ∧ Below w5.heap.size w5 wx) (fun t11 _ => j - (intOf t11).toNat)
                  case atStart => exact ⟨0, Nat.zero_le _, by go_num, Below.refl _ _⟩
                  case round =>
                    obtain ⟨m, hm, rfl, hbx⟩ := hrel
                    by_cases hmj : m < j
                    · obtain ⟨g, rfl⟩ := HA.out (by omega)
                      have hwg := wasL_get T hmj
                      have k0 := HROW5.out.cells (g := g) rfl (m * 2 + 0) _ ((flatV_get hwg (k := 0) (by omega)).trans rfl)
                      have k1 := HROW5.out.cells (g := g) rfl (m * 2 + 1) _ ((flatV_get hwg (k := 1) (by omega)).trans rfl)
                      rw [addr_add, Nat.zero_add] at k0 k1
                      have hgl : g < w5.heap.size := cell_lt k0
                      have HSC := Lib.hid (show ∀ w', Below w5.heap.size w5 w' → _ from fun w' hb => slot_any (H7.out.m.below hb) (m : Int))
                      have hsc := HSC.out
                      obtain ⟨⟨st, sn⟩, hst⟩ : ∃ s, s = slotT T (m : Int) := ⟨_, rfl⟩
                      rw [← hst] at k0 k1 hsc
                      unfold V.val at hsc
                      simp only [Nat.add_zero] at k0 k1 hsc
                      have HSC2 := Lib.hid hsc
                      have HRS2 := Lib.hid (show ∀ w', Below w5.heap.size w5 w' → (Below w5.heap.size w5 w' ∧ w'.cell? ⟨g, m * 2, none⟩ = some (.int .i64 st) ∧ w'.cell? ⟨g, m * 2 + 1, none⟩ = some (.int .i64 sn)) from fun w' h =>
                        ⟨h, (h.cell (p := ⟨g, m * 2, none⟩) hgl).trans k0, (h.cell (p := ⟨g, m * 2 + 1, none⟩) hgl).trans k1⟩)
                      have HBX := Lib.hid hbx
                      clear hwg k0 k1 hsc HSC hst hbx
                      go_wp2_with fail
                      go_region_held3 (fun w' => Below w5.heap.size w5 w' ∧ w'.cell? ⟨g, m * 2, none⟩ = some (.int .i64 st) ∧ w'.cell? ⟨g, m * 2 + 1, none⟩ = some (.int .i64 sn)) (first | (with_reducible assumption) | exact HRS2.out _ HBX.out.drew) ((go_at_call 22; refine (HSC2.out _ (And.left (by with_reducible assumption))).mono ?_; rintro e wz ⟨rfl, hbz⟩; have s1 := HRS2.out _ (bl2 (And.left (by with_reducible assumption)) hbz)))
                      all_goals (
                        go_wp2_with fail
                        go_roundw
                        case rel => exact ⟨m + 1, by omega, by go_num, And.left (by with_reducible assumption)⟩
                        case measure => simp [intOf]; omega)
                    · obtain rfl : m = j := by omega
                      have HBX := Lib.hid (H7.out.step hbx)
                      clear hbx
                      go_wp2_with fail
                      go_roundw
                      case rel => exact ⟨i + 1, _, T, by omega, by omega, by go_num, HBX.out, ⟨HMT.out.wf, Nat.le_succ_of_le HMT.out.cnt⟩, HFI.out, HME.out⟩
                      case measure => simp [intOf]; omega)
            · have hk1 : (kind == 1) = false := by simp [hk]
              have hk2 : (kind != 1) = true := by simp [hk]
              go_wp2_with fail
              go_quiet (fail)
              all_goals (
                clear hc0 hc1 hc2 hc3 hc4
                go_wp2_with fail
                go_roundw
                case rel => exact ⟨i + 1, _, T, by omega, by omega, by go_num, HR.out.step (by first | exact (Below.refl _ _).drew | exact ⟨rfl, rfl, rfl, Nat.le_refl _, fun _ _ => rfl⟩), ⟨HMT.out.wf, Nat.le_succ_of_le HMT.out.cnt⟩, HFI.out, HME.out⟩
                case measure => simp [intOf]; omega)
      · obtain rfl : i = 80 := by omega
        have hfo := hfi
        unfold Fits at hfo
        rw [hme] at hfo
        have hnl := nodes_le H1.m.le
        have hsm := H1.m.small
        have AC := array_any H1.m
        have NC := nodes_any H1.m
        obtain ⟨na, hna⟩ : ∃ a, a = T.a := ⟨_, rfl⟩
        obtain ⟨nn, hnn⟩ : ∃ a, a = T.nodes := ⟨_, rfl⟩
        rw [← hna] at AC
        rw [← hnn] at NC
        rw [← hna, ← hnn] at hfo hnl
        have q1 : IntKind.i64.wrap (2 * (nn : Int)) = 2 * (nn : Int) := IntWalk.i64_in _ (by omega)
        have q2 : IntKind.i64.wrap ((na : Int) + 2 * (nn : Int)) = (na : Int) + 2 * (nn : Int) := IntWalk.i64_in _ (by omega)
        have HP := Lib.hid H1
        clear H1 hfi hme hna hnn
        go_wp2_with fail
        refine AC.mono ?_
        clear AC
        rintro e w3 ⟨rfl, rfl⟩
        go_wp2_with fail
        refine NC.mono ?_
        clear NC
        rintro e w3 ⟨rfl, hb3⟩
        have HB := Lib.hid (HP.out.step hb3).b
        clear hb3 HP
        by_cases hneg : most < 0
        · have hmx : max most 0 = 0 := by omega
          rw [hmx] at hfo
          go_wp2_with fail
          go_ret
          exact ⟨by first | (simp; done) | (simp; omega), HB.out⟩
        · have hmx : max most 0 = most := by omega
          rw [hmx] at hfo
          go_wp2_with fail
          go_ret
          exact ⟨by first | (simp; done) | (simp; omega), HB.out⟩
    · obtain rfl : i = N := by omega
      have hfo := hfi
      unfold Fits at hfo
      rw [hme] at hfo
      have hnl := nodes_le H1.m.le
      have hsm := H1.m.small
      have AC := array_any H1.m
      have NC := nodes_any H1.m
      obtain ⟨na, hna⟩ : ∃ a, a = T.a := ⟨_, rfl⟩
      obtain ⟨nn, hnn⟩ : ∃ a, a = T.nodes := ⟨_, rfl⟩
      rw [← hna] at AC
      rw [← hnn] at NC
      rw [← hna, ← hnn] at hfo hnl
      have q1 : IntKind.i64.wrap (2 * (nn : Int)) = 2 * (nn : Int) := IntWalk.i64_in _ (by omega)
      have q2 : IntKind.i64.wrap ((na : Int) + 2 * (nn : Int)) = (na : Int) + 2 * (nn : Int) := IntWalk.i64_in _ (by omega)
      have HP := Lib.hid H1
      clear H1 hfi hme hna hnn
      go_wp2_with fail
      refine AC.mono ?_
      clear AC
      rintro e w3 ⟨rfl, rfl⟩
      go_wp2_with fail
      refine NC.mono ?_
      clear NC
      rintro e w3 ⟨rfl, hb3⟩
      have HB := Lib.hid (HP.out.step hb3).b
      clear hb3 HP
      by_cases hneg : most < 0
      · have hmx : max most 0 = 0 := by omega
        rw [hmx] at hfo
        go_wp2_with fail
        go_ret
        exact ⟨by first | (simp; done) | (simp; omega), HB.out⟩
      · have hmx : max most 0 = most := by omega
        rw [hmx] at hfo
        go_wp2_with fail
        go_ret
        exact ⟨by first | (simp; done) | (simp; omega), HB.out⟩

set_option maxRecDepth 100000 in
theorem lifted (os : Os) (started : os.Started) (H : Type) (enc : TypeId × Value → H) :
    ReturnsInHanded {} Try.checked os 7 .any (Rows.tableFullSpec.pre6 enc Try.prog Try.f7 Rows.tableFullRow.domain false) (Rows.tableFullSpec.post enc Try.prog Try.f7 false true false false) := by
  refine returnsInHanded_of_change (C := Try.checked) own started (by kernel_rfl) Try.func7
    (ChangeSpec.witness6 (enc := enc) (C := Try.checked) false ⟨#[], #[.int .i64 0, .slice none 0 0], []⟩ 8 (by kernel_rfl) (by kernel_rfl) (by kernel_rfl) (by kernel_rfl)) ?_
  intro W base args ds gs before hval0 hW hcnd _
  have hval : ∀ (j : Nat) t v, Try.f7.params[j]? = some t → args[j]? = some v → Value.okWide Try.prog W .any base t v := hval0
  have hW' := hW
  obtain ⟨p, q, hA0, hV, rfl, hfz, hnd⟩ := hW
  have hA : DataW.TrodAll enc Try.prog W 0 (fun _ => true) true Try.f7.params.toList args.toList ds p := hA0
  rw [Try.params7] at hA hval
  obtain ⟨v0, vs0, d0, ds0, p0, q0, hargs, rfl, rfl, h0, r0⟩ := trodAll_cons hA
  obtain ⟨v1, vs1, d1, ds1, p1, q1, rfl, rfl, rfl, h1, r1⟩ := trodAll_cons r0
  obtain ⟨rfl, rfl, rfl⟩ := trodAll_nil r1
  obtain rfl : args = #[v0, v1] := by cases args; simp_all
  obtain ⟨rfl, rfl⟩ := trodVars_none hV
  simp only [List.append_nil] at hW'
  obtain ⟨a0, rfl, rfl, rfl, w0⟩ := open_int Try.underlying3 (hval 0 3 v0 rfl rfl) h0
  have h1k := h1
  obtain ⟨x1, y1, z1, rfl⟩ := okWide_slice Try.underlying22 (hval 1 22 v1 rfl rfl)
  obtain ⟨fuel1, hf1⟩ := h1
  obtain ⟨A1, l1, c1, hcs1, hl1, hlen1⟩ := open_acts hf1
  simp only [Value.cells, List.cons.injEq, and_true, Value.slice.injEq] at hcs1
  obtain ⟨rfl, rfl, rfl⟩ := hcs1
  clear hA0 hval0
  try simp only [List.append_nil] at hW'
  refine (walk a0 x1 l1 z1 W w0 hl1 hlen1).mono fun e W' ⟨he, hg⟩ => ?_
  subst he
  exact ⟨_, rfl, _, _, _, [], _, [], hW', (trodAll_cons_mk (shut_bool Try.underlying4 _) trodAll_mk0), (trodAll_cons_mk (shut_int Try.underlying3 w0) (trodAll_cons_mk (Below.trod Try.laidOut (by kernel_rfl) (of_decide_eq_true (by kernel_rfl)) h1k hg (fun x hx => by have := hW'.lt x (by simp [hx]); simpa using this)) trodAll_mk0)), rfl,
    hg.frame _, fun h => by cases h⟩

theorem over : Rows.tableFullRow.holds Try.pinned (OpenSpec.ofChange Rows.tableFullSpec) :=
  OpenClaim.holds_of_wide 7 Try.f7 rfl rfl rfl rfl rfl rfl rfl ⟨rfl, rfl, rfl, rfl, rfl⟩ rfl rfl rfl rfl rfl (by kernel_rfl) Try.func7 (by kernel_rfl)
    (of_decide_eq_true (by kernel_rfl)) (by unfold Func.isWrapper; first | (rw [if_pos (by decide +kernel)]; kernel_rfl) | (rw [if_neg (by decide +kernel)]; exact ⟨rfl, rfl⟩))
    (fun os started H enc _ => lifted os started H enc)

theorem proved : Rows.TableFullSaid :=
  over
#print axioms proved
end Go.Proofs.Ytpodgmajccmgkaa.tableFull
