/- Set. -/
import Derived.Test.YtpodgmajccmgkaaTabRenew
namespace Go.Proofs.Ytpodgmajccmgkaa
open Go.RowKit Go.Shelf
set_option linter.unusedVariables false
set_option linter.unusedSimpArgs false
attribute [local go_sem] Oper.semAt_some nil_slot field_t meth_array meth_nodes meth_slot meth_setslot meth_resize meth_hash

variable {w w' : World} {p : Nat} {sv sv' : Value} {T T' : Tb}

theorem renew_any (H : MemAt w p sv T) (hP : Pow2 T.nodes) (hpl : (pairsL T).length + 1 ≤ 8000) (hmost : T.most < 2 ^ 63 ∧ -(2 ^ 63) ≤ T.most) (k : V) : Calls Try.prog 37 #[.iface 23 (.pointer (some ⟨p, 0, none⟩)), .agg #[.int .i64 k.t, .int .i64 k.n]] w fun e w' => RenewPost w p sv T k e w' :=
  callsIn_wide.1 (renew_in Fence.wide 5 (fun _ => trivial) rfl rfl rfl (by omega) H hP hpl hmost k)

theorem putT_false {T : Tb} {k v : V} (h : (putT T k v).2 = false) : (putT T k v).1 = T := by
  unfold putT at h ⊢
  split at h
  · cases h
  · split at h
    · cases h
    · split at h
      · cases h
      · rename_i h1 h2 h3
        rw [if_neg h1, if_neg h2, if_neg h3]
theorem renewT_nodes (T : Tb) (k : V) (hP : Pow2 T.nodes) : Pow2 (renewT T k).1.nodes := by
  unfold renewT
  split
  · obtain ⟨h1, h2, -⟩ := foldl_shape (pairsL T) (sizedT T (newSz T k).1 (newSz T k).2)
    have h := (newSz_ok T k).2
    rw [← sizedT_nodes T (newSz T k).1 (newSz T k).2] at h
    unfold Tb.nodes at h ⊢
    simp only
    rw [h1, h2]; exact h
  · exact hP
theorem renewT_08 (T : Tb) (k : V) : (renewT T k).2 = 0 ∨ ((renewT T k).2 = 8 ∧ (renewT T k).1 = T) := by
  unfold renewT
  split
  · exact .inl rfl
  · exact .inr ⟨rfl, rfl⟩

theorem boxes3 {w w1 : World} {x y z y' z' : Value} {e e' e'' : TypeId} (hb : Below (((w.alloc (.cells #[x] e)).alloc (.cells #[y, z] e')).alloc (.cells #[y', z'] e'')).heap.size (((w.alloc (.cells #[x] e)).alloc (.cells #[y, z] e')).alloc (.cells #[y', z'] e'')) w1) :
    Box w1 w.heap.size [x] e ∧ Box w1 (w.heap.size + 1) [y, z] e' ∧ Box w1 (w.heap.size + 1 + 1) [y', z'] e'' ∧ Below w.heap.size w w1 := by
  obtain ⟨W0, hW0⟩ : ∃ W0, W0 = ((w.alloc (.cells #[x] e)).alloc (.cells #[y, z] e')).alloc (.cells #[y', z'] e'') := ⟨_, rfl⟩
  have hsz : W0.heap.size = w.heap.size + 3 := by rw [hW0]; simp
  have h0 : Box W0 w.heap.size [x] e := (by rw [hW0]; unfold Box World.alloc; simp only [Array.getElem?_push, Array.size_push]; repeat (first | rw [if_neg (by omega)] | rw [if_pos (by omega)] | rw [if_pos trivial]))
  have h1 : Box W0 (w.heap.size + 1) [y, z] e' := (by rw [hW0]; unfold Box World.alloc; simp only [Array.getElem?_push, Array.size_push]; repeat (first | rw [if_neg (by omega)] | rw [if_pos (by omega)] | rw [if_pos trivial]))
  have h2 : Box W0 (w.heap.size + 1 + 1) [y', z'] e'' := (by rw [hW0]; unfold Box World.alloc; simp only [Array.getElem?_push, Array.size_push]; repeat (first | rw [if_neg (by omega)] | rw [if_pos (by omega)] | rw [if_pos trivial]))
  have hB0 : Below w.heap.size w W0 := by rw [hW0]; exact (by repeat (first | exact Below.refl _ _ | refine Below.alloc ?_ (by first | (simp; done) | (simp; omega)) _ | refine Below.drew ?_ | refine Below.setCell ?_ (by first | (simp; done) | (simp; omega)) _))
  rw [← hW0] at hb
  exact ⟨h0.below hb (by omega), h1.below hb (by omega), h2.below hb (by omega), hB0.trans (hb.mono (by omega))⟩

def setR (T : Tb) (k v : V) : Tb × Int := match keyR k with
  | none => (T, 13)
  | some k' => if v.t = 11 then (T, 13) else if (putT T k' v).2 = true then ((putT T k' v).1, 0) else if (renewT T k').2 = 0 then ((putT (renewT T k').1 k' v).1, 0) else (T, (renewT T k').2)

def SetPost (w : World) (p : Nat) (sv : Value) (g : Tb × Int) (e : Ending) (w' : World) : Prop :=
  ∃ sv', e = .returned (.int .i64 g.2) ∧ MemAt w' p sv' g.1 ∧ Mv p sv w w' sv'

set_option maxRecDepth 100000 in
set_option maxHeartbeats 2000000 in
theorem set_any (H : MemAt w p sv T) (hP : Pow2 T.nodes) (hmost : T.most < 2 ^ 63 ∧ -(2 ^ 63) ≤ T.most) (hpl : (pairsL T).length + 1 ≤ 8000) (k v : V) : Calls Try.prog 16 #[memV p, k.val, v.val] w fun e w' => SetPost w p sv (setR T k v) e w' := by
  have K := key_any k
  have G : setR T k v = match keyR k with
    | none => (T, 13)
    | some k' => if v.t = 11 then (T, 13) else if (putT T k' v).2 = true then ((putT T k' v).1, 0) else if (renewT T k').2 = 0 then ((putT (renewT T k').1 k' v).1, 0) else (T, (renewT T k').2) := rfl
  obtain ⟨t, n⟩ := k
  obtain ⟨vt, vn⟩ := v
  obtain ⟨g, hg⟩ : ∃ g, g = setR T ⟨t, n⟩ ⟨vt, vn⟩ := ⟨_, rfl⟩
  rw [← hg] at G ⊢
  clear hg
  unfold memV V.val
  unfold V.val at K
  simp only at K G ⊢
  cases hk : keyR ⟨t, n⟩ with
  | none =>
    rw [hk] at K G
    simp only at K G
    have HG := Lib.hid G
    clear G hk
    go_enter Try.func16, Try.ntmps16
    go_wp2_with fail
    refine (K _).mono ?_
    rintro e w1 ⟨rfl, hb1⟩
    obtain ⟨hx0, hx1, hx2, hB⟩ := boxes3 hb1
    obtain ⟨c0, c1, f0, f1⟩ := hx1.cells2
    have HB := Lib.hid hB
    have HH := Lib.hid H
    clear K hb1 hx0 hx1 hx2 hB H
    go_wp2_with fail
    refine bodyPost_ret (v := .int .i64 13) (by simp [results, Try.results16, go_sem]) rfl ⟨sv, by rw [HG.out], ?_, ?_⟩
    · rw [HG.out]
      exact HH.out.below ((HB.out.setCell (p := ⟨w.heap.size + 1, 0, none⟩) (Nat.le_succ _) _).setCell (p := ⟨w.heap.size + 1, 1, none⟩) (Nat.le_succ _) _)
    · exact Mv.below ((HB.out.setCell (p := ⟨w.heap.size + 1, 0, none⟩) (Nat.le_succ _) _).setCell (p := ⟨w.heap.size + 1, 1, none⟩) (Nat.le_succ _) _)
  | some k' =>
    rw [hk] at K G
    simp only at K G
    obtain ⟨t', n'⟩ := k'
    simp only at K G
    have HG := Lib.hid G
    have HH := Lib.hid H
    clear G hk H
    go_enter Try.func16, Try.ntmps16
    go_wp2_with fail
    refine (K _).mono ?_
    rintro e w1 ⟨rfl, hb1⟩
    obtain ⟨hx0, hx1, hx2, hB⟩ := boxes3 hb1
    obtain ⟨c0, c1, f0, f1⟩ := hx1.cells2
    obtain ⟨d0, d1, g0, g1⟩ := hx2.cells2
    obtain ⟨bs, hbs⟩ : ∃ b, b = w.heap.size := ⟨_, rfl⟩
    have hxk := hx1.set2 (x' := .int .i64 t') (y' := .int .i64 n')
    have hxs := (hx0.setOther ⟨w.heap.size + 1, 0, none⟩ (by simp) (.int .i64 t')).setOther ⟨w.heap.size + 1, 1, none⟩ (by simp) (.int .i64 n')
    have hxv := (hx2.setOther ⟨w.heap.size + 1, 0, none⟩ (by simp) (.int .i64 t')).setOther ⟨w.heap.size + 1, 1, none⟩ (by simp) (.int .i64 n')
    have hBw := (hB.setCell (p := ⟨w.heap.size + 1, 0, none⟩) (Nat.le_succ _) (.int .i64 t')).setCell (p := ⟨w.heap.size + 1, 1, none⟩) (Nat.le_succ _) (.int .i64 n')
    obtain ⟨W, hW⟩ : ∃ W, W = (w1.setCell ⟨w.heap.size + 1, 0, none⟩ (.int .i64 t')).setCell ⟨w.heap.size + 1, 1, none⟩ (.int .i64 n') := ⟨_, rfl⟩
    rw [← hW] at hxk hxs hxv hBw
    have v0 := hxv.cell 0
    simp only [List.getElem?_cons_zero] at v0
    have HXK := Lib.hid hxk
    have HXS := Lib.hid hxs
    have HXV := Lib.hid hxv
    have HBW := Lib.hid hBw
    have HW := Lib.hid hW
    have hl1 : w.heap.size + 1 < w1.heap.size := hx1.lt
    clear K hb1 hx0 hx1 hx2 hB hxk hxs hxv hBw hW hbs
    go_upto_region 4 with fail
    rw [← HW.out]
    clear HW
    by_cases h11 : vt = 11
    · have HG2 := Lib.hid (show g = (T, 13) from by rw [HG.out, if_pos h11])
      have h11' : (vt == 11) = true := by simp [h11]
      subst h11
      go_wp2_with fail
      refine bodyPost_ret (v := .int .i64 13) (by simp [results, Try.results16, go_sem]) rfl ⟨sv, by rw [HG2.out], ?_, Mv.below HBW.out⟩
      rw [HG2.out]
      exact HH.out.below HBW.out
    · have h11' : (vt == 11) = false := by simp [h11]
      have hG := HG.out
      rw [if_neg h11] at hG
      have HG2 := Lib.hid hG
      have hown : ∀ k, OwnS p sv k → k < w.heap.size := fun k hk => HH.out.own_lt hk
      have PC := put_any (HH.out.below HBW.out) hP ⟨t', n'⟩ ⟨vt, vn⟩ w.heap.size (w.heap.size + 1) (w.heap.size + 1 + 1) HXS.out HXK.out HXV.out (fun k hk => by have := hown k hk; omega)
      have HOWN := Lib.hid hown
      clear hG HG hown
      go_wp2_with fail
      refine PC.mono ?_
      clear PC
      rintro e w2 ⟨rfl, hm2, hv2⟩
      have HV2 := Lib.hid ((Mv.below HBW.out).trans hv2)
      have hxs2 := HXS.out.mv hv2 (fun h => by have := HOWN.out _ h; omega)
      have hxk2 := HXK.out.mv hv2 (fun h => by have := HOWN.out _ h; omega)
      have hxv2 := HXV.out.mv hv2 (fun h => by have := HOWN.out _ h; omega)
      have hpu := @putT_false T ⟨t', n'⟩ ⟨vt, vn⟩
      have HM2 := Lib.hid hm2
      cases hput : (putT T ⟨t', n'⟩ ⟨vt, vn⟩).2 with
      | true =>
        have HG3 := Lib.hid (show g = ((putT T ⟨t', n'⟩ ⟨vt, vn⟩).1, 0) from by rw [HG2.out, if_pos hput])
        clear hput hpu hxs2 hxk2 hxv2 hm2 hv2
        go_wp2_with fail
        refine bodyPost_ret (v := .int .i64 0) (by simp [results, Try.results16, go_sem]) rfl ⟨sv, by rw [HG3.out], ?_, HV2.out⟩
        rw [HG3.out]; exact HM2.out
      | false =>
        have hm3 := HM2.out
        rw [hpu hput] at hm3
        have hG := HG2.out
        rw [if_neg (by rw [hput]; simp)] at hG
        have HG3 := Lib.hid hG
        have HM3 := Lib.hid hm3
        have RC := renew_any hm3 hP hpl hmost ⟨t', n'⟩
        have s0 := hxs2.cell 0
        obtain ⟨k0, k1, -, -⟩ := hxk2.cells2
        simp only [List.getElem?_cons_zero] at s0
        have hr8 := renewT_08 T ⟨t', n'⟩
        have hPr := renewT_nodes T ⟨t', n'⟩ hP
        have HXS2 := Lib.hid hxs2
        have HXK2 := Lib.hid hxk2
        have HXV2 := Lib.hid hxv2
        clear hput hpu hG hm2 hm3 hv2 hxs2 hxk2 hxv2
        go_wp2_with fail
        refine RC.mono ?_
        clear RC
        rintro e w3 ⟨sv3, rfl, hm3, hv3⟩
        have HV3 := Lib.hid (HV2.out.trans hv3)
        rcases hr8 with h0 | ⟨h8, hT⟩
        · rw [h0]
          have hG := HG3.out
          rw [if_pos h0] at hG
          have HG4 := Lib.hid hG
          have hno : ∀ k, w.heap.size ≤ k → k < w2.heap.size → ¬ OwnS p sv3 k := fun k hk hl h => by
            rcases hv3.2 k h with h | h
            · have := HOWN.out _ h; omega
            · omega
          have hno2 : ∀ k, w.heap.size ≤ k → ¬ OwnS p sv k := fun k hk h => by have := HOWN.out _ h; omega
          have l0 := HXS2.out.lt
          have l1 := HXK2.out.lt
          have l2 := HXV2.out.lt
          have PC := put_any hm3 hPr ⟨t', n'⟩ ⟨vt, vn⟩ w.heap.size (w.heap.size + 1) (w.heap.size + 1 + 1) (HXS2.out.mv hv3 (hno2 _ (by omega))) (HXK2.out.mv hv3 (hno2 _ (by omega))) (HXV2.out.mv hv3 (hno2 _ (by omega))) (fun k hk => by
            refine ⟨?_, ?_, ?_⟩ <;> (rintro rfl; exact hno _ (by omega) (by assumption) hk))
          clear hG h0 hno hno2 hm3 hv3
          go_wp2_with fail
          refine PC.mono ?_
          clear PC
          rintro e w4 ⟨rfl, hm4, hv4⟩
          have HM4 := Lib.hid hm4
          have HV4 := Lib.hid (HV3.out.trans hv4)
          clear hm4 hv4
          go_wp2_with fail
          refine bodyPost_ret (v := .int .i64 0) (by simp [results, Try.results16, go_sem]) rfl ⟨sv3, by rw [HG4.out], ?_, HV4.out⟩
          rw [HG4.out]; exact HM4.out
        · have hG := HG3.out
          rw [if_neg (by rw [h8]; decide)] at hG
          rw [h8] at hG
          have HG4 := Lib.hid hG
          rw [h8]
          rw [hT] at hm3
          have HM4 := Lib.hid hm3
          clear hG h8 hT hm3 hv3 hPr
          go_wp2_with fail
          refine bodyPost_ret (v := .int .i64 8) (by simp [results, Try.results16, go_sem]) rfl ⟨sv3, by rw [HG4.out], ?_, HV3.out⟩
          rw [HG4.out]; exact HM4.out
end Go.Proofs.Ytpodgmajccmgkaa
