/- ScriptCuts: its walk. -/
import Derived.Test.YthncifbnkednlaaDoorScrWalkB
import Derived.Lib.Walk
namespace Go.Proofs.YthncifbnkednlaaDoor
open Go.RowKit Go.Shelf
set_option linter.unusedVariables false
set_option linter.unusedSimpArgs false

theorem printZ_err {size steps : Int} {pts : List Pt} {src t : Bs} {cd : Nat} (h : printZ size steps pts src = (t, cd)) (hc : cd ≠ 0) : t = [] := by
  unfold printZ at h
  split at h
  · cases h; rfl
  · split at h
    · cases h; rfl
    · split at h
      · cases h; rfl
      · split at h
        · cases h; rfl
        · cases h; exact absurd rfl hc
theorem take_ext (l : Bs) (c : Nat) : (str l).extract 0 c = str (l.take c) := by
  apply ByteArray.ext
  unfold str
  simp
theorem PtsZ.setStr {W : World} {v : Value} {pts : List Pt} {b : Addr} {s : ByteArray} (h : PtsZ W v pts) (hb : W.cell? b = some (.string s)) (u : Value) : PtsZ (W.setCell b u) v pts := by
  obtain ⟨a, c, rfl, hc⟩ := h
  refine ⟨a, c, rfl, fun j x e => ?_⟩
  obtain ⟨ad, rfl, h1, h2⟩ := hc j x e
  refine ⟨ad, rfl, ?_, ?_⟩
  · rw [World.cell?_setCell_other _ _ _ _ (fun e => by rw [e, h1] at hb; cases hb)]
    exact h1
  · rw [World.cell?_setCell_other _ _ _ _ (fun e => by rw [e, h2] at hb; cases hb)]
    exact h2
theorem cut_mod (c : Int) (L : Nat) : ∃ k : Nat, (c.tmod ((L : Int) + 1) + L + 1).tmod ((L : Int) + 1) = k ∧ k ≤ L ∧ -(L : Int) - 1 < c.tmod ((L : Int) + 1) ∧ c.tmod ((L : Int) + 1) < (L : Int) + 1 := by
  have h1 := Int.tmod_lt_of_pos c (show (0 : Int) < (L : Int) + 1 by omega)
  have h2 : -((L : Int) + 1) < c.tmod ((L : Int) + 1) := by
    have := Int.lt_tmod_of_pos c (show (0 : Int) < (L : Int) + 1 by omega)
    exact this
  have h3 : 0 ≤ (c.tmod ((L : Int) + 1) + L + 1).tmod ((L : Int) + 1) := Int.tmod_nonneg _ (by omega)
  have h4 := Int.tmod_lt_of_pos (c.tmod ((L : Int) + 1) + L + 1) (show (0 : Int) < (L : Int) + 1 by omega)
  exact ⟨((c.tmod ((L : Int) + 1) + L + 1).tmod ((L : Int) + 1)).toNat, by omega, by omega, by omega, h1⟩

set_option maxRecDepth 100000 in
set_option maxHeartbeats 4000000 in
theorem cuts_any (x : ScZ) (pv : Value) (cut : Int) (w : World) (he : EnvP w) (hp : InZ w pv x.pts) : Calls Tryd.prog 6 #[sceneZ x pv, .int .i64 cut] w fun e w' => e = .returned (.bool true) ∧ Below w.heap.size w w' := by
  obtain ⟨N, hN⟩ : ∃ N, N = x.pts.length := ⟨_, rfl⟩
  obtain ⟨a, c, rfl, hcell⟩ := hp.1
  have HE := Lib.hid he
  have HP := Lib.hid hp
  have HN := Lib.hid hN
  obtain ⟨p, hpp⟩ : ∃ p, p = w.heap.size := ⟨_, rfl⟩
  obtain ⟨sb, hsb⟩ : ∃ sb, sb = str x.src := ⟨_, rfl⟩
  have HSB := Lib.hid hsb
  obtain ⟨W, hW⟩ : ∃ W, W = w.alloc (.cells #[.int .i64 x.size, .int .i64 x.steps, .slice a N c, .string sb] 25) := ⟨_, rfl⟩
  have HX : Hid (Box W p [.int .i64 x.size, .int .i64 x.steps, .slice a N c, .string sb] 25) := Lib.hid (by rw [hW, hpp]; exact heap_alloc_new w _)
  have HBL : Hid (Below w.heap.size w W) := Lib.hid (by rw [hW]; exact below_alloc _ _)
  have HE1 := Lib.hid (HE.out.below HBL.out)
  unfold sceneZ
  rw [← hN, ← hsb]
  have c0 := HX.out.cell 0
  have c1 := HX.out.cell 1
  have c2 := HX.out.cell 2
  have c3 := HX.out.cell 3
  simp only [List.getElem?_cons_zero, List.getElem?_cons_succ] at c0 c1 c2 c3
  have HWW := Lib.hid hW
  clear he hp hcell hN hsb hW
  go_enter Tryd.func6, Tryd.ntmps6
  go_upto_region 1 with fail
  rw [← HWW.out, ← hpp]
  have HPW := Lib.hid hpp
  clear hpp HWW
  go_wp2_with fail
  refine (vast_any x.size x.steps a N c sb W).mono ?_
  rintro e w2 ⟨rfl, hb2⟩
  have HX2 := Lib.hid (HX.out.below hb2 HX.out.lt)
  have HBL2 := Lib.hid (HBL.out.trans (hb2.mono HBL.out.size))
  have HE2 := Lib.hid (HE1.out.below hb2)
  clear hb2 c0 c1 c2 c3
  cases hv : decide (5000 < N ∨ 20000 < sb.size) with
  | true =>
    go_wp2_with fail
    refine (alive_any _ HE2.out.e).mono ?_
    rintro e w3 ⟨rfl, hb3⟩
    have HBL3 := Lib.hid (HBL2.out.trans (hb3.mono HBL2.out.size))
    clear hb3
    go_wp2_with fail
    go_ret
    exact ⟨rfl, HBL3.out⟩
  | false =>
    have hvn := of_decide_eq_false hv
    have hn5 : N ≤ 5000 := by omega
    have hs5 : sb.size ≤ 20000 := by omega
    clear hv hvn
    have hsl : x.src.length ≤ 20000 := by rw [← size_str, ← HSB.out]; exact hs5
    have hnl : x.pts.length ≤ 5000 := by rw [← HN.out]; exact hn5
    obtain ⟨t, cd, hpr⟩ : ∃ t cd, printZ x.size x.steps x.pts x.src = (t, cd) := ⟨_, _, rfl⟩
    have HPR : Hid (∀ w, EnvP w → PtsZ w (.slice a x.pts.length c) x.pts → Calls Tryd.prog 14 #[.agg #[.int .i64 x.size, .int .i64 x.steps, .slice a N c, .string sb]] w fun e w' => PrintAns (t, cd) e ∧ Below w.heap.size w w') := Lib.hid (fun w h1 h2 => by
      rw [HN.out, HSB.out, ← hpr]
      exact print_any x _ w h1 h2 hnl hsl)
    have HPT := Lib.hid hpr
    have HNL := Lib.hid hnl
    have HP2 := Lib.hid (HP.out.1.keep HBL2.out)
    have c0 := HX2.out.cell 0
    have c1 := HX2.out.cell 1
    have c2 := HX2.out.cell 2
    have c3 := HX2.out.cell 3
    simp only [List.getElem?_cons_zero, List.getElem?_cons_succ] at c0 c1 c2 c3
    clear hpr hsl hnl
    go_wp2_with fail
    refine (HPR.out _ HE2.out HP2.out).mono ?_
    rintro e w4 ⟨hans, hb4⟩
    unfold PrintAns at hans
    subst hans
    have HX4 := Lib.hid (HX2.out.below hb4 HX2.out.lt)
    have HBL4 := Lib.hid (HBL2.out.trans (hb4.mono HBL2.out.size))
    have HE4 := Lib.hid (HE2.out.below hb4)
    have HP4 := Lib.hid (HP.out.1.keep HBL4.out)
    clear hb4 c0 c1 c2 c3
    have c0 := HX4.out.cell 0
    have c1 := HX4.out.cell 1
    have c2 := HX4.out.cell 2
    have c3 := HX4.out.cell 3
    simp only [List.getElem?_cons_zero, List.getElem?_cons_succ] at c0 c1 c2 c3
    go_wp2_with fail
    refine (no_int _ _).mono ?_
    rintro e w5 ⟨rfl, hw5⟩
    rw [hw5]
    clear hw5
    by_cases hcd : cd = 0
    · subst hcd
      have hL2 : (str t).size = t.length := size_str t
      have hlen := printZ_len HPT.out
      obtain ⟨k, hk, hkl, hm1, hm2⟩ := cut_mod cut (str t).size
      have hkk : (wrap64 (wrap64 (cut.tmod (((str t).size : Int) + 1) + (str t).size) + 1)).tmod (((str t).size : Int) + 1) = k := by
        rw [IntWalk.wrap64_in (cut.tmod (((str t).size : Int) + 1) + (str t).size) (by omega), IntWalk.wrap64_in _ (by omega)]
        exact hk
      have HKK := Lib.hid hkk
      have HL2 := Lib.hid hL2
      have hlt : (str t).size ≤ 73728 := by omega
      clear hlen hL2 hk hkk hm1 hm2
      go_upto_region 7 with fail
      rw [HKK.out]
      have hx := take_ext t k
      have HXT := Lib.hid hx
      have hkl' : (k : Int) ≤ (str t).size := by omega
      clear hx
      have hpar : ∃ (y : Sc) (i e' : Nat), parseD (t.take k) = (y, i, e') ∧ ((t.length ≤ k + x.src.length ∧ e' = 0 ∧ scZ y = ⟨x.size, x.steps, x.pts, x.src.take (x.src.length - (t.length - k))⟩) ∨ (k + x.src.length < t.length ∧ e' = 6 ∧ y = zeroSc)) := by
        by_cases hg : t.length ≤ k + x.src.length
        · obtain ⟨h1, h2⟩ := back_one (cuts_good HPT.out hg (by have := HL2.out; omega))
          exact ⟨_, _, _, h1, .inl ⟨hg, rfl, h2⟩⟩
        · have hb := cuts_bad HPT.out (c := k) (by omega)
          exact ⟨_, _, _, rfl, .inr ⟨by omega, hb.2, hb.1⟩⟩
      obtain ⟨y, i, e', hpd, hor⟩ := hpar
      have hpz := fun w he => parse_z (str (t.take k)) w (by rw [size_str, List.length_take]; have := HL2.out; omega) he (show parseD (bs (str (t.take k))) = _ from hpd)
      obtain ⟨X, hX⟩ : ∃ X, X = scZ y := ⟨_, rfl⟩
      rw [← hX] at hpz
      have HPZ := Lib.hid hpz
      have HOR := Lib.hid hor
      have HXX := Lib.hid hX
      clear hpd hor hpz hX
      go_wp2_with fail
      rw [HXT.out]
      refine (HPZ.out _ HE4.out.e).mono ?_
      rintro e w6 ⟨⟨a6, k6, rfl, hz6⟩, hb6⟩
      obtain ⟨L, hL⟩ : ∃ L, L = X.pts.length := ⟨_, rfl⟩
      have HL := Lib.hid hL
      rw [← hL]
      obtain ⟨sx, hsx⟩ : ∃ sx, sx = str X.src := ⟨_, rfl⟩
      have HSX := Lib.hid hsx
      rw [← hsx]
      obtain ⟨p6, hp6⟩ : ∃ p6, p6 = w6.heap.size := ⟨_, rfl⟩
      obtain ⟨W6, hW6⟩ : ∃ W6, W6 = w6.alloc (.cells #[.int .i64 X.size, .int .i64 X.steps, .slice a6 L k6, .string sx] 25) := ⟨_, rfl⟩
      have HX6 : Hid (Box W6 p6 [.int .i64 X.size, .int .i64 X.steps, .slice a6 L k6, .string sx] 25) := Lib.hid (by rw [hW6, hp6]; exact heap_alloc_new w6 _)
      have hbA : Below w6.heap.size w6 W6 := by rw [hW6]; exact below_alloc _ _
      have hbB := hb6.trans (hbA.mono hb6.size)
      have HBL6 := Lib.hid (HBL4.out.trans (hbB.mono HBL4.out.size))
      have HE6 := Lib.hid (HE4.out.below hbB)
      have HZ6 := Lib.hid (hz6.keep hbA)
      have HXB := Lib.hid (HX4.out.below hbB HX4.out.lt)
      have HPB : Hid (p < p6) := Lib.hid (by have := HX4.out.lt; have := hb6.size; omega)
      have HP6 := Lib.hid (HP.out.1.keep HBL6.out)
      clear hz6 hb6 hbA hbB hL hsx c0 c1 c2 c3
      go_upto_region 8 with fail
      rw [← hW6, ← hp6]
      clear hW6 hp6
      have c0 := HXB.out.cell 0
      have c1 := HXB.out.cell 1
      have c2 := HXB.out.cell 2
      have c3 := HXB.out.cell 3
      have f3 := HXB.out.free 3
      have d0 := HX6.out.cell 0
      have d1 := HX6.out.cell 1
      have d2 := HX6.out.cell 2
      have d3 := HX6.out.cell 3
      simp only [List.getElem?_cons_zero, List.getElem?_cons_succ] at c0 c1 c2 c3 d0 d1 d2 d3
      have hsbl : sb.size = x.src.length := by rw [HSB.out, size_str]
      have HSBL := Lib.hid hsbl
      clear hsbl
      rcases HOR.out with ⟨hg, he0, hXe⟩ | ⟨hg, he6, hyz⟩
      · subst he0
        have hXf : X = ⟨x.size, x.steps, x.pts, x.src.take (x.src.length - (t.length - k))⟩ := HXX.out.trans hXe
        obtain ⟨m, hm⟩ : ∃ m, m = x.src.length - (t.length - k) := ⟨_, rfl⟩
        have HLEFT : Hid ((sb.size : Int) - (((str t).size : Int) - k) = m) := Lib.hid (by rw [HSBL.out, HL2.out, hm]; have := HL2.out; omega)
        have hml : m ≤ sb.size := by rw [HSBL.out, hm]; omega
        rw [← hm] at hXf
        have HM := Lib.hid hm
        subst hXf
        have hNL : L = N := HL.out.trans HN.out.symm
        subst hNL
        have HSXE : Hid (sb.extract 0 m = sx) := Lib.hid (by rw [HSX.out, HSB.out]; exact take_ext _ _)
        clear hXe hg hm
        go_upto_region 9 with fail
        rw [HLEFT.out]
        have hm0 : ¬ ((m : Int) < 0) := by omega
        have hml' : (m : Int) ≤ sb.size := by omega
        have HXC : Hid (Box (W6.setCell ⟨p, 3, none⟩ (.string sx)) p [.int .i64 x.size, .int .i64 x.steps, .slice a L c, .string sx] 25) := Lib.hid (HXB.out.set 3 (.string sx))
        have HYC : Hid (Box (W6.setCell ⟨p, 3, none⟩ (.string sx)) p6 [.int .i64 x.size, .int .i64 x.steps, .slice a6 L k6, .string sx] 25) := Lib.hid (HX6.out.setOther ⟨p, 3, none⟩ (by have := HPB.out; show p6 ≠ p; omega) _)
        have hpw : w.heap.size ≤ p := by rw [HPW.out]; exact Nat.le_refl _
        have HBLC := Lib.hid (HBL6.out.setCell (p := ⟨p, 3, none⟩) hpw (.string sx))
        have HEC := Lib.hid (HE.out.below HBLC.out)
        have HZC : Hid (PtsZ (W6.setCell ⟨p, 3, none⟩ (.string sx)) (.slice a6 x.pts.length k6) x.pts) := Lib.hid (PtsZ.setStr HZ6.out c3 _)
        have HPC := Lib.hid (HP.out.1.keep HBLC.out)
        clear hpw
        go_upto_region 12 with fail
        rw [HSXE.out]
        have HSA := Lib.hid (same_anyZ (x := ⟨x.size, x.steps, x.pts, x.src.take m⟩) HZC.out HPC.out (by have := HNL.out; exact Nat.le_trans this (by decide)))
        unfold sceneZ at HSA
        have hsx' : str (x.src.take m) = sx := HSX.out.symm
        simp only at HSA
        rw [hsx', ← HN.out] at HSA
        clear hsx' c0 c1 c2 c3 d0 d1 d2 d3 f3
        have c0 := HXC.out.cell 0
        have c1 := HXC.out.cell 1
        have c2 := HXC.out.cell 2
        have c3 := HXC.out.cell 3
        have d0 := HYC.out.cell 0
        have d1 := HYC.out.cell 1
        have d2 := HYC.out.cell 2
        have d3 := HYC.out.cell 3
        simp only [List.getElem?_cons_zero, List.getElem?_cons_succ] at c0 c1 c2 c3 d0 d1 d2 d3
        go_wp2_with (go_at_call 12; refine (no_int _ _).mono ?_; rintro e w' ⟨rfl, hw'⟩; rw [hw']; clear hw')
        refine HSA.out.mono ?_
        rintro e w10 ⟨rfl, hb10⟩
        have HBL10 := Lib.hid (HBLC.out.trans (hb10.mono HBLC.out.size))
        have HE10 := Lib.hid (HEC.out.below hb10)
        clear hb10
        go_wp2_with fail
        refine (alive_any _ HE10.out.e).mono ?_
        rintro e w11 ⟨rfl, hb11⟩
        have HBL11 := Lib.hid (HBL10.out.trans (hb11.mono HBL10.out.size))
        clear hb11
        go_wp2_with fail
        go_ret
        exact ⟨rfl, HBL11.out⟩
      · subst he6
        have hXf : X = ⟨0, 0, [], []⟩ := by rw [HXX.out, hyz]; rfl
        subst hXf
        obtain rfl : L = 0 := HL.out
        obtain rfl : sx = { data := #[] } := HSX.out
        have hneg : ((sb.size : Int) - (((str t).size : Int) - k)) < 0 := by rw [HSBL.out, HL2.out]; omega
        have hneg' : ¬ 0 ≤ ((sb.size : Int) - (((str t).size : Int) - k)) := by omega
        have HSA := Lib.hid (same_anyZ (x := ⟨0, 0, [], []⟩) (v' := .slice none 0 0) HZ6.out ⟨none, 0, rfl, fun i x e => by cases e⟩ (by simp))
        unfold sceneZ at HSA
        simp only [List.length_nil] at HSA
        clear hg
        go_wp2_with (go_at_call 12; refine (no_int _ _).mono ?_; rintro e w' ⟨rfl, hw'⟩; rw [hw']; clear hw')
        refine HSA.out.mono ?_
        rintro e w8 ⟨rfl, hb8⟩
        have HBL8 := Lib.hid (HBL6.out.trans (hb8.mono HBL6.out.size))
        have HE8 := Lib.hid (HE6.out.below hb8)
        clear hb8
        go_wp2_with fail
        refine (alive_any _ HE8.out.e).mono ?_
        rintro e w9 ⟨rfl, hb9⟩
        have HBL9 := Lib.hid (HBL8.out.trans (hb9.mono HBL8.out.size))
        clear hb9
        go_wp2_with fail
        go_ret
        exact ⟨rfl, HBL9.out⟩
    · have ht := printZ_err HPT.out hcd
      have hc0 : ((cd : Int) != 0) = true := by rw [bne_iff_ne]; omega
      have hc1 : ¬ ((cd : Int) = 0) := by omega
      clear hcd
      subst ht
      rw [show str [] = { data := #[] } from rfl]
      go_wp2_with fail
      refine (alive_any _ HE4.out.e).mono ?_
      rintro e w9 ⟨rfl, hb9⟩
      have HBL9 := Lib.hid (HBL4.out.trans (hb9.mono HBL4.out.size))
      clear hb9
      go_wp2_with fail
      go_ret
      exact ⟨rfl, HBL9.out⟩
end Go.Proofs.YthncifbnkednlaaDoor
