/- ScriptBack: its walk. -/
import Derived.Test.YthncifbnkednlaaDoorScrPlainC
import Derived.Test.YthncifbnkednlaaDoorScrWalkPr
import Derived.Test.YthncifbnkednlaaDoorScrWalkP
import Derived.Deep.DeepCutAuto
namespace Go.Proofs.YthncifbnkednlaaDoor
open Go.RowKit Go.Shelf
set_option linter.unusedVariables false
set_option linter.unusedSimpArgs false

/-- What Parse answers, any numbers. -/
def ParseZ (x : ScZ) (i c : Nat) (e : Ending) (w' : World) : Prop := ∃ a cap, e = .returned (.tuple #[.agg #[.int .i64 x.size, .int .i64 x.steps, .slice a x.pts.length cap, .string (str x.src)], .int .i64 i, .int .i64 c]) ∧ PtsZ w' (.slice a x.pts.length cap) x.pts
theorem parse_z (s : ByteArray) (w : World) (hs : s.size ≤ 1000000) (he : Env w) {y : Sc} {i c : Nat} (h : parseD (bs s) = (y, i, c)) : Calls Tryd.prog 9 #[.string s] w fun e w' => ParseZ (scZ y) i c e w' ∧ Below w.heap.size w w' := by
  have hp := parse_any s w hs he
  rw [h] at hp
  refine hp.mono ?_
  rintro e w' ⟨⟨pv, rfl, hv⟩, hb⟩
  refine ⟨?_, hb⟩
  have hz := hv.z
  obtain ⟨a, cap, rfl, hc⟩ := hz
  exact ⟨a, cap, rfl, a, cap, rfl, hc⟩
theorem parseF_err : ∀ (f i : Nat) (x y : Sc) (s : Bs) (a c : Nat), parseF f i x s = (y, a, c) → c ≠ 0 → y = zeroSc := by
  intro f
  induction f with
  | zero => intro i x y s a c h _; cases h; rfl
  | succ f ih =>
    intro i x y s a c h hc
    unfold parseF at h
    split at h
    · cases h; rfl
    · split at h
      · cases h; rfl
      · split at h
        · cases h; rfl
        · cases h; exact absurd rfl hc
      · exact ih _ _ _ _ _ _ h hc
theorem parseD_err {s : Bs} {y : Sc} {a c : Nat} (h : parseD s = (y, a, c)) (hc : c ≠ 0) : y = zeroSc := by
  unfold parseD at h
  split at h
  · cases h; rfl
  · exact parseF_err _ _ _ _ _ _ _ h hc

set_option maxRecDepth 100000 in
set_option maxHeartbeats 4000000 in
theorem back_any (x : ScZ) (pv : Value) (s : ByteArray) (w : World) (he : EnvP w) (hp : InZ w pv x.pts) : Calls Tryd.prog 5 #[sceneZ x pv, .string s] w fun e w' => e = .returned (.bool true) ∧ Below w.heap.size w w' := by
  obtain ⟨N, hN⟩ : ∃ N, N = x.pts.length := ⟨_, rfl⟩
  obtain ⟨a, c, rfl, hcell⟩ := hp.1
  have HE := Lib.hid he
  have HP := Lib.hid hp
  have HN := Lib.hid hN
  obtain ⟨p, hpp⟩ : ∃ p, p = w.heap.size := ⟨_, rfl⟩
  obtain ⟨sb, hsb⟩ : ∃ sb, sb = str x.src := ⟨_, rfl⟩
  have HSB := Lib.hid hsb
  obtain ⟨W, hW⟩ : ∃ W, W = w.alloc (.cells #[.int .i64 x.size, .int .i64 x.steps, .slice a N c, .string sb] 25) := ⟨_, rfl⟩
  have HX : Hid (Box W p [.int .i64 x.size, .int .i64 x.steps, .slice a N c, .string sb] 25) := Lib.hid (by rw [hW, hpp]; exact heap_alloc_new w _)
  have HBL : Hid (Below w.heap.size w W) := Lib.hid (by rw [hW]; exact below_alloc _ _)
  have HE1 := Lib.hid (HE.out.below HBL.out)
  unfold sceneZ
  rw [← hN, ← hsb]
  have c0 := HX.out.cell 0
  have c1 := HX.out.cell 1
  have c2 := HX.out.cell 2
  have c3 := HX.out.cell 3
  simp only [List.getElem?_cons_zero, List.getElem?_cons_succ] at c0 c1 c2 c3
  have HWW := Lib.hid hW
  clear he hp hcell hN hsb hW
  go_enter Tryd.func5, Tryd.ntmps5
  go_upto_region 1 with fail
  rw [← HWW.out, ← hpp]
  clear hpp HWW
  go_wp2_with fail
  refine (vast_any x.size x.steps a N c sb W).mono ?_
  rintro e w2 ⟨rfl, hb2⟩
  have HX2 := Lib.hid (HX.out.below hb2 HX.out.lt)
  have HBL2 := Lib.hid (HBL.out.trans (hb2.mono HBL.out.size))
  have HE2 := Lib.hid (HE1.out.below hb2)
  clear hb2 c0 c1 c2 c3
  cases hv : decide (5000 < N ∨ 20000 < sb.size) with
  | true =>
    go_wp2_with fail
    refine (alive_any _ HE2.out.e).mono ?_
    rintro e w3 ⟨rfl, hb3⟩
    have HBL3 := Lib.hid (HBL2.out.trans (hb3.mono HBL2.out.size))
    clear hb3
    go_wp2_with fail
    go_ret
    exact ⟨rfl, HBL3.out⟩
  | false =>
    have hvn := of_decide_eq_false hv
    have hn5 : N ≤ 5000 := by omega
    have hs5 : sb.size ≤ 20000 := by omega
    clear hv hvn
    by_cases hbig : 80000 < s.size
    · go_wp2_with fail
      refine (alive_any _ HE2.out.e).mono ?_
      rintro e w3 ⟨rfl, hb3⟩
      have HBL3 := Lib.hid (HBL2.out.trans (hb3.mono HBL2.out.size))
      clear hb3
      go_wp2_with fail
      go_ret
      exact ⟨rfl, HBL3.out⟩
    · have hsl : x.src.length ≤ 20000 := by rw [← size_str, ← HSB.out]; exact hs5
      have hnl : x.pts.length ≤ 5000 := by rw [← HN.out]; exact hn5
      obtain ⟨t, cd, hpr⟩ : ∃ t cd, printZ x.size x.steps x.pts x.src = (t, cd) := ⟨_, _, rfl⟩
      have HPR : Hid (∀ w, EnvP w → PtsZ w (.slice a x.pts.length c) x.pts → Calls Tryd.prog 14 #[.agg #[.int .i64 x.size, .int .i64 x.steps, .slice a N c, .string sb]] w fun e w' => PrintAns (t, cd) e ∧ Below w.heap.size w w') := Lib.hid (fun w h1 h2 => by
        rw [HN.out, HSB.out, ← hpr]
        exact print_any x _ w h1 h2 hnl hsl)
      have HPT := Lib.hid hpr
      have HNL := Lib.hid hnl
      have HP2 := Lib.hid (HP.out.1.keep HBL2.out)
      have c0 := HX2.out.cell 0
      have c1 := HX2.out.cell 1
      have c2 := HX2.out.cell 2
      have c3 := HX2.out.cell 3
      simp only [List.getElem?_cons_zero, List.getElem?_cons_succ] at c0 c1 c2 c3
      clear hpr hsl hnl
      go_wp2_with fail
      refine (HPR.out _ HE2.out HP2.out).mono ?_
      rintro e w4 ⟨hans, hb4⟩
      unfold PrintAns at hans
      subst hans
      have HX4 := Lib.hid (HX2.out.below hb4 HX2.out.lt)
      have HBL4 := Lib.hid (HBL2.out.trans (hb4.mono HBL2.out.size))
      have HE4 := Lib.hid (HE2.out.below hb4)
      have HP4 := Lib.hid (HP.out.1.keep HBL4.out)
      clear hb4 c0 c1 c2 c3
      have c0 := HX4.out.cell 0
      have c1 := HX4.out.cell 1
      have c2 := HX4.out.cell 2
      have c3 := HX4.out.cell 3
      simp only [List.getElem?_cons_zero, List.getElem?_cons_succ] at c0 c1 c2 c3
      go_wp2_with fail
      refine (no_int _ _).mono ?_
      rintro e w5 ⟨rfl, hw5⟩
      rw [hw5]
      clear hw5
      go_upto_if 33 with fail
      go_cut [7] (fun t7 wx => Below w4.heap.size w4 wx)
      case first =>
        by_cases hcd : cd = 0
        · subst hcd
          obtain ⟨hb1, hb2⟩ := back_one HPT.out
          have hpz := fun w he => parse_z (str t) w (by rw [size_str]; have := printZ_len HPT.out; omega) he (show parseD (bs (str t)) = _ from hb1)
          rw [hb2] at hpz
          have HPZ := Lib.hid hpz
          clear hpz hb1 hb2
          go_wp2_with fail
          refine (HPZ.out _ HE4.out.e).mono ?_
          rintro e w6 ⟨⟨a6, k6, rfl, hz6⟩, hb6⟩
          rw [show (⟨x.size, x.steps, x.pts, x.src⟩ : ScZ) = x from rfl] at hz6 ⊢
          simp only
          rw [← HN.out, ← HSB.out]
          obtain ⟨p6, hp6⟩ : ∃ p6, p6 = w6.heap.size := ⟨_, rfl⟩
          obtain ⟨W6, hW6⟩ : ∃ W6, W6 = w6.alloc (.cells #[.int .i64 x.size, .int .i64 x.steps, .slice a6 N k6, .string sb] 25) := ⟨_, rfl⟩
          have HX6 : Hid (Box W6 p6 [.int .i64 x.size, .int .i64 x.steps, .slice a6 N k6, .string sb] 25) := Lib.hid (by rw [hW6, hp6]; exact heap_alloc_new w6 _)
          have hbA : Below w6.heap.size w6 W6 := by rw [hW6]; exact below_alloc _ _
          have hbB := hb6.trans (hbA.mono hb6.size)
          have HB6 := Lib.hid hbB
          have HXA := Lib.hid (HX4.out.below hbB HX4.out.lt)
          have HSA := Lib.hid (same_anyZ (x := x) (HP.out.1.keep (HBL4.out.trans (hbB.mono HBL4.out.size))) (hz6.keep hbA) (by have := HNL.out; omega))
          clear hz6 hb6 hbA hbB c0 c1 c2 c3
          unfold sceneZ at HSA
          rw [← HN.out, ← HSB.out] at HSA
          have c0 := HXA.out.cell 0
          have c1 := HXA.out.cell 1
          have c2 := HXA.out.cell 2
          have c3 := HXA.out.cell 3
          have d0 := HX6.out.cell 0
          have d1 := HX6.out.cell 1
          have d2 := HX6.out.cell 2
          have d3 := HX6.out.cell 3
          simp only [List.getElem?_cons_zero, List.getElem?_cons_succ] at c0 c1 c2 c3 d0 d1 d2 d3
          go_upto_region 6 with fail
          rw [← hW6, ← hp6]
          clear hW6 hp6
          go_wp2_with fail
          refine (no_int _ _).mono ?_
          rintro e w7 ⟨rfl, hw7⟩
          rw [hw7]
          clear hw7
          go_wp2_with fail
          refine HSA.out.mono ?_
          rintro e w8 ⟨rfl, hb8⟩
          have HB8 := Lib.hid (HB6.out.trans (hb8.mono HB6.out.size))
          clear hb8
          go_wp2_with fail
          go_meet
          case rel => exact HB8.out
        · have hc0 : ((cd : Int) == 0) = false := by rw [beq_eq_false_iff_ne]; omega
          have hc1 : ¬ ((cd : Int) = 0) := by omega
          go_wp2_with fail
          go_meet
          case rel => exact Below.refl _ _
      case rest =>
        have HB5 := Lib.hid hcut
        have HBL5 := Lib.hid (HBL4.out.trans (HB5.out.mono HBL4.out.size))
        have HE5 := Lib.hid (HE4.out.below HB5.out)
        obtain ⟨y, i, e', hpd⟩ : ∃ y i e', parseD (bs s) = (y, i, e') := ⟨_, _, _, rfl⟩
        have hpz := fun w he => parse_z s w (by omega) he hpd
        have hyl := parseD_pts (bs s)
        rw [hpd] at hyl
        simp only at hyl
        obtain ⟨X, hX⟩ : ∃ X, X = scZ y := ⟨_, rfl⟩
        rw [← hX] at hpz
        have HPZ := Lib.hid hpz
        have HPD := Lib.hid hpd
        have HXX := Lib.hid hX
        have HXL : Hid (X.pts.length ≤ 4000) := Lib.hid (by rw [hX]; unfold scZ; simp only; rw [List.length_map]; exact hyl)
        clear hcut c0 c1 c2 c3 hpz hpd hyl hX
        go_wp2_with fail
        refine (HPZ.out _ HE5.out.e).mono ?_
        rintro e w6 ⟨⟨a6, k6, rfl, hz6⟩, hb6⟩
        obtain ⟨L, hL⟩ : ∃ L, L = X.pts.length := ⟨_, rfl⟩
        have HL := Lib.hid hL
        rw [← hL]
        obtain ⟨sx, hsx⟩ : ∃ sx, sx = str X.src := ⟨_, rfl⟩
        have HSX := Lib.hid hsx
        rw [← hsx]
        obtain ⟨p6, hp6⟩ : ∃ p6, p6 = w6.heap.size := ⟨_, rfl⟩
        obtain ⟨W6, hW6⟩ : ∃ W6, W6 = w6.alloc (.cells #[.int .i64 X.size, .int .i64 X.steps, .slice a6 L k6, .string sx] 25) := ⟨_, rfl⟩
        have HX6 : Hid (Box W6 p6 [.int .i64 X.size, .int .i64 X.steps, .slice a6 L k6, .string sx] 25) := Lib.hid (by rw [hW6, hp6]; exact heap_alloc_new w6 _)
        have hbA : Below w6.heap.size w6 W6 := by rw [hW6]; exact below_alloc _ _
        have hbB := hb6.trans (hbA.mono hb6.size)
        have HBL6 := Lib.hid (HBL5.out.trans (hbB.mono HBL5.out.size))
        have HE6 := Lib.hid (HE5.out.below hbB)
        have HZ6 := Lib.hid (hz6.keep hbA)
        clear hz6 hb6 hbA hbB hL hsx
        go_upto_region 9 with fail
        rw [← hW6, ← hp6]
        clear hW6 hp6
        have d0 := HX6.out.cell 0
        have d1 := HX6.out.cell 1
        have d2 := HX6.out.cell 2
        have d3 := HX6.out.cell 3
        simp only [List.getElem?_cons_zero, List.getElem?_cons_succ] at d0 d1 d2 d3
        go_wp2_with fail
        refine (no_int _ _).mono ?_
        rintro e w7 ⟨rfl, hw7⟩
        rw [hw7]
        clear hw7
        by_cases he0 : e' = 0
        · subst he0
          obtain ⟨u, hpr, hul⟩ := back_two HPD.out
          obtain ⟨hb1, -⟩ := back_one hpr
          have hyy : (⟨((y.size : Nat) : Int).toNat, ((y.steps : Nat) : Int).toNat, (y.pts.map castP).map toP, y.src⟩ : Sc) = y := by
            rw [toP_castP]; rfl
          rw [hyy] at hb1
          have hpu := fun w he => parse_z (str u) w (by rw [size_str]; have := printZ_len hpr; omega) he (show parseD (bs (str u)) = _ from hb1)
          rw [← HXX.out] at hpu
          have HPU := Lib.hid hpu
          have HPRY : Hid (∀ w, EnvP w → PtsZ w (.slice a6 X.pts.length k6) X.pts → Calls Tryd.prog 14 #[.agg #[.int .i64 X.size, .int .i64 X.steps, .slice a6 L k6, .string sx]] w fun e w' => PrintAns (u, 0) e ∧ Below w.heap.size w w') := Lib.hid (fun w h1 h2 => by
            have hprX : printZ X.size X.steps X.pts X.src = (u, 0) := by rw [HXX.out]; exact hpr
            rw [HL.out, HSX.out, ← hprX]
            exact print_any X _ w h1 h2 (by have := HXL.out; omega) (by have := (printZ_ok hprX).2.2.2.2.2.1; omega))
          have hus : (str u).size ≤ s.size := by rw [size_str, size_bs s]; exact hul
          clear hpu hb1 hyy hpr hul
          go_wp2_with fail
          refine (HPRY.out _ HE6.out HZ6.out).mono ?_
          rintro e w8 ⟨hans, hb8⟩
          unfold PrintAns at hans
          subst hans
          have HBL8 := Lib.hid (HBL6.out.trans (hb8.mono HBL6.out.size))
          have HE8 := Lib.hid (HE6.out.below hb8)
          have HX8 := Lib.hid (HX6.out.below hb8 HX6.out.lt)
          have HZ8 := Lib.hid (HZ6.out.keep hb8)
          clear hb8 d0 d1 d2 d3
          go_wp2_with fail
          refine (HPU.out _ HE8.out.e).mono ?_
          rintro e w9 ⟨⟨a9, k9, rfl, hz9⟩, hb9⟩
          rw [← HL.out, ← HSX.out]
          obtain ⟨p9, hp9⟩ : ∃ p9, p9 = w9.heap.size := ⟨_, rfl⟩
          obtain ⟨W9, hW9⟩ : ∃ W9, W9 = w9.alloc (.cells #[.int .i64 X.size, .int .i64 X.steps, .slice a9 L k9, .string sx] 25) := ⟨_, rfl⟩
          have HX9 : Hid (Box W9 p9 [.int .i64 X.size, .int .i64 X.steps, .slice a9 L k9, .string sx] 25) := Lib.hid (by rw [hW9, hp9]; exact heap_alloc_new w9 _)
          have hbA : Below w9.heap.size w9 W9 := by rw [hW9]; exact below_alloc _ _
          have hbB := hb9.trans (hbA.mono hb9.size)
          have HBL9 := Lib.hid (HBL8.out.trans (hbB.mono HBL8.out.size))
          have HE9 := Lib.hid (HE8.out.below hbB)
          have HXB := Lib.hid (HX8.out.below hbB HX8.out.lt)
          have HSA := Lib.hid (same_anyZ (x := X) (HZ8.out.keep hbB) (hz9.keep hbA) (by have := HXL.out; omega))
          clear hz9 hb9 hbA hbB
          unfold sceneZ at HSA
          rw [← HL.out, ← HSX.out] at HSA
          have c0 := HXB.out.cell 0
          have c1 := HXB.out.cell 1
          have c2 := HXB.out.cell 2
          have c3 := HXB.out.cell 3
          have d0 := HX9.out.cell 0
          have d1 := HX9.out.cell 1
          have d2 := HX9.out.cell 2
          have d3 := HX9.out.cell 3
          simp only [List.getElem?_cons_zero, List.getElem?_cons_succ] at c0 c1 c2 c3 d0 d1 d2 d3
          go_upto_region 13 with fail
          rw [← hW9, ← hp9]
          clear hW9 hp9
          have hus2 : ((str u).size : Int) ≤ s.size := by omega
          go_wp2_with (first | (go_at_call 12; refine (no_int _ _).mono ?_; rintro e w' ⟨rfl, rfl⟩))
          refine HSA.out.mono ?_
          rintro e w10 ⟨rfl, hb10⟩
          have HBL10 := Lib.hid (HBL9.out.trans (hb10.mono HBL9.out.size))
          have HE10 := Lib.hid (HE9.out.below hb10)
          clear hb10
          go_wp2_with fail
          refine (alive_any _ HE10.out.e).mono ?_
          rintro e w11 ⟨rfl, hb11⟩
          have HBL11 := Lib.hid (HBL10.out.trans (hb11.mono HBL10.out.size))
          clear hb11
          go_wp2_with fail
          go_ret
          exact ⟨rfl, HBL11.out⟩
        · have hyz := parseD_err HPD.out he0
          have hXz : X = ⟨0, 0, [], []⟩ := by rw [HXX.out, hyz]; rfl
          have hc0 : ((e' : Int) != 0) = true := by rw [bne_iff_ne]; omega
          have hc1 : ¬ ((e' : Int) = 0) := by omega
          subst hXz
          obtain rfl : L = 0 := HL.out
          obtain rfl : sx = { data := #[] } := HSX.out
          have HSA := Lib.hid (same_anyZ (x := ⟨0, 0, [], []⟩) (v' := .slice none 0 0) HZ6.out ⟨none, 0, rfl, fun i x e => by cases e⟩ (by simp))
          unfold sceneZ at HSA
          simp only [List.length_nil] at HSA
          clear he0 hyz
          go_wp2_with fail
          refine HSA.out.mono ?_
          rintro e w8 ⟨rfl, hb8⟩
          have HBL8 := Lib.hid (HBL6.out.trans (hb8.mono HBL6.out.size))
          have HE8 := Lib.hid (HE6.out.below hb8)
          clear hb8
          go_wp2_with fail
          refine (alive_any _ HE8.out.e).mono ?_
          rintro e w9 ⟨rfl, hb9⟩
          have HBL9 := Lib.hid (HBL8.out.trans (hb9.mono HBL8.out.size))
          clear hb9
          go_wp2_with fail
          go_ret
          exact ⟨rfl, HBL9.out⟩
end Go.Proofs.YthncifbnkednlaaDoor
