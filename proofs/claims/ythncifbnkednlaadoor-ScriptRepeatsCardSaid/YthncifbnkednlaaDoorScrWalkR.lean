/- ScriptRepeats: its walk. -/
import Derived.Test.YthncifbnkednlaaDoorScrWalkC
import Derived.Laws.IdiomStrings
namespace Go.Proofs.YthncifbnkednlaaDoor
open Go.RowKit Go.Shelf
set_option linter.unusedVariables false
set_option linter.unusedSimpArgs false

theorem slice_ext (l : Bs) (a b : Nat) : (str l).extract a b = str ((l.take b).drop a) := by
  apply ByteArray.ext
  unfold str
  simp [List.extract_eq_take_drop, List.drop_take]
theorem mid_of (a l r : Bs) : List.drop a.length ((a ++ (l ++ r)).take (a.length + l.length)) = l := by rw [List.take_length_add_append, List.drop_left, List.take_left]
def DigR (q i : Nat) (many : Bs) : Prop := Lib.decDigits q = (if i = 0 then [] else Lib.decDigits i) ++ many
theorem digR_start {q : Nat} (h : 0 < q) : DigR q q [] := by unfold DigR; rw [if_neg (by omega), List.append_nil]
theorem digR_next {q i : Nat} {many : Bs} (h : 0 < i) (hd : DigR q i many) : DigR q (i / 10) (UInt8.ofNat (48 + i % 10) :: many) := by
  unfold DigR at *
  rw [hd, if_neg (by omega), dec_step i, List.append_assoc]
  rfl
theorem digR_len {q i : Nat} {many : Bs} (hd : DigR q i many) (hq : q ≤ 4000) : many.length ≤ 4 := by
  have h1 := congrArg List.length hd
  have h2 := decDigits_len q 3 (by have : (10 : Nat) ^ 4 = 10000 := by decide
                                   omega)
  rw [List.length_append] at h1
  omega
theorem one_line {p : Pt} (h : fitsZ p = true) : bodyR 0 [p] = some (lineZ p 1) := body_many h (n := 1) (Nat.le_refl _)
theorem head_one : headZ 1 0 = [115, 105, 122, 101, 32, 49, 10, 115, 116, 101, 112, 115, 32, 48, 10] := by
  unfold headZ decZ
  rw [show (0 : Int).toNat = 0 from rfl, dec_zero, show (1 : Int).toNat = 1 from rfl]
  unfold Lib.decDigits
  rw [dif_pos (by decide)]
  rfl
/-- The text of one point. -/
theorem print_one {p : Pt} {t : Bs} (h : printZ 1 0 [p] [] = (t, 0)) : fitsZ p = true ∧ t = headZ 1 0 ++ lineB p 1 ++ [10, 115, 111, 117, 114, 99, 101, 10] := by
  obtain ⟨-, -, -, -, -, -, b, hb, rfl⟩ := printZ_ok h
  have hf : fitsZ p = true := by
    cases h : fitsZ p with
    | true => rfl
    | false => rw [bodyR_no h] at hb; cases hb
  rw [one_line hf] at hb
  cases hb
  refine ⟨hf, ?_⟩
  rw [lineZ_eq]
  unfold tailZ
  simp
theorem print_many {p : Pt} (h : fitsZ p = true) {n : Nat} (h1 : 2 ≤ n) (h2 : n ≤ 4000) : printZ 1 0 (List.replicate n p) [] = (headZ 1 0 ++ lineB p 1 ++ [32, 120] ++ Lib.decDigits n ++ [10, 115, 111, 117, 114, 99, 101, 10], 0) := by
  unfold printZ
  rw [if_neg (by decide), if_neg (by rw [List.length_replicate]; omega), body_many h (by omega)]
  simp only
  rw [if_neg (by decide), lineZ_eq]
  unfold lineB xpart tailZ
  rw [if_pos (by omega), if_neg (by decide)]
  simp

set_option maxRecDepth 100000 in
set_option maxHeartbeats 4000000 in
theorem repeats_any (p : Pt) (n : Int) (w : World) (he : EnvP w) : Calls Tryd.prog 7 #[.agg #[.int .i64 p.1, .int .i64 p.2], .int .i64 n] w fun e w' => e = .returned (.bool true) ∧ Below w.heap.size w w' := by
  obtain ⟨k, N⟩ := p
  simp only
  have HE := Lib.hid he
  obtain ⟨bp, hbp⟩ : ∃ bp, bp = w.heap.size := ⟨_, rfl⟩
  obtain ⟨W, hW⟩ : ∃ W, W = w.alloc (.cells #[.int .i64 k, .int .i64 N] 43) := ⟨_, rfl⟩
  have HX : Hid (Box W bp [.int .i64 k, .int .i64 N] 43) := Lib.hid (by rw [hW, hbp]; exact heap_alloc_new w _)
  have HBL : Hid (Below w.heap.size w W) := Lib.hid (by rw [hW]; exact below_alloc _ _)
  have HE1 := Lib.hid (HE.out.below HBL.out)
  have HWW := Lib.hid hW
  have HBP := Lib.hid hbp
  clear he hbp hW
  go_enter Tryd.func7, Tryd.ntmps7
  go_upto_region 1 with fail
  rw [← HWW.out, ← HBP.out]
  go_wp2_with fail
  refine (alive_any _ HE1.out.e).mono ?_
  rintro e w2 ⟨rfl, hb2⟩
  have HX2 := Lib.hid (HX.out.below hb2 HX.out.lt)
  have HBL2 := Lib.hid (HBL.out.trans (hb2.mono HBL.out.size))
  have HE2 := Lib.hid (HE1.out.below hb2)
  clear hb2
  obtain ⟨m, hm, hml, hm1, hm2⟩ := cut_mod n 3998
  have hmm : wrap64 (2 + (wrap64 (n.tmod 3999 + 3999)).tmod 3999) = ((2 + m : Nat) : Int) := by
    have e1 : ((3998 : Nat) : Int) + 1 = 3999 := rfl
    rw [e1] at hm hm1 hm2
    rw [IntWalk.wrap64_in (n.tmod 3999 + 3999) (by omega), show n.tmod 3999 + 3999 = n.tmod 3999 + (3998 : Nat) + 1 by omega, hm, IntWalk.wrap64_in _ (by omega)]
    omega
  have HMM := Lib.hid hmm
  clear hm hm1 hm2 hmm
  have x0 := HX2.out.cell 0
  have x1 := HX2.out.cell 1
  simp only [List.getElem?_cons_zero, List.getElem?_cons_succ] at x0 x1
  go_upto_region 4 with fail
  rw [HMM.out]
  obtain ⟨q, hq⟩ : ∃ q, q = 2 + m := ⟨_, rfl⟩
  rw [← hq]
  have hq2 : 2 ≤ q := by omega
  have hq4 : q ≤ 4000 := by omega
  clear hq hml HMM
  have hbA := below_alloc w2 (.cells #[.int .i64 k, .int .i64 N] 43)
  have hzz : PtsZ (w2.alloc (.cells #[.int .i64 k, .int .i64 N] 43)) (.slice (some ⟨w2.heap.size, 0, none⟩) 1 1) [(k, N)] := by
    refine ⟨_, _, rfl, fun i x e => ?_⟩
    obtain rfl : i = 0 := by
      have := (List.getElem?_eq_some_iff.1 e).1
      simp at this
      exact this
    simp only [List.getElem?_cons_zero, Option.some.injEq] at e
    subst e
    have hb : Box (w2.alloc (.cells #[.int .i64 k, .int .i64 N] 43)) w2.heap.size [.int .i64 k, .int .i64 N] 43 := heap_alloc_new w2 _
    exact ⟨_, rfl, hb.cell 0, hb.cell 1⟩
  obtain ⟨t, cd, hpr⟩ : ∃ t cd, printZ 1 0 [(k, N)] [] = (t, cd) := ⟨_, _, rfl⟩
  have hpc := print_any ⟨1, 0, [(k, N)], []⟩ _ _ (HE2.out.below hbA) hzz (by simp) (by simp)
  simp only at hpc
  rw [hpr] at hpc
  have HPC := Lib.hid hpc
  have HPT := Lib.hid hpr
  have HBA := Lib.hid hbA
  clear hbA hzz hpr hpc
  go_wp2_with fail
  refine HPC.out.mono ?_
  rintro e w4 ⟨hans, hb4⟩
  unfold PrintAns at hans
  subst hans
  have hb4A := HBA.out.trans (hb4.mono HBA.out.size)
  have HX4 := Lib.hid (HX2.out.below hb4A HX2.out.lt)
  have HBL4 := Lib.hid (HBL2.out.trans (hb4A.mono HBL2.out.size))
  have HE4 := Lib.hid (HE2.out.below hb4A)
  clear hb4 hb4A x0 x1 HPC HBA
  go_wp2_with fail
  refine (no_int _ _).mono ?_
  rintro e w5 ⟨rfl, hw5⟩
  rw [hw5]
  clear hw5
  by_cases hcd : cd = 0
  · subst hcd
    obtain ⟨hf, ht⟩ := print_one HPT.out
    have HF := Lib.hid hf
    have HT := Lib.hid ht
    have hsz : (str t).size = 15 + (lineB (k, N) 1).length + 8 := by
      rw [size_str, ht, List.length_append, List.length_append, head_one]
      rfl
    have HSZ := Lib.hid hsz
    have hs1 : ¬ ((str t).size : Int) < 15 + 8 := by omega
    have hs2 : ¬ ((str t).size : Int) < 23 := by omega
    clear hf ht hsz
    go_upto_region 10 with fail
    have hlt : (str t).size ≤ 73728 := by rw [size_str]; exact printZ_len HPT.out
    have hs3 : (15 : Int) ≤ ((str t).size : Int) - 8 := by omega
    have hs4 : ((str t).size : Int) - 8 ≤ (str t).size := by omega
    go_wp2_with fail
    have hl : (str t).extract 15 ((str t).size - 8) = str (lineB (k, N) 1) := by
      have hz := HSZ.out
      have e : (str t).size - 8 = (headZ 1 0).length + (lineB (k, N) 1).length := by rw [head_one]; simp; omega
      rw [e, slice_ext, HT.out, show 15 = (headZ 1 0).length from by rw [head_one]; rfl, List.append_assoc, mid_of]
    rw [hl]
    clear hl
    go_loopw [9, 10] (fun t9 t10 wr => ∃ (i : Nat) (many : Bs), t10 = .int .i64 i ∧ t9 = .string (str many) ∧ i ≤ 4000 ∧ many.length ≤ 20 ∧ DigR q i many ∧ Below w4.heap.size w4 wr) (fun _ t10 _ => (intOf t10).toNat)
    case atStart => exact ⟨q, [], rfl, rfl, hq4, Nat.zero_le _, digR_start (by omega), Below.refl _ _⟩
    case round =>
      obtain ⟨i, many, rfl, rfl, hi, hml, hd, hb⟩ := hrel
      have HD := Lib.hid hd
      have HB := Lib.hid hb
      clear hd hb
      by_cases h0 : 0 < i
      · have hg : (0 : Int) < i := by omega
        obtain ⟨dg, hdg⟩ : ∃ dg, dg = UInt8.ofNat (48 + i % 10) := ⟨_, rfl⟩
        have hcv : (convert 44 9 (.slice (some ⟨wr.heap.size, 0, none⟩) 1 1)).run Tryd.prog (wr.alloc (.cells #[.int .u8 (48 + (i : Int) % 10)] 5)) = .ok (.string (str [dg])) (wr.alloc (.cells #[.int .u8 (48 + (i : Int) % 10)] 5)) := by
          refine run_convert_bytes_back _ _ _ 5 _ 1 [dg] Tryd.underlying44 Tryd.underlying5 Tryd.underlying9 fun j hj => ?_
          obtain rfl : j = 0 := by simp at hj; exact hj
          have := cell_new1 wr (.int .u8 (48 + (i : Int) % 10)) 5 0 _ rfl
          rw [this]
          simp only [List.getElem_cons_zero]
          rw [hdg, ofNat_dig _ (Nat.mod_lt _ (by decide))]
          simp
        have HCV := Lib.hid hcv
        have hsm : ¬ 9223372036854775807 < (str [dg]).size + (str many).size := by rw [size_str, size_str]; simp; omega
        have hsm' : ¬ 9223372036854775807 < 1 + (str many).size := by rw [size_str]; omega
        have HDN : Hid (DigR q (i / 10) (dg :: many)) := Lib.hid (by rw [hdg]; exact digR_next h0 HD.out)
        have HBN := Lib.hid (HB.out.alloc HB.out.size (.cells #[.int .u8 (48 + (i : Int) % 10)] 5))
        clear hcv hdg
        go_wp2_with fail
        rw [HCV.out]
        simp only [Result.andThen]
        rw [Oper.upon_value]
        go_wp2_with fail
        go_roundw
        case rel => exact ⟨i / 10, dg :: many, by go_num, by rw [str_append]; rfl, by omega, by have := digR_len HDN.out hq4; omega, HDN.out, HBN.out⟩
        case measure => simp [intOf]; omega
      · obtain rfl : i = 0 := by omega
        have HMANY : Hid (many = Lib.decDigits q) := Lib.hid (by have := HD.out; unfold DigR at this; rw [if_pos rfl, List.nil_append] at this; exact this.symm)
        have hpm := print_many HF.out hq2 hq4
        obtain ⟨hb1, hb2⟩ := back_one hpm
        have hlen := printZ_len hpm
        obtain ⟨u, hu⟩ : ∃ u, headZ 1 0 ++ lineB ((k, N) : Pt) 1 ++ [32, 120] ++ Lib.decDigits q ++ [10, 115, 111, 117, 114, 99, 101, 10] = u := ⟨_, rfl⟩
        rw [hu] at hb1 hlen
        have hpz := fun w he => parse_z (str u) w (by rw [size_str]; omega) he (show parseD (bs (str u)) = _ from hb1)
        rw [hb2] at hpz
        have HPZ := Lib.hid hpz
        have hxt : (str t).extract 0 15 = str (headZ 1 0) := by
          rw [take_ext, HT.out, show 15 = (headZ 1 0).length from by rw [head_one]; rfl, List.append_assoc, List.take_left]
        have HXT := Lib.hid hxt
        have HU : Hid (str (headZ 1 0) ++ str (lineB (k, N) 1) ++ { data := #[32, 120] } ++ str many ++ { data := #[10, 115, 111, 117, 114, 99, 101, 10] } = str u) := Lib.hid (by
          rw [← hu, HMANY.out]
          apply str_ext
          simp only [bs_append, bs_str]
          rfl)
        have hz0 : (str (headZ 1 0)).size = 15 := by rw [size_str, head_one]; rfl
        have hz1 : (str (lineB (k, N) 1)).size ≤ 73728 := by have := HSZ.out; rw [size_str]; omega
        have hz2 : (str many).size ≤ 20 := by rw [size_str]; omega
        have HZ0 := Lib.hid hz0
        have v1 : ¬ 9223372036854775807 < (str (headZ 1 0)).size + (str (lineB (k, N) 1)).size := by omega
        have v2 : ¬ 9223372036854775807 < (str (headZ 1 0)).size + (str (lineB (k, N) 1)).size + 2 := by omega
        have v3 : ¬ 9223372036854775807 < (str (headZ 1 0)).size + (str (lineB (k, N) 1)).size + 2 + (str many).size := by omega
        have v4 : ¬ 9223372036854775807 < (str (headZ 1 0)).size + (str (lineB (k, N) 1)).size + 2 + (str many).size + 8 := by omega
        have w1' : ¬ 9223372036854775807 < ((str t).extract 0 15).size + (str (lineB (k, N) 1)).size := by rw [hxt]; exact v1
        have hs15 : (15 : Int) ≤ (str t).size := by omega
        have HE6 := Lib.hid (HE4.out.below HB.out)
        clear hb1 hb2 hpm hu hpz hxt hz0
        go_wp2_with fail
        rw [HXT.out, HU.out]
        refine (HPZ.out _ HE6.out.e).mono ?_
        rintro e w6 ⟨⟨a6, k6, rfl, hz6⟩, hb6⟩
        simp only [List.length_replicate] at hz6 ⊢
        obtain ⟨p6, hp6⟩ : ∃ p6, p6 = w6.heap.size := ⟨_, rfl⟩
        obtain ⟨W6, hW6⟩ : ∃ W6, W6 = w6.alloc (.cells #[.int .i64 1, .int .i64 0, .slice a6 q k6, .string (str [])] 25) := ⟨_, rfl⟩
        have HX6 : Hid (Box W6 p6 [.int .i64 1, .int .i64 0, .slice a6 q k6, .string (str [])] 25) := Lib.hid (by rw [hW6, hp6]; exact heap_alloc_new w6 _)
        have hbA : Below w6.heap.size w6 W6 := by rw [hW6]; exact below_alloc _ _
        have hbB := hb6.trans (hbA.mono hb6.size)
        have hbC := HB.out.trans (hbB.mono HB.out.size)
        have HBL6 := Lib.hid (HBL4.out.trans (hbC.mono HBL4.out.size))
        have HXP := Lib.hid (HX4.out.below hbC HX4.out.lt)
        have HZ6 := Lib.hid (hz6.keep hbA)
        clear hz6 hb6 hbA hbB hbC
        go_upto_region 17 with fail
        rw [show ({ data := #[] } : ByteArray) = str [] from rfl, ← hW6, ← hp6]
        clear hW6 hp6
        have c2 := HX6.out.cell 2
        simp only [List.getElem?_cons_zero, List.getElem?_cons_succ] at c2
        go_wp2_with (go_at_call 12; refine (no_int _ _).mono ?_; rintro e w' ⟨rfl, hw'⟩; rw [hw']; clear hw')
        clear c2 v1 v2 v3 v4 w1'
        go_loopw [86] (fun t86 wr => ∃ i : Nat, t86 = .int .i64 i ∧ i ≤ q ∧ Below W6.heap.size W6 wr) (fun t86 _ => q - (intOf t86).toNat)
        case atStart => exact ⟨0, rfl, Nat.zero_le _, Below.refl _ _⟩
        case round =>
          obtain ⟨i, rfl, hi, hb⟩ := hrel
          have HB7 := Lib.hid hb
          clear hb
          by_cases hlt : i < q
          · have hg : (i : Int) < q := by omega
            have hz := HZ6.out.keep HB7.out
            obtain ⟨a', c', hse, hcell⟩ := hz
            have hs1 := Value.slice.inj hse
            have hxi : (List.replicate q (k, N))[i]? = some (k, N) := by rw [List.getElem?_replicate, if_pos hlt]
            obtain ⟨ad, hae, e1, e2⟩ := hcell i (k, N) hxi
            have haa : a6 = some ad := hs1.1.trans hae
            subst haa
            simp only at e1 e2
            have HXQ := Lib.hid (HXP.out.below HB7.out HXP.out.lt)
            have hbA := below_alloc wr (.cells #[.int .i64 k, .int .i64 N] 43)
            have HXR := Lib.hid (HXQ.out.below hbA HXQ.out.lt)
            have HB8 := Lib.hid (HB7.out.trans (hbA.mono HB7.out.size))
            obtain ⟨x0, x1, -, -⟩ := HXR.out.cells2
            clear hse hcell hs1 hxi hae hbA
            go_wp2_with fail
            go_roundw
            case rel => exact ⟨i + 1, by go_num, by omega, HB8.out⟩
            case measure => simp [intOf]; omega
          · obtain rfl : i = q := by omega
            go_wp2_with fail
            go_ret
            exact ⟨rfl, HBL6.out.trans (HB7.out.mono HBL6.out.size)⟩
  · have ht := printZ_err HPT.out hcd
    have hc0 : ((cd : Int) != 0) = true := by rw [bne_iff_ne]; omega
    have hc1 : ¬ ((cd : Int) = 0) := by omega
    clear hcd
    subst ht
    rw [show str [] = { data := #[] } from rfl]
    go_wp2_with fail
    go_ret
    exact ⟨rfl, HBL4.out⟩
end Go.Proofs.YthncifbnkednlaaDoor
