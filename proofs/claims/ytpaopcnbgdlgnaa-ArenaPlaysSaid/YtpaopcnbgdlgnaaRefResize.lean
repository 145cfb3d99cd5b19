/- The reference's Resize. -/
import Derived.Test.YtpaopcnbgdlgnaaRefAlloc
namespace Go.Proofs.Ytpaopcnbgdlgnaa
open Go.RowKit Go.MapKept
set_option linter.unusedVariables false
set_option linter.unusedSimpArgs false

variable {X : Nat → Prop} {w w1 w2 w' : World} {p N : Nat} {R T : List RBlk} {v v' : Value} {S S' : St}

/-- A list cut or filled up with zeros to a length. -/
def fitL (m : Nat) (xs : List Int) : List Int := (List.range m).map fun q => xs.getD q 0
/-- .. as far as it has been copied. -/
def fillL (m : Nat) (xs : List Int) (j : Nat) : List Int := (List.range m).map fun q => if q < j then xs.getD q 0 else 0

theorem fill_length (m : Nat) (xs : List Int) (j : Nat) : (fillL m xs j).length = m := by simp [fillL]
theorem fit_length (m : Nat) (xs : List Int) : (fitL m xs).length = m := by simp [fitL]
theorem fill_zero (m : Nat) (xs : List Int) : fillL m xs 0 = List.replicate m 0 := by
  apply List.ext_getElem
  · simp [fillL]
  · intro i h1 h2; simp [fillL]
theorem fill_step {m : Nat} {xs : List Int} {j : Nat} {x : Int} (hj : j < m) (hx : xs[j]? = some x) : (fillL m xs j).set j x = fillL m xs (j + 1) := by
  apply List.ext_getElem
  · simp [fillL]
  · intro i h1 h2
    have him : i < m := by rw [fill_length] at h2; exact h2
    rw [List.getElem_set]
    by_cases hij : j = i
    · subst hij
      rw [if_pos rfl]
      simp [fillL, List.getD_eq_getElem?_getD, hx]
    · rw [if_neg hij]
      simp only [fillL, List.getElem_map, List.getElem_range]
      by_cases h : i < j
      · rw [if_pos h, if_pos (by omega)]
      · rw [if_neg h, if_neg (by omega)]
theorem fill_end {m : Nat} {xs : List Int} {j : Nat} (hj : ¬ (j < m ∧ j < xs.length)) : fillL m xs j = fitL m xs := by
  unfold fillL fitL
  apply List.map_congr_left
  intro q hq
  have hqm : q < m := by simpa using hq
  by_cases h : q < j
  · rw [if_pos h]
  · rw [if_neg h, List.getD_eq_getElem?_getD, List.getElem?_eq_none (by omega)]; rfl
theorem fill_get {m : Nat} {xs : List Int} {j : Nat} (hj : j < m) : (fillL m xs j)[j]? = some 0 := by
  simp [fillL, hj]

theorem rel_resize {k : Int} {i m : Nat} {b : RBlk} {r : Run} (hr : Rel S R N) (hS : Inv S) (hat : IsAt R k i b) (hm1 : 1 ≤ m) (hm6 : m ≤ 65536) (hf : firstRun m (runs N 0 (eraseB k S.L)) = some r) (d : Nat) :
    resizeR S k m = 0 ∧ Rel (resizeS S k m) ((R.take i ++ R.drop (i + 1)).take r.i ++ ⟨b.h, r.a, fitL m b.xs, d⟩ :: (R.take i ++ R.drop (i + 1)).drop r.i) N ∧ r.i ≤ (R.take i ++ R.drop (i + 1)).length := by
  obtain ⟨hgb, he⟩ := getB_at hat
  rw [hr.blks] at hgb he
  rw [hr.size] at hf
  have hm := List.mem_of_getElem? hat.1
  have hk := hat.2.1
  obtain ⟨hU, hUm⟩ := ref_erase hr hS hat
  have e1 : resizeR S k m = 0 := by unfold resizeR; rw [hgb]; simp only [Int.toNat_natCast, hf]; rw [if_neg (by omega)]
  have e2 : resizeS S k m = ⟨putC S.cells r.a m (ownC S.cells b.blk m), insB (eraseB k S.L) r.i ⟨b.h, r.a, m⟩⟩ := by
    unfold resizeS; rw [hgb]; simp only [Int.toNat_natCast, hf]; rw [if_neg (by omega)]; rfl
  obtain ⟨b1, b2, b3, b4, b5⟩ := hS.get hgb
  obtain ⟨hrm, hrn⟩ := firstRun_some hf
  have hgn : getB b.h (eraseB k S.L) = none := by rw [getB_erase hS.nodup, if_pos hk]
  obtain ⟨_, i2, i3⟩ := (hS.erase k).ins hrm (h := b.h) (n := m) (cells := S.cells) b2 b5 hgn (by omega) hrn rfl
  refine ⟨e1, ⟨?_, ?_, ?_⟩, ?_⟩
  · rw [hr.size]; exact (hS.resize k m).2.symm
  · rw [ins_blks, e2, ← he]
    simp [RBlk.blk, fit_length]
  · intro c hc
    have hold : ∀ c ∈ R.take i ++ R.drop (i + 1), Cont (resizeS S k m) c.h c.xs := fun c hc => (hr.cont c (hUm c hc).1).resize hS (hUm c hc).2 m
    rcases List.mem_append.1 hc with h | h
    · exact hold c (List.mem_of_mem_take h)
    · rcases List.mem_cons.1 h with rfl | h
      · rcases resize_cases hS k (m : Int) with ⟨h0, _⟩ | ⟨b', hb', ⟨h1, _⟩ | ⟨m', b'', hmm, _, _, _, _, _, _, hcc⟩⟩
        · rw [hgb] at h0; simp at h0
        · rw [e1] at h1; omega
        · obtain rfl : m = m' := by omega
          have := hcc b.xs (by have := hr.cont b hm; rw [hk] at this; exact this)
          show Cont _ ((b.h : Nat) : Int) _
          rw [hk]
          exact this
      · exact hold c (List.mem_of_mem_drop h)
  · have : (R.take i ++ R.drop (i + 1)).length = (eraseB k S.L).length := by rw [he, List.length_map]
    rw [this]; exact i2

set_option maxHeartbeats 1000000 in
theorem ref_resize (J : RefS X w p S) (k n : Int) :
    Calls Try.prog 46 #[.pointer (some ⟨p, 0, none⟩), .int .i64 k, .int .i64 n] w fun e w' => RefPost X w p (resizeS S k n) (.int .i64 (resizeR S k n)) e w' := by
  have J0 := J
  obtain ⟨N, R, v, H, hr, hS⟩ := J
  have hL := hr.blks
  have hlen : R.length ≤ 65536 := by have := hr.length; have := hS.length; have := hS.size; omega
  have F := ref_find H k hlen
  have c0 := H.c0
  have c1 := H.c1
  have hp := H.lt.1
  obtain ⟨A, c, rfl⟩ := H.shape
  have HJ := Lib.hid J0
  have HH := Lib.hid H
  have HREL := Lib.hid hr
  have HIN := Lib.hid hS
  have HL := Lib.hid hL
  clear J0
  go_enter Try.func46, Try.ntmps46
  go_wp2_with fail
  refine F.mono ?_
  clear F
  rintro e w1 ⟨(⟨i, b, hat, rfl⟩ | ⟨hno, rfl⟩), rfl⟩
  · have hgb := (getB_at hat).1
    rw [hL] at hgb
    have hlt := (List.getElem?_eq_some_iff.1 hat.1).1
    by_cases hn : n < 1 ∨ 65536 < n
    · have HP := Lib.hid (show RefPost X w1 p (resizeS S k n) (.int .i64 (resizeR S k n)) (.returned (.int .i64 1)) w1 from by
        rw [show resizeS S k n = S from by unfold resizeS; rw [hgb]; simp only; rw [if_pos hn], show resizeR S k n = 1 from by unfold resizeR; rw [hgb]; simp only; rw [if_pos hn]]
        exact HJ.out.post)
      clear H hr hS hL hat hgb
      rcases hn with hn | hn
      all_goals
        go_wp2_with fail
        go_ret
        exact HP.out
    · obtain ⟨m, rfl⟩ := Int.eq_ofNat_of_zero_le (show 0 ≤ n by omega)
      have hm1 : 1 ≤ m := by omega
      have hm6 : m ≤ 65536 := by omega
      clear hn
      have CC := ref_cut H.row hlt hlen
      obtain ⟨hrel, hm⟩ := ref_erase hr hS hat
      have hIe := hS.erase k
      have he := (getB_at hat).2
      rw [hL] at he
      obtain ⟨U, hU⟩ : ∃ U, U = R.take i ++ R.drop (i + 1) := ⟨_, rfl⟩
      have hnd := erase_nodup (i := i) H.nodup
      have RR := Lib.hid (fun (r : Run) (hf : firstRun m (runs N 0 (eraseB k S.L)) = some r) (d : Nat) => rel_resize hr hS hat hm1 hm6 hf d)
      rw [← hU] at CC hm he hnd RR
      have hUl : U.length ≤ 65536 := by rw [hU, List.length_append, List.length_take, List.length_drop]; omega
      have hxl : b.xs.length ≤ 65536 := by
        have := (hS.get hgb).2.2.2.1
        have h2 : b.a + b.xs.length ≤ 65536 := this
        omega
      have PL := Lib.hid (fun (W : World) (u : Value) (hrow : W.ownsRow w1.heap.size 84 3 u U.length (flat U)) =>
        ref_place (w := W) (N := N) (n := m) hrow (by rw [← he]; exact hIe.laid) (by rw [← he, hr.size]; exact hIe.top) (by rw [hr.size]; exact hS.size) hUl hm1 hm6)
      have HAT := Lib.hid hat
      have HM := Lib.hid hm
      have HND := Lib.hid hnd
      have HE := Lib.hid he
      have HGB := Lib.hid hgb
      obtain ⟨L0, hL0⟩ : ∃ L0, L0 = b.xs.length := ⟨_, rfl⟩
      rw [← hL0] at hxl
      have HL0 := Lib.hid hL0
      have hmk := run_make_row' (P := Try.prog) 38 2 (.int .i64 0) 8 Try.underlying38 Try.infoD2 rfl .i64 .i64 m (by omega) (by omega)
      clear H hr hS hL hat hgb hrel hIe hU hm hnd he hL0
      go_wp2_with fail
      refine CC.mono ?_
      clear CC
      rintro e w2 ⟨vr, rfl, hown, hb⟩
      obtain ⟨ra, rc, rfl⟩ := row_shape hown
      obtain ⟨UL, hUL⟩ : ∃ UL, UL = U.length := ⟨_, rfl⟩
      have P2 := PL.out w2 _ hown
      have H2 := HH.out.below hb
      have c0 := H2.c0
      have HOWN := Lib.hid hown
      have HB := Lib.hid hb
      have HUL := Lib.hid hUL
      rw [← hUL] at P2 hUl ⊢
      clear hown hb hUL H2
      go_wp2_with fail
      refine P2.mono ?_
      clear P2
      rintro e w3 ⟨hpl, hb3⟩
      rw [← HE.out] at hpl
      have hB3 := HB.out.trans (hb3.mono HB.out.size)
      cases hf : firstRun m (runs N 0 (eraseB k S.L)) with
      | none =>
        rw [hf] at hpl
        simp only at hpl
        subst hpl
        have HP := Lib.hid (show RefPost X w1 p (resizeS S k m) (.int .i64 (resizeR S k m)) (.returned (.int .i64 8)) w3 from by
          have hf2 := hf
          rw [HREL.out.size] at hf2
          have e1 : resizeR S k m = 8 := by unfold resizeR; rw [HGB.out]; simp only [Int.toNat_natCast, hf2]; rw [if_neg (by omega)]
          have e2 : resizeS S k m = S := by unfold resizeS; rw [HGB.out]; simp only [Int.toNat_natCast, hf2]; rw [if_neg (by omega)]
          rw [e1, e2]
          exact ⟨rfl, ⟨N, R, _, (HH.out.below hB3).mono (fun k hk => .inl hk), HREL.out, HIN.out⟩, Keep.of_below hB3⟩)
        clear hf hb3 hB3 hmk
        go_wp2_with fail
        go_ret
        exact HP.out
      | some r =>
        rw [hf] at hpl
        simp only at hpl
        subst hpl
        obtain ⟨f1, f2, f3⟩ := RR.out r hf w3.heap.size
        rw [← HUL.out] at f3
        have F1 := Lib.hid f1
        have F2 := Lib.hid f2
        have own3 := ownsRow_of_block HOWN.out fun k hk => hb3.block k (HOWN.out.lt k hk).2
        have OWN3 := Lib.hid own3
        have HB3 := Lib.hid hB3
        have hra : 0 ≤ (r.a : Int) := by omega
        have H3 := HH.out.below hB3
        have HH3 := Lib.hid H3
        have c1 := H3.c1
        clear hf hb3 hB3 f1 f2 own3 H3
        go_wp2_with fail
        go_loopw [12] (fun t wr => ∃ j : Nat, j ≤ m ∧ j ≤ L0 ∧ t = .int .i64 j ∧ wr.heap[w3.heap.size]? = some (.cells ((fillL m b.xs j).map iv).toArray 2 (0, 0)) ∧ Below w3.heap.size w3 wr) (fun t _ => m - (intOf t).toNat)
        case atStart => exact ⟨0, Nat.zero_le _, Nat.zero_le _, by go_num, by rw [fill_zero, ← made_zeros]; exact heap_alloc_new w3 _, below_alloc _ _⟩
        case round =>
          obtain ⟨j, hj1, hj2, rfl, hdat, hBr⟩ := hrel
          have H4 := HH3.out.below hBr
          have hs3 := hBr.size
          by_cases hj : j < m ∧ j < L0
          · obtain ⟨hjm, hjl⟩ := hj
            have c1 := H4.c1
            obtain ⟨g, rfl, -, -, -, d2⟩ := H4.at_ HAT.out.1
            rw [← HL0.out] at d2
            obtain ⟨x, hx⟩ : ∃ x, b.xs[j]? = some x := ⟨b.xs[j]'(by rw [← HL0.out]; exact hjl), List.getElem?_eq_getElem _⟩
            have hcx := H4.cell (List.mem_of_getElem? HAT.out.1) hx
            have hdc : wr.cell? ⟨w3.heap.size, j, none⟩ = some (.int .i64 0) := by
              rw [cell_of_list hdat, List.getElem?_map, fill_get hjm]; rfl
            have hdf : wr.frozen? ⟨w3.heap.size, j, none⟩ = false := by simp [World.frozen?, hdat]
            have hnew := setCell_list (i := j) hdat (.int .i64 x)
            have e1 : ((fillL m b.xs j).map iv).set j (.int .i64 x) = (fillL m b.xs (j + 1)).map iv := by
              rw [← fill_step hjm hx]; simp [iv, List.map_set]
            rw [e1] at hnew
            have HNEW := Lib.hid hnew
            have HBR := Lib.hid (Below.setCell hBr (p := ⟨w3.heap.size, j, none⟩) (Nat.le_refl _) (.int .i64 x))
            clear hnew e1 hdat hx H4 hBr hmk
            go_wp2_with fail
            go_roundw
            case rel => exact ⟨j + 1, by omega, by omega, by go_num, HNEW.out, HBR.out⟩
            case measure => simp [intOf]; omega
          · have hfin := fill_end (m := m) (xs := b.xs) (j := j) (by rw [← HL0.out]; exact hj)
            rw [hfin] at hdat
            have own4 := ownsRow_of_block OWN3.out fun k hk => hBr.block k (OWN3.out.lt k hk).2
            have hbw := HB3.out.trans (hBr.mono HB3.out.size)
            have PT := ref_put_at (w := wr) (w1 := wr) (i := r.i) ⟨b.h, r.a, fitL m b.xs, w3.heap.size⟩ own4 (Below.refl _ _) (by rw [← HUL.out]; exact f3) (by rw [← HUL.out]; exact hUl) (fit_length m b.xs) HAT.out.2.1 rfl rfl
            rw [← HUL.out] at PT
            have FIN := Lib.hid (show ∀ wz A2 c2, wz.ownsRow wr.heap.size 84 3 (.slice A2 (UL + 1) c2) (U.take r.i ++ ⟨b.h, r.a, fitL m b.xs, w3.heap.size⟩ :: U.drop r.i).length (flat (U.take r.i ++ ⟨b.h, r.a, fitL m b.xs, w3.heap.size⟩ :: U.drop r.i)) → Below wr.heap.size wr wz →
                RefPost X w1 p (resizeS S k m) (.int .i64 (resizeR S k m)) (.returned (.int .i64 0)) (wz.setCell ⟨p, 1, none⟩ (.slice A2 (UL + 1) c2)) ∧ wz.cell? ⟨p, 1, none⟩ = some (.slice A R.length c) ∧ wz.frozen? ⟨p, 1, none⟩ = false from by
              intro wz A2 c2 hown hbz
              have hbz2 := hbw.trans (hbz.mono hbw.size)
              have Hz := HH.out.below hbz2
              refine ⟨?_, Hz.c1, Hz.frz 1⟩
              rw [F1.out]
              refine HH.out.fin (Below.refl _ _) hbz2 (row_base hown hbw.size) ?_ (ins_nodup HND.out fun c hc e => ?_) F2.out (HIN.out.resize k m).1
              · intro c hc
                rcases List.mem_append.1 hc with hc | hc
                · exact .inl (HM.out c (List.mem_of_mem_take hc)).1
                · rcases List.mem_cons.1 hc with rfl | hc
                  · have hlt3 : w3.heap.size < wr.heap.size := (Array.getElem?_eq_some_iff.1 hdat).1
                    exact .inr ⟨(hbz.block _ hlt3).trans hdat, .inr HB3.out.size⟩
                  · exact .inl (HM.out c (List.mem_of_mem_drop hc)).1
              · have h1 := HH.out.lt.2.2 c (HM.out c hc).1
                have h2 := HB3.out.size
                simp only at e
                omega)
            simp only at PT
            have c1 := H4.c1
            obtain ⟨g, rfl, -, -, -, d2⟩ := H4.at_ HAT.out.1
            rw [← HL0.out] at d2
            clear hfin hdat own4 hbw H4 hBr hmk
            by_cases hjm : j < m
            · have hjl : ¬ j < L0 := fun h => hj ⟨hjm, h⟩
              clear hj
              go_wp2_with fail
              refine PT.mono ?_
              clear PT
              rintro e wz ⟨A2, c2, rfl, hown, hbz⟩
              obtain ⟨FF, z1, z2⟩ := FIN.out wz A2 c2 hown hbz
              have HP := Lib.hid FF
              clear FF hown hbz
              go_wp2_with fail
              go_ret
              exact HP.out
            · clear hj
              go_wp2_with fail
              refine PT.mono ?_
              clear PT
              rintro e wz ⟨A2, c2, rfl, hown, hbz⟩
              obtain ⟨FF, z1, z2⟩ := FIN.out wz A2 c2 hown hbz
              have HP := Lib.hid FF
              clear FF hown hbz
              go_wp2_with fail
              go_ret
              exact HP.out
  · have HP := Lib.hid (show RefPost X w1 p (resizeS S k n) (.int .i64 (resizeR S k n)) (.returned (.int .i64 5)) w1 from by
      have hgb := getB_no hno
      rw [hL] at hgb
      rw [show resizeS S k n = S from by unfold resizeS; rw [hgb], show resizeR S k n = 5 from by unfold resizeR; rw [hgb]]
      exact HJ.out.post)
    clear H hr hS hL hno
    go_wp2_with fail
    go_ret
    exact HP.out
end Go.Proofs.Ytpaopcnbgdlgnaa
