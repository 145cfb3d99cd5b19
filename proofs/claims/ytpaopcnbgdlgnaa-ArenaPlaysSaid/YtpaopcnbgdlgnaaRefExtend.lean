/- The reference's Extend, and New. -/
import Derived.Test.YtpaopcnbgdlgnaaRefResize
namespace Go.Proofs.Ytpaopcnbgdlgnaa
open Go.RowKit Go.MapKept
set_option linter.unusedVariables false
set_option linter.unusedSimpArgs false

variable {X : Nat → Prop} {w w1 w2 w' : World} {p N : Nat} {R T : List RBlk} {v v' : Value} {S S' : St}

theorem Cont.uniq {h : Int} {xs ys : List Int} (h1 : Cont S h xs) (h2 : Cont S h ys) : xs = ys := by
  obtain ⟨b, hb, hn, hx⟩ := h1
  obtain ⟨c, hc, hm, hy⟩ := h2
  rw [hb] at hc
  cases hc
  apply List.ext_getElem?
  intro j
  by_cases hj : j < xs.length
  · have e1 : xs[j]? = some xs[j] := List.getElem?_eq_getElem hj
    have e2 : ys[j]? = some (ys[j]'(by omega)) := List.getElem?_eq_getElem _
    have e3 := (hx j _ e1).symm.trans (hy j _ e2)
    rw [e1, e2, e3]
  · rw [List.getElem?_eq_none (by omega), List.getElem?_eq_none (by omega)]

theorem rel_extend {k : Int} {i m : Nat} {b : RBlk} {N6 : Nat} {R6 : List RBlk} (hr : Rel S R N) (hS : Inv S) (hat : IsAt R k i b) (hm1 : 1 ≤ m) (hm6 : m ≤ 65536) (hl : liveL S.L - b.xs.length + m ≤ S.cells.length) (hr6 : Rel (compactS (freeS S k)) R6 N6) (d : Nat) :
    Rel (extendS S k m) (R6.take R6.length ++ ⟨b.h, liveL (compactS (freeS S k)).L, fitL m b.xs, d⟩ :: R6.drop R6.length) N6 := by
  obtain ⟨hgb, he⟩ := getB_at hat
  rw [hr.blks] at hgb he
  have hbm := List.mem_of_getElem? hat.1
  have hk := hat.2.1
  have hI := hS.extend k m
  have F := extend_fits hS hgb hm1 hm6 hl
  have hI1 := hS.erase k
  have hlv : liveL (compactS (freeS S k)).L = liveL (eraseB k S.L) := compL_live
  have hbl := live_erase hgb
  have hbl' : liveL (eraseB k S.L) + b.xs.length = liveL S.L := hbl
  have e2 : extendS S k m = ⟨putC (compactS (freeS S k)).cells (liveL (eraseB k S.L)) m (ownC S.cells b.blk m), insB (compL 0 (eraseB k S.L)) (eraseB k S.L).length ⟨b.h, liveL (eraseB k S.L), m⟩⟩ := by
    have hnn : ¬ ((S.cells.length : Int) < liveL S.L - b.blk.n + m) := by show ¬ ((S.cells.length : Int) < liveL S.L - b.xs.length + m); omega
    unfold extendS; rw [hgb]; simp only; rw [if_neg (by omega), if_neg hnn]; simp only [Int.toNat_natCast]; rfl
  have hR6 : R6.map RBlk.blk = compL 0 (eraseB k S.L) := hr6.blks
  have hlen : R6.length = (eraseB k S.L).length := by
    have := congrArg List.length hR6
    rw [List.length_map, compL_length] at this
    exact this
  refine ⟨?_, ?_, ?_⟩
  · rw [hr6.size, hI.2]
    exact compC_length (Nat.le_refl _) hI1.laid hI1.top
  · rw [ins_blks, e2, hR6, hlen, hlv]
    simp [RBlk.blk, fit_length]
  · intro c hc
    rcases List.mem_append.1 hc with h | h
    · have hcm := List.mem_of_mem_take h
      have hcb : c.blk ∈ compL 0 (eraseB k S.L) := by rw [← hR6]; exact List.mem_map.2 ⟨c, hcm, rfl⟩
      have hne : k ≠ c.h := by
        intro e
        have hn : getB k (compL 0 (eraseB k S.L)) = none := compL_none (by rw [getB_erase hS.nodup, if_pos rfl])
        exact getB_none.1 hn c.blk hcb e.symm
      obtain ⟨d', hd', _⟩ := hr6.cont c hcm
      have hs : (getB c.h S.L).isSome = true := by
        have h1 : (getB (c.h : Int) (compL 0 (eraseB k S.L))).isSome = true := by
          have : getB (c.h : Int) (compactS (freeS S k)).L = some d' := hd'
          rw [show (compactS (freeS S k)).L = compL 0 (eraseB k S.L) from rfl] at this
          rw [this]; rfl
        rw [getB_hs (compL_hs (L := eraseB k S.L)), getB_erase hS.nodup, if_neg (fun e => hne e.symm)] at h1
        exact h1
      obtain ⟨b0, hb0⟩ := Option.isSome_iff_exists.1 hs
      obtain ⟨ys, hys, _⟩ := cont_of hS hb0
      have := ((hys.free hS hne).compact hI1).uniq (hr6.cont c hcm)
      rw [← this]
      exact hys.extend hS hne m
    · rcases List.mem_cons.1 h with rfl | h
      · have := F.2.2.2.2.2 b.xs (by have := hr.cont b hbm; rw [hk] at this; exact this)
        show Cont _ ((b.h : Nat) : Int) _
        rw [hk]
        exact this
      · rw [List.drop_length] at h; simp at h

theorem RefAt.low (H : RefAt X w p N R v) : RefAt (fun j => X j ∧ j < w.heap.size) w p N R v :=
  ⟨H.head, ⟨H.xp, H.lt.1⟩, H.row, fun g hg => ⟨H.xrow g hg, H.lt.2.1 g hg⟩, fun b hb => ⟨(H.data b hb).1, (H.data b hb).2, H.lt.2.2 b hb⟩, H.nodup⟩

/-- What happens in Extend behind the copy: the parts put together. -/
theorem extend_fin {r : Value} {wr w5 w6 wf : World} {N6 dg : Nat} {R6 : List RBlk} {v6 : Value} {xs : List Int}
    (hB : Below w.heap.size w wr) (hd : wr.heap[dg]? = some (.cells (xs.map iv).toArray 2 (0, 0))) (hdg : w.heap.size ≤ dg) (hK5 : Keep (fun j => X j ∧ j < w.heap.size) wr w5) (hK6 : Keep (Grow (fun j => X j ∧ j < w.heap.size) wr w5) w5 w6)
    (H6 : RefAt (Grow (Grow (fun j => X j ∧ j < w.heap.size) wr w5) w5 w6) w6 p N6 R6 v6) (hb : Below w6.heap.size w6 wf) {b : RBlk} (hbd : b.d = dg) (hbx : b.xs = xs)
    (hown : wf.ownsRow w6.heap.size 84 3 v' (R6.take R6.length ++ b :: R6.drop R6.length).length (flat (R6.take R6.length ++ b :: R6.drop R6.length)))
    (hrel : Rel S' (R6.take R6.length ++ b :: R6.drop R6.length) N6) (hI : Inv S') :
    RefPost X w p S' r (.returned r) (wf.setCell ⟨p, 1, none⟩ v') := by
  have hdl : dg < wr.heap.size := (Array.getElem?_eq_some_iff.1 hd).1
  have hn0 : ¬ (X dg ∧ dg < w.heap.size) := fun h => by omega
  have hn5 : ¬ Grow (fun j => X j ∧ j < w.heap.size) wr w5 dg := by
    rintro (h | ⟨h, _⟩)
    · exact hn0 h
    · omega
  have hn6 : ¬ Grow (Grow (fun j => X j ∧ j < w.heap.size) wr w5) w5 w6 dg := by
    rintro (h | ⟨h, _⟩)
    · exact hn5 h
    · have := hK5.size; omega
  have h5 : w5.heap[dg]? = wr.heap[dg]? := hK5.block dg hdl hn0
  have h6 : w6.heap[dg]? = w5.heap[dg]? := hK6.block dg (Nat.lt_of_lt_of_le hdl hK5.size) hn5
  have hd6 : dg < w6.heap.size := Nat.lt_of_lt_of_le (Nat.lt_of_lt_of_le hdl hK5.size) hK6.size
  have hf : wf.heap[dg]? = some (.cells (xs.map iv).toArray 2 (0, 0)) := ((hb.block dg hd6).trans (h6.trans h5)).trans hd
  have H7 : RefAt (fun j => Grow (Grow (fun j => X j ∧ j < w.heap.size) wr w5) w5 w6 j ∨ j = dg) w6 p N6 R6 v6 := H6.mono fun j hj => .inl hj
  have hP := H7.fin (w := w6) (T := R6.take R6.length ++ b :: R6.drop R6.length) (r := r) (S' := S') (Below.refl _ _) hb hown (by
    intro c hc
    rcases List.mem_append.1 hc with h | h
    · exact .inl (List.mem_of_mem_take h)
    · rcases List.mem_cons.1 h with rfl | h
      · exact .inr ⟨by rw [hbd, hbx]; exact hf, .inl (.inr hbd)⟩
      · rw [List.drop_length] at h; simp at h) (ins_nodup H6.nodup fun c hc e => hn6 (by rw [← hbd, ← e]; exact (H6.data c hc).2)) hrel hI
  obtain ⟨_, ⟨N7, R7, v7, G1, G2, G3⟩, K7⟩ := hP
  have hs1 := hB.size
  have hs2 := hK5.size
  have hs3 := hK6.size
  have hs4 := K7.size
  refine ⟨rfl, ⟨N7, R7, v7, G1.mono ?_, G2, G3⟩, ?_⟩
  · rintro j ((((⟨h, _⟩ | ⟨h, h'⟩) | ⟨h, h'⟩) | rfl) | ⟨h, h'⟩)
    · exact .inl h
    · exact .inr ⟨by omega, by omega⟩
    · exact .inr ⟨by omega, by omega⟩
    · exact .inr ⟨by omega, by omega⟩
    · exact .inr ⟨by omega, h'⟩
  · refine (((Keep.of_below hB).trans' hK5 fun i hi h => h.1).trans' hK6 ?_).trans' K7 ?_
    · rintro i hi (⟨h, _⟩ | ⟨h, _⟩)
      · exact h
      · omega
    · rintro i hi (((⟨h, _⟩ | ⟨h, _⟩) | ⟨h, _⟩) | rfl)
      · exact h
      · omega
      · omega
      · omega

set_option maxRecDepth 100000 in
set_option maxHeartbeats 5000000 in
theorem ref_extend (J : RefS X w p S) (k n : Int) :
    Calls Try.prog 50 #[.pointer (some ⟨p, 0, none⟩), .int .i64 k, .int .i64 n] w fun e w' => RefPost X w p (extendS S k n) (.int .i64 (extendR S k n)) e w' := by
  have J0 := J
  obtain ⟨N, R, v, H, hr, hS⟩ := J
  have hL := hr.blks
  have hlen : R.length ≤ 65536 := by have := hr.length; have := hS.length; have := hS.size; omega
  have F := ref_find H k hlen
  have c0 := H.c0
  have c1 := H.c1
  have hp := H.lt.1
  obtain ⟨A, c, rfl⟩ := H.shape
  have HJ := Lib.hid J0
  have HH := Lib.hid H
  have HREL := Lib.hid hr
  have HIN := Lib.hid hS
  have HL := Lib.hid hL
  clear J0
  go_enter Try.func50, Try.ntmps50
  go_wp2_with fail
  refine F.mono ?_
  clear F
  rintro e w1 ⟨(⟨i, b, hat, rfl⟩ | ⟨hno, rfl⟩), rfl⟩
  · have hgb := (getB_at hat).1
    rw [hL] at hgb
    have hlt := (List.getElem?_eq_some_iff.1 hat.1).1
    by_cases hn : n < 1 ∨ 65536 < n
    · have HP := Lib.hid (show RefPost X w1 p (extendS S k n) (.int .i64 (extendR S k n)) (.returned (.int .i64 1)) w1 from by
        obtain ⟨e1, e2⟩ := extend_arg hgb hn
        rw [e1, e2]
        exact HJ.out.post)
      clear H hr hS hL hat hgb
      rcases hn with hn | hn
      all_goals
        go_wp2_with fail
        go_ret
        exact HP.out
    · obtain ⟨m, rfl⟩ := Int.eq_ofNat_of_zero_le (show 0 ≤ n by omega)
      have hm1 : 1 ≤ m := by omega
      have hm6 : m ≤ 65536 := by omega
      clear hn
      have hxn : b.xs.length ≤ liveL S.L := by
        have := live_erase hgb
        have h2 : liveL (eraseB k S.L) + b.xs.length = liveL S.L := this
        omega
      have hlv6 : liveL S.L ≤ 65536 := by have := hS.live; have := hS.size; omega
      have hN6 : N ≤ 65536 := by rw [hr.size]; exact hS.size
      obtain ⟨lv, hlv⟩ : ∃ lv, lv = liveL S.L := ⟨_, rfl⟩
      obtain ⟨L0, hL0⟩ : ∃ L0, L0 = b.xs.length := ⟨_, rfl⟩
      have hbn : b.blk.n = L0 := hL0.symm
      rw [← hL0, ← hlv] at hxn
      rw [← hlv] at hlv6
      have EF := Lib.hid (fun hl : N < lv - L0 + m => extend_full hgb hm1 hm6 (by rw [hbn, ← hlv, ← hr.size]; exact hl) (by rw [hbn, ← hlv]; exact hxn))
      have EX := Lib.hid (fun hl : lv - L0 + m ≤ N => extend_fits hS hgb hm1 hm6 (by rw [hbn, ← hlv, ← hr.size]; exact hl))
      have HLV := Lib.hid hlv
      have HL0 := Lib.hid hL0
      have HAT := Lib.hid hat
      have HGB := Lib.hid hgb
      obtain ⟨q, hq⟩ : ∃ q, q = lv - L0 := ⟨_, rfl⟩
      obtain ⟨t, ht⟩ : ∃ t, t = q + m := ⟨_, rfl⟩
      have hw1 : IntKind.i64.wrap ((lv : Int) - L0) = (q : Int) := by rw [IntWalk.i64_in _ (by omega)]; omega
      have hw2 : IntKind.i64.wrap ((q : Int) + m) = (t : Int) := by rw [IntWalk.i64_in _ (by omega)]; omega
      have HQ := Lib.hid hq
      have HTT := Lib.hid ht
      obtain ⟨g, hA, -, -, -, d2⟩ := H.at_ hat.1
      subst hA
      rw [← hL0] at d2
      have C0 := Lib.hid c0
      have C1 := Lib.hid c1
      have D2 := Lib.hid d2
      clear H hr hS hL hat hgb hlv hL0 hbn hq ht
      go_upto_region 6 with fail
      obtain ⟨bb, hbb⟩ : ∃ bb, bb = decide ((N : Int) < t) := ⟨_, rfl⟩
      have HBB := Lib.hid hbb
      clear hbb
      go_cut [39] (fun s wx => s = .bool bb ∧ RefAt X wx p N R (.slice (some ⟨g, 0, none⟩) R.length c) ∧ Below w1.heap.size w1 wx)
      case first =>
        go_region_held3 (fun w' => RefAt X w' p N R (.slice (some ⟨g, 0, none⟩) R.length c) ∧ Below w1.heap.size w1 w' ∧ w'.cell? ⟨p, 0, none⟩ = some (.int .i64 N) ∧ w'.cell? ⟨p, 1, none⟩ = some (.slice (some ⟨g, 0, none⟩) R.length c) ∧ w'.cell? ⟨g, i * 3 + 2, none⟩ = some (.slice (some ⟨b.d, 0, none⟩) L0 L0))
          (first | assumption | exact ⟨HH.out.below (Below.refl _ _).drew, (Below.refl _ _).drew, C0.out, C1.out, D2.out⟩)
          ((first | (go_at_call 52; have JJ : RefS X w1.drew p S := HJ.out.below (Below.refl _ _).drew; have LV := ref_live JJ; rw [← HLV.out] at LV; refine LV.mono ?_; clear LV JJ; rintro e wz ⟨rfl, rfl⟩; have b0 : Below w1.heap.size w1 w1.drew := (Below.refl _ _).drew; have s1 := And.intro (HH.out.below b0) (And.intro b0 (And.intro (HH.out.below b0).c0 (And.intro (HH.out.below b0).c1 (show w1.drew.cell? ⟨g, i * 3 + 2, none⟩ = some (.slice (some ⟨b.d, 0, none⟩) L0 L0) from D2.out)))))))
        all_goals (
          go_wp2_with fail
          go_meet
          exact ⟨by rw [HBB.out]; simp, s1.1, b0⟩)
      case rest =>
        obtain ⟨rfl, H1, hB1⟩ := hcut
        have hbb := HBB.out
        clear HBB
        cases bb with
        | true =>
          have hfull : (N : Int) < t := by simpa using hbb.symm
          have HP := Lib.hid (show RefPost X w1 p (extendS S k m) (.int .i64 (extendR S k m)) (.returned (.int .i64 8)) wc from by
            obtain ⟨e1, e2⟩ := EF.out (by have := HQ.out; have := HTT.out; omega)
            rw [e1, e2]
            exact ⟨rfl, ⟨N, R, _, H1.mono (fun k hk => .inl hk), HREL.out, HIN.out⟩, Keep.of_below hB1⟩)
          clear hbb hfull H1 hB1 c0 c1 d2
          go_wp2_with fail
          go_ret
          exact HP.out
        | false =>
          have hfit : t ≤ N := by
            have : ¬ (N : Int) < t := by simpa using hbb.symm
            omega
          clear hbb c0 c1 d2 hw1 hw2
          have hmk := run_make_row' (P := Try.prog) 38 2 (.int .i64 0) 8 Try.underlying38 Try.infoD2 rfl .i64 .i64 m (by omega) (by omega)
          have hxl : L0 ≤ 65536 := by omega
          have HH3 := Lib.hid H1
          have HB3 := Lib.hid hB1
          have HFIT := Lib.hid (show lv - L0 + m ≤ N from by have := HQ.out; have := HTT.out; omega)
          clear H1 hB1 hfit
          go_wp2_with fail
          go_loopw [9] (fun t wr => ∃ j : Nat, j ≤ m ∧ j ≤ L0 ∧ t = .int .i64 j ∧ wr.heap[wc.heap.size]? = some (.cells ((fillL m b.xs j).map iv).toArray 2 (0, 0)) ∧ Below wc.heap.size wc wr) (fun t _ => m - (intOf t).toNat)
          case atStart => exact ⟨0, Nat.zero_le _, Nat.zero_le _, by go_num, by rw [fill_zero, ← made_zeros]; exact heap_alloc_new wc _, below_alloc _ _⟩
          case round =>
            obtain ⟨j, hj1, hj2, rfl, hdat, hBr⟩ := hrel
            have H4 := HH3.out.below hBr
            have hs3 := hBr.size
            have c1 := H4.c1
            obtain ⟨g', hA, -, -, -, d2⟩ := H4.at_ HAT.out.1
            simp only [Option.some.injEq, Addr.mk.injEq, and_true] at hA
            obtain ⟨rfl, -⟩ := hA
            rw [← HL0.out] at d2
            by_cases hj : j < m ∧ j < L0
            · obtain ⟨hjm, hjl⟩ := hj
              obtain ⟨x, hx⟩ : ∃ x, b.xs[j]? = some x := ⟨b.xs[j]'(by rw [← HL0.out]; exact hjl), List.getElem?_eq_getElem _⟩
              have hcx := H4.cell (List.mem_of_getElem? HAT.out.1) hx
              have hdc : wr.cell? ⟨wc.heap.size, j, none⟩ = some (.int .i64 0) := by
                rw [cell_of_list hdat, List.getElem?_map, fill_get hjm]; rfl
              have hdf : wr.frozen? ⟨wc.heap.size, j, none⟩ = false := by simp [World.frozen?, hdat]
              have hnew := setCell_list (i := j) hdat (.int .i64 x)
              have e1 : ((fillL m b.xs j).map iv).set j (.int .i64 x) = (fillL m b.xs (j + 1)).map iv := by
                rw [← fill_step hjm hx]; simp [iv, List.map_set]
              rw [e1] at hnew
              have HNEW := Lib.hid hnew
              have HBR := Lib.hid (Below.setCell hBr (p := ⟨wc.heap.size, j, none⟩) (Nat.le_refl _) (.int .i64 x))
              clear hnew e1 hdat hx H4 hBr hmk
              go_wp2_with fail
              go_roundw
              case rel => exact ⟨j + 1, by omega, by omega, by go_num, HNEW.out, HBR.out⟩
              case measure => simp [intOf]; omega
            · have hfin := fill_end (m := m) (xs := b.xs) (j := j) (by rw [← HL0.out]; exact hj)
              rw [hfin] at hdat
              have CC := ref_cut H4.row hlt hlen
              have hrl := ref_erase HREL.out HIN.out HAT.out
              have HRL := Lib.hid hrl
              have hbw := HB3.out.trans (hBr.mono HB3.out.size)
              have HLOW := Lib.hid (HH.out.low.below hbw)
              have HDAT := Lib.hid hdat
              have HBW := Lib.hid hbw
              have FIN := Lib.hid (fun (w5 w6 wf : World) (N6 : Nat) (R6 : List RBlk) (v6 v7 : Value) (h5 : Keep (fun j => X j ∧ j < w1.heap.size) wr w5) (h6 : Keep (Grow (fun j => X j ∧ j < w1.heap.size) wr w5) w5 w6)
                  (H6 : RefAt (Grow (Grow (fun j => X j ∧ j < w1.heap.size) wr w5) w5 w6) w6 p N6 R6 v6) (hb : Below w6.heap.size w6 wf) (hr6 : Rel (compactS (freeS S k)) R6 N6)
                  (hown : wf.ownsRow w6.heap.size 84 3 v7 (R6.take R6.length ++ ⟨b.h, liveL (compactS (freeS S k)).L, fitL m b.xs, wc.heap.size⟩ :: R6.drop R6.length).length (flat (R6.take R6.length ++ ⟨b.h, liveL (compactS (freeS S k)).L, fitL m b.xs, wc.heap.size⟩ :: R6.drop R6.length))) =>
                extend_fin (r := .int .i64 0) hbw hdat HB3.out.size h5 h6 H6 hb (b := ⟨b.h, liveL (compactS (freeS S k)).L, fitL m b.xs, wc.heap.size⟩) rfl rfl hown
                  (rel_extend HREL.out HIN.out HAT.out hm1 hm6 (by rw [← HLV.out, ← HL0.out, ← HREL.out.size]; exact HFIT.out) hr6 wc.heap.size) (HIN.out.extend k m).1)
              clear hfin hdat hbw H4 hBr hmk hrl
              by_cases hjm : j < m
              · have hjl : ¬ j < L0 := fun h => hj ⟨hjm, h⟩
                clear hj
                go_wp2_with fail
                refine CC.mono ?_
                clear CC
                rintro e w4 ⟨vU, rfl, hown, hb4⟩
                obtain ⟨ua, uc, rfl⟩ := row_shape hown
                have hset := HLOW.out.setRow hb4 hown (fun b hb => .inl (HRL.out.2 b hb).1) (erase_nodup HH.out.nodup)
                obtain ⟨UL, hUL⟩ : ∃ UL, UL = (R.take i ++ R.drop (i + 1)).length := ⟨_, rfl⟩
                have H4 := HLOW.out.below hb4
                have hf4 := H4.frz 1
                have hc4 := H4.c1
                have J5 : RefS _ _ p (freeS S k) := ⟨N, _, _, hset.1, HRL.out.1, HIN.out.erase k⟩
                have K5 := hset.2
                rw [← hUL] at J5 K5 ⊢
                have HJ5 := Lib.hid J5
                have HK5 := Lib.hid K5
                clear hset hown hb4 H4 J5 K5 hUL
                go_wp2_with fail
                refine (ref_compact HJ5.out).mono ?_
                clear hc4 hf4 c1 d2
                rintro e w6 ⟨rfl, ⟨N6, R6, v6, H6, hr6, hS6⟩, hK6⟩
                obtain ⟨A6, c6, rfl⟩ := H6.shape
                have c1 := H6.c1
                have hlen6 : R6.length ≤ 65536 := by have := hr6.length; have := hS6.length; have := hS6.size; omega
                obtain ⟨ly, hly⟩ : ∃ ly, ly = liveL (compactS (freeS S k)).L := ⟨_, rfl⟩
                have HLY := Lib.hid hly
                have HJ6 := Lib.hid (show RefS _ w6 p (compactS (freeS S k)) from ⟨N6, R6, _, H6, hr6, hS6⟩)
                have HK6 := Lib.hid hK6
                have HH6 := Lib.hid H6
                have HR6 := Lib.hid hr6
                clear hly H6 hr6 hS6 hK6
                go_upto_region 15 with fail
                go_region_with ((first | (go_at_call 52; have LV := ref_live (HJ6.out.below (show Below w6.heap.size w6 w6.drew from (Below.refl _ _).drew)); rw [← HLY.out] at LV; refine LV.mono ?_; clear LV; rintro e wz ⟨rfl, rfl⟩) | (go_at_call 58; refine (ref_put_at (w := w6) (i := R6.length) ⟨b.h, ly, fitL m b.xs, wc.heap.size⟩ HH6.out.row (show Below w6.heap.size w6 w6.drew from (Below.refl _ _).drew) (Nat.le_refl _) hlen6 (fit_length m b.xs) HAT.out.2.1 rfl rfl).mono ?_; rintro e wz ⟨A2, c2, rfl, hown, hbz⟩; have hbz2 : Below w6.heap.size w6 wz := (show Below w6.heap.size w6 w6.drew from (Below.refl _ _).drew).trans hbz; have s1 := (HH6.out.below hbz2).c1; have s2 := (HH6.out.below hbz2).frz 1)))
                all_goals (
                  rw [HLY.out] at hown
                  have HP := Lib.hid (FIN.out _ w6 wz N6 R6 _ _ HK5.out HK6.out HH6.out hbz2 HR6.out hown)
                  clear hown hbz hbz2 s1 s2 c1
                  go_wp2_with fail
                  go_ret
                  rw [(EX.out HFIT.out).1]
                  exact HP.out)
              · clear hj
                go_wp2_with fail
                refine CC.mono ?_
                clear CC
                rintro e w4 ⟨vU, rfl, hown, hb4⟩
                obtain ⟨ua, uc, rfl⟩ := row_shape hown
                have hset := HLOW.out.setRow hb4 hown (fun b hb => .inl (HRL.out.2 b hb).1) (erase_nodup HH.out.nodup)
                obtain ⟨UL, hUL⟩ : ∃ UL, UL = (R.take i ++ R.drop (i + 1)).length := ⟨_, rfl⟩
                have H4 := HLOW.out.below hb4
                have hf4 := H4.frz 1
                have hc4 := H4.c1
                have J5 : RefS _ _ p (freeS S k) := ⟨N, _, _, hset.1, HRL.out.1, HIN.out.erase k⟩
                have K5 := hset.2
                rw [← hUL] at J5 K5 ⊢
                have HJ5 := Lib.hid J5
                have HK5 := Lib.hid K5
                clear hset hown hb4 H4 J5 K5 hUL
                go_wp2_with fail
                refine (ref_compact HJ5.out).mono ?_
                clear hc4 hf4 c1 d2
                rintro e w6 ⟨rfl, ⟨N6, R6, v6, H6, hr6, hS6⟩, hK6⟩
                obtain ⟨A6, c6, rfl⟩ := H6.shape
                have c1 := H6.c1
                have hlen6 : R6.length ≤ 65536 := by have := hr6.length; have := hS6.length; have := hS6.size; omega
                obtain ⟨ly, hly⟩ : ∃ ly, ly = liveL (compactS (freeS S k)).L := ⟨_, rfl⟩
                have HLY := Lib.hid hly
                have HJ6 := Lib.hid (show RefS _ w6 p (compactS (freeS S k)) from ⟨N6, R6, _, H6, hr6, hS6⟩)
                have HK6 := Lib.hid hK6
                have HH6 := Lib.hid H6
                have HR6 := Lib.hid hr6
                clear hly H6 hr6 hS6 hK6
                go_upto_region 15 with fail
                go_region_with ((first | (go_at_call 52; have LV := ref_live (HJ6.out.below (show Below w6.heap.size w6 w6.drew from (Below.refl _ _).drew)); rw [← HLY.out] at LV; refine LV.mono ?_; clear LV; rintro e wz ⟨rfl, rfl⟩) | (go_at_call 58; refine (ref_put_at (w := w6) (i := R6.length) ⟨b.h, ly, fitL m b.xs, wc.heap.size⟩ HH6.out.row (show Below w6.heap.size w6 w6.drew from (Below.refl _ _).drew) (Nat.le_refl _) hlen6 (fit_length m b.xs) HAT.out.2.1 rfl rfl).mono ?_; rintro e wz ⟨A2, c2, rfl, hown, hbz⟩; have hbz2 : Below w6.heap.size w6 wz := (show Below w6.heap.size w6 w6.drew from (Below.refl _ _).drew).trans hbz; have s1 := (HH6.out.below hbz2).c1; have s2 := (HH6.out.below hbz2).frz 1)))
                all_goals (
                  rw [HLY.out] at hown
                  have HP := Lib.hid (FIN.out _ w6 wz N6 R6 _ _ HK5.out HK6.out HH6.out hbz2 HR6.out hown)
                  clear hown hbz hbz2 s1 s2 c1
                  go_wp2_with fail
                  go_ret
                  rw [(EX.out HFIT.out).1]
                  exact HP.out)
  · have HP := Lib.hid (show RefPost X w1 p (extendS S k n) (.int .i64 (extendR S k n)) (.returned (.int .i64 5)) w1 from by
      have hgb := getB_no hno
      rw [hL] at hgb
      obtain ⟨e1, e2⟩ := extend_none n hgb
      rw [e1, e2]
      exact HJ.out.post)
    clear H hr hS hL hno
    go_wp2_with fail
    go_ret
    exact HP.out
end Go.Proofs.Ytpaopcnbgdlgnaa
