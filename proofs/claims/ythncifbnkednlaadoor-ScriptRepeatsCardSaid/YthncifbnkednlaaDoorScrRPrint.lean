/- The document's Print: the same answer. -/
import Derived.Test.YthncifbnkednlaaDoorScrPrint
import Derived.Deep.RegionHeld3
namespace Go.Proofs.YthncifbnkednlaaDoor
open Go.RowKit Go.Shelf
set_option linter.unusedVariables false
set_option linter.unusedSimpArgs false

theorem str_ext {a : ByteArray} {l : Bs} (h : bs a = l) : a = str l := by rw [← h, str_bs]
set_option maxRecDepth 100000 in
set_option maxHeartbeats 4000000 in
theorem rprint_any (x : ScZ) (pv : Value) (w : World) (hp : PtsZ w pv x.pts) (hn : x.pts.length ≤ 5000) (hs : x.src.length ≤ 20000) : Calls Tryd.prog 15 #[sceneZ x pv] w fun e w' => PrintAns (printZ x.size x.steps x.pts x.src) e ∧ Below w.heap.size w w' := by
  obtain ⟨size, steps, pts, src⟩ := x
  simp only at hp hn hs ⊢
  unfold sceneZ
  simp only
  obtain ⟨a, c, rfl, hcell⟩ := hp
  obtain ⟨N, hN⟩ : ∃ N, N = pts.length := ⟨_, rfl⟩
  have HN := Lib.hid hN
  rw [← hN] at hn ⊢
  obtain ⟨r, hr⟩ : ∃ r, printZ size steps pts src = r := ⟨_, rfl⟩
  rw [hr]
  have HR := Lib.hid hr
  obtain ⟨sb, hsb⟩ : ∃ sb, sb = str src := ⟨_, rfl⟩
  have HSB := Lib.hid hsb
  have hsbl : sb.size ≤ 20000 := by rw [hsb, size_str]; exact hs
  rw [← hsb]
  have HP : Hid (PtsZ w (.slice a pts.length c) pts) := Lib.hid ⟨a, c, rfl, hcell⟩
  have HX : Hid (Box (w.alloc (.cells #[.int .i64 size, .int .i64 steps, .slice a N c, .string sb] 25)) w.heap.size [.int .i64 size, .int .i64 steps, .slice a N c, .string sb] 25) := Lib.hid (heap_alloc_new w _)
  have HBL : Hid (Below w.heap.size w (w.alloc (.cells #[.int .i64 size, .int .i64 steps, .slice a N c, .string sb] 25))) := Lib.hid (below_alloc _ _)
  clear hN hr hsb hcell
  by_cases g1 : size < 1
  · have hr := HR.out
    rw [printZ_range (by omega)] at hr
    subst hr
    go_enter Tryd.func15, Tryd.ntmps15
    go_wp2_with fail
    go_ret2
    exact ⟨rfl, HBL.out⟩
  · by_cases g2 : 65536 < size
    · have hr := HR.out
      rw [printZ_range (by omega)] at hr
      subst hr
      go_enter Tryd.func15, Tryd.ntmps15
      go_wp2_with fail
      go_ret2
      exact ⟨rfl, HBL.out⟩
    · by_cases g3 : steps < 0
      · have hr := HR.out
        rw [printZ_range (by omega)] at hr
        subst hr
        go_enter Tryd.func15, Tryd.ntmps15
        go_wp2_with fail
        go_ret2
        exact ⟨rfl, HBL.out⟩
      · by_cases g4 : 20000 < steps
        · have hr := HR.out
          rw [printZ_range (by omega)] at hr
          subst hr
          go_enter Tryd.func15, Tryd.ntmps15
          go_wp2_with fail
          go_ret2
          exact ⟨rfl, HBL.out⟩
        · by_cases g5 : 4000 < N
          · have hr := HR.out
            rw [printZ_many (by omega) (by rw [← HN.out]; exact g5)] at hr
            subst hr
            go_enter Tryd.func15, Tryd.ntmps15
            go_wp2_with fail
            go_ret2
            exact ⟨rfl, HBL.out⟩
          · have hr := HR.out
            rw [printZ_with (by omega) (by rw [← HN.out]; exact g5)] at hr
            have HW := Lib.hid hr
            clear hr HR
            have hz := decZ_len (n := size) (by omega) (by omega)
            have ht := decZ_len (n := steps) (by omega) (by omega)
            have HHL : Hid ((headZ size steps).length ≤ 100 + 100 * 0) := Lib.hid (by
              unfold headZ
              simp only [List.length_append, List.length_cons, List.length_nil]
              omega)
            have u0 : (str (decZ size)).size ≤ 9 := by rw [size_str]; exact hz
            have u0' : (str (decZ steps)).size ≤ 9 := by rw [size_str]; exact ht
            have u1 : ¬ 9223372036854775807 < 5 + (str (decZ size)).size := by omega
            have u2 : ¬ 9223372036854775807 < 5 + (str (decZ size)).size + 7 := by omega
            have u3 : ¬ 9223372036854775807 < 5 + (str (decZ size)).size + 7 + (str (decZ steps)).size := by omega
            have u4 : ¬ 9223372036854775807 < 5 + (str (decZ size)).size + 7 + (str (decZ steps)).size + 1 := by omega
            clear hz ht
            go_enter Tryd.func15, Tryd.ntmps15
            go_upto_region 5 with fail
            obtain ⟨W, hW⟩ : ∃ W, W = w.alloc (.cells #[.int .i64 size, .int .i64 steps, .slice a N c, .string sb] 25) := ⟨_, rfl⟩
            obtain ⟨p, hp⟩ : ∃ p, p = w.heap.size := ⟨_, rfl⟩
            rw [← hW, ← hp] at HX HBL ⊢
            have HPB := Lib.hid hp
            clear hW hp
            have c0 := HX.out.cell 0
            have c1 := HX.out.cell 1
            simp only [List.getElem?_cons_zero, List.getElem?_cons_succ] at c0 c1
            go_quiet ((go_at_call 27; exact Calls.quiet_of_same (dec_any _ _ (by omega) (by omega))))
            go_wp2_with fail
            have HX2 : Hid (Box (W.drewN nq) p [.int .i64 size, .int .i64 steps, .slice a N c, .string sb] 25) := Lib.hid (HX.out.below (below_drewN (Below.refl _ _) _) HX.out.lt)
            have HBL2 : Hid (Below w.heap.size w (W.drewN nq)) := Lib.hid (by rw [← HPB.out]; exact below_drewN HBL.out _)
            have HST : Hid (({ data := #[115, 105, 122, 101, 32] } : ByteArray) ++ str (decZ size) ++ { data := #[10, 115, 116, 101, 112, 115, 32] } ++ str (decZ steps) ++ { data := #[10] } = str (headZ size steps)) := Lib.hid (by
              rw [← str_bs (_ ++ { data := #[10] })]
              simp only [bs_append, bs_str]
              rfl)
            clear HX HBL c0 c1 u0 u0' u1 u2 u3 u4
            go_loopw [4, 5, 6] (fun t4 t5 t6 wr => ∃ (i n : Nat) (acc : Bs), t6 = .int .i64 i ∧ t5 = .int .i64 n ∧ t4 = .string (str acc) ∧ i ≤ N ∧ n ≤ i ∧ acc.length ≤ 100 + 100 * i ∧ Box wr p [.int .i64 size, .int .i64 steps, .slice a N c, .string sb] 25 ∧ Below w.heap.size w wr ∧ withZ acc src (bodyR n (pts.drop i)) = r) (fun _ _ t6 _ => N - (intOf t6).toNat)
            case atStart => exact ⟨0, 0, headZ size steps, rfl, rfl, by rw [HST.out], Nat.zero_le _, Nat.le_refl _, HHL.out, HX2.out, HBL2.out, HW.out⟩
            case round =>
              obtain ⟨i, n, acc, rfl, rfl, rfl, hi, hni, hal, hxb, hbl, hw⟩ := hrel
              clear HX2 HBL2 HW HHL HST
              have HXB := Lib.hid hxb
              have HBL := Lib.hid hbl
              have HW := Lib.hid hw
              have HPZ := HP.out.keep hbl
              clear hxb hbl hw
              have c2 := HXB.out.cell 2
              have c3 := HXB.out.cell 3
              simp only [List.getElem?_cons_zero, List.getElem?_cons_succ] at c2 c3
              by_cases hlt : i < N
              · obtain ⟨⟨k, M⟩, hx⟩ : ∃ x, pts[i]? = some x := ⟨_, List.getElem?_eq_getElem (by rw [← HN.out]; exact hlt)⟩
                obtain ⟨a', c', hse, hcell⟩ := HPZ
                simp only [Value.slice.injEq, true_and] at hse
                obtain ⟨rfl, rfl⟩ := hse
                have HCELL := Lib.hid hcell
                obtain ⟨ad, rfl, e1, e2⟩ := hcell i _ hx
                simp only at e1 e2
                have HD : Hid (pts.drop i = (k, M) :: pts.drop (i + 1)) := Lib.hid (by
                  obtain ⟨hl, he⟩ := List.getElem?_eq_some_iff.1 hx
                  rw [List.drop_eq_getElem_cons hl, he])
                clear hx hcell
                have hki : (i : Int) < N := by omega
                have hbA := below_alloc wr (.cells #[.int .i64 k, .int .i64 M] 43)
                go_wp2_with fail
                refine (rfits_any k M _).mono ?_
                rintro e w2 ⟨rfl, hb2⟩
                have hb2A := hbA.trans (hb2.mono hbA.size)
                have HPX : Hid (Box w2 wr.heap.size [.int .i64 k, .int .i64 M] 43) := Lib.hid (Box.below (heap_alloc_new wr _) hb2 (by simp))
                have HXB2 := Lib.hid (HXB.out.below hb2A HXB.out.lt)
                have HBL2 := Lib.hid (HBL.out.trans (hb2A.mono HBL.out.size))
                have HB2 := Lib.hid hb2A
                clear hbA hb2 hb2A e1 e2 c2 c3
                cases hf : fitsZ (k, M) with
                | false =>
                  have hr := HW.out
                  rw [HD.out, bodyR_no hf] at hr
                  simp only [withZ] at hr
                  subst hr
                  go_wp2_with fail
                  go_ret2
                  exact ⟨rfl, HBL2.out⟩
                | true =>
                  obtain ⟨hk0, hk6, hM0, hM9, -, -⟩ := fitsZ_cases hf
                  have hmi := most_iff hk0 hk6
                  obtain ⟨kn, rfl⟩ : ∃ kn : Nat, k = kn := ⟨k.toNat, by omega⟩
                  have HF := Lib.hid hf
                  have HMI := Lib.hid hmi
                  clear hf hmi
                  obtain ⟨bp, hbp⟩ : ∃ bp, bp = wr.heap.size := ⟨_, rfl⟩
                  rw [← hbp] at HPX ⊢
                  clear hbp
                  have c2 := HXB2.out.cell 2
                  simp only [List.getElem?_cons_zero, List.getElem?_cons_succ] at c2
                  obtain ⟨x0, x1, -, -⟩ := HPX.out.cells2
                  have q1 : IntKind.i64.wrap ((i : Int) + 1) = (i : Int) + 1 := IntWalk.i64_in _ (by omega)
                  have q2 : (0 : Int) ≤ (i : Int) + 1 := by omega
                  have q3 : ((i : Int) + 1).toNat = i + 1 := by omega
                  go_upto_region 14 with fail
                  go_cut [72] (fun t72 wx => t72 = .bool (decide ((pts.drop (i + 1)).head? = some ((kn : Int), M))) ∧ Below w2.heap.size w2 wx)
                  case first =>
                    by_cases h2 : i + 1 < N
                    · have g1 : decide ((i : Int) + 1 < N) = true := decide_eq_true (by omega)
                      have g1' : (i : Int) + 1 < N := by omega
                      obtain ⟨⟨k2, M2⟩, hx2⟩ : ∃ x, pts[i + 1]? = some x := ⟨_, List.getElem?_eq_getElem (by rw [← HN.out]; exact h2)⟩
                      obtain ⟨ad', hae, e1, e2⟩ := HCELL.out (i + 1) _ hx2
                      obtain rfl : ad = ad' := Option.some.inj hae
                      simp only at e1 e2
                      have d1 := (HB2.out.cell (cell_lt e1)).trans e1
                      have d2 := (HB2.out.cell (cell_lt e2)).trans e2
                      have HD2 : Hid (pts.drop (i + 1) = (k2, M2) :: pts.drop (i + 1 + 1)) := Lib.hid (by
                        obtain ⟨hl, he⟩ := List.getElem?_eq_some_iff.1 hx2
                        rw [List.drop_eq_getElem_cons hl, he])
                      clear hx2 hae e1 e2
                      by_cases hk2 : k2 = kn
                      · subst hk2
                        by_cases hM2 : M2 = M
                        · subst hM2
                          go_wp2_with fail
                          go_quiet (fail)
                          go_wp2_with fail
                          go_meet
                          case rel => exact ⟨by rw [HD2.out]; simp, below_drewN (Below.refl _ _) _⟩
                        · have hM3 : (M2 == M) = false := by rw [beq_eq_false_iff_ne]; exact hM2
                          have HNE := Lib.hid hM2
                          clear hM2
                          go_wp2_with fail
                          go_quiet (fail)
                          go_wp2_with fail
                          go_meet
                          case rel => exact ⟨by rw [HD2.out]; simp [HNE.out], below_drewN (Below.refl _ _) _⟩
                      · have hk3 : (k2 == (kn : Int)) = false := by rw [beq_eq_false_iff_ne]; exact hk2
                        have HNE := Lib.hid hk2
                        clear hk2
                        go_wp2_with fail
                        go_quiet (fail)
                        go_wp2_with fail
                        go_meet
                        case rel => exact ⟨by rw [HD2.out]; simp [HNE.out], below_drewN (Below.refl _ _) _⟩
                    · have g1 : decide ((i : Int) + 1 < N) = false := decide_eq_false (by omega)
                      have HD2 : Hid (pts.drop (i + 1) = []) := Lib.hid (List.drop_eq_nil_of_le (by rw [← HN.out]; omega))
                      go_wp2_with fail
                      go_quiet (fail)
                      go_wp2_with fail
                      go_meet
                      case rel => exact ⟨by rw [HD2.out]; rfl, below_drewN (Below.refl _ _) _⟩
                  case rest =>
                    obtain ⟨rfl, hbx⟩ := hcut
                    have HXB3 := Lib.hid (HXB2.out.below hbx HXB2.out.lt)
                    have HPX3 := Lib.hid (HPX.out.below hbx HPX.out.lt)
                    have HBL3 := Lib.hid (HBL2.out.trans (hbx.mono HBL2.out.size))
                    clear hbx HXB2 HPX HBL2 c2 x0 x1 HCELL HB2 HXB HBL
                    cases hh : decide ((pts.drop (i + 1)).head? = some ((kn : Int), M)) with
                    | true =>
                      have HWN : Hid (withZ acc src (bodyR (n + 1) (pts.drop (i + 1))) = r) := Lib.hid (by rw [← bodyR_same HF.out (of_decide_eq_true hh), ← HD.out]; exact HW.out)
                      clear hh
                      go_wp2_with fail
                      go_roundw
                      case rel => exact ⟨i + 1, n + 1, acc, by go_num, by go_num, rfl, by omega, by omega, by omega, HXB3.out, HBL3.out, HWN.out⟩
                      case measure => simp [intOf]; omega
                    | false =>
                      have HWN : Hid (withZ (acc ++ lineZ ((kn : Int), M) (n + 1)) src (bodyR 0 (pts.drop (i + 1))) = r) := Lib.hid (by rw [← withZ_map, ← bodyR_end (n := n) HF.out (of_decide_eq_false hh), ← HD.out]; exact HW.out)
                      clear hh HW HD
                      have hdl := decZ_len hM0 hM9
                      have hnl := decZ_len (n := (n : Int) + 1) (by omega) (by omega)
                      have hwl := wordZ_len hk0 hk6
                      have HLL : Hid ((acc ++ lineZ ((kn : Int), M) (n + 1)).length ≤ 100 + 100 * (i + 1)) := Lib.hid (by
                        have := lineZ_len HF.out (n := n + 1) (by omega)
                        rw [List.length_append]
                        omega)
                      obtain ⟨WD, hwd⟩ : ∃ WD, WD = wordZ (kn : Int) := ⟨_, rfl⟩
                      have HWD := Lib.hid hwd
                      rw [← hwd] at hwl
                      have HCW : Hid (∀ W : World, (W.alloc (.cells wordsV.toArray 9)).cell? ⟨W.heap.size, kn, none⟩ = some (.string (str WD))) := Lib.hid (fun W => by
                        rw [cell_of_list (heap_alloc_new W _) kn, hwd]
                        unfold wordsV wordZ
                        have hl : kn < wordsL.length := by show kn < 6; omega
                        rw [List.getElem?_map, Int.toNat_natCast, List.getElem?_eq_getElem hl]
                        rfl)
                      clear hwd
                      have v0 : (str acc).size ≤ 500000 := by rw [size_str]; omega
                      have v1 : (str (decZ M)).size ≤ 9 := by rw [size_str]; exact hdl
                      have v2 : (str (decZ ((n : Int) + 1))).size ≤ 9 := by rw [size_str]; exact hnl
                      have v3 : (str WD).size ≤ 7 := by rw [size_str]; exact hwl
                      have z1 : ¬ 9223372036854775807 < (str acc).size + (str WD).size := by omega
                      obtain ⟨x0, x1, -, -⟩ := HPX3.out.cells2
                      have x0' : (wc.alloc (.cells wordsV.toArray 9)).cell? ⟨bp, 0, none⟩ = some (.int .i64 kn) := ((below_alloc wc _).cell HPX3.out.lt).trans x0
                      have hk00 : (0 : Int) ≤ (kn : Int) := by omega
                      have hk66 : (kn : Int) < 6 := by omega
                      go_upto_region 15 with fail
                      go_cut [4] (fun t4 wx => t4 = .string (str (acc ++ WD)) ∧ Below wc.heap.size wc wx)
                      case first =>
                        go_region_with ((go_at_call 29; refine (words_any _).mono ?_; rintro e w5 ⟨rfl, rfl⟩; have k5 := HCW.out wc.drew; have k6 := HCW.out wc))
                        all_goals (
                          go_wp2_with fail
                          go_meet
                          case rel => exact ⟨by rw [str_append], by first | exact (below_alloc wc _).drew | exact ((Below.refl _ wc).drew.alloc (Nat.le_refl _) _)⟩)
                      case rest =>
                        obtain ⟨rfl, hbx⟩ := hcut
                        replace HXB3 := Lib.hid (HXB3.out.below hbx HXB3.out.lt)
                        replace HPX3 := Lib.hid (HPX3.out.below hbx HPX3.out.lt)
                        replace HBL3 := Lib.hid (HBL3.out.trans (hbx.mono HBL3.out.size))
                        clear hbx x0 x0' z1 HCW
                        obtain ⟨x0, x1, -, -⟩ := HPX3.out.cells2
                        have v4 : (str (acc ++ WD)).size ≤ 500007 := by rw [size_str] at v0 v3 ⊢; rw [List.length_append]; omega
                        rcases (show (kn : Int) = 1 ∨ (kn : Int) = 4 ∨ ((kn : Int) ≠ 1 ∧ (kn : Int) ≠ 4) by omega) with h1 | h4 | ⟨h1, h4⟩
                        · obtain rfl : kn = 1 := by omega
                          clear h1
                          have HMZ : Hid (0 ≤ mostZ _) := Lib.hid (HMI.out.2 (by simp))
                          have z2 : ¬ 9223372036854775807 < (str (acc ++ WD)).size + 1 := by omega
                          have z3 : ¬ 9223372036854775807 < (str (acc ++ WD)).size + 1 + (str (decZ M)).size := by omega
                          have z5 : ¬ 9223372036854775807 < (str (acc ++ WD)).size + 1 + (str (decZ M)).size + 2 := by omega
                          have z6 : ¬ 9223372036854775807 < (str (acc ++ WD)).size + 1 + (str (decZ M)).size + 2 + (str (decZ ((n : Int) + 1))).size := by omega
                          have z7 : ¬ 9223372036854775807 < (str (acc ++ WD)).size + 1 + (str (decZ M)).size + 2 + (str (decZ ((n : Int) + 1))).size + 1 := by omega
                          have z8 : ¬ 9223372036854775807 < (str (acc ++ WD)).size + 1 + (str (decZ M)).size + 1 := by omega
                          go_wp2_with fail
                          refine (dec_any M _ hM0 (by omega)).mono ?_
                          rintro e w5 ⟨rfl, rfl⟩
                          by_cases hn2 : 1 < n + 1
                          · have hn3 : (1 : Int) < (n : Int) + 1 := by omega
                            go_wp2_with fail
                            refine (dec_any ((n : Int) + 1) _ (by omega) (by omega)).mono ?_
                            rintro e w6 ⟨rfl, rfl⟩
                            go_wp2_with fail
                            go_roundw
                            case rel => exact ⟨i + 1, 0, acc ++ lineZ _ (n + 1), by go_num, rfl, congrArg Value.string (str_ext (by simp only [bs_append, bs_str]; rw [lineZ, ← HWD.out, (if_pos HMZ.out), if_pos hn2]; simp [List.append_assoc, show bs { data := #[32] } = [32] from rfl, show bs { data := #[32, 120] } = [32, 120] from rfl, show bs { data := #[10] } = [10] from rfl])), by omega, Nat.zero_le _, HLL.out, HXB3.out, HBL3.out, HWN.out⟩
                            case measure => simp [intOf]; omega
                          · have hn3 : ¬ (1 : Int) < (n : Int) + 1 := by omega
                            go_wp2_with fail
                            go_roundw
                            case rel => exact ⟨i + 1, 0, acc ++ lineZ _ (n + 1), by go_num, rfl, congrArg Value.string (str_ext (by simp only [bs_append, bs_str]; rw [lineZ, ← HWD.out, (if_pos HMZ.out), if_neg hn2]; simp [List.append_assoc, show bs { data := #[32] } = [32] from rfl, show bs { data := #[10] } = [10] from rfl])), by omega, Nat.zero_le _, HLL.out, HXB3.out, HBL3.out, HWN.out⟩
                            case measure => simp [intOf]; omega
                        · obtain rfl : kn = 4 := by omega
                          clear h4
                          have HMZ : Hid (0 ≤ mostZ _) := Lib.hid (HMI.out.2 (by simp))
                          have z2 : ¬ 9223372036854775807 < (str (acc ++ WD)).size + 1 := by omega
                          have z3 : ¬ 9223372036854775807 < (str (acc ++ WD)).size + 1 + (str (decZ M)).size := by omega
                          have z5 : ¬ 9223372036854775807 < (str (acc ++ WD)).size + 1 + (str (decZ M)).size + 2 := by omega
                          have z6 : ¬ 9223372036854775807 < (str (acc ++ WD)).size + 1 + (str (decZ M)).size + 2 + (str (decZ ((n : Int) + 1))).size := by omega
                          have z7 : ¬ 9223372036854775807 < (str (acc ++ WD)).size + 1 + (str (decZ M)).size + 2 + (str (decZ ((n : Int) + 1))).size + 1 := by omega
                          have z8 : ¬ 9223372036854775807 < (str (acc ++ WD)).size + 1 + (str (decZ M)).size + 1 := by omega
                          go_wp2_with fail
                          refine (dec_any M _ hM0 (by omega)).mono ?_
                          rintro e w5 ⟨rfl, rfl⟩
                          by_cases hn2 : 1 < n + 1
                          · have hn3 : (1 : Int) < (n : Int) + 1 := by omega
                            go_wp2_with fail
                            refine (dec_any ((n : Int) + 1) _ (by omega) (by omega)).mono ?_
                            rintro e w6 ⟨rfl, rfl⟩
                            go_wp2_with fail
                            go_roundw
                            case rel => exact ⟨i + 1, 0, acc ++ lineZ _ (n + 1), by go_num, rfl, congrArg Value.string (str_ext (by simp only [bs_append, bs_str]; rw [lineZ, ← HWD.out, (if_pos HMZ.out), if_pos hn2]; simp [List.append_assoc, show bs { data := #[32] } = [32] from rfl, show bs { data := #[32, 120] } = [32, 120] from rfl, show bs { data := #[10] } = [10] from rfl])), by omega, Nat.zero_le _, HLL.out, HXB3.out, HBL3.out, HWN.out⟩
                            case measure => simp [intOf]; omega
                          · have hn3 : ¬ (1 : Int) < (n : Int) + 1 := by omega
                            go_wp2_with fail
                            go_roundw
                            case rel => exact ⟨i + 1, 0, acc ++ lineZ _ (n + 1), by go_num, rfl, congrArg Value.string (str_ext (by simp only [bs_append, bs_str]; rw [lineZ, ← HWD.out, (if_pos HMZ.out), if_neg hn2]; simp [List.append_assoc, show bs { data := #[32] } = [32] from rfl, show bs { data := #[10] } = [10] from rfl])), by omega, Nat.zero_le _, HLL.out, HXB3.out, HBL3.out, HWN.out⟩
                            case measure => simp [intOf]; omega
                        · have e1 : ((kn : Int) == 1) = false := by rw [beq_eq_false_iff_ne]; exact h1
                          have e4 : ((kn : Int) == 4) = false := by rw [beq_eq_false_iff_ne]; exact h4
                          have HMZ : Hid (mostZ (kn : Int) < 0) := Lib.hid (Int.not_le.1 (fun h => by have := HMI.out.1 h; omega))
                          clear h1 h4
                          have z5 : ¬ 9223372036854775807 < (str (acc ++ WD)).size + 2 := by omega
                          have z6 : ¬ 9223372036854775807 < (str (acc ++ WD)).size + 2 + (str (decZ ((n : Int) + 1))).size := by omega
                          have z7 : ¬ 9223372036854775807 < (str (acc ++ WD)).size + 2 + (str (decZ ((n : Int) + 1))).size + 1 := by omega
                          have z8 : ¬ 9223372036854775807 < (str (acc ++ WD)).size + 1 := by omega
                          by_cases hn2 : 1 < n + 1
                          · have hn3 : (1 : Int) < (n : Int) + 1 := by omega
                            go_wp2_with fail
                            refine (dec_any ((n : Int) + 1) _ (by omega) (by omega)).mono ?_
                            rintro e w6 ⟨rfl, rfl⟩
                            go_wp2_with fail
                            go_roundw
                            case rel => exact ⟨i + 1, 0, acc ++ lineZ _ (n + 1), by go_num, rfl, congrArg Value.string (str_ext (by simp only [bs_append, bs_str]; rw [lineZ, ← HWD.out, (if_neg (Int.not_le.2 HMZ.out)), if_pos hn2]; simp [List.append_assoc, show bs { data := #[32] } = [32] from rfl, show bs { data := #[32, 120] } = [32, 120] from rfl, show bs { data := #[10] } = [10] from rfl])), by omega, Nat.zero_le _, HLL.out, HXB3.out, HBL3.out, HWN.out⟩
                            case measure => simp [intOf]; omega
                          · have hn3 : ¬ (1 : Int) < (n : Int) + 1 := by omega
                            go_wp2_with fail
                            go_roundw
                            case rel => exact ⟨i + 1, 0, acc ++ lineZ _ (n + 1), by go_num, rfl, congrArg Value.string (str_ext (by simp only [bs_append, bs_str]; rw [lineZ, ← HWD.out, (if_neg (Int.not_le.2 HMZ.out)), if_neg hn2]; simp [List.append_assoc, show bs { data := #[32] } = [32] from rfl, show bs { data := #[10] } = [10] from rfl])), by omega, Nat.zero_le _, HLL.out, HXB3.out, HBL3.out, HWN.out⟩
                            case measure => simp [intOf]; omega
              · obtain rfl : i = N := by omega
                have hr := HW.out
                rw [List.drop_eq_nil_of_le (by rw [← HN.out]; exact Nat.le_refl _), bodyR_nil] at hr
                have hsz : sb.size = src.length := by rw [HSB.out, size_str]
                simp only [withZ] at hr
                by_cases hbig : 8192 < src.length
                · rw [if_pos hbig] at hr
                  subst hr
                  rw [← hsz] at hbig
                  clear hsz
                  go_wp2_with fail
                  go_ret2
                  exact ⟨rfl, HBL.out⟩
                · rw [if_neg hbig] at hr
                  rw [← hsz] at hbig
                  have HRR := Lib.hid hr
                  have v0 : (str acc).size ≤ 500000 := by rw [size_str]; omega
                  have z1 : ¬ 9223372036854775807 < (str acc).size + 7 := by omega
                  have z2 : ¬ 9223372036854775807 < (str acc).size + 7 + sb.size := by omega
                  have HRS : Hid (r = (bs (str acc ++ { data := #[115, 111, 117, 114, 99, 101, 10] } ++ sb), 0)) := Lib.hid (by
                    rw [← HRR.out, bs_append, bs_append, HSB.out, bs_str, bs_str, List.append_nil, List.append_assoc]; rfl)
                  clear hsz hr
                  go_wp2_with fail
                  go_ret2
                  exact ⟨by rw [HRS.out]; rfl, HBL.out⟩
end Go.Proofs.YthncifbnkednlaaDoor
