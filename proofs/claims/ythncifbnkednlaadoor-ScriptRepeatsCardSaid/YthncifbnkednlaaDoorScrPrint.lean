/- script.Print: what it computes. -/
import Derived.Test.YthncifbnkednlaaDoorScrPrintA
import Derived.Deep.CutBlock
namespace Go.Proofs.YthncifbnkednlaaDoor
open Go.RowKit Go.Shelf
set_option linter.unusedVariables false
set_option linter.unusedSimpArgs false

def PrintAns (r : Bs × Nat) (e : Ending) : Prop := e = .returned (.tuple #[.string (str r.1), .int .i64 r.2])
set_option maxRecDepth 100000 in
set_option maxHeartbeats 4000000 in
theorem print_any (x : ScZ) (pv : Value) (w : World) (he : EnvP w) (hp : PtsZ w pv x.pts) (hn : x.pts.length ≤ 5000) (hs : x.src.length ≤ 20000) : Calls Tryd.prog 14 #[sceneZ x pv] w fun e w' => PrintAns (printZ x.size x.steps x.pts x.src) e ∧ Below w.heap.size w w' := by
  obtain ⟨size, steps, pts, src⟩ := x
  simp only at hp hn hs ⊢
  unfold sceneZ
  simp only
  obtain ⟨a, c, rfl, hcell⟩ := hp
  obtain ⟨N, hN⟩ : ∃ N, N = pts.length := ⟨_, rfl⟩
  have HN := Lib.hid hN
  rw [← hN] at hn ⊢
  obtain ⟨r, hr⟩ : ∃ r, printZ size steps pts src = r := ⟨_, rfl⟩
  rw [hr]
  have HR := Lib.hid hr
  obtain ⟨sb, hsb⟩ : ∃ sb, sb = str src := ⟨_, rfl⟩
  have HSB := Lib.hid hsb
  have hsbl : sb.size ≤ 20000 := by rw [hsb, size_str]; exact hs
  rw [← hsb]
  have HP : Hid (PtsZ w (.slice a pts.length c) pts) := Lib.hid ⟨a, c, rfl, hcell⟩
  have HX : Hid (Box (w.alloc (.cells #[.int .i64 size, .int .i64 steps, .slice a N c, .string sb] 25)) w.heap.size [.int .i64 size, .int .i64 steps, .slice a N c, .string sb] 25) := Lib.hid (heap_alloc_new w _)
  have HBL : Hid (Below w.heap.size w (w.alloc (.cells #[.int .i64 size, .int .i64 steps, .slice a N c, .string sb] 25))) := Lib.hid (below_alloc _ _)
  have HE := Lib.hid (he.below HBL.out)
  have HP1 := Lib.hid (HP.out.keep HBL.out)
  have he0 := Lib.hid he
  clear hN hr hsb hcell he
  by_cases g1 : size < 1
  · have hr := HR.out
    rw [printZ_range (by omega)] at hr
    subst hr
    go_enter Tryd.func14, Tryd.ntmps14
    go_wp2_with fail
    go_ret2
    exact ⟨rfl, HBL.out⟩
  · by_cases g2 : 65536 < size
    · have hr := HR.out
      rw [printZ_range (by omega)] at hr
      subst hr
      go_enter Tryd.func14, Tryd.ntmps14
      go_wp2_with fail
      go_ret2
      exact ⟨rfl, HBL.out⟩
    · by_cases g3 : steps < 0
      · have hr := HR.out
        rw [printZ_range (by omega)] at hr
        subst hr
        go_enter Tryd.func14, Tryd.ntmps14
        go_wp2_with fail
        go_ret2
        exact ⟨rfl, HBL.out⟩
      · by_cases g4 : 20000 < steps
        · have hr := HR.out
          rw [printZ_range (by omega)] at hr
          subst hr
          go_enter Tryd.func14, Tryd.ntmps14
          go_wp2_with fail
          go_ret2
          exact ⟨rfl, HBL.out⟩
        · by_cases g5 : 4000 < N
          · have hr := HR.out
            rw [printZ_many (by omega) (by rw [← HN.out]; exact g5)] at hr
            subst hr
            go_enter Tryd.func14, Tryd.ntmps14
            go_wp2_with fail
            go_ret2
            exact ⟨rfl, HBL.out⟩
          · have hr := HR.out
            rw [printZ_with (by omega) (by rw [← HN.out]; exact g5)] at hr
            have HW := Lib.hid hr
            clear hr HR
            have hz := decZ_len (n := size) (by omega) (by omega)
            have ht := decZ_len (n := steps) (by omega) (by omega)
            go_enter Tryd.func14, Tryd.ntmps14
            go_upto_region 6 with fail
            obtain ⟨W, hW⟩ : ∃ W, W = (w.alloc (.cells #[.int .i64 size, .int .i64 steps, .slice a N c, .string sb] 25)).alloc (.cells #[.pointer none, .slice none 0 0] 59) := ⟨_, rfl⟩
            obtain ⟨p, hp⟩ : ∃ p, p = w.heap.size := ⟨_, rfl⟩
            obtain ⟨b, hb⟩ : ∃ b, b = w.heap.size + 1 := ⟨_, rfl⟩
            have hb1 := hb
            have HXW : Hid (Box W p [.int .i64 size, .int .i64 steps, .slice a N c, .string sb] 25) := Lib.hid (by rw [hW, hp]; exact HX.out.alloc _)
            have hbd : BldAt (w.heap.size + 1) b [] W := by
              have := BldAt.fresh (w.alloc (.cells #[.int .i64 size, .int .i64 steps, .slice a N c, .string sb] 25))
              rw [hW, hb]
              simpa using this
            have HBW : Hid (Below w.heap.size w W) := Lib.hid (by rw [hW]; exact HBL.out.alloc (by simp) _)
            have HEW := Lib.hid (he0.out.below HBW.out)
            have HPW := Lib.hid (HP.out.keep HBW.out)
            rw [← hW, ← hb, ← hp]
            have HPB : Hid (p < b ∧ p = w.heap.size ∧ b = w.heap.size + 1) := Lib.hid ⟨by omega, hp, hb1⟩
            have s0 : Below w.heap.size w W ∧ Box W p [.int .i64 size, .int .i64 steps, .slice a N c, .string sb] 25 ∧ W.cell? ⟨p, 0, none⟩ = some (.int .i64 size) ∧ W.cell? ⟨p, 1, none⟩ = some (.int .i64 steps) := ⟨HBW.out, HXW.out, HXW.out.cell 0, HXW.out.cell 1⟩
            have HS : Hid (∀ w1 w2, (Below w.heap.size w w1 ∧ Box w1 p [.int .i64 size, .int .i64 steps, .slice a N c, .string sb] 25 ∧ w1.cell? ⟨p, 0, none⟩ = some (.int .i64 size) ∧ w1.cell? ⟨p, 1, none⟩ = some (.int .i64 steps)) → Below w1.heap.size w1 w2 → (Below w.heap.size w w2 ∧ Box w2 p [.int .i64 size, .int .i64 steps, .slice a N c, .string sb] 25 ∧ w2.cell? ⟨p, 0, none⟩ = some (.int .i64 size) ∧ w2.cell? ⟨p, 1, none⟩ = some (.int .i64 steps))) := Lib.hid (fun w1 w2 h hb => ⟨h.1.trans (hb.mono h.1.size), h.2.1.below hb h.2.1.lt, (h.2.1.below hb h.2.1.lt).cell 0, (h.2.1.below hb h.2.1.lt).cell 1⟩)
            clear hW hp hb hb1 HX HBL HE HP1
            have HBK : Hid (∀ w1 w2, BldAt (w.heap.size + 1) b [] w1 → Below w1.heap.size w1 w2 → BldAt (w.heap.size + 1) b [] w2) := Lib.hid (fun w1 w2 h hb => h.below hb)
            have hbd' := HBK.out _ _ hbd (Below.refl _ W).drew
            have HS7 : Hid (∀ w1 w2, (Below w.heap.size w w1 ∧ Box w1 p [.int .i64 size, .int .i64 steps, .slice a N c, .string sb] 25 ∧ w1.cell? ⟨p, 0, none⟩ = some (.int .i64 size) ∧ w1.cell? ⟨p, 1, none⟩ = some (.int .i64 steps)) → Below (w.heap.size + 1) w1 w2 → (Below w.heap.size w w2 ∧ Box w2 p [.int .i64 size, .int .i64 steps, .slice a N c, .string sb] 25 ∧ w2.cell? ⟨p, 0, none⟩ = some (.int .i64 size) ∧ w2.cell? ⟨p, 1, none⟩ = some (.int .i64 steps))) := Lib.hid (fun w1 w2 h hb => by
              have hx := h.2.1.of_block (hb.block p (by have := HPB.out; omega))
              exact ⟨h.1.trans (hb.mono (by omega)), hx, hx.cell 0, hx.cell 1⟩)
            have u0 : (str (decZ size)).size ≤ 9 := by rw [size_str]; exact hz
            have u0' : (str (decZ steps)).size ≤ 9 := by rw [size_str]; exact ht
            have u1 : ¬ 9223372036854775807 < 5 + (str (decZ size)).size := by omega
            have u2 : ¬ 9223372036854775807 < 5 + (str (decZ size)).size + 7 := by omega
            have u3 : ¬ 9223372036854775807 < 5 + (str (decZ size)).size + 7 + (str (decZ steps)).size := by omega
            have u4 : ¬ 9223372036854775807 < 5 + (str (decZ size)).size + 7 + (str (decZ steps)).size + 1 := by omega
            go_region_held3 (fun w' => Below w.heap.size w w' ∧ Box w' p [.int .i64 size, .int .i64 steps, .slice a N c, .string sb] 25 ∧ w'.cell? ⟨p, 0, none⟩ = some (.int .i64 size) ∧ w'.cell? ⟨p, 1, none⟩ = some (.int .i64 steps))
              (first | (with_reducible assumption) | exact HS.out _ _ s0 (Below.refl _ _).drew)
              ((first | (go_at_call 23; refine (itoa_any _ (by omega) (by omega) _ (he0.out.below (And.left (by with_reducible assumption)))).mono ?_; rintro e w5 ⟨rfl, hb5⟩; have s5 := HS.out _ _ (by with_reducible assumption) hb5; have hbl5 := HBK.out _ _ (by with_reducible assumption) hb5; clear hb5) | (go_at_call 22; refine (wstr (B := w.heap.size + 1) (b := b) (l := []) _ (by with_reducible assumption) (by simp only [ByteArray.size_append]; show 0 + (5 + (str (decZ size)).size + 7 + (str (decZ steps)).size + 1) ≤ 1000000000; omega)).mono ?_; rintro e w7 ⟨rfl, hbl7, hb7, -⟩; have s7 := HS7.out _ _ (by with_reducible assumption) hb7; clear hb7)))
            have HBD : Hid (BldAt (w.heap.size + 1) b (headZ size steps) w7) := Lib.hid (by
              have := hbl7
              simp only [List.nil_append, bs_append, bs_str] at this
              exact this)
            have HXB : Hid (Box w7 p [.int .i64 size, .int .i64 steps, .slice a N c, .string sb] 25) := Lib.hid s7.2.1
            have HBL := Lib.hid s7.1
            clear hbl7 s7 s0 hbd hbd' HS HS7 HBK u1 u2 u3 u4 HXW HBW HEW HPW u0 u0' hz ht
            clear s5 hbl5
            have HHL : Hid ((headZ size steps).length ≤ 100 + 100 * 0) := Lib.hid (by
              have hz := decZ_len (n := size) (by omega) (by omega)
              have ht := decZ_len (n := steps) (by omega) (by omega)
              unfold headZ
              simp only [List.length_append, List.length_cons, List.length_nil]
              omega)
            go_wp2_with fail
            go_loopw [5] (fun t5 wr => ∃ (i : Nat) (acc : Bs), t5 = .int .i64 i ∧ i ≤ N ∧ acc.length ≤ 100 + 100 * i ∧ BldAt (w.heap.size + 1) b acc wr ∧ Box wr p [.int .i64 size, .int .i64 steps, .slice a N c, .string sb] 25 ∧ Below w.heap.size w wr ∧ withZ acc src (bodyR 0 (pts.drop i)) = r) (fun t5 _ => N - (intOf t5).toNat)
            case atStart => exact ⟨0, headZ size steps, rfl, Nat.zero_le _, HHL.out, HBD.out, HXB.out, HBL.out, HW.out⟩
            case round =>
              obtain ⟨i, acc, rfl, hi, hal, hbd, hxb, hbl, hw⟩ := hrel
              clear HBD HXB HBL HW HHL
              have HBD := Lib.hid hbd
              have HXB := Lib.hid hxb
              have HBL := Lib.hid hbl
              have HW := Lib.hid hw
              have HPZ := HP.out.keep hbl
              clear hbd hxb hbl hw
              have c2 := HXB.out.cell 2
              have c3 := HXB.out.cell 3
              simp only [List.getElem?_cons_zero, List.getElem?_cons_succ] at c2 c3
              by_cases hlt : i < N
              · obtain ⟨⟨k, M⟩, hx⟩ : ∃ x, pts[i]? = some x := ⟨_, List.getElem?_eq_getElem (by rw [← HN.out]; exact hlt)⟩
                obtain ⟨a', c', hse, hcell⟩ := HPZ
                simp only [Value.slice.injEq, true_and] at hse
                obtain ⟨rfl, rfl⟩ := hse
                have HCELL := Lib.hid hcell
                obtain ⟨ad, rfl, e1, e2⟩ := hcell i _ hx
                simp only at e1 e2
                have HD : Hid (pts.drop i = (k, M) :: pts.drop (i + 1)) := Lib.hid (by
                  obtain ⟨hl, he⟩ := List.getElem?_eq_some_iff.1 hx
                  rw [List.drop_eq_getElem_cons hl, he])
                clear hx hcell
                have hki : (i : Int) < N := by omega
                have hbA := below_alloc wr (.cells #[.int .i64 k, .int .i64 M] 43)
                go_wp2_with fail
                refine (fits_any k M _ (he0.out.e.below (HBL.out.trans (hbA.mono HBL.out.size)))).mono ?_
                rintro e w2 ⟨rfl, hb2⟩
                have hb2A := hbA.trans (hb2.mono hbA.size)
                have HPX : Hid (Box w2 wr.heap.size [.int .i64 k, .int .i64 M] 43) := Lib.hid (Box.below (heap_alloc_new wr _) hb2 (by simp))
                have HXB2 := Lib.hid (HXB.out.below hb2A HXB.out.lt)
                have HBD2 := Lib.hid (HBD.out.below hb2A)
                have HBL2 := Lib.hid (HBL.out.trans (hb2A.mono HBL.out.size))
                have HB2 := Lib.hid hb2A
                clear hbA hb2 hb2A e1 e2 c2 c3
                cases hf : fitsZ (k, M) with
                | false =>
                  have hr := HW.out
                  rw [HD.out, bodyR_no hf] at hr
                  simp only [withZ] at hr
                  subst hr
                  go_wp2_with fail
                  go_ret2
                  exact ⟨rfl, HBL2.out⟩
                | true =>
                  obtain ⟨hk0, hk6, hM0, hM9, -, -⟩ := fitsZ_cases hf
                  obtain ⟨kn, rfl⟩ : ∃ kn : Nat, k = kn := ⟨k.toNat, by omega⟩
                  have HF := Lib.hid hf
                  clear hf
                  obtain ⟨bp, hbp⟩ : ∃ bp, bp = wr.heap.size := ⟨_, rfl⟩
                  rw [← hbp] at HPX ⊢
                  have HBP : Hid (p < bp ∧ b < bp) := Lib.hid ⟨by have := HXB.out.lt; omega, by have := HBD.out.size.2; omega⟩
                  clear hbp
                  go_upto_block 2 with fail
                  go_cut [7] (fun t7 wx => ∃ n : Nat, t7 = .int .i64 n ∧ 1 ≤ n ∧ i + n ≤ N ∧ bodyR 0 (pts.drop i) = (bodyR 0 (pts.drop (i + n))).map (lineZ (kn, M) n ++ ·) ∧ Below w2.heap.size w2 wx)
                  case first =>
                    go_wp2_with fail
                    go_loopw [7] (fun t7 wx => ∃ n : Nat, t7 = .int .i64 n ∧ 1 ≤ n ∧ i + n ≤ N ∧ bodyR 0 (pts.drop i) = bodyR (n - 1) (((kn : Int), M) :: pts.drop (i + n)) ∧ Below w2.heap.size w2 wx) (fun t7 _ => N - (intOf t7).toNat)
                    case atStart => exact ⟨1, rfl, by omega, by omega, by rw [HD.out], Below.refl _ _⟩
                    case round =>
                      obtain ⟨n, rfl, hn1, hin, hbo, hbx⟩ := hrel
                      have HBO := Lib.hid hbo
                      have HBX := Lib.hid hbx
                      clear hbo hbx
                      have HXB3 := Lib.hid (HXB2.out.below HBX.out HXB2.out.lt)
                      have HPX3 := Lib.hid (HPX.out.below HBX.out HPX.out.lt)
                      have c2 := HXB3.out.cell 2
                      simp only [List.getElem?_cons_zero, List.getElem?_cons_succ] at c2
                      obtain ⟨x0, x1, -, -⟩ := HPX3.out.cells2
                      have q1 : IntKind.i64.wrap ((i : Int) + n) = (i : Int) + n := IntWalk.i64_in _ (by omega)
                      have q2 : (0 : Int) ≤ (i : Int) + n := by omega
                      have q3 : ((i : Int) + n).toNat = i + n := by omega
                      by_cases h2 : i + n < N
                      · have g1 : decide ((i : Int) + n < N) = true := decide_eq_true (by omega)
                        have g1' : (i : Int) + n < N := by omega
                        obtain ⟨⟨k2, M2⟩, hx2⟩ : ∃ x, pts[i + n]? = some x := ⟨_, List.getElem?_eq_getElem (by rw [← HN.out]; exact h2)⟩
                        obtain ⟨ad', hae, e1, e2⟩ := HCELL.out (i + n) _ hx2
                        obtain rfl : ad = ad' := Option.some.inj hae
                        simp only at e1 e2
                        have f1 := (HB2.out.cell (cell_lt e1)).trans e1
                        have f2 := (HB2.out.cell (cell_lt e2)).trans e2
                        have d1 := (HBX.out.cell (cell_lt f1)).trans f1
                        have d2 := (HBX.out.cell (cell_lt f2)).trans f2
                        have HD2 : Hid (pts.drop (i + n) = (k2, M2) :: pts.drop (i + n + 1)) := Lib.hid (by
                          obtain ⟨hl, he⟩ := List.getElem?_eq_some_iff.1 hx2
                          rw [List.drop_eq_getElem_cons hl, he])
                        clear hx2 hae e1 e2 f1 f2
                        by_cases heq : k2 = kn ∧ M2 = M
                        · obtain ⟨rfl, rfl⟩ := heq
                          go_wp2_with fail
                          go_quiet (fail)
                          go_wp2_with fail
                          go_roundw
                          case rel => exact ⟨n + 1, by go_num, by omega, by omega, by rw [HBO.out, bodyR_same HF.out (by rw [HD2.out]; rfl), show n - 1 + 1 = n + 1 - 1 by omega, HD2.out, show i + (n + 1) = i + n + 1 by omega], below_drewN HBX.out _⟩
                          case measure => simp [intOf]; omega
                        · have HEND : Hid (bodyR 0 (pts.drop i) = (bodyR 0 (pts.drop (i + n))).map (lineZ ((kn : Int), M) n ++ ·)) := Lib.hid (by
                            rw [HBO.out, bodyR_end HF.out (by rw [HD2.out]; simp; exact fun h1 h2 => heq ⟨h1, h2⟩), show n - 1 + 1 = n by omega])
                          by_cases hk2 : k2 = kn
                          · have hM2 : (M2 == M) = false := by rw [beq_eq_false_iff_ne]; exact fun h => heq ⟨hk2, h⟩
                            subst hk2
                            clear heq
                            go_wp2_with fail
                            go_quiet (fail)
                            go_wp2_with fail
                            go_meet
                            case rel => exact ⟨n, rfl, hn1, hin, HEND.out, below_drewN HBX.out _⟩
                          · have hk3 : (k2 == (kn : Int)) = false := by rw [beq_eq_false_iff_ne]; exact hk2
                            clear heq hk2
                            go_wp2_with fail
                            go_quiet (fail)
                            go_wp2_with fail
                            go_meet
                            case rel => exact ⟨n, rfl, hn1, hin, HEND.out, below_drewN HBX.out _⟩
                      · have g1 : decide ((i : Int) + n < N) = false := decide_eq_false (by omega)
                        have HEND : Hid (bodyR 0 (pts.drop i) = (bodyR 0 (pts.drop (i + n))).map (lineZ ((kn : Int), M) n ++ ·)) := Lib.hid (by
                          rw [HBO.out, bodyR_end HF.out (by rw [List.drop_eq_nil_of_le (by rw [← HN.out]; omega)]; simp), show n - 1 + 1 = n by omega])
                        go_wp2_with fail
                        go_quiet (fail)
                        go_wp2_with fail
                        go_meet
                        case rel => exact ⟨n, rfl, hn1, hin, HEND.out, below_drewN HBX.out _⟩
                  case rest =>
                    obtain ⟨n, rfl, hn1, hin, hend, hbx⟩ := hcut
                    have HEND := Lib.hid hend
                    have HXB3 := Lib.hid (HXB2.out.below hbx HXB2.out.lt)
                    have HPX3 := Lib.hid (HPX.out.below hbx HPX.out.lt)
                    have HBD3 := Lib.hid (HBD2.out.below hbx)
                    have HBL3 := Lib.hid (HBL2.out.trans (hbx.mono HBL2.out.size))
                    clear hend hbx HXB2 HPX HBD2 HBL2
                    have Z1 : Hid (({ data := #[32] } : ByteArray).size = 1) := Lib.hid rfl
                    have Z2 : Hid (({ data := #[32, 120] } : ByteArray).size = 2) := Lib.hid rfl
                    have hdl := decZ_len hM0 hM9
                    have hnl := decZ_len (n := (n : Int)) (by omega) (by omega)
                    have hwl := wordZ_len hk0 hk6
                    have v1 : (str (decZ M)).size ≤ 9 := by rw [size_str]; exact hdl
                    have v2 : (str (decZ (n : Int))).size ≤ 9 := by rw [size_str]; exact hnl
                    have u1 : ¬ 9223372036854775807 < 1 + (str (decZ M)).size := by omega
                    have u2 : ¬ 9223372036854775807 < 2 + (str (decZ (n : Int))).size := by omega
                    have HLL : Hid ((acc ++ lineZ ((kn : Int), M) n).length ≤ 100 + 100 * (i + n)) := Lib.hid (by
                      have := lineZ_len HF.out (n := n) (by omega)
                      rw [List.length_append]
                      omega)
                    have HWN : Hid (withZ (acc ++ lineZ ((kn : Int), M) n) src (bodyR 0 (pts.drop (i + n))) = r) := Lib.hid (by rw [← withZ_map, ← HEND.out]; exact HW.out)
                    clear HEND HD HW HXB HBL HBD HCELL HB2 hdl hnl
                    obtain ⟨WD, hwd⟩ : ∃ WD, WD = wordZ (kn : Int) := ⟨_, rfl⟩
                    have HWD := Lib.hid hwd
                    rw [← hwd] at hwl
                    have hwd0 : wc.cell? ⟨0, kn * 2, none⟩ = some (.string (str WD)) := by
                      have := env_word (he0.out.e.below HBL3.out) hk0 hk6
                      rw [Int.toNat_natCast, Nat.mul_comm, ← hwd] at this
                      exact this
                    clear hwd
                    obtain ⟨x0, x1, -, -⟩ := HPX3.out.cells2
                    have hkm : (0 : Int) ≤ (kn : Int) := by omega
                    have hkm2 : (kn : Int) < 6 := by omega
                    go_wp2_with fail
                    refine (wstr _ HBD3.out (by rw [size_str]; omega)).mono ?_
                    rintro e w4 ⟨rfl, hbd, hb, hk⟩
                    clear x0 x1 hwd0
                    replace HXB3 := Lib.hid (HXB3.out.of_block (hb.block p (by have := HPB.out; omega)))
                    replace HPX3 := Lib.hid (HPX3.out.keepT hk (by have := HBP.out; omega) (by decide))
                    replace HBD3 := Lib.hid hbd
                    replace HBL3 := Lib.hid (HBL3.out.trans (hb.mono (by omega)))
                    clear hb hk hbd
                    obtain ⟨mk, hmk⟩ : ∃ mk, mk = mostZ (kn : Int) := ⟨_, rfl⟩
                    have HMK := Lib.hid hmk
                    have hm0 : w4.cell? ⟨0, kn * 2 + 1, none⟩ = some (.int .i64 mk) := by
                      have := env_most (he0.out.e.below HBL3.out) hk0 hk6
                      rw [Int.toNat_natCast, Nat.mul_comm, ← hmk] at this
                      exact this
                    clear hmk
                    obtain ⟨x0, x1, -, -⟩ := HPX3.out.cells2
                    by_cases hmz : 0 ≤ mk
                    · go_wp2_with fail
                      refine (itoa_any M hM0 (by omega) _ (he0.out.below HBL3.out)).mono ?_
                      rintro e w5 ⟨rfl, hb5⟩
                      replace HXB3 := Lib.hid (HXB3.out.below hb5 HXB3.out.lt)
                      replace HPX3 := Lib.hid (HPX3.out.below hb5 HPX3.out.lt)
                      replace HBD3 := Lib.hid (HBD3.out.below hb5)
                      replace HBL3 := Lib.hid (HBL3.out.trans (hb5.mono HBL3.out.size))
                      clear hb5
                      clear x0 x1 hm0
                      go_wp2_with fail
                      refine (wstr _ HBD3.out (by have := Z1.out; simp only [ByteArray.size_append, List.length_append, bs_str, bs_append, size_str] at v1 ⊢; omega)).mono ?_
                      rintro e w6 ⟨rfl, hbd, hb, hk⟩
                      replace HXB3 := Lib.hid (HXB3.out.of_block (hb.block p (by have := HPB.out; omega)))
                      replace HPX3 := Lib.hid (HPX3.out.keepT hk (by have := HBP.out; omega) (by decide))
                      replace HBD3 := Lib.hid hbd
                      replace HBL3 := Lib.hid (HBL3.out.trans (hb.mono (by omega)))
                      clear hb hk hbd
                      clear u1
                      by_cases hn2 : 1 < n
                      · have hn3 : (1 : Int) < n := by omega
                        go_wp2_with fail
                        refine (itoa_any (n : Int) (by omega) (by omega) _ (he0.out.below HBL3.out)).mono ?_
                        rintro e w7 ⟨rfl, hb5⟩
                        replace HXB3 := Lib.hid (HXB3.out.below hb5 HXB3.out.lt)
                        replace HPX3 := Lib.hid (HPX3.out.below hb5 HPX3.out.lt)
                        replace HBD3 := Lib.hid (HBD3.out.below hb5)
                        replace HBL3 := Lib.hid (HBL3.out.trans (hb5.mono HBL3.out.size))
                        clear hb5
                        go_wp2_with fail
                        refine (wstr _ HBD3.out (by have := Z1.out; have := Z2.out; have q1 : (bs { data := #[32] }).length = 1 := rfl; simp only [ByteArray.size_append, List.length_append, bs_str, bs_append, size_str] at v1 v2 ⊢; omega)).mono ?_
                        rintro e w8 ⟨rfl, hbd, hb, hk⟩
                        replace HXB3 := Lib.hid (HXB3.out.of_block (hb.block p (by have := HPB.out; omega)))
                        replace HPX3 := Lib.hid (HPX3.out.keepT hk (by have := HBP.out; omega) (by decide))
                        replace HBD3 := Lib.hid hbd
                        replace HBL3 := Lib.hid (HBL3.out.trans (hb.mono (by omega)))
                        clear hb hk hbd
                        go_wp2_with fail
                        refine (wbyte 10 HBD3.out (by have := Z1.out; have := Z2.out; have q1 : (bs { data := #[32] }).length = 1 := rfl; have q2 : (bs { data := #[32, 120] }).length = 2 := rfl; simp only [ByteArray.size_append, List.length_append, bs_str, bs_append, size_str] at v1 v2 ⊢; omega)).mono ?_
                        rintro e w9 ⟨rfl, hbd, hb, hk⟩
                        have hbe : BldAt (w.heap.size + 1) b (acc ++ lineZ ((kn : Int), M) n) w9 := by
                          have := hbd
                          simp only [bs_append, bs_str, List.append_assoc] at this
                          have e : lineZ ((kn : Int), M) n = WD ++ ((32 :: decZ M)) ++ (32 :: 120 :: decZ (n : Int)) ++ [10] := by rw [lineZ, ← HWD.out, (if_pos (by rw [← HMK.out]; exact hmz)), if_pos hn2]
                          rw [e]
                          simpa [List.append_assoc, show bs { data := #[32] } = [32] from rfl, show bs { data := #[32, 120] } = [32, 120] from rfl] using this
                        replace hbd := hbe
                        clear hbe
                        replace HXB3 := Lib.hid (HXB3.out.of_block (hb.block p (by have := HPB.out; omega)))
                        replace HPX3 := Lib.hid (HPX3.out.keepT hk (by have := HBP.out; omega) (by decide))
                        replace HBD3 := Lib.hid hbd
                        replace HBL3 := Lib.hid (HBL3.out.trans (hb.mono (by omega)))
                        clear hb hk hbd
                        have q1 : IntKind.i64.wrap ((i : Int) + n) = (i : Int) + n := IntWalk.i64_in _ (by omega)
                        go_wp2_with fail
                        go_roundw
                        case rel => exact ⟨i + n, acc ++ lineZ ((kn : Int), M) n, by go_num, by omega, HLL.out, HBD3.out, HXB3.out, HBL3.out, HWN.out⟩
                        case measure => simp [intOf]; omega
                      · have hn3 : ¬ (1 : Int) < n := by omega
                        go_wp2_with fail
                        refine (wbyte 10 HBD3.out (by have := Z1.out; have := Z2.out; have q1 : (bs { data := #[32] }).length = 1 := rfl; simp only [ByteArray.size_append, List.length_append, bs_str, bs_append, size_str] at v1 v2 ⊢; omega)).mono ?_
                        rintro e w9 ⟨rfl, hbd, hb, hk⟩
                        have hbe : BldAt (w.heap.size + 1) b (acc ++ lineZ ((kn : Int), M) n) w9 := by
                          have := hbd
                          simp only [bs_append, bs_str, List.append_assoc] at this
                          have e : lineZ ((kn : Int), M) n = WD ++ ((32 :: decZ M)) ++ [] ++ [10] := by rw [lineZ, ← HWD.out, (if_pos (by rw [← HMK.out]; exact hmz)), if_neg hn2]
                          rw [e]
                          simpa [List.append_assoc, show bs { data := #[32] } = [32] from rfl, show bs { data := #[32, 120] } = [32, 120] from rfl] using this
                        replace hbd := hbe
                        clear hbe
                        replace HXB3 := Lib.hid (HXB3.out.of_block (hb.block p (by have := HPB.out; omega)))
                        replace HPX3 := Lib.hid (HPX3.out.keepT hk (by have := HBP.out; omega) (by decide))
                        replace HBD3 := Lib.hid hbd
                        replace HBL3 := Lib.hid (HBL3.out.trans (hb.mono (by omega)))
                        clear hb hk hbd
                        have q1 : IntKind.i64.wrap ((i : Int) + n) = (i : Int) + n := IntWalk.i64_in _ (by omega)
                        go_wp2_with fail
                        go_roundw
                        case rel => exact ⟨i + n, acc ++ lineZ ((kn : Int), M) n, by go_num, by omega, HLL.out, HBD3.out, HXB3.out, HBL3.out, HWN.out⟩
                        case measure => simp [intOf]; omega
                    · by_cases hn2 : 1 < n
                      · have hn3 : (1 : Int) < n := by omega
                        go_wp2_with fail
                        refine (itoa_any (n : Int) (by omega) (by omega) _ (he0.out.below HBL3.out)).mono ?_
                        rintro e w7 ⟨rfl, hb5⟩
                        replace HXB3 := Lib.hid (HXB3.out.below hb5 HXB3.out.lt)
                        replace HPX3 := Lib.hid (HPX3.out.below hb5 HPX3.out.lt)
                        replace HBD3 := Lib.hid (HBD3.out.below hb5)
                        replace HBL3 := Lib.hid (HBL3.out.trans (hb5.mono HBL3.out.size))
                        clear hb5
                        go_wp2_with fail
                        refine (wstr _ HBD3.out (by have := Z1.out; have := Z2.out; have q1 : (bs { data := #[32] }).length = 1 := rfl; simp only [ByteArray.size_append, List.length_append, bs_str, bs_append, size_str] at v1 v2 ⊢; omega)).mono ?_
                        rintro e w8 ⟨rfl, hbd, hb, hk⟩
                        replace HXB3 := Lib.hid (HXB3.out.of_block (hb.block p (by have := HPB.out; omega)))
                        replace HPX3 := Lib.hid (HPX3.out.keepT hk (by have := HBP.out; omega) (by decide))
                        replace HBD3 := Lib.hid hbd
                        replace HBL3 := Lib.hid (HBL3.out.trans (hb.mono (by omega)))
                        clear hb hk hbd
                        go_wp2_with fail
                        refine (wbyte 10 HBD3.out (by have := Z1.out; have := Z2.out; have q1 : (bs { data := #[32] }).length = 1 := rfl; have q2 : (bs { data := #[32, 120] }).length = 2 := rfl; simp only [ByteArray.size_append, List.length_append, bs_str, bs_append, size_str] at v1 v2 ⊢; omega)).mono ?_
                        rintro e w9 ⟨rfl, hbd, hb, hk⟩
                        have hbe : BldAt (w.heap.size + 1) b (acc ++ lineZ ((kn : Int), M) n) w9 := by
                          have := hbd
                          simp only [bs_append, bs_str, List.append_assoc] at this
                          have e : lineZ ((kn : Int), M) n = WD ++ ([]) ++ (32 :: 120 :: decZ (n : Int)) ++ [10] := by rw [lineZ, ← HWD.out, (if_neg (by rw [← HMK.out]; omega)), if_pos hn2]
                          rw [e]
                          simpa [List.append_assoc, show bs { data := #[32] } = [32] from rfl, show bs { data := #[32, 120] } = [32, 120] from rfl] using this
                        replace hbd := hbe
                        clear hbe
                        replace HXB3 := Lib.hid (HXB3.out.of_block (hb.block p (by have := HPB.out; omega)))
                        replace HPX3 := Lib.hid (HPX3.out.keepT hk (by have := HBP.out; omega) (by decide))
                        replace HBD3 := Lib.hid hbd
                        replace HBL3 := Lib.hid (HBL3.out.trans (hb.mono (by omega)))
                        clear hb hk hbd
                        have q1 : IntKind.i64.wrap ((i : Int) + n) = (i : Int) + n := IntWalk.i64_in _ (by omega)
                        go_wp2_with fail
                        go_roundw
                        case rel => exact ⟨i + n, acc ++ lineZ ((kn : Int), M) n, by go_num, by omega, HLL.out, HBD3.out, HXB3.out, HBL3.out, HWN.out⟩
                        case measure => simp [intOf]; omega
                      · have hn3 : ¬ (1 : Int) < n := by omega
                        go_wp2_with fail
                        refine (wbyte 10 HBD3.out (by have := Z1.out; have := Z2.out; have q1 : (bs { data := #[32] }).length = 1 := rfl; simp only [ByteArray.size_append, List.length_append, bs_str, bs_append, size_str] at v1 v2 ⊢; omega)).mono ?_
                        rintro e w9 ⟨rfl, hbd, hb, hk⟩
                        have hbe : BldAt (w.heap.size + 1) b (acc ++ lineZ ((kn : Int), M) n) w9 := by
                          have := hbd
                          simp only [bs_append, bs_str, List.append_assoc] at this
                          have e : lineZ ((kn : Int), M) n = WD ++ ([]) ++ [] ++ [10] := by rw [lineZ, ← HWD.out, (if_neg (by rw [← HMK.out]; omega)), if_neg hn2]
                          rw [e]
                          simpa [List.append_assoc, show bs { data := #[32] } = [32] from rfl, show bs { data := #[32, 120] } = [32, 120] from rfl] using this
                        replace hbd := hbe
                        clear hbe
                        replace HXB3 := Lib.hid (HXB3.out.of_block (hb.block p (by have := HPB.out; omega)))
                        replace HPX3 := Lib.hid (HPX3.out.keepT hk (by have := HBP.out; omega) (by decide))
                        replace HBD3 := Lib.hid hbd
                        replace HBL3 := Lib.hid (HBL3.out.trans (hb.mono (by omega)))
                        clear hb hk hbd
                        have q1 : IntKind.i64.wrap ((i : Int) + n) = (i : Int) + n := IntWalk.i64_in _ (by omega)
                        go_wp2_with fail
                        go_roundw
                        case rel => exact ⟨i + n, acc ++ lineZ ((kn : Int), M) n, by go_num, by omega, HLL.out, HBD3.out, HXB3.out, HBL3.out, HWN.out⟩
                        case measure => simp [intOf]; omega
              · obtain rfl : i = N := by omega
                have hr := HW.out
                rw [List.drop_eq_nil_of_le (by rw [← HN.out]; exact Nat.le_refl _), bodyR_nil] at hr
                have hsz : sb.size = src.length := by rw [HSB.out, size_str]
                simp only [withZ] at hr
                by_cases hbig : 8192 < src.length
                · rw [if_pos hbig] at hr
                  subst hr
                  rw [← hsz] at hbig
                  clear hsz
                  go_wp2_with fail
                  go_ret2
                  exact ⟨rfl, HBL.out⟩
                · rw [if_neg hbig] at hr
                  rw [← hsz] at hbig
                  have HRR := Lib.hid hr
                  have HSZ := Lib.hid hsz
                  have u1 : ¬ 9223372036854775807 < 7 + sb.size := by omega
                  clear hsz hr
                  go_wp2_with fail
                  refine (wstr _ HBD.out (by rw [ByteArray.size_append]; show _ + (7 + _) ≤ _; omega)).mono ?_
                  rintro e w4 ⟨rfl, hbd, hb, -⟩
                  have HBD4 := Lib.hid hbd
                  have HBL4 := Lib.hid (HBL.out.trans (hb.mono (by omega)))
                  clear hbd hb
                  go_wp2_with fail
                  refine (bstring_any HBD4.out (by have := HBD4.out.size; omega)).mono ?_
                  rintro e w5 ⟨rfl, hb5⟩
                  have HBL5 := Lib.hid (HBL4.out.trans (hb5.mono (by omega)))
                  have HRS : Hid (r = (acc ++ bs ({ data := #[115, 111, 117, 114, 99, 101, 10] } ++ sb), 0)) := Lib.hid (by
                    rw [← HRR.out, bs_append, HSB.out, bs_str, List.append_nil]; rfl)
                  clear hb5
                  go_wp2_with fail
                  go_ret2
                  exact ⟨by rw [HRS.out]; rfl, HBL5.out⟩
end Go.Proofs.YthncifbnkednlaaDoor
