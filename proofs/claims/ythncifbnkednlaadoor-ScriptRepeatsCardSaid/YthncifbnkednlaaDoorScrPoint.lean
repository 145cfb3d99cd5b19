/- point: the program's point line. -/
import Derived.Test.YthncifbnkednlaaDoorScrLine
import Derived.Test.YthncifbnkednlaaDoorScrEnv
import Derived.BigRegion
namespace Go.Proofs.YthncifbnkednlaaDoor
open Go.RowKit Go.Shelf
set_option linter.unusedVariables false
set_option linter.unusedSimpArgs false

def rowV (k : Nat) : Value := .agg #[.string (str (wordsL[k]?.getD [])), .int .i64 (maxL[k]?.getD 0)]
def rowsA : Array Value := #[rowV 0, rowV 1, rowV 2, rowV 3, rowV 4, rowV 5]

def flatA : Array Value := #[.string (str [110, 111, 110, 101]), .int .i64 (-1), .string (str [115, 116, 101, 112]), .int .i64 999999999, .string (str [121, 111, 117, 110, 103]), .int .i64 (-1), .string (str [109, 97, 106, 111, 114]), .int .i64 (-1), .string (str [109, 111, 100, 101]), .int .i64 1, .string (str [99, 111, 109, 112, 97, 99, 116]), .int .i64 (-1)]
set_option maxRecDepth 100000 in
theorem flat_at (k : Nat) (hk : k < 6) (W : World) : Sem.run Tryd.prog (Instr.index 68 (Value.agg flatA) (.int .i64 k)) W = Result.ok (.agg #[.string (str (wordsL[k]?.getD [])), .int .i64 (maxL[k]?.getD 0)]) W := by
  obtain rfl | rfl | rfl | rfl | rfl | rfl : k = 0 ∨ k = 1 ∨ k = 2 ∨ k = 3 ∨ k = 4 ∨ k = 5 := by omega
  all_goals rfl

/-- The words left, from place off on. -/
def WordsAt (W : World) (g off : Nat) (ws : List Bs) : Prop := ∀ j x, ws[j]? = some x → W.cell? ⟨g, off + j, none⟩ = some (.string (str x))

theorem max_of {k : Nat} {m : Int} (h : maxL[k]? = some m) : (0 ≤ m ↔ (k = 1 ∨ k = 4)) ∧ (k = 1 → m = 999999999) ∧ (k = 4 → m = 1) := by
  have hk : k < 6 := (List.getElem?_eq_some_iff.1 h).1
  obtain rfl | rfl | rfl | rfl | rfl | rfl : k = 0 ∨ k = 1 ∨ k = 2 ∨ k = 3 ∨ k = 4 ∨ k = 5 := by omega
  all_goals
    simp only [maxL, List.getElem?_cons_succ, List.getElem?_cons_zero, Option.some.injEq] at h
    subst h
    decide
theorem times_t1 {r : Bs} (h : numL (tailX (cut1 32 r).1) = none) : timesL true r = none := by
  cases hc : (cut1 32 r).2.2 with
  | true => exact times_more hc
  | false =>
    rw [(cut1_no hc).1] at h
    rw [times_one hc, h]; rfl
theorem times_t2 {r : Bs} (h : (wsL r).length ≠ 1) : timesL true r = none := by
  cases hc : (cut1 32 r).2.2 with
  | true => exact times_more hc
  | false => exact absurd (by rw [ws_no hc]; rfl) h
theorem times_t3 {r : Bs} {n : Nat} (h : (wsL r).length = 1) (hn : numL (tailX (cut1 32 r).1) = some n) : timesL true r = if headX (cut1 32 r).1 && decide (2 ≤ n) then some n else none := by
  cases hc : (cut1 32 r).2.2 with
  | true =>
    rw [ws_yes hc] at h
    obtain ⟨a, b, e⟩ := ws_pos (cut1 32 r).2.1
    rw [e] at h
    simp at h
  | false =>
    rw [(cut1_no hc).1] at hn ⊢
    rw [times_one hc, hn]; simp
theorem WordsAt.keep {W W' : World} {g off : Nat} {ws : List Bs} (h : WordsAt W g off ws) (hb : W'.heap[g]? = W.heap[g]?) : WordsAt W' g off ws := fun j x e => (World.cell?_of_block (w := W) hb).trans (h j x e)
theorem words_of_box {W : World} {g : Nat} {l : Bs} {wv : List Value} {ty : TypeId} (h : Box W g wv ty) (hwv : wv = (wsL l).map fun x => Value.string (str x)) (hc : (cut1 32 l).2.2 = true) : WordsAt W g 1 (wsL (cut1 32 l).2.1) := by
  intro j x e
  rw [h.cell, hwv, ws_yes hc, List.getElem?_map, Nat.add_comm 1 j, List.getElem?_cons_succ, e]; rfl

/-- What follows the point's word and its number. -/
def PointJ (w : World) (l : Bs) (k bp g : Nat) (t5 : Value) (W : World) : Prop :=
  ∃ (N : Nat) (r : Bs) (more : Bool) (off len : Nat), t5 = .slice (some ⟨g, off, none⟩) len len ∧ (more = false → len = 0) ∧ (more = true → len = (wsL r).length ∧ WordsAt W g off (wsL r)) ∧ r.length ≤ 1000000 ∧ lineP l = (timesL more r).map (fun m => (k, N, m)) ∧
    Box W bp [.int .i64 k, .int .i64 N] 43 ∧ Box W w.heap.size [.int .i64 0, .int .i64 0] 43 ∧ Below w.heap.size w W



set_option maxRecDepth 100000 in
set_option maxHeartbeats 8000000 in
theorem point_any (s : ByteArray) (w : World) (hs : s.size ≤ 1000000) (he : Env w) : Calls Tryd.prog 48 #[.string s] w fun e w' => PointAns (lineP (bs s)) e ∧ Below w.heap.size w w' := by
  obtain ⟨l, hl⟩ : ∃ l, l = bs s := ⟨_, rfl⟩
  have hlen : l.length ≤ 1000000 := by rw [hl, ← size_bs]; exact hs
  obtain ⟨c1, c2, c3, hc⟩ : ∃ c1 c2 c3, cut1 32 l = (c1, c2, c3) := ⟨_, _, _, rfl⟩
  have hc2 := (cut1_len 32 l).1
  rw [hc] at hc2
  simp only at hc2
  obtain ⟨tl, htl⟩ := ws_head l
  rw [hc] at htl
  simp only at htl
  obtain ⟨N, hN⟩ : ∃ N, N = (wsL l).length := ⟨_, rfl⟩
  have hN1 : 1 ≤ N := by rw [hN, htl]; simp
  have hE0 := he.below (below_alloc w (.cells #[.int .i64 0, .int .i64 0] 43))
  obtain ⟨mx, hmx⟩ := hE0.len
  have SP := Tryd.strings_Split s (str [32]) mx (w.alloc (.cells #[.int .i64 0, .int .i64 0] 43)) (by omega) hmx (by decide)
  rw [ws_cells, ws_count, ← hl, ← hN] at SP
  have HSP := Lib.hid SP
  have hb0 : Box (w.alloc (.cells #[.int .i64 0, .int .i64 0] 43)) w.heap.size [.int .i64 0, .int .i64 0] 43 := heap_alloc_new w _
  obtain ⟨wv, hwv⟩ : ∃ wv, wv = (wsL l).map fun x => Value.string (str x) := ⟨_, rfl⟩
  rw [← hwv] at HSP
  have HB0 := Lib.hid (hb0.alloc (.cells wv.toArray 9))
  have HBW := Lib.hid (Box.new (w.alloc (.cells #[.int .i64 0, .int .i64 0] 43)) wv 9)
  have HEN := Lib.hid (hE0.below (below_alloc (w.alloc (.cells #[.int .i64 0, .int .i64 0] 43)) (.cells wv.toArray 9)))
  have HBL : Hid (Below w.heap.size w ((w.alloc (.cells #[.int .i64 0, .int .i64 0] 43)).alloc (.cells wv.toArray 9))) := Lib.hid (((Below.refl _ w).alloc (Nat.le_refl _) _).alloc (by simp) _)
  have HL := Lib.hid hl
  have HC := Lib.hid hc
  have HTL := Lib.hid htl
  have HN := Lib.hid hN
  have HWV := Lib.hid hwv
  rw [← hl]
  obtain ⟨W1, hW1⟩ : ∃ W, W = (w.alloc (.cells #[.int .i64 0, .int .i64 0] 43)).alloc (.cells wv.toArray 9) := ⟨_, rfl⟩
  obtain ⟨bw, hbw⟩ : ∃ b, b = (w.alloc (.cells #[.int .i64 0, .int .i64 0] 43)).heap.size := ⟨_, rfl⟩
  rw [← hW1] at HB0 HBL HEN HSP
  rw [← hW1, ← hbw] at HBW
  rw [← hbw] at HSP
  have HBW2 := Lib.hid (show bw = w.heap.size + 1 from by rw [hbw]; simp)
  clear hl hc htl hN hE0 hmx SP hb0 hwv hW1 hbw he
  go_enter Tryd.func48, Tryd.ntmps48
  go_wp2_with fail
  refine HSP.out.mono ?_
  rintro e w1 ⟨rfl, rfl⟩
  clear HSP
  have g0 := HEN.out.word 0 _ rfl
  have g1 := HEN.out.max 0 _ rfl
  have g2 := HEN.out.word 1 _ rfl
  have g3 := HEN.out.max 1 _ rfl
  have g4 := HEN.out.word 2 _ rfl
  have g5 := HEN.out.max 2 _ rfl
  have g6 := HEN.out.word 3 _ rfl
  have g7 := HEN.out.max 3 _ rfl
  have g8 := HEN.out.word 4 _ rfl
  have g9 := HEN.out.max 4 _ rfl
  have g10 := HEN.out.word 5 _ rfl
  have g11 := HEN.out.max 5 _ rfl
  simp only [Nat.mul_zero, Nat.mul_one, Nat.zero_add, Nat.reduceMul, Nat.reduceAdd] at g0 g1 g2 g3 g4 g5 g6 g7 g8 g9 g10 g11
  go_wp2_with fail
  clear g0 g1 g2 g3 g4 g5 g6 g7 g8 g9 g10 g11
  obtain ⟨fa, hfa⟩ : ∃ fa, fa = flatA := ⟨_, rfl⟩
  rw [show #[.string (str [110, 111, 110, 101]), .int .i64 (-1), .string (str [115, 116, 101, 112]), .int .i64 999999999, .string (str [121, 111, 117, 110, 103]), .int .i64 (-1), .string (str [109, 97, 106, 111, 114]), .int .i64 (-1), .string (str [109, 111, 100, 101]), .int .i64 1, .string (str [99, 111, 109, 112, 97, 99, 116]), .int .i64 (-1)] = fa from hfa.symm]
  have HFA := Lib.hid hfa
  clear hfa
  go_loopw [5, 6, 7, 16] (fun t5 t6 t7 t16 wr => ∃ k : Nat, k ≤ 6 ∧ t16 = .int .i64 k ∧ t5 = .slice (some ⟨bw, 0, none⟩) N N ∧ c1 ∉ wordsL.take k ∧ Env wr ∧ Box wr w.heap.size [.int .i64 0, .int .i64 0] 43 ∧ Box wr bw wv 9 ∧ Below w.heap.size w wr) (fun _ _ _ t16 _ => 6 - (intOf t16).toNat)
  case atStart => exact ⟨0, Nat.zero_le _, rfl, rfl, by simp, HEN.out, HB0.out, HBW.out, HBL.out⟩
  case round =>
    obtain ⟨k, hk, rfl, rfl, hno, hen, hb0, hbw, hbl⟩ := hrel
    have HNO := Lib.hid hno
    clear HEN HB0 HBW HBL
    by_cases hlt : k < 6
    · obtain ⟨wk, hwk⟩ : ∃ wk, wordsL[k]? = some wk := ⟨_, List.getElem?_eq_getElem (show k < wordsL.length from hlt)⟩
      obtain ⟨mk, hmk⟩ : ∃ mk, maxL[k]? = some mk := ⟨_, List.getElem?_eq_getElem (show k < maxL.length from hlt)⟩
      have hfl := flat_at k hlt
      rw [hwk, hmk, ← HFA.out] at hfl
      simp only [Option.getD_some] at hfl
      have HMK := Lib.hid hmk
      have HWK := Lib.hid hwk
      clear hno hmk hwk
      have hw0 : wv[0]? = some (.string (str c1)) := by rw [HWV.out, HTL.out]; rfl
      go_upto_region 5 with fail
      obtain ⟨W2, hW2⟩ : ∃ W, W = wr.alloc (.cells #[.string (str wk), .int .i64 mk] 67) := ⟨_, rfl⟩
      obtain ⟨fp, hfp⟩ : ∃ b, b = wr.heap.size := ⟨_, rfl⟩
      have HFB : Hid (Box W2 fp [.string (str wk), .int .i64 mk] 67) := Lib.hid (by rw [hW2, hfp]; exact heap_alloc_new wr _)
      have hbb : Below wr.heap.size wr W2 := by rw [hW2]; exact below_alloc _ _
      rw [← hW2, ← hfp]
      have HEN := Lib.hid (hen.below hbb)
      have HB0 := Lib.hid (hb0.below hbb hb0.lt)
      have HBW := Lib.hid (hbw.below hbb hbw.lt)
      have HBL := Lib.hid (hbl.trans (hbb.mono hbl.size))
      clear hW2 hfp hbb hen hb0 hbw hbl hfl
      have hc0 := (HBW.out.cell 0).trans hw0
      clear hw0
      obtain ⟨f0, f1, -, -⟩ := HFB.out.cells2
      have hse := str_eq c1 wk
      by_cases he : c1 = wk
      · rw [decide_eq_true he] at hse
        have HIDX := Lib.hid (idx_found HWK.out he.symm HNO.out)
        clear he
        go_quiet (fail)
        have hbq := below_drewN (Below.refl W2.heap.size W2) nq
        have HEN3 := Lib.hid (HEN.out.below hbq)
        have HFB3 := Lib.hid (HFB.out.below hbq HFB.out.lt)
        have HB03 := Lib.hid (HB0.out.below hbq HB0.out.lt)
        have HBW3 := Lib.hid (HBW.out.below hbq HBW.out.lt)
        have HBL3 := Lib.hid (HBL.out.trans (hbq.mono HBL.out.size))
        clear HEN HFB HB0 HBW HBL hbq f0 f1 hc0
        generalize W2.drewN nq = W3 at *
        go_upto_region 7 with fail
        obtain ⟨W4, hW4⟩ : ∃ W, W = W3.alloc (.cells #[.int .i64 k, .int .i64 0] 43) := ⟨_, rfl⟩
        obtain ⟨bp, hbp⟩ : ∃ b, b = W3.heap.size := ⟨_, rfl⟩
        have HBX : Hid (Box W4 bp [.int .i64 k, .int .i64 0] 43) := Lib.hid (by rw [hW4, hbp]; exact heap_alloc_new W3 _)
        have hb4 : Below W3.heap.size W3 W4 := by rw [hW4]; exact below_alloc _ _
        rw [← hW4, ← hbp]
        have HNE : Hid (w.heap.size < bp) := Lib.hid (by have := HB03.out.lt; omega)
        have HFB4 := Lib.hid (HFB3.out.below hb4 HFB3.out.lt)
        have HB04 := Lib.hid (HB03.out.below hb4 HB03.out.lt)
        have HBW4 := Lib.hid (HBW3.out.below hb4 HBW3.out.lt)
        have HBL4 := Lib.hid (HBL3.out.trans (hb4.mono HBL3.out.size))
        have HNG : Hid (bw < bp) := Lib.hid (by have := HBW3.out.lt; omega)
        clear HFB3 HB03 HBW3 HBL3 hW4 hbp hb4
        obtain ⟨f0, f1, -, -⟩ := HFB4.out.cells2
        go_cut [5] (fun t5 wx => wx = W4 ∧ ∃ off len, t5 = .slice (some ⟨bw, off, none⟩) len len ∧ (c3 = false → len = 0) ∧ (c3 = true → off = 1 ∧ len = (wsL c2).length))
        case first =>
          have hN' := HN.out
          cases c3 with
          | false =>
            rw [ws_no (by rw [HC.out])] at hN'
            simp only [List.length_cons, List.length_nil, Nat.zero_add] at hN'
            subst hN'
            go_wp2_with fail
            go_meet
            case rel => exact ⟨rfl, 0, 0, rfl, fun _ => rfl, (by intro e; cases e)⟩
          | true =>
            rw [ws_yes (by rw [HC.out]), HC.out] at hN'
            simp only [List.length_cons] at hN'
            obtain ⟨M, hM⟩ : ∃ M, M = (wsL c2).length := ⟨_, rfl⟩
            have hM0 : 0 < M := by rw [hM]; obtain ⟨h, t, e⟩ := ws_pos c2; rw [e]; simp
            rw [← hM] at hN'
            have HM := Lib.hid hM
            clear hM
            have hne : N ≠ 1 := by omega
            have hM' : N - 1 = M := by omega
            clear hN'
            go_wp2_with fail
            go_meet
            case rel => exact ⟨rfl, 1, M, rfl, (by intro e; cases e), fun _ => ⟨rfl, HM.out⟩⟩
        case rest =>
          obtain ⟨rfl, off, len, rfl, hl0, hl1⟩ := hcut
          have HL0 := Lib.hid hl0
          have HL1 := Lib.hid hl1
          clear hl0 hl1
          have HMX := Lib.hid (max_of HMK.out)
          go_upto_if 32 with fail
          go_cut [5] (fun t5 wx => PointJ w l k bp bw t5 wx)
          case first =>
            by_cases hmk : 0 ≤ mk
            · have hkk : k = 1 ∨ k = 4 := HMX.out.1.1 hmk
              cases c3 with
              | false =>
                have hlen0 := HL0.out rfl
                subst hlen0
                have HNN : Hid (lineP l = none) := Lib.hid (lineP_short (by rw [HC.out]; exact HIDX.out) hlt hkk (by rw [HC.out]))
                obtain ⟨x0, x1, y0, y1⟩ := HBX.out.cells2
                obtain ⟨z0, z1, v0, v1⟩ := HB04.out.cells2
                have HNE' := Nat.ne_of_lt HNE.out
                clear hkk
                go_wp2_with fail
                refine bodyPost_ret (v := .tuple #[.agg #[.int .i64 k, .int .i64 0], .int .i64 0, .bool false]) (by simp [results, Tryd.results48, go_sem, z0, z1, HNE']) rfl ⟨⟨k, 0, 0, false, rfl, by rw [HNN.out]; all_goals (exact ⟨rfl, rfl, rfl, rfl⟩)⟩, ?_⟩
                exact ((HBL4.out).setCell (p := ⟨w.heap.size, 0, none⟩) (Nat.le_refl _) _).setCell (p := ⟨w.heap.size, 1, none⟩) (Nat.le_refl _) _
              | true =>
                obtain ⟨rfl, hlen1⟩ := HL1.out rfl
                obtain ⟨d1, d2, d3, hd⟩ : ∃ d1 d2 d3, cut1 32 c2 = (d1, d2, d3) := ⟨_, _, _, rfl⟩
                have hd2 := (cut1_len 32 c2).1
                have hd1 := cut1_len1 32 c2
                rw [hd] at hd1 hd2
                simp only at hd1 hd2
                have hws := words_of_box HBW4.out HWV.out (by rw [HC.out])
                rw [HC.out] at hws
                simp only at hws
                obtain ⟨tl2, htl2⟩ := ws_head c2
                rw [hd] at htl2
                simp only at htl2
                have hq0 := hws 0 d1 (by rw [htl2]; rfl)
                rw [Nat.add_zero] at hq0
                have hl1 : 0 < len := by rw [hlen1, htl2]; simp
                have hl2 : (0 : Int) < (len : Int) := by omega
                obtain ⟨n, ok, hnp⟩ : ∃ n ok, numP d1 mk = (n, ok) := ⟨_, _, rfl⟩
                have HNC : Hid (∀ w, Calls Tryd.prog 30 #[.string (str d1), .int .i64 mk] w fun e w' => e = .returned (.tuple #[.int .i64 n, .bool ok]) ∧ Below w.heap.size w w') := by
                  refine Lib.hid ?_
                  intro w
                  have := number_any (str d1) mk w (by rw [size_bs, bs_str]; omega)
                  rw [bs_str, hnp] at this
                  exact this
                have HNP := Lib.hid hnp
                have HD := Lib.hid hd
                have HWS := Lib.hid hws
                have HTL2 := Lib.hid htl2
                have HLN := Lib.hid hlen1
                have HKK := Lib.hid hkk
                clear hnp hd hws htl2 hlen1 hkk
                go_upto_region 11 with fail
                have HRS : Hid (∀ W', Below wc.heap.size wc W' → W'.cell? ⟨bw, 1, none⟩ = some (.string (str d1)) ∧ W'.cell? ⟨fp, 1, none⟩ = some (.int .i64 mk)) := Lib.hid (fun W' hb => ⟨(World.cell?_of_block (w := wc) (hb.block bw HBW4.out.lt)).trans hq0, (World.cell?_of_block (w := wc) (hb.block fp HFB4.out.lt)).trans f1⟩)
                go_region_held3 (fun w' => w'.cell? ⟨bw, 1, none⟩ = some (.string (str d1)) ∧ w'.cell? ⟨fp, 1, none⟩ = some (.int .i64 mk)) (first | (with_reducible assumption) | exact ⟨hq0, f1⟩) ((go_at_call 30; refine (HNC.out _).mono ?_; rintro e w5 ⟨rfl, hb5⟩; have HB5 := Lib.hid hb5; have s1 := HRS.out w5 ⟨hb5.os, hb5.tape, hb5.output, hb5.size, hb5.block⟩; clear hb5))
                all_goals (
                  have hb5 : Below wc.heap.size wc w5 := ⟨HB5.out.os, HB5.out.tape, HB5.out.output, HB5.out.size, HB5.out.block⟩
                  have HBX5 := Lib.hid (HBX.out.below hb5 HBX.out.lt)
                  have HB05 := Lib.hid (HB04.out.below hb5 HB04.out.lt)
                  have HBL5 := Lib.hid (HBL4.out.trans (hb5.mono HBL4.out.size))
                  have HWS5 := Lib.hid (HWS.out.keep (hb5.block bw HBW4.out.lt))
                  clear hb5 HBX HB04 HBL4 HBW4 HFB4 HRS hq0 f0 f1 HNC HB5
                  obtain ⟨x0, x1, y0, y1⟩ := HBX5.out.cells2
                  obtain ⟨z0, z1, v0, v1⟩ := HB05.out.cells2
                  have HNE' := Nat.ne_of_lt HNE.out
                  cases ok with
                  | false =>
                    have HNN : Hid (lineP l = none) := Lib.hid (by
                      have hnp := HNP.out
                      unfold numP at hnp
                      cases hn : numL d1 with
                      | none => exact lineP_bad (by rw [HC.out]; exact HIDX.out) hlt HKK.out (by rw [HC.out]) (by rw [HC.out, HD.out]; exact hn)
                      | some n' =>
                        rw [hn] at hnp
                        have hlt' := (numL_lt hn).1
                        have h2 := (Prod.mk.inj hnp).2
                        rw [decide_eq_false_iff_not] at h2
                        rw [lineP_num (n := n') (by rw [HC.out]; exact HIDX.out) hlt HKK.out (by rw [HC.out]) (by rw [HC.out, HD.out]; exact hn), if_pos]
                        have h3 := HMX.out.2
                        rcases HKK.out with hk1 | hk4
                        · have := h3.1 hk1; omega
                        · have := h3.2 hk4; exact ⟨hk4, by omega⟩)
                    go_wp2_with fail
                    refine bodyPost_ret (v := .tuple #[.agg #[.int .i64 k, .int .i64 0], .int .i64 0, .bool false]) (by simp [results, Tryd.results48, go_sem, z0, z1, HNE']) rfl ⟨⟨k, 0, 0, false, rfl, by rw [HNN.out]; all_goals (exact ⟨rfl, rfl, rfl, rfl⟩)⟩, ?_⟩
                    exact ((HBL5.out).setCell (p := ⟨w.heap.size, 0, none⟩) (Nat.le_refl _) _).setCell (p := ⟨w.heap.size, 1, none⟩) (Nat.le_refl _) _
                  | true =>
                    obtain ⟨n', hn', hnn⟩ : ∃ n', numL d1 = some n' ∧ n = (n' : Int) ∧ ¬ (k = 4 ∧ 1 < n') := by
                      have hnp := HNP.out
                      unfold numP at hnp
                      cases hn : numL d1 with
                      | none => rw [hn] at hnp; cases hnp
                      | some n' =>
                        rw [hn] at hnp
                        refine ⟨n', rfl, (Prod.mk.inj hnp).1.symm, ?_⟩
                        rintro ⟨hk4, h1⟩
                        have h2 := (Prod.mk.inj hnp).2
                        rw [decide_eq_true_iff] at h2
                        have := HMX.out.2.2 hk4
                        omega
                    obtain ⟨rfl, hnk⟩ := hnn
                    have HP : Hid (lineP l = (timesL d3 d2).map fun m => (k, n', m)) := Lib.hid (by
                      rw [lineP_num (n := n') (by rw [HC.out]; exact HIDX.out) hlt HKK.out (by rw [HC.out]) (by rw [HC.out, HD.out]; exact hn'), if_neg hnk, HC.out, HD.out])
                    clear hn' hnk
                    have HBX6 := Lib.hid (HBX5.out.set 1 (.int .i64 n'))
                    have HB06 := Lib.hid (HB05.out.setOther ⟨bp, 1, none⟩ (by exact HNE') (.int .i64 n'))
                    have HBL6 := Lib.hid (HBL5.out.setCell (p := ⟨bp, 1, none⟩) (Nat.le_of_lt HNE.out) (.int .i64 n'))
                    have HWS6 : Hid (WordsAt (w5.setCell ⟨bp, 1, none⟩ (.int .i64 n')) bw 1 (wsL c2)) := Lib.hid (HWS5.out.keep (Below.heap_setCell w5 ⟨bp, 1, none⟩ _ bw (Nat.ne_of_lt HNG.out)))
                    cases d3 with
                    | false =>
                      have hle := HLN.out
                      rw [ws_no (by rw [HD.out])] at hle
                      simp only [List.length_cons, List.length_nil, Nat.zero_add] at hle
                      subst hle
                      go_wp2_with fail
                      go_meet
                      case rel => exact ⟨n', d2, false, 1, 0, rfl, fun _ => rfl, (by intro e; cases e), by omega, HP.out, HBX6.out, HB06.out, HBL6.out⟩
                    | true =>
                      have hle := HLN.out
                      rw [ws_yes (by rw [HD.out]), HD.out] at hle
                      simp only [List.length_cons] at hle
                      obtain ⟨M, hM⟩ : ∃ M, M = (wsL d2).length := ⟨_, rfl⟩
                      have hM0 : 0 < M := by rw [hM]; obtain ⟨h, t, e⟩ := ws_pos d2; rw [e]; simp
                      rw [← hM] at hle
                      have HM := Lib.hid hM
                      have hne : len ≠ 1 := by omega
                      have hM' : len - 1 = M := by omega
                      have HWS7 : Hid (WordsAt (w5.setCell ⟨bp, 1, none⟩ (.int .i64 n')) bw 2 (wsL d2)) := Lib.hid (by
                        intro j x e
                        have := HWS6.out (j + 1) x (by rw [ws_yes (by rw [HD.out]), HD.out]; exact e)
                        rw [show 2 + j = 1 + (j + 1) by omega]
                        exact this)
                      clear hM hle
                      go_wp2_with fail
                      go_meet
                      case rel => exact ⟨n', d2, true, 2, M, rfl, (by intro e; cases e), fun _ => ⟨HM.out, HWS7.out⟩, by omega, HP.out, HBX6.out, HB06.out, HBL6.out⟩)
            · have HP := Lib.hid (lineP_plain (l := l) (k := k) (by rw [HC.out]; exact HIDX.out) hlt (fun e => hmk (HMX.out.1.2 e)))
              go_wp2_with fail
              go_meet
              case rel =>
                refine ⟨0, c2, c3, off, len, rfl, HL0.out, ?_, by omega, by rw [HP.out, HC.out], HBX.out, HB04.out, HBL4.out⟩
                intro e
                obtain ⟨rfl, h2⟩ := HL1.out e
                refine ⟨h2, ?_⟩
                have := words_of_box HBW4.out HWV.out (by rw [HC.out]; exact e)
                rw [HC.out] at this
                exact this
          case rest =>
            obtain ⟨N', r, more, off', len', rfl, hm0, hm1, hrl, hL, hX, hX0, hB⟩ := hcut
            clear HL0 HL1 HBX HB04 HBW4 HBL4 HFB4 f0 f1
            obtain ⟨x0, x1, y0, y1⟩ := hX.cells2
            obtain ⟨z0, z1, v0, v1⟩ := hX0.cells2
            have HNE' := Nat.ne_of_lt HNE.out
            have HB := Lib.hid hB
            have HLL := Lib.hid hL
            have HX := Lib.hid hX
            have HX0 := Lib.hid hX0
            clear hB hL hX hX0
            cases more with
            | false =>
              have hl0 := hm0 rfl
              subst hl0
              have HNN : Hid (lineP l = some (k, N', 1)) := Lib.hid (by rw [HLL.out]; rfl)
              clear hm0 hm1 HLL
              go_wp2_with fail
              refine bodyPost_ret (v := .tuple #[.agg #[.int .i64 k, .int .i64 N'], .int .i64 1, .bool true]) (by simp [results, Tryd.results48, go_sem, z0, z1, HNE']) rfl ⟨⟨k, N', 1, true, rfl, by rw [HNN.out]; all_goals (exact ⟨rfl, rfl, rfl, rfl⟩)⟩, ?_⟩
              exact ((HB.out).setCell (p := ⟨w.heap.size, 0, none⟩) (Nat.le_refl _) _).setCell (p := ⟨w.heap.size, 1, none⟩) (Nat.le_refl _) _
            | true =>
              obtain ⟨hl1, hws⟩ := hm1 rfl
              obtain ⟨h, hh⟩ : ∃ h, h = (cut1 32 r).1 := ⟨_, rfl⟩
              obtain ⟨tl3, htl3⟩ := ws_head r
              rw [← hh] at htl3
              have hq0 := hws 0 h (by rw [htl3]; rfl)
              rw [Nat.add_zero] at hq0
              have hlp : 0 < len' := by rw [hl1, htl3]; simp
              have hlp2 : (0 : Int) < (len' : Int) := by omega
              have hhl : h.length ≤ 1000000 := by rw [hh]; exact Nat.le_trans (cut1_len1 32 r) hrl
              have htx : (tailX h).length ≤ 1000000 := by
                unfold tailX Lib.trimPrefix
                split
                · rw [List.length_drop]; omega
                · exact hhl
              have HTP := Lib.hid (fun w => Tryd.strings_TrimPrefix (str h) (str [120]) w)
              have HHP := Lib.hid (fun w => Tryd.strings_HasPrefix (str h) (str [120]) w)
              obtain ⟨tx, htx2⟩ : ∃ tx, tx = tailX h := ⟨_, rfl⟩
              obtain ⟨hx, hhx⟩ : ∃ hx, hx = headX h := ⟨_, rfl⟩
              rw [show (⟨(Lib.trimPrefix (str h).data.toList (str [120]).data.toList).toArray⟩ : ByteArray) = str tx from by rw [htx2]; rfl] at HTP
              rw [show Lib.hasPrefix (str h).data.toList (str [120]).data.toList = hx from by rw [hhx]; rfl] at HHP
              obtain ⟨n, ok, hnp⟩ : ∃ n ok, numP tx (-1) = (n, ok) := ⟨_, _, rfl⟩
              have HNC : Hid (∀ w, Calls Tryd.prog 30 #[.string (str tx), .int .i64 (-1)] w fun e w' => e = .returned (.tuple #[.int .i64 n, .bool ok]) ∧ Below w.heap.size w w') := by
                refine Lib.hid ?_
                intro w
                have := number_any (str tx) (-1) w (by rw [size_bs, bs_str, htx2]; exact htx)
                rw [bs_str, hnp] at this
                exact this
              have HNP := Lib.hid hnp
              have HH := Lib.hid hh
              have HWS := Lib.hid hws
              have HTX := Lib.hid htx2
              have HHX := Lib.hid hhx
              have HLE := Lib.hid hl1
              clear hnp hh hws htx2 hhx hl1 htl3 htx hhl hm0 hm1
              go_wp2_with fail
              refine (HTP.out _).mono ?_
              rintro e wt ⟨rfl, rfl⟩
              go_wp2_with fail
              refine (HNC.out _).mono ?_
              rintro e w6 ⟨rfl, hb6⟩
              have HX6 := Lib.hid (HX.out.below hb6 HX.out.lt)
              have HX06 := Lib.hid (HX0.out.below hb6 HX0.out.lt)
              have HB6 := Lib.hid (HB.out.trans (hb6.mono HB.out.size))
              have hq6 : w6.cell? ⟨bw, off', none⟩ = some (.string (str h)) := (hb6.cell (by
                have h1 := HNG.out
                have h2 := HX.out.lt
                show bw < _
                omega)).trans hq0
              clear hb6 HX HX0 HB HWS x0 x1 y0 y1 z0 z1 v0 v1 hq0
              obtain ⟨x0, x1, y0, y1⟩ := HX6.out.cells2
              obtain ⟨z0, z1, v0, v1⟩ := HX06.out.cells2
              cases ok with
              | false =>
                have HNN : Hid (lineP l = none) := Lib.hid (by
                  have hnp := HNP.out
                  unfold numP at hnp
                  cases hn : numL tx with
                  | none =>
                    rw [HTX.out, HH.out] at hn
                    rw [HLL.out, times_t1 hn]; rfl
                  | some n' =>
                    rw [hn] at hnp
                    have h2 := (Prod.mk.inj hnp).2
                    rw [decide_eq_false_iff_not] at h2
                    omega)
                go_wp2_with fail
                go_region
                all_goals (
                  go_wp2_with fail
                  refine bodyPost_ret (v := .tuple #[.agg #[.int .i64 k, .int .i64 N'], .int .i64 n, .bool false]) (by simp [results, Tryd.results48, go_sem, z0, z1, HNE']) rfl ⟨⟨k, N', n, false, rfl, by rw [HNN.out]; all_goals (exact ⟨rfl, rfl, rfl, rfl⟩)⟩, ?_⟩
                  exact ((below_drewN HB6.out _).setCell (p := ⟨w.heap.size, 0, none⟩) (Nat.le_refl _) _).setCell (p := ⟨w.heap.size, 1, none⟩) (Nat.le_refl _) _)
              | true =>
                obtain ⟨n', hn', hnn⟩ : ∃ n', numL tx = some n' ∧ n = (n' : Int) := by
                  have hnp := HNP.out
                  unfold numP at hnp
                  cases hn : numL tx with
                  | none => rw [hn] at hnp; cases hnp
                  | some n' =>
                    rw [hn] at hnp
                    exact ⟨n', rfl, (Prod.mk.inj hnp).1.symm⟩
                subst hnn
                rw [HTX.out, HH.out] at hn'
                by_cases h1 : len' = 1
                · have HT3 := Lib.hid (times_t3 (r := r) (by rw [← HLE.out]; exact h1) hn')
                  clear hn'
                  subst h1
                  cases hx with
                  | false =>
                    have HNN : Hid (lineP l = none) := Lib.hid (by
                      rw [HLL.out, HT3.out, ← HH.out, ← HHX.out]; rfl)
                    go_wp2_with fail
                    have HRS : Hid (∀ a b, ((w6.drew.setCell ⟨w.heap.size, 0, none⟩ a).setCell ⟨w.heap.size, 1, none⟩ b).cell? ⟨bp, 0, none⟩ = some (.int .i64 k) ∧ ((w6.drew.setCell ⟨w.heap.size, 0, none⟩ a).setCell ⟨w.heap.size, 1, none⟩ b).cell? ⟨bp, 1, none⟩ = some (.int .i64 N') ∧ ((w6.drew.setCell ⟨w.heap.size, 0, none⟩ a).setCell ⟨w.heap.size, 1, none⟩ b).cell? ⟨bw, off', none⟩ = some (.string (str h))) := by
                      refine Lib.hid (fun a b => ?_)
                      have hnb : bp ≠ w.heap.size := Ne.symm (Nat.ne_of_lt HNE.out)
                      have hng : bw ≠ w.heap.size := by rw [HBW2.out]; omega
                      obtain ⟨q0, q1, -, -⟩ := ((HX6.out.drew.setOther ⟨w.heap.size, 0, none⟩ hnb a).setOther ⟨w.heap.size, 1, none⟩ hnb b).cells2
                      exact ⟨q0, q1, (World.cell?_of_block (w := w6) ((Below.heap_setCell _ ⟨w.heap.size, 1, none⟩ b bw hng).trans (Below.heap_setCell w6.drew ⟨w.heap.size, 0, none⟩ a bw hng))).trans hq6⟩
                    refine wp_region_held_drew (S := fun w' => w'.cell? ⟨bp, 0, none⟩ = some (.int .i64 k) ∧ w'.cell? ⟨bp, 1, none⟩ = some (.int .i64 N') ∧ w'.cell? ⟨bw, off', none⟩ = some (.string (str h))) (by kernel_rfl) ⟨x0, x1, hq6⟩ (fun hHeld => ?_)
                    change wpAnyH _ _ _ _ _ 21 #[false, false, false, false, false, false, false, false, false, false, false, false, false, false, false, false, false, false, false, false, false] _ _
                    refine wpAnyH_take (i := 0) (v := ?_) (fuel := 20) rfl (by kernel_rfl) (by kernel_rfl) (by kernel_rfl) (fun _ _ _ h => h) (Or.inl ⟨by rfl, ?_⟩) (by assumption) ?_
                    rotate_left
                    · intro w hSw
                      obtain ⟨s1, s2, s3⟩ := hSw
                      go_simp
                      all_goals (with_reducible rfl)
                    simp only [Act.put, List.setIfInBounds_toArray, List.set_cons_zero, List.set_cons_succ, List.getElem_toArray, List.getElem_cons_zero, List.getElem_cons_succ]
                    refine wpAnyH_take (i := 1) (v := ?_) (fuel := 19) rfl (by kernel_rfl) (by kernel_rfl) (by kernel_rfl) (fun _ _ _ h => h) (Or.inl ⟨by rfl, ?_⟩) (by assumption) ?_
                    rotate_left
                    · intro w hSw
                      obtain ⟨s1, s2, s3⟩ := hSw
                      go_simp
                      all_goals (with_reducible rfl)
                    simp only [Act.put, List.setIfInBounds_toArray, List.set_cons_zero, List.set_cons_succ, List.getElem_toArray, List.getElem_cons_zero, List.getElem_cons_succ]
                    refine wpAnyH_take (i := 2) (v := ?_) (fuel := 18) rfl (by kernel_rfl) (by kernel_rfl) (by kernel_rfl) (fun _ _ _ h => h) (Or.inl ⟨by rfl, ?_⟩) (by assumption) ?_
                    rotate_left
                    · intro w hSw
                      obtain ⟨s1, s2, s3⟩ := hSw
                      go_simp
                      all_goals (with_reducible rfl)
                    simp only [Act.put, List.setIfInBounds_toArray, List.set_cons_zero, List.set_cons_succ, List.getElem_toArray, List.getElem_cons_zero, List.getElem_cons_succ]
                    refine wpAnyH_take (i := 3) (v := ?_) (fuel := 17) rfl (by kernel_rfl) (by kernel_rfl) (by kernel_rfl) (fun _ _ _ h => h) (Or.inl ⟨by rfl, ?_⟩) (by assumption) ?_
                    rotate_left
                    · intro w hSw
                      obtain ⟨s1, s2, s3⟩ := hSw
                      go_simp
                      all_goals (with_reducible rfl)
                    simp only [Act.put, List.setIfInBounds_toArray, List.set_cons_zero, List.set_cons_succ, List.getElem_toArray, List.getElem_cons_zero, List.getElem_cons_succ]
                    refine wpAnyH_take (i := 4) (v := ?_) (fuel := 16) rfl (by kernel_rfl) (by kernel_rfl) (by kernel_rfl) (fun _ _ _ h => h) (Or.inl ⟨by rfl, ?_⟩) (by assumption) ?_
                    rotate_left
                    · intro w hSw
                      obtain ⟨s1, s2, s3⟩ := hSw
                      go_simp
                      all_goals (with_reducible rfl)
                    simp only [Act.put, List.setIfInBounds_toArray, List.set_cons_zero, List.set_cons_succ, List.getElem_toArray, List.getElem_cons_zero, List.getElem_cons_succ]
                    refine wpAnyH_take (i := 5) (v := ?_) (fuel := 15) rfl (by kernel_rfl) (by kernel_rfl) (by kernel_rfl) (fun _ _ _ h => h) (Or.inl ⟨by rfl, ?_⟩) (by assumption) ?_
                    rotate_left
                    · intro w hSw
                      obtain ⟨s1, s2, s3⟩ := hSw
                      go_simp
                      all_goals (with_reducible rfl)
                    simp only [Act.put, List.setIfInBounds_toArray, List.set_cons_zero, List.set_cons_succ, List.getElem_toArray, List.getElem_cons_zero, List.getElem_cons_succ]
                    refine wpAnyH_take (i := 6) (v := ?_) (fuel := 14) rfl (by kernel_rfl) (by kernel_rfl) (by kernel_rfl) (fun _ _ _ h => h) (Or.inl ⟨by rfl, ?_⟩) (by assumption) ?_
                    rotate_left
                    · intro w hSw
                      obtain ⟨s1, s2, s3⟩ := hSw
                      go_simp
                      all_goals (with_reducible rfl)
                    simp only [Act.put, List.setIfInBounds_toArray, List.set_cons_zero, List.set_cons_succ, List.getElem_toArray, List.getElem_cons_zero, List.getElem_cons_succ]
                    refine wpAnyH_take (i := 7) (v := ?_) (fuel := 13) rfl (by kernel_rfl) (by kernel_rfl) (by kernel_rfl) (fun _ _ _ h => h) (Or.inl ⟨by rfl, ?_⟩) (by assumption) ?_
                    rotate_left
                    · intro w hSw
                      obtain ⟨s1, s2, s3⟩ := hSw
                      go_simp
                      all_goals (with_reducible rfl)
                    simp only [Act.put, List.setIfInBounds_toArray, List.set_cons_zero, List.set_cons_succ, List.getElem_toArray, List.getElem_cons_zero, List.getElem_cons_succ]
                    refine wpAnyH_take (i := 8) (v := ?_) (fuel := 12) rfl (by kernel_rfl) (by kernel_rfl) (by kernel_rfl) (fun _ _ _ h => h) (Or.inl ⟨by rfl, ?_⟩) (by assumption) ?_
                    rotate_left
                    · intro w hSw
                      obtain ⟨s1, s2, s3⟩ := hSw
                      go_simp
                      all_goals (with_reducible rfl)
                    simp only [Act.put, List.setIfInBounds_toArray, List.set_cons_zero, List.set_cons_succ, List.getElem_toArray, List.getElem_cons_zero, List.getElem_cons_succ]
                    refine wpAnyH_take (i := 9) (v := ?_) (fuel := 11) rfl (by kernel_rfl) (by kernel_rfl) (by kernel_rfl) (fun _ _ _ h => h) (Or.inl ⟨by rfl, ?_⟩) (by assumption) ?_
                    rotate_left
                    · intro w hSw
                      obtain ⟨s1, s2, s3⟩ := hSw
                      go_simp
                      all_goals (with_reducible rfl)
                    simp only [Act.put, List.setIfInBounds_toArray, List.set_cons_zero, List.set_cons_succ, List.getElem_toArray, List.getElem_cons_zero, List.getElem_cons_succ]
                    refine wpAnyH_take (i := 10) (v := ?_) (fuel := 10) rfl (by kernel_rfl) (by kernel_rfl) (by kernel_rfl) (fun _ _ _ h => h) (Or.inl ⟨by rfl, ?_⟩) (by assumption) ?_
                    rotate_left
                    · intro w hSw
                      obtain ⟨s1, s2, s3⟩ := hSw
                      go_simp
                      all_goals (with_reducible rfl)
                    simp only [Act.put, List.setIfInBounds_toArray, List.set_cons_zero, List.set_cons_succ, List.getElem_toArray, List.getElem_cons_zero, List.getElem_cons_succ]
                    refine wpAnyH_take (i := 11) (v := ?_) (fuel := 9) rfl (by kernel_rfl) (by kernel_rfl) (by kernel_rfl) (fun _ _ _ h => h) (Or.inl ⟨by rfl, ?_⟩) (by assumption) ?_
                    rotate_left
                    · intro w hSw
                      obtain ⟨s1, s2, s3⟩ := hSw
                      go_simp
                      all_goals (with_reducible rfl)
                    simp only [Act.put, List.setIfInBounds_toArray, List.set_cons_zero, List.set_cons_succ, List.getElem_toArray, List.getElem_cons_zero, List.getElem_cons_succ]
                    refine wpAnyH_ready (fuel := 8) (rs := [12]) (by kernel_rfl) (by simp) ?_
                    refine AllReadyH.cons rfl (fun K hK => ?_) AllReadyH.nil
                    go_simp
                    refine (HHP.out _).mono ?_
                    rintro e w7 ⟨rfl, rfl⟩
                    refine hK.out _ _ (by assumption) (fun hHeld2 => ?_)
                    clear hK K
                    simp only [Act.put, List.setIfInBounds_toArray, List.set_cons_zero, List.set_cons_succ, List.getElem_toArray, List.getElem_cons_zero, List.getElem_cons_succ]
                    refine wpAnyH_take (i := 13) (v := ?_) (fuel := 7) rfl (by kernel_rfl) (by kernel_rfl) (by kernel_rfl) (fun _ _ _ h => h) (Or.inl ⟨by rfl, ?_⟩) (by assumption) ?_
                    rotate_left
                    · intro w hSw
                      obtain ⟨s1, s2, s3⟩ := hSw
                      go_simp
                      all_goals (with_reducible rfl)
                    simp only [Act.put, List.setIfInBounds_toArray, List.set_cons_zero, List.set_cons_succ, List.getElem_toArray, List.getElem_cons_zero, List.getElem_cons_succ]
                    refine wpAnyH_take (i := 14) (v := ?_) (fuel := 6) rfl (by kernel_rfl) (by kernel_rfl) (by kernel_rfl) (fun _ _ _ h => h) (Or.inl ⟨by rfl, ?_⟩) (by assumption) ?_
                    rotate_left
                    · intro w hSw
                      obtain ⟨s1, s2, s3⟩ := hSw
                      go_simp
                      all_goals (with_reducible rfl)
                    simp only [Act.put, List.setIfInBounds_toArray, List.set_cons_zero, List.set_cons_succ, List.getElem_toArray, List.getElem_cons_zero, List.getElem_cons_succ]
                    refine wpAnyH_take (i := 15) (v := undef) (fuel := 5) rfl (by kernel_rfl) (by kernel_rfl) (by kernel_rfl) (fun _ _ _ h => h) (Or.inr ⟨by rfl, rfl⟩) (by assumption) ?_
                    simp only [Act.put, List.setIfInBounds_toArray, List.set_cons_zero, List.set_cons_succ, List.getElem_toArray, List.getElem_cons_zero, List.getElem_cons_succ]
                    refine wpAnyH_take (i := 16) (v := undef) (fuel := 4) rfl (by kernel_rfl) (by kernel_rfl) (by kernel_rfl) (fun _ _ _ h => h) (Or.inr ⟨by rfl, rfl⟩) (by assumption) ?_
                    simp only [Act.put, List.setIfInBounds_toArray, List.set_cons_zero, List.set_cons_succ, List.getElem_toArray, List.getElem_cons_zero, List.getElem_cons_succ]
                    refine wpAnyH_take (i := 17) (v := ?_) (fuel := 3) rfl (by kernel_rfl) (by kernel_rfl) (by kernel_rfl) (fun _ _ _ h => h) (Or.inl ⟨by rfl, ?_⟩) (by assumption) ?_
                    rotate_left
                    · intro w hSw
                      obtain ⟨s1, s2, s3⟩ := hSw
                      go_simp
                      all_goals (with_reducible rfl)
                    simp only [Act.put, List.setIfInBounds_toArray, List.set_cons_zero, List.set_cons_succ, List.getElem_toArray, List.getElem_cons_zero, List.getElem_cons_succ]
                    refine wpAnyH_ready (fuel := 2) (rs := [18]) (by kernel_rfl) (by simp) ?_
                    refine AllReadyH.cons rfl (fun K hK => ?_) AllReadyH.nil
                    go_simp
                    refine hK.out _ _ (HRS.out _ _) (fun hHeld3 => ?_)
                    clear hK K
                    simp only [Act.put, List.setIfInBounds_toArray, List.set_cons_zero, List.set_cons_succ, List.getElem_toArray, List.getElem_cons_zero, List.getElem_cons_succ]
                    refine wpAnyH_take (i := 19) (v := ?_) (fuel := 1) rfl (by kernel_rfl) (by kernel_rfl) (by kernel_rfl) (fun _ _ _ h => h) (Or.inl ⟨by rfl, ?_⟩) (by assumption) ?_
                    rotate_left
                    · intro w hSw
                      obtain ⟨s1, s2, s3⟩ := hSw
                      go_simp
                      all_goals (with_reducible rfl)
                    simp only [Act.put, List.setIfInBounds_toArray, List.set_cons_zero, List.set_cons_succ, List.getElem_toArray, List.getElem_cons_zero, List.getElem_cons_succ]
                    refine wpAnyH_take (i := 20) (v := ?_) (fuel := 0) rfl (by kernel_rfl) (by kernel_rfl) (by kernel_rfl) (fun _ _ _ h => h) (Or.inl ⟨by rfl, ?_⟩) (by assumption) ?_
                    rotate_left
                    · intro w hSw
                      obtain ⟨s1, s2, s3⟩ := hSw
                      go_simp
                      all_goals (with_reducible rfl)
                    simp only [Act.put, List.setIfInBounds_toArray, List.set_cons_zero, List.set_cons_succ, List.getElem_toArray, List.getElem_cons_zero, List.getElem_cons_succ]
                    refine wpAnyH_done (by kernel_rfl) ?_ _
                    all_goals (
                      go_wp2_with fail
                      refine bodyPost_ret (v := .tuple #[.agg #[.int .i64 k, .int .i64 N'], .int .i64 n', .bool false]) (by simp [results, Tryd.results48, go_sem, z0, z1, HNE']) rfl ⟨⟨k, N', n', false, rfl, by rw [HNN.out]; all_goals (exact ⟨rfl, rfl, rfl, rfl⟩)⟩, ?_⟩
                      exact ((below_drewN HB6.out _).setCell (p := ⟨w.heap.size, 0, none⟩) (Nat.le_refl _) _).setCell (p := ⟨w.heap.size, 1, none⟩) (Nat.le_refl _) _)
                  | true =>
                    by_cases h2 : 2 ≤ n'
                    · have HNN : Hid (lineP l = some (k, N', n')) := Lib.hid (by
                        rw [HLL.out, HT3.out, ← HH.out, ← HHX.out, decide_eq_true h2]; rfl)
                      go_wp2_with fail
                      have h2i : (2 : Int) ≤ n' := by omega
                      have HRS : Hid (∀ a b, ((w6.drew.setCell ⟨w.heap.size, 0, none⟩ a).setCell ⟨w.heap.size, 1, none⟩ b).cell? ⟨bp, 0, none⟩ = some (.int .i64 k) ∧ ((w6.drew.setCell ⟨w.heap.size, 0, none⟩ a).setCell ⟨w.heap.size, 1, none⟩ b).cell? ⟨bp, 1, none⟩ = some (.int .i64 N') ∧ ((w6.drew.setCell ⟨w.heap.size, 0, none⟩ a).setCell ⟨w.heap.size, 1, none⟩ b).cell? ⟨bw, off', none⟩ = some (.string (str h))) := by
                        refine Lib.hid (fun a b => ?_)
                        have hnb : bp ≠ w.heap.size := Ne.symm (Nat.ne_of_lt HNE.out)
                        have hng : bw ≠ w.heap.size := by rw [HBW2.out]; omega
                        obtain ⟨q0, q1, -, -⟩ := ((HX6.out.drew.setOther ⟨w.heap.size, 0, none⟩ hnb a).setOther ⟨w.heap.size, 1, none⟩ hnb b).cells2
                        exact ⟨q0, q1, (World.cell?_of_block (w := w6) ((Below.heap_setCell _ ⟨w.heap.size, 1, none⟩ b bw hng).trans (Below.heap_setCell w6.drew ⟨w.heap.size, 0, none⟩ a bw hng))).trans hq6⟩
                      go_region_held3 (fun w' => w'.cell? ⟨bp, 0, none⟩ = some (.int .i64 k) ∧ w'.cell? ⟨bp, 1, none⟩ = some (.int .i64 N') ∧ w'.cell? ⟨bw, off', none⟩ = some (.string (str h))) (first | (with_reducible assumption) | exact ⟨x0, x1, hq6⟩ | exact HRS.out _ _) ((go_at_call 32; refine (HHP.out _).mono ?_; rintro e w7 ⟨rfl, rfl⟩))
                      all_goals (
                        go_wp2_with fail
                        refine bodyPost_ret (v := .tuple #[.agg #[.int .i64 k, .int .i64 N'], .int .i64 n', .bool true]) (by simp [results, Tryd.results48, go_sem, z0, z1, HNE', h2i]) rfl ⟨⟨k, N', n', true, rfl, by rw [HNN.out]; all_goals (exact ⟨rfl, rfl, rfl, rfl⟩)⟩, ?_⟩
                        exact ((below_drewN HB6.out _).setCell (p := ⟨w.heap.size, 0, none⟩) (Nat.le_refl _) _).setCell (p := ⟨w.heap.size, 1, none⟩) (Nat.le_refl _) _)
                    · have HNN : Hid (lineP l = none) := Lib.hid (by
                        rw [HLL.out, HT3.out, ← HH.out, ← HHX.out, decide_eq_false h2]; rfl)
                      go_wp2_with fail
                      have h2i : ¬ (2 : Int) ≤ n' := by omega
                      have HRS : Hid (∀ a b, ((w6.drew.setCell ⟨w.heap.size, 0, none⟩ a).setCell ⟨w.heap.size, 1, none⟩ b).cell? ⟨bp, 0, none⟩ = some (.int .i64 k) ∧ ((w6.drew.setCell ⟨w.heap.size, 0, none⟩ a).setCell ⟨w.heap.size, 1, none⟩ b).cell? ⟨bp, 1, none⟩ = some (.int .i64 N') ∧ ((w6.drew.setCell ⟨w.heap.size, 0, none⟩ a).setCell ⟨w.heap.size, 1, none⟩ b).cell? ⟨bw, off', none⟩ = some (.string (str h))) := by
                        refine Lib.hid (fun a b => ?_)
                        have hnb : bp ≠ w.heap.size := Ne.symm (Nat.ne_of_lt HNE.out)
                        have hng : bw ≠ w.heap.size := by rw [HBW2.out]; omega
                        obtain ⟨q0, q1, -, -⟩ := ((HX6.out.drew.setOther ⟨w.heap.size, 0, none⟩ hnb a).setOther ⟨w.heap.size, 1, none⟩ hnb b).cells2
                        exact ⟨q0, q1, (World.cell?_of_block (w := w6) ((Below.heap_setCell _ ⟨w.heap.size, 1, none⟩ b bw hng).trans (Below.heap_setCell w6.drew ⟨w.heap.size, 0, none⟩ a bw hng))).trans hq6⟩
                      go_region_held3 (fun w' => w'.cell? ⟨bp, 0, none⟩ = some (.int .i64 k) ∧ w'.cell? ⟨bp, 1, none⟩ = some (.int .i64 N') ∧ w'.cell? ⟨bw, off', none⟩ = some (.string (str h))) (first | (with_reducible assumption) | exact ⟨x0, x1, hq6⟩ | exact HRS.out _ _) ((go_at_call 32; refine (HHP.out _).mono ?_; rintro e w7 ⟨rfl, rfl⟩))
                      all_goals (
                        go_wp2_with fail
                        refine bodyPost_ret (v := .tuple #[.agg #[.int .i64 k, .int .i64 N'], .int .i64 n', .bool false]) (by simp [results, Tryd.results48, go_sem, z0, z1, HNE', h2i]) rfl ⟨⟨k, N', n', false, rfl, by rw [HNN.out]; all_goals (exact ⟨rfl, rfl, rfl, rfl⟩)⟩, ?_⟩
                        exact ((below_drewN HB6.out _).setCell (p := ⟨w.heap.size, 0, none⟩) (Nat.le_refl _) _).setCell (p := ⟨w.heap.size, 1, none⟩) (Nat.le_refl _) _)
                · have HNN : Hid (lineP l = none) := Lib.hid (by
                    rw [HLL.out, times_t2 (by rw [← HLE.out]; exact h1)]; rfl)
                  have h1i : ((len' : Int) == 1) = false := by rw [beq_eq_false_iff_ne]; omega
                  have h1n : (len' == 1) = false := by rw [beq_eq_false_iff_ne]; exact h1
                  clear hn'
                  go_wp2_with fail
                  go_region
                  all_goals (
                    go_wp2_with fail
                    refine bodyPost_ret (v := .tuple #[.agg #[.int .i64 k, .int .i64 N'], .int .i64 n', .bool false]) (by simp [results, Tryd.results48, go_sem, z0, z1, HNE']) rfl ⟨⟨k, N', n', false, rfl, by rw [HNN.out]; all_goals (exact ⟨rfl, rfl, rfl, rfl⟩)⟩, ?_⟩
                    exact ((below_drewN HB6.out _).setCell (p := ⟨w.heap.size, 0, none⟩) (Nat.le_refl _) _).setCell (p := ⟨w.heap.size, 1, none⟩) (Nat.le_refl _) _)
      · rw [decide_eq_false he] at hse
        have HN : Hid (c1 ∉ wordsL.take (k + 1)) := Lib.hid (by rw [List.take_add_one, HWK.out, List.mem_append, not_or]; exact ⟨HNO.out, by simp; exact he⟩)
        clear he
        go_quiet (fail)
        have hbq := below_drewN (Below.refl W2.heap.size W2) nq
        have HEN3 := Lib.hid (HEN.out.below hbq)
        have HB03 := Lib.hid (HB0.out.below hbq HB0.out.lt)
        have HBW3 := Lib.hid (HBW.out.below hbq HBW.out.lt)
        have HBL3 := Lib.hid (HBL.out.trans (hbq.mono HBL.out.size))
        clear HEN HFB HB0 HBW HBL hbq
        go_wp2_with fail
        go_roundw
        case rel => exact ⟨k + 1, by omega, by go_num, rfl, HN.out, HEN3.out, HB03.out, HBW3.out, HBL3.out⟩
        case measure => simp [intOf]; omega
    · obtain rfl : k = 6 := by omega
      have hnone : lineP l = none := lineP_none (by rw [HC.out]; exact hno)
      have HNN := Lib.hid hnone
      obtain ⟨z0, z1, y0, y1⟩ := hb0.cells2
      have HBL := Lib.hid hbl
      clear hnone hno hbl
      go_wp2_with fail
      refine bodyPost_ret (v := .tuple #[.agg #[.int .i64 0, .int .i64 0], .int .i64 0, .bool false]) (by simp [results, Tryd.results48, go_sem, z0, z1]) rfl ⟨⟨0, 0, 0, false, rfl, by rw [HNN.out]⟩, ?_⟩
      exact ((HBL.out).setCell (p := ⟨w.heap.size, 0, none⟩) (Nat.le_refl _) _).setCell (p := ⟨w.heap.size, 1, none⟩) (Nat.le_refl _) _
end Go.Proofs.YthncifbnkednlaaDoor
