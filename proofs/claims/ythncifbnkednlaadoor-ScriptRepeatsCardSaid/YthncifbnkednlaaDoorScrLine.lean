/- words, Line: the document's point line. -/
import Derived.Test.YthncifbnkednlaaDoorScrCut
namespace Go.Proofs.YthncifbnkednlaaDoor
open Go.RowKit Go.Shelf
set_option linter.unusedVariables false
set_option linter.unusedSimpArgs false

def wordsV : List Value := wordsL.map fun x => .string (str x)
set_option maxHeartbeats 1000000 in
theorem words_any (w : World) : Calls Tryd.prog 29 #[] w fun e w' => e = .returned (.slice (some ⟨w.heap.size, 0, none⟩) 6 6) ∧ w' = w.alloc (.cells wordsV.toArray 9) := by
  go_enter Tryd.func29, Tryd.ntmps29
  go_wp2_with fail
  go_ret
  exact ⟨rfl, rfl⟩

theorem str_eq (a b : Bs) : ((str a).toList == (str b).toList) = decide (a = b) := by
  rw [ByteArray.toList_eq, ByteArray.toList_eq]
  show (a == b) = decide (a = b)
  rw [Bool.eq_iff_iff, beq_iff_eq, decide_eq_true_iff]
theorem idx_found {x : Bs} {k : Nat} {wk : Bs} (hk : wordsL[k]? = some wk) (he : wk = x) (hn : x ∉ wordsL.take k) : wordsL.idxOf x = k := by
  subst he
  have hlt : k < wordsL.length := (List.getElem?_eq_some_iff.1 hk).1
  have h := List.take_append_drop k wordsL
  have hd : wordsL.drop k = wk :: wordsL.drop (k + 1) := by
    rw [List.drop_eq_getElem_cons hlt]
    congr 1
    have := List.getElem?_eq_getElem hlt
    rw [hk] at this
    exact (Option.some.inj this).symm
  rw [← h, List.idxOf_append, if_neg hn, hd, List.idxOf_cons_self, List.length_take]
  omega
theorem idx_none {x : Bs} (hn : x ∉ wordsL) : 6 ≤ wordsL.idxOf x := by
  rw [List.idxOf_eq_length hn]; decide
theorem lineP_none {l : Bs} (h : (cut1 32 l).1 ∉ wordsL) : lineP l = none := by
  unfold lineP; simp only; rw [if_pos (idx_none h)]
theorem lineP_plain {l : Bs} {k : Nat} (hk : wordsL.idxOf (cut1 32 l).1 = k) (h6 : k < 6) (h : ¬ (k = 1 ∨ k = 4)) : lineP l = (timesL (cut1 32 l).2.2 (cut1 32 l).2.1).map fun m => (k, 0, m) := by
  unfold lineP; simp only; rw [hk, if_neg (by omega), if_neg h]
theorem lineP_short {l : Bs} {k : Nat} (hk : wordsL.idxOf (cut1 32 l).1 = k) (h6 : k < 6) (h : k = 1 ∨ k = 4) (hm : (cut1 32 l).2.2 = false) : lineP l = none := by
  unfold lineP; simp only; rw [hk, if_neg (by omega), if_pos h, if_pos hm]
theorem lineP_bad {l : Bs} {k : Nat} (hk : wordsL.idxOf (cut1 32 l).1 = k) (h6 : k < 6) (h : k = 1 ∨ k = 4) (hm : (cut1 32 l).2.2 = true) (hn : numL (cut1 32 (cut1 32 l).2.1).1 = none) : lineP l = none := by
  unfold lineP; simp only; rw [hk, if_neg (by omega), if_pos h, if_neg (by rw [hm]; decide), hn]
theorem lineP_num {l : Bs} {k n : Nat} (hk : wordsL.idxOf (cut1 32 l).1 = k) (h6 : k < 6) (h : k = 1 ∨ k = 4) (hm : (cut1 32 l).2.2 = true) (hn : numL (cut1 32 (cut1 32 l).2.1).1 = some n) :
    lineP l = if k = 4 ∧ 1 < n then none else (timesL (cut1 32 (cut1 32 l).2.1).2.2 (cut1 32 (cut1 32 l).2.1).2.1).map fun m => (k, n, m) := by
  unfold lineP; simp only; rw [hk, if_neg (by omega), if_pos h, if_neg (by rw [hm]; decide), hn]

def LineAns (r : Option (Nat × Nat × Nat)) (e : Ending) : Prop := ∃ a b n : Int, e = .returned (.tuple #[.agg #[.int .i64 a, .int .i64 b], .int .i64 n]) ∧ match r with
  | none => n = 0
  | some (k, N, m) => a = k ∧ b = N ∧ n = m

/-- What follows the point's word and its number. -/
def LineJ (w : World) (l : Bs) (k bp : Nat) (t6 t7 : Value) (W : World) : Prop :=
  ∃ (N : Nat) (r : ByteArray) (more : Bool), t6 = .string r ∧ t7 = .bool more ∧ r.size ≤ 1000000 ∧ lineP l = (timesL more (bs r)).map (fun m => (k, N, m)) ∧
    Box W bp [.int .i64 k, .int .i64 N] 43 ∧ Box W w.heap.size [.int .i64 0, .int .i64 0] 43 ∧ Below w.heap.size w W


theorem cut1_len1 (c : UInt8) (l : Bs) : (cut1 c l).1.length ≤ l.length := by
  cases h : (cut1 c l).2.2 with
  | false => rw [(cut1_no h).1]; exact Nat.le_refl _
  | true =>
    have := congrArg List.length (cut1_yes h).1
    rw [List.length_append, List.length_cons] at this
    omega
theorem times_lt {r : ByteArray} (h : r.size < 2) : timesL true (bs r) = none := by
  rw [size_bs] at h
  unfold timesL
  rw [if_neg (by decide)]
  split
  · rfl
  · rename_i b m he
    rw [he] at h
    simp only [List.length_cons] at h
    obtain rfl : m = [] := List.eq_nil_of_length_eq_zero (by omega)
    split
    · rfl
    · rfl
theorem bs_cons {r : ByteArray} (h : 0 < r.size) : bs r = r[0] :: bs (r.extract 1 r.size) := by
  rw [ext_drop, bs_str]
  have := get_bs r 0 h
  cases hb : bs r with
  | nil => rw [hb] at this; simp at this
  | cons b m => rw [hb] at this; simp at this; rw [this]; rfl
theorem times_nx {r : ByteArray} (h : 0 < r.size) (hx : r[0].toNat ≠ 120) : timesL true (bs r) = none := by
  unfold timesL
  rw [if_neg (by decide), bs_cons h]
  simp only
  rw [if_neg (by intro e; exact hx (by rw [e]; rfl))]
theorem times_x {r : ByteArray} (h : 0 < r.size) (hx : r[0].toNat = 120) : timesL true (bs r) = (match numL (bs (r.extract 1 r.size)) with | some m => if 2 ≤ m then some m else none | none => none) := by
  unfold timesL
  rw [if_neg (by decide), bs_cons h]
  simp only
  rw [if_pos (UInt8.toNat_inj.1 hx)]
  cases numL (bs (r.extract 1 r.size)) <;> rfl

theorem line_ret {R : Option (Nat × Nat × Nat)} (k N : Nat) (hR : R = none) : LineAns R (.returned (.tuple #[.agg #[.int .i64 k, .int .i64 N], .int .i64 0])) := ⟨k, N, 0, rfl, by rw [hR]⟩


set_option maxRecDepth 100000 in
set_option maxHeartbeats 4000000 in
theorem rline_any (s : ByteArray) (w : World) (hs : s.size ≤ 1000000) : Calls Tryd.prog 21 #[.string s] w fun e w' => LineAns (lineP (bs s)) e ∧ Below w.heap.size w w' := by
  obtain ⟨l, hl⟩ : ∃ l, l = bs s := ⟨_, rfl⟩
  have hlen : l.length ≤ 1000000 := by rw [hl, ← size_bs]; exact hs
  obtain ⟨c1, c2, c3, hc⟩ : ∃ c1 c2 c3, cut1 32 l = (c1, c2, c3) := ⟨_, _, _, rfl⟩
  have hc2 := (cut1_len 32 l).1
  rw [hc] at hc2
  simp only at hc2
  have CC : ∀ w, Calls Tryd.prog 19 #[.string s, .int .u8 32] w fun e w' => e = .returned (.tuple #[.string (str c1), .string (str c2), .bool c3]) ∧ Below w.heap.size w w' := by
    intro w
    have := rcut_any s 32 w hs
    rw [← hl, hc] at this
    exact this
  have HCC := Lib.hid CC
  have HL := Lib.hid hl
  have HC := Lib.hid hc
  rw [← hl]
  have hb0 : Box (w.alloc (.cells #[.int .i64 0, .int .i64 0] 43)) w.heap.size [.int .i64 0, .int .i64 0] 43 := heap_alloc_new w _
  have HB0 := Lib.hid (hb0.alloc (.cells wordsV.toArray 9))
  have HWD : Hid ((((w.alloc (.cells #[.int .i64 0, .int .i64 0] 43)).alloc (.cells wordsV.toArray 9)).heap[(w.alloc (.cells #[.int .i64 0, .int .i64 0] 43)).heap.size]?) = some (.cells wordsV.toArray 9 (0, 0))) := Lib.hid (heap_alloc_new _ _)
  have HBL : Hid (Below w.heap.size w ((w.alloc (.cells #[.int .i64 0, .int .i64 0] 43)).alloc (.cells wordsV.toArray 9))) := Lib.hid (by repeat (first | exact Below.refl _ _ | refine Below.alloc ?_ (by first | (simp; done) | (simp; omega)) _ | refine Below.drew ?_ | refine Below.setCell ?_ (by first | (simp; done) | (simp; omega)) _))
  clear hl hc CC hb0
  go_enter Tryd.func21, Tryd.ntmps21
  go_wp2_with fail
  refine (words_any _).mono ?_
  rintro e w1 ⟨rfl, rfl⟩
  obtain ⟨W1, hW1⟩ : ∃ W, W = (w.alloc (.cells #[.int .i64 0, .int .i64 0] 43)).alloc (.cells wordsV.toArray 9) := ⟨_, rfl⟩
  obtain ⟨bw, hbw⟩ : ∃ b, b = (w.alloc (.cells #[.int .i64 0, .int .i64 0] 43)).heap.size := ⟨_, rfl⟩
  rw [← hW1, ← hbw] at HWD
  rw [← hW1] at HB0 HBL
  have HBW2 := Lib.hid (show bw = w.heap.size + 1 from by rw [hbw]; simp)
  rw [← hW1, ← hbw]
  have hbl : bw < W1.heap.size := (Array.getElem?_eq_some_iff.1 HWD.out).1
  clear hW1 hbw
  go_wp2_with fail
  refine (HCC.out _).mono ?_
  rintro e w2 ⟨rfl, hb2⟩
  have HB1 := Lib.hid (HB0.out.below hb2 HB0.out.lt)
  have HWD2 : Hid (w2.heap[bw]? = some (.cells wordsV.toArray 9 (0, 0))) := Lib.hid ((hb2.block _ hbl).trans HWD.out)
  have HBL2 := Lib.hid (HBL.out.trans (hb2.mono HBL.out.size))
  clear hb2 HB0 HWD HBL hbl
  go_wp2_with fail
  go_loop [6, 7, 8] (fun t6 t7 t8 => ∃ k : Nat, k ≤ 6 ∧ t8 = .int .i64 k ∧ t6 = .string (str c2) ∧ t7 = .bool c3 ∧ c1 ∉ wordsL.take k) (fun _ _ t8 => 6 - (intOf t8).toNat)
  case atStart => exact ⟨0, Nat.zero_le _, rfl, rfl, rfl, by simp⟩
  case round =>
    obtain ⟨k, hk, rfl, rfl, rfl, hno⟩ := hrel
    have HNO := Lib.hid hno
    by_cases hlt : k < 6
    · obtain ⟨wk, hwk⟩ : ∃ wk, wordsL[k]? = some wk := ⟨_, List.getElem?_eq_getElem (show k < wordsL.length from hlt)⟩
      have hcell : w2.cell? ⟨bw, k, none⟩ = some (.string (str wk)) := by
        rw [cell_of_list HWD2.out k]
        unfold wordsV
        rw [List.getElem?_map, hwk]; rfl
      have hse := str_eq wk c1
      by_cases he : wk = c1
      · have hidx := idx_found hwk he hno
        have HIDX := Lib.hid hidx
        rw [decide_eq_true he] at hse
        clear hno hwk hidx he
        rcases (show k = 1 ∨ k = 4 ∨ (k ≠ 1 ∧ k ≠ 4) by omega) with rfl | rfl | ⟨hk1, hk4⟩
        · go_upto_if 37 with fail
          obtain ⟨W3, hW3⟩ : ∃ W, W = w2.alloc (.cells #[.int .i64 1, .int .i64 0] 43) := ⟨_, rfl⟩
          obtain ⟨bp, hbp⟩ : ∃ b, b = w2.heap.size := ⟨_, rfl⟩
          have hbx : Box W3 bp [.int .i64 1, .int .i64 0] 43 := by rw [hW3, hbp]; exact heap_alloc_new w2 _
          have hb3 : Below w2.heap.size w2 W3 := by rw [hW3]; exact below_alloc _ _
          rw [← hW3, ← hbp]
          have HBX := Lib.hid hbx
          have HBX0 := Lib.hid (HB1.out.below hb3 HB1.out.lt)
          have HBL3 := Lib.hid (HBL2.out.trans (hb3.mono HBL2.out.size))
          have HNE : Hid (w.heap.size < bp) := Lib.hid (by have := HB1.out.lt; omega)
          clear hcell hW3 hbp hbx hb3 hse HB1 HWD2 HBL2
          go_cut [6, 7] (fun t6 t7 wx => LineJ w l 1 bp t6 t7 wx)
          case first =>
            cases c3 with
            | false =>
              have HNN : Hid (lineP l = none) := Lib.hid (lineP_short (k := 1) (by rw [HC.out]; exact HIDX.out) hlt (by simp) (by rw [HC.out]))
              obtain ⟨x0, x1, y0, y1⟩ := HBX.out.cells2
              obtain ⟨z0, z1, v0, v1⟩ := HBX0.out.cells2
              have HNE' := Nat.ne_of_lt HNE.out
              go_wp2_with fail
              refine bodyPost_ret (v := .tuple #[.agg #[.int .i64 1, .int .i64 0], .int .i64 0]) (by simp [results, Tryd.results21, go_sem, z0, z1]) rfl ⟨⟨1, 0, 0, rfl, by rw [HNN.out]⟩, ?_⟩
              exact ((HBL3.out).setCell (p := ⟨w.heap.size, 0, none⟩) (Nat.le_refl _) _).setCell (p := ⟨w.heap.size, 1, none⟩) (Nat.le_refl _) _
            | true =>
              obtain ⟨d1, d2, d3, hd⟩ : ∃ d1 d2 d3, cut1 32 c2 = (d1, d2, d3) := ⟨_, _, _, rfl⟩
              have hd2 := (cut1_len 32 c2).1
              have hd1 := cut1_len1 32 c2
              rw [hd] at hd1 hd2
              simp only at hd1 hd2
              have HCD : Hid (∀ w, Calls Tryd.prog 19 #[.string (str c2), .int .u8 32] w fun e w' => e = .returned (.tuple #[.string (str d1), .string (str d2), .bool d3]) ∧ Below w.heap.size w w') := by
                refine Lib.hid ?_
                intro w
                have := rcut_any (str c2) 32 w (by rw [size_bs, bs_str]; omega)
                rw [bs_str, hd] at this
                exact this
              have HD := Lib.hid hd
              clear hd
              go_wp2_with fail
              refine (HCD.out _).mono ?_
              rintro e w4 ⟨rfl, hb4⟩
              have HBX4 := Lib.hid (HBX.out.below hb4 HBX.out.lt)
              have HBX04 := Lib.hid (HBX0.out.below hb4 HBX0.out.lt)
              have HBL4 := Lib.hid (HBL3.out.trans (hb4.mono HBL3.out.size))
              clear hb4 HBX HBX0 HBL3
              obtain ⟨x0, x1, y0, y1⟩ := HBX4.out.cells2
              obtain ⟨z0, z1, v0, v1⟩ := HBX04.out.cells2
              have HNE' := Nat.ne_of_lt HNE.out
              go_wp2_with fail
              refine (rnumber_any (str d1) _ (by rw [size_bs, bs_str]; omega)).mono ?_
              rintro e w5 ⟨rfl, rfl⟩
              rw [bs_str]
              cases hn : numL d1 with
              | none =>
                have HNN : Hid (lineP l = none) := Lib.hid (lineP_bad (k := 1) (by rw [HC.out]; exact HIDX.out) hlt (by simp) (by rw [HC.out]) (by rw [HC.out, HD.out]; exact hn))
                rw [show numR d1 = -1 by unfold numR; rw [hn]]
                clear hn
                go_wp2_with fail
                refine bodyPost_ret (v := .tuple #[.agg #[.int .i64 1, .int .i64 (-1)], .int .i64 0]) (by simp [results, Tryd.results21, go_sem, z0, z1, HNE']) rfl ⟨⟨1, (-1), 0, rfl, by rw [HNN.out]⟩, ?_⟩
                exact (((HBL4.out).setCell (p := ⟨bp, 1, none⟩) (Nat.le_of_lt HNE.out) _).setCell (p := ⟨w.heap.size, 0, none⟩) (Nat.le_refl _) _).setCell (p := ⟨w.heap.size, 1, none⟩) (Nat.le_refl _) _
              | some n =>
                have hnl := numL_lt hn
                have HN : Hid (lineP l = if 1 = 4 ∧ 1 < n then none else (timesL d3 d2).map fun m => (1, n, m)) := Lib.hid (by have := lineP_num (l := l) (k := 1) (n := n) (by rw [HC.out]; exact HIDX.out) hlt (by simp) (by rw [HC.out]) (by rw [HC.out, HD.out]; exact hn); rwa [HC.out, HD.out] at this)
                rw [show numR d1 = n by unfold numR; rw [hn]]
                have h1n : n < 1000000000 := hnl.1
                clear hn hnl
                by_cases hb : 1 = 4 ∧ 1 < n
                · first
                  | exact absurd hb.1 (by decide)
                  | have HNN : Hid (lineP l = none) := Lib.hid (by rw [HN.out, if_pos hb])
                    have h2n := hb.2
                    clear hb
                    go_wp2_with fail
                    refine bodyPost_ret (v := .tuple #[.agg #[.int .i64 1, .int .i64 n], .int .i64 0]) (by simp [results, Tryd.results21, go_sem, z0, z1, HNE']) rfl ⟨⟨1, n, 0, rfl, by rw [HNN.out]⟩, ?_⟩
                    exact (((HBL4.out).setCell (p := ⟨bp, 1, none⟩) (Nat.le_of_lt HNE.out) _).setCell (p := ⟨w.heap.size, 0, none⟩) (Nat.le_refl _) _).setCell (p := ⟨w.heap.size, 1, none⟩) (Nat.le_refl _) _
                · have HP : Hid (lineP l = (timesL d3 d2).map fun m => (1, n, m)) := Lib.hid (by rw [HN.out, if_neg hb])
                  try have hle : n ≤ 1 := by omega
                  clear hb
                  go_wp2_with fail
                  go_meet
                  case rel => exact ⟨n, str d2, d3, rfl, rfl, by rw [size_bs, bs_str]; omega, by rw [HP.out, bs_str], HBX4.out.set 1 _, HBX04.out.setOther _ (by exact HNE') _, HBL4.out.setCell (p := ⟨bp, 1, none⟩) (Nat.le_of_lt HNE.out) _⟩
          case rest => 
            obtain ⟨N, r, more, rfl, rfl, hsz, hL, hX, hX0, hB⟩ := hcut
            obtain ⟨x0, x1, y0, y1⟩ := hX.cells2
            obtain ⟨z0, z1, v0, v1⟩ := hX0.cells2
            have HNE' := Nat.ne_of_lt HNE.out
            have HB := Lib.hid hB
            have HLL := Lib.hid hL
            clear hX hX0 hB hL
            cases more with
            | false =>
              have hL : lineP l = some (1, N, 1) := HLL.out
              have HLN := Lib.hid hL
              clear hL HLL
              go_wp2_with fail
              refine bodyPost_ret (v := .tuple #[.agg #[.int .i64 1, .int .i64 N], .int .i64 1]) (by simp [results, Tryd.results21, go_sem, z0, z1, HNE']) rfl ⟨⟨1, N, 1, rfl, by rw [HLN.out]; exact ⟨rfl, rfl, rfl⟩⟩, ?_⟩
              exact ((HB.out).setCell (p := ⟨w.heap.size, 0, none⟩) (Nat.le_refl _) _).setCell (p := ⟨w.heap.size, 1, none⟩) (Nat.le_refl _) _
            | true =>
              by_cases h2 : r.size < 2
              · have HNN : Hid (lineP l = none) := Lib.hid (by rw [HLL.out, times_lt h2]; rfl)
                clear HLL
                go_wp2_with fail
                refine bodyPost_ret (v := .tuple #[.agg #[.int .i64 1, .int .i64 N], .int .i64 0]) (by simp [results, Tryd.results21, go_sem, z0, z1, HNE']) rfl ⟨⟨1, N, 0, rfl, by rw [HNN.out]⟩, ?_⟩
                exact ((HB.out).setCell (p := ⟨w.heap.size, 0, none⟩) (Nat.le_refl _) _).setCell (p := ⟨w.heap.size, 1, none⟩) (Nat.le_refl _) _
              · have h0 : 0 < r.size := by omega
                have hx2 : (0 : Int) < (r.size : Int) := by omega
                by_cases hx : r[0].toNat = 120
                · have hxx : ((r[0].toNat : Int) == 120) = true := by simp [hx]
                  have hx1 : (1 : Int) ≤ (r.size : Int) := by omega
                  have hn1 : 1 ≤ r.size := by omega
                  obtain ⟨r2, hr2⟩ : ∃ r2, r2 = r.extract 1 r.size := ⟨_, rfl⟩
                  have hs2 : r2.size ≤ 1000000 := by rw [hr2, ext_drop, size_bs, bs_str, List.length_drop, ← size_bs]; omega
                  have HLX := Lib.hid HLL.out
                  rw [times_x h0 hx, ← hr2] at HLX
                  have HR2 := Lib.hid hr2.symm
                  have HNC := Lib.hid (fun w => rnumber_any r2 w hs2)
                  clear HLL hr2 hs2
                  cases hn : numL (bs r2) with
                  | none =>
                    have HNN : Hid (lineP l = none) := Lib.hid (by rw [HLX.out, hn]; rfl)
                    have hnr : numR (bs r2) = -1 := by unfold numR; rw [hn]
                    rw [hnr] at HNC
                    clear hn HLX hnr
                    go_wp2_with fail
                    rw [HR2.out]
                    refine (HNC.out _).mono ?_
                    rintro e w6 ⟨rfl, rfl⟩
                    go_wp2_with fail
                    refine bodyPost_ret (v := .tuple #[.agg #[.int .i64 1, .int .i64 N], .int .i64 0]) (by simp [results, Tryd.results21, go_sem, z0, z1, HNE']) rfl ⟨⟨1, N, 0, rfl, by rw [HNN.out]⟩, ?_⟩
                    exact ((HB.out).setCell (p := ⟨w.heap.size, 0, none⟩) (Nat.le_refl _) _).setCell (p := ⟨w.heap.size, 1, none⟩) (Nat.le_refl _) _
                  | some m =>
                    have hnl := (numL_lt hn).1
                    have HLM : Hid (lineP l = (if 2 ≤ m then some m else none).map fun m => (1, N, m)) := Lib.hid (by rw [HLX.out, hn])
                    have hnr : numR (bs r2) = m := by unfold numR; rw [hn]
                    rw [hnr] at HNC
                    clear hn HLX hnr
                    by_cases h2m : 2 ≤ m
                    · have hlt : ¬ ((m : Int) < 2) := by omega
                      have HNN : Hid (lineP l = some (1, N, m)) := Lib.hid (by rw [HLM.out, if_pos h2m]; rfl)
                      clear HLM
                      go_wp2_with fail
                      rw [HR2.out]
                      refine (HNC.out _).mono ?_
                      rintro e w6 ⟨rfl, rfl⟩
                      go_wp2_with fail
                      go_region_with ((go_at_call 35; rw [HR2.out]; refine (HNC.out _).mono ?_; rintro e w6 ⟨rfl, rfl⟩))
                      all_goals (
                        go_wp2_with fail
                        refine bodyPost_ret (v := .tuple #[.agg #[.int .i64 1, .int .i64 N], .int .i64 m]) (by simp [results, Tryd.results21, go_sem, z0, z1, HNE']) rfl ⟨⟨1, N, m, rfl, by rw [HNN.out]; exact ⟨rfl, rfl, rfl⟩⟩, ?_⟩
                        exact ((below_drewN HB.out _).setCell (p := ⟨w.heap.size, 0, none⟩) (Nat.le_refl _) _).setCell (p := ⟨w.heap.size, 1, none⟩) (Nat.le_refl _) _)
                    · have hlt : (m : Int) < 2 := by omega
                      have HNN : Hid (lineP l = none) := Lib.hid (by rw [HLM.out, if_neg h2m]; rfl)
                      clear HLM
                      go_wp2_with fail
                      rw [HR2.out]
                      refine (HNC.out _).mono ?_
                      rintro e w6 ⟨rfl, rfl⟩
                      go_wp2_with fail
                      refine bodyPost_ret (v := .tuple #[.agg #[.int .i64 1, .int .i64 N], .int .i64 0]) (by simp [results, Tryd.results21, go_sem, z0, z1, HNE']) rfl ⟨⟨1, N, 0, rfl, by rw [HNN.out]⟩, ?_⟩
                      exact ((HB.out).setCell (p := ⟨w.heap.size, 0, none⟩) (Nat.le_refl _) _).setCell (p := ⟨w.heap.size, 1, none⟩) (Nat.le_refl _) _
                · have HNN : Hid (lineP l = none) := Lib.hid (by rw [HLL.out, times_nx h0 hx]; rfl)
                  have hxx : ((r[0].toNat : Int) == 120) = false := by simp; omega
                  clear HLL
                  go_wp2_with fail
                  refine bodyPost_ret (v := .tuple #[.agg #[.int .i64 1, .int .i64 N], .int .i64 0]) (by simp [results, Tryd.results21, go_sem, z0, z1, HNE']) rfl ⟨⟨1, N, 0, rfl, by rw [HNN.out]⟩, ?_⟩
                  exact ((HB.out).setCell (p := ⟨w.heap.size, 0, none⟩) (Nat.le_refl _) _).setCell (p := ⟨w.heap.size, 1, none⟩) (Nat.le_refl _) _
        · go_upto_if 37 with fail
          obtain ⟨W3, hW3⟩ : ∃ W, W = w2.alloc (.cells #[.int .i64 4, .int .i64 0] 43) := ⟨_, rfl⟩
          obtain ⟨bp, hbp⟩ : ∃ b, b = w2.heap.size := ⟨_, rfl⟩
          have hbx : Box W3 bp [.int .i64 4, .int .i64 0] 43 := by rw [hW3, hbp]; exact heap_alloc_new w2 _
          have hb3 : Below w2.heap.size w2 W3 := by rw [hW3]; exact below_alloc _ _
          rw [← hW3, ← hbp]
          have HBX := Lib.hid hbx
          have HBX0 := Lib.hid (HB1.out.below hb3 HB1.out.lt)
          have HBL3 := Lib.hid (HBL2.out.trans (hb3.mono HBL2.out.size))
          have HNE : Hid (w.heap.size < bp) := Lib.hid (by have := HB1.out.lt; omega)
          clear hcell hW3 hbp hbx hb3 hse HB1 HWD2 HBL2
          go_cut [6, 7] (fun t6 t7 wx => LineJ w l 4 bp t6 t7 wx)
          case first =>
            cases c3 with
            | false =>
              have HNN : Hid (lineP l = none) := Lib.hid (lineP_short (k := 4) (by rw [HC.out]; exact HIDX.out) hlt (by simp) (by rw [HC.out]))
              obtain ⟨x0, x1, y0, y1⟩ := HBX.out.cells2
              obtain ⟨z0, z1, v0, v1⟩ := HBX0.out.cells2
              have HNE' := Nat.ne_of_lt HNE.out
              go_wp2_with fail
              refine bodyPost_ret (v := .tuple #[.agg #[.int .i64 4, .int .i64 0], .int .i64 0]) (by simp [results, Tryd.results21, go_sem, z0, z1]) rfl ⟨⟨4, 0, 0, rfl, by rw [HNN.out]⟩, ?_⟩
              exact ((HBL3.out).setCell (p := ⟨w.heap.size, 0, none⟩) (Nat.le_refl _) _).setCell (p := ⟨w.heap.size, 1, none⟩) (Nat.le_refl _) _
            | true =>
              obtain ⟨d1, d2, d3, hd⟩ : ∃ d1 d2 d3, cut1 32 c2 = (d1, d2, d3) := ⟨_, _, _, rfl⟩
              have hd2 := (cut1_len 32 c2).1
              have hd1 := cut1_len1 32 c2
              rw [hd] at hd1 hd2
              simp only at hd1 hd2
              have HCD : Hid (∀ w, Calls Tryd.prog 19 #[.string (str c2), .int .u8 32] w fun e w' => e = .returned (.tuple #[.string (str d1), .string (str d2), .bool d3]) ∧ Below w.heap.size w w') := by
                refine Lib.hid ?_
                intro w
                have := rcut_any (str c2) 32 w (by rw [size_bs, bs_str]; omega)
                rw [bs_str, hd] at this
                exact this
              have HD := Lib.hid hd
              clear hd
              go_wp2_with fail
              refine (HCD.out _).mono ?_
              rintro e w4 ⟨rfl, hb4⟩
              have HBX4 := Lib.hid (HBX.out.below hb4 HBX.out.lt)
              have HBX04 := Lib.hid (HBX0.out.below hb4 HBX0.out.lt)
              have HBL4 := Lib.hid (HBL3.out.trans (hb4.mono HBL3.out.size))
              clear hb4 HBX HBX0 HBL3
              obtain ⟨x0, x1, y0, y1⟩ := HBX4.out.cells2
              obtain ⟨z0, z1, v0, v1⟩ := HBX04.out.cells2
              have HNE' := Nat.ne_of_lt HNE.out
              go_wp2_with fail
              refine (rnumber_any (str d1) _ (by rw [size_bs, bs_str]; omega)).mono ?_
              rintro e w5 ⟨rfl, rfl⟩
              rw [bs_str]
              cases hn : numL d1 with
              | none =>
                have HNN : Hid (lineP l = none) := Lib.hid (lineP_bad (k := 4) (by rw [HC.out]; exact HIDX.out) hlt (by simp) (by rw [HC.out]) (by rw [HC.out, HD.out]; exact hn))
                rw [show numR d1 = -1 by unfold numR; rw [hn]]
                clear hn
                go_wp2_with fail
                refine bodyPost_ret (v := .tuple #[.agg #[.int .i64 4, .int .i64 (-1)], .int .i64 0]) (by simp [results, Tryd.results21, go_sem, z0, z1, HNE']) rfl ⟨⟨4, (-1), 0, rfl, by rw [HNN.out]⟩, ?_⟩
                exact (((HBL4.out).setCell (p := ⟨bp, 1, none⟩) (Nat.le_of_lt HNE.out) _).setCell (p := ⟨w.heap.size, 0, none⟩) (Nat.le_refl _) _).setCell (p := ⟨w.heap.size, 1, none⟩) (Nat.le_refl _) _
              | some n =>
                have hnl := numL_lt hn
                have HN : Hid (lineP l = if 4 = 4 ∧ 1 < n then none else (timesL d3 d2).map fun m => (4, n, m)) := Lib.hid (by have := lineP_num (l := l) (k := 4) (n := n) (by rw [HC.out]; exact HIDX.out) hlt (by simp) (by rw [HC.out]) (by rw [HC.out, HD.out]; exact hn); rwa [HC.out, HD.out] at this)
                rw [show numR d1 = n by unfold numR; rw [hn]]
                have h1n : n < 1000000000 := hnl.1
                clear hn hnl
                by_cases hb : 4 = 4 ∧ 1 < n
                · first
                  | exact absurd hb.1 (by decide)
                  | have HNN : Hid (lineP l = none) := Lib.hid (by rw [HN.out, if_pos hb])
                    have h2n := hb.2
                    clear hb
                    go_wp2_with fail
                    refine bodyPost_ret (v := .tuple #[.agg #[.int .i64 4, .int .i64 n], .int .i64 0]) (by simp [results, Tryd.results21, go_sem, z0, z1, HNE']) rfl ⟨⟨4, n, 0, rfl, by rw [HNN.out]⟩, ?_⟩
                    exact (((HBL4.out).setCell (p := ⟨bp, 1, none⟩) (Nat.le_of_lt HNE.out) _).setCell (p := ⟨w.heap.size, 0, none⟩) (Nat.le_refl _) _).setCell (p := ⟨w.heap.size, 1, none⟩) (Nat.le_refl _) _
                · have HP : Hid (lineP l = (timesL d3 d2).map fun m => (4, n, m)) := Lib.hid (by rw [HN.out, if_neg hb])
                  try have hle : n ≤ 1 := by omega
                  clear hb
                  go_wp2_with fail
                  go_meet
                  case rel => exact ⟨n, str d2, d3, rfl, rfl, by rw [size_bs, bs_str]; omega, by rw [HP.out, bs_str], HBX4.out.set 1 _, HBX04.out.setOther _ (by exact HNE') _, HBL4.out.setCell (p := ⟨bp, 1, none⟩) (Nat.le_of_lt HNE.out) _⟩
          case rest => 
            obtain ⟨N, r, more, rfl, rfl, hsz, hL, hX, hX0, hB⟩ := hcut
            obtain ⟨x0, x1, y0, y1⟩ := hX.cells2
            obtain ⟨z0, z1, v0, v1⟩ := hX0.cells2
            have HNE' := Nat.ne_of_lt HNE.out
            have HB := Lib.hid hB
            have HLL := Lib.hid hL
            clear hX hX0 hB hL
            cases more with
            | false =>
              have hL : lineP l = some (4, N, 1) := HLL.out
              have HLN := Lib.hid hL
              clear hL HLL
              go_wp2_with fail
              refine bodyPost_ret (v := .tuple #[.agg #[.int .i64 4, .int .i64 N], .int .i64 1]) (by simp [results, Tryd.results21, go_sem, z0, z1, HNE']) rfl ⟨⟨4, N, 1, rfl, by rw [HLN.out]; exact ⟨rfl, rfl, rfl⟩⟩, ?_⟩
              exact ((HB.out).setCell (p := ⟨w.heap.size, 0, none⟩) (Nat.le_refl _) _).setCell (p := ⟨w.heap.size, 1, none⟩) (Nat.le_refl _) _
            | true =>
              by_cases h2 : r.size < 2
              · have HNN : Hid (lineP l = none) := Lib.hid (by rw [HLL.out, times_lt h2]; rfl)
                clear HLL
                go_wp2_with fail
                refine bodyPost_ret (v := .tuple #[.agg #[.int .i64 4, .int .i64 N], .int .i64 0]) (by simp [results, Tryd.results21, go_sem, z0, z1, HNE']) rfl ⟨⟨4, N, 0, rfl, by rw [HNN.out]⟩, ?_⟩
                exact ((HB.out).setCell (p := ⟨w.heap.size, 0, none⟩) (Nat.le_refl _) _).setCell (p := ⟨w.heap.size, 1, none⟩) (Nat.le_refl _) _
              · have h0 : 0 < r.size := by omega
                have hx2 : (0 : Int) < (r.size : Int) := by omega
                by_cases hx : r[0].toNat = 120
                · have hxx : ((r[0].toNat : Int) == 120) = true := by simp [hx]
                  have hx1 : (1 : Int) ≤ (r.size : Int) := by omega
                  have hn1 : 1 ≤ r.size := by omega
                  obtain ⟨r2, hr2⟩ : ∃ r2, r2 = r.extract 1 r.size := ⟨_, rfl⟩
                  have hs2 : r2.size ≤ 1000000 := by rw [hr2, ext_drop, size_bs, bs_str, List.length_drop, ← size_bs]; omega
                  have HLX := Lib.hid HLL.out
                  rw [times_x h0 hx, ← hr2] at HLX
                  have HR2 := Lib.hid hr2.symm
                  have HNC := Lib.hid (fun w => rnumber_any r2 w hs2)
                  clear HLL hr2 hs2
                  cases hn : numL (bs r2) with
                  | none =>
                    have HNN : Hid (lineP l = none) := Lib.hid (by rw [HLX.out, hn]; rfl)
                    have hnr : numR (bs r2) = -1 := by unfold numR; rw [hn]
                    rw [hnr] at HNC
                    clear hn HLX hnr
                    go_wp2_with fail
                    rw [HR2.out]
                    refine (HNC.out _).mono ?_
                    rintro e w6 ⟨rfl, rfl⟩
                    go_wp2_with fail
                    refine bodyPost_ret (v := .tuple #[.agg #[.int .i64 4, .int .i64 N], .int .i64 0]) (by simp [results, Tryd.results21, go_sem, z0, z1, HNE']) rfl ⟨⟨4, N, 0, rfl, by rw [HNN.out]⟩, ?_⟩
                    exact ((HB.out).setCell (p := ⟨w.heap.size, 0, none⟩) (Nat.le_refl _) _).setCell (p := ⟨w.heap.size, 1, none⟩) (Nat.le_refl _) _
                  | some m =>
                    have hnl := (numL_lt hn).1
                    have HLM : Hid (lineP l = (if 2 ≤ m then some m else none).map fun m => (4, N, m)) := Lib.hid (by rw [HLX.out, hn])
                    have hnr : numR (bs r2) = m := by unfold numR; rw [hn]
                    rw [hnr] at HNC
                    clear hn HLX hnr
                    by_cases h2m : 2 ≤ m
                    · have hlt : ¬ ((m : Int) < 2) := by omega
                      have HNN : Hid (lineP l = some (4, N, m)) := Lib.hid (by rw [HLM.out, if_pos h2m]; rfl)
                      clear HLM
                      go_wp2_with fail
                      rw [HR2.out]
                      refine (HNC.out _).mono ?_
                      rintro e w6 ⟨rfl, rfl⟩
                      go_wp2_with fail
                      go_region_with ((go_at_call 35; rw [HR2.out]; refine (HNC.out _).mono ?_; rintro e w6 ⟨rfl, rfl⟩))
                      all_goals (
                        go_wp2_with fail
                        refine bodyPost_ret (v := .tuple #[.agg #[.int .i64 4, .int .i64 N], .int .i64 m]) (by simp [results, Tryd.results21, go_sem, z0, z1, HNE']) rfl ⟨⟨4, N, m, rfl, by rw [HNN.out]; exact ⟨rfl, rfl, rfl⟩⟩, ?_⟩
                        exact ((below_drewN HB.out _).setCell (p := ⟨w.heap.size, 0, none⟩) (Nat.le_refl _) _).setCell (p := ⟨w.heap.size, 1, none⟩) (Nat.le_refl _) _)
                    · have hlt : (m : Int) < 2 := by omega
                      have HNN : Hid (lineP l = none) := Lib.hid (by rw [HLM.out, if_neg h2m]; rfl)
                      clear HLM
                      go_wp2_with fail
                      rw [HR2.out]
                      refine (HNC.out _).mono ?_
                      rintro e w6 ⟨rfl, rfl⟩
                      go_wp2_with fail
                      refine bodyPost_ret (v := .tuple #[.agg #[.int .i64 4, .int .i64 N], .int .i64 0]) (by simp [results, Tryd.results21, go_sem, z0, z1, HNE']) rfl ⟨⟨4, N, 0, rfl, by rw [HNN.out]⟩, ?_⟩
                      exact ((HB.out).setCell (p := ⟨w.heap.size, 0, none⟩) (Nat.le_refl _) _).setCell (p := ⟨w.heap.size, 1, none⟩) (Nat.le_refl _) _
                · have HNN : Hid (lineP l = none) := Lib.hid (by rw [HLL.out, times_nx h0 hx]; rfl)
                  have hxx : ((r[0].toNat : Int) == 120) = false := by simp; omega
                  clear HLL
                  go_wp2_with fail
                  refine bodyPost_ret (v := .tuple #[.agg #[.int .i64 4, .int .i64 N], .int .i64 0]) (by simp [results, Tryd.results21, go_sem, z0, z1, HNE']) rfl ⟨⟨4, N, 0, rfl, by rw [HNN.out]⟩, ?_⟩
                  exact ((HB.out).setCell (p := ⟨w.heap.size, 0, none⟩) (Nat.le_refl _) _).setCell (p := ⟨w.heap.size, 1, none⟩) (Nat.le_refl _) _
        · have he1 : ((k : Int) == 1) = false := by simp; omega
          have he4 : ((k : Int) == 4) = false := by simp; omega
          go_upto_if 37 with fail
          obtain ⟨W3, hW3⟩ : ∃ W, W = w2.alloc (.cells #[.int .i64 k, .int .i64 0] 43) := ⟨_, rfl⟩
          obtain ⟨bp, hbp⟩ : ∃ b, b = w2.heap.size := ⟨_, rfl⟩
          have hbx : Box W3 bp [.int .i64 k, .int .i64 0] 43 := by rw [hW3, hbp]; exact heap_alloc_new w2 _
          have hb3 : Below w2.heap.size w2 W3 := by rw [hW3]; exact below_alloc _ _
          rw [← hW3, ← hbp]
          have HBX := Lib.hid hbx
          have HBX0 := Lib.hid (HB1.out.below hb3 HB1.out.lt)
          have HBL3 := Lib.hid (HBL2.out.trans (hb3.mono HBL2.out.size))
          have HNE : Hid (w.heap.size < bp) := Lib.hid (by have := HB1.out.lt; omega)
          clear hcell hW3 hbp hbx hb3 hse HB1 HWD2 HBL2
          go_cut [6, 7] (fun t6 t7 wx => LineJ w l k bp t6 t7 wx)
          case first =>
            have HP := Lib.hid (lineP_plain (l := l) (k := k) (by rw [HC.out]; exact HIDX.out) hlt (by omega))
            go_wp2_with fail
            go_meet
            case rel => exact ⟨0, str c2, c3, rfl, rfl, by rw [size_bs, bs_str]; omega, by rw [HP.out, HC.out, bs_str], HBX.out, HBX0.out, HBL3.out⟩
          case rest => 
            obtain ⟨N, r, more, rfl, rfl, hsz, hL, hX, hX0, hB⟩ := hcut
            obtain ⟨x0, x1, y0, y1⟩ := hX.cells2
            obtain ⟨z0, z1, v0, v1⟩ := hX0.cells2
            have HNE' := Nat.ne_of_lt HNE.out
            have HB := Lib.hid hB
            have HLL := Lib.hid hL
            clear hX hX0 hB hL
            cases more with
            | false =>
              have hL : lineP l = some (k, N, 1) := HLL.out
              have HLN := Lib.hid hL
              clear hL HLL
              go_wp2_with fail
              refine bodyPost_ret (v := .tuple #[.agg #[.int .i64 k, .int .i64 N], .int .i64 1]) (by simp [results, Tryd.results21, go_sem, z0, z1, HNE']) rfl ⟨⟨k, N, 1, rfl, by rw [HLN.out]; exact ⟨rfl, rfl, rfl⟩⟩, ?_⟩
              exact ((HB.out).setCell (p := ⟨w.heap.size, 0, none⟩) (Nat.le_refl _) _).setCell (p := ⟨w.heap.size, 1, none⟩) (Nat.le_refl _) _
            | true =>
              by_cases h2 : r.size < 2
              · have HNN : Hid (lineP l = none) := Lib.hid (by rw [HLL.out, times_lt h2]; rfl)
                clear HLL
                go_wp2_with fail
                refine bodyPost_ret (v := .tuple #[.agg #[.int .i64 k, .int .i64 N], .int .i64 0]) (by simp [results, Tryd.results21, go_sem, z0, z1, HNE']) rfl ⟨⟨k, N, 0, rfl, by rw [HNN.out]⟩, ?_⟩
                exact ((HB.out).setCell (p := ⟨w.heap.size, 0, none⟩) (Nat.le_refl _) _).setCell (p := ⟨w.heap.size, 1, none⟩) (Nat.le_refl _) _
              · have h0 : 0 < r.size := by omega
                have hx2 : (0 : Int) < (r.size : Int) := by omega
                by_cases hx : r[0].toNat = 120
                · have hxx : ((r[0].toNat : Int) == 120) = true := by simp [hx]
                  have hx1 : (1 : Int) ≤ (r.size : Int) := by omega
                  have hn1 : 1 ≤ r.size := by omega
                  obtain ⟨r2, hr2⟩ : ∃ r2, r2 = r.extract 1 r.size := ⟨_, rfl⟩
                  have hs2 : r2.size ≤ 1000000 := by rw [hr2, ext_drop, size_bs, bs_str, List.length_drop, ← size_bs]; omega
                  have HLX := Lib.hid HLL.out
                  rw [times_x h0 hx, ← hr2] at HLX
                  have HR2 := Lib.hid hr2.symm
                  have HNC := Lib.hid (fun w => rnumber_any r2 w hs2)
                  clear HLL hr2 hs2
                  cases hn : numL (bs r2) with
                  | none =>
                    have HNN : Hid (lineP l = none) := Lib.hid (by rw [HLX.out, hn]; rfl)
                    have hnr : numR (bs r2) = -1 := by unfold numR; rw [hn]
                    rw [hnr] at HNC
                    clear hn HLX hnr
                    go_wp2_with fail
                    rw [HR2.out]
                    refine (HNC.out _).mono ?_
                    rintro e w6 ⟨rfl, rfl⟩
                    go_wp2_with fail
                    refine bodyPost_ret (v := .tuple #[.agg #[.int .i64 k, .int .i64 N], .int .i64 0]) (by simp [results, Tryd.results21, go_sem, z0, z1, HNE']) rfl ⟨⟨k, N, 0, rfl, by rw [HNN.out]⟩, ?_⟩
                    exact ((HB.out).setCell (p := ⟨w.heap.size, 0, none⟩) (Nat.le_refl _) _).setCell (p := ⟨w.heap.size, 1, none⟩) (Nat.le_refl _) _
                  | some m =>
                    have hnl := (numL_lt hn).1
                    have HLM : Hid (lineP l = (if 2 ≤ m then some m else none).map fun m => (k, N, m)) := Lib.hid (by rw [HLX.out, hn])
                    have hnr : numR (bs r2) = m := by unfold numR; rw [hn]
                    rw [hnr] at HNC
                    clear hn HLX hnr
                    by_cases h2m : 2 ≤ m
                    · have hlt : ¬ ((m : Int) < 2) := by omega
                      have HNN : Hid (lineP l = some (k, N, m)) := Lib.hid (by rw [HLM.out, if_pos h2m]; rfl)
                      clear HLM
                      go_wp2_with fail
                      rw [HR2.out]
                      refine (HNC.out _).mono ?_
                      rintro e w6 ⟨rfl, rfl⟩
                      go_wp2_with fail
                      go_region_with ((go_at_call 35; rw [HR2.out]; refine (HNC.out _).mono ?_; rintro e w6 ⟨rfl, rfl⟩))
                      all_goals (
                        go_wp2_with fail
                        refine bodyPost_ret (v := .tuple #[.agg #[.int .i64 k, .int .i64 N], .int .i64 m]) (by simp [results, Tryd.results21, go_sem, z0, z1, HNE']) rfl ⟨⟨k, N, m, rfl, by rw [HNN.out]; exact ⟨rfl, rfl, rfl⟩⟩, ?_⟩
                        exact ((below_drewN HB.out _).setCell (p := ⟨w.heap.size, 0, none⟩) (Nat.le_refl _) _).setCell (p := ⟨w.heap.size, 1, none⟩) (Nat.le_refl _) _)
                    · have hlt : (m : Int) < 2 := by omega
                      have HNN : Hid (lineP l = none) := Lib.hid (by rw [HLM.out, if_neg h2m]; rfl)
                      clear HLM
                      go_wp2_with fail
                      rw [HR2.out]
                      refine (HNC.out _).mono ?_
                      rintro e w6 ⟨rfl, rfl⟩
                      go_wp2_with fail
                      refine bodyPost_ret (v := .tuple #[.agg #[.int .i64 k, .int .i64 N], .int .i64 0]) (by simp [results, Tryd.results21, go_sem, z0, z1, HNE']) rfl ⟨⟨k, N, 0, rfl, by rw [HNN.out]⟩, ?_⟩
                      exact ((HB.out).setCell (p := ⟨w.heap.size, 0, none⟩) (Nat.le_refl _) _).setCell (p := ⟨w.heap.size, 1, none⟩) (Nat.le_refl _) _
                · have HNN : Hid (lineP l = none) := Lib.hid (by rw [HLL.out, times_nx h0 hx]; rfl)
                  have hxx : ((r[0].toNat : Int) == 120) = false := by simp; omega
                  clear HLL
                  go_wp2_with fail
                  refine bodyPost_ret (v := .tuple #[.agg #[.int .i64 k, .int .i64 N], .int .i64 0]) (by simp [results, Tryd.results21, go_sem, z0, z1, HNE']) rfl ⟨⟨k, N, 0, rfl, by rw [HNN.out]⟩, ?_⟩
                  exact ((HB.out).setCell (p := ⟨w.heap.size, 0, none⟩) (Nat.le_refl _) _).setCell (p := ⟨w.heap.size, 1, none⟩) (Nat.le_refl _) _
      · rw [decide_eq_false he] at hse
        have HN : Hid (c1 ∉ wordsL.take (k + 1)) := Lib.hid (by rw [List.take_add_one, hwk, List.mem_append, not_or]; exact ⟨hno, by simp; exact fun e => he e.symm⟩)
        clear hno hwk he
        go_wp2_with fail
        go_round
        case rel => exact ⟨k + 1, by omega, by go_num, rfl, rfl, HN.out⟩
        case measure => simp [intOf]; omega
    · obtain rfl : k = 6 := by omega
      have hnone : lineP l = none := lineP_none (by rw [HC.out]; exact hno)
      have HNN := Lib.hid hnone
      obtain ⟨z0, z1, y0, y1⟩ := HB1.out.cells2
      clear hnone hno
      go_wp2_with fail
      refine bodyPost_ret (v := .tuple #[.agg #[.int .i64 0, .int .i64 0], .int .i64 0]) (by simp [results, Tryd.results21, go_sem, z0, z1]) rfl ⟨⟨0, 0, 0, rfl, by rw [HNN.out]⟩, ?_⟩
      exact ((HBL2.out).setCell (p := ⟨w.heap.size, 0, none⟩) (Nat.le_refl _) _).setCell (p := ⟨w.heap.size, 1, none⟩) (Nat.le_refl _) _
end Go.Proofs.YthncifbnkednlaaDoor
