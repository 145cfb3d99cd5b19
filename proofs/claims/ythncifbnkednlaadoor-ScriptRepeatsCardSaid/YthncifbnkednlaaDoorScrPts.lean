/- The reader's point lines. -/
import Derived.Test.YthncifbnkednlaaDoorScrRead
import Derived.Test.YthncifbnkednlaaDoorScrEnv
import Derived.Deep.RegionLaw
namespace Go.Proofs.YthncifbnkednlaaDoor
open Go.RowKit Go.Shelf
set_option linter.unusedVariables false
set_option linter.unusedSimpArgs false

theorem lineStep_src {i : Nat} {x : Sc} {l : Bs} (h : 2 ≤ i) (hl : l = sourceW) : lineStep i x l = .ok (x, true) := by
  unfold lineStep; rw [if_neg (by omega), if_neg (by omega), if_pos hl]
theorem lineStep_none {i : Nat} {x : Sc} {l : Bs} (h : 2 ≤ i) (hl : l ≠ sourceW) (hp : lineP l = none) : lineStep i x l = .error 6 := by
  unfold lineStep; rw [if_neg (by omega), if_neg (by omega), if_neg hl, hp]
theorem lineStep_some {i : Nat} {x : Sc} {l : Bs} {k n m : Nat} (h : 2 ≤ i) (hl : l ≠ sourceW) (hp : lineP l = some (k, n, m)) :
    lineStep i x l = if 4000 < x.pts.length + m then .error 4 else .ok ({ x with pts := x.pts ++ List.replicate m (k, n) }, false) := by
  unfold lineStep; rw [if_neg (by omega), if_neg (by omega), if_neg hl, hp]
theorem lineP_pos {l : Bs} {k n m : Nat} (h : lineP l = some (k, n, m)) : 1 ≤ m := by
  have ht : ∀ more r m, timesL more r = some m → 1 ≤ m := by
    intro more r m h
    unfold timesL at h
    split at h
    · cases h; exact Nat.le_refl _
    · split at h
      · cases h
      · split at h
        · split at h
          · split at h
            · cases h; omega
            · cases h
          · cases h
        · cases h
  unfold lineP at h
  simp only at h
  split at h
  · cases h
  · split at h
    · split at h
      · cases h
      · split at h
        · cases h
        · split at h
          · cases h
          · obtain ⟨q, hq, e⟩ := Option.map_eq_some_iff.1 h
            cases e
            exact ht _ _ _ hq
    · obtain ⟨q, hq, e⟩ := Option.map_eq_some_iff.1 h
      cases e
      exact ht _ _ _ hq

theorem row_up' {W W' : World} {base : Nat} {e : TypeId} {size : Nat} {v : Value} {n : Nat} {xs : List Value} (h : W.ownsRow base e size v n xs) (hb : Below W.heap.size W W') : W'.ownsRow base e size v n xs := ownsRow_of_block h fun k hk => hb.block k (h.lt k hk).2
theorem cell_new2 (w : World) (l : List Value) (t : TypeId) : ∀ (j : Nat) (u : Value), l[j]? = some u → (w.alloc (.cells l.toArray t)).cell? ((⟨w.heap.size, 0, none⟩ : Addr).add j) = some u := by
  intro j u hu
  rw [addr_add, Nat.zero_add]
  exact (cell_of_list (heap_alloc_new w _) j).trans hu
theorem row_succ' {W : World} {base : Nat} {e : TypeId} {size : Nat} {v : Value} {k : Nat} {xs : List Value} (h : W.ownsRow base e size v (k + 1) xs) : ∃ g cap, v = .slice (some ⟨g, 0, none⟩) (k + 1) cap := by
  rcases h.2 with ⟨_, h0⟩ | ⟨g, cap, cur, hv, _⟩
  · omega
  · exact ⟨g, cap, hv⟩
theorem one2 (a b : Int) : ∀ v ∈ [Value.int .i64 a, .int .i64 b], v.oneCell' = true := by
  intro v hv
  simp at hv
  rcases hv with rfl | rfl <;> rfl
theorem Tryd.infoN43 : (Tryd.prog.info? 43).map (fun i => (i.zero, i.size, i.bytes)) = some (some (.agg #[.int .i64 0, .int .i64 0]), 2, 16) := by kernel_rfl

abbrev PointC : Prop := ∀ (s : ByteArray) (w : World), s.size ≤ 1000000 → Env w → Calls Tryd.prog 48 #[.string s] w fun e w' => PointAns (lineP (bs s)) e ∧ Below w.heap.size w w'
set_option maxRecDepth 100000 in
set_option maxHeartbeats 4000000 in
theorem points_any (hP : PointC) {w : World} {p ph : Nat} {x : Sc} {pv : Value} (line : ByteArray) (h : ReadAt w p x ph false pv) (hph : 2 ≤ ph) (hs : line.size ≤ 1000000) (hl : x.pts.length ≤ 4000) (he : Env w) (hp9 : 9 ≤ p) :
    Calls Tryd.prog 42 #[.pointer (some ⟨p, 0, none⟩), .string line] w fun e w' => StepAns p ph (lineStep ph x (bs line)) e w' ∧ Below p w w' := by
  obtain ⟨r, hr⟩ : ∃ r, lineStep ph x (bs line) = r := ⟨_, rfl⟩
  rw [hr]
  have HR := Lib.hid hr
  have HH := Lib.hid h
  have HPC := Lib.hid (hP line w hs he)
  have hse : (line.toList == ([115, 111, 117, 114, 99, 101] : List UInt8)) = decide (bs line = sourceW) := by
    rw [ByteArray.toList_eq]
    show (bs line == sourceW) = _
    rw [Bool.eq_iff_iff, beq_iff_eq, decide_eq_true_iff]
  obtain ⟨c0, c1, c2, c3, c4, c5⟩ := h.1.cells6
  obtain ⟨z0, z1, z2, z3, z4, z5⟩ := h.1.frz6
  by_cases hsrc : bs line = sourceW
  · rw [lineStep_src hph hsrc] at hr
    subst hr
    rw [decide_eq_true hsrc] at hse
    clear h HR hsrc
    go_enter Tryd.func42, Tryd.ntmps42
    go_wp2_with fail
    go_ret
    refine ⟨⟨rfl, pv, ?_, ?_, HH.out.2.2⟩, ?_⟩
    · have hb := HH.out.1.set 5 (.bool true)
      have hn : nextV p (ph + 1) = nextV p ph := by
        unfold nextV
        rw [if_neg (by omega), if_neg (by omega), if_neg (by omega), if_neg (by omega)]
      rw [hn]
      exact hb
    · exact ownsRow_of_block HH.out.2.1 fun k hk => by
        have := HH.out.2.2 k hk
        exact Below.heap_setCell w ⟨p, 5, none⟩ _ k (by show k ≠ p; omega)
    · exact (Below.refl _ _).setCell (p := ⟨p, 5, none⟩) (Nat.le_refl _) _
  · rw [decide_eq_false hsrc] at hse
    have HS := Lib.hid hsrc
    clear h hsrc hr
    go_enter Tryd.func42, Tryd.ntmps42
    go_wp2_with fail
    refine HPC.out.mono ?_
    rintro e w1 ⟨⟨a, b, n, ok, rfl, hans⟩, hb1⟩
    have HR1 := Lib.hid (HH.out.below hb1)
    have HB1 := Lib.hid (hb1.mono (Nat.le_of_lt HH.out.1.lt))
    clear hb1 c0 c1 c2 c3 c4 c5 z0 z1 z2 z3 z4 z5
    cases hlp : lineP (bs line) with
    | none =>
      rw [hlp] at hans
      simp only at hans
      subst hans
      have hr := HR.out
      rw [lineStep_none hph HS.out hlp] at hr
      subst hr
      clear hlp
      go_wp2_with fail
      go_ret
      exact ⟨rfl, HB1.out.alloc (Nat.le_of_lt HR1.out.1.lt) _⟩
    | some t =>
      obtain ⟨k, N, m⟩ := t
      rw [hlp] at hans
      simp only at hans
      obtain ⟨rfl, rfl, rfl, rfl⟩ := hans
      have hr := HR.out
      rw [lineStep_some hph HS.out hlp] at hr
      have hm1 := lineP_pos hlp
      clear hlp
      go_upto_region 7 with fail
      obtain ⟨W2, hW2⟩ : ∃ W, W = w1.alloc (.cells #[.int .i64 k, .int .i64 N] 43) := ⟨_, rfl⟩
      obtain ⟨bp, hbp⟩ : ∃ b, b = w1.heap.size := ⟨_, rfl⟩
      have HBX : Hid (Box W2 bp [.int .i64 k, .int .i64 N] 43) := Lib.hid (by rw [hW2, hbp]; exact heap_alloc_new w1 _)
      have hb4 : Below w1.heap.size w1 W2 := by rw [hW2]; exact below_alloc _ _
      rw [← hW2, ← hbp]
      have HR2 := Lib.hid (HR1.out.below hb4)
      have HOB : Hid (∀ q, pv.ownBlock = some q → q ≠ bp) := Lib.hid (fun q e => by have := (HR1.out.2.1.lt q e).2; omega)
      have HB2 := Lib.hid (HB1.out.trans (hb4.mono (Nat.le_of_lt HR1.out.1.lt)))
      have HPB : Hid (p < bp) := Lib.hid (by rw [hbp]; exact HR1.out.1.lt)
      clear hW2 hbp hb4 HR1 HB1
      have hpo := HR2.out.2.1.1
      obtain ⟨pa, pc, rfl⟩ : ∃ a c, pv = .slice a x.pts.length c := by
        rcases HR2.out.2.1.2 with ⟨rfl, h0⟩ | ⟨g, cap, cur, rfl, _⟩
        · exact ⟨_, _, by rw [h0]⟩
        · exact ⟨_, _, rfl⟩
      obtain ⟨L, hL⟩ : ∃ L, L = x.pts.length := ⟨_, rfl⟩
      have HLL := Lib.hid hL
      rw [← hL] at hl HR2 HOB hr
      obtain ⟨c0, c1, c2, c3, c4, c5⟩ := HR2.out.1.cells6
      have q1 : IntKind.i64.wrap (4000 - (L : Int)) = 4000 - (L : Int) := IntWalk.i64_in _ (by omega)
      clear hpo hL
      by_cases hbig : 4000 < L + m
      · rw [if_pos hbig] at hr
        subst hr
        have g1 : (4000 : Int) - L < m := by omega
        go_wp2_with fail
        go_ret
        exact ⟨rfl, HB2.out⟩
      · rw [if_neg hbig] at hr
        have g1 : ¬ ((4000 : Int) - L < m) := by omega
        go_wp2_with fail
        have HPA := Lib.hid HR2.out
        have HRR := Lib.hid hr
        have HLM := Lib.hid (show L + m ≤ 4000 by omega)
        clear hr c0 c1 c2 c3 c4 c5 g1 q1 hbig hl
        obtain ⟨i0, hi0, hzz0, hzz1, hzz2⟩ := info_parts Tryd.infoN43
        have HI0 := Lib.hid hi0
        clear hi0
        go_loopw [31] (fun t31 wr => ∃ (j : Nat) (pv : Value), j ≤ m ∧ t31 = .int .i64 j ∧ ReadAt wr p { x with pts := x.pts ++ List.replicate j (k, N) } ph false pv ∧ Box wr bp [.int .i64 k, .int .i64 N] 43 ∧ Below p w wr ∧ ∀ q, pv.ownBlock = some q → q ≠ bp) (fun t31 _ => m - (intOf t31).toNat)
        case atStart =>
          refine ⟨0, .slice pa L pc, Nat.zero_le _, rfl, ?_, HBX.out, HB2.out, HOB.out⟩
          have := HR2.out
          simpa using this
        case round =>
          obtain ⟨j, pv, hj, rfl, hra, hbx, hbl, hob⟩ := hrel
          clear HBX HB2
          have HBL := Lib.hid hbl
          have HRA := Lib.hid hra
          have HBX := Lib.hid hbx
          obtain ⟨c0, c1, c2, c3, c4, c5⟩ := hra.1.cells6
          obtain ⟨z0, z1, z2, z3, z4, z5⟩ := hra.1.frz6
          obtain ⟨x0, x1, -, -⟩ := hbx.cells2
          have HOQ := Lib.hid hob
          clear hra hbx hbl hob
          have hm4 : m ≤ 4000 := by have := HLM.out; omega
          by_cases hlt : j < m
          · have HLN : Hid ((x.pts ++ List.replicate j (k, N)).length + 1 ≤ 4000) := Lib.hid (by have := HLM.out; have := HLL.out; rw [List.length_append, List.length_replicate]; omega)
            have HAFT : Hid (∀ (Wa w3 : World) (v3 : Value), Below wr.heap.size wr Wa → Wa.grownBy w3 pv.ownBlock → (v3.ownBlock = pv.ownBlock ∨ v3.ownBlock = some Wa.heap.size) → w3.ownsRow 0 43 2 v3 ((x.pts ++ List.replicate j (k, N)).length + 1) (flatPt (x.pts ++ List.replicate j (k, N)) ++ [.int .i64 k, .int .i64 N]) →
                (w3.cell? ⟨p, 2, none⟩ = some pv ∧ w3.frozen? ⟨p, 2, none⟩ = false) ∧ ReadAt (w3.setCell ⟨p, 2, none⟩ v3) p { x with pts := x.pts ++ List.replicate (j + 1) (k, N) } ph false v3 ∧ Box (w3.setCell ⟨p, 2, none⟩ v3) bp [.int .i64 k, .int .i64 N] 43 ∧ Below p w (w3.setCell ⟨p, 2, none⟩ v3) ∧ ∀ q, v3.ownBlock = some q → q ≠ bp) := by
              refine Lib.hid (fun Wa w3 v3 hb hg hv ho => ?_)
              have hk : ∀ q, q < wr.heap.size → pv.ownBlock ≠ some q → w3.heap[q]? = wr.heap[q]? := fun q h1 h2 => (hg.block q (Nat.lt_of_lt_of_le h1 hb.size) (fun e => h2 e.symm)).trans (hb.block q h1)
              have hpne : pv.ownBlock ≠ some p := fun e => by have := HRA.out.2.2 p e; omega
              have hbne : pv.ownBlock ≠ some bp := fun e => HOQ.out bp e rfl
              have hbp3 := HRA.out.1.of_block (hk p HRA.out.1.lt hpne)
              have hbx3 := HBX.out.of_block (hk bp HBX.out.lt hbne)
              have hpl := HRA.out.1.lt
              have hbl := HBX.out.lt
              have hpb := HPB.out
              have hvq : ∀ q, v3.ownBlock = some q → p < q ∧ q ≠ bp := by
                intro q e
                rcases hv with h | h
                · rw [h] at e; exact ⟨HRA.out.2.2 q e, HOQ.out q e⟩
                · rw [h] at e; cases e; have := hb.size; exact ⟨by omega, by omega⟩
              refine ⟨⟨hbp3.cell 2, hbp3.free 2⟩, ⟨hbp3.set 2 v3, ?_, fun q e => (hvq q e).1⟩, hbx3.setOther ⟨p, 2, none⟩ (by show bp ≠ p; omega) v3, ?_, fun q e => (hvq q e).2⟩
              · refine ownsRow_of_block ?_ fun q e => Below.heap_setCell w3 ⟨p, 2, none⟩ v3 q (by have := (hvq q e).1; show q ≠ p; omega)
                have e1 : x.pts ++ List.replicate (j + 1) (k, N) = (x.pts ++ List.replicate j (k, N)) ++ [(k, N)] := by rw [List.replicate_succ', List.append_assoc]
                show w3.ownsRow 0 _ 2 v3 (x.pts ++ List.replicate (j + 1) (k, N)).length (flatPt (x.pts ++ List.replicate (j + 1) (k, N)))
                rw [e1, flatPt_snoc, List.length_append]
                exact ho
              · refine Below.setCell (p := ⟨p, 2, none⟩) ?_ (Nat.le_refl _) _
                refine HBL.out.trans ?_
                refine (hb.mono (Nat.le_of_lt hpl)).trans ⟨hg.os, hg.tape, hg.output, hg.size, fun q hq => hg.block q (by have := hb.size; omega) (fun e => by have := HRA.out.2.2 q e.symm; omega)⟩
            have f2 : (wr.alloc (.cells #[.int .i64 k, .int .i64 N] 43)).cell? ⟨p, 2, none⟩ = some pv := ((below_alloc wr _).cell HRA.out.1.lt).trans c2
            go_wp2_with fail
            go_region_law ((refine step_append_row rfl (.tmp 38) (.tmp 40) 23 rfl 43 i0 (.agg #[.int .i64 0, .int .i64 0]) 2 16 Tryd.underlying23 HI0.out hzz0 hzz1 hzz2 rfl (by decide) pv (x.pts ++ List.replicate j (k, N)).length (flatPt (x.pts ++ List.replicate j (k, N))) (by simp [Act.eval, Act.put]) (row_up' HRA.out.2.1 (by repeat (first | exact Below.refl _ _ | refine Below.alloc ?_ (by first | (simp; done) | (simp; omega)) _ | refine below_drewN ?_ _ | refine Below.drew ?_ | refine Below.setCell ?_ (by first | (simp; done) | (simp; omega)) _))) ⟨wr.heap.size, 0, none⟩ 1 1 [.int .i64 k, .int .i64 N] (by simp [Act.eval, Act.put]) rfl (cell_new2 wr [.int .i64 k, .int .i64 N] 43) (one2 _ _) (Nat.le_trans HLN.out (by decide)) (by have := HLN.out; omega) ?_; intro v3 w3 hown3 hg3 hb3; obtain ⟨g3, c3, rfl⟩ := row_succ' hown3; obtain ⟨⟨k3, e3⟩, hfin⟩ := HAFT.out _ w3 _ (by repeat (first | exact Below.refl _ _ | refine Below.alloc ?_ (by first | (simp; done) | (simp; omega)) _ | refine below_drewN ?_ _ | refine Below.drew ?_ | refine Below.setCell ?_ (by first | (simp; done) | (simp; omega)) _)) hg3 hb3 hown3; have HF := Lib.hid hfin; clear hown3 hg3 hb3 hfin))
            all_goals (
              have HF2 := HF.out
              rw [List.length_append, List.length_replicate] at HF2
              replace HF2 := Lib.hid HF2
              clear HF
              go_wp2_with fail
              go_roundw
              case rel => exact ⟨j + 1, _, by omega, by go_num, HF2.out⟩
              case measure => simp [intOf]; omega)
          · obtain rfl : j = m := by omega
            have hr := HRR.out
            subst hr
            have hn : nextV p (ph + 1) = nextV p ph := by
              unfold nextV
              rw [if_neg (by omega), if_neg (by omega), if_neg (by omega), if_neg (by omega)]
            have HFN : Hid (ReadAt wr p { x with pts := x.pts ++ List.replicate j (k, N) } (ph + 1) false pv) := Lib.hid (by
              have := HRA.out
              unfold ReadAt at this ⊢
              rw [hn]
              exact this)
            clear hn
            go_wp2_with fail
            go_ret
            exact ⟨⟨rfl, pv, HFN.out⟩, HBL.out⟩
end Go.Proofs.YthncifbnkednlaaDoor
