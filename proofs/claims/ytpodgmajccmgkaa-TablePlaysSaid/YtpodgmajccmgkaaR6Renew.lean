/- The document's table: Need, Renew. -/
import Derived.Test.YtpodgmajccmgkaaR6Put
import Derived.Test.YtpodgmajccmgkaaR6Sizes
namespace Go.Proofs.Ytpodgmajccmgkaa
open Go.RowKit Go.Shelf
set_option linter.unusedVariables false
set_option linter.unusedSimpArgs false
attribute [local go_sem] Oper.semAt_some field_t

variable {w w' W W' : World} {p g : Nat} {A L A' L' : Value} {T T' : Tb}

/-! ### all pairs are put in again: in plain Lean -/
def putF (R : Tb) (x : Pr) : Tb := (putT R x.k x.v).1
theorem RI.fits {T0 : Tb} {pre : List Pr} {R : Tb} (h : RI T0 pre R) {x : Pr}
    (hroom : nonA T0.a x.k = true → (pre.filter (fun x => nonA T0.a x.k)).length < T0.nodes) : 0 ≤ (findT R x.k).1 ∨ 0 ≤ (findT R x.k).2 := by
  by_cases h1 : 0 ≤ (findT R x.k).1
  · exact .inl h1
  · right
    have hna : ¬ inA R x.k := by
      intro hin
      unfold inA at hin
      unfold findT at h1
      rw [if_pos hin] at h1
      simp only at h1
      omega
    have hroom := hroom (by rw [← h.a]; exact nonA_iff.2 hna)
    have hu := h.used
    obtain ⟨y, hf, -, -⟩ := findT_free hna (by omega) (by
      have := used_free (T := R) R.nodes (by rw [h.nodes]; omega)
      exact this)
    rw [hf]; simp only; omega
theorem fold_put {T0 : Tb} : ∀ (L pre : List Pr) (R : Tb), RI T0 pre R → (∀ x, x ∈ L → keyR x.k = some x.k ∧ x.v.t ≠ 0) → ((pre ++ L).map Pr.k).Nodup → ((pre ++ L).filter (fun x => nonA T0.a x.k)).length ≤ T0.nodes → L.foldl insT R = L.foldl putF R := by
  intro L
  induction L with
  | nil => intro pre R _ _ _ _; rfl
  | cons x L ih =>
    intro pre R h hg hnd hlen
    obtain ⟨g1, g2⟩ := hg x (by simp)
    have hroom : nonA T0.a x.k = true → (pre.filter (fun x => nonA T0.a x.k)).length < T0.nodes := by
      intro hn
      rw [List.filter_append, List.length_append, List.filter_cons, if_pos hn, List.length_cons] at hlen
      omega
    have hs := h.step (x := x) g1 g2 (by
      intro y hy he
      rw [List.map_append, List.nodup_append] at hnd
      exact hnd.2.2 y.k (List.mem_map.2 ⟨y, hy, rfl⟩) x.k (by simp) he) hroom
    have he : insT R x = putF R x := (insT_put g2 (h.fits hroom)).1
    have := ih (pre ++ [x]) (insT R x) hs (fun y hy => hg y (by simp [hy])) (by rw [List.append_assoc]; exact hnd) (by rw [List.append_assoc]; exact hlen)
    rw [List.foldl_cons, List.foldl_cons, this, he]
theorem renew_put (H : WF T) {k : V} (hl : (pairsL T).length + 1 ≤ 8000) : (pairsL T).foldl insT (sizedT T (newSz T k).1 (newSz T k).2) = (pairsL T).foldl putF (sizedT T (newSz T k).1 (newSz T k).2) := by
  obtain ⟨hr, -⟩ := newSz_room T k hl
  have hn : (sizedT T (newSz T k).1 (newSz T k).2).nodes = (newSz T k).2 := sizedT_nodes _ _ _
  refine fold_put (T0 := sizedT T (newSz T k).1 (newSz T k).2) (pairsL T) [] _ (RI.start T _ _) (fun x hx => ⟨(H.pair hx).2.1, (H.pair hx).2.2.2⟩) (by rw [List.nil_append]; exact H.keys_nodup) (by
    rw [List.nil_append, hn]
    exact Nat.le_trans (Nat.le_add_right _ _) hr)

/-! ### new rows -/
theorem made_four (n : Nat) : madeCells #[Value.int .i64 0, Value.int .i64 0, Value.int .i64 0, Value.int .i64 0] (n * 4) = (flatV (List.replicate (2 * n) nilV)).toArray := by
  apply Array.toList_inj.1
  apply List.ext_getElem
  · simp [madeCells, flatV_length]; omega
  · intro i h1 h2
    have e1 : (madeCells #[Value.int .i64 0, Value.int .i64 0, Value.int .i64 0, Value.int .i64 0] (n * 4)).toList[i] = .int .i64 0 := by
      simp only [madeCells, Array.toList_map, List.getElem_map]
      have : i % 4 = 0 ∨ i % 4 = 1 ∨ i % 4 = 2 ∨ i % 4 = 3 := by omega
      rcases this with h | h | h | h <;> simp [h]
    have hm : ∀ u ∈ flatV (List.replicate (2 * n) nilV), u = .int .i64 0 := by
      intro u hu
      obtain ⟨b, hb, hub⟩ := List.mem_flatMap.1 hu
      obtain rfl := (List.mem_replicate.1 hb).2
      simp [V.cells, nilV] at hub
      exact hub
    rw [e1]
    exact (hm _ (List.getElem_mem _)).symm
theorem run_make4 (n : Nat) (hn : n ≤ 1000000) (w : World) :
    (Instr.makeSlice 47 (.int .i64 (n : Int)) (.int .i64 (n : Int))).run Try.prog w = .ok (.slice (some ⟨w.heap.size, 0, none⟩) n n) (w.alloc (.cells (flatV (List.replicate (2 * n) nilV)).toArray 85)) := by
  obtain ⟨i, hi, hzz⟩ := Option.map_eq_some_iff.1 Try.infoN85
  simp only [Prod.mk.injEq] at hzz
  obtain ⟨hz, hs, hb⟩ := hzz
  have hr := run_make (P := Try.prog) w 47 85 i _ Try.underlying47 hi hz .i64 .i64 n n (by omega) (Int.le_refl _) (by rw [hb]; omega) (by omega)
  simp only [Int.toNat_natCast, hs] at hr
  rw [hr, ← made_four]; rfl

/-- From one world to another the document's table alone was turned. -/
def MvR (p : Nat) (A L : Value) (w w' : World) (A' L' : Value) : Prop := Keep (OwnR p A L) w w' ∧ ∀ k, OwnR p A' L' k → OwnR p A L k ∨ w.heap.size ≤ k
def RenewRP (w : World) (p : Nat) (A L : Value) (R : Tb) (e : Ending) (w' : World) : Prop := e = .returned (.tuple #[]) ∧ ∃ A' L', RefAt w' p A' L' R ∧ MvR p A L w w' A' L'

theorem row_keep' {W W' : World} {base : Nat} {e : TypeId} {size : Nat} {v : Value} {n : Nat} {xs : List Value} (h : W.ownsRow base e size v n xs) {B : Nat → Prop} (hk : Keep B W W') (hB : ∀ k, v.ownBlock = some k → ¬ B k) : W'.ownsRow base e size v n xs := by
  refine ⟨h.1, h.2.imp id ?_⟩
  rintro ⟨g, cap, cur, hv, hb', hg, h4⟩
  exact ⟨g, cap, cur, hv, hb', (hk.block g (Array.getElem?_eq_some_iff.1 hg).1 (hB g (by rw [hv]; rfl))).trans hg, h4⟩

theorem RefAt.sized (H : RefAt w p A L T) {a n : Nat} (hs : a + 2 * n ≤ 1000000) {W2 W3 : World}
    (hW2 : W2 = (w.alloc (.cells (flatV (List.replicate a nilV)).toArray 27)).setCell ⟨p, 0, none⟩ (.slice (some ⟨w.heap.size, 0, none⟩) a a))
    (hW3 : W3 = (W2.alloc (.cells (flatV (List.replicate (2 * n) nilV)).toArray 85)).setCell ⟨p, 1, none⟩ (.slice (some ⟨W2.heap.size, 0, none⟩) n n)) :
    RefAt W3 p (.slice (some ⟨w.heap.size, 0, none⟩) a a) (.slice (some ⟨W2.heap.size, 0, none⟩) n n) (sizedT T a n) ∧ MvR p A L w W3 (.slice (some ⟨w.heap.size, 0, none⟩) a a) (.slice (some ⟨W2.heap.size, 0, none⟩) n n) := by
  have hp := H.own_lt (.inl rfl)
  have hz2 : W2.heap.size = w.heap.size + 1 := by rw [hW2]; simp [World.setCell]
  have hz3 : W3.heap.size = w.heap.size + 2 := by rw [hW3]; simp [World.setCell, hz2]
  have hh : w.heap[p]? = some (.cells [A, L, .int .i64 T.most].toArray 49 (0, 0)) := H.head
  have h1 : W2.heap[p]? = some (.cells [.slice (some ⟨w.heap.size, 0, none⟩) a a, L, .int .i64 T.most].toArray 49 (0, 0)) := by
    rw [hW2]
    exact setCell_list (i := 0) ((Below.heap_alloc w _ p hp).trans hh) _
  have h2 : W3.heap[p]? = some (.cells [.slice (some ⟨w.heap.size, 0, none⟩) a a, .slice (some ⟨W2.heap.size, 0, none⟩) n n, .int .i64 T.most].toArray 49 (0, 0)) := by
    rw [hW3]
    exact setCell_list (i := 1) ((Below.heap_alloc W2 _ p (by omega)).trans h1) _
  have hA2 : W2.heap[w.heap.size]? = some (.cells (flatV (List.replicate a nilV)).toArray 27 (0, 0)) := by
    rw [hW2, Below.heap_setCell _ _ _ _ (show w.heap.size ≠ p by omega)]
    exact heap_alloc_new w _
  have hA3 : W3.heap[w.heap.size]? = some (.cells (flatV (List.replicate a nilV)).toArray 27 (0, 0)) := by
    rw [hW3, Below.heap_setCell _ _ _ _ (show w.heap.size ≠ p by omega)]
    exact (Below.heap_alloc W2 _ _ (by omega)).trans hA2
  have hL3 : W3.heap[W2.heap.size]? = some (.cells (flatV (List.replicate (2 * n) nilV)).toArray 85 (0, 0)) := by
    rw [hW3, Below.heap_setCell _ _ _ _ (show W2.heap.size ≠ p by omega)]
    exact heap_alloc_new W2 _
  have hnod : (sizedT T a n).nodes = n := sizedT_nodes _ _ _
  have hK : Keep (OwnR p A L) w W3 := by
    rw [hW3]
    refine Keep.setCell (p := ⟨p, 1, none⟩) (Keep.alloc ?_ _) (fun _ => .inl rfl) _
    rw [hW2]
    exact Keep.setCell (p := ⟨p, 0, none⟩) (Keep.alloc (Keep.refl _ _) _) (fun _ => .inl rfl) _
  refine ⟨⟨h2, .inr ⟨_, rfl, ?_⟩, .inr ⟨_, by rw [hnod], ?_⟩, by simp [hnod]; simp [sizedT], by simp [sizedT]; omega⟩, hK, ?_⟩
  · rw [hA3]; simp [sizedT]
  · rw [hL3]; simp [sizedT]
  · rintro k (rfl | hk | hk)
    · exact .inl (.inl rfl)
    · simp only [Value.ownBlock, Option.some.injEq] at hk; exact .inr (by omega)
    · simp only [Value.ownBlock, Option.some.injEq] at hk; exact .inr (by omega)

set_option maxRecDepth 100000 in
set_option maxHeartbeats 4000000 in
theorem rrenew_any (H : RefAt w p A L T) (a n : Nat) (ha : a ≤ 100000) (hn : n ≤ 100000) (hs : a + 2 * n ≤ 1000000) : Calls Try.prog 54 #[.pointer (some ⟨p, 0, none⟩), .agg #[.bool false, .slice none 0 0, .slice none 0 0], .int .i64 a, .int .i64 n] w fun e w' => RenewRP w p A L ((pairsL T).foldl putF (sizedT T a n)) e w' := by
  have HH := Lib.hid H
  have hm2 := run_make2 a (by omega)
  have hm4 := run_make4 n (by omega)
  clear H
  go_enter Try.func54, Try.ntmps54
  go_wp2_with fail
  have hF0 := (Fr.mk (w := w) (l := []) (by simp) (Below.refl _ w)).cons [.bool false, .slice none 0 0, .slice none 0 0] 77
  refine (rpairs_any (HH.out.below hF0.b)).mono ?_
  rintro e w1 ⟨v, rfl, hP⟩
  have HF1 := Lib.hid (hF0.step hP.2)
  have HP := Lib.hid hP
  have HR1 := Lib.hid (HH.out.below HF1.out.b)
  have HR2 := HR1.out.below (below_alloc w1 (.cells (flatV (List.replicate a nilV)).toArray 27))
  have c0 := HR2.c0
  have f0 := HR2.frz 0
  have hpl : ¬ p = w1.heap.size := by have := HR1.out.own_lt (.inl rfl); omega
  clear hP hF0 HR2
  obtain ⟨W2, hW2⟩ : ∃ W, W = (w1.alloc (.cells (flatV (List.replicate a nilV)).toArray 27)).setCell ⟨p, 0, none⟩ (.slice (some ⟨w1.heap.size, 0, none⟩) a a) := ⟨_, rfl⟩
  obtain ⟨W3, hW3⟩ : ∃ W, W = (W2.alloc (.cells (flatV (List.replicate (2 * n) nilV)).toArray 85)).setCell ⟨p, 1, none⟩ (.slice (some ⟨W2.heap.size, 0, none⟩) n n) := ⟨_, rfl⟩
  obtain ⟨hS, hM⟩ := HR1.out.sized (a := a) (n := n) hs hW2 hW3
  have HS := Lib.hid hS
  have HMV := Lib.hid hM
  have HW2 := Lib.hid hW2
  have HW3 := Lib.hid hW3
  have hz2 : W2.heap.size = w1.heap.size + 1 := by rw [hW2]; simp [World.setCell]
  have hkeep : w1.heap.size ≤ W2.heap.size := by omega
  have HZ := Lib.hid hz2
  have hp1 : p < w1.heap.size := HR1.out.own_lt (.inl rfl)
  have hc1 : (W2.alloc (.cells (flatV (List.replicate (2 * n) nilV)).toArray 85)).cell? ⟨p, 1, none⟩ = some L := by
    have h1 : W2.heap[p]? = some (.cells [.slice (some ⟨w1.heap.size, 0, none⟩) a a, L, .int .i64 T.most].toArray 49 (0, 0)) := by
      rw [hW2]
      exact setCell_list (i := 0) (l := [A, L, .int .i64 T.most]) ((Below.heap_alloc w1 _ p hp1).trans HR1.out.head) _
    exact cell_of_list ((Below.heap_alloc W2 _ p (by omega)).trans h1) 1
  have hf1 : (W2.alloc (.cells (flatV (List.replicate (2 * n) nilV)).toArray 85)).frozen? ⟨p, 1, none⟩ = false := by
    have h1 : W2.heap[p]? = some (.cells [.slice (some ⟨w1.heap.size, 0, none⟩) a a, L, .int .i64 T.most].toArray 49 (0, 0)) := by
      rw [hW2]
      exact setCell_list (i := 0) (l := [A, L, .int .i64 T.most]) ((Below.heap_alloc w1 _ p hp1).trans HR1.out.head) _
    exact frz_at ((Below.heap_alloc W2 _ p (by omega)).trans h1) 1
  have HP1 := Lib.hid hp1
  have hpl2 : ¬ p = W2.heap.size := by omega
  clear hS hM hW2 hW3 hz2 hp1 hkeep
  go_upto_region 3 with fail
  rw [← HW2.out]
  clear c0 f0
  go_upto_region 4 with fail
  rw [← HW3.out]
  have hp1 := HP1.out
  have hkeep : w1.heap.size ≤ W2.heap.size := by have := HZ.out; omega
  clear hc1 hf1 hm2 hm4
  have hgN : ∀ k, v.ownBlock = some k → ¬ OwnR p (.slice (some ⟨w1.heap.size, 0, none⟩) a a) (.slice (some ⟨W2.heap.size, 0, none⟩) n n) k := by
    intro k hk ho
    obtain ⟨h1, c, h2⟩ := row_ge HP.out.1 k hk
    have h3 : k < w1.heap.size := (Array.getElem?_eq_some_iff.1 h2).1
    rcases ho with ho | ho | ho
    · have := HH.out.own_lt (.inl rfl); simp at h1; omega
    · simp only [Value.ownBlock, Option.some.injEq] at ho; omega
    · simp only [Value.ownBlock, Option.some.injEq] at ho; omega
  have hROW : W3.ownsRow 0 85 4 v (pairsL T).length (flatP (pairsL T)) := row_keep' (row_lo HP.out.1) HMV.out.1 (fun k hk ho => by
    obtain ⟨h1, c, h2⟩ := row_ge HP.out.1 k hk
    rcases ho with ho | ho | ho
    · have := HH.out.own_lt (.inl rfl); simp at h1; omega
    · have := HH.out.own_lt (.inr (.inl ho)); simp at h1; omega
    · have := HH.out.own_lt (.inr (.inr ho)); simp at h1; omega)
  have hBX := HF1.out.box (w.heap.size, [.bool false, .slice none 0 0, .slice none 0 0], 77) (by simp)
  have hBX3 : Box W3 w.heap.size [.bool false, .slice none 0 0, .slice none 0 0] 77 := hBX.of_block (HMV.out.1.block _ hBX.lt (fun ho => by
    rcases ho with ho | ho | ho
    · have := HH.out.own_lt (.inl rfl); omega
    · have := HH.out.own_lt (.inr (.inl ho)); omega
    · have := HH.out.own_lt (.inr (.inr ho)); omega))
  have hBO : ¬ OwnR p (.slice (some ⟨w1.heap.size, 0, none⟩) a a) (.slice (some ⟨W2.heap.size, 0, none⟩) n n) w.heap.size := by
    have := hBX.lt
    intro ho
    rcases ho with ho | ho | ho
    · have := HH.out.own_lt (.inl rfl); omega
    · simp only [Value.ownBlock, Option.some.injEq] at ho; omega
    · simp only [Value.ownBlock, Option.some.injEq] at ho; omega
  have HGN := Lib.hid hgN
  have HROW := Lib.hid hROW
  have HBX3 := Lib.hid hBX3
  have HBO := Lib.hid hBO
  obtain ⟨N, hN⟩ : ∃ N, N = (pairsL T).length := ⟨_, rfl⟩
  have HNN := Lib.hid hN
  have hNle : N ≤ 1000000 := by rw [hN]; have := (arrL_le' T T.a); have := (nodL_le' T T.nodes); have := HH.out.small; have := HH.out.exact_; unfold pairsL; rw [List.length_append]; omega
  obtain ⟨A', cap', rfl, hA'⟩ : ∃ A' cap', v = .slice A' N cap' ∧ (0 < N → ∃ g, A' = some ⟨g, 0, none⟩) := by
    rcases hROW.2 with ⟨rfl, h0⟩ | ⟨g, cap, cur, rfl, -⟩
    · exact ⟨none, 0, by rw [hN, h0], fun h => by omega⟩
    · exact ⟨_, cap, by rw [hN], fun _ => ⟨g, rfl⟩⟩
  have HA' := Lib.hid hA'
  obtain ⟨q1, hq1⟩ : ∃ q, q = Value.slice (some ⟨w1.heap.size, 0, none⟩) a a := ⟨_, rfl⟩
  obtain ⟨q2, hq2⟩ : ∃ q, q = Value.slice (some ⟨W2.heap.size, 0, none⟩) n n := ⟨_, rfl⟩
  rw [← hq1, ← hq2] at HS HMV HGN HBO
  have HST : Hid (RefAt W3 p q1 q2 ((pairsL T).take 0 |>.foldl putF (sizedT T a n))) := Lib.hid HS.out
  have HMW := Lib.hid (show Keep (OwnR p A L) w W3 from (Keep.of_below HF1.out.b).trans HMV.out.1)
  have HOW : Hid (∀ k, OwnR p q1 q2 k → OwnR p A L k ∨ w.heap.size ≤ k) := Lib.hid (fun k hk => (HMV.out.2 k hk).imp id (fun h => Nat.le_trans HF1.out.b.size h))
  clear hgN hROW hBX hBX3 hBO hN hA' hp1 hkeep
  go_wp2_with fail
  go_loopw [9] (fun t9 wr => ∃ i : Nat, i ≤ N ∧ t9 = .int .i64 i ∧ RefAt wr p q1 q2 (((pairsL T).take i).foldl putF (sizedT T a n)) ∧ Keep (OwnR p q1 q2) W3 wr) (fun t9 _ => N - (intOf t9).toNat)
  case atStart => exact ⟨0, Nat.zero_le _, by go_num, HST.out, Keep.refl _ _⟩
  case round =>
    obtain ⟨i, hi, rfl, hR, hK⟩ := hrel
    have HR := Lib.hid hR
    have HK := Lib.hid hK
    obtain ⟨x0, x1, x2⟩ := (HBX3.out.of_block (hK.block _ HBX3.out.lt HBO.out)).cells3
    have HRW := Lib.hid (row_keep' HROW.out hK (fun k hk ho => HGN.out k hk ho))
    clear hR hK
    by_cases hlt : i < N
    · obtain ⟨g, rfl⟩ := HA'.out (by omega)
      obtain ⟨x, hx⟩ : ∃ x, (pairsL T)[i]? = some x := ⟨_, List.getElem?_eq_getElem (by rw [← HNN.out]; exact hlt)⟩
      have k0 := HRW.out.cells (g := g) rfl (i * 4 + 0) _ ((flatP_get hx (k := 0) (by omega)).trans rfl)
      have k1 := HRW.out.cells (g := g) rfl (i * 4 + 1) _ ((flatP_get hx (k := 1) (by omega)).trans rfl)
      have k2 := HRW.out.cells (g := g) rfl (i * 4 + 2) _ ((flatP_get hx (k := 2) (by omega)).trans rfl)
      have k3 := HRW.out.cells (g := g) rfl (i * 4 + 2 + 1) _ ((flatP_get hx (k := 3) (by omega)).trans rfl)
      rw [addr_add, Nat.zero_add] at k0 k1 k2 k3
      have hst : ((pairsL T).take (i + 1)).foldl putF (sizedT T a n) = putF (((pairsL T).take i).foldl putF (sizedT T a n)) x := by
        rw [List.take_add_one, hx, List.foldl_append]; rfl
      have HST2 := Lib.hid hst
      obtain ⟨xi, ⟨kt, kn⟩, ⟨vt, vn⟩⟩ := x
      simp only [Nat.add_zero] at k0 k1 k2 k3
      have PC := Lib.hid (rput_any (HR.out.below (Below.refl _ wr).drew) ⟨kt, kn⟩ ⟨vt, vn⟩)
      clear hx hst
      go_wp2_with fail
      refine wp_region_still_tail 12 (by kernel_rfl) (by kernel_rfl) ?_
      simp only [List.take_succ_cons, List.take_zero, List.drop_succ_cons, List.drop_zero]
      change wpStill _ _ (World.drew wr) _ _ _
      repeat still_step
      refine wpStill_nil ?_
      change wpList _ _ _ _ _ (World.drew wr)
      go_wp2_with fail
      refine PC.out.mono ?_
      rintro e w5 ⟨rfl, h5, h6⟩
      have HR5 : Hid (RefAt w5 p q1 q2 (((pairsL T).take (i + 1)).foldl putF (sizedT T a n))) := Lib.hid (by rw [HST2.out]; exact h5)
      have HK5 := Lib.hid (HK.out.trans ⟨h6.os, h6.tape, h6.output, h6.size, h6.block⟩)
      clear h5 h6 k0 k1 k2 k3 x0 x1 x2
      go_wp2_with fail
      go_roundw
      case rel => exact ⟨i + 1, by omega, by go_num, HR5.out, HK5.out⟩
      case measure => simp [intOf]; omega
    · obtain rfl : i = N := by omega
      have HEND : Hid (RenewRP w p A L ((pairsL T).foldl putF (sizedT T a n)) (.returned (.tuple #[])) wr) := by
        refine Lib.hid ⟨rfl, q1, q2, ?_, ?_, HOW.out⟩
        · have := HR.out
          rw [List.take_of_length_le (by rw [← HNN.out]; exact Nat.le_refl _)] at this
          exact this
        · exact HMW.out.trans' HK.out (fun k hk ho => (HOW.out k ho).elim id (fun h => by omega))
      go_wp2_with fail
      go_end0
      exact HEND.out
end Go.Proofs.Ytpodgmajccmgkaa
