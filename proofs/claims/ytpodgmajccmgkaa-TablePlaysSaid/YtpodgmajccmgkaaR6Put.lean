/- The document's table: what is written into it; Put. -/
import Derived.Test.YtpodgmajccmgkaaR6Pairs
namespace Go.Proofs.Ytpodgmajccmgkaa
open Go.RowKit Go.Shelf
set_option linter.unusedVariables false
set_option linter.unusedSimpArgs false
attribute [local go_sem] Oper.semAt_some field_t

variable {w w' W W' : World} {p g : Nat} {A L : Value} {T T' : Tb}

theorem RefAt.apart (H : RefAt w p A L T) : (A.ownBlock ≠ some p) ∧ (L.ownBlock ≠ some p) ∧ (∀ g, A.ownBlock = some g → L.ownBlock ≠ some g) := by
  refine ⟨?_, ?_, ?_⟩
  · rcases H.arr with ⟨h, -⟩ | ⟨g, h, hg⟩
    · rw [h]; simp [Value.ownBlock]
    · rw [h]; intro e
      simp only [Value.ownBlock, Option.some.injEq] at e
      rw [e, H.head] at hg
      simp at hg
  · rcases H.nod with ⟨h, -⟩ | ⟨g, h, hg⟩
    · rw [h]; simp [Value.ownBlock]
    · rw [h]; intro e
      simp only [Value.ownBlock, Option.some.injEq] at e
      rw [e, H.head] at hg
      simp at hg
  · intro g hA hL
    rcases H.arr with ⟨h, -⟩ | ⟨g1, h, hg⟩
    · rw [h] at hA; cases hA
    · rw [h] at hA; cases hA
      rcases H.nod with ⟨h, -⟩ | ⟨g2, h, hg2⟩
      · rw [h] at hL; cases hL
      · rw [h] at hL; cases hL
        rw [hg] at hg2
        simp at hg2
theorem frz_at {w : World} {g : Nat} {c : Array Value} {t : TypeId} (hg : w.heap[g]? = some (.cells c t (0, 0))) (i : Nat) : w.frozen? ⟨g, i, none⟩ = false := by simp [World.frozen?, hg]
theorem setT_nat {i : Nat} (v : V) : setT T (i : Int) v = { T with sl := T.sl.set i v } := by
  unfold setT; rw [if_pos (Int.natCast_nonneg _), Int.toNat_natCast]

theorem RefAt.setA {n c : Nat} (H : RefAt w p (.slice (some ⟨g, 0, none⟩) n c) L T) {i : Nat} (hi : i < T.a) (v : V) :
    RefAt ((w.setCell ⟨g, i * 2, none⟩ (.int .i64 v.t)).setCell ⟨g, i * 2 + 1, none⟩ (.int .i64 v.n)) p (.slice (some ⟨g, 0, none⟩) n c) L (setT T (i : Int) v) := by
  obtain ⟨a1, a2, a3⟩ := H.apart
  have hgp : p ≠ g := fun e => a1 (by rw [e]; rfl)
  have hex := H.exact_
  rw [setT_nat]
  refine ⟨?_, ?_, ?_, by simpa [Tb.nodes] using hex, by simpa using H.small⟩
  · rw [Below.heap_setCell _ _ _ _ hgp, Below.heap_setCell _ _ _ _ hgp]; exact H.head
  · rcases H.arr with ⟨h, _⟩ | ⟨g', h, hg⟩
    · simp at h
    · refine .inr ⟨g', h, ?_⟩
      simp only [Value.slice.injEq, Option.some.injEq, Addr.mk.injEq, and_true] at h
      obtain ⟨rfl, -, -⟩ := h
      have h2 := setCell_list (i := i * 2 + 1) (setCell_list (i := i * 2) hg (.int .i64 v.t)) (.int .i64 v.n)
      rw [← flatV_set (by rw [List.length_take]; omega)] at h2
      rw [h2, List.take_set]
  · rcases H.nod with ⟨h, h0⟩ | ⟨g', h, hg⟩
    · exact .inl ⟨h, by simpa [Tb.nodes] using h0⟩
    · have hgg : g' ≠ g := fun e => a3 g rfl (by rw [h, e]; rfl)
      refine .inr ⟨g', by simpa [Tb.nodes] using h, ?_⟩
      rw [Below.heap_setCell _ _ _ _ hgg, Below.heap_setCell _ _ _ _ hgg, hg]
      simp only
      rw [List.drop_set_of_lt hi]

theorem RefAt.setN {n c : Nat} (H : RefAt w p A (.slice (some ⟨g, 0, none⟩) n c) T) {j : Nat} (hj : T.a + j < T.sl.length) (v : V) :
    RefAt ((w.setCell ⟨g, j * 2, none⟩ (.int .i64 v.t)).setCell ⟨g, j * 2 + 1, none⟩ (.int .i64 v.n)) p A (.slice (some ⟨g, 0, none⟩) n c) (setT T ((T.a + j : Nat) : Int) v) := by
  obtain ⟨a1, a2, a3⟩ := H.apart
  have hgp : p ≠ g := fun e => a2 (by rw [e]; rfl)
  have hex := H.exact_
  rw [setT_nat]
  refine ⟨?_, ?_, ?_, by simpa [Tb.nodes] using hex, by simpa using H.small⟩
  · rw [Below.heap_setCell _ _ _ _ hgp, Below.heap_setCell _ _ _ _ hgp]; exact H.head
  · rcases H.arr with ⟨h, h0⟩ | ⟨g', h, hg⟩
    · exact .inl ⟨h, h0⟩
    · have hgg : g' ≠ g := fun e => a3 g' (by rw [h]; rfl) (by rw [e]; rfl)
      refine .inr ⟨g', h, ?_⟩
      rw [Below.heap_setCell _ _ _ _ hgg, Below.heap_setCell _ _ _ _ hgg, hg]
      simp only
      rw [List.take_set_of_le (by omega)]
  · rcases H.nod with ⟨h, _⟩ | ⟨g', h, hg⟩
    · simp at h
    · refine .inr ⟨g', by simpa [Tb.nodes] using h, ?_⟩
      simp only [Value.slice.injEq, Option.some.injEq, Addr.mk.injEq, and_true] at h
      obtain ⟨rfl, -, -⟩ := h
      have h2 := setCell_list (i := j * 2 + 1) (setCell_list (i := j * 2) hg (.int .i64 v.t)) (.int .i64 v.n)
      rw [← flatV_set (by rw [List.length_drop]; omega)] at h2
      rw [h2]
      simp only
      rw [List.drop_set, if_neg (by omega), Nat.add_sub_cancel_left]

theorem RefAt.setV {n c : Nat} (H : RefAt w p A (.slice (some ⟨g, 0, none⟩) n c) T) {i : Nat} (hi : i < T.nodes) (v : V) :
    RefAt ((w.setCell ⟨g, i * 4 + 2, none⟩ (.int .i64 v.t)).setCell ⟨g, i * 4 + 2 + 1, none⟩ (.int .i64 v.n)) p A (.slice (some ⟨g, 0, none⟩) n c) (setT T ((T.a + 2 * i + 1 : Nat) : Int) v) := by
  have := H.setN (j := 2 * i + 1) (by have := H.exact_; omega) v
  rw [show (2 * i + 1) * 2 = i * 4 + 2 by omega] at this
  exact this
theorem RefAt.setK {n c : Nat} (H : RefAt w p A (.slice (some ⟨g, 0, none⟩) n c) T) {i : Nat} (hi : i < T.nodes) (v : V) :
    RefAt ((w.setCell ⟨g, i * 4, none⟩ (.int .i64 v.t)).setCell ⟨g, i * 4 + 1, none⟩ (.int .i64 v.n)) p A (.slice (some ⟨g, 0, none⟩) n c) (setT T ((T.a + 2 * i : Nat) : Int) v) := by
  have := H.setN (j := 2 * i) (by have := H.exact_; omega) v
  rw [show 2 * i * 2 = i * 4 by omega] at this
  exact this
theorem RefAt.setKV {n c : Nat} (H : RefAt w p A (.slice (some ⟨g, 0, none⟩) n c) T) {i : Nat} (hi : i < T.nodes) (k v : V) :
    RefAt ((((w.setCell ⟨g, i * 4, none⟩ (.int .i64 k.t)).setCell ⟨g, i * 4 + 1, none⟩ (.int .i64 k.n)).setCell ⟨g, i * 4 + 2, none⟩ (.int .i64 v.t)).setCell ⟨g, i * 4 + 2 + 1, none⟩ (.int .i64 v.n)) p A (.slice (some ⟨g, 0, none⟩) n c) (insN T i k v) := by
  have h := (H.setK hi k).setV (i := i) (by rw [setT_nodes]; exact hi) v
  rw [setT_a] at h
  exact h

/-! ### Put -/
theorem putT_ref (T : Tb) (k v : V) : putT T k v = if inAB T k = true then (setT T (k.n - 1) v, true) else if 0 ≤ (findN T k).1 then (setT T (T.a + 2 * (findN T k).1 + 1) v, true) else if v.t = 0 then (T, true) else
    if 0 ≤ (findN T k).2 then (setT (setT T ((T.a : Int) + 2 * (findN T k).2) k) ((T.a : Int) + 2 * (findN T k).2 + 1) v, true) else (T, false) := by
  unfold putT
  rw [findT_ref]
  by_cases hi : inAB T k = true
  · have hin := inAB_iff.1 hi
    unfold inA at hin
    rw [if_pos hi, if_pos hi]
    simp only
    rw [if_pos (by omega)]
  · rw [if_neg hi, if_neg hi]
    simp only
    by_cases hf : 0 ≤ (findN T k).1
    · have e : (if (findN T k).1 < 0 then (-1 : Int) else T.a + 2 * (findN T k).1 + 1) = T.a + 2 * (findN T k).1 + 1 := if_neg (by omega)
      rw [e, if_pos hf, if_pos (show 0 ≤ (T.a : Int) + 2 * (findN T k).1 + 1 by omega)]
    · have e : (if (findN T k).1 < 0 then (-1 : Int) else T.a + 2 * (findN T k).1 + 1) = -1 := if_pos (by omega)
      rw [e, if_neg hf, if_neg (by decide)]

def PutRP (w : World) (p : Nat) (A L : Value) (r : Tb × Bool) (e : Ending) (w' : World) : Prop := e = .returned (.bool r.2) ∧ RefAt w' p A L r.1 ∧ Keep (OwnR p A L) w w'
theorem PutRP.mk' {p : Nat} {A L : Value} {r : Tb × Bool} {b : Bool} (hb : r.2 = b) (h : RefAt w' p A L r.1) (hm : Keep (OwnR p A L) w w') : PutRP w p A L r (.returned (.bool b)) w' := ⟨by rw [hb], h, hm⟩

set_option maxRecDepth 100000 in
set_option maxHeartbeats 4000000 in
theorem rput_any (H : RefAt w p A L T) (k v : V) : Calls Try.prog 55 #[.pointer (some ⟨p, 0, none⟩), .agg #[.bool false, .slice none 0 0, .slice none 0 0], .agg #[.int .i64 k.t, .int .i64 k.n], .agg #[.int .i64 v.t, .int .i64 v.n]] w fun e w' => PutRP w p A L (putT T k v) e w' := by
  obtain ⟨q, hq⟩ : ∃ q, inAB T k = q := ⟨_, rfl⟩
  obtain ⟨f1, f2, hf⟩ : ∃ f1 f2, findN T k = (f1, f2) := ⟨_, _, rfl⟩
  have hfr := findN_range T k
  rw [hf] at hfr
  simp only at hfr
  have hin := fun h : q = true => inAB_iff.1 (hq.trans h)
  obtain ⟨r, hr⟩ : ∃ r, r = putT T k v := ⟨_, rfl⟩
  rw [← hr]
  rw [putT_ref, hq, hf] at hr
  simp only at hr
  have HI := Lib.hid (fun w (h : RefAt w p A L T) => rin_is h hq)
  have HFC := Lib.hid (fun w (h : RefAt w p A L T) => rfind_is h hf)
  have HH := Lib.hid H
  have HP := Lib.hid hr
  have HIN := Lib.hid hin
  have HFR := Lib.hid hfr
  have hsm : T.a + 2 * T.nodes ≤ 1000000 := by have := H.small; have := H.exact_; omega
  obtain ⟨kt, kn⟩ := k
  obtain ⟨vt, vn⟩ := v
  simp only at *
  clear hq hf hr H hin hfr
  go_enter Try.func55, Try.ntmps55
  go_wp2_with fail
  have hF0 := boxes3G (l := [.bool false, .slice none 0 0, .slice none 0 0]) (l' := [.int .i64 kt, .int .i64 kn]) (l'' := [.int .i64 vt, .int .i64 vn]) (Below.refl (((w.alloc (.cells [.bool false, .slice none 0 0, .slice none 0 0].toArray 77)).alloc (.cells [.int .i64 kt, .int .i64 kn].toArray 27)).alloc (.cells [.int .i64 vt, .int .i64 vn].toArray 27)).heap.size _)
  refine (HI.out _ (HH.out.below hF0.b)).mono ?_
  rintro e w1 ⟨rfl, hb1⟩
  have HF1 := Lib.hid (hF0.step hb1)
  have HR1 := Lib.hid (HH.out.below HF1.out.b)
  clear hb1 hF0 HI
  obtain ⟨k0, k1, -, -⟩ := (HF1.out.box (w.heap.size + 1, [.int .i64 kt, .int .i64 kn], 27) (by simp)).cells2
  obtain ⟨v0, v1, -, -⟩ := (HF1.out.box (w.heap.size + 1 + 1, [.int .i64 vt, .int .i64 vn], 27) (by simp)).cells2
  obtain ⟨x0, x1, x2⟩ := (HF1.out.box (w.heap.size, [.bool false, .slice none 0 0, .slice none 0 0], 77) (by simp)).cells3
  cases q with
  | true =>
    have hr := HP.out
    rw [if_pos rfl] at hr
    have hi := HIN.out rfl
    unfold inA at hi
    simp only at hi
    obtain ⟨m, rfl⟩ : ∃ m : Nat, kn = (m : Int) + 1 := ⟨(kn - 1).toNat, by omega⟩
    have hm : m < T.a := by omega
    rw [show (m : Int) + 1 - 1 = (m : Int) by omega] at hr
    obtain ⟨gA, rfl, hA⟩ := HR1.out.shapeA
    obtain ⟨g, rfl⟩ := hA (by omega)
    have c0 := HR1.out.c0
    obtain ⟨d0, d1⟩ := HR1.out.arrC hm
    have HR2 := Lib.hid ((HR1.out.setA hm ⟨vt, vn⟩).below (Below.refl _ _).drew)
    have HK := Lib.hid (((Keep.of_below (B := OwnR p (.slice (some ⟨g, 0, none⟩) T.a T.a) L) HF1.out.b).setCell (p := ⟨g, m * 2, none⟩) (fun _ => .inr (.inl rfl)) (.int .i64 vt)).setCell (p := ⟨g, m * 2 + 1, none⟩) (fun _ => .inr (.inl rfl)) (.int .i64 vn)).drew
    have hfz := fun i => frz_at HR1.out.arr_at i
    have fz0 := hfz (m * 2)
    have fz1 := hfz (m * 2 + 1)
    obtain ⟨N, hN⟩ : ∃ N, N = T.a := ⟨_, rfl⟩
    have HN := Lib.hid hN
    rw [← hN] at c0 hm hsm
    have hw1 : IntKind.i64.wrap (m : Int) = (m : Int) := IntWalk.i64_in _ (by omega)
    have HR := Lib.hid hr
    clear hi hA hN hr HP HIN HFR hfz
    go_wp2_with fail
    refine wp_region_still_tail 9 (by kernel_rfl) (by kernel_rfl) ?_
    simp only [List.take_succ_cons, List.take_zero, List.drop_succ_cons, List.drop_zero]
    change wpStill _ _ (World.drew w1) _ _ _
    repeat still_step
    refine wpStill_nil ?_
    change wpList _ _ _ _ _ (World.drew w1)
    go_wp2_with fail
    go_ret
    rw [HR.out]
    exact PutRP.mk' rfl HR2.out HK.out
  | false =>
    have hr := HP.out
    rw [if_neg (by decide)] at hr
    have HP1 := Lib.hid hr
    clear hr HP HIN
    go_wp2_with fail
    refine (HFC.out _ HR1.out).mono ?_
    rintro e w2 ⟨rfl, hb2⟩
    have HF2 := Lib.hid (HF1.out.step hb2)
    have HR2 := Lib.hid (HR1.out.below hb2)
    clear hb2 k0 k1 x0 x1 x2 v0 v1 HR1 HF1 HFC
    obtain ⟨k0, k1, -, -⟩ := (HF2.out.box (w.heap.size + 1, [.int .i64 kt, .int .i64 kn], 27) (by simp)).cells2
    obtain ⟨v0, v1, -, -⟩ := (HF2.out.box (w.heap.size + 1 + 1, [.int .i64 vt, .int .i64 vn], 27) (by simp)).cells2
    by_cases hf0 : 0 ≤ f1
    · obtain ⟨m, hm, rfl⟩ : ∃ m : Nat, m < T.nodes ∧ f1 = (m : Int) := by
        rcases HFR.out.1 with h | h
        · omega
        · exact h
      have hr := HP1.out
      rw [if_pos hf0, show (T.a : Int) + 2 * (m : Int) + 1 = ((T.a + 2 * m + 1 : Nat) : Int) by omega] at hr
      have HR := Lib.hid hr
      obtain ⟨gL, rfl, hL⟩ := HR2.out.shapeL
      obtain ⟨g, rfl⟩ := hL (by omega)
      have c1 := HR2.out.c1
      obtain ⟨-, -, d0, d1⟩ := HR2.out.nodC hm
      have HR3 := Lib.hid ((HR2.out.setV hm ⟨vt, vn⟩).below (Below.refl _ _).drew)
      have HK := Lib.hid (((Keep.of_below (B := OwnR p A (.slice (some ⟨g, 0, none⟩) T.nodes T.nodes)) HF2.out.b).setCell (p := ⟨g, m * 4 + 2, none⟩) (fun _ => .inr (.inr rfl)) (.int .i64 vt)).setCell (p := ⟨g, m * 4 + 2 + 1, none⟩) (fun _ => .inr (.inr rfl)) (.int .i64 vn)).drew
      have hfz := fun i => frz_at HR2.out.nod_at i
      have fz0 := hfz (m * 4 + 2)
      have fz1 := hfz (m * 4 + 2 + 1)
      obtain ⟨N, hN⟩ : ∃ N, N = T.nodes := ⟨_, rfl⟩
      rw [← hN] at c1 hm
      clear hL hN hr HP1 HFR hfz
      go_wp2_with fail
      refine wp_region_still_tail 8 (by kernel_rfl) (by kernel_rfl) ?_
      simp only [List.take_succ_cons, List.take_zero, List.drop_succ_cons, List.drop_zero]
      change wpStill _ _ (World.drew w2) _ _ _
      repeat still_step
      refine wpStill_nil ?_
      change wpList _ _ _ _ _ (World.drew w2)
      go_wp2_with fail
      go_ret
      rw [HR.out]
      exact PutRP.mk' rfl HR3.out HK.out
    · have hr := HP1.out
      rw [if_neg hf0] at hr
      have HP2 := Lib.hid hr
      have hf1 : f1 < 0 := by omega
      clear hr HP1
      by_cases hv : vt = 0
      · have hr := HP2.out
        rw [if_pos hv] at hr
        have HR := Lib.hid hr
        have HK := Lib.hid (Keep.of_below (B := OwnR p A L) HF2.out.b)
        have hv' : (vt == 0) = true := by simp [hv]
        clear hr HP2 HFR
        subst hv
        go_wp2_with fail
        go_ret
        rw [HR.out]
        exact PutRP.mk' rfl HR2.out HK.out
      · have hr := HP2.out
        rw [if_neg hv] at hr
        have HP3 := Lib.hid hr
        have hv' : (vt == 0) = false := by simp [hv]
        clear hr HP2
        by_cases hg : 0 ≤ f2
        · obtain ⟨m, hm, rfl⟩ : ∃ m : Nat, m < T.nodes ∧ f2 = (m : Int) := by
            rcases HFR.out.2 with h | ⟨y, h1, h2, -⟩
            · omega
            · exact ⟨y, h1, h2⟩
          have hr := HP3.out
          rw [if_pos hg, show (T.a : Int) + 2 * (m : Int) = ((T.a + 2 * m : Nat) : Int) by omega, show ((T.a + 2 * m : Nat) : Int) + 1 = ((T.a + 2 * m + 1 : Nat) : Int) by omega] at hr
          have HR := Lib.hid (show r = (insN T m ⟨kt, kn⟩ ⟨vt, vn⟩, true) from hr)
          obtain ⟨gL, rfl, hL⟩ := HR2.out.shapeL
          obtain ⟨g, rfl⟩ := hL (by omega)
          have c1 := HR2.out.c1
          obtain ⟨d0, d1, d2, d3⟩ := HR2.out.nodC hm
          have HR3 := Lib.hid ((HR2.out.setKV hm ⟨kt, kn⟩ ⟨vt, vn⟩).below (Below.refl _ _).drew)
          have HK := Lib.hid (((((Keep.of_below (B := OwnR p A (.slice (some ⟨g, 0, none⟩) T.nodes T.nodes)) HF2.out.b).setCell (p := ⟨g, m * 4, none⟩) (fun _ => .inr (.inr rfl)) (.int .i64 kt)).setCell (p := ⟨g, m * 4 + 1, none⟩) (fun _ => .inr (.inr rfl)) (.int .i64 kn)).setCell (p := ⟨g, m * 4 + 2, none⟩) (fun _ => .inr (.inr rfl)) (.int .i64 vt)).setCell (p := ⟨g, m * 4 + 2 + 1, none⟩) (fun _ => .inr (.inr rfl)) (.int .i64 vn)).drew
          have hfz := fun i => frz_at HR2.out.nod_at i
          have fz0 := hfz (m * 4)
          have fz1 := hfz (m * 4 + 1)
          have fz2 := hfz (m * 4 + 2)
          have fz3 := hfz (m * 4 + 2 + 1)
          have d4 : w2.cell? ⟨g, m * 4 + 3, none⟩ = _ := d3
          have fz4 : w2.frozen? ⟨g, m * 4 + 3, none⟩ = _ := fz3
          obtain ⟨N, hN⟩ : ∃ N, N = T.nodes := ⟨_, rfl⟩
          rw [← hN] at c1 hm
          clear hL hN hr HP3 HFR hfz
          go_wp2_with fail
          refine wp_region_still_tail 9 (by kernel_rfl) (by kernel_rfl) ?_
          simp only [List.take_succ_cons, List.take_zero, List.drop_succ_cons, List.drop_zero]
          change wpStill _ _ (World.drew w2) _ _ _
          repeat still_step
          refine wpStill_nil ?_
          change wpList _ _ _ _ _ (World.drew w2)
          go_wp2_with fail
          go_ret
          rw [HR.out]
          exact PutRP.mk' rfl HR3.out HK.out
        · have hr := HP3.out
          rw [if_neg hg] at hr
          have HR := Lib.hid hr
          have HK := Lib.hid (Keep.of_below (B := OwnR p A L) HF2.out.b)
          have hg' : f2 < 0 := by omega
          clear hr HP3 HFR
          go_wp2_with fail
          go_ret
          rw [HR.out]
          exact PutRP.mk' rfl HR2.out HK.out
end Go.Proofs.Ytpodgmajccmgkaa
