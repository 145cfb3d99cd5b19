/- The document's table: Get, place, Len. -/
import Derived.Test.YtpodgmajccmgkaaR6Find
import Derived.Deep.RegionHeld3
namespace Go.Proofs.Ytpodgmajccmgkaa
open Go.RowKit Go.Shelf
set_option linter.unusedVariables false
set_option linter.unusedSimpArgs false
attribute [local go_sem] Oper.semAt_some field_t

variable {w w' W W' : World} {p : Nat} {A L : Value} {T T' : Tb}

/-- Some boxes, made since w. -/
structure Fr (w : World) (l : List (Nat × List Value × TypeId)) (W : World) : Prop where
  box : ∀ x, x ∈ l → Box W x.1 x.2.1 x.2.2
  b : Below w.heap.size w W
theorem Fr.step {l : List (Nat × List Value × TypeId)} (h : Fr w l W) (hb : Below W.heap.size W W') : Fr w l W' :=
  ⟨fun x hx => (h.box x hx).below hb (h.box x hx).lt, h.b.trans (hb.mono h.b.size)⟩
theorem Fr.cons {l : List (Nat × List Value × TypeId)} (h : Fr w l W) (x : List Value) (e : TypeId) : Fr w ((W.heap.size, x, e) :: l) (W.alloc (.cells x.toArray e)) := by
  refine ⟨fun y hy => ?_, h.b.alloc h.b.size _⟩
  rcases List.mem_cons.1 hy with rfl | hy
  · exact heap_alloc_new W _
  · exact (h.box y hy).alloc _

theorem boxes3G {w w1 : World} {l l' l'' : List Value} {e e' e'' : TypeId} (hb : Below (((w.alloc (.cells l.toArray e)).alloc (.cells l'.toArray e')).alloc (.cells l''.toArray e'')).heap.size (((w.alloc (.cells l.toArray e)).alloc (.cells l'.toArray e')).alloc (.cells l''.toArray e'')) w1) :
    Fr w [(w.heap.size, l, e), (w.heap.size + 1, l', e'), (w.heap.size + 1 + 1, l'', e'')] w1 := by
  obtain ⟨W0, hW0⟩ : ∃ W0, W0 = ((w.alloc (.cells l.toArray e)).alloc (.cells l'.toArray e')).alloc (.cells l''.toArray e'') := ⟨_, rfl⟩
  have hsz : W0.heap.size = w.heap.size + 3 := by rw [hW0]; simp
  have h0 : Box W0 w.heap.size l e := (by rw [hW0]; unfold Box World.alloc; simp only [Array.getElem?_push, Array.size_push]; repeat (first | rw [if_neg (by omega)] | rw [if_pos (by omega)] | rw [if_pos trivial]))
  have h1 : Box W0 (w.heap.size + 1) l' e' := (by rw [hW0]; unfold Box World.alloc; simp only [Array.getElem?_push, Array.size_push]; repeat (first | rw [if_neg (by omega)] | rw [if_pos (by omega)] | rw [if_pos trivial]))
  have h2 : Box W0 (w.heap.size + 1 + 1) l'' e'' := (by rw [hW0]; unfold Box World.alloc; simp only [Array.getElem?_push, Array.size_push]; repeat (first | rw [if_neg (by omega)] | rw [if_pos (by omega)] | rw [if_pos trivial]))
  have hB0 : Below w.heap.size w W0 := by rw [hW0]; exact (by repeat (first | exact Below.refl _ _ | refine Below.alloc ?_ (by first | (simp; done) | (simp; omega)) _ | refine Below.drew ?_ | refine Below.setCell ?_ (by first | (simp; done) | (simp; omega)) _))
  rw [← hW0] at hb
  refine ⟨?_, hB0.trans (hb.mono (by omega))⟩
  intro x hx
  simp only [List.mem_cons, List.not_mem_nil, or_false] at hx
  rcases hx with rfl | rfl | rfl
  · exact h0.below hb (by first | (simp only; omega) | omega)
  · exact h1.below hb (by first | (simp only; omega) | omega)
  · exact h2.below hb (by first | (simp only; omega) | omega)

theorem rin_is (H : RefAt w p A L T) {k : V} {q : Bool} (hq : inAB T k = q) : Calls Try.prog 56 #[.pointer (some ⟨p, 0, none⟩), .agg #[.int .i64 k.t, .int .i64 k.n]] w fun e w' => e = .returned (.bool q) ∧ Below w.heap.size w w' := by
  have := rin_any H k
  rw [hq] at this
  exact this
theorem rfind_is (H : RefAt w p A L T) {k : V} {f1 f2 : Int} (hf : findN T k = (f1, f2)) : Calls Try.prog 57 #[.pointer (some ⟨p, 0, none⟩), .agg #[.bool false, .slice none 0 0, .slice none 0 0], .agg #[.int .i64 k.t, .int .i64 k.n]] w fun e w' => e = .returned (.tuple #[.int .i64 f1, .int .i64 f2]) ∧ Below w.heap.size w w' := by
  have := rfind_any H k
  rw [hf] at this
  exact this

set_option maxRecDepth 100000 in
set_option maxHeartbeats 2000000 in
theorem rget_any (H : RefAt w p A L T) (k : V) : Calls Try.prog 39 #[.pointer (some ⟨p, 0, none⟩), .agg #[.bool false, .slice none 0 0, .slice none 0 0], .agg #[.int .i64 k.t, .int .i64 k.n]] w fun e w' => e = .returned (.agg #[.int .i64 (getT T k).t, .int .i64 (getT T k).n]) ∧ Below w.heap.size w w' := by
  obtain ⟨a, b, q, hq⟩ := keyIs_ex k
  have HK := Lib.hid (fun w => rkey_as hq w)
  obtain ⟨⟨rt, rn⟩, hr⟩ : ∃ v, v = getT T k := ⟨_, rfl⟩
  rw [← hr]
  have HG : Hid (if q = true then (V.mk rt rn) = (if inAB T ⟨a, b⟩ = true then aN T (b - 1).toNat else if (findN T ⟨a, b⟩).1 < 0 then nilV else vN T (findN T ⟨a, b⟩).1.toNat) else (V.mk rt rn) = nilV) := by
    refine Lib.hid ?_
    rcases hq with ⟨rfl, h⟩ | ⟨rfl, h, -⟩
    · rw [if_pos rfl, hr, getT_ref h]
    · rw [if_neg (by decide), hr, getT_none h]
  have HH := Lib.hid H
  obtain ⟨kt, kn⟩ := k
  simp only at *
  clear hq hr H
  go_enter Try.func39, Try.ntmps39
  go_wp2_with fail
  refine (HK.out _).mono ?_
  rintro e w1 ⟨rfl, hb⟩
  have HF := Lib.hid ((boxes3G (l := [.bool false, .slice none 0 0, .slice none 0 0]) (l' := [.int .i64 kt, .int .i64 kn]) (l'' := [.int .i64 0, .int .i64 0]) hb).cons [.int .i64 a, .int .i64 b] 27)
  clear HK hb
  cases q with
  | false =>
    have hg := HG.out
    rw [if_neg (by decide)] at hg
    unfold nilV at hg
    simp only [V.mk.injEq] at hg
    obtain ⟨rfl, rfl⟩ := hg
    clear HG
    obtain ⟨z0, z1, y0, y1⟩ := (HF.out.box (w.heap.size + 1 + 1, [.int .i64 0, .int .i64 0], 27) (by simp)).cells2
    have HB := Lib.hid HF.out.b
    go_wp2_with fail
    refine bodyPost_ret (v := .agg #[.int .i64 0, .int .i64 0]) (by simp [results, Try.results39, go_sem, z0, z1]) rfl ⟨rfl, ?_⟩
    exact (HB.out.setCell (p := ⟨w.heap.size + 1 + 1, 0, none⟩) (by first | (simp only; omega) | omega) _).setCell (p := ⟨w.heap.size + 1 + 1, 1, none⟩) (by first | (simp only; omega) | omega) _
  | true =>
    have hg := HG.out
    rw [if_pos rfl] at hg
    clear HG
    have HG := Lib.hid hg
    clear hg
    have HR := Lib.hid (HH.out.below HF.out.b)
    obtain ⟨q, hq⟩ : ∃ q, inAB T ⟨a, b⟩ = q := ⟨_, rfl⟩
    have HI := Lib.hid (fun w (h : RefAt w p A L T) => rin_is h hq)
    have HQ := Lib.hid hq
    clear hq
    go_wp2_with fail
    refine (HI.out _ HR.out).mono ?_
    rintro e w2 ⟨rfl, hb2⟩
    have HF2 := Lib.hid (HF.out.step hb2)
    have HR2 := Lib.hid (HR.out.below hb2)
    clear hb2 HI HR HF
    obtain ⟨b1, hb1⟩ : ∃ b1, b1 = w1.heap.size := ⟨_, rfl⟩
    rw [← hb1] at HF2 ⊢
    clear hb1
    cases q with
    | true =>
      have hg := HG.out
      rw [if_pos HQ.out] at hg
      have hin := inAB_iff.1 HQ.out
      unfold inA at hin
      simp only at hin
      obtain ⟨m, rfl⟩ : ∃ m : Nat, b = (m : Int) + 1 := ⟨(b - 1).toNat, by omega⟩
      have hm : m < T.a := by omega
      rw [show ((m : Int) + 1 - 1).toNat = m by omega] at hg
      obtain ⟨g, rfl, hA⟩ := HR2.out.shapeA
      obtain ⟨g, rfl⟩ := hA (by omega)
      have c0 := HR2.out.c0
      obtain ⟨d0, d1⟩ := HR2.out.arrC hm
      rw [← hg] at d0 d1
      simp only at d0 d1
      obtain ⟨k0, k1, -, -⟩ := (HF2.out.box (b1, [.int .i64 a, .int .i64 ((m : Int) + 1)], 27) (by simp)).cells2
      obtain ⟨z0, z1, y0, y1⟩ := (HF2.out.box (w.heap.size + 1 + 1, [.int .i64 0, .int .i64 0], 27) (by simp)).cells2
      obtain ⟨N, hN⟩ : ∃ N, N = T.a := ⟨_, rfl⟩
      rw [← hN] at c0 hm
      have hs : N ≤ 1000000 := by have := HR2.out.small; have := HR2.out.exact_; omega
      have hw1 : IntKind.i64.wrap (m : Int) = (m : Int) := IntWalk.i64_in _ (by omega)
      have hB := Lib.hid HF2.out.b
      clear hin hg hA hN
      go_wp2_with fail
      refine wp_region_still_tail 9 (by kernel_rfl) (by kernel_rfl) ?_
      simp only [List.take_succ_cons, List.take_zero, List.drop_succ_cons, List.drop_zero]
      change wpStill _ _ (World.drew w2) _ _ _
      repeat still_step
      refine wpStill_nil ?_
      change wpList _ _ _ _ _ (World.drew w2)
      go_wp2_with fail
      refine bodyPost_ret (v := .agg #[.int .i64 rt, .int .i64 rn]) (by simp [results, Try.results39, go_sem, z0, z1, y0, y1]) rfl ⟨rfl, ?_⟩
      exact ((hB.out.drew).setCell (p := ⟨w.heap.size + 1 + 1, 0, none⟩) (by simp only; omega) _).setCell (p := ⟨w.heap.size + 1 + 1, 1, none⟩) (by simp only; omega) _
    | false =>
      have hg := HG.out
      rw [if_neg (show ¬ inAB T ⟨a, b⟩ = true by rw [HQ.out]; decide)] at hg
      obtain ⟨f1, f2, hf⟩ : ∃ f1 f2, findN T ⟨a, b⟩ = (f1, f2) := ⟨_, _, rfl⟩
      rw [hf] at hg
      simp only at hg
      have hfr := (findN_range T ⟨a, b⟩).1
      rw [hf] at hfr
      simp only at hfr
      have HFC := Lib.hid (fun w (h : RefAt w p A L T) => rfind_is h hf)
      have HG2 := Lib.hid hg
      obtain ⟨k0, k1, -, -⟩ := (HF2.out.box (b1, [.int .i64 a, .int .i64 b], 27) (by simp)).cells2
      obtain ⟨x0, x1, x2⟩ := (HF2.out.box (w.heap.size, [.bool false, .slice none 0 0, .slice none 0 0], 77) (by simp)).cells3
      clear hg hf HG
      go_wp2_with fail
      refine (HFC.out _ HR2.out).mono ?_
      rintro e w3 ⟨rfl, hb3⟩
      have HF3 := Lib.hid (HF2.out.step hb3)
      have HR3 := Lib.hid (HR2.out.below hb3)
      clear hb3 k0 k1 x0 x1 x2
      obtain ⟨z0, z1, y0, y1⟩ := (HF3.out.box (w.heap.size + 1 + 1, [.int .i64 0, .int .i64 0], 27) (by simp)).cells2
      have hB := Lib.hid HF3.out.b
      rcases hfr with rfl | ⟨m, hm, rfl⟩
      · have hg := HG2.out
        rw [if_pos (by omega)] at hg
        unfold nilV at hg
        simp only [V.mk.injEq] at hg
        obtain ⟨rfl, rfl⟩ := hg
        clear HG2
        go_wp2_with fail
        refine bodyPost_ret (v := .agg #[.int .i64 0, .int .i64 0]) (by simp [results, Try.results39, go_sem, z0, z1, y0, y1]) rfl ⟨rfl, ?_⟩
        exact ((hB.out).setCell (p := ⟨w.heap.size + 1 + 1, 0, none⟩) (by simp only; omega) _).setCell (p := ⟨w.heap.size + 1 + 1, 1, none⟩) (by simp only; omega) _
      · have hg := HG2.out
        rw [if_neg (by omega), Int.toNat_natCast] at hg
        obtain ⟨g, rfl, hL⟩ := HR3.out.shapeL
        obtain ⟨g, rfl⟩ := hL (by omega)
        have c1 := HR3.out.c1
        obtain ⟨-, -, d0, d1⟩ := HR3.out.nodC hm
        rw [← hg] at d0 d1
        simp only at d0 d1
        obtain ⟨N, hN⟩ : ∃ N, N = T.nodes := ⟨_, rfl⟩
        rw [← hN] at c1 hm
        clear hg hL hN HG2
        go_wp2_with fail
        refine bodyPost_ret (v := .agg #[.int .i64 rt, .int .i64 rn]) (by simp [results, Try.results39, go_sem, z0, z1, y0, y1]) rfl ⟨rfl, ?_⟩
        exact ((hB.out).setCell (p := ⟨w.heap.size + 1 + 1, 0, none⟩) (by simp only; omega) _).setCell (p := ⟨w.heap.size + 1 + 1, 1, none⟩) (by simp only; omega) _

/-! ### place -/
def placeN (T : Tb) (k : V) : Int := if inAB T k = true then k.n - 1 else if (findN T k).1 < 0 then -1 else T.a + (findN T k).1
set_option maxRecDepth 100000 in
set_option maxHeartbeats 2000000 in
theorem rplace_any (H : RefAt w p A L T) (k : V) : Calls Try.prog 58 #[.pointer (some ⟨p, 0, none⟩), .agg #[.bool false, .slice none 0 0, .slice none 0 0], .agg #[.int .i64 k.t, .int .i64 k.n]] w fun e w' => e = .returned (.int .i64 (placeN T k)) ∧ Below w.heap.size w w' := by
  obtain ⟨q, hq⟩ : ∃ q, inAB T k = q := ⟨_, rfl⟩
  obtain ⟨f1, f2, hf⟩ : ∃ f1 f2, findN T k = (f1, f2) := ⟨_, _, rfl⟩
  have hfr := (findN_range T k).1
  rw [hf] at hfr
  simp only at hfr
  have hin := fun h : q = true => inAB_iff.1 (hq.trans h)
  obtain ⟨r, hr⟩ : ∃ r, r = placeN T k := ⟨_, rfl⟩
  have hr2 := hr
  rw [← hr]
  unfold placeN at hr
  rw [hq, hf] at hr
  simp only at hr
  have HI := Lib.hid (fun w (h : RefAt w p A L T) => rin_is h hq)
  have HFC := Lib.hid (fun w (h : RefAt w p A L T) => rfind_is h hf)
  have HH := Lib.hid H
  have HP := Lib.hid hr
  obtain ⟨kt, kn⟩ := k
  simp only at *
  clear hq hf hr hr2 H
  have hfr0 : Fr w [(w.heap.size, [.bool false, .slice none 0 0, .slice none 0 0], 77), (w.heap.size + 1, [.int .i64 kt, .int .i64 kn], 27)] ((w.alloc (.cells #[.bool false, .slice none 0 0, .slice none 0 0] 77)).alloc (.cells #[.int .i64 kt, .int .i64 kn] 27)) := by
    obtain ⟨h1, h2, h3⟩ := boxesG (l := [.bool false, .slice none 0 0, .slice none 0 0]) (l' := [.int .i64 kt, .int .i64 kn]) (Below.refl ((w.alloc (.cells #[.bool false, .slice none 0 0, .slice none 0 0] 77)).alloc (.cells #[.int .i64 kt, .int .i64 kn] 27)).heap.size _)
    refine ⟨fun x hx => ?_, h3⟩
    simp only [List.mem_cons, List.not_mem_nil, or_false] at hx
    rcases hx with rfl | rfl
    · exact h1
    · exact h2
  obtain ⟨W0, hW0⟩ : ∃ W, W = ((w.alloc (.cells #[.bool false, .slice none 0 0, .slice none 0 0] 77)).alloc (.cells #[.int .i64 kt, .int .i64 kn] 27)) := ⟨_, rfl⟩
  rw [← hW0] at hfr0
  have HF := Lib.hid hfr0
  have HW := Lib.hid hW0
  clear hfr0 hW0
  go_enter Try.func58, Try.ntmps58
  go_wp2_with fail
  rw [← HW.out]
  refine (HI.out _ (HH.out.below HF.out.b)).mono ?_
  rintro e w1 ⟨rfl, hb1⟩
  have HF1 := Lib.hid (HF.out.step hb1)
  have HR1 := Lib.hid (HH.out.below HF1.out.b)
  obtain ⟨k0, k1, -, -⟩ := (HF1.out.box (w.heap.size + 1, [.int .i64 kt, .int .i64 kn], 27) (by simp)).cells2
  clear hb1 HI HF
  cases q with
  | true =>
    have hi := hin rfl
    unfold inA at hi
    simp only at hi
    have hr := HP.out
    rw [if_pos rfl] at hr
    have hs : T.a ≤ 1000000 := by have := HR1.out.small; have := HR1.out.exact_; omega
    have hw1 : IntKind.i64.wrap (kn - 1) = r := by rw [hr]; exact IntWalk.i64_in _ (by omega)
    clear hi hin hr HP
    go_wp2_with fail
    go_ret
    exact ⟨rfl, HF1.out.b⟩
  | false =>
    obtain ⟨x0, x1, x2⟩ := (HF1.out.box (w.heap.size, [.bool false, .slice none 0 0, .slice none 0 0], 77) (by simp)).cells3
    have hr := HP.out
    rw [if_neg (by decide)] at hr
    clear hin HP
    have HP := Lib.hid hr
    clear hr
    go_wp2_with fail
    refine (HFC.out _ HR1.out).mono ?_
    rintro e w2 ⟨rfl, hb2⟩
    have HF2 := Lib.hid (HF1.out.step hb2)
    have HR2 := Lib.hid (HR1.out.below hb2)
    clear hb2 k0 k1 x0 x1 x2 HF1 HR1 HFC
    rcases hfr with rfl | ⟨m, hm, rfl⟩
    · have hr := HP.out
      rw [if_pos (by omega)] at hr
      subst hr
      clear HP
      go_wp2_with fail
      go_ret
      exact ⟨rfl, HF2.out.b⟩
    · have hr := HP.out
      rw [if_neg (by omega)] at hr
      obtain ⟨g, rfl, -⟩ := HR2.out.shapeA
      have c0 := HR2.out.c0
      have hs : T.a + m ≤ 1000000 := by have := HR2.out.small; have := HR2.out.exact_; omega
      have HM := Lib.hid hm
      have HR3 := Lib.hid hr
      obtain ⟨N, hN⟩ : ∃ N, N = T.a := ⟨_, rfl⟩
      rw [← hN] at c0 hs
      have hw1 : IntKind.i64.wrap ((N : Int) + (m : Int)) = r := by rw [hr, hN]; exact IntWalk.i64_in _ (by omega)
      clear hm hr hN HP
      go_wp2_with fail
      go_ret
      exact ⟨by first | rfl | rw [HR3.out], HF2.out.b⟩

/-! ### Len -/
theorem blj {W W1 W2 : World} (h : Below W.heap.size W W1) (k : Below W1.heap.size W1 W2) : Below W.heap.size W W2 := h.trans (k.mono h.size)
theorem rint_any' (n : Int) (w : World) : Calls Try.prog 50 #[.int .i64 n] w fun e w' => e = .returned (.agg #[.int .i64 2, .int .i64 n]) ∧ Below w.heap.size w w' := rint_any n w
set_option maxRecDepth 100000 in
set_option maxHeartbeats 2000000 in
theorem rlen_any (H : RefAt w p A L T) (N : Nat) (hN : IsLen T N) (hN6 : N ≤ 1000000) : Calls Try.prog 42 #[.pointer (some ⟨p, 0, none⟩), .agg #[.bool false, .slice none 0 0, .slice none 0 0]] w fun e w' => e = .returned (.int .i64 N) ∧ Below w.heap.size w w' := by
  have HH := Lib.hid H
  have HN := Lib.hid hN
  have hF0 : Fr w [(w.heap.size, [.bool false, .slice none 0 0, .slice none 0 0], 77)] (w.alloc (.cells #[.bool false, .slice none 0 0, .slice none 0 0] 77)) :=
    (Fr.mk (w := w) (l := []) (by simp) (Below.refl _ w)).cons [.bool false, .slice none 0 0, .slice none 0 0] _
  obtain ⟨W0, hW0⟩ : ∃ W, W = w.alloc (.cells #[.bool false, .slice none 0 0, .slice none 0 0] 77) := ⟨_, rfl⟩
  rw [← hW0] at hF0
  have HF0 := Lib.hid hF0
  have HW := Lib.hid hW0
  clear H hN hF0 hW0
  go_enter Try.func42, Try.ntmps42
  go_wp2_with fail
  rw [← HW.out]
  go_loopw [5] (fun t5 wr => ∃ i : Nat, i ≤ N ∧ t5 = .int .i64 i ∧ Below W0.heap.size W0 wr) (fun t5 _ => N - (intOf t5).toNat)
  case atStart => exact ⟨0, Nat.zero_le _, by go_num, Below.refl _ _⟩
  case round =>
    obtain ⟨i, hi, rfl, hB⟩ := hrel
    have hw1 : IntKind.i64.wrap ((i : Int) + 1) = (i : Int) + 1 := IntWalk.i64_in _ (by omega)
    have HF := Lib.hid (HF0.out.step hB)
    have HB := Lib.hid hB
    obtain ⟨x0, x1, x2⟩ := (HF.out.box (w.heap.size, [.bool false, .slice none 0 0, .slice none 0 0], 77) (by simp)).cells3
    have hbz : w.heap.size < wr.heap.size := (HF.out.box (w.heap.size, [.bool false, .slice none 0 0, .slice none 0 0], 77) (by simp)).lt
    have HR := Lib.hid (HH.out.below HF.out.b)
    have GC : ∀ w', Below wr.heap.size wr w' → _ := fun w' hb => rget_any (HR.out.below hb) ⟨2, (i : Int) + 1⟩
    obtain ⟨⟨gt, gn⟩, hg⟩ : ∃ g, g = getT T ⟨2, (i : Int) + 1⟩ := ⟨_, rfl⟩
    simp only at GC
    rw [← hg] at GC
    simp only at GC
    have h0 : gt = 0 → i = N := fun h => by
      rcases Nat.lt_or_ge i N with hl | hl
      · exact absurd (by rw [← hg]; exact h) (HN.out.2 i hl)
      · omega
    have h1 : i = N → gt = 0 := fun h => by
      have := HN.out.1
      rw [← h, ← hg] at this
      exact this
    have HGC := Lib.hid GC
    have H0 := Lib.hid h0
    have H1 := Lib.hid h1
    clear hB GC hg h0 h1
    have HC3 : Hid (∀ w', Below wr.heap.size wr w' → Below wr.heap.size wr w' ∧ w'.cell? ⟨w.heap.size, 0, none⟩ = some (.bool false) ∧ w'.cell? ⟨w.heap.size, 1, none⟩ = some (.slice none 0 0) ∧ w'.cell? ⟨w.heap.size, 2, none⟩ = some (.slice none 0 0)) :=
      Lib.hid fun w' hb => ⟨hb, ((HF.out.step hb).box (w.heap.size, [.bool false, .slice none 0 0, .slice none 0 0], 77) (by simp)).cells3⟩
    go_wp2_with fail
    clear x0 x1 x2
    go_region_held3 (fun w' => Below wr.heap.size wr w' ∧ w'.cell? ⟨w.heap.size, 0, none⟩ = some (.bool false) ∧ w'.cell? ⟨w.heap.size, 1, none⟩ = some (.slice none 0 0) ∧ w'.cell? ⟨w.heap.size, 2, none⟩ = some (.slice none 0 0))
      (first | assumption | exact HC3.out _ (Below.refl _ _).drew)
      ((first | (go_at_call 50; refine (rint_any' _ _).mono ?_; rintro e wz ⟨rfl, hz⟩; have hz2 := blj (show Below wr.heap.size wr _ from by first | exact (Below.refl _ _).drew | assumption) hz; have s1 := HC3.out _ hz2) | (go_at_call 39; refine (HGC.out _ (by assumption)).mono ?_; rintro e wy ⟨rfl, hy⟩; have hy2 := blj (show Below wr.heap.size wr _ from by assumption) hy; have s2 := HC3.out _ hy2)))
    all_goals (
      by_cases hz : gt = 0
      · obtain rfl : i = N := H0.out hz
        have hz' : (gt == 0) = true := by simp [hz]
        subst hz
        go_wp2_with fail
        go_ret
        exact ⟨rfl, HF.out.b.trans (hy2.mono HF.out.b.size)⟩
      · have hz' : (gt == 0) = false := by simp [hz]
        have hz'' : (gt != 0) = true := by simp [hz]
        have hne : i ≠ N := fun h => hz (H1.out h)
        go_wp2_with fail
        go_roundw
        case rel => exact ⟨i + 1, by omega, by go_num, HB.out.trans (hy2.mono HB.out.size)⟩
        case measure => simp [intOf]; omega)
end Go.Proofs.Ytpodgmajccmgkaa
