/- looks: do both have the same slots? -/
import Derived.Test.YtpodgmajccmgkaaTabDo
namespace Go.Proofs.Ytpodgmajccmgkaa
open Go.RowKit Go.Shelf
set_option linter.unusedVariables false
set_option linter.unusedSimpArgs false
attribute [local go_sem] Oper.semAt_some nil_slot field_t meth_array meth_nodes meth_slot meth_setslot meth_resize meth_hash

variable {w0 w w' W W' : World} {pm pr n : Nat} {T R : Tb} {X : Nat → Prop} {sv A L : Value}

theorem array_is (H : MemAt w pm sv T) {a : Nat} (ha : T.a = a) : Calls Try.prog 20 #[.pointer (some ⟨pm, 0, none⟩)] w fun e w' => e = .returned (.int .i64 a) ∧ Below w.heap.size w w' :=
  (array_any H).mono (fun e w' ⟨h1, h2⟩ => ⟨by rw [← ha]; exact h1, by rw [h2]; exact Below.refl _ _⟩)
theorem nodes_is (H : MemAt w pm sv T) {a : Nat} (ha : T.nodes = a) : Calls Try.prog 21 #[.pointer (some ⟨pm, 0, none⟩)] w fun e w' => e = .returned (.int .i64 a) ∧ Below w.heap.size w w' :=
  (nodes_any H).mono (fun e w' ⟨h1, h2⟩ => ⟨by rw [← ha]; exact h1, h2⟩)
theorem slot_is (H : MemAt w pm sv T) {i : Int} {a b : Int} (ha : slotT T i = ⟨a, b⟩) : Calls Try.prog 22 #[.pointer (some ⟨pm, 0, none⟩), .int .i64 i] w fun e w' => e = .returned (.agg #[.int .i64 a, .int .i64 b]) ∧ Below w.heap.size w w' :=
  (slot_any H i).mono (fun e w' ⟨h1, h2⟩ => ⟨by rw [ha] at h1; exact h1, h2⟩)

set_option maxRecDepth 100000 in
set_option maxHeartbeats 4000000 in
theorem looks_any {c : Nat} (h : St w0 w (fun _ => False) pm pr T T) (hM : MT T c) (hc : c ≤ 8000) : Calls Try.prog 24 #[.pointer (some ⟨pm, 0, none⟩), .pointer (some ⟨pr, 0, none⟩)] w fun e w' => DoP w0 pm pr T e w' := by
  have HS := Lib.hid (fun w' (hb : Below w.heap.size w w') => (h.step hb).1)
  obtain ⟨K, hK, hL⟩ := len_exists hM
  obtain ⟨sv, A, L, h1, h2, -⟩ := h
  obtain ⟨gA, rfl, hgA⟩ := h2.shapeA
  obtain ⟨gL, rfl, hgL⟩ := h2.shapeL
  have hsm : T.a + 2 * T.nodes ≤ 1000000 := by have := h2.small; have := h2.exact_; omega
  have HT := Lib.hid h1
  have HR := Lib.hid h2
  have HL := Lib.hid hL
  have hK6 : K ≤ 1000000 := by omega
  obtain ⟨a, ha⟩ : ∃ a, T.a = a := ⟨_, rfl⟩
  obtain ⟨N, hN⟩ : ∃ N, T.nodes = N := ⟨_, rfl⟩
  have HA := Lib.hid ha
  have HN := Lib.hid hN
  rw [ha, hN] at hsm HR
  rw [ha] at hgA
  rw [hN] at hgL
  have HGA := Lib.hid hgA
  have HGL := Lib.hid hgL
  have HC : Hid (∀ w', Below w.heap.size w w' → Below w.heap.size w w' ∧ w'.cell? ⟨pr, 0, none⟩ = some (.slice gA a a) ∧ w'.cell? ⟨pr, 1, none⟩ = some (.slice gL N N)) :=
    Lib.hid (fun w' hb => ⟨hb, (HR.out.below hb).c0, (HR.out.below hb).c1⟩)
  have HM : Hid (∀ w', Below w.heap.size w w' → MemAt w' pm sv T) := Lib.hid (fun w' hb => HT.out.m.below hb)
  clear h1 h2 ha hN hgA hgL hL
  go_enter Try.func24, Try.ntmps24
  go_upto_region 1 with fail
  go_cut [33] (fun s wx => s = .bool false ∧ Below w.heap.size w wx)
  case first =>
    go_region_held3 (fun w' => Below w.heap.size w w' ∧ w'.cell? ⟨pr, 0, none⟩ = some (.slice gA a a) ∧ w'.cell? ⟨pr, 1, none⟩ = some (.slice gL N N))
      (first | assumption | exact HC.out _ (Below.refl _ _).drew)
      ((first
        | (go_at_call 20; refine (array_is (HM.out _ (by first | assumption | exact (Below.refl _ _).drew)) HA.out).mono ?_; rintro e wz ⟨rfl, hz⟩; have bz := blj (show Below w.heap.size w _ from by first | assumption | exact (Below.refl _ _).drew) hz; have s1 := HC.out _ bz)
        | (go_at_call 21; refine (nodes_is (HM.out _ (by first | assumption | exact (Below.refl _ _).drew)) HN.out).mono ?_; rintro e wz ⟨rfl, hz⟩; have bz := blj (show Below w.heap.size w _ from by first | assumption | exact (Below.refl _ _).drew) hz; have s1 := HC.out _ bz)
        | (go_at_call 17; refine (len_has (HT.out.step (by first | assumption | exact (Below.refl _ _).drew)) K HL.out hK6).mono ?_; rintro e wz ⟨rfl, hz⟩; have bz := blj (show Below w.heap.size w _ from by first | assumption | exact (Below.refl _ _).drew) hz; have s1 := HC.out _ bz)
        | (go_at_call 42; refine (rlen_any (HR.out.below (by first | assumption | exact (Below.refl _ _).drew)) K HL.out hK6).mono ?_; rintro e wz ⟨rfl, hz⟩; have bz := blj (show Below w.heap.size w _ from by first | assumption | exact (Below.refl _ _).drew) hz; have s1 := HC.out _ bz)))
    all_goals (
      go_wp2_with fail
      go_meet
      exact ⟨by first | rfl | simp, bz⟩)
  case rest =>
    obtain ⟨rfl, hBc⟩ := hcut
    have HBC := Lib.hid hBc
    obtain ⟨-, c0, c1⟩ := HC.out _ hBc
    clear hBc
    go_wp2_with fail
    clear c0 c1
    go_loopw [5] (fun t wr => ∃ i : Nat, i ≤ a ∧ t = .int .i64 i ∧ Below w.heap.size w wr) (fun t _ => a - (intOf t).toNat)
    case atStart => exact ⟨0, Nat.zero_le _, by go_num, HBC.out⟩
    case round =>
      obtain ⟨i, hi, rfl, hBr⟩ := hrel
      have HBR := Lib.hid hBr
      obtain ⟨-, c0, c1⟩ := HC.out _ hBr
      clear hBr
      by_cases hlt : i < a
      · obtain ⟨g, rfl⟩ := HGA.out (by omega)
        have hiT : i < T.a := by rw [HA.out]; exact hlt
        obtain ⟨xt, xn, hx⟩ : ∃ xt xn, slotT T (i : Int) = ⟨xt, xn⟩ := ⟨_, _, rfl⟩
        have HX := Lib.hid hx
        have HC2 : Hid (∀ w', Below w.heap.size w w' → Below w.heap.size w w' ∧ w'.cell? ⟨pr, 0, none⟩ = some (.slice (some ⟨g, 0, none⟩) a a) ∧ w'.cell? ⟨g, i * 2, none⟩ = some (.int .i64 xt) ∧ w'.cell? ⟨g, i * 2 + 1, none⟩ = some (.int .i64 xn)) := by
          refine Lib.hid (fun w' hb => ⟨hb, (HC.out _ hb).2.1, ?_, ?_⟩)
          · have := ((HR.out.below hb).arrC hiT).1; unfold aN at this; rw [HX.out] at this; exact this
          · have := ((HR.out.below hb).arrC hiT).2; unfold aN at this; rw [HX.out] at this; exact this
        clear hx hiT c1
        go_upto_region 6 with fail
        clear c0
        go_cut [53] (fun s wx => s = .bool false ∧ Below w.heap.size w wx)
        case first =>
          go_region_held3 (fun w' => Below w.heap.size w w' ∧ w'.cell? ⟨pr, 0, none⟩ = some (.slice (some ⟨g, 0, none⟩) a a) ∧ w'.cell? ⟨g, i * 2, none⟩ = some (.int .i64 xt) ∧ w'.cell? ⟨g, i * 2 + 1, none⟩ = some (.int .i64 xn))
            (first | assumption | exact HC2.out _ HBR.out.drew)
            ((go_at_call 22; refine (slot_is (HM.out _ (by first | assumption | exact HBR.out.drew)) HX.out).mono ?_; rintro e wz ⟨rfl, hz⟩; have bz := blj (show Below w.heap.size w _ from by first | assumption | exact HBR.out.drew) hz; have s1 := HC2.out _ bz))
          all_goals (
            go_wp2_with fail
            go_meet
            exact ⟨by first | rfl | simp, bz⟩)
        case rest =>
          obtain ⟨rfl, hBc⟩ := hcut
          have HB2 := Lib.hid hBc
          clear hBc
          go_wp2_with fail
          go_roundw
          case rel => exact ⟨i + 1, by omega, by go_num, HB2.out⟩
          case measure => simp [intOf]; omega
      · obtain rfl : i = a := by omega
        go_wp2_with fail
        clear c0 c1
        go_loopw [6] (fun t wx => ∃ j : Nat, j ≤ N ∧ t = .int .i64 j ∧ Below w.heap.size w wx) (fun t _ => N - (intOf t).toNat)
        case atStart => exact ⟨0, Nat.zero_le _, by go_num, HBR.out⟩
        case round =>
          clear HBR
          obtain ⟨j, hj, rfl, hBr⟩ := hrel
          have HBR := Lib.hid hBr
          obtain ⟨-, c0, c1⟩ := HC.out _ hBr
          clear hBr
          by_cases hltj : j < N
          · obtain ⟨g, rfl⟩ := HGL.out (by omega)
            have hjT : j < T.nodes := by rw [HN.out]; exact hltj
            obtain ⟨yt, yn, hy⟩ : ∃ xt xn, kN T j = ⟨xt, xn⟩ := ⟨_, _, rfl⟩
            obtain ⟨xt, xn, hx⟩ : ∃ xt xn, vN T j = ⟨xt, xn⟩ := ⟨_, _, rfl⟩
            have HY : Hid (slotT T ((i : Int) + 2 * (j : Int)) = ⟨yt, yn⟩) := Lib.hid (by rw [← hy, ← HA.out]; unfold kN; congr 1)
            have HX : Hid (slotT T ((i : Int) + 2 * (j : Int) + 1) = ⟨xt, xn⟩) := Lib.hid (by rw [← hx, ← HA.out]; unfold vN; congr 1)
            have HC2 : Hid (∀ w', Below w.heap.size w w' → Below w.heap.size w w' ∧ w'.cell? ⟨pr, 0, none⟩ = some (.slice gA i i) ∧ w'.cell? ⟨pr, 1, none⟩ = some (.slice (some ⟨g, 0, none⟩) N N) ∧ w'.cell? ⟨g, j * 4, none⟩ = some (.int .i64 yt) ∧ w'.cell? ⟨g, j * 4 + 1, none⟩ = some (.int .i64 yn) ∧ w'.cell? ⟨g, j * 4 + 2, none⟩ = some (.int .i64 xt) ∧ w'.cell? ⟨g, j * 4 + 2 + 1, none⟩ = some (.int .i64 xn)) := by
              refine Lib.hid (fun w' hb => ?_)
              obtain ⟨q0, q1, q2, q3⟩ := (HR.out.below hb).nodC hjT
              rw [hy] at q0 q1
              rw [hx] at q2 q3
              exact ⟨hb, (HC.out _ hb).2.1, (HC.out _ hb).2.2, q0, q1, q2, q3⟩
            have hw1 : IntKind.i64.wrap (2 * (j : Int)) = 2 * (j : Int) := IntWalk.i64_in _ (by omega)
            have hw2 : IntKind.i64.wrap ((i : Int) + 2 * (j : Int)) = (i : Int) + 2 * (j : Int) := IntWalk.i64_in _ (by omega)
            have hw3 : IntKind.i64.wrap ((i : Int) + 2 * (j : Int) + 1) = (i : Int) + 2 * (j : Int) + 1 := IntWalk.i64_in _ (by omega)
            clear hx hy hjT
            go_upto_region 11 with fail
            clear c0 c1
            go_cut [103] (fun s wx => s = .bool false ∧ Below w.heap.size w wx)
            case first =>
              go_region_held3 (fun w' => Below w.heap.size w w' ∧ w'.cell? ⟨pr, 0, none⟩ = some (.slice gA i i) ∧ w'.cell? ⟨pr, 1, none⟩ = some (.slice (some ⟨g, 0, none⟩) N N) ∧ w'.cell? ⟨g, j * 4, none⟩ = some (.int .i64 yt) ∧ w'.cell? ⟨g, j * 4 + 1, none⟩ = some (.int .i64 yn) ∧ w'.cell? ⟨g, j * 4 + 2, none⟩ = some (.int .i64 xt) ∧ w'.cell? ⟨g, j * 4 + 2 + 1, none⟩ = some (.int .i64 xn))
                (first | assumption | exact HC2.out _ HBR.out.drew)
                ((first
                  | (go_at_call 22; (with_reducible refine (slot_is (HM.out _ (by first | assumption | exact HBR.out.drew)) HY.out).mono ?_); rintro e wz ⟨rfl, hz⟩; have bz := blj (show Below w.heap.size w _ from by first | assumption | exact HBR.out.drew) hz; have s1 := HC2.out _ bz)
                  | (go_at_call 22; (with_reducible refine (slot_is (HM.out _ (by first | assumption | exact HBR.out.drew)) HX.out).mono ?_); rintro e wz ⟨rfl, hz⟩; have bz := blj (show Below w.heap.size w _ from by first | assumption | exact HBR.out.drew) hz; have s1 := HC2.out _ bz)))
              all_goals (
                go_wp2_with fail
                go_meet
                exact ⟨by first | rfl | simp, bz⟩)
            case rest =>
              obtain ⟨rfl, hBc⟩ := hcut
              have HB2 := Lib.hid hBc
              clear hBc hw1 hw2 hw3
              go_wp2_with fail
              go_roundw
              case rel => exact ⟨j + 1, by omega, by go_num, HB2.out⟩
              case measure => simp [intOf]; omega
          · obtain rfl : j = N := by omega
            have HE := Lib.hid (HS.out _ HBR.out)
            go_wp2_with fail
            go_ret
            exact ⟨rfl, HE.out⟩
end Go.Proofs.Ytpodgmajccmgkaa
