/- The reference's keys: Whole, Key. -/
import Derived.Test.YtpodgmajccmgkaaRefKey
namespace Go.Proofs.Ytpodgmajccmgkaa
open Go.RowKit
set_option linter.unusedVariables false
set_option linter.unusedSimpArgs false
attribute [local go_sem] Oper.semAt_some

set_option maxRecDepth 100000 in
set_option maxHeartbeats 1000000 in
theorem rwhole_any (v : V) (w : World) : Calls Try.prog 49 #[v.val] w fun e w' => (match wholeR v with
    | some n => e = .returned (.tuple #[.int .i64 n, .int .i64 0])
    | none => ∃ k : Int, k ≠ 0 ∧ e = .returned (.tuple #[.int .i64 0, .int .i64 k])) ∧ Below w.heap.size w w' := by
  have O := ris_any v
  have RR := rreal_any v
  obtain ⟨t, n⟩ := v
  obtain ⟨q, hq⟩ : ∃ q, q = isR ⟨t, n⟩ := ⟨_, rfl⟩
  obtain ⟨b, hb⟩ : ∃ b, b = fbits n := ⟨_, rfl⟩
  obtain ⟨r, hr⟩ : ∃ r, r = wholeR ⟨t, n⟩ := ⟨_, rfl⟩
  have hrv : r = if q = true then
    if t = 2 then some n
    else match floatToIntVal .f64 (fbits n) .i64 with
      | some n' => if (FloatKind.f64.format.order (fbits n) 14114281232179134464 = some .gt ∨ FloatKind.f64.format.order (fbits n) 14114281232179134464 = some .eq) ∧
          FloatKind.f64.format.order (fbits n) 4890909195324358656 = some .lt ∧ FloatKind.f64.format.order (floatOfInt .f64 n') (fbits n) = some .eq then some n' else none
      | none => none
    else none := by rw [hr, hq]; rfl
  rw [← hq] at O
  rw [← hr]
  rw [← hb] at hrv
  simp only at RR
  rw [← hb] at RR
  have HRV := Lib.hid hrv
  have HRR := Lib.hid RR
  clear hb hq hr hrv RR
  unfold V.val at *
  simp only at *
  go_enter Try.func49, Try.ntmps49
  go_wp2_with fail
  refine (O _).mono ?_
  clear O
  rintro e w1 ⟨rfl, hb⟩
  obtain ⟨hb1, hb2⟩ := below_up hb
  obtain ⟨d0, d1⟩ := box_v hb1
  have HB := Lib.hid hb2
  clear hb hb1 hb2
  cases q with
  | false =>
    have hr := HRV.out
    rw [if_neg (by simp)] at hr
    subst hr
    clear HRV
    go_wp2_with fail
    go_ret2
    exact ⟨⟨10, by decide, rfl⟩, HB.out⟩
  | true =>
    have hr := HRV.out
    rw [if_pos rfl] at hr
    clear HRV
    by_cases h2 : t = 2
    · rw [if_pos h2] at hr
      subst hr h2
      go_wp2_with fail
      go_ret2
      exact ⟨rfl, HB.out⟩
    · rw [if_neg h2] at hr
      have HR := Lib.hid hr
      have h2' : (t == 2) = false := by simp [h2]
      clear hr
      go_wp2_with fail
      refine (HRR.out _).mono ?_
      rintro e w2 ⟨rfl, hb2⟩
      have HB2 := Lib.hid (HB.out.trans (hb2.mono HB.out.size))
      clear hb2 HRR d0 d1
      by_cases hlo : FloatKind.f64.format.order b 14114281232179134464 = some .gt ∨ FloatKind.f64.format.order b 14114281232179134464 = some .eq
      · by_cases hhi : FloatKind.f64.format.order b 4890909195324358656 = some .lt
        · obtain ⟨m, hm⟩ := range_some hlo hhi
          have hc := fun W => run_convert_float_int (P := Try.prog) W 70 2 .f64 .i64 b m (by kernel_rfl) (by kernel_rfl) hm
          by_cases heq : FloatKind.f64.format.order (floatOfInt .f64 m) b = some .eq
          · have hr := HR.out
            rw [hm] at hr
            simp only at hr
            rw [if_pos ⟨hlo, hhi, heq⟩] at hr
            subst hr
            clear HR hm
            rcases hlo with hlo | hlo
            all_goals
              go_wp2_with fail
              go_ret2
              exact ⟨rfl, HB2.out⟩
          · have hr := HR.out
            rw [hm] at hr
            simp only at hr
            rw [if_neg (fun h => heq h.2.2)] at hr
            subst hr
            have heq' : (FloatKind.f64.format.order (floatOfInt .f64 m) b == some .eq) = false := by simp [heq]
            clear HR hm
            rcases hlo with hlo | hlo
            all_goals
              go_wp2_with fail
              go_ret2
              exact ⟨⟨12, by decide, rfl⟩, HB2.out⟩
        · have hr : r = none := by
            have := HR.out
            rw [this]
            split
            · rw [if_neg (fun h => hhi h.2.1)]
            · rfl
          subst hr
          have hhi' : (FloatKind.f64.format.order b 4890909195324358656 == some .lt) = false := by simp [hhi]
          clear HR hhi
          rcases hlo with hlo | hlo
          all_goals
            go_wp2_with fail
            go_ret2
            exact ⟨⟨12, by decide, rfl⟩, HB2.out⟩
      · have hr : r = none := by
          have := HR.out
          rw [this]
          split
          · rw [if_neg (fun h => hlo h.1)]
          · rfl
        subst hr
        clear HR
        have hg1 : (FloatKind.f64.format.order b 14114281232179134464 == some .gt) = false := by
          have : ¬ FloatKind.f64.format.order b 14114281232179134464 = some .gt := fun h => hlo (.inl h)
          simp [this]
        have hg2 : (FloatKind.f64.format.order b 14114281232179134464 == some .eq) = false := by
          have : ¬ FloatKind.f64.format.order b 14114281232179134464 = some .eq := fun h => hlo (.inr h)
          simp [this]
        clear hlo
        go_wp2_with fail
        go_ret2
        exact ⟨⟨12, by decide, rfl⟩, HB2.out⟩

set_option maxHeartbeats 1000000 in
theorem rnumkey_any (v : V) (w : World) : Calls Try.prog 33 #[v.val] w fun e w' => e = .returned (numKey v).val ∧ Below w.heap.size w w' := by
  have W := rwhole_any v
  obtain ⟨t, n⟩ := v
  cases hr : wholeR ⟨t, n⟩ with
  | none =>
    have hk : numKey ⟨t, n⟩ = ⟨t, n⟩ := by unfold numKey; rw [hr]
    rw [hr] at W
    rw [hk]
    clear hr hk
    unfold V.val at *
    simp only at *
    go_enter Try.func33, Try.ntmps33
    go_wp2_with fail
    refine (W _).mono ?_
    clear W
    rintro e w1 ⟨⟨k, hk0, rfl⟩, hb⟩
    obtain ⟨d0, d1, hz, hB⟩ := box_v2 (below_up2 hb)
    obtain ⟨z0, z1, z2, z3⟩ := zero_cells hz
    have HB := Lib.hid hB
    have hk1 : (k == 0) = false := by simp [hk0]
    clear hb hz hB
    go_wp2_with fail
    exact bodyPost_ret (v := .agg #[.int .i64 t, .int .i64 n]) (by simp [results, Try.results33, go_sem, z0, z1]) rfl ⟨rfl, (HB.out.setCell (p := ⟨w.heap.size + 1, 0, none⟩) (Nat.le_succ _) _).setCell (p := ⟨w.heap.size + 1, 1, none⟩) (Nat.le_succ _) _⟩
  | some m =>
    have hk : numKey ⟨t, n⟩ = ⟨2, m⟩ := by unfold numKey; rw [hr]
    rw [hr] at W
    rw [hk]
    clear hr hk
    unfold V.val at *
    simp only at *
    go_enter Try.func33, Try.ntmps33
    go_wp2_with fail
    refine (W _).mono ?_
    clear W
    rintro e w1 ⟨rfl, hb⟩
    obtain ⟨d0, d1, hz, hB⟩ := box_v2 (below_up2 hb)
    have HZ := Lib.hid hz
    have HB := Lib.hid hB
    clear hb hz hB
    go_wp2_with fail
    refine (rint_any m _).mono ?_
    rintro e w2 ⟨rfl, hb⟩
    have hz2 := (hb.block _ (Array.getElem?_eq_some_iff.1 HZ.out).1).trans HZ.out
    obtain ⟨z0, z1, z2, z3⟩ := zero_cells hz2
    have HB2 := Lib.hid (HB.out.trans (hb.mono HB.out.size))
    clear hb hz2
    unfold V.val
    go_wp2_with fail
    exact bodyPost_ret (v := .agg #[.int .i64 2, .int .i64 m]) (by simp [results, Try.results33, go_sem, z0, z1]) rfl ⟨rfl, (HB2.out.setCell (p := ⟨w.heap.size + 1, 0, none⟩) (Nat.le_succ _) _).setCell (p := ⟨w.heap.size + 1, 1, none⟩) (Nat.le_succ _) _⟩

theorem nan_is : isR ⟨3, theNaN⟩ = true ∧ nanB (ofB ⟨3, theNaN⟩) = true := ⟨by kernel_rfl, by kernel_rfl⟩
theorem keyR_ref (n : Int) : (isR ⟨3, n⟩ = false ∨ nanB (ofB ⟨3, n⟩) = true) ↔ (isR ⟨3, n⟩ = false ∨ n = theNaN) := by
  constructor
  · rintro (h | h)
    · exact .inl h
    · cases hq : isR ⟨3, n⟩ with
      | false => exact .inl rfl
      | true =>
        right
        have h1 := hq
        unfold ofB at h
        rw [if_pos hq, if_neg (show ¬ (3 : Int) = 2 by decide)] at h
        unfold isR at h1
        rw [if_pos rfl] at h1
        simp only at h1 h
        rw [if_pos h] at h1
        simpa using h1
  · rintro (h | h)
    · exact .inl h
    · subst h; exact .inr nan_is.2

set_option maxHeartbeats 1000000 in
theorem rkey_any (v : V) (w : World) : Calls Try.prog 14 #[v.val] w fun e w' => (match keyR v with
    | some k => e = .returned (.tuple #[k.val, .bool true])
    | none => e = .returned (.tuple #[v.val, .bool false])) ∧ Below w.heap.size w w' := by
  have O := ris_any v
  have K := rnumkey_any v
  obtain ⟨t, n⟩ := v
  by_cases h0 : t = 0 ∨ t = 11
  · have hk : keyR ⟨t, n⟩ = none := by unfold keyR; rw [if_pos h0]
    rw [hk]
    clear hk O K
    unfold V.val at *
    simp only at *
    rcases h0 with h0 | h0
    · subst h0
      go_enter Try.func14, Try.ntmps14
      go_wp2_with fail
      exact bodyPost_ret (v := .tuple #[.agg #[.int .i64 0, .int .i64 n], .bool false]) (by simp [results, Try.results14, go_sem]) rfl ⟨rfl, (by repeat (first | exact Below.refl _ _ | refine Below.alloc ?_ (by first | (simp; done) | (simp; omega)) _ | refine Below.drew ?_ | refine Below.setCell ?_ (by first | (simp; done) | (simp; omega)) _))⟩
    · subst h0
      go_enter Try.func14, Try.ntmps14
      go_wp2_with fail
      exact bodyPost_ret (v := .tuple #[.agg #[.int .i64 11, .int .i64 n], .bool false]) (by simp [results, Try.results14, go_sem]) rfl ⟨rfl, (by repeat (first | exact Below.refl _ _ | refine Below.alloc ?_ (by first | (simp; done) | (simp; omega)) _ | refine Below.drew ?_ | refine Below.setCell ?_ (by first | (simp; done) | (simp; omega)) _))⟩
  · have ha : ¬ t = 0 := fun h => h0 (.inl h)
    have hb : ¬ t = 11 := fun h => h0 (.inr h)
    have ha' : (t == 0) = false := by simp [ha]
    have hb' : (t == 11) = false := by simp [hb]
    by_cases h3 : t = 3
    · subst h3
      have hiff := keyR_ref n
      by_cases hbad : isR ⟨3, n⟩ = false ∨ nanB (ofB ⟨3, n⟩) = true
      · have hk : keyR ⟨3, n⟩ = none := by unfold keyR; rw [if_neg h0, if_pos ⟨rfl, hbad⟩]
        have hbad2 := hiff.1 hbad
        unfold theNaN at hbad2
        rw [hk]
        clear hk K h0 ha hb hiff hbad
        obtain ⟨q, hq⟩ : ∃ q, q = isR ⟨3, n⟩ := ⟨_, rfl⟩
        rw [← hq] at hbad2 O
        clear hq
        unfold V.val at *
        simp only at *
        go_enter Try.func14, Try.ntmps14
        go_wp2_with fail
        refine (O _).mono ?_
        clear O
        rintro e w1 ⟨rfl, hb⟩
        obtain ⟨d0, d1, hz, hB⟩ := box_v2 (below_up2 hb)
        obtain ⟨z0, z1, z2, z3⟩ := zero_cells hz
        have HB := Lib.hid hB
        clear hb hz hB
        have hor : q = false ∨ (q = true ∧ (n == 9221120237041090561) = true) := by
          cases q with
          | false => exact .inl rfl
          | true => exact .inr ⟨rfl, by rcases hbad2 with h | h; · simp at h
                                        · simp [h]⟩
        clear hbad2
        rcases hor with rfl | ⟨rfl, hn⟩
        all_goals
          go_wp2_with fail
          exact bodyPost_ret (v := .tuple #[.agg #[.int .i64 3, .int .i64 n], .bool false]) (by simp [results, Try.results14, go_sem, z0, z1]) rfl ⟨rfl, (HB.out.setCell (p := ⟨w.heap.size + 1, 0, none⟩) (Nat.le_succ _) _).setCell (p := ⟨w.heap.size + 1, 1, none⟩) (Nat.le_succ _) _⟩
      · have hk : keyR ⟨3, n⟩ = some (numKey ⟨3, n⟩) := by unfold keyR; rw [if_neg h0, if_neg (fun h => hbad h.2)]
        rw [hk]
        clear hk h0 ha hb
        have hq : isR ⟨3, n⟩ = true := by
          cases h : isR ⟨3, n⟩ with
          | true => rfl
          | false => exact absurd (.inl h) hbad
        have hnn : ¬ n = theNaN := fun h => hbad (hiff.2 (.inr h))
        unfold theNaN at hnn
        have hnn' : (n == 9221120237041090561) = false := by simp [hnn]
        rw [hq] at O
        clear hq hbad hiff
        obtain ⟨kk, hkk⟩ : ∃ kk, kk = numKey ⟨3, n⟩ := ⟨_, rfl⟩
        rw [← hkk] at K ⊢
        clear hkk
        unfold V.val at *
        simp only at *
        go_enter Try.func14, Try.ntmps14
        go_wp2_with fail
        refine (O _).mono ?_
        clear O
        rintro e w1 ⟨rfl, hb⟩
        obtain ⟨d0, d1, hz, hB⟩ := box_v2 (below_up2 hb)
        have HZ := Lib.hid hz
        have HB := Lib.hid hB
        clear hb hz hB
        go_wp2_with fail
        refine (K _).mono ?_
        clear K
        rintro e w2 ⟨rfl, hb⟩
        have hz2 := (hb.block _ (Array.getElem?_eq_some_iff.1 HZ.out).1).trans HZ.out
        obtain ⟨z0, z1, z2, z3⟩ := zero_cells hz2
        have HB2 := Lib.hid (HB.out.trans (hb.mono HB.out.size))
        clear hb hz2
        go_wp2_with fail
        exact bodyPost_ret (v := .tuple #[.agg #[.int .i64 kk.t, .int .i64 kk.n], .bool true]) (by simp [results, Try.results14, go_sem, z0, z1]) rfl ⟨rfl, (HB2.out.setCell (p := ⟨w.heap.size + 1, 0, none⟩) (Nat.le_succ _) _).setCell (p := ⟨w.heap.size + 1, 1, none⟩) (Nat.le_succ _) _⟩
    · have hk : keyR ⟨t, n⟩ = some (numKey ⟨t, n⟩) := by unfold keyR; rw [if_neg h0, if_neg (fun h => h3 h.1)]
      rw [hk]
      have h3' : (t == 3) = false := by simp [h3]
      clear hk h0 O
      obtain ⟨kk, hkk⟩ : ∃ kk, kk = numKey ⟨t, n⟩ := ⟨_, rfl⟩
      rw [← hkk] at K ⊢
      clear hkk
      unfold V.val at *
      simp only at *
      go_enter Try.func14, Try.ntmps14
      go_wp2_with fail
      refine (K _).mono ?_
      clear K
      rintro e w1 ⟨rfl, hb⟩
      obtain ⟨d0, d1, hz, hB⟩ := box_v2 (below_up2 hb)
      obtain ⟨z0, z1, z2, z3⟩ := zero_cells hz
      have HB := Lib.hid hB
      clear hb hz hB
      go_wp2_with fail
      exact bodyPost_ret (v := .tuple #[.agg #[.int .i64 kk.t, .int .i64 kk.n], .bool true]) (by simp [results, Try.results14, go_sem, z0, z1]) rfl ⟨rfl, (HB.out.setCell (p := ⟨w.heap.size + 1, 0, none⟩) (Nat.le_succ _) _).setCell (p := ⟨w.heap.size + 1, 1, none⟩) (Nat.le_succ _) _⟩
end Go.Proofs.Ytpodgmajccmgkaa
