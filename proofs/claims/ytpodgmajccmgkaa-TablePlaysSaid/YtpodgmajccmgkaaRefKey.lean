/- The reference's keys: Real, Is, Whole, Key of heirloomref01. -/
import Derived.Test.YtpodgmajccmgkaaTabKey2
namespace Go.Proofs.Ytpodgmajccmgkaa
open Go.RowKit
set_option linter.unusedVariables false
set_option linter.unusedSimpArgs false
attribute [local go_sem] Oper.semAt_some

set_option maxHeartbeats 1000000 in
theorem rreal_any (v : V) (w : World) : Calls Try.prog 48 #[v.val] w fun e w' => e = .returned (.float .f64 (fbits v.n)) ∧ Below w.heap.size w w' := by
  unfold V.val fbits
  have hd := from_bits (IntKind.u64.wrap v.n)
  go_enter Try.func48, Try.ntmps48
  go_wp2_with fail
  go_ret
  exact ⟨rfl, (by repeat (first | exact Below.refl _ _ | refine Below.alloc ?_ (by first | (simp; done) | (simp; omega)) _ | refine Below.drew ?_ | refine Below.setCell ?_ (by first | (simp; done) | (simp; omega)) _))⟩

set_option maxHeartbeats 1000000 in
theorem rint_any (n : Int) (w : World) : Calls Try.prog 50 #[.int .i64 n] w fun e w' => e = .returned (V.val ⟨2, n⟩) ∧ Below w.heap.size w w' := by
  go_enter Try.func50, Try.ntmps50
  go_wp2_with fail
  refine bodyPost_ret (v := V.val ⟨2, n⟩) (by simp [results, Try.results50, go_sem, V.val]) rfl ⟨rfl, (by repeat (first | exact Below.refl _ _ | refine Below.alloc ?_ (by first | (simp; done) | (simp; omega)) _ | refine Below.drew ?_ | refine Below.setCell ?_ (by first | (simp; done) | (simp; omega)) _))⟩

set_option maxHeartbeats 1000000 in
theorem ris_any (v : V) (w : World) : Calls Try.prog 32 #[v.val] w fun e w' => e = .returned (.bool (isR v)) ∧ Below w.heap.size w w' := by
  have R := rreal_any v
  obtain ⟨t, n⟩ := v
  have HI := Lib.hid (show isR ⟨t, n⟩ = if t = 3 then (if nanB (fbits n) = true then n == theNaN else true) else t == 2 from rfl)
  obtain ⟨q, hq⟩ : ∃ q, q = isR ⟨t, n⟩ := ⟨_, rfl⟩
  rw [← hq] at HI ⊢
  clear hq
  unfold V.val at *
  simp only at *
  by_cases h3 : t = 3
  · subst h3
    have hi := HI.out
    rw [if_pos rfl] at hi
    clear HI
    have HI := Lib.hid hi
    clear hi
    go_enter Try.func32, Try.ntmps32
    go_wp2_with fail
    refine (R _).mono ?_
    clear R
    rintro e w1 ⟨rfl, hb⟩
    obtain ⟨b, hbb⟩ : ∃ b, b = fbits n := ⟨_, rfl⟩
    have hi := HI.out
    rw [← hbb] at hi ⊢
    obtain ⟨hb1, hb2⟩ := below_up hb
    obtain ⟨d0, d1⟩ := box_v hb1
    have HB := Lib.hid hb2
    clear hbb hb hb1 hb2 HI
    by_cases hn : nanB b = true
    · rw [if_pos hn] at hi
      have hn' : (FloatKind.f64.format.order b b == some Ordering.eq) = false := by
        cases h : (FloatKind.f64.format.order b b == some Ordering.eq) with
        | false => rfl
        | true => unfold nanB at hn; rw [bne, h] at hn; cases hn
      have HI := Lib.hid hi
      clear hn hi
      go_wp2_with fail
      go_ret
      exact ⟨by rw [HI.out]; rfl, HB.out⟩
    · rw [if_neg hn] at hi
      have hn' : (FloatKind.f64.format.order b b == some Ordering.eq) = true := by
        cases h : (FloatKind.f64.format.order b b == some Ordering.eq) with
        | true => rfl
        | false => exact absurd (by unfold nanB; rw [bne, h]; rfl) hn
      have HI := Lib.hid hi
      clear hn hi
      go_wp2_with fail
      go_ret
      exact ⟨by rw [HI.out]; rfl, HB.out⟩
  · have hi := HI.out
    rw [if_neg h3] at hi
    clear HI R
    have h3' : (t == 3) = false := by simp [h3]
    have h3'' : (t != 3) = true := by simp [h3]
    by_cases h2 : t = 2
    · subst h2
      have HI := Lib.hid hi
      clear hi
      go_enter Try.func32, Try.ntmps32
      go_wp2_with fail
      go_ret
      exact ⟨by rw [HI.out]; rfl, (by repeat (first | exact Below.refl _ _ | refine Below.alloc ?_ (by first | (simp; done) | (simp; omega)) _ | refine Below.drew ?_ | refine Below.setCell ?_ (by first | (simp; done) | (simp; omega)) _))⟩
    · have hi' : q = false := by rw [hi]; simpa using h2
      have h2' : (t == 2) = false := by simp [h2]
      have HI := Lib.hid hi'
      clear hi hi'
      go_enter Try.func32, Try.ntmps32
      go_wp2_with fail
      go_ret
      exact ⟨by rw [HI.out]; rfl, (by repeat (first | exact Below.refl _ _ | refine Below.alloc ?_ (by first | (simp; done) | (simp; omega)) _ | refine Below.drew ?_ | refine Below.setCell ?_ (by first | (simp; done) | (simp; omega)) _))⟩
end Go.Proofs.Ytpodgmajccmgkaa
