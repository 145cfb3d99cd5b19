/- A float64 between two bounds has a whole part that an int64 has. -/
import Derived.Test.YtpodgmajccmgkaaTabSet
import Derived.Laws.FloatArith
namespace Go.Proofs.Ytpodgmajccmgkaa
open Ieee
set_option linter.unusedVariables false
set_option linter.unusedSimpArgs false

theorem read_lo : FloatKind.f64.format.read 14114281232179134464 = .number true (2 ^ 52) 11 := by kernel_rfl
theorem read_hi : FloatKind.f64.format.read 4890909195324358656 = .number false (2 ^ 52) 11 := by kernel_rfl

theorem cut_zero (neg : Bool) (n drop : Nat) : Toward.zero.cut neg n drop = n / 2 ^ (min drop (n.log2 + 2)) := by
  simp [Toward.cut, Nat.one_shiftLeft]

theorem cut_le (neg : Bool) (m k : Nat) (B : Nat) (h : m ≤ B * 2 ^ k) : Toward.zero.cut neg m k ≤ B := by
  rw [cut_zero]
  rcases Nat.le_total k (m.log2 + 2) with hk | hk
  · rw [Nat.min_eq_left hk]
    exact Nat.div_le_of_le_mul (by rw [Nat.mul_comm]; exact h)
  · rw [Nat.min_eq_right hk]
    have : m < 2 ^ (m.log2 + 2) := Nat.lt_of_lt_of_le Nat.lt_log2_self (Nat.pow_le_pow_right (by omega) (by omega))
    rw [Nat.div_eq_of_lt this]
    omega

theorem cut_lt (neg : Bool) (m k : Nat) (B : Nat) (hB : 0 < B) (h : m < B * 2 ^ k) : Toward.zero.cut neg m k < B := by
  rw [cut_zero]
  rcases Nat.le_total k (m.log2 + 2) with hk | hk
  · rw [Nat.min_eq_left hk]
    exact Nat.div_lt_of_lt_mul (by rw [Nat.mul_comm]; exact h)
  · rw [Nat.min_eq_right hk]
    have : m < 2 ^ (m.log2 + 2) := Nat.lt_of_lt_of_le Nat.lt_log2_self (Nat.pow_le_pow_right (by omega) (by omega))
    rw [Nat.div_eq_of_lt this]
    exact hB

/-- The whole part's size against 2^63, told at the places at which the two are compared. -/
theorem whole_size {s : Bool} {m : Nat} {i : Int} {base : Int} (hb : base = min i 11) :
    (m <<< (i - base).toNat < 2 ^ 52 <<< (11 - base).toNat → Toward.zero.cut s (m <<< i.toNat) (-i).toNat < 2 ^ 63) ∧
    (m <<< (i - base).toNat ≤ 2 ^ 52 <<< (11 - base).toNat → Toward.zero.cut s (m <<< i.toNat) (-i).toNat ≤ 2 ^ 63) := by
  simp only [Nat.shiftLeft_eq]
  rcases Int.lt_or_le i 0 with hi | hi
  · obtain ⟨j, rfl⟩ : ∃ j : Nat, i = -(j : Int) := ⟨(-i).toNat, by omega⟩
    have e1 : (-(j : Int) - base).toNat = 0 := by omega
    have e2 : (11 - base).toNat = 11 + j := by omega
    have e3 : (-(j : Int)).toNat = 0 := by omega
    have e4 : (- -(j : Int)).toNat = j := by omega
    rw [e1, e2, e3, e4]
    have e5 : 2 ^ 52 * 2 ^ (11 + j) = 2 ^ 63 * 2 ^ j := by rw [Nat.pow_add, ← Nat.mul_assoc]
    rw [e5]
    simp only [Nat.pow_zero, Nat.mul_one]
    exact ⟨fun h => cut_lt _ _ _ _ (by decide) h, fun h => cut_le _ _ _ _ h⟩
  · obtain ⟨j, rfl⟩ := Int.eq_ofNat_of_zero_le hi
    have e4 : (-(j : Int)).toNat = 0 := by omega
    have e3 : ((j : Int)).toNat = j := by omega
    rw [e4, e3]
    have key : (m * 2 ^ ((j : Int) - base).toNat < 2 ^ 52 * 2 ^ (11 - base).toNat ↔ m * 2 ^ j < 2 ^ 63) ∧ (m * 2 ^ ((j : Int) - base).toNat ≤ 2 ^ 52 * 2 ^ (11 - base).toNat ↔ m * 2 ^ j ≤ 2 ^ 63) := by
      rcases Nat.le_total j 11 with hj | hj
      · have f1 : ((j : Int) - base).toNat = 0 := by omega
        have f2 : (11 - base).toNat = 11 - j := by omega
        rw [f1, f2]
        have f3 : 2 ^ 63 = 2 ^ 52 * 2 ^ (11 - j) * 2 ^ j := by
          rw [Nat.mul_assoc, ← Nat.pow_add, show 11 - j + j = 11 by omega, ← Nat.pow_add]
        rw [f3, Nat.pow_zero, Nat.mul_one]
        have hp : 0 < 2 ^ j := Nat.pow_pos (by decide)
        exact ⟨(Nat.mul_lt_mul_right hp).symm, (Nat.mul_le_mul_right_iff hp).symm⟩
      · have f1 : ((j : Int) - base).toNat = j - 11 := by omega
        have f2 : (11 - base).toNat = 0 := by omega
        rw [f1, f2]
        have f3 : m * 2 ^ j = m * 2 ^ (j - 11) * 2 ^ 11 := by
          rw [Nat.mul_assoc, ← Nat.pow_add, show j - 11 + 11 = j by omega]
        have f4 : (2 : Nat) ^ 63 = 2 ^ 52 * 2 ^ 11 := by rw [← Nat.pow_add]
        rw [f3, f4, Nat.pow_zero, Nat.mul_one]
        have hp : 0 < 2 ^ 11 := Nat.pow_pos (by decide)
        exact ⟨(Nat.mul_lt_mul_right hp).symm, (Nat.mul_le_mul_right_iff hp).symm⟩
    refine ⟨fun h => cut_lt _ _ _ _ (by decide) ?_, fun h => cut_le _ _ _ _ ?_⟩
    · rw [Nat.pow_zero, Nat.mul_one]; exact key.1.1 h
    · rw [Nat.pow_zero, Nat.mul_one]; exact key.2.1 h

theorem range_some {b : Nat} (h1 : FloatKind.f64.format.order b 14114281232179134464 = some .gt ∨ FloatKind.f64.format.order b 14114281232179134464 = some .eq)
    (h2 : FloatKind.f64.format.order b 4890909195324358656 = some .lt) : ∃ n, floatToIntVal .f64 b .i64 = some n := by
  unfold Format.order at h1 h2
  rw [read_lo] at h1
  rw [read_hi] at h2
  unfold floatToIntVal FloatKind.decode
  generalize FloatKind.f64.format.read b = d at *
  cases d with
  | nan s t => simp [Datum.order] at h2
  | infinity s =>
    cases s with
    | true => simp [Datum.order] at h1
    | false => simp [Datum.order] at h2
  | number s m i =>
    have W := whole_size (s := s) (m := m) (i := i) rfl
    simp only [Datum.order, Option.some.injEq] at h1 h2
    simp only [Datum.toInt, Datum.integral]
    have hmin : IntKind.i64.min = -9223372036854775808 := by decide
    have hmax : IntKind.i64.max = 9223372036854775807 := by decide
    rw [hmin, hmax]
    generalize hc : Toward.zero.cut s (m <<< i.toNat) (-i).toNat = c at *
    cases s with
    | false =>
      have h3 : m <<< (i - min i 11).toNat < 2 ^ 52 <<< (11 - min i 11).toNat := by
        have := Int.compare_eq_lt.1 h2
        simp only [signed] at this
        have h4 : ((m <<< (i - min i 11).toNat : Nat) : Int) < ((2 ^ 52 <<< (11 - min i 11).toNat : Nat) : Int) := by simpa using this
        omega
      have h5 := W.1 h3
      refine ⟨_, if_pos ?_⟩
      simp only [signed]
      have : (2 : Nat) ^ 63 = 9223372036854775808 := by decide
      simp
      omega
    | true =>
      have h3 : m <<< (i - min i 11).toNat ≤ 2 ^ 52 <<< (11 - min i 11).toNat := by
        have h4 : ¬ (-((m <<< (i - min i 11).toNat : Nat) : Int) < -((2 ^ 52 <<< (11 - min i 11).toNat : Nat) : Int)) := by
          rcases h1 with h | h
          · have := Int.compare_eq_gt.1 h
            simp only [signed] at this
            have h5 : -((2 ^ 52 <<< (11 - min i 11).toNat : Nat) : Int) < -((m <<< (i - min i 11).toNat : Nat) : Int) := by simpa using this
            omega
          · have := Int.compare_eq_eq.1 h
            simp only [signed] at this
            have h5 : -((m <<< (i - min i 11).toNat : Nat) : Int) = -((2 ^ 52 <<< (11 - min i 11).toNat : Nat) : Int) := by simpa using this
            omega
        omega
      have h5 := W.2 h3
      refine ⟨_, if_pos ?_⟩
      simp only [signed]
      have : (2 : Nat) ^ 63 = 9223372036854775808 := by decide
      simp
      omega
end Go.Proofs.Ytpodgmajccmgkaa
