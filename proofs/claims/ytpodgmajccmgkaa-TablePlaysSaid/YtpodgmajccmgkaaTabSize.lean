/- step, sizes: what sizes some keys ask for. -/
import Derived.Test.YtpodgmajccmgkaaTabSet
namespace Go.Proofs.Ytpodgmajccmgkaa
open Go.RowKit
set_option linter.unusedVariables false
set_option linter.unusedSimpArgs false
attribute [local go_sem] Oper.semAt_some

variable {w w' : World} {p : Nat} {sv sv' : Value} {T T' : Tb}

def stepF (n : Int) : Nat → Nat → Nat
  | 0, k => k
  | f + 1, k => if ((2 ^ k : Nat) : Int) < n then stepF n f (k + 1) else k
def stepT (n : Int) : Nat := stepF n 13 0

theorem stepF_le (n : Int) : ∀ f k, stepF n f k ≤ k + f := by
  intro f
  induction f with
  | zero => intro k; exact Nat.le_refl _
  | succ f ih =>
    intro k
    unfold stepF
    split
    · exact Nat.le_trans (ih (k + 1)) (by omega)
    · omega
theorem stepT_le (n : Int) : stepT n ≤ 13 := by have := stepF_le n 13 0; unfold stepT; omega

theorem shl_one : ∀ k : Nat, k < 13 → wrap64 ((2 : Int) ^ k) = ((2 ^ k : Nat) : Int) := by
  intro k hk
  have h1 : (2 : Int) ^ k = ((2 ^ k : Nat) : Int) := by simp
  have h2 : 2 ^ k ≤ 4096 := Nat.le_trans (Nat.pow_le_pow_right (by omega) (show k ≤ 12 by omega)) (by decide)
  rw [h1]
  generalize 2 ^ k = m at h2
  unfold wrap64
  omega

set_option maxHeartbeats 1000000 in
theorem step_any (n : Int) (w : World) : Calls Try.prog 64 #[.int .i64 n] w fun e w' => e = .returned (.int .i64 (stepT n)) ∧ w' = w := by
  go_enter Try.func64, Try.ntmps64
  go_wp2_with fail
  go_loopw [3] (fun t3 wr => wr = w ∧ ∃ k : Nat, k ≤ 13 ∧ t3 = .int .i64 k ∧ stepF n (13 - k) k = stepT n) (fun t3 _ => 13 - (intOf t3).toNat)
  case atStart => exact ⟨rfl, 0, by omega, by go_num, rfl⟩
  case round =>
    obtain ⟨rfl, k, hk, rfl, hs⟩ := hrel
    by_cases h13 : k < 13
    · have hsh := shl_one k h13
      have hs2 : stepF n (13 - k) k = if ((2 ^ k : Nat) : Int) < n then stepF n (13 - (k + 1)) (k + 1) else k := by
        rw [show 13 - k = (13 - (k + 1)) + 1 by omega]; rfl
      rw [hs2] at hs
      obtain ⟨m, hm⟩ : ∃ m, m = 2 ^ k := ⟨_, rfl⟩
      rw [← hm] at hs hsh
      clear hs2 hm
      go_wp2_with fail
      · rename_i hle
        rw [if_pos (by omega)] at hs
        go_roundw
        case rel => exact ⟨trivial, k + 1, by omega, by go_num, hs⟩
        case measure => simp [intOf]; omega
      · go_ret
        rename_i hle
        rw [if_neg (by omega)] at hs
        exact ⟨by rw [← hs]; rfl, rfl⟩
    · obtain rfl : k = 13 := by omega
      have hs3 : stepT n = 13 := by rw [← hs]; rfl
      clear hs
      go_wp2_with fail
      go_ret
      exact ⟨by rw [hs3]; rfl, rfl⟩
end Go.Proofs.Ytpodgmajccmgkaa
