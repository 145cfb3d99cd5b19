/- The document's numbers as texts; vast. -/
import Derived.Test.YthncifbnkednlaaDoorScrSmall
namespace Go.Proofs.YthncifbnkednlaaDoor
open Go.RowKit Go.Shelf
set_option linter.unusedVariables false
set_option linter.unusedSimpArgs false

theorem digit_ext (k : Nat) (h : k < 10) : (ByteArray.extract { data := #[48, 49, 50, 51, 52, 53, 54, 55, 56, 57] } k (k + 1)) = str [UInt8.ofNat (48 + k)] := by
  obtain rfl | rfl | rfl | rfl | rfl | rfl | rfl | rfl | rfl | rfl : k = 0 ∨ k = 1 ∨ k = 2 ∨ k = 3 ∨ k = 4 ∨ k = 5 ∨ k = 6 ∨ k = 7 ∨ k = 8 ∨ k = 9 := by omega
  all_goals decide
theorem bs_append (a b : ByteArray) : bs (a ++ b) = bs a ++ bs b := by unfold bs; rw [ByteArray.data_append, Array.toList_append]
theorem str_append (a b : Bs) : str a ++ str b = str (a ++ b) := by
  have := bs_append (str a) (str b)
  rw [bs_str, bs_str] at this
  rw [← this, str_bs]
theorem dec_step (n : Nat) : Lib.decDigits n = (if n / 10 = 0 then [] else Lib.decDigits (n / 10)) ++ [UInt8.ofNat (48 + n % 10)] := by
  conv => lhs; unfold Lib.decDigits
  by_cases h : n < 10
  · rw [dif_pos h, if_pos (by omega), show n % 10 = n by omega]; rfl
  · rw [dif_neg h, if_neg (by omega)]

set_option maxRecDepth 100000 in
set_option maxHeartbeats 2000000 in
theorem digits_any (n : Nat) (w : World) (hn : n < 18446744073709551616) : Calls Tryd.prog 38 #[.int .u64 n] w fun e w' => e = .returned (.string (str (Lib.decDigits n))) ∧ w' = w := by
  have HD := Lib.hid (dec_step n)
  have HX := Lib.hid (digit_ext (n % 10) (Nat.mod_lt _ (by decide)))
  go_enter Tryd.func38, Tryd.ntmps38
  go_wp2_with fail
  go_loop [0, 3] (fun t0 t3 => ∃ (m : Nat) (s : Bs), t0 = .int .u64 m ∧ t3 = .string (str s) ∧ m < 18446744073709551616 ∧ Lib.decDigits n = (if m = 0 then [] else Lib.decDigits m) ++ s) (fun t0 _ => (intOf t0).toNat)
  case atStart => exact ⟨n / 10, [UInt8.ofNat (48 + n % 10)], by go_num, by rw [HX.out], by omega, HD.out⟩
  case round =>
    obtain ⟨m, s, rfl, rfl, hm, hs⟩ := hrel
    have HS := Lib.hid hs
    clear hs
    by_cases h0 : 0 < m
    · have hg : (0 : Int) < m := by omega
      have HN : Hid (Lib.decDigits n = (if m / 10 = 0 then [] else Lib.decDigits (m / 10)) ++ ([UInt8.ofNat (48 + m % 10)] ++ s)) := Lib.hid (by
        rw [HS.out, if_neg (by omega), dec_step m, List.append_assoc])
      have HY := Lib.hid (digit_ext (m % 10) (Nat.mod_lt _ (by decide)))
      have hsl : (str s).size ≤ 20 := by
        have h1 := congrArg List.length HS.out
        have h2 := decDigits_len n 19 (by have : (10 : Nat) ^ 20 = 100000000000000000000 := by decide
                                          omega)
        rw [List.length_append] at h1
        rw [size_bs, bs_str]
        omega
      have hsum : ¬ 9223372036854775807 < min (m % 10 + 1) 10 - m % 10 + (str s).size := by omega
      go_wp2_with fail
      go_round
      case rel => exact ⟨m / 10, [UInt8.ofNat (48 + m % 10)] ++ s, by go_num, by rw [HY.out, str_append], by omega, HN.out⟩
      case measure => simp [intOf]; omega
    · obtain rfl : m = 0 := by omega
      go_wp2_with fail
      go_ret
      exact ⟨by rw [HS.out]; rfl, rfl⟩

set_option maxRecDepth 100000 in
set_option maxHeartbeats 2000000 in
theorem dec_any (n : Int) (w : World) (h0 : 0 ≤ n) (h1 : n ≤ 9223372036854775807) : Calls Tryd.prog 27 #[.int .i64 n] w fun e w' => e = .returned (.string (str (decZ n))) ∧ w' = w := by
  obtain ⟨k, rfl⟩ : ∃ k : Nat, n = k := ⟨n.toNat, by omega⟩
  have HD := Lib.hid (digits_any k w (by omega))
  go_enter Tryd.func27, Tryd.ntmps27
  go_wp2_with fail
  refine HD.out.mono ?_
  rintro e w' ⟨rfl, rfl⟩
  go_wp2_with fail
  go_ret
  exact ⟨rfl, rfl⟩
end Go.Proofs.YthncifbnkednlaaDoor
