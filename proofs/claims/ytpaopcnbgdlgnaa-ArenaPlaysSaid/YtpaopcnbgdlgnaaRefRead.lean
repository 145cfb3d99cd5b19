/- The reference's calls that only read. -/
import Derived.Test.YtpaopcnbgdlgnaaRefRep
namespace Go.Proofs.Ytpaopcnbgdlgnaa
open Go.RowKit Go.MapKept
set_option linter.unusedVariables false
set_option linter.unusedSimpArgs false

variable {X : Nat → Prop} {w : World} {p N : Nat} {R : List RBlk} {v : Value}

def FindPost (R : List RBlk) (k : Int) (w : World) (e : Ending) (w' : World) : Prop :=
  ((∃ i b, IsAt R k i b ∧ e = .returned (.int .i64 i)) ∨ ((∀ b ∈ R, (b.h : Int) ≠ k) ∧ e = .returned (.int .i64 (-1)))) ∧ w' = w

set_option maxHeartbeats 1000000 in
theorem ref_find (H : RefAt X w p N R v) (k : Int) (hR : R.length ≤ 65536) :
    Calls Try.prog 55 #[.pointer (some ⟨p, 0, none⟩), .int .i64 k] w fun e w' => FindPost R k w e w' := by
  have c1 := H.c1
  obtain ⟨A, c, rfl⟩ := H.shape
  obtain ⟨M, hM⟩ : ∃ M, M = R.length := ⟨_, rfl⟩
  have HAT := Lib.hid (fun (i : Nat) (b : RBlk) (hi : R[i]? = some b) => H.at_ hi)
  rw [← hM] at c1 hR
  have HM := Lib.hid hM
  clear H hM
  go_enter Try.func55, Try.ntmps55
  go_wp2_with fail
  go_loopw [5] (fun t wr => ∃ i : Nat, i ≤ M ∧ t = .int .i64 i ∧ (∀ (j : Nat) d, j < i → R[j]? = some d → (d.h : Int) ≠ k) ∧ wr = w) (fun t _ => M - (intOf t).toNat)
  case atStart => exact ⟨0, Nat.zero_le _, by go_num, fun j d hj => by omega, rfl⟩
  case round =>
    obtain ⟨i, hi, rfl, hno, rfl⟩ := hrel
    by_cases hlt : i < M
    · obtain ⟨b, hb⟩ : ∃ b, R[i]? = some b := ⟨R[i]'(by rw [← HM.out]; exact hlt), List.getElem?_eq_getElem _⟩
      obtain ⟨g, rfl, -, d0, -, -⟩ := HAT.out i b hb
      by_cases hk : (b.h : Int) = k
      · have HP := Lib.hid (show FindPost R k wr (.returned (.int .i64 i)) wr from ⟨.inl ⟨i, b, ⟨hb, hk, hno⟩, rfl⟩, rfl⟩)
        clear hno hb
        go_wp2_with fail
        go_ret
        exact HP.out
      · have HNO := Lib.hid (show ∀ (j : Nat) d, j < i + 1 → R[j]? = some d → (d.h : Int) ≠ k from fun j d hj hd => by
          by_cases hji : j = i
          · subst hji; rw [hb] at hd; cases hd; exact hk
          · exact hno j d (by omega) hd)
        clear hno hb
        go_wp2_with fail
        go_roundw
        case rel => exact ⟨i + 1, by omega, by go_num, HNO.out, by first | rfl | trivial⟩
        case measure => simp [intOf]; omega
    · obtain rfl : i = M := by omega
      have HP := Lib.hid (show FindPost R k wr (.returned (.int .i64 (-1))) wr from ⟨.inr ⟨fun b hb => by
        obtain ⟨j, hj⟩ := List.getElem?_of_mem hb
        exact hno j b (by rw [HM.out]; exact (List.getElem?_eq_some_iff.1 hj).1) hj, rfl⟩, rfl⟩)
      clear hno
      go_wp2_with fail
      go_ret
      exact HP.out

variable {S : St}

set_option maxHeartbeats 1000000 in
theorem ref_len (J : RefS X w p S) (k : Int) :
    Calls Try.prog 36 #[.pointer (some ⟨p, 0, none⟩), .int .i64 k] w fun e w' => e = .returned (.int .i64 (findR S.L k).2.1) ∧ w' = w := by
  obtain ⟨N, R, v, H, hr, hS⟩ := J
  have hL := hr.blks
  have hlen : R.length ≤ 65536 := by have := hr.length; have := hS.length; have := hS.size; omega
  have F := ref_find H k hlen
  have c1 := H.c1
  obtain ⟨A, c, rfl⟩ := H.shape
  obtain ⟨q, hq⟩ : ∃ q, q = (findR S.L k).2.1 := ⟨_, rfl⟩
  rw [← hq]
  have HQ := Lib.hid hq
  clear hq
  go_enter Try.func36, Try.ntmps36
  go_wp2_with fail
  refine F.mono ?_
  clear F
  rintro e w1 ⟨(⟨i, b, hat, rfl⟩ | ⟨hno, rfl⟩), rfl⟩
  · obtain ⟨g, rfl, -, -, -, d2⟩ := H.at_ hat.1
    have hlt := (List.getElem?_eq_some_iff.1 hat.1).1
    have HE := Lib.hid (show q = (b.xs.length : Int) from by
      rw [HQ.out]; unfold findR; rw [← hL, (getB_at hat).1]; rfl)
    clear H hr hL hat
    go_wp2_with fail
    go_ret
    exact ⟨by rw [HE.out]; rfl, rfl⟩
  · have HE := Lib.hid (show q = 0 from by rw [HQ.out]; unfold findR; rw [← hL, getB_no hno])
    clear H hr hL hno
    go_wp2_with fail
    go_ret
    exact ⟨by rw [HE.out]; rfl, rfl⟩

set_option maxHeartbeats 1000000 in
theorem ref_addr (J : RefS X w p S) (k : Int) :
    Calls Try.prog 37 #[.pointer (some ⟨p, 0, none⟩), .int .i64 k] w fun e w' => e = .returned (.int .i64 (addrR S.L k)) ∧ w' = w := by
  obtain ⟨N, R, v, H, hr, hS⟩ := J
  have hL := hr.blks
  have hlen : R.length ≤ 65536 := by have := hr.length; have := hS.length; have := hS.size; omega
  have F := ref_find H k hlen
  have c1 := H.c1
  obtain ⟨A, c, rfl⟩ := H.shape
  obtain ⟨q, hq⟩ : ∃ q, q = addrR S.L k := ⟨_, rfl⟩
  rw [← hq]
  have HQ := Lib.hid hq
  clear hq
  go_enter Try.func37, Try.ntmps37
  go_wp2_with fail
  refine F.mono ?_
  clear F
  rintro e w1 ⟨(⟨i, b, hat, rfl⟩ | ⟨hno, rfl⟩), rfl⟩
  · obtain ⟨g, rfl, -, -, d1, -⟩ := H.at_ hat.1
    have hlt := (List.getElem?_eq_some_iff.1 hat.1).1
    have HE := Lib.hid (show q = (b.a : Int) from by
      rw [HQ.out]; unfold addrR findR; rw [← hL, (getB_at hat).1]; rfl)
    clear H hr hL hat
    go_wp2_with fail
    go_ret
    exact ⟨by rw [HE.out]; rfl, rfl⟩
  · have HE := Lib.hid (show q = -1 from by rw [HQ.out]; unfold addrR findR; rw [← hL, getB_no hno]; rfl)
    clear H hr hL hno
    go_wp2_with fail
    go_ret
    exact ⟨by rw [HE.out]; rfl, rfl⟩

set_option maxHeartbeats 1000000 in
theorem ref_load (J : RefS X w p S) (k i : Int) :
    Calls Try.prog 48 #[.pointer (some ⟨p, 0, none⟩), .int .i64 k, .int .i64 i] w fun e w' => e = .returned (.tuple #[.int .i64 (loadR S k i).1, .int .i64 (loadR S k i).2]) ∧ w' = w := by
  obtain ⟨N, R, v, H, hr, hS⟩ := J
  have hL := hr.blks
  have hlen : R.length ≤ 65536 := by have := hr.length; have := hS.length; have := hS.size; omega
  have F := ref_find H k hlen
  have c1 := H.c1
  obtain ⟨A, c, rfl⟩ := H.shape
  obtain ⟨q, hq⟩ : ∃ q, q = loadR S k i := ⟨_, rfl⟩
  rw [← hq]
  have HQ := Lib.hid hq
  clear hq
  go_enter Try.func48, Try.ntmps48
  go_wp2_with fail
  refine F.mono ?_
  clear F
  rintro e w1 ⟨(⟨j, b, hat, rfl⟩ | ⟨hno, rfl⟩), rfl⟩
  · have hm := List.mem_of_getElem? hat.1
    have hgb := (getB_at hat).1
    rw [hL] at hgb
    have hn := (hS.get hgb).2.2.2.1
    have hn' : b.a + b.xs.length ≤ 65536 := hn
    obtain ⟨g, rfl, -, -, -, d2⟩ := H.at_ hat.1
    have hlt := (List.getElem?_eq_some_iff.1 hat.1).1
    by_cases hi : 0 ≤ i ∧ i < b.xs.length
    · obtain ⟨m, rfl⟩ := Int.eq_ofNat_of_zero_le hi.1
      have hml : m < b.xs.length := by omega
      have hx : b.xs[m]? = some (b.xs[m]'hml) := List.getElem?_eq_getElem _
      obtain ⟨x, hxe⟩ : ∃ x, x = b.xs[m]'hml := ⟨_, rfl⟩
      rw [← hxe] at hx
      have hcell := H.cell hm hx
      have hk := hat.2.1
      have HE := Lib.hid (show q = (x, 0) from by rw [HQ.out, ← hk]; exact (hr.cont b hm).load hx)
      clear H hr hL hat hm hgb hn hx hxe hi hk
      go_wp2_with fail
      go_ret2
      exact ⟨by rw [HE.out]; rfl, rfl⟩
    · have HE := Lib.hid (show q = (0, 1) from by
        rw [HQ.out]
        have hc : cellR S.L k i = (0, 1) := by unfold cellR; rw [hgb]; simp only; exact if_neg hi
        unfold loadR; rw [hc]; rfl)
      clear H hr hL hat hm hgb hn
      by_cases h0 : i < 0
      · clear hi
        go_wp2_with fail
        go_ret2
        exact ⟨by rw [HE.out]; rfl, rfl⟩
      · have hge : ¬ i < b.xs.length := fun h => hi ⟨by omega, h⟩
        clear hi
        go_wp2_with fail
        go_ret2
        exact ⟨by rw [HE.out]; rfl, rfl⟩
  · have HE := Lib.hid (show q = (0, 5) from by
      rw [HQ.out]
      have hc : cellR S.L k i = (0, 5) := by unfold cellR; rw [← hL, getB_no hno]
      unfold loadR; rw [hc]; rfl)
    clear H hr hL hno
    go_wp2_with fail
    go_ret2
    exact ⟨by rw [HE.out]; rfl, rfl⟩

set_option maxHeartbeats 1000000 in
theorem ref_live (J : RefS X w p S) :
    Calls Try.prog 52 #[.pointer (some ⟨p, 0, none⟩)] w fun e w' => e = .returned (.int .i64 (liveL S.L)) ∧ w' = w := by
  obtain ⟨N, R, v, H, hr, hS⟩ := J
  have hL := hr.blks
  have hlen : R.length ≤ 65536 := by have := hr.length; have := hS.length; have := hS.size; omega
  have hlv : liveL S.L ≤ 65536 := by have := hS.live; have := hS.size; omega
  have c1 := H.c1
  obtain ⟨A, c, rfl⟩ := H.shape
  obtain ⟨M, hM⟩ : ∃ M, M = R.length := ⟨_, rfl⟩
  have HML := Lib.hid (hM.trans hr.length)
  rw [← hM] at c1 hlen
  have HM := Lib.hid hM
  have HH := Lib.hid H
  have HLV := Lib.hid hlv
  clear hM hlv H
  go_enter Try.func52, Try.ntmps52
  go_wp2_with fail
  go_loopw [3, 4] (fun t3 t wr => ∃ i : Nat, i ≤ M ∧ t = .int .i64 i ∧ t3 = .int .i64 (liveL (S.L.take i)) ∧ wr = w) (fun _ t _ => M - (intOf t).toNat)
  case atStart => exact ⟨0, Nat.zero_le _, by go_num, by simp [liveL], rfl⟩
  case round =>
    obtain ⟨i, hi, rfl, rfl, rfl⟩ := hrel
    by_cases hlt : i < M
    · obtain ⟨b, hb⟩ : ∃ b, R[i]? = some b := ⟨R[i]'(by rw [← HM.out]; exact hlt), List.getElem?_eq_getElem _⟩
      obtain ⟨g, rfl, -, -, -, d2⟩ := HH.out.at_ hb
      have ht := live_take (blk_get hL hb)
      have hle := live_take_le S.L (i + 1)
      rw [ht] at hle
      have hle6 : liveL (S.L.take i) + b.xs.length ≤ 65536 := Nat.le_trans hle HLV.out
      have hn' : b.blk.n = b.xs.length := rfl
      rw [hn'] at ht
      obtain ⟨z, hz⟩ : ∃ z, z = liveL (S.L.take i) := ⟨_, rfl⟩
      rw [← hz] at ht hle6 ⊢
      have HT := Lib.hid ht
      clear ht hle hz hb hn'
      go_wp2_with fail
      go_roundw
      case rel => exact ⟨i + 1, by omega, by go_num, by rw [HT.out]; go_num, by first | rfl | trivial⟩
      case measure => simp [intOf]; omega
    · obtain rfl : i = M := by omega
      have htk : S.L.take i = S.L := List.take_of_length_le (by rw [HML.out]; exact Nat.le_refl _)
      rw [htk]
      clear htk
      go_wp2_with fail
      go_ret
      exact ⟨rfl, rfl⟩
end Go.Proofs.Ytpaopcnbgdlgnaa
