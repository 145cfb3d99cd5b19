/- Len. -/
import Derived.Test.YtpodgmajccmgkaaTabSets
namespace Go.Proofs.Ytpodgmajccmgkaa
open Go.RowKit Go.Shelf
set_option linter.unusedVariables false
set_option linter.unusedSimpArgs false
attribute [local go_sem] Oper.semAt_some nil_slot field_t meth_array meth_nodes meth_slot meth_setslot meth_resize meth_hash

variable {w w' : World} {p : Nat} {sv sv' : Value} {T T' : Tb}

/-- How many keys from 1 on have values. -/
def IsLen (T : Tb) (N : Nat) : Prop := (getT T ⟨2, (N : Int) + 1⟩).t = 0 ∧ ∀ i : Nat, i < N → (getT T ⟨2, (i : Int) + 1⟩).t ≠ 0

theorem IsLen.eq {N M : Nat} (h : IsLen T N) (k : IsLen T M) : N = M := by
  rcases Nat.lt_trichotomy N M with h1 | h1 | h1
  · exact absurd h.1 (k.2 N h1)
  · exact h1
  · exact absurd k.1 (h.2 M h1)

theorem get_any' (H : MemAt w p sv T) (hP : Pow2 T.nodes) (k : V) : Calls Try.prog 13 #[.iface 23 (.pointer (some ⟨p, 0, none⟩)), .agg #[.int .i64 k.t, .int .i64 k.n]] w fun e w' => e = .returned (.agg #[.int .i64 (getT T k).t, .int .i64 (getT T k).n]) ∧ Below w.heap.size w w' := get_any H hP k

theorem int_any' (n : Int) (w : World) : Calls Try.prog 18 #[.int .i64 n] w fun e w' => e = .returned (.agg #[.int .i64 2, .int .i64 n]) ∧ Below w.heap.size w w' := int_any n w

set_option maxHeartbeats 1000000 in
theorem len_any (H : MemAt w p sv T) (hP : Pow2 T.nodes) (N : Nat) (hN : IsLen T N) (hN6 : N ≤ 1000000) : Calls Try.prog 17 #[.iface 23 (.pointer (some ⟨p, 0, none⟩))] w fun e w' => e = .returned (.int .i64 N) ∧ Below w.heap.size w w' := by
  have HH := Lib.hid H
  have HN := Lib.hid hN
  clear H hN
  go_enter Try.func17, Try.ntmps17
  go_wp2_with fail
  go_loopw [3] (fun t3 wr => ∃ i : Nat, i ≤ N ∧ t3 = .int .i64 i ∧ Below w.heap.size w wr) (fun t3 _ => N - (intOf t3).toNat)
  case atStart => exact ⟨0, Nat.zero_le _, by go_num, Below.refl _ _⟩
  case round =>
    obtain ⟨i, hi, rfl, hB⟩ := hrel
    have hw1 : IntKind.i64.wrap ((i : Int) + 1) = (i : Int) + 1 := IntWalk.i64_in _ (by omega)
    have HB := Lib.hid hB
    have GC : ∀ w', Below w.heap.size w w' → _ := fun w' hb => get_any' (HH.out.below hb) hP ⟨2, (i : Int) + 1⟩
    obtain ⟨⟨gt, gn⟩, hg⟩ : ∃ g, g = getT T ⟨2, (i : Int) + 1⟩ := ⟨_, rfl⟩
    simp only at GC
    rw [← hg] at GC
    have h0 : gt = 0 → i = N := fun h => by
      rcases Nat.lt_or_ge i N with hl | hl
      · exact absurd (by rw [← hg]; exact h) (HN.out.2 i hl)
      · omega
    have h1 : i = N → gt = 0 := fun h => by
      have := HN.out.1
      rw [← h, ← hg] at this
      exact this
    have HGC := Lib.hid GC
    have H0 := Lib.hid h0
    have H1 := Lib.hid h1
    clear hB GC hg h0 h1
    go_wp2_with fail
    refine (int_any' _ _).mono ?_
    rintro e w1 ⟨rfl, hb1⟩
    go_wp2_with fail
    have hB1 := HB.out.trans (hb1.mono HB.out.size)
    refine (HGC.out _ hB1).mono ?_
    rintro e w2 ⟨rfl, hb2⟩
    have HB2 := Lib.hid (hB1.trans (hb2.mono hB1.size))
    clear hb1 hb2 hB1
    by_cases hz : gt = 0
    · obtain rfl : i = N := H0.out hz
      have hz' : (gt == 0) = true := by simp [hz]
      subst hz
      go_wp2_with fail
      go_ret
      exact ⟨rfl, HB2.out⟩
    · have hz' : (gt == 0) = false := by simp [hz]
      have hz'' : (gt != 0) = true := by simp [hz]
      have hne : i ≠ N := fun h => hz (H1.out h)
      go_wp2_with fail
      go_roundw
      case rel => exact ⟨i + 1, by omega, by go_num, HB2.out⟩
      case measure => simp [intOf]; omega

end Go.Proofs.Ytpodgmajccmgkaa
