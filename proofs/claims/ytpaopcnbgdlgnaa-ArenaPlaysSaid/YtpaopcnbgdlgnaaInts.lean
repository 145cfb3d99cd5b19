/- Two lists of handles compared. -/
import Derived.Test.YtpaopcnbgdlgnaaGrowP
namespace Go.Proofs.Ytpaopcnbgdlgnaa
open Go.RowKit Go.MapKept
set_option linter.unusedVariables false
set_option linter.unusedSimpArgs false

/-- A slice of ints that reads as a list, in blocks below B. -/
def Reads (w : World) (B : Nat) (v : Value) (xs : List Int) : Prop :=
  ∃ A c, v = .slice A xs.length c ∧ ∀ (i : Nat) (x : Int), xs[i]? = some x → ∃ g, A = some ⟨g, 0, none⟩ ∧ g < B ∧ w.cell? ⟨g, i, none⟩ = some (.int .i64 x)

theorem Reads.below {w w' : World} {B : Nat} {v : Value} {xs : List Int} (h : Reads w B v xs) (hb : Below B w w') : Reads w' B v xs := by
  obtain ⟨A, c, hv, hx⟩ := h
  refine ⟨A, c, hv, fun i x hi => ?_⟩
  obtain ⟨g, h1, h2, h3⟩ := hx i x hi
  exact ⟨g, h1, h2, (hb.cell h2).trans h3⟩

set_option maxHeartbeats 1000000 in
theorem ints_same {w : World} {v u : Value} {xs : List Int} (h1 : Reads w w.heap.size v xs) (h2 : Reads w w.heap.size u xs) (hl : xs.length ≤ 1000000) :
    Calls Try.prog 26 #[v, u] w fun e w' => e = .returned (.bool true) ∧ Below w.heap.size w w' := by
  have H1 := h1
  have H2 := h2
  obtain ⟨A1, c1, rfl, hx1⟩ := h1
  obtain ⟨A2, c2, rfl, hx2⟩ := h2
  obtain ⟨n, hn⟩ : ∃ n, n = xs.length := ⟨_, rfl⟩
  have HX1 := Lib.hid hx1
  have HX2 := Lib.hid hx2
  rw [← hn] at hl ⊢
  have HN := Lib.hid hn
  clear hx1 hx2 hn H1 H2
  go_enter Try.func26, Try.ntmps26
  go_wp2_with fail
  go_loopw [5] (fun t wr => ∃ i : Nat, i ≤ n ∧ t = .int .i64 i ∧ Below w.heap.size w wr) (fun t _ => n - (intOf t).toNat)
  case atStart => exact ⟨0, Nat.zero_le _, by go_num, Below.refl _ _⟩
  case round =>
    obtain ⟨i, hi, rfl, hB⟩ := hrel
    by_cases hlt : i < n
    · obtain ⟨x, hx⟩ : ∃ x, xs[i]? = some x := ⟨xs[i]'(by rw [← HN.out]; exact hlt), List.getElem?_eq_getElem _⟩
      obtain ⟨g1, rfl, k1, d1⟩ := HX1.out i x hx
      obtain ⟨g2, rfl, k2, d2⟩ := HX2.out i x hx
      have e1 := (hB.cell (p := ⟨g1, i, none⟩) k1).trans d1
      have e2 := (hB.cell (p := ⟨g2, i, none⟩) k2).trans d2
      have HB := Lib.hid hB
      clear hx d1 d2 hB k1 k2
      go_wp2_with fail
      refine wp_region_still_tail 8 (by kernel_rfl) (by kernel_rfl) ?_
      simp only [List.take_succ_cons, List.take_zero, List.drop_succ_cons, List.drop_zero]
      change wpStill _ _ (World.drew wr) _ _ _
      repeat still_step
      refine wpStill_nil ?_
      change wpList _ _ _ _ _ (World.drew wr)
      go_wp2_with fail
      go_roundw
      case rel => exact ⟨i + 1, by omega, by go_num, HB.out.drew⟩
      case measure => simp [intOf]; omega
    · obtain rfl : i = n := by omega
      have HB := Lib.hid hB
      clear hB
      go_wp2_with fail
      go_ret
      exact ⟨rfl, HB.out⟩
end Go.Proofs.Ytpaopcnbgdlgnaa
