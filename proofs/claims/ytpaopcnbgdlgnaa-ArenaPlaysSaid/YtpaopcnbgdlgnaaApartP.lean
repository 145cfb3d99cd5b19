/- ArenaApart in plain Lean. -/
import Derived.Test.YtpaopcnbgdlgnaaFirstP
namespace Go.Proofs.Ytpaopcnbgdlgnaa
open Go.RowKit
set_option linter.unusedVariables false
set_option linter.unusedSimpArgs false

def lenOf (L : List Blk) (h : Nat) : Nat := match getB h L with | some c => c.n | none => 0

theorem sum_live : ∀ (L : List Blk), (L.map fun b => b.n).sum = liveL L := by
  intro L
  induction L with
  | nil => rfl
  | cons b l ih => simp only [List.map_cons, List.sum_cons, ih, liveL]

theorem sum_hs {S : St} (hS : Inv S) : ((hsTo S.L 70000).map (lenOf S.L)).sum = liveL S.L := by
  have h1 := ((hsTo_all hS).map (lenOf S.L)).sum_nat
  rw [h1, ← sum_live, List.map_map]
  congr 1
  apply List.map_congr_left
  intro b hb
  show lenOf S.L b.h = b.n
  unfold lenOf
  rw [getB_of_mem hS.nodup hb]

theorem hs_sorted (L : List Blk) (k : Nat) : (hsTo L k).Pairwise (· < ·) := by
  unfold hsTo
  exact (List.pairwise_lt_range' ..).sublist List.filter_sublist

theorem sum_take {L : List Blk} {hs : List Nat} {i h : Nat} (hi : hs[i]? = some h) : ((hs.take (i + 1)).map (lenOf L)).sum = ((hs.take i).map (lenOf L)).sum + lenOf L h := by
  rw [List.take_add_one, hi, List.map_append, List.sum_append]
  simp

theorem sum_take_le {L : List Blk} {hs : List Nat} (i : Nat) : ((hs.take i).map (lenOf L)).sum ≤ (hs.map (lenOf L)).sum := by
  have h1 : (hs.map (lenOf L)).sum = ((hs.take i).map (lenOf L)).sum + ((hs.drop i).map (lenOf L)).sum := by
    rw [← List.sum_append, ← List.map_append, List.take_append_drop]
  omega

/-- The block of the i-th handle. -/
theorem hs_block {S : St} (hS : Inv S) {i h : Nat} (hi : (hsTo S.L 70000)[i]? = some h) : ∃ b, b ∈ S.L ∧ b.h = h ∧ getB h S.L = some b := by
  obtain ⟨_, hm⟩ := hsTo_mem.1 (List.mem_of_getElem? hi)
  obtain ⟨b, hb, rfl⟩ := List.mem_map.1 hm
  exact ⟨b, hb, rfl, getB_of_mem hS.nodup hb⟩

theorem hs_lt {S : St} {i j h k : Nat} (hi : (hsTo S.L 70000)[i]? = some h) (hj : (hsTo S.L 70000)[j]? = some k) (hij : i < j) : h < k := by
  have hp := hs_sorted S.L 70000
  rw [List.pairwise_iff_getElem] at hp
  obtain ⟨h1, rfl⟩ := List.getElem?_eq_some_iff.1 hi
  obtain ⟨h2, rfl⟩ := List.getElem?_eq_some_iff.1 hj
  exact hp i j h1 h2 hij

theorem Two.drewN {X : Nat → Prop} {w wr : World} {p : Nat} {S : St} {v : Value} {xs : List Int} (h : Two X w p S v xs wr) (n : Nat) : Two X w p S v xs (wr.drewN n) :=
  ⟨(h.1.below (w' := wr.drewN n) ⟨rfl, rfl, rfl, Nat.le_refl _, fun _ _ => rfl⟩).1, h.2.same (fun _ _ => rfl)⟩
end Go.Proofs.Ytpaopcnbgdlgnaa
