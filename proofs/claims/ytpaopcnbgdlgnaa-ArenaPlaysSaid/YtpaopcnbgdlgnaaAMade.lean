/- An arena behind a list of calls. -/
import Derived.Test.YtpaopcnbgdlgnaaAHas2
import Derived.Test.YtpaopcnbgdlgnaaAAlive
namespace Go.Proofs.Ytpaopcnbgdlgnaa
open Go.RowKit Go.MapKept
set_option linter.unusedVariables false
set_option linter.unusedSimpArgs false
variable {X : Nat → Prop} {w0 w w' : World} {p : Nat} {S S' : St}

/-- A slice of calls, read below the block B. -/
def Lst (w : World) (B : Nat) (A : Option Addr) (l : List ActV) : Prop :=
  ∀ (i : Nat) (a : ActV), l[i]? = some a → ∃ ad : Addr, A = some ad ∧ ad.block < B ∧ ∀ j v, a.cells[j]? = some v → w.cell? ((ad.add (i * 4)).add j) = some v

theorem blk_add (a : Addr) (n : Nat) : (a.add n).block = a.block := by unfold Addr.add; split <;> rfl

theorem Lst.below {B : Nat} {A : Option Addr} {l : List ActV} (h : Lst w B A l) (hb : Below B w w') : Lst w' B A l := by
  intro i a hi
  obtain ⟨ad, e, hB, hc⟩ := h i a hi
  exact ⟨ad, e, hB, fun j v hv => (hb.cell (by rw [blk_add, blk_add]; exact hB)).trans (hc j v hv)⟩

def playAll (S : St) (l : List ActV) : St := l.foldl playS S

theorem playAll_take (S : St) (l : List ActV) {i : Nat} {a : ActV} (h : l[i]? = some a) : playAll S (l.take (i + 1)) = playS (playAll S (l.take i)) a := by
  have : l.take (i + 1) = l.take i ++ [a] := by rw [List.take_add_one, h]; rfl
  rw [this]; simp [playAll]

def MadePost (w : World) (n : Int) (l : List ActV) (e : Ending) (w' : World) : Prop :=
  (¬ ((1 ≤ n ∧ n ≤ 65536) ∧ l.length ≤ 80) ∧ e = .returned (.pointer none) ∧ Below w.heap.size w w') ∨
  (((1 ≤ n ∧ n ≤ 65536) ∧ l.length ≤ 80) ∧ ∃ p, e = .returned (.pointer (some ⟨p, 0, none⟩)) ∧ Has (fun _ => False) w w' p (playAll (newS n.toNat) l))

set_option maxHeartbeats 1000000 in
theorem made_any (n : Int) (A : Option Addr) (l : List ActV) (c : Nat) (w : World) (hl : Lst w w.heap.size A l) (hlen : l.length ≤ maxLen) :
    Calls Try.prog 12 #[.int .i64 n, .slice A l.length c] w fun e w' => MadePost w n l e w' := by
  obtain ⟨N, hN⟩ : ∃ N, N = l.length := ⟨_, rfl⟩
  rw [← hN] at hlen ⊢
  have HN := Lib.hid hN
  have HLEN := Lib.hid hlen
  have HL := Lib.hid hl
  clear hN hl hlen
  go_enter Try.func12, Try.ntmps12
  go_wp2_with fail
  refine (has_new n _).mono ?_
  rintro e w1 (⟨hh, rfl, rfl⟩ | ⟨hh, p, rfl, H⟩)
  · have HP := Lib.hid (show MadePost w1 n l (.returned (.pointer none)) w1 from .inl ⟨fun g => hh g.1, rfl, Below.refl _ _⟩)
    clear hh
    go_wp2_with fail
    refine (no_any 1 _).mono ?_
    rintro e w2 ⟨rfl, rfl⟩
    go_wp2_with fail
    go_ret
    exact HP.out
  go_wp2_with fail
  refine (no_any 0 _).mono ?_
  rintro e w2 ⟨rfl, rfl⟩
  by_cases hl80 : N ≤ 80
  case neg =>
    have HP := Lib.hid (show MadePost w n l (.returned (.pointer none)) w1 from .inl ⟨fun g => hl80 (by rw [HN.out]; exact g.2), rfl, H.old⟩)
    go_wp2_with fail
    go_ret
    exact HP.out
  have HH := Lib.hid hh
  clear hh
  go_wp2_with fail
  go_loopw [7] (fun t wr => ∃ i : Nat, i ≤ N ∧ t = .int .i64 i ∧ Has (fun _ => False) w wr p (playAll (newS n.toNat) (l.take i))) (fun t _ => N - (intOf t).toNat)
  case atStart => exact ⟨0, Nat.zero_le _, by go_num, H⟩
  case round =>
    obtain ⟨i, hi, rfl, H1⟩ := hrel
    by_cases hlt : i < N
    · obtain ⟨a, ha⟩ : ∃ a, l[i]? = some a := ⟨l[i]'(by rw [← HN.out]; exact hlt), List.getElem?_eq_getElem _⟩
      obtain ⟨ad, hA, hB, hc⟩ := (HL.out.below H1.old) i a ha
      subst hA
      have hc0 : wr.cell? (ad.add (i * 4)) = some (.int .i64 a.k) := hc 0 _ rfl
      have hc1 : wr.cell? ⟨(ad.add (i * 4)).block, (ad.add (i * 4)).off + 1, none⟩ = some (.int .i64 a.h) := hc 1 _ rfl
      have hc2 : wr.cell? ⟨(ad.add (i * 4)).block, (ad.add (i * 4)).off + 2, none⟩ = some (.int .i64 a.n) := hc 2 _ rfl
      have hc3 : wr.cell? ⟨(ad.add (i * 4)).block, (ad.add (i * 4)).off + 3, none⟩ = some (.int .i64 a.x) := hc 3 _ rfl
      have HA := Lib.hid ha
      clear hc ha
      go_wp2_with fail
      refine (play_any H1 a.k a.h a.n a.x).mono ?_
      rintro e w2 ⟨rfl, H2, -⟩
      have H3 := Lib.hid (show Has (fun _ => False) w w2 p (playAll (newS n.toNat) (l.take (i + 1))) from by rw [playAll_take _ _ HA.out]; exact H2)
      clear hc0 hc1 hc2 hc3 H1 H2
      go_wp2_with fail
      go_roundw
      case rel => exact ⟨i + 1, by omega, by go_num, H3.out⟩
      case measure => simp [intOf]; omega
    · obtain rfl : i = N := by omega
      have HP := Lib.hid (show MadePost w n l (.returned (.pointer (some ⟨p, 0, none⟩))) wr from .inr ⟨⟨HH.out, by rw [← HN.out]; exact hl80⟩, p, rfl, by have := H1; rw [HN.out, List.take_length] at this; exact this⟩)
      clear H1
      go_wp2_with fail
      go_ret
      exact HP.out
end Go.Proofs.Ytpaopcnbgdlgnaa
