/- The chapter's example, played in every law. -/
import Derived.Test.YtpaopcnbgdlgnaaAHas
import Derived.Test.YtpaopcnbgdlgnaaANil
namespace Go.Proofs.Ytpaopcnbgdlgnaa
open Go.RowKit Go.MapKept
set_option linter.unusedVariables false
set_option linter.unusedSimpArgs false

theorem lit_alloc {X : Nat → Prop} {w0 w : World} {p : Nat} {S S' : St} {h e : Int} (n : Int) (h1 : allocR S n = (h, e)) (h2 : allocS S n = S') (H : Has X w0 w p S) :
    Calls Try.prog 14 #[.pointer (some ⟨p, 0, none⟩), .int .i64 n] w fun en w' => en = .returned (.tuple #[.int .i64 h, .int .i64 e]) ∧ Has X w0 w' p S' := by
  have := has_alloc H n
  rw [h1, h2] at this
  exact this.mono fun _ _ g => ⟨g.1, g.2.1⟩

def z10 : List Int := [0, 0, 0, 0, 0, 0, 0, 0, 0, 0]
def al0 : St := ⟨z10, []⟩
def al1 : St := ⟨z10, [⟨1, 0, 3⟩]⟩
def al2 : St := ⟨z10, [⟨1, 0, 3⟩, ⟨2, 3, 3⟩]⟩
def al3 : St := ⟨z10, [⟨1, 0, 3⟩, ⟨2, 3, 3⟩, ⟨3, 6, 3⟩]⟩
def al4 : St := ⟨z10, [⟨1, 0, 3⟩, ⟨3, 6, 3⟩]⟩
def al5 : St := ⟨z10, [⟨1, 0, 3⟩, ⟨2, 3, 2⟩, ⟨3, 6, 3⟩]⟩
def al7 : St := ⟨z10, [⟨1, 0, 3⟩, ⟨2, 3, 2⟩, ⟨3, 5, 3⟩]⟩
def al8 : St := ⟨z10, [⟨1, 0, 3⟩, ⟨2, 3, 2⟩, ⟨3, 5, 3⟩, ⟨4, 8, 2⟩]⟩
theorem al_0 : newS (10 : Int).toNat = al0 := by kernel_rfl
theorem al_1 : allocR al0 3 = (1, 0) ∧ allocS al0 3 = al1 := ⟨by kernel_rfl, by kernel_rfl⟩
theorem al_2 : allocR al1 3 = (2, 0) ∧ allocS al1 3 = al2 := ⟨by kernel_rfl, by kernel_rfl⟩
theorem al_3 : allocR al2 3 = (3, 0) ∧ allocS al2 3 = al3 := ⟨by kernel_rfl, by kernel_rfl⟩
theorem al_4 : freeR al3 2 = 0 ∧ freeS al3 2 = al4 := ⟨by kernel_rfl, by kernel_rfl⟩
theorem al_5 : allocR al4 2 = (2, 0) ∧ allocS al4 2 = al5 := ⟨by kernel_rfl, by kernel_rfl⟩
theorem al_6 : allocR al5 2 = (0, 8) ∧ allocS al5 2 = al5 := ⟨by kernel_rfl, by kernel_rfl⟩
theorem al_7 : ((compM 0 al5.L : Nat) : Int) = 1 ∧ compactS al5 = al7 := ⟨by kernel_rfl, by kernel_rfl⟩
theorem al_8 : allocR al7 2 = (4, 0) ∧ allocS al7 2 = al8 := ⟨by kernel_rfl, by kernel_rfl⟩
theorem al_9 : addrR al8.L 3 = 5 ∧ addrR al8.L 4 = 8 ∧ ((topL 0 al8.L : Nat) : Int) = 10 := ⟨by kernel_rfl, by kernel_rfl, by kernel_rfl⟩

set_option maxHeartbeats 1000000 in
theorem alive_any (w : World) :
    Calls Try.prog 13 #[] w fun e w' => e = .returned (.bool true) ∧ Below w.heap.size w w' := by
  go_enter Try.func13, Try.ntmps13
  go_wp2_with fail
  refine (has_new 10 _).mono ?_
  rintro e w1 (⟨hh, _⟩ | ⟨_, p, rfl, H⟩)
  · exact absurd ⟨by decide, by decide⟩ hh
  rw [al_0] at H
  go_wp2_with fail
  refine (no_any 0 _).mono ?_
  rintro e w2 ⟨rfl, rfl⟩
  go_wp2_with fail
  refine (lit_alloc 3 al_1.1 al_1.2 H).mono ?_
  clear H
  rintro e w2 ⟨rfl, H⟩
  go_wp2_with fail
  refine (lit_alloc 3 al_2.1 al_2.2 H).mono ?_
  clear H
  rintro e w3 ⟨rfl, H⟩
  go_wp2_with fail
  refine (lit_alloc 3 al_3.1 al_3.2 H).mono ?_
  clear H
  rintro e w4 ⟨rfl, H⟩
  go_wp2_with fail
  have C := has_free H 2
  rw [al_4.1, al_4.2] at C
  refine C.mono ?_
  clear H C
  rintro e w5 ⟨rfl, H, _⟩
  go_wp2_with fail
  refine (lit_alloc 2 al_5.1 al_5.2 H).mono ?_
  clear H
  rintro e w6 ⟨rfl, H⟩
  go_wp2_with fail
  refine (lit_alloc 2 al_6.1 al_6.2 H).mono ?_
  clear H
  rintro e w7 ⟨rfl, H⟩
  go_wp2_with fail
  have C := has_compact H
  rw [al_7.1, al_7.2] at C
  refine C.mono ?_
  clear H C
  rintro e w8 ⟨rfl, H, _⟩
  go_wp2_with fail
  refine (lit_alloc 2 al_8.1 al_8.2 H).mono ?_
  clear H
  rintro e w9 ⟨rfl, H⟩
  go_wp2_with fail
  refine (no_any 0 _).mono ?_
  rintro e w2 ⟨rfl, rfl⟩
  go_wp2_with fail
  refine (no_any 0 _).mono ?_
  rintro e w2 ⟨rfl, rfl⟩
  go_wp2_with fail
  refine (no_any 8 _).mono ?_
  rintro e w2 ⟨rfl, rfl⟩
  go_wp2_with fail
  have C := has_addr H 3
  rw [al_9.1] at C
  refine C.mono ?_
  clear H C
  rintro e w10 ⟨rfl, H, _⟩
  go_wp2_with fail
  refine (no_any 0 _).mono ?_
  rintro e w2 ⟨rfl, rfl⟩
  go_wp2_with fail
  have C := has_addr H 4
  rw [al_9.2.1] at C
  refine C.mono ?_
  clear H C
  rintro e w11 ⟨rfl, H, _⟩
  go_wp2_with fail
  have C := has_top H
  rw [al_9.2.2] at C
  refine C.mono ?_
  clear H C
  rintro e w12 ⟨rfl, H, _⟩
  go_wp2_with fail
  go_ret
  exact ⟨rfl, H.old⟩
end Go.Proofs.Ytpaopcnbgdlgnaa
