/- Resize, Extend and any call of an arena, for laws. -/
import Derived.Test.YtpaopcnbgdlgnaaAHas
import Derived.Test.YtpaopcnbgdlgnaaAResize
import Derived.Test.YtpaopcnbgdlgnaaAExtend
namespace Go.Proofs.Ytpaopcnbgdlgnaa
open Go.RowKit Go.MapKept
set_option linter.unusedVariables false
set_option linter.unusedSimpArgs false
variable {X : Nat → Prop} {w0 w w' : World} {p : Nat} {S S' : St}

theorem has_resize (h : Has X w0 w p S) (k n : Int) :
    Calls Try.prog 21 #[.pointer (some ⟨p, 0, none⟩), .int .i64 k, .int .i64 n] w fun e w' => e = .returned (.int .i64 (resizeR S k n)) ∧ Has X w0 w' p (resizeS S k n) ∧ Same X w w' := by
  obtain ⟨A, rfl, H, h0, ho, hX⟩ := h
  refine (resize_any H k n).mono fun e w' g => ?_
  obtain ⟨he, A', H', st⟩ := g
  exact ⟨he, Has.step rfl H h0 ho hX H' st⟩

theorem has_extend (h : Has X w0 w p S) (k n : Int) :
    Calls Try.prog 30 #[.pointer (some ⟨p, 0, none⟩), .int .i64 k, .int .i64 n] w fun e w' => e = .returned (.int .i64 (extendR S k n)) ∧ Has X w0 w' p (extendS S k n) ∧ Same X w w' := by
  obtain ⟨A, rfl, H, h0, ho, hX⟩ := h
  refine (extend_any H k n).mono fun e w' g => ?_
  obtain ⟨he, A', H', st⟩ := g
  exact ⟨he, Has.step rfl H h0 ho hX H' st⟩

/-- A call, as the laws' lists hold it. -/
structure ActV where
  k : Int
  h : Int
  n : Int
  x : Int

def ActV.cells (a : ActV) : List Value := [.int .i64 a.k, .int .i64 a.h, .int .i64 a.n, .int .i64 a.x]

def playS (S : St) (a : ActV) : St :=
  if a.k = 1 then allocS S a.n else if a.k = 2 then freeS S a.h else if a.k = 3 then resizeS S a.h a.n else if a.k = 4 then storeS S a.h a.n a.x
  else if a.k = 6 then compactS S else if a.k = 7 then extendS S a.h a.n else S

def PlayPost (X : Nat → Prop) (w0 w : World) (p : Nat) (S : St) (e : Ending) (w' : World) : Prop := e = .returned (.tuple #[]) ∧ Has X w0 w' p S ∧ Same X w w'

set_option maxHeartbeats 1000000 in
theorem play_any (H : Has X w0 w p S) (k h n x : Int) :
    Calls Try.prog 17 #[.pointer (some ⟨p, 0, none⟩), .agg #[.int .i64 k, .int .i64 h, .int .i64 n, .int .i64 x]] w fun e w' => PlayPost X w0 w p (playS S ⟨k, h, n, x⟩) e w' := by
  have hb := below_alloc w (.cells #[.int .i64 k, .int .i64 h, .int .i64 n, .int .i64 x] 32)
  have HB := Lib.hid (fun T => fun hk : Same X (w.alloc (.cells #[.int .i64 k, .int .i64 h, .int .i64 n, .int .i64 x] 32)) T => ((H.below hb).2.trans hk : Same X w T))
  have H1 := (H.below hb).1
  clear H hb
  by_cases h1 : k = 1
  · subst h1
    have HS := Lib.hid (show playS S ⟨1, h, n, x⟩ = allocS S n from rfl)
    go_enter Try.func17, Try.ntmps17
    go_wp2_with fail
    refine (has_alloc H1 n).mono ?_
    rintro e w1 ⟨rfl, H2, s2⟩
    have HP := Lib.hid (show PlayPost X w0 w p (playS S ⟨1, h, n, x⟩) (.returned (.tuple #[])) w1 from ⟨rfl, by rw [HS.out]; exact H2, HB.out _ s2⟩)
    clear H1 H2 s2
    go_wp2_with fail
    go_end0
    exact HP.out
  by_cases h2 : k = 2
  · subst h2
    have HS := Lib.hid (show playS S ⟨2, h, n, x⟩ = freeS S h from rfl)
    go_enter Try.func17, Try.ntmps17
    go_wp2_with fail
    refine (has_free H1 h).mono ?_
    rintro e w1 ⟨rfl, H2, s2⟩
    have HP := Lib.hid (show PlayPost X w0 w p (playS S ⟨2, h, n, x⟩) (.returned (.tuple #[])) w1 from ⟨rfl, by rw [HS.out]; exact H2, HB.out _ s2⟩)
    clear H1 H2 s2
    go_wp2_with fail
    go_end0
    exact HP.out
  by_cases h3 : k = 3
  · subst h3
    have HS := Lib.hid (show playS S ⟨3, h, n, x⟩ = resizeS S h n from rfl)
    go_enter Try.func17, Try.ntmps17
    go_wp2_with fail
    refine (has_resize H1 h n).mono ?_
    rintro e w1 ⟨rfl, H2, s2⟩
    have HP := Lib.hid (show PlayPost X w0 w p (playS S ⟨3, h, n, x⟩) (.returned (.tuple #[])) w1 from ⟨rfl, by rw [HS.out]; exact H2, HB.out _ s2⟩)
    clear H1 H2 s2
    go_wp2_with fail
    go_end0
    exact HP.out
  by_cases h4 : k = 4
  · subst h4
    have HS := Lib.hid (show playS S ⟨4, h, n, x⟩ = storeS S h n x from rfl)
    go_enter Try.func17, Try.ntmps17
    go_wp2_with fail
    refine (has_store H1 h n x).mono ?_
    rintro e w1 ⟨rfl, H2, s2⟩
    have HP := Lib.hid (show PlayPost X w0 w p (playS S ⟨4, h, n, x⟩) (.returned (.tuple #[])) w1 from ⟨rfl, by rw [HS.out]; exact H2, HB.out _ s2⟩)
    clear H1 H2 s2
    go_wp2_with fail
    go_end0
    exact HP.out
  by_cases h6 : k = 6
  · subst h6
    have HS := Lib.hid (show playS S ⟨6, h, n, x⟩ = compactS S from rfl)
    go_enter Try.func17, Try.ntmps17
    go_wp2_with fail
    refine (has_compact H1).mono ?_
    rintro e w1 ⟨rfl, H2, s2⟩
    have HP := Lib.hid (show PlayPost X w0 w p (playS S ⟨6, h, n, x⟩) (.returned (.tuple #[])) w1 from ⟨rfl, by rw [HS.out]; exact H2, HB.out _ s2⟩)
    clear H1 H2 s2
    go_wp2_with fail
    go_end0
    exact HP.out
  by_cases h7 : k = 7
  · subst h7
    have HS := Lib.hid (show playS S ⟨7, h, n, x⟩ = extendS S h n from rfl)
    go_enter Try.func17, Try.ntmps17
    go_wp2_with fail
    refine (has_extend H1 h n).mono ?_
    rintro e w1 ⟨rfl, H2, s2⟩
    have HP := Lib.hid (show PlayPost X w0 w p (playS S ⟨7, h, n, x⟩) (.returned (.tuple #[])) w1 from ⟨rfl, by rw [HS.out]; exact H2, HB.out _ s2⟩)
    clear H1 H2 s2
    go_wp2_with fail
    go_end0
    exact HP.out
  have HP := Lib.hid (show PlayPost X w0 w p (playS S ⟨k, h, n, x⟩) (.returned (.tuple #[])) (w.alloc (.cells #[.int .i64 k, .int .i64 h, .int .i64 n, .int .i64 x] 32)) from ⟨rfl, by
    unfold playS
    simp only
    rw [if_neg h1, if_neg h2, if_neg h3, if_neg h4, if_neg h6, if_neg h7]
    exact H1, HB.out _ (Same.refl _ _)⟩)
  go_enter Try.func17, Try.ntmps17
  go_wp2_with fail
  go_end0
  exact HP.out
end Go.Proofs.Ytpaopcnbgdlgnaa
