/- The runs of free cells, in plain Lean. -/
import Derived.Test.YtpaopcnbgdlgnaaArenaPure
namespace Go.Proofs.Ytpaopcnbgdlgnaa
set_option linter.unusedVariables false
set_option linter.unusedSimpArgs false

/-- A run of free cells: where it begins, how long it is, how many blocks stand ahead. -/
structure Run where
  a : Nat
  n : Nat
  i : Nat

/-- The runs from place `lo` on, `i` blocks standing ahead; the block `wo` is taken as free. -/
def runsFrom (N : Nat) (wo : Int) : Nat → Nat → List Blk → List Run
  | lo, i, [] => if lo < N then [⟨lo, N - lo, i⟩] else []
  | lo, i, b :: l =>
    if (b.h : Int) = wo then runsFrom N wo lo (i + 1) l
    else (if lo < b.a then [⟨lo, b.a - lo, i⟩] else []) ++ runsFrom N wo (b.a + b.n) (i + 1) l

def runs (N : Nat) (wo : Int) (L : List Blk) : List Run := runsFrom N wo 0 0 L

theorem runsFrom_len (N : Nat) (wo : Int) : ∀ (L : List Blk) (lo i : Nat), (runsFrom N wo lo i L).length ≤ L.length + 1 := by
  intro L
  induction L with
  | nil => intro lo i; unfold runsFrom; split <;> simp
  | cons b l ih =>
    intro lo i
    unfold runsFrom
    split
    · have := ih lo (i + 1); simp; omega
    · have := ih (b.a + b.n) (i + 1)
      split <;> simp <;> omega

/-- The first run that is long enough. -/
def firstRun (n : Nat) : List Run → Option Run
  | [] => none
  | r :: l => if n ≤ r.n then some r else firstRun n l

theorem firstRun_none {n : Nat} : ∀ {l : List Run}, (∀ r ∈ l, r.n < n) → firstRun n l = none := by
  intro l
  induction l with
  | nil => intro _; rfl
  | cons r l ih =>
    intro h
    unfold firstRun
    have := h r (by simp)
    rw [if_neg (by omega)]
    exact ih fun x hx => h x (by simp [hx])

theorem firstRun_app {n : Nat} {r : Run} : ∀ {pre rest : List Run}, (∀ x ∈ pre, x.n < n) → n ≤ r.n → firstRun n (pre ++ r :: rest) = some r := by
  intro pre rest
  induction pre with
  | nil => intro _ h; simp [firstRun, h]
  | cons x l ih =>
    intro h hr
    have hx := h x (by simp)
    show firstRun n (x :: (l ++ r :: rest)) = some r
    unfold firstRun
    rw [if_neg (by omega)]
    exact ih (fun y hy => h y (by simp [hy])) hr

def maxRun : List Run → Nat
  | [] => 0
  | r :: l => max r.n (maxRun l)

theorem maxRun_snoc (l : List Run) (r : Run) : maxRun (l ++ [r]) = max (maxRun l) r.n := by
  induction l with
  | nil => simp [maxRun]
  | cons x l ih => simp only [List.cons_append, maxRun, ih]; omega
end Go.Proofs.Ytpaopcnbgdlgnaa
