/- ArenaFull in plain Lean. -/
import Derived.Test.YtpaopcnbgdlgnaaLawP
namespace Go.Proofs.Ytpaopcnbgdlgnaa
set_option linter.unusedVariables false
set_option linter.unusedSimpArgs false

/-- Behind a compaction all free cells stand together. -/
theorem runs_comp {N : Nat} : ∀ {L : List Blk} {lo i lo' : Nat}, Laid lo' L → runsFrom N 0 lo i (compL lo L) = if lo + liveL L < N then [⟨lo + liveL L, N - (lo + liveL L), i + L.length⟩] else [] := by
  intro L
  induction L with
  | nil =>
    intro lo i lo' _
    have e : liveL [] = 0 := rfl
    show (if lo < N then [(⟨lo, N - lo, i⟩ : Run)] else []) = _
    by_cases hh : lo < N
    · rw [if_pos hh, if_pos (by rw [e]; omega)]; rfl
    · rw [if_neg hh, if_neg (by rw [e]; omega)]
  | cons b l ih =>
    intro lo i lo' h
    obtain ⟨h1, h2, h3, h4⟩ := h
    have e : liveL (b :: l) = b.n + liveL l := rfl
    show runsFrom N 0 lo i (⟨b.h, lo, b.n⟩ :: compL (lo + b.n) l) = _
    unfold runsFrom
    rw [if_neg (show ¬ ((b.h : Nat) : Int) = 0 by omega), if_neg (Nat.lt_irrefl lo), ih h4, List.nil_append]
    simp only
    by_cases hh : lo + b.n + liveL l < N
    · rw [if_pos hh, if_pos (by rw [e]; omega), e, show lo + b.n + liveL l = lo + (b.n + liveL l) by omega, show i + 1 + l.length = i + (b :: l).length by simp; omega]
    · rw [if_neg hh, if_neg (by rw [e]; omega)]

theorem gap_comp {S : St} (hS : Inv S) : maxRun (runs (compactS S).cells.length 0 (compactS S).L) = S.cells.length - liveL S.L := by
  have hc : (compactS S).cells.length = S.cells.length := compC_length (Nat.le_refl _) hS.laid hS.top
  rw [hc]
  show maxRun (runsFrom S.cells.length 0 0 0 (compL 0 S.L)) = _
  rw [runs_comp hS.laid]
  split
  · simp [maxRun]
  · simp [maxRun]; omega

theorem find_ins {L : List Blk} {i : Nat} {b : Blk} (h : getB b.h L = none) : findR (insB L i b) b.h = ((b.a : Int), (b.n : Int), (0 : Int)) := by
  unfold findR
  rw [getB_ins h, if_pos rfl]
end Go.Proofs.Ytpaopcnbgdlgnaa
