/- Resize and Extend, in plain Lean. -/
import Derived.Test.YtpaopcnbgdlgnaaAOps
namespace Go.Proofs.Ytpaopcnbgdlgnaa
set_option linter.unusedVariables false
set_option linter.unusedSimpArgs false

def Run.key (r : Run) : Nat × Nat := (r.a, r.n)

/-- Where no block has the handle, the runs are those with none taken as free, but for the count. -/
theorem runs_absent {N : Nat} {h : Int} : ∀ {L : List Blk} {lo i j : Nat}, (∀ b ∈ L, (b.h : Int) ≠ h) → (∀ b ∈ L, 1 ≤ b.h) → (runsFrom N h lo i L).map Run.key = (runsFrom N 0 lo j L).map Run.key := by
  intro L
  induction L with
  | nil => intro lo i j _ _; unfold runsFrom; split <;> rfl
  | cons c l ih =>
    intro lo i j h1 h2
    have g1 := h1 c (by simp)
    have g2 := h2 c (by simp)
    unfold runsFrom
    rw [if_neg g1, if_neg (show ¬ (c.h : Int) = 0 by omega), List.map_append, List.map_append, ih (j := j + 1) (fun b hb => h1 b (by simp [hb])) (fun b hb => h2 b (by simp [hb]))]
    congr 1
    split <;> rfl

/-- A block taken as free: the runs are those without it. -/
theorem runs_without {N : Nat} {h : Int} : ∀ {L : List Blk} {lo i j : Nat}, (L.map (·.h)).Nodup → (∀ b ∈ L, 1 ≤ b.h) → (runsFrom N h lo i L).map Run.key = (runsFrom N 0 lo j (eraseB h L)).map Run.key := by
  intro L
  induction L with
  | nil => intro lo i j _ _; unfold runsFrom eraseB; split <;> (unfold runsFrom; simp [*]; try rfl)
  | cons c l ih =>
    intro lo i j hn h2
    simp only [List.map_cons, List.nodup_cons] at hn
    have g2 := h2 c (by simp)
    unfold eraseB
    by_cases hc : (c.h : Int) = h
    · rw [if_pos hc]
      conv => lhs; unfold runsFrom
      rw [if_pos hc]
      refine runs_absent (fun b hb e => hn.1 (List.mem_map.2 ⟨b, hb, by omega⟩)) (fun b hb => h2 b (by simp [hb]))
    · rw [if_neg hc]
      conv => lhs; unfold runsFrom
      conv => rhs; unfold runsFrom
      rw [if_neg hc, if_neg (show ¬ (c.h : Int) = 0 by omega), List.map_append, List.map_append, ih (j := j + 1) hn.2 (fun b hb => h2 b (by simp [hb]))]
      congr 1
      split <;> rfl

theorem firstRun_key {n : Nat} : ∀ {l l' : List Run}, l.map Run.key = l'.map Run.key → (firstRun n l).map Run.key = (firstRun n l').map Run.key := by
  intro l
  induction l with
  | nil => intro l' h; cases l' with
    | nil => rfl
    | cons _ _ => simp at h
  | cons r l ih =>
    intro l' h
    cases l' with
    | nil => simp at h
    | cons r' l' =>
      simp only [List.map_cons, List.cons.injEq] at h
      obtain ⟨h1, h2⟩ := h
      have e : r.n = r'.n := congrArg Prod.snd h1
      unfold firstRun
      rw [e]
      split
      · simp [h1]
      · exact ih h2

theorem first_without {S : St} (hS : Inv S) (n : Nat) (h : Int) : (firstRun n (runs S.cells.length h S.L)).map Run.key = (firstRun n (runs S.cells.length 0 (eraseB h S.L))).map Run.key :=
  firstRun_key (runs_without hS.nodup fun b hb => (hS.mem hb).2.1)

/-! ### Resize -/
def ownC (cells : List Int) (b : Blk) (n : Nat) : List Int := (cells.drop b.a).take (min n b.n)
def putC (cells : List Int) (a n : Nat) (own : List Int) : List Int := layCells (layCells cells a (List.replicate n 0)) a own

def resizeR (S : St) (h n : Int) : Int :=
  match getB h S.L with
  | none => 5
  | some b =>
    if n < 1 ∨ 65536 < n then 1 else
    match firstRun n.toNat (runs S.cells.length 0 (eraseB h S.L)) with
    | none => 8
    | some r => 0

def resizeS (S : St) (h n : Int) : St :=
  match getB h S.L with
  | none => S
  | some b =>
    if n < 1 ∨ 65536 < n then S else
    match firstRun n.toNat (runs S.cells.length 0 (eraseB h S.L)) with
    | none => S
    | some r => ⟨putC S.cells r.a n.toNat (ownC S.cells b n.toNat), insB (eraseB h S.L) r.i ⟨b.h, r.a, n.toNat⟩⟩

theorem ownC_length {S : St} (hS : Inv S) {b : Blk} (hb : b ∈ S.L) (n : Nat) : (ownC S.cells b n).length = min n b.n := by
  have := hS.mem hb
  unfold ownC
  simp; omega

theorem putC_length {cells : List Int} {a n : Nat} {own : List Int} (h1 : a + n ≤ cells.length) (h2 : own.length ≤ n) : (putC cells a n own).length = cells.length := by
  have e : (layCells cells a (List.replicate n 0)).length = cells.length := layCells_length (by simpa using h1)
  unfold putC
  rw [layCells_length (by rw [e]; omega), e]
end Go.Proofs.Ytpaopcnbgdlgnaa
