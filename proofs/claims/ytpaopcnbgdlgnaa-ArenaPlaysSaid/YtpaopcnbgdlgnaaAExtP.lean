/- Extend and Compact in plain Lean. -/
import Derived.Test.YtpaopcnbgdlgnaaAOwn
namespace Go.Proofs.Ytpaopcnbgdlgnaa
set_option linter.unusedVariables false
set_option linter.unusedSimpArgs false

theorem compL_top : ∀ {L : List Blk} {lo : Nat}, topL lo (compL lo L) = lo + liveL L := by
  intro L
  induction L with
  | nil => intro lo; rfl
  | cons b l ih => intro lo; show topL (lo + b.n) (compL (lo + b.n) l) = _; rw [ih]; simp only [liveL]; omega

theorem compL_live : ∀ {L : List Blk} {lo : Nat}, liveL (compL lo L) = liveL L := by
  intro L
  induction L with
  | nil => intro lo; rfl
  | cons b l ih => intro lo; show b.n + liveL (compL (lo + b.n) l) = _; rw [ih]; rfl

theorem compL_hs : ∀ {L : List Blk} {lo : Nat}, (compL lo L).map (·.h) = L.map (·.h) := by
  intro L
  induction L with
  | nil => intro lo; rfl
  | cons b l ih => intro lo; show b.h :: (compL (lo + b.n) l).map (·.h) = _; rw [ih]; rfl

theorem compL_length {L : List Blk} {lo : Nat} : (compL lo L).length = L.length := by
  have := congrArg List.length (compL_hs (L := L) (lo := lo))
  simpa using this

theorem compL_laid : ∀ {L : List Blk} {lo lo' : Nat}, Laid lo' L → Laid lo (compL lo L) := by
  intro L
  induction L with
  | nil => intro lo lo' _; trivial
  | cons b l ih =>
    intro lo lo' h
    obtain ⟨h1, h2, h3, h4⟩ := h
    exact ⟨Nat.le_refl _, h2, h3, ih h4⟩

/-- The block of a handle behind a compaction. -/
theorem compL_get : ∀ {L : List Blk} {lo : Nat} {k : Int}, (getB k (compL lo L)).map (fun b => (b.h, b.n)) = (getB k L).map (fun b => (b.h, b.n)) := by
  intro L
  induction L with
  | nil => intro lo k; rfl
  | cons b l ih =>
    intro lo k
    show (if (b.h : Int) = k then some ⟨b.h, lo, b.n⟩ else getB k (compL (lo + b.n) l) : Option Blk).map _ = (if (b.h : Int) = k then some b else getB k l : Option Blk).map _
    split
    · rfl
    · exact ih

theorem compL_none {L : List Blk} {lo : Nat} {k : Int} (h : getB k L = none) : getB k (compL lo L) = none := by
  have := compL_get (L := L) (lo := lo) (k := k)
  rw [h] at this
  simpa using this

theorem compC_length : ∀ {L : List Blk} {lo lo' : Nat} {cells : List Int}, lo ≤ lo' → Laid lo' L → topL lo' L ≤ cells.length → (compC cells lo L).length = cells.length := by
  intro L
  induction L with
  | nil => intro lo lo' cells _ _ _; rfl
  | cons b l ih =>
    intro lo lo' cells hlo h ht
    obtain ⟨h1, h2, h3, h4⟩ := h
    have hb : b.a + b.n ≤ cells.length := Nat.le_trans (topL_ge h4) ht
    have hm : (moveC cells lo b).length = cells.length := moveC_length (by omega) hb
    show (compC (moveC cells lo b) (lo + b.n) l).length = _
    rw [ih (lo' := b.a + b.n) (by omega) h4 (by rw [hm]; exact ht), hm]

theorem Inv.compact {S : St} (h : Inv S) : Inv (compactS S) := by
  have hc : (compactS S).cells.length = S.cells.length := compC_length (Nat.le_refl _) h.laid h.top
  refine ⟨compL_laid h.laid, ?_, ?_, by rw [hc]; exact h.size, by rw [hc]; exact h.pos, ?_⟩
  · rw [hc]; show topL 0 (compL 0 S.L) ≤ _; rw [compL_top]; have := h.live; omega
  · show ((compL 0 S.L).map (·.h)).Nodup; rw [compL_hs]; exact h.nodup
  · intro b hb
    have : b.h ∈ (compL 0 S.L).map (·.h) := List.mem_map.2 ⟨b, hb, rfl⟩
    rw [compL_hs] at this
    obtain ⟨c, hc, e⟩ := List.mem_map.1 this
    rw [← e]; exact h.small c hc

/-- A block laid behind all others. -/
theorem Inv.snoc {S : St} (hS : Inv S) {h n : Nat} (h1 : 1 ≤ h) (h7 : h ≤ 70000) (hg : getB h S.L = none) (n1 : 1 ≤ n) (ht : topL 0 S.L + n ≤ S.cells.length) {cells : List Int} (hc : cells.length = S.cells.length) :
    Inv ⟨cells, insB S.L S.L.length ⟨h, topL 0 S.L, n⟩⟩ := by
  have e : insB S.L S.L.length ⟨h, topL 0 S.L, n⟩ = S.L ++ [⟨h, topL 0 S.L, n⟩] := by simp [insB]
  refine ⟨?_, ?_, ?_, by rw [hc]; exact hS.size, by rw [hc]; exact hS.pos, ?_⟩
  · show Laid 0 (insB _ _ _); rw [e, laid_app]; exact ⟨hS.laid, Nat.le_refl _, n1, h1, trivial⟩
  · show topL 0 (insB _ _ _) ≤ _; rw [e, topL_app, hc]; exact ht
  · exact nodup_ins hS.nodup hg
  · intro b hb
    rcases mem_ins.1 hb with rfl | hb
    · exact h7
    · exact hS.small b hb

def extendR (S : St) (h n : Int) : Int :=
  match getB h S.L with
  | none => 5
  | some b => if n < 1 ∨ 65536 < n then 1 else if (S.cells.length : Int) < liveL S.L - b.n + n then 8 else 0

def extendS (S : St) (h n : Int) : St :=
  match getB h S.L with
  | none => S
  | some b => if n < 1 ∨ 65536 < n then S else if (S.cells.length : Int) < liveL S.L - b.n + n then S else
    ⟨putC (compactS (freeS S h)).cells (liveL (eraseB h S.L)) n.toNat (ownC S.cells b n.toNat), insB (compL 0 (eraseB h S.L)) (eraseB h S.L).length ⟨b.h, liveL (eraseB h S.L), n.toNat⟩⟩

end Go.Proofs.Ytpaopcnbgdlgnaa
