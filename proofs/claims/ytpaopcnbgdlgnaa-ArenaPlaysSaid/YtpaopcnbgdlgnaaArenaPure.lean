/- The arena's plain law: blocks in a list, where they lie, what a place is. -/
import Derived.Test.YtpaopcnbgdlgnaaArenaRep
namespace Go.Proofs.Ytpaopcnbgdlgnaa
set_option linter.unusedVariables false
set_option linter.unusedSimpArgs false

theorem getB_mem {k : Int} : ∀ {L : List Blk} {b : Blk}, getB k L = some b → b ∈ L ∧ (b.h : Int) = k := by
  intro L
  induction L with
  | nil => intro b h; simp [getB] at h
  | cons c l ih =>
    intro b h
    unfold getB at h
    split at h
    · cases h; exact ⟨by simp, by assumption⟩
    · obtain ⟨h1, h2⟩ := ih h; exact ⟨by simp [h1], h2⟩

theorem getB_none {k : Int} : ∀ {L : List Blk}, getB k L = none ↔ ∀ b ∈ L, (b.h : Int) ≠ k := by
  intro L
  induction L with
  | nil => simp [getB]
  | cons c l ih =>
    unfold getB
    split
    · rename_i h; simp [h]
    · rename_i h; simp [h, ih]

theorem getB_of_mem {L : List Blk} (hn : (L.map (·.h)).Nodup) {b : Blk} (hb : b ∈ L) : getB b.h L = some b := by
  induction L with
  | nil => simp at hb
  | cons c l ih =>
    simp only [List.map_cons, List.nodup_cons] at hn
    unfold getB
    by_cases h : (c.h : Int) = b.h
    · rw [if_pos h]
      rcases List.mem_cons.1 hb with rfl | hb
      · rfl
      · exact absurd (List.mem_map.2 ⟨b, hb, by omega⟩) hn.1
    · rw [if_neg h]
      rcases List.mem_cons.1 hb with rfl | hb
      · exact absurd rfl h
      · exact ih hn.2 hb

theorem topL_ge : ∀ {L : List Blk} {lo : Nat}, Laid lo L → lo ≤ topL lo L := by
  intro L
  induction L with
  | nil => intro lo _; exact Nat.le_refl _
  | cons b l ih =>
    intro lo h
    obtain ⟨h1, h2, _, h3⟩ := h
    have := ih h3
    show lo ≤ topL (b.a + b.n) l
    omega

theorem laid_mem : ∀ {L : List Blk} {lo : Nat} {b : Blk}, Laid lo L → b ∈ L → lo ≤ b.a ∧ 1 ≤ b.n ∧ 1 ≤ b.h ∧ b.a + b.n ≤ topL lo L := by
  intro L
  induction L with
  | nil => intro lo b _ h; simp at h
  | cons c l ih =>
    intro lo b h hb
    obtain ⟨h1, h2, h3, h4⟩ := h
    rcases List.mem_cons.1 hb with rfl | hb
    · exact ⟨h1, h2, h3, topL_ge h4⟩
    · obtain ⟨g1, g2, g3, g4⟩ := ih h4 hb
      exact ⟨by omega, g2, g3, g4⟩

theorem Inv.mem {S : St} (h : Inv S) {b : Blk} (hb : b ∈ S.L) : 1 ≤ b.n ∧ 1 ≤ b.h ∧ b.a + b.n ≤ S.cells.length ∧ b.a + b.n ≤ 65536 ∧ b.h ≤ 70000 := by
  obtain ⟨_, h2, h3, h4⟩ := laid_mem h.laid hb
  have := h.top
  have := h.size
  exact ⟨h2, h3, by omega, by omega, h.small b hb⟩

theorem Inv.get {S : St} (h : Inv S) {k : Int} {b : Blk} (hb : getB k S.L = some b) : 1 ≤ b.n ∧ 1 ≤ b.h ∧ b.a + b.n ≤ S.cells.length ∧ b.a + b.n ≤ 65536 ∧ b.h ≤ 70000 := h.mem (getB_mem hb).1

theorem liveL_le : ∀ {L : List Blk} {lo : Nat}, Laid lo L → lo + liveL L ≤ topL lo L := by
  intro L
  induction L with
  | nil => intro lo _; exact Nat.le_refl _
  | cons b l ih =>
    intro lo h
    obtain ⟨h1, h2, _, h3⟩ := h
    have := ih h3
    show lo + (b.n + liveL l) ≤ topL (b.a + b.n) l
    omega

theorem Inv.live {S : St} (h : Inv S) : liveL S.L ≤ S.cells.length := by
  have := liveL_le h.laid
  have := h.top
  omega

theorem length_le_live : ∀ {L : List Blk} {lo : Nat}, Laid lo L → L.length ≤ liveL L := by
  intro L
  induction L with
  | nil => intro lo _; exact Nat.le_refl _
  | cons b l ih =>
    intro lo h
    obtain ⟨h1, h2, _, h3⟩ := h
    have := ih h3
    show l.length + 1 ≤ b.n + liveL l
    omega

theorem Inv.length {S : St} (h : Inv S) : S.L.length ≤ S.cells.length := by
  have := length_le_live h.laid
  have := h.live
  omega

/-- What find answers: place, length, error. -/
def findR (L : List Blk) (h : Int) : Int × Int × Int :=
  match getB h L with
  | some b => (b.a, b.n, 0)
  | none => (0, 0, 5)

/-- What cell answers. -/
def cellR (L : List Blk) (h i : Int) : Int × Int :=
  match getB h L with
  | some b => if 0 ≤ i ∧ i < b.n then (b.a + i, 0) else (0, 1)
  | none => (0, 5)

def loadR (S : St) (h i : Int) : Int × Int :=
  if (cellR S.L h i).2 = 0 then (S.cells.getD (cellR S.L h i).1.toNat 0, 0) else (0, (cellR S.L h i).2)

def storeS (S : St) (h i x : Int) : St :=
  if (cellR S.L h i).2 = 0 then { S with cells := S.cells.set (cellR S.L h i).1.toNat x } else S

theorem cellR_ok {S : St} (hS : Inv S) {h i : Int} (hc : (cellR S.L h i).2 = 0) : 0 ≤ (cellR S.L h i).1 ∧ (cellR S.L h i).1 < S.cells.length := by
  unfold cellR at *
  split at hc
  · rename_i b hb
    have := hS.get hb
    split at hc
    · rename_i h1; simp only [hb, if_pos h1]; omega
    · simp at hc
  · simp at hc

theorem cellR_err {L : List Blk} {h i : Int} : (cellR L h i).2 = 0 ∨ (cellR L h i).1 = 0 ∧ ((cellR L h i).2 = 1 ∨ (cellR L h i).2 = 5) := by
  unfold cellR
  split
  · split <;> simp
  · simp

theorem Inv.storeS {S : St} (h : Inv S) (k i x : Int) : Inv (storeS S k i x) := by
  unfold Proofs.Ytpaopcnbgdlgnaa.storeS
  split
  · exact ⟨h.laid, by simpa using h.top, h.nodup, by simpa using h.size, by simpa using h.pos, h.small⟩
  · exact h
end Go.Proofs.Ytpaopcnbgdlgnaa
