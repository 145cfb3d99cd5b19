/- What the world holds from the start; what a point line answers. -/
import Derived.Test.YthncifbnkednlaaDoorScrWords
namespace Go.Proofs.YthncifbnkednlaaDoor
open Go.RowKit Go.Shelf
set_option linter.unusedVariables false
set_option linter.unusedSimpArgs false

/-- What the world holds from the start: the point words' table; MaxLen. -/
def maxL : List Int := [-1, 999999999, -1, -1, 1, -1]
structure Env (w : World) : Prop where
  word : ∀ k b, wordsL[k]? = some b → w.cell? ⟨0, 2 * k, none⟩ = some (.string (str b))
  max : ∀ k b, maxL[k]? = some b → w.cell? ⟨0, 2 * k + 1, none⟩ = some (.int .i64 b)
  len : ∃ m, w.cell? ⟨1, 0, none⟩ = some (.int .i64 m)
  size : 9 ≤ w.heap.size
theorem Env.below {w w' : World} (h : Env w) (hb : Below w.heap.size w w') : Env w' := by
  have hk : ∀ (g i : Nat), g < 9 → w'.cell? ⟨g, i, none⟩ = w.cell? ⟨g, i, none⟩ := fun g i hg => World.cell?_of_block (w := w) (hb.block g (by have := h.size; omega))
  exact ⟨fun k b e => (hk 0 _ (by omega)).trans (h.word k b e), fun k b e => (hk 0 _ (by omega)).trans (h.max k b e), h.len.imp fun m e => (hk 1 _ (by omega)).trans e, Nat.le_trans h.size hb.size⟩
def PointAns (r : Option (Nat × Nat × Nat)) (e : Ending) : Prop := ∃ (a b n : Int) (ok : Bool), e = .returned (.tuple #[.agg #[.int .i64 a, .int .i64 b], .int .i64 n, .bool ok]) ∧ match r with
  | none => ok = false
  | some (k, N, m) => a = k ∧ b = N ∧ n = m ∧ ok = true
end Go.Proofs.YthncifbnkednlaaDoor
