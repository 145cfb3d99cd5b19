/- What Resize and Extend hold in a slice of their own. -/
import Derived.Test.YtpaopcnbgdlgnaaANew
import Derived.Test.YtpaopcnbgdlgnaaAOps2
namespace Go.Proofs.Ytpaopcnbgdlgnaa
open Go.RowKit Go.MapKept
set_option linter.unusedVariables false
set_option linter.unusedSimpArgs false

theorem Try.infoR2 : (Try.prog.info? 2).map (fun i => (i.zero, i.size, i.bytes)) = some (some (.int .i64 0), 1, 8) := by kernel_rfl

/-- A slice of its own, made since w, that reads as a list. -/
def OwnIn (w wx : World) (own : List Value) (s : Value) : Prop :=
  ∃ g c spare, s = .slice (some ⟨g, 0, none⟩) own.length c ∧ w.heap.size ≤ g ∧ wx.heap[g]? = some (.cells (own ++ spare).toArray 2 (0, 0)) ∧ Below w.heap.size w wx

theorem own_in {w w1 w3 : World} {v0 v3 : Value} {n : Nat} {xs own : List Value} (hown : w3.ownsRow 0 2 1 v3 n xs) (hx : xs = own) (hne : own ≠ []) (h1 : Below w.heap.size w w1) (hg : w1.grownBy w3 v0.ownBlock)
    (hv0 : ∀ k, v0.ownBlock = some k → w.heap.size ≤ k) (hb : v3.ownBlock = v0.ownBlock ∨ v3.ownBlock = some w1.heap.size) : OwnIn w w3 own v3 := by
  subst hx
  obtain ⟨g, c, spare, rfl, hn, hgg, _⟩ := row_open hown hne
  refine ⟨g, c, spare, by rw [hn], ?_, hgg, ?_⟩
  · rcases hb with hb | hb
    · exact hv0 g (by rw [← hb]; rfl)
    · simp [Value.ownBlock] at hb
      have := h1.size
      omega
  · refine ⟨hg.os.trans h1.os, hg.tape.trans h1.tape, hg.output.trans h1.output, Nat.le_trans h1.size hg.size, fun k hk => ?_⟩
    refine (hg.block k (by have := h1.size; omega) fun e => ?_).trans (h1.block k hk)
    have := hv0 k (by simpa using e.symm)
    omega

/-- A block that is no arena's stays through its calls. -/
def Away (A : AP) (w : World) (g : Nat) : Prop := g < w.heap.size ∧ ¬ A.owns g

theorem Away.step {A A' : AP} {w w' : World} {g : Nat} (h : Away A w g) (st : Step w w' A A') : Away A' w' g ∧ w'.heap[g]? = w.heap[g]? := by
  refine ⟨⟨Nat.lt_of_lt_of_le h.1 st.keep.size, fun hk => ?_⟩, st.keep.block g h.1 h.2⟩
  rcases st.new g hk with h1 | h1
  · exact h.2 h1
  · have := h.1; omega
end Go.Proofs.Ytpaopcnbgdlgnaa
