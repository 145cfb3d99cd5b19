/- An iterator's rounds: what a loop's body must leave alone (all cells, maps and walks outside a few blocks of its own); small facts on boxes. -/
import Derived.RangeFuncNested
import Derived.RangeFuncLeaves
import Derived.Shelf.Abstract
import Derived.WalkKit
import Derived.OwnWalkIn
import Derived.TacticsInMore
import Derived.LoopNIn
import Derived.LoopIn
import Derived.Shelf.RegionOpen
namespace Go.Proofs.YthncifbnkednlaaDoor
open Go.RowKit Go.Shelf
set_option linter.unusedVariables false
set_option linter.unusedSimpArgs false

/-- Cells, maps and walks outside C are as they were. -/
structure KpC (C : Nat → Prop) (W W' : World) : Prop where
  size : W.heap.size ≤ W'.heap.size
  same : ∀ (k : Nat) (o : Obj), W.heap[k]? = some o → (o.isCells = true ∨ o.isWalk = true) → ¬ C k → W'.heap[k]? = some o

theorem KpC.refl (C : Nat → Prop) (W : World) : KpC C W W := ⟨Nat.le_refl _, fun _ _ h _ _ => h⟩
theorem KpC.trans {C : Nat → Prop} {A B D : World} (h : KpC C A B) (k : KpC C B D) : KpC C A D :=
  ⟨Nat.le_trans h.size k.size, fun i o hi ho hc => k.same i o (h.same i o hi ho hc) ho hc⟩
theorem KpC.alloc (C : Nat → Prop) (W : World) (o : Obj) : KpC C W (W.alloc o) :=
  ⟨by simp, fun k o' hk _ _ => (Below.heap_alloc W o k (Array.getElem?_eq_some_iff.1 hk).1).trans hk⟩
theorem KpC.setCell {C : Nat → Prop} (W : World) (p : Addr) (hp : C p.block) (v : Value) : KpC C W (W.setCell p v) :=
  ⟨by simp [World.setCell], fun k o hk _ hc => (Below.heap_setCell W p v k (fun e => hc (by rw [e]; exact hp))).trans hk⟩
theorem KpC.drew (C : Nat → Prop) (W : World) : KpC C W W.drew := ⟨Nat.le_refl _, fun _ _ h _ _ => h⟩
theorem KpC.of_below {C : Nat → Prop} {W W' : World} (h : Below W.heap.size W W') : KpC C W W' :=
  ⟨h.size, fun k o hk _ _ => (h.block k (Array.getElem?_eq_some_iff.1 hk).1).trans hk⟩
theorem kpC_t {C : Nat → Prop} {A B D : World} (h : KpC C A B) (k : KpC C B D) : KpC C A D := h.trans k
theorem kpC_b {C : Nat → Prop} {B : Nat} (W : World) (l : Nat) (o o' : Obj) (_ : B ≤ l) (h : W.heap[l]? = some o) (hc : o.isCells = false) (hw : o.isWalk = false) : KpC C W (W.putObj l o') :=
  ⟨by simp [World.putObj], fun k o2 hk ho _ => by
    have : k ≠ l := by
      rintro rfl
      rw [h] at hk; cases hk
      rcases ho with ho | ho
      · rw [hc] at ho; cases ho
      · rw [hw] at ho; cases ho
    exact (World.putObj_heap_other this).trans hk⟩

theorem KpC.cells {C : Nat → Prop} {W W' : World} (h : KpC C W W') {k : Nat} {c : Array Value} {e : TypeId} {f : Nat × Nat} (hk : W.heap[k]? = some (.cells c e f)) (hc : ¬ C k) : W'.heap[k]? = W.heap[k]? :=
  (h.same k _ hk (.inl rfl) hc).trans hk.symm
theorem KpC.map {C : Nat → Prop} {W W' : World} (h : KpC C W W') {k : Nat} {es : Array MapEntry} {c : Nat} (hk : W.heap[k]? = some (.map es c)) (hc : ¬ C k) : W'.heap[k]? = W.heap[k]? :=
  (h.same k _ hk (.inr rfl) hc).trans hk.symm

/-- A block that is wholly known: one list of cells. -/
def Box (W : World) (b : Nat) (l : List Value) (t : TypeId) : Prop := W.heap[b]? = some (.cells l.toArray t (0, 0))
theorem Box.lt {W : World} {b : Nat} {l : List Value} {t : TypeId} (h : Box W b l t) : b < W.heap.size := (Array.getElem?_eq_some_iff.1 h).1
theorem Box.cell {W : World} {b : Nat} {l : List Value} {t : TypeId} (h : Box W b l t) (i : Nat) : W.cell? ⟨b, i, none⟩ = l[i]? := by
  unfold Box at h; simp [World.cell?, h]
theorem Box.free {W : World} {b : Nat} {l : List Value} {t : TypeId} (h : Box W b l t) (i : Nat) : W.frozen? ⟨b, i, none⟩ = false := by
  unfold Box at h; simp [World.frozen?, h]
theorem Box.of_block {W W' : World} {b : Nat} {l : List Value} {t : TypeId} (h : Box W b l t) (hb : W'.heap[b]? = W.heap[b]?) : Box W' b l t := hb.trans h
theorem Box.below {W W' : World} {n b : Nat} {l : List Value} {t : TypeId} (h : Box W b l t) (hb : Below n W W') (hn : b < n) : Box W' b l t := h.of_block (hb.block b hn)
theorem Box.kp {C : Nat → Prop} {W W' : World} {b : Nat} {l : List Value} {t : TypeId} (h : Box W b l t) (hk : KpC C W W') (hc : ¬ C b) : Box W' b l t := h.of_block (hk.cells h hc)
theorem Box.alloc {W : World} {b : Nat} {l : List Value} {t : TypeId} (h : Box W b l t) (o : Obj) : Box (W.alloc o) b l t := h.of_block (Below.heap_alloc W o b h.lt)
theorem Box.new (W : World) (l : List Value) (t : TypeId) : Box (W.alloc (.cells l.toArray t)) W.heap.size l t := World.alloc_heap_new W _
theorem Box.set {W : World} {b : Nat} {l : List Value} {t : TypeId} (h : Box W b l t) (i : Nat) (v : Value) : Box (W.setCell ⟨b, i, none⟩ v) b (l.set i v) t := by
  unfold Box at *; simp [World.setCell, Array.getElem?_modify, h]
theorem Box.setOther {W : World} {b : Nat} {l : List Value} {t : TypeId} (h : Box W b l t) (p : Addr) (hp : b ≠ p.block) (v : Value) : Box (W.setCell p v) b l t := h.of_block (Below.heap_setCell W p v b hp)
theorem Box.drew {W : World} {b : Nat} {l : List Value} {t : TypeId} (h : Box W b l t) : Box W.drew b l t := h
/-- Boxes abide the turn of a block that is no cells. -/
theorem Box.grown {W W' : World} {b : Nat} {l : List Value} {t : TypeId} (h : Box W b l t) {row : Option Nat} (hg : W.grownBy W' row) (hr : ∀ r, row = some r → ∃ o : Obj, W.heap[r]? = some o ∧ o.isCells = false) : Box W' b l t := by
  refine h.of_block (hg.block b h.lt ?_)
  intro e
  obtain ⟨o, ho, hc⟩ := hr b e.symm
  unfold Box at h
  rw [h] at ho; cases ho; cases hc
end Go.Proofs.YthncifbnkednlaaDoor
