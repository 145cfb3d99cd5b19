/- Small facts on worlds and boxes; a text's bytes. -/
import Derived.Test.YthncifbnkednlaaDoorRowBase
import Derived.Test.YthncifbnkednlaaDoorSeqBase
import Derived.Test.YthncifbnkednlaaDoorScrPlain
import Derived.Test.YthncifbnkednlaaDoorShelf
import Derived.Deep.RegionHeld3
import Derived.Deep.DeepCutAuto
import Derived.BigQuiet
import Derived.Deep.QuietTactic
import Derived.IntWalk
import Derived.ShutString
import Derived.Lib.UnsafeStr
namespace Go.Proofs.YthncifbnkednlaaDoor
open Go.RowKit Go.Shelf
set_option linter.unusedVariables false
set_option linter.unusedSimpArgs false

theorem below_alloc (w : World) (o : Obj) : Below w.heap.size w (w.alloc o) := (Below.refl _ _).alloc (Nat.le_refl _) o
theorem below_drewN {B : Nat} {a w : World} (h : Below B a w) (n : Nat) : Below B a (w.drewN n) := ⟨h.os, h.tape, h.output, h.size, h.block⟩
theorem blj {W W1 W2 : World} (h : Below W.heap.size W W1) (k : Below W1.heap.size W1 W2) : Below W.heap.size W W2 := h.trans (k.mono h.size)
theorem frz_at {w : World} {g : Nat} {c : Array Value} {t : TypeId} (hg : w.heap[g]? = some (.cells c t (0, 0))) (i : Nat) : w.frozen? ⟨g, i, none⟩ = false := by simp [World.frozen?, hg]
theorem Box.cells2 {W : World} {b : Nat} {x y : Value} {e : TypeId} (h : Box W b [x, y] e) : W.cell? ⟨b, 0, none⟩ = some x ∧ W.cell? ⟨b, 1, none⟩ = some y ∧ W.frozen? ⟨b, 0, none⟩ = false ∧ W.frozen? ⟨b, 1, none⟩ = false :=
  ⟨h.cell 0, h.cell 1, h.free 0, h.free 1⟩
theorem ret_int {k : IntKind} {a b : Int} (h : a = b) : Ending.returned (.int k a) = .returned (.int k b) := by rw [h]

/-- A text's bytes. -/
def bs (s : ByteArray) : Bs := s.data.toList
def str (l : Bs) : ByteArray := ⟨l.toArray⟩
theorem bs_str (l : Bs) : bs (str l) = l := rfl
theorem str_bs (s : ByteArray) : str (bs s) = s := rfl
theorem size_bs (s : ByteArray) : s.size = (bs s).length := Lib.size_eq s
theorem get_bs (s : ByteArray) (k : Nat) (h : k < s.size) : (bs s)[k]? = some s[k] := by
  have h2 : k < (bs s).length := by rw [← size_bs]; exact h
  rw [List.getElem?_eq_getElem h2]
  rfl
theorem take_snoc' (s : ByteArray) (k : Nat) (h : k < s.size) : (bs s).take (k + 1) = (bs s).take k ++ [s[k]] := by
  rw [List.take_add_one, get_bs s k h]; rfl

/-- Atoi's world lies above what was. -/
theorem below_bytes {w w' : World} {t : ByteArray} (h : w' = Lib.bytesWorld w 5 t) : Below w.heap.size w w' := by
  subst h
  unfold Lib.bytesWorld
  exact Lib.below_freeze ((Below.refl _ w).drew.alloc (Nat.le_refl _) _) (Nat.le_refl _) _
end Go.Proofs.YthncifbnkednlaaDoor
