/- An arena, a row beside it, and a row that the caller writes. -/
import Derived.Test.YtpaopcnbgdlgnaaTightP
namespace Go.Proofs.Ytpaopcnbgdlgnaa
open Go.RowKit
set_option linter.unusedVariables false
set_option linter.unusedSimpArgs false

def Tri (X : Nat → Prop) (w : World) (p : Nat) (S : St) (v : Value) (xs : List Int) (g : Nat) (ys : List Int) (wr : World) : Prop :=
  Has (fun k => X k ∨ k = g) w wr p S ∧ Row X wr v xs ∧ ¬ X g ∧ wr.heap[g]? = some (.cells (ys.map iv).toArray 3 (0, 0)) ∧ w.heap.size ≤ g

variable {X : Nat → Prop} {w wr w' : World} {p g : Nat} {S S' : St} {v : Value} {xs ys : List Int}

theorem Two.tri (h : Two X w p S v xs wr) (hb : Below wr.heap.size wr w') (hg : w'.heap[wr.heap.size]? = some (.cells (ys.map iv).toArray 3 (0, 0))) : Tri X w p S v xs wr.heap.size ys w' := by
  have hlt := (Array.getElem?_eq_some_iff.1 hg).1
  refine ⟨h.1.watch _ (Nat.le_refl _) hb hlt, h.2.same (fun k hk => hb.block k (h.1.lt hk)), fun hx => ?_, hg, h.1.old.size⟩
  have := h.1.lt hx
  omega

theorem Tri.next (h : Tri X w p S v xs g ys wr) (H : Has (fun k => X k ∨ k = g) w w' p S') (s : Same (fun k => X k ∨ k = g) wr w') : Tri X w p S' v xs g ys w' :=
  ⟨H, h.2.1.same (fun k hk => s k (.inl hk)), h.2.2.1, (s g (.inr rfl)).trans h.2.2.2.1, h.2.2.2.2⟩

theorem Tri.two (h : Tri X w p S v xs g ys wr) : Two X w p S v xs wr := ⟨h.1.less (fun k hk => .inl hk), h.2.1⟩

theorem Tri.drew (h : Tri X w p S v xs g ys wr) : Tri X w p S v xs g ys wr.drew := h.next (h.1.below (Below.refl _ _).drew).1 (fun _ _ => rfl)
theorem Tri.drewN (h : Tri X w p S v xs g ys wr) (n : Nat) : Tri X w p S v xs g ys (wr.drewN n) := h.next (h.1.below (w' := wr.drewN n) ⟨rfl, rfl, rfl, Nat.le_refl _, fun _ _ => rfl⟩).1 (fun _ _ => rfl)

theorem Tri.was (h : Tri X w p S v xs g ys wr) {i : Nat} {y : Int} (hi : ys[i]? = some y) : wr.cell? ⟨g, i, none⟩ = some (.int .i64 y) := by
  rw [cell_of_list h.2.2.2.1, List.getElem?_map, hi]; rfl

theorem Tri.frz (h : Tri X w p S v xs g ys wr) (i : Nat) : wr.frozen? ⟨g, i, none⟩ = false := by
  simp [World.frozen?, h.2.2.2.1]

theorem Tri.addr (h : Tri X w p S v xs g ys wr) (n : Int) {q : Int} (hq : addrR S.L n = q) :
    Calls Try.prog 20 #[.pointer (some ⟨p, 0, none⟩), .int .i64 n] wr fun e w' => e = .returned (.int .i64 q) ∧ Tri X w p S v xs g ys w' := by
  have := has_addr h.1 n
  rw [hq] at this
  exact this.mono fun e w' gg => ⟨gg.1, h.next gg.2.1 gg.2.2⟩

theorem Tri.compact (h : Tri X w p S v xs g ys wr) {q : Int} (hq : ((compM 0 S.L : Nat) : Int) = q) :
    Calls Try.prog 24 #[.pointer (some ⟨p, 0, none⟩)] wr fun e w' => e = .returned (.int .i64 q) ∧ Tri X w p (compactS S) v xs g ys w' := by
  have := has_compact h.1
  rw [hq] at this
  exact this.mono fun e w' gg => ⟨gg.1, h.next gg.2.1 gg.2.2⟩

theorem Tri.set (h : Tri X w p S v xs g ys wr) {i : Nat} (hi : i < ys.length) (y : Int) : Tri X w p S v xs g (ys.set i y) (wr.setCell ⟨g, i, none⟩ (.int .i64 y)) := by
  have hblk : ∀ k, k ≠ g → (wr.setCell ⟨g, i, none⟩ (.int .i64 y)).heap[k]? = wr.heap[k]? := fun k hk => Below.heap_setCell _ _ _ _ hk
  refine ⟨h.1.turn ((Keep.refl _ _).setCell (fun _ => .inr rfl) _) (h.1.old.setCell (by simpa using h.2.2.2.2) _), h.2.1.same (fun k hk => hblk k (fun e => h.2.2.1 (e ▸ hk))), h.2.2.1, ?_, h.2.2.2.2⟩
  have := setCell_list (i := i) h.2.2.2.1 (.int .i64 y)
  rw [this]
  simp [iv, List.map_set]
end Go.Proofs.Ytpaopcnbgdlgnaa
