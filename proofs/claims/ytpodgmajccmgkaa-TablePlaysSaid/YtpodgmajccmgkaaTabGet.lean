/- Get, Kill: the functions that ask once. -/
import Derived.Test.YtpodgmajccmgkaaTabFind
namespace Go.Proofs.Ytpodgmajccmgkaa
open Go.RowKit Go.Shelf
set_option linter.unusedVariables false
set_option linter.unusedSimpArgs false
attribute [local go_sem] Oper.semAt_some nil_slot field_t meth_array meth_nodes meth_slot meth_setslot meth_resize meth_hash

variable {w w' : World} {p : Nat} {sv sv' : Value} {T T' : Tb}

def getT (T : Tb) (k : V) : V := match keyR k with | none => nilV | some k' => if (findT T k').1 < 0 then nilV else slotT T (findT T k').1

theorem find_any' {w : World} (H : MemAt w p sv T) (hP : Pow2 T.nodes) (k : V) :
    Calls Try.prog 30 #[.iface 23 (.pointer (some ⟨p, 0, none⟩)), .agg #[.int .i64 k.t, .int .i64 k.n]] w fun e w' => e = .returned (.tuple #[.int .i64 (findT T k).1, .int .i64 (findT T k).2]) ∧ Below w.heap.size w w' := find_any H hP k

theorem Box.cells2 {W : World} {b : Nat} {x y : Value} {e : TypeId} (h : Box W b [x, y] e) : W.cell? ⟨b, 0, none⟩ = some x ∧ W.cell? ⟨b, 1, none⟩ = some y ∧ W.frozen? ⟨b, 0, none⟩ = false ∧ W.frozen? ⟨b, 1, none⟩ = false :=
  ⟨h.cell 0, h.cell 1, h.free 0, h.free 1⟩
theorem Box.set2 {W : World} {b : Nat} {x y x' y' : Value} {e : TypeId} (h : Box W b [x, y] e) : Box ((W.setCell ⟨b, 0, none⟩ x').setCell ⟨b, 1, none⟩ y') b [x', y'] e := (h.set 0 x').set 1 y'

/-- Two boxes at the head of a call. -/
theorem boxes2 {w w1 : World} {x y x' y' : Value} {e e' : TypeId} (hb : Below ((w.alloc (.cells #[x, y] e)).alloc (.cells #[x', y'] e')).heap.size ((w.alloc (.cells #[x, y] e)).alloc (.cells #[x', y'] e')) w1) :
    Box w1 w.heap.size [x, y] e ∧ Box w1 (w.heap.size + 1) [x', y'] e' ∧ Below w.heap.size w w1 := by
  obtain ⟨W0, hW0⟩ : ∃ W0, W0 = (w.alloc (.cells #[x, y] e)).alloc (.cells #[x', y'] e') := ⟨_, rfl⟩
  have hsz : W0.heap.size = w.heap.size + 2 := by rw [hW0]; simp
  have h0 : Box W0 w.heap.size [x, y] e := (by rw [hW0]; unfold Box World.alloc; simp only [Array.getElem?_push, Array.size_push]; repeat (first | rw [if_neg (by omega)] | rw [if_pos (by omega)] | rw [if_pos trivial]))
  have h1 : Box W0 (w.heap.size + 1) [x', y'] e' := (by rw [hW0]; unfold Box World.alloc; simp only [Array.getElem?_push, Array.size_push]; repeat (first | rw [if_neg (by omega)] | rw [if_pos (by omega)] | rw [if_pos trivial]))
  have hB0 : Below w.heap.size w W0 := by rw [hW0]; exact (by repeat (first | exact Below.refl _ _ | refine Below.alloc ?_ (by first | (simp; done) | (simp; omega)) _ | refine Below.drew ?_ | refine Below.setCell ?_ (by first | (simp; done) | (simp; omega)) _))
  rw [← hW0] at hb
  exact ⟨h0.below hb (by omega), h1.below hb (by omega), hB0.trans (hb.mono (by omega))⟩

set_option maxRecDepth 100000 in
set_option maxHeartbeats 2000000 in
theorem get_any (H : MemAt w p sv T) (hP : Pow2 T.nodes) (k : V) : Calls Try.prog 13 #[memV p, k.val] w fun e w' => e = .returned (getT T k).val ∧ Below w.heap.size w w' := by
  have K := key_any k
  have G : getT T k = match keyR k with | none => nilV | some k' => if (findT T k').1 < 0 then nilV else slotT T (findT T k').1 := rfl
  obtain ⟨t, n⟩ := k
  obtain ⟨g, hg⟩ : ∃ g, g = getT T ⟨t, n⟩ := ⟨_, rfl⟩
  rw [← hg] at G ⊢
  clear hg
  unfold memV V.val
  unfold V.val at K
  simp only at K ⊢
  cases hk : keyR ⟨t, n⟩ with
  | none =>
    rw [hk] at K G
    simp only at K G
    have HG := Lib.hid G
    clear G hk
    go_enter Try.func13, Try.ntmps13
    go_wp2_with fail
    refine (K _).mono ?_
    rintro e w1 ⟨rfl, hb1⟩
    obtain ⟨hx0, hx1, hB⟩ := boxes2 hb1
    obtain ⟨c0, c1, f0, f1⟩ := hx0.cells2
    obtain ⟨d0, d1, g0, g1⟩ := hx1.cells2
    have HB := Lib.hid hB
    clear K hb1 hx0 hx1 hB
    go_wp2_with fail
    refine bodyPost_ret (v := nilV.val) (by simp [results, Try.results13, go_sem, V.val, nilV, d0, d1]) rfl ⟨by rw [HG.out]; rfl, ?_⟩
    exact (((HB.out.setCell (p := ⟨w.heap.size, 0, none⟩) (Nat.le_refl _) _).setCell (p := ⟨w.heap.size, 1, none⟩) (Nat.le_refl _) _).setCell (p := ⟨w.heap.size + 1, 0, none⟩) (Nat.le_succ _) _).setCell (p := ⟨w.heap.size + 1, 1, none⟩) (Nat.le_succ _) _
  | some k' =>
    rw [hk] at K G
    simp only at K G
    obtain ⟨f, hf⟩ : ∃ f, f = (findT T k').1 := ⟨_, rfl⟩
    obtain ⟨f2, hf2⟩ : ∃ f2, f2 = (findT T k').2 := ⟨_, rfl⟩
    have FC : ∀ w, MemAt w p sv T → _ := fun (w : World) (H : MemAt w p sv T) => find_any' H hP k'
    rw [← hf] at G FC
    rw [← hf2] at FC
    obtain ⟨t', n'⟩ := k'
    have HG := Lib.hid G
    have HH := Lib.hid H
    have HFC := Lib.hid FC
    clear G hk hf hf2 FC H
    go_enter Try.func13, Try.ntmps13
    go_wp2_with fail
    refine (K _).mono ?_
    rintro e w1 ⟨rfl, hb1⟩
    obtain ⟨hx0, hx1, hB⟩ := boxes2 hb1
    obtain ⟨c0, c1, f0, f1⟩ := hx0.cells2
    obtain ⟨d0, d1, g0, g1⟩ := hx1.cells2
    have hl := hx1.lt
    have HB := Lib.hid hB
    have HX0 := Lib.hid hx0
    have HX1 := Lib.hid hx1
    clear K hb1 hx0 hx1 hB
    go_wp2_with fail
    have hb2 : Below w.heap.size w ((w1.setCell ⟨w.heap.size, 0, none⟩ (.int .i64 t')).setCell ⟨w.heap.size, 1, none⟩ (.int .i64 n')) := (HB.out.setCell (p := ⟨w.heap.size, 0, none⟩) (Nat.le_refl _) _).setCell (p := ⟨w.heap.size, 1, none⟩) (Nat.le_refl _) _
    have hx2 := (HX1.out.setOther ⟨w.heap.size, 0, none⟩ (by simp) (.int .i64 t')).setOther ⟨w.heap.size, 1, none⟩ (by simp) (.int .i64 n')
    have HB2 := Lib.hid hb2
    have HX2 := Lib.hid hx2
    refine (HFC.out _ (HH.out.below hb2)).mono ?_
    clear hb2 hx2
    rintro e w2 ⟨rfl, hb3⟩
    have hl2 : w.heap.size + 1 < ((w1.setCell ⟨w.heap.size, 0, none⟩ (.int .i64 t')).setCell ⟨w.heap.size, 1, none⟩ (.int .i64 n')).heap.size := HX2.out.lt
    have hx3 := HX2.out.below hb3 hl2
    have hB3 := HB2.out.trans (hb3.mono (by omega))
    obtain ⟨e0, e1, i0, i1⟩ := hx3.cells2
    have hl3 := hx3.lt
    have HX3 := Lib.hid hx3
    have HB3 := Lib.hid hB3
    clear hb3 hl2 hx3 hB3 c0 c1 f0 f1 d0 d1 g0 g1 hl
    by_cases hf0 : f < 0
    · go_wp2_with fail
      refine bodyPost_ret (v := nilV.val) (by simp [results, Try.results13, go_sem, V.val, nilV, e0, e1]) rfl ⟨by rw [HG.out, if_pos hf0]; rfl, ?_⟩
      exact (HB3.out.setCell (p := ⟨w.heap.size + 1, 0, none⟩) (Nat.le_succ _) _).setCell (p := ⟨w.heap.size + 1, 1, none⟩) (Nat.le_succ _) _
    · have hg2 : g = slotT T f := by rw [HG.out, if_neg hf0]
      have SC := slot_any (HH.out.below HB3.out) f
      rw [← hg2] at SC
      clear hg2
      obtain ⟨gt, gn⟩ := g
      unfold V.val at SC
      simp only at SC
      go_wp2_with fail
      refine SC.mono ?_
      rintro e w3 ⟨rfl, hb4⟩
      clear SC
      have hx4 := HX3.out.below hb4 hl3
      have hB4 := HB3.out.trans (hb4.mono (by omega))
      obtain ⟨j0, j1, m0, m1⟩ := hx4.cells2
      have HB4 := Lib.hid hB4
      clear hb4 hx4 hB4 e0 e1 i0 i1
      go_wp2_with fail
      refine bodyPost_ret (v := .agg #[.int .i64 gt, .int .i64 gn]) (by simp [results, Try.results13, go_sem, V.val, nilV, j0, j1]) rfl ⟨rfl, ?_⟩
      exact (HB4.out.setCell (p := ⟨w.heap.size + 1, 0, none⟩) (Nat.le_succ _) _).setCell (p := ⟨w.heap.size + 1, 1, none⟩) (Nat.le_succ _) _
end Go.Proofs.Ytpodgmajccmgkaa
