/- alive: the chapter's example. -/
import Derived.Test.YtpodgmajccmgkaaTabHas
namespace Go.Proofs.Ytpodgmajccmgkaa
open Go.RowKit Go.Shelf
set_option linter.unusedVariables false
set_option linter.unusedSimpArgs false
attribute [local go_sem] Oper.semAt_some nil_slot field_t meth_array meth_nodes meth_slot meth_setslot meth_resize meth_hash

variable {w0 w w' : World} {p : Nat} {sv sv' : Value} {T T' : Tb}

def at0 : Tb := ⟨100, 0, []⟩
def at1 : Tb := ⟨100, 1, [⟨4, 1⟩]⟩
def at2 : Tb := ⟨100, 2, [⟨4, 1⟩, ⟨4, 2⟩]⟩
def at3 : Tb := ⟨100, 2, [⟨4, 1⟩, ⟨4, 2⟩, ⟨4, 9⟩, ⟨4, 3⟩]⟩
def at4 : Tb := ⟨100, 2, [⟨4, 1⟩, ⟨0, 0⟩, ⟨4, 9⟩, ⟨4, 3⟩]⟩
def at5 : Tb := ⟨100, 2, [⟨4, 4⟩, ⟨0, 0⟩, ⟨4, 9⟩, ⟨4, 3⟩]⟩
theorem at_1 : setR at0 ⟨2, 1⟩ ⟨4, 1⟩ = (at1, 0) := by kernel_rfl
theorem at_2 : setR at1 ⟨2, 2⟩ ⟨4, 2⟩ = (at2, 0) := by kernel_rfl
theorem at_3 : setR at2 ⟨4, 9⟩ ⟨4, 3⟩ = (at3, 0) := by kernel_rfl
theorem at_4 : setR at3 ⟨2, 2⟩ ⟨0, 0⟩ = (at4, 0) := by kernel_rfl
theorem at_5 : setR at4 ⟨3, 4607182418800017408⟩ ⟨4, 4⟩ = (at5, 0) := by kernel_rfl
theorem at_n : nextR at4 ⟨2, 2⟩ = (⟨4, 9⟩, ⟨4, 3⟩, 0) := by kernel_rfl
theorem at_g : getT at5 ⟨2, 1⟩ = ⟨4, 4⟩ := by kernel_rfl
theorem at_l3 : IsLen at3 2 := ⟨by kernel_rfl, by
  intro i hi
  match i, hi with
  | 0, _ => rw [show getT at3 ⟨2, ((0 : Nat) : Int) + 1⟩ = ⟨4, 1⟩ from by kernel_rfl]; decide
  | 1, _ => rw [show getT at3 ⟨2, ((1 : Nat) : Int) + 1⟩ = ⟨4, 2⟩ from by kernel_rfl]; decide⟩
theorem at_l5 : IsLen at5 1 := ⟨by kernel_rfl, by
  intro i hi
  match i, hi with
  | 0, _ => rw [show getT at5 ⟨2, ((0 : Nat) : Int) + 1⟩ = ⟨4, 4⟩ from by kernel_rfl]; decide⟩
theorem at_sh : at3.a = 2 ∧ at3.nodes = 1 := ⟨rfl, rfl⟩

theorem lit_set (H : HasT w0 w p sv T) (k v : V) {r : Int} (hr : setR T k v = (T', r)) (hp : (pairsL T).length + 1 ≤ 8000) :
    Calls Try.prog 16 #[.iface 23 (.pointer (some ⟨p, 0, none⟩)), .agg #[.int .i64 k.t, .int .i64 k.n], .agg #[.int .i64 v.t, .int .i64 v.n]] w fun e w' => SetHas w0 w p sv (T', r) e w' := by
  have := set_has H hp k v
  rwa [hr] at this

theorem bl2 {a W wb : World} (h : Below a.heap.size a W) (hb : Below W.heap.size W wb) : Below a.heap.size a wb := h.trans (hb.mono h.size)
theorem lit_get (H : HasT w0 w p sv T) (k : V) {a b : Int} (hr : getT T k = ⟨a, b⟩) : Calls Try.prog 13 #[.iface 23 (.pointer (some ⟨p, 0, none⟩)), .agg #[.int .i64 k.t, .int .i64 k.n]] w fun e w' => e = .returned (.agg #[.int .i64 a, .int .i64 b]) ∧ Below w.heap.size w w' := by
  have := get_has H k
  rw [hr] at this
  exact this

theorem lit_next (H : HasT w0 w p sv T) (k : V) {a b c d r : Int} (hr : nextR T k = (⟨a, b⟩, ⟨c, d⟩, r)) :
    Calls Try.prog 11 #[.iface 23 (.pointer (some ⟨p, 0, none⟩)), .agg #[.int .i64 k.t, .int .i64 k.n]] w fun e w' => e = .returned (.tuple #[.agg #[.int .i64 a, .int .i64 b], .agg #[.int .i64 c, .int .i64 d], .int .i64 r]) ∧ Below w.heap.size w w' := by
  have := next_has H k
  rw [hr] at this
  exact this

set_option maxRecDepth 100000 in
set_option maxHeartbeats 2000000 in
theorem alive_any (w : World) : Calls Try.prog 15 #[] w fun e w' => e = .returned (.bool true) ∧ Below w.heap.size w w' := by
  go_enter Try.func15, Try.ntmps15
  go_wp2_with fail
  refine (new_has 100 ⟨by decide, by decide⟩ _).mono ?_
  rintro e w1 ⟨p, rfl, H⟩
  have H1 := Lib.hid (show HasT w w1 p _ at0 from H)
  clear H
  go_wp2_with fail
  refine (int_any' 1 _).mono ?_
  rintro e w2 ⟨rfl, hb⟩
  have H2 := Lib.hid (H1.out.step hb)
  clear hb H1
  go_wp2_with fail
  refine (word_any 1 _).mono ?_
  rintro e w3 ⟨rfl, hb⟩
  have H3 := Lib.hid (H2.out.step hb)
  clear hb H2
  go_wp2_with fail
  refine (lit_set H3.out ⟨2, 1⟩ ⟨4, 1⟩ at_1 (by decide)).mono ?_
  rintro e w4 ⟨sv4, rfl, H, -⟩
  have H4 := Lib.hid H
  clear H H3
  go_wp2_with fail
  refine (int_any' 2 _).mono ?_
  rintro e w5 ⟨rfl, hb⟩
  have H5 := Lib.hid (H4.out.step hb)
  clear hb H4
  go_wp2_with fail
  refine (word_any 2 _).mono ?_
  rintro e w6 ⟨rfl, hb⟩
  have H6 := Lib.hid (H5.out.step hb)
  clear hb H5
  go_wp2_with fail
  refine (lit_set H6.out ⟨2, 2⟩ ⟨4, 2⟩ at_2 (by decide)).mono ?_
  rintro e w7 ⟨sv7, rfl, H, -⟩
  have H7 := Lib.hid H
  clear H H6
  go_wp2_with fail
  refine (word_any 9 _).mono ?_
  rintro e w8 ⟨rfl, hb⟩
  have H8 := Lib.hid (H7.out.step hb)
  clear hb H7
  go_wp2_with fail
  refine (word_any 3 _).mono ?_
  rintro e w9 ⟨rfl, hb⟩
  have H9 := Lib.hid (H8.out.step hb)
  clear hb H8
  go_wp2_with fail
  refine (lit_set H9.out ⟨4, 9⟩ ⟨4, 3⟩ at_3 (by decide)).mono ?_
  rintro e w10 ⟨sv10, rfl, H, -⟩
  have H10 := Lib.hid H
  clear H H9
  go_wp2_with fail
  refine (array_any H10.out.m).mono ?_
  rintro e w11 ⟨rfl, rfl⟩
  have H11 := H10
  clear H10
  go_wp2_with fail
  refine (nodes_any H11.out.m).mono ?_
  rintro e w12 ⟨rfl, hb⟩
  have H12 := Lib.hid (H11.out.step hb)
  clear hb H11
  go_wp2_with fail
  refine (len_has H12.out 2 at_l3 (by decide)).mono ?_
  rintro e w13 ⟨rfl, hb⟩
  have H13 := Lib.hid (H12.out.step hb)
  clear hb H12
  go_wp2_with fail
  refine (int_any' 2 _).mono ?_
  rintro e w14 ⟨rfl, hb⟩
  have H14 := Lib.hid (H13.out.step hb)
  clear hb H13
  go_wp2_with fail
  refine (lit_set H14.out ⟨2, 2⟩ ⟨0, 0⟩ at_4 (by decide)).mono ?_
  rintro e w15 ⟨sv15, rfl, H, -⟩
  have H15 := Lib.hid H
  clear H H14
  go_wp2_with fail
  refine (int_any' 2 _).mono ?_
  rintro e w16 ⟨rfl, hb⟩
  have H16 := Lib.hid (H15.out.step hb)
  clear hb H15
  go_wp2_with fail
  refine (lit_next H16.out ⟨2, 2⟩ at_n).mono ?_
  rintro e w17 ⟨rfl, hb⟩
  have H17 := Lib.hid (H16.out.step hb)
  clear hb H16
  go_wp2_with fail
  refine (float_one _).mono ?_
  rintro e w18 ⟨rfl, hb⟩
  obtain ⟨hx1, hx2, hB⟩ := boxes2 hb
  have HOL := Lib.hid (show ∀ q, OwnS p _ q → q < w17.heap.size from fun q hq => H17.out.m.own_lt hq)
  have H18 := Lib.hid (H17.out.step hB)
  clear hb hB H17
  go_wp2_with fail
  refine (word_any 4 _).mono ?_
  rintro e w19 ⟨rfl, hb⟩
  have hx1 := hx1.below hb hx1.lt
  have hx2 := hx2.below hb hx2.lt
  have H19 := Lib.hid (H18.out.step hb)
  clear hb H18
  go_wp2_with fail
  refine (lit_set H19.out ⟨3, 4607182418800017408⟩ ⟨4, 4⟩ at_5 (by decide)).mono ?_
  rintro e w20 ⟨sv20, rfl, H, hv⟩
  have hx1 := hx1.mv hv (fun h => by have := HOL.out _ h; omega)
  have hx2 := hx2.mv hv (fun h => by have := HOL.out _ h; omega)
  have H20 := Lib.hid H
  clear H hv H19
  go_wp2_with fail
  obtain ⟨b, hb⟩ : ∃ b, b = w17.heap.size := ⟨_, rfl⟩
  rw [← hb] at hx1 hx2 ⊢
  obtain ⟨c0, c1, -, -⟩ := hx1.cells2
  obtain ⟨d0, d1, -, -⟩ := hx2.cells2
  have l1 := hx2.lt
  have HRS := Lib.hid (show ∀ w', Below w20.heap.size w20 w' → (Below w20.heap.size w20 w' ∧ w'.cell? ⟨b, 0, none⟩ = some (.int .i64 4) ∧ w'.cell? ⟨b, 1, none⟩ = some (.int .i64 9) ∧ w'.cell? ⟨b + 1, 0, none⟩ = some (.int .i64 4) ∧ w'.cell? ⟨b + 1, 1, none⟩ = some (.int .i64 3)) from fun w' h =>
    ⟨h, (h.cell (p := ⟨b, 0, none⟩) (by show b < _; omega)).trans c0, (h.cell (p := ⟨b, 1, none⟩) (by show b < _; omega)).trans c1, (h.cell (p := ⟨b + 1, 0, none⟩) l1).trans d0, (h.cell (p := ⟨b + 1, 1, none⟩) l1).trans d1⟩)
  have HBW := Lib.hid H20.out.b
  clear hb hx1 hx2 HOL c0 c1 d0 d1 l1
  go_region_held3 (fun w' => Below w20.heap.size w20 w' ∧ w'.cell? ⟨b, 0, none⟩ = some (.int .i64 4) ∧ w'.cell? ⟨b, 1, none⟩ = some (.int .i64 9) ∧ w'.cell? ⟨b + 1, 0, none⟩ = some (.int .i64 4) ∧ w'.cell? ⟨b + 1, 1, none⟩ = some (.int .i64 3))
    (first | (with_reducible assumption) | exact HRS.out _ ((Below.refl _ _).drew))
    ((first
      | (go_at_call 12; refine (no_any _ _).mono ?_; rintro e wb ⟨rfl, rfl⟩)
      | (go_at_call 34; refine (word_any _ _).mono ?_; rintro e wb ⟨rfl, hb⟩; have s1 := HRS.out _ (bl2 (And.left (by with_reducible assumption)) hb))
      | (go_at_call 18; refine (int_any' _ _).mono ?_; rintro e wb ⟨rfl, hb⟩; have s1 := HRS.out _ (bl2 (And.left (by with_reducible assumption)) hb))
      | (go_at_call 17; refine (len_has (H20.out.step (And.left (by with_reducible assumption))) 1 at_l5 (by decide)).mono ?_; rintro e wb ⟨rfl, hb⟩; have s1 := HRS.out _ (bl2 (And.left (by with_reducible assumption)) hb))
      | (go_at_call 13; refine (lit_get (H20.out.step (And.left (by with_reducible assumption))) ⟨2, 1⟩ at_g).mono ?_; rintro e wb ⟨rfl, hb⟩; have s1 := HRS.out _ (bl2 (And.left (by with_reducible assumption)) hb))))
  all_goals (
    go_wp2_with fail
    go_ret
    exact ⟨rfl, HBW.out.trans ((show Below w20.heap.size w20 _ from And.left (by with_reducible assumption)).mono HBW.out.size)⟩)
end Go.Proofs.Ytpodgmajccmgkaa
