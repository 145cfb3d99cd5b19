/- TableNil: a store that is not there has nothing, and takes nothing: the law returns true for every key, value and slot. -/
import Derived.Test.YtpodgmajccmgkaaRows
import Derived.Test.YtpodgmajccmgkaaTabNil
namespace Go.Proofs.Ytpodgmajccmgkaa.tableNil
open Go.ChangeShapes Go.WideShapes Go.ChangeAt Go.RowKit Go.Shelf
set_option linter.unusedVariables false
set_option linter.unusedSimpArgs false
attribute [local go_sem] Oper.semAt_some nil_slot field_t meth_array meth_nodes meth_slot meth_setslot meth_resize meth_hash

theorem own : ownKnob Try.prog.godebug = none := by kernel_rfl

variable {w0 w w' : World} {p : Nat} {sv sv' : Value} {T T' : Tb}

set_option maxRecDepth 100000 in
set_option maxHeartbeats 2000000 in
theorem walk (k v : V) (i : Int) (w : World) (hi : (Lit.int .i64 i).wf = true) : Calls Try.prog 9 #[.agg #[.int .i64 k.t, .int .i64 k.n], .agg #[.int .i64 v.t, .int .i64 v.n], .int .i64 i] w fun e w' => e = .returned (.bool true) ∧ Below w.heap.size w w' := by
  obtain ⟨vt, vn⟩ := v
  obtain ⟨kt, kn⟩ := k
  simp only
  have HNX := Lib.hid (next_nil ⟨kt, kn⟩)
  go_enter Try.func9, Try.ntmps9
  go_wp2_with fail
  refine (HNX.out _).mono ?_
  rintro e w1 ⟨rfl, hb1⟩
  obtain ⟨hk, hv, hB⟩ := boxes2 hb1
  obtain ⟨ha, hb, hB2⟩ := boxes2 (Below.refl ((w1.alloc (.cells #[.int .i64 0, .int .i64 0] 27)).alloc (.cells #[.int .i64 0, .int .i64 0] 27)).heap.size _)
  obtain ⟨W, hW⟩ : ∃ W, W = (w1.alloc (.cells #[.int .i64 0, .int .i64 0] 27)).alloc (.cells #[.int .i64 0, .int .i64 0] 27) := ⟨_, rfl⟩
  have HW := Lib.hid hW
  rw [← hW] at ha hb hB2
  have hk2 := hk.below hB2 hk.lt
  have hv2 := hv.below hB2 hv.lt
  have HBW := Lib.hid (bl2 hB hB2)
  clear HNX hb1 hk hv hB hB2 hW
  go_wp2_with fail
  rw [← HW.out]
  refine (kill_nil i _).mono ?_
  rintro e w2 ⟨rfl, hb2⟩
  obtain ⟨z0, z1, -, -⟩ := (hv2.below hb2 hv2.lt).cells2
  go_wp2_with fail
  clear z0 z1
  refine (setslot_nil i vt vn _).mono ?_
  rintro e w3 ⟨rfl, hb3⟩
  have hB3 := bl2 hb2 hb3
  obtain ⟨p0, p1, -, -⟩ := (hk2.below hB3 hk2.lt).cells2
  obtain ⟨q0, q1, -, -⟩ := (hv2.below hB3 hv2.lt).cells2
  obtain ⟨r0, r1, -, -⟩ := (ha.below hB3 ha.lt).cells2
  obtain ⟨s0, s1, -, -⟩ := (hb.below hB3 hb.lt).cells2
  have l1 := (hk2.below hB3 hk2.lt).lt
  have l2 := (hv2.below hB3 hv2.lt).lt
  have l3 := (ha.below hB3 ha.lt).lt
  have l4 := (hb.below hB3 hb.lt).lt
  have HB3 := Lib.hid (bl2 HBW.out hB3)
  obtain ⟨b, hbb⟩ : ∃ b, b = w.heap.size := ⟨_, rfl⟩
  obtain ⟨b2, hbb2⟩ : ∃ b, b = w1.heap.size := ⟨_, rfl⟩
  go_wp2_with fail
  rw [← hbb] at p0 p1 q0 q1 l1 l2 ⊢
  rw [← hbb2] at r0 r1 s0 s1 l3 l4 ⊢
  have HRS := Lib.hid (show ∀ w', Below w3.heap.size w3 w' → (Below w3.heap.size w3 w' ∧ w'.cell? ⟨b, 0, none⟩ = some (.int .i64 kt) ∧ w'.cell? ⟨b, 1, none⟩ = some (.int .i64 kn) ∧ w'.cell? ⟨b + 1, 0, none⟩ = some (.int .i64 vt) ∧ w'.cell? ⟨b + 1, 1, none⟩ = some (.int .i64 vn) ∧
      w'.cell? ⟨b2, 0, none⟩ = some (.int .i64 0) ∧ w'.cell? ⟨b2, 1, none⟩ = some (.int .i64 0) ∧ w'.cell? ⟨b2 + 1, 0, none⟩ = some (.int .i64 0) ∧ w'.cell? ⟨b2 + 1, 1, none⟩ = some (.int .i64 0)) from fun w' h =>
    ⟨h, (h.cell (p := ⟨b, 0, none⟩) l1).trans p0, (h.cell (p := ⟨b, 1, none⟩) l1).trans p1, (h.cell (p := ⟨b + 1, 0, none⟩) l2).trans q0, (h.cell (p := ⟨b + 1, 1, none⟩) l2).trans q1,
      (h.cell (p := ⟨b2, 0, none⟩) l3).trans r0, (h.cell (p := ⟨b2, 1, none⟩) l3).trans r1, (h.cell (p := ⟨b2 + 1, 0, none⟩) l4).trans s0, (h.cell (p := ⟨b2 + 1, 1, none⟩) l4).trans s1⟩)
  have HG := Lib.hid (get_nil ⟨kt, kn⟩)
  have HS := Lib.hid (set_nil ⟨kt, kn⟩ ⟨vt, vn⟩)
  have HH := Lib.hid (hash_nil kt kn)
  clear hb2 hb3 hB3 hk2 hv2 ha hb l1 l2 l3 l4 hbb hbb2 HW
  have hw : Below w3.heap.size w3 w3 := Below.refl _ _
  refine (HG.out _).mono ?_
  rintro e w4 ⟨rfl, hb4⟩
  replace hw := bl2 hw hb4
  clear hb4 p0 p1 q0 q1 r0 r1 s0 s1
  obtain ⟨-, p0, p1, q0, q1, r0, r1, s0, s1⟩ := HRS.out _ hw
  go_wp2_with fail
  refine (HS.out _).mono ?_
  rintro e w5 ⟨rfl, hb5⟩
  replace hw := bl2 hw hb5
  clear hb5 p0 p1 q0 q1 r0 r1 s0 s1
  obtain ⟨-, p0, p1, q0, q1, r0, r1, s0, s1⟩ := HRS.out _ hw
  go_wp2_with fail
  refine (no_any _ _).mono ?_
  rintro e wn ⟨rfl, rfl⟩
  go_wp2_with fail
  refine (len_nil _).mono ?_
  rintro e w6 ⟨rfl, hb6⟩
  replace hw := bl2 hw hb6
  clear hb6 p0 p1 q0 q1 r0 r1 s0 s1
  obtain ⟨-, p0, p1, q0, q1, r0, r1, s0, s1⟩ := HRS.out _ hw
  go_wp2_with fail
  refine (no_any _ _).mono ?_
  rintro e wn ⟨rfl, rfl⟩
  go_wp2_with fail
  refine (array_nil _).mono ?_
  rintro e w7 ⟨rfl, hb7⟩
  replace hw := bl2 hw hb7
  clear hb7 p0 p1 q0 q1 r0 r1 s0 s1
  obtain ⟨-, p0, p1, q0, q1, r0, r1, s0, s1⟩ := HRS.out _ hw
  go_wp2_with fail
  refine (nodes_nil _).mono ?_
  rintro e w8 ⟨rfl, hb8⟩
  replace hw := bl2 hw hb8
  clear hb8 p0 p1 q0 q1 r0 r1 s0 s1
  obtain ⟨-, p0, p1, q0, q1, r0, r1, s0, s1⟩ := HRS.out _ hw
  go_wp2_with fail
  refine (slot_nil _ _).mono ?_
  rintro e w9 ⟨rfl, hb9⟩
  replace hw := bl2 hw hb9
  clear hb9 p0 p1 q0 q1 r0 r1 s0 s1
  obtain ⟨-, p0, p1, q0, q1, r0, r1, s0, s1⟩ := HRS.out _ hw
  go_wp2_with fail
  refine (resize_nil _ _ _).mono ?_
  rintro e w10 ⟨rfl, hb10⟩
  replace hw := bl2 hw hb10
  clear hb10 p0 p1 q0 q1 r0 r1 s0 s1
  obtain ⟨-, p0, p1, q0, q1, r0, r1, s0, s1⟩ := HRS.out _ hw
  go_wp2_with fail
  refine (no_any _ _).mono ?_
  rintro e wn ⟨rfl, rfl⟩
  go_wp2_with fail
  refine (HH.out _).mono ?_
  rintro e w11 ⟨rfl, hb11⟩
  replace hw := bl2 hw hb11
  clear hb11 p0 p1 q0 q1 r0 r1 s0 s1
  obtain ⟨-, p0, p1, q0, q1, r0, r1, s0, s1⟩ := HRS.out _ hw
  go_wp2_with fail
  refine (alive_any _).mono ?_
  rintro e w12 ⟨rfl, hb12⟩
  replace hw := bl2 hw hb12
  clear hb12 p0 p1 q0 q1 r0 r1 s0 s1
  obtain ⟨-, p0, p1, q0, q1, r0, r1, s0, s1⟩ := HRS.out _ hw
  go_wp2_with fail
  go_ret
  exact ⟨rfl, bl2 HB3.out hw⟩

set_option maxRecDepth 100000 in
theorem lifted (os : Os) (started : os.Started) (H : Type) (enc : TypeId × Value → H) :
    ReturnsInHanded {} Try.checked os 9 .any (Rows.tableNilSpec.pre6 enc Try.prog Try.f9 Rows.tableNilRow.domain false) (Rows.tableNilSpec.post enc Try.prog Try.f9 false true false false) := by
  refine returnsInHanded_of_change (C := Try.checked) own started (by kernel_rfl) Try.func9
    (ChangeSpec.witness6 (enc := enc) (C := Try.checked) false ⟨#[], #[.agg #[.int .i64 0, .int .i64 0], .agg #[.int .i64 0, .int .i64 0], .int .i64 0], []⟩ 8 (by kernel_rfl) (by kernel_rfl) (by kernel_rfl) (by kernel_rfl)) ?_
  intro W base args ds gs before hval0 hW hcnd _
  have hval : ∀ (j : Nat) t v, Try.f9.params[j]? = some t → args[j]? = some v → Value.okWide Try.prog W .any base t v := hval0
  have hW' := hW
  obtain ⟨p, q, hA0, hV, rfl, hfz, hnd⟩ := hW
  have hA : DataW.TrodAll enc Try.prog W 0 (fun _ => true) true Try.f9.params.toList args.toList ds p := hA0
  rw [Try.params9] at hA hval
  obtain ⟨v0, vs0, d0, ds0, p0, q0, hargs, rfl, rfl, h0, r0⟩ := trodAll_cons hA
  obtain ⟨v1, vs1, d1, ds1, p1, q1, rfl, rfl, rfl, h1, r1⟩ := trodAll_cons r0
  obtain ⟨v2, vs2, d2, ds2, p2, q2, rfl, rfl, rfl, h2, r2⟩ := trodAll_cons r1
  obtain ⟨rfl, rfl, rfl⟩ := trodAll_nil r2
  obtain rfl : args = #[v0, v1, v2] := by cases args; simp_all
  obtain ⟨rfl, rfl⟩ := trodVars_none hV
  simp only [List.append_nil] at hW'
  have h0k := h0
  obtain ⟨cs0, rfl, hz0⟩ := okWide_struct valFs_eq (hval 0 27 v0 rfl rfl)
  obtain ⟨fuel0, hf0⟩ := h0
  obtain ⟨u0, hu0⟩ := open_val hf0
  obtain rfl : cs0 = u0.cells.toArray := by simpa [Value.cells] using congrArg List.toArray hu0
  have h1k := h1
  obtain ⟨cs1, rfl, hz1⟩ := okWide_struct valFs_eq (hval 1 27 v1 rfl rfl)
  obtain ⟨fuel1, hf1⟩ := h1
  obtain ⟨u1, hu1⟩ := open_val hf1
  obtain rfl : cs1 = u1.cells.toArray := by simpa [Value.cells] using congrArg List.toArray hu1
  obtain ⟨a2, rfl, rfl, rfl, w2⟩ := open_int Try.underlying3 (hval 2 3 v2 rfl rfl) h2
  clear hA0 hval0
  try simp only [List.append_nil] at hW'
  refine (walk u0 u1 a2 W   w2).mono fun e W' ⟨he, hg⟩ => ?_
  subst he
  exact ⟨_, rfl, _, _, _, [], _, [], hW', (trodAll_cons_mk (shut_bool Try.underlying4 _) trodAll_mk0), (trodAll_cons_mk (Below.trod Try.laidOut (by kernel_rfl) (of_decide_eq_true (by kernel_rfl)) h0k hg (fun x hx => by have := hW'.lt x (by simp [hx]); simpa using this)) (trodAll_cons_mk (Below.trod Try.laidOut (by kernel_rfl) (of_decide_eq_true (by kernel_rfl)) h1k hg (fun x hx => by have := hW'.lt x (by simp [hx]); simpa using this)) (trodAll_cons_mk (shut_int Try.underlying3 w2) trodAll_mk0))), rfl,
    hg.frame _, fun h => by cases h⟩

theorem over : Rows.tableNilRow.holds Try.pinned (OpenSpec.ofChange Rows.tableNilSpec) :=
  OpenClaim.holds_of_wide 9 Try.f9 rfl rfl rfl rfl rfl rfl rfl ⟨rfl, rfl, rfl, rfl, rfl⟩ rfl rfl rfl rfl rfl (by kernel_rfl) Try.func9 (by kernel_rfl)
    (of_decide_eq_true (by kernel_rfl)) (by unfold Func.isWrapper; first | (rw [if_pos (by decide +kernel)]; kernel_rfl) | (rw [if_neg (by decide +kernel)]; exact ⟨rfl, rfl⟩))
    (fun os started H enc _ => lifted os started H enc)

theorem proved : Rows.TableNilSaid :=
  over
#print axioms proved
end Go.Proofs.Ytpodgmajccmgkaa.tableNil
