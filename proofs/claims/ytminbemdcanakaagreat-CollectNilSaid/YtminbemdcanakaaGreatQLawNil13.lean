/- CollectNil: objects and collectors that are none answer nothing, and do nothing: the law returns true for all numbers and every value. -/
import Derived.Test.YtminbemdcanakaaGreatRows
import Derived.Test.YtminbemdcanakaaGreatMO
import Derived.Test.YtminbemdcanakaaGreatQColNil
namespace Go.Proofs.YtminbemdcanakaaGreat.collectNil
open Go.ChangeShapes Go.WideShapes Go.ChangeAt Go.RowKit Go.Shelf
set_option linter.unusedVariables false
set_option linter.unusedSimpArgs false

theorem own : ownKnob Tryz.prog.godebug = none := by kernel_rfl

variable {w : World}
theorem bl2 {w a b : World} (h : Below w.heap.size w a) (k : Below a.heap.size a b) : Below w.heap.size w b := h.trans (k.mono h.size)
set_option maxRecDepth 100000 in
set_option maxHeartbeats 8000000 in
theorem walk (h i : Int) (v : V) (w : World) (hh : (Lit.int .i64 h).wf = true) (hi : (Lit.int .i64 i).wf = true) : Calls Tryz.prog 13 #[.int .i64 h, .int .i64 i, .agg #[.int .i64 v.t, .int .i64 v.n]] w fun e w' => e = .returned (.bool true) ∧ Below w.heap.size w w' := by
  have hB := below_alloc w (.cells #[.int .i64 v.t, .int .i64 v.n] 34)
  have hx := Box.new w [.int .i64 v.t, .int .i64 v.n] 34
  obtain ⟨W0, hW0⟩ : ∃ W0, W0 = w.alloc (.cells #[.int .i64 v.t, .int .i64 v.n] 34) := ⟨_, rfl⟩
  have hsz : W0.heap.size = w.heap.size + 1 := by rw [hW0]; simp
  have hx' : Box W0 w.heap.size [.int .i64 v.t, .int .i64 v.n] 34 := by rw [hW0]; exact hx
  have HB := Lib.hid (show Below w.heap.size w W0 by rw [hW0]; exact hB)
  have HRS := Lib.hid (show ∀ w', Below W0.heap.size W0 w' → (w'.cell? ⟨w.heap.size, 0, none⟩ = some (.int .i64 v.t) ∧ w'.cell? ⟨w.heap.size, 1, none⟩ = some (.int .i64 v.n)) from fun w' hb => ⟨(hx'.below hb (by omega)).cell 0, (hx'.below hb (by omega)).cell 1⟩)
  have hw : Below W0.heap.size W0 W0 := Below.refl _ _
  obtain ⟨p0, p1⟩ := HRS.out _ hw
  have HS := Lib.hid (fun (W : World) => same_any (w := W) (mode := 0) (phase := 0) (white := 0) (sv := .slice none 0 0) (gv := .slice none 0 0) (av := .slice none 0 0) (pv := .slice none 0 0) (sv' := .slice none 0 0) (gv' := .slice none 0 0) (av' := .slice none 0 0) (pv' := .slice none 0 0) (l := []) (l' := []) (g := []) (a := []) (p := []) ⟨.inl ⟨rfl, rfl, rfl⟩, (fun x hx => by cases hx), .inl ⟨rfl, rfl, rfl⟩, .inl ⟨rfl, rfl, rfl⟩, .inl ⟨rfl, rfl, rfl⟩⟩ ⟨.inl ⟨rfl, rfl, rfl⟩, (fun x hx => by cases hx), .inl ⟨rfl, rfl, rfl⟩, .inl ⟨rfl, rfl, rfl⟩, .inl ⟨rfl, rfl, rfl⟩⟩ rfl (by decide) (by decide) (by decide) (by decide) (fun x hx => by cases hx))
  have HA := Lib.hid (fun (W : World) => alike_any (w := W) (u := .slice none 0 0) (v := .slice none 0 0) (a := noOb) (b := noOb) (.inl ⟨rfl, rfl, rfl⟩) (.inl ⟨rfl, rfl, rfl⟩) (by decide))
  rw [show (likeO noOb noOb) = true from rfl] at HA
  unfold thingV noOb at HA
  unfold vwV at HS
  clear hB hx hx'
  go_enter Tryz.func13, Tryz.ntmps13
  go_wp2_with fail
  rw [← hW0]
  refine (setRoots_nil _).mono ?_
  rintro e w0 ⟨rfl, hb⟩
  replace hw := bl2 (below_alloc W0 (.cells #[.int .i64 v.t, .int .i64 v.n] 34)) hb
  clear hb p0 p1 hW0
  obtain ⟨p0, p1⟩ := HRS.out _ hw
  go_wp2_with fail
  refine (setColour_nil _ _).mono ?_
  rintro e w1 ⟨rfl, hb⟩
  replace hw := bl2 hw hb
  clear hb p0 p1
  obtain ⟨p0, p1⟩ := HRS.out _ hw
  go_wp2_with fail
  refine (setAge_nil _ _).mono ?_
  rintro e w2 ⟨rfl, hb⟩
  replace hw := bl2 hw hb
  clear hb p0 p1
  obtain ⟨p0, p1⟩ := HRS.out _ hw
  go_wp2_with fail
  refine (setFin_nil _ _).mono ?_
  rintro e w3 ⟨rfl, hb⟩
  replace hw := bl2 hw hb
  clear hb p0 p1
  obtain ⟨p0, p1⟩ := HRS.out _ hw
  go_wp2_with fail
  refine (clear_nil _ _ _).mono ?_
  rintro e w4 ⟨rfl, hb⟩
  replace hw := bl2 hw hb
  clear hb p0 p1
  obtain ⟨p0, p1⟩ := HRS.out _ hw
  go_wp2_with fail
  refine (drop_nil _).mono ?_
  rintro e w5 ⟨rfl, hb⟩
  replace hw := bl2 hw hb
  clear hb p0 p1
  obtain ⟨p0, p1⟩ := HRS.out _ hw
  go_wp2_with fail
  refine (birth_nil _).mono ?_
  rintro e w6 ⟨rfl, hb⟩
  replace hw := bl2 hw hb
  clear hb p0 p1
  obtain ⟨p0, p1⟩ := HRS.out _ hw
  go_wp2_with fail
  refine (write_nil _ v).mono ?_
  rintro e w7 ⟨rfl, hb⟩
  replace hw := bl2 hw hb
  clear hb p0 p1
  obtain ⟨p0, p1⟩ := HRS.out _ hw
  go_wp2_with fail
  refine (major_nil).mono ?_
  rintro e w8 ⟨rfl, hb⟩
  replace hw := bl2 hw hb
  clear hb p0 p1
  obtain ⟨p0, p1⟩ := HRS.out _ hw
  go_wp2_with fail
  refine (setMode_nil _).mono ?_
  rintro e w9 ⟨rfl, hb⟩
  replace hw := bl2 hw hb
  clear hb p0 p1
  obtain ⟨p0, p1⟩ := HRS.out _ hw
  go_wp2_with fail
  refine (take_nil).mono ?_
  rintro e w10 ⟨rfl, hb⟩
  replace hw := bl2 hw hb
  clear hb p0 p1
  obtain ⟨p0, p1⟩ := HRS.out _ hw
  go_wp2_with fail
  refine (add_nil _ _ _ _ _).mono ?_
  rintro e w11 ⟨rfl, hb⟩
  replace hw := bl2 hw hb
  clear hb p0 p1
  obtain ⟨p0, p1⟩ := HRS.out _ hw
  go_wp2_with fail
  refine (set_nil _ _ v).mono ?_
  rintro e w12 ⟨rfl, hb⟩
  replace hw := bl2 hw hb
  clear hb p0 p1
  obtain ⟨p0, p1⟩ := HRS.out _ hw
  go_wp2_with fail
  refine (order_nil).mono ?_
  rintro e w13 ⟨rfl, hb⟩
  replace hw := bl2 hw hb
  clear hb p0 p1
  obtain ⟨p0, p1⟩ := HRS.out _ hw
  go_wp2_with fail
  refine (roots_nil).mono ?_
  rintro e w14 ⟨rfl, hb⟩
  replace hw := bl2 hw hb
  clear hb p0 p1
  obtain ⟨p0, p1⟩ := HRS.out _ hw
  go_wp2_with fail
  refine (kind_nil _).mono ?_
  rintro e w15 ⟨rfl, hb⟩
  replace hw := bl2 hw hb
  clear hb p0 p1
  obtain ⟨p0, p1⟩ := HRS.out _ hw
  go_wp2_with fail
  refine (cells_nil _).mono ?_
  rintro e w16 ⟨rfl, hb⟩
  replace hw := bl2 hw hb
  clear hb p0 p1
  obtain ⟨p0, p1⟩ := HRS.out _ hw
  go_wp2_with fail
  refine (colour_nil _).mono ?_
  rintro e w17 ⟨rfl, hb⟩
  replace hw := bl2 hw hb
  clear hb p0 p1
  obtain ⟨p0, p1⟩ := HRS.out _ hw
  go_wp2_with fail
  refine (age_nil _).mono ?_
  rintro e w18 ⟨rfl, hb⟩
  replace hw := bl2 hw hb
  clear hb p0 p1
  obtain ⟨p0, p1⟩ := HRS.out _ hw
  go_wp2_with fail
  refine (thing_nil _).mono ?_
  rintro e w19 ⟨rfl, hb⟩
  replace hw := bl2 hw hb
  clear hb p0 p1
  obtain ⟨p0, p1⟩ := HRS.out _ hw
  go_wp2_with fail
  refine (HA.out _).mono ?_
  rintro e w20 ⟨rfl, hb⟩
  replace hw := bl2 hw hb
  clear hb p0 p1
  obtain ⟨p0, p1⟩ := HRS.out _ hw
  go_wp2_with fail
  refine (new_nil).mono ?_
  rintro e w21 ⟨rfl, hb⟩
  replace hw := bl2 hw hb
  clear hb p0 p1
  obtain ⟨p0, p1⟩ := HRS.out _ hw
  go_wp2_with fail
  refine (view_nil).mono ?_
  rintro e w22 ⟨rfl, hb⟩
  replace hw := bl2 hw hb
  clear hb p0 p1
  obtain ⟨p0, p1⟩ := HRS.out _ hw
  go_wp2_with fail
  refine (HS.out _).mono ?_
  rintro e w23 ⟨rfl, hb⟩
  replace hw := bl2 hw hb
  clear hb p0 p1
  obtain ⟨p0, p1⟩ := HRS.out _ hw
  go_wp2_with fail
  refine (live_nil).mono ?_
  rintro e w24 ⟨rfl, hb⟩
  replace hw := bl2 hw hb
  clear hb p0 p1
  obtain ⟨p0, p1⟩ := HRS.out _ hw
  go_wp2_with fail
  refine (step_nil _).mono ?_
  rintro e w25 ⟨rfl, hb⟩
  replace hw := bl2 hw hb
  clear hb p0 p1
  obtain ⟨p0, p1⟩ := HRS.out _ hw
  go_wp2_with fail
  refine (young_nil).mono ?_
  rintro e w26 ⟨rfl, hb⟩
  replace hw := bl2 hw hb
  clear hb p0 p1
  obtain ⟨p0, p1⟩ := HRS.out _ hw
  go_wp2_with fail
  refine (alive_any).mono ?_
  rintro e w27 ⟨rfl, hb⟩
  replace hw := bl2 hw hb
  clear hb p0 p1
  obtain ⟨p0, p1⟩ := HRS.out _ hw
  go_wp2_with fail
  go_ret
  exact ⟨rfl, bl2 HB.out (hw)⟩

set_option maxRecDepth 100000 in
theorem lifted (os : Os) (started : os.Started) (H : Type) (enc : TypeId × Value → H) :
    ReturnsInHanded {} Tryz.checked os 13 .any (Rows.collectNilSpec.pre6 enc Tryz.prog Tryz.f13 Rows.collectNilRow.domain false) (Rows.collectNilSpec.post enc Tryz.prog Tryz.f13 false true false false) := by
  refine returnsInHanded_of_change (C := Tryz.checked) own started (by kernel_rfl) Tryz.func13
    (ChangeSpec.witness6 (enc := enc) (C := Tryz.checked) false ⟨#[], #[.int .i64 0, .int .i64 0, .agg #[.int .i64 0, .int .i64 0]], []⟩ 8 (by kernel_rfl) (by kernel_rfl) (by kernel_rfl) (by kernel_rfl)) ?_
  intro W base args ds gs before hval0 hW hcnd _
  have hval : ∀ (j : Nat) t v, Tryz.f13.params[j]? = some t → args[j]? = some v → Value.okWide Tryz.prog W .any base t v := hval0
  have hW' := hW
  obtain ⟨p, q, hA0, hV, rfl, hfz, hnd⟩ := hW
  have hA : DataW.TrodAll enc Tryz.prog W 0 (fun _ => true) true Tryz.f13.params.toList args.toList ds p := hA0
  rw [Tryz.params13] at hA hval
  obtain ⟨v0, vs0, d0, ds0, p0, q0, hargs, rfl, rfl, h0, r0⟩ := trodAll_cons hA
  obtain ⟨v1, vs1, d1, ds1, p1, q1, rfl, rfl, rfl, h1, r1⟩ := trodAll_cons r0
  obtain ⟨v2, vs2, d2, ds2, p2, q2, rfl, rfl, rfl, h2, r2⟩ := trodAll_cons r1
  obtain ⟨rfl, rfl, rfl⟩ := trodAll_nil r2
  obtain rfl : args = #[v0, v1, v2] := by cases args; simp_all
  obtain ⟨rfl, rfl⟩ := trodVars_none hV
  simp only [List.append_nil] at hW'
  obtain ⟨a0, rfl, rfl, rfl, w0⟩ := open_int Tryz.underlying3 (hval 0 3 v0 rfl rfl) h0
  obtain ⟨a1, rfl, rfl, rfl, w1⟩ := open_int Tryz.underlying3 (hval 1 3 v1 rfl rfl) h1
  have h2k := h2
  obtain ⟨cs2, rfl, hz2⟩ := okWide_struct valFs_eq (hval 2 34 v2 rfl rfl)
  obtain ⟨fuel2, hf2⟩ := h2
  obtain ⟨u2, hu2⟩ := open_val hf2
  obtain rfl : cs2 = u2.cells.toArray := by simpa [Value.cells] using congrArg List.toArray hu2
  clear hA0 hval0
  try simp only [List.append_nil] at hW'
  refine (walk a0 a1 u2 W w0 w1 ).mono fun e W' ⟨he, hg⟩ => ?_
  subst he
  exact ⟨_, rfl, _, _, _, [], _, [], hW', (trodAll_cons_mk (shut_bool Tryz.underlying4 _) trodAll_mk0), (trodAll_cons_mk (shut_int Tryz.underlying3 w0) (trodAll_cons_mk (shut_int Tryz.underlying3 w1) (trodAll_cons_mk (Below.trod Tryz.laidOut (by kernel_rfl) (of_decide_eq_true (by kernel_rfl)) h2k hg (fun x hx => by have := hW'.lt x (by simp [hx]); simpa using this)) trodAll_mk0))), rfl,
    hg.frame _, fun h => by cases h⟩

theorem over : Rows.collectNilRow.holds Tryz.pinned (OpenSpec.ofChange Rows.collectNilSpec) :=
  OpenClaim.holds_of_wide 13 Tryz.f13 rfl rfl rfl rfl rfl rfl rfl ⟨rfl, rfl, rfl, rfl, rfl⟩ rfl rfl rfl rfl rfl (by kernel_rfl) Tryz.func13 (by kernel_rfl)
    (of_decide_eq_true (by kernel_rfl)) (by unfold Func.isWrapper; first | (rw [if_pos (by decide +kernel)]; kernel_rfl) | (rw [if_neg (by decide +kernel)]; exact ⟨rfl, rfl⟩))
    (fun os started H enc _ => lifted os started H enc)

theorem proved : Rows.CollectNilSaid :=
  over
#print axioms proved
end Go.Proofs.YtminbemdcanakaaGreat.collectNil
