/- TableEmptied: a table may be emptied while it is gone over: the law returns true for every list of calls. -/
import Derived.Test.YtpodgmajccmgkaaRows
import Derived.Test.YtpodgmajccmgkaaTabEm
namespace Go.Proofs.Ytpodgmajccmgkaa.tableEmptied
open Go.ChangeShapes Go.WideShapes Go.ChangeAt Go.RowKit Go.Shelf
set_option linter.unusedVariables false
set_option linter.unusedSimpArgs false
attribute [local go_sem] Oper.semAt_some nil_slot field_t meth_array meth_nodes meth_slot meth_setslot meth_resize meth_hash

theorem own : ownKnob Try.prog.godebug = none := by kernel_rfl

variable {w0 w w' : World} {p : Nat} {sv sv' : Value} {T T' : Tb}

theorem Lst.up {B B' : Nat} {A : Option Addr} {l : List ActV} (h : Lst w B A l) (hb : B ≤ B') : Lst w B' A l := by
  intro i a hi
  obtain ⟨ad, e, hB, hc⟩ := h i a hi
  exact ⟨ad, e, Nat.lt_of_lt_of_le hB hb, hc⟩

theorem next_is (H : HasT w0 w p sv T) (k : V) {r : Option Pr} (hr : nextR T k = nxR r) {a b c d : Int} (h : nxR r = (⟨a, b⟩, ⟨c, d⟩, 0)) :
    Calls Try.prog 11 #[.iface 23 (.pointer (some ⟨p, 0, none⟩)), .agg #[.int .i64 k.t, .int .i64 k.n]] w fun e w' => e = .returned (.tuple #[.agg #[.int .i64 a, .int .i64 b], .agg #[.int .i64 c, .int .i64 d], .int .i64 0]) ∧ Below w.heap.size w w' := by
  have := next_has H k
  rw [hr, h] at this
  exact this

theorem hasT_set (H : HasT w0 w p sv T) {a : Addr} (h0 : w0.heap.size ≤ a.block) (hn : ¬ OwnS p sv a.block) (u : Value) : HasT w0 (w.setCell a u) p sv T :=
  ⟨H.m.keep (B := fun k => k = a.block) (Keep.setCell (B := fun k => k = a.block) (p := a) (Keep.refl _ w) (fun _ => rfl) u) (fun k hk e => hn (by rw [← e]; exact hk)), H.own, H.b.setCell h0 u, H.pow, H.most⟩
theorem nxR_split (r : Option Pr) : ∃ a b c d, nxR r = (⟨a, b⟩, ⟨c, d⟩, 0) ∧ (r = none → a = 0 ∧ b = 0) ∧ ∀ x, r = some x → x.k = ⟨a, b⟩ := by
  cases r with
  | none => exact ⟨0, 0, 0, 0, rfl, fun _ => ⟨rfl, rfl⟩, (by intro x h; cases h)⟩
  | some x => exact ⟨x.k.t, x.k.n, x.v.t, x.v.n, rfl, (by intro h; cases h), (by intro y h; cases h; rfl)⟩

set_option maxRecDepth 100000 in
set_option maxHeartbeats 3000000 in
theorem walk (A : Option Addr) (l : List ActV) (c : Nat) (w : World) (hl : Lst w w.heap.size A l) (hlen : l.length ≤ maxLen) :
    Calls Try.prog 4 #[.slice A l.length c] w fun e w' => e = .returned (.bool true) ∧ Below w.heap.size w w' := by
  have HM := Lib.hid (made_any A l c w hl hlen)
  have HM2 := Lib.hid (show ∀ w1, Below w.heap.size w w1 → _ from fun w1 hb => made_any A l c w1 (Lst.up (hl.below hb) hb.size) hlen)
  obtain ⟨Q, hQ⟩ : ∃ Q, Q = l.length := ⟨_, rfl⟩
  rw [← hQ] at HM HM2 ⊢
  have HT := Lib.hid (madeT_ok l)
  obtain ⟨T, hT⟩ : ∃ T, T = madeT l := ⟨_, rfl⟩
  unfold MadeP at HM HM2
  rw [← hT] at HM HM2 HT
  clear hl hlen hQ hT
  go_enter Try.func4, Try.ntmps4
  go_wp2_with fail
  refine HM.out.mono ?_
  rintro e w1 ⟨p, sv, rfl, H⟩
  have H1 := Lib.hid H
  clear HM H
  go_wp2_with fail
  refine (HM2.out _ H1.out.b).mono ?_
  rintro e w2 ⟨p2, sv2, rfl, H⟩
  have H2 := Lib.hid H
  clear HM2 H
  obtain ⟨kt, kn, vt, vn, hr, hr0, hr1⟩ := nxR_split ((pairsL T)[0]?)
  have HR := Lib.hid hr
  have HR0 := Lib.hid hr0
  have HR1 := Lib.hid hr1
  clear hr hr0 hr1
  go_wp2_with fail
  refine (next_is (H1.out.step H2.out.b) ⟨0, 0⟩ (next_first T) HR.out).mono ?_
  rintro e w3 ⟨rfl, hb3⟩
  have H3 := Lib.hid (H2.out.step hb3)
  clear hb3 H2
  go_wp2_with fail
  refine (next_is (H3.out.step (by repeat (first | exact Below.refl _ _ | refine Below.alloc ?_ (by first | (simp; done) | (simp; omega)) _ | refine Below.drew ?_ | refine Below.setCell ?_ (by first | (simp; done) | (simp; omega)) _))) ⟨0, 0⟩ (next_first T) HR.out).mono ?_
  rintro e w4 ⟨rfl, hb4⟩
  obtain ⟨hk0, hk1, hB4⟩ := boxes2 hb4
  obtain ⟨hx0, hx1, hB5⟩ := boxes2 (Below.refl ((w4.alloc (.cells #[.int .i64 kt, .int .i64 kn] 27)).alloc (.cells #[.int .i64 vt, .int .i64 vn] 27)).heap.size _)
  obtain ⟨W5, hW5⟩ : ∃ W, W = (w4.alloc (.cells #[.int .i64 kt, .int .i64 kn] 27)).alloc (.cells #[.int .i64 vt, .int .i64 vn] 27) := ⟨_, rfl⟩
  rw [← hW5] at hx0 hB5
  have hk5 := hk0.below hB5 hk0.lt
  obtain ⟨bk, hbk⟩ : ∃ b, b = w3.heap.size := ⟨_, rfl⟩
  obtain ⟨bx, hbx⟩ : ∃ b, b = w4.heap.size := ⟨_, rfl⟩
  have hkx : bk ≠ bx := by have := hk0.lt; omega
  have hnk : ¬ OwnS p2 sv2 bk := fun h => by have := H3.out.m.own_lt h; omega
  have hnx : ¬ OwnS p2 sv2 bx := fun h => by have := H3.out.m.own_lt h; have := hk0.lt; omega
  have hgk : w1.heap.size ≤ bk := by have := H3.out.b.size; omega
  have hgx : w1.heap.size ≤ bx := by have := H3.out.b.size; have := hk0.lt; omega
  have H5 := Lib.hid (H3.out.step (hB4.trans (hB5.mono hB4.size)))
  go_wp2_with fail
  rw [← hW5, ← hbk, ← hbx]
  rw [← hbk] at hk5
  rw [← hbx] at hx0
  have HK5 := Lib.hid hk5
  have HX5 := Lib.hid hx0
  clear hb4 hk0 hk1 hB4 hx0 hx1 hB5 hW5 hk5 hbk hbx H3
  have HLN := Lib.hid HT.out.cnt
  go_loopw [7, 10, 11] (fun t7 t10 t11 wr => ∃ (i : Nat) (R : Tb) (sv : Value) (a b : Int), i ≤ (pairsL T).length ∧ t7 = .int .i64 0 ∧ t10 = .int .i64 0 ∧ t11 = .int .i64 i ∧ Em T i R ∧ HasT w1 wr p2 sv R ∧ ¬ OwnS p2 sv bk ∧ ¬ OwnS p2 sv bx ∧
      Box wr bk [.int .i64 a, .int .i64 b] 27 ∧ Box wr bx [.int .i64 a, .int .i64 b] 27 ∧ ((pairsL T)[i]? = none → a = 0 ∧ b = 0) ∧ ∀ x, (pairsL T)[i]? = some x → x.k = ⟨a, b⟩) (fun _ _ t11 _ => 81 - (intOf t11).toNat)
  case atStart => exact ⟨0, T, sv2, kt, kn, Nat.zero_le _, rfl, rfl, by go_num, Em.start HT.out.wf.le, H5.out, hnk, hnx, HK5.out, HX5.out, HR0.out, HR1.out⟩
  case round =>
    obtain ⟨i, R, sv, a, b, hi, rfl, rfl, rfl, hem, hr, hok, hox, hbk, hbx, hno, hyes⟩ := hrel
    obtain ⟨c0, c1, f0, f1⟩ := hbk.cells2
    obtain ⟨d0, d1, g0, g1⟩ := hbx.cells2
    have HEM := Lib.hid hem
    have HR5 := Lib.hid hr
    have HBK := Lib.hid hbk
    have HBX := Lib.hid hbx
    have hi8 : i ≤ 80 := by have := HLN.out; omega
    cases hx : (pairsL T)[i]? with
    | none =>
      obtain ⟨rfl, rfl⟩ := hno hx
      have hlen : (pairsL T).length ≤ i := List.getElem?_eq_none_iff.1 hx
      have HLA := Lib.hid (hem.last hlen)
      clear hx hno hyes hem hr hbk hbx
      go_wp2_with fail
      have NC := next_has HR5.out ⟨0, 0⟩
      rw [HLA.out] at NC
      unfold encNx nilV at NC
      simp only at NC
      refine NC.mono ?_
      clear NC
      rintro e w6 ⟨rfl, hb6⟩
      obtain ⟨c0', c1', -, -⟩ := (HBK.out.below hb6 HBK.out.lt).cells2
      obtain ⟨d0', d1', -, -⟩ := (HBX.out.below hb6 HBX.out.lt).cells2
      have H6 := Lib.hid ((HR5.out.step hb6).b)
      have l1 : bk < w6.heap.size := (HBK.out.below hb6 HBK.out.lt).lt
      have l2 : bx < w6.heap.size := (HBX.out.below hb6 HBX.out.lt).lt
      obtain ⟨Y1, Y2, HBY⟩ := boxes2 (Below.refl ((w6.alloc (.cells #[.int .i64 0, .int .i64 0] 27)).alloc (.cells #[.int .i64 0, .int .i64 0] 27)).heap.size _)
      have k0 := (HBY.cell (p := ⟨bk, 0, none⟩) l1).trans c0'
      have k1 := (HBY.cell (p := ⟨bx, 0, none⟩) l2).trans d0'
      clear hb6 c0 c1 d0 d1 f0 f1 g0 g1 Y1 Y2 HBY
      go_wp2_with fail
      refine (no_any _ _).mono ?_
      rintro e wn ⟨rfl, rfl⟩
      go_wp2_with fail
      refine (no_any _ _).mono ?_
      rintro e wn ⟨rfl, rfl⟩
      go_wp2_with fail
      refine (no_any _ _).mono ?_
      rintro e wn ⟨rfl, rfl⟩
      go_wp2_with fail
      refine (alive_any _).mono ?_
      rintro e w8 ⟨rfl, hb8⟩
      have HF := Lib.hid (bl2 (bl2 (bl2 H1.out.b H6.out) (show Below w6.heap.size w6 _ from (by repeat (first | exact Below.refl _ _ | refine Below.alloc ?_ (by first | (simp; done) | (simp; omega)) _ | refine Below.drew ?_ | refine Below.setCell ?_ (by first | (simp; done) | (simp; omega)) _)))) hb8)
      clear hb8
      go_wp2_with fail
      go_ret
      exact ⟨rfl, HF.out⟩
    | some x =>
      have hxk := hyes x hx
      have hmem := List.mem_of_getElem? hx
      have hkt := (keyR_t (HT.out.wf.pair hmem).2.1).1
      rw [hxk] at hkt
      simp only at hkt
      have ha0 : (a == 0) = false := by simp [hkt]
      have ha1 : (a != 0) = true := by simp [hkt]
      have SC := set_has hr (by have := hem.cnt; have := HLN.out; omega) ⟨a, b⟩ nilV
      have hset := hem.set HT.out.wf hx
      rw [hxk] at hset
      rw [hset] at SC
      have HE2 := Lib.hid (hem.step HT.out.wf.le hx)
      obtain ⟨R2, hR2⟩ : ∃ R2, R2 = setT R (x.i : Int) nilV := ⟨_, rfl⟩
      rw [← hR2] at SC HE2
      have HNA := Lib.hid (next_after HT.out.wf hx)
      have HNB := Lib.hid (HE2.out.next HT.out.wf hx)
      rw [hxk] at HNA HNB
      have hil : i < (pairsL T).length := (List.getElem?_eq_some_iff.1 hx).1
      unfold nilV at SC
      simp only at SC
      clear hno hyes hem hr hbk hbx hset hxk hmem hx hR2
      obtain ⟨a', b', c', d', hr', hr0', hr1'⟩ := nxR_split ((pairsL T)[i + 1]?)
      have HR' := Lib.hid hr'
      have HR0' := Lib.hid hr0'
      have HR1' := Lib.hid hr1'
      clear hr' hr0' hr1'
      go_wp2_with fail
      refine (no_any _ _).mono ?_
      rintro e wn ⟨rfl, rfl⟩
      go_wp2_with fail
      refine (no_any _ _).mono ?_
      rintro e wn ⟨rfl, rfl⟩
      go_wp2_with fail
      refine SC.mono ?_
      clear SC
      rintro e w6 ⟨sv6, rfl, H6', hv6⟩
      have H6 := Lib.hid H6'
      have hk6 := HBK.out.mv hv6 hok
      have hx6 := HBX.out.mv hv6 hox
      have hok6 : ¬ OwnS p2 sv6 bk := fun h => by
        rcases hv6.2 bk h with h | h
        · exact hok h
        · have := HBK.out.lt; omega
      have hox6 : ¬ OwnS p2 sv6 bx := fun h => by
        rcases hv6.2 bx h with h | h
        · exact hox h
        · have := HBX.out.lt; omega
      clear c0 c1 d0 d1 f0 f1 g0 g1 H6' hv6 HR5 HBK HBX
      obtain ⟨c0, c1, -, -⟩ := hk6.cells2
      go_wp2_with fail
      refine (no_any _ _).mono ?_
      rintro e wn ⟨rfl, rfl⟩
      go_wp2_with fail
      refine (next_is (H1.out.step H6.out.b) ⟨a, b⟩ HNA.out HR'.out).mono ?_
      rintro e w7 ⟨rfl, hb7⟩
      have H7 := Lib.hid (H6.out.step hb7)
      have hk7 := hk6.below hb7 hk6.lt
      have hx7 := hx6.below hb7 hx6.lt
      clear c0 c1 hb7 H6 hk6 hx6
      obtain ⟨c0, c1, f0, f1⟩ := hk7.cells2
      obtain ⟨d0, d1, -, -⟩ := hx7.cells2
      have hxk' : bx ≠ bk := fun e => hkx e.symm
      have hk8 := hk7.set2 (x' := .int .i64 a') (y' := .int .i64 b')
      have hx8 := (hx7.setOther ⟨bk, 0, none⟩ hxk' (.int .i64 a')).setOther ⟨bk, 1, none⟩ hxk' (.int .i64 b')
      have H8 := Lib.hid (hasT_set (hasT_set H7.out (a := ⟨bk, 0, none⟩) hgk hok6 (.int .i64 a')) (a := ⟨bk, 1, none⟩) hgk hok6 (.int .i64 b'))
      have HK8 := Lib.hid hk8
      have HX8 := Lib.hid hx8
      clear hk8 hx8 hk7 hx7
      go_wp2_with fail
      refine (next_is H8.out ⟨a, b⟩ HNB.out HR'.out).mono ?_
      rintro e w9 ⟨rfl, hb9⟩
      have hk9 := HK8.out.below hb9 HK8.out.lt
      have hx9 := HX8.out.below hb9 HX8.out.lt
      have H9 := Lib.hid (H8.out.step hb9)
      clear hb9 c0 c1 d0 d1 f0 f1 H8 HK8 HX8
      obtain ⟨d0, d1, g0, g1⟩ := hx9.cells2
      have HK10 := Lib.hid ((hk9.setOther ⟨bx, 0, none⟩ hkx (.int .i64 a')).setOther ⟨bx, 1, none⟩ hkx (.int .i64 b'))
      have HX10 := Lib.hid (hx9.set2 (x' := .int .i64 a') (y' := .int .i64 b'))
      have H10 := Lib.hid (hasT_set (hasT_set H9.out (a := ⟨bx, 0, none⟩) hgx hox6 (.int .i64 a')) (a := ⟨bx, 1, none⟩) hgx hox6 (.int .i64 b'))
      clear hk9 hx9
      go_wp2_with fail
      go_roundw
      case rel => exact ⟨i + 1, R2, sv6, a', b', by omega, rfl, rfl, by go_num, HE2.out, H10.out, hok6, hox6, HK10.out, HX10.out, HR0'.out, HR1'.out⟩
      case measure => simp [intOf]; omega

set_option maxRecDepth 100000 in
theorem lifted (os : Os) (started : os.Started) (H : Type) (enc : TypeId × Value → H) :
    ReturnsInHanded {} Try.checked os 4 .any (Rows.tableEmptiedSpec.pre6 enc Try.prog Try.f4 Rows.tableEmptiedRow.domain false) (Rows.tableEmptiedSpec.post enc Try.prog Try.f4 false true false false) := by
  refine returnsInHanded_of_change (C := Try.checked) own started (by kernel_rfl) Try.func4
    (ChangeSpec.witness6 (enc := enc) (C := Try.checked) false ⟨#[], #[.slice none 0 0], []⟩ 8 (by kernel_rfl) (by kernel_rfl) (by kernel_rfl) (by kernel_rfl)) ?_
  intro W base args ds gs before hval0 hW hcnd _
  have hval : ∀ (j : Nat) t v, Try.f4.params[j]? = some t → args[j]? = some v → Value.okWide Try.prog W .any base t v := hval0
  have hW' := hW
  obtain ⟨p, q, hA0, hV, rfl, hfz, hnd⟩ := hW
  have hA : DataW.TrodAll enc Try.prog W 0 (fun _ => true) true Try.f4.params.toList args.toList ds p := hA0
  rw [Try.params4] at hA hval
  obtain ⟨v0, vs0, d0, ds0, p0, q0, hargs, rfl, rfl, h0, r0⟩ := trodAll_cons hA
  obtain ⟨rfl, rfl, rfl⟩ := trodAll_nil r0
  obtain rfl : args = #[v0] := by cases args; simp_all
  obtain ⟨rfl, rfl⟩ := trodVars_none hV
  simp only [List.append_nil] at hW'
  have h0k := h0
  obtain ⟨x0, y0, z0, rfl⟩ := okWide_slice Try.underlying22 (hval 0 22 v0 rfl rfl)
  obtain ⟨fuel0, hf0⟩ := h0
  obtain ⟨A0, l0, c0, hcs0, hl0, hlen0⟩ := open_acts hf0
  simp only [Value.cells, List.cons.injEq, and_true, Value.slice.injEq] at hcs0
  obtain ⟨rfl, rfl, rfl⟩ := hcs0
  clear hA0 hval0
  try simp only [List.append_nil] at hW'
  refine (walk x0 l0 z0 W hl0 hlen0).mono fun e W' ⟨he, hg⟩ => ?_
  subst he
  exact ⟨_, rfl, _, _, _, [], _, [], hW', (trodAll_cons_mk (shut_bool Try.underlying4 _) trodAll_mk0), (trodAll_cons_mk (Below.trod Try.laidOut (by kernel_rfl) (of_decide_eq_true (by kernel_rfl)) h0k hg (fun x hx => by have := hW'.lt x (by simp [hx]); simpa using this)) trodAll_mk0), rfl,
    hg.frame _, fun h => by cases h⟩

theorem over : Rows.tableEmptiedRow.holds Try.pinned (OpenSpec.ofChange Rows.tableEmptiedSpec) :=
  OpenClaim.holds_of_wide 4 Try.f4 rfl rfl rfl rfl rfl rfl rfl ⟨rfl, rfl, rfl, rfl, rfl⟩ rfl rfl rfl rfl rfl (by kernel_rfl) Try.func4 (by kernel_rfl)
    (of_decide_eq_true (by kernel_rfl)) (by unfold Func.isWrapper; first | (rw [if_pos (by decide +kernel)]; kernel_rfl) | (rw [if_neg (by decide +kernel)]; exact ⟨rfl, rfl⟩))
    (fun os started H enc _ => lifted os started H enc)

theorem proved : Rows.TableEmptiedSaid :=
  over
#print axioms proved
end Go.Proofs.Ytpodgmajccmgkaa.tableEmptied
