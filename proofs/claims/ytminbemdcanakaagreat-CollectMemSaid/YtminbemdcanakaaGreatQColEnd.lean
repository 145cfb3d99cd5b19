/- The end of marking, whole. -/
import Derived.Test.YtminbemdcanakaaGreatQColSep
import Derived.Test.YtminbemdcanakaaGreatMJ
namespace Go.Proofs.YtminbemdcanakaaGreat
open Go.RowKit Go.Shelf
set_option linter.unusedVariables false
set_option linter.unusedSimpArgs false
attribute [local go_sem] Oper.semAt_some meth_order meth_thing meth_kind meth_cells meth_colour meth_age meth_setColour meth_setAge meth_setFin meth_clear meth_drop meth_roots

section
variable {w : World} {K : CL} {c : Cs}
set_option maxHeartbeats 1000000 in
theorem other_any (h : CAt w K c) (hw : W01 c) : Calls Tryz.prog 96 #[.pointer (some ⟨K.cp, 0, none⟩)] w fun x w' => IntB w (other c) x w' := by
  have c3 := h.cells.2.2.2.1
  have q1 : IntKind.i64.wrap (1 - c.white) = 1 - c.white := IntWalk.i64_in _ (by unfold W01 at hw; omega)
  clear h hw
  go_enter Tryz.func96, Tryz.ntmps96
  go_wp2_with fail
  go_ret
  exact ⟨rfl, Below.refl _ _⟩
end
/-- The collector K of w, its end under way in W: the ender E, the boxes bc and be of the two. -/
structure EX (w : World) (K : CL) (W : World) (E : EL) (e : En) (bc be : Nat) : Prop where
  cp : E.K.cp = K.cp
  p : E.K.L.p = K.L.p
  at_ : EAt W E e
  bxc : Box W bc [.pointer (some ⟨K.cp, 0, none⟩)] 59
  bxe : Box W be [.pointer (some ⟨E.ep, 0, none⟩)] 152
  nbc : ¬ E.own bc
  nbe : ¬ E.own be
  keep : Keep K.own w W
  own : ∀ k, E.own k → K.own k ∨ w.heap.size ≤ k
section
variable {w W W' : World} {K : CL} {E : EL} {e e' : En} {bc be : Nat} {c : Cs}
theorem EX.cells (h : EX w K W E e bc be) : W.cell? ⟨bc, 0, none⟩ = some (.pointer (some ⟨K.cp, 0, none⟩)) ∧ W.cell? ⟨be, 0, none⟩ = some (.pointer (some ⟨E.ep, 0, none⟩)) := ⟨h.bxc.cell 0, h.bxe.cell 0⟩
theorem EX.to (h : EX w K W E e bc be) (k : ETo W E W' e') : ∃ E', E'.ep = E.ep ∧ E'.K.cp = K.cp ∧ EX w K W' E' e' bc be := by
  obtain ⟨E', a1, a2, a3, a4, a5, a6⟩ := k
  have hn : ∀ b, b < W.heap.size → ¬ E.own b → ¬ E'.own b := fun b hb hn ho => by
    rcases a6 b ho with x | x
    · exact hn x
    · omega
  refine ⟨E', a1, a2.trans h.cp, a2.trans h.cp, a3.trans h.p, a4, a5.box h.bxc h.nbc, by rw [a1]; exact a5.box h.bxe h.nbe, hn _ h.bxc.lt h.nbc, hn _ h.bxe.lt h.nbe, ?_, fun k hk => ?_⟩
  · exact h.keep.trans' a5 fun k hk ho => by
      rcases h.own k ho with x | x
      · exact x
      · omega
  · rcases a6 k hk with x | x
    · exact h.own k x
    · have := h.keep.size; exact .inr (by omega)
theorem EX.fin (h : EX w K W E e bc be) : CTo allQ w K W e.c := by
  refine ⟨E.K, h.cp, h.p, h.at_.at_, fun _ _ hn => absurd trivial hn, h.keep.mono fun k _ hk => ?_, fun k hk => ?_⟩
  · rcases hk with x | x | ⟨i, hi, x⟩
    · exact .inl x
    · exact .inr (.inl x)
    · exact .inr (.inr ⟨i, hi, trivial, x⟩)
  · rcases h.own k (.inr (.inl (CL.ownS_own hk))) with x | x
    · refine .inl ?_
      rcases x with x | x | ⟨i, hi, x⟩
      · exact .inl x
      · exact .inr (.inl x)
      · exact .inr (.inr ⟨i, hi, trivial, x⟩)
    · exact .inr x
/-- Where it begins. -/
theorem EX.start (h : CAt w K c) : EX w K (((w.alloc (.cells #[.pointer (some ⟨K.cp, 0, none⟩)] 59)).alloc (.cells #[.pointer (some ⟨K.cp, 0, none⟩), .slice none 0 0] 154)).alloc (.cells #[.pointer (some ⟨w.heap.size + 1, 0, none⟩)] 152)) ⟨w.heap.size + 1, K, .slice none 0 0⟩ ⟨c, []⟩ w.heap.size (w.heap.size + 1 + 1) := by
  have b1 := below_alloc w (.cells #[.pointer (some ⟨K.cp, 0, none⟩)] 59)
  have b2 := b1.alloc b1.size (.cells #[.pointer (some ⟨K.cp, 0, none⟩), .slice none 0 0] 154)
  have b3 := b2.alloc b2.size (.cells #[.pointer (some ⟨w.heap.size + 1, 0, none⟩)] 152)
  have s1 : (w.alloc (.cells #[.pointer (some ⟨K.cp, 0, none⟩)] 59)).heap.size = w.heap.size + 1 := Array.size_push _
  have s2 : ((w.alloc (.cells #[.pointer (some ⟨K.cp, 0, none⟩)] 59)).alloc (.cells #[.pointer (some ⟨K.cp, 0, none⟩), .slice none 0 0] 154)).heap.size = w.heap.size + 1 + 1 := (Array.size_push _).trans (congrArg (· + 1) s1)
  have x1 := Box.new w [.pointer (some ⟨K.cp, 0, none⟩)] 59
  have x2 := Box.new (w.alloc (.cells #[.pointer (some ⟨K.cp, 0, none⟩)] 59)) [.pointer (some ⟨K.cp, 0, none⟩), .slice none 0 0] 154
  have x3 := Box.new ((w.alloc (.cells #[.pointer (some ⟨K.cp, 0, none⟩)] 59)).alloc (.cells #[.pointer (some ⟨K.cp, 0, none⟩), .slice none 0 0] 154)) [.pointer (some ⟨w.heap.size + 1, 0, none⟩)] 152
  rw [s1] at x2
  rw [s2] at x3
  have hl : ∀ k, K.own k → k < w.heap.size := fun k => h.own_lt
  refine ⟨rfl, rfl, ⟨x2.alloc _, h.below b3, .inl ⟨rfl, rfl⟩, fun x => ?_, fun k hk => ?_⟩, (x1.alloc _).alloc _, x3, ?_, ?_, Keep.of_below b3, ?_⟩
  · have hx : w.heap.size + 1 < w.heap.size := hl _ x
    omega
  · cases hk
  · rintro (x | x | x)
    · have x' : w.heap.size = w.heap.size + 1 := x; omega
    · have := hl _ x; omega
    · cases x
  · rintro (x | x | x)
    · have x' : w.heap.size + 1 + 1 = w.heap.size + 1 := x; omega
    · have hx : w.heap.size + 1 + 1 < w.heap.size := hl _ x
      omega
    · cases x
  · rintro k (x | x | x)
    · have x' : k = w.heap.size + 1 := x; exact .inr (by omega)
    · exact .inl x
    · cases x
/-- It blackens. -/
theorem blacken_mk {c : Cs} (hw : W01 c) (l : List Int) : Mk 0 c (c.withM (blacken l c.m)) := by
  have : ∀ (l : List Int) (c : Cs), W01 c → Mk 0 c (c.withM (blacken l c.m)) := by
    intro l
    induction l with
    | nil => intro c _; exact Mk.refl c
    | cons x l ih => intro c h; exact (Mk.setCol3 c x h).trans0 (ih (c.withM (c.m.setCol x 3)) h)
  exact this l c hw
theorem blacken_succ {wk : List Int} {m : Mm} {i : Nat} {x : Int} (hx : wk[i]? = some x) : blacken (wk.take (i + 1)) m = (blacken (wk.take i) m).setCol x 3 := by
  unfold blacken; rw [List.take_add_one, hx, List.foldl_append]; rfl
end
variable {w : World} {K : CL} {c : Cs}
set_option maxRecDepth 100000 in
set_option maxHeartbeats 8000000 in
theorem end_any (h : CAt w K c) (hB : Bd c) (hp : c.pending.length ≤ 9000000) : Calls Tryz.prog 94 #[.pointer (some ⟨K.cp, 0, none⟩)] w fun x w' => UnitTo allQ w K (end_ c) x w' := by
  have hst := EX.start h
  have c1 := (begin_mk (c := c) hB.w01)
  have hb1 : Bd (begin_ c) := hB.mk' (k := 0) c1
  have c2 := (goOn_mk (begin_ c) hb1.w01).1
  have hb2 : Bd (goOn (begin_ c)) := hb1.mk' (k := 0) c2
  have hbe2 : Be ⟨goOn (begin_ c), []⟩ := ⟨hb2, by have := hb2.dm; show 0 + dm (goOn (begin_ c)) ≤ _; omega⟩
  have c3 := drain_mk ⟨goOn (begin_ c), []⟩ hb2.w01
  have hbe3 : Be (drain ⟨goOn (begin_ c), []⟩) := ⟨hb2.mk' (k := 0) c3.1, Nat.le_trans c3.2.2.2 hbe2.weak⟩
  have c4 := rounds_mk (drain ⟨goOn (begin_ c), []⟩) hbe3.bd.w01
  have hbe4 : Be (endA c) := ⟨hbe3.bd.mk' (k := 0) c4.1, Nat.le_trans c4.2.2.2 hbe3.weak⟩
  have p4 : (endA c).c.pending = c.pending := (endA_mk hB.w01).1.pending
  have z4 : (endA c).weak.length ≤ 20000000 := by have := hbe4.weak; omega
  have c5 := (each_cl clrV_cl (endA c).weak (endA c).c).is
  have hb5 := hbe4.bd.mk' (k := 0) c5
  have p5 : (each clrV (endA c).weak (endA c).c).pending.length ≤ 9000000 := by rw [c5.pending, p4]; exact hp
  have c6 := separate_sp hb5.w01
  have hb6 : Bd (separate (each clrV (endA c).weak (endA c).c)) := ⟨c6.lk.sz hb5.sz, by have := hb5.w01; unfold W01 at *; rw [c6.white]; exact this, Nat.le_trans c6.dm hb5.dm, by have := c6.pending; have := hb5.sz.n; omega⟩
  have c7 := (goOn_mk (separate (each clrV (endA c).weak (endA c).c)) hb6.w01).1
  have hb7 := hb6.mk' (k := 0) c7
  have hbe7 : Be ⟨goOn (separate (each clrV (endA c).weak (endA c).c)), (endA c).weak⟩ := ⟨hb7, by
    have h1 := c7.dm
    have h2 := c6.dm
    have h3 := c5.dm
    have h4 := hbe4.weak
    show (endA c).weak.length + dm (goOn (separate (each clrV (endA c).weak (endA c).c))) ≤ _
    omega⟩
  have c8 := drain_mk ⟨goOn (separate (each clrV (endA c).weak (endA c).c)), (endA c).weak⟩ hb7.w01
  have hbe8 : Be (drain ⟨goOn (separate (each clrV (endA c).weak (endA c).c)), (endA c).weak⟩) := ⟨hb7.mk' (k := 0) c8.1, Nat.le_trans c8.2.2.2 hbe7.weak⟩
  have c9 := rounds_mk _ hbe8.bd.w01
  have hbe9 : Be (endB (endA c)) := ⟨hbe8.bd.mk' (k := 0) c9.1, Nat.le_trans c9.2.2.2 hbe8.weak⟩
  have c10 := (each_cl clrE_cl (endB (endA c)).weak (endB (endA c)).c).is
  have hb10 := hbe9.bd.mk' (k := 0) c10
  have z9 : (endB (endA c)).weak.length ≤ 20000000 := by have := hbe9.weak; omega
  have HST := Lib.hid hst
  have HB := Lib.hid hB
  have HP := Lib.hid hp
  have HBG := Lib.hid (begin_any hst.at_.at_ hB)
  have HW := Lib.hid hB.w01
  have BE1 := Lib.hid hb1
  have BE2 := Lib.hid hbe2
  have BE3 := Lib.hid hbe3
  have BE4 := Lib.hid hbe4
  have B5 := Lib.hid hb5
  have B6 := Lib.hid hb6
  have BE7 := Lib.hid hbe7
  have BE8 := Lib.hid hbe8
  have BE9 := Lib.hid hbe9
  have B10 := Lib.hid hb10
  have P5 := Lib.hid p5
  have Z4 := Lib.hid z4
  have Z9 := Lib.hid z9
  clear h hB hp hst c1 hb1 c2 hb2 hbe2 c3 hbe3 c4 hbe4 p4 z4 c5 hb5 p5 c6 hb6 c7 hb7 hbe7 c8 hbe8 c9 hbe9 c10 hb10 z9
  go_enter Tryz.func94, Tryz.ntmps94
  go_wp2_with fail
  refine HBG.out.mono ?_
  rintro x1 w1 ⟨rfl, hT1⟩
  obtain ⟨E1, hep1, hcp1, X1⟩ := HST.out.to (HST.out.at_.turnC hT1)
  have hep1' : E1.ep = w.heap.size + 1 := hep1
  obtain ⟨r1, s1⟩ := X1.cells
  rw [hep1'] at s1
  have HX1 := Lib.hid X1
  have G := Lib.hid (goOn_any X1.at_.at_ BE1.out)
  rw [hcp1] at G
  clear hT1 hep1
  go_wp2_with fail
  refine (G.out).mono ?_
  rintro x2 w2 ⟨rfl, hT2⟩
  obtain ⟨E2, hep2, hcp2, X2⟩ := HX1.out.to ((HX1.out.at_.turnC hT2))
  obtain ⟨r2, s2⟩ := X2.cells
  rw [hep2] at s2
  have HX2 := Lib.hid X2
  clear hT2
  have hep2' : E2.ep = w.heap.size + 1 := hep2.trans hep1'
  have GD := Lib.hid (drain_any X2.at_ BE2.out)
  rw [hep2'] at GD
  go_wp2_with fail
  refine (GD.out).mono ?_
  rintro x3 w3 ⟨rfl, hT3⟩
  obtain ⟨E3, hep3, hcp3, X3⟩ := HX2.out.to (hT3)
  obtain ⟨r3, s3⟩ := X3.cells
  rw [hep3] at s3
  have HX3 := Lib.hid X3
  clear hT3
  have hep3' : E3.ep = w.heap.size + 1 := hep3.trans hep2'
  have GR := Lib.hid (rounds_any X3.at_ BE3.out)
  rw [hep3'] at GR
  go_wp2_with fail
  refine (GR.out).mono ?_
  rintro x4 w4 ⟨rfl, hT4⟩
  obtain ⟨E4, hep4, hcp4, X4⟩ := HX3.out.to (hT4)
  obtain ⟨r4, s4⟩ := X4.cells
  rw [hep4] at s4
  have HX4 := Lib.hid X4
  clear hT4
  have hep4' : E4.ep = w.heap.size + 1 := hep4.trans hep3'
  have X4' : EX w K w4 E4 (endA c) w.heap.size (w.heap.size + 1 + 1) := X4
  have GV := Lib.hid (each_any1 clrV_cl (clrV_do _ _) X4'.at_ BE4.out.bd Z4.out X4'.bxe (by rw [hcp4]; exact X4'.bxc) X4'.nbe X4'.nbc)
  rw [hep4'] at GV
  go_wp2_with fail
  refine (GV.out).mono ?_
  rintro x5 w5 ⟨rfl, hT5⟩
  obtain ⟨E5, hep5, hcp5, X5⟩ := HX4.out.to ((HX4.out.at_.turnC hT5))
  obtain ⟨r5, s5⟩ := X5.cells
  rw [hep5] at s5
  have HX5 := Lib.hid X5
  clear hT5
  have hep5' : E5.ep = w.heap.size + 1 := hep5.trans hep4'
  have GS := Lib.hid (separate_any X5.at_ B5.out P5.out)
  rw [hep5'] at GS
  go_wp2_with fail
  refine (GS.out).mono ?_
  rintro x6 w6 ⟨rfl, hT6⟩
  obtain ⟨E6, hep6, hcp6, X6⟩ := HX5.out.to ((HX5.out.at_.turnC hT6))
  obtain ⟨r6, s6⟩ := X6.cells
  rw [hep6] at s6
  have HX6 := Lib.hid X6
  clear hT6
  have hep6' : E6.ep = w.heap.size + 1 := hep6.trans hep5'
  have GG := Lib.hid (goOn_any X6.at_.at_ B6.out)
  rw [hcp6] at GG
  go_wp2_with fail
  refine (GG.out).mono ?_
  rintro x7 w7 ⟨rfl, hT7⟩
  obtain ⟨E7, hep7, hcp7, X7⟩ := HX6.out.to ((HX6.out.at_.turnC hT7))
  obtain ⟨r7, s7⟩ := X7.cells
  rw [hep7] at s7
  have HX7 := Lib.hid X7
  clear hT7
  have hep7' : E7.ep = w.heap.size + 1 := hep7.trans hep6'
  have GD7 := Lib.hid (drain_any X7.at_ BE7.out)
  rw [hep7'] at GD7
  go_wp2_with fail
  refine (GD7.out).mono ?_
  rintro x8 w8 ⟨rfl, hT8⟩
  obtain ⟨E8, hep8, hcp8, X8⟩ := HX7.out.to (hT8)
  obtain ⟨r8, s8⟩ := X8.cells
  rw [hep8] at s8
  have HX8 := Lib.hid X8
  clear hT8
  have hep8' : E8.ep = w.heap.size + 1 := hep8.trans hep7'
  have GR8 := Lib.hid (rounds_any X8.at_ BE8.out)
  rw [hep8'] at GR8
  go_wp2_with fail
  refine (GR8.out).mono ?_
  rintro x9 w9 ⟨rfl, hT9⟩
  obtain ⟨E9, hep9, hcp9, X9⟩ := HX8.out.to (hT9)
  obtain ⟨r9, s9⟩ := X9.cells
  rw [hep9] at s9
  have HX9 := Lib.hid X9
  clear hT9
  have hep9' : E9.ep = w.heap.size + 1 := hep9.trans hep8'
  have X9' : EX w K w9 E9 (endB (endA c)) w.heap.size (w.heap.size + 1 + 1) := X9
  have GV9 := Lib.hid (each_any2 clrE_cl (clrE_do _ _) X9'.at_ BE9.out.bd Z9.out X9'.bxe (by rw [hcp9]; exact X9'.bxc) X9'.nbe X9'.nbc)
  rw [hep9'] at GV9
  go_wp2_with fail
  refine (GV9.out).mono ?_
  rintro x10 w10 ⟨rfl, hT10⟩
  obtain ⟨E10, hep10, hcp10, X10⟩ := HX9.out.to ((HX9.out.at_.turnC hT10))
  obtain ⟨r10, s10⟩ := X10.cells
  rw [hep10] at s10
  have HX10 := Lib.hid X10
  clear hT10
  have hep10' : E10.ep = w.heap.size + 1 := hep10.trans hep9'
  obtain ⟨wk, hwk⟩ : ∃ wk, wk = (endB (endA c)).weak := ⟨_, rfl⟩
  obtain ⟨cc, hcc⟩ : ∃ cc, cc = each clrE (endB (endA c)).weak (endB (endA c)).c := ⟨_, rfl⟩
  have hX10 : EX w K w10 E10 ⟨cc, wk⟩ w.heap.size (w.heap.size + 1 + 1) := by rw [hwk, hcc]; exact X10
  have HF := Lib.hid (show end_ c = (cc.withM (blacken wk cc.m)).withWhite (1 - (cc.withM (blacken wk cc.m)).white) by rw [hwk, hcc]; rfl)
  have hbc : Bd cc := by rw [hcc]; exact B10.out
  have HBC := Lib.hid hbc
  have Z10 := Lib.hid (show wk.length ≤ 20000000 by rw [hwk]; exact Z9.out)
  have HXA := Lib.hid hX10
  have z10 : wk.length ≤ 20000000 := Z10.out
  have u1 := hX10.at_.cells.2
  rw [hep10'] at u1
  obtain ⟨wa, wc, hwv⟩ := hX10.at_.weak.slice
  rw [hwv] at u1
  have HWV := Lib.hid hwv
  clear hwk hcc hX10 X1 X2 X3 X4 X5 X6 X7 X8 X9 X10 X4' X9' hwv hbc r1 r2 r3 r4 r5 r6 r7 r8 r9 s1 s2 s3 s4 s5 s6 s7 s8 s9
  go_wp2_with fail
  go_loopw [35] (fun t35 wr => ∃ (i : Nat) (Ki : CL), i ≤ wk.length ∧ t35 = .int .i64 i ∧ CGo noQ w10 E10.K wr Ki (cc.withM (blacken (wk.take i) cc.m))) (fun t35 _ => wk.length - (intOf t35).toNat)
  case atStart => exact ⟨0, E10.K, Nat.zero_le _, by go_num, CGo.self HXA.out.at_.at_⟩
  case round =>
    obtain ⟨i, Ki, hi, rfl, G⟩ := hrel
    have hmk := blacken_mk HBC.out.w01 (wk.take i)
    have hbd := HBC.out.mk' (k := 0) hmk
    have hEi := HXA.out.at_.turnK G
    obtain ⟨E', h1, h2, hX⟩ := HXA.out.to (HXA.out.at_.turnC ⟨Ki, G⟩)
    obtain ⟨r0, s0⟩ := hX.cells
    by_cases hlt : i < wk.length
    · obtain ⟨x, hx⟩ : ∃ x, wk[i]? = some x := ⟨wk[i], List.getElem?_eq_getElem _⟩
      obtain ⟨g, off, cap, hqg, hle, hmx, hcell⟩ := hEi.weak.get (by intro e; have e' : wk = [] := e; rw [e'] at hlt; simp at hlt)
      have hqg' : E10.wv = _ := hqg
      rw [HWV.out] at hqg'
      simp only [Value.slice.injEq] at hqg'
      obtain ⟨rfl, -, rfl⟩ := hqg'
      have y0 := hcell _ _ hx
      have m0 := G.at_.cells.1
      rw [G.cp, G.p, hcp10] at m0
      have HSC := Lib.hid (setColour_any G.at_.mem hbd.sz.n x 3)
      rw [G.p] at HSC
      have HG := Lib.hid G
      have HS := Lib.hid (blacken_succ (m := cc.m) hx)
      clear hx hcell hqg hmk hbd hEi h1 h2 hX G s0
      go_wp2_with fail
      refine HSC.out.mono ?_
      rintro x5 w5 ⟨rfl, hm, hk⟩
      obtain ⟨K5, G5⟩ := HG.out.to (HG.out.at_.turnK (s := noQ) hm hk)
      have HG5 := Lib.hid (show CGo noQ w10 E10.K w5 K5 (cc.withM (blacken (wk.take (i + 1)) cc.m)) from by rw [HS.out]; exact G5)
      clear hm hk G5
      go_wp2_with fail
      go_roundw
      case rel => exact ⟨i + 1, K5, by omega, by go_num, HG5.out⟩
      case measure => simp [intOf]; omega
    · obtain rfl : i = wk.length := by omega
      rw [List.take_length] at hX hbd G
      obtain ⟨cb, hcb⟩ : ∃ cb, cb = cc.withM (blacken wk cc.m) := ⟨_, rfl⟩
      rw [← hcb] at hX hbd G
      have HF2 := Lib.hid (show end_ c = cb.withWhite (other cb) by rw [HF.out, ← hcb]; rfl)
      have HC := Lib.hid (hX.fin)
      have HNE := Lib.hid (show w.heap.size ≠ K.cp from fun x => hX.nbc (.inr (.inl (.inl (x.trans hX.cp.symm)))))
      have hcA : CAt wr E'.K cb := hX.at_.at_
      have HCA := Lib.hid hcA
      have HW1 := Lib.hid hbd.w01
      have HCP := Lib.hid hX.cp
      have hS : ∀ W, Below wr.heap.size wr W → W.cell? ⟨w.heap.size, 0, none⟩ = some (.pointer (some ⟨K.cp, 0, none⟩)) := fun W hb => (hX.bxc.below hb hX.bxc.lt).cell 0
      have HS := Lib.hid hS
      have HO := Lib.hid (fun (W : World) (hb : Below wr.heap.size wr W) => other_any (hcA.below hb) hbd.w01)
      rw [h2] at HO
      have f3 : ∀ W, Below wr.heap.size wr W → W.frozen? ⟨K.cp, 3, none⟩ = false := fun W hb => by have := ((hcA.below hb).box).free 3; rw [h2] at this; exact this
      have HF3 := Lib.hid f3
      clear hX hbd G hcA hcb hmk hEi h1 s0 hS f3
      go_wp2_with fail
      refine wp_region_noPanic ?_
      refine wp_region_held_drew (S := (fun W => W.cell? ⟨w.heap.size, 0, none⟩ = some (.pointer (some ⟨K.cp, 0, none⟩)))) (by kernel_rfl) ?_ (fun hHeld => ?_)
      · exact HS.out _ (drew_below _)
      refine wpAnyH_take (i := 0) (oi := ?oia0) (v := ?vva0) ?hia0 (by kernel_rfl) (by kernel_rfl) (by kernel_rfl) ?hQa0 ?hya0 (by assumption) ?resta0
      case hia0 => (simp only [List.getElem?_toArray, List.getElem?_cons_succ, List.getElem?_cons_zero]; rfl)
      case hQa0 => exact fun _ _ _ h => h
      case hya0 => (refine Or.inl ⟨by rfl, ?_⟩; intro w hSw; (try dsimp only at hSw); go_simp; try with_reducible rfl)
      try simp only [Act.put, List.setIfInBounds_toArray, List.set_cons_zero, List.set_cons_succ]
      refine wpAnyH_take (i := 1) (oi := ?oia1) (v := ?vva1) ?hia1 (by kernel_rfl) (by kernel_rfl) (by kernel_rfl) ?hQa1 ?hya1 (by assumption) ?resta1
      case hia1 => (simp only [List.getElem?_toArray, List.getElem?_cons_succ, List.getElem?_cons_zero]; rfl)
      case hQa1 => exact fun _ _ _ h => h
      case hya1 => (refine Or.inl ⟨by rfl, ?_⟩; intro w hSw; (try dsimp only at hSw); go_simp; try with_reducible rfl)
      try simp only [Act.put, List.setIfInBounds_toArray, List.set_cons_zero, List.set_cons_succ]
      refine wpAnyH_ready (rs := [2]) (by kernel_rfl) (by simp) ?_
      refine AllReadyH.cons (o := ?oa2) ?hoa2 (fun Kz hK => ?sta2) AllReadyH.nil
      case hoa2 => (simp only [List.getElem?_toArray, List.getElem?_cons_succ, List.getElem?_cons_zero]; rfl)
      go_simp
      refine (HO.out _ (drew_below _)).mono ?_
      rintro x5 w5 ⟨rfl, hb5⟩
      have HB5 := Lib.hid ((drew_below wr).trans (hb5.mono (Nat.le_refl _)))
      have k5 := HS.out _ HB5.out
      have f5 := HF3.out _ HB5.out
      have u5 := (HCA.out.below HB5.out).cells.2.2.2.1
      rw [h2] at u5
      have hT5 := CTo.then_below HC.out HB5.out
      clear hb5
      go_simp
      refine hK.out _ _ k5 (fun hHeld => ?_)
      clear hK Kz
      try simp only [Act.put, List.setIfInBounds_toArray, List.set_cons_zero, List.set_cons_succ]
      refine wpAnyH_take (i := 3) (oi := ?oia3) (v := ?vva3) ?hia3 (by kernel_rfl) (by kernel_rfl) (by kernel_rfl) ?hQa3 ?hya3 (by assumption) ?resta3
      case hia3 => (simp only [List.getElem?_toArray, List.getElem?_cons_succ, List.getElem?_cons_zero]; rfl)
      case hQa3 => exact fun _ _ _ h => h
      case hya3 => (refine Or.inl ⟨by rfl, ?_⟩; intro w hSw; (try dsimp only at hSw); go_simp; try with_reducible rfl)
      try simp only [Act.put, List.setIfInBounds_toArray, List.set_cons_zero, List.set_cons_succ]
      refine wpAnyH_take (i := 4) (oi := ?oia4) (v := ?vva4) ?hia4 (by kernel_rfl) (by kernel_rfl) (by kernel_rfl) ?hQa4 ?hya4 (by assumption) ?resta4
      case hia4 => (simp only [List.getElem?_toArray, List.getElem?_cons_succ, List.getElem?_cons_zero]; rfl)
      case hQa4 => exact fun _ _ _ h => h
      case hya4 => (refine Or.inl ⟨by rfl, ?_⟩; intro w hSw; (try dsimp only at hSw); go_simp; try with_reducible rfl)
      try simp only [Act.put, List.setIfInBounds_toArray, List.set_cons_zero, List.set_cons_succ]
      refine wpAnyH_ready (rs := [5]) (by kernel_rfl) (by simp) ?_
      refine AllReadyH.cons (o := ?oa5) ?hoa5 (fun Kz hK => ?sta5) AllReadyH.nil
      case hoa5 => (simp only [List.getElem?_toArray, List.getElem?_cons_succ, List.getElem?_cons_zero]; rfl)
      go_simp
      refine hK.out _ _ ((World.cell?_setCell_far _ _ _ _ (fun x => HNE.out x.symm)).trans k5) (fun hHeld => ?_)
      clear hK Kz
      try simp only [Act.put, List.setIfInBounds_toArray, List.set_cons_zero, List.set_cons_succ]
      refine wpAnyH_done (by kernel_rfl) ?_ _
      refine NoPanic.normal ?_
      go_wp2_with fail
      first | go_end0 | refine bodyPost_ret (results_none rfl _ _ _) rfl ?_
      refine ⟨rfl, ?_⟩
      rw [HF2.out]
      exact hT5.step fun K1 e1 _ a1 => by
        have := a1.turnF (s := allQ) 3 (n := other cb) (c' := cb.withWhite (other cb)) rfl rfl rfl
        rw [e1] at this
        exact this
end Go.Proofs.YtminbemdcanakaaGreat
