/- What a weak one leads to is marked: the loop. -/
import Derived.Test.YtminbemdcanakaaGreatMI
namespace Go.Proofs.YtminbemdcanakaaGreat
open Go.RowKit Go.Shelf
set_option linter.unusedVariables false
set_option linter.unusedSimpArgs false
attribute [local go_sem] Oper.semAt_some meth_order meth_thing meth_kind meth_cells meth_colour meth_age meth_setColour meth_setAge meth_setFin meth_clear meth_drop meth_roots

variable {w : World} {E : EL} {e : En}

theorem World.cell?_alloc_some' {w : World} {a : Addr} {v : Value} {o : Obj} (h : w.cell? a = some v) : (w.alloc o).cell? a = some v := Lib.cell?_alloc_some _ h
theorem ephS_kept {wr w5 : World} {be bt ep q j : Nat} {o : Ob} {sa : Option Addr} {sc : Nat} {u v : V} (hbe : Box wr be [.pointer (some ⟨ep, 0, none⟩)] 152) (hbt : Box wr bt [.int .i64 o.kind, .int .i64 o.weak, .int .i64 o.array, .slice sa o.slots.length sc, .int .i64 o.fin] 36)
    (h0 : wr.cell? ⟨q, j * 2, none⟩ = some (.int .i64 u.t)) (h1 : wr.cell? ⟨q, j * 2 + 1, none⟩ = some (.int .i64 u.n))
    (h5 : Below (wr.alloc (.cells #[.int .i64 v.t, .int .i64 v.n] 34)).drew.heap.size (wr.alloc (.cells #[.int .i64 v.t, .int .i64 v.n] 34)).drew w5) :
    w5.cell? ⟨be, 0, none⟩ = some (.pointer (some ⟨ep, 0, none⟩)) ∧ w5.cell? ⟨bt, 1, none⟩ = some (.int .i64 o.weak) ∧ w5.cell? ⟨bt, 3, none⟩ = some (.slice sa o.slots.length sc) ∧ w5.cell? ⟨q, j * 2, none⟩ = some (.int .i64 u.t) ∧ w5.cell? ⟨q, j * 2 + 1, none⟩ = some (.int .i64 u.n) ∧ w5.cell? ⟨wr.heap.size, 0, none⟩ = some (.int .i64 v.t) ∧ w5.cell? ⟨wr.heap.size, 1, none⟩ = some (.int .i64 v.n) := by
  have hb : Below wr.heap.size wr w5 := (below_alloc wr _).trans (((drew_below _).trans (h5.mono (Nat.le_refl _))).mono (by simp))
  have bv := ((Box.new wr [.int .i64 v.t, .int .i64 v.n] 34).drew).below h5 (by simp)
  refine ⟨(hbe.below hb hbe.lt).cell 0, (hbt.below hb hbt.lt).cell 1, (hbt.below hb hbt.lt).cell 3, ?_, ?_, bv.cell 0, bv.cell 1⟩
  · rw [hb.cell (cell_lt h0)]; exact h0
  · rw [hb.cell (cell_lt h1)]; exact h1

def EphP (w : World) (E : EL) (e : En) (hd : Int) (x : Ending) (w' : World) : Prop := x = .returned (.bool (ephemeral e.c hd).2) ∧ ETo w E w' ⟨(ephemeral e.c hd).1, e.weak⟩
set_option maxRecDepth 100000 in
set_option maxHeartbeats 40000000 in
theorem ephemeral_any (h : EAt w E e) (hB : Bd e.c) (hd : Int) : Calls Tryz.prog 159 #[.pointer (some ⟨E.ep, 0, none⟩), .int .i64 hd] w fun x w' => EphP w E e hd x w' := by
  have hmf : ∀ (fn : Fn) (first cap : Array Value) (w : World), (Instr.makeFunc fn first cap).run Tryz.prog w = .ok (.func fn first cap) w := fun _ _ _ _ => rfl
  have hb0 := below_alloc w (.cells #[.pointer (some ⟨E.ep, 0, none⟩)] 152)
  have H0 := h.below hb0
  have p0 := H0.cells.1
  have c0 := H0.at_.cells.1
  have hx0 := Box.new w [.pointer (some ⟨E.ep, 0, none⟩)] 152
  have HT := Lib.hid (thing_any H0.at_.mem hB.sz.n hd (at_small hB.sz))
  have hn := (get_small hB.sz hd).1
  have ha0 := (get_small hB.sz hd).2.1
  have ha1 := (get_small hB.sz hd).2.2
  obtain ⟨o, ho⟩ : ∃ o, o = e.c.m.get hd := ⟨_, rfl⟩
  rw [← ho] at HT hn ha0 ha1
  have HO := Lib.hid ho
  have HH := Lib.hid h
  have HB := Lib.hid hB
  have HB0 := Lib.hid hb0
  have HX0 := Lib.hid hx0
  clear h hB hb0 H0 hx0 ho
  go_enter Tryz.func159, Tryz.ntmps159
  go_wp2_with fail
  refine HT.out.mono ?_
  rintro x1 w1 ⟨sv, rfl, hv, hb1⟩
  obtain ⟨sa, sc, rfl⟩ := row_slice hv
  unfold thingV
  have hs0 : w.heap.size + 1 ≤ w1.heap.size := by have := hb1.size; simpa using this
  obtain ⟨W3, hW3⟩ : ∃ W, W = (w1.alloc (.cells #[.int .i64 o.kind, .int .i64 o.weak, .int .i64 o.array, .slice sa o.slots.length sc, .int .i64 o.fin] 36)).alloc (.cells #[.bool false] 4) := ⟨_, rfl⟩
  have hb3 : Below w.heap.size w W3 := by rw [hW3]; exact ((HB0.out.trans (hb1.mono (by simp))).alloc (by omega) _).alloc (by simp; omega) _
  have hbe : Box W3 w.heap.size [.pointer (some ⟨E.ep, 0, none⟩)] 152 := by rw [hW3]; exact ((HX0.out.below hb1 (by simp)).alloc _).alloc _
  have hbt : Box W3 w1.heap.size [.int .i64 o.kind, .int .i64 o.weak, .int .i64 o.array, .slice sa o.slots.length sc, .int .i64 o.fin] 36 := by rw [hW3]; exact (Box.new w1 _ _).alloc _
  have hbs : Box W3 (w1.heap.size + 1) [.bool false] 4 := by
    rw [hW3]
    have := Box.new (w1.alloc (.cells #[.int .i64 o.kind, .int .i64 o.weak, .int .i64 o.array, .slice sa o.slots.length sc, .int .i64 o.fin] 36)) [.bool false] 4
    rw [show (w1.alloc (.cells #[.int .i64 o.kind, .int .i64 o.weak, .int .i64 o.array, .slice sa o.slots.length sc, .int .i64 o.fin] 36)).heap.size = w1.heap.size + 1 by simp] at this
    exact this
  have hrow : W3.ownsRow (w.heap.size + 1) 34 2 (.slice sa o.slots.length sc) o.slots.length (flatV o.slots) := by
    rw [hW3]
    have := (hv.alloc (.cells #[.int .i64 o.kind, .int .i64 o.weak, .int .i64 o.array, .slice sa o.slots.length sc, .int .i64 o.fin] 36)).alloc (.cells #[.bool false] 4)
    rw [show (w.alloc (.cells #[.pointer (some ⟨E.ep, 0, none⟩)] 152)).heap.size = w.heap.size + 1 by simp] at this
    exact this
  have H3 := HH.out.below hb3
  have hx3 := hbt.cell 3
  simp only [List.getElem?_cons_zero, List.getElem?_cons_succ] at hx3
  obtain ⟨bt, hbtE⟩ : ∃ bt, bt = w1.heap.size := ⟨_, rfl⟩
  obtain ⟨be, hbeE⟩ : ∃ be, be = w.heap.size := ⟨_, rfl⟩
  have hown : ∀ k, E.own k → k < w.heap.size := fun k hk => HH.out.own_lt hk
  have HR0 := Lib.hid (show EphRel W3 E (bt + 1) e.weak o (e.c, false) 0 E W3 from ⟨rfl, rfl, rfl, H3, by rw [hbtE]; exact hbs, Keep.refl _ _, fun _ h => .inl h⟩)
  have HSTEP := Lib.hid (show ∀ wr Ei i, i ≤ o.slots.length → EphRel W3 E (bt + 1) e.weak o (e.c, false) i Ei wr → EphR W3 wr E Ei be bt (bt + 1) e.weak o sa sc ((List.range i).foldl (ephStep o) (e.c, false)) from by
    intro wr Ei i hi G
    have hne : ∀ k, Ei.own k → k < w.heap.size ∨ W3.heap.size ≤ k := fun k hk => (G.own k hk).imp (fun x => hown k x) id
    have hl1 := hbe.lt
    have hl2 := hbt.lt
    have hl3 := hbs.lt
    refine ⟨G, ?_, ?_, ?_, ?_, ?_, ?_⟩
    · rw [hbeE]
      refine G.keep.box hbe ?_
      rintro (x | x)
      · have := hown _ x; omega
      · omega
    · intro x; rw [hbeE] at x; rcases hne _ x with y | y <;> omega
    · intro x; rw [hbtE] at x; rcases hne _ x with y | y <;> omega
    · rw [hbtE]
      refine G.keep.box hbt ?_
      rintro (x | x)
      · have := hown _ x; omega
      · omega
    · refine row_of_base (ownsRow_of_block hrow fun k hk => G.keep.block k (hrow.lt k hk).2 ?_) fun _ _ => Nat.zero_le _
      have hk1 := (hrow.lt k hk).1
      rintro (x | x)
      · have := hown _ x; omega
      · rw [x, hbtE] at hk
        exact hbs.ne_row hrow (by decide) hk rfl
    · exact HB.out.mk' (k := 0) (Mf.fold HB.out.w01 o (List.range i) _ (Mf.refl e.c)).is)
  have HFIN := Lib.hid (show ∀ wr Ei, EphRel W3 E (bt + 1) e.weak o (e.c, false) o.slots.length Ei wr → EphP w E e hd (.returned (.bool ((List.range o.slots.length).foldl (ephStep o) (e.c, false)).2)) wr from by
    intro wr Ei G
    have he : ephemeral e.c hd = (List.range o.slots.length).foldl (ephStep o) (e.c, false) := by unfold ephemeral; rw [← HO.out]
    refine ⟨by rw [he], Ei, G.ep, G.cp, G.p, by rw [he]; exact G.at_, (Keep.of_below hb3).trans' G.keep (fun k hk x => ?_), fun k hk => (G.own k hk).imp id fun x => by have := hb3.size; omega⟩
    rcases x with x | x
    · exact x
    · rw [hbtE] at x; omega)
  have HW3 := Lib.hid hW3
  have HBT := Lib.hid hbtE
  have HBE := Lib.hid hbeE
  clear hv hb1 hW3 hb3 hbe hbt hbs hrow H3 hbtE hbeE hown p0 c0 hx3
  go_wp2_with fail
  rw [← HW3.out, ← HBT.out, ← HBE.out]
  go_loopg [26] o.slots.length (fun gn t26 wr => ∃ (i : Nat) (Ei : EL), i ≤ o.slots.length ∧ gn = o.slots.length - i ∧ t26 = .int .i64 i ∧ EphRel W3 E (bt + 1) e.weak o (e.c, false) i Ei wr)
  case atStart => exact ⟨0, E, Nat.zero_le _, rfl, by go_num, HR0.out⟩
  case round =>
    obtain ⟨i, Ei, hi, hgk, rfl, G⟩ := hrel
    have HGK := Lib.hid hgk
    clear hgk
    have R := HSTEP.out wr Ei i hi G
    by_cases hlt : i < o.slots.length
    · obtain ⟨s, hs⟩ : ∃ s, s = (List.range i).foldl (ephStep o) (e.c, false) := ⟨_, rfl⟩
      rw [← hs] at R
      obtain ⟨v, hv⟩ : ∃ v, o.slots[i]? = some v := ⟨o.slots[i], List.getElem?_eq_getElem _⟩
      obtain ⟨q, qcap, hsv, hcell⟩ := row_at R.row (by omega)
      simp only [Value.slice.injEq] at hsv
      obtain ⟨rfl, -, rfl⟩ := hsv
      obtain ⟨g0, g1⟩ := flatV_at _ _ _ hv
      have y0 := hcell _ _ g0
      have y1 := hcell _ _ g1
      have b0 := (R.hbe.alloc (.cells #[.int .i64 v.t, .int .i64 v.n] 34)).cell 0
      have t1 := (R.hbt.alloc (.cells #[.int .i64 v.t, .int .i64 v.n] 34)).cell 1
      have t2 := (R.hbt.alloc (.cells #[.int .i64 v.t, .int .i64 v.n] 34)).cell 2
      have t3 := (R.hbt.alloc (.cells #[.int .i64 v.t, .int .i64 v.n] 34)).cell 3
      simp only [List.getElem?_cons_zero, List.getElem?_cons_succ] at b0 t1 t2 t3
      have HSL := Lib.hid (show slotAt o i = v by unfold slotAt; rw [List.getD_eq_getElem?_getD, hv]; rfl)
      have HPUT := Lib.hid (R.put v)
      have HLT := Lib.hid (show i + 1 ≤ o.slots.length by omega)
      have HYES := Lib.hid (show ∀ E6 w6, ephWants s.1 o i = true → EGs W3 E (bt + 1) w6 E6 ⟨mark s.1 v, e.weak⟩ (fresh s.1.m s.1.white v || s.2) → EphRel W3 E (bt + 1) e.weak o (e.c, false) (i + 1) E6 w6 from by
        intro E6 w6 hw hg
        unfold EphRel
        rw [eph_succ, ← hs]
        unfold ephStep
        rw [if_pos hw, HSL.out]
        exact hg)
      have HNO := Lib.hid (show ∀ w6, ephWants s.1 o i = false → EGs W3 E (bt + 1) w6 Ei ⟨s.1, e.weak⟩ s.2 → EphRel W3 E (bt + 1) e.weak o (e.c, false) (i + 1) Ei w6 from by
        intro w6 hw hg
        unfold EphRel
        rw [eph_succ, ← hs]
        unfold ephStep
        rw [if_neg (by rw [hw]; decide)]
        exact hg)
      have HRR := Lib.hid R
      have HBA := Lib.hid (below_alloc wr (.cells #[.int .i64 v.t, .int .i64 v.n] 34))
      have HBD := Lib.hid R.bd
      have hH1 := R.go.at_.below (below_alloc wr (.cells #[.int .i64 v.t, .int .i64 v.n] 34))
      have HHK := Lib.hid (held_any hH1 R.bd.sz v)
      rw [R.go.ep] at HHK
      have HI := Lib.hid hi
      unfold ephPutC at HPUT
      unfold V.val at *
      have y0' := hn
      have y1' := hn
      clear hi G R hs g0 g1
      by_cases hi0 : i = 0
      · subst hi0
        have HW := Lib.hid (show ephWants s.1 o 0 = true by unfold ephWants; rw [if_pos (.inl rfl)])
        clear hv hcell hH1 y0' y1'
        go_wp2_with fail
        refine (HPUT.out _ HBA.out).mono ?_
        rintro x6 w6 ⟨rfl, E6, G6⟩
        have HG6 := Lib.hid (HRR.out.go.turn HBA.out G6)
        clear G6
        go_wp2_with fail
        go_roundg (gk - 1)
        case measure => have := HGK.out; have := HLT.out; omega
        case rel => exact ⟨_, E6, HLT.out, by have := HGK.out; have := HLT.out; omega, by go_num, HYES.out _ _ HW.out HG6.out⟩
      · obtain ⟨j, rfl⟩ : ∃ j, i = j + 1 := ⟨i - 1, by omega⟩
        obtain ⟨u, hu⟩ : ∃ u, o.slots[j]? = some u := ⟨o.slots[j], List.getElem?_eq_getElem _⟩
        obtain ⟨g2, g3⟩ := flatV_at _ _ _ hu
        have u0 := (World.cell?_alloc_some' (o := .cells #[.int .i64 v.t, .int .i64 v.n] 34) (hcell _ _ g2))
        have u1 := (World.cell?_alloc_some' (o := .cells #[.int .i64 v.t, .int .i64 v.n] 34) (hcell _ _ g3))
        have v0 := (Box.new wr [.int .i64 v.t, .int .i64 v.n] 34).cell 0
        have v1 := (Box.new wr [.int .i64 v.t, .int .i64 v.n] 34).cell 1
        simp only [List.getElem?_cons_zero, List.getElem?_cons_succ] at v0 v1
        have HUJ := Lib.hid (show slotAt o j = u by unfold slotAt; rw [List.getD_eq_getElem?_getD, hu]; rfl)
        have HHV := Lib.hid (held_any (hH1.below (drew_below _)) HBD.out.sz u)
        rw [HRR.out.go.ep] at HHV
        have HKK := Lib.hid (fun w5 h5 => ephS_kept (sa := some ⟨q, 0, none⟩) HRR.out.hbe HRR.out.hbt (hcell _ _ g2) (hcell _ _ g3) (v := v) (w5 := w5) h5)
        unfold V.val at HHV
        have q0 : (j : Int) < o.slots.length := by omega
        have q1 : j < o.slots.length := by omega
        have q2 : (0 : Int) ≤ j := by omega
        have q3 : IntKind.i64.wrap ((j : Int) + 1 - 1) = (j : Int) := by rw [show (j : Int) + 1 - 1 = j by omega]; exact IntWalk.i64_in _ (by omega)
        have q4 : IntKind.i64.wrap (j : Int) = (j : Int) := IntWalk.i64_in _ (by omega)
        clear hu g2 g3 hcell hH1 hi0 hv y0' y1'
        obtain ⟨lb, hlb⟩ : ∃ b, b = loneAt o (j + 1) := ⟨_, rfl⟩
        obtain ⟨kb, hkb⟩ : ∃ b, b = isKeyAt o (j + 1) := ⟨_, rfl⟩
        obtain ⟨W9, hW9⟩ : ∃ W, W = wr.alloc (.cells #[.int .i64 v.t, .int .i64 v.n] 34) := ⟨_, rfl⟩
        have HLB := Lib.hid hlb
        have HKB := Lib.hid hkb
        have HW9 := Lib.hid hW9
        clear hlb hkb hW9
        go_upto_region 8 with fail
        go_cut [8, 9, 10, 11, 26] (fun t8 t9 t10 t11 t26 wx => t8 = .int .i64 ((j : Int) + 1) ∧ t9 = .pointer (some ⟨wr.heap.size, 0, none⟩) ∧ t10 = .int .i64 ((j : Int) - o.array) ∧ t11 = .bool lb ∧ t26 = .int .i64 ((j : Int) + 1) ∧ W9 = wx)
        case first =>
          by_cases hA : (j : Int) < o.array
          · have hE := hA
            have hZ := hA
            have z1 : decide ((j : Int) - o.array < 0) = true := decide_eq_true (by omega)
            have z2 : decide ((j : Int) < o.array) = true := decide_eq_true (by omega)
            have z3 : decide (0 ≤ (j : Int) - o.array) = false := decide_eq_false (by omega)
            have z4 : decide (o.array ≤ (j : Int)) = false := decide_eq_false (by omega)
            have HLN := Lib.hid (show loneAt o (j + 1) = true from decide_eq_true (by omega))
            have HKY := Lib.hid (show isKeyAt o (j + 1) = false from by unfold isKeyAt; rw [HLN.out]; simp)
            clear hA hE hZ
            go_wp2_with fail
            go_meet
            exact ⟨by go_num, rfl, by go_num, by rw [HLB.out, HLN.out], by go_num, HW9.out⟩
          · by_cases hE : ((j : Int) - o.array) % 2 = 0
            · by_cases hZ : j + 1 + 1 = o.slots.length
              · have z1 : decide ((j : Int) - o.array < 0) = false := decide_eq_false (by omega)
                have z2 : decide ((j : Int) < o.array) = false := decide_eq_false (by omega)
                have z3 : decide (0 ≤ (j : Int) - o.array) = true := decide_eq_true (by omega)
                have z4 : decide (o.array ≤ (j : Int)) = true := decide_eq_true (by omega)
                have hr9 : ((j : Int) - o.array) % 2 = 0 := by omega
                have z5 : (((j : Int) - o.array) % 2 == 0) = true := by rw [hr9]; rfl
                have z7 : 0 ≤ (j : Int) - o.array := by omega
                clear hr9
                have z6 : ((j : Int) + 1 == (o.slots.length : Int) - 1) = true := by simp; omega
                have HLN := Lib.hid (show loneAt o (j + 1) = true from decide_eq_true (by omega))
                have HKY := Lib.hid (show isKeyAt o (j + 1) = false from by unfold isKeyAt; rw [HLN.out]; simp)
                clear hA hE hZ
                go_wp2_with fail
                go_meet
                exact ⟨by go_num, rfl, by go_num, by rw [HLB.out, HLN.out], by go_num, HW9.out⟩
              · have z1 : decide ((j : Int) - o.array < 0) = false := decide_eq_false (by omega)
                have z2 : decide ((j : Int) < o.array) = false := decide_eq_false (by omega)
                have z3 : decide (0 ≤ (j : Int) - o.array) = true := decide_eq_true (by omega)
                have z4 : decide (o.array ≤ (j : Int)) = true := decide_eq_true (by omega)
                have hr9 : ((j : Int) - o.array) % 2 = 0 := by omega
                have z5 : (((j : Int) - o.array) % 2 == 0) = true := by rw [hr9]; rfl
                have z7 : 0 ≤ (j : Int) - o.array := by omega
                clear hr9
                have z6 : ((j : Int) + 1 == (o.slots.length : Int) - 1) = false := by simp; omega
                have HLN := Lib.hid (show loneAt o (j + 1) = false from decide_eq_false (by omega))
                have HKY := Lib.hid (show isKeyAt o (j + 1) = true from by unfold isKeyAt; rw [HLN.out, decide_eq_true (by omega)]; rfl)
                clear hA hE hZ
                go_wp2_with fail
                go_meet
                exact ⟨by go_num, rfl, by go_num, by rw [HLB.out, HLN.out], by go_num, HW9.out⟩
            · have hZ := hE
              have z1 : decide ((j : Int) - o.array < 0) = false := decide_eq_false (by omega)
              have z2 : decide ((j : Int) < o.array) = false := decide_eq_false (by omega)
              have z3 : decide (0 ≤ (j : Int) - o.array) = true := decide_eq_true (by omega)
              have z4 : decide (o.array ≤ (j : Int)) = true := decide_eq_true (by omega)
              have hr9 : ((j : Int) - o.array) % 2 = 1 := by omega
              have z5 : (((j : Int) - o.array) % 2 == 0) = false := by rw [hr9]; rfl
              have z7 : 0 ≤ (j : Int) - o.array := by omega
              clear hr9
              have HLN := Lib.hid (show loneAt o (j + 1) = false from decide_eq_false (by omega))
              have HKY := Lib.hid (show isKeyAt o (j + 1) = false from by unfold isKeyAt; rw [HLN.out, decide_eq_false (by omega)]; rfl)
              clear hA hE hZ
              go_wp2_with fail
              go_meet
              exact ⟨by go_num, rfl, by go_num, by rw [HLB.out, HLN.out], by go_num, HW9.out⟩
        case rest =>
          obtain ⟨rfl, rfl, rfl, rfl, rfl, hw9⟩ := hcut
          obtain rfl : wc = wr.alloc (.cells #[.int .i64 v.t, .int .i64 v.n] 34) := hw9.symm.trans HW9.out
          clear hw9
          go_upto_region 9 with fail
          go_cut [8, 9, 11, 12, 26] (fun t8 t9 t11 t12 t26 wx => t8 = .int .i64 ((j : Int) + 1) ∧ t9 = .pointer (some ⟨wr.heap.size, 0, none⟩) ∧ t11 = .bool lb ∧ t12 = .bool kb ∧ t26 = .int .i64 ((j : Int) + 1) ∧ W9 = wx)
          case first =>
            by_cases hA : (j : Int) < o.array
            · have hE := hA
              have hZ := hA
              have z1 : decide ((j : Int) - o.array < 0) = true := decide_eq_true (by omega)
              have z2 : decide ((j : Int) < o.array) = true := decide_eq_true (by omega)
              have z3 : decide (0 ≤ (j : Int) - o.array) = false := decide_eq_false (by omega)
              have z4 : decide (o.array ≤ (j : Int)) = false := decide_eq_false (by omega)
              have HLN := Lib.hid (show loneAt o (j + 1) = true from decide_eq_true (by omega))
              have HKY := Lib.hid (show isKeyAt o (j + 1) = false from by unfold isKeyAt; rw [HLN.out]; simp)
              clear hA hE hZ
              have hlb2 : lb = true := HLB.out.trans HLN.out
              subst hlb2
              go_wp2_with fail
              go_meet
              exact ⟨by go_num, rfl, rfl, by rw [HKB.out, HKY.out], by go_num, HW9.out⟩
            · by_cases hE : ((j : Int) - o.array) % 2 = 0
              · by_cases hZ : j + 1 + 1 = o.slots.length
                · have z1 : decide ((j : Int) - o.array < 0) = false := decide_eq_false (by omega)
                  have z2 : decide ((j : Int) < o.array) = false := decide_eq_false (by omega)
                  have z3 : decide (0 ≤ (j : Int) - o.array) = true := decide_eq_true (by omega)
                  have z4 : decide (o.array ≤ (j : Int)) = true := decide_eq_true (by omega)
                  have hr9 : ((j : Int) - o.array) % 2 = 0 := by omega
                  have z5 : (((j : Int) - o.array) % 2 == 0) = true := by rw [hr9]; rfl
                  have z7 : 0 ≤ (j : Int) - o.array := by omega
                  clear hr9
                  have z6 : ((j : Int) + 1 == (o.slots.length : Int) - 1) = true := by simp; omega
                  have HLN := Lib.hid (show loneAt o (j + 1) = true from decide_eq_true (by omega))
                  have HKY := Lib.hid (show isKeyAt o (j + 1) = false from by unfold isKeyAt; rw [HLN.out]; simp)
                  clear hA hE hZ
                  have hlb2 : lb = true := HLB.out.trans HLN.out
                  subst hlb2
                  go_wp2_with fail
                  go_meet
                  exact ⟨by go_num, rfl, rfl, by rw [HKB.out, HKY.out], by go_num, HW9.out⟩
                · have z1 : decide ((j : Int) - o.array < 0) = false := decide_eq_false (by omega)
                  have z2 : decide ((j : Int) < o.array) = false := decide_eq_false (by omega)
                  have z3 : decide (0 ≤ (j : Int) - o.array) = true := decide_eq_true (by omega)
                  have z4 : decide (o.array ≤ (j : Int)) = true := decide_eq_true (by omega)
                  have hr9 : ((j : Int) - o.array) % 2 = 0 := by omega
                  have z5 : (((j : Int) - o.array) % 2 == 0) = true := by rw [hr9]; rfl
                  have z7 : 0 ≤ (j : Int) - o.array := by omega
                  clear hr9
                  have z6 : ((j : Int) + 1 == (o.slots.length : Int) - 1) = false := by simp; omega
                  have HLN := Lib.hid (show loneAt o (j + 1) = false from decide_eq_false (by omega))
                  have HKY := Lib.hid (show isKeyAt o (j + 1) = true from by unfold isKeyAt; rw [HLN.out, decide_eq_true (by omega)]; rfl)
                  clear hA hE hZ
                  have hlb2 : lb = false := HLB.out.trans HLN.out
                  subst hlb2
                  go_wp2_with fail
                  go_meet
                  exact ⟨by go_num, rfl, rfl, by rw [HKB.out, HKY.out], by go_num, HW9.out⟩
              · have hZ := hE
                have z1 : decide ((j : Int) - o.array < 0) = false := decide_eq_false (by omega)
                have z2 : decide ((j : Int) < o.array) = false := decide_eq_false (by omega)
                have z3 : decide (0 ≤ (j : Int) - o.array) = true := decide_eq_true (by omega)
                have z4 : decide (o.array ≤ (j : Int)) = true := decide_eq_true (by omega)
                have hr9 : ((j : Int) - o.array) % 2 = 1 := by omega
                have z5 : (((j : Int) - o.array) % 2 == 0) = false := by rw [hr9]; rfl
                have z7 : 0 ≤ (j : Int) - o.array := by omega
                clear hr9
                have HLN := Lib.hid (show loneAt o (j + 1) = false from decide_eq_false (by omega))
                have HKY := Lib.hid (show isKeyAt o (j + 1) = false from by unfold isKeyAt; rw [HLN.out, decide_eq_false (by omega)]; rfl)
                clear hA hE hZ
                have hlb2 : lb = false := HLB.out.trans HLN.out
                subst hlb2
                go_wp2_with fail
                go_meet
                exact ⟨by go_num, rfl, rfl, by rw [HKB.out, HKY.out], by go_num, HW9.out⟩
          case rest =>
            obtain ⟨rfl, rfl, rfl, rfl, rfl, hw9⟩ := hcut
            obtain rfl : wc = wr.alloc (.cells #[.int .i64 v.t, .int .i64 v.n] 34) := hw9.symm.trans HW9.out
            clear hw9
            by_cases hw1 : o.weak = 1
            · have k1 : (o.weak != 1) = false := by simp [hw1]
              have k2 : (o.weak == 1) = true := by simp [hw1]
              have k3 : (o.weak == 2) = false := by simp [hw1]
              by_cases ht : v.t = 4
              · have kt : (v.t == 4) = true := by simp [ht]
                cases lb with
                | true =>
                  have HLN := Lib.hid (show loneAt o (j + 1) = true from HLB.out.symm)
                  have HKY := Lib.hid (show isKeyAt o (j + 1) = kb from HKB.out.symm)
                  clear HW9
                  have HW := Lib.hid (show ephWants s.1 o (j + 1) = true from by rw [wants_pos (Nat.succ_pos j), HSL.out, HLN.out, HKY.out]; simp [hw1])
                  clear ht hw1
                  go_wp2_with fail
                  refine (HPUT.out _ HBA.out).mono ?_
                  rintro x6 w6 ⟨rfl, E6, G6⟩
                  have HG6 := Lib.hid (HRR.out.go.turn HBA.out G6)
                  clear G6
                  go_wp2_with fail
                  go_roundg (gk - 1)
                  case measure => have := HGK.out; have := HLT.out; omega
                  case rel => exact ⟨_, E6, HLT.out, by have := HGK.out; have := HLT.out; omega, by go_num, HYES.out _ _ HW.out HG6.out⟩
                | false =>
                  have HLN := Lib.hid (show loneAt o (j + 1) = false from HLB.out.symm)
                  cases kb with
                  | true =>
                    have HKY := Lib.hid (show isKeyAt o (j + 1) = true from HKB.out.symm)
                    have HWK := Lib.hid hw1
                    clear ht hw1
                    go_wp2_with fail
                    refine HHK.out.mono ?_
                    rintro x5 w5 ⟨rfl, hb5⟩
                    have b5 := (HRR.out.hbe.alloc (.cells #[.int .i64 v.t, .int .i64 v.n] 34)).below hb5 (by have := HRR.out.hbe.lt; simp; omega)
                    have t5 := (HRR.out.hbt.alloc (.cells #[.int .i64 v.t, .int .i64 v.n] 34)).below hb5 (by have := HRR.out.hbt.lt; simp; omega)
                    have v5 := (Box.new wr [.int .i64 v.t, .int .i64 v.n] 34).below hb5 (by simp)
                    have b50 := b5.cell 0
                    have t51 := t5.cell 1
                    have v50 := v5.cell 0
                    have v51 := v5.cell 1
                    simp only [List.getElem?_cons_zero, List.getElem?_cons_succ] at b50 t51 v50 v51
                    have HB5 := Lib.hid ((below_alloc wr (.cells #[.int .i64 v.t, .int .i64 v.n] 34)).trans (hb5.mono (by simp)))
                    clear hb5 b5 t5 v5
                    cases hh : held s.1 v with
                    | true =>
                      have HW := Lib.hid (show ephWants s.1 o (j + 1) = false from by rw [wants_pos (Nat.succ_pos j), HSL.out, HWK.out, HLN.out, HKY.out, hh]; simp)
                      clear hh
                      go_wp2_with fail
                      go_roundg (gk - 1)
                      case measure => have := HGK.out; have := HLT.out; omega
                      case rel => exact ⟨_, Ei, HLT.out, by have := HGK.out; have := HLT.out; omega, by go_num, HNO.out _ HW.out (HRR.out.go.below HB5.out)⟩
                    | false =>
                      have HW := Lib.hid (show ephWants s.1 o (j + 1) = true from by rw [wants_pos (Nat.succ_pos j), HSL.out, HWK.out, HLN.out, HKY.out, hh]; simp)
                      clear hh
                      go_wp2_with fail
                      refine (HPUT.out _ HB5.out).mono ?_
                      rintro x6 w6 ⟨rfl, E6, G6⟩
                      have HG6 := Lib.hid (HRR.out.go.turn HB5.out G6)
                      clear G6
                      go_wp2_with fail
                      go_roundg (gk - 1)
                      case measure => have := HGK.out; have := HLT.out; omega
                      case rel => exact ⟨_, E6, HLT.out, by have := HGK.out; have := HLT.out; omega, by go_num, HYES.out _ _ HW.out HG6.out⟩
                  | false =>
                    have HKY := Lib.hid (show isKeyAt o (j + 1) = false from HKB.out.symm)
                    have HWK := Lib.hid hw1
                    clear ht hw1
                    go_wp2_with fail
                    go_region_held3 (fun w' => w'.cell? ⟨be, 0, none⟩ = some (.pointer (some ⟨E.ep, 0, none⟩)) ∧ w'.cell? ⟨bt, 1, none⟩ = some (.int .i64 o.weak) ∧ w'.cell? ⟨bt, 3, none⟩ = some (.slice (some ⟨q, 0, none⟩) o.slots.length sc) ∧ w'.cell? ⟨q, j * 2, none⟩ = some (.int .i64 u.t) ∧ w'.cell? ⟨q, j * 2 + 1, none⟩ = some (.int .i64 u.n) ∧ w'.cell? ⟨wr.heap.size, 0, none⟩ = some (.int .i64 v.t) ∧ w'.cell? ⟨wr.heap.size, 1, none⟩ = some (.int .i64 v.n))
                      (first | (with_reducible assumption) | refine ⟨?_, ?_, ?_, ?_, ?_, ?_, ?_⟩ <;> (first | go_keep | (simp [*, World.cell?_alloc_some, World.cell?_setCell_far])))
                      ((go_at_call 130; refine HHV.out.mono ?_; rintro x5 w5 ⟨rfl, hb5⟩; have k5 := HKK.out w5 hb5; have HB5 := Lib.hid ((below_alloc wr (.cells #[.int .i64 v.t, .int .i64 v.n] 34)).trans (((drew_below _).trans (hb5.mono (Nat.le_refl _))).mono (by simp))); clear hb5))
                    obtain ⟨b50, t51, t53, u50, u51, v50, v51⟩ := k5
                    cases hh : held s.1 u with
                    | true =>
                      have HW := Lib.hid (show ephWants s.1 o (j + 1) = false from by rw [wants_pos (Nat.succ_pos j), HSL.out, HWK.out, HLN.out, HKY.out, show j + 1 - 1 = j from rfl, HUJ.out, hh]; simp)
                      clear hh
                      go_wp2_with fail
                      go_roundg (gk - 1)
                      case measure => have := HGK.out; have := HLT.out; omega
                      case rel => exact ⟨_, Ei, HLT.out, by have := HGK.out; have := HLT.out; omega, by go_num, HNO.out _ HW.out (HRR.out.go.below HB5.out)⟩
                    | false =>
                      have HW := Lib.hid (show ephWants s.1 o (j + 1) = true from by rw [wants_pos (Nat.succ_pos j), HSL.out, HWK.out, HLN.out, HKY.out, show j + 1 - 1 = j from rfl, HUJ.out, hh]; simp)
                      clear hh
                      go_wp2_with fail
                      refine (HPUT.out _ HB5.out).mono ?_
                      rintro x6 w6 ⟨rfl, E6, G6⟩
                      have HG6 := Lib.hid (HRR.out.go.turn HB5.out G6)
                      clear G6
                      go_wp2_with fail
                      go_roundg (gk - 1)
                      case measure => have := HGK.out; have := HLT.out; omega
                      case rel => exact ⟨_, E6, HLT.out, by have := HGK.out; have := HLT.out; omega, by go_num, HYES.out _ _ HW.out HG6.out⟩
              · have kt : (v.t == 4) = false := by simp [ht]
                cases lb with
                | true =>
                  have HLN := Lib.hid (show loneAt o (j + 1) = true from HLB.out.symm)
                  have HKY := Lib.hid (show isKeyAt o (j + 1) = kb from HKB.out.symm)
                  clear HW9
                  have HW := Lib.hid (show ephWants s.1 o (j + 1) = true from by rw [wants_pos (Nat.succ_pos j), HSL.out, HLN.out, HKY.out]; simp [hw1])
                  clear ht hw1
                  go_wp2_with fail
                  refine (HPUT.out _ HBA.out).mono ?_
                  rintro x6 w6 ⟨rfl, E6, G6⟩
                  have HG6 := Lib.hid (HRR.out.go.turn HBA.out G6)
                  clear G6
                  go_wp2_with fail
                  go_roundg (gk - 1)
                  case measure => have := HGK.out; have := HLT.out; omega
                  case rel => exact ⟨_, E6, HLT.out, by have := HGK.out; have := HLT.out; omega, by go_num, HYES.out _ _ HW.out HG6.out⟩
                | false =>
                  have HLN := Lib.hid (show loneAt o (j + 1) = false from HLB.out.symm)
                  cases kb with
                  | true =>
                    have HKY := Lib.hid (show isKeyAt o (j + 1) = true from HKB.out.symm)
                    have HWK := Lib.hid hw1
                    clear ht hw1
                    go_wp2_with fail
                    refine HHK.out.mono ?_
                    rintro x5 w5 ⟨rfl, hb5⟩
                    have b5 := (HRR.out.hbe.alloc (.cells #[.int .i64 v.t, .int .i64 v.n] 34)).below hb5 (by have := HRR.out.hbe.lt; simp; omega)
                    have t5 := (HRR.out.hbt.alloc (.cells #[.int .i64 v.t, .int .i64 v.n] 34)).below hb5 (by have := HRR.out.hbt.lt; simp; omega)
                    have v5 := (Box.new wr [.int .i64 v.t, .int .i64 v.n] 34).below hb5 (by simp)
                    have b50 := b5.cell 0
                    have t51 := t5.cell 1
                    have v50 := v5.cell 0
                    have v51 := v5.cell 1
                    simp only [List.getElem?_cons_zero, List.getElem?_cons_succ] at b50 t51 v50 v51
                    have HB5 := Lib.hid ((below_alloc wr (.cells #[.int .i64 v.t, .int .i64 v.n] 34)).trans (hb5.mono (by simp)))
                    clear hb5 b5 t5 v5
                    cases hh : held s.1 v with
                    | true =>
                      have HW := Lib.hid (show ephWants s.1 o (j + 1) = false from by rw [wants_pos (Nat.succ_pos j), HSL.out, HWK.out, HLN.out, HKY.out, hh]; simp)
                      clear hh
                      go_wp2_with fail
                      go_roundg (gk - 1)
                      case measure => have := HGK.out; have := HLT.out; omega
                      case rel => exact ⟨_, Ei, HLT.out, by have := HGK.out; have := HLT.out; omega, by go_num, HNO.out _ HW.out (HRR.out.go.below HB5.out)⟩
                    | false =>
                      have HW := Lib.hid (show ephWants s.1 o (j + 1) = true from by rw [wants_pos (Nat.succ_pos j), HSL.out, HWK.out, HLN.out, HKY.out, hh]; simp)
                      clear hh
                      go_wp2_with fail
                      refine (HPUT.out _ HB5.out).mono ?_
                      rintro x6 w6 ⟨rfl, E6, G6⟩
                      have HG6 := Lib.hid (HRR.out.go.turn HB5.out G6)
                      clear G6
                      go_wp2_with fail
                      go_roundg (gk - 1)
                      case measure => have := HGK.out; have := HLT.out; omega
                      case rel => exact ⟨_, E6, HLT.out, by have := HGK.out; have := HLT.out; omega, by go_num, HYES.out _ _ HW.out HG6.out⟩
                  | false =>
                    have HKY := Lib.hid (show isKeyAt o (j + 1) = false from HKB.out.symm)
                    have HWK := Lib.hid hw1
                    clear ht hw1
                    go_wp2_with fail
                    go_region_held3 (fun w' => w'.cell? ⟨be, 0, none⟩ = some (.pointer (some ⟨E.ep, 0, none⟩)) ∧ w'.cell? ⟨bt, 1, none⟩ = some (.int .i64 o.weak) ∧ w'.cell? ⟨bt, 3, none⟩ = some (.slice (some ⟨q, 0, none⟩) o.slots.length sc) ∧ w'.cell? ⟨q, j * 2, none⟩ = some (.int .i64 u.t) ∧ w'.cell? ⟨q, j * 2 + 1, none⟩ = some (.int .i64 u.n) ∧ w'.cell? ⟨wr.heap.size, 0, none⟩ = some (.int .i64 v.t) ∧ w'.cell? ⟨wr.heap.size, 1, none⟩ = some (.int .i64 v.n))
                      (first | (with_reducible assumption) | refine ⟨?_, ?_, ?_, ?_, ?_, ?_, ?_⟩ <;> (first | go_keep | (simp [*, World.cell?_alloc_some, World.cell?_setCell_far])))
                      ((go_at_call 130; refine HHV.out.mono ?_; rintro x5 w5 ⟨rfl, hb5⟩; have k5 := HKK.out w5 hb5; have HB5 := Lib.hid ((below_alloc wr (.cells #[.int .i64 v.t, .int .i64 v.n] 34)).trans (((drew_below _).trans (hb5.mono (Nat.le_refl _))).mono (by simp))); clear hb5))
                    obtain ⟨b50, t51, t53, u50, u51, v50, v51⟩ := k5
                    cases hh : held s.1 u with
                    | true =>
                      have HW := Lib.hid (show ephWants s.1 o (j + 1) = false from by rw [wants_pos (Nat.succ_pos j), HSL.out, HWK.out, HLN.out, HKY.out, show j + 1 - 1 = j from rfl, HUJ.out, hh]; simp)
                      clear hh
                      go_wp2_with fail
                      go_roundg (gk - 1)
                      case measure => have := HGK.out; have := HLT.out; omega
                      case rel => exact ⟨_, Ei, HLT.out, by have := HGK.out; have := HLT.out; omega, by go_num, HNO.out _ HW.out (HRR.out.go.below HB5.out)⟩
                    | false =>
                      have HW := Lib.hid (show ephWants s.1 o (j + 1) = true from by rw [wants_pos (Nat.succ_pos j), HSL.out, HWK.out, HLN.out, HKY.out, show j + 1 - 1 = j from rfl, HUJ.out, hh]; simp)
                      clear hh
                      go_wp2_with fail
                      refine (HPUT.out _ HB5.out).mono ?_
                      rintro x6 w6 ⟨rfl, E6, G6⟩
                      have HG6 := Lib.hid (HRR.out.go.turn HB5.out G6)
                      clear G6
                      go_wp2_with fail
                      go_roundg (gk - 1)
                      case measure => have := HGK.out; have := HLT.out; omega
                      case rel => exact ⟨_, E6, HLT.out, by have := HGK.out; have := HLT.out; omega, by go_num, HYES.out _ _ HW.out HG6.out⟩
            · by_cases ht : v.t = 4
              · have k1 : (o.weak != 1) = true := by simp [hw1]
                have kt : (v.t == 4) = true := by simp [ht]
                have HLN := Lib.hid (show loneAt o (j + 1) = lb from HLB.out.symm)
                have HKY := Lib.hid (show isKeyAt o (j + 1) = kb from HKB.out.symm)
                have HW := Lib.hid (show ephWants s.1 o (j + 1) = true from by rw [wants_pos (Nat.succ_pos j), HSL.out, HLN.out, HKY.out]; simp [ht, hw1])
                clear ht hw1
                go_wp2_with fail
                refine (HPUT.out _ HBA.out).mono ?_
                rintro x6 w6 ⟨rfl, E6, G6⟩
                have HG6 := Lib.hid (HRR.out.go.turn HBA.out G6)
                clear G6
                go_wp2_with fail
                go_roundg (gk - 1)
                case measure => have := HGK.out; have := HLT.out; omega
                case rel => exact ⟨_, E6, HLT.out, by have := HGK.out; have := HLT.out; omega, by go_num, HYES.out _ _ HW.out HG6.out⟩
              · by_cases hw2 : o.weak = 2
                · have k1 : (o.weak != 1) = true := by simp [hw2]
                  have k2 : (o.weak == 1) = false := by simp [hw2]
                  have k3 : (o.weak == 2) = true := by simp [hw2]
                  have kt : (v.t == 4) = false := by simp [ht]
                  have HLN := Lib.hid (show loneAt o (j + 1) = lb from HLB.out.symm)
                  cases kb with
                  | true =>
                    have HKY := Lib.hid (show isKeyAt o (j + 1) = true from HKB.out.symm)
                    have HW := Lib.hid (show ephWants s.1 o (j + 1) = true from by rw [wants_pos (Nat.succ_pos j), HSL.out, HLN.out, HKY.out]; simp [ht, hw2])
                    clear ht hw2 hw1
                    go_wp2_with fail
                    refine (HPUT.out _ HBA.out).mono ?_
                    rintro x6 w6 ⟨rfl, E6, G6⟩
                    have HG6 := Lib.hid (HRR.out.go.turn HBA.out G6)
                    clear G6
                    go_wp2_with fail
                    go_roundg (gk - 1)
                    case measure => have := HGK.out; have := HLT.out; omega
                    case rel => exact ⟨_, E6, HLT.out, by have := HGK.out; have := HLT.out; omega, by go_num, HYES.out _ _ HW.out HG6.out⟩
                  | false =>
                    have HKY := Lib.hid (show isKeyAt o (j + 1) = false from HKB.out.symm)
                    have HW := Lib.hid (show ephWants s.1 o (j + 1) = false from by rw [wants_pos (Nat.succ_pos j), HSL.out, HLN.out, HKY.out]; simp [ht, hw2])
                    clear ht hw2 hw1
                    go_wp2_with fail
                    go_roundg (gk - 1)
                    case measure => have := HGK.out; have := HLT.out; omega
                    case rel => exact ⟨_, Ei, HLT.out, by have := HGK.out; have := HLT.out; omega, by go_num, HNO.out _ HW.out (HRR.out.go.below HBA.out)⟩
                · have k1 : (o.weak != 1) = true := by simp [hw1]
                  have k2 : (o.weak == 1) = false := by simp [hw1]
                  have k3 : (o.weak == 2) = false := by simp [hw2]
                  have kt : (v.t == 4) = false := by simp [ht]
                  have HLN := Lib.hid (show loneAt o (j + 1) = lb from HLB.out.symm)
                  have HKY := Lib.hid (show isKeyAt o (j + 1) = kb from HKB.out.symm)
                  have HW := Lib.hid (show ephWants s.1 o (j + 1) = false from by rw [wants_pos (Nat.succ_pos j), HSL.out, HLN.out, HKY.out]; simp [ht, hw1, hw2])
                  clear ht hw2 hw1
                  go_wp2_with fail
                  go_roundg (gk - 1)
                  case measure => have := HGK.out; have := HLT.out; omega
                  case rel => exact ⟨_, Ei, HLT.out, by have := HGK.out; have := HLT.out; omega, by go_num, HNO.out _ HW.out (HRR.out.go.below HBA.out)⟩
    · obtain rfl : i = o.slots.length := by omega
      have HR := Lib.hid (HFIN.out wr Ei G)
      have z6 := R.go.box.cell 0
      simp only [List.getElem?_cons_zero] at z6
      clear G R
      go_wp2_with fail
      go_ret
      exact HR.out

end Go.Proofs.YtminbemdcanakaaGreat
