/- Round by round, till nothing more is marked. -/
import Derived.Test.YtminbemdcanakaaGreatQColEph2
import Derived.Test.YtminbemdcanakaaGreatQColEach
namespace Go.Proofs.YtminbemdcanakaaGreat
open Go.RowKit Go.Shelf
set_option linter.unusedVariables false
set_option linter.unusedSimpArgs false
attribute [local go_sem] Oper.semAt_some meth_order meth_thing meth_kind meth_cells meth_colour meth_age meth_setColour meth_setAge meth_setFin meth_clear meth_drop meth_roots

variable {w : World} {E : EL} {e : En}
def rsT (wk : List Int) (c : Cs) (i : Nat) : Cs × Bool := (wk.take i).foldl roundS (c, false)
theorem rsT_succ {wk : List Int} {c : Cs} {i : Nat} {x : Int} (hx : wk[i]? = some x) : rsT wk c (i + 1) = roundS (rsT wk c i) x := by
  unfold rsT; rw [List.take_add_one, hx, List.foldl_append]; rfl
theorem rsT_mf {wk : List Int} {c : Cs} (hw : W01 c) (i : Nat) : Mf c (rsT wk c i) := by
  unfold rsT
  have : ∀ (l : List Int) (s : Cs × Bool), Mf c s → Mf c (l.foldl roundS s) := by
    intro l
    induction l with
    | nil => intro s h; exact h
    | cons x l ih => intro s h; exact ih _ (roundS_mf hw h x)
  exact this _ _ (Mf.refl c)
set_option maxRecDepth 100000 in
set_option maxHeartbeats 4000000 in
theorem rounds_any (h : EAt w E e) (hB : Be e) : Calls Tryz.prog 127 #[.pointer (some ⟨E.ep, 0, none⟩)] w fun x w' => UnitE w E (rounds e) x w' := by
  have HH := Lib.hid h
  have HBE := Lib.hid hB
  clear h hB
  go_enter Tryz.func127, Tryz.ntmps127
  go_wp2_with fail
  go_loopg [2] (whites e.c + 1) (fun k t2 wr => ∃ (Ei : EL) (ei : En) (b : Bool), t2 = .bool b ∧ (b = true → k = whites ei.c + 1 ∧ rounds ei = rounds e) ∧ (b = false → k = 0 ∧ ei = rounds e) ∧ Be ei ∧ EGo w E wr Ei ei)
  case atStart => exact ⟨E, e, true, rfl, fun _ => ⟨rfl, rfl⟩, fun h => Bool.noConfusion h, HBE.out, EGo.refl HH.out⟩
  case round =>
    obtain ⟨Ei, ei, b, rfl, h1, h2, hb, G⟩ := hrel
    cases b with
    | false =>
      have HR := Lib.hid (show UnitE w E (rounds e) (.returned (.tuple #[])) wr from ⟨rfl, Ei, by rw [← (h2 rfl).2]; exact G⟩)
      clear h1 h2 hb G
      go_wp2_with fail
      first | go_end0 | refine bodyPost_ret (results_none rfl _ _ _) rfl ?_
      exact HR.out
    | true =>
      obtain ⟨hk, he⟩ := h1 rfl
      obtain ⟨wk, hwk⟩ : ∃ wk, wk = ei.weak := ⟨_, rfl⟩
      have hwl : wk.length ≤ 20000000 := by have := hb.weak; rw [hwk]; omega
      have HWK := Lib.hid hwk
      have HG := Lib.hid G
      have HK := Lib.hid hk
      have HE := Lib.hid he
      have HBI := Lib.hid hb
      clear h1 h2 hk he hb G hwk
      go_wp2_with fail
      go_loopg [2, 3] wk.length (fun k t2 t3 wr => ∃ (i : Nat) (Ej : EL), i ≤ wk.length ∧ k = wk.length - i ∧ t2 = .bool (rsT wk ei.c i).2 ∧ t3 = .int .i64 i ∧ EGo w E wr Ej ⟨(rsT wk ei.c i).1, wk⟩)
      case atStart => exact ⟨0, Ei, Nat.zero_le _, rfl, rfl, by go_num, by rw [HWK.out]; exact HG.out⟩
      case round =>
        obtain ⟨i, Ej, hi, hgk, rfl, rfl, G⟩ := hrel
        have hmf := rsT_mf (wk := wk) HBI.out.bd.w01 i
        have hbd : Bd (rsT wk ei.c i).1 := HBI.out.bd.mk' (k := 0) hmf.is
        have p1 := G.at_.cells.2
        have p0 := G.at_.cells.1
        rw [G.ep] at p1 p0
        rw [G.cp] at p0
        obtain ⟨wa, wc, hwv⟩ := G.at_.weak.slice
        rw [hwv] at p1
        obtain ⟨s, hs⟩ : ∃ s, s = rsT wk ei.c i := ⟨_, rfl⟩
        rw [← hs] at G hbd
        by_cases hlt : i < wk.length
        · obtain ⟨x, hx⟩ : ∃ x, wk[i]? = some x := ⟨wk[i], List.getElem?_eq_getElem _⟩
          obtain ⟨g, off, cap, hqg, hle, hmx, hcell⟩ := G.at_.weak.get (by intro e; have e' : wk = [] := e; rw [e'] at hlt; simp at hlt)
          rw [hwv] at hqg
          simp only [Value.slice.injEq] at hqg
          obtain ⟨rfl, -, rfl⟩ := hqg
          have y0 := hcell _ _ hx
          have HEP := Lib.hid (ephemeral_any G.at_ hbd x)
          rw [G.ep] at HEP
          have HSU := Lib.hid (show rsT wk ei.c (i + 1) = ((ephemeral s.1 x).1, (ephemeral s.1 x).2 || s.2) by rw [rsT_succ hx, ← hs]; rfl)
          have HGJ := Lib.hid G
          have HS := Lib.hid hs
          have HGK := Lib.hid hgk
          rw [← hs]
          clear hx hcell hwv G hs hgk hbd hmf
          go_wp2_with fail
          refine HEP.out.mono ?_
          rintro x6 w6 ⟨rfl, hT6⟩
          obtain ⟨E6, G6⟩ := HGJ.out.to hT6
          have HG6 := Lib.hid G6
          clear hT6 G6
          cases hb : (ephemeral s.1 x).2 with
          | true =>
            have HR := Lib.hid (show (rsT wk ei.c (i + 1)).2 = true by rw [HSU.out, hb]; rfl)
            clear hb
            go_wp2_with fail
            go_roundg (gk - 1)
            case measure => have := HGK.out; omega
            case rel => exact ⟨i + 1, E6, by omega, by have := HGK.out; omega, by rw [HR.out], by go_num, by rw [HSU.out]; exact HG6.out⟩
          | false =>
            have HR := Lib.hid (show (rsT wk ei.c (i + 1)).2 = s.2 by rw [HSU.out, hb]; rfl)
            clear hb
            go_wp2_with fail
            go_roundg (gk - 1)
            case measure => have := HGK.out; omega
            case rel => exact ⟨i + 1, E6, by omega, by have := HGK.out; omega, by rw [HR.out], by go_num, by rw [HSU.out]; exact HG6.out⟩
        · obtain rfl : i = wk.length := by omega
          have hrs : s = round1 wk ei.c := by rw [hs]; unfold rsT; rw [List.take_length]; rfl
          have HGO := Lib.hid (goOn_any G.at_.at_ hbd)
          rw [G.cp] at HGO
          have HGJ := Lib.hid G
          have HRS := Lib.hid hrs
          have HBD := Lib.hid hbd
          rw [← hs]
          have HS := Lib.hid hs
          have hq1 : (s : Cs × Bool).2 = s.2 := rfl
          clear hq1 hwv G hs hgk hbd hmf hrs
          go_wp2_with fail
          refine HGO.out.mono ?_
          rintro x6 w6 ⟨rfl, hT6⟩
          obtain ⟨E6, G6⟩ := HGJ.out.to (HGJ.out.at_.turnC hT6)
          have kg := goOn_mk s.1 HBD.out.w01
          have hbe6 : Be ⟨goOn s.1, wk⟩ := by
            have m1 : Mk 0 ei.c s.1 := by rw [HRS.out]; exact (round1_mf HBI.out.bd.w01 wk).is
            refine ⟨HBD.out.mk' (k := 0) kg.1, ?_⟩
            have := HBI.out.weak
            rw [← HWK.out] at this
            have d1 := m1.dm
            have d2 := kg.1.dm
            show wk.length + dm (goOn s.1) ≤ _
            omega
          have HDR := Lib.hid (drain_any G6.at_ hbe6)
          rw [G6.ep] at HDR
          have HG6 := Lib.hid G6
          have hre : drain ⟨goOn s.1, wk⟩ = roundE ei := by
            have e1 : (⟨goOn s.1, wk⟩ : En) = ⟨goOn (round1 ei.weak ei.c).1, ei.weak⟩ := by rw [HRS.out, HWK.out]
            rw [e1]; rfl
          have hb2 : s.2 = (round1 ei.weak ei.c).2 := by rw [HRS.out, HWK.out]
          have HRE := Lib.hid hre
          have HB2 := Lib.hid hb2
          clear hT6 G6 kg hbe6 hre hb2
          go_wp2_with fail
          refine HDR.out.mono ?_
          rintro x7 w7 ⟨rfl, hT7⟩
          obtain ⟨E7, G7⟩ := HG6.out.to hT7
          have HG7 := Lib.hid G7
          clear hT7 G7
          have hrm := roundE_mk HBI.out.bd.w01
          have HRM := Lib.hid hrm
          clear hrm
          have hbe7 : Be (roundE ei) := ⟨HBI.out.bd.mk' (k := 0) HRM.out.1, Nat.le_trans HRM.out.2.2.2.1 HBI.out.weak⟩
          have HBE7 := Lib.hid hbe7
          clear hbe7
          cases hb : s.2 with
          | true =>
            have HBB := Lib.hid (show (round1 ei.weak ei.c).2 = true by rw [← HB2.out]; exact hb)
            clear hb
            go_wp2_with fail
            go_roundg (whites (roundE ei).c + 1)
            case measure => have := HK.out; have := HRM.out.2.2.2.2 HBB.out; omega
            case rel => exact ⟨E7, roundE ei, true, rfl, fun _ => ⟨rfl, by rw [← rounds_step HBI.out.bd.w01 HBB.out]; exact HE.out⟩, fun h => Bool.noConfusion h, HBE7.out, by rw [← HRE.out]; exact HG7.out⟩
          | false =>
            have HBB := Lib.hid (show (round1 ei.weak ei.c).2 = false by rw [← HB2.out]; exact hb)
            clear hb
            go_wp2_with fail
            go_roundg 0
            case measure => have := HK.out; omega
            case rel => exact ⟨E7, roundE ei, false, rfl, fun h => Bool.noConfusion h, fun _ => ⟨rfl, by rw [← rounds_done HBB.out]; exact HE.out⟩, HBE7.out, by rw [← HRE.out]; exact HG7.out⟩
end Go.Proofs.YtminbemdcanakaaGreat
/- The two closures of the end of marking. -/
namespace Go.Proofs.YtminbemdcanakaaGreat
open Go.RowKit Go.Shelf
set_option linter.unusedVariables false
set_option linter.unusedSimpArgs false
attribute [local go_sem] Oper.semAt_some meth_order meth_thing meth_kind meth_cells meth_colour meth_age meth_setColour meth_setAge meth_setFin meth_clear meth_drop meth_roots

theorem keyAt_or {o : Ob} {i : Nat} {k : Int} (h : keyAt o i = some k) : k = -1 ∨ k = (i : Int) - 1 := by
  unfold keyAt at h
  split at h
  · simp at h; exact .inl h.symm
  · split at h
    · simp at h; exact .inr h.symm
    · cases h
abbrev thingW (W : World) (o : Ob) (sv : Value) : World := W.alloc (.cells #[.int .i64 o.kind, .int .i64 o.weak, .int .i64 o.array, sv, .int .i64 o.fin] 36)
/-- What stands ahead of a closure's reads. -/
structure DS (W : World) (be bc ep cp mp bt q : Nat) (o : Ob) (sc : Nat) (i : Nat) (v : V) (w' : World) : Prop where
  e0 : w'.cell? ⟨be, 0, none⟩ = some (.pointer (some ⟨ep, 0, none⟩))
  b0 : w'.cell? ⟨bc, 0, none⟩ = some (.pointer (some ⟨cp, 0, none⟩))
  c0 : w'.cell? ⟨cp, 0, none⟩ = some (memI mp)
  t1 : w'.cell? ⟨bt, 1, none⟩ = some (.int .i64 o.weak)
  t3 : w'.cell? ⟨bt, 3, none⟩ = some (.slice (some ⟨q, 0, none⟩) o.slots.length sc)
  v0 : w'.cell? ⟨q, i * 2, none⟩ = some (.int .i64 v.t)
  v1 : w'.cell? ⟨q, i * 2 + 1, none⟩ = some (.int .i64 v.n)
theorem DS.below {W : World} {be bc ep cp mp bt q : Nat} {o : Ob} {sc i : Nat} {v : V} {w1 w2 : World} (h : DS W be bc ep cp mp bt q o sc i v w1) (hb : Below w1.heap.size w1 w2) : DS W be bc ep cp mp bt q o sc i v w2 :=
  ⟨(hb.cell (cell_lt h.e0)).trans h.e0, (hb.cell (cell_lt h.b0)).trans h.b0, (hb.cell (cell_lt h.c0)).trans h.c0, (hb.cell (cell_lt h.t1)).trans h.t1, (hb.cell (cell_lt h.t3)).trans h.t3, (hb.cell (cell_lt h.v0)).trans h.v0, (hb.cell (cell_lt h.v1)).trans h.v1⟩
theorem DS.start {W : World} {be bc : Nat} {E1 : EL} {e : En} {o : Ob} {sa : Option Addr} {sc i q : Nat} {v : V} (h : EAt W E1 e) (hbe : Box W be [.pointer (some ⟨E1.ep, 0, none⟩)] 152) (hbc : Box W bc [.pointer (some ⟨E1.K.cp, 0, none⟩)] 59)
    (h0 : W.cell? ⟨q, i * 2, none⟩ = some (.int .i64 v.t)) (h1 : W.cell? ⟨q, i * 2 + 1, none⟩ = some (.int .i64 v.n)) :
    DS W be bc E1.ep E1.K.cp E1.K.L.p W.heap.size q o sc i v (thingW W o (.slice (some ⟨q, 0, none⟩) o.slots.length sc)) := by
  have hb := below_alloc W (.cells #[.int .i64 o.kind, .int .i64 o.weak, .int .i64 o.array, .slice (some ⟨q, 0, none⟩) o.slots.length sc, .int .i64 o.fin] 36)
  have bt := Box.new W [.int .i64 o.kind, .int .i64 o.weak, .int .i64 o.array, .slice (some ⟨q, 0, none⟩) o.slots.length sc, .int .i64 o.fin] 36
  have cc := (h.below hb).at_.cells.1
  exact ⟨(hbe.alloc _).cell 0, (hbc.alloc _).cell 0, cc, bt.cell 1, bt.cell 3, (hb.cell (cell_lt h0)).trans h0, (hb.cell (cell_lt h1)).trans h1⟩
set_option maxRecDepth 100000 in
set_option maxHeartbeats 4000000 in
theorem clrV_do (be bc : Nat) : DoF 129 be bc clrV := by
  intro c wk W E1 o sv h i k hE hB hbe hbc hrow hi hil hka hn
  obtain ⟨q, sc, rfl, hcell⟩ := row_at hrow (by omega)
  obtain ⟨v, hv⟩ : ∃ v, o.slots[i]? = some v := ⟨o.slots[i], List.getElem?_eq_getElem _⟩
  obtain ⟨g0, g1⟩ := flatV_at _ _ _ hv
  have HD := Lib.hid (DS.start (o := o) (sa := none) (sc := sc) hE hbe hbc (hcell _ _ g0) (hcell _ _ g1))
  have hsl : slotAt o i = v := by unfold slotAt; rw [List.getD_eq_getElem?_getD, hv]; rfl
  have hbw := below_alloc W (.cells #[.int .i64 o.kind, .int .i64 o.weak, .int .i64 o.array, .slice (some ⟨q, 0, none⟩) o.slots.length sc, .int .i64 o.fin] 36)
  have HHV := Lib.hid (held_any ((hE.below hbw).below (drew_below _)) hB.sz v)
  have HSL := Lib.hid hsl
  have HBW := Lib.hid hbw
  have HE := Lib.hid hE
  have HB := Lib.hid hB
  have q0 : (i : Int) < o.slots.length := by omega
  have q2 : (0 : Int) ≤ i := by omega
  obtain ⟨e0, b0, c0, t1, t3, v0, v1⟩ := HD.out
  unfold thingV
  unfold V.val at HHV
  clear hE hB hbe hbc hrow hcell hv g0 g1 hsl hbw hka hi
  by_cases hw : o.weak = 1
  · have k1 : (o.weak != 1) = false := by simp [hw]
    have HR := Lib.hid (show clrV c o h i k = c by unfold clrV; rw [if_neg (fun x => x.1 hw)])
    clear hw
    go_enter Tryz.func129, Tryz.ntmps129
    go_wp2_with fail
    go_quiet (fail)
    go_wp2_with fail
    first | go_end0 | refine bodyPost_ret (results_none rfl _ _ _) rfl ?_
    exact ⟨rfl, by rw [HR.out]; exact CTo.below HE.out.at_ (HBW.out.trans (below_drewN (Below.refl _ _) _))⟩
  · have k1 : (o.weak != 1) = true := by simp [hw]
    have HWK := Lib.hid hw
    clear hw
    go_enter Tryz.func129, Tryz.ntmps129
    go_wp2_with fail
    go_region_held3 (fun w' => w'.cell? ⟨be, 0, none⟩ = some (.pointer (some ⟨E1.ep, 0, none⟩)) ∧ w'.cell? ⟨W.heap.size, 1, none⟩ = some (.int .i64 o.weak) ∧ w'.cell? ⟨W.heap.size, 3, none⟩ = some (.slice (some ⟨q, 0, none⟩) o.slots.length sc) ∧ w'.cell? ⟨q, i * 2, none⟩ = some (.int .i64 v.t) ∧ w'.cell? ⟨q, i * 2 + 1, none⟩ = some (.int .i64 v.n))
      (first | (with_reducible assumption) | refine ⟨?_, ?_, ?_, ?_, ?_⟩ <;> (first | go_keep | (simp [*, World.cell?_alloc_some, World.cell?_setCell_far])))
      ((go_at_call 130; refine (HHV.out).mono ?_; rintro x5 w5 ⟨rfl, hb5⟩; have D5 := (HD.out.below (drew_below _)).below hb5; have k5 := (⟨D5.e0, D5.t1, D5.t3, D5.v0, D5.v1⟩ : w5.cell? ⟨be, 0, none⟩ = some (.pointer (some ⟨E1.ep, 0, none⟩)) ∧ w5.cell? ⟨W.heap.size, 1, none⟩ = some (.int .i64 o.weak) ∧ w5.cell? ⟨W.heap.size, 3, none⟩ = some (.slice (some ⟨q, 0, none⟩) o.slots.length sc) ∧ w5.cell? ⟨q, i * 2, none⟩ = some (.int .i64 v.t) ∧ w5.cell? ⟨q, i * 2 + 1, none⟩ = some (.int .i64 v.n)); have HD5 := Lib.hid D5; have HB5 := Lib.hid (HBW.out.trans (((drew_below _).trans (hb5.mono (Nat.le_refl _))).mono HBW.out.size)); clear hb5 D5))
    obtain ⟨-, b5, c5, -, -, -, -⟩ := HD5.out
    cases hh : held c v with
    | false =>
      have HR := Lib.hid (show clrV c o h i k = c by unfold clrV; rw [if_neg (fun x => by have := x.2; rw [HSL.out, hh] at this; cases this)])
      clear hh
      go_wp2_with fail
      first | go_end0 | refine bodyPost_ret (results_none rfl _ _ _) rfl ?_
      exact ⟨rfl, by rw [HR.out]; exact CTo.below HE.out.at_ HB5.out⟩
    | true =>
      have HR := Lib.hid (show clrV c o h i k = c.withM (c.m.clear h i false) by unfold clrV; rw [if_pos ⟨HWK.out, by rw [HSL.out]; exact hh⟩])
      have HCL := Lib.hid (clear_any (HE.out.at_.mem.below HB5.out) HB.out.sz.n h i false (at_small HB.out.sz))
      clear hh
      go_wp2_with fail
      refine HCL.out.mono ?_
      rintro x6 w6 ⟨rfl, hm, hk⟩
      have HF := Lib.hid (show UnitTo noQ W E1.K (clrV c o h i k) (.returned (.tuple #[])) w6 from ⟨rfl, by rw [HR.out]; exact CTo.ahead HB5.out HE.out.at_ ((HE.out.at_.below HB5.out).turnK hm hk)⟩)
      clear hm hk
      go_wp2_with fail
      first | go_end0 | refine bodyPost_ret (results_none rfl _ _ _) rfl ?_
      exact HF.out
end Go.Proofs.YtminbemdcanakaaGreat
/- The second closure of the end of marking. -/
namespace Go.Proofs.YtminbemdcanakaaGreat
open Go.RowKit Go.Shelf
set_option linter.unusedVariables false
set_option linter.unusedSimpArgs false
attribute [local go_sem] Oper.semAt_some meth_order meth_thing meth_kind meth_cells meth_colour meth_age meth_setColour meth_setAge meth_setFin meth_clear meth_drop meth_roots

theorem clrE_skip {c : Cs} {o : Ob} {h : Int} {i : Nat} {k : Int} (hd : deadK c o k = false) (hn : o.weak = 1 ∨ held c (slotAt o i) = false) : clrE c o h i k = c := by
  unfold clrE
  rw [if_neg]
  rintro (x | x)
  · rw [hd] at x; cases x
  · rcases hn with y | y
    · exact x.1 y
    · rw [y] at x; cases x.2
theorem DS.to {W : World} {be bc ep cp mp bt q : Nat} {o : Ob} {sc i : Nat} {v : V} {w1 w2 : World} (h : DS W be bc ep cp mp bt q o sc i v w1) (hb : Below W.heap.size W w2) (k : DS W be bc ep cp mp bt q o sc i v w2) : DS W be bc ep cp mp bt q o sc i v w2 := k
set_option maxRecDepth 100000 in
set_option maxHeartbeats 8000000 in
theorem clrE_do (be bc : Nat) : DoF 132 be bc clrE := by
  intro c wk W E1 o sv h i k hE hB hbe hbc hrow hi hil hka hn
  obtain ⟨q, sc, rfl, hcell⟩ := row_at hrow (by omega)
  obtain ⟨v, hv⟩ : ∃ v, o.slots[i]? = some v := ⟨o.slots[i], List.getElem?_eq_getElem _⟩
  obtain ⟨g0, g1⟩ := flatV_at _ _ _ hv
  have HD := Lib.hid (DS.start (o := o) (sa := none) (sc := sc) hE hbe hbc (hcell _ _ g0) (hcell _ _ g1))
  have hsl : slotAt o i = v := by unfold slotAt; rw [List.getD_eq_getElem?_getD, hv]; rfl
  have hbw := below_alloc W (.cells #[.int .i64 o.kind, .int .i64 o.weak, .int .i64 o.array, .slice (some ⟨q, 0, none⟩) o.slots.length sc, .int .i64 o.fin] 36)
  have HSL := Lib.hid hsl
  have HBW := Lib.hid hbw
  have HE := Lib.hid hE
  have HB := Lib.hid hB
  have q0 : (i : Int) < o.slots.length := by omega
  have q2 : (0 : Int) ≤ i := by omega
  obtain ⟨e0, b0, c0, t1, t3, v0, v1⟩ := HD.out
  unfold thingV
  have hk := keyAt_or hka
  by_cases hw : o.weak = 2
  · have k1 : (o.weak != 2) = false := by simp [hw]
    have HDK := Lib.hid (show deadK c o k = false by unfold deadK; rw [decide_eq_false (fun x => x.1 hw)]; rfl)
    clear hE hB hbe hbc hrow hcell hv g0 g1 hsl hbw hka hi hw hk
    go_enter Tryz.func132, Tryz.ntmps132
    go_wp2_with fail
    go_quiet (fail)
    have HBX := Lib.hid (HBW.out.trans ((below_drewN (Below.refl _ _) nq).mono HBW.out.size))
    have HDX := Lib.hid (HD.out.below (below_drewN (Below.refl _ _) nq))
    by_cases hw1 : o.weak = 1
    · have k3 : (o.weak != 1) = false := by simp [hw1]
      have HR := Lib.hid (show clrE c o h i k = c from clrE_skip HDK.out (.inl hw1))
      clear hw1
      go_wp2_with fail
      go_quiet (fail)
      go_wp2_with fail
      first | go_end0 | refine bodyPost_ret (results_none rfl _ _ _) rfl ?_
      exact ⟨rfl, by rw [HR.out]; exact CTo.below HE.out.at_ (HBX.out.trans ((below_drewN (Below.refl _ _) _).mono HBX.out.size))⟩
    · have k3 : (o.weak != 1) = true := by simp [hw1]
      have HW1 := Lib.hid hw1
      have HHV := Lib.hid (held_any ((HE.out.below HBX.out).below (drew_below _)) HB.out.sz v)
      unfold V.val at HHV
      obtain ⟨e0, b0, c0, t1, t3, v0, v1⟩ := HDX.out
      clear hw1
      go_wp2_with fail
      go_region_held3 (fun w' => w'.cell? ⟨be, 0, none⟩ = some (.pointer (some ⟨E1.ep, 0, none⟩)) ∧ w'.cell? ⟨W.heap.size, 1, none⟩ = some (.int .i64 o.weak) ∧ w'.cell? ⟨W.heap.size, 3, none⟩ = some (.slice (some ⟨q, 0, none⟩) o.slots.length sc) ∧ w'.cell? ⟨q, i * 2, none⟩ = some (.int .i64 v.t) ∧ w'.cell? ⟨q, i * 2 + 1, none⟩ = some (.int .i64 v.n))
        (first | (with_reducible assumption) | refine ⟨?_, ?_, ?_, ?_, ?_⟩ <;> (first | go_keep | (simp [*, World.cell?_alloc_some, World.cell?_setCell_far])))
        ((go_at_call 130; refine (HHV.out).mono ?_; rintro x7 w7 ⟨rfl, hb7⟩; have D7 := (HDX.out.below (drew_below _)).below hb7; have k7 := (⟨D7.e0, D7.t1, D7.t3, D7.v0, D7.v1⟩ : w7.cell? ⟨be, 0, none⟩ = some (.pointer (some ⟨E1.ep, 0, none⟩)) ∧ w7.cell? ⟨W.heap.size, 1, none⟩ = some (.int .i64 o.weak) ∧ w7.cell? ⟨W.heap.size, 3, none⟩ = some (.slice (some ⟨q, 0, none⟩) o.slots.length sc) ∧ w7.cell? ⟨q, i * 2, none⟩ = some (.int .i64 v.t) ∧ w7.cell? ⟨q, i * 2 + 1, none⟩ = some (.int .i64 v.n)); have HD7 := Lib.hid D7; have HB7 := Lib.hid (HBX.out.trans (((drew_below _).trans (hb7.mono (Nat.le_refl _))).mono HBX.out.size)); clear hb7 D7))
      obtain ⟨-, b7, c7, -, -, -, -⟩ := HD7.out
      cases hh : held c v with
      | false =>
        have HR := Lib.hid (show clrE c o h i k = c from clrE_skip HDK.out (.inr (by rw [HSL.out]; exact hh)))
        clear hh
        go_wp2_with fail
        first | go_end0 | refine bodyPost_ret (results_none rfl _ _ _) rfl ?_
        exact ⟨rfl, by rw [HR.out]; exact CTo.below HE.out.at_ HB7.out⟩
      | true =>
        have HR := Lib.hid (show clrE c o h i k = c.withM (c.m.clear h i false) by unfold clrE; rw [if_pos (.inr ⟨HW1.out, by rw [HSL.out]; exact hh⟩), HDK.out])
        clear hh
        have HCL := Lib.hid (clear_any (HE.out.at_.mem.below HB7.out) HB.out.sz.n h i false (at_small HB.out.sz))
        go_wp2_with fail
        refine HCL.out.mono ?_
        rintro x6 w6 ⟨rfl, hm, hk⟩
        have HF := Lib.hid (show UnitTo noQ W E1.K (clrE c o h i k) (.returned (.tuple #[])) w6 from ⟨rfl, by rw [HR.out]; exact CTo.ahead HB7.out HE.out.at_ ((HE.out.at_.below HB7.out).turnK hm hk)⟩)
        clear hm hk
        go_wp2_with fail
        first | go_end0 | refine bodyPost_ret (results_none rfl _ _ _) rfl ?_
        exact HF.out
  · have k1 : (o.weak != 2) = true := by simp [hw]
    rcases hk with rfl | hk
    · have HDK := Lib.hid (show deadK c o (-1) = false by unfold deadK; rw [decide_eq_false (fun x => by omega)]; rfl)
      clear hE hB hbe hbc hrow hcell hv g0 g1 hsl hbw hka hi hw
      go_enter Tryz.func132, Tryz.ntmps132
      go_wp2_with fail
      go_quiet (fail)
      have HBX := Lib.hid (HBW.out.trans ((below_drewN (Below.refl _ _) nq).mono HBW.out.size))
      have HDX := Lib.hid (HD.out.below (below_drewN (Below.refl _ _) nq))
      by_cases hw1 : o.weak = 1
      · have k3 : (o.weak != 1) = false := by simp [hw1]
        have HR := Lib.hid (show clrE c o h i (-1) = c from clrE_skip HDK.out (.inl hw1))
        clear hw1
        go_wp2_with fail
        go_quiet (fail)
        go_wp2_with fail
        first | go_end0 | refine bodyPost_ret (results_none rfl _ _ _) rfl ?_
        exact ⟨rfl, by rw [HR.out]; exact CTo.below HE.out.at_ (HBX.out.trans ((below_drewN (Below.refl _ _) _).mono HBX.out.size))⟩
      · have k3 : (o.weak != 1) = true := by simp [hw1]
        have HW1 := Lib.hid hw1
        have HHV := Lib.hid (held_any ((HE.out.below HBX.out).below (drew_below _)) HB.out.sz v)
        unfold V.val at HHV
        obtain ⟨e0, b0, c0, t1, t3, v0, v1⟩ := HDX.out
        clear hw1
        go_wp2_with fail
        go_region_held3 (fun w' => w'.cell? ⟨be, 0, none⟩ = some (.pointer (some ⟨E1.ep, 0, none⟩)) ∧ w'.cell? ⟨W.heap.size, 1, none⟩ = some (.int .i64 o.weak) ∧ w'.cell? ⟨W.heap.size, 3, none⟩ = some (.slice (some ⟨q, 0, none⟩) o.slots.length sc) ∧ w'.cell? ⟨q, i * 2, none⟩ = some (.int .i64 v.t) ∧ w'.cell? ⟨q, i * 2 + 1, none⟩ = some (.int .i64 v.n))
          (first | (with_reducible assumption) | refine ⟨?_, ?_, ?_, ?_, ?_⟩ <;> (first | go_keep | (simp [*, World.cell?_alloc_some, World.cell?_setCell_far])))
          ((go_at_call 130; refine (HHV.out).mono ?_; rintro x7 w7 ⟨rfl, hb7⟩; have D7 := (HDX.out.below (drew_below _)).below hb7; have k7 := (⟨D7.e0, D7.t1, D7.t3, D7.v0, D7.v1⟩ : w7.cell? ⟨be, 0, none⟩ = some (.pointer (some ⟨E1.ep, 0, none⟩)) ∧ w7.cell? ⟨W.heap.size, 1, none⟩ = some (.int .i64 o.weak) ∧ w7.cell? ⟨W.heap.size, 3, none⟩ = some (.slice (some ⟨q, 0, none⟩) o.slots.length sc) ∧ w7.cell? ⟨q, i * 2, none⟩ = some (.int .i64 v.t) ∧ w7.cell? ⟨q, i * 2 + 1, none⟩ = some (.int .i64 v.n)); have HD7 := Lib.hid D7; have HB7 := Lib.hid (HBX.out.trans (((drew_below _).trans (hb7.mono (Nat.le_refl _))).mono HBX.out.size)); clear hb7 D7))
        obtain ⟨-, b7, c7, -, -, -, -⟩ := HD7.out
        cases hh : held c v with
        | false =>
          have HR := Lib.hid (show clrE c o h i (-1) = c from clrE_skip HDK.out (.inr (by rw [HSL.out]; exact hh)))
          clear hh
          go_wp2_with fail
          first | go_end0 | refine bodyPost_ret (results_none rfl _ _ _) rfl ?_
          exact ⟨rfl, by rw [HR.out]; exact CTo.below HE.out.at_ HB7.out⟩
        | true =>
          have HR := Lib.hid (show clrE c o h i (-1) = c.withM (c.m.clear h i false) by unfold clrE; rw [if_pos (.inr ⟨HW1.out, by rw [HSL.out]; exact hh⟩), HDK.out])
          clear hh
          have HCL := Lib.hid (clear_any (HE.out.at_.mem.below HB7.out) HB.out.sz.n h i false (at_small HB.out.sz))
          go_wp2_with fail
          refine HCL.out.mono ?_
          rintro x6 w6 ⟨rfl, hm, hk⟩
          have HF := Lib.hid (show UnitTo noQ W E1.K (clrE c o h i (-1)) (.returned (.tuple #[])) w6 from ⟨rfl, by rw [HR.out]; exact CTo.ahead HB7.out HE.out.at_ ((HE.out.at_.below HB7.out).turnK hm hk)⟩)
          clear hm hk
          go_wp2_with fail
          first | go_end0 | refine bodyPost_ret (results_none rfl _ _ _) rfl ?_
          exact HF.out
    · obtain ⟨j, hij⟩ : ∃ j, i = j + 1 := ⟨i - 1, by omega⟩
      obtain ⟨k2, hk2⟩ : ∃ k2 : Int, k2 = (j : Int) := ⟨_, rfl⟩
      obtain rfl : k = (j : Int) := by omega
      obtain ⟨u, hu⟩ : ∃ u, o.slots[j]? = some u := ⟨o.slots[j]'(by omega), List.getElem?_eq_getElem _⟩
      obtain ⟨g2, g3⟩ := flatV_at _ _ _ hu
      have HDU := Lib.hid (DS.start (o := o) (sa := none) (sc := sc) hE hbe hbc (hcell _ _ g2) (hcell _ _ g3))
      have hsu : slotAt o j = u := by unfold slotAt; rw [List.getD_eq_getElem?_getD, hu]; rfl
      have HHU := Lib.hid (held_any ((hE.below hbw).below (drew_below _)) hB.sz u)
      have HDE := Lib.hid (show deadK c o (j : Int) = held c u by unfold deadK; rw [decide_eq_true ⟨hw, by omega⟩, Int.toNat_natCast, hsu]; rfl)
      have q3 : (j : Int) < o.slots.length := by omega
      have q4 : (0 : Int) ≤ j := by omega
      have q5 : decide (0 ≤ (j : Int)) = true := decide_eq_true q4
      obtain ⟨-, -, -, -, -, u0, u1⟩ := HDU.out
      unfold V.val at HHU
      clear hE hB hbe hbc hrow hcell hv g0 g1 g2 g3 hu hsu hsl hbw hka hi hw hk hij hk2
      go_enter Tryz.func132, Tryz.ntmps132
      go_wp2_with fail
      go_region_held3 (fun w' => w'.cell? ⟨be, 0, none⟩ = some (.pointer (some ⟨E1.ep, 0, none⟩)) ∧ w'.cell? ⟨W.heap.size, 1, none⟩ = some (.int .i64 o.weak) ∧ w'.cell? ⟨W.heap.size, 3, none⟩ = some (.slice (some ⟨q, 0, none⟩) o.slots.length sc) ∧ w'.cell? ⟨q, j * 2, none⟩ = some (.int .i64 u.t) ∧ w'.cell? ⟨q, j * 2 + 1, none⟩ = some (.int .i64 u.n))
        (first | (with_reducible assumption) | refine ⟨?_, ?_, ?_, ?_, ?_⟩ <;> (first | go_keep | (simp [*, World.cell?_alloc_some, World.cell?_setCell_far])))
        ((go_at_call 130; refine HHU.out.mono ?_; rintro x5 w5 ⟨rfl, hb5⟩; have D5 := (HDU.out.below (drew_below _)).below hb5; have D5v := (HD.out.below (drew_below _)).below hb5; have k5 := (⟨D5.e0, D5.t1, D5.t3, D5.v0, D5.v1⟩ : w5.cell? ⟨be, 0, none⟩ = some (.pointer (some ⟨E1.ep, 0, none⟩)) ∧ w5.cell? ⟨W.heap.size, 1, none⟩ = some (.int .i64 o.weak) ∧ w5.cell? ⟨W.heap.size, 3, none⟩ = some (.slice (some ⟨q, 0, none⟩) o.slots.length sc) ∧ w5.cell? ⟨q, j * 2, none⟩ = some (.int .i64 u.t) ∧ w5.cell? ⟨q, j * 2 + 1, none⟩ = some (.int .i64 u.n)); have HD5 := Lib.hid D5v; have HB5 := Lib.hid (HBW.out.trans (((drew_below _).trans (hb5.mono (Nat.le_refl _))).mono HBW.out.size)); clear hb5 D5 D5v))
      clear e0 b0 c0 t1 t3 v0 v1 u0 u1
      cases hh : held c u with
      | true =>
        have HDK := Lib.hid (show deadK c o (j : Int) = true by rw [HDE.out]; exact hh)
        have HR := Lib.hid (show clrE c o h i (j : Int) = c.withM (c.m.clear h (i : Int) true) by unfold clrE; rw [if_pos (.inl HDK.out), HDK.out])
        obtain ⟨e0, b0, c0, t1, t3, v0, v1⟩ := HD5.out
        clear hh
        go_wp2_with fail
        go_quiet (fail)
        have HBX := Lib.hid (HB5.out.trans ((below_drewN (Below.refl _ _) nq).mono HB5.out.size))
        have HCL := Lib.hid (clear_any (HE.out.at_.mem.below HBX.out) HB.out.sz.n h (i : Int) true (at_small HB.out.sz))
        go_wp2_with fail
        refine HCL.out.mono ?_
        rintro x6 w6 ⟨rfl, hm, hk⟩
        have HF := Lib.hid (show UnitTo noQ W E1.K (clrE c o h i (j : Int)) (.returned (.tuple #[])) w6 from ⟨rfl, by rw [HR.out]; exact CTo.ahead HBX.out HE.out.at_ ((HE.out.at_.below HBX.out).turnK hm hk)⟩)
        clear hm hk
        go_wp2_with fail
        first | go_end0 | refine bodyPost_ret (results_none rfl _ _ _) rfl ?_
        exact HF.out
      | false =>
        have HDK := Lib.hid (show deadK c o (j : Int) = false by rw [HDE.out]; exact hh)
        clear hh
        by_cases hw1 : o.weak = 1
        · have k3 : (o.weak != 1) = false := by simp [hw1]
          have HR := Lib.hid (show clrE c o h i (j : Int) = c from clrE_skip HDK.out (.inl hw1))
          clear hw1
          go_wp2_with fail
          go_quiet (fail)
          go_wp2_with fail
          first | go_end0 | refine bodyPost_ret (results_none rfl _ _ _) rfl ?_
          exact ⟨rfl, by rw [HR.out]; exact CTo.below HE.out.at_ (HB5.out.trans ((below_drewN (Below.refl _ _) _).mono HB5.out.size))⟩
        · have k3 : (o.weak != 1) = true := by simp [hw1]
          have HW1 := Lib.hid hw1
          have HHV := Lib.hid (held_any ((HE.out.below HB5.out).below (drew_below _)) HB.out.sz v)
          unfold V.val at HHV
          obtain ⟨e0, b0, c0, t1, t3, v0, v1⟩ := HD5.out
          clear hw1
          go_wp2_with fail
          go_region_held3 (fun w' => w'.cell? ⟨be, 0, none⟩ = some (.pointer (some ⟨E1.ep, 0, none⟩)) ∧ w'.cell? ⟨W.heap.size, 1, none⟩ = some (.int .i64 o.weak) ∧ w'.cell? ⟨W.heap.size, 3, none⟩ = some (.slice (some ⟨q, 0, none⟩) o.slots.length sc) ∧ w'.cell? ⟨q, i * 2, none⟩ = some (.int .i64 v.t) ∧ w'.cell? ⟨q, i * 2 + 1, none⟩ = some (.int .i64 v.n))
            (first | (with_reducible assumption) | refine ⟨?_, ?_, ?_, ?_, ?_⟩ <;> (first | go_keep | (simp [*, World.cell?_alloc_some, World.cell?_setCell_far])))
            ((go_at_call 130; refine (HHV.out).mono ?_; rintro x7 w7 ⟨rfl, hb7⟩; have D7 := (HD5.out.below (drew_below _)).below hb7; have k7 := (⟨D7.e0, D7.t1, D7.t3, D7.v0, D7.v1⟩ : w7.cell? ⟨be, 0, none⟩ = some (.pointer (some ⟨E1.ep, 0, none⟩)) ∧ w7.cell? ⟨W.heap.size, 1, none⟩ = some (.int .i64 o.weak) ∧ w7.cell? ⟨W.heap.size, 3, none⟩ = some (.slice (some ⟨q, 0, none⟩) o.slots.length sc) ∧ w7.cell? ⟨q, i * 2, none⟩ = some (.int .i64 v.t) ∧ w7.cell? ⟨q, i * 2 + 1, none⟩ = some (.int .i64 v.n)); have HD7 := Lib.hid D7; have HB7 := Lib.hid (HB5.out.trans (((drew_below _).trans (hb7.mono (Nat.le_refl _))).mono HB5.out.size)); clear hb7 D7))
          obtain ⟨-, b7, c7, -, -, -, -⟩ := HD7.out
          cases hh : held c v with
          | false =>
            have HR := Lib.hid (show clrE c o h i (j : Int) = c from clrE_skip HDK.out (.inr (by rw [HSL.out]; exact hh)))
            clear hh
            go_wp2_with fail
            first | go_end0 | refine bodyPost_ret (results_none rfl _ _ _) rfl ?_
            exact ⟨rfl, by rw [HR.out]; exact CTo.below HE.out.at_ HB7.out⟩
          | true =>
            have HR := Lib.hid (show clrE c o h i (j : Int) = c.withM (c.m.clear h i false) by unfold clrE; rw [if_pos (.inr ⟨HW1.out, by rw [HSL.out]; exact hh⟩), HDK.out])
            clear hh
            have HCL := Lib.hid (clear_any (HE.out.at_.mem.below HB7.out) HB.out.sz.n h i false (at_small HB.out.sz))
            go_wp2_with fail
            refine HCL.out.mono ?_
            rintro x6 w6 ⟨rfl, hm, hk⟩
            have HF := Lib.hid (show UnitTo noQ W E1.K (clrE c o h i (j : Int)) (.returned (.tuple #[])) w6 from ⟨rfl, by rw [HR.out]; exact CTo.ahead HB7.out HE.out.at_ ((HE.out.at_.below HB7.out).turnK hm hk)⟩)
            clear hm hk
            go_wp2_with fail
            first | go_end0 | refine bodyPost_ret (results_none rfl _ _ _) rfl ?_
            exact HF.out
end Go.Proofs.YtminbemdcanakaaGreat
