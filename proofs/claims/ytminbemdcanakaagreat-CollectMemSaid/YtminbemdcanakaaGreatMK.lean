/- Ages. -/
import Derived.Test.YtminbemdcanakaaGreatQColOne
namespace Go.Proofs.YtminbemdcanakaaGreat
open Go.RowKit Go.Shelf
set_option linter.unusedVariables false
set_option linter.unusedSimpArgs false

variable {w : World}
def SameB (w : World) (b : Bool) (e : Ending) (w' : World) : Prop := e = .returned (.bool b) ∧ w' = w
def SameI (w : World) (n : Int) (e : Ending) (w' : World) : Prop := e = .returned (.int .i64 n) ∧ w' = w
set_option maxHeartbeats 1000000 in
theorem old_any (a : Int) : Calls Tryz.prog 57 #[.int .i64 a] w fun e w' => SameB w (oldB a) e w' := by
  have HR := Lib.hid (show oldB a = (decide (2 ≤ a) && decide (a ≤ 6)) by unfold oldB; simp)
  rw [HR.out]
  by_cases h1 : 2 ≤ a
  · have e1 : decide (2 ≤ a) = true := decide_eq_true h1
    clear h1
    go_enter Tryz.func57, Tryz.ntmps57
    go_wp2_with fail
    go_ret
    exact ⟨by rw [e1]; rfl, rfl⟩
  · have e1 : decide (2 ≤ a) = false := decide_eq_false h1
    clear h1
    go_enter Tryz.func57, Tryz.ntmps57
    go_wp2_with fail
    go_ret
    exact ⟨by rw [e1]; rfl, rfl⟩
set_option maxHeartbeats 1000000 in
theorem young_any (a : Int) : Calls Tryz.prog 145 #[.int .i64 a] w fun e w' => SameB w (youngB a) e w' := by
  have HR := Lib.hid (show youngB a = ((a == 0) || (a == 1)) by unfold youngB; by_cases h0 : a = 0 <;> by_cases h1 : a = 1 <;> simp [h0, h1])
  rw [HR.out]
  by_cases h1 : a = 0
  · have e1 : (a == 0) = true := by simp [h1]
    clear h1
    go_enter Tryz.func145, Tryz.ntmps145
    go_wp2_with fail
    go_ret
    exact ⟨by rw [e1]; rfl, rfl⟩
  · have e1 : (a == 0) = false := by simp [h1]
    clear h1
    go_enter Tryz.func145, Tryz.ntmps145
    go_wp2_with fail
    go_ret
    exact ⟨by rw [e1]; rfl, rfl⟩
set_option maxHeartbeats 1000000 in
theorem back_any (a : Int) : Calls Tryz.prog 113 #[.int .i64 a] w fun e w' => SameI w (backA a) e w' := by
  have HO := Lib.hid (old_any (w := w) a)
  cases h : oldB a with
  | true =>
    have HR := Lib.hid (show backA a = 5 by unfold backA; rw [if_pos h])
    rw [HR.out]
    rw [h] at HO
    clear h
    go_enter Tryz.func113, Tryz.ntmps113
    go_wp2_with fail
    refine HO.out.mono ?_
    rintro x1 w1 ⟨rfl, rfl⟩
    go_wp2_with fail
    go_ret
    exact ⟨rfl, rfl⟩
  | false =>
    have HR := Lib.hid (show backA a = a by unfold backA; rw [if_neg (by rw [h]; decide)])
    rw [HR.out]
    rw [h] at HO
    clear h
    go_enter Tryz.func113, Tryz.ntmps113
    go_wp2_with fail
    refine HO.out.mono ?_
    rintro x1 w1 ⟨rfl, rfl⟩
    go_wp2_with fail
    go_ret
    exact ⟨rfl, rfl⟩
set_option maxHeartbeats 1000000 in
theorem forward_any (o a : Int) : Calls Tryz.prog 115 #[.int .i64 o, .int .i64 a] w fun e w' => SameI w (forwardA o a) e w' := by
  have HO := Lib.hid (old_any (w := w) o)
  have HY := Lib.hid (young_any (w := w) a)
  cases h : oldB o with
  | true =>
    rw [h] at HO
    cases hy : youngB a with
    | true =>
      have HR := Lib.hid (show forwardA o a = 2 by unfold forwardA; rw [if_pos ⟨h, hy⟩])
      rw [HR.out]
      rw [hy] at HY
      clear h hy
      go_enter Tryz.func115, Tryz.ntmps115
      go_wp2_with fail
      refine HO.out.mono ?_
      rintro x1 w1 ⟨rfl, rfl⟩
      go_wp2_with fail
      refine HY.out.mono ?_
      rintro x1 w1 ⟨rfl, rfl⟩
      go_wp2_with fail
      go_ret
      exact ⟨rfl, rfl⟩
    | false =>
      have HR := Lib.hid (show forwardA o a = a by unfold forwardA; rw [if_neg (by rw [hy]; intro x; cases x.2)])
      rw [HR.out]
      rw [hy] at HY
      clear h hy
      go_enter Tryz.func115, Tryz.ntmps115
      go_wp2_with fail
      refine HO.out.mono ?_
      rintro x1 w1 ⟨rfl, rfl⟩
      go_wp2_with fail
      refine HY.out.mono ?_
      rintro x1 w1 ⟨rfl, rfl⟩
      go_wp2_with fail
      go_ret
      exact ⟨rfl, rfl⟩
  | false =>
    have HR := Lib.hid (show forwardA o a = a by unfold forwardA; rw [if_neg (by rw [h]; intro x; cases x.1)])
    rw [HR.out]
    rw [h] at HO
    clear h
    go_enter Tryz.func115, Tryz.ntmps115
    go_wp2_with fail
    refine HO.out.mono ?_
    rintro x1 w1 ⟨rfl, rfl⟩
    go_wp2_with fail
    go_ret
    exact ⟨rfl, rfl⟩

/-! ### the table -/
def tabN : Int → Option Value := updM (updM (updM (updM (updM (updM (updM (fun _ => none) 0 (some (.int .i64 1))) 1 (some (.int .i64 3))) 2 (some (.int .i64 3))) 3 (some (.int .i64 4))) 4 (some (.int .i64 4))) 5 (some (.int .i64 6))) 6 (some (.int .i64 4))
theorem tabN_at (a : Int) : (tabN a).getD (.int .i64 0) = .int .i64 (if (tabN a).isSome then nextA a else 0) ∧ ((tabN a).isSome = false → nextA a = a) := by
  unfold tabN updM nextA
  by_cases h0 : a = 0
  · subst h0; exact ⟨rfl, fun h => by cases h⟩
  by_cases h1 : a = 1
  · subst h1; exact ⟨rfl, fun h => by cases h⟩
  by_cases h2 : a = 2
  · subst h2; exact ⟨rfl, fun h => by cases h⟩
  by_cases h3 : a = 3
  · subst h3; exact ⟨rfl, fun h => by cases h⟩
  by_cases h4 : a = 4
  · subst h4; exact ⟨rfl, fun h => by cases h⟩
  by_cases h5 : a = 5
  · subst h5; exact ⟨rfl, fun h => by cases h⟩
  by_cases h6 : a = 6
  · subst h6; exact ⟨rfl, fun h => by cases h⟩
  simp [h0, h1, h2, h3, h4, h5, h6]
def NextP (w : World) (e : Ending) (w' : World) : Prop := ∃ b, e = .returned (.map (some b)) ∧ IntMapAt w' b tabN ∧ Below w.heap.size w w'
theorem zeroI (w : World) : (zeroValue 3).run Tryz.prog w = .ok (.int .i64 0) w := by kernel_rfl
set_option maxRecDepth 100000 in
set_option maxHeartbeats 1000000 in
theorem nextM_any : Calls Tryz.prog 143 #[] w fun e w' => NextP w e w' := by
  have hmm := @run_makeMap Tryz.prog
  have H0 := Lib.hid (show IntMapAt (w.alloc (.map #[] 0)) w.heap.size (fun _ => none) from ⟨#[], 0, World.alloc_heap_new _ _, by simp [IntKeys], by simp [NodupKeys], by intro k v; simp⟩)
  have B0 := Lib.hid (show Below w.heap.size w (w.alloc (.map #[] 0)) from (Below.refl _ _).alloc (Nat.le_refl _) _)
  obtain ⟨w1, hr1, hm1, hg1, hz1⟩ := run_mapUpdate_int (P := Tryz.prog) Tryz.underlying158 Tryz.underlying3 H0.out 0 (.int .i64 1)
  have H1 := Lib.hid hm1
  have B1 := Lib.hid (B0.out.grown hg1 B0.out.size (by simp))
  clear hm1 hg1 hz1
  obtain ⟨w2, hr2, hm2, hg2, hz2⟩ := run_mapUpdate_int (P := Tryz.prog) Tryz.underlying158 Tryz.underlying3 H1.out 1 (.int .i64 3)
  have H2 := Lib.hid hm2
  have B2 := Lib.hid (B1.out.grown hg2 B1.out.size (by simp))
  clear hm2 hg2 hz2
  obtain ⟨w3, hr3, hm3, hg3, hz3⟩ := run_mapUpdate_int (P := Tryz.prog) Tryz.underlying158 Tryz.underlying3 H2.out 2 (.int .i64 3)
  have H3 := Lib.hid hm3
  have B3 := Lib.hid (B2.out.grown hg3 B2.out.size (by simp))
  clear hm3 hg3 hz3
  obtain ⟨w4, hr4, hm4, hg4, hz4⟩ := run_mapUpdate_int (P := Tryz.prog) Tryz.underlying158 Tryz.underlying3 H3.out 3 (.int .i64 4)
  have H4 := Lib.hid hm4
  have B4 := Lib.hid (B3.out.grown hg4 B3.out.size (by simp))
  clear hm4 hg4 hz4
  obtain ⟨w5, hr5, hm5, hg5, hz5⟩ := run_mapUpdate_int (P := Tryz.prog) Tryz.underlying158 Tryz.underlying3 H4.out 4 (.int .i64 4)
  have H5 := Lib.hid hm5
  have B5 := Lib.hid (B4.out.grown hg5 B4.out.size (by simp))
  clear hm5 hg5 hz5
  obtain ⟨w6, hr6, hm6, hg6, hz6⟩ := run_mapUpdate_int (P := Tryz.prog) Tryz.underlying158 Tryz.underlying3 H5.out 5 (.int .i64 6)
  have H6 := Lib.hid hm6
  have B6 := Lib.hid (B5.out.grown hg6 B5.out.size (by simp))
  clear hm6 hg6 hz6
  obtain ⟨w7, hr7, hm7, hg7, hz7⟩ := run_mapUpdate_int (P := Tryz.prog) Tryz.underlying158 Tryz.underlying3 H6.out 6 (.int .i64 4)
  have H7 := Lib.hid hm7
  have B7 := Lib.hid (B6.out.grown hg7 B6.out.size (by simp))
  clear hm7 hg7 hz7
  go_enter Tryz.func143, Tryz.ntmps143
  go_wp2_with fail
  go_ret
  exact ⟨_, rfl, H7.out, B7.out⟩
set_option maxRecDepth 100000 in
set_option maxHeartbeats 1000000 in
theorem next_any (a : Int) : Calls Tryz.prog 111 #[.int .i64 a] w fun e w' => IntB w (nextA a) e w' := by
  have HN := Lib.hid (nextM_any (w := w))
  obtain ⟨h1, h2⟩ := tabN_at a
  cases hs : (tabN a).isSome with
  | true =>
    rw [hs, if_pos rfl] at h1
    have HT := Lib.hid h1
    have HS := Lib.hid hs
    clear h1 h2 hs
    go_enter Tryz.func111, Tryz.ntmps111
    go_wp2_with fail
    refine HN.out.mono ?_
    rintro x1 w1 ⟨b, rfl, hm, hb⟩
    obtain ⟨es, clock, h1, h2⟩ := hm
    have hl := run_lookup_int (P := Tryz.prog) Tryz.underlying158 Tryz.underlying3 (zeroI w1) h1 h2 a true
    rw [HT.out, HS.out, if_pos rfl] at hl
    have HB := Lib.hid hb
    clear h1 h2 hb
    go_wp2_with fail
    go_ret
    exact ⟨rfl, HB.out⟩
  | false =>
    rw [hs, if_neg (by decide)] at h1
    have HT := Lib.hid h1
    have HS := Lib.hid hs
    have HE := Lib.hid (h2 hs)
    rw [HE.out]
    clear h1 h2 hs
    go_enter Tryz.func111, Tryz.ntmps111
    go_wp2_with fail
    refine HN.out.mono ?_
    rintro x1 w1 ⟨b, rfl, hm, hb⟩
    obtain ⟨es, clock, h1, h2⟩ := hm
    have hl := run_lookup_int (P := Tryz.prog) Tryz.underlying158 Tryz.underlying3 (zeroI w1) h1 h2 a true
    rw [HT.out, HS.out, if_pos rfl] at hl
    have HB := Lib.hid hb
    clear h1 h2 hb
    go_wp2_with fail
    go_ret
    exact ⟨rfl, HB.out⟩
end Go.Proofs.YtminbemdcanakaaGreat
/- One of a cycle. -/
namespace Go.Proofs.YtminbemdcanakaaGreat
open Go.RowKit Go.Shelf
set_option linter.unusedVariables false
set_option linter.unusedSimpArgs false
attribute [local go_sem] Oper.semAt_some meth_order meth_thing meth_kind meth_cells meth_colour meth_age meth_setColour meth_setAge meth_setFin meth_clear meth_drop meth_roots
attribute [local go_sem high] run_tail

variable {w : World} {K : CL} {c : Cs}
/-- The first one of a queue leaves it. -/
theorem CAt.popped (h : CAt w K c) (i : Nat) (hi : i < 4) {x : Int} {l : List Int} (ha : c.q i = x :: l) : ∃ g off cap, K.q i = .slice (some ⟨g, off, none⟩) (l.length + 1) cap ∧ 1 ≤ cap ∧ cap ≤ maxLen ∧ w.cell? ⟨g, off, none⟩ = some (.int .i64 x) ∧
    ∀ W off', Below w.heap.size w W → (off' = off + 1 ∨ (cap = 1 ∧ off' = off)) → CTo allQ w K (W.setCell ⟨K.cp, 4 + i, none⟩ (.slice (some ⟨g, off', none⟩) l.length (cap - 1))) (c.setQ i l) := by
  have hq' := h.q i hi
  rw [ha] at hq'
  obtain ⟨g, off, cap, hqv, hle, hmx, hcell⟩ := hq'.get (by simp)
  have d0 := hcell 0 x rfl
  rw [Nat.add_zero] at d0
  refine ⟨g, off, cap, hqv, by simp at hle; omega, hmx, d0, fun W off' hb ho => ?_⟩
  rw [hqv] at hq'
  have ht := QAt.tail (xs := l) hq' off' ho
  exact (h.turnQ (w' := W) i hi (ht.below hb) (Keep.of_below hb) (fun k hk => .inl (by rw [hqv]; exact hk))).all
/-- Grey and Again are emptied. -/
theorem CAt.clear2 (h : CAt w K c) : CTo allQ w K ((w.setCell ⟨K.cp, 4, none⟩ (.slice none 0 0)).setCell ⟨K.cp, 5, none⟩ (.slice none 0 0)) ((c.withGrey []).withAgain []) := by
  have h1 : CTo allQ w K (w.setCell ⟨K.cp, 4, none⟩ (.slice none 0 0)) (c.withGrey []) := (h.turnQ 0 (by omega) (QAt.nil w) (Keep.refl _ _) (fun k hk => by cases hk)).all
  refine h1.step fun K1 e1 _ a1 => ?_
  have := (a1.turnQ 1 (by omega) (QAt.nil _) (Keep.refl _ _) (fun k hk => by cases hk)).all
  rw [e1] at this
  exact this
theorem Bd.clear2 (h : Bd c) : Bd ((c.withGrey []).withAgain []) := ⟨h.sz, h.w01, by
  have := h.dm
  have e : Proofs.YtminbemdcanakaaGreat.dm c = 2 * Proofs.YtminbemdcanakaaGreat.whites c + c.grey.length + c.again.length := rfl
  show 2 * Proofs.YtminbemdcanakaaGreat.whites c + 0 + 0 ≤ _
  omega, h.pend⟩
theorem Bd.unGrey (h : Bd c) : Bd (c.withGrey c.grey.dropLast) := by
  refine ⟨h.sz, h.w01, ?_, h.pend⟩
  refine Nat.le_trans ?_ h.dm
  show 2 * whites c + c.grey.dropLast.length + c.again.length ≤ 2 * whites c + c.grey.length + c.again.length
  rw [List.length_dropLast]; omega
set_option maxRecDepth 100000 in
set_option maxHeartbeats 8000000 in
theorem unit_any (h : CAt w K c) (hB : Bd c) (hp : c.pending.length ≤ 9000000) : Calls Tryz.prog 108 #[.pointer (some ⟨K.cp, 0, none⟩)] w fun x w' => UnitTo allQ w K (unit c) x w' := by
  have c0 := h.cells.1
  have c2 := h.cells.2.2.1
  have HH := Lib.hid h
  have HB := Lib.hid hB
  have HP := Lib.hid hp
  clear hB hp
  by_cases p0 : c.phase = 0
  · have e0 : (c.phase == 0) = true := by simp [p0]
    have hu : unit c = (begin_ ((c.withGrey []).withAgain [])).withPhase 1 := by unfold unit; rw [if_pos p0]
    have HU := Lib.hid hu
    have c4 := h.cells.2.2.2.2.1
    have c5 := h.cells.2.2.2.2.2.1
    have f4 := h.box.free 4
    have f5 := h.box.free 5
    have hbx : Box (w.setCell ⟨K.cp, 4, none⟩ (.slice none 0 0)) K.cp ((boxC K c).set 4 (.slice none 0 0)) 126 := h.box.set 4 _
    have g5 := hbx.free 5
    have d5 := hbx.cell 5
    have h2 := h.clear2
    obtain ⟨K2, G2⟩ := h2
    have HBG := Lib.hid (begin_any G2.at_ HB.out.clear2)
    rw [G2.cp] at HBG
    have HG2 := Lib.hid G2
    clear h p0 hu hbx G2
    go_enter Tryz.func108, Tryz.ntmps108
    go_wp2_with fail
    refine HBG.out.mono ?_
    rintro x3 w3 ⟨rfl, hT3⟩
    obtain ⟨K3, G3⟩ := HG2.out.to hT3.all
    have f2 := G3.at_.box.free 2
    have e2 := G3.at_.cells.2.2.1
    have hT4 := G3.to (G3.at_.turnF (s := allQ) 2 (n := 1) (c' := (begin_ ((c.withGrey []).withAgain [])).withPhase 1) rfl rfl rfl)
    rw [G3.cp] at f2 e2 hT4
    have HR := Lib.hid (show UnitTo allQ w K (unit c) (.returned (.tuple #[])) (w3.setCell ⟨K.cp, 2, none⟩ (.int .i64 1)) from ⟨rfl, by rw [HU.out]; exact hT4⟩)
    clear hT3 G3 hT4
    go_wp2_with fail
    first | go_end0 | refine bodyPost_ret (results_none rfl _ _ _) rfl ?_
    exact HR.out
  have e0 : (c.phase == 0) = false := by simp [p0]
  by_cases p1 : c.phase = 1
  · have e1 : (c.phase == 1) = true := by simp [p1]
    have c4 := h.cells.2.2.2.2.1
    have hq : QAt w (K.q 0) c.grey := h.q 0 (by omega)
    obtain ⟨qa, qc, hqv⟩ := hq.slice
    rw [hqv] at c4
    obtain ⟨N, hN⟩ : ∃ N, N = c.grey.length := ⟨_, rfl⟩
    rw [← hN] at c4
    clear hqv hq
    by_cases h0 : N = 0
    · have e3 : decide (0 < (N : Int)) = false := by rw [h0]; rfl
      have e4 : decide (0 < N) = false := by rw [h0]; rfl
      have hgr : c.grey = [] := List.eq_nil_of_length_eq_zero (by omega)
      have hu : unit c = ((end_ c).withPhase 2).withSweep (end_ c).m.order := by unfold unit; rw [if_neg p0, if_neg (fun x => x.2 hgr), if_pos p1]
      have HU := Lib.hid hu
      have HE := Lib.hid (end_any h HB.out HP.out)
      have hsz : (end_ c).m.obs.length ≤ 100000 := by rw [(end_sp HB.out.w01).1.len]; exact HB.out.sz.n
      have HSZ := Lib.hid hsz
      clear h p0 p1 h0 hN hgr hu hsz
      go_enter Tryz.func108, Tryz.ntmps108
      go_wp2_with fail
      refine HE.out.mono ?_
      rintro x3 w3 ⟨rfl, hT3⟩
      obtain ⟨K3, G3⟩ := hT3
      have f2 := G3.at_.box.free 2
      have e2 := G3.at_.cells.2.2.1
      have hT4 := G3.to (G3.at_.turnF (s := allQ) 2 (n := 2) (c' := (end_ c).withPhase 2) rfl rfl rfl)
      rw [G3.cp] at f2 e2 hT4
      obtain ⟨K4, G4⟩ := hT4
      have d0 := G4.at_.cells.1
      rw [G4.cp, G4.p] at d0
      have HO := Lib.hid (order_any G4.at_.mem HSZ.out)
      rw [G4.p] at HO
      have HG4 := Lib.hid G4
      clear G3 G4
      go_wp2_with fail
      refine HO.out.mono ?_
      rintro x5 w5 ⟨ov, rfl, hov, hb5⟩
      obtain ⟨oa, oc, rfl⟩ := row_slice hov
      have a5 := HG4.out.at_.below hb5
      have f7 := a5.box.free 7
      have d7 := a5.cells.2.2.2.2.2.2.2.1
      have hT6 := HG4.out.to ((HG4.out.at_.turnQ (w' := w5) 3 (by omega) (QAt.of_row hov) (Keep.of_below hb5) (fun k hk => .inr (hov.lt k hk).1)).all)
      rw [HG4.out.cp] at f7 d7 hT6
      have HR := Lib.hid (show UnitTo allQ w K (unit c) (.returned (.tuple #[])) (w5.setCell ⟨K.cp, 7, none⟩ (.slice oa ((end_ c).withPhase 2).m.order.length oc)) from ⟨rfl, by rw [HU.out]; exact hT6⟩)
      clear hov hb5 a5 hT6
      go_wp2_with fail
      first | go_end0 | refine bodyPost_ret (results_none rfl _ _ _) rfl ?_
      exact HR.out
    · have e3 : decide (0 < (N : Int)) = true := decide_eq_true (by omega)
      have e4 : decide (0 < N) = true := decide_eq_true (by omega)
      have hne : c.grey ≠ [] := fun e => h0 (by rw [hN, e]; rfl)
      obtain ⟨x, hx⟩ : ∃ x, c.grey.getLast? = some x := ⟨_, List.getLast?_eq_some_getLast hne⟩
      have hu : unit c = through (c.withGrey c.grey.dropLast) x := by unfold unit next; rw [if_neg p0, if_pos ⟨p1, hne⟩, hx]
      have HU := Lib.hid hu
      have HL := Lib.hid (last_any h HB.out.len.1 hx)
      clear h p0 p1 h0 hN hne hx hu
      go_enter Tryz.func108, Tryz.ntmps108
      go_wp2_with fail
      refine HL.out.mono ?_
      rintro e w2 ⟨rfl, hT⟩
      obtain ⟨K2, G2⟩ := hT
      have HTH := Lib.hid (through_any G2.at_ HB.out.unGrey x)
      rw [G2.cp] at HTH
      have HG2 := Lib.hid G2
      clear G2
      go_wp2_with fail
      refine HTH.out.mono ?_
      rintro e w3 ⟨rfl, hT3⟩
      have HR := Lib.hid (show UnitTo allQ w K (unit c) (.returned (.tuple #[])) w3 from ⟨rfl, by rw [HU.out]; exact (HG2.out.to hT3).all⟩)
      clear hT3
      go_wp2_with fail
      first | go_end0 | refine bodyPost_ret (results_none rfl _ _ _) rfl ?_
      exact HR.out
  have e1 : (c.phase == 1) = false := by simp [p1]
  have f2 := h.box.free 2
  have c7 := h.cells.2.2.2.2.2.2.2.1
  cases hs : c.sweep with
  | nil =>
    have hq : QAt w (K.q 3) c.sweep := h.q 3 (by omega)
    obtain ⟨qa, qc, hqv⟩ := hq.slice
    rw [hqv, hs] at c7
    have hu : unit c = c.withPhase 0 := by unfold unit; rw [if_neg p0, if_neg (fun x => p1 x.1), if_neg p1, hs]
    have hT := h.turnF (s := allQ) 2 (n := 0) (c' := c.withPhase 0) rfl rfl rfl
    have HR := Lib.hid (show UnitTo allQ w K (unit c) (.returned (.tuple #[])) (w.setCell ⟨K.cp, 2, none⟩ (.int .i64 0)) from ⟨rfl, by rw [hu]; exact hT⟩)
    simp only [List.length_nil] at c7
    clear h p0 p1 hs hqv hq hu hT
    go_enter Tryz.func108, Tryz.ntmps108
    go_wp2_with fail
    first | go_end0 | refine bodyPost_ret (results_none rfl _ _ _) rfl ?_
    exact HR.out
  | cons x l =>
    obtain ⟨g, off, cap, hqv, hc1, hcm, d0, hpop⟩ := h.popped 3 (by omega) (x := x) (l := l) hs
    rw [hqv] at c7
    have f7 := h.box.free 7
    have hu : unit c = sweep1 (c.withSweep l) x := by unfold unit; rw [if_neg p0, if_neg (fun x => p1 x.1), if_neg p1, hs]
    have HU := Lib.hid hu
    obtain ⟨N, hN⟩ : ∃ N, N = l.length := ⟨_, rfl⟩
    have hT1 : CTo allQ w K (w.setCell ⟨K.cp, 7, none⟩ (.slice (some ⟨g, tailAddr off cap, none⟩) l.length (cap - 1))) (c.withSweep l) := hpop w (tailAddr off cap) (Below.refl _ _) (tailAddr_or _ _)
    rw [← hN] at c7 hT1
    have e5 : (((N + 1 : Nat) : Int) == 0) = false := by simp; omega
    have e6 : decide (0 < ((N + 1 : Nat) : Int)) = true := decide_eq_true (by omega)
    obtain ⟨K1, G1⟩ := hT1
    have hB1 : Bd (c.withSweep l) := ⟨HB.out.sz, HB.out.w01, HB.out.dm, HB.out.pend⟩
    have d0' := G1.at_.cells.1
    rw [G1.cp, G1.p] at d0'
    have HKI := Lib.hid (kind_any G1.at_.mem hB1.sz.n x)
    have HCO := Lib.hid (colour_any G1.at_.mem hB1.sz.n x)
    have HDR := Lib.hid (drop_any G1.at_.mem hB1.sz.n x)
    have HOT := Lib.hid (other_same G1.at_ hB1.w01)
    have HSE := Lib.hid (cset_any G1.at_ hB1.sz.n x (c.withSweep l).white 0)
    have d3 := G1.at_.cells.2.2.2.1
    rw [G1.p] at HKI HCO HDR
    rw [G1.cp] at HOT HSE d3
    have HG1 := Lib.hid G1
    clear h p0 p1 hs hqv hpop hN hu G1 hB1
    by_cases k0 : c.m.kind x = 0
    · have e7 : ((c.withSweep l).m.kind x == 0) = true := by show (c.m.kind x == 0) = true; simp [k0]
      have HR := Lib.hid (show UnitTo allQ w K (unit c) (.returned (.tuple #[])) (w.setCell ⟨K.cp, 7, none⟩ (.slice (some ⟨g, tailAddr off cap, none⟩) N (cap - 1))) from ⟨rfl, by
        rw [HU.out]; unfold sweep1; rw [if_pos (show (c.withSweep l).m.kind x = 0 from k0)]; exact ⟨K1, HG1.out⟩⟩)
      clear k0
      go_enter Tryz.func108, Tryz.ntmps108
      go_wp2_with fail
      refine HKI.out.mono ?_
      rintro x2 w2 ⟨rfl, rfl⟩
      go_wp2_with fail
      first | go_end0 | refine bodyPost_ret (results_none rfl _ _ _) rfl ?_
      exact HR.out
    have e7 : ((c.withSweep l).m.kind x == 0) = false := by show (c.m.kind x == 0) = false; simp [k0]
    by_cases k1 : c.m.col x = other c
    · have e8 : ((c.withSweep l).m.col x == other (c.withSweep l)) = true := by show (c.m.col x == other c) = true; simp [k1]
      have HS1 := Lib.hid (show sweep1 (c.withSweep l) x = (c.withSweep l).withM (c.m.drop x) by unfold sweep1; rw [if_neg (show ¬ (c.withSweep l).m.kind x = 0 from k0), if_pos (show (c.withSweep l).m.col x = other (c.withSweep l) from k1)]; rfl)
      clear k0 k1
      go_enter Tryz.func108, Tryz.ntmps108
      go_wp2_with fail
      refine HKI.out.mono ?_
      rintro x2 w2 ⟨rfl, rfl⟩
      go_wp2_with fail
      refine HCO.out.mono ?_
      rintro x2 w2 ⟨rfl, rfl⟩
      go_wp2_with fail
      refine HOT.out.mono ?_
      rintro x2 w2 ⟨rfl, rfl⟩
      go_wp2_with fail
      refine HDR.out.mono ?_
      rintro x3 w3 ⟨rfl, hm, hk⟩
      have HR := Lib.hid (show UnitTo allQ w K (unit c) (.returned (.tuple #[])) w3 from ⟨rfl, by
        rw [HU.out, HS1.out]; exact HG1.out.to (HG1.out.at_.turnK hm hk)⟩)
      clear hm hk
      go_wp2_with fail
      first | go_end0 | refine bodyPost_ret (results_none rfl _ _ _) rfl ?_
      exact HR.out
    · have e8 : ((c.withSweep l).m.col x == other (c.withSweep l)) = false := by show (c.m.col x == other c) = false; simp [k1]
      have HS1 := Lib.hid (show sweep1 (c.withSweep l) x = setCA (c.withSweep l) x (c.withSweep l).white 0 by unfold sweep1; rw [if_neg (show ¬ (c.withSweep l).m.kind x = 0 from k0), if_neg (show ¬ (c.withSweep l).m.col x = other (c.withSweep l) from k1)])
      clear k0 k1
      go_enter Tryz.func108, Tryz.ntmps108
      go_wp2_with fail
      refine HKI.out.mono ?_
      rintro x2 w2 ⟨rfl, rfl⟩
      go_wp2_with fail
      refine HCO.out.mono ?_
      rintro x2 w2 ⟨rfl, rfl⟩
      go_wp2_with fail
      refine HOT.out.mono ?_
      rintro x2 w2 ⟨rfl, rfl⟩
      go_wp2_with fail
      refine HSE.out.mono ?_
      rintro x3 w3 ⟨rfl, hT⟩
      have HR := Lib.hid (show UnitTo allQ w K (unit c) (.returned (.tuple #[])) w3 from ⟨rfl, by
        rw [HU.out, HS1.out]; exact HG1.out.to hT.all⟩)
      clear hT
      go_wp2_with fail
      first | go_end0 | refine bodyPost_ret (results_none rfl _ _ _) rfl ?_
      exact HR.out
end Go.Proofs.YtminbemdcanakaaGreat
