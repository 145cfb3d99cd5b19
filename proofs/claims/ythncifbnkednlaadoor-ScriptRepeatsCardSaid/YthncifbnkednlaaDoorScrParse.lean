/- script.Parse: what it computes. -/
import Derived.Test.YthncifbnkednlaaDoorScrPts
import Derived.Test.YthncifbnkednlaaDoorScrPoint
namespace Go.Proofs.YthncifbnkednlaaDoor
open Go.RowKit Go.Shelf
set_option linter.unusedVariables false
set_option linter.unusedSimpArgs false
attribute [local go_sem] run_store_func

/-- What Parse answers: the scene's cells, the line, the error. -/
def ParseAns (r : Sc × Nat × Nat) (e : Ending) (w' : World) : Prop := ∃ pv, e = .returned (.tuple #[sceneV r.1 pv, .int .i64 r.2.1, .int .i64 r.2.2]) ∧ PtsV w' pv r.1.pts

theorem own_pts {W : World} {base : Nat} {e : TypeId} {v : Value} {pts : List (Nat × Nat)} (h : W.ownsRow base e 2 v pts.length (flatPt pts)) : PtsV W v pts := by
  rcases h.2 with ⟨rfl, h0⟩ | ⟨g, cap, cur, rfl, _, hg, _, _, _, ht⟩
  · refine ⟨none, 0, by rw [h0], fun j x e => ?_⟩
    have := (List.getElem?_eq_some_iff.1 e).1
    omega
  · refine ⟨some ⟨g, 0, none⟩, cap, rfl, fun j x e => ⟨g, rfl, ?_, ?_⟩⟩
    all_goals
      obtain ⟨h1, h2⟩ := flatPt_at pts j x e
      rw [← ht] at h1 h2
      have hj := (List.getElem?_eq_some_iff.1 e).1
      simp only [World.cell?, hg]
      rw [List.getElem?_take] at h1 h2
      simp at h1 h2 ⊢
      first | exact h1.2 | exact h2.2

theorem ReadAt.shape {W : World} {p : Nat} {x : Sc} {ph : Nat} {dn : Bool} {pv : Value} (h : ReadAt W p x ph dn pv) : ∃ a n c, pv = .slice a n c := by
  rcases h.2.1.2 with ⟨rfl, h0⟩ | ⟨g, cap, cur, rfl, _⟩
  · exact ⟨_, _, _, rfl⟩
  · exact ⟨_, _, _, rfl⟩

/-- A round of the reader: the method for line i. -/
theorem step_any {w : World} {p i : Nat} {x : Sc} {pv : Value} (line : ByteArray) (h : ReadAt w p x i false pv) (hs : line.size ≤ 1000000) (hl : x.pts.length ≤ 4000) (he : Env w) (hp9 : 9 ≤ p) :
    Calls Tryd.prog (if i = 0 then 17 else if i = 1 then 33 else 42) #[.pointer (some ⟨p, 0, none⟩), .string line] w fun e w' => StepAns p i (lineStep i x (bs line)) e w' ∧ Below p w w' := by
  by_cases h0 : i = 0
  · subst h0; rw [if_pos rfl]; exact size_any line h hs
  · by_cases h1 : i = 1
    · subst h1; rw [if_neg (by decide), if_pos rfl]; exact steps_any line h hs
    · rw [if_neg h0, if_neg h1]
      exact points_any point_any line h (by omega) hs hl he hp9

theorem StepAns.num {p ph : Nat} {r : Except Nat (Sc × Bool)} {e : Ending} {w' : World} (h : StepAns p ph r e w') : ∃ n : Int, e = .returned (.int .i64 n) := by
  unfold StepAns at h
  split at h
  · exact ⟨_, h⟩
  · exact ⟨_, h.1⟩

theorem Env.belowP {w w' : World} {p : Nat} (h : Env w) (hb : Below p w w') (hp : 9 ≤ p) : Env w' := by
  have hk : ∀ (g i : Nat), g < 9 → w'.cell? ⟨g, i, none⟩ = w.cell? ⟨g, i, none⟩ := fun g i hg => World.cell?_of_block (w := w) (hb.block g (by omega))
  exact ⟨fun k b e => (hk 0 _ (by omega)).trans (h.word k b e), fun k b e => (hk 0 _ (by omega)).trans (h.max k b e), h.len.imp fun m e => (hk 1 _ (by omega)).trans e, Nat.le_trans h.size hb.size⟩
theorem lineStep_err {i c : Nat} {x : Sc} {l : Bs} (h : lineStep i x l = .error c) : c = 4 ∨ c = 6 ∨ c = 7 := by
  unfold lineStep at h
  repeat' split at h
  all_goals (first | (cases h; omega) | cases h)

theorem lineStep_pts {i : Nat} {x y : Sc} {l : Bs} {d : Bool} (h : lineStep i x l = .ok (y, d)) (hx : x.pts.length ≤ 4000) : y.pts.length ≤ 4000 := by
  unfold lineStep at h
  split at h
  · split at h
    · cases h
    · split at h
      · cases h
      · cases h; exact hx
  · split at h
    · split at h
      · cases h
      · split at h
        · cases h
        · cases h; exact hx
    · split at h
      · cases h; exact hx
      · split at h
        · cases h
        · split at h
          · cases h
          · cases h
            rw [List.length_append, List.length_replicate]
            omega

def fnum (i : Nat) : Nat := if i = 0 then 17 else if i = 1 then 33 else 42
theorem nextV_eq (p i : Nat) : nextV p i = .func (.func (fnum i)) #[.pointer (some ⟨p, 0, none⟩)] #[] := rfl

set_option maxRecDepth 100000 in
set_option maxHeartbeats 4000000 in
theorem parse_any (s : ByteArray) (w : World) (hs : s.size ≤ 1000000) (he : Env w) : Calls Tryd.prog 9 #[.string s] w fun e w' => ParseAns (parseD (bs s)) e w' ∧ Below w.heap.size w w' := by
  obtain ⟨r, hr⟩ : ∃ r, parseD (bs s) = r := ⟨_, rfl⟩
  rw [hr]
  have HR := Lib.hid hr
  have hb0 : Box (w.alloc (.cells #[.int .i64 0, .int .i64 0, .slice none 0 0, .string ByteArray.empty] 25)) w.heap.size [.int .i64 0, .int .i64 0, .slice none 0 0, .string ByteArray.empty] 25 := heap_alloc_new w _
  by_cases hlong : 73728 < s.size
  · rw [parseD_long (by rw [← size_bs]; exact hlong)] at hr
    subst hr
    have z0 := hb0.cell 0
    have z1 := hb0.cell 1
    have z2 := hb0.cell 2
    have z3 := hb0.cell 3
    simp only [List.getElem?_cons_zero, List.getElem?_cons_succ] at z0 z1 z2 z3
    clear hb0
    go_enter Tryd.func9, Tryd.ntmps9
    go_wp2_with fail
    refine bodyPost_ret (v := .tuple #[sceneV zeroSc (.slice none 0 0), .int .i64 0, .int .i64 3]) (by simp [results, Tryd.results9, go_sem, z0, z1, z2, z3]; rfl) rfl ⟨⟨.slice none 0 0, rfl, none, 0, rfl, fun j x e => by cases e⟩, ?_⟩
    exact below_alloc _ _
  · have hr := HR.out
    rw [parseD_rest (by rw [← size_bs]; exact hlong)] at hr
    have HR2 := Lib.hid hr
    have hb1 : Box ((w.alloc (.cells #[.int .i64 0, .int .i64 0, .slice none 0 0, .string ByteArray.empty] 25)).alloc (.cells #[.int .i64 0, .int .i64 0, .slice none 0 0, .string ByteArray.empty, .nilFunc, .bool false] 49)) (w.heap.size + 1) [.int .i64 0, .int .i64 0, .slice none 0 0, .string ByteArray.empty, .nilFunc, .bool false] 49 := by
      have := Box.new (w.alloc (.cells #[.int .i64 0, .int .i64 0, .slice none 0 0, .string ByteArray.empty] 25)) [.int .i64 0, .int .i64 0, .slice none 0 0, .string ByteArray.empty, .nilFunc, .bool false] 49
      rw [show (w.alloc (.cells #[.int .i64 0, .int .i64 0, .slice none 0 0, .string ByteArray.empty] 25)).heap.size = w.heap.size + 1 by simp] at this
      exact this
    have q4 := hb1.cell 4
    have q4' := hb1.free 4
    simp only [List.getElem?_cons_zero, List.getElem?_cons_succ] at q4
    clear hr
    go_enter Tryd.func9, Tryd.ntmps9
    go_wp2_with fail
    obtain ⟨p, hp⟩ : ∃ p, p = w.heap.size + 1 := ⟨_, rfl⟩
    rw [← hp] at hb1 q4 q4' ⊢
    obtain ⟨W1, hW1⟩ : ∃ W, W = (w.alloc (.cells #[.int .i64 0, .int .i64 0, .slice none 0 0, .string { data := #[] }] 25)).alloc (.cells #[.int .i64 0, .int .i64 0, .slice none 0 0, .string { data := #[] }, .func (.func 17) #[.pointer (some ⟨p, 0, none⟩)] #[], .bool false] 49) := ⟨_, rfl⟩
    have hra : ReadAt W1 p zeroSc 0 false (.slice none 0 0) := by
      refine ⟨?_, ⟨rfl, .inl ⟨rfl, rfl⟩⟩, fun k e => by cases e⟩
      have := Box.new (w.alloc (.cells #[.int .i64 0, .int .i64 0, .slice none 0 0, .string { data := #[] }] 25)) [.int .i64 0, .int .i64 0, .slice none 0 0, .string { data := #[] }, .func (.func 17) #[.pointer (some ⟨p, 0, none⟩)] #[], .bool false] 49
      rw [show (w.alloc (.cells #[.int .i64 0, .int .i64 0, .slice none 0 0, .string { data := #[] }] 25)).heap.size = p by rw [hp]; simp] at this
      rw [hW1]
      exact this
    have hbx : Box W1 w.heap.size [.int .i64 0, .int .i64 0, .slice none 0 0, .string { data := #[] }] 25 := by
      rw [hW1]
      exact (Box.new w [.int .i64 0, .int .i64 0, .slice none 0 0, .string { data := #[] }] 25).alloc _
    have hbl : Below w.heap.size w W1 := by rw [hW1]; exact ((Below.refl _ w).alloc (Nat.le_refl _) _).alloc (by simp) _
    have hen : Env W1 := he.below hbl
    rw [← hW1]
    have HRA := Lib.hid hra
    have HBX := Lib.hid hbx
    have HBL := Lib.hid hbl
    have HEN := Lib.hid hen
    have HP := Lib.hid hp
    have HP9 : Hid (9 ≤ p) := Lib.hid (by have := he.size; omega)
    clear hra hbx hbl hen hW1 hp hb0 hb1 q4 q4' he
    go_loopw [0, 6, 7, 8, 9, 10] (fun t0 t6 t7 t8 t9 t10 wr => ∃ (rest : ByteArray) (i : Nat) (x : Sc) (pv : Value) (dn : Bool), t0 = .string rest ∧ t6 = .int .i64 i ∧ i + rest.size ≤ 73728 ∧ x.pts.length ≤ 4000 ∧ ReadAt wr p x i dn pv ∧ Env wr ∧ Box wr w.heap.size [.int .i64 0, .int .i64 0, .slice none 0 0, .string { data := #[] }] 25 ∧ Below w.heap.size w wr ∧
      (if dn = true then r = ({ x with src := bs rest }, 0, 0) else restP i x (bs rest) = r)) (fun t0 _ _ _ _ _ wr => match t0 with | .string s => s.size | _ => 0)
    case atStart => exact ⟨s, 0, zeroSc, .slice none 0 0, false, rfl, rfl, by omega, Nat.zero_le _, HRA.out, HEN.out, HBX.out, HBL.out, HR2.out⟩
    case round =>
      obtain ⟨rest, i, x, pv, dn, rfl, rfl, hir, hxl, hra, hen, hbx, hbl, hres⟩ := hrel
      clear HRA HBX HBL HEN HR2
      obtain ⟨pa, pn, pc, rfl⟩ := hra.shape
      obtain ⟨c0, c1, c2, c3, c4, c5⟩ := hra.1.cells6
      obtain ⟨f0, f1, f2, f3, f4, f5⟩ := hra.1.frz6
      have z0 := hbx.cell 0
      have z1 := hbx.cell 1
      have z2 := hbx.cell 2
      have z3 := hbx.cell 3
      simp only [List.getElem?_cons_zero, List.getElem?_cons_succ] at z0 z1 z2 z3
      have HRA := Lib.hid hra
      have HEN := Lib.hid hen
      have HBX := Lib.hid hbx
      have HBL := Lib.hid hbl
      have hne : p ≠ w.heap.size := by rw [HP.out]; omega
      clear hra hen hbx hbl
      cases dn with
      | true =>
        rw [if_pos rfl] at hres
        subst hres
        have hb := HRA.out.1.set 3 (.string rest)
        have d0 := hb.cell 0
        have d1 := hb.cell 1
        have d2 := hb.cell 2
        have d3 := hb.cell 3
        simp only [List.set_cons_zero, List.set_cons_succ, List.getElem?_cons_zero, List.getElem?_cons_succ] at d0 d1 d2 d3
        have hbz := HBX.out.setOther ⟨p, 3, none⟩ (by show w.heap.size ≠ p; exact hne.symm) (.string rest)
        have y0 := hbz.cell 0
        have y1 := hbz.cell 1
        have y2 := hbz.cell 2
        have y3 := hbz.cell 3
        have g0 := hbz.free 0
        have g1 := hbz.free 1
        have g2 := hbz.free 2
        have g3 := hbz.free 3
        simp only [List.getElem?_cons_zero, List.getElem?_cons_succ] at y0 y1 y2 y3
        clear hb hbz
        have hne' : w.heap.size ≠ p := hne.symm
        have HOW : Hid ((wr.setCell ⟨p, 3, none⟩ (.string rest)).ownsRow 0 43 2 (.slice pa pn pc) x.pts.length (flatPt x.pts)) := Lib.hid (ownsRow_of_block HRA.out.2.1 fun q e => Below.heap_setCell wr ⟨p, 3, none⟩ _ q (by have := HRA.out.2.2 q e; show q ≠ p; omega))
        go_wp2_with fail
        refine bodyPost_ret (v := .tuple #[sceneV { x with src := bs rest } (.slice pa pn pc), .int .i64 0, .int .i64 0]) (by simp [results, Tryd.results9, go_sem, sceneV, str_bs, d0, d1, d2, d3, y0, y1, y2, y3, hne']) rfl ⟨⟨.slice pa pn pc, rfl, ?_⟩, ?_⟩
        · refine own_pts (ownsRow_of_block (w := wr.setCell ⟨p, 3, none⟩ (.string rest)) HOW.out fun q e => ?_)
          have hq := HRA.out.2.2 q e
          have hp := HP.out
          have hqn : q ≠ w.heap.size := by omega
          exact (Below.heap_setCell _ ⟨w.heap.size, 3, none⟩ _ q hqn).trans ((Below.heap_setCell _ ⟨w.heap.size, 2, none⟩ _ q hqn).trans ((Below.heap_setCell _ ⟨w.heap.size, 1, none⟩ _ q hqn).trans (Below.heap_setCell _ ⟨w.heap.size, 0, none⟩ _ q hqn)))
        · have hp := HP.out
          exact ((((HBL.out.setCell (p := ⟨p, 3, none⟩) (by show w.heap.size ≤ p; omega) _).setCell (p := ⟨w.heap.size, 0, none⟩) (Nat.le_refl _) _).setCell (p := ⟨w.heap.size, 1, none⟩) (Nat.le_refl _) _).setCell (p := ⟨w.heap.size, 2, none⟩) (Nat.le_refl _) _).setCell (p := ⟨w.heap.size, 3, none⟩) (Nat.le_refl _) _
      | false =>
        rw [if_neg (by decide)] at hres
        have HRES := Lib.hid hres
        clear hres
        obtain ⟨q1, q2, q3, hq⟩ : ∃ q1 q2 q3, cut1 10 (bs rest) = (q1, q2, q3) := ⟨_, _, _, rfl⟩
        obtain ⟨mx, hmx⟩ := HEN.out.len
        have hcut := Tryd.strings_Cut rest (str [10]) mx wr (by omega) hmx
        rw [show Lib.cut rest.data.toList (str [10]).data.toList = (q1, q2, q3) from (cut_one 10 (bs rest)).trans hq] at hcut
        have HCUT := Lib.hid hcut
        have HQ := Lib.hid hq
        clear hcut hq hmx
        go_wp2_with fail
        refine HCUT.out.mono ?_
        rintro e w2 ⟨rfl, nd, rfl⟩
        have hbq := below_drewN (Below.refl wr.heap.size wr) nd
        have HRA3 := Lib.hid (HRA.out.below hbq)
        have HEN3 := Lib.hid (HEN.out.below hbq)
        have HBX3 := Lib.hid (HBX.out.below hbq HBX.out.lt)
        have HBL3 := Lib.hid (HBL.out.trans (hbq.mono HBL.out.size))
        clear HRA HEN HBX HBL hbq c0 c1 c2 c3 c4 c5 f0 f1 f2 f3 f4 f5 z0 z1 z2 z3 HCUT
        generalize wr.drewN nd = W3 at *
        obtain ⟨c0, c1, c2, c3, c4, c5⟩ := HRA3.out.1.cells6
        have z0 := HBX3.out.cell 0
        have z1 := HBX3.out.cell 1
        have z2 := HBX3.out.cell 2
        have z3 := HBX3.out.cell 3
        have y0 := HBX3.out.free 0
        have y1 := HBX3.out.free 1
        have y2 := HBX3.out.free 2
        have y3 := HBX3.out.free 3
        simp only [List.getElem?_cons_zero, List.getElem?_cons_succ] at z0 z1 z2 z3
        cases q3 with
        | false =>
          have hr := HRES.out
          rw [restP_no (by rw [HQ.out])] at hr
          subst hr
          go_wp2_with fail
          refine bodyPost_ret (v := .tuple #[sceneV zeroSc (.slice none 0 0), .int .i64 i, .int .i64 6]) (by simp [results, Tryd.results9, go_sem, sceneV, z0, z1, z2, z3]; exact ⟨rfl, rfl, rfl⟩) rfl ⟨⟨.slice none 0 0, rfl, none, 0, rfl, fun j x e => by cases e⟩, ?_⟩
          exact (((HBL3.out.setCell (p := ⟨w.heap.size, 0, none⟩) (Nat.le_refl _) _).setCell (p := ⟨w.heap.size, 1, none⟩) (Nat.le_refl _) _).setCell (p := ⟨w.heap.size, 2, none⟩) (Nat.le_refl _) _).setCell (p := ⟨w.heap.size, 3, none⟩) (Nat.le_refl _) _
        | true =>
          have hq1 : q1.length ≤ 1000000 := by
            have := cut1_len1 10 (bs rest)
            rw [HQ.out, ← size_bs] at this
            simp only at this
            omega
          have HST := Lib.hid (step_any (str q1) HRA3.out (by rw [size_bs, bs_str]; exact hq1) hxl HEN3.out HP9.out)
          rw [nextV_eq] at c4
          go_upto_region 11 with fail
          go_cut [10] (fun t10 wx => ∃ e, t10 = .int .i64 e ∧ StepAns p i (lineStep i x q1) (.returned (.int .i64 e)) wx ∧ Below p W3 wx)
          case first =>
            rcases (show i = 0 ∨ i = 1 ∨ 2 ≤ i by omega) with rfl | rfl | hi
            · rw [show fnum 0 = 17 from rfl] at c4
              have hst := HST.out
              rw [(if_pos rfl)] at hst
              have HS2 := Lib.hid hst
              clear hst
              go_wp2_with fail
              refine HS2.out.mono ?_
              rintro e w5 ⟨hans, hb5⟩
              obtain ⟨n, rfl⟩ := hans.num
              have HAN := Lib.hid hans
              have HB5 := Lib.hid hb5
              clear hans hb5
              go_wp2_with fail
              go_meet
              case rel => exact ⟨n, rfl, HAN.out, HB5.out⟩
            · rw [show fnum 1 = 33 from rfl] at c4
              have hst := HST.out
              rw [((if_neg (by decide)).trans (if_pos rfl))] at hst
              have HS2 := Lib.hid hst
              clear hst
              go_wp2_with fail
              refine HS2.out.mono ?_
              rintro e w5 ⟨hans, hb5⟩
              obtain ⟨n, rfl⟩ := hans.num
              have HAN := Lib.hid hans
              have HB5 := Lib.hid hb5
              clear hans hb5
              go_wp2_with fail
              go_meet
              case rel => exact ⟨n, rfl, HAN.out, HB5.out⟩
            · rw [show fnum i = 42 from (if_neg (by omega)).trans (if_neg (by omega))] at c4
              have hst := HST.out
              rw [((if_neg (by omega)).trans (if_neg (by omega)))] at hst
              have HS2 := Lib.hid hst
              clear hst
              go_wp2_with fail
              refine HS2.out.mono ?_
              rintro e w5 ⟨hans, hb5⟩
              obtain ⟨n, rfl⟩ := hans.num
              have HAN := Lib.hid hans
              have HB5 := Lib.hid hb5
              clear hans hb5
              go_wp2_with fail
              go_meet
              case rel => exact ⟨n, rfl, HAN.out, HB5.out⟩
          case rest =>
            obtain ⟨n, rfl, hans, hb5⟩ := hcut
            have hpw : w.heap.size < p := by rw [HP.out]; omega
            have HEN5 := Lib.hid (HEN3.out.belowP hb5 HP9.out)
            have HBX5 := Lib.hid (HBX3.out.below hb5 hpw)
            have HBL5 := Lib.hid (HBL3.out.trans (hb5.mono (Nat.le_of_lt hpw)))
            clear hb5 c0 c1 c2 c3 c4 c5 z0 z1 z2 z3 y0 y1 y2 y3 hpw HBX3 HBL3 HEN3
            have z0 := HBX5.out.cell 0
            have z1 := HBX5.out.cell 1
            have z2 := HBX5.out.cell 2
            have z3 := HBX5.out.cell 3
            have y0 := HBX5.out.free 0
            have y1 := HBX5.out.free 1
            have y2 := HBX5.out.free 2
            have y3 := HBX5.out.free 3
            simp only [List.getElem?_cons_zero, List.getElem?_cons_succ] at z0 z1 z2 z3
            cases hst : lineStep i x q1 with
            | error c =>
              rw [hst] at hans
              have hn : n = c := by unfold StepAns at hans; cases hans; rfl
              subst hn
              have hr := HRES.out
              rw [restP_err (by rw [HQ.out]) (by rw [HQ.out]; exact hst)] at hr
              subst hr
              have hce := lineStep_err hst
              have hc0 : (((c : Nat) : Int) == 0) = false := by rw [beq_eq_false_iff_ne]; omega
              have hc1 : ¬ ((c : Nat) : Int) = 0 := by omega
              have hc2 : ¬ c = 0 := by omega
              clear hst hans hce
              go_wp2_with fail
              refine bodyPost_ret (v := .tuple #[sceneV zeroSc (.slice none 0 0), .int .i64 i, .int .i64 c]) (by simp [results, Tryd.results9, go_sem, sceneV, z0, z1, z2, z3]; exact ⟨rfl, rfl, rfl⟩) rfl ⟨⟨.slice none 0 0, rfl, none, 0, rfl, fun j x e => by cases e⟩, ?_⟩
              exact (((HBL5.out.setCell (p := ⟨w.heap.size, 0, none⟩) (Nat.le_refl _) _).setCell (p := ⟨w.heap.size, 1, none⟩) (Nat.le_refl _) _).setCell (p := ⟨w.heap.size, 2, none⟩) (Nat.le_refl _) _).setCell (p := ⟨w.heap.size, 3, none⟩) (Nat.le_refl _) _
            | ok yd =>
              obtain ⟨y, d⟩ := yd
              rw [hst] at hans
              obtain ⟨hn, pv2, hra⟩ := hans
              obtain rfl : n = 0 := by cases hn; rfl
              have hy := lineStep_pts hst hxl
              have hq2 := (cut1_len 10 (bs rest)).2 (by rw [HQ.out])
              rw [HQ.out, ← size_bs] at hq2
              simp only at hq2
              have hsz : (⟨q2.toArray⟩ : ByteArray).size = q2.length := by show (str q2).size = _; rw [size_bs, bs_str]
              obtain ⟨c0, c1, c2, c3, c4, c5⟩ := hra.1.cells6
              have HRA5 := Lib.hid hra
              clear hra hn
              cases d with
              | true =>
                have hr := HRES.out
                rw [restP_done (by rw [HQ.out]) (by rw [HQ.out]; exact hst), HQ.out] at hr
                simp only at hr
                clear hst
                by_cases hbig : 8192 < q2.length
                · rw [if_pos hbig] at hr
                  subst hr
                  go_wp2_with fail
                  refine bodyPost_ret (v := .tuple #[sceneV zeroSc (.slice none 0 0), .int .i64 i, .int .i64 3]) (by simp [results, Tryd.results9, go_sem, sceneV, z0, z1, z2, z3]; exact ⟨rfl, rfl, rfl⟩) rfl ⟨⟨.slice none 0 0, rfl, none, 0, rfl, fun j x e => by cases e⟩, ?_⟩
                  exact (((HBL5.out.setCell (p := ⟨w.heap.size, 0, none⟩) (Nat.le_refl _) _).setCell (p := ⟨w.heap.size, 1, none⟩) (Nat.le_refl _) _).setCell (p := ⟨w.heap.size, 2, none⟩) (Nat.le_refl _) _).setCell (p := ⟨w.heap.size, 3, none⟩) (Nat.le_refl _) _
                · rw [if_neg hbig] at hr
                  have HRR := Lib.hid hr.symm
                  clear hr
                  go_wp2_with fail
                  go_roundw
                  case rel => exact ⟨str q2, i + 1, y, pv2, true, rfl, by go_num, by rw [size_bs, bs_str]; omega, hy, HRA5.out, HEN5.out, HBX5.out, HBL5.out, HRR.out⟩
                  case measure => show (str q2).size < rest.size; rw [size_bs, bs_str]; omega
              | false =>
                have hr := HRES.out
                rw [restP_next (by rw [HQ.out]) (by rw [HQ.out]; exact hst), HQ.out] at hr
                simp only at hr
                have HRR := Lib.hid hr
                clear hr hst
                go_wp2_with fail
                go_roundw
                case rel => exact ⟨str q2, i + 1, y, pv2, false, rfl, by go_num, by rw [size_bs, bs_str]; omega, hy, HRA5.out, HEN5.out, HBX5.out, HBL5.out, HRR.out⟩
                case measure => show (str q2).size < rest.size; rw [size_bs, bs_str]; omega
end Go.Proofs.YthncifbnkednlaaDoor
