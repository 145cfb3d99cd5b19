/- The document's Parse: the same answer. -/
import Derived.Test.YthncifbnkednlaaDoorScrParse
import Derived.Deep.RegionLaw
namespace Go.Proofs.YthncifbnkednlaaDoor
open Go.RowKit Go.Shelf
set_option linter.unusedVariables false
set_option linter.unusedSimpArgs false

/-- A scene under way, at q. -/
def SceneAt (W : World) (q : Nat) (x : Sc) (pv : Value) : Prop :=
  Box W q [.int .i64 x.size, .int .i64 x.steps, pv, .string (str x.src)] 25 ∧ W.ownsRow 0 43 2 pv x.pts.length (flatPt x.pts) ∧ ∀ k, pv.ownBlock = some k → q < k
theorem SceneAt.below {W W' : World} {q : Nat} {x : Sc} {pv : Value} (h : SceneAt W q x pv) (hb : Below W.heap.size W W') : SceneAt W' q x pv :=
  ⟨h.1.below hb h.1.lt, ownsRow_of_block h.2.1 fun k hk => hb.block k (h.2.1.lt k hk).2, h.2.2⟩
theorem SceneAt.shape {W : World} {q : Nat} {x : Sc} {pv : Value} (h : SceneAt W q x pv) : ∃ a n c, pv = .slice a n c := by
  rcases h.2.1.2 with ⟨rfl, h0⟩ | ⟨g, cap, cur, rfl, _⟩
  · exact ⟨_, _, _, rfl⟩
  · exact ⟨_, _, _, rfl⟩

theorem timesL_lt {more : Bool} {r : Bs} {m : Nat} (h : timesL more r = some m) : m < 1000000000 := by
  unfold timesL at h
  split at h
  · cases h; decide
  · split at h
    · cases h
    · split at h
      · split at h
        · rename_i hn
          split at h
          · cases h; exact (numL_lt hn).1
          · cases h
        · cases h
      · cases h
theorem lineP_lt {l : Bs} {k n m : Nat} (h : lineP l = some (k, n, m)) : m < 1000000000 := by
  unfold lineP at h
  simp only at h
  split at h
  · cases h
  · split at h
    · split at h
      · cases h
      · split at h
        · cases h
        · split at h
          · cases h
          · obtain ⟨q, hq, e⟩ := Option.map_eq_some_iff.1 h
            cases e
            exact timesL_lt hq
    · obtain ⟨q, hq, e⟩ := Option.map_eq_some_iff.1 h
      cases e
      exact timesL_lt hq

set_option maxRecDepth 100000 in
set_option maxHeartbeats 4000000 in
theorem rparse_any (s : ByteArray) (w : World) (hs : s.size ≤ 1000000) : Calls Tryd.prog 10 #[.string s] w fun e w' => ParseAns (parseD (bs s)) e w' ∧ Below w.heap.size w w' := by
  obtain ⟨r, hr⟩ : ∃ r, parseD (bs s) = r := ⟨_, rfl⟩
  rw [hr]
  have HR := Lib.hid hr
  have hb0 : Box (w.alloc (.cells #[.int .i64 0, .int .i64 0, .slice none 0 0, .string ByteArray.empty] 25)) w.heap.size [.int .i64 0, .int .i64 0, .slice none 0 0, .string ByteArray.empty] 25 := heap_alloc_new w _
  by_cases hlong : 73728 < s.size
  · rw [parseD_long (by rw [← size_bs]; exact hlong)] at hr
    subst hr
    have z0 := hb0.cell 0
    have z1 := hb0.cell 1
    have z2 := hb0.cell 2
    have z3 := hb0.cell 3
    simp only [List.getElem?_cons_zero, List.getElem?_cons_succ] at z0 z1 z2 z3
    clear hb0
    go_enter Tryd.func10, Tryd.ntmps10
    go_wp2_with fail
    refine bodyPost_ret (v := .tuple #[sceneV zeroSc (.slice none 0 0), .int .i64 0, .int .i64 3]) (by simp [results, Tryd.results10, go_sem, z0, z1, z2, z3]; rfl) rfl ⟨⟨.slice none 0 0, rfl, none, 0, rfl, fun j x e => by cases e⟩, ?_⟩
    exact below_alloc _ _
  · have hr := HR.out
    rw [parseD_rest (by rw [← size_bs]; exact hlong)] at hr
    have HR2 := Lib.hid hr
    clear hr
    go_enter Tryd.func10, Tryd.ntmps10
    go_wp2_with fail
    obtain ⟨q, hq⟩ : ∃ q, q = w.heap.size + 1 := ⟨_, rfl⟩
    rw [← hq]
    obtain ⟨W1, hW1⟩ : ∃ W, W = (w.alloc (.cells #[.int .i64 0, .int .i64 0, .slice none 0 0, .string { data := #[] }] 25)).alloc (.cells #[.int .i64 0, .int .i64 0, .slice none 0 0, .string { data := #[] }] 25) := ⟨_, rfl⟩
    have hra : SceneAt W1 q zeroSc (.slice none 0 0) := by
      refine ⟨?_, ⟨rfl, .inl ⟨rfl, rfl⟩⟩, fun k e => by cases e⟩
      have := Box.new (w.alloc (.cells #[.int .i64 0, .int .i64 0, .slice none 0 0, .string { data := #[] }] 25)) [.int .i64 0, .int .i64 0, .slice none 0 0, .string { data := #[] }] 25
      rw [show (w.alloc (.cells #[.int .i64 0, .int .i64 0, .slice none 0 0, .string { data := #[] }] 25)).heap.size = q by rw [hq]; simp] at this
      rw [hW1]
      exact this
    have hbx : Box W1 w.heap.size [.int .i64 0, .int .i64 0, .slice none 0 0, .string { data := #[] }] 25 := by
      rw [hW1]
      exact (Box.new w [.int .i64 0, .int .i64 0, .slice none 0 0, .string { data := #[] }] 25).alloc _
    have hbl : Below w.heap.size w W1 := by rw [hW1]; exact ((Below.refl _ w).alloc (Nat.le_refl _) _).alloc (by simp) _
    rw [← hW1]
    have HRA := Lib.hid hra
    have HBX := Lib.hid hbx
    have HBL := Lib.hid hbl
    have HQ0 := Lib.hid hq
    clear hra hbx hbl hW1 hq hb0
    go_loopw [0, 6, 7, 8, 9, 10, 11, 12, 13, 14] (fun t0 t6 t7 t8 t9 t10 t11 t12 t13 t14 wr => ∃ (rest : ByteArray) (i : Nat) (x : Sc) (pv : Value), t0 = .string rest ∧ t6 = .int .i64 i ∧ i + rest.size ≤ 73728 ∧ x.pts.length ≤ 4000 ∧ SceneAt wr q x pv ∧ Box wr w.heap.size [.int .i64 0, .int .i64 0, .slice none 0 0, .string { data := #[] }] 25 ∧ Below w.heap.size w wr ∧ restP i x (bs rest) = r) (fun t0 _ _ _ _ _ _ _ _ _ wr => match t0 with | .string s => s.size | _ => 0)
    case atStart => exact ⟨s, 0, zeroSc, .slice none 0 0, rfl, rfl, by omega, Nat.zero_le _, HRA.out, HBX.out, HBL.out, HR2.out⟩
    case round =>
      obtain ⟨rest, i, x, pv, rfl, rfl, hir, hxl, hra, hbx, hbl, hres⟩ := hrel
      clear HRA HBX HBL HR2
      obtain ⟨q1, q2, q3, hqq⟩ : ∃ q1 q2 q3, cut1 10 (bs rest) = (q1, q2, q3) := ⟨_, _, _, rfl⟩
      have hcut := rcut_any rest 10 wr (by omega)
      rw [hqq] at hcut
      simp only at hcut
      have HCUT := Lib.hid hcut
      have HQ := Lib.hid hqq
      have HRA := Lib.hid hra
      have HBX := Lib.hid hbx
      have HBL := Lib.hid hbl
      have HRES := Lib.hid hres
      clear hcut hqq hra hbx hbl hres
      go_wp2_with fail
      refine HCUT.out.mono ?_
      rintro e w2 ⟨rfl, hb2⟩
      have HRA2 := Lib.hid (HRA.out.below hb2)
      have HBX2 := Lib.hid (HBX.out.below hb2 HBX.out.lt)
      have HBL2 := Lib.hid (HBL.out.trans (hb2.mono HBL.out.size))
      clear hb2 HRA HBX HBL HCUT
      have z0 := HBX2.out.cell 0
      have z1 := HBX2.out.cell 1
      have z2 := HBX2.out.cell 2
      have z3 := HBX2.out.cell 3
      have y0 := HBX2.out.free 0
      have y1 := HBX2.out.free 1
      have y2 := HBX2.out.free 2
      have y3 := HBX2.out.free 3
      simp only [List.getElem?_cons_zero, List.getElem?_cons_succ] at z0 z1 z2 z3
      cases q3 with
      | false =>
        have hr := HRES.out
        rw [restP_no (by rw [HQ.out])] at hr
        subst hr
        go_wp2_with fail
        refine bodyPost_ret (v := .tuple #[sceneV zeroSc (.slice none 0 0), .int .i64 i, .int .i64 6]) (by simp [results, Tryd.results10, go_sem, sceneV, z0, z1, z2, z3]; exact ⟨rfl, rfl, rfl⟩) rfl ⟨⟨.slice none 0 0, rfl, none, 0, rfl, fun j x e => by cases e⟩, ?_⟩
        exact (((HBL2.out.setCell (p := ⟨w.heap.size, 0, none⟩) (Nat.le_refl _) _).setCell (p := ⟨w.heap.size, 1, none⟩) (Nat.le_refl _) _).setCell (p := ⟨w.heap.size, 2, none⟩) (Nat.le_refl _) _).setCell (p := ⟨w.heap.size, 3, none⟩) (Nat.le_refl _) _
      | true =>
        rcases (show i = 0 ∨ i = 1 ∨ 2 ≤ i by omega) with rfl | rfl | hi
        · have haf := rafter_any (str q1) (str [115, 105, 122, 101])
          have hql : q1.length ≤ 1000000 := by
            have := cut1_len1 10 (bs rest)
            rw [HQ.out, ← size_bs] at this
            simp only at this
            omega
          have HAF : Hid (∀ w, Calls Tryd.prog 20 #[.string (str q1), .string (str [115, 105, 122, 101])] w fun e w' => e = .returned (.int .i64 (aftR [115, 105, 122, 101] q1)) ∧ w' = w) := Lib.hid (fun w => haf w (by rw [size_bs, bs_str]; exact hql) (by decide))
          clear haf
          have hbA := below_alloc w2 (.cells #[.string { data := #[115, 105, 122, 101] }, .string { data := #[115, 116, 101, 112, 115] }] 9)
          have HRA3 := Lib.hid (HRA2.out.below hbA)
          have HBX3 := Lib.hid (HBX2.out.below hbA HBX2.out.lt)
          have HBL3 := Lib.hid (HBL2.out.trans (hbA.mono HBL2.out.size))
          clear hbA z0 z1 z2 z3 y0 y1 y2 y3
          go_wp2_with fail
          refine (HAF.out _).mono ?_
          rintro e w3 ⟨rfl, rfl⟩
          generalize w2.alloc (.cells #[.string { data := #[115, 105, 122, 101] }, .string { data := #[115, 116, 101, 112, 115] }] 9) = W3 at *
          have z0 := HBX3.out.cell 0
          have z1 := HBX3.out.cell 1
          have z2 := HBX3.out.cell 2
          have z3 := HBX3.out.cell 3
          have y0 := HBX3.out.free 0
          have y1 := HBX3.out.free 1
          have y2 := HBX3.out.free 2
          have y3 := HBX3.out.free 3
          simp only [List.getElem?_cons_zero, List.getElem?_cons_succ] at z0 z1 z2 z3
          cases hst : afterL sizeW q1 with
          | none =>
            have hr := HRES.out
            rw [restP_err (e := 6) (by rw [HQ.out]) (by rw [HQ.out]; unfold lineStep; rw [if_pos rfl]; simp only; rw [hst])] at hr
            subst hr
            rw [show aftR [115, 105, 122, 101] q1 = -1 from by unfold aftR; rw [show ([115, 105, 122, 101] ++ [32] : Bs) = sizeW from rfl, hst]]
            clear hst
            go_wp2_with fail
            refine bodyPost_ret (v := .tuple #[sceneV zeroSc (.slice none 0 0), .int .i64 0, .int .i64 6]) (by simp [results, Tryd.results10, go_sem, sceneV, z0, z1, z2, z3]; exact ⟨rfl, rfl, rfl⟩) rfl ⟨⟨.slice none 0 0, rfl, none, 0, rfl, fun j x e => by cases e⟩, ?_⟩
            exact (((HBL3.out.setCell (p := ⟨w.heap.size, 0, none⟩) (Nat.le_refl _) _).setCell (p := ⟨w.heap.size, 1, none⟩) (Nat.le_refl _) _).setCell (p := ⟨w.heap.size, 2, none⟩) (Nat.le_refl _) _).setCell (p := ⟨w.heap.size, 3, none⟩) (Nat.le_refl _) _
          | some m =>
            rw [show aftR [115, 105, 122, 101] q1 = m from by unfold aftR; rw [show ([115, 105, 122, 101] ++ [32] : Bs) = sizeW from rfl, hst]]
            by_cases hrg : m < 1 ∨ 65536 < m
            · have hr := HRES.out
              rw [restP_err (e := 7) (by rw [HQ.out]) (by rw [HQ.out]; unfold lineStep; rw [if_pos rfl]; simp only; rw [hst]; simp only; rw [if_pos hrg])] at hr
              subst hr
              clear hst
              rcases hrg with h1 | h1
              · go_wp2_with fail
                refine bodyPost_ret (v := .tuple #[sceneV zeroSc (.slice none 0 0), .int .i64 0, .int .i64 7]) (by simp [results, Tryd.results10, go_sem, sceneV, z0, z1, z2, z3]; exact ⟨rfl, rfl, rfl⟩) rfl ⟨⟨.slice none 0 0, rfl, none, 0, rfl, fun j x e => by cases e⟩, ?_⟩
                exact (((HBL3.out.setCell (p := ⟨w.heap.size, 0, none⟩) (Nat.le_refl _) _).setCell (p := ⟨w.heap.size, 1, none⟩) (Nat.le_refl _) _).setCell (p := ⟨w.heap.size, 2, none⟩) (Nat.le_refl _) _).setCell (p := ⟨w.heap.size, 3, none⟩) (Nat.le_refl _) _
              · have h2 : ¬ m < 1 := by omega
                go_wp2_with fail
                refine bodyPost_ret (v := .tuple #[sceneV zeroSc (.slice none 0 0), .int .i64 0, .int .i64 7]) (by simp [results, Tryd.results10, go_sem, sceneV, z0, z1, z2, z3]; exact ⟨rfl, rfl, rfl⟩) rfl ⟨⟨.slice none 0 0, rfl, none, 0, rfl, fun j x e => by cases e⟩, ?_⟩
                exact (((HBL3.out.setCell (p := ⟨w.heap.size, 0, none⟩) (Nat.le_refl _) _).setCell (p := ⟨w.heap.size, 1, none⟩) (Nat.le_refl _) _).setCell (p := ⟨w.heap.size, 2, none⟩) (Nat.le_refl _) _).setCell (p := ⟨w.heap.size, 3, none⟩) (Nat.le_refl _) _
            · have hr := HRES.out
              rw [restP_next (y := { x with size := m }) (by rw [HQ.out]) (by rw [HQ.out]; unfold lineStep; rw [if_pos rfl]; simp only; rw [hst]; simp only; rw [if_neg hrg]), HQ.out] at hr
              simp only at hr
              have HRR := Lib.hid hr
              have h1 : ¬ m < 1 := by omega
              have h2 : ¬ 65536 < m := by omega
              clear hr hst hrg
              have hq2 := (cut1_len 10 (bs rest)).2 (by rw [HQ.out])
              rw [HQ.out, ← size_bs] at hq2
              simp only at hq2
              have c0 := HRA3.out.1.cell 0
              have f0 := HRA3.out.1.free 0
              simp only [List.getElem?_cons_zero] at c0
              have HRA4 : Hid (SceneAt (W3.setCell ⟨q, 0, none⟩ (.int .i64 m)) q { x with size := m } pv) := Lib.hid ⟨HRA3.out.1.set 0 _, ownsRow_of_block HRA3.out.2.1 fun k e => Below.heap_setCell W3 ⟨q, 0, none⟩ _ k (by have := HRA3.out.2.2 k e; show k ≠ q; omega), HRA3.out.2.2⟩
              have HBX4 := Lib.hid (HBX3.out.setOther ⟨q, 0, none⟩ (by have := HQ0.out; show w.heap.size ≠ q; omega) (.int .i64 m))
              have HBL4 := Lib.hid (HBL3.out.setCell (p := ⟨q, 0, none⟩) (by have := HQ0.out; show w.heap.size ≤ q; omega) (.int .i64 m))
              by_cases h20 : 20000 < m
              · go_wp2_with fail
                go_roundw
                case rel => exact ⟨str q2, 1, { x with size := m }, pv, rfl, by go_num, by rw [size_bs, bs_str]; omega, hxl, HRA4.out, HBX4.out, HBL4.out, HRR.out⟩
                case measure => show (str q2).size < rest.size; rw [size_bs, bs_str]; omega
              · go_wp2_with fail
                go_roundw
                case rel => exact ⟨str q2, 1, { x with size := m }, pv, rfl, by go_num, by rw [size_bs, bs_str]; omega, hxl, HRA4.out, HBX4.out, HBL4.out, HRR.out⟩
                case measure => show (str q2).size < rest.size; rw [size_bs, bs_str]; omega
        · have haf := rafter_any (str q1) (str [115, 116, 101, 112, 115])
          have hql : q1.length ≤ 1000000 := by
            have := cut1_len1 10 (bs rest)
            rw [HQ.out, ← size_bs] at this
            simp only at this
            omega
          have HAF : Hid (∀ w, Calls Tryd.prog 20 #[.string (str q1), .string (str [115, 116, 101, 112, 115])] w fun e w' => e = .returned (.int .i64 (aftR [115, 116, 101, 112, 115] q1)) ∧ w' = w) := Lib.hid (fun w => haf w (by rw [size_bs, bs_str]; exact hql) (by decide))
          clear haf
          have hbA := below_alloc w2 (.cells #[.string { data := #[115, 105, 122, 101] }, .string { data := #[115, 116, 101, 112, 115] }] 9)
          have HRA3 := Lib.hid (HRA2.out.below hbA)
          have HBX3 := Lib.hid (HBX2.out.below hbA HBX2.out.lt)
          have HBL3 := Lib.hid (HBL2.out.trans (hbA.mono HBL2.out.size))
          clear hbA z0 z1 z2 z3 y0 y1 y2 y3
          go_wp2_with fail
          refine (HAF.out _).mono ?_
          rintro e w3 ⟨rfl, rfl⟩
          generalize w2.alloc (.cells #[.string { data := #[115, 105, 122, 101] }, .string { data := #[115, 116, 101, 112, 115] }] 9) = W3 at *
          have z0 := HBX3.out.cell 0
          have z1 := HBX3.out.cell 1
          have z2 := HBX3.out.cell 2
          have z3 := HBX3.out.cell 3
          have y0 := HBX3.out.free 0
          have y1 := HBX3.out.free 1
          have y2 := HBX3.out.free 2
          have y3 := HBX3.out.free 3
          simp only [List.getElem?_cons_zero, List.getElem?_cons_succ] at z0 z1 z2 z3
          cases hst : afterL stepsW q1 with
          | none =>
            have hr := HRES.out
            rw [restP_err (e := 6) (by rw [HQ.out]) (by rw [HQ.out]; unfold lineStep; rw [if_neg (by decide), if_pos rfl]; simp only; rw [hst])] at hr
            subst hr
            rw [show aftR [115, 116, 101, 112, 115] q1 = -1 from by unfold aftR; rw [show ([115, 116, 101, 112, 115] ++ [32] : Bs) = stepsW from rfl, hst]]
            clear hst
            go_wp2_with fail
            refine bodyPost_ret (v := .tuple #[sceneV zeroSc (.slice none 0 0), .int .i64 1, .int .i64 6]) (by simp [results, Tryd.results10, go_sem, sceneV, z0, z1, z2, z3]; exact ⟨rfl, rfl, rfl⟩) rfl ⟨⟨.slice none 0 0, rfl, none, 0, rfl, fun j x e => by cases e⟩, ?_⟩
            exact (((HBL3.out.setCell (p := ⟨w.heap.size, 0, none⟩) (Nat.le_refl _) _).setCell (p := ⟨w.heap.size, 1, none⟩) (Nat.le_refl _) _).setCell (p := ⟨w.heap.size, 2, none⟩) (Nat.le_refl _) _).setCell (p := ⟨w.heap.size, 3, none⟩) (Nat.le_refl _) _
          | some m =>
            rw [show aftR [115, 116, 101, 112, 115] q1 = m from by unfold aftR; rw [show ([115, 116, 101, 112, 115] ++ [32] : Bs) = stepsW from rfl, hst]]
            by_cases hrg : 20000 < m
            · have hr := HRES.out
              rw [restP_err (e := 7) (by rw [HQ.out]) (by rw [HQ.out]; unfold lineStep; rw [if_neg (by decide), if_pos rfl]; simp only; rw [hst]; simp only; rw [if_pos hrg])] at hr
              subst hr
              clear hst
              go_wp2_with fail
              refine bodyPost_ret (v := .tuple #[sceneV zeroSc (.slice none 0 0), .int .i64 1, .int .i64 7]) (by simp [results, Tryd.results10, go_sem, sceneV, z0, z1, z2, z3]; exact ⟨rfl, rfl, rfl⟩) rfl ⟨⟨.slice none 0 0, rfl, none, 0, rfl, fun j x e => by cases e⟩, ?_⟩
              exact (((HBL3.out.setCell (p := ⟨w.heap.size, 0, none⟩) (Nat.le_refl _) _).setCell (p := ⟨w.heap.size, 1, none⟩) (Nat.le_refl _) _).setCell (p := ⟨w.heap.size, 2, none⟩) (Nat.le_refl _) _).setCell (p := ⟨w.heap.size, 3, none⟩) (Nat.le_refl _) _
            · have hr := HRES.out
              rw [restP_next (y := { x with steps := m }) (by rw [HQ.out]) (by rw [HQ.out]; unfold lineStep; rw [if_neg (by decide), if_pos rfl]; simp only; rw [hst]; simp only; rw [if_neg hrg]), HQ.out] at hr
              simp only at hr
              have HRR := Lib.hid hr
              clear hr hst
              have hq2 := (cut1_len 10 (bs rest)).2 (by rw [HQ.out])
              rw [HQ.out, ← size_bs] at hq2
              simp only at hq2
              have c0 := HRA3.out.1.cell 1
              have f0 := HRA3.out.1.free 1
              simp only [List.getElem?_cons_zero, List.getElem?_cons_succ] at c0
              have HRA4 : Hid (SceneAt (W3.setCell ⟨q, 1, none⟩ (.int .i64 m)) q { x with steps := m } pv) := Lib.hid ⟨HRA3.out.1.set 1 _, ownsRow_of_block HRA3.out.2.1 fun k e => Below.heap_setCell W3 ⟨q, 1, none⟩ _ k (by have := HRA3.out.2.2 k e; show k ≠ q; omega), HRA3.out.2.2⟩
              have HBX4 := Lib.hid (HBX3.out.setOther ⟨q, 1, none⟩ (by have := HQ0.out; show w.heap.size ≠ q; omega) (.int .i64 m))
              have HBL4 := Lib.hid (HBL3.out.setCell (p := ⟨q, 1, none⟩) (by have := HQ0.out; show w.heap.size ≤ q; omega) (.int .i64 m))
              go_wp2_with fail
              go_roundw
              case rel => exact ⟨str q2, 2, { x with steps := m }, pv, rfl, by go_num, by rw [size_bs, bs_str]; omega, hxl, HRA4.out, HBX4.out, HBL4.out, HRR.out⟩
              case measure => show (str q2).size < rest.size; rw [size_bs, bs_str]; omega
        · have he0 : ((i : Int) == 0) = false := by rw [beq_eq_false_iff_ne]; omega
          have he1 : ((i : Int) == 1) = false := by rw [beq_eq_false_iff_ne]; omega
          have hql : q1.length ≤ 1000000 := by
            have := cut1_len1 10 (bs rest)
            rw [HQ.out, ← size_bs] at this
            simp only at this
            omega
          have hq2 := (cut1_len 10 (bs rest)).2 (by rw [HQ.out])
          rw [HQ.out, ← size_bs] at hq2
          simp only at hq2
          have hsz : (str q2).size = q2.length := by rw [size_bs, bs_str]
          have hse : ((str q1).toList == ([115, 111, 117, 114, 99, 101] : List UInt8)) = decide (q1 = sourceW) := by
            rw [ByteArray.toList_eq]
            show (q1 == sourceW) = _
            rw [Bool.eq_iff_iff, beq_iff_eq, decide_eq_true_iff]
          obtain ⟨pa, pn, pc, rfl⟩ := HRA2.out.shape
          have HBX3 := HBX2
          have HBL3 := HBL2
          by_cases hsrc : q1 = sourceW
          · rw [decide_eq_true hsrc] at hse
            have hr := HRES.out
            rw [restP_done (by rw [HQ.out]) (by rw [HQ.out]; exact lineStep_src hi hsrc), HQ.out] at hr
            simp only at hr
            clear hsrc
            by_cases hbig : 8192 < q2.length
            · rw [if_pos hbig] at hr
              subst hr
              go_wp2_with fail
              refine bodyPost_ret (v := .tuple #[sceneV zeroSc (.slice none 0 0), .int .i64 i, .int .i64 3]) (by simp [results, Tryd.results10, go_sem, sceneV, z0, z1, z2, z3]; exact ⟨rfl, rfl, rfl⟩) rfl ⟨⟨.slice none 0 0, rfl, none, 0, rfl, fun j x e => by cases e⟩, ?_⟩
              exact (((HBL3.out.setCell (p := ⟨w.heap.size, 0, none⟩) (Nat.le_refl _) _).setCell (p := ⟨w.heap.size, 1, none⟩) (Nat.le_refl _) _).setCell (p := ⟨w.heap.size, 2, none⟩) (Nat.le_refl _) _).setCell (p := ⟨w.heap.size, 3, none⟩) (Nat.le_refl _) _
            · rw [if_neg hbig] at hr
              subst hr
              have hb := HRA2.out.1.set 3 (.string (str q2))
              have d0 := hb.cell 0
              have d1 := hb.cell 1
              have d2 := hb.cell 2
              have d3 := hb.cell 3
              simp only [List.set_cons_zero, List.set_cons_succ, List.getElem?_cons_zero, List.getElem?_cons_succ] at d0 d1 d2 d3
              have x3 := HRA2.out.1.cell 3
              have xf3 := HRA2.out.1.free 3
              simp only [List.getElem?_cons_zero, List.getElem?_cons_succ] at x3
              have hne' : w.heap.size ≠ q := by have := HQ0.out; omega
              have hbz := HBX2.out.setOther ⟨q, 3, none⟩ (by show w.heap.size ≠ q; exact hne') (.string (str q2))
              have v0 := hbz.cell 0
              have v1 := hbz.cell 1
              have v2 := hbz.cell 2
              have v3 := hbz.cell 3
              have g0 := hbz.free 0
              have g1 := hbz.free 1
              have g2 := hbz.free 2
              have g3 := hbz.free 3
              simp only [List.getElem?_cons_zero, List.getElem?_cons_succ] at v0 v1 v2 v3
              clear hb hbz
              have HOW : Hid ((w2.setCell ⟨q, 3, none⟩ (.string (str q2))).ownsRow 0 43 2 (.slice pa pn pc) x.pts.length (flatPt x.pts)) := Lib.hid (ownsRow_of_block HRA2.out.2.1 fun k e => Below.heap_setCell w2 ⟨q, 3, none⟩ _ k (by have := HRA2.out.2.2 k e; show k ≠ q; omega))
              go_wp2_with fail
              refine bodyPost_ret (v := .tuple #[sceneV { x with src := q2 } (.slice pa pn pc), .int .i64 0, .int .i64 0]) (by simp [results, Tryd.results10, go_sem, sceneV, str_bs, d0, d1, d2, d3, v0, v1, v2, v3, hne']) rfl ⟨⟨.slice pa pn pc, rfl, ?_⟩, ?_⟩
              · refine own_pts (ownsRow_of_block (w := w2.setCell ⟨q, 3, none⟩ (.string (str q2))) HOW.out fun k e => ?_)
                have hq := HRA2.out.2.2 k e
                have hp := HQ0.out
                have hqn : k ≠ w.heap.size := by omega
                exact (Below.heap_setCell _ ⟨w.heap.size, 3, none⟩ _ k hqn).trans ((Below.heap_setCell _ ⟨w.heap.size, 2, none⟩ _ k hqn).trans ((Below.heap_setCell _ ⟨w.heap.size, 1, none⟩ _ k hqn).trans (Below.heap_setCell _ ⟨w.heap.size, 0, none⟩ _ k hqn)))
              · have hp := HQ0.out
                exact ((((HBL2.out.setCell (p := ⟨q, 3, none⟩) (by show w.heap.size ≤ q; omega) _).setCell (p := ⟨w.heap.size, 0, none⟩) (Nat.le_refl _) _).setCell (p := ⟨w.heap.size, 1, none⟩) (Nat.le_refl _) _).setCell (p := ⟨w.heap.size, 2, none⟩) (Nat.le_refl _) _).setCell (p := ⟨w.heap.size, 3, none⟩) (Nat.le_refl _) _
          · rw [decide_eq_false hsrc] at hse
            have HS := Lib.hid hsrc
            have HLC := Lib.hid (rline_any (str q1) w2 (by rw [size_bs, bs_str]; exact hql))
            clear hsrc z0 z1 z2 z3 y0 y1 y2 y3
            go_wp2_with fail
            refine HLC.out.mono ?_
            rintro e w3 ⟨⟨a, b, n, rfl, hans⟩, hb3⟩
            have HRA3 := Lib.hid (HRA2.out.below hb3)
            have HBX4 := Lib.hid (HBX2.out.below hb3 HBX2.out.lt)
            have HBL4 := Lib.hid (HBL2.out.trans (hb3.mono HBL2.out.size))
            clear hb3 HRA2 HBX2 HBL2 HBX3 HBL3 HLC
            cases hlp : lineP q1 with
            | none =>
              rw [bs_str, hlp] at hans
              simp only at hans
              subst hans
              have hr := HRES.out
              rw [restP_err (e := 6) (by rw [HQ.out]) (by rw [HQ.out]; exact lineStep_none hi HS.out hlp)] at hr
              subst hr
              have hbA := below_alloc w3 (.cells #[.int .i64 a, .int .i64 b] 43)
              have HBX2 := Lib.hid (HBX4.out.below hbA HBX4.out.lt)
              have HBL3 := Lib.hid (HBL4.out.trans (hbA.mono HBL4.out.size))
              have z0 := HBX2.out.cell 0
              have z1 := HBX2.out.cell 1
              have z2 := HBX2.out.cell 2
              have z3 := HBX2.out.cell 3
              have y0 := HBX2.out.free 0
              have y1 := HBX2.out.free 1
              have y2 := HBX2.out.free 2
              have y3 := HBX2.out.free 3
              simp only [List.getElem?_cons_zero, List.getElem?_cons_succ] at z0 z1 z2 z3
              clear hbA hlp
              go_wp2_with fail
              refine bodyPost_ret (v := .tuple #[sceneV zeroSc (.slice none 0 0), .int .i64 i, .int .i64 6]) (by simp [results, Tryd.results10, go_sem, sceneV, z0, z1, z2, z3]; exact ⟨rfl, rfl, rfl⟩) rfl ⟨⟨.slice none 0 0, rfl, none, 0, rfl, fun j x e => by cases e⟩, ?_⟩
              exact (((HBL3.out.setCell (p := ⟨w.heap.size, 0, none⟩) (Nat.le_refl _) _).setCell (p := ⟨w.heap.size, 1, none⟩) (Nat.le_refl _) _).setCell (p := ⟨w.heap.size, 2, none⟩) (Nat.le_refl _) _).setCell (p := ⟨w.heap.size, 3, none⟩) (Nat.le_refl _) _
            | some t =>
              obtain ⟨k, N, m⟩ := t
              rw [bs_str, hlp] at hans
              simp only at hans
              obtain ⟨rfl, rfl, rfl⟩ := hans
              have hr := HRES.out
              have hm1 := lineP_pos hlp
              have HMB := Lib.hid (lineP_lt hlp)
              have hls := lineStep_some (x := x) hi HS.out hlp
              have HLS := Lib.hid hls
              clear hr hls hlp
              have hne0 : ((m : Int) == 0) = false := by rw [beq_eq_false_iff_ne]; omega
              go_upto_region 26 with fail
              obtain ⟨W2, hW2⟩ : ∃ W, W = w3.alloc (.cells #[.int .i64 k, .int .i64 N] 43) := ⟨_, rfl⟩
              obtain ⟨bp, hbp⟩ : ∃ b, b = w3.heap.size := ⟨_, rfl⟩
              have HPX : Hid (Box W2 bp [.int .i64 k, .int .i64 N] 43) := Lib.hid (by rw [hW2, hbp]; exact heap_alloc_new w3 _)
              have hb4 : Below w3.heap.size w3 W2 := by rw [hW2]; exact below_alloc _ _
              rw [← hW2, ← hbp]
              have HR2 := Lib.hid (HRA3.out.below hb4)
              have HOB : Hid (∀ q, (Value.slice pa pn pc).ownBlock = some q → q ≠ bp) := Lib.hid (fun q e => by have := (HRA3.out.2.1.lt q e).2; omega)
              have HBX3 := Lib.hid (HBX4.out.below hb4 HBX4.out.lt)
              have HBL3 := Lib.hid (HBL4.out.trans (hb4.mono HBL4.out.size))
              have HPB : Hid (q < bp) := Lib.hid (by rw [hbp]; exact HRA3.out.1.lt)
              clear hW2 hbp hb4 HRA3 HBX4 HBL4
              obtain ⟨L, hL⟩ : ∃ L, L = x.pts.length := ⟨_, rfl⟩
              have HLL := Lib.hid hL
              obtain rfl : pn = L := by
                rcases HR2.out.2.1.2 with ⟨h, h0⟩ | ⟨g, cap, cur, h, _⟩
                · cases h; omega
                · cases h; exact hL.symm
              rw [← hL] at hxl
              have c0 := HR2.out.1.cell 0
              have c1 := HR2.out.1.cell 1
              have c2 := HR2.out.1.cell 2
              have c3 := HR2.out.1.cell 3
              simp only [List.getElem?_cons_zero, List.getElem?_cons_succ] at c0 c1 c2 c3
              have z0 := HBX3.out.cell 0
              have z1 := HBX3.out.cell 1
              have z2 := HBX3.out.cell 2
              have z3 := HBX3.out.cell 3
              have y0 := HBX3.out.free 0
              have y1 := HBX3.out.free 1
              have y2 := HBX3.out.free 2
              have y3 := HBX3.out.free 3
              simp only [List.getElem?_cons_zero, List.getElem?_cons_succ] at z0 z1 z2 z3
              clear hL
              have hmb : m < 1000000000 := HMB.out
              by_cases hbig : 4000 < pn + m
              · have hr := HRES.out
                rw [restP_err (e := 4) (by rw [HQ.out]) (by rw [HQ.out]; exact HLS.out.trans (if_pos (by rw [← HLL.out]; exact hbig)))] at hr
                subst hr
                have g1 : (4000 : Int) < (pn : Int) + m := by omega
                clear hbig
                go_wp2_with fail
                refine bodyPost_ret (v := .tuple #[sceneV zeroSc (.slice none 0 0), .int .i64 i, .int .i64 4]) (by simp [results, Tryd.results10, go_sem, sceneV, z0, z1, z2, z3]; exact ⟨rfl, rfl, rfl⟩) rfl ⟨⟨.slice none 0 0, rfl, none, 0, rfl, fun j x e => by cases e⟩, ?_⟩
                exact (((HBL3.out.setCell (p := ⟨w.heap.size, 0, none⟩) (Nat.le_refl _) _).setCell (p := ⟨w.heap.size, 1, none⟩) (Nat.le_refl _) _).setCell (p := ⟨w.heap.size, 2, none⟩) (Nat.le_refl _) _).setCell (p := ⟨w.heap.size, 3, none⟩) (Nat.le_refl _) _
              · have hr := HRES.out
                rw [restP_next (y := { x with pts := x.pts ++ List.replicate m (k, N) }) (by rw [HQ.out]) (by rw [HQ.out]; exact HLS.out.trans (if_neg (by rw [← HLL.out]; exact hbig))), HQ.out] at hr
                simp only at hr
                have g1 : ¬ ((4000 : Int) < (pn : Int) + m) := by omega
                have HLM := Lib.hid (show pn + m ≤ 4000 by omega)
                have HRR := Lib.hid hr
                clear hr hbig
                go_wp2_with fail
                have HPA := Lib.hid HR2.out
                clear c0 c1 c2 c3 g1 z0 z1 z2 z3 y0 y1 y2 y3
                obtain ⟨i0, hi0, hzz0, hzz1, hzz2⟩ := info_parts Tryd.infoN43
                have HI0 := Lib.hid hi0
                clear hi0
                go_loopw [14] (fun t14 wr => ∃ (j : Nat) (pv : Value), j ≤ m ∧ t14 = .int .i64 j ∧ SceneAt wr q { x with pts := x.pts ++ List.replicate j (k, N) } pv ∧ Box wr bp [.int .i64 k, .int .i64 N] 43 ∧ Box wr w.heap.size [.int .i64 0, .int .i64 0, .slice none 0 0, .string { data := #[] }] 25 ∧ Below w.heap.size w wr ∧ ∀ q, pv.ownBlock = some q → q ≠ bp) (fun t14 _ => m - (intOf t14).toNat)
                case atStart =>
                  refine ⟨0, .slice pa pn pc, Nat.zero_le _, rfl, ?_, HPX.out, HBX3.out, HBL3.out, HOB.out⟩
                  have := HR2.out
                  simpa using this
                case round =>
                  obtain ⟨j, pv, hj, rfl, hra, hpx, hbx, hbl, hob⟩ := hrel
                  clear HPX HBX3 HBL3 HPA HOB
                  have HBL := Lib.hid hbl
                  have HRA := Lib.hid hra
                  have HPX := Lib.hid hpx
                  have HBX := Lib.hid hbx
                  have HOQ := Lib.hid hob
                  have c2 := HRA.out.1.cell 2
                  have f2' := HRA.out.1.free 2
                  simp only [List.getElem?_cons_zero, List.getElem?_cons_succ] at c2
                  obtain ⟨x0, x1, -, -⟩ := hpx.cells2
                  clear hra hpx hbx hbl hob
                  have hm4 : m ≤ 4000 := by have := HLM.out; omega
                  by_cases hlt : j < m
                  · have HLN : Hid ((x.pts ++ List.replicate j (k, N)).length + 1 ≤ 4000) := Lib.hid (by have := HLM.out; have := HLL.out; rw [List.length_append, List.length_replicate]; omega)
                    have HAFT : Hid (∀ (Wa w3 : World) (v3 : Value), Below wr.heap.size wr Wa → Wa.grownBy w3 pv.ownBlock → (v3.ownBlock = pv.ownBlock ∨ v3.ownBlock = some Wa.heap.size) → w3.ownsRow 0 43 2 v3 ((x.pts ++ List.replicate j (k, N)).length + 1) (flatPt (x.pts ++ List.replicate j (k, N)) ++ [.int .i64 k, .int .i64 N]) →
                        (w3.cell? ⟨q, 2, none⟩ = some pv ∧ w3.frozen? ⟨q, 2, none⟩ = false) ∧ SceneAt (w3.setCell ⟨q, 2, none⟩ v3) q { x with pts := x.pts ++ List.replicate (j + 1) (k, N) } v3 ∧ Box (w3.setCell ⟨q, 2, none⟩ v3) bp [.int .i64 k, .int .i64 N] 43 ∧ Box (w3.setCell ⟨q, 2, none⟩ v3) w.heap.size [.int .i64 0, .int .i64 0, .slice none 0 0, .string { data := #[] }] 25 ∧ Below w.heap.size w (w3.setCell ⟨q, 2, none⟩ v3) ∧ ∀ q, v3.ownBlock = some q → q ≠ bp) := by
                      refine Lib.hid (fun Wa w3 v3 hb hg hv ho => ?_)
                      have hk : ∀ q, q < wr.heap.size → pv.ownBlock ≠ some q → w3.heap[q]? = wr.heap[q]? := fun q h1 h2 => (hg.block q (Nat.lt_of_lt_of_le h1 hb.size) (fun e => h2 e.symm)).trans (hb.block q h1)
                      have hpne : pv.ownBlock ≠ some q := fun e => by have := HRA.out.2.2 q e; omega
                      have hbne : pv.ownBlock ≠ some bp := fun e => HOQ.out bp e rfl
                      have hqz := HQ0.out
                      have hwne : pv.ownBlock ≠ some w.heap.size := fun e => by have := HRA.out.2.2 _ e; omega
                      have hbp3 := HRA.out.1.of_block (hk q HRA.out.1.lt hpne)
                      have hpx3 := HPX.out.of_block (hk bp HPX.out.lt hbne)
                      have hbx3 := HBX.out.of_block (hk _ HBX.out.lt hwne)
                      have hpl := HRA.out.1.lt
                      have hbl := HPX.out.lt
                      have hpb := HPB.out
                      have hvq : ∀ g, v3.ownBlock = some g → q < g ∧ g ≠ bp := by
                        intro g e
                        rcases hv with h | h
                        · rw [h] at e; exact ⟨HRA.out.2.2 g e, HOQ.out g e⟩
                        · rw [h] at e; cases e; have := hb.size; exact ⟨by omega, by omega⟩
                      refine ⟨⟨hbp3.cell 2, hbp3.free 2⟩, ⟨hbp3.set 2 v3, ?_, fun g e => (hvq g e).1⟩, hpx3.setOther ⟨q, 2, none⟩ (by show bp ≠ q; omega) v3, hbx3.setOther ⟨q, 2, none⟩ (by show w.heap.size ≠ q; omega) v3, ?_, fun g e => (hvq g e).2⟩
                      · refine ownsRow_of_block ?_ fun g e => Below.heap_setCell w3 ⟨q, 2, none⟩ v3 g (by have := (hvq g e).1; show g ≠ q; omega)
                        have e1 : x.pts ++ List.replicate (j + 1) (k, N) = (x.pts ++ List.replicate j (k, N)) ++ [(k, N)] := by rw [List.replicate_succ', List.append_assoc]
                        show w3.ownsRow 0 _ 2 v3 (x.pts ++ List.replicate (j + 1) (k, N)).length (flatPt (x.pts ++ List.replicate (j + 1) (k, N)))
                        rw [e1, flatPt_snoc, List.length_append]
                        exact ho
                      · refine Below.setCell (p := ⟨q, 2, none⟩) ?_ (by show w.heap.size ≤ q; omega) _
                        refine HBL.out.trans ?_
                        exact (hb.mono HBL.out.size).trans ⟨hg.os, hg.tape, hg.output, hg.size, fun g hq => hg.block g (by have := hb.size; have := HBL.out.size; omega) (fun e => by have := HRA.out.2.2 g e.symm; omega)⟩
                    have f2 : (wr.alloc (.cells #[.int .i64 k, .int .i64 N] 43)).cell? ⟨q, 2, none⟩ = some pv := ((below_alloc wr _).cell HRA.out.1.lt).trans c2
                    go_wp2_with (at_builtin; refine wpList_append_row rfl _ _ 23 rfl 43 i0 (.agg #[.int .i64 0, .int .i64 0]) 2 16 Tryd.underlying23 HI0.out hzz0 hzz1 hzz2 rfl (by decide) pv (x.pts ++ List.replicate j (k, N)).length (flatPt (x.pts ++ List.replicate j (k, N))) rfl (row_up' HRA.out.2.1 (by repeat (first | exact Below.refl _ _ | refine Below.alloc ?_ (by first | (simp; done) | (simp; omega)) _ | refine below_drewN ?_ _ | refine Below.drew ?_ | refine Below.setCell ?_ (by first | (simp; done) | (simp; omega)) _))) ⟨wr.heap.size, 0, none⟩ 1 1 [.int .i64 k, .int .i64 N] rfl rfl (cell_new2 wr [.int .i64 k, .int .i64 N] 43) (one2 _ _) (Nat.le_trans HLN.out (by decide)) (by have := HLN.out; omega) ?_)
                    intro v3 w3 hown3 hg3 hb3
                    rw [show x.pts.length + j = (x.pts ++ List.replicate j (k, N)).length from by rw [List.length_append, List.length_replicate]] at hown3
                    obtain ⟨g3, c3, rfl⟩ := row_succ' hown3
                    obtain ⟨⟨k3, e3⟩, hfin⟩ := HAFT.out _ w3 _ (by repeat (first | exact Below.refl _ _ | refine Below.alloc ?_ (by first | (simp; done) | (simp; omega)) _ | refine below_drewN ?_ _ | refine Below.drew ?_ | refine Below.setCell ?_ (by first | (simp; done) | (simp; omega)) _)) hg3 (by simpa using hb3) hown3
                    have HF2 := hfin
                    rw [List.length_append, List.length_replicate] at HF2
                    replace HF2 := Lib.hid HF2
                    clear hown3 hg3 hb3 hfin
                    go_wp2_with fail
                    go_roundw
                    case rel => exact ⟨j + 1, _, by omega, by go_num, HF2.out⟩
                    case measure => simp [intOf]; omega
                  · obtain rfl : j = m := by omega
                    go_wp2_with fail
                    go_roundw
                    case rel => exact ⟨str q2, i + 1, { x with pts := x.pts ++ List.replicate j (k, N) }, pv, rfl, by go_num, by rw [size_bs, bs_str]; omega, by have := HLM.out; have := HLL.out; rw [List.length_append, List.length_replicate]; omega, HRA.out, HBX.out, HBL.out, HRR.out⟩
                    case measure => show (str q2).size < rest.size; rw [size_bs, bs_str]; omega
end Go.Proofs.YthncifbnkednlaaDoor
