/- CollectMem: objects that are a graph's answer any calls as the document says: the law returns true for every graph and all calls. -/
import Derived.Test.YtminbemdcanakaaGreatRows
import Derived.Test.YtminbemdcanakaaGreatMR
import Derived.Test.YtminbemdcanakaaGreatMO
namespace Go.Proofs.YtminbemdcanakaaGreat.collectMem
open Go.ChangeShapes Go.WideShapes Go.ChangeAt Go.RowKit Go.Shelf
set_option linter.unusedVariables false
set_option linter.unusedSimpArgs false

theorem own : ownKnob Tryz.prog.godebug = none := by kernel_rfl

theorem _root_.Go.Proofs.YtminbemdcanakaaGreat.Sz.added {M : Mm} (h : Sz M) {o : Ob} (hn : M.obs.length + 1 ≤ 100000) (ho : o.slots.length ≤ 100000) : Sz (M.added o) := by
  unfold Mm.added
  split
  · rename_i hr
    unfold rightT at hr
    rw [Bool.and_eq_true, Bool.and_eq_true] at hr
    obtain ⟨⟨-, h2⟩, h3⟩ := hr
    have h2 := of_decide_eq_true h2
    have h3 := of_decide_eq_true h3
    refine ⟨by show (M.obs ++ [some (newOb o)]).length ≤ _; simp; omega, h.r, fun o2 ho2 => ?_⟩
    rcases List.mem_append.1 (show some o2 ∈ M.obs ++ [some (newOb o)] from ho2) with e | e
    · exact h.s o2 e
    · rw [List.mem_singleton] at e
      cases e
      exact ⟨ho, h2.2.2.2.2.1, by show o.array ≤ _; omega⟩
  · exact h
theorem added_len (M : Mm) (o : Ob) : (M.added o).obs.length ≤ M.obs.length + 1 := by
  unfold Mm.added
  split
  · show (M.obs ++ [some (newOb o)]).length ≤ _; simp
  · omega
theorem call_cells {W : World} {ad : Addr} {l : List (CallV × Value)} {j : Nat} {x : CallV × Value} (hc : ∀ k u, (l.flatMap callL)[k]? = some u → W.cell? (ad.add k) = some u) (hx : l[j]? = some x) :
    W.cell? (ad.add (j * 11)) = some (.int .i64 x.1.kind) ∧ W.cell? ⟨(ad.add (j * 11)).block, (ad.add (j * 11)).off + 1, none⟩ = some (.int .i64 x.1.h) ∧ W.cell? ⟨(ad.add (j * 11)).block, (ad.add (j * 11)).off + 2, none⟩ = some (.int .i64 x.1.n) ∧ W.cell? ⟨(ad.add (j * 11)).block, (ad.add (j * 11)).off + 3, none⟩ = some (.int .i64 x.1.v.t) ∧ W.cell? ⟨(ad.add (j * 11)).block, (ad.add (j * 11)).off + 4, none⟩ = some (.int .i64 x.1.v.n) ∧
    W.cell? ⟨(ad.add (j * 11)).block, (ad.add (j * 11)).off + 5, none⟩ = some (.int .i64 x.1.t.kind) ∧ W.cell? ⟨(ad.add (j * 11)).block, (ad.add (j * 11)).off + 6, none⟩ = some (.int .i64 x.1.t.weak) ∧ W.cell? ⟨(ad.add (j * 11)).block, (ad.add (j * 11)).off + 7, none⟩ = some (.int .i64 x.1.t.array) ∧ W.cell? ⟨(ad.add (j * 11)).block, (ad.add (j * 11)).off + 8, none⟩ = some x.2 ∧ W.cell? ⟨(ad.add (j * 11)).block, (ad.add (j * 11)).off + 9, none⟩ = some (.int .i64 x.1.t.fin) ∧ W.cell? ⟨(ad.add (j * 11)).block, (ad.add (j * 11)).off + 10, none⟩ = some (.bool x.1.key) := by
  have f := fun k (hk : k < 11) u (hu : (callL x)[k]? = some u) => hc (j * 11 + k) u ((flat_at (f := callL) (n := 11) (fun _ => rfl) l j x hx k hk).trans hu)
  exact ⟨f 0 (by decide) _ rfl, cell_more (k := 0) (f 1 (by decide) _ rfl), cell_more (k := 1) (f 2 (by decide) _ rfl), cell_more (k := 2) (f 3 (by decide) _ rfl), cell_more (k := 3) (f 4 (by decide) _ rfl), cell_more (k := 4) (f 5 (by decide) _ rfl), cell_more (k := 5) (f 6 (by decide) _ rfl), cell_more (k := 6) (f 7 (by decide) _ rfl), cell_more (k := 7) (f 8 (by decide) _ rfl), cell_more (k := 8) (f 9 (by decide) _ rfl), cell_more (k := 9) (f 10 (by decide) _ rfl)⟩
def Sm (n : Nat) (M : Mm) : Prop := M.obs.length ≤ n ∧ Sz M
theorem Sm.mono {n m : Nat} {M : Mm} (h : Sm n M) (hn : n ≤ m) : Sm m M := ⟨Nat.le_trans h.1 hn, h.2⟩
theorem Sm.lk {n : Nat} {M M' : Mm} (h : Sm n M) (k : Lk M M') : Sm n M' := ⟨by rw [k.len]; exact h.1, k.sz h.2⟩
theorem Sm.added {n : Nat} {M : Mm} (h : Sm (60 + n) M) {o : Ob} (hn : n ≤ 1000) (ho : o.slots.length ≤ 100000) : Sm (61 + n) (M.added o) := ⟨by have := added_len M o; have := h.1; omega, h.2.added (by have := h.1; omega) ho⟩
theorem Sm.drop {n : Nat} {M : Mm} (h : Sm n M) (x : Int) : Sm n (M.drop x) := ⟨by rw [drop_len]; exact h.1, drop_sz h.2 x⟩
theorem lk_set (M : Mm) (h i : Int) (v : V) : Lk M (M.set h i v) := by
  unfold Mm.set
  split
  · exact Lk.upd _ _ _ fun o => by show (_, _, _, _) = (_, _, _, _); simp
  · exact Lk.refl _
theorem newM_some {ts : List (Ob × Value)} {roots : List V} {M : Mm} (h : newM (ts.map Prod.fst) roots = some M) (hf : Few ts roots) : Sm 60 M := by
  unfold newM at h
  split at h
  · rename_i hr
    cases h
    have hl : ((ts.map Prod.fst).map fun o => some (newOb o)).length = ts.length := by simp
    refine ⟨by show ((ts.map Prod.fst).map fun o => some (newOb o)).length ≤ _; rw [hl]; exact hf.1, ⟨by show ((ts.map Prod.fst).map fun o => some (newOb o)).length ≤ _; rw [hl]; have := hf.1; omega, by have := hf.2.1; show roots.length ≤ _; omega, fun o ho => ?_⟩⟩
    obtain ⟨o2, ho2, e⟩ := List.mem_map.1 (show some o ∈ (ts.map Prod.fst).map fun o => some (newOb o) from ho)
    obtain ⟨⟨o3, sv⟩, ho3, rfl⟩ := List.mem_map.1 ho2
    cases e
    have h1 := hf.2.2 o3 sv ho3
    have h2 := List.all_eq_true.1 hr.2 o3 (List.mem_map.2 ⟨_, ho3, rfl⟩)
    unfold rightT at h2
    rw [Bool.and_eq_true, Bool.and_eq_true] at h2
    have h3 := of_decide_eq_true h2.1.2
    have h4 := of_decide_eq_true h2.2
    exact ⟨by show o3.slots.length ≤ _; omega, h3.2.2.2.2.1, by show o3.array ≤ _; omega⟩
  · cases h
variable {w : World}
set_option maxRecDepth 100000 in
set_option maxHeartbeats 16000000 in
theorem walk (tv rv : Value) (ts : List (Ob × Value)) (roots : List V) (cv : Value) (l : List (CallV × Value)) (w : World) (hg : GrAt w tv rv ts roots) (h1 : ts.length ≤ big) (h2 : roots.length ≤ big) (h3 : ∀ o sv, (o, sv) ∈ ts → o.slots.length ≤ big) (hc : CallsAt w cv l) :
    Calls Tryz.prog 3 #[.agg #[tv, rv], cv] w fun e w' => e = .returned (.bool true) ∧ Below w.heap.size w w' := by
  obtain ⟨ca, cc, rfl⟩ := rd_slice hc.rd
  obtain ⟨N, hN⟩ : ∃ N, N = l.length := ⟨_, rfl⟩
  have hb0 := below_alloc w (.cells #[tv, rv] 25)
  have hbx := Box.new w [tv, rv] 25
  obtain ⟨W0, hW0⟩ : ∃ W, W = w.alloc (.cells #[tv, rv] 25) := ⟨_, rfl⟩
  rw [← hW0] at hb0
  have hbx0 : Box W0 w.heap.size [tv, rv] 25 := by rw [hW0]; exact hbx
  have HX := Lib.hid hbx0
  have HB0 := Lib.hid hb0
  have HG := Lib.hid (hg.below hb0)
  have HFW := Lib.hid (few_any (hg.below hb0) h1 h2 h3)
  have HC := Lib.hid (hc.below hb0)
  have HN := Lib.hid hN
  have HCW := Lib.hid hc
  have x0 := hbx0.cell 0
  have x1 := hbx0.cell 1
  simp only [List.getElem?_cons_zero, List.getElem?_cons_succ] at x0 x1
  rw [← hN]
  clear hg h1 h2 h3 hc hN hbx hbx0 hb0
  go_enter Tryz.func3, Tryz.ntmps3
  go_wp2_with fail
  rw [← hW0]
  clear hW0
  refine HFW.out.mono ?_
  rintro e w1 ⟨b, rfl, hfew, hb1⟩
  have HBA := Lib.hid (HB0.out.trans (hb1.mono HB0.out.size))
  cases b with
  | false =>
    clear hfew hb1
    go_wp2_with fail
    refine (alive_any).mono ?_
    rintro e w9 ⟨rfl, hb9⟩
    have HBE := Lib.hid (HBA.out.trans (hb9.mono HBA.out.size))
    clear hb9
    go_wp2_with fail
    go_ret
    exact ⟨rfl, HBE.out⟩
  | true =>
    have HF := Lib.hid (hfew rfl)
    clear hfew
    by_cases h80 : 80 < N
    · have e1 : decide (80 < (N : Int)) = true := decide_eq_true (by omega)
      clear hb1
      go_wp2_with fail
      refine (alive_any).mono ?_
      rintro e w9 ⟨rfl, hb9⟩
      have HBE := Lib.hid (HBA.out.trans (hb9.mono HBA.out.size))
      clear hb9
      go_wp2_with fail
      go_ret
      exact ⟨rfl, HBE.out⟩
    have e1 : decide (80 < (N : Int)) = false := decide_eq_false (by omega)
    have hxx := HX.out.below hb1 HX.out.lt
    have p0 := hxx.cell 0
    have p1 := hxx.cell 1
    simp only [List.getElem?_cons_zero, List.getElem?_cons_succ] at p0 p1
    have HG1 := Lib.hid (HG.out.below hb1)
    have HC1 := Lib.hid (HC.out.below hb1)
    have HXX := Lib.hid hxx
    have HFS := Lib.hid (show ∀ o sv, (o, sv) ∈ ts → o.slots.length ≤ 100000 from fun o sv ho => by have := HF.out.2.2 o sv ho; omega)
    clear hxx hb1 x0 x1
    go_wp2_with fail
    refine wp_region_noPanic ?_
    refine wp_region_held_drew (S := (fun W' => W'.cell? ⟨w.heap.size, 0, none⟩ = some tv ∧ W'.cell? ⟨w.heap.size, 1, none⟩ = some rv)) (by kernel_rfl) ?_ (fun hHeld => ?_)
    · exact ⟨p0, p1⟩
    refine wpAnyH_take (i := 0) (oi := ?oia0_1) (v := ?vva0_1) ?hia0_1 (by kernel_rfl) (by kernel_rfl) (by kernel_rfl) ?hQa0_1 ?hya0_1 (by assumption) ?resta0_1
    case hia0_1 => (simp only [List.getElem?_toArray, List.getElem?_cons_succ, List.getElem?_cons_zero]; rfl)
    case hQa0_1 => exact fun _ _ _ h => h
    case hya0_1 => (refine Or.inl ⟨by rfl, ?_⟩; intro w hSw; (try dsimp only at hSw); go_simp; try with_reducible rfl)
    try simp only [Act.put, List.setIfInBounds_toArray, List.set_cons_zero, List.set_cons_succ]
    refine wpAnyH_take (i := 2) (oi := ?oia2_2) (v := ?vva2_2) ?hia2_2 (by kernel_rfl) (by kernel_rfl) (by kernel_rfl) ?hQa2_2 ?hya2_2 (by assumption) ?resta2_2
    case hia2_2 => (simp only [List.getElem?_toArray, List.getElem?_cons_succ, List.getElem?_cons_zero]; rfl)
    case hQa2_2 => exact fun _ _ _ h => h
    case hya2_2 => (refine Or.inl ⟨by rfl, ?_⟩; intro w hSw; (try dsimp only at hSw); go_simp; try with_reducible rfl)
    try simp only [Act.put, List.setIfInBounds_toArray, List.set_cons_zero, List.set_cons_succ]
    refine wpAnyH_ready (rs := [1]) (by kernel_rfl) (by simp) ?_
    refine AllReadyH.cons (o := ?oa1_3) ?hoa1_3 (fun Kz hK => ?sta1_3) AllReadyH.nil
    case hoa1_3 => (simp only [List.getElem?_toArray, List.getElem?_cons_succ, List.getElem?_cons_zero]; rfl)
    go_simp
    have hd1 : Below w1.heap.size w1 w1.drew := below_drewN (Below.refl _ _) 1
    have hnm := newMem_any (HG1.out.below hd1) (by have := HF.out.1; omega) HFS.out (by have := HF.out.2.1; omega)
    obtain ⟨nm, hnme⟩ : ∃ m, m = newM (ts.map Prod.fst) roots := ⟨_, rfl⟩
    rw [← hnme] at hnm
    refine hnm.mono ?_
    rintro e w2 hP
    cases nm with
    | none =>
      obtain ⟨rfl, hb2⟩ := hP
      have hw2 := hd1.trans (hb2.mono hd1.size)
      have hxx := HXX.out.below hw2 HXX.out.lt
      have q0 := hxx.cell 0
      have q1 := hxx.cell 1
      simp only [List.getElem?_cons_zero, List.getElem?_cons_succ] at q0 q1
      go_simp
      refine hK.out _ _ ⟨q0, q1⟩ (fun hHeld => ?_)
      clear hK Kz
      try simp only [Act.put, List.setIfInBounds_toArray, List.set_cons_zero, List.set_cons_succ]
      refine wpAnyH_ready (rs := [3]) (by kernel_rfl) (by simp) ?_
      refine AllReadyH.cons (o := ?oa3_4) ?hoa3_4 (fun Kz hK => ?sta3_4) AllReadyH.nil
      case hoa3_4 => (simp only [List.getElem?_toArray, List.getElem?_cons_succ, List.getElem?_cons_zero]; rfl)
      go_simp
      have hrm := rnewMem_any (HG1.out.below hw2) (by have := HF.out.1; omega) HFS.out (by have := HF.out.2.1; omega)
      rw [← hnme] at hrm
      refine hrm.mono ?_
      rintro e w3 ⟨rfl, hb3⟩
      have hw3 := hw2.trans (hb3.mono hw2.size)
      have hxx := HXX.out.below hw3 HXX.out.lt
      have r0 := hxx.cell 0
      have r1 := hxx.cell 1
      simp only [List.getElem?_cons_zero, List.getElem?_cons_succ] at r0 r1
      have HBA' := HBA
      clear HBA
      have HBA := Lib.hid (HBA'.out.trans (hw3.mono HBA'.out.size))
      clear hnm hrm hw2 hb2 hxx hnme hb3 hw3 hd1
      go_simp
      refine hK.out _ _ ⟨r0, r1⟩ (fun hHeld => ?_)
      clear hK Kz
      try simp only [Act.put, List.setIfInBounds_toArray, List.set_cons_zero, List.set_cons_succ]
      refine wpAnyH_take (i := 4) (oi := ?oia4_5) (v := ?vva4_5) ?hia4_5 (by kernel_rfl) (by kernel_rfl) (by kernel_rfl) ?hQa4_5 ?hya4_5 (by assumption) ?resta4_5
      case hia4_5 => (simp only [List.getElem?_toArray, List.getElem?_cons_succ, List.getElem?_cons_zero]; rfl)
      case hQa4_5 => exact fun _ _ _ h => h
      case hya4_5 => (refine Or.inl ⟨by rfl, ?_⟩; intro w hSw; (try dsimp only at hSw); go_simp; try with_reducible rfl)
      try simp only [Act.put, List.setIfInBounds_toArray, List.set_cons_zero, List.set_cons_succ]
      refine wpAnyH_take (i := 5) (oi := ?oia5_6) (v := ?vva5_6) ?hia5_6 (by kernel_rfl) (by kernel_rfl) (by kernel_rfl) ?hQa5_6 ?hya5_6 (by assumption) ?resta5_6
      case hia5_6 => (simp only [List.getElem?_toArray, List.getElem?_cons_succ, List.getElem?_cons_zero]; rfl)
      case hQa5_6 => exact fun _ _ _ h => h
      case hya5_6 => (refine Or.inl ⟨by rfl, ?_⟩; intro w hSw; (try dsimp only at hSw); go_simp; try with_reducible rfl)
      try simp only [Act.put, List.setIfInBounds_toArray, List.set_cons_zero, List.set_cons_succ]
      refine wpAnyH_done (by kernel_rfl) ?_ _
      refine NoPanic.normal ?_
      go_wp2_with fail
      refine (alive_any).mono ?_
      rintro e w9 ⟨rfl, hb9⟩
      have HBE := Lib.hid (HBA.out.trans (hb9.mono HBA.out.size))
      clear hb9
      go_wp2_with fail
      go_ret
      exact ⟨rfl, HBE.out⟩
    | some M0 =>
      obtain ⟨Lm, rfl, hm, hb2, hown⟩ := hP
      have hw2 := hd1.trans (hb2.mono hd1.size)
      have hxx := HXX.out.below hw2 HXX.out.lt
      have q0 := hxx.cell 0
      have q1 := hxx.cell 1
      simp only [List.getElem?_cons_zero, List.getElem?_cons_succ] at q0 q1
      go_simp
      refine hK.out _ _ ⟨q0, q1⟩ (fun hHeld => ?_)
      clear hK Kz
      try simp only [Act.put, List.setIfInBounds_toArray, List.set_cons_zero, List.set_cons_succ]
      refine wpAnyH_ready (rs := [3]) (by kernel_rfl) (by simp) ?_
      refine AllReadyH.cons (o := ?oa3_7) ?hoa3_7 (fun Kz hK => ?sta3_7) AllReadyH.nil
      case hoa3_7 => (simp only [List.getElem?_toArray, List.getElem?_cons_succ, List.getElem?_cons_zero]; rfl)
      go_simp
      have hrm := rnewMem_any (HG1.out.below hw2) (by have := HF.out.1; omega) HFS.out (by have := HF.out.2.1; omega)
      rw [← hnme] at hrm
      refine hrm.mono ?_
      rintro e w3 ⟨Lr, rfl, hr, hb3, hown3⟩
      have hw3 := hw2.trans (hb3.mono hw2.size)
      have hxx := HXX.out.below hw3 HXX.out.lt
      have r0 := hxx.cell 0
      have r1 := hxx.cell 1
      simp only [List.getElem?_cons_zero, List.getElem?_cons_succ] at r0 r1
      have HTW := Lib.hid (show Two (fun _ => False) w w3 Lm.p Lr M0 M0 from ⟨⟨Lm, rfl, hm.below hb3, fun k hk => ⟨by have h1 := hown k hk; have h2 := hd1.size; have h3 := HBA.out.size; omega, fun y => by have h1 := hown3 k y; have h2 := hm.own_lt hk; omega, fun y => y⟩⟩, hr, fun k hk => ⟨by have h1 := hown3 k hk; have h2 := hw2.size; have h3 := HBA.out.size; omega, fun y => y⟩, HBA.out.trans (hw3.mono HBA.out.size), fun k y => y.elim⟩)
      have HSM := Lib.hid (newM_some hnme.symm HF.out)
      have HC3 := Lib.hid (HC1.out.below hw3)
      obtain ⟨p, hp⟩ : ∃ p, p = Lm.p := ⟨_, rfl⟩
      obtain ⟨q, hq⟩ : ∃ q, q = Lr.p := ⟨_, rfl⟩
      rw [← hp] at HTW ⊢
      rw [← hq]
      have HLP := Lib.hid hq.symm
      clear hnm hrm hw2 hb2 hxx hnme hb3 hw3 hd1 hm hown hown3 hr hp hq q0 q1 p0 p1
      go_simp
      refine hK.out _ _ ⟨r0, r1⟩ (fun hHeld => ?_)
      clear hK Kz
      try simp only [Act.put, List.setIfInBounds_toArray, List.set_cons_zero, List.set_cons_succ]
      refine wpAnyH_take (i := 4) (oi := ?oia4_8) (v := ?vva4_8) ?hia4_8 (by kernel_rfl) (by kernel_rfl) (by kernel_rfl) ?hQa4_8 ?hya4_8 (by assumption) ?resta4_8
      case hia4_8 => (simp only [List.getElem?_toArray, List.getElem?_cons_succ, List.getElem?_cons_zero]; rfl)
      case hQa4_8 => exact fun _ _ _ h => h
      case hya4_8 => (refine Or.inl ⟨by rfl, ?_⟩; intro w hSw; (try dsimp only at hSw); go_simp; try with_reducible rfl)
      try simp only [Act.put, List.setIfInBounds_toArray, List.set_cons_zero, List.set_cons_succ]
      refine wpAnyH_take (i := 5) (oi := ?oia5_9) (v := ?vva5_9) ?hia5_9 (by kernel_rfl) (by kernel_rfl) (by kernel_rfl) ?hQa5_9 ?hya5_9 (by assumption) ?resta5_9
      case hia5_9 => (simp only [List.getElem?_toArray, List.getElem?_cons_succ, List.getElem?_cons_zero]; rfl)
      case hQa5_9 => exact fun _ _ _ h => h
      case hya5_9 => (refine Or.inl ⟨by rfl, ?_⟩; intro w hSw; (try dsimp only at hSw); go_simp; try with_reducible rfl)
      try simp only [Act.put, List.setIfInBounds_toArray, List.set_cons_zero, List.set_cons_succ]
      refine wpAnyH_done (by kernel_rfl) ?_ _
      refine NoPanic.normal ?_
      clear r0 r1
      go_wp2_with fail
      go_loopw [44] (fun t44 wr => ∃ (i : Nat) (L : RL) (M : Mm) (X : Nat → Prop), i ≤ N ∧ t44 = .int .i64 i ∧ L.p = q ∧ Two X w wr p L M M ∧ Sm (60 + i) M) (fun t44 _ => N - (intOf t44).toNat)
      case atStart => exact ⟨0, _, _, _, Nat.zero_le _, by go_num, HLP.out, HTW.out, HSM.out⟩
      case round =>
        obtain ⟨i, L, M, X, hi, rfl, hLp, hT, hS⟩ := hrel
        by_cases hlt : i < N
        · obtain ⟨⟨c, sv⟩, hx⟩ : ∃ x, l[i]? = some x := ⟨l[i]'(by rw [← HN.out]; exact hlt), List.getElem?_eq_getElem _⟩
          have hmem : (c, sv) ∈ l := List.mem_of_getElem? hx
          have hb := hT.below
          obtain ⟨ad, c2, ha, hcell⟩ := rd_at (HCW.out.below hb).rd (by intro e; have := flat_len (f := callL) (n := 11) (fun _ => rfl) l; rw [e] at this; simp at this; have := HN.out; omega)
          rw [← HN.out] at ha
          simp only [Value.slice.injEq] at ha
          obtain ⟨rfl, -, rfl⟩ := ha
          obtain ⟨d0, d1, d2, d3, d4, d5, d6, d7, d8, d9, d10⟩ := call_cells hcell hx
          have HSV0 := Lib.hid (show ∀ W', Below w.heap.size w W' → RdV W' sv c.t.slots from fun W' hb' => ((HCW.out.below hb').slots c sv hmem).1)
          obtain ⟨sa, sc, rfl⟩ := rd_slice (HSV0.out _ hb)
          have HSV := HSV0
          simp only at d0 d1 d2 d3 d4 d5 d6 d7 d8 d9 d10
          have HT := Lib.hid (hT.alloc (.cells #[.int .i64 c.kind, .int .i64 c.h, .int .i64 c.n, .int .i64 c.v.t, .int .i64 c.v.n, .int .i64 c.t.kind, .int .i64 c.t.weak, .int .i64 c.t.array, .slice sa c.t.slots.length sc, .int .i64 c.t.fin, .bool c.key] 38))
          have HBX := Lib.hid (show Box (wr.alloc (.cells #[.int .i64 c.kind, .int .i64 c.h, .int .i64 c.n, .int .i64 c.v.t, .int .i64 c.v.n, .int .i64 c.t.kind, .int .i64 c.t.weak, .int .i64 c.t.array, .slice sa c.t.slots.length sc, .int .i64 c.t.fin, .bool c.key] 38)) wr.heap.size [.int .i64 c.kind, .int .i64 c.h, .int .i64 c.n, .int .i64 c.v.t, .int .i64 c.v.n, .int .i64 c.t.kind, .int .i64 c.t.weak, .int .i64 c.t.array, .slice sa c.t.slots.length sc, .int .i64 c.t.fin, .bool c.key] 38 from Box.new _ _ _)
          have HSL := Lib.hid (HSV.out _ HT.out.below)
          have HS := Lib.hid hS
          have HLP := Lib.hid hLp
          have HBA' := Lib.hid HT.out.below
          clear hT hS hLp hx hmem hb hcell HBA HTW HSM
          have HBA := HBA'
          by_cases h100 : 100 < c.t.slots.length
          · have e2 : decide (100 < (c.t.slots.length : Int)) = true := decide_eq_true (by omega)
            have e2' : decide (100 < c.t.slots.length) = true := decide_eq_true h100
            go_wp2_with fail
            refine (alive_any).mono ?_
            rintro e w9 ⟨rfl, hb9⟩
            have HBE := Lib.hid (HBA.out.trans (hb9.mono HBA.out.size))
            clear hb9
            go_wp2_with fail
            go_ret
            exact ⟨rfl, HBE.out⟩
          have e2 : decide (100 < (c.t.slots.length : Int)) = false := decide_eq_false (by omega)
          have e2' : decide (100 < c.t.slots.length) = false := decide_eq_false h100
          by_cases k0 : c.kind = 0
          · have g0 : (c.kind == 0) = true := by simp [k0]
            clear k0
            have y5 := HBX.out.cell 5
            have y6 := HBX.out.cell 6
            have y7 := HBX.out.cell 7
            have y8 := HBX.out.cell 8
            have y9 := HBX.out.cell 9
            simp only [List.getElem?_cons_zero, List.getElem?_cons_succ] at y5 y6 y7 y8 y9
            obtain ⟨ah, hAH⟩ : ∃ n, n = addH M c.t := ⟨_, rfl⟩
            have e9 : (ah == ah) = true := by simp
            go_wp2_with fail
            refine wp_region_noPanic ?_
            refine wp_region_held_drew (S := (fun W' => W'.cell? ⟨wr.heap.size, 5, none⟩ = some (.int .i64 c.t.kind) ∧ W'.cell? ⟨wr.heap.size, 6, none⟩ = some (.int .i64 c.t.weak) ∧ W'.cell? ⟨wr.heap.size, 7, none⟩ = some (.int .i64 c.t.array) ∧ W'.cell? ⟨wr.heap.size, 8, none⟩ = some (.slice sa c.t.slots.length sc) ∧ W'.cell? ⟨wr.heap.size, 9, none⟩ = some (.int .i64 c.t.fin))) (by kernel_rfl) ?_ (fun hHeld => ?_)
            · exact ⟨y5, y6, y7, y8, y9⟩
            refine wpAnyH_take (i := 0) (oi := ?oia0_10) (v := ?vva0_10) ?hia0_10 (by kernel_rfl) (by kernel_rfl) (by kernel_rfl) ?hQa0_10 ?hya0_10 (by assumption) ?resta0_10
            case hia0_10 => (simp only [List.getElem?_toArray, List.getElem?_cons_succ, List.getElem?_cons_zero]; rfl)
            case hQa0_10 => exact fun _ _ _ h => h
            case hya0_10 => (refine Or.inl ⟨by rfl, ?_⟩; intro w hSw; (try dsimp only at hSw); go_simp; try with_reducible rfl)
            try simp only [Act.put, List.setIfInBounds_toArray, List.set_cons_zero, List.set_cons_succ]
            refine wpAnyH_take (i := 1) (oi := ?oia1_11) (v := ?vva1_11) ?hia1_11 (by kernel_rfl) (by kernel_rfl) (by kernel_rfl) ?hQa1_11 ?hya1_11 (by assumption) ?resta1_11
            case hia1_11 => (simp only [List.getElem?_toArray, List.getElem?_cons_succ, List.getElem?_cons_zero]; rfl)
            case hQa1_11 => exact fun _ _ _ h => h
            case hya1_11 => (refine Or.inl ⟨by rfl, ?_⟩; intro w hSw; (try dsimp only at hSw); go_simp; try with_reducible rfl)
            try simp only [Act.put, List.setIfInBounds_toArray, List.set_cons_zero, List.set_cons_succ]
            refine wpAnyH_take (i := 2) (oi := ?oia2_12) (v := ?vva2_12) ?hia2_12 (by kernel_rfl) (by kernel_rfl) (by kernel_rfl) ?hQa2_12 ?hya2_12 (by assumption) ?resta2_12
            case hia2_12 => (simp only [List.getElem?_toArray, List.getElem?_cons_succ, List.getElem?_cons_zero]; rfl)
            case hQa2_12 => exact fun _ _ _ h => h
            case hya2_12 => (refine Or.inl ⟨by rfl, ?_⟩; intro w hSw; (try dsimp only at hSw); go_simp; try with_reducible rfl)
            try simp only [Act.put, List.setIfInBounds_toArray, List.set_cons_zero, List.set_cons_succ]
            refine wpAnyH_take (i := 4) (oi := ?oia4_13) (v := ?vva4_13) ?hia4_13 (by kernel_rfl) (by kernel_rfl) (by kernel_rfl) ?hQa4_13 ?hya4_13 (by assumption) ?resta4_13
            case hia4_13 => (simp only [List.getElem?_toArray, List.getElem?_cons_succ, List.getElem?_cons_zero]; rfl)
            case hQa4_13 => exact fun _ _ _ h => h
            case hya4_13 => (refine Or.inl ⟨by rfl, ?_⟩; intro w hSw; (try dsimp only at hSw); go_simp; try with_reducible rfl)
            try simp only [Act.put, List.setIfInBounds_toArray, List.set_cons_zero, List.set_cons_succ]
            refine wpAnyH_take (i := 5) (oi := ?oia5_14) (v := ?vva5_14) ?hia5_14 (by kernel_rfl) (by kernel_rfl) (by kernel_rfl) ?hQa5_14 ?hya5_14 (by assumption) ?resta5_14
            case hia5_14 => (simp only [List.getElem?_toArray, List.getElem?_cons_succ, List.getElem?_cons_zero]; rfl)
            case hQa5_14 => exact fun _ _ _ h => h
            case hya5_14 => (refine Or.inl ⟨by rfl, ?_⟩; intro w hSw; (try dsimp only at hSw); go_simp; try with_reducible rfl)
            try simp only [Act.put, List.setIfInBounds_toArray, List.set_cons_zero, List.set_cons_succ]
            refine wpAnyH_take (i := 6) (oi := ?oia6_15) (v := ?vva6_15) ?hia6_15 (by kernel_rfl) (by kernel_rfl) (by kernel_rfl) ?hQa6_15 ?hya6_15 (by assumption) ?resta6_15
            case hia6_15 => (simp only [List.getElem?_toArray, List.getElem?_cons_succ, List.getElem?_cons_zero]; rfl)
            case hQa6_15 => exact fun _ _ _ h => h
            case hya6_15 => (refine Or.inl ⟨by rfl, ?_⟩; intro w hSw; (try dsimp only at hSw); go_simp; try with_reducible rfl)
            try simp only [Act.put, List.setIfInBounds_toArray, List.set_cons_zero, List.set_cons_succ]
            refine wpAnyH_ready (rs := [3]) (by kernel_rfl) (by simp) ?_
            refine AllReadyH.cons (o := ?oa3_16) ?hoa3_16 (fun Kz hK => ?sta3_16) AllReadyH.nil
            case hoa3_16 => (simp only [List.getElem?_toArray, List.getElem?_cons_succ, List.getElem?_cons_zero]; rfl)
            go_simp
            have h0 := mc_add (HT.out.next (below_drewN (Below.refl _ _) 1)) HS.out.2.n (Rd.below (HSL.out) (below_drewN (Below.refl _ _) 1)) (by omega)
            unfold thingV at h0
            rw [← hAH] at h0
            refine h0.mono ?_
            rintro e w3 ⟨rfl, hT3, hst3⟩
            have HBX3 := Lib.hid (show Box w3 wr.heap.size [.int .i64 c.kind, .int .i64 c.h, .int .i64 c.n, .int .i64 c.v.t, .int .i64 c.v.n, .int .i64 c.t.kind, .int .i64 c.t.weak, .int .i64 c.t.array, .slice sa c.t.slots.length sc, .int .i64 c.t.fin, .bool c.key] 38 from HBX.out.drew.of_block (hst3 _ rfl))
            have HT3 := Lib.hid hT3
            clear hT3 hst3 y5 y6 y7 y8 y9
            have y5 := HBX3.out.cell 5
            have y6 := HBX3.out.cell 6
            have y7 := HBX3.out.cell 7
            have y8 := HBX3.out.cell 8
            have y9 := HBX3.out.cell 9
            simp only [List.getElem?_cons_zero, List.getElem?_cons_succ] at y5 y6 y7 y8 y9
            go_simp
            refine hK.out _ _ ⟨y5, y6, y7, y8, y9⟩ (fun hHeld => ?_)
            clear hK Kz
            try simp only [Act.put, List.setIfInBounds_toArray, List.set_cons_zero, List.set_cons_succ]
            refine wpAnyH_ready (rs := [7]) (by kernel_rfl) (by simp) ?_
            refine AllReadyH.cons (o := ?oa7_17) ?hoa7_17 (fun Kz hK => ?sta7_17) AllReadyH.nil
            case hoa7_17 => (simp only [List.getElem?_toArray, List.getElem?_cons_succ, List.getElem?_cons_zero]; rfl)
            go_simp
            clear h0
            have h0 := rc_add HT3.out HS.out.2.n (HSV.out _ HT3.out.below) (by omega)
            unfold thingV at h0
            rw [← hAH, HLP.out] at h0
            refine h0.mono ?_
            rintro e w4 ⟨rfl, L4, hL4, hT4, hst4⟩
            have HBXE := Lib.hid (show Box w4 wr.heap.size [.int .i64 c.kind, .int .i64 c.h, .int .i64 c.n, .int .i64 c.v.t, .int .i64 c.v.n, .int .i64 c.t.kind, .int .i64 c.t.weak, .int .i64 c.t.array, .slice sa c.t.slots.length sc, .int .i64 c.t.fin, .bool c.key] 38 from HBX3.out.of_block (hst4 _ rfl))
            have HTE := Lib.hid hT4
            have HLPE := Lib.hid hL4
            have HSE := Lib.hid (show Sm (61 + i) (M.added c.t) from HS.out.added (by omega) (by omega))
            clear h0 hT4 hst4 hL4 y5 y6 y7 y8 y9
            have y5 := HBXE.out.cell 5
            have y6 := HBXE.out.cell 6
            have y7 := HBXE.out.cell 7
            have y8 := HBXE.out.cell 8
            have y9 := HBXE.out.cell 9
            simp only [List.getElem?_cons_zero, List.getElem?_cons_succ] at y5 y6 y7 y8 y9
            go_simp
            refine hK.out _ _ ⟨y5, y6, y7, y8, y9⟩ (fun hHeld => ?_)
            clear hK Kz
            try simp only [Act.put, List.setIfInBounds_toArray, List.set_cons_zero, List.set_cons_succ]
            refine wpAnyH_take (i := 8) (oi := ?oib8_18) (v := ?vvb8_18) ?hib8_18 (by kernel_rfl) (by kernel_rfl) (by kernel_rfl) ?hQb8_18 ?hyb8_18 (by assumption) ?restb8_18
            case hib8_18 => (simp only [List.getElem?_toArray, List.getElem?_cons_succ, List.getElem?_cons_zero]; rfl)
            case hQb8_18 => exact fun _ _ _ h => h
            case hyb8_18 => (refine Or.inl ⟨by rfl, ?_⟩; intro w hSw; (try dsimp only at hSw); go_simp; try with_reducible rfl)
            try simp only [Act.put, List.setIfInBounds_toArray, List.set_cons_zero, List.set_cons_succ]
            refine wpAnyH_take (i := 9) (oi := ?oib9_19) (v := ?vvb9_19) ?hib9_19 (by kernel_rfl) (by kernel_rfl) (by kernel_rfl) ?hQb9_19 ?hyb9_19 (by assumption) ?restb9_19
            case hib9_19 => (simp only [List.getElem?_toArray, List.getElem?_cons_succ, List.getElem?_cons_zero]; rfl)
            case hQb9_19 => exact fun _ _ _ h => h
            case hyb9_19 => (refine Or.inl ⟨by rfl, ?_⟩; intro w hSw; (try dsimp only at hSw); go_simp; try with_reducible rfl)
            try simp only [Act.put, List.setIfInBounds_toArray, List.set_cons_zero, List.set_cons_succ]
            refine wpAnyH_done (by kernel_rfl) ?_ _
            refine NoPanic.normal ?_
            clear y5 y6 y7 y8 y9
            have y1 := HBXE.out.cell 1
            simp only [List.getElem?_cons_zero, List.getElem?_cons_succ] at y1
            have HLK := Lib.hid (likeM_any HTE.out HSE.out.2 c.h)
            rw [HLPE.out] at HLK
            go_wp2_with fail
            refine HLK.out.mono ?_
            rintro e w8 ⟨rfl, hb8⟩
            have HT8 := Lib.hid (HTE.out.next hb8)
            clear hb8 y1
            go_wp2_with fail
            go_roundw
            case rel => exact ⟨i + 1, _, _, _, by omega, by go_num, HLPE.out, HT8.out, HSE.out.mono (by omega)⟩
            case measure => simp [intOf]; omega
          have g0 : (c.kind == 0) = false := by simp [k0]
          by_cases k1 : c.kind = 1
          · have g1 : (c.kind == 1) = true := by simp [k1]
            clear k1 k0
            have y1 := HBX.out.cell 1
            have y2 := HBX.out.cell 2
            have y3 := HBX.out.cell 3
            have y4 := HBX.out.cell 4
            simp only [List.getElem?_cons_zero, List.getElem?_cons_succ] at y1 y2 y3 y4
            obtain ⟨cs, hCS⟩ : ∃ b, b = M.canSet c.h c.n := ⟨_, rfl⟩
            have e9 : (cs == cs) = true := by simp
            go_wp2_with fail
            refine wp_region_noPanic ?_
            refine wp_region_held_drew (S := (fun W' => W'.cell? ⟨wr.heap.size, 1, none⟩ = some (.int .i64 c.h) ∧ W'.cell? ⟨wr.heap.size, 2, none⟩ = some (.int .i64 c.n) ∧ W'.cell? ⟨wr.heap.size, 3, none⟩ = some (.int .i64 c.v.t) ∧ W'.cell? ⟨wr.heap.size, 4, none⟩ = some (.int .i64 c.v.n))) (by kernel_rfl) ?_ (fun hHeld => ?_)
            · exact ⟨y1, y2, y3, y4⟩
            refine wpAnyH_take (i := 0) (oi := ?oia0_20) (v := ?vva0_20) ?hia0_20 (by kernel_rfl) (by kernel_rfl) (by kernel_rfl) ?hQa0_20 ?hya0_20 (by assumption) ?resta0_20
            case hia0_20 => (simp only [List.getElem?_toArray, List.getElem?_cons_succ, List.getElem?_cons_zero]; rfl)
            case hQa0_20 => exact fun _ _ _ h => h
            case hya0_20 => (refine Or.inl ⟨by rfl, ?_⟩; intro w hSw; (try dsimp only at hSw); go_simp; try with_reducible rfl)
            try simp only [Act.put, List.setIfInBounds_toArray, List.set_cons_zero, List.set_cons_succ]
            refine wpAnyH_take (i := 1) (oi := ?oia1_21) (v := ?vva1_21) ?hia1_21 (by kernel_rfl) (by kernel_rfl) (by kernel_rfl) ?hQa1_21 ?hya1_21 (by assumption) ?resta1_21
            case hia1_21 => (simp only [List.getElem?_toArray, List.getElem?_cons_succ, List.getElem?_cons_zero]; rfl)
            case hQa1_21 => exact fun _ _ _ h => h
            case hya1_21 => (refine Or.inl ⟨by rfl, ?_⟩; intro w hSw; (try dsimp only at hSw); go_simp; try with_reducible rfl)
            try simp only [Act.put, List.setIfInBounds_toArray, List.set_cons_zero, List.set_cons_succ]
            refine wpAnyH_take (i := 2) (oi := ?oia2_22) (v := ?vva2_22) ?hia2_22 (by kernel_rfl) (by kernel_rfl) (by kernel_rfl) ?hQa2_22 ?hya2_22 (by assumption) ?resta2_22
            case hia2_22 => (simp only [List.getElem?_toArray, List.getElem?_cons_succ, List.getElem?_cons_zero]; rfl)
            case hQa2_22 => exact fun _ _ _ h => h
            case hya2_22 => (refine Or.inl ⟨by rfl, ?_⟩; intro w hSw; (try dsimp only at hSw); go_simp; try with_reducible rfl)
            try simp only [Act.put, List.setIfInBounds_toArray, List.set_cons_zero, List.set_cons_succ]
            refine wpAnyH_take (i := 3) (oi := ?oia3_23) (v := ?vva3_23) ?hia3_23 (by kernel_rfl) (by kernel_rfl) (by kernel_rfl) ?hQa3_23 ?hya3_23 (by assumption) ?resta3_23
            case hia3_23 => (simp only [List.getElem?_toArray, List.getElem?_cons_succ, List.getElem?_cons_zero]; rfl)
            case hQa3_23 => exact fun _ _ _ h => h
            case hya3_23 => (refine Or.inl ⟨by rfl, ?_⟩; intro w hSw; (try dsimp only at hSw); go_simp; try with_reducible rfl)
            try simp only [Act.put, List.setIfInBounds_toArray, List.set_cons_zero, List.set_cons_succ]
            refine wpAnyH_take (i := 4) (oi := ?oia4_24) (v := ?vva4_24) ?hia4_24 (by kernel_rfl) (by kernel_rfl) (by kernel_rfl) ?hQa4_24 ?hya4_24 (by assumption) ?resta4_24
            case hia4_24 => (simp only [List.getElem?_toArray, List.getElem?_cons_succ, List.getElem?_cons_zero]; rfl)
            case hQa4_24 => exact fun _ _ _ h => h
            case hya4_24 => (refine Or.inl ⟨by rfl, ?_⟩; intro w hSw; (try dsimp only at hSw); go_simp; try with_reducible rfl)
            try simp only [Act.put, List.setIfInBounds_toArray, List.set_cons_zero, List.set_cons_succ]
            refine wpAnyH_take (i := 5) (oi := ?oia5_25) (v := ?vva5_25) ?hia5_25 (by kernel_rfl) (by kernel_rfl) (by kernel_rfl) ?hQa5_25 ?hya5_25 (by assumption) ?resta5_25
            case hia5_25 => (simp only [List.getElem?_toArray, List.getElem?_cons_succ, List.getElem?_cons_zero]; rfl)
            case hQa5_25 => exact fun _ _ _ h => h
            case hya5_25 => (refine Or.inl ⟨by rfl, ?_⟩; intro w hSw; (try dsimp only at hSw); go_simp; try with_reducible rfl)
            try simp only [Act.put, List.setIfInBounds_toArray, List.set_cons_zero, List.set_cons_succ]
            refine wpAnyH_take (i := 6) (oi := ?oia6_26) (v := ?vva6_26) ?hia6_26 (by kernel_rfl) (by kernel_rfl) (by kernel_rfl) ?hQa6_26 ?hya6_26 (by assumption) ?resta6_26
            case hia6_26 => (simp only [List.getElem?_toArray, List.getElem?_cons_succ, List.getElem?_cons_zero]; rfl)
            case hQa6_26 => exact fun _ _ _ h => h
            case hya6_26 => (refine Or.inl ⟨by rfl, ?_⟩; intro w hSw; (try dsimp only at hSw); go_simp; try with_reducible rfl)
            try simp only [Act.put, List.setIfInBounds_toArray, List.set_cons_zero, List.set_cons_succ]
            refine wpAnyH_take (i := 8) (oi := ?oia8_27) (v := ?vva8_27) ?hia8_27 (by kernel_rfl) (by kernel_rfl) (by kernel_rfl) ?hQa8_27 ?hya8_27 (by assumption) ?resta8_27
            case hia8_27 => (simp only [List.getElem?_toArray, List.getElem?_cons_succ, List.getElem?_cons_zero]; rfl)
            case hQa8_27 => exact fun _ _ _ h => h
            case hya8_27 => (refine Or.inl ⟨by rfl, ?_⟩; intro w hSw; (try dsimp only at hSw); go_simp; try with_reducible rfl)
            try simp only [Act.put, List.setIfInBounds_toArray, List.set_cons_zero, List.set_cons_succ]
            refine wpAnyH_take (i := 9) (oi := ?oia9_28) (v := ?vva9_28) ?hia9_28 (by kernel_rfl) (by kernel_rfl) (by kernel_rfl) ?hQa9_28 ?hya9_28 (by assumption) ?resta9_28
            case hia9_28 => (simp only [List.getElem?_toArray, List.getElem?_cons_succ, List.getElem?_cons_zero]; rfl)
            case hQa9_28 => exact fun _ _ _ h => h
            case hya9_28 => (refine Or.inl ⟨by rfl, ?_⟩; intro w hSw; (try dsimp only at hSw); go_simp; try with_reducible rfl)
            try simp only [Act.put, List.setIfInBounds_toArray, List.set_cons_zero, List.set_cons_succ]
            refine wpAnyH_take (i := 10) (oi := ?oia10_29) (v := ?vva10_29) ?hia10_29 (by kernel_rfl) (by kernel_rfl) (by kernel_rfl) ?hQa10_29 ?hya10_29 (by assumption) ?resta10_29
            case hia10_29 => (simp only [List.getElem?_toArray, List.getElem?_cons_succ, List.getElem?_cons_zero]; rfl)
            case hQa10_29 => exact fun _ _ _ h => h
            case hya10_29 => (refine Or.inl ⟨by rfl, ?_⟩; intro w hSw; (try dsimp only at hSw); go_simp; try with_reducible rfl)
            try simp only [Act.put, List.setIfInBounds_toArray, List.set_cons_zero, List.set_cons_succ]
            refine wpAnyH_take (i := 11) (oi := ?oia11_30) (v := ?vva11_30) ?hia11_30 (by kernel_rfl) (by kernel_rfl) (by kernel_rfl) ?hQa11_30 ?hya11_30 (by assumption) ?resta11_30
            case hia11_30 => (simp only [List.getElem?_toArray, List.getElem?_cons_succ, List.getElem?_cons_zero]; rfl)
            case hQa11_30 => exact fun _ _ _ h => h
            case hya11_30 => (refine Or.inl ⟨by rfl, ?_⟩; intro w hSw; (try dsimp only at hSw); go_simp; try with_reducible rfl)
            try simp only [Act.put, List.setIfInBounds_toArray, List.set_cons_zero, List.set_cons_succ]
            refine wpAnyH_take (i := 12) (oi := ?oia12_31) (v := ?vva12_31) ?hia12_31 (by kernel_rfl) (by kernel_rfl) (by kernel_rfl) ?hQa12_31 ?hya12_31 (by assumption) ?resta12_31
            case hia12_31 => (simp only [List.getElem?_toArray, List.getElem?_cons_succ, List.getElem?_cons_zero]; rfl)
            case hQa12_31 => exact fun _ _ _ h => h
            case hya12_31 => (refine Or.inl ⟨by rfl, ?_⟩; intro w hSw; (try dsimp only at hSw); go_simp; try with_reducible rfl)
            try simp only [Act.put, List.setIfInBounds_toArray, List.set_cons_zero, List.set_cons_succ]
            refine wpAnyH_take (i := 13) (oi := ?oia13_32) (v := ?vva13_32) ?hia13_32 (by kernel_rfl) (by kernel_rfl) (by kernel_rfl) ?hQa13_32 ?hya13_32 (by assumption) ?resta13_32
            case hia13_32 => (simp only [List.getElem?_toArray, List.getElem?_cons_succ, List.getElem?_cons_zero]; rfl)
            case hQa13_32 => exact fun _ _ _ h => h
            case hya13_32 => (refine Or.inl ⟨by rfl, ?_⟩; intro w hSw; (try dsimp only at hSw); go_simp; try with_reducible rfl)
            try simp only [Act.put, List.setIfInBounds_toArray, List.set_cons_zero, List.set_cons_succ]
            refine wpAnyH_take (i := 14) (oi := ?oia14_33) (v := ?vva14_33) ?hia14_33 (by kernel_rfl) (by kernel_rfl) (by kernel_rfl) ?hQa14_33 ?hya14_33 (by assumption) ?resta14_33
            case hia14_33 => (simp only [List.getElem?_toArray, List.getElem?_cons_succ, List.getElem?_cons_zero]; rfl)
            case hQa14_33 => exact fun _ _ _ h => h
            case hya14_33 => (refine Or.inl ⟨by rfl, ?_⟩; intro w hSw; (try dsimp only at hSw); go_simp; try with_reducible rfl)
            try simp only [Act.put, List.setIfInBounds_toArray, List.set_cons_zero, List.set_cons_succ]
            refine wpAnyH_ready (rs := [7]) (by kernel_rfl) (by simp) ?_
            refine AllReadyH.cons (o := ?oa7_34) ?hoa7_34 (fun Kz hK => ?sta7_34) AllReadyH.nil
            case hoa7_34 => (simp only [List.getElem?_toArray, List.getElem?_cons_succ, List.getElem?_cons_zero]; rfl)
            go_simp
            have h0 := mc_set (HT.out.next (below_drewN (Below.refl _ _) 1)) HS.out.2 c.h c.n c.v
            unfold V.val at h0
            rw [← hCS] at h0
            refine h0.mono ?_
            rintro e w3 ⟨rfl, hT3, hst3⟩
            have HBX3 := Lib.hid (show Box w3 wr.heap.size [.int .i64 c.kind, .int .i64 c.h, .int .i64 c.n, .int .i64 c.v.t, .int .i64 c.v.n, .int .i64 c.t.kind, .int .i64 c.t.weak, .int .i64 c.t.array, .slice sa c.t.slots.length sc, .int .i64 c.t.fin, .bool c.key] 38 from HBX.out.drew.of_block (hst3 _ rfl))
            have HT3 := Lib.hid hT3
            clear hT3 hst3 y1 y2 y3 y4
            have y1 := HBX3.out.cell 1
            have y2 := HBX3.out.cell 2
            have y3 := HBX3.out.cell 3
            have y4 := HBX3.out.cell 4
            simp only [List.getElem?_cons_zero, List.getElem?_cons_succ] at y1 y2 y3 y4
            go_simp
            refine hK.out _ _ ⟨y1, y2, y3, y4⟩ (fun hHeld => ?_)
            clear hK Kz
            try simp only [Act.put, List.setIfInBounds_toArray, List.set_cons_zero, List.set_cons_succ]
            refine wpAnyH_ready (rs := [15]) (by kernel_rfl) (by simp) ?_
            refine AllReadyH.cons (o := ?oa15_35) ?hoa15_35 (fun Kz hK => ?sta15_35) AllReadyH.nil
            case hoa15_35 => (simp only [List.getElem?_toArray, List.getElem?_cons_succ, List.getElem?_cons_zero]; rfl)
            go_simp
            clear h0
            have h0 := rc_set HT3.out HS.out.2 c.h c.n c.v
            unfold V.val at h0
            rw [← hCS, HLP.out] at h0
            refine h0.mono ?_
            rintro e w4 ⟨rfl, L4, hL4, hT4, hst4⟩
            have HBXE := Lib.hid (show Box w4 wr.heap.size [.int .i64 c.kind, .int .i64 c.h, .int .i64 c.n, .int .i64 c.v.t, .int .i64 c.v.n, .int .i64 c.t.kind, .int .i64 c.t.weak, .int .i64 c.t.array, .slice sa c.t.slots.length sc, .int .i64 c.t.fin, .bool c.key] 38 from HBX3.out.of_block (hst4 _ rfl))
            have HTE := Lib.hid hT4
            have HLPE := Lib.hid hL4
            have HSE := Lib.hid (show Sm (61 + i) (M.set c.h c.n c.v) from (HS.out.mono (by omega)).lk (lk_set _ _ _ _))
            clear h0 hT4 hst4 hL4 y1 y2 y3 y4
            have y1 := HBXE.out.cell 1
            have y2 := HBXE.out.cell 2
            have y3 := HBXE.out.cell 3
            have y4 := HBXE.out.cell 4
            simp only [List.getElem?_cons_zero, List.getElem?_cons_succ] at y1 y2 y3 y4
            go_simp
            refine hK.out _ _ ⟨y1, y2, y3, y4⟩ (fun hHeld => ?_)
            clear hK Kz
            try simp only [Act.put, List.setIfInBounds_toArray, List.set_cons_zero, List.set_cons_succ]
            refine wpAnyH_take (i := 16) (oi := ?oib16_36) (v := ?vvb16_36) ?hib16_36 (by kernel_rfl) (by kernel_rfl) (by kernel_rfl) ?hQb16_36 ?hyb16_36 (by assumption) ?restb16_36
            case hib16_36 => (simp only [List.getElem?_toArray, List.getElem?_cons_succ, List.getElem?_cons_zero]; rfl)
            case hQb16_36 => exact fun _ _ _ h => h
            case hyb16_36 => (refine Or.inl ⟨by rfl, ?_⟩; intro w hSw; (try dsimp only at hSw); go_simp; try with_reducible rfl)
            try simp only [Act.put, List.setIfInBounds_toArray, List.set_cons_zero, List.set_cons_succ]
            refine wpAnyH_take (i := 17) (oi := ?oib17_37) (v := ?vvb17_37) ?hib17_37 (by kernel_rfl) (by kernel_rfl) (by kernel_rfl) ?hQb17_37 ?hyb17_37 (by assumption) ?restb17_37
            case hib17_37 => (simp only [List.getElem?_toArray, List.getElem?_cons_succ, List.getElem?_cons_zero]; rfl)
            case hQb17_37 => exact fun _ _ _ h => h
            case hyb17_37 => (refine Or.inl ⟨by rfl, ?_⟩; intro w hSw; (try dsimp only at hSw); go_simp; try with_reducible rfl)
            try simp only [Act.put, List.setIfInBounds_toArray, List.set_cons_zero, List.set_cons_succ]
            refine wpAnyH_done (by kernel_rfl) ?_ _
            refine NoPanic.normal ?_
            clear y1 y2 y3 y4
            have y1 := HBXE.out.cell 1
            simp only [List.getElem?_cons_zero, List.getElem?_cons_succ] at y1
            have HLK := Lib.hid (likeM_any HTE.out HSE.out.2 c.h)
            rw [HLPE.out] at HLK
            go_wp2_with fail
            refine HLK.out.mono ?_
            rintro e w8 ⟨rfl, hb8⟩
            have HT8 := Lib.hid (HTE.out.next hb8)
            clear hb8 y1
            go_wp2_with fail
            go_roundw
            case rel => exact ⟨i + 1, _, _, _, by omega, by go_num, HLPE.out, HT8.out, HSE.out.mono (by omega)⟩
            case measure => simp [intOf]; omega
          have g1 : (c.kind == 1) = false := by simp [k1]
          by_cases k2 : c.kind = 2
          · have g2 : (c.kind == 2) = true := by simp [k2]
            clear k2 k1 k0
            have y8 := HBX.out.cell 8
            simp only [List.getElem?_cons_zero, List.getElem?_cons_succ] at y8
            have HK2 := Lib.hid (mc_setRoots HT.out HSL.out (by omega))
            go_wp2_with fail
            refine HK2.out.mono ?_
            rintro e w3 ⟨rfl, hT, hst⟩
            have HBX3 := Lib.hid (show Box w3 wr.heap.size [.int .i64 c.kind, .int .i64 c.h, .int .i64 c.n, .int .i64 c.v.t, .int .i64 c.v.n, .int .i64 c.t.kind, .int .i64 c.t.weak, .int .i64 c.t.array, .slice sa c.t.slots.length sc, .int .i64 c.t.fin, .bool c.key] 38 from HBX.out.of_block (hst _ rfl))
            have HT3 := Lib.hid hT
            clear hT hst y8
            have y8 := HBX3.out.cell 8
            simp only [List.getElem?_cons_zero, List.getElem?_cons_succ] at y8
            have hmade : (w3.alloc (.cells #[] 34)).ownsRow w3.heap.size 34 2 (.slice (some ⟨w3.heap.size, 0, none⟩) 0 0) 0 [] := World.ownsRow_made (base := w3.heap.size) (e := 34) (size := 2) w3 #[] 0 (Nat.le_refl _) (by decide) (by simp)
            have HMD := Lib.hid hmade
            have hnq : q ≠ wr.heap.size := fun e => (HT3.out.ro L.p (.inl rfl)).2 (HLP.out.trans e)
            have hnq' : wr.heap.size ≠ q := fun e => hnq e.symm
            have hq1 := HT3.out.r.cells.2
            have hf1 := HT3.out.r.box.free 1
            rw [HLP.out] at hq1 hf1
            obtain ⟨i0, hi0, hz0, hz1, hz2⟩ := info_parts infVal3
            rcases HSV.out _ HT3.out.below with ⟨hnil, hn0, -⟩ | ⟨ad2, c3, hs3, hcc⟩
            · simp only [Value.slice.injEq] at hnil
              obtain ⟨rfl, hn1, rfl⟩ := hnil
              have hl0 : c.t.slots = [] := List.length_eq_zero_iff.1 hn0
              obtain ⟨L7, hL7, hT7, hst7⟩ := HT3.out.roots (l := c.t.slots) (Nat.le_refl _) (below_alloc _ _) (by rw [hl0]; exact HMD.out)
              rw [HLP.out] at hT7 hst7
              have HBXE := Lib.hid (show Box _ wr.heap.size [.int .i64 c.kind, .int .i64 c.h, .int .i64 c.n, .int .i64 c.v.t, .int .i64 c.v.n, .int .i64 c.t.kind, .int .i64 c.t.weak, .int .i64 c.t.array, .slice none c.t.slots.length 0, .int .i64 c.t.fin, .bool c.key] 38 from HBX3.out.of_block (hst7 _ rfl))
              have HTE := Lib.hid hT7
              have HLPE := Lib.hid (hL7.trans HLP.out)
              have HSE := Lib.hid (show Sm (61 + i) { M with roots := c.t.slots } from ⟨by have := HS.out.1; show M.obs.length ≤ _; omega, HS.out.2.n, by show c.t.slots.length ≤ _; omega, HS.out.2.s⟩)
              have hu1 := Lib.cell?_alloc_some (.cells #[] 34) hq1
              have hf1' := (HT3.out.next (below_alloc w3 (.cells #[] 34))).r.box.free 1
              rw [HLP.out] at hf1'
              have hlen0 : c.t.slots.length = 0 := hn0
              clear hmade hT7 hst7 hL7 hl0
              rw [hlen0] at y8
              have y8' := Lib.cell?_alloc_some (.cells #[] 34) y8
              have z1 : (w3.alloc (.cells #[] 34)).cell? ⟨wr.heap.size, 1, none⟩ = some (.int .i64 c.h) := Lib.cell?_alloc_some _ (HBX3.out.cell 1)
              go_wp2_with (at_builtin; refine wpList_append_own_none rfl _ _ 23 rfl w3.heap.size 34 i0 2 Tryz.underlying23 hi0 _ _ _ rfl HMD.out rfl ?_)
              clear y8 y8' hu1 hq1 hf1 hf1'
              have y1 := HBXE.out.cell 1
              simp only [List.getElem?_cons_zero, List.getElem?_cons_succ] at y1
              have HLK := Lib.hid (likeM_any HTE.out HSE.out.2 c.h)
              rw [HLPE.out] at HLK
              go_wp2_with fail
              refine HLK.out.mono ?_
              rintro e w8 ⟨rfl, hb8⟩
              have HT8 := Lib.hid (HTE.out.next hb8)
              clear hb8 y1
              go_wp2_with fail
              go_roundw
              case rel => exact ⟨i + 1, _, _, _, by omega, by go_num, HLPE.out, HT8.out, HSE.out.mono (by omega)⟩
              case measure => simp [intOf]; omega
            · simp only [Value.slice.injEq] at hs3
              obtain ⟨rfl, -, rfl⟩ := hs3
              have HCC := Lib.hid hcc
              clear hmade hcc
              have y8' := Lib.cell?_alloc_some (.cells #[] 34) y8
              go_wp2_with (at_builtin; refine wpList_append_own _ rfl _ _ 23 rfl w3.heap.size 34 i0 (.agg #[.int .i64 0, .int .i64 0]) 2 16 Tryz.underlying23 hi0 hz0 hz1 hz2 rfl (by decide) _ _ _ rfl HMD.out _ _ _ (flatV c.t.slots) rfl (by rw [flatV_len]) ?_ ?_ ?_ ?_ ?_ ?_)
              · intro j u hu
                exact (Below.cell (below_alloc w3 (.cells #[] 34)) (cell_lt (HCC.out j u hu))).trans (HCC.out j u hu)
              · exact flatV_one c.t.slots
              · unfold maxLen; omega
              · omega
              · exact Nat.le_of_lt (by simp)
              intro v6 w6 hown6 hg6 _
              have hw6 : Below w3.heap.size w3 w6 := (below_alloc w3 (.cells #[] 34)).trans (show Below w3.heap.size _ w6 from (Below.refl _ _).grown hg6 (by simp) fun j hj => by cases hj; exact Nat.le_refl _)
              obtain ⟨va6, vc6, rfl⟩ := row_slice hown6
              obtain ⟨L7, hL7, hT7, hst7⟩ := HT3.out.roots (Nat.le_refl _) hw6 hown6
              rw [HLP.out] at hT7 hst7
              have HBXE := Lib.hid (show Box _ wr.heap.size [.int .i64 c.kind, .int .i64 c.h, .int .i64 c.n, .int .i64 c.v.t, .int .i64 c.v.n, .int .i64 c.t.kind, .int .i64 c.t.weak, .int .i64 c.t.array, .slice (some ad2) c.t.slots.length sc, .int .i64 c.t.fin, .bool c.key] 38 from HBX3.out.of_block (hst7 _ rfl))
              have HTE := Lib.hid hT7
              have HLPE := Lib.hid (hL7.trans HLP.out)
              have HSE := Lib.hid (show Sm (61 + i) { M with roots := c.t.slots } from ⟨by have := HS.out.1; show M.obs.length ≤ _; omega, HS.out.2.n, by show c.t.slots.length ≤ _; omega, HS.out.2.s⟩)
              have z1 := (HBX3.out.below hw6 HBX3.out.lt).cell 1
              simp only [List.getElem?_cons_zero, List.getElem?_cons_succ] at z1
              have hq6 := (HT3.out.next hw6).r.cells.2
              have hf6 := (HT3.out.next hw6).r.box.free 1
              rw [HLP.out] at hq6 hf6
              clear hown6 hg6 hw6 hT7 hst7 hL7 y8 y8' hq1 hf1
              go_wp2_with fail
              have y1 := HBXE.out.cell 1
              simp only [List.getElem?_cons_zero, List.getElem?_cons_succ] at y1
              have HLK := Lib.hid (likeM_any HTE.out HSE.out.2 c.h)
              rw [HLPE.out] at HLK
              go_wp2_with fail
              refine HLK.out.mono ?_
              rintro e w8 ⟨rfl, hb8⟩
              have HT8 := Lib.hid (HTE.out.next hb8)
              clear hb8 y1
              go_wp2_with fail
              go_roundw
              case rel => exact ⟨i + 1, _, _, _, by omega, by go_num, HLPE.out, HT8.out, HSE.out.mono (by omega)⟩
              case measure => simp [intOf]; omega
          have g2 : (c.kind == 2) = false := by simp [k2]
          by_cases k3 : c.kind = 3
          · have g3 : (c.kind == 3) = true := by simp [k3]
            clear k3 k2 k1 k0
            have HT2 := HT
            have HBX2 := HBX
            have y1 := HBX2.out.cell 1
            have y2 := HBX2.out.cell 2
            simp only [List.getElem?_cons_zero, List.getElem?_cons_succ] at y1 y2
            have HK2 := Lib.hid (mc_setColour HT2.out HS.out.2.n c.h c.n)
            go_wp2_with fail
            refine HK2.out.mono ?_
            rintro e w3 ⟨rfl, hT, hst⟩
            have HBX3 := Lib.hid (show Box w3 wr.heap.size [.int .i64 c.kind, .int .i64 c.h, .int .i64 c.n, .int .i64 c.v.t, .int .i64 c.v.n, .int .i64 c.t.kind, .int .i64 c.t.weak, .int .i64 c.t.array, .slice sa c.t.slots.length sc, .int .i64 c.t.fin, .bool c.key] 38 from HBX2.out.of_block (hst _ rfl))
            have HT3 := Lib.hid hT
            clear hT hst y1 y2
            have y1 := HBX3.out.cell 1
            have y2 := HBX3.out.cell 2
            simp only [List.getElem?_cons_zero, List.getElem?_cons_succ] at y1 y2
            have HK3 := Lib.hid (mc_setAge HT3.out (by show (M.setCol c.h c.n).obs.length ≤ _; rw [(lk_setCol _ _ _).len]; exact HS.out.2.n) c.h c.n)
            go_wp2_with fail
            refine HK3.out.mono ?_
            rintro e w4 ⟨rfl, hT, hst⟩
            have HBX4 := Lib.hid (show Box w4 wr.heap.size [.int .i64 c.kind, .int .i64 c.h, .int .i64 c.n, .int .i64 c.v.t, .int .i64 c.v.n, .int .i64 c.t.kind, .int .i64 c.t.weak, .int .i64 c.t.array, .slice sa c.t.slots.length sc, .int .i64 c.t.fin, .bool c.key] 38 from HBX3.out.of_block (hst _ rfl))
            have HT4 := Lib.hid hT
            clear hT hst y1 y2
            have y1 := HBX4.out.cell 1
            have y2 := HBX4.out.cell 2
            simp only [List.getElem?_cons_zero, List.getElem?_cons_succ] at y1 y2
            have HK4 := Lib.hid (rc_put HT4.out HS.out.2.n c.h c.n c.n)
            rw [HLP.out] at HK4
            go_wp2_with fail
            refine HK4.out.mono ?_
            rintro e w5 ⟨rfl, L4, hL4, hT, hst⟩
            have HLPE := Lib.hid hL4
            clear hL4
            have HBX5 := Lib.hid (show Box w5 wr.heap.size [.int .i64 c.kind, .int .i64 c.h, .int .i64 c.n, .int .i64 c.v.t, .int .i64 c.v.n, .int .i64 c.t.kind, .int .i64 c.t.weak, .int .i64 c.t.array, .slice sa c.t.slots.length sc, .int .i64 c.t.fin, .bool c.key] 38 from HBX4.out.of_block (hst _ rfl))
            have HT5 := Lib.hid hT
            clear hT hst y1 y2
            have HBXE := HBX5
            have HTE := HT5
            have HSE := Lib.hid (show Sm (61 + i) ((M.setCol c.h c.n).setAge c.h c.n) from (HS.out.mono (by omega)).lk ((lk_setCol _ _ _).trans (lk_setAge _ _ _)))
            have y1 := HBXE.out.cell 1
            simp only [List.getElem?_cons_zero, List.getElem?_cons_succ] at y1
            have HLK := Lib.hid (likeM_any HTE.out HSE.out.2 c.h)
            rw [HLPE.out] at HLK
            go_wp2_with fail
            refine HLK.out.mono ?_
            rintro e w8 ⟨rfl, hb8⟩
            have HT8 := Lib.hid (HTE.out.next hb8)
            clear hb8 y1
            go_wp2_with fail
            go_roundw
            case rel => exact ⟨i + 1, _, _, _, by omega, by go_num, HLPE.out, HT8.out, HSE.out.mono (by omega)⟩
            case measure => simp [intOf]; omega
          have g3 : (c.kind == 3) = false := by simp [k3]
          by_cases k4 : c.kind = 4
          · have g4 : (c.kind == 4) = true := by simp [k4]
            clear k4 k3 k2 k1 k0
            have HT2 := HT
            have HBX2 := HBX
            have y1 := HBX2.out.cell 1
            have y2 := HBX2.out.cell 2
            simp only [List.getElem?_cons_zero, List.getElem?_cons_succ] at y1 y2
            have HK2 := Lib.hid (mc_setFin HT2.out HS.out.2.n c.h c.n)
            go_wp2_with fail
            refine HK2.out.mono ?_
            rintro e w3 ⟨rfl, hT, hst⟩
            have HBX3 := Lib.hid (show Box w3 wr.heap.size [.int .i64 c.kind, .int .i64 c.h, .int .i64 c.n, .int .i64 c.v.t, .int .i64 c.v.n, .int .i64 c.t.kind, .int .i64 c.t.weak, .int .i64 c.t.array, .slice sa c.t.slots.length sc, .int .i64 c.t.fin, .bool c.key] 38 from HBX2.out.of_block (hst _ rfl))
            have HT3 := Lib.hid hT
            clear hT hst y1 y2
            have y1 := HBX3.out.cell 1
            have y2 := HBX3.out.cell 2
            simp only [List.getElem?_cons_zero, List.getElem?_cons_succ] at y1 y2
            have HK3 := Lib.hid (rc_setFin HT3.out HS.out.2.n c.h c.n)
            rw [HLP.out] at HK3
            go_wp2_with fail
            refine HK3.out.mono ?_
            rintro e w4 ⟨rfl, L4, hL4, hT, hst⟩
            have HLPE := Lib.hid hL4
            clear hL4
            have HBX4 := Lib.hid (show Box w4 wr.heap.size [.int .i64 c.kind, .int .i64 c.h, .int .i64 c.n, .int .i64 c.v.t, .int .i64 c.v.n, .int .i64 c.t.kind, .int .i64 c.t.weak, .int .i64 c.t.array, .slice sa c.t.slots.length sc, .int .i64 c.t.fin, .bool c.key] 38 from HBX3.out.of_block (hst _ rfl))
            have HT4 := Lib.hid hT
            clear hT hst y1 y2
            have HBXE := HBX4
            have HTE := HT4
            have HSE := Lib.hid (show Sm (61 + i) (M.setFin c.h c.n) from (HS.out.mono (by omega)).lk (lk_setFin _ _ _))
            have y1 := HBXE.out.cell 1
            simp only [List.getElem?_cons_zero, List.getElem?_cons_succ] at y1
            have HLK := Lib.hid (likeM_any HTE.out HSE.out.2 c.h)
            rw [HLPE.out] at HLK
            go_wp2_with fail
            refine HLK.out.mono ?_
            rintro e w8 ⟨rfl, hb8⟩
            have HT8 := Lib.hid (HTE.out.next hb8)
            clear hb8 y1
            go_wp2_with fail
            go_roundw
            case rel => exact ⟨i + 1, _, _, _, by omega, by go_num, HLPE.out, HT8.out, HSE.out.mono (by omega)⟩
            case measure => simp [intOf]; omega
          have g4 : (c.kind == 4) = false := by simp [k4]
          by_cases k5 : c.kind = 5
          · have g5 : (c.kind == 5) = true := by simp [k5]
            clear k5 k4 k3 k2 k1 k0
            have HT2 := HT
            have HBX2 := HBX
            have y1 := HBX2.out.cell 1
            have y2 := HBX2.out.cell 2
            have y10 := HBX2.out.cell 10
            simp only [List.getElem?_cons_zero, List.getElem?_cons_succ] at y1 y2 y10
            have HK2 := Lib.hid (mc_clear HT2.out HS.out.2 c.h c.n c.key)
            go_wp2_with fail
            refine HK2.out.mono ?_
            rintro e w3 ⟨rfl, hT, hst⟩
            have HBX3 := Lib.hid (show Box w3 wr.heap.size [.int .i64 c.kind, .int .i64 c.h, .int .i64 c.n, .int .i64 c.v.t, .int .i64 c.v.n, .int .i64 c.t.kind, .int .i64 c.t.weak, .int .i64 c.t.array, .slice sa c.t.slots.length sc, .int .i64 c.t.fin, .bool c.key] 38 from HBX2.out.of_block (hst _ rfl))
            have HT3 := Lib.hid hT
            clear hT hst y1 y2 y10
            have y1 := HBX3.out.cell 1
            have y2 := HBX3.out.cell 2
            have y10 := HBX3.out.cell 10
            simp only [List.getElem?_cons_zero, List.getElem?_cons_succ] at y1 y2 y10
            have HK3 := Lib.hid (rc_clear HT3.out HS.out.2 c.h c.n c.key)
            rw [HLP.out] at HK3
            go_wp2_with fail
            refine HK3.out.mono ?_
            rintro e w4 ⟨rfl, L4, hL4, hT, hst⟩
            have HLPE := Lib.hid hL4
            clear hL4
            have HBX4 := Lib.hid (show Box w4 wr.heap.size [.int .i64 c.kind, .int .i64 c.h, .int .i64 c.n, .int .i64 c.v.t, .int .i64 c.v.n, .int .i64 c.t.kind, .int .i64 c.t.weak, .int .i64 c.t.array, .slice sa c.t.slots.length sc, .int .i64 c.t.fin, .bool c.key] 38 from HBX3.out.of_block (hst _ rfl))
            have HT4 := Lib.hid hT
            clear hT hst y1 y2 y10
            have HBXE := HBX4
            have HTE := HT4
            have HSE := Lib.hid (show Sm (61 + i) (M.clear c.h c.n c.key) from (HS.out.mono (by omega)).lk (lk_clear _ _ _ _))
            have y1 := HBXE.out.cell 1
            simp only [List.getElem?_cons_zero, List.getElem?_cons_succ] at y1
            have HLK := Lib.hid (likeM_any HTE.out HSE.out.2 c.h)
            rw [HLPE.out] at HLK
            go_wp2_with fail
            refine HLK.out.mono ?_
            rintro e w8 ⟨rfl, hb8⟩
            have HT8 := Lib.hid (HTE.out.next hb8)
            clear hb8 y1
            go_wp2_with fail
            go_roundw
            case rel => exact ⟨i + 1, _, _, _, by omega, by go_num, HLPE.out, HT8.out, HSE.out.mono (by omega)⟩
            case measure => simp [intOf]; omega
          have g5 : (c.kind == 5) = false := by simp [k5]
          by_cases k6 : c.kind = 6
          · have g6 : (c.kind == 6) = true := by simp [k6]
            clear k6 k5 k4 k3 k2 k1 k0
            have HT2 := HT
            have HBX2 := HBX
            have y1 := HBX2.out.cell 1
            simp only [List.getElem?_cons_zero, List.getElem?_cons_succ] at y1
            have HK2 := Lib.hid (mc_drop HT2.out HS.out.2.n c.h)
            go_wp2_with fail
            refine HK2.out.mono ?_
            rintro e w3 ⟨rfl, hT, hst⟩
            have HBX3 := Lib.hid (show Box w3 wr.heap.size [.int .i64 c.kind, .int .i64 c.h, .int .i64 c.n, .int .i64 c.v.t, .int .i64 c.v.n, .int .i64 c.t.kind, .int .i64 c.t.weak, .int .i64 c.t.array, .slice sa c.t.slots.length sc, .int .i64 c.t.fin, .bool c.key] 38 from HBX2.out.of_block (hst _ rfl))
            have HT3 := Lib.hid hT
            clear hT hst y1
            have y1 := HBX3.out.cell 1
            simp only [List.getElem?_cons_zero, List.getElem?_cons_succ] at y1
            have HK3 := Lib.hid (rc_drop HT3.out HS.out.2.n c.h)
            rw [HLP.out] at HK3
            go_wp2_with fail
            refine HK3.out.mono ?_
            rintro e w4 ⟨rfl, L4, hL4, hT, hst⟩
            have HLPE := Lib.hid hL4
            clear hL4
            have HBX4 := Lib.hid (show Box w4 wr.heap.size [.int .i64 c.kind, .int .i64 c.h, .int .i64 c.n, .int .i64 c.v.t, .int .i64 c.v.n, .int .i64 c.t.kind, .int .i64 c.t.weak, .int .i64 c.t.array, .slice sa c.t.slots.length sc, .int .i64 c.t.fin, .bool c.key] 38 from HBX3.out.of_block (hst _ rfl))
            have HT4 := Lib.hid hT
            clear hT hst y1
            have HBXE := HBX4
            have HTE := HT4
            have HSE := Lib.hid (show Sm (61 + i) (M.drop c.h) from (HS.out.mono (by omega)).drop _)
            have y1 := HBXE.out.cell 1
            simp only [List.getElem?_cons_zero, List.getElem?_cons_succ] at y1
            have HLK := Lib.hid (likeM_any HTE.out HSE.out.2 c.h)
            rw [HLPE.out] at HLK
            go_wp2_with fail
            refine HLK.out.mono ?_
            rintro e w8 ⟨rfl, hb8⟩
            have HT8 := Lib.hid (HTE.out.next hb8)
            clear hb8 y1
            go_wp2_with fail
            go_roundw
            case rel => exact ⟨i + 1, _, _, _, by omega, by go_num, HLPE.out, HT8.out, HSE.out.mono (by omega)⟩
            case measure => simp [intOf]; omega
          have g6 : (c.kind == 6) = false := by simp [k6]
          have HTE := HT
          have HBXE := HBX
          have HLPE := HLP
          have HSE := Lib.hid (HS.out.mono (show 60 + i ≤ 61 + i by omega))
          clear k6 k5 k4 k3 k2 k1 k0
          have y1 := HBXE.out.cell 1
          simp only [List.getElem?_cons_zero, List.getElem?_cons_succ] at y1
          have HLK := Lib.hid (likeM_any HTE.out HSE.out.2 c.h)
          rw [HLPE.out] at HLK
          go_wp2_with fail
          refine HLK.out.mono ?_
          rintro e w8 ⟨rfl, hb8⟩
          have HT8 := Lib.hid (HTE.out.next hb8)
          clear hb8 y1
          go_wp2_with fail
          go_roundw
          case rel => exact ⟨i + 1, _, _, _, by omega, by go_num, HLPE.out, HT8.out, HSE.out.mono (by omega)⟩
          case measure => simp [intOf]; omega
        · obtain rfl : i = N := by omega
          obtain ⟨we, hwe⟩ : ∃ x, x = wr := ⟨_, rfl⟩
          subst hwe
          have HTE := Lib.hid hT
          have HSE := Lib.hid hS
          have HLPE := Lib.hid hLp
          obtain ⟨la, lc, hla⟩ := row_slice hT.r.row
          obtain ⟨K, hK⟩ : ∃ K, K = M.obs.length := ⟨_, rfl⟩
          rw [← hK] at hla
          have HLA := Lib.hid hla
          have hK2 : K ≤ 100000 := by rw [hK]; exact hS.2.n
          have h0 := hT.r.cells.1
          rw [hLp, hla] at h0
          clear hT hS hLp hla hK
          go_wp2_with fail
          go_loopw [10] (fun t10 wq => ∃ j : Nat, j ≤ K + 2 ∧ t10 = .int .i64 j ∧ Below we.heap.size we wq) (fun t10 _ => K + 2 - (intOf t10).toNat)
          case atStart => exact ⟨0, Nat.zero_le _, by go_num, Below.refl _ _⟩
          case round =>
            obtain ⟨j, hj, rfl, hB⟩ := hrel
            have c0 := (HTE.out.next hB).r.cells.1
            rw [HLPE.out, HLA.out] at c0
            clear h0
            by_cases hjl : j < K + 2
            · have g1 : decide ((j : Int) ≤ (K : Int) + 1) = true := decide_eq_true (by omega)
              have HLK := Lib.hid (likeM_any (HTE.out.next hB) HSE.out.2 (j : Int))
              rw [HLPE.out] at HLK
              go_wp2_with fail
              refine HLK.out.mono ?_
              rintro e w8 ⟨rfl, hb8⟩
              have HB8 := Lib.hid (hB.trans (hb8.mono hB.size))
              clear hb8 c0
              go_wp2_with fail
              go_roundw
              case rel => exact ⟨j + 1, by omega, by go_num, HB8.out⟩
              case measure => simp [intOf]; omega
            · have g1 : decide ((j : Int) ≤ (K : Int) + 1) = false := decide_eq_false (by omega)
              have HBA := Lib.hid (HTE.out.below.trans (hB.mono HTE.out.below.size))
              go_wp2_with fail
              refine (alive_any).mono ?_
              rintro e w9 ⟨rfl, hb9⟩
              have HBE := Lib.hid (HBA.out.trans (hb9.mono HBA.out.size))
              clear hb9
              go_wp2_with fail
              go_ret
              exact ⟨rfl, HBE.out⟩
set_option maxRecDepth 100000 in
theorem lifted (os : Os) (started : os.Started) (H : Type) (enc : TypeId × Value → H) :
    ReturnsInHanded {} Tryz.checked os 3 .any (Rows.collectMemSpec.pre6 enc Tryz.prog Tryz.f3 Rows.collectMemRow.domain false) (Rows.collectMemSpec.post enc Tryz.prog Tryz.f3 false true false false) := by
  refine returnsInHanded_of_change_sized (C := Tryz.checked) own started (by kernel_rfl) Tryz.func3
    (ChangeSpec.witness6 (enc := enc) (C := Tryz.checked) false ⟨#[], #[.agg #[.slice none 0 0, .slice none 0 0], .slice none 0 0], []⟩ 8 (by kernel_rfl) (by kernel_rfl) (by kernel_rfl) (by kernel_rfl)) ?_
  intro W base args ds gs before hval0 hW hcnd hz _
  have hval : ∀ (j : Nat) t v, Tryz.f3.params[j]? = some t → args[j]? = some v → Value.okWide Tryz.prog W .any base t v := hval0
  have hW' := hW
  obtain ⟨p, q, hA0, hV, rfl, hfz, hnd⟩ := hW
  have hA : DataW.TrodAll enc Tryz.prog W 0 (fun _ => true) true Tryz.f3.params.toList args.toList ds p := hA0
  have hzz : ∀ (j : Nat) (t : TypeId) (d : DataW H), (Tryz.f3.params.toList)[j]? = some t → ds[j]? = some d → ∀ n ∈ d.weights Tryz.prog t, n ≤ reachBytes := fun j t d ht hd n hn => by
    have := List.all_eq_true.1 hz n (DataW.weights_mem_each (j := j) (by rw [List.getElem?_append_left (List.getElem?_eq_some_iff.1 ht).1]; exact ht) (by rw [List.getElem?_append_left (List.getElem?_eq_some_iff.1 hd).1]; exact hd) n hn)
    simpa using this
  rw [Tryz.params3] at hA hval hzz
  obtain ⟨v0, vs0, d0, ds0, p0, q0, hargs, rfl, rfl, h0, r0⟩ := trodAll_cons hA
  obtain ⟨v1, vs1, d1, ds1, p1, q1, rfl, rfl, rfl, h1, r1⟩ := trodAll_cons r0
  obtain ⟨rfl, rfl, rfl⟩ := trodAll_nil r1
  obtain rfl : args = #[v0, v1] := by cases args; simp_all
  obtain ⟨rfl, rfl⟩ := trodVars_none hV
  simp only [List.append_nil] at hW'
  have h0k := h0
  obtain ⟨cs0, rfl, hz0⟩ := okWide_struct grFs_eq (hval 0 25 v0 rfl rfl)
  obtain ⟨fuel0, hf0⟩ := h0
  obtain ⟨tv0, rv0, ts0, rt0, hu0, hg0, hb0, hr0, hl0⟩ := open_graph hf0 (hzz 0 _ _ rfl rfl)
  obtain rfl : cs0 = #[tv0, rv0] := by simpa [Value.cells] using congrArg List.toArray hu0
  have h1k := h1
  obtain ⟨x1, y1, z1, rfl⟩ := okWide_slice Tryz.underlying26 (hval 1 26 v1 rfl rfl)
  obtain ⟨fuel1, hf1⟩ := h1
  obtain ⟨cv1, l1, hcs1, hc1, hlen1⟩ := open_calls hf1 (hzz 1 _ _ rfl rfl)
  obtain rfl : Value.slice x1 y1 z1 = cv1 := by simpa [Value.cells] using hcs1
  clear hA0 hval0
  try simp only [List.append_nil] at hW'
  refine (walk tv0 rv0 ts0 rt0 _ l1 W hg0 hb0 hr0 hl0 hc1).mono fun e W' ⟨he, hg⟩ => ?_
  subst he
  exact ⟨_, rfl, _, _, _, [], _, [], hW', (trodAll_cons_mk (shut_bool Tryz.underlying4 _) trodAll_mk0), (trodAll_cons_mk (Below.trod Tryz.laidOut (by kernel_rfl) (of_decide_eq_true (by kernel_rfl)) h0k hg (fun x hx => by have := hW'.lt x (by simp [hx]); simpa using this)) (trodAll_cons_mk (Below.trod Tryz.laidOut (by kernel_rfl) (of_decide_eq_true (by kernel_rfl)) h1k hg (fun x hx => by have := hW'.lt x (by simp [hx]); simpa using this)) trodAll_mk0)), rfl,
    hg.frame _, fun h => by cases h⟩

theorem over : Rows.collectMemRow.holds Tryz.pinned (OpenSpec.ofChange Rows.collectMemSpec) :=
  OpenClaim.holds_of_wide 3 Tryz.f3 rfl rfl rfl rfl rfl rfl rfl ⟨rfl, rfl, rfl, rfl, rfl⟩ rfl rfl rfl rfl rfl (by kernel_rfl) Tryz.func3 (by kernel_rfl)
    (of_decide_eq_true (by kernel_rfl)) (by unfold Func.isWrapper; first | (rw [if_pos (by decide +kernel)]; kernel_rfl) | (rw [if_neg (by decide +kernel)]; exact ⟨rfl, rfl⟩))
    (fun os started H enc _ => lifted os started H enc)

theorem proved : Rows.CollectMemSaid :=
  over
#print axioms proved
end Go.Proofs.YtminbemdcanakaaGreat.collectMem
