/- How those that are to be finalised are put in order. -/
import Derived.Test.YtminbemdcanakaaGreatQColGrown
import Derived.Test.YtminbemdcanakaaGreatShelf
namespace Go.Proofs.YtminbemdcanakaaGreat
open Go.RowKit Go.Shelf
set_option linter.unusedVariables false
set_option linter.unusedSimpArgs false
attribute [local go_sem] Oper.semAt_some meth_order meth_thing meth_kind meth_cells meth_colour meth_age meth_setColour meth_setAge meth_setFin meth_clear meth_drop meth_roots

def cmpI (a b : Int) : Int := if a < b then -1 else if b < a then 1 else 0
set_option maxHeartbeats 1000000 in
theorem isNaN_any (x : Int) (w : World) : Calls Tryz.prog 177 #[.int .i64 x] w fun e w' => e = .returned (.bool false) ∧ w' = w := by
  have e0 : (x != x) = false := by simp
  go_enter Tryz.func177, Tryz.ntmps177
  go_wp2_with fail
  go_ret
  exact ⟨rfl, rfl⟩
set_option maxHeartbeats 1000000 in
theorem compare_any (a b : Int) (w : World) : Calls Tryz.prog 163 #[.int .i64 a, .int .i64 b] w fun e w' => e = .returned (.int .i64 (cmpI a b)) ∧ w' = w := by
  have H := Lib.hid (isNaN_any a w)
  have H2 := Lib.hid (isNaN_any b w)
  obtain ⟨r, hr⟩ : ∃ r, r = cmpI a b := ⟨_, rfl⟩
  rw [← hr]
  have HR := Lib.hid hr
  clear hr
  by_cases h1 : a < b
  · have e1 : decide (a < b) = true := decide_eq_true h1
    have HX := Lib.hid (show r = -1 by rw [HR.out]; unfold cmpI; rw [if_pos h1])
    clear h1
    go_enter Tryz.func163, Tryz.ntmps163
    go_wp2_with fail
    refine H.out.mono ?_
    rintro e w1 ⟨rfl, rfl⟩
    go_wp2_with fail
    refine H2.out.mono ?_
    rintro e w1 ⟨rfl, rfl⟩
    go_wp2_with fail
    go_ret
    exact ⟨by rw [HX.out]; rfl, rfl⟩
  · have e1 : decide (a < b) = false := decide_eq_false h1
    by_cases h2 : b < a
    · have e2 : decide (b < a) = true := decide_eq_true h2
      have HX := Lib.hid (show r = 1 by rw [HR.out]; unfold cmpI; rw [if_neg h1, if_pos h2])
      clear h1 h2
      go_enter Tryz.func163, Tryz.ntmps163
      go_wp2_with fail
      refine H.out.mono ?_
      rintro e w1 ⟨rfl, rfl⟩
      go_wp2_with fail
      refine H2.out.mono ?_
      rintro e w1 ⟨rfl, rfl⟩
      go_wp2_with fail
      go_ret
      exact ⟨by rw [HX.out]; rfl, rfl⟩
    · have e2 : decide (b < a) = false := decide_eq_false h2
      have HX := Lib.hid (show r = 0 by rw [HR.out]; unfold cmpI; rw [if_neg h1, if_neg h2])
      clear h1 h2
      go_enter Tryz.func163, Tryz.ntmps163
      go_wp2_with fail
      refine H.out.mono ?_
      rintro e w1 ⟨rfl, rfl⟩
      go_wp2_with fail
      refine H2.out.mono ?_
      rintro e w1 ⟨rfl, rfl⟩
      go_wp2_with fail
      go_ret
      exact ⟨by rw [HX.out]; rfl, rfl⟩
def orI (a b : Int) : Int := if a ≠ 0 then a else b
set_option maxHeartbeats 2000000 in
theorem or_any {g : Nat} {a b : Int} {w : World} (h0 : w.cell? ⟨g, 0, none⟩ = some (.int .i64 a)) (h1 : w.cell? ⟨g, 1, none⟩ = some (.int .i64 b)) : Calls Tryz.prog 162 #[.slice (some ⟨g, 0, none⟩) 2 2] w fun e w' => e = .returned (.int .i64 (orI a b)) ∧ w' = w := by
  obtain ⟨r, hr⟩ : ∃ r, r = orI a b := ⟨_, rfl⟩
  rw [← hr]
  have HR := Lib.hid hr
  clear hr
  by_cases ha : a = 0
  · have e0 : (a != 0) = false := by simp [ha]
    by_cases hb : b = 0
    · have e1 : (b != 0) = false := by simp [hb]
      have HX := Lib.hid (show r = 0 by rw [HR.out]; unfold orI; rw [if_neg (fun h => h ha), hb])
      clear ha hb
      go_enter Tryz.func162, Tryz.ntmps162
      go_wp2_with fail
      refine wp_loop_rounds 3 ?_
      rw [rounds_succ]
      go_wp2_with fail
      rw [rounds_succ]
      go_wp2_with fail
      rw [rounds_succ]
      go_wp2_with fail
      go_ret
      exact ⟨by rw [HX.out]; rfl, rfl⟩
    · have e1 : (b != 0) = true := by simp [hb]
      have HX := Lib.hid (show r = b by rw [HR.out]; unfold orI; rw [if_neg (fun h => h ha)])
      clear ha hb
      go_enter Tryz.func162, Tryz.ntmps162
      go_wp2_with fail
      refine wp_loop_rounds 3 ?_
      rw [rounds_succ]
      go_wp2_with fail
      rw [rounds_succ]
      go_wp2_with fail
      go_ret
      exact ⟨by rw [HX.out]; rfl, rfl⟩
  · have e0 : (a != 0) = true := by simp [ha]
    have HX := Lib.hid (show r = a by rw [HR.out]; unfold orI; rw [if_pos ha])
    clear ha
    go_enter Tryz.func162, Tryz.ntmps162
    go_wp2_with fail
    refine wp_loop_rounds 3 ?_
    rw [rounds_succ]
    go_wp2_with fail
    go_ret
    exact ⟨by rw [HX.out]; rfl, rfl⟩
end Go.Proofs.YtminbemdcanakaaGreat
/- The comparer of those that are to be finalised. -/
namespace Go.Proofs.YtminbemdcanakaaGreat
open Go.RowKit Go.Shelf
set_option linter.unusedVariables false
set_option linter.unusedSimpArgs false
theorem field_fin (a b c d e : Value) (w : World) : (Instr.field 36 (.agg #[a, b, c, d, e]) 4).run Tryz.prog w = .ok e w := by kernel_rfl
attribute [local go_sem] Oper.semAt_some field_fin meth_order meth_thing meth_kind meth_cells meth_colour meth_age meth_setColour meth_setAge meth_setFin meth_clear meth_drop meth_roots

def cfI (m : Mm) (a b : Int) : Int := orI (cmpI (m.get b).fin (m.get a).fin) (IntKind.i64.wrap (b - a))
def CmpP (w : World) (n : Int) (e : Ending) (w' : World) : Prop := e = .returned (.int .i64 n) ∧ Gr w w'
structure CS (W : World) (w' : World) : Prop where
  b : Below W.heap.size W w'
  d : W.drawn ≤ w'.drawn
theorem CS.alloc {W w' : World} (h : CS W w') (o : Obj) : CS W (w'.alloc o) := ⟨h.b.alloc h.b.size o, h.d⟩
theorem CS.drew0 (W : World) : CS W W.drew := ⟨drew_below W, Nat.le_succ _⟩
theorem CS.step {W w1 w2 : World} (h : CS W w1) (hb : Below w1.heap.size w1 w2) (hd : w1.drawn ≤ w2.drawn) : CS W w2 := ⟨h.b.trans (hb.mono h.b.size), Nat.le_trans h.d hd⟩
theorem cs_cell {W w' : World} (h : CS W w') {a : Addr} {v : Value} (hc : W.cell? a = some v) : w'.cell? a = some v := (h.b.cell (cell_lt hc)).trans hc
set_option maxRecDepth 100000 in
set_option maxHeartbeats 4000000 in
theorem sepCmp_any {w : World} {be ep cp : Nat} {L : ML} {M : Mm} (hbe : w.cell? ⟨be, 0, none⟩ = some (.pointer (some ⟨ep, 0, none⟩))) (hep : w.cell? ⟨ep, 0, none⟩ = some (.pointer (some ⟨cp, 0, none⟩))) (hcp : w.cell? ⟨cp, 0, none⟩ = some (memI L.p)) (h : MemAt w L M) (hs : Sz M) (a b : Int) :
    Calls Tryz.prog 161 #[.int .i64 a, .int .i64 b, .pointer (some ⟨be, 0, none⟩)] w fun e w' => CmpP w (cfI M a b) e w' := by
  have HT := Lib.hid (fun (W' : World) (hd : Int) (hw : CS w W') => thingD_any (h.below hw.b) hs.n hd (at_small hs))
  have HC0 := Lib.hid hbe
  have HC1 := Lib.hid hep
  have HC2 := Lib.hid hcp
  have HS := Lib.hid (show ∀ w', CS w w' → CS w w' ∧ w'.cell? ⟨be, 0, none⟩ = some (.pointer (some ⟨ep, 0, none⟩)) ∧ w'.cell? ⟨ep, 0, none⟩ = some (.pointer (some ⟨cp, 0, none⟩)) ∧ w'.cell? ⟨cp, 0, none⟩ = some (memI L.p) from fun w' hw => ⟨hw, cs_cell hw HC0.out, cs_cell hw HC1.out, cs_cell hw HC2.out⟩)
  obtain ⟨r, hr⟩ : ∃ r, r = cfI M a b := ⟨_, rfl⟩
  rw [← hr]
  have HR := Lib.hid hr
  have h0 := HS.out _ (CS.drew0 w)
  clear h hs hr
  go_enter Tryz.func161, Tryz.ntmps161
  go_wp2_with fail
  go_region_held3 (fun w' => CS w w' ∧ w'.cell? ⟨be, 0, none⟩ = some (.pointer (some ⟨ep, 0, none⟩)) ∧ w'.cell? ⟨ep, 0, none⟩ = some (.pointer (some ⟨cp, 0, none⟩)) ∧ w'.cell? ⟨cp, 0, none⟩ = some (memI L.p))
    (first | (with_reducible assumption) | exact HS.out _ (CS.alloc (And.left (by with_reducible assumption)) _))
    (first
      | (go_at_call 39; refine (HT.out _ _ (by apply And.left; assumption)).mono ?_; rintro x5 w5 ⟨sv5, rfl, hv5, hb5, hd5⟩; have k5 := HS.out w5 (CS.step (And.left (by assumption)) hb5 hd5); clear hv5 hb5 hd5; unfold thingV)
      | (go_at_call 163; refine (compare_any _ _ _).mono ?_; rintro x6 w6 ⟨rfl, rfl⟩)
      | (go_at_call 162; refine (or_any ((Box.new _ [.int .i64 _, .int .i64 _] 3).cell 0) ((Box.new _ [.int .i64 _, .int .i64 _] 3).cell 1)).mono ?_; rintro x7 w7 ⟨rfl, rfl⟩))
  all_goals go_wp2_with fail
  all_goals (
    go_ret
    refine ⟨by rw [HR.out]; rfl, ?_⟩
    have hcs := CS.alloc (And.left k5) (.cells #[.int .i64 (cmpI (M.get b).fin (M.get a).fin), .int .i64 (IntKind.i64.wrap (b - a))] 3)
    exact gr_of hcs.b hcs.d)
end Go.Proofs.YtminbemdcanakaaGreat
/- slices.SortFunc at those that are to be finalised. -/
namespace Go.Proofs.YtminbemdcanakaaGreat
open Go.RowKit Go.Shelf Go.Sort
set_option linter.unusedVariables false
set_option linter.unusedSimpArgs false

/-- Handles. -/
structure HN where
  val : Int
  ok : 1 ≤ val ∧ val ≤ 100000
theorem HN.ext' {a b : HN} (h : a.val = b.val) : a = b := by cases a; cases b; simp only at h; subst h; rfl
instance : Inhabited HN := ⟨⟨1, by decide⟩⟩
def encH (x : HN) : Value := .int .i64 x.val
def cfH (m : Mm) (a b : HN) : Int := cfI m a.val b.val
theorem cfH_lt (m : Mm) (a b : HN) : ltOf (cfH m) a b = decide ((m.get b.val).fin < (m.get a.val).fin ∨ ((m.get a.val).fin = (m.get b.val).fin ∧ b.val < a.val)) := by
  have hw : IntKind.i64.wrap (b.val - a.val) = b.val - a.val := IntWalk.i64_in _ (by have := a.ok; have := b.ok; omega)
  unfold ltOf cfH cfI orI cmpI
  rw [hw]
  apply decide_eq_decide.2
  by_cases h1 : (m.get b.val).fin < (m.get a.val).fin
  · rw [if_pos h1, if_pos (by decide)]
    exact ⟨fun _ => .inl h1, fun _ => by decide⟩
  · rw [if_neg h1]
    by_cases h2 : (m.get a.val).fin < (m.get b.val).fin
    · rw [if_pos h2, if_pos (by decide)]
      exact ⟨fun h => absurd h (by decide), fun h => by omega⟩
    · rw [if_neg h2, if_neg (by decide)]
      exact ⟨fun h => .inr ⟨by omega, by omega⟩, fun h => by omega⟩
theorem cfH_swo (m : Mm) : SWO (ltOf (cfH m)) := by
  refine ⟨fun x => ?_, fun x y z h1 h2 => ?_, fun x y z h1 h2 => ?_⟩
  · rw [cfH_lt]; exact decide_eq_false (by omega)
  · rw [cfH_lt] at *
    have a := of_decide_eq_true h1
    have b := of_decide_eq_true h2
    exact decide_eq_true (by omega)
  · rw [cfH_lt] at *
    have a := of_decide_eq_false h1
    have b := of_decide_eq_false h2
    exact decide_eq_false (by omega)
theorem cfH_total (m : Mm) (x y : HN) (h1 : ltOf (cfH m) x y = false) (h2 : ltOf (cfH m) y x = false) : x = y := by
  rw [cfH_lt] at h1 h2
  have a := of_decide_eq_false h1
  have b := of_decide_eq_false h2
  exact HN.ext' (by omega)
theorem sort_val (m : Mm) (l : List HN) : (l.mergeSort fun x y => !(ltOf (cfH m)) y x).map HN.val = (l.map HN.val).mergeSort (sepLe m) := by
  apply List.map_mergeSort
  intro a _ b _
  rw [cfH_lt]
  unfold sepLe
  rw [← decide_not]
  apply decide_eq_decide.2
  omega
/-- A list of handles, each in its bounds. -/
theorem toHN (l : List Int) (h : ∀ x ∈ l, 1 ≤ x ∧ x ≤ 100000) : ∃ d : List HN, d.map HN.val = l := by
  induction l with
  | nil => exact ⟨[], rfl⟩
  | cons x l ih =>
    obtain ⟨d, hd⟩ := ih fun y hy => h y (List.mem_cons_of_mem _ hy)
    exact ⟨⟨x, h x (List.mem_cons_self)⟩ :: d, by rw [List.map_cons, hd]⟩
section
variable {w : World} {g n : Nat} {d : Array HN} {os : Array Obj}
theorem sortWorld_other {blk : Nat} {k : Nat} (hk : k < w.heap.size) (hne : k ≠ blk) : (sortWorld encH w blk 0 n d os).heap[k]? = w.heap[k]? := by
  unfold sortWorld
  rw [heap_grow_old _ _ (by simp [Go.Sort.ahead]; exact hk)]
  unfold putRow mapBlock Go.Sort.ahead
  simp only [Array.getElem?_modify]
  rw [if_neg (fun e => hne e.symm)]
theorem sortWorld_at {cur : Array Value} {e : TypeId} {fr : Nat × Nat} (h : w.heap[g]? = some (.cells cur e fr)) : (sortWorld encH w g 0 n d os).heap[g]? = some (.cells (putCells encH 0 d cur) e fr) := by
  have hlt := (Array.getElem?_eq_some_iff.1 h).1
  unfold sortWorld
  rw [heap_grow_old _ _ (by simp [Go.Sort.ahead]; exact hlt)]
  unfold putRow mapBlock Go.Sort.ahead
  simp only [Array.getElem?_modify, h]
  simp [onCells]
theorem sortWorld_keep (w : World) (g n : Nat) (d : Array HN) (os : Array Obj) : Keep (fun k => k = g) w (sortWorld encH w g 0 n d os) :=
  ⟨rfl, rfl, rfl, by unfold sortWorld; simp [Go.Sort.ahead], fun k hk hn => sortWorld_other hk hn⟩
end
theorem putCells_take (d : Array HN) (cur : Array Value) (hd : d.size ≤ cur.size) : (putCells encH 0 d cur).size = cur.size ∧ (putCells encH 0 d cur).toList.take d.size = intL (d.toList.map HN.val) := by
  refine ⟨by unfold putCells; simp, ?_⟩
  apply List.ext_getElem?
  intro k
  rw [List.getElem?_take]
  unfold intL
  rw [List.map_map, List.getElem?_map]
  by_cases hk : k < d.size
  · rw [if_pos hk, Array.getElem?_toList, Array.getElem?_toList]
    unfold putCells
    rw [Array.getElem?_mapIdx, Array.getElem?_eq_getElem (by omega), Array.getElem?_eq_getElem hk]
    simp only [Option.map_some, Nat.zero_le, true_and, Nat.zero_add, Nat.sub_zero, hk, if_true]
    rw [getElem!_pos d k hk]
    rfl
  · rw [if_neg hk, Array.getElem?_toList, Array.getElem?_eq_none (by omega)]
    rfl
def SortP (w : World) (v : Value) (l : List Int) (e : Ending) (w' : World) : Prop := e = .returned (.tuple #[]) ∧ w'.ownsRow 0 3 1 v l.length (intL l) ∧ Keep (fun k => v.ownBlock = some k) w w'
theorem sort_any {w : World} {be ep cp : Nat} {L : ML} {M : Mm} {v : Value} {l : List Int} {base : Nat} (hbe : w.cell? ⟨be, 0, none⟩ = some (.pointer (some ⟨ep, 0, none⟩))) (hep : w.cell? ⟨ep, 0, none⟩ = some (.pointer (some ⟨cp, 0, none⟩))) (hcp : w.cell? ⟨cp, 0, none⟩ = some (memI L.p)) (h : MemAt w L M) (hs : Sz M)
    (hv : w.ownsRow base 3 1 v l.length (intL l)) (hl : ∀ x ∈ l, 1 ≤ x ∧ x ≤ 100000) (hn : l.length ≤ 1000000) (hne : ∀ k, v.ownBlock = some k → k ≠ be ∧ k ≠ ep ∧ k ≠ cp ∧ ¬ L.own k) :
    Calls Tryz.prog 160 #[v, .func (.func 161) #[] #[.pointer (some ⟨be, 0, none⟩)]] w fun e w' => SortP w v (l.mergeSort (sepLe M)) e w' := by
  by_cases h0 : l = []
  · subst h0
    obtain ⟨a, c, rfl⟩ := row_slice hv
    refine (Tryz.slices_SortFunc_none (α := Int) a c _ w).mono ?_
    rintro e w' ⟨rfl, rfl⟩
    exact ⟨rfl, row_of_base (by simpa using hv) (fun _ _ => Nat.zero_le _), Keep.refl _ _⟩
  · obtain ⟨d, hd⟩ := toHN l hl
    have hdl : d.length = l.length := by rw [← hd, List.length_map]
    rcases hv.2 with ⟨rfl, h1⟩ | ⟨g, cap, cur, rfl, hb, hg, h1, h2, h3, h4⟩
    · exact absurd (List.eq_nil_of_length_eq_zero h1) h0
    · have hlt := (Array.getElem?_eq_some_iff.1 hg).1
      obtain ⟨n1, n2, n3, n4⟩ := hne g rfl
      have hH : Holds encH w g 0 d.toArray := by
        intro j hj
        have hj' : j < d.length := by simpa using hj
        rw [Nat.zero_add]
        refine ⟨?_, row_free hv (g := g) rfl j⟩
        have hc := hv.cells (g := g) rfl j (.int .i64 (d[j]'hj').val) (intL_get (by rw [← hd, List.getElem?_map, List.getElem?_eq_getElem hj']; rfl))
        rw [addr_add, Nat.zero_add] at hc
        rw [hc, getElem!_pos d.toArray j hj]
        rfl
      have hcmp : CmpLays1 Tryz.prog 161 #[.pointer (some ⟨be, 0, none⟩)] encH (cfH M) g 0 d.toArray.size w := by
        intro m os dk hdk x y
        have hk := sortWorld_keep w g m dk os
        have e1 : (sortWorld encH w g 0 m dk os).cell? ⟨be, 0, none⟩ = some (.pointer (some ⟨ep, 0, none⟩)) := (World.cell?_of_block (hk.block be (cell_lt hbe) fun e => n1 e.symm)).trans hbe
        have e2 : (sortWorld encH w g 0 m dk os).cell? ⟨ep, 0, none⟩ = some (.pointer (some ⟨cp, 0, none⟩)) := (World.cell?_of_block (hk.block ep (cell_lt hep) fun e => n2 e.symm)).trans hep
        have e3 : (sortWorld encH w g 0 m dk os).cell? ⟨cp, 0, none⟩ = some (memI L.p) := (World.cell?_of_block (hk.block cp (cell_lt hcp) fun e => n3 e.symm)).trans hcp
        have e4 := h.keep hk fun k ho e => n4 (e ▸ ho)
        exact sepCmp_any e1 e2 e3 e4 hs x.val y.val
      have eg : ∀ args w, (callFunc 161 args).run Tryz.prog w = .ok (.enter 161 args) w := enters_of Tryz.func161 (by kernel_rfl) rfl
      have hcon := Tryz.slices_SortFunc_total encH (fun _ => rfl) (cfH M) (cfH_swo M) 161 #[.pointer (some ⟨be, 0, none⟩)] g 0 cap d.toArray w eg hcmp hH hlt (by simp; omega) (cfH_total M)
      rw [show d.toArray.size = l.length by simpa using hdl] at hcon
      refine hcon.mono ?_
      rintro e w' ⟨rfl, n, os, rfl⟩
      have hsv : (d.toArray.toList.mergeSort fun x y => !(ltOf (cfH M)) y x).map HN.val = l.mergeSort (sepLe M) := by
        rw [← hd]; exact sort_val M d
      have hk := sortWorld_keep w g n (d.toArray.toList.mergeSort fun x y => !(ltOf (cfH M)) y x).toArray os
      have hsz : (d.toArray.toList.mergeSort fun x y => !(ltOf (cfH M)) y x).toArray.size = l.length := by simp [List.length_mergeSort, hdl]
      obtain ⟨p1, p2⟩ := putCells_take (d.toArray.toList.mergeSort fun x y => !(ltOf (cfH M)) y x).toArray cur (by rw [hsz]; omega)
      refine ⟨rfl, ⟨by rw [intL_len, Nat.mul_one], .inr ⟨g, cap, _, by rw [List.length_mergeSort], Nat.zero_le _, sortWorld_at hg, by rw [List.length_mergeSort]; exact h1, h2, by rw [p1]; exact h3, ?_⟩⟩, hk.mono fun k _ e => by rw [e]; rfl⟩
      rw [List.length_mergeSort, Nat.mul_one, ← hsz, p2, ← hsv]
end Go.Proofs.YtminbemdcanakaaGreat
