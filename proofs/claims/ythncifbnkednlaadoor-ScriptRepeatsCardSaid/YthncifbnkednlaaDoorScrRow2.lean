/- What the rows hand the walks: the table of powers; points and scenes, opened. -/
import Derived.Test.YthncifbnkednlaaDoorScrRow
import Derived.Test.YthncifbnkednlaaDoorScrWalkPr
import Derived.Lib.LaidTab
import Derived.Deep.Slices
import Derived.Deep.Fields
import Derived.ChangeSame
namespace Go.Proofs.YthncifbnkednlaaDoor
open Go.ChangeShapes Go.WideShapes Go.ChangeAt Go.RowKit Go.Deep Go.Shelf
set_option linter.unusedVariables false
set_option linter.unusedSimpArgs false

theorem tab_eq : Rows.laid_internal_strconv_uint64pow10 = (Lib.tabData .u64 Lib.pow10Tab : DataW Unit) := by kernel_rfl
theorem envP_of {W : World} (h : laidMetH Tryd.prog Rows.scriptParsesRow.laid W) (hsh : W.ShapedOpen Tryd.prog) (hmax : ∃ m, W.cell? ⟨1, 0, none⟩ = some (.int .i64 m)) : EnvP W := by
  refine ⟨env_of h hsh hmax, ?_⟩
  rw [MakeChecks.laidMetH_plain _ _ _ (by kernel_rfl)] at h
  obtain ⟨ps, h, _⟩ := h
  unfold Rows.scriptParsesRow at h
  obtain ⟨_, _, _, _, _, _, _, _, _, _, h, _⟩ := h
  obtain ⟨_, _, _, _, _, _, _, _, _, _, h, _⟩ := h
  obtain ⟨g, t, cs, fuel, p, q, hg, ht, hv, hd, _, _⟩ := h
  obtain rfl := Option.some.inj ((show Tryd.prog.globalNamed "internal/strconv.uint64pow10" = some 2 by kernel_rfl).symm.trans hg)
  obtain rfl := Option.some.inj ((show (Tryd.prog.globals[2]?).map (·.type) = some 105 by kernel_rfl).symm.trans ht)
  rw [tab_eq] at hd
  unfold Lib.TabIs
  rw [hv, ← Lib.cells_of_tab Tryd.underlying105 Tryd.underlying79 (by kernel_rfl) (by kernel_rfl) hd]

theorem Tryd.laidOut : laidOutB Tryd.prog = true := by kernel_rfl
noncomputable def ptFs : Array Field := match Tryd.prog.underlying 43 with | some (.struct fs) => fs | _ => #[]
theorem ptFs_eq : Tryd.prog.underlying 43 = some (.struct ptFs) := by kernel_rfl
theorem ptFs_all : ptFs.toList.map (fun f => (f.type, f.offset)) = [(3, 0), (3, 1)] := by kernel_rfl
noncomputable def scFs : Array Field := match Tryd.prog.underlying 25 with | some (.struct fs) => fs | _ => #[]
theorem scFs_eq : Tryd.prog.underlying 25 = some (.struct scFs) := by kernel_rfl
theorem scFs_all : scFs.toList.map (fun f => (f.type, f.offset)) = [(3, 0), (3, 1), (23, 2), (9, 3)] := by kernel_rfl
theorem cells_pt : Tryd.prog.cellsOf 43 = 2 := by kernel_rfl
theorem cells_sc : Tryd.prog.cellsOf 25 = 4 := by kernel_rfl
theorem cells_int : Tryd.prog.cellsOf 3 = 1 := by kernel_rfl
theorem cells_str : Tryd.prog.cellsOf 9 = 1 := by kernel_rfl
theorem cells_pts : Tryd.prog.cellsOf 23 = 1 := by kernel_rfl
theorem field_at {fs : Array Field} {l : List (TypeId × Nat)} (h : fs.toList.map (fun f => (f.type, f.offset)) = l) {j : Nat} {t : TypeId} {o : Nat} (hj : l[j]? = some (t, o)) : ∃ f, fs[j]? = some f ∧ f.type = t ∧ f.offset = o := by
  rw [← h, List.getElem?_map, Array.getElem?_toList, Option.map_eq_some_iff] at hj
  obtain ⟨f, hf, e⟩ := hj
  simp only [Prod.mk.injEq] at e
  exact ⟨f, hf, e.1, e.2⟩
theorem fields_size {fs : Array Field} {l : List (TypeId × Nat)} (h : fs.toList.map (fun f => (f.type, f.offset)) = l) : fs.size = l.length := by rw [← h]; simp

variable {H : Type} {enc : TypeId × Value → H} {W : World} {spare : Nat → Bool}

theorem trod_i64 {t : TypeId} (ht : Tryd.prog.underlying t = some (.int .i64)) {fuel : Nat} {v : Value} {x : DataW H × List MemPlace} (h : DataW.trod enc Tryd.prog W 0 spare true fuel t [v] = some x) : ∃ n, v = .int .i64 n ∧ (Lit.int .i64 n).wf = true := by
  obtain ⟨n, hv, _, hw⟩ := DataW.trod_int ht h
  exact ⟨n, by simpa using hv, hw⟩
theorem len2 {l : List Value} (h : l.length = 2) : ∃ a b, l = [a, b] := by
  cases l with
  | nil => cases h
  | cons a l => cases l with
    | nil => cases h
    | cons b l => cases l with
      | nil => exact ⟨a, b, rfl⟩
      | cons c l => simp at h
theorem len4 {l : List Value} (h : l.length = 4) : ∃ a b c d, l = [a, b, c, d] := by
  obtain ⟨a, b, h1⟩ := len2 (l := l.take 2) (by rw [List.length_take]; omega)
  obtain ⟨c, d, h2⟩ := len2 (l := l.drop 2) (by rw [List.length_drop]; omega)
  refine ⟨a, b, c, d, ?_⟩
  rw [← List.take_append_drop 2 l, h1, h2]; rfl

theorem open_pt {fuel : Nat} {cs : List Value} {x : DataW H × List MemPlace} (h : DataW.trod enc Tryd.prog W 0 spare true fuel 43 cs = some x) : ∃ u : Pt, cs = [.int .i64 u.1, .int .i64 u.2] ∧ (Lit.int .i64 u.1).wf = true ∧ (Lit.int .i64 u.2).wf = true := by
  obtain ⟨ys, n', hn', hy, hlen, hyl, hf⟩ := DataW.trod_struct ptFs_eq h
  rw [cells_pt] at hlen
  rw [fields_size ptFs_all] at hyl
  obtain ⟨a, b, rfl⟩ := len2 hlen
  obtain ⟨f0, e0, t0, o0⟩ := field_at ptFs_all (j := 0) rfl
  obtain ⟨f1, e1, t1, o1⟩ := field_at ptFs_all (j := 1) rfl
  have h0 := hf 0 f0 e0
  have h1 := hf 1 f1 e1
  rw [t0, o0, cells_int] at h0
  rw [t1, o1, cells_int] at h1
  simp only [List.length_cons, List.length_nil] at hyl
  have g0 : ys[0]? = some (ys[0]'(by omega)) := List.getElem?_eq_getElem (by omega)
  have g1 : ys[1]? = some (ys[1]'(by omega)) := List.getElem?_eq_getElem (by omega)
  obtain ⟨x0, rfl, k0⟩ := trod_i64 Tryd.underlying3 (h0.trans g0)
  obtain ⟨x1, rfl, k1⟩ := trod_i64 Tryd.underlying3 (h1.trans g1)
  exact ⟨(x0, x1), rfl, k0, k1⟩

theorem open_pts {fuel : Nat} {cs : List Value} {x : DataW H × List MemPlace} (h : DataW.trod enc Tryd.prog W 0 spare true fuel 23 cs = some x) :
    ∃ (v : Value) (l : List Pt), cs = [v] ∧ InZ W v l ∧ ∀ (i : Nat) (x : Pt), l[i]? = some x → (Lit.int .i64 x.1).wf = true ∧ (Lit.int .i64 x.2).wf = true := by
  rcases open_slice Tryd.underlying23 h with ⟨hcs, hx⟩ | ⟨a, len, cap, m, n, D, Pl, hcs, _, hl, hm, hmm, hx, hel⟩
  · exact ⟨.slice none 0 0, [], hcs, ⟨⟨none, 0, rfl, fun i x e => by simp at e⟩, .inl rfl⟩, fun i x e => by simp at e⟩
  · have key : ∀ i, i < len → ∃ u : Pt, (W.cell? (a.add (i * 2)) = some (.int .i64 u.1) ∧ W.cell? ⟨(a.add (i * 2)).block, (a.add (i * 2)).off + 1, none⟩ = some (.int .i64 u.2)) ∧ (Lit.int .i64 u.1).wf = true ∧ (Lit.int .i64 u.2).wf = true := by
      intro i hi
      obtain ⟨cs', hc, ht'⟩ := hel i (by rw [hmm]; split <;> omega)
      rw [cells_pt] at hc
      obtain ⟨_, hcl, hat⟩ := World.cells?_some hc
      obtain ⟨u, rfl, k0, k1⟩ := open_pt ht'
      exact ⟨u, ⟨hat 0 (by decide), hat 1 (by decide)⟩, k0, k1⟩
    let g : Nat → Pt := fun i => if hi : i < len then Classical.choose (key i hi) else (0, 0)
    have hgl : ((List.range len).map g).length = len := by simp
    have hgi : ∀ (i : Nat) (x : Pt), ((List.range len).map g)[i]? = some x → (W.cell? (a.add (i * 2)) = some (.int .i64 x.1) ∧ W.cell? ⟨(a.add (i * 2)).block, (a.add (i * 2)).off + 1, none⟩ = some (.int .i64 x.2)) ∧ (Lit.int .i64 x.1).wf = true ∧ (Lit.int .i64 x.2).wf = true := by
      intro i x hi
      rw [List.getElem?_map] at hi
      have hlt : i < len := by
        by_cases hlt : i < len
        · exact hlt
        · rw [List.getElem?_eq_none (by simp; omega)] at hi; simp at hi
      rw [List.getElem?_range hlt] at hi
      simp only [Option.map_some, Option.some.injEq] at hi
      have hs := Classical.choose_spec (key i hlt)
      have hg : g i = Classical.choose (key i hlt) := by simp [g, hlt]
      rw [← hg, hi] at hs
      exact hs
    refine ⟨.slice (some a) len cap, (List.range len).map g, by simpa using hcs, ⟨⟨some a, cap, by rw [hgl], fun i x e => ⟨a, rfl, (hgi i x e).1⟩⟩, .inr ⟨a, cap, by rw [hgl]⟩⟩, fun i x e => (hgi i x e).2⟩

theorem open_scene {fuel : Nat} {cs : List Value} {x : DataW H × List MemPlace} (h : DataW.trod enc Tryd.prog W 0 spare true fuel 25 cs = some x) :
    ∃ (u : ScZ) (v : Value), cs = [.int .i64 u.size, .int .i64 u.steps, v, .string (str u.src)] ∧ InZ W v u.pts ∧ (Lit.int .i64 u.size).wf = true ∧ (Lit.int .i64 u.steps).wf = true ∧ ∀ (i : Nat) (x : Pt), u.pts[i]? = some x → (Lit.int .i64 x.1).wf = true ∧ (Lit.int .i64 x.2).wf = true := by
  obtain ⟨ys, n', hn', hy, hlen, hyl, hf⟩ := DataW.trod_struct scFs_eq h
  rw [cells_sc] at hlen
  rw [fields_size scFs_all] at hyl
  obtain ⟨a, b, c, d, rfl⟩ := len4 hlen
  obtain ⟨f0, e0, t0, o0⟩ := field_at scFs_all (j := 0) rfl
  obtain ⟨f1, e1, t1, o1⟩ := field_at scFs_all (j := 1) rfl
  obtain ⟨f2, e2, t2, o2⟩ := field_at scFs_all (j := 2) rfl
  obtain ⟨f3, e3, t3, o3⟩ := field_at scFs_all (j := 3) rfl
  have h0 := hf 0 f0 e0
  have h1 := hf 1 f1 e1
  have h2 := hf 2 f2 e2
  have h3 := hf 3 f3 e3
  rw [t0, o0, cells_int] at h0
  rw [t1, o1, cells_int] at h1
  rw [t2, o2, cells_pts] at h2
  rw [t3, o3, cells_str] at h3
  simp only [List.length_cons, List.length_nil] at hyl
  have g0 : ys[0]? = some (ys[0]'(by omega)) := List.getElem?_eq_getElem (by omega)
  have g1 : ys[1]? = some (ys[1]'(by omega)) := List.getElem?_eq_getElem (by omega)
  have g2 : ys[2]? = some (ys[2]'(by omega)) := List.getElem?_eq_getElem (by omega)
  have g3 : ys[3]? = some (ys[3]'(by omega)) := List.getElem?_eq_getElem (by omega)
  obtain ⟨x0, rfl, k0⟩ := trod_i64 Tryd.underlying3 (h0.trans g0)
  obtain ⟨x1, rfl, k1⟩ := trod_i64 Tryd.underlying3 (h1.trans g1)
  obtain ⟨v, l, k2, hin, hwf⟩ := open_pts (h2.trans g2)
  obtain ⟨s, k3, _, _⟩ := DataW.trod_string Tryd.underlying9 (h3.trans g3)
  simp only [List.drop_succ_cons, List.drop_zero, List.take_succ_cons, List.take_zero, List.cons.injEq, and_true] at k2 k3
  subst k2 k3
  exact ⟨⟨x0, x1, l, bs s⟩, _, rfl, hin, k0, k1, hwf⟩
end Go.Proofs.YthncifbnkednlaaDoor
