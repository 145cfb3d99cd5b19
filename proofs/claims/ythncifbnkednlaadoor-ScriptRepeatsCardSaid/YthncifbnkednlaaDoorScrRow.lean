/- What the rows hand the walks: the laid tables, the world's shape. -/
import Derived.Test.YthncifbnkednlaaDoorRows
import Derived.Test.YthncifbnkednlaaDoorScrEnv
import Derived.ProofKit
import Derived.OpenShut
import Derived.LaidMore
import Derived.Lay
import Derived.SevenTiedAt
import Derived.HandedShaped
import Derived.Stop.Joined
namespace Go.Proofs.YthncifbnkednlaaDoor
open Go.RowKit Go.Shelf
set_option linter.unusedVariables false
set_option linter.unusedSimpArgs false

/-- The plain wrap with the laid tables and the world's shape. -/
theorem handed_of {H : Type} {enc : TypeId × Value → H} {a : Assume} {C : Checked} {os : Os} {f : FuncId} {fn : Func} {s : ChangeSpec} {conds : List PathCond} {apart fresh handsOn again : Bool} {X : World → Array Value → Prop}
    (hX : ∀ (w w' : World) (args : Array Value), w.heap = w'.heap → X w args → X w' args)
    (own : ownKnob C.prog.godebug = none) (started : os.Started) (noInit : C.prog.inits.idxOf? f = none) (hfn : C.prog.funcs[f]? = some fn)
    (witness : ∃ (w : World) (tape : Tape) (i : Input), w.os = os ∧ (w.forCall tape i).Shaped C.prog ∧ i.vars = [] ∧ Input.okWide C.prog (w.forCall tape i) .any w.heap.size f i ∧
      ((s.pre enc C.prog fn conds apart (w.forCall tape i).memory i.args ∧ X (w.forCall tape i).memory i.args) ∧ sizedMet enc C.prog fn (OpenSpec.ofChange s) apart (w.forCall tape i).memory i.args) ∧ a.holds C.prog (lone (Frame.enter C.prog f i.args .normal) [] (w.forCall tape i)))
    (contract : ∀ (W : World) (base : Nat) (args : Array Value) (ds gs : List (DataW H)) (before : List MemPlace),
      (∀ (j : Nat) t v, fn.params[j]? = some t → args[j]? = some v → Value.okWide C.prog W .any base t v) →
      DataW.Whole enc C.prog fn.params.toList s.vars apart W args.toList ds gs before →
      W.ShapedOpen C.prog → X W args →
      Calls C.prog f args W fun e W' => ∃ v, e = .returned v ∧ s.post enc C.prog fn apart fresh handsOn again W args v W') :
    ReturnsInHanded a C os f .any (fun w args => (s.pre enc C.prog fn conds apart w args ∧ X w args) ∧ sizedMet enc C.prog fn (OpenSpec.ofChange s) apart w args) (s.post enc C.prog fn apart fresh handsOn again) := by
  refine returnsInHanded_of_calls own started noInit witness ?_
  intro w tape i _ hsh _ hok hpre hholds
  obtain ⟨_, _, _, fn', hfn', _, _, _, _, hval⟩ := hok
  have e : fn' = fn := Option.some.inj (hfn'.symm.trans hfn)
  subst e
  obtain ⟨⟨⟨ds, gs, before, hw, hc⟩, hx⟩, hz⟩ := hpre
  have hw' := DataW.Whole.of_heap (w' := w.forCall tape i) (by rfl) hw
  refine (contract (w.forCall tape i) w.heap.size i.args ds gs before hval hw' hsh (hX _ _ _ (by rfl) hx)).mono fun e W' ⟨v, he, hp⟩ => ?_
  subst he
  exact ChangeSpec.post_blind hp

theorem var_heap {P : Program} {w : World} {n : String} {g : Nat} {cs : Array Value} (hg : P.globalNamed n = some g) (h : w.var? P n = some cs) : g < w.heap.size := by
  simp only [World.var?, hg, Option.bind_some] at h
  split at h
  · rename_i hh
    exact (Array.getElem?_eq_some_iff.1 hh).1
  · cases h

abbrev rowsD : DataW Unit := Rows.laid_heirloom_script_rows
theorem row_cells {W : World} {l : List Value} {fuel : Nat} {p : List MemPlace} {b : Bs} {z : Int}
    (hd : DataW.trod (fun _ => ()) Tryd.prog W 0 (fun _ => true) false fuel 67 l = some (.agg [.lit (.string b), .lit (.int .i64 z)], p)) :
    l[0]? = some (.string (str b)) ∧ l[1]? = some (.int .i64 z) := by
  obtain ⟨xs, m, _, ex, _, hl, hel⟩ := DataW.trod_struct Tryd.underlying67 hd
  have c9 : Tryd.prog.cellsOf 9 = 1 := by kernel_rfl
  have c3 : Tryd.prog.cellsOf 3 = 1 := by kernel_rfl
  have h0 : DataW.trod (fun _ => ()) Tryd.prog W 0 (fun _ => true) false m 9 (List.take (Tryd.prog.cellsOf 9) (List.drop 0 l)) = xs[0]? := hel 0 _ rfl
  have h1 : DataW.trod (fun _ => ()) Tryd.prog W 0 (fun _ => true) false m 3 (List.take (Tryd.prog.cellsOf 3) (List.drop 1 l)) = xs[1]? := hel 1 _ rfl
  rw [c9, List.drop_zero] at h0
  rw [c3] at h1
  have em : xs.map (·.1) = [.lit (.string b), .lit (.int .i64 z)] := (DataW.agg.inj (Prod.mk.inj ex).1).symm
  have e0 : (xs.map (·.1))[0]? = some (.lit (.string b)) := by rw [em]; rfl
  have e1 : (xs.map (·.1))[1]? = some (.lit (.int .i64 z)) := by rw [em]; rfl
  rw [List.getElem?_map] at e0 e1
  obtain ⟨y0, hy0, hz0⟩ := Option.map_eq_some_iff.1 e0
  obtain ⟨y1, hy1, hz1⟩ := Option.map_eq_some_iff.1 e1
  rw [hy0] at h0
  rw [hy1] at h1
  obtain ⟨s, g0, g1, _⟩ := DataW.trod_string Tryd.underlying9 h0
  obtain ⟨n, k0, k1, _⟩ := DataW.trod_int Tryd.underlying3 h1
  rw [g1] at hz0
  rw [k1] at hz1
  simp only [DataW.lit.injEq, Lit.string.injEq, Lit.int.injEq, true_and] at hz0 hz1
  subst hz0 hz1
  refine ⟨?_, ?_⟩
  · have : (l.take 1)[0]? = some (.string s) := by rw [g0]; rfl
    show l[0]? = some (.string s)
    simpa using this
  · have : ((l.drop 1).take 1)[0]? = some (.int .i64 n) := by rw [k0]; rfl
    simpa using this
theorem rows_cells {W : World} {cs : Array Value} {fuel : Nat} {p : List MemPlace} (hv : W.var? Tryd.prog "heirloom/script.rows" = some cs)
    (hd : DataW.trod (fun _ => ()) Tryd.prog W 0 (fun _ => true) false fuel 68 cs.toList = some (rowsD, p)) (k : Nat) (hk : k < 6) :
    W.cell? ⟨0, 2 * k, none⟩ = some (.string (str (wordsL[k]?.getD []))) ∧ W.cell? ⟨0, 2 * k + 1, none⟩ = some (.int .i64 (maxL[k]?.getD 0)) := by
  have hg : Tryd.prog.globalNamed "heirloom/script.rows" = some 0 := by kernel_rfl
  rw [World.var?_cell hg hv, World.var?_cell hg hv]
  obtain ⟨xs, m, _, ex, _, hl, hel⟩ := DataW.trod_array Tryd.underlying68 hd
  have h := hel k hk
  have c : Tryd.prog.cellsOf 67 = 2 := by kernel_rfl
  rw [c] at h
  have em : xs.map (·.1) = [.agg [.lit (.string [110, 111, 110, 101]), .lit (.int .i64 (-1))], .agg [.lit (.string [115, 116, 101, 112]), .lit (.int .i64 999999999)], .agg [.lit (.string [121, 111, 117, 110, 103]), .lit (.int .i64 (-1))], .agg [.lit (.string [109, 97, 106, 111, 114]), .lit (.int .i64 (-1))], .agg [.lit (.string [109, 111, 100, 101]), .lit (.int .i64 1)], .agg [.lit (.string [99, 111, 109, 112, 97, 99, 116]), .lit (.int .i64 (-1))]] := (DataW.agg.inj (Prod.mk.inj ex).1).symm
  have ek : (xs.map (·.1))[k]? = some (.agg [.lit (.string (wordsL[k]?.getD [])), .lit (.int .i64 (maxL[k]?.getD 0))]) := by
    rw [em]
    obtain rfl | rfl | rfl | rfl | rfl | rfl : k = 0 ∨ k = 1 ∨ k = 2 ∨ k = 3 ∨ k = 4 ∨ k = 5 := by omega
    all_goals rfl
  rw [List.getElem?_map] at ek
  obtain ⟨⟨y1, y2⟩, hy, hz⟩ := Option.map_eq_some_iff.1 ek
  simp only at hz
  rw [hy, hz] at h
  obtain ⟨r0, r1⟩ := row_cells h
  rw [List.getElem?_take, if_pos (by decide), List.getElem?_drop] at r0 r1
  have a0 : cs[2 * k]? = cs.toList[k * 2 + 0]? := by rw [Array.getElem?_toList, Nat.mul_comm]; rfl
  have a1 : cs[2 * k + 1]? = cs.toList[k * 2 + 1]? := by rw [Array.getElem?_toList, Nat.mul_comm]
  rw [a0, a1]
  exact ⟨r0, r1⟩

theorem env_of {W : World} (h : laidMetH Tryd.prog Rows.scriptParsesRow.laid W) (hsh : W.ShapedOpen Tryd.prog) (hmax : ∃ m, W.cell? ⟨1, 0, none⟩ = some (.int .i64 m)) : Env W := by
  rw [MakeChecks.laidMetH_plain _ _ _ (by kernel_rfl)] at h
  obtain ⟨ps, h, _⟩ := h
  unfold Rows.scriptParsesRow at h
  obtain ⟨_, _, _, _, _, _, _, _, _, _, h, _⟩ := h
  obtain ⟨_, _, _, _, _, _, _, _, _, _, h, _⟩ := h
  obtain ⟨_, _, _, _, _, _, _, _, _, _, h, _⟩ := h
  obtain ⟨g8, _, cs8, _, _, _, hg8, _, hv8, _, h, _⟩ := h
  obtain ⟨_, _, _, _, _, _, _, _, _, _, h, _⟩ := h
  obtain ⟨_, _, _, _, _, _, _, _, _, _, h, _⟩ := h
  obtain ⟨g, t, cs, fuel, p, q, hg, ht, hv, hd, _, _⟩ := h
  obtain rfl := Option.some.inj ((show Tryd.prog.globalNamed "unicode/utf8.acceptRanges" = some 8 by kernel_rfl).symm.trans hg8)
  obtain rfl := Option.some.inj ((show Tryd.prog.globalNamed "heirloom/script.rows" = some 0 by kernel_rfl).symm.trans hg)
  obtain rfl := Option.some.inj ((show (Tryd.prog.globals[0]?).map (·.type) = some 68 by kernel_rfl).symm.trans ht)
  have hsz := var_heap hg8 hv8
  refine ⟨fun k b e => ?_, fun k b e => ?_, hmax, hsz⟩
  · have hk : k < 6 := (List.getElem?_eq_some_iff.1 e).1
    have := (rows_cells hv hd k hk).1
    rw [e] at this
    exact this
  · have hk : k < 6 := (List.getElem?_eq_some_iff.1 e).1
    have := (rows_cells hv hd k hk).2
    rw [e] at this
    exact this
end Go.Proofs.YthncifbnkednlaaDoor
