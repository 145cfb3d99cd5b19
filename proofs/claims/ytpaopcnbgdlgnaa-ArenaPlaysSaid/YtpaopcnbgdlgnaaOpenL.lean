/- The laws' list of calls, opened; what a made arena is. -/
import Derived.Test.YtpaopcnbgdlgnaaAMade
import Derived.Deep.Slices
import Derived.Deep.Fields
import Derived.ChangeSame
import Derived.WalkKit
import Derived.ProofKit
import Derived.OpenShut
namespace Go.Proofs.Ytpaopcnbgdlgnaa
open Go.ChangeShapes Go.WideShapes Go.ChangeAt Go.RowKit Go.Deep
set_option linter.unusedVariables false
set_option linter.unusedSimpArgs false

/-- The Act's fields. -/
noncomputable def actFs : Array Field := match Try.prog.underlying 32 with | some (.struct fs) => fs | _ => #[]
theorem actFs_eq : Try.prog.underlying 32 = some (.struct actFs) := by kernel_rfl
theorem actFs_size : actFs.size = 4 := by kernel_rfl
theorem actFs_types : actFs.toList.map (·.type) = [3, 3, 3, 2] := by kernel_rfl
theorem act_cells : Try.prog.cellsOf 32 = 4 := by kernel_rfl
theorem act_one : oneCellFields Try.prog actFs = true := by kernel_rfl

theorem cell_lt {w : World} {a : Addr} {v : Value} (h : w.cell? a = some v) : a.block < w.heap.size := by
  unfold World.cell? at h
  cases hb : w.heap[a.block]? with
  | none => simp [hb] at h
  | some o => exact (Array.getElem?_eq_some_iff.1 hb).1

variable {H : Type} {enc : TypeId × Value → H} {W : World} {spare : Nat → Bool}

theorem trod_i64 {t : TypeId} (ht : Try.prog.underlying t = some (.int .i64)) {fuel : Nat} {v : Value} {x : DataW H × List MemPlace} (h : DataW.trod enc Try.prog W 0 spare true fuel t [v] = some x) : ∃ n, v = .int .i64 n := by
  obtain ⟨n, hv, _⟩ := DataW.trod_int ht h
  exact ⟨n, by simpa using hv⟩

theorem open_acts {fuel : Nat} {cs : List Value} {x : DataW H × List MemPlace} (h : DataW.trod enc Try.prog W 0 spare true fuel 22 cs = some x) :
    ∃ A l c, cs = [.slice A (List.length (α := ActV) l) c] ∧ Lst W W.heap.size A l ∧ l.length ≤ maxLen := by
  rcases open_slice Try.underlying22 h with ⟨hcs, hx⟩ | ⟨a, len, cap, m, n, D, Pl, hcs, _, hl, hm, hmm, hx, hel⟩
  · exact ⟨none, [], 0, by rw [hcs]; rfl, fun i a hi => by simp at hi, by simp [maxLen]⟩
  · have key : ∀ i, i < len → ∃ act : ActV, ∀ j v, act.cells[j]? = some v → W.cell? ((a.add (i * 4)).add j) = some v := by
      intro i hi
      obtain ⟨cs', hc, ht'⟩ := hel i (by rw [hmm]; split <;> omega)
      rw [act_cells] at hc
      obtain ⟨ys, n', hn', hy, hlen, hyl, hf⟩ := DataW.trod_struct actFs_eq ht'
      obtain ⟨_, hcl, hat⟩ := World.cells?_some hc
      have hfield : ∀ j, j < 4 → ∃ (f : Field) (v : Value), actFs[j]? = some f ∧ cs'[j]? = some v ∧ W.cell? ((a.add (i * 4)).add j) = some v ∧ ∃ fu y, DataW.trod enc Try.prog W 0 spare true fu f.type [v] = some y := by
        intro j hj
        have hj' : j < actFs.size := by rw [actFs_size]; exact hj
        have hjf : actFs[j]? = some actFs[j] := Array.getElem?_eq_getElem hj'
        obtain ⟨ho, hk⟩ := hone_of act_one j _ hjf
        have hv : cs'[j]? = some (cs'[j]'(by omega)) := List.getElem?_eq_getElem (by omega)
        have h1 := hf j _ hjf
        rw [ho, hk] at h1
        have hone' : (cs'.drop j).take 1 = [cs'[j]'(by omega)] := by
          rw [List.drop_eq_getElem_cons (by omega)]
          rfl
        rw [hone'] at h1
        have hys : ys[j]? = some (ys[j]'(by omega)) := List.getElem?_eq_getElem (by omega)
        exact ⟨_, _, hjf, hv, (hat j hj).trans hv, _, _, h1.trans hys⟩
      have hty : ∀ (j : Nat) (f : Field), actFs[j]? = some f → [3, 3, 3, 2][j]? = some f.type := by
        intro j f hj
        have := congrArg (fun l : List TypeId => l[j]?) actFs_types
        simp only [List.getElem?_map, Array.getElem?_toList, hj, Option.map_some] at this
        exact this.symm
      obtain ⟨f0, v0, e0, c0, m0, fu0, y0, t0⟩ := hfield 0 (by omega)
      obtain ⟨f1, v1, e1, c1, m1, fu1, y1, t1⟩ := hfield 1 (by omega)
      obtain ⟨f2, v2, e2, c2, m2, fu2, y2, t2⟩ := hfield 2 (by omega)
      obtain ⟨f3, v3, e3, c3, m3, fu3, y3, t3⟩ := hfield 3 (by omega)
      have g0 : f0.type = 3 := by have := hty 0 f0 e0; simpa using this.symm
      have g1 : f1.type = 3 := by have := hty 1 f1 e1; simpa using this.symm
      have g2 : f2.type = 3 := by have := hty 2 f2 e2; simpa using this.symm
      have g3 : f3.type = 2 := by have := hty 3 f3 e3; simpa using this.symm
      rw [g0] at t0
      rw [g1] at t1
      rw [g2] at t2
      rw [g3] at t3
      obtain ⟨x0, rfl⟩ := trod_i64 Try.underlying3 t0
      obtain ⟨x1, rfl⟩ := trod_i64 Try.underlying3 t1
      obtain ⟨x2, rfl⟩ := trod_i64 Try.underlying3 t2
      obtain ⟨x3, rfl⟩ := trod_i64 Try.underlying2 t3
      refine ⟨⟨x0, x1, x2, x3⟩, fun j v hj => ?_⟩
      match j, hj with
      | 0, hj => simp [ActV.cells] at hj; subst hj; exact m0
      | 1, hj => simp [ActV.cells] at hj; subst hj; exact m1
      | 2, hj => simp [ActV.cells] at hj; subst hj; exact m2
      | 3, hj => simp [ActV.cells] at hj; subst hj; exact m3
      | k + 4, hj => simp [ActV.cells] at hj
    let g : Nat → ActV := fun i => if hi : i < len then Classical.choose (key i hi) else ⟨0, 0, 0, 0⟩
    refine ⟨some a, (List.range len).map g, cap, by simpa using hcs, ?_, by simp; omega⟩
    intro i act hi
    rw [List.getElem?_map] at hi
    have hlt : i < len := by
      by_cases hlt : i < len
      · exact hlt
      · rw [List.getElem?_eq_none (by simp; omega)] at hi; simp at hi
    rw [List.getElem?_range hlt] at hi
    simp only [Option.map_some, Option.some.injEq] at hi
    have hs := Classical.choose_spec (key i hlt)
    have hg : g i = Classical.choose (key i hlt) := by simp [g, hlt]
    rw [← hg, hi] at hs
    refine ⟨a, rfl, ?_, hs⟩
    have := cell_lt (hs 0 _ rfl)
    rw [blk_add, blk_add] at this
    exact this
end Go.Proofs.Ytpaopcnbgdlgnaa
