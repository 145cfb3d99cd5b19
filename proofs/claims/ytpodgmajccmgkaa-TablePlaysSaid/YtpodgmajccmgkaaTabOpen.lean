/- The laws' list of calls, opened; a value, opened. -/
import Derived.Test.YtpodgmajccmgkaaTabAlive
import Derived.Deep.Slices
import Derived.Deep.Fields
import Derived.ChangeSame
import Derived.WalkKit
import Derived.ProofKit
import Derived.OpenShut
namespace Go.Proofs.Ytpodgmajccmgkaa
open Go.ChangeShapes Go.WideShapes Go.ChangeAt Go.RowKit Go.Deep
set_option linter.unusedVariables false
set_option linter.unusedSimpArgs false

theorem Try.laidOut : laidOutB Try.prog = true := by kernel_rfl

/-- A law's call. -/
structure ActV where
  kind : Int
  k : V
  v : V
  i : Int
def ActV.cells (a : ActV) : List Value := [.int .i64 a.kind, .int .i64 a.k.t, .int .i64 a.k.n, .int .i64 a.v.t, .int .i64 a.v.n, .int .i64 a.i]

theorem blk_add (a : Addr) (n : Nat) : (a.add n).block = a.block := by unfold Addr.add; split <;> rfl

/-- A slice of calls, read below the block B. -/
def Lst (w : World) (B : Nat) (A : Option Addr) (l : List ActV) : Prop :=
  ∀ (i : Nat) (a : ActV), l[i]? = some a → ∃ ad : Addr, A = some ad ∧ ad.block < B ∧ ∀ j v, a.cells[j]? = some v → w.cell? ((ad.add (i * 6)).add j) = some v

theorem Lst.below {w w' : World} {B : Nat} {A : Option Addr} {l : List ActV} (h : Lst w B A l) (hb : Below B w w') : Lst w' B A l := by
  intro i a hi
  obtain ⟨ad, e, hB, hc⟩ := h i a hi
  exact ⟨ad, e, hB, fun j v hv => (hb.cell (by rw [blk_add, blk_add]; exact hB)).trans (hc j v hv)⟩

noncomputable def valFs : Array Field := match Try.prog.underlying 27 with | some (.struct fs) => fs | _ => #[]
theorem valFs_eq : Try.prog.underlying 27 = some (.struct valFs) := by kernel_rfl
theorem valFs_all : valFs.toList.map (fun f => (f.type, f.offset)) = [(3, 0), (2, 1)] := by kernel_rfl
noncomputable def actFs : Array Field := match Try.prog.underlying 36 with | some (.struct fs) => fs | _ => #[]
theorem actFs_eq : Try.prog.underlying 36 = some (.struct actFs) := by kernel_rfl
theorem actFs_all : actFs.toList.map (fun f => (f.type, f.offset)) = [(3, 0), (27, 1), (27, 3), (3, 5)] := by kernel_rfl
theorem cells_val : Try.prog.cellsOf 27 = 2 := by kernel_rfl
theorem cells_act : Try.prog.cellsOf 36 = 6 := by kernel_rfl
theorem cells_int : Try.prog.cellsOf 3 = 1 := by kernel_rfl
theorem cells_int64 : Try.prog.cellsOf 2 = 1 := by kernel_rfl

theorem field_at {fs : Array Field} {l : List (TypeId × Nat)} (h : fs.toList.map (fun f => (f.type, f.offset)) = l) {j : Nat} {t : TypeId} {o : Nat} (hj : l[j]? = some (t, o)) : ∃ f, fs[j]? = some f ∧ f.type = t ∧ f.offset = o := by
  rw [← h, List.getElem?_map, Array.getElem?_toList, Option.map_eq_some_iff] at hj
  obtain ⟨f, hf, e⟩ := hj
  simp only [Prod.mk.injEq] at e
  exact ⟨f, hf, e.1, e.2⟩
theorem fields_size {fs : Array Field} {l : List (TypeId × Nat)} (h : fs.toList.map (fun f => (f.type, f.offset)) = l) : fs.size = l.length := by rw [← h]; simp

theorem cell_lt {w : World} {a : Addr} {v : Value} (h : w.cell? a = some v) : a.block < w.heap.size := by
  unfold World.cell? at h
  cases hb : w.heap[a.block]? with
  | none => simp [hb] at h
  | some o => exact (Array.getElem?_eq_some_iff.1 hb).1

variable {H : Type} {enc : TypeId × Value → H} {W : World} {spare : Nat → Bool}

theorem trod_i64 {t : TypeId} (ht : Try.prog.underlying t = some (.int .i64)) {fuel : Nat} {v : Value} {x : DataW H × List MemPlace} (h : DataW.trod enc Try.prog W 0 spare true fuel t [v] = some x) : ∃ n, v = .int .i64 n := by
  obtain ⟨n, hv, _⟩ := DataW.trod_int ht h
  exact ⟨n, by simpa using hv⟩

theorem len2 {l : List Value} (h : l.length = 2) : ∃ a b, l = [a, b] := by
  cases l with
  | nil => cases h
  | cons a l => cases l with
    | nil => cases h
    | cons b l => cases l with
      | nil => exact ⟨a, b, rfl⟩
      | cons c l => simp at h
theorem len6 {l : List Value} (h : l.length = 6) : ∃ a b c d e f, l = [a, b, c, d, e, f] := by
  obtain ⟨a, b, h1⟩ := len2 (l := l.take 2) (by rw [List.length_take]; omega)
  obtain ⟨c, d, h2⟩ := len2 (l := (l.drop 2).take 2) (by rw [List.length_take, List.length_drop]; omega)
  obtain ⟨e, f, h3⟩ := len2 (l := (l.drop 2).drop 2) (by rw [List.length_drop, List.length_drop]; omega)
  refine ⟨a, b, c, d, e, f, ?_⟩
  rw [← List.take_append_drop 2 l, h1, ← List.take_append_drop 2 (l.drop 2), h2, h3]; rfl

theorem open_val {fuel : Nat} {cs : List Value} {x : DataW H × List MemPlace} (h : DataW.trod enc Try.prog W 0 spare true fuel 27 cs = some x) : ∃ u : V, cs = u.cells := by
  obtain ⟨ys, n', hn', hy, hlen, hyl, hf⟩ := DataW.trod_struct valFs_eq h
  rw [cells_val] at hlen
  rw [fields_size valFs_all] at hyl
  obtain ⟨a, b, rfl⟩ := len2 hlen
  · skip
    obtain ⟨f0, e0, t0, o0⟩ := field_at valFs_all (j := 0) rfl
    obtain ⟨f1, e1, t1, o1⟩ := field_at valFs_all (j := 1) rfl
    have h0 := hf 0 f0 e0
    have h1 := hf 1 f1 e1
    rw [t0, o0, cells_int] at h0
    rw [t1, o1, cells_int64] at h1
    simp only [List.length_cons, List.length_nil] at hyl
    have g0 : ys[0]? = some (ys[0]'(by omega)) := List.getElem?_eq_getElem (by omega)
    have g1 : ys[1]? = some (ys[1]'(by omega)) := List.getElem?_eq_getElem (by omega)
    obtain ⟨x0, rfl⟩ := trod_i64 Try.underlying3 (h0.trans g0)
    obtain ⟨x1, rfl⟩ := trod_i64 Try.underlying2 (h1.trans g1)
    exact ⟨⟨x0, x1⟩, rfl⟩

theorem open_act {fuel : Nat} {cs : List Value} {x : DataW H × List MemPlace} (h : DataW.trod enc Try.prog W 0 spare true fuel 36 cs = some x) : ∃ u : ActV, cs = u.cells := by
  obtain ⟨ys, n', hn', hy, hlen, hyl, hf⟩ := DataW.trod_struct actFs_eq h
  rw [cells_act] at hlen
  rw [fields_size actFs_all] at hyl
  obtain ⟨a, b, c, d, e, f, rfl⟩ := len6 hlen
  · skip
    obtain ⟨f0, e0, t0, o0⟩ := field_at actFs_all (j := 0) rfl
    obtain ⟨f1, e1, t1, o1⟩ := field_at actFs_all (j := 1) rfl
    obtain ⟨f2, e2, t2, o2⟩ := field_at actFs_all (j := 2) rfl
    obtain ⟨f3, e3, t3, o3⟩ := field_at actFs_all (j := 3) rfl
    have h0 := hf 0 f0 e0
    have h1 := hf 1 f1 e1
    have h2 := hf 2 f2 e2
    have h3 := hf 3 f3 e3
    rw [t0, o0, cells_int] at h0
    rw [t1, o1, cells_val] at h1
    rw [t2, o2, cells_val] at h2
    rw [t3, o3, cells_int] at h3
    simp only [List.length_cons, List.length_nil] at hyl
    have g0 : ys[0]? = some (ys[0]'(by omega)) := List.getElem?_eq_getElem (by omega)
    have g1 : ys[1]? = some (ys[1]'(by omega)) := List.getElem?_eq_getElem (by omega)
    have g2 : ys[2]? = some (ys[2]'(by omega)) := List.getElem?_eq_getElem (by omega)
    have g3 : ys[3]? = some (ys[3]'(by omega)) := List.getElem?_eq_getElem (by omega)
    obtain ⟨x0, rfl⟩ := trod_i64 Try.underlying3 (h0.trans g0)
    obtain ⟨u1, k1⟩ := open_val (h1.trans g1)
    obtain ⟨u2, k2⟩ := open_val (h2.trans g2)
    obtain ⟨x3, rfl⟩ := trod_i64 Try.underlying3 (h3.trans g3)
    simp only [V.cells, List.drop_succ_cons, List.drop_zero, List.take_succ_cons, List.take_zero, List.cons.injEq, and_true] at k1 k2
    obtain ⟨rfl, rfl⟩ := k1
    obtain ⟨rfl, rfl⟩ := k2
    exact ⟨⟨x0, u1, u2, x3⟩, rfl⟩

theorem open_acts {fuel : Nat} {cs : List Value} {x : DataW H × List MemPlace} (h : DataW.trod enc Try.prog W 0 spare true fuel 22 cs = some x) :
    ∃ A l c, cs = [.slice A (List.length (α := ActV) l) c] ∧ Lst W W.heap.size A l ∧ l.length ≤ maxLen := by
  rcases open_slice Try.underlying22 h with ⟨hcs, hx⟩ | ⟨a, len, cap, m, n, D, Pl, hcs, _, hl, hm, hmm, hx, hel⟩
  · exact ⟨none, [], 0, by rw [hcs]; rfl, fun i a hi => by simp at hi, by simp [maxLen]⟩
  · have key : ∀ i, i < len → ∃ act : ActV, ∀ j v, act.cells[j]? = some v → W.cell? ((a.add (i * 6)).add j) = some v := by
      intro i hi
      obtain ⟨cs', hc, ht'⟩ := hel i (by rw [hmm]; split <;> omega)
      rw [cells_act] at hc
      obtain ⟨_, hcl, hat⟩ := World.cells?_some hc
      obtain ⟨u, rfl⟩ := open_act ht'
      exact ⟨u, fun j v hj => (hat j (by have := (List.getElem?_eq_some_iff.1 hj).1; simpa [ActV.cells] using this)).trans hj⟩
    let g : Nat → ActV := fun i => if hi : i < len then Classical.choose (key i hi) else ⟨0, nilV, nilV, 0⟩
    refine ⟨some a, (List.range len).map g, cap, by simpa using hcs, ?_, by simp; omega⟩
    intro i act hi
    rw [List.getElem?_map] at hi
    have hlt : i < len := by
      by_cases hlt : i < len
      · exact hlt
      · rw [List.getElem?_eq_none (by simp; omega)] at hi; simp at hi
    rw [List.getElem?_range hlt] at hi
    simp only [Option.map_some, Option.some.injEq] at hi
    have hs := Classical.choose_spec (key i hlt)
    have hg : g i = Classical.choose (key i hlt) := by simp [g, hlt]
    rw [← hg, hi] at hs
    refine ⟨a, rfl, ?_, hs⟩
    have := cell_lt (hs 0 _ rfl)
    rw [blk_add, blk_add] at this
    exact this
end Go.Proofs.Ytpodgmajccmgkaa
