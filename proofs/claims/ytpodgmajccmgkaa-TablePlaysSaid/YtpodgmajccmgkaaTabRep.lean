/- A table's store in memory: what it holds, in plain Lean, and where it lies in the heap. -/
import Derived.Test.YtpodgmajccmgkaaProg
import Derived.Test.YtpodgmajccmgkaaRowBase
import Derived.Deep.OwnRows
import Derived.BigQuiet
import Derived.Deep.QuietTactic
import Derived.Laws.AppendOwnNone
namespace Go.Proofs.Ytpodgmajccmgkaa
open Go.RowKit
set_option linter.unusedVariables false
set_option linter.unusedSimpArgs false

/-- A value: its type, its number. -/
structure V where
  t : Int
  n : Int
deriving DecidableEq

def V.val (v : V) : Value := .agg #[.int .i64 v.t, .int .i64 v.n]
def V.cells (v : V) : List Value := [.int .i64 v.t, .int .i64 v.n]
def nilV : V := ⟨0, 0⟩
def flatV (l : List V) : List Value := l.flatMap V.cells

theorem flatV_cons (v : V) (l : List V) : flatV (v :: l) = v.cells ++ flatV l := by simp [flatV]
theorem flatV_length : ∀ (l : List V), (flatV l).length = l.length * 2 := by
  intro l
  induction l with
  | nil => rfl
  | cons b l ih => rw [flatV_cons, List.length_append, ih]; simp [V.cells]; omega
theorem flatV_get : ∀ {l : List V} {i k : Nat} {v : V}, l[i]? = some v → k < 2 → (flatV l)[i * 2 + k]? = v.cells[k]? := by
  intro l
  induction l with
  | nil => intro i k b h; simp at h
  | cons c l ih =>
    intro i k b h hk
    rw [flatV_cons]
    cases i with
    | zero =>
      simp only [List.getElem?_cons_zero, Option.some.injEq] at h
      subst h
      rw [List.getElem?_append_left (by simp [V.cells]; omega)]
      congr 1; omega
    | succ i =>
      rw [List.getElem?_cons_succ] at h
      rw [List.getElem?_append_right (by simp [V.cells]; omega), ← ih h hk]
      congr 1
      simp [V.cells]; omega
theorem flatV_set : ∀ {l : List V} {i : Nat} {v : V}, i < l.length → flatV (l.set i v) = ((flatV l).set (i * 2) (.int .i64 v.t)).set (i * 2 + 1) (.int .i64 v.n) := by
  intro l
  induction l with
  | nil => intro i v h; simp at h
  | cons c l ih =>
    intro i v h
    cases i with
    | zero => rw [List.set_cons_zero, flatV_cons, flatV_cons]; rfl
    | succ i =>
      rw [List.set_cons_succ, flatV_cons, flatV_cons, ih (by simpa using h)]
      rw [List.set_append_right _ _ (by simp [V.cells]; omega), List.set_append_right _ _ (by simp [V.cells]; omega)]
      have e1 : (i + 1) * 2 - c.cells.length = i * 2 := by simp [V.cells]; omega
      have e2 : (i + 1) * 2 + 1 - c.cells.length = i * 2 + 1 := by simp [V.cells]; omega
      rw [e1, e2]

/-- A table's store. -/
structure Tb where
  most : Int
  a : Nat
  sl : List V

def Tb.nodes (T : Tb) : Nat := (T.sl.length - T.a) / 2
def slotT (T : Tb) (i : Int) : V := if 0 ≤ i then T.sl.getD i.toNat nilV else nilV
def setT (T : Tb) (i : Int) (v : V) : Tb := if 0 ≤ i then { T with sl := T.sl.set i.toNat v } else T

/-- The store at p. -/
structure MemAt (w : World) (p : Nat) (sv : Value) (T : Tb) : Prop where
  head : w.heap[p]? = some (.cells #[.int .i64 T.most, .int .i64 T.a, sv] 73 (0, 0))
  row : (sv = .slice none 0 0 ∧ T.sl = []) ∨ ∃ g, sv = .slice (some ⟨g, 0, none⟩) T.sl.length T.sl.length ∧ w.heap[g]? = some (.cells (flatV T.sl).toArray 27 (0, 0))
  le : T.a ≤ T.sl.length
  small : T.sl.length ≤ 1000000

variable {w w' : World} {p : Nat} {sv : Value} {T : Tb}

theorem below_alloc (w : World) (o : Obj) : Below w.heap.size w (w.alloc o) := (Below.refl _ _).alloc (Nat.le_refl _) o

theorem MemAt.lt (H : MemAt w p sv T) : p < w.heap.size ∧ ∀ g n c, sv = .slice (some ⟨g, 0, none⟩) n c → g < w.heap.size := by
  refine ⟨(Array.getElem?_eq_some_iff.1 H.head).1, fun g n c hg => ?_⟩
  rcases H.row with ⟨h, _⟩ | ⟨g', h, hb⟩
  · rw [h] at hg; simp at hg
  · rw [h] at hg
    simp only [Value.slice.injEq, Option.some.injEq, Addr.mk.injEq, and_true] at hg
    rw [← hg.1]
    exact (Array.getElem?_eq_some_iff.1 hb).1

theorem MemAt.below (H : MemAt w p sv T) (hb : Below w.heap.size w w') : MemAt w' p sv T := by
  refine ⟨(hb.block p H.lt.1).trans H.head, ?_, H.le, H.small⟩
  rcases H.row with h | ⟨g, h, hg⟩
  · exact .inl h
  · exact .inr ⟨g, h, (hb.block g (H.lt.2 g _ _ h)).trans hg⟩

theorem MemAt.c0 (H : MemAt w p sv T) : w.cell? ⟨p, 0, none⟩ = some (.int .i64 T.most) := by simp [World.cell?, H.head]
theorem MemAt.c1 (H : MemAt w p sv T) : w.cell? ⟨p, 1, none⟩ = some (.int .i64 T.a) := by simp [World.cell?, H.head]
theorem MemAt.c2 (H : MemAt w p sv T) : w.cell? ⟨p, 2, none⟩ = some sv := by simp [World.cell?, H.head]
theorem MemAt.frz (H : MemAt w p sv T) (i : Nat) : w.frozen? ⟨p, i, none⟩ = false := by simp [World.frozen?, H.head]

theorem MemAt.shape (H : MemAt w p sv T) : ∃ A, sv = .slice A T.sl.length T.sl.length ∧ (T.sl ≠ [] → ∃ g, A = some ⟨g, 0, none⟩) := by
  rcases H.row with ⟨h, e⟩ | ⟨g, h, _⟩
  · exact ⟨none, by rw [h, e]; rfl, fun hn => absurd e hn⟩
  · exact ⟨_, h, fun _ => ⟨g, rfl⟩⟩

theorem MemAt.at_ {g n c : Nat} (H : MemAt w p (.slice (some ⟨g, 0, none⟩) n c) T) : w.heap[g]? = some (.cells (flatV T.sl).toArray 27 (0, 0)) := by
  rcases H.row with ⟨h, _⟩ | ⟨g', h, hb⟩
  · simp at h
  · simp only [Value.slice.injEq, Option.some.injEq, Addr.mk.injEq, and_true] at h
    rw [h.1]; exact hb

theorem MemAt.cell {g n c : Nat} (H : MemAt w p (.slice (some ⟨g, 0, none⟩) n c) T) {i : Nat} {v : V} (hi : T.sl[i]? = some v) :
    w.cell? ⟨g, i * 2, none⟩ = some (.int .i64 v.t) ∧ w.cell? ⟨g, i * 2 + 1, none⟩ = some (.int .i64 v.n) := by
  have h := cell_of_list H.at_
  exact ⟨(h (i * 2)).trans (by have := flatV_get (k := 0) hi (by omega); simpa [V.cells] using this), (h (i * 2 + 1)).trans (by have := flatV_get (k := 1) hi (by omega); simpa [V.cells] using this)⟩

theorem slotT_ok {i : Nat} {v : V} (h : T.sl[i]? = some v) : slotT T i = v := by
  unfold slotT
  rw [if_pos (by omega), Int.toNat_natCast, List.getD_eq_getElem?_getD, h]; rfl
theorem slotT_no {i : Int} (h : ¬ (0 ≤ i ∧ i < T.sl.length)) : slotT T i = nilV := by
  unfold slotT
  split
  · rw [List.getD_eq_getElem?_getD, List.getElem?_eq_none (by omega)]; rfl
  · rfl

set_option maxHeartbeats 1000000 in
theorem array_any (H : MemAt w p sv T) : Calls Try.prog 20 #[.pointer (some ⟨p, 0, none⟩)] w fun e w' => e = .returned (.int .i64 T.a) ∧ w' = w := by
  have c1 := H.c1
  go_enter Try.func20, Try.ntmps20
  go_wp2_with fail
  go_ret
  exact ⟨rfl, rfl⟩

set_option maxHeartbeats 1000000 in
theorem slot_any (H : MemAt w p sv T) (i : Int) : Calls Try.prog 22 #[.pointer (some ⟨p, 0, none⟩), .int .i64 i] w fun e w' => e = .returned (slotT T i).val ∧ Below w.heap.size w w' := by
  have hp := H.lt.1
  obtain ⟨A, rfl, hA⟩ := H.shape
  have hb := below_alloc w (.cells #[.int .i64 0, .int .i64 0] 27)
  have H1 := H.below hb
  have c2 := H1.c2
  obtain ⟨M, hM⟩ : ∃ M, M = T.sl.length := ⟨_, rfl⟩
  have HM := Lib.hid hM
  by_cases hi : 0 ≤ i ∧ i < T.sl.length
  · obtain ⟨m, rfl⟩ := Int.eq_ofNat_of_zero_le hi.1
    have hml : m < T.sl.length := by omega
    obtain ⟨g, rfl⟩ := hA (fun e => by rw [e] at hml; simp at hml)
    obtain ⟨v, hv⟩ : ∃ v, T.sl[m]? = some v := ⟨T.sl[m], List.getElem?_eq_getElem _⟩
    obtain ⟨d0, d1⟩ := H1.cell hv
    have HS := Lib.hid (slotT_ok hv)
    rw [← hM] at c2 hml
    clear H H1 hb hv hi hM hA
    go_enter Try.func22, Try.ntmps22
    go_wp2_with fail
    refine bodyPost_ret (v := v.val) (by simp [results, Try.results22, go_sem, V.val]) rfl ⟨by rw [HS.out], (by repeat (first | exact Below.refl _ _ | refine Below.alloc ?_ (by first | (simp; done) | (simp; omega)) _ | refine Below.drew ?_ | refine Below.setCell ?_ (by first | (simp; done) | (simp; omega)) _))⟩
  · have HS := Lib.hid (slotT_no (T := T) hi)
    have hi2 : i < 0 ∨ (¬ i < 0 ∧ (M : Int) ≤ i) := by omega
    rw [← hM] at c2
    clear H H1 hb hi hM hA
    rcases hi2 with h0 | ⟨h0, h1⟩
    all_goals
      go_enter Try.func22, Try.ntmps22
      go_wp2_with fail
      refine bodyPost_ret (v := nilV.val) (by simp [results, Try.results22, go_sem, V.val, nilV]) rfl ⟨by rw [HS.out], (by repeat (first | exact Below.refl _ _ | refine Below.alloc ?_ (by first | (simp; done) | (simp; omega)) _ | refine Below.drew ?_ | refine Below.setCell ?_ (by first | (simp; done) | (simp; omega)) _))⟩

/-! ### how many nodes there are -/
set_option maxHeartbeats 1000000 in
theorem nodes_any (H : MemAt w p sv T) : Calls Try.prog 21 #[.pointer (some ⟨p, 0, none⟩)] w fun e w' => e = .returned (.int .i64 T.nodes) ∧ Below w.heap.size w w' := by
  obtain ⟨A, rfl, hA⟩ := H.shape
  have c1 := H.c1
  have c2 := H.c2
  have hle := H.le
  have hsm := H.small
  obtain ⟨M, hM⟩ : ∃ M, M = T.sl.length := ⟨_, rfl⟩
  obtain ⟨a, ha⟩ : ∃ a, a = T.a := ⟨_, rfl⟩
  obtain ⟨q, hq⟩ : ∃ q, q = T.nodes := ⟨_, rfl⟩
  have hqv : q = (M - a) / 2 := by rw [hq, hM, ha]; rfl
  rw [← hM] at c2 hle hsm
  rw [← ha] at c1 hle
  rw [← hq]
  have hw1 : IntKind.i64.wrap ((M : Int) - a) = ((M - a : Nat) : Int) := by rw [IntWalk.i64_in _ (by omega)]; omega
  have hw2 : ((M - a : Nat) : Int).tdiv 2 = (q : Int) := by rw [hqv]; rfl
  have hw3 : IntKind.i64.wrap (q : Int) = q := IntWalk.i64_in _ (by omega)
  clear H hA hM ha hq hqv
  go_enter Try.func21, Try.ntmps21
  go_wp2_with fail
  go_quiet (fail)
  go_wp2_with fail
  go_ret
  exact ⟨rfl, ⟨rfl, rfl, rfl, Nat.le_refl _, fun _ _ => rfl⟩⟩
end Go.Proofs.Ytpodgmajccmgkaa
