/- How an arena lies in memory: the struct's block, the cells' block, the map's block, the row of handles; and what a call leaves alone. -/
import Derived.Test.YtpaopcnbgdlgnaaMapBase
namespace Go.Proofs.Ytpaopcnbgdlgnaa
open Go.RowKit Go.MapKept
set_option linter.unusedVariables false
set_option linter.unusedSimpArgs false

/-- A block: its handle, where it lies, how long it is. -/
structure Blk where
  h : Nat
  a : Nat
  n : Nat

/-- An arena's state: its cells, its blocks in the order of their addresses. -/
structure St where
  cells : List Int
  L : List Blk

def liveL : List Blk → Nat
  | [] => 0
  | b :: l => b.n + liveL l

/-- The block of a handle. -/
def getB (k : Int) : List Blk → Option Blk
  | [] => none
  | b :: l => if (b.h : Int) = k then some b else getB k l

/-- The blocks lie one behind the other, from a place on, each with at least a cell. -/
def Laid : Nat → List Blk → Prop
  | _, [] => True
  | lo, b :: l => lo ≤ b.a ∧ 1 ≤ b.n ∧ 1 ≤ b.h ∧ Laid (b.a + b.n) l

/-- Where the last block ends. -/
def topL : Nat → List Blk → Nat
  | lo, [] => lo
  | _, b :: l => topL (b.a + b.n) l

structure Inv (S : St) : Prop where
  laid : Laid 0 S.L
  top : topL 0 S.L ≤ S.cells.length
  nodup : (S.L.map (·.h)).Nodup
  size : S.cells.length ≤ 65536
  pos : 1 ≤ S.cells.length
  small : ∀ b ∈ S.L, b.h ≤ 70000

def iv (x : Int) : Value := .int .i64 x
def blkV (b : Blk) : Value := .agg #[.int .i64 b.a, .int .i64 b.n]
def mapOf (L : List Blk) : Int → Option Value := fun k => (getB k L).map blkV

/-- The numbers of an arena's blocks of memory, and its row of handles. -/
structure AP where
  p : Nat
  cb : Nat
  mb : Nat
  rv : Value

def AP.owns (A : AP) (k : Nat) : Prop := k = A.p ∨ k = A.cb ∨ k = A.mb ∨ A.rv.ownBlock = some k

structure ArenaAt (w : World) (A : AP) (S : St) : Prop where
  hs : w.heap[A.p]? = some (.cells #[.slice (some ⟨A.cb, 0, none⟩) S.cells.length S.cells.length, .map (some A.mb), A.rv, .int .i64 (liveL S.L)] 60 (0, 0))
  hc : w.heap[A.cb]? = some (.cells (S.cells.map iv).toArray 2 (0, 0))
  hm : IntMapAt w A.mb (mapOf S.L)
  hr : w.ownsRow 0 3 1 A.rv S.L.length (S.L.map fun b => iv b.h)
  inv : Inv S

/-- Nothing that lies outside B has turned; new blocks may have come. -/
structure Keep (B : Nat → Prop) (w w' : World) : Prop where
  os : w'.os = w.os
  tape : w'.tape = w.tape
  output : w'.output = w.output
  size : w.heap.size ≤ w'.heap.size
  block : ∀ k, k < w.heap.size → ¬ B k → w'.heap[k]? = w.heap[k]?

theorem Keep.refl (B : Nat → Prop) (w : World) : Keep B w w := ⟨rfl, rfl, rfl, Nat.le_refl _, fun _ _ _ => rfl⟩
theorem Keep.mono {B C : Nat → Prop} {w w' : World} (h : Keep B w w') (hbc : ∀ k, k < w.heap.size → B k → C k) : Keep C w w' :=
  ⟨h.os, h.tape, h.output, h.size, fun k hk hc => h.block k hk fun hb => hc (hbc k hk hb)⟩
theorem Keep.trans {B : Nat → Prop} {a b c : World} (h : Keep B a b) (k : Keep B b c) : Keep B a c :=
  ⟨k.os.trans h.os, k.tape.trans h.tape, k.output.trans h.output, Nat.le_trans h.size k.size, fun i hi hb => (k.block i (Nat.lt_of_lt_of_le hi h.size) hb).trans (h.block i hi hb)⟩
theorem Keep.trans' {B C : Nat → Prop} {a b c : World} (h : Keep B a b) (k : Keep C b c) (hc : ∀ i, i < a.heap.size → C i → B i) : Keep B a c :=
  ⟨k.os.trans h.os, k.tape.trans h.tape, k.output.trans h.output, Nat.le_trans h.size k.size, fun i hi hb => (k.block i (Nat.lt_of_lt_of_le hi h.size) (fun hci => hb (hc i hi hci))).trans (h.block i hi hb)⟩
theorem Keep.of_below {B : Nat → Prop} {w w' : World} (h : Below w.heap.size w w') : Keep B w w' := ⟨h.os, h.tape, h.output, h.size, fun k hk _ => h.block k hk⟩
theorem Keep.below {n : Nat} {B : Nat → Prop} {w w' : World} (h : Keep B w w') (hn : n ≤ w.heap.size) (hB : ∀ k, k < n → ¬ B k) : Below n w w' := ⟨h.os, h.tape, h.output, h.size, fun k hk => h.block k (by omega) (hB k hk)⟩
theorem Keep.of_grown {B : Nat → Prop} {w w' : World} {row : Option Nat} (h : w.grownBy w' row) (hr : ∀ k, row = some k → k < w.heap.size → B k) : Keep B w w' :=
  ⟨h.os, h.tape, h.output, h.size, fun k hk hb => h.block k hk fun e => hb (hr k e.symm hk)⟩
theorem Keep.alloc {B : Nat → Prop} {a w : World} (h : Keep B a w) (o : Obj) : Keep B a (w.alloc o) :=
  h.trans ⟨rfl, rfl, rfl, by simp, fun k hk _ => Below.heap_alloc _ _ _ hk⟩
theorem Keep.drew {B : Nat → Prop} {a w : World} (h : Keep B a w) : Keep B a w.drew := ⟨h.os, h.tape, h.output, h.size, h.block⟩
theorem Keep.setCell {B : Nat → Prop} {a w : World} (h : Keep B a w) {p : Addr} (hp : p.block < a.heap.size → B p.block) (u : Value) : Keep B a (w.setCell p u) :=
  h.trans' (C := fun k => k = p.block) ⟨rfl, rfl, rfl, by simp [World.setCell], fun k _ hk => Below.heap_setCell _ _ _ _ hk⟩ (fun i hi e => by subst e; exact hp hi)
theorem Keep.setRow {B : Nat → Prop} {a w : World} (h : Keep B a w) {g : Nat} (hp : g < a.heap.size → B g) (cs : Array Value) : Keep B a (w.setRow g cs) :=
  h.trans' (C := fun k => k = g) ⟨rfl, rfl, rfl, by simp [World.setRow], fun k _ hk => setRow_other w g k cs hk⟩ (fun i hi e => by subst e; exact hp hi)

section
variable {w w' : World} {A : AP} {S : St}

theorem ArenaAt.p_lt (h : ArenaAt w A S) : A.p < w.heap.size := (Array.getElem?_eq_some_iff.1 h.hs).1
theorem ArenaAt.cb_lt (h : ArenaAt w A S) : A.cb < w.heap.size := (Array.getElem?_eq_some_iff.1 h.hc).1
theorem ArenaAt.mb_lt (h : ArenaAt w A S) : A.mb < w.heap.size := h.hm.lt
theorem ArenaAt.row_lt (h : ArenaAt w A S) {k : Nat} (hk : A.rv.ownBlock = some k) : k < w.heap.size := (h.hr.lt k hk).2
theorem ArenaAt.owns_lt (h : ArenaAt w A S) {k : Nat} (hk : A.owns k) : k < w.heap.size := by
  rcases hk with rfl | rfl | rfl | hk
  · exact h.p_lt
  · exact h.cb_lt
  · exact h.mb_lt
  · exact h.row_lt hk

/-- What a row's block is. -/
theorem row_obj {w : World} {base : Nat} {e : TypeId} {size : Nat} {v : Value} {n : Nat} {xs : List Value} (h : w.ownsRow base e size v n xs) {k : Nat} (hk : v.ownBlock = some k) :
    ∃ cur, w.heap[k]? = some (.cells cur e (0, 0)) := by
  rcases h.2 with ⟨rfl, _⟩ | ⟨g, cap, cur, rfl, _, hg, _⟩
  · simp [Value.ownBlock] at hk
  · simp [Value.ownBlock] at hk; subst hk; exact ⟨cur, hg⟩

theorem ArenaAt.p_ne_cb (h : ArenaAt w A S) : A.p ≠ A.cb := by
  intro e; have h1 := h.hs; rw [e, h.hc] at h1; simp at h1
theorem ArenaAt.p_ne_mb (h : ArenaAt w A S) : A.p ≠ A.mb := by
  intro e; obtain ⟨es, c, h2, _⟩ := h.hm; have h1 := h.hs; rw [e, h2] at h1; simp at h1
theorem ArenaAt.cb_ne_mb (h : ArenaAt w A S) : A.cb ≠ A.mb := by
  intro e; obtain ⟨es, c, h2, _⟩ := h.hm; have h1 := h.hc; rw [e, h2] at h1; simp at h1
theorem ArenaAt.row_ne_p (h : ArenaAt w A S) : A.rv.ownBlock ≠ some A.p := by
  intro e; obtain ⟨cur, h2⟩ := row_obj h.hr e; have h1 := h.hs; rw [h2] at h1; simp at h1
theorem ArenaAt.row_ne_cb (h : ArenaAt w A S) : A.rv.ownBlock ≠ some A.cb := by
  intro e; obtain ⟨cur, h2⟩ := row_obj h.hr e; have h1 := h.hc; rw [h2] at h1; simp at h1
theorem ArenaAt.row_ne_mb (h : ArenaAt w A S) : A.rv.ownBlock ≠ some A.mb := by
  intro e; obtain ⟨cur, h2⟩ := row_obj h.hr e; obtain ⟨es, c, h3, _⟩ := h.hm; rw [h3] at h2; simp at h2

/-- What a row reads as hangs on its block alone. -/
theorem ownsRow_of_block {w w' : World} {base : Nat} {e : TypeId} {size : Nat} {v : Value} {n : Nat} {xs : List Value} (h : w.ownsRow base e size v n xs)
    (hb : ∀ k, v.ownBlock = some k → w'.heap[k]? = w.heap[k]?) : w'.ownsRow base e size v n xs := by
  refine ⟨h.1, ?_⟩
  rcases h.2 with hn | ⟨g, cap, cur, rfl, hb', hgg, rest⟩
  · exact .inl hn
  · exact .inr ⟨g, cap, cur, rfl, hb', by rw [hb g rfl]; exact hgg, rest⟩

theorem ArenaAt.keep {B : Nat → Prop} (h : ArenaAt w A S) (hk : Keep B w w') (hB : ∀ k, A.owns k → ¬ B k) : ArenaAt w' A S := by
  have hb : ∀ k, A.owns k → w'.heap[k]? = w.heap[k]? := fun k ho => hk.block k (h.owns_lt ho) (hB k ho)
  exact ⟨(hb _ (.inl rfl)).trans h.hs, (hb _ (.inr (.inl rfl))).trans h.hc, h.hm.of_block (hb _ (.inr (.inr (.inl rfl)))),
    ownsRow_of_block h.hr fun k hk => hb k (.inr (.inr (.inr hk))), h.inv⟩

theorem ArenaAt.below (h : ArenaAt w A S) (hb : Below w.heap.size w w') : ArenaAt w' A S :=
  h.keep (B := fun _ => False) (Keep.of_below hb) (fun _ _ h => h)

theorem ArenaAt.c0 (h : ArenaAt w A S) : w.cell? ⟨A.p, 0, none⟩ = some (.slice (some ⟨A.cb, 0, none⟩) S.cells.length S.cells.length) := by simp [World.cell?, h.hs]
theorem ArenaAt.c1 (h : ArenaAt w A S) : w.cell? ⟨A.p, 1, none⟩ = some (.map (some A.mb)) := by simp [World.cell?, h.hs]
theorem ArenaAt.c2 (h : ArenaAt w A S) : w.cell? ⟨A.p, 2, none⟩ = some A.rv := by simp [World.cell?, h.hs]
theorem ArenaAt.c3 (h : ArenaAt w A S) : w.cell? ⟨A.p, 3, none⟩ = some (.int .i64 (liveL S.L)) := by simp [World.cell?, h.hs]
theorem ArenaAt.frz (h : ArenaAt w A S) (i : Nat) : w.frozen? ⟨A.p, i, none⟩ = false := by simp [World.frozen?, h.hs]
theorem ArenaAt.cfrz (h : ArenaAt w A S) (i : Nat) : w.frozen? ⟨A.cb, i, none⟩ = false := by simp [World.frozen?, h.hc]
theorem ArenaAt.cc (h : ArenaAt w A S) (i : Nat) (hi : i < S.cells.length) : w.cell? ⟨A.cb, i, none⟩ = some (.int .i64 (S.cells.getD i 0)) := by
  simp [World.cell?, h.hc, iv, hi]
end

/-- What a call that changes an arena leaves alone. -/
structure Step (w w' : World) (A A' : AP) : Prop where
  keep : Keep A.owns w w'
  p : A'.p = A.p
  cb : A'.cb = A.cb
  mb : A'.mb = A.mb
  new : ∀ k, A'.owns k → A.owns k ∨ w.heap.size ≤ k

theorem Step.of_below {w w' : World} {A : AP} (h : Below w.heap.size w w') : Step w w' A A := ⟨Keep.of_below h, rfl, rfl, rfl, fun k hk => .inl hk⟩
theorem Step.trans {w w1 w2 : World} {A A1 A2 : AP} (h : Step w w1 A A1) (g : Step w1 w2 A1 A2) : Step w w2 A A2 :=
  ⟨h.keep.trans' g.keep (fun i hi hk => (h.new i hk).resolve_right (by omega)), g.p.trans h.p, g.cb.trans h.cb, g.mb.trans h.mb,
    fun k hk => by rcases g.new k hk with h1 | h1
                   · exact h.new k h1
                   · exact .inr (by have := h.keep.size; omega)⟩

/-- A block's object, under a name that simp does not open. -/
def obj? (w : World) (n : Nat) : Option Obj := w.heap[n]?
theorem obj_alloc (w : World) (o : Obj) (n : Nat) (h : n < w.heap.size) : obj? (w.alloc o) n = obj? w n := Below.heap_alloc w o n h
theorem obj_drew (w : World) (n : Nat) : obj? w.drew n = obj? w n := rfl
theorem obj_setCell (w : World) (n m i : Nat) (v : Value) (h : n ≠ m) : obj? (w.setCell ⟨m, i, none⟩ v) n = obj? w n := Below.heap_setCell _ _ _ _ h
theorem below_alloc (w : World) (o : Obj) : Below w.heap.size w (w.alloc o) := (Below.refl _ _).alloc (Nat.le_refl _) o
end Go.Proofs.Ytpaopcnbgdlgnaa
