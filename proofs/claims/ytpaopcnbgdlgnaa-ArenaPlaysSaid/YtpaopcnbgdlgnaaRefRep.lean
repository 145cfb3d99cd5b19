/- The reference's arena in the heap, and how it stands to the state. -/
import Derived.Test.YtpaopcnbgdlgnaaCells
namespace Go.Proofs.Ytpaopcnbgdlgnaa
open Go.RowKit Go.MapKept
set_option linter.unusedVariables false
set_option linter.unusedSimpArgs false

/-- A block of the reference: its handle, its place, what is in it, and where that lies in the heap. -/
structure RBlk where
  h : Nat
  a : Nat
  xs : List Int
  d : Nat

def RBlk.blk (b : RBlk) : Blk := ⟨b.h, b.a, b.xs.length⟩
def RBlk.vals (b : RBlk) : List Value := [iv b.h, iv b.a, .slice (some ⟨b.d, 0, none⟩) b.xs.length b.xs.length]
def flat (R : List RBlk) : List Value := R.flatMap RBlk.vals

theorem flat_nil : flat [] = [] := rfl
theorem flat_app (R T : List RBlk) : flat (R ++ T) = flat R ++ flat T := by simp [flat]
theorem flat_cons (b : RBlk) (R : List RBlk) : flat (b :: R) = b.vals ++ flat R := by simp [flat]
theorem flat_length : ∀ (R : List RBlk), (flat R).length = R.length * 3 := by
  intro R
  induction R with
  | nil => rfl
  | cons b l ih => rw [flat_cons, List.length_append, ih]; simp [RBlk.vals]; omega
theorem flat_get : ∀ {R : List RBlk} {i k : Nat} {b : RBlk}, R[i]? = some b → k < 3 → (flat R)[i * 3 + k]? = b.vals[k]? := by
  intro R
  induction R with
  | nil => intro i k b h; simp at h
  | cons c l ih =>
    intro i k b h hk
    rw [flat_cons]
    cases i with
    | zero =>
      simp only [List.getElem?_cons_zero, Option.some.injEq] at h
      subst h
      rw [List.getElem?_append_left (by simp [RBlk.vals]; omega)]
      congr 1; omega
    | succ i =>
      rw [List.getElem?_cons_succ] at h
      rw [List.getElem?_append_right (by simp [RBlk.vals]; omega), ← ih h hk]
      congr 1
      simp [RBlk.vals]; omega

theorem flat_take : ∀ (R : List RBlk) (i : Nat), (flat R).take (i * 3) = flat (R.take i) := by
  intro R
  induction R with
  | nil => intro i; simp [flat]
  | cons b l ih =>
    intro i
    cases i with
    | zero => simp [flat]
    | succ i =>
      rw [flat_cons, List.take_succ_cons, flat_cons, ← ih i]
      rw [show (i + 1) * 3 = (b.vals).length + i * 3 by simp [RBlk.vals]; omega, List.take_length_add_append]

theorem flat_drop : ∀ (R : List RBlk) (i : Nat), (flat R).drop (i * 3) = flat (R.drop i) := by
  intro R
  induction R with
  | nil => intro i; simp [flat]
  | cons b l ih =>
    intro i
    cases i with
    | zero => simp
    | succ i =>
      rw [flat_cons, List.drop_succ_cons, ← ih i]
      rw [show (i + 1) * 3 = (b.vals).length + i * 3 by simp [RBlk.vals]; omega, List.drop_length_add_append]

/-- The reference's arena at p: its size N, its blocks R; its own heap blocks are among X. -/
structure RefAt (X : Nat → Prop) (w : World) (p N : Nat) (R : List RBlk) (v : Value) : Prop where
  head : w.heap[p]? = some (.cells #[.int .i64 N, v] 77 (0, 0))
  xp : X p
  row : w.ownsRow 0 84 3 v R.length (flat R)
  xrow : ∀ g, v.ownBlock = some g → X g
  data : ∀ b ∈ R, w.heap[b.d]? = some (.cells (b.xs.map iv).toArray 2 (0, 0)) ∧ X b.d
  nodup : (R.map (·.d)).Nodup

variable {X Y : Nat → Prop} {w w' : World} {p N : Nat} {R : List RBlk} {v : Value}

theorem RefAt.same (H : RefAt X w p N R v) (hs : Same X w w') : RefAt X w' p N R v :=
  ⟨(hs p H.xp).trans H.head, H.xp, ownsRow_of_block H.row fun k hk => hs k (H.xrow k hk), H.xrow, fun b hb => ⟨(hs b.d (H.data b hb).2).trans (H.data b hb).1, (H.data b hb).2⟩, H.nodup⟩

theorem RefAt.mono (H : RefAt X w p N R v) (hX : ∀ k, X k → Y k) : RefAt Y w p N R v :=
  ⟨H.head, hX _ H.xp, H.row, fun g hg => hX g (H.xrow g hg), fun b hb => ⟨(H.data b hb).1, hX _ (H.data b hb).2⟩, H.nodup⟩

theorem RefAt.lt (H : RefAt X w p N R v) : p < w.heap.size ∧ (∀ g, v.ownBlock = some g → g < w.heap.size) ∧ ∀ b ∈ R, b.d < w.heap.size :=
  ⟨(Array.getElem?_eq_some_iff.1 H.head).1, fun g hg => (H.row.lt g hg).2, fun b hb => (Array.getElem?_eq_some_iff.1 (H.data b hb).1).1⟩

theorem RefAt.below (H : RefAt X w p N R v) (hb : Below w.heap.size w w') : RefAt X w' p N R v :=
  ⟨(hb.block p H.lt.1).trans H.head, H.xp, row_below3 H.row hb, H.xrow, fun b hm => ⟨(hb.block b.d (H.lt.2.2 b hm)).trans (H.data b hm).1, (H.data b hm).2⟩, H.nodup⟩
where
  row_below3 {e : TypeId} {v : Value} {n base : Nat} {xs : List Value} (h : w.ownsRow base e 3 v n xs) (hb : Below w.heap.size w w') : w'.ownsRow base e 3 v n xs :=
    ownsRow_of_block h fun k hk => hb.block k (h.lt k hk).2

theorem RefAt.c0 (H : RefAt X w p N R v) : w.cell? ⟨p, 0, none⟩ = some (.int .i64 N) := by simp [World.cell?, H.head]
theorem RefAt.c1 (H : RefAt X w p N R v) : w.cell? ⟨p, 1, none⟩ = some v := by simp [World.cell?, H.head]

theorem RefAt.shape (H : RefAt X w p N R v) : ∃ A c, v = .slice A R.length c := row_shape H.row

theorem row_at {w : World} {base : Nat} {T : List RBlk} {A : Option Addr} {n c : Nat} (h : w.ownsRow base 84 3 (.slice A n c) T.length (flat T)) {i : Nat} {b : RBlk} (hi : T[i]? = some b) :
    ∃ g, A = some ⟨g, 0, none⟩ ∧ base ≤ g ∧ w.cell? ⟨g, i * 3, none⟩ = some (.int .i64 b.h) ∧ w.cell? ⟨g, i * 3 + 1, none⟩ = some (.int .i64 b.a) ∧ w.cell? ⟨g, i * 3 + 2, none⟩ = some (.slice (some ⟨b.d, 0, none⟩) b.xs.length b.xs.length) := by
  have hil := (List.getElem?_eq_some_iff.1 hi).1
  rcases h.2 with ⟨hn, h0⟩ | ⟨g, cap, cur, hv, hb, _⟩
  · omega
  · simp only [Value.slice.injEq] at hv
    obtain ⟨rfl, rfl, rfl⟩ := hv
    have key : ∀ k u, k < 3 → b.vals[k]? = some u → w.cell? ⟨g, i * 3 + k, none⟩ = some u := by
      intro k u hk hu
      have := h.cells (g := g) rfl (i * 3 + k) u (by rw [flat_get hi hk]; exact hu)
      have hadd : (⟨g, 0, none⟩ : Addr).add (i * 3 + k) = ⟨g, i * 3 + k, none⟩ := by unfold Addr.add; split <;> simp_all
      rw [hadd] at this
      exact this
    exact ⟨g, rfl, hb, key 0 _ (by omega) rfl, key 1 _ (by omega) rfl, key 2 _ (by omega) rfl⟩

theorem RefAt.at_ {A : Option Addr} {n c : Nat} (H : RefAt X w p N R (.slice A n c)) {i : Nat} {b : RBlk} (hi : R[i]? = some b) :
    ∃ g, A = some ⟨g, 0, none⟩ ∧ X g ∧ w.cell? ⟨g, i * 3, none⟩ = some (.int .i64 b.h) ∧ w.cell? ⟨g, i * 3 + 1, none⟩ = some (.int .i64 b.a) ∧ w.cell? ⟨g, i * 3 + 2, none⟩ = some (.slice (some ⟨b.d, 0, none⟩) b.xs.length b.xs.length) := by
  obtain ⟨g, h1, _, h2⟩ := row_at H.row hi
  exact ⟨g, h1, H.xrow g (by rw [h1]; rfl), h2⟩

theorem RefAt.cell (H : RefAt X w p N R v) {b : RBlk} (hb : b ∈ R) {j : Nat} {x : Int} (hj : b.xs[j]? = some x) : w.cell? ⟨b.d, j, none⟩ = some (.int .i64 x) := by
  rw [cell_of_list (H.data b hb).1, List.getElem?_map, hj]; rfl

/-- The reference's blocks are the state's. -/
structure Rel (S : St) (R : List RBlk) (N : Nat) : Prop where
  size : N = S.cells.length
  blks : R.map RBlk.blk = S.L
  cont : ∀ b ∈ R, Cont S b.h b.xs

theorem Rel.length {S : St} (h : Rel S R N) : R.length = S.L.length := by rw [← h.blks, List.length_map]

/-- Where a handle stands. -/
def IsAt (R : List RBlk) (k : Int) (i : Nat) (b : RBlk) : Prop := R[i]? = some b ∧ (b.h : Int) = k ∧ ∀ (j : Nat) c, j < i → R[j]? = some c → (c.h : Int) ≠ k

theorem getB_at : ∀ {R : List RBlk} {k : Int} {i : Nat} {b : RBlk}, IsAt R k i b → getB k (R.map RBlk.blk) = some b.blk ∧ eraseB k (R.map RBlk.blk) = (R.take i ++ R.drop (i + 1)).map RBlk.blk := by
  intro R
  induction R with
  | nil => intro k i b h; have := h.1; simp at this
  | cons c l ih =>
    intro k i b ⟨h1, h2, h3⟩
    cases i with
    | zero =>
      simp only [List.getElem?_cons_zero, Option.some.injEq] at h1
      subst h1
      constructor
      · show getB k (c.blk :: _) = _
        unfold getB
        rw [if_pos (show (c.blk.h : Int) = k from h2)]
      · show eraseB k (c.blk :: _) = _
        unfold eraseB
        rw [if_pos (show (c.blk.h : Int) = k from h2)]
        simp
    | succ i =>
      have hne : ¬ (c.blk.h : Int) = k := h3 0 c (by omega) rfl
      obtain ⟨e1, e2⟩ := ih (k := k) (i := i) (b := b) ⟨by simpa using h1, h2, fun j d hj hd => h3 (j + 1) d (by omega) (by simpa using hd)⟩
      constructor
      · show getB k (c.blk :: _) = _
        unfold getB
        rw [if_neg hne]
        exact e1
      · show eraseB k (c.blk :: _) = _
        unfold eraseB
        rw [if_neg hne, e2]
        simp

theorem getB_no {k : Int} : ∀ {R : List RBlk}, (∀ b ∈ R, (b.h : Int) ≠ k) → getB k (R.map RBlk.blk) = none := by
  intro R
  induction R with
  | nil => intro _; rfl
  | cons c l ih =>
    intro h
    show getB k (c.blk :: _) = _
    unfold getB
    rw [if_neg (show ¬ (c.blk.h : Int) = k from h c (by simp))]
    exact ih (fun b hb => h b (by simp [hb]))

/-- The reference stands for a state. -/
def RefS (X : Nat → Prop) (w : World) (p : Nat) (S : St) : Prop := ∃ N R v, RefAt X w p N R v ∧ Rel S R N ∧ Inv S

theorem RefS.below {S : St} (h : RefS X w p S) (hb : Below w.heap.size w w') : RefS X w' p S := by
  obtain ⟨N, R, v, h1, h2, h3⟩ := h
  exact ⟨N, R, v, h1.below hb, h2, h3⟩
theorem RefS.same {S : St} (h : RefS X w p S) (hb : Same X w w') : RefS X w' p S := by
  obtain ⟨N, R, v, h1, h2, h3⟩ := h
  exact ⟨N, R, v, h1.same hb, h2, h3⟩

theorem live_take {L : List Blk} {i : Nat} {b : Blk} (h : L[i]? = some b) : liveL (L.take (i + 1)) = liveL (L.take i) + b.n := by
  induction L generalizing i with
  | nil => simp at h
  | cons c l ih =>
    cases i with
    | zero => simp only [List.getElem?_cons_zero, Option.some.injEq] at h; subst h; simp [liveL]
    | succ i =>
      rw [List.getElem?_cons_succ] at h
      rw [List.take_succ_cons, List.take_succ_cons]
      show c.n + liveL (l.take (i + 1)) = c.n + liveL (l.take i) + b.n
      rw [ih h]; omega
theorem live_take_le (L : List Blk) (i : Nat) : liveL (L.take i) ≤ liveL L := by
  induction L generalizing i with
  | nil => simp [liveL]
  | cons c l ih =>
    cases i with
    | zero => simp [liveL]
    | succ i =>
      rw [List.take_succ_cons]
      have := ih i
      show c.n + liveL (l.take i) ≤ c.n + liveL l
      omega
theorem blk_get {R : List RBlk} {L : List Blk} (h : R.map RBlk.blk = L) {i : Nat} {b : RBlk} (hb : R[i]? = some b) : L[i]? = some b.blk := by
  rw [← h, List.getElem?_map, hb]; rfl
end Go.Proofs.Ytpaopcnbgdlgnaa
