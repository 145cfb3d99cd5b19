/- An arena's memory while a call is under way: the four blocks, each by itself. -/
import Derived.Test.YtpaopcnbgdlgnaaArenaRep
import Derived.Test.YtpaopcnbgdlgnaaRowBase
namespace Go.Proofs.Ytpaopcnbgdlgnaa
open Go.RowKit Go.MapKept
set_option linter.unusedVariables false
set_option linter.unusedSimpArgs false

/-- The struct's block p (its field row: fld; its field live: lv), the cells' block, the map's block, the row. -/
structure Raw (w : World) (p cb mb : Nat) (fld : Value) (lv : Int) (cells : List Int) (M : Int → Option Value) (rv : Value) (row : List Value) : Prop where
  hs : w.heap[p]? = some (.cells #[.slice (some ⟨cb, 0, none⟩) cells.length cells.length, .map (some mb), fld, .int .i64 lv] 60 (0, 0))
  hc : w.heap[cb]? = some (.cells (cells.map iv).toArray 2 (0, 0))
  hm : IntMapAt w mb M
  hr : w.ownsRow 0 3 1 rv row.length row

section
variable {w w' : World} {p cb mb : Nat} {fld : Value} {lv : Int} {cells : List Int} {M M' : Int → Option Value} {rv rv' : Value} {row row' : List Value}

theorem Raw.p_lt (h : Raw w p cb mb fld lv cells M rv row) : p < w.heap.size := (Array.getElem?_eq_some_iff.1 h.hs).1
theorem Raw.cb_lt (h : Raw w p cb mb fld lv cells M rv row) : cb < w.heap.size := (Array.getElem?_eq_some_iff.1 h.hc).1
theorem Raw.mb_lt (h : Raw w p cb mb fld lv cells M rv row) : mb < w.heap.size := h.hm.lt
theorem Raw.row_lt (h : Raw w p cb mb fld lv cells M rv row) {k : Nat} (hk : rv.ownBlock = some k) : k < w.heap.size := (h.hr.lt k hk).2
theorem Raw.p_ne_cb (h : Raw w p cb mb fld lv cells M rv row) : p ≠ cb := by
  intro e; have h1 := h.hs; rw [e, h.hc] at h1; simp at h1
theorem Raw.p_ne_mb (h : Raw w p cb mb fld lv cells M rv row) : p ≠ mb := by
  intro e; obtain ⟨es, c, h2, _⟩ := h.hm; have h1 := h.hs; rw [e, h2] at h1; simp at h1
theorem Raw.cb_ne_mb (h : Raw w p cb mb fld lv cells M rv row) : cb ≠ mb := by
  intro e; obtain ⟨es, c, h2, _⟩ := h.hm; have h1 := h.hc; rw [e, h2] at h1; simp at h1
theorem Raw.row_ne_p (h : Raw w p cb mb fld lv cells M rv row) : rv.ownBlock ≠ some p := by
  intro e; obtain ⟨cur, h2⟩ := row_obj h.hr e; have h1 := h.hs; rw [h2] at h1; simp at h1
theorem Raw.row_ne_cb (h : Raw w p cb mb fld lv cells M rv row) : rv.ownBlock ≠ some cb := by
  intro e; obtain ⟨cur, h2⟩ := row_obj h.hr e; have h1 := h.hc; rw [h2] at h1; simp at h1
theorem Raw.row_ne_mb (h : Raw w p cb mb fld lv cells M rv row) : rv.ownBlock ≠ some mb := by
  intro e; obtain ⟨cur, h2⟩ := row_obj h.hr e; obtain ⟨es, c, h3, _⟩ := h.hm; rw [h3] at h2; simp at h2

theorem Raw.of_blocks (h : Raw w p cb mb fld lv cells M rv row) (h1 : w'.heap[p]? = w.heap[p]?) (h2 : w'.heap[cb]? = w.heap[cb]?) (h3 : w'.heap[mb]? = w.heap[mb]?)
    (h4 : ∀ k, rv.ownBlock = some k → w'.heap[k]? = w.heap[k]?) : Raw w' p cb mb fld lv cells M rv row :=
  ⟨h1.trans h.hs, h2.trans h.hc, h.hm.of_block h3, ownsRow_of_block h.hr h4⟩

theorem Raw.below (h : Raw w p cb mb fld lv cells M rv row) (hb : Below w.heap.size w w') : Raw w' p cb mb fld lv cells M rv row :=
  h.of_blocks (hb.block _ h.p_lt) (hb.block _ h.cb_lt) (hb.block _ h.mb_lt) (fun k hk => hb.block _ (h.row_lt hk))

theorem Raw.alloc (h : Raw w p cb mb fld lv cells M rv row) (o : Obj) : Raw (w.alloc o) p cb mb fld lv cells M rv row := h.below (below_alloc w o)
theorem Raw.drew (h : Raw w p cb mb fld lv cells M rv row) : Raw w.drew p cb mb fld lv cells M rv row := h.of_blocks rfl rfl rfl (fun _ _ => rfl)

/-- The map has turned. -/
theorem Raw.turnMap (h : Raw w p cb mb fld lv cells M rv row) (hm : IntMapAt w' mb M') (hg : w.grownBy w' (some mb)) : Raw w' p cb mb fld lv cells M' rv row := by
  have hb : ∀ k, k < w.heap.size → k ≠ mb → w'.heap[k]? = w.heap[k]? := fun k hk hne => hg.block k hk (by simpa using hne)
  exact ⟨(hb _ h.p_lt h.p_ne_mb).trans h.hs, (hb _ h.cb_lt h.cb_ne_mb).trans h.hc, hm,
    ownsRow_of_block h.hr fun k hk => hb k (h.row_lt hk) (fun e => h.row_ne_mb (by rw [hk, e]))⟩

/-- The row has turned, or is another one. -/
theorem Raw.turnRow (h : Raw w p cb mb fld lv cells M rv row) (hr : w'.ownsRow 0 3 1 rv' row'.length row') (hg : w.grownBy w' rv.ownBlock) : Raw w' p cb mb fld lv cells M rv' row' :=
  ⟨(hg.block _ h.p_lt (fun e => h.row_ne_p e.symm)).trans h.hs, (hg.block _ h.cb_lt (fun e => h.row_ne_cb e.symm)).trans h.hc, h.hm.of_block (hg.block _ h.mb_lt (fun e => h.row_ne_mb e.symm)), hr⟩

/-- The field row is stored. -/
theorem Raw.setFld (h : Raw w p cb mb fld lv cells M rv row) (v : Value) : Raw (w.setCell ⟨p, 2, none⟩ v) p cb mb v lv cells M rv row := by
  have hb : ∀ k, k ≠ p → (w.setCell ⟨p, 2, none⟩ v).heap[k]? = w.heap[k]? := fun k hk => Below.heap_setCell _ _ _ _ hk
  refine ⟨?_, (hb _ (Ne.symm h.p_ne_cb)).trans h.hc, h.hm.of_block (hb _ (Ne.symm h.p_ne_mb)), ownsRow_of_block h.hr fun k hk => hb k (fun e => h.row_ne_p (by rw [hk, e]))⟩
  simp [World.setCell, Array.getElem?_modify, h.hs]

/-- The field live is stored. -/
theorem Raw.setLive (h : Raw w p cb mb fld lv cells M rv row) (n : Int) : Raw (w.setCell ⟨p, 3, none⟩ (.int .i64 n)) p cb mb fld n cells M rv row := by
  have hb : ∀ k, k ≠ p → (w.setCell ⟨p, 3, none⟩ (.int .i64 n)).heap[k]? = w.heap[k]? := fun k hk => Below.heap_setCell _ _ _ _ hk
  refine ⟨?_, (hb _ (Ne.symm h.p_ne_cb)).trans h.hc, h.hm.of_block (hb _ (Ne.symm h.p_ne_mb)), ownsRow_of_block h.hr fun k hk => hb k (fun e => h.row_ne_p (by rw [hk, e]))⟩
  simp [World.setCell, Array.getElem?_modify, h.hs]

/-- The cells' block has turned. -/
theorem Raw.turnCells (h : Raw w p cb mb fld lv cells M rv row) {cells' : List Int} (hl : cells'.length = cells.length) (hc : w'.heap[cb]? = some (.cells (cells'.map iv).toArray 2 (0, 0)))
    (hb : ∀ k, k < w.heap.size → k ≠ cb → w'.heap[k]? = w.heap[k]?) : Raw w' p cb mb fld lv cells' M rv row := by
  refine ⟨by rw [hl, hb _ h.p_lt h.p_ne_cb]; exact h.hs, hc, h.hm.of_block (hb _ h.mb_lt (Ne.symm h.cb_ne_mb)), ownsRow_of_block h.hr fun k hk => hb k (h.row_lt hk) (fun e => h.row_ne_cb (by rw [hk, e]))⟩

theorem Raw.c0 (h : Raw w p cb mb fld lv cells M rv row) : w.cell? ⟨p, 0, none⟩ = some (.slice (some ⟨cb, 0, none⟩) cells.length cells.length) := by simp [World.cell?, h.hs]
theorem Raw.c1 (h : Raw w p cb mb fld lv cells M rv row) : w.cell? ⟨p, 1, none⟩ = some (.map (some mb)) := by simp [World.cell?, h.hs]
theorem Raw.c2 (h : Raw w p cb mb fld lv cells M rv row) : w.cell? ⟨p, 2, none⟩ = some fld := by simp [World.cell?, h.hs]
theorem Raw.c3 (h : Raw w p cb mb fld lv cells M rv row) : w.cell? ⟨p, 3, none⟩ = some (.int .i64 lv) := by simp [World.cell?, h.hs]
theorem Raw.frz (h : Raw w p cb mb fld lv cells M rv row) (i : Nat) : w.frozen? ⟨p, i, none⟩ = false := by simp [World.frozen?, h.hs]
end

theorem ArenaAt.raw {w : World} {A : AP} {S : St} (h : ArenaAt w A S) : Raw w A.p A.cb A.mb A.rv (liveL S.L) S.cells (mapOf S.L) A.rv (S.L.map fun b => iv b.h) :=
  ⟨h.hs, h.hc, h.hm, by simpa using h.hr⟩

theorem Raw.arena {w : World} {p cb mb : Nat} {rv : Value} {lv : Int} {cells : List Int} {M : Int → Option Value} {row : List Value} {L : List Blk} (h : Raw w p cb mb rv lv cells M rv row)
    (h1 : lv = liveL L) (h2 : M = mapOf L) (h3 : row = L.map fun b => iv b.h) (hi : Inv ⟨cells, L⟩) : ArenaAt w ⟨p, cb, mb, rv⟩ ⟨cells, L⟩ := by
  subst h1; subst h2; subst h3
  exact ⟨h.hs, h.hc, h.hm, by simpa using h.hr, hi⟩
end Go.Proofs.Ytpaopcnbgdlgnaa
