/- What Print needs: Itoa, a builder's keeping, sizes of texts. -/
import Derived.Test.YthncifbnkednlaaDoorScrPtsZ
import Derived.Test.YthncifbnkednlaaDoorScrBuild
import Derived.Sort.Grow
namespace Go.Proofs.YthncifbnkednlaaDoor
open Go.RowKit Go.Shelf Go.Sort
set_option linter.unusedVariables false
set_option linter.unusedSimpArgs false

structure EnvP (w : World) : Prop where
  e : Env w
  tab : Lib.TabIs Tryd.prog w "internal/strconv.uint64pow10" .u64 Lib.pow10Tab
theorem EnvP.of_block {w w' : World} (h : EnvP w) (he : Env w') (hb : w'.heap[2]? = w.heap[2]?) : EnvP w' := by
  refine ⟨he, ?_⟩
  have := h.tab
  unfold Lib.TabIs World.var? at *
  rw [show Tryd.prog.globalNamed "internal/strconv.uint64pow10" = some 2 by kernel_rfl] at *
  simp only [Option.bind_some] at *
  rw [hb]
  exact this
theorem EnvP.below {w w' : World} (h : EnvP w) (hb : Below w.heap.size w w') : EnvP w' := h.of_block (h.e.below hb) (hb.block 2 (by have := h.e.size; omega))
theorem Env.belowQ {w w' : World} {p : Nat} (h : Env w) (hb : Below p w w') (hp : 9 ≤ p) : Env w' := by
  have hk : ∀ (g i : Nat), g < 9 → w'.cell? ⟨g, i, none⟩ = w.cell? ⟨g, i, none⟩ := fun g i hg => World.cell?_of_block (w := w) (hb.block g (by omega))
  exact ⟨fun k b e => (hk 0 _ (by omega)).trans (h.word k b e), fun k b e => (hk 0 _ (by omega)).trans (h.max k b e), h.len.imp fun m e => (hk 1 _ (by omega)).trans e, Nat.le_trans h.size hb.size⟩
theorem EnvP.belowQ {w w' : World} {p : Nat} (h : EnvP w) (hb : Below p w w') (hp : 9 ≤ p) : EnvP w' := h.of_block (h.e.belowQ hb hp) (hb.block 2 (by omega))

theorem below_grow (w : World) (k : Nat) (os : Array Obj) : Below w.heap.size w (grow (w.drewN k) os) := by
  refine ⟨rfl, rfl, rfl, ?_, fun b hb => ?_⟩
  · show w.heap.size ≤ (w.heap ++ os).size
    rw [Array.size_append]; omega
  · show (w.heap ++ os)[b]? = w.heap[b]?
    rw [Array.getElem?_append_left hb]
theorem itoa_any (n : Int) (h0 : 0 ≤ n) (h1 : n ≤ 9223372036854775807) (w : World) (he : EnvP w) : Calls Tryd.prog 23 #[.int .i64 n] w fun e w' => e = .returned (.string (str (decZ n))) ∧ Below w.heap.size w w' := by
  refine (Tryd.strconv_Itoa n (by omega) h1 w he.tab).mono ?_
  rintro e w' ⟨rfl, k, os, rfl⟩
  refine ⟨?_, below_grow _ _ _⟩
  have : Lib.itoa n = decZ n := by unfold Lib.itoa decZ; rw [if_neg (by omega)]
  rw [this]
  rfl

theorem BldAt.below {B b : Nat} {l : Bs} {w w' : World} (h : BldAt B b l w) (hb : Below w.heap.size w w') : BldAt B b l w' := by
  have key : ∀ p, Lib.BuilderAt 59 5 B b p (Lib.byteCells l) w → Lib.BuilderAt 59 5 B b p (Lib.byteCells l) w' := by
    rintro p ⟨h1, v, h2, h3, h4⟩
    exact ⟨h1, v, (hb.block b (Array.getElem?_eq_some_iff.1 h2).1).trans h2, row_up' h3 hb, h4⟩
  rcases h with h | h
  · exact .inl (key _ h)
  · exact .inr (key _ h)

theorem wstr {B b : Nat} {l : Bs} (s : ByteArray) {w : World} (h : BldAt B b l w) (hlen : l.length + s.size ≤ 1000000000) :
    Calls Tryd.prog 22 #[.pointer (some ⟨b, 0, none⟩), .string s] w fun e w' => e = .returned (.tuple #[.int .i64 s.size, .nilIface]) ∧ BldAt B b (l ++ bs s) w' ∧ Below B w w' ∧ KeepT b w w' :=
  wstr_any s h hlen (by have := h.size; omega)
theorem wbyte {B b : Nat} {l : Bs} (c : UInt8) {w : World} (h : BldAt B b l w) (hlen : l.length + 1 ≤ 1000000000) :
    Calls Tryd.prog 25 #[.pointer (some ⟨b, 0, none⟩), .int .u8 c.toNat] w fun e w' => e = .returned .nilIface ∧ BldAt B b (l ++ [c]) w' ∧ Below B w w' ∧ KeepT b w w' :=
  wbyte_any c h hlen (by have := h.size; omega)
theorem size_str (l : Bs) : (str l).size = l.length := by rw [size_bs, bs_str]
end Go.Proofs.YthncifbnkednlaaDoor
