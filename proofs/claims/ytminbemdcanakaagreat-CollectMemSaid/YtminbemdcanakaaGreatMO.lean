/- A law's own objects and collector: some blocks are watched. -/
import Derived.Test.YtminbemdcanakaaGreatQColYoung2
import Derived.Test.YtminbemdcanakaaGreatQColWrite
import Derived.Test.YtminbemdcanakaaGreatME
import Derived.Test.YtminbemdcanakaaGreatMB
import Derived.Deep.Slices
import Derived.Deep.Fields
import Derived.ChangeSame
import Derived.WalkKit
import Derived.ProofKit
import Derived.OpenShut
namespace Go.Proofs.YtminbemdcanakaaGreat
open Go.RowKit
set_option linter.unusedVariables false
set_option linter.unusedSimpArgs false

/-- Blocks from w0 on that are not watched alone were turned. -/
abbrev KX (X : Nat → Prop) (w0 w w' : World) : Prop := Keep (fun k => w0.heap.size ≤ k ∧ ¬ X k) w w'
/-- Objects at p, made since w0; blocks X are watched. -/
structure HasM (X : Nat → Prop) (w0 w : World) (p : Nat) (M : Mm) : Prop where
  ex : ∃ L : ML, L.p = p ∧ MemAt w L M ∧ ∀ k, L.own k → w0.heap.size ≤ k ∧ ¬ X k
  below : Below w0.heap.size w0 w
  lt : ∀ k, X k → k < w.heap.size
/-- A collector at cp, of objects at p. -/
structure HasC (X : Nat → Prop) (w0 w : World) (cp p : Nat) (c : Cs) : Prop where
  ex : ∃ K : CL, K.cp = cp ∧ K.L.p = p ∧ CAt w K c ∧ ∀ k, K.own k → w0.heap.size ≤ k ∧ ¬ X k
  below : Below w0.heap.size w0 w
  lt : ∀ k, X k → k < w.heap.size

variable {X : Nat → Prop} {w0 w w' : World} {cp p : Nat} {c c' : Cs} {M M' : Mm}
theorem KX.old (h : KX X w0 w w') (hb : Below w0.heap.size w0 w) : Below w0.heap.size w0 w' := hb.trans (h.below hb.size fun k hk y => by omega)
theorem KX.of_below (hb : Below w.heap.size w w') : KX X w0 w w' := Keep.of_below hb
theorem hasM_to {L : ML} (ho : ∀ k, L.own k → w0.heap.size ≤ k ∧ ¬ X k) (hb : Below w0.heap.size w0 w) (hl : ∀ k, X k → k < w.heap.size) (hT : MTo w L w' M') : HasM X w0 w' L.p M' ∧ KX X w0 w w' := by
  obtain ⟨L', hp, hm, hk, ho'⟩ := hT
  have hK : KX X w0 w w' := hk.mono fun k _ h => ho k h
  refine ⟨⟨⟨L', hp, hm, fun k hk' => ?_⟩, hK.old hb, fun k h => Nat.lt_of_lt_of_le (hl k h) hk.size⟩, hK⟩
  rcases ho' k hk' with e | e
  · exact ho k e
  · exact ⟨Nat.le_trans hb.size e, fun x => by have := hl k x; omega⟩
theorem hasC_to {K : CL} (ho : ∀ k, K.own k → w0.heap.size ≤ k ∧ ¬ X k) (hb : Below w0.heap.size w0 w) (hl : ∀ k, X k → k < w.heap.size) (hT : CTo allQ w K w' c') : HasC X w0 w' K.cp K.L.p c' ∧ KX X w0 w w' := by
  have hK : KX X w0 w w' := hT.keep.mono fun k _ h => ho k h
  obtain ⟨K', G⟩ := hT
  refine ⟨⟨⟨K', G.cp, G.p, G.at_, fun k hk' => ?_⟩, hK.old hb, fun k h => Nat.lt_of_lt_of_le (hl k h) hK.size⟩, hK⟩
  rcases G.ownAll hk' with e | e
  · exact ho k e
  · exact ⟨Nat.le_trans hb.size e, fun x => by have := hl k x; omega⟩
/-- Something else is done: blocks that are not the collector's are turned. -/
theorem HasC.step {Y : Nat → Prop} (h : HasC X w0 w cp p c) (hk : Keep Y w w') (hY : ∀ k, Y k → X k ∧ w0.heap.size ≤ k) : HasC X w0 w' cp p c := by
  obtain ⟨⟨K, rfl, rfl, hat, ho⟩, hb, hl⟩ := h
  refine ⟨⟨K, rfl, rfl, hat.keep hk fun k hk' y => (ho k hk').2 (hY k y).1, ho⟩, hb.trans (hk.below hb.size fun k h y => by have := (hY k y).2; omega), fun k y => Nat.lt_of_lt_of_le (hl k y) hk.size⟩
theorem HasC.next (h : HasC X w0 w cp p c) (hb : Below w.heap.size w w') : HasC X w0 w' cp p c := h.step (Y := fun _ => False) (Keep.of_below hb) fun _ y => y.elim
theorem HasM.step {Y : Nat → Prop} (h : HasM X w0 w p M) (hk : Keep Y w w') (hY : ∀ k, Y k → X k ∧ w0.heap.size ≤ k) : HasM X w0 w' p M := by
  obtain ⟨⟨L, rfl, hat, ho⟩, hb, hl⟩ := h
  refine ⟨⟨L, rfl, hat.keep hk fun k hk' y => (ho k hk').2 (hY k y).1, ho⟩, hb.trans (hk.below hb.size fun k h y => by have := (hY k y).2; omega), fun k y => Nat.lt_of_lt_of_le (hl k y) hk.size⟩
theorem HasM.next (h : HasM X w0 w p M) (hb : Below w.heap.size w w') : HasM X w0 w' p M := h.step (Y := fun _ => False) (Keep.of_below hb) fun _ y => y.elim
/-- Others are watched. -/
theorem HasC.watch {X' : Nat → Prop} (h : HasC X w0 w cp p c) (hX : ∀ k, X' k → k < w.heap.size ∧ (w0.heap.size ≤ k → X k)) : HasC X' w0 w cp p c := by
  obtain ⟨⟨K, e1, e2, hat, ho⟩, hb, hl⟩ := h
  exact ⟨⟨K, e1, e2, hat, fun k hk => ⟨(ho k hk).1, fun y => (ho k hk).2 ((hX k y).2 (ho k hk).1)⟩⟩, hb, fun k y => (hX k y).1⟩

/-! ### reads -/
theorem HasM.mem (h : HasM X w0 w p M) : ∃ L : ML, L.p = p ∧ MemAt w L M := by obtain ⟨⟨L, e, hat, -⟩, -, -⟩ := h; exact ⟨L, e, hat⟩
theorem HasC.mem (h : HasC X w0 w cp p c) : ∃ L : ML, L.p = p ∧ MemAt w L c.m := by obtain ⟨⟨K, -, e, hat, -⟩, -, -⟩ := h; exact ⟨K.L, e, hat.mem⟩
abbrev MemIs (w : World) (p : Nat) (M : Mm) : Prop := ∃ L : ML, L.p = p ∧ MemAt w L M
theorem m_order (h : MemIs w p M) (hs : M.obs.length ≤ 100000) : Calls Tryz.prog 63 #[.pointer (some ⟨p, 0, none⟩)] w fun e w' => OrderP w M.order e w' := by obtain ⟨L, rfl, hm⟩ := h; exact order_any hm hs
theorem m_kind (h : MemIs w p M) (hs : M.obs.length ≤ 100000) (x : Int) : Calls Tryz.prog 38 #[.pointer (some ⟨p, 0, none⟩), .int .i64 x] w fun e w' => SameI w (M.kind x) e w' := by obtain ⟨L, rfl, hm⟩ := h; exact kind_any hm hs x
theorem m_colour (h : MemIs w p M) (hs : M.obs.length ≤ 100000) (x : Int) : Calls Tryz.prog 65 #[.pointer (some ⟨p, 0, none⟩), .int .i64 x] w fun e w' => SameI w (M.col x) e w' := by obtain ⟨L, rfl, hm⟩ := h; exact colour_any hm hs x
theorem m_age (h : MemIs w p M) (hs : M.obs.length ≤ 100000) (x : Int) : Calls Tryz.prog 66 #[.pointer (some ⟨p, 0, none⟩), .int .i64 x] w fun e w' => SameI w (M.age x) e w' := by obtain ⟨L, rfl, hm⟩ := h; exact age_any hm hs x
theorem m_cells (h : MemIs w p M) (hs : Sz M) (x : Int) : Calls Tryz.prog 64 #[.pointer (some ⟨p, 0, none⟩), .int .i64 x] w fun e w' => SameI w (M.cells x) e w' := by obtain ⟨L, rfl, hm⟩ := h; exact cells_any hm hs.n x (at_small hs)
theorem m_thing (h : MemIs w p M) (hs : Sz M) (x : Int) : Calls Tryz.prog 39 #[.pointer (some ⟨p, 0, none⟩), .int .i64 x] w fun e w' => ThingP w (M.get x) e w' := by obtain ⟨L, rfl, hm⟩ := h; exact thing_any hm hs.n x (at_small hs)
theorem m_roots (h : MemIs w p M) (hs : M.roots.length ≤ 100000) : Calls Tryz.prog 53 #[.pointer (some ⟨p, 0, none⟩)] w fun e w' => ValsP w M.roots e w' := by obtain ⟨L, rfl, hm⟩ := h; exact roots_any hm hs

/-! ### the memory is turned, with a collector over it -/
def CP (X : Nat → Prop) (w0 w : World) (cp p : Nat) (c' : Cs) (v : Value) (e : Ending) (w' : World) : Prop := e = .returned v ∧ HasC X w0 w' cp p c' ∧ KX X w0 w w'
theorem c_add (h : HasC X w0 w cp p c) (hs : c.m.obs.length ≤ 100000) {o : Ob} {sv : Value} (hv : RdV w sv o.slots) (hn : o.slots.length ≤ 100000) :
    Calls Tryz.prog 19 #[.pointer (some ⟨p, 0, none⟩), thingV o sv] w fun e w' => CP X w0 w cp p (c.withM (c.m.added o)) (.int .i64 (addH c.m o)) e w' := by
  obtain ⟨⟨K, rfl, rfl, hat, ho⟩, hb, hl⟩ := h
  exact (add_any hat.mem hs hv hn).mono fun e w' ⟨he, hT⟩ => ⟨he, hasC_to ho hb hl (hat.turnM hT)⟩
theorem c_set (h : HasC X w0 w cp p c) (hs : Sz c.m) (x i : Int) (v : V) :
    Calls Tryz.prog 21 #[.pointer (some ⟨p, 0, none⟩), .int .i64 x, .int .i64 i, v.val] w fun e w' => CP X w0 w cp p (c.withM (c.m.set x i v)) (.bool (c.m.canSet x i)) e w' := by
  obtain ⟨⟨K, rfl, rfl, hat, ho⟩, hb, hl⟩ := h
  exact (set_any hat.mem hs.n x i v (at_small hs)).mono fun e w' ⟨he, hm, hk⟩ => ⟨he, hasC_to ho hb hl (hat.turnK hm hk)⟩
theorem c_setFin (h : HasC X w0 w cp p c) (hs : c.m.obs.length ≤ 100000) (x i : Int) :
    Calls Tryz.prog 27 #[.pointer (some ⟨p, 0, none⟩), .int .i64 x, .int .i64 i] w fun e w' => CP X w0 w cp p (c.withM (c.m.setFin x i)) (.tuple #[]) e w' := by
  obtain ⟨⟨K, rfl, rfl, hat, ho⟩, hb, hl⟩ := h
  exact (setFin_any hat.mem hs x i).mono fun e w' ⟨he, hm, hk⟩ => ⟨he, hasC_to ho hb hl (hat.turnK hm hk)⟩
theorem c_setRoots (h : HasC X w0 w cp p c) {v : Value} {l : List V} (hv : RdV w v l) (hs : l.length ≤ 100000) :
    Calls Tryz.prog 23 #[.pointer (some ⟨p, 0, none⟩), v] w fun e w' => CP X w0 w cp p (c.withM { c.m with roots := l }) (.tuple #[]) e w' := by
  obtain ⟨⟨K, rfl, rfl, hat, ho⟩, hb, hl⟩ := h
  exact (setRoots_any hat.mem hv hs).mono fun e w' ⟨he, u, hm, hk, hown⟩ => ⟨he, hasC_to ho hb hl (hat.turnM (show MTo w K.L w' { c.m with roots := l } from ⟨{ K.L with roots := u }, rfl, hm, hk, hown⟩))⟩

/-! ### a collector's calls -/
theorem c_birth (h : HasC X w0 w cp p c) (hs : c.m.obs.length ≤ 100000) (x : Int) : Calls Tryz.prog 60 #[.pointer (some ⟨cp, 0, none⟩), .int .i64 x] w fun e w' => CP X w0 w cp p (birth c x) (.tuple #[]) e w' := by
  obtain ⟨⟨K, rfl, rfl, hat, ho⟩, hb, hl⟩ := h
  exact (birth_any hat hs x).mono fun e w' ⟨he, hT⟩ => ⟨he, hasC_to ho hb hl hT⟩
theorem c_write (h : HasC X w0 w cp p c) (hB : Bd c) (x : Int) (v : V) : Calls Tryz.prog 61 #[.pointer (some ⟨cp, 0, none⟩), .int .i64 x, v.val] w fun e w' => CP X w0 w cp p (write c x v) (.tuple #[]) e w' := by
  obtain ⟨⟨K, rfl, rfl, hat, ho⟩, hb, hl⟩ := h
  exact (write_any hat hB x v).mono fun e w' ⟨he, hT⟩ => ⟨he, hasC_to ho hb hl hT⟩
theorem c_major (h : HasC X w0 w cp p c) (hs : Sz c.m) (hw : W01 c) (hp : c.pending.length ≤ 9000000) : Calls Tryz.prog 37 #[.pointer (some ⟨cp, 0, none⟩)] w fun e w' => CP X w0 w cp p (major c) (.tuple #[]) e w' := by
  obtain ⟨⟨K, rfl, rfl, hat, ho⟩, hb, hl⟩ := h
  exact (major_any hat hs hw hp).mono fun e w' ⟨he, hT⟩ => ⟨he, hasC_to ho hb hl hT⟩
theorem c_setMode (h : HasC X w0 w cp p c) (hs : Sz c.m) (hw : W01 c) (hp : c.pending.length ≤ 9000000) (n : Int) : Calls Tryz.prog 36 #[.pointer (some ⟨cp, 0, none⟩), .int .i64 n] w fun e w' => CP X w0 w cp p (setMode c n) (.tuple #[]) e w' := by
  obtain ⟨⟨K, rfl, rfl, hat, ho⟩, hb, hl⟩ := h
  exact (setMode_any hat hs hw hp n).mono fun e w' ⟨he, hT⟩ => ⟨he, hasC_to ho hb hl hT⟩
theorem c_young (h : HasC X w0 w cp p c) (hs : Sz c.m) (hw : W01 c) (hd : dm c ≤ 9000000) (hp : c.pending.length ≤ 8000000) (hbs : c.base ≤ 1000000000000) : Calls Tryz.prog 58 #[.pointer (some ⟨cp, 0, none⟩)] w fun e w' => CP X w0 w cp p (young c).1 (.bool (young c).2) e w' := by
  obtain ⟨⟨K, rfl, rfl, hat, ho⟩, hb, hl⟩ := h
  exact (youngC_any hat hs hw hd hp hbs).mono fun e w' ⟨he, hT⟩ => ⟨he, hasC_to ho hb hl hT⟩
theorem c_step (h : HasC X w0 w cp p c) (hs : Sz c.m) (hw : W01 c) (k : Int) (hk : k ≤ 100000) (hd : dm c + 2 * k.toNat ≤ 10000000) (hm : 2 * c.m.obs.length + 2 * k.toNat ≤ 10000000) (hp : c.pending.length + k.toNat * c.m.obs.length ≤ 9000000) : Calls Tryz.prog 56 #[.pointer (some ⟨cp, 0, none⟩), .int .i64 k] w fun e w' => CP X w0 w cp p (step c k).1 (.bool (step c k).2) e w' := by
  obtain ⟨⟨K, rfl, rfl, hat, ho⟩, hb, hl⟩ := h
  exact (step_any hat hs hw k hk hd hm hp).mono fun e w' ⟨he, hT⟩ => ⟨he, hasC_to ho hb hl hT⟩
theorem c_take (h : HasC X w0 w cp p c) : Calls Tryz.prog 62 #[.pointer (some ⟨cp, 0, none⟩)] w fun e w' => CP X w0 w cp p (take c).1 (.tuple #[.int .i64 ((take c).2.getD 0), .bool (take c).2.isSome]) e w' := by
  obtain ⟨⟨K, rfl, rfl, hat, ho⟩, hb, hl⟩ := h
  exact (take_any hat).mono fun e w' ⟨he, hT⟩ => ⟨he, hasC_to ho hb hl hT⟩
theorem c_live (h : HasC X w0 w cp p c) (hs : Sz c.m) : Calls Tryz.prog 46 #[.pointer (some ⟨cp, 0, none⟩)] w fun e w' => CP X w0 w cp p c (.int .i64 (live c.m)) e w' := by
  have h' := h
  obtain ⟨⟨K, rfl, rfl, hat, ho⟩, hb, hl⟩ := h
  exact (live_any hat hs).mono fun e w' ⟨he, hT⟩ => ⟨he, h'.next hT, KX.of_below hT⟩

/-! ### made -/
def NewMP (w0 w : World) (m : Option Mm) (e : Ending) (w' : World) : Prop := match m with
  | none => e = .returned (.pointer none) ∧ Below w.heap.size w w'
  | some M => ∃ p, e = .returned (.pointer (some ⟨p, 0, none⟩)) ∧ HasM (fun _ => False) w0 w' p M ∧ Below w.heap.size w w'
theorem newMem_has (hb : Below w0.heap.size w0 w) {tv rv : Value} {ts : List (Ob × Value)} {roots : List V} (hg : GrAt w tv rv ts roots) (hs : ts.length ≤ 100000) (hss : ∀ o sv, (o, sv) ∈ ts → o.slots.length ≤ 100000) (hsr : roots.length ≤ 100000) :
    Calls Tryz.prog 17 #[.agg #[tv, rv]] w fun e w' => NewMP w0 w (newM (ts.map Prod.fst) roots) e w' := by
  refine (newMem_any hg hs hss hsr).mono fun e w' h => ?_
  cases hm : newM (ts.map Prod.fst) roots with
  | none => rw [hm] at h; exact h
  | some M =>
    rw [hm] at h
    obtain ⟨L, rfl, hat, hbl, ho⟩ := h
    exact ⟨L.p, rfl, ⟨⟨L, rfl, hat, fun k hk => ⟨Nat.le_trans hb.size (ho k hk), fun y => y⟩⟩, hb.trans (hbl.mono hb.size), fun k y => y.elim⟩, hbl⟩
theorem newC_has (h : HasM X w0 w p M) : Calls Tryz.prog 42 #[memI p] w fun e w' => ∃ cp, e = .returned (.pointer (some ⟨cp, 0, none⟩)) ∧ HasC X w0 w' cp p (first M) ∧ Below w.heap.size w w' := by
  obtain ⟨⟨L, rfl, hat, ho⟩, hb, hl⟩ := h
  refine (newC_any hat).mono fun e w' ⟨he, hc, hbl⟩ => ⟨w.heap.size, he, ⟨⟨_, rfl, rfl, hc, fun k hk => ?_⟩, hb.trans (hbl.mono hb.size), fun k y => Nat.lt_of_lt_of_le (hl k y) hbl.size⟩, hbl⟩
  rcases hk with e | e | ⟨i, _, e⟩
  · subst e; exact ⟨hb.size, fun y => by have h1 : w.heap.size < w.heap.size := hl _ y; omega⟩
  · exact ho k e
  · cases e
theorem rd_box {W : World} {b : Nat} {xs : List Value} {t : TypeId} (h : Box W b xs t) (n c : Nat) : Rd W (.slice (some ⟨b, 0, none⟩) n c) n xs := by
  refine .inr ⟨_, _, rfl, fun j u hu => ?_⟩
  rw [addr_add, Nat.zero_add]
  exact (h.cell j).trans hu
end Go.Proofs.YtminbemdcanakaaGreat
/- The chapter's example. -/
namespace Go.Proofs.YtminbemdcanakaaGreat
open Go.RowKit
set_option linter.unusedVariables false
set_option linter.unusedSimpArgs false

variable {w : World}
abbrev agg5 (a b c d e : Value) : Value := .agg #[a, b, c, d, e]
set_option maxHeartbeats 1000000 in
theorem table_any (a : Option Addr) (n k : Nat) : Calls Tryz.prog 69 #[.slice a n k] w fun e w' => e = .returned (.agg #[.int .i64 5, .int .i64 0, .int .i64 0, .slice a n k, .int .i64 0]) ∧ Below w.heap.size w w' := by
  have HB := Lib.hid (Box.new w [.int .i64 5, .int .i64 0, .int .i64 0, .slice a n k, .int .i64 0] 36)
  go_enter Tryz.func69, Tryz.ntmps69
  go_wp2_with fail
  refine bodyPost_ret (res_thing rfl _ _ w.heap.size rfl HB.out) rfl ?_
  exact ⟨rfl, below_alloc _ _⟩
set_option maxHeartbeats 1000000 in
theorem to_any (n : Int) : Calls Tryz.prog 70 #[.int .i64 n] w fun e w' => e = .returned (.agg #[.int .i64 5, .int .i64 n]) ∧ Below w.heap.size w w' := by
  have HB := Lib.hid (Box.new w [.int .i64 5, .int .i64 n] 34)
  go_enter Tryz.func70, Tryz.ntmps70
  go_wp2_with fail
  refine bodyPost_ret (res_val rfl _ _ w.heap.size rfl HB.out) rfl ?_
  exact ⟨rfl, below_alloc _ _⟩
theorem intL_at {l : List Int} {j : Nat} {x : Int} (h : l[j]? = some x) : (intL l)[j]? = some (.int .i64 x) := by unfold intL; rw [List.getElem?_map, h]; rfl
set_option maxRecDepth 100000 in
set_option maxHeartbeats 2000000 in
theorem ints_any {u v : Value} {a b : List Int} (ha : Rd w u a.length (intL a)) (hb : Rd w v b.length (intL b)) (hl : a.length ≤ 100000000) : Calls Tryz.prog 40 #[u, v] w fun e w' => e = .returned (.bool (decide (a = b))) ∧ Below w.heap.size w w' := by
  obtain ⟨ua, uc, rfl⟩ := rd_slice ha
  obtain ⟨va, vc, rfl⟩ := rd_slice hb
  obtain ⟨N, hN⟩ : ∃ N, N = a.length := ⟨_, rfl⟩
  obtain ⟨M, hM⟩ : ∃ M, M = b.length := ⟨_, rfl⟩
  rw [← hN] at hl
  have HA := Lib.hid ha
  have HB := Lib.hid hb
  have HN := Lib.hid hN
  have HM := Lib.hid hM
  rw [← hN, ← hM]
  clear ha hb hN hM
  by_cases hNM : N = M
  · subst hNM
    have e0 : ((N : Int) != (N : Int)) = false := by simp
    go_enter Tryz.func40, Tryz.ntmps40
    go_wp2_with fail
    go_loopw [5] (fun t5 wr => ∃ i : Nat, i ≤ N ∧ t5 = .int .i64 i ∧ (∀ j, j < i → a[j]? = b[j]?) ∧ Below w.heap.size w wr) (fun t5 _ => N - (intOf t5).toNat)
    case atStart => exact ⟨0, Nat.zero_le _, by go_num, (by intro j hj; omega), Below.refl _ _⟩
    case round =>
      obtain ⟨i, hi, rfl, hacc, hB⟩ := hrel
      by_cases hlt : i < N
      · obtain ⟨x, hx⟩ : ∃ x, a[i]? = some x := ⟨a[i]'(by rw [← HN.out]; exact hlt), List.getElem?_eq_getElem _⟩
        obtain ⟨y, hy⟩ : ∃ y, b[i]? = some y := ⟨b[i]'(by rw [← HM.out]; exact hlt), List.getElem?_eq_getElem _⟩
        obtain ⟨ad, c2, ha, hc⟩ := rd_at (Rd.below HA.out hB) (by intro e; have := intL_len a; rw [e] at this; simp at this; have := HN.out; omega)
        obtain ⟨ad', c2', ha', hc'⟩ := rd_at (Rd.below HB.out hB) (by intro e; have := intL_len b; rw [e] at this; simp at this; have := HM.out; omega)
        simp only [Value.slice.injEq] at ha ha'
        obtain ⟨rfl, -, rfl⟩ := ha
        obtain ⟨rfl, -, rfl⟩ := ha'
        have d0 := hc _ _ (intL_at hx)
        have d1 := hc' _ _ (intL_at hy)
        have HX := Lib.hid hx
        have HY := Lib.hid hy
        have HACC := Lib.hid hacc
        clear hx hy hc hc' hacc
        by_cases hxy : x = y
        · subst hxy
          have e1 : (x != x) = false := by simp
          have HACC2 := Lib.hid (show ∀ j, j < i + 1 → a[j]? = b[j]? from fun j hj => by
            by_cases hji : j = i
            · subst hji; rw [HX.out, HY.out]
            · exact HACC.out j (by omega))
          go_wp2_with fail
          go_quiet (fail)
          have HB2 := Lib.hid (below_drewN hB nq)
          go_wp2_with fail
          go_roundw
          case rel => exact ⟨i + 1, by omega, by go_num, HACC2.out, HB2.out⟩
          case measure => simp [intOf]; omega
        · have e1 : (x != y) = true := by simp [hxy]
          have HR := Lib.hid (show decide (a = b) = false from decide_eq_false fun e => hxy (by have h1 := HX.out; have h2 := HY.out; rw [e, h2] at h1; injection h1 with h1; exact h1.symm))
          clear hxy
          go_wp2_with fail
          go_quiet (fail)
          have HB2 := Lib.hid (below_drewN hB nq)
          go_wp2_with fail
          go_ret
          exact ⟨by first | (rw [HR.out]; rfl) | rw [HR.out], HB2.out⟩
      · obtain rfl : i = N := by omega
        have HR := Lib.hid (show decide (a = b) = true from decide_eq_true (by
          apply List.ext_getElem?
          intro j
          by_cases hj : j < i
          · exact hacc j hj
          · rw [List.getElem?_eq_none (by have := HN.out; omega), List.getElem?_eq_none (by have := HM.out; omega)]))
        clear hacc
        go_wp2_with fail
        go_ret
        exact ⟨by first | (rw [HR.out]; rfl) | rw [HR.out], hB⟩
  · have e0 : ((N : Int) != (M : Int)) = true := by simp; omega
    have HR := Lib.hid (show decide (a = b) = false from decide_eq_false fun e => hNM (by rw [HN.out, HM.out, e]))
    clear hNM
    go_enter Tryz.func40, Tryz.ntmps40
    go_wp2_with fail
    go_ret
    exact ⟨by first | (rw [HR.out]; rfl) | rw [HR.out], Below.refl _ _⟩
theorem rdV_box {W : World} {b : Nat} {l : List V} {t : TypeId} (h : Box W b (flatV l) t) (c : Nat) : RdV W (.slice (some ⟨b, 0, none⟩) l.length c) l := rd_box h _ _
theorem szEx (c : Cs) (h : (decide (c.m.obs.length ≤ 100) && decide (c.m.roots.length ≤ 100) && c.m.obs.all (fun o => match o with
  | none => true
  | some o => decide (o.slots.length ≤ 100 ∧ 0 ≤ o.array ∧ o.array ≤ 100))) = true) : Sz c.m := by
  rw [Bool.and_eq_true, Bool.and_eq_true] at h
  obtain ⟨⟨h1, h2⟩, h3⟩ := h
  have h1 := of_decide_eq_true h1
  have h2 := of_decide_eq_true h2
  refine ⟨by omega, by omega, fun o ho => ?_⟩
  have := List.all_eq_true.1 h3 _ ho
  have := of_decide_eq_true this
  omega
set_option maxRecDepth 100000 in
set_option maxHeartbeats 8000000 in
theorem alive_any : Calls Tryz.prog 16 #[] w fun e w' => e = .returned (.bool true) ∧ Below w.heap.size w w' := by
  have HBX1 := Lib.hid (show Box (w.alloc (.cells #[.int .i64 0, .int .i64 0, .int .i64 2, .int .i64 1] 34)) w.heap.size (flatV [nilV, ⟨2, 1⟩]) 34 from Box.new _ _ _)
  go_enter Tryz.func16, Tryz.ntmps16
  go_wp2_with fail
  refine (table_any _ _ _).mono ?_
  rintro x1 w1 ⟨rfl, hb1⟩
  have HX1 := Lib.hid (HBX1.out.below hb1 HBX1.out.lt)
  have HB1 := Lib.hid ((below_alloc w (.cells #[.int .i64 0, .int .i64 0, .int .i64 2, .int .i64 1] 34)).trans (hb1.mono (by simp)))
  clear hb1 HBX1
  go_wp2_with fail
  refine (table_any _ _ _).mono ?_
  rintro x2 w2 ⟨rfl, hb2⟩
  have ha2 := below_alloc w1 (.cells #[.int .i64 0, .int .i64 0] 34)
  have hc2 : Below w1.heap.size w1 w2 := ha2.trans (hb2.mono ha2.size)
  have HX1 := Lib.hid (HX1.out.below hc2 HX1.out.lt)
  have HX2 := Lib.hid ((show Box (w1.alloc (.cells #[.int .i64 0, .int .i64 0] 34)) w1.heap.size (flatV [nilV]) 34 from Box.new _ _ _).below hb2 (by simp))
  have HB2 := Lib.hid (HB1.out.trans (hc2.mono HB1.out.size))
  clear hb2 ha2 hc2
  go_wp2_with fail
  refine (to_any _).mono ?_
  rintro x3 w3 ⟨rfl, hb3⟩
  obtain ⟨ts, hts⟩ : ∃ ts : List (Ob × Value), ts = [(⟨5, 0, 0, [nilV, ⟨2, 1⟩], 0, 0, 0⟩, .slice (some ⟨w.heap.size, 0, none⟩) 2 2), (⟨5, 0, 0, [nilV], 0, 0, 0⟩, .slice (some ⟨w1.heap.size, 0, none⟩) 1 1)] := ⟨_, rfl⟩
  have ha3 := below_alloc w2 (.cells (flatT [(⟨5, 0, 0, [nilV, ⟨2, 1⟩], 0, 0, 0⟩, .slice (some ⟨w.heap.size, 0, none⟩) 2 2), (⟨5, 0, 0, [nilV], 0, 0, 0⟩, .slice (some ⟨w1.heap.size, 0, none⟩) 1 1)]).toArray 36)
  have hc3 : Below w2.heap.size w2 w3 := ha3.trans (hb3.mono ha3.size)
  have hbt : Box w3 w2.heap.size (flatT ts) 36 := by rw [hts]; exact (Box.new w2 (flatT [(⟨5, 0, 0, [nilV, ⟨2, 1⟩], 0, 0, 0⟩, .slice (some ⟨w.heap.size, 0, none⟩) 2 2), (⟨5, 0, 0, [nilV], 0, 0, 0⟩, .slice (some ⟨w1.heap.size, 0, none⟩) 1 1)]) 36).below hb3 (by simp)
  have ha4 := below_alloc w3 (.cells #[.int .i64 5, .int .i64 1] 34)
  have hx1 := HX1.out.below (hc3.trans (ha4.mono hc3.size)) HX1.out.lt
  have hx2 := HX2.out.below (hc3.trans (ha4.mono hc3.size)) HX2.out.lt
  have HB4 := Lib.hid (HB2.out.trans ((hc3.trans (ha4.mono hc3.size)).mono HB2.out.size))
  have hg : GrAt (w3.alloc (.cells #[.int .i64 5, .int .i64 1] 34)) (.slice (some ⟨w2.heap.size, 0, none⟩) 2 2) (.slice (some ⟨w3.heap.size, 0, none⟩) 1 1) ts [⟨5, 1⟩] := by
    refine ⟨?_, fun o sv ho => ?_, ?_⟩
    · have := rd_box (hbt.below ha4 hbt.lt) ts.length 2
      rw [hts] at this ⊢
      exact this
    · rw [hts] at ho
      rcases List.mem_cons.1 ho with e | e
      · cases e
        exact rdV_box hx1 2
      · rcases List.mem_cons.1 e with e | e
        · cases e
          exact rdV_box hx2 1
        · cases e
    · exact rdV_box (l := [⟨5, 1⟩]) (show Box (w3.alloc (.cells #[.int .i64 5, .int .i64 1] 34)) w3.heap.size (flatV [⟨5, 1⟩]) 34 from Box.new _ _ _) 1
  have HNM := Lib.hid (newMem_has HB4.out hg (by rw [hts]; simp) (by
    intro o sv ho
    rw [hts] at ho
    rcases List.mem_cons.1 ho with e | e
    · cases e; decide
    · rcases List.mem_cons.1 e with e | e
      · cases e; decide
      · cases e) (by decide))
  have hnm : newM (ts.map Prod.fst) [⟨5, 1⟩] = some exM := by rw [hts]; rfl
  rw [hnm] at HNM
  clear hb3 hg hx1 hx2 hbt ha3 hc3 ha4 hnm hts
  go_wp2_with fail
  refine HNM.out.mono ?_
  rintro x4 w4 ⟨p, rfl, hM, -⟩
  have HMM := Lib.hid (newC_has hM)
  clear hM
  go_wp2_with fail
  refine HMM.out.mono ?_
  rintro x5 w5 ⟨cp, rfl, hC, -⟩
  have HMJ := Lib.hid (c_major hC (szEx _ (by decide)) (.inl rfl) (by decide))
  rw [ex_1] at HMJ
  clear hC
  go_wp2_with fail
  refine HMJ.out.mono ?_
  rintro x6 w6 ⟨rfl, hC, -⟩
  have HOR := Lib.hid (m_order hC.mem (by decide))
  have HC6 := Lib.hid hC
  clear hC
  go_wp2_with fail
  refine HOR.out.mono ?_
  rintro x7 w7 ⟨ov, rfl, hov, hb7⟩
  obtain ⟨oa, oc, rfl⟩ := row_slice hov
  have HC7 := Lib.hid (HC6.out.next hb7)
  have ha8 := below_alloc w7 (.cells #[.int .i64 1] 3)
  have HI := Lib.hid (ints_any (Rd.below (rd_row hov) ha8) (show Rd (w7.alloc (.cells #[.int .i64 1] 3)) (.slice (some ⟨w7.heap.size, 0, none⟩) 1 1) [(1 : Int)].length (intL [1]) from rd_box (Box.new w7 (intL [1]) 3) 1 1) (by decide))
  have HC8 := Lib.hid (HC7.out.next ha8)
  clear hov hb7 ha8
  rw [show decide (ex1.m.order = [1]) = true from by decide] at HI
  go_wp2_with fail
  refine HI.out.mono ?_
  rintro x8 w8 ⟨rfl, hb8⟩
  have hC := HC8.out.next hb8
  clear hb8 HC7 HC8 HI
  have HT9 := Lib.hid (c_setMode hC (szEx _ (by decide)) (.inr rfl) (by decide) 1)
  rw [ex_mode] at HT9
  clear hC
  go_wp2_with fail
  refine HT9.out.mono ?_
  rintro x9 w9 ⟨rfl, hC, -⟩
  have HR10 := Lib.hid (m_age hC.mem (by decide) 1)
  rw [show ex2.m.age 1 = 4 from rfl] at HR10
  have HC10 := Lib.hid hC
  clear hC
  go_wp2_with fail
  refine HR10.out.mono ?_
  rintro xx wx ⟨rfl, hww⟩
  have hww' := hww.symm
  subst hww'
  clear hww
  have hC := HC10.out
  clear HC10 HR10
  have HC10 := Lib.hid hC
  clear hC
  go_wp2_with fail
  refine (table_any _ _ _).mono ?_
  rintro x11 w11 ⟨rfl, hb11⟩
  have hv11 := rdV_box ((show Box (w9.alloc (.cells #[.int .i64 0, .int .i64 0] 34)) w9.heap.size (flatV [nilV]) 34 from Box.new _ _ _).below hb11 (by simp)) 1
  have hC := (HC10.out.next (below_alloc w9 (.cells #[.int .i64 0, .int .i64 0] 34))).next hb11
  have HT12 := Lib.hid (c_add hC (o := ⟨5, 0, 0, [nilV], 0, 0, 0⟩) (by decide) hv11 (by decide))
  rw [show ex2.withM (ex2.m.added ⟨5, 0, 0, [nilV], 0, 0, 0⟩) = ex3 from rfl, show addH ex2.m ⟨5, 0, 0, [nilV], 0, 0, 0⟩ = 3 from rfl] at HT12
  unfold thingV at HT12
  clear hC hb11 hv11 HC10
  go_wp2_with fail
  refine HT12.out.mono ?_
  rintro x12 w12 ⟨rfl, hC, -⟩
  have HT13 := Lib.hid (c_birth hC (by decide) 3)
  rw [ex_birth] at HT13
  clear hC
  go_wp2_with fail
  refine HT13.out.mono ?_
  rintro x13 w13 ⟨rfl, hC, -⟩
  have HC14 := Lib.hid hC
  clear hC
  go_wp2_with fail
  refine (to_any _).mono ?_
  rintro x14 w14 ⟨rfl, hb14⟩
  have hC := HC14.out.next hb14
  have HT15 := Lib.hid (c_set hC (szEx _ (by decide)) 1 1 ⟨5, 3⟩)
  rw [show ex3.withM (ex3.m.set 1 1 ⟨5, 3⟩) = ex4 from rfl, show ex3.m.canSet 1 1 = true from rfl] at HT15
  clear hC hb14 HC14
  go_wp2_with fail
  refine HT15.out.mono ?_
  rintro x15 w15 ⟨rfl, hC, -⟩
  have HC16 := Lib.hid hC
  clear hC
  go_wp2_with fail
  refine (to_any _).mono ?_
  rintro x16 w16 ⟨rfl, hb16⟩
  have hC := HC16.out.next hb16
  have HT17 := Lib.hid (c_write hC ⟨szEx _ (by decide), .inl rfl, by decide, by decide⟩ 1 ⟨5, 3⟩)
  rw [ex_write] at HT17
  clear hC hb16 HC16
  go_wp2_with fail
  refine HT17.out.mono ?_
  rintro x17 w17 ⟨rfl, hC, -⟩
  have HR18 := Lib.hid (m_age hC.mem (by decide) 1)
  rw [show ex5.m.age 1 = 5 from rfl] at HR18
  have HC18 := Lib.hid hC
  clear hC
  go_wp2_with fail
  refine HR18.out.mono ?_
  rintro xx wx ⟨rfl, hww⟩
  have hww' := hww.symm
  subst hww'
  clear hww
  have hC := HC18.out
  clear HC18 HR18
  have HR19 := Lib.hid (m_colour hC.mem (by decide) 1)
  rw [show ex5.m.col 1 = 2 from rfl] at HR19
  have HC19 := Lib.hid hC
  clear hC
  go_wp2_with fail
  refine HR19.out.mono ?_
  rintro xx wx ⟨rfl, hww⟩
  have hww' := hww.symm
  subst hww'
  clear hww
  have hC := HC19.out
  clear HC19 HR19
  have HT20 := Lib.hid (c_young hC (szEx _ (by decide)) (.inl rfl) (by decide) (by decide) (by decide))
  rw [ex_6] at HT20
  clear hC
  go_wp2_with fail
  refine HT20.out.mono ?_
  rintro x20 w20 ⟨rfl, hC, -⟩
  have HR21 := Lib.hid (m_age hC.mem (by decide) 3)
  rw [show ex6.m.age 3 = 1 from rfl] at HR21
  have HC21 := Lib.hid hC
  clear hC
  go_wp2_with fail
  refine HR21.out.mono ?_
  rintro xx wx ⟨rfl, hww⟩
  have hww' := hww.symm
  subst hww'
  clear hww
  have hC := HC21.out
  clear HC21 HR21
  have HR22 := Lib.hid (m_age hC.mem (by decide) 1)
  rw [show ex6.m.age 1 = 6 from rfl] at HR22
  have HC22 := Lib.hid hC
  clear hC
  go_wp2_with fail
  refine HR22.out.mono ?_
  rintro xx wx ⟨rfl, hww⟩
  have hww' := hww.symm
  subst hww'
  clear hww
  have hC := HC22.out
  clear HC22 HR22
  have HT23 := Lib.hid (c_young hC (szEx _ (by decide)) (.inr rfl) (by decide) (by decide) (by decide))
  rw [ex_7] at HT23
  clear hC
  go_wp2_with fail
  refine HT23.out.mono ?_
  rintro x23 w23 ⟨rfl, hC, -⟩
  have HR24 := Lib.hid (m_age hC.mem (by decide) 3)
  rw [show ex7.m.age 3 = 3 from rfl] at HR24
  have HC24 := Lib.hid hC
  clear hC
  go_wp2_with fail
  refine HR24.out.mono ?_
  rintro xx wx ⟨rfl, hww⟩
  have hww' := hww.symm
  subst hww'
  clear hww
  have hC := HC24.out
  clear HC24 HR24
  have HR25 := Lib.hid (m_age hC.mem (by decide) 1)
  rw [show ex7.m.age 1 = 4 from rfl] at HR25
  have HC25 := Lib.hid hC
  clear hC
  go_wp2_with fail
  refine HR25.out.mono ?_
  rintro xx wx ⟨rfl, hww⟩
  have hww' := hww.symm
  subst hww'
  clear hww
  have hC := HC25.out
  clear HC25 HR25
  go_wp2_with fail
  go_ret
  exact ⟨rfl, hC.below⟩
end Go.Proofs.YtminbemdcanakaaGreat
/- The reference's comparisons. -/
namespace Go.Proofs.YtminbemdcanakaaGreat
open Go.RowKit
set_option linter.unusedVariables false
set_option linter.unusedSimpArgs false

variable {w : World}
set_option maxRecDepth 100000 in
set_option maxHeartbeats 2000000 in
theorem values_any {u v : Value} {a b : List V} (ha : RdV w u a) (hb : RdV w v b) (hl : a.length ≤ 100000000) : Calls Tryz.prog 81 #[u, v] w fun e w' => e = .returned (.bool (decide (a = b))) ∧ Below w.heap.size w w' := by
  obtain ⟨ua, uc, rfl⟩ := rd_slice ha
  obtain ⟨va, vc, rfl⟩ := rd_slice hb
  obtain ⟨N, hN⟩ : ∃ N, N = a.length := ⟨_, rfl⟩
  obtain ⟨M, hM⟩ : ∃ M, M = b.length := ⟨_, rfl⟩
  rw [← hN] at hl
  have HA := Lib.hid ha
  have HB := Lib.hid hb
  have HN := Lib.hid hN
  have HM := Lib.hid hM
  rw [← hN, ← hM]
  clear ha hb hN hM
  by_cases hNM : N = M
  · subst hNM
    have e0 : ((N : Int) != (N : Int)) = false := by simp
    go_enter Tryz.func81, Tryz.ntmps81
    go_wp2_with fail
    go_loopw [5] (fun t5 wr => ∃ i : Nat, i ≤ N ∧ t5 = .int .i64 i ∧ (∀ j, j < i → a[j]? = b[j]?) ∧ Below w.heap.size w wr) (fun t5 _ => N - (intOf t5).toNat)
    case atStart => exact ⟨0, Nat.zero_le _, by go_num, (by intro j hj; omega), Below.refl _ _⟩
    case round =>
      obtain ⟨i, hi, rfl, hacc, hB⟩ := hrel
      by_cases hlt : i < N
      · obtain ⟨x, hx⟩ : ∃ x, a[i]? = some x := ⟨a[i]'(by rw [← HN.out]; exact hlt), List.getElem?_eq_getElem _⟩
        obtain ⟨y, hy⟩ : ∃ y, b[i]? = some y := ⟨b[i]'(by rw [← HM.out]; exact hlt), List.getElem?_eq_getElem _⟩
        obtain ⟨ad, c2, ha, hc⟩ := rd_at (Rd.below HA.out hB) (by intro e; have := flatV_len a; rw [e] at this; simp at this; have := HN.out; omega)
        obtain ⟨ad', c2', ha', hc'⟩ := rd_at (Rd.below HB.out hB) (by intro e; have := flatV_len b; rw [e] at this; simp at this; have := HM.out; omega)
        simp only [Value.slice.injEq] at ha ha'
        obtain ⟨rfl, -, rfl⟩ := ha
        obtain ⟨rfl, -, rfl⟩ := ha'
        obtain ⟨f0, f1⟩ := flatV_at _ _ _ hx
        obtain ⟨g0, g1⟩ := flatV_at _ _ _ hy
        have d0 := hc _ _ f0
        have d1 := cell_more (hc _ _ f1)
        have z0 := hc' _ _ g0
        have z1 := cell_more (hc' _ _ g1)
        simp only [Nat.zero_add] at d1 z1
        have HX := Lib.hid hx
        have HY := Lib.hid hy
        have HACC := Lib.hid hacc
        clear hx hy hc hc' hacc f0 f1 g0 g1
        obtain ⟨xt, xn⟩ := x
        obtain ⟨yt, yn⟩ := y
        simp only at d0 d1 z0 z1
        by_cases hxy : (⟨xt, xn⟩ : V) = ⟨yt, yn⟩
        · injection hxy with h1 h2
          subst h1
          subst h2
          have HACC2 := Lib.hid (show ∀ j, j < i + 1 → a[j]? = b[j]? from fun j hj => by
            by_cases hji : j = i
            · subst hji; rw [HX.out, HY.out]
            · exact HACC.out j (by omega))
          go_wp2_with fail
          go_quiet (fail)
          have HB2 := Lib.hid (below_drewN hB nq)
          go_wp2_with fail
          go_roundw
          case rel => exact ⟨i + 1, by omega, by go_num, HACC2.out, HB2.out⟩
          case measure => simp [intOf]; omega
        · have HR := Lib.hid (show decide (a = b) = false from decide_eq_false fun e => hxy (by have h1 := HX.out; have h2 := HY.out; rw [e, h2] at h1; injection h1 with h1; exact h1.symm))
          by_cases h1 : xt = yt
          · have h2 : ¬ xn = yn := fun e => hxy (by rw [h1, e])
            subst h1
            clear hxy
            go_wp2_with fail
            go_quiet (fail)
            have HB2 := Lib.hid (below_drewN hB nq)
            go_wp2_with fail
            go_ret
            exact ⟨by first | (rw [HR.out]; rfl) | rw [HR.out], HB2.out⟩
          · clear hxy
            go_wp2_with fail
            go_quiet (fail)
            have HB2 := Lib.hid (below_drewN hB nq)
            go_wp2_with fail
            go_ret
            exact ⟨by first | (rw [HR.out]; rfl) | rw [HR.out], HB2.out⟩
      · obtain rfl : i = N := by omega
        have HR := Lib.hid (show decide (a = b) = true from decide_eq_true (by
          apply List.ext_getElem?
          intro j
          by_cases hj : j < i
          · exact hacc j hj
          · rw [List.getElem?_eq_none (by have := HN.out; omega), List.getElem?_eq_none (by have := HM.out; omega)]))
        clear hacc
        go_wp2_with fail
        go_ret
        exact ⟨by first | (rw [HR.out]; rfl) | rw [HR.out], hB⟩
  · have e0 : ((N : Int) != (M : Int)) = true := by simp; omega
    have HR := Lib.hid (show decide (a = b) = false from decide_eq_false fun e => hNM (by rw [HN.out, HM.out, e]))
    clear hNM
    go_enter Tryz.func81, Tryz.ntmps81
    go_wp2_with fail
    go_ret
    exact ⟨by first | (rw [HR.out]; rfl) | rw [HR.out], Below.refl _ _⟩
/-- The same, but for colours and ages. -/
def likeO (a b : Ob) : Bool := decide (a.kind = b.kind) && decide (a.weak = b.weak) && decide (a.array = b.array) && decide (a.fin = b.fin) && decide (a.slots = b.slots)
theorem likeO_refl (a : Ob) : likeO a a = true := by unfold likeO; simp
set_option maxRecDepth 100000 in
set_option maxHeartbeats 2000000 in
theorem alike_any {u v : Value} {a b : Ob} (ha : RdV w u a.slots) (hb : RdV w v b.slots) (hl : a.slots.length ≤ 100000000) : Calls Tryz.prog 67 #[thingV a u, thingV b v] w fun e w' => e = .returned (.bool (likeO a b)) ∧ Below w.heap.size w w' := by
  obtain ⟨ua, uc, rfl⟩ := rd_slice ha
  obtain ⟨va, vc, rfl⟩ := rd_slice hb
  have hB : Below w.heap.size w ((w.alloc (.cells #[.int .i64 a.kind, .int .i64 a.weak, .int .i64 a.array, .slice ua a.slots.length uc, .int .i64 a.fin] 36)).alloc (.cells #[.int .i64 b.kind, .int .i64 b.weak, .int .i64 b.array, .slice va b.slots.length vc, .int .i64 b.fin] 36)) := (below_alloc _ _).alloc (by simp) _
  have HV := Lib.hid (values_any (Rd.below ha hB) (Rd.below hb hB) hl)
  have HB := Lib.hid hB
  clear hB ha hb hl
  unfold thingV
  by_cases k1 : a.kind = b.kind
  · have e1 : (a.kind == b.kind) = true := by simp [k1]
    by_cases k2 : a.weak = b.weak
    · have e2 : (a.weak == b.weak) = true := by simp [k2]
      by_cases k3 : a.array = b.array
      · have e3 : (a.array == b.array) = true := by simp [k3]
        by_cases k4 : a.fin = b.fin
        · have e4 : (a.fin == b.fin) = true := by simp [k4]
          have HR := Lib.hid (show likeO a b = decide (a.slots = b.slots) by unfold likeO; simp [*])
          clear k1 k2 k3 k4
          go_enter Tryz.func67, Tryz.ntmps67
          go_wp2_with fail
          refine HV.out.mono ?_
          rintro x5 w5 ⟨rfl, hb5⟩
          have HB5 := Lib.hid (HB.out.trans (hb5.mono HB.out.size))
          clear hb5
          go_wp2_with fail
          go_ret
          exact ⟨by first | (rw [HR.out]; rfl) | rw [HR.out], HB5.out⟩
        · have e4 : (a.fin == b.fin) = false := by simp [k4]
          have HR := Lib.hid (show likeO a b = false by unfold likeO; simp [*])
          clear k1 k2 k3 k4
          go_enter Tryz.func67, Tryz.ntmps67
          go_wp2_with fail
          go_ret
          exact ⟨by first | (rw [HR.out]; rfl) | rw [HR.out], HB.out⟩
      · have e3 : (a.array == b.array) = false := by simp [k3]
        have HR := Lib.hid (show likeO a b = false by unfold likeO; simp [*])
        clear k1 k2 k3
        go_enter Tryz.func67, Tryz.ntmps67
        go_wp2_with fail
        go_ret
        exact ⟨by first | (rw [HR.out]; rfl) | rw [HR.out], HB.out⟩
    · have e2 : (a.weak == b.weak) = false := by simp [k2]
      have HR := Lib.hid (show likeO a b = false by unfold likeO; simp [*])
      clear k1 k2
      go_enter Tryz.func67, Tryz.ntmps67
      go_wp2_with fail
      go_ret
      exact ⟨by first | (rw [HR.out]; rfl) | rw [HR.out], HB.out⟩
  · have e1 : (a.kind == b.kind) = false := by simp [k1]
    have HR := Lib.hid (show likeO a b = false by unfold likeO; simp [*])
    clear k1
    go_enter Tryz.func67, Tryz.ntmps67
    go_wp2_with fail
    go_ret
    exact ⟨by first | (rw [HR.out]; rfl) | rw [HR.out], HB.out⟩
/-! ### views -/
theorem ints_same {u v : Value} {a : List Int} (ha : Rd w u a.length (intL a)) (hb : Rd w v a.length (intL a)) (hl : a.length ≤ 100000000) : Calls Tryz.prog 40 #[u, v] w fun e w' => e = .returned (.bool true) ∧ Below w.heap.size w w' :=
  (ints_any ha hb hl).mono fun e w' h => by rw [decide_eq_true rfl] at h; exact h
/-- One that is seen: its handle, the object, where its slots lie. -/
abbrev Sn : Type := Int × Ob × Value
def snL (x : Sn) : List Value := [.int .i64 x.1, .int .i64 x.2.1.kind, .int .i64 x.2.1.weak, .int .i64 x.2.1.array, x.2.2, .int .i64 x.2.1.fin, .int .i64 x.2.1.col, .int .i64 x.2.1.age]
def flatS (l : List Sn) : List Value := l.flatMap snL
theorem flatS_len (l : List Sn) : (flatS l).length = l.length * 8 := by
  induction l with
  | nil => rfl
  | cons x l ih => unfold flatS at *; rw [List.flatMap_cons, List.length_append, ih, List.length_cons]; simp [snL]; omega
theorem flatS_at : ∀ (l : List Sn) (j : Nat) (x : Sn), l[j]? = some x → ∀ k, k < 8 → (flatS l)[j * 8 + k]? = (snL x)[k]? := by
  intro l
  induction l with
  | nil => intro j x h; simp at h
  | cons y l ih =>
    intro j x h k hk
    unfold flatS
    rw [List.flatMap_cons]
    cases j with
    | zero =>
      simp only [List.getElem?_cons_zero, Option.some.injEq] at h
      subst h
      rw [Nat.zero_mul, Nat.zero_add, List.getElem?_append_left (by simp [snL]; omega)]
    | succ j =>
      rw [List.getElem?_cons_succ] at h
      rw [List.getElem?_append_right (by simp [snL]; omega), show (j + 1) * 8 + k - (snL y).length = j * 8 + k by simp [snL]; omega]
      exact ih j x h k hk
structure VwAt (w : World) (sv gv av pv : Value) (l : List Sn) (grey again pending : List Int) : Prop where
  seen : Rd w sv l.length (flatS l)
  slots : ∀ x, x ∈ l → RdV w x.2.2 x.2.1.slots
  grey : Rd w gv grey.length (intL grey)
  again : Rd w av again.length (intL again)
  pending : Rd w pv pending.length (intL pending)
theorem VwAt.below {w w' : World} {sv gv av pv : Value} {l : List Sn} {g a p : List Int} (h : VwAt w sv gv av pv l g a p) (hb : Below w.heap.size w w') : VwAt w' sv gv av pv l g a p :=
  ⟨Rd.below h.seen hb, fun x hx => Rd.below (h.slots x hx) hb, Rd.below h.grey hb, Rd.below h.again hb, Rd.below h.pending hb⟩
theorem seen_cells {w : World} {ad : Addr} {l : List Sn} {j : Nat} {x : Sn} (hc : ∀ k u, (flatS l)[k]? = some u → w.cell? (ad.add k) = some u) (hx : l[j]? = some x) :
    w.cell? (ad.add (j * 8)) = some (.int .i64 x.1) ∧ w.cell? ⟨(ad.add (j * 8)).block, (ad.add (j * 8)).off + 1, none⟩ = some (.int .i64 x.2.1.kind) ∧ w.cell? ⟨(ad.add (j * 8)).block, (ad.add (j * 8)).off + 2, none⟩ = some (.int .i64 x.2.1.weak) ∧ w.cell? ⟨(ad.add (j * 8)).block, (ad.add (j * 8)).off + 3, none⟩ = some (.int .i64 x.2.1.array) ∧
    w.cell? ⟨(ad.add (j * 8)).block, (ad.add (j * 8)).off + 4, none⟩ = some x.2.2 ∧ w.cell? ⟨(ad.add (j * 8)).block, (ad.add (j * 8)).off + 5, none⟩ = some (.int .i64 x.2.1.fin) ∧ w.cell? ⟨(ad.add (j * 8)).block, (ad.add (j * 8)).off + 6, none⟩ = some (.int .i64 x.2.1.col) ∧ w.cell? ⟨(ad.add (j * 8)).block, (ad.add (j * 8)).off + 7, none⟩ = some (.int .i64 x.2.1.age) := by
  have f := fun k (hk : k < 8) u (hu : (snL x)[k]? = some u) => hc (j * 8 + k) u ((flatS_at l j x hx k hk).trans hu)
  exact ⟨f 0 (by decide) _ rfl, cell_more (k := 0) (f 1 (by decide) _ rfl), cell_more (k := 1) (f 2 (by decide) _ rfl), cell_more (k := 2) (f 3 (by decide) _ rfl), cell_more (k := 3) (f 4 (by decide) _ rfl), cell_more (k := 4) (f 5 (by decide) _ rfl), cell_more (k := 5) (f 6 (by decide) _ rfl), cell_more (k := 6) (f 7 (by decide) _ rfl)⟩
abbrev vwV (mode phase white : Int) (sv gv av pv : Value) : Value := .agg #[.int .i64 mode, .int .i64 phase, .int .i64 white, sv, gv, av, pv]
set_option maxRecDepth 100000 in
set_option maxHeartbeats 4000000 in
theorem same_any {mode phase white : Int} {sv gv av pv sv' gv' av' pv' : Value} {l l' : List Sn} {g a p : List Int} (h : VwAt w sv gv av pv l g a p) (h' : VwAt w sv' gv' av' pv' l' g a p) (hll : l.map (fun x => (x.1, x.2.1)) = l'.map (fun x => (x.1, x.2.1)))
    (hl : l.length ≤ 1000000) (hg : g.length ≤ 100000000) (ha : a.length ≤ 100000000) (hp : p.length ≤ 100000000) (hss : ∀ x, x ∈ l → x.2.1.slots.length ≤ 1000000) :
    Calls Tryz.prog 44 #[vwV mode phase white sv gv av pv, vwV mode phase white sv' gv' av' pv'] w fun e w' => e = .returned (.bool true) ∧ Below w.heap.size w w' := by
  have hln : l'.length = l.length := by have := congrArg List.length hll; simp at this; exact this.symm
  obtain ⟨sa, sc, rfl⟩ := rd_slice h.seen
  obtain ⟨sa', sc', rfl⟩ := rd_slice h'.seen
  obtain ⟨ga, gc, rfl⟩ := rd_slice h.grey
  obtain ⟨ga', gc', rfl⟩ := rd_slice h'.grey
  obtain ⟨aa, ac, rfl⟩ := rd_slice h.again
  obtain ⟨aa', ac', rfl⟩ := rd_slice h'.again
  obtain ⟨pa, pc, rfl⟩ := rd_slice h.pending
  obtain ⟨pa', pc', rfl⟩ := rd_slice h'.pending
  obtain ⟨N, hN⟩ : ∃ N, N = l.length := ⟨_, rfl⟩
  rw [← hN] at hl
  have hnl : l'.length = N := hln.trans hN.symm
  obtain ⟨w1, hw1⟩ : ∃ w1, w1 = (w.alloc (.cells #[.int .i64 mode, .int .i64 phase, .int .i64 white, .slice sa N sc, .slice ga g.length gc, .slice aa a.length ac, .slice pa p.length pc] 69)).alloc (.cells #[.int .i64 mode, .int .i64 phase, .int .i64 white, .slice sa' N sc', .slice ga' g.length gc', .slice aa' a.length ac', .slice pa' p.length pc'] 69) := ⟨_, rfl⟩
  have hB : Below w.heap.size w w1 := by rw [hw1]; exact (below_alloc _ _).alloc (by simp) _
  have hs1 : w1.heap.size = w.heap.size + 2 := by rw [hw1]; simp
  have hxA : Box w1 w.heap.size [.int .i64 mode, .int .i64 phase, .int .i64 white, .slice sa N sc, .slice ga g.length gc, .slice aa a.length ac, .slice pa p.length pc] 69 := by rw [hw1]; exact (Box.new w _ _).alloc _
  have hxB : Box w1 (w.heap.size + 1) [.int .i64 mode, .int .i64 phase, .int .i64 white, .slice sa' N sc', .slice ga' g.length gc', .slice aa' a.length ac', .slice pa' p.length pc'] 69 := by
    rw [hw1]
    have := Box.new (w.alloc (.cells #[.int .i64 mode, .int .i64 phase, .int .i64 white, .slice sa N sc, .slice ga g.length gc, .slice aa a.length ac, .slice pa p.length pc] 69)) [.int .i64 mode, .int .i64 phase, .int .i64 white, .slice sa' N sc', .slice ga' g.length gc', .slice aa' a.length ac', .slice pa' p.length pc'] 69
    rw [show (w.alloc (.cells #[.int .i64 mode, .int .i64 phase, .int .i64 white, .slice sa N sc, .slice ga g.length gc, .slice aa a.length ac, .slice pa p.length pc] 69)).heap.size = w.heap.size + 1 by simp] at this
    exact this
  have HV := Lib.hid (h.below hB)
  have HV' := Lib.hid (h'.below hB)
  have HB := Lib.hid hB
  have HSZ := Lib.hid hs1
  have HXA := Lib.hid hxA
  have HXB := Lib.hid hxB
  have HN := Lib.hid hN
  have HNL := Lib.hid hnl
  have HLL := Lib.hid hll
  have HSS := Lib.hid hss
  have HLG := Lib.hid hg
  have HLA := Lib.hid ha
  have HLP := Lib.hid hp
  have m1 : (mode != mode) = false := by simp
  have m2 : (phase != phase) = false := by simp
  have m3 : (white != white) = false := by simp
  have m4 : ((N : Int) != (N : Int)) = false := by simp
  have HIG := Lib.hid (ints_same (HV.out.grey) (HV'.out.grey) hg)
  rw [← hN, hln, ← hN]
  clear h h' hB hs1 hxA hxB hN hnl hln hll hss hg ha hp
  go_enter Tryz.func44, Tryz.ntmps44
  go_wp2_with fail
  rw [← hw1]
  clear hw1
  refine HIG.out.mono ?_
  rintro x2 w2 ⟨rfl, hb2⟩
  have hxA := HXA.out.below hb2 HXA.out.lt
  have hxB := HXB.out.below hb2 HXB.out.lt
  have p5 := hxA.cell 5
  have q5 := hxB.cell 5
  simp only [List.getElem?_cons_zero, List.getElem?_cons_succ] at p5 q5
  have HIA := Lib.hid (ints_same (HV.out.below hb2).again (HV'.out.below hb2).again HLA.out)
  have HB2 := Lib.hid hb2
  clear hb2
  go_wp2_with fail
  refine HIA.out.mono ?_
  rintro x3 w3 ⟨rfl, hb3⟩
  clear hxA hxB p5 q5
  have hb3 := HB2.out.trans (hb3.mono HB2.out.size)
  have hxA := HXA.out.below hb3 HXA.out.lt
  have hxB := HXB.out.below hb3 HXB.out.lt
  have p6 := hxA.cell 6
  have q6 := hxB.cell 6
  simp only [List.getElem?_cons_zero, List.getElem?_cons_succ] at p6 q6
  have HIP := Lib.hid (ints_same (HV.out.below hb3).pending (HV'.out.below hb3).pending HLP.out)
  have HB3 := Lib.hid hb3
  clear hb3
  go_wp2_with fail
  refine HIP.out.mono ?_
  rintro x4 w4 ⟨rfl, hb4⟩
  clear hxA hxB p6 q6
  have hb4 := HB3.out.trans (hb4.mono HB3.out.size)
  have HB4 := Lib.hid hb4
  clear hb4
  go_wp2_with fail
  go_loopw [5] (fun t5 wr => ∃ i : Nat, i ≤ N ∧ t5 = .int .i64 i ∧ Below w1.heap.size w1 wr) (fun t5 _ => N - (intOf t5).toNat)
  case atStart => exact ⟨0, Nat.zero_le _, by go_num, HB4.out⟩
  case round =>
    obtain ⟨i, hi, rfl, hR⟩ := hrel
    have hxA := HXA.out.below hR HXA.out.lt
    have hxB := HXB.out.below hR HXB.out.lt
    have p3 := hxA.cell 3
    have q3 := hxB.cell 3
    simp only [List.getElem?_cons_zero, List.getElem?_cons_succ] at p3 q3
    clear hxA hxB
    by_cases hlt : i < N
    · obtain ⟨x, hx⟩ : ∃ x, l[i]? = some x := ⟨l[i]'(by rw [← HN.out]; exact hlt), List.getElem?_eq_getElem _⟩
      obtain ⟨y, hy⟩ : ∃ y, l'[i]? = some y := ⟨l'[i]'(by rw [HNL.out]; exact hlt), List.getElem?_eq_getElem _⟩
      have hxy : (x.1, x.2.1) = (y.1, y.2.1) := by
        have := congrArg (fun l => l[i]?) HLL.out
        simp only [List.getElem?_map, hx, hy, Option.map_some, Option.some.injEq] at this
        exact this
      obtain ⟨xh, xo, xs⟩ := x
      obtain ⟨yh, yo, ys⟩ := y
      simp only [Prod.mk.injEq] at hxy
      obtain ⟨rfl, rfl⟩ := hxy
      obtain ⟨ad, c2, ha, hc⟩ := rd_at (Rd.below HV.out.seen hR) (by intro e; have := flatS_len l; rw [e] at this; simp at this; have := HN.out; omega)
      obtain ⟨ad', c2', ha', hc'⟩ := rd_at (Rd.below HV'.out.seen hR) (by intro e; have := flatS_len l'; rw [e] at this; simp at this; have := HNL.out; omega)
      simp only [Value.slice.injEq] at ha ha'
      obtain ⟨rfl, -, rfl⟩ := ha
      obtain ⟨rfl, -, rfl⟩ := ha'
      obtain ⟨d0, d1, d2, d3, d4, d5, d6, d7⟩ := seen_cells hc hx
      obtain ⟨z0, z1, z2, z3, z4, z5, z6, z7⟩ := seen_cells hc' hy
      have hmx := List.mem_of_getElem? hx
      have hmy := List.mem_of_getElem? hy
      have hsx := Rd.below (HV.out.slots _ hmx) hR
      have hsy := Rd.below (HV'.out.slots _ hmy) hR
      have hsz := HSS.out _ hmx
      simp only at d0 d1 d2 d3 d4 d5 d6 d7 z0 z1 z2 z3 z4 z5 z6 z7 hsx hsy hsz
      obtain ⟨xa, xc, rfl⟩ := rd_slice hsx
      obtain ⟨ya, yc, rfl⟩ := rd_slice hsy
      clear hc hc' hx hy hmx hmy
      have hA := below_alloc wr (.cells #[.int .i64 xh, .int .i64 xo.kind, .int .i64 xo.weak, .int .i64 xo.array, .slice xa xo.slots.length xc, .int .i64 xo.fin, .int .i64 xo.col, .int .i64 xo.age] 96)
      have hAB : Below wr.heap.size wr ((wr.alloc (.cells #[.int .i64 xh, .int .i64 xo.kind, .int .i64 xo.weak, .int .i64 xo.array, .slice xa xo.slots.length xc, .int .i64 xo.fin, .int .i64 xo.col, .int .i64 xo.age] 96)).alloc (.cells #[.int .i64 xh, .int .i64 xo.kind, .int .i64 xo.weak, .int .i64 xo.array, .slice ya xo.slots.length yc, .int .i64 xo.fin, .int .i64 xo.col, .int .i64 xo.age] 96)) := hA.alloc hA.size _
      have HAL := Lib.hid (alike_any (Rd.below hsx hAB) (Rd.below hsy hAB) (by omega))
      have HR5 := Lib.hid (hR.trans (hAB.mono hR.size))
      rw [likeO_refl] at HAL
      unfold thingV at HAL
      have y0 := Lib.cell?_alloc_some (.cells #[.int .i64 xh, .int .i64 xo.kind, .int .i64 xo.weak, .int .i64 xo.array, .slice xa xo.slots.length xc, .int .i64 xo.fin, .int .i64 xo.col, .int .i64 xo.age] 96) z0
      have y1 := Lib.cell?_alloc_some (.cells #[.int .i64 xh, .int .i64 xo.kind, .int .i64 xo.weak, .int .i64 xo.array, .slice xa xo.slots.length xc, .int .i64 xo.fin, .int .i64 xo.col, .int .i64 xo.age] 96) z1
      have y2 := Lib.cell?_alloc_some (.cells #[.int .i64 xh, .int .i64 xo.kind, .int .i64 xo.weak, .int .i64 xo.array, .slice xa xo.slots.length xc, .int .i64 xo.fin, .int .i64 xo.col, .int .i64 xo.age] 96) z2
      have y3 := Lib.cell?_alloc_some (.cells #[.int .i64 xh, .int .i64 xo.kind, .int .i64 xo.weak, .int .i64 xo.array, .slice xa xo.slots.length xc, .int .i64 xo.fin, .int .i64 xo.col, .int .i64 xo.age] 96) z3
      have y4 := Lib.cell?_alloc_some (.cells #[.int .i64 xh, .int .i64 xo.kind, .int .i64 xo.weak, .int .i64 xo.array, .slice xa xo.slots.length xc, .int .i64 xo.fin, .int .i64 xo.col, .int .i64 xo.age] 96) z4
      have y5 := Lib.cell?_alloc_some (.cells #[.int .i64 xh, .int .i64 xo.kind, .int .i64 xo.weak, .int .i64 xo.array, .slice xa xo.slots.length xc, .int .i64 xo.fin, .int .i64 xo.col, .int .i64 xo.age] 96) z5
      have y6 := Lib.cell?_alloc_some (.cells #[.int .i64 xh, .int .i64 xo.kind, .int .i64 xo.weak, .int .i64 xo.array, .slice xa xo.slots.length xc, .int .i64 xo.fin, .int .i64 xo.col, .int .i64 xo.age] 96) z6
      have y7 := Lib.cell?_alloc_some (.cells #[.int .i64 xh, .int .i64 xo.kind, .int .i64 xo.weak, .int .i64 xo.array, .slice xa xo.slots.length xc, .int .i64 xo.fin, .int .i64 xo.col, .int .i64 xo.age] 96) z7
      have y8 := Lib.cell?_alloc_some (.cells #[.int .i64 xh, .int .i64 xo.kind, .int .i64 xo.weak, .int .i64 xo.array, .slice xa xo.slots.length xc, .int .i64 xo.fin, .int .i64 xo.col, .int .i64 xo.age] 96) q3
      have n1 : (xh != xh) = false := by simp
      have n2 : (xo.col != xo.col) = false := by simp
      have n3 : (xo.age != xo.age) = false := by simp
      clear hsx hsy hsz hA hAB z0 z1 z2 z3 z4 z5 z6 z7 hR
      go_wp2_with fail
      refine HAL.out.mono ?_
      rintro x6 w6 ⟨rfl, hb6⟩
      have HR6 := Lib.hid (HR5.out.trans (hb6.mono HR5.out.size))
      clear hb6
      go_wp2_with fail
      go_roundw
      case rel => exact ⟨i + 1, by omega, by go_num, HR6.out⟩
      case measure => simp [intOf]; omega
    · obtain rfl : i = N := by omega
      have HBE := Lib.hid (HB.out.trans (hR.mono HB.out.size))
      go_wp2_with fail
      go_ret
      exact ⟨rfl, HBE.out⟩
end Go.Proofs.YtminbemdcanakaaGreat
/- A law's values, opened. -/
namespace Go.Proofs.YtminbemdcanakaaGreat
open Go.ChangeShapes Go.WideShapes Go.ChangeAt Go.RowKit Go.Deep
set_option linter.unusedVariables false
set_option linter.unusedSimpArgs false

theorem Tryz.laidOut : laidOutB Tryz.prog = true := by kernel_rfl
def V.cells (v : V) : List Value := [.int .i64 v.t, .int .i64 v.n]
noncomputable def valFs : Array Field := match Tryz.prog.underlying 34 with | some (.struct fs) => fs | _ => #[]
theorem valFs_eq : Tryz.prog.underlying 34 = some (.struct valFs) := by kernel_rfl
theorem valFs_all : valFs.toList.map (fun f => (f.type, f.offset)) = [(3, 0), (2, 1)] := by kernel_rfl
theorem cells_val : Tryz.prog.cellsOf 34 = 2 := by kernel_rfl
theorem cells_int : Tryz.prog.cellsOf 3 = 1 := by kernel_rfl
theorem cells_int64 : Tryz.prog.cellsOf 2 = 1 := by kernel_rfl

theorem field_at {fs : Array Field} {l : List (TypeId × Nat)} (h : fs.toList.map (fun f => (f.type, f.offset)) = l) {j : Nat} {t : TypeId} {o : Nat} (hj : l[j]? = some (t, o)) : ∃ f, fs[j]? = some f ∧ f.type = t ∧ f.offset = o := by
  rw [← h, List.getElem?_map, Array.getElem?_toList, Option.map_eq_some_iff] at hj
  obtain ⟨f, hf, e⟩ := hj
  simp only [Prod.mk.injEq] at e
  exact ⟨f, hf, e.1, e.2⟩
theorem fields_size {fs : Array Field} {l : List (TypeId × Nat)} (h : fs.toList.map (fun f => (f.type, f.offset)) = l) : fs.size = l.length := by rw [← h]; simp

variable {H : Type} {enc : TypeId × Value → H} {W : World} {spare : Nat → Bool}

theorem trod_i64 {t : TypeId} (ht : Tryz.prog.underlying t = some (.int .i64)) {fuel : Nat} {v : Value} {x : DataW H × List MemPlace} (h : DataW.trod enc Tryz.prog W 0 spare true fuel t [v] = some x) : ∃ n, v = .int .i64 n := by
  obtain ⟨n, hv, _⟩ := DataW.trod_int ht h
  exact ⟨n, by simpa using hv⟩

theorem len2 {l : List Value} (h : l.length = 2) : ∃ a b, l = [a, b] := by
  cases l with
  | nil => cases h
  | cons a l => cases l with
    | nil => cases h
    | cons b l => cases l with
      | nil => exact ⟨a, b, rfl⟩
      | cons c l => simp at h
theorem open_val {fuel : Nat} {cs : List Value} {x : DataW H × List MemPlace} (h : DataW.trod enc Tryz.prog W 0 spare true fuel 34 cs = some x) : ∃ u : V, cs = u.cells := by
  obtain ⟨ys, n', hn', hy, hlen, hyl, hf⟩ := DataW.trod_struct valFs_eq h
  rw [cells_val] at hlen
  rw [fields_size valFs_all] at hyl
  obtain ⟨a, b, rfl⟩ := len2 hlen
  · skip
    obtain ⟨f0, e0, t0, o0⟩ := field_at valFs_all (j := 0) rfl
    obtain ⟨f1, e1, t1, o1⟩ := field_at valFs_all (j := 1) rfl
    have h0 := hf 0 f0 e0
    have h1 := hf 1 f1 e1
    rw [t0, o0, cells_int] at h0
    rw [t1, o1, cells_int64] at h1
    simp only [List.length_cons, List.length_nil] at hyl
    have g0 : ys[0]? = some (ys[0]'(by omega)) := List.getElem?_eq_getElem (by omega)
    have g1 : ys[1]? = some (ys[1]'(by omega)) := List.getElem?_eq_getElem (by omega)
    obtain ⟨x0, rfl⟩ := trod_i64 Tryz.underlying3 (h0.trans g0)
    obtain ⟨x1, rfl⟩ := trod_i64 Tryz.underlying2 (h1.trans g1)
    exact ⟨⟨x0, x1⟩, rfl⟩

end Go.Proofs.YtminbemdcanakaaGreat
