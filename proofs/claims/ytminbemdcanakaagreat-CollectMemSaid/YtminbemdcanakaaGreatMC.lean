/- What a call leaves alone; small facts on worlds, boxes, rows. -/
import Derived.Test.YtminbemdcanakaaGreatProg
import Derived.Test.YtminbemdcanakaaGreatMA
import Derived.Test.YtminbemdcanakaaGreatMB
import Derived.Deep.RegionHeld3
import Derived.Deep.DeepCutAuto
import Derived.Deep.CutBlock
import Derived.BigQuiet
import Derived.Deep.QuietTactic
import Derived.IntWalk
import Derived.Lib.SliceRun
namespace Go.Proofs.YtminbemdcanakaaGreat
open Go.RowKit
set_option linter.unusedVariables false
set_option linter.unusedSimpArgs false

/-- Nothing that lies outside B has turned; new blocks may have come. -/
structure Keep (B : Nat → Prop) (w w' : World) : Prop where
  os : w'.os = w.os
  tape : w'.tape = w.tape
  output : w'.output = w.output
  size : w.heap.size ≤ w'.heap.size
  block : ∀ k, k < w.heap.size → ¬ B k → w'.heap[k]? = w.heap[k]?
theorem Keep.refl (B : Nat → Prop) (w : World) : Keep B w w := ⟨rfl, rfl, rfl, Nat.le_refl _, fun _ _ _ => rfl⟩
theorem Keep.mono {B C : Nat → Prop} {w w' : World} (h : Keep B w w') (hbc : ∀ k, k < w.heap.size → B k → C k) : Keep C w w' :=
  ⟨h.os, h.tape, h.output, h.size, fun k hk hc => h.block k hk fun hb => hc (hbc k hk hb)⟩
theorem Keep.trans' {B C : Nat → Prop} {a b c : World} (h : Keep B a b) (k : Keep C b c) (hc : ∀ i, i < a.heap.size → C i → B i) : Keep B a c :=
  ⟨k.os.trans h.os, k.tape.trans h.tape, k.output.trans h.output, Nat.le_trans h.size k.size, fun i hi hb => (k.block i (Nat.lt_of_lt_of_le hi h.size) (fun hci => hb (hc i hi hci))).trans (h.block i hi hb)⟩
theorem Keep.trans {B : Nat → Prop} {a b c : World} (h : Keep B a b) (k : Keep B b c) : Keep B a c := h.trans' k fun _ _ h => h
theorem Keep.of_below {B : Nat → Prop} {w w' : World} (h : Below w.heap.size w w') : Keep B w w' := ⟨h.os, h.tape, h.output, h.size, fun k hk _ => h.block k hk⟩
theorem Keep.below {n : Nat} {B : Nat → Prop} {w w' : World} (h : Keep B w w') (hn : n ≤ w.heap.size) (hB : ∀ k, k < n → ¬ B k) : Below n w w' := ⟨h.os, h.tape, h.output, h.size, fun k hk => h.block k (by omega) (hB k hk)⟩
theorem Keep.alloc {B : Nat → Prop} {a w : World} (h : Keep B a w) (o : Obj) : Keep B a (w.alloc o) :=
  h.trans ⟨rfl, rfl, rfl, by simp, fun k hk _ => Below.heap_alloc _ _ _ hk⟩
theorem Keep.setCell {B : Nat → Prop} {a w : World} (h : Keep B a w) {p : Addr} (hp : p.block < a.heap.size → B p.block) (u : Value) : Keep B a (w.setCell p u) :=
  h.trans' (C := fun k => k = p.block) ⟨rfl, rfl, rfl, by simp [World.setCell], fun k _ hk => Below.heap_setCell _ _ _ _ hk⟩ (fun i hi e => by subst e; exact hp hi)
theorem Keep.grown {B : Nat → Prop} {a w w' : World} {row : Option Nat} (h : Keep B a w) (hg : w.grownBy w' row) (hr : ∀ k, row = some k → k < a.heap.size → B k) : Keep B a w' :=
  h.trans' (C := fun k => row = some k) ⟨hg.os, hg.tape, hg.output, hg.size, fun k hk hb => hg.block k hk fun e => hb e.symm⟩ (fun i hi e => hr i e hi)
theorem Keep.box {B : Nat → Prop} {w w' : World} {b : Nat} {l : List Value} {t : TypeId} (hk : Keep B w w') (h : Box w b l t) (hb : ¬ B b) : Box w' b l t := h.of_block (hk.block b h.lt hb)

theorem below_alloc (w : World) (o : Obj) : Below w.heap.size w (w.alloc o) := (Below.refl _ _).alloc (Nat.le_refl _) o
theorem below_drewN {B : Nat} {a w : World} (h : Below B a w) (n : Nat) : Below B a (w.drewN n) := ⟨h.os, h.tape, h.output, h.size, h.block⟩
theorem cell_lt {w : World} {a : Addr} {v : Value} (h : w.cell? a = some v) : a.block < w.heap.size := by
  by_cases hl : a.block < w.heap.size
  · exact hl
  · unfold World.cell? at h
    rw [Array.getElem?_eq_none (by omega)] at h
    cases h
theorem ret_int {k : IntKind} {a b : Int} (h : a = b) : Ending.returned (.int k a) = .returned (.int k b) := by rw [h]
theorem ret_bool {a b : Bool} (h : a = b) : Ending.returned (.bool a) = .returned (.bool b) := by rw [h]
theorem ownsRow_of_block {w w' : World} {base : Nat} {e : TypeId} {size : Nat} {v : Value} {n : Nat} {xs : List Value} (h : w.ownsRow base e size v n xs)
    (hb : ∀ k, v.ownBlock = some k → w'.heap[k]? = w.heap[k]?) : w'.ownsRow base e size v n xs := by
  refine ⟨h.1, ?_⟩
  rcases h.2 with hn | ⟨g, cap, cur, rfl, hb', hgg, rest⟩
  · exact .inl hn
  · exact .inr ⟨g, cap, cur, rfl, hb', by rw [hb g rfl]; exact hgg, rest⟩
theorem ownsRow_type {w : World} {base : Nat} {e : TypeId} {size : Nat} {v : Value} {n : Nat} {xs : List Value} (h : w.ownsRow base e size v n xs) {k : Nat} (hk : v.ownBlock = some k) : ∃ cur, w.heap[k]? = some (.cells cur e (0, 0)) := by
  rcases h.2 with ⟨rfl, _⟩ | ⟨g, cap, cur, rfl, _, hgg, _⟩
  · cases hk
  · cases hk; exact ⟨cur, hgg⟩
theorem Box.ne_row {w : World} {b : Nat} {l : List Value} {t e : TypeId} {base size n : Nat} {v : Value} {xs : List Value} (h : Box w b l t) (hr : w.ownsRow base e size v n xs) (ht : t ≠ e) {k : Nat} (hk : v.ownBlock = some k) : k ≠ b := by
  rintro rfl
  obtain ⟨cur, hc⟩ := ownsRow_type hr hk
  unfold Box at h
  rw [h] at hc
  cases hc
  exact ht rfl
theorem Box.ne_box {w : World} {b b' : Nat} {l l' : List Value} {t t' : TypeId} (h : Box w b l t) (h' : Box w b' l' t') (ht : t ≠ t') : b ≠ b' := by
  rintro rfl
  unfold Box at h h'
  rw [h] at h'
  cases h'
  exact ht rfl
theorem row_ne_row {w : World} {base base' : Nat} {e e' : TypeId} {size size' n n' : Nat} {v v' : Value} {xs xs' : List Value} (h : w.ownsRow base e size v n xs) (h' : w.ownsRow base' e' size' v' n' xs') (ht : e ≠ e') {k : Nat} (hk : v.ownBlock = some k) : v'.ownBlock ≠ some k := by
  intro hk'
  obtain ⟨c, hc⟩ := ownsRow_type h hk
  obtain ⟨c', hc'⟩ := ownsRow_type h' hk'
  rw [hc] at hc'
  cases hc'
  exact ht rfl
/-- A row's shape. -/
theorem row_slice {w : World} {base : Nat} {e : TypeId} {size : Nat} {v : Value} {n : Nat} {xs : List Value} (h : w.ownsRow base e size v n xs) : ∃ a c, v = .slice a n c := by
  rcases h.2 with ⟨rfl, h0⟩ | ⟨g, cap, cur, rfl, _⟩
  · exact ⟨none, 0, by rw [h0]⟩
  · exact ⟨_, _, rfl⟩
theorem row_at {w : World} {base : Nat} {e : TypeId} {size : Nat} {v : Value} {n : Nat} {xs : List Value} (h : w.ownsRow base e size v n xs) (hn : 0 < n) : ∃ g c, v = .slice (some ⟨g, 0, none⟩) n c ∧ ∀ j u, xs[j]? = some u → w.cell? ⟨g, j, none⟩ = some u := by
  rcases h.2 with ⟨rfl, h0⟩ | ⟨g, cap, cur, rfl, _⟩
  · omega
  · refine ⟨g, cap, rfl, fun j u hu => ?_⟩
    have := h.cells (g := g) rfl j u hu
    rw [addr_add, Nat.zero_add] at this
    exact this
end Go.Proofs.YtminbemdcanakaaGreat
/- How the objects lie in memory. -/
namespace Go.Proofs.YtminbemdcanakaaGreat
open Go.RowKit
set_option linter.unusedVariables false
set_option linter.unusedSimpArgs false

def flatV (l : List V) : List Value := l.flatMap fun x => [.int .i64 x.t, .int .i64 x.n]
theorem flatV_len (l : List V) : (flatV l).length = l.length * 2 := by
  induction l with
  | nil => rfl
  | cons x l ih => unfold flatV at *; rw [List.flatMap_cons, List.length_append, ih, List.length_cons]; simp; omega
theorem flatV_at : ∀ (l : List V) (j : Nat) (x : V), l[j]? = some x → (flatV l)[j * 2]? = some (.int .i64 x.t) ∧ (flatV l)[j * 2 + 1]? = some (.int .i64 x.n) := by
  intro l
  induction l with
  | nil => intro j x h; simp at h
  | cons y l ih =>
    intro j x h
    cases j with
    | zero => simp only [List.getElem?_cons_zero, Option.some.injEq] at h; subst h; exact ⟨rfl, rfl⟩
    | succ j =>
      rw [List.getElem?_cons_succ] at h
      obtain ⟨h1, h2⟩ := ih j x h
      rw [show (j + 1) * 2 = j * 2 + 1 + 1 by omega]
      unfold flatV at *
      rw [List.flatMap_cons]
      exact ⟨h1, h2⟩
theorem flatV_one (l : List V) : ∀ u ∈ flatV l, u.oneCell' = true := by
  intro u hu
  unfold flatV at hu
  rw [List.mem_flatMap] at hu
  obtain ⟨x, _, hx⟩ := hu
  simp at hx
  rcases hx with rfl | rfl <;> rfl

def obL (o : Ob) (sv : Value) : List Value := [.int .i64 o.kind, .int .i64 o.weak, .int .i64 o.array, sv, .int .i64 o.fin, .int .i64 o.col, .int .i64 o.age]
structure ObAt (w : World) (b : Nat) (sv : Value) (o : Ob) : Prop where
  box : Box w b (obL o sv) 114
  row : w.ownsRow 0 34 2 sv o.slots.length (flatV o.slots)

/-- Where it all lies. -/
structure ML where
  p : Nat
  all : Value
  roots : Value
  cs : List (Nat × Value)
def ptrV (c : Nat × Value) (o : Option Ob) : Value := match o with
  | none => .pointer none
  | some _ => .pointer (some ⟨c.1, 0, none⟩)
def ML.ptrs (L : ML) (obs : List (Option Ob)) : List Value := List.zipWith ptrV L.cs obs
def ML.own (L : ML) (k : Nat) : Prop := k = L.p ∨ L.all.ownBlock = some k ∨ L.roots.ownBlock = some k ∨ ∃ (i b : Nat) (sv : Value), L.cs[i]? = some (b, sv) ∧ (k = b ∨ sv.ownBlock = some k)

structure MemAt (w : World) (L : ML) (M : Mm) : Prop where
  box : Box w L.p [L.all, L.roots, .bool true] 109
  row : w.ownsRow 0 112 1 L.all M.obs.length (L.ptrs M.obs)
  roots : w.ownsRow 0 34 2 L.roots M.roots.length (flatV M.roots)
  len : L.cs.length = M.obs.length
  ob : ∀ (i b : Nat) (sv : Value) (o : Ob), L.cs[i]? = some (b, sv) → M.obs[i]? = some (some o) → ObAt w b sv o
  lt : ∀ (i b : Nat) (sv : Value), L.cs[i]? = some (b, sv) → b < w.heap.size ∧ ∀ k, sv.ownBlock = some k → k < w.heap.size
  inj : ∀ (i j b b' : Nat) (sv sv' : Value), L.cs[i]? = some (b, sv) → L.cs[j]? = some (b', sv') → i ≠ j → b ≠ b' ∧ ∀ k, sv.ownBlock = some k → sv'.ownBlock ≠ some k
  sep : ∀ (i b : Nat) (sv : Value), L.cs[i]? = some (b, sv) → ∀ k, L.roots.ownBlock = some k → sv.ownBlock ≠ some k

section
variable {w w' : World} {L : ML} {M : Mm}
theorem MemAt.own_lt (h : MemAt w L M) {k : Nat} (hk : L.own k) : k < w.heap.size := by
  rcases hk with rfl | hk | hk | ⟨i, b, sv, hi, hk⟩
  · exact h.box.lt
  · exact (h.row.lt k hk).2
  · exact (h.roots.lt k hk).2
  · rcases hk with rfl | hk
    · exact (h.lt i _ sv hi).1
    · exact (h.lt i b sv hi).2 k hk
theorem MemAt.of_blocks (h : MemAt w L M) (hs : w.heap.size ≤ w'.heap.size) (hb : ∀ k, L.own k → w'.heap[k]? = w.heap[k]?) : MemAt w' L M :=
  ⟨h.box.of_block (hb _ (.inl rfl)), ownsRow_of_block h.row fun k hk => hb k (.inr (.inl hk)), ownsRow_of_block h.roots fun k hk => hb k (.inr (.inr (.inl hk))), h.len,
    fun i b sv o hi ho => ⟨(h.ob i b sv o hi ho).box.of_block (hb b (.inr (.inr (.inr ⟨i, b, sv, hi, .inl rfl⟩)))), ownsRow_of_block (h.ob i b sv o hi ho).row fun k hk => hb k (.inr (.inr (.inr ⟨i, b, sv, hi, .inr hk⟩)))⟩,
    fun i b sv hi => ⟨Nat.lt_of_lt_of_le (h.lt i b sv hi).1 hs, fun k hk => Nat.lt_of_lt_of_le ((h.lt i b sv hi).2 k hk) hs⟩, h.inj, h.sep⟩
theorem MemAt.below (h : MemAt w L M) (hb : Below w.heap.size w w') : MemAt w' L M := h.of_blocks hb.size fun k hk => hb.block k (h.own_lt hk)
theorem MemAt.keep {B : Nat → Prop} (h : MemAt w L M) (hk : Keep B w w') (hB : ∀ k, L.own k → ¬ B k) : MemAt w' L M := h.of_blocks hk.size fun k ho => hk.block k (h.own_lt ho) (hB k ho)

theorem MemAt.cells (h : MemAt w L M) : w.cell? ⟨L.p, 0, none⟩ = some L.all ∧ w.cell? ⟨L.p, 1, none⟩ = some L.roots ∧ w.cell? ⟨L.p, 2, none⟩ = some (.bool true) := ⟨h.box.cell 0, h.box.cell 1, h.box.cell 2⟩

/-- An object that is there: where it lies, and where its pointer. -/
theorem MemAt.some_at (h : MemAt w L M) {hd : Int} {o : Ob} (ho : M.at hd = some o) :
    ∃ (i b : Nat) (sv : Value) (g c : Nat), hd = (i : Int) + 1 ∧ i < M.obs.length ∧ L.cs[i]? = some (b, sv) ∧ M.obs[i]? = some (some o) ∧ ObAt w b sv o ∧ L.all = .slice (some ⟨g, 0, none⟩) M.obs.length c ∧ w.cell? ⟨g, i, none⟩ = some (.pointer (some ⟨b, 0, none⟩)) := by
  unfold Mm.at at ho
  split at ho
  · rename_i hr
    have hlt : (hd - 1).toNat < M.obs.length := by omega
    have hob : M.obs[(hd - 1).toNat]? = some (some o) := by
      cases he : M.obs[(hd - 1).toNat]? with
      | none => rw [he] at ho; cases ho
      | some x => rw [he] at ho; simp only [Option.join_some] at ho; rw [ho]
    obtain ⟨⟨b, sv⟩, hc⟩ : ∃ c, L.cs[(hd - 1).toNat]? = some c := ⟨_, List.getElem?_eq_getElem (by rw [h.len]; exact hlt)⟩
    obtain ⟨g, c, ha, hcell⟩ := row_at h.row (by omega)
    refine ⟨(hd - 1).toNat, b, sv, g, c, by omega, hlt, hc, hob, h.ob _ _ _ _ hc hob, ha, ?_⟩
    apply hcell
    unfold ML.ptrs
    rw [List.getElem?_zipWith, hc, hob]
    rfl
  · cases ho
/-- One that is not there. -/
theorem MemAt.none_at (h : MemAt w L M) {hd : Int} (ho : M.at hd = none) :
    hd < 1 ∨ (1 ≤ hd ∧ (M.obs.length : Int) < hd) ∨ ∃ (i g c : Nat), hd = (i : Int) + 1 ∧ i < M.obs.length ∧ L.all = .slice (some ⟨g, 0, none⟩) M.obs.length c ∧ w.cell? ⟨g, i, none⟩ = some (.pointer none) := by
  by_cases h1 : hd < 1
  · exact .inl h1
  · by_cases h2 : (M.obs.length : Int) < hd
    · exact .inr (.inl ⟨by omega, h2⟩)
    · right; right
      have hlt : (hd - 1).toNat < M.obs.length := by omega
      have hob : M.obs[(hd - 1).toNat]? = some none := by
        unfold Mm.at at ho
        rw [if_pos (by omega), List.getElem?_eq_getElem hlt] at ho
        rw [List.getElem?_eq_getElem hlt]
        simp only [Option.join_some] at ho
        rw [ho]
      obtain ⟨⟨b, sv⟩, hc⟩ : ∃ c, L.cs[(hd - 1).toNat]? = some c := ⟨_, List.getElem?_eq_getElem (by rw [h.len]; exact hlt)⟩
      obtain ⟨g, c, ha, hcell⟩ := row_at h.row (by omega)
      refine ⟨(hd - 1).toNat, g, c, by omega, hlt, ha, ?_⟩
      apply hcell
      unfold ML.ptrs
      rw [List.getElem?_zipWith, hc, hob]
      rfl
end
end Go.Proofs.YtminbemdcanakaaGreat
/- What the objects' calls compute. -/
namespace Go.Proofs.YtminbemdcanakaaGreat
open Go.RowKit
set_option linter.unusedVariables false
set_option linter.unusedSimpArgs false

variable {w : World} {L : ML} {M : Mm}

set_option maxHeartbeats 1000000 in
theorem at_none (h : MemAt w L M) (hs : M.obs.length ≤ 100000) {hd : Int} (ho : M.at hd = none) : Calls Tryz.prog 77 #[.pointer (some ⟨L.p, 0, none⟩), .int .i64 hd] w fun e w' => e = .returned (.pointer none) ∧ w' = w := by
  obtain ⟨c0, -, -⟩ := h.cells
  rcases h.none_at ho with h1 | ⟨h1, h2⟩ | ⟨i, g, c, rfl, hi, ha, hc⟩
  · clear h ho
    go_enter Tryz.func77, Tryz.ntmps77
    go_wp2_with fail
    go_ret
    exact ⟨rfl, rfl⟩
  · obtain ⟨a, c, ha⟩ := row_slice h.row
    rw [ha] at c0
    obtain ⟨N, hN⟩ : ∃ N, N = M.obs.length := ⟨_, rfl⟩
    rw [← hN] at c0 hs h2
    have h3 : ¬ hd < 1 := by omega
    clear h ho ha hN
    go_enter Tryz.func77, Tryz.ntmps77
    go_wp2_with fail
    go_ret
    exact ⟨rfl, rfl⟩
  · rw [ha] at c0
    obtain ⟨N, hN⟩ : ∃ N, N = M.obs.length := ⟨_, rfl⟩
    rw [← hN] at c0 hs hi
    clear h ho ha hN
    go_enter Tryz.func77, Tryz.ntmps77
    go_wp2_with fail
    go_ret
    exact ⟨rfl, rfl⟩
set_option maxHeartbeats 1000000 in
theorem at_some (h : MemAt w L M) (hs : M.obs.length ≤ 100000) {i b : Nat} {sv : Value} {o : Ob} (hi : i < M.obs.length) (hcs : L.cs[i]? = some (b, sv)) (ho : M.obs[i]? = some (some o)) : Calls Tryz.prog 77 #[.pointer (some ⟨L.p, 0, none⟩), .int .i64 ((i : Int) + 1)] w fun e w' => e = .returned (.pointer (some ⟨b, 0, none⟩)) ∧ w' = w := by
  obtain ⟨c0, -, -⟩ := h.cells
  obtain ⟨g, c, ha, hcell⟩ := row_at h.row (by omega)
  have hc := hcell i (.pointer (some ⟨b, 0, none⟩)) (by unfold ML.ptrs; rw [List.getElem?_zipWith, hcs, ho]; rfl)
  rw [ha] at c0
  obtain ⟨N, hN⟩ : ∃ N, N = M.obs.length := ⟨_, rfl⟩
  rw [← hN] at c0 hs hi
  clear h ho ha hN hcell hcs
  go_enter Tryz.func77, Tryz.ntmps77
  go_wp2_with fail
  go_ret
  exact ⟨rfl, rfl⟩

set_option maxHeartbeats 1000000 in
theorem kind_any (h : MemAt w L M) (hs : M.obs.length ≤ 100000) (hd : Int) : Calls Tryz.prog 38 #[.pointer (some ⟨L.p, 0, none⟩), .int .i64 hd] w fun e w' => e = .returned (.int .i64 (M.kind hd)) ∧ w' = w := by
  unfold Mm.kind
  cases ho : M.at hd with
  | none =>
    have HA := Lib.hid (at_none h hs ho)
    clear h ho
    go_enter Tryz.func38, Tryz.ntmps38
    go_wp2_with fail
    refine HA.out.mono ?_
    rintro e w1 ⟨rfl, rfl⟩
    go_wp2_with fail
    go_ret
    exact ⟨rfl, rfl⟩
  | some o =>
    obtain ⟨i, b, sv, g, c, rfl, hi, hcs, hob, hat, -, -⟩ := h.some_at ho
    have HA := Lib.hid (at_some h hs hi hcs hob)
    have c0 : w.cell? ⟨b, 0, none⟩ = some (.int .i64 o.kind) := hat.box.cell 0
    have c5 : w.cell? ⟨b, 5, none⟩ = some (.int .i64 o.col) := hat.box.cell 5
    have c6 : w.cell? ⟨b, 6, none⟩ = some (.int .i64 o.age) := hat.box.cell 6
    clear h ho hat hcs hob
    go_enter Tryz.func38, Tryz.ntmps38
    go_wp2_with fail
    refine HA.out.mono ?_
    rintro e w1 ⟨rfl, rfl⟩
    go_wp2_with fail
    go_ret
    exact ⟨rfl, rfl⟩
set_option maxHeartbeats 1000000 in
theorem colour_any (h : MemAt w L M) (hs : M.obs.length ≤ 100000) (hd : Int) : Calls Tryz.prog 65 #[.pointer (some ⟨L.p, 0, none⟩), .int .i64 hd] w fun e w' => e = .returned (.int .i64 (M.col hd)) ∧ w' = w := by
  unfold Mm.col
  cases ho : M.at hd with
  | none =>
    have HA := Lib.hid (at_none h hs ho)
    clear h ho
    go_enter Tryz.func65, Tryz.ntmps65
    go_wp2_with fail
    refine HA.out.mono ?_
    rintro e w1 ⟨rfl, rfl⟩
    go_wp2_with fail
    go_ret
    exact ⟨rfl, rfl⟩
  | some o =>
    obtain ⟨i, b, sv, g, c, rfl, hi, hcs, hob, hat, -, -⟩ := h.some_at ho
    have HA := Lib.hid (at_some h hs hi hcs hob)
    have c0 : w.cell? ⟨b, 0, none⟩ = some (.int .i64 o.kind) := hat.box.cell 0
    have c5 : w.cell? ⟨b, 5, none⟩ = some (.int .i64 o.col) := hat.box.cell 5
    have c6 : w.cell? ⟨b, 6, none⟩ = some (.int .i64 o.age) := hat.box.cell 6
    clear h ho hat hcs hob
    go_enter Tryz.func65, Tryz.ntmps65
    go_wp2_with fail
    refine HA.out.mono ?_
    rintro e w1 ⟨rfl, rfl⟩
    go_wp2_with fail
    go_ret
    exact ⟨rfl, rfl⟩
set_option maxHeartbeats 1000000 in
theorem age_any (h : MemAt w L M) (hs : M.obs.length ≤ 100000) (hd : Int) : Calls Tryz.prog 66 #[.pointer (some ⟨L.p, 0, none⟩), .int .i64 hd] w fun e w' => e = .returned (.int .i64 (M.age hd)) ∧ w' = w := by
  unfold Mm.age
  cases ho : M.at hd with
  | none =>
    have HA := Lib.hid (at_none h hs ho)
    clear h ho
    go_enter Tryz.func66, Tryz.ntmps66
    go_wp2_with fail
    refine HA.out.mono ?_
    rintro e w1 ⟨rfl, rfl⟩
    go_wp2_with fail
    go_ret
    exact ⟨rfl, rfl⟩
  | some o =>
    obtain ⟨i, b, sv, g, c, rfl, hi, hcs, hob, hat, -, -⟩ := h.some_at ho
    have HA := Lib.hid (at_some h hs hi hcs hob)
    have c0 : w.cell? ⟨b, 0, none⟩ = some (.int .i64 o.kind) := hat.box.cell 0
    have c5 : w.cell? ⟨b, 5, none⟩ = some (.int .i64 o.col) := hat.box.cell 5
    have c6 : w.cell? ⟨b, 6, none⟩ = some (.int .i64 o.age) := hat.box.cell 6
    clear h ho hat hcs hob
    go_enter Tryz.func66, Tryz.ntmps66
    go_wp2_with fail
    refine HA.out.mono ?_
    rintro e w1 ⟨rfl, rfl⟩
    go_wp2_with fail
    go_ret
    exact ⟨rfl, rfl⟩
end Go.Proofs.YtminbemdcanakaaGreat
/- Objects are turned: colours, ages, slots; they are dropped. -/
namespace Go.Proofs.YtminbemdcanakaaGreat
open Go.RowKit
set_option linter.unusedVariables false
set_option linter.unusedSimpArgs false

theorem ptrs_set {L : ML} {obs : List (Option Ob)} {i : Nat} {o : Ob} (ho : obs[i]? = some (some o)) (o' : Ob) : L.ptrs (obs.set i (some o')) = L.ptrs obs := by
  unfold ML.ptrs
  apply List.ext_getElem?
  intro j
  rw [List.getElem?_zipWith, List.getElem?_zipWith, List.getElem?_set]
  by_cases hj : i = j
  · subst hj
    have hlt := (List.getElem?_eq_some_iff.1 ho).1
    rw [if_pos rfl, if_pos hlt, ho]
    cases L.cs[i]? <;> rfl
  · rw [if_neg hj]

section
variable {w w' : World} {L : ML} {M : Mm}
/-- An object is another; nothing else has turned. -/
theorem MemAt.turn (h : MemAt w L M) {i b : Nat} {sv : Value} {o : Ob} (hc : L.cs[i]? = some (b, sv)) (ho : M.obs[i]? = some (some o)) {o' : Ob} (hat : ObAt w' b sv o')
    (hk : Keep (fun k => k = b ∨ sv.ownBlock = some k) w w') : MemAt w' L { M with obs := M.obs.set i (some o') } ∧ Keep L.own w w' := by
  have ha := h.ob i b sv o hc ho
  have hlt := (List.getElem?_eq_some_iff.1 ho).1
  refine ⟨⟨h.box.of_block (hk.block _ h.box.lt ?_), ?_, ?_, ?_, ?_, ?_, h.inj, h.sep⟩, hk.mono fun k _ hk => .inr (.inr (.inr ⟨i, b, sv, hc, hk⟩))⟩
  · rintro (e | e)
    · exact h.box.ne_box ha.box (by decide) e
    · exact h.box.ne_row ha.row (by decide) e rfl
  · show w'.ownsRow _ _ _ _ (M.obs.set i (some o')).length (L.ptrs (M.obs.set i (some o')))
    rw [ptrs_set ho, List.length_set]
    refine ownsRow_of_block h.row fun k e => hk.block k (h.row.lt k e).2 ?_
    rintro (rfl | e')
    · exact ha.box.ne_row h.row (by decide) e rfl
    · exact row_ne_row h.row ha.row (by decide) e e'
  · refine ownsRow_of_block h.roots fun k e => hk.block k (h.roots.lt k e).2 ?_
    rintro (rfl | e')
    · exact ha.box.ne_row h.roots (by decide) e rfl
    · exact h.sep i b sv hc k e e'
  · show L.cs.length = (M.obs.set i (some o')).length
    rw [List.length_set]; exact h.len
  · intro j b' sv' o2 hj ho2
    rw [List.getElem?_set] at ho2
    by_cases hij : i = j
    · subst hij
      rw [if_pos rfl, if_pos hlt] at ho2
      cases ho2
      rw [hc] at hj
      cases hj
      exact hat
    · rw [if_neg hij] at ho2
      have h2 := h.ob j b' sv' o2 hj ho2
      obtain ⟨n1, n2⟩ := h.inj i j b b' sv sv' hc hj hij
      refine ⟨h2.box.of_block (hk.block _ h2.box.lt ?_), ownsRow_of_block h2.row fun k e => hk.block k (h2.row.lt k e).2 ?_⟩
      · rintro (e | e)
        · exact n1 e.symm
        · exact h2.box.ne_row ha.row (by decide) e rfl
      · rintro (rfl | e')
        · exact ha.box.ne_row h2.row (by decide) e rfl
        · exact n2 k e' e
  · intro j b' sv' hj
    exact ⟨Nat.lt_of_lt_of_le (h.lt j b' sv' hj).1 hk.size, fun k e => Nat.lt_of_lt_of_le ((h.lt j b' sv' hj).2 k e) hk.size⟩
/-- One cell of an object's block is written. -/
theorem ObAt.put {b : Nat} {sv : Value} {o o' : Ob} (h : ObAt w b sv o) (j : Nat) (u : Value) (e : (obL o sv).set j u = obL o' sv) (es : o'.slots = o.slots) : ObAt (w.setCell ⟨b, j, none⟩ u) b sv o' ∧ Keep (fun k => k = b ∨ sv.ownBlock = some k) w (w.setCell ⟨b, j, none⟩ u) := by
  refine ⟨⟨e ▸ h.box.set j u, ?_⟩, (Keep.refl _ w).setCell (fun _ => .inl rfl) u⟩
  rw [es]
  exact ownsRow_setCell_other h.row (fun e' => h.box.ne_row h.row (by decide) e' rfl) u
end

abbrev setColOb (o : Ob) (c : Int) : Ob := { o with col := c }
abbrev setAgeOb (o : Ob) (c : Int) : Ob := { o with age := c }
abbrev setFinOb (o : Ob) (c : Int) : Ob := { o with fin := c }
variable {w : World} {L : ML} {M : Mm}
set_option maxHeartbeats 1000000 in
theorem setColour_any (h : MemAt w L M) (hs : M.obs.length ≤ 100000) (hd c : Int) : Calls Tryz.prog 24 #[.pointer (some ⟨L.p, 0, none⟩), .int .i64 hd, .int .i64 c] w fun e w' => e = .returned (.tuple #[]) ∧ MemAt w' L (M.setCol hd c) ∧ Keep L.own w w' := by
  unfold Mm.setCol
  cases ho : M.at hd with
  | none =>
    have HA := Lib.hid (at_none h hs ho)
    refine Calls.mono (R := fun e w' => e = .returned (.tuple #[]) ∧ w' = w) ?_ ?_
    · clear h ho
      go_enter Tryz.func24, Tryz.ntmps24
      go_wp2_with fail
      refine HA.out.mono ?_
      rintro e w1 ⟨rfl, rfl⟩
      go_wp2_with fail
      go_end0
      exact ⟨rfl, rfl⟩
    · rintro e w1 ⟨rfl, rfl⟩
      rw [upd_none ho]
      exact ⟨rfl, h, Keep.refl _ _⟩
  | some o =>
    obtain ⟨i, b, sv, g, cc, rfl, hi, hcs, hob, hat, -, -⟩ := h.some_at ho
    have HA := Lib.hid (at_some h hs hi hcs hob)
    refine Calls.mono (R := fun e w' => e = .returned (.tuple #[]) ∧ w' = w.setCell ⟨b, 5, none⟩ (.int .i64 c)) ?_ ?_
    · obtain ⟨old, hold⟩ : ∃ v, w.cell? ⟨b, 5, none⟩ = some v := ⟨_, hat.box.cell 5⟩
      have f5 : w.frozen? ⟨b, 5, none⟩ = false := hat.box.free 5
      clear h ho hat hcs hob
      go_enter Tryz.func24, Tryz.ntmps24
      go_wp2_with fail
      refine HA.out.mono ?_
      rintro e w1 ⟨rfl, rfl⟩
      go_wp2_with fail
      go_end0
      exact ⟨rfl, rfl⟩
    · rintro e w1 ⟨rfl, rfl⟩
      rw [upd_some hob]
      obtain ⟨a1, a2⟩ := hat.put (o' := (setColOb o c)) 5 (.int .i64 c) rfl rfl
      exact ⟨rfl, h.turn hcs hob a1 a2⟩
set_option maxHeartbeats 1000000 in
theorem setAge_any (h : MemAt w L M) (hs : M.obs.length ≤ 100000) (hd c : Int) : Calls Tryz.prog 25 #[.pointer (some ⟨L.p, 0, none⟩), .int .i64 hd, .int .i64 c] w fun e w' => e = .returned (.tuple #[]) ∧ MemAt w' L (M.setAge hd c) ∧ Keep L.own w w' := by
  unfold Mm.setAge
  cases ho : M.at hd with
  | none =>
    have HA := Lib.hid (at_none h hs ho)
    refine Calls.mono (R := fun e w' => e = .returned (.tuple #[]) ∧ w' = w) ?_ ?_
    · clear h ho
      go_enter Tryz.func25, Tryz.ntmps25
      go_wp2_with fail
      refine HA.out.mono ?_
      rintro e w1 ⟨rfl, rfl⟩
      go_wp2_with fail
      go_end0
      exact ⟨rfl, rfl⟩
    · rintro e w1 ⟨rfl, rfl⟩
      rw [upd_none ho]
      exact ⟨rfl, h, Keep.refl _ _⟩
  | some o =>
    obtain ⟨i, b, sv, g, cc, rfl, hi, hcs, hob, hat, -, -⟩ := h.some_at ho
    have HA := Lib.hid (at_some h hs hi hcs hob)
    refine Calls.mono (R := fun e w' => e = .returned (.tuple #[]) ∧ w' = w.setCell ⟨b, 6, none⟩ (.int .i64 c)) ?_ ?_
    · obtain ⟨old, hold⟩ : ∃ v, w.cell? ⟨b, 6, none⟩ = some v := ⟨_, hat.box.cell 6⟩
      have f5 : w.frozen? ⟨b, 6, none⟩ = false := hat.box.free 6
      clear h ho hat hcs hob
      go_enter Tryz.func25, Tryz.ntmps25
      go_wp2_with fail
      refine HA.out.mono ?_
      rintro e w1 ⟨rfl, rfl⟩
      go_wp2_with fail
      go_end0
      exact ⟨rfl, rfl⟩
    · rintro e w1 ⟨rfl, rfl⟩
      rw [upd_some hob]
      obtain ⟨a1, a2⟩ := hat.put (o' := (setAgeOb o c)) 6 (.int .i64 c) rfl rfl
      exact ⟨rfl, h.turn hcs hob a1 a2⟩
set_option maxHeartbeats 1000000 in
theorem setFin_any (h : MemAt w L M) (hs : M.obs.length ≤ 100000) (hd c : Int) : Calls Tryz.prog 27 #[.pointer (some ⟨L.p, 0, none⟩), .int .i64 hd, .int .i64 c] w fun e w' => e = .returned (.tuple #[]) ∧ MemAt w' L (M.setFin hd c) ∧ Keep L.own w w' := by
  unfold Mm.setFin
  cases ho : M.at hd with
  | none =>
    have HA := Lib.hid (at_none h hs ho)
    refine Calls.mono (R := fun e w' => e = .returned (.tuple #[]) ∧ w' = w) ?_ ?_
    · clear h ho
      go_enter Tryz.func27, Tryz.ntmps27
      go_wp2_with fail
      refine HA.out.mono ?_
      rintro e w1 ⟨rfl, rfl⟩
      go_wp2_with fail
      go_end0
      exact ⟨rfl, rfl⟩
    · rintro e w1 ⟨rfl, rfl⟩
      rw [upd_none ho]
      exact ⟨rfl, h, Keep.refl _ _⟩
  | some o =>
    obtain ⟨i, b, sv, g, cc, rfl, hi, hcs, hob, hat, -, -⟩ := h.some_at ho
    have HA := Lib.hid (at_some h hs hi hcs hob)
    refine Calls.mono (R := fun e w' => e = .returned (.tuple #[]) ∧ w' = w.setCell ⟨b, 4, none⟩ (.int .i64 c)) ?_ ?_
    · obtain ⟨old, hold⟩ : ∃ v, w.cell? ⟨b, 4, none⟩ = some v := ⟨_, hat.box.cell 4⟩
      have f5 : w.frozen? ⟨b, 4, none⟩ = false := hat.box.free 4
      clear h ho hat hcs hob
      go_enter Tryz.func27, Tryz.ntmps27
      go_wp2_with fail
      refine HA.out.mono ?_
      rintro e w1 ⟨rfl, rfl⟩
      go_wp2_with fail
      go_end0
      exact ⟨rfl, rfl⟩
    · rintro e w1 ⟨rfl, rfl⟩
      rw [upd_some hob]
      obtain ⟨a1, a2⟩ := hat.put (o' := (setFinOb o c)) 4 (.int .i64 c) rfl rfl
      exact ⟨rfl, h.turn hcs hob a1 a2⟩
end Go.Proofs.YtminbemdcanakaaGreat
/- slices.Clone. -/
namespace Go.Proofs.YtminbemdcanakaaGreat
open Go.RowKit
set_option linter.unusedVariables false
set_option linter.unusedSimpArgs false

/-- A row that may be read, wherever it lies. -/
def Rd (w : World) (v : Value) (n : Nat) (xs : List Value) : Prop := (v = .slice none 0 0 ∧ n = 0 ∧ xs = []) ∨ ∃ ad c, v = .slice (some ad) n c ∧ ∀ j u, xs[j]? = some u → w.cell? (ad.add j) = some u
theorem rd_row {w : World} {base : Nat} {e : TypeId} {size : Nat} {v : Value} {n : Nat} {xs : List Value} (h : w.ownsRow base e size v n xs) : Rd w v n xs := by
  have hl := h.1
  rcases h.2 with ⟨rfl, h0⟩ | ⟨g, cap, cur, rfl, _⟩
  · refine .inl ⟨rfl, h0, ?_⟩
    subst h0
    rw [Nat.zero_mul] at hl
    exact List.eq_nil_of_length_eq_zero hl
  · exact .inr ⟨_, _, rfl, h.cells (g := g) rfl⟩
def intL (l : List Int) : List Value := l.map (Value.int .i64)
theorem intL_len (l : List Int) : (intL l).length = l.length := by unfold intL; rw [List.length_map]
theorem intL_one (l : List Int) : ∀ u ∈ intL l, u.oneCell' = true := by
  intro u hu; obtain ⟨x, _, rfl⟩ := List.mem_map.1 hu; rfl

theorem infC2 : (Tryz.prog.info? 34).map (fun i => (i.zero, i.size, i.bytes)) = some (some (.agg #[.int .i64 0, .int .i64 0]), 2, 16) := by kernel_rfl
theorem infC1 : (Tryz.prog.info? 3).map (fun i => (i.zero, i.size, i.bytes)) = some (some (.int .i64 0), 1, 8) := by kernel_rfl
set_option maxRecDepth 100000 in
set_option maxHeartbeats 1000000 in
theorem cloneV_any {w : World} {v : Value} {n : Nat} {xs : List Value} (h : Rd w v n xs) (hs : n ≤ 100000) (hl : xs.length = n * 2) (h1 : ∀ u ∈ xs, u.oneCell' = true) : Calls Tryz.prog 75 #[v] w fun e w' => ∃ v', e = .returned v' ∧ w'.ownsRow w.heap.size 34 2 v' n xs ∧ Below w.heap.size w w' := by
  obtain ⟨i0, hi0, hz0, hz1, hz2⟩ := info_parts infC2
  have q22 : ∀ (w : World) (a : Option Addr) (n c n' c' : Nat), (binOp .eql 23 (.slice a n c) (.slice none n' c')).run Tryz.prog w = .ok (.bool a.isNone) w := fun w a n c n' c' => Lib.run_eql_slice_nil w _ _ a n c n' c' Tryz.underlying23
  rcases h with ⟨rfl, rfl, hx⟩ | ⟨ad, c, rfl, hc⟩
  · go_enter Tryz.func75, Tryz.ntmps75
    go_wp2_with fail
    go_ret
    refine ⟨_, rfl, ?_, Below.refl _ _⟩
    rw [hx]
    exact World.ownsRow_nil _ _ _ _
  · have A := Lib.hid hc
    clear hc
    go_enter Tryz.func75, Tryz.ntmps75
    go_wp2_with (at_builtin; refine wpList_append_own _ rfl _ _ 23 rfl w.heap.size 34 i0 ((.agg #[.int .i64 0, .int .i64 0])) 2 16 Tryz.underlying23 hi0 hz0 hz1 hz2 rfl (by decide) _ _ _ rfl (World.ownsRow_made w #[] 0 (Nat.le_refl _) (Nat.zero_le _) rfl) ad n c xs rfl ?qc1 ?qc2 ?qc3 ?qc4 ?qc5 ?qc6 ?_)
    case qc1 => exact hl
    case qc2 =>
      intro j u hj
      exact Lib.cell?_alloc_some _ (A.out j u hj)
    case qc3 => exact h1
    case qc4 => unfold maxLen; omega
    case qc5 => omega
    case qc6 => simp
    intro v' w1 hown hgrow hnil
    go_wp2
    go_ret
    refine ⟨v', rfl, by simpa using hown, ?_⟩
    exact ((Below.refl _ w).alloc (Nat.le_refl _) _).grown hgrow (by simp) (by intro k hk; simp [Value.ownBlock] at hk; omega)
set_option maxRecDepth 100000 in
set_option maxHeartbeats 1000000 in
theorem cloneI_any {w : World} {v : Value} {n : Nat} {xs : List Value} (h : Rd w v n xs) (hs : n ≤ 100000) (hl : xs.length = n * 1) (h1 : ∀ u ∈ xs, u.oneCell' = true) : Calls Tryz.prog 97 #[v] w fun e w' => ∃ v', e = .returned v' ∧ w'.ownsRow w.heap.size 3 1 v' n xs ∧ Below w.heap.size w w' := by
  obtain ⟨i0, hi0, hz0, hz1, hz2⟩ := info_parts infC1
  have q22 : ∀ (w : World) (a : Option Addr) (n c n' c' : Nat), (binOp .eql 54 (.slice a n c) (.slice none n' c')).run Tryz.prog w = .ok (.bool a.isNone) w := fun w a n c n' c' => Lib.run_eql_slice_nil w _ _ a n c n' c' Tryz.underlying54
  rcases h with ⟨rfl, rfl, hx⟩ | ⟨ad, c, rfl, hc⟩
  · go_enter Tryz.func97, Tryz.ntmps97
    go_wp2_with fail
    go_ret
    refine ⟨_, rfl, ?_, Below.refl _ _⟩
    rw [hx]
    exact World.ownsRow_nil _ _ _ _
  · have A := Lib.hid hc
    clear hc
    go_enter Tryz.func97, Tryz.ntmps97
    go_wp2_with (at_builtin; refine wpList_append_own _ rfl _ _ 54 rfl w.heap.size 3 i0 ((.int .i64 0)) 1 8 Tryz.underlying54 hi0 hz0 hz1 hz2 rfl (by decide) _ _ _ rfl (World.ownsRow_made w #[] 0 (Nat.le_refl _) (Nat.zero_le _) rfl) ad n c xs rfl ?qc1 ?qc2 ?qc3 ?qc4 ?qc5 ?qc6 ?_)
    case qc1 => exact hl
    case qc2 =>
      intro j u hj
      exact Lib.cell?_alloc_some _ (A.out j u hj)
    case qc3 => exact h1
    case qc4 => unfold maxLen; omega
    case qc5 => omega
    case qc6 => simp
    intro v' w1 hown hgrow hnil
    go_wp2
    go_ret
    refine ⟨v', rfl, by simpa using hown, ?_⟩
    exact ((Below.refl _ w).alloc (Nat.le_refl _) _).grown hgrow (by simp) (by intro k hk; simp [Value.ownBlock] at hk; omega)
end Go.Proofs.YtminbemdcanakaaGreat
/- Slots are set, entries cleared, objects dropped. -/
namespace Go.Proofs.YtminbemdcanakaaGreat
open Go.RowKit
set_option linter.unusedVariables false
set_option linter.unusedSimpArgs false

theorem ownsRow_set {w : World} {base : Nat} {e : TypeId} {size : Nat} {v : Value} {n : Nat} {xs : List Value} (h : w.ownsRow base e size v n xs) {g : Nat} (hg : v.ownBlock = some g) (i : Nat) (hi : i < n * size) (u : Value) : (w.setCell ⟨g, i, none⟩ u).ownsRow base e size v n (xs.set i u) := by
  have hl := h.1
  refine ⟨by rw [List.length_set]; exact hl, ?_⟩
  rcases h.2 with ⟨rfl, _⟩ | ⟨g', cap, cur, rfl, hb', hgg, h1, h2, h3, h4⟩
  · cases hg
  · simp only [Value.ownBlock, Option.some.injEq] at hg
    subst hg
    obtain ⟨l, rfl⟩ : ∃ l : List Value, cur = l.toArray := ⟨cur.toList, rfl⟩
    refine .inr ⟨g', cap, (l.set i u).toArray, rfl, hb', setCell_list hgg u, h1, h2, by simpa using h3, ?_⟩
    rw [← h4]
    simp only [List.take_set]
theorem flatV_set : ∀ (l : List V) (i : Nat) (v : V), ((flatV l).set (i * 2) (.int .i64 v.t)).set (i * 2 + 1) (.int .i64 v.n) = flatV (l.set i v) := by
  intro l
  induction l with
  | nil => intro i v; rfl
  | cons x l ih =>
    intro i v
    cases i with
    | zero => rfl
    | succ i =>
      rw [List.set_cons_succ, show (i + 1) * 2 = i * 2 + 1 + 1 by omega]
      have := ih i v
      unfold flatV at *
      rw [List.flatMap_cons, List.flatMap_cons, ← this]
      rfl
theorem flatV_setT : ∀ (l : List V) (i : Nat) (t : Int), (flatV l).set (i * 2) (.int .i64 t) = flatV (l.modify i fun v => { v with t := t }) := by
  intro l
  induction l with
  | nil => intro i t; cases i <;> rfl
  | cons x l ih =>
    intro i t
    cases i with
    | zero => rfl
    | succ i =>
      rw [List.modify_succ_cons, show (i + 1) * 2 = i * 2 + 1 + 1 by omega]
      have := ih i t
      unfold flatV at *
      rw [List.flatMap_cons, List.flatMap_cons, ← this]
      rfl
theorem row_free {w : World} {base : Nat} {e : TypeId} {size : Nat} {v : Value} {n : Nat} {xs : List Value} (h : w.ownsRow base e size v n xs) {g : Nat} (hg : v.ownBlock = some g) (i : Nat) : w.frozen? ⟨g, i, none⟩ = false := by
  obtain ⟨cur, hc⟩ := ownsRow_type h hg
  simp [World.frozen?, hc]

section
variable {w w' : World} {L : ML} {M : Mm}
/-- A value is put into a slot. -/
theorem ObAt.slot {b g n c : Nat} {o : Ob} (h : ObAt w b (.slice (some ⟨g, 0, none⟩) n c) o) (j : Nat) (hj : j < o.slots.length) (v : V) :
    ObAt ((w.setCell ⟨g, j * 2, none⟩ (.int .i64 v.t)).setCell ⟨g, j * 2 + 1, none⟩ (.int .i64 v.n)) b (.slice (some ⟨g, 0, none⟩) n c) { o with slots := o.slots.set j v } ∧
      Keep (fun k => k = b ∨ (Value.slice (some ⟨g, 0, none⟩) n c).ownBlock = some k) w ((w.setCell ⟨g, j * 2, none⟩ (.int .i64 v.t)).setCell ⟨g, j * 2 + 1, none⟩ (.int .i64 v.n)) := by
  have hne : b ≠ g := fun e => h.box.ne_row h.row (by decide) (k := g) rfl e.symm
  refine ⟨⟨(h.box.setOther _ hne _).setOther _ hne _, ?_⟩, ((Keep.refl _ w).setCell (fun _ => .inr rfl) _).setCell (fun _ => .inr rfl) _⟩
  have h1 := ownsRow_set h.row (g := g) rfl (j * 2) (by omega) (.int .i64 v.t)
  have h2 := ownsRow_set h1 (g := g) rfl (j * 2 + 1) (by omega) (.int .i64 v.n)
  rw [flatV_set] at h2
  rw [List.length_set]
  exact h2
theorem ObAt.slotT {b g n c : Nat} {o : Ob} (h : ObAt w b (.slice (some ⟨g, 0, none⟩) n c) o) (j : Nat) (hj : j < o.slots.length) (t : Int) :
    ObAt (w.setCell ⟨g, j * 2, none⟩ (.int .i64 t)) b (.slice (some ⟨g, 0, none⟩) n c) { o with slots := o.slots.modify j fun v => { v with t := t } } ∧
      Keep (fun k => k = b ∨ (Value.slice (some ⟨g, 0, none⟩) n c).ownBlock = some k) w (w.setCell ⟨g, j * 2, none⟩ (.int .i64 t)) := by
  have hne : b ≠ g := fun e => h.box.ne_row h.row (by decide) (k := g) rfl e.symm
  refine ⟨⟨h.box.setOther _ hne _, ?_⟩, (Keep.refl _ w).setCell (fun _ => .inr rfl) _⟩
  have h1 := ownsRow_set h.row (g := g) rfl (j * 2) (by omega) (.int .i64 t)
  rw [flatV_setT] at h1
  rw [List.length_modify]
  exact h1
theorem ObAt.shape {b : Nat} {sv : Value} {o : Ob} (h : ObAt w b sv o) (hn : 0 < o.slots.length) : ∃ g c, sv = .slice (some ⟨g, 0, none⟩) o.slots.length c := by
  obtain ⟨g, c, e, -⟩ := row_at h.row hn
  exact ⟨g, c, e⟩
/-- An object is gone. -/
theorem MemAt.dropped (h : MemAt w L M) {i g c b : Nat} {sv : Value} (hcs : L.cs[i]? = some (b, sv)) (ha : L.all = .slice (some ⟨g, 0, none⟩) M.obs.length c) (hi : i < M.obs.length) :
    MemAt (w.setCell ⟨g, i, none⟩ (.pointer none)) L { M with obs := M.obs.set i none } ∧ Keep L.own w (w.setCell ⟨g, i, none⟩ (.pointer none)) := by
  have hg : L.all.ownBlock = some g := by rw [ha]; rfl
  have hk : Keep (fun k => k = g) w (w.setCell ⟨g, i, none⟩ (.pointer none)) := Keep.setCell (B := fun k => k = g) (p := ⟨g, i, none⟩) (Keep.refl _ w) (fun _ => rfl) _
  refine ⟨⟨h.box.of_block (hk.block _ h.box.lt ?_), ?_, ?_, ?_, ?_, ?_, h.inj, h.sep⟩, hk.mono fun k _ e => .inr (.inl (e ▸ hg))⟩
  · exact fun e => h.box.ne_row h.row (by decide) hg e.symm
  · show World.ownsRow _ _ _ _ _ (M.obs.set i none).length (L.ptrs (M.obs.set i none))
    have := ownsRow_set h.row hg i (by omega) (.pointer none)
    rw [List.length_set]
    have e : L.ptrs (M.obs.set i none) = (L.ptrs M.obs).set i (.pointer none) := by
      unfold ML.ptrs
      apply List.ext_getElem?
      intro j
      rw [List.getElem?_zipWith, List.getElem?_set, List.getElem?_set, List.getElem?_zipWith, List.length_zipWith, h.len]
      by_cases hj : i = j
      · subst hj
        rw [if_pos rfl, if_pos hi, if_pos rfl, if_pos (by omega), hcs]
        rfl
      · rw [if_neg hj, if_neg hj]
    rw [e]
    exact this
  · refine ownsRow_of_block h.roots fun k e => hk.block k (h.roots.lt k e).2 ?_
    rintro rfl
    exact row_ne_row h.row h.roots (by decide) hg e
  · show L.cs.length = (M.obs.set i none).length
    rw [List.length_set]; exact h.len
  · intro j b' sv' o2 hj ho2
    rw [List.getElem?_set] at ho2
    by_cases hij : i = j
    · subst hij
      rw [if_pos rfl, if_pos hi] at ho2
      cases ho2
    · rw [if_neg hij] at ho2
      have h2 := h.ob j b' sv' o2 hj ho2
      refine ⟨h2.box.of_block (hk.block _ h2.box.lt ?_), ownsRow_of_block h2.row fun k e => hk.block k (h2.row.lt k e).2 ?_⟩
      · exact fun e => h2.box.ne_row h.row (by decide) hg e.symm
      · rintro rfl
        exact row_ne_row h.row h2.row (by decide) hg e
  · intro j b' sv' hj
    exact ⟨Nat.lt_of_lt_of_le (h.lt j b' sv' hj).1 hk.size, fun k e => Nat.lt_of_lt_of_le ((h.lt j b' sv' hj).2 k e) hk.size⟩
end
variable {w : World} {L : ML} {M : Mm}
theorem drop_none {hd : Int} (ho : M.at hd = none) : M.drop hd = M := by
  unfold Mm.drop
  split
  · rename_i hr
    unfold Mm.at at ho
    rw [if_pos hr] at ho
    have hlt : (hd - 1).toNat < M.obs.length := by omega
    rw [List.getElem?_eq_getElem hlt] at ho
    simp only [Option.join_some] at ho
    have : M.obs.set (hd - 1).toNat none = M.obs := by
      conv => lhs; rw [← ho]
      exact List.set_getElem_self hlt
    rw [this]
  · rfl
set_option maxHeartbeats 1000000 in
theorem drop_any (h : MemAt w L M) (hs : M.obs.length ≤ 100000) (hd : Int) : Calls Tryz.prog 31 #[.pointer (some ⟨L.p, 0, none⟩), .int .i64 hd] w fun e w' => e = .returned (.tuple #[]) ∧ MemAt w' L (M.drop hd) ∧ Keep L.own w w' := by
  cases ho : M.at hd with
  | none =>
    have HA := Lib.hid (at_none h hs ho)
    refine Calls.mono (R := fun e w' => e = .returned (.tuple #[]) ∧ w' = w) ?_ ?_
    · clear h ho
      go_enter Tryz.func31, Tryz.ntmps31
      go_wp2_with fail
      refine HA.out.mono ?_
      rintro e w1 ⟨rfl, rfl⟩
      go_wp2_with fail
      go_end0
      exact ⟨rfl, rfl⟩
    · rintro e w1 ⟨rfl, rfl⟩
      rw [drop_none ho]
      exact ⟨rfl, h, Keep.refl _ _⟩
  | some o =>
    obtain ⟨i, b, sv, g, cc, rfl, hi, hcs, hob, hat, ha, hcell⟩ := h.some_at ho
    have HA := Lib.hid (at_some h hs hi hcs hob)
    refine Calls.mono (R := fun e w' => e = .returned (.tuple #[]) ∧ w' = w.setCell ⟨g, i, none⟩ (.pointer none)) ?_ ?_
    · obtain ⟨c0, -, -⟩ := h.cells
      rw [ha] at c0
      have f5 : w.frozen? ⟨g, i, none⟩ = false := row_free h.row (by rw [ha]; rfl) i
      obtain ⟨N, hN⟩ : ∃ N, N = M.obs.length := ⟨_, rfl⟩
      rw [← hN] at c0 hs hi
      clear h ho hat hcs hob ha hN
      go_enter Tryz.func31, Tryz.ntmps31
      go_wp2_with fail
      refine HA.out.mono ?_
      rintro e w1 ⟨rfl, rfl⟩
      go_wp2_with fail
      go_end0
      exact ⟨rfl, rfl⟩
    · rintro e w1 ⟨rfl, rfl⟩
      have e : M.drop ((i : Int) + 1) = { M with obs := M.obs.set i none } := by
        unfold Mm.drop
        rw [if_pos (by omega), show ((i : Int) + 1 - 1).toNat = i by omega]
      rw [e]
      exact ⟨rfl, h.dropped hcs ha hi⟩
set_option maxHeartbeats 1000000 in
theorem cells_any (h : MemAt w L M) (hs : M.obs.length ≤ 100000) (hd : Int) (hss : ∀ o, M.at hd = some o → o.slots.length ≤ 100000) : Calls Tryz.prog 64 #[.pointer (some ⟨L.p, 0, none⟩), .int .i64 hd] w fun e w' => e = .returned (.int .i64 (M.cells hd)) ∧ w' = w := by
  unfold Mm.cells
  cases ho : M.at hd with
  | none =>
    have HA := Lib.hid (at_none h hs ho)
    clear h ho
    go_enter Tryz.func64, Tryz.ntmps64
    go_wp2_with fail
    refine HA.out.mono ?_
    rintro e w1 ⟨rfl, rfl⟩
    go_wp2_with fail
    go_ret
    exact ⟨rfl, rfl⟩
  | some o =>
    obtain ⟨i, b, sv, g, c, rfl, hi, hcs, hob, hat, -, -⟩ := h.some_at ho
    have HA := Lib.hid (at_some h hs hi hcs hob)
    have c3 : w.cell? ⟨b, 3, none⟩ = some sv := hat.box.cell 3
    have hn := hss o ho
    obtain ⟨N, hN⟩ : ∃ N, N = o.slots.length := ⟨_, rfl⟩
    obtain ⟨a, c, ha⟩ := row_slice hat.row
    rw [ha] at c3
    rw [← hN] at c3 hn
    show Calls _ _ _ _ fun e w' => e = .returned (.int .i64 (1 + (o.slots.length : Int))) ∧ w' = w
    rw [← hN]
    clear h ho hat hcs hob ha hN
    go_enter Tryz.func64, Tryz.ntmps64
    go_wp2_with fail
    refine HA.out.mono ?_
    rintro e w1 ⟨rfl, rfl⟩
    go_wp2_with fail
    go_ret
    exact ⟨rfl, rfl⟩

/-! ### slots -/
def Mm.set (M : Mm) (h slot : Int) (v : V) : Mm := if 0 ≤ slot then M.upd h fun o => { o with slots := o.slots.set slot.toNat v } else M
def Mm.canSet (M : Mm) (h slot : Int) : Bool := match M.at h with | none => false | some o => decide (0 ≤ slot ∧ slot < o.slots.length)
abbrev V.val (v : V) : Value := .agg #[.int .i64 v.t, .int .i64 v.n]
set_option maxHeartbeats 1000000 in
theorem set_any (h : MemAt w L M) (hs : M.obs.length ≤ 100000) (hd slot : Int) (v : V) (hss : ∀ o, M.at hd = some o → o.slots.length ≤ 100000) : Calls Tryz.prog 21 #[.pointer (some ⟨L.p, 0, none⟩), .int .i64 hd, .int .i64 slot, v.val] w fun e w' => e = .returned (.bool (M.canSet hd slot)) ∧ MemAt w' L (M.set hd slot v) ∧ Keep L.own w w' := by
  have hb := below_alloc w (.cells #[.int .i64 v.t, .int .i64 v.n] 34)
  have H1 := h.below hb
  unfold Mm.canSet Mm.set V.val
  cases ho : M.at hd with
  | none =>
    have HA := Lib.hid (at_none H1 hs ho)
    refine Calls.mono (R := fun e w' => e = .returned (.bool false) ∧ w' = w.alloc (.cells #[.int .i64 v.t, .int .i64 v.n] 34)) ?_ ?_
    · clear h ho H1 hb
      go_enter Tryz.func21, Tryz.ntmps21
      go_wp2_with fail
      refine HA.out.mono ?_
      rintro e w1 ⟨rfl, rfl⟩
      go_wp2_with fail
      go_ret
      exact ⟨rfl, rfl⟩
    · rintro e w1 ⟨rfl, rfl⟩
      refine ⟨rfl, ?_, Keep.of_below hb⟩
      split
      · rw [upd_none ho]; exact H1
      · exact H1
  | some o =>
    obtain ⟨i, b, sv, g, c, rfl, hi, hcs, hob, hat, -, -⟩ := H1.some_at ho
    have HA := Lib.hid (at_some H1 hs hi hcs hob)
    have hn := hss o ho
    by_cases hr : 0 ≤ slot ∧ slot < o.slots.length
    · obtain ⟨j, rfl⟩ := Int.eq_ofNat_of_zero_le hr.1
      have hj : j < o.slots.length := by omega
      obtain ⟨q, cc, rfl⟩ := hat.shape (by omega)
      refine Calls.mono (R := fun e w' => e = .returned (.bool true) ∧ w' = (((w.alloc (.cells #[.int .i64 v.t, .int .i64 v.n] 34)).setCell ⟨q, j * 2, none⟩ (.int .i64 v.t)).setCell ⟨q, j * 2 + 1, none⟩ (.int .i64 v.n)).drew) ?_ ?_
      · have c3 : (w.alloc (.cells #[.int .i64 v.t, .int .i64 v.n] 34)).cell? ⟨b, 3, none⟩ = some _ := hat.box.cell 3
        obtain ⟨u, hu⟩ : ∃ u, o.slots[j]? = some u := ⟨o.slots[j], List.getElem?_eq_getElem _⟩
        obtain ⟨f0, f1⟩ := flatV_at _ _ _ hu
        have d0 := hat.row.cells (g := q) rfl _ _ f0
        have d1 := hat.row.cells (g := q) rfl _ _ f1
        rw [addr_add, Nat.zero_add] at d0 d1
        have g0 := row_free hat.row (g := q) rfl (j * 2)
        have g1 := row_free hat.row (g := q) rfl (j * 2 + 1)
        obtain ⟨N, hN⟩ : ∃ N, N = o.slots.length := ⟨_, rfl⟩
        rw [← hN] at c3 hn hj
        clear h ho hat hcs hob hN H1 hb hr hu f0 f1 hss
        go_enter Tryz.func21, Tryz.ntmps21
        go_wp2_with fail
        refine HA.out.mono ?_
        rintro e w1 ⟨rfl, rfl⟩
        go_wp2_with fail
        go_region
        all_goals go_wp2_with fail
        all_goals (
          go_ret
          exact ⟨rfl, rfl⟩)
      · rintro e w1 ⟨rfl, rfl⟩
        refine ⟨by show _ = Ending.returned (Value.bool (decide (0 ≤ (j : Int) ∧ (j : Int) < o.slots.length))); rw [decide_eq_true hr], ?_⟩
        rw [if_pos hr.1, upd_some hob, Int.toNat_natCast]
        obtain ⟨a1, a2⟩ := hat.slot j hj v
        obtain ⟨b1, b2⟩ := H1.turn hcs hob a1 a2
        refine ⟨b1.below (below_drewN (Below.refl _ _) 1), ?_⟩
        exact ((Keep.of_below (B := L.own) hb).trans b2).trans (Keep.of_below (below_drewN (Below.refl _ _) 1))
    · refine Calls.mono (R := fun e w' => e = .returned (.bool false) ∧ w' = w.alloc (.cells #[.int .i64 v.t, .int .i64 v.n] 34)) ?_ ?_
      · have c3 : (w.alloc (.cells #[.int .i64 v.t, .int .i64 v.n] 34)).cell? ⟨b, 3, none⟩ = some sv := hat.box.cell 3
        obtain ⟨a, cc, hsv⟩ := row_slice hat.row
        rw [hsv] at c3
        obtain ⟨N, hN⟩ : ∃ N, N = o.slots.length := ⟨_, rfl⟩
        rw [← hN] at c3 hn hr
        clear h ho hat hcs hob hN H1 hb hss hsv
        have hr2 : slot < 0 ∨ (¬ slot < 0 ∧ (N : Int) ≤ slot) := by omega
        clear hr
        rcases hr2 with h0 | ⟨h0, h1⟩
        all_goals
          go_enter Tryz.func21, Tryz.ntmps21
          go_wp2_with fail
          refine HA.out.mono ?_
          rintro e w1 ⟨rfl, rfl⟩
          go_wp2_with fail
          go_ret
          exact ⟨rfl, rfl⟩
      · rintro e w1 ⟨rfl, rfl⟩
        refine ⟨by show _ = Ending.returned (Value.bool (decide (0 ≤ slot ∧ slot < o.slots.length))); rw [decide_eq_false hr], ?_, Keep.of_below hb⟩
        split
        · rename_i h0
          have e9 : o.slots.set slot.toNat v = o.slots := List.set_eq_of_length_le (by omega)
          rw [upd_some hob, e9]
          have : M.obs.set i (some o) = M.obs := by
            obtain ⟨hlt, e⟩ := List.getElem?_eq_some_iff.1 hob
            conv => lhs; rw [← e]
            exact List.set_getElem_self hlt
          show MemAt _ L { M with obs := M.obs.set i (some o) }
          rw [this]
          exact H1
        · exact H1
end Go.Proofs.YtminbemdcanakaaGreat
/- Entries are cleared. -/
namespace Go.Proofs.YtminbemdcanakaaGreat
open Go.RowKit
set_option linter.unusedVariables false
set_option linter.unusedSimpArgs false

variable {w : World} {L : ML} {M : Mm}
theorem set_same {M : Mm} {i : Nat} {o : Ob} (hob : M.obs[i]? = some (some o)) : ({ M with obs := M.obs.set i (some o) } : Mm) = M := by
  have : M.obs.set i (some o) = M.obs := by
    obtain ⟨hlt, e⟩ := List.getElem?_eq_some_iff.1 hob
    conv => lhs; rw [← e]
    exact List.set_getElem_self hlt
  show Mm.mk (M.obs.set i (some o)) M.roots = M
  rw [this]
set_option maxHeartbeats 2000000 in
theorem clear_any (h : MemAt w L M) (hs : M.obs.length ≤ 100000) (hd slot : Int) (key : Bool) (hss : ∀ o, M.at hd = some o → o.slots.length ≤ 100000) : Calls Tryz.prog 29 #[.pointer (some ⟨L.p, 0, none⟩), .int .i64 hd, .int .i64 slot, .bool key] w fun e w' => e = .returned (.tuple #[]) ∧ MemAt w' L (M.clear hd slot key) ∧ Keep L.own w w' := by
  unfold Mm.clear
  cases ho : M.at hd with
  | none =>
    have HA := Lib.hid (at_none h hs ho)
    refine Calls.mono (R := fun e w' => e = .returned (.tuple #[]) ∧ w' = w) ?_ ?_
    · clear h ho
      go_enter Tryz.func29, Tryz.ntmps29
      go_wp2_with fail
      refine HA.out.mono ?_
      rintro e w1 ⟨rfl, rfl⟩
      go_wp2_with fail
      first | go_end0 | refine bodyPost_ret (results_none rfl _ _ _) rfl ?_
      exact ⟨rfl, rfl⟩
    · rintro e w1 ⟨rfl, rfl⟩
      rw [upd_none ho]
      exact ⟨rfl, h, Keep.refl _ _⟩
  | some o =>
    obtain ⟨i, b, sv, g, c, rfl, hi, hcs, hob, hat, -, -⟩ := h.some_at ho
    have HA := Lib.hid (at_some h hs hi hcs hob)
    have hn := hss o ho
    have c3 : w.cell? ⟨b, 3, none⟩ = some sv := hat.box.cell 3
    rw [upd_some hob]
    by_cases hr : slot < 0 ∨ (o.slots.length : Int) ≤ slot ∨ (key = true ∧ slot < 1)
    · have e9 : clearSlots o.slots slot key = o.slots := by unfold clearSlots; rw [if_pos hr]
      rw [e9, set_same hob]
      refine Calls.mono (R := fun e w' => e = .returned (.tuple #[]) ∧ w' = w) ?_ ?_
      · obtain ⟨a, cc, hsv⟩ := row_slice hat.row
        rw [hsv] at c3
        obtain ⟨N, hN⟩ : ∃ N, N = o.slots.length := ⟨_, rfl⟩
        rw [← hN] at c3 hn hr
        clear h ho hat hcs hob hN hss hsv e9
        have hr2 : slot < 0 ∨ (¬ slot < 0 ∧ (N : Int) ≤ slot) ∨ (¬ slot < 0 ∧ ¬ (N : Int) ≤ slot ∧ key = true ∧ slot < 1) := by
          by_cases h1 : slot < 0
          · exact .inl h1
          · by_cases h2 : (N : Int) ≤ slot
            · exact .inr (.inl ⟨h1, h2⟩)
            · rcases hr with h3 | h3 | h3
              · exact absurd h3 h1
              · exact absurd h3 h2
              · exact .inr (.inr ⟨h1, h2, h3⟩)
        clear hr
        rcases hr2 with h0 | ⟨h0, h1⟩ | ⟨h0, h1, rfl, h2⟩
        all_goals
          go_enter Tryz.func29, Tryz.ntmps29
          go_wp2_with fail
          refine HA.out.mono ?_
          rintro e w1 ⟨rfl, rfl⟩
          go_wp2_with fail
          first | go_end0 | refine bodyPost_ret (results_none rfl _ _ _) rfl ?_
          exact ⟨rfl, rfl⟩
      · rintro e w1 ⟨rfl, rfl⟩
        exact ⟨rfl, h, Keep.refl _ _⟩
    · obtain ⟨j, rfl⟩ : ∃ j : Nat, slot = (j : Int) := Int.eq_ofNat_of_zero_le (by omega)
      have hj : j < o.slots.length := by omega
      obtain ⟨q, cc, rfl⟩ := hat.shape (by omega)
      obtain ⟨u, hu⟩ : ∃ u, o.slots[j]? = some u := ⟨o.slots[j], List.getElem?_eq_getElem _⟩
      obtain ⟨f0, f1⟩ := flatV_at _ _ _ hu
      have d0 := hat.row.cells (g := q) rfl _ _ f0
      have d1 := hat.row.cells (g := q) rfl _ _ f1
      rw [addr_add, Nat.zero_add] at d0 d1
      have g0 := row_free hat.row (g := q) rfl (j * 2)
      have g1 := row_free hat.row (g := q) rfl (j * 2 + 1)
      obtain ⟨a1, a2⟩ := hat.slot j hj nilV
      cases key with
      | false =>
        have e9 : clearSlots o.slots (j : Int) false = o.slots.set j nilV := by unfold clearSlots; rw [if_neg hr]; rfl
        rw [e9]
        refine Calls.mono (R := fun e w' => e = .returned (.tuple #[]) ∧ w' = ((w.setCell ⟨q, j * 2, none⟩ (.int .i64 0)).setCell ⟨q, j * 2 + 1, none⟩ (.int .i64 0))) ?_ ?_
        · obtain ⟨N, hN⟩ : ∃ N, N = o.slots.length := ⟨_, rfl⟩
          rw [← hN] at c3 hn hj
          clear h ho hat hcs hob hN hr hu f0 f1 hss a1 a2 e9
          go_enter Tryz.func29, Tryz.ntmps29
          go_wp2_with fail
          refine HA.out.mono ?_
          rintro e w1 ⟨rfl, rfl⟩
          go_wp2_with fail
          all_goals (try go_region)
          all_goals go_wp2_with fail
          all_goals (
            first | go_end0 | refine bodyPost_ret (results_none rfl _ _ _) rfl ?_
            exact ⟨rfl, rfl⟩)
        · rintro e w1 ⟨rfl, rfl⟩
          obtain ⟨b1, b2⟩ := h.turn hcs hob a1 a2
          exact ⟨rfl, b1, b2⟩
      | true =>
        have hj1 : ¬ ((j : Int) < 1) := fun e => hr (.inr (.inr ⟨rfl, e⟩))
        obtain ⟨m, rfl⟩ : ∃ m, j = m + 1 := ⟨j - 1, by omega⟩
        have e9 : clearSlots o.slots ((m + 1 : Nat) : Int) true = (o.slots.set (m + 1) nilV).modify m fun v => { v with t := 11 } := by
          unfold clearSlots
          rw [if_neg hr]
          show (o.slots.set (m + 1) nilV).modify (((m + 1 : Nat) : Int) - 1).toNat _ = _
          rw [show (((m + 1 : Nat) : Int) - 1).toNat = m by omega]
        rw [e9]
        obtain ⟨a3, a4⟩ := a1.slotT m (by rw [List.length_set]; omega) 11
        refine Calls.mono (R := fun e w' => e = .returned (.tuple #[]) ∧ w' = ((w.setCell ⟨q, (m + 1) * 2, none⟩ (.int .i64 0)).setCell ⟨q, (m + 1) * 2 + 1, none⟩ (.int .i64 0)).setCell ⟨q, m * 2, none⟩ (.int .i64 11)) ?_ ?_
        · have c3' : ((w.setCell ⟨q, (m + 1) * 2, none⟩ (.int .i64 0)).setCell ⟨q, (m + 1) * 2 + 1, none⟩ (.int .i64 0)).cell? ⟨b, 3, none⟩ = some _ := a1.box.cell 3
          have g2 := row_free hat.row (g := q) rfl (m * 2)
          obtain ⟨u2, hu2⟩ : ∃ u, o.slots[m]? = some u := ⟨o.slots[m], List.getElem?_eq_getElem _⟩
          obtain ⟨f2, -⟩ := flatV_at _ _ _ hu2
          have d2 := hat.row.cells (g := q) rfl _ _ f2
          rw [addr_add, Nat.zero_add] at d2
          obtain ⟨N, hN⟩ : ∃ N, N = o.slots.length := ⟨_, rfl⟩
          have hbq : b ≠ q := fun e => hat.box.ne_row hat.row (by decide) (k := q) rfl e.symm
          rw [← hN] at c3 hn hj c3'
          clear h ho hat hcs hob hN hr hu f0 f1 hss a1 a2 e9 a3 a4 hu2 f2
          go_enter Tryz.func29, Tryz.ntmps29
          go_wp2_with fail
          refine HA.out.mono ?_
          rintro e w1 ⟨rfl, rfl⟩
          go_wp2_with fail
          all_goals (try go_region)
          all_goals go_wp2_with fail
          all_goals (
            first | go_end0 | refine bodyPost_ret (results_none rfl _ _ _) rfl ?_
            exact ⟨rfl, rfl⟩)
        · rintro e w1 ⟨rfl, rfl⟩
          obtain ⟨b1, b2⟩ := h.turn (o' := { o with slots := (o.slots.set (m + 1) nilV).modify m fun v => { v with t := 11 } }) hcs hob a3 (a2.trans a4)
          exact ⟨rfl, b1, b2⟩
end Go.Proofs.YtminbemdcanakaaGreat
