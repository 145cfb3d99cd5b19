/- The reference's objects: how they lie. -/
import Derived.Test.YtminbemdcanakaaGreatMP
import Derived.Test.YtminbemdcanakaaGreatME
import Derived.Test.YtminbemdcanakaaGreatMK
import Derived.Test.YtminbemdcanakaaGreatMC
import Derived.Laws.AppendOwnNone
namespace Go.Proofs.YtminbemdcanakaaGreat
open Go.RowKit
set_option linter.unusedVariables false
set_option linter.unusedSimpArgs false

def rcL : Option Ob → Value → List Value
  | none, _ => [.int .i64 0, .int .i64 0, .int .i64 0, .slice none 0 0, .int .i64 0, .int .i64 0, .int .i64 0, .int .i64 0, .bool false]
  | some o, sv => [.int .i64 o.kind, .int .i64 o.weak, .int .i64 o.array, sv, .int .i64 o.fin, .int .i64 0, .int .i64 o.col, .int .i64 o.age, .bool true]
abbrev RC : Type := Option Ob × Value
def rcF (x : RC) : List Value := rcL x.1 x.2
theorem rcF_len (x : RC) : (rcF x).length = 9 := by obtain ⟨o, sv⟩ := x; cases o <;> rfl
def flatR (l : List RC) : List Value := l.flatMap rcF
theorem flatR_len (l : List RC) : (flatR l).length = l.length * 9 := by
  induction l with
  | nil => rfl
  | cons x l ih => unfold flatR at *; rw [List.flatMap_cons, List.length_append, ih, rcF_len, List.length_cons]; omega
theorem flatR_at : ∀ (l : List RC) (j : Nat) (x : RC), l[j]? = some x → ∀ k, k < 9 → (flatR l)[j * 9 + k]? = (rcF x)[k]? := by
  intro l
  induction l with
  | nil => intro j x h; simp at h
  | cons y l ih =>
    intro j x h k hk
    unfold flatR
    rw [List.flatMap_cons]
    cases j with
    | zero =>
      simp only [List.getElem?_cons_zero, Option.some.injEq] at h
      subst h
      rw [Nat.zero_mul, Nat.zero_add, List.getElem?_append_left (by rw [rcF_len]; omega)]
    | succ j =>
      rw [List.getElem?_cons_succ] at h
      rw [List.getElem?_append_right (by rw [rcF_len]; omega), show (j + 1) * 9 + k - (rcF y).length = j * 9 + k by rw [rcF_len]; omega]
      exact ih j x h k hk
theorem flatR_set : ∀ (l : List RC) (j : Nat) (x x' : RC) (k : Nat) (u : Value), l[j]? = some x → k < 9 → rcF x' = (rcF x).set k u → (flatR l).set (j * 9 + k) u = flatR (l.set j x') := by
  intro l
  induction l with
  | nil => intro j x x' k u h; simp at h
  | cons y l ih =>
    intro j x x' k u h hk he
    unfold flatR
    rw [List.flatMap_cons]
    cases j with
    | zero =>
      simp only [List.getElem?_cons_zero, Option.some.injEq] at h
      subst h
      rw [Nat.zero_mul, Nat.zero_add, List.set_append_left _ _ (by rw [rcF_len]; omega), ← he, List.set_cons_zero, List.flatMap_cons]
    | succ j =>
      rw [List.getElem?_cons_succ] at h
      rw [List.set_append_right _ _ (by rw [rcF_len]; omega), show (j + 1) * 9 + k - (rcF y).length = j * 9 + k by rw [rcF_len]; omega, List.set_cons_succ, List.flatMap_cons]
      congr 1
      exact ih j x x' k u h hk he
/-- Where it lies. -/
structure RL where
  p : Nat
  l : Value
  rv : Value
  svs : List Value
def RL.own (L : RL) (k : Nat) : Prop := k = L.p ∨ L.l.ownBlock = some k ∨ L.rv.ownBlock = some k ∨ ∃ (i : Nat) (sv : Value), L.svs[i]? = some sv ∧ sv.ownBlock = some k
structure RMAt (w : World) (L : RL) (M : Mm) : Prop where
  box : Box w L.p [L.l, L.rv] 44
  row : w.ownsRow 0 116 9 L.l M.obs.length (flatR (M.obs.zip L.svs))
  roots : w.ownsRow 0 34 2 L.rv M.roots.length (flatV M.roots)
  len : L.svs.length = M.obs.length
  sl : ∀ (i : Nat) (o : Ob) (sv : Value), M.obs[i]? = some (some o) → L.svs[i]? = some sv → w.ownsRow 0 34 2 sv o.slots.length (flatV o.slots)
  no : ∀ (i : Nat) (sv : Value), M.obs[i]? = some none → L.svs[i]? = some sv → sv = .slice none 0 0
  inj : ∀ (i j : Nat) (sv sv' : Value), L.svs[i]? = some sv → L.svs[j]? = some sv' → i ≠ j → ∀ k, sv.ownBlock = some k → sv'.ownBlock ≠ some k
  sep : ∀ (i : Nat) (sv : Value), L.svs[i]? = some sv → ∀ k, L.rv.ownBlock = some k → sv.ownBlock ≠ some k

section
variable {w w' : World} {L : RL} {M : Mm}
theorem RMAt.svOb (h : RMAt w L M) {i : Nat} {sv : Value} (hs : L.svs[i]? = some sv) {k : Nat} (hk : sv.ownBlock = some k) : ∃ o, M.obs[i]? = some (some o) ∧ w.ownsRow 0 34 2 sv o.slots.length (flatV o.slots) := by
  have hi : i < M.obs.length := by rw [← h.len]; exact (List.getElem?_eq_some_iff.1 hs).1
  cases ho : M.obs[i]? with
  | none => rw [List.getElem?_eq_none_iff] at ho; omega
  | some x => cases x with
    | none => rw [h.no i sv ho hs] at hk; cases hk
    | some o => exact ⟨o, rfl, h.sl i o sv ho hs⟩
theorem RMAt.own_lt (h : RMAt w L M) {k : Nat} (hk : L.own k) : k < w.heap.size := by
  rcases hk with rfl | hk | hk | ⟨i, sv, hi, hk⟩
  · exact h.box.lt
  · exact (h.row.lt k hk).2
  · exact (h.roots.lt k hk).2
  · obtain ⟨o, -, hr⟩ := h.svOb hi hk
    exact (hr.lt k hk).2
theorem RMAt.of_blocks (h : RMAt w L M) (hs : w.heap.size ≤ w'.heap.size) (hb : ∀ k, L.own k → w'.heap[k]? = w.heap[k]?) : RMAt w' L M :=
  ⟨h.box.of_block (hb _ (.inl rfl)), ownsRow_of_block h.row fun k hk => hb k (.inr (.inl hk)), ownsRow_of_block h.roots fun k hk => hb k (.inr (.inr (.inl hk))), h.len,
    fun i o sv ho hi => ownsRow_of_block (h.sl i o sv ho hi) fun k hk => hb k (.inr (.inr (.inr ⟨i, sv, hi, hk⟩))), h.no, h.inj, h.sep⟩
theorem RMAt.below (h : RMAt w L M) (hb : Below w.heap.size w w') : RMAt w' L M := h.of_blocks hb.size fun k hk => hb.block k (h.own_lt hk)
theorem RMAt.keep {B : Nat → Prop} (h : RMAt w L M) (hk : Keep B w w') (hB : ∀ k, L.own k → ¬ B k) : RMAt w' L M := h.of_blocks hk.size fun k ho => hk.block k (h.own_lt ho) (hB k ho)
theorem RMAt.cells (h : RMAt w L M) : w.cell? ⟨L.p, 0, none⟩ = some L.l ∧ w.cell? ⟨L.p, 1, none⟩ = some L.rv := ⟨h.box.cell 0, h.box.cell 1⟩
theorem zip_at {obs : List (Option Ob)} {svs : List Value} {i : Nat} {x : Option Ob} {sv : Value} (hx : obs[i]? = some x) (hs : svs[i]? = some sv) : (obs.zip svs)[i]? = some (x, sv) := by
  rw [List.getElem?_zip_eq_some]; exact ⟨hx, hs⟩
/-- An entry: where it lies. -/
theorem RMAt.entry (h : RMAt w L M) {i : Nat} {x : Option Ob} (hx : M.obs[i]? = some x) :
    ∃ (sv : Value) (g c : Nat), L.svs[i]? = some sv ∧ L.l = .slice (some ⟨g, 0, none⟩) M.obs.length c ∧ ∀ k u, (rcL x sv)[k]? = some u → w.cell? ⟨g, i * 9 + k, none⟩ = some u := by
  have hi : i < M.obs.length := (List.getElem?_eq_some_iff.1 hx).1
  obtain ⟨sv, hs⟩ : ∃ sv, L.svs[i]? = some sv := ⟨_, List.getElem?_eq_getElem (by rw [h.len]; exact hi)⟩
  obtain ⟨g, c, ha, hcell⟩ := row_at h.row (by omega)
  refine ⟨sv, g, c, hs, ha, fun k u hu => hcell _ _ ?_⟩
  have hk : k < 9 := by have := (List.getElem?_eq_some_iff.1 hu).1; have e : (rcL x sv).length = 9 := rcF_len (x, sv); omega
  rw [flatR_at _ _ _ (zip_at hx hs) k hk]
  exact hu
theorem RMAt.some_at (h : RMAt w L M) {hd : Int} {o : Ob} (ho : M.at hd = some o) :
    ∃ (i : Nat) (sv : Value) (g c : Nat), hd = (i : Int) + 1 ∧ i < M.obs.length ∧ L.svs[i]? = some sv ∧ M.obs[i]? = some (some o) ∧ L.l = .slice (some ⟨g, 0, none⟩) M.obs.length c ∧ (∀ k u, (rcL (some o) sv)[k]? = some u → w.cell? ⟨g, i * 9 + k, none⟩ = some u) ∧ w.ownsRow 0 34 2 sv o.slots.length (flatV o.slots) := by
  obtain ⟨i, rfl, hi⟩ := at_spot ho
  obtain ⟨sv, g, c, hs, hl, hc⟩ := h.entry hi
  exact ⟨i, sv, g, c, rfl, (List.getElem?_eq_some_iff.1 hi).1, hs, hi, hl, hc, h.sl i o sv hi hs⟩
theorem RMAt.none_at (h : RMAt w L M) {hd : Int} (ho : M.at hd = none) :
    hd < 1 ∨ (1 ≤ hd ∧ (M.obs.length : Int) < hd) ∨ ∃ (i g c : Nat), hd = (i : Int) + 1 ∧ i < M.obs.length ∧ L.l = .slice (some ⟨g, 0, none⟩) M.obs.length c ∧ (∀ k u, (rcL none (.slice none 0 0))[k]? = some u → w.cell? ⟨g, i * 9 + k, none⟩ = some u) := by
  by_cases h1 : hd < 1
  · exact .inl h1
  · by_cases h2 : (M.obs.length : Int) < hd
    · exact .inr (.inl ⟨by omega, h2⟩)
    · right; right
      have hlt : (hd - 1).toNat < M.obs.length := by omega
      have hob : M.obs[(hd - 1).toNat]? = some none := by
        unfold Mm.at at ho
        rw [if_pos (by omega), List.getElem?_eq_getElem hlt] at ho
        rw [List.getElem?_eq_getElem hlt]
        simp only [Option.join_some] at ho
        rw [ho]
      obtain ⟨sv, g, c, hs, hl, hc⟩ := h.entry hob
      exact ⟨(hd - 1).toNat, g, c, by omega, hlt, hl, fun k u hu => hc k u hu⟩
/-- The list's block is none of the others. -/
theorem RMAt.ne_row (h : RMAt w L M) {g : Nat} (hg : L.l.ownBlock = some g) : L.p ≠ g ∧ L.rv.ownBlock ≠ some g ∧ ∀ (i : Nat) (sv : Value), L.svs[i]? = some sv → sv.ownBlock ≠ some g := by
  obtain ⟨cur, hc⟩ := ownsRow_type h.row hg
  refine ⟨fun e => h.box.ne_row h.row (by decide) hg e.symm, fun e => ?_, fun i sv hi e => ?_⟩
  · obtain ⟨cur2, hc2⟩ := ownsRow_type h.roots e
    rw [hc] at hc2
    simp at hc2
  · obtain ⟨o, -, hr⟩ := h.svOb hi e
    obtain ⟨cur2, hc2⟩ := ownsRow_type hr e
    rw [hc] at hc2
    simp at hc2
theorem zip_set {obs : List (Option Ob)} {svs : List Value} (i : Nat) (x : Option Ob) (sv : Value) : (obs.zip svs).set i (x, sv) = (obs.set i x).zip (svs.set i sv) := by
  show (List.zipWith Prod.mk obs svs).set i (x, sv) = List.zipWith Prod.mk (obs.set i x) (svs.set i sv)
  apply List.ext_getElem?
  intro j
  simp only [List.getElem?_set, List.getElem?_zipWith, List.length_zipWith]
  by_cases hij : i = j
  · subst hij
    simp only [if_true]
    by_cases h1 : i < obs.length
    · by_cases h2 : i < svs.length
      · simp [h1, h2]; omega
      · simp [h1, h2]; omega
    · simp [h1]; omega
  · simp [hij]
theorem set_self {α : Type} {l : List α} {i : Nat} {x : α} (h : l[i]? = some x) : l.set i x = l := by
  apply List.ext_getElem?
  intro j
  rw [List.getElem?_set]
  split
  · rename_i e; subst e; split
    · exact h.symm
    · rename_i hlt; rw [List.getElem?_eq_none (by omega)] at h; cases h
  · rfl
theorem set_at {α : Type} {l : List α} {i j : Nat} {x y : α} (h : (l.set i x)[j]? = some y) : (j = i ∧ y = x) ∨ (j ≠ i ∧ l[j]? = some y) := by
  by_cases e : i = j
  · subst e
    rw [List.getElem?_set] at h
    rw [if_pos rfl] at h
    split at h
    · simp only [Option.some.injEq] at h; exact .inl ⟨rfl, h.symm⟩
    · cases h
  · rw [List.getElem?_set_ne e] at h
    exact .inr ⟨fun y => e y.symm, h⟩
/-- One field of an object is turned. -/
theorem RMAt.field (h : RMAt w L M) {i g c : Nat} {o o' : Ob} {sv : Value} (ho : M.obs[i]? = some (some o)) (hs : L.svs[i]? = some sv) (hl : L.l = .slice (some ⟨g, 0, none⟩) M.obs.length c) (k : Nat) (hk : k < 9) (u : Value)
    (hx : rcL (some o') sv = (rcL (some o) sv).set k u) (hsl : o'.slots = o.slots) :
    RMAt (w.setCell ⟨g, i * 9 + k, none⟩ u) L { M with obs := M.obs.set i (some o') } ∧ Keep (fun b => b = g) w (w.setCell ⟨g, i * 9 + k, none⟩ u) := by
  have hg : L.l.ownBlock = some g := by rw [hl]; rfl
  obtain ⟨n1, n2, n3⟩ := h.ne_row hg
  have hi := (List.getElem?_eq_some_iff.1 ho).1
  refine ⟨⟨h.box.setOther _ n1 _, ?_, ownsRow_setCell_other h.roots n2 _, ?_, ?_, ?_, h.inj, h.sep⟩, Keep.setCell (B := fun b => b = g) (p := ⟨g, i * 9 + k, none⟩) (Keep.refl _ w) (fun _ => rfl) _⟩
  · have h1 := ownsRow_set h.row hg (i * 9 + k) (by omega) u
    rw [flatR_set _ i (some o, sv) (some o', sv) k u (zip_at ho hs) hk hx, zip_set, set_self hs] at h1
    show World.ownsRow _ 0 _ 9 _ (M.obs.set i (some o')).length _
    rw [List.length_set]
    exact h1
  · show L.svs.length = (M.obs.set i (some o')).length
    rw [List.length_set]; exact h.len
  · intro j o2 sv2 hj hj2
    rcases set_at (show (M.obs.set i (some o'))[j]? = some (some o2) from hj) with ⟨rfl, e⟩ | ⟨-, e⟩
    · simp only [Option.some.injEq] at e
      subst e
      rw [hsl]
      exact ownsRow_setCell_other (h.sl j o sv2 ho hj2) (n3 j sv2 hj2) _
    · exact ownsRow_setCell_other (h.sl j o2 sv2 e hj2) (n3 j sv2 hj2) _
  · intro j sv2 hj hj2
    rcases set_at (show (M.obs.set i (some o'))[j]? = some none from hj) with ⟨rfl, e⟩ | ⟨-, e⟩
    · cases e
    · exact h.no j sv2 e hj2
end
end Go.Proofs.YtminbemdcanakaaGreat
/- The reference's objects: the small calls. -/
namespace Go.Proofs.YtminbemdcanakaaGreat
open Go.RowKit
set_option linter.unusedVariables false
set_option linter.unusedSimpArgs false

variable {w w' : World} {L : RL} {M : Mm}
set_option maxHeartbeats 2000000 in
theorem ris_any (h : RMAt w L M) (hs : M.obs.length ≤ 100000) (hd : Int) : Calls Tryz.prog 78 #[.pointer (some ⟨L.p, 0, none⟩), .int .i64 hd] w fun e w' => SameB w (M.at hd).isSome e w' := by
  obtain ⟨c0, -⟩ := h.cells
  obtain ⟨la, lc, hl⟩ := row_slice h.row
  obtain ⟨N, hN⟩ : ∃ N, N = M.obs.length := ⟨_, rfl⟩
  cases ho : M.at hd with
  | none =>
    rcases h.none_at ho with h1 | ⟨h1, h2⟩ | ⟨i, g, c, rfl, hi, hl2, hc⟩
    · have e1 : decide (1 ≤ hd) = false := decide_eq_false (by omega)
      clear h ho
      go_enter Tryz.func78, Tryz.ntmps78
      go_wp2_with fail
      go_ret
      exact ⟨rfl, rfl⟩
    · rw [hl] at c0
      rw [← hN] at c0 h2
      have e1 : decide (1 ≤ hd) = true := decide_eq_true h1
      have e2 : decide (hd ≤ (N : Int)) = false := decide_eq_false (by omega)
      clear h ho
      go_enter Tryz.func78, Tryz.ntmps78
      go_wp2_with fail
      go_ret
      exact ⟨rfl, rfl⟩
    · rw [hl2] at c0
      have c8 := hc 8 _ rfl
      rw [← hN] at c0 hi hs
      have e1 : decide (1 ≤ (i : Int) + 1) = true := decide_eq_true (by omega)
      have e2 : decide ((i : Int) + 1 ≤ (N : Int)) = true := decide_eq_true (by omega)
      clear h ho hl2 hc hl
      go_enter Tryz.func78, Tryz.ntmps78
      go_wp2_with fail
      go_ret
      exact ⟨rfl, rfl⟩
  | some o =>
    obtain ⟨i, sv, g, c, rfl, hi, hsv, hob, hl2, hc, hrow⟩ := h.some_at ho
    rw [hl2] at c0
    have c8 := hc 8 _ rfl
    rw [← hN] at c0 hi hs
    have e1 : decide (1 ≤ (i : Int) + 1) = true := decide_eq_true (by omega)
    have e2 : decide ((i : Int) + 1 ≤ (N : Int)) = true := decide_eq_true (by omega)
    clear h ho hl2 hc hl hsv hob hrow
    go_enter Tryz.func78, Tryz.ntmps78
    go_wp2_with fail
    go_ret
    exact ⟨rfl, rfl⟩
theorem infCell : (Tryz.prog.info? 116).map (·.size) = some 9 := by kernel_rfl
theorem res_cell9 {fn : Func} {p : Tmp} (h : fn.results = #[.cell p 116]) (tmps : Array Value) (W : World) (q : Nat) (hp : tmps.getD p undef = .pointer (some ⟨q, 0, none⟩)) {a b c d e f g i j : Value} (hb : Box W q [a, b, c, d, e, f, g, i, j] 116) : (results fn tmps).run Tryz.prog W = .ok (.agg #[a, b, c, d, e, f, g, i, j]) W := by
  refine results_cell_row h tmps W q 116 #[a, b, c, d, e, f, g, i, j] (0, 0) _ hp hb Tryz.underlying116 ?_ ?_
  · rfl
  · exact infCell
/-- An entry as a value. -/
def cellV (M : Mm) (hd : Int) (sv : Value) : Value := .agg #[.int .i64 (M.get hd).kind, .int .i64 (M.get hd).weak, .int .i64 (M.get hd).array, sv, .int .i64 (M.get hd).fin, .int .i64 0, .int .i64 (M.get hd).col, .int .i64 (M.get hd).age, .bool (M.at hd).isSome]
def GetP (w : World) (M : Mm) (hd : Int) (e : Ending) (w' : World) : Prop := ∃ sv, e = .returned (cellV M hd sv) ∧ RdV w' sv (M.get hd).slots ∧ Below w.heap.size w w'
set_option maxRecDepth 100000 in
set_option maxHeartbeats 2000000 in
theorem rget_any (h : RMAt w L M) (hs : M.obs.length ≤ 100000) (hd : Int) : Calls Tryz.prog 79 #[.pointer (some ⟨L.p, 0, none⟩), .int .i64 hd] w fun e w' => GetP w M hd e w' := by
  have hz := below_alloc w (.cells #[.int .i64 0, .int .i64 0, .int .i64 0, .slice none 0 0, .int .i64 0, .int .i64 0, .int .i64 0, .int .i64 0, .bool false] 116)
  have H1 := h.below hz
  have HIS := Lib.hid (ris_any H1 hs hd)
  obtain ⟨c0, -⟩ := H1.cells
  have HZ := Lib.hid hz
  obtain ⟨N, hN⟩ : ∃ N, N = M.obs.length := ⟨_, rfl⟩
  cases ho : M.at hd with
  | none =>
    rw [ho] at HIS
    have HB := Lib.hid (show Box (w.alloc (.cells #[.int .i64 0, .int .i64 0, .int .i64 0, .slice none 0 0, .int .i64 0, .int .i64 0, .int .i64 0, .int .i64 0, .bool false] 116)) w.heap.size [.int .i64 0, .int .i64 0, .int .i64 0, .slice none 0 0, .int .i64 0, .int .i64 0, .int .i64 0, .int .i64 0, .bool false] 116 from Box.new _ _ _)
    have HG := Lib.hid (show M.get hd = noOb from get_of_none ho)
    have HO := Lib.hid ho
    clear h H1 hz ho c0 hs
    go_enter Tryz.func79, Tryz.ntmps79
    go_wp2_with fail
    refine (HIS.out).mono ?_
    rintro x1 w1 ⟨rfl, hww⟩
    have hww' := hww.symm
    subst hww'
    clear hww
    go_wp2_with fail
    refine bodyPost_ret (res_cell9 rfl _ _ w.heap.size rfl HB.out) rfl ?_
    exact ⟨.slice none 0 0, by unfold cellV; rw [HG.out, HO.out]; rfl, by rw [HG.out]; exact .inl ⟨rfl, rfl, rfl⟩, HZ.out⟩
  | some o =>
    rw [ho] at HIS
    obtain ⟨i, sv, g, c, rfl, hi, hsv, hob, hl2, hc, hrow⟩ := h.some_at ho
    obtain ⟨sa, sc, rfl⟩ := row_slice hrow
    rw [hl2] at c0
    have z0 := hc 0 _ rfl
    have z1 := hc 1 _ rfl
    have z2 := hc 2 _ rfl
    have z3 := hc 3 _ rfl
    have z4 := hc 4 _ rfl
    have z5 := hc 5 _ rfl
    have z6 := hc 6 _ rfl
    have z7 := hc 7 _ rfl
    have z8 := hc 8 _ rfl
    simp only [Nat.add_zero] at z0
    replace z0 := Lib.cell?_alloc_some (.cells #[.int .i64 0, .int .i64 0, .int .i64 0, .slice none 0 0, .int .i64 0, .int .i64 0, .int .i64 0, .int .i64 0, .bool false] 116) z0
    replace z1 := Lib.cell?_alloc_some (.cells #[.int .i64 0, .int .i64 0, .int .i64 0, .slice none 0 0, .int .i64 0, .int .i64 0, .int .i64 0, .int .i64 0, .bool false] 116) z1
    replace z2 := Lib.cell?_alloc_some (.cells #[.int .i64 0, .int .i64 0, .int .i64 0, .slice none 0 0, .int .i64 0, .int .i64 0, .int .i64 0, .int .i64 0, .bool false] 116) z2
    replace z3 := Lib.cell?_alloc_some (.cells #[.int .i64 0, .int .i64 0, .int .i64 0, .slice none 0 0, .int .i64 0, .int .i64 0, .int .i64 0, .int .i64 0, .bool false] 116) z3
    replace z4 := Lib.cell?_alloc_some (.cells #[.int .i64 0, .int .i64 0, .int .i64 0, .slice none 0 0, .int .i64 0, .int .i64 0, .int .i64 0, .int .i64 0, .bool false] 116) z4
    replace z5 := Lib.cell?_alloc_some (.cells #[.int .i64 0, .int .i64 0, .int .i64 0, .slice none 0 0, .int .i64 0, .int .i64 0, .int .i64 0, .int .i64 0, .bool false] 116) z5
    replace z6 := Lib.cell?_alloc_some (.cells #[.int .i64 0, .int .i64 0, .int .i64 0, .slice none 0 0, .int .i64 0, .int .i64 0, .int .i64 0, .int .i64 0, .bool false] 116) z6
    replace z7 := Lib.cell?_alloc_some (.cells #[.int .i64 0, .int .i64 0, .int .i64 0, .slice none 0 0, .int .i64 0, .int .i64 0, .int .i64 0, .int .i64 0, .bool false] 116) z7
    replace z8 := Lib.cell?_alloc_some (.cells #[.int .i64 0, .int .i64 0, .int .i64 0, .slice none 0 0, .int .i64 0, .int .i64 0, .int .i64 0, .int .i64 0, .bool false] 116) z8
    rw [← hN] at c0 hi hs
    have HG := Lib.hid (show M.get ((i : Int) + 1) = o from get_of_at ho)
    have HO := Lib.hid ho
    have HR := Lib.hid (show RdV w (.slice sa o.slots.length sc) o.slots from rd_row hrow)
    clear h H1 hz ho hl2 hc hsv hob hrow
    go_enter Tryz.func79, Tryz.ntmps79
    go_wp2_with fail
    refine (HIS.out).mono ?_
    rintro x1 w1 ⟨rfl, hww⟩
    have hww' := hww.symm
    subst hww'
    clear hww
    go_wp2_with fail
    have hbx := Box.new w [.int .i64 o.kind, .int .i64 o.weak, .int .i64 o.array, .slice sa o.slots.length sc, .int .i64 o.fin, .int .i64 0, .int .i64 o.col, .int .i64 o.age, .bool true] 116
    refine bodyPost_ret (res_cell9 rfl _ _ w.heap.size rfl hbx) rfl ?_
    have hb2 := below_alloc w (.cells #[.int .i64 o.kind, .int .i64 o.weak, .int .i64 o.array, .slice sa o.slots.length sc, .int .i64 o.fin, .int .i64 0, .int .i64 o.col, .int .i64 o.age, .bool true] 116)
    refine ⟨.slice sa o.slots.length sc, by unfold cellV; rw [HG.out, HO.out]; rfl, ?_, hb2⟩
    rw [HG.out]
    exact Rd.below HR.out hb2
end Go.Proofs.YtminbemdcanakaaGreat
/- The reference's objects: they are turned. -/
namespace Go.Proofs.YtminbemdcanakaaGreat
open Go.RowKit
set_option linter.unusedVariables false
set_option linter.unusedSimpArgs false

variable {w w' : World} {L : RL} {M : Mm}
def RP (w : World) (L : RL) (M' : Mm) (v : Value) (e : Ending) (w' : World) : Prop := e = .returned v ∧ RMAt w' L M' ∧ Keep L.own w w'
set_option maxRecDepth 100000 in
set_option maxHeartbeats 2000000 in
theorem rput_any (h : RMAt w L M) (hs : M.obs.length ≤ 100000) (hd c a : Int) : Calls Tryz.prog 26 #[.pointer (some ⟨L.p, 0, none⟩), .int .i64 hd, .int .i64 c, .int .i64 a] w fun e w' => RP w L ((M.setCol hd c).setAge hd a) (.tuple #[]) e w' := by
  have HIS := Lib.hid (ris_any h hs hd)
  obtain ⟨c0, -⟩ := h.cells
  cases ho : M.at hd with
  | none =>
    rw [ho] at HIS
    have e1 : M.setCol hd c = M := upd_none ho _
    have e2 : M.setAge hd a = M := upd_none ho _
    have HR := Lib.hid (show RP w L ((M.setCol hd c).setAge hd a) (.tuple #[]) (.returned (.tuple #[])) w from ⟨rfl, by rw [e1, e2]; exact h, Keep.refl _ _⟩)
    clear h ho c0 hs e1 e2
    go_enter Tryz.func26, Tryz.ntmps26
    go_wp2_with fail
    refine (HIS.out).mono ?_
    rintro x1 w1 ⟨rfl, hww⟩
    have hww' := hww.symm
    subst hww'
    clear hww
    go_wp2_with fail
    first | go_end0 | refine bodyPost_ret (results_none rfl _ _ _) rfl ?_
    exact HR.out
  | some o =>
    rw [ho] at HIS
    obtain ⟨i, sv, g, cc, rfl, hi, hsv, hob, hl, hc, hrow⟩ := h.some_at ho
    have hg : L.l.ownBlock = some g := by rw [hl]; rfl
    obtain ⟨h1, k1⟩ := h.field (o' := { o with col := c }) hob hsv hl 6 (by decide) (.int .i64 c) rfl rfl
    have hob2 : ({ M with obs := M.obs.set i (some { o with col := c }) } : Mm).obs[i]? = some (some { o with col := c }) := List.getElem?_set_self hi
    obtain ⟨h2, k2⟩ := h1.field (o' := { o with col := c, age := a }) hob2 hsv (by rw [hl]; show _ = Value.slice _ (M.obs.set i _).length _; rw [List.length_set]) 7 (by decide) (.int .i64 a) rfl rfl
    have e1 : (M.setCol ((i : Int) + 1) c).setAge ((i : Int) + 1) a = { M with obs := (M.obs.set i (some { o with col := c })).set i (some { o with col := c, age := a }) } := by
      unfold Mm.setCol Mm.setAge
      rw [upd_some hob, upd_some hob2]
    have HR := Lib.hid (show RP w L ((M.setCol ((i : Int) + 1) c).setAge ((i : Int) + 1) a) (.tuple #[]) (.returned (.tuple #[])) ((w.setCell ⟨g, i * 9 + 6, none⟩ (.int .i64 c)).setCell ⟨g, i * 9 + 7, none⟩ (.int .i64 a)) from ⟨rfl, by rw [e1]; exact h2, (k1.trans k2).mono fun k _ e => by subst e; exact .inr (.inl hg)⟩)
    have z6 := hc 6 _ rfl
    have z7 := hc 7 _ rfl
    have f6 := row_free h.row hg (i * 9 + 6)
    have f7 := row_free h.row hg (i * 9 + 7)
    have n1 := (h.ne_row hg).1
    obtain ⟨N, hN⟩ : ∃ N, N = M.obs.length := ⟨_, rfl⟩
    rw [hl, ← hN] at c0
    rw [← hN] at hi hs
    clear h ho hl hc hsv hob hrow h1 k1 hob2 h2 k2 e1 hg hN
    go_enter Tryz.func26, Tryz.ntmps26
    go_wp2_with fail
    refine (HIS.out).mono ?_
    rintro x1 w1 ⟨rfl, hww⟩
    have hww' := hww.symm
    subst hww'
    clear hww
    go_wp2_with fail
    first | go_end0 | refine bodyPost_ret (results_none rfl _ _ _) rfl ?_
    exact HR.out
set_option maxRecDepth 100000 in
set_option maxHeartbeats 2000000 in
theorem rsetFin_any (h : RMAt w L M) (hs : M.obs.length ≤ 100000) (hd c : Int) : Calls Tryz.prog 28 #[.pointer (some ⟨L.p, 0, none⟩), .int .i64 hd, .int .i64 c] w fun e w' => RP w L (M.setFin hd c) (.tuple #[]) e w' := by
  have HIS := Lib.hid (ris_any h hs hd)
  obtain ⟨c0, -⟩ := h.cells
  cases ho : M.at hd with
  | none =>
    rw [ho] at HIS
    have e1 : M.setFin hd c = M := upd_none ho _
    have HR := Lib.hid (show RP w L (M.setFin hd c) (.tuple #[]) (.returned (.tuple #[])) w from ⟨rfl, by rw [e1]; exact h, Keep.refl _ _⟩)
    clear h ho c0 hs e1
    go_enter Tryz.func28, Tryz.ntmps28
    go_wp2_with fail
    refine (HIS.out).mono ?_
    rintro x1 w1 ⟨rfl, hww⟩
    have hww' := hww.symm
    subst hww'
    clear hww
    go_wp2_with fail
    first | go_end0 | refine bodyPost_ret (results_none rfl _ _ _) rfl ?_
    exact HR.out
  | some o =>
    rw [ho] at HIS
    obtain ⟨i, sv, g, cc, rfl, hi, hsv, hob, hl, hc, hrow⟩ := h.some_at ho
    have hg : L.l.ownBlock = some g := by rw [hl]; rfl
    obtain ⟨h1, k1⟩ := h.field (o' := { o with fin := c }) hob hsv hl 4 (by decide) (.int .i64 c) rfl rfl
    have e1 : M.setFin ((i : Int) + 1) c = { M with obs := M.obs.set i (some { o with fin := c }) } := by
      unfold Mm.setFin
      rw [upd_some hob]
    have HR := Lib.hid (show RP w L (M.setFin ((i : Int) + 1) c) (.tuple #[]) (.returned (.tuple #[])) (w.setCell ⟨g, i * 9 + 4, none⟩ (.int .i64 c)) from ⟨rfl, by rw [e1]; exact h1, k1.mono fun k _ e => by subst e; exact .inr (.inl hg)⟩)
    have z4 := hc 4 _ rfl
    have f4 := row_free h.row hg (i * 9 + 4)
    obtain ⟨N, hN⟩ : ∃ N, N = M.obs.length := ⟨_, rfl⟩
    rw [hl, ← hN] at c0
    rw [← hN] at hi hs
    clear h ho hl hc hsv hob hrow h1 k1 e1 hg hN
    go_enter Tryz.func28, Tryz.ntmps28
    go_wp2_with fail
    refine (HIS.out).mono ?_
    rintro x1 w1 ⟨rfl, hww⟩
    have hww' := hww.symm
    subst hww'
    clear hww
    go_wp2_with fail
    first | go_end0 | refine bodyPost_ret (results_none rfl _ _ _) rfl ?_
    exact HR.out
set_option maxHeartbeats 2000000 in
theorem rcells_any (h : RMAt w L M) (hs : M.obs.length ≤ 100000) (hd : Int) (hss : ∀ o, M.at hd = some o → o.slots.length ≤ 100000) : Calls Tryz.prog 82 #[.pointer (some ⟨L.p, 0, none⟩), .int .i64 hd] w fun e w' => SameI w (M.cells hd) e w' := by
  have HIS := Lib.hid (ris_any h hs hd)
  obtain ⟨c0, -⟩ := h.cells
  unfold Mm.cells
  cases ho : M.at hd with
  | none =>
    rw [ho] at HIS
    clear h ho c0 hs
    go_enter Tryz.func82, Tryz.ntmps82
    go_wp2_with fail
    refine (HIS.out).mono ?_
    rintro x1 w1 ⟨rfl, hww⟩
    have hww' := hww.symm
    subst hww'
    clear hww
    go_wp2_with fail
    go_ret
    exact ⟨rfl, rfl⟩
  | some o =>
    rw [ho] at HIS
    obtain ⟨i, sv, g, cc, rfl, hi, hsv, hob, hl, hc, hrow⟩ := h.some_at ho
    obtain ⟨sa, sc, rfl⟩ := row_slice hrow
    have z3 := hc 3 _ rfl
    have z5 := hc 5 _ rfl
    have hn := hss o ho
    obtain ⟨N, hN⟩ : ∃ N, N = M.obs.length := ⟨_, rfl⟩
    obtain ⟨K, hK⟩ : ∃ K, K = o.slots.length := ⟨_, rfl⟩
    rw [hl, ← hN] at c0
    rw [← hN] at hi hs
    rw [← hK] at z3 hn
    show Calls _ _ _ _ fun e w' => SameI w (1 + (o.slots.length : Int)) e w'
    rw [← hK]
    clear h ho hl hc hsv hob hrow hN hK hss
    go_enter Tryz.func82, Tryz.ntmps82
    go_wp2_with fail
    refine (HIS.out).mono ?_
    rintro x1 w1 ⟨rfl, hww⟩
    have hww' := hww.symm
    subst hww'
    clear hww
    go_wp2_with fail
    go_ret
    exact ⟨rfl, rfl⟩
end Go.Proofs.YtminbemdcanakaaGreat
/- The reference's objects: slots are turned; an object is gone. -/
namespace Go.Proofs.YtminbemdcanakaaGreat
open Go.RowKit
set_option linter.unusedVariables false
set_option linter.unusedSimpArgs false

variable {w w' : World} {L : RL} {M : Mm}
/-- A slots' row is turned. -/
theorem RMAt.slots (h : RMAt w L M) {i : Nat} {o : Ob} {sv : Value} (ho : M.obs[i]? = some (some o)) (hs : L.svs[i]? = some sv) {l' : List V} (hk : Keep (fun b => sv.ownBlock = some b) w w') (hr : w'.ownsRow 0 34 2 sv l'.length (flatV l')) :
    RMAt w' L { M with obs := M.obs.set i (some { o with slots := l' }) } ∧ Keep L.own w w' := by
  have hi := (List.getElem?_eq_some_iff.1 ho).1
  have hb := fun k (hk1 : k < w.heap.size) (hn : sv.ownBlock ≠ some k) => hk.block k hk1 hn
  refine ⟨⟨h.box.of_block (hb _ h.box.lt fun e => h.box.ne_row (h.sl i o sv ho hs) (by decide) e rfl), ?_, ownsRow_of_block h.roots fun k e => hb k (h.roots.lt k e).2 (h.sep i sv hs k e), ?_, ?_, ?_, h.inj, h.sep⟩, hk.mono fun k _ e => .inr (.inr (.inr ⟨i, sv, hs, e⟩))⟩
  · have h1 := ownsRow_of_block h.row fun k e => hb k (h.row.lt k e).2 ((h.ne_row e).2.2 i sv hs)
    have h2 := zip_set (obs := M.obs) (svs := L.svs) i (some { o with slots := l' }) sv
    rw [set_self hs] at h2
    show World.ownsRow _ 0 _ 9 _ (M.obs.set i _).length (flatR ((M.obs.set i _).zip L.svs))
    rw [List.length_set, ← h2]
    have h3 : flatR ((M.obs.zip L.svs).set i (some { o with slots := l' }, sv)) = flatR (M.obs.zip L.svs) := by
      have h4 := flatR_set (M.obs.zip L.svs) i (some o, sv) (some { o with slots := l' }, sv) 0 (.int .i64 o.kind) (zip_at ho hs) (by decide) rfl
      rw [← h4]
      exact set_self (by
        rw [flatR_at _ i (some o, sv) (zip_at ho hs) 0 (by decide)]
        rfl)
    rw [h3]
    exact h1
  · show L.svs.length = (M.obs.set i _).length
    rw [List.length_set]; exact h.len
  · intro j o2 sv2 hj hj2
    rcases set_at (show (M.obs.set i (some { o with slots := l' }))[j]? = some (some o2) from hj) with ⟨rfl, e⟩ | ⟨hne, e⟩
    · simp only [Option.some.injEq] at e
      subst e
      rw [hs] at hj2
      cases hj2
      exact hr
    · exact ownsRow_of_block (h.sl j o2 sv2 e hj2) fun k e2 => hb k ((h.sl j o2 sv2 e hj2).lt k e2).2 fun e3 => h.inj j i sv2 sv hj2 hs hne k e2 e3
  · intro j sv2 hj hj2
    rcases set_at (show (M.obs.set i (some { o with slots := l' }))[j]? = some none from hj) with ⟨rfl, e⟩ | ⟨-, e⟩
    · cases e
    · exact h.no j sv2 e hj2
/-- A value is put into a slot. -/
theorem row_slot {q n c : Nat} {l : List V} (h : w.ownsRow 0 34 2 (.slice (some ⟨q, 0, none⟩) n c) l.length (flatV l)) (j : Nat) (hj : j < l.length) (v : V) :
    ((w.setCell ⟨q, j * 2, none⟩ (.int .i64 v.t)).setCell ⟨q, j * 2 + 1, none⟩ (.int .i64 v.n)).ownsRow 0 34 2 (.slice (some ⟨q, 0, none⟩) n c) (l.set j v).length (flatV (l.set j v)) := by
  have h1 := ownsRow_set h (g := q) rfl (j * 2) (by omega) (.int .i64 v.t)
  have h2 := ownsRow_set h1 (g := q) rfl (j * 2 + 1) (by omega) (.int .i64 v.n)
  rw [flatV_set] at h2
  rw [List.length_set]
  exact h2
theorem row_slotT {q n c : Nat} {l : List V} (h : w.ownsRow 0 34 2 (.slice (some ⟨q, 0, none⟩) n c) l.length (flatV l)) (j : Nat) (hj : j < l.length) (t : Int) :
    (w.setCell ⟨q, j * 2, none⟩ (.int .i64 t)).ownsRow 0 34 2 (.slice (some ⟨q, 0, none⟩) n c) (l.modify j fun v => { v with t := t }).length (flatV (l.modify j fun v => { v with t := t })) := by
  have h1 := ownsRow_set h (g := q) rfl (j * 2) (by omega) (.int .i64 t)
  rw [flatV_setT] at h1
  rw [List.length_modify]
  exact h1
theorem row_shape {sv : Value} {l : List V} (h : w.ownsRow 0 34 2 sv l.length (flatV l)) (hn : 0 < l.length) : ∃ q c, sv = .slice (some ⟨q, 0, none⟩) l.length c := by
  obtain ⟨g, c, e, -⟩ := row_at h hn
  exact ⟨g, c, e⟩
set_option maxRecDepth 100000 in
set_option maxHeartbeats 4000000 in
theorem rset_any (h : RMAt w L M) (hs : M.obs.length ≤ 100000) (hd slot : Int) (v : V) (hss : ∀ o, M.at hd = some o → o.slots.length ≤ 100000) : Calls Tryz.prog 22 #[.pointer (some ⟨L.p, 0, none⟩), .int .i64 hd, .int .i64 slot, v.val] w fun e w' => RP w L (M.set hd slot v) (.bool (M.canSet hd slot)) e w' := by
  have hb := below_alloc w (.cells #[.int .i64 v.t, .int .i64 v.n] 34)
  have H1 := h.below hb
  have HIS := Lib.hid (ris_any H1 hs hd)
  unfold Mm.canSet Mm.set V.val
  cases ho : M.at hd with
  | none =>
    rw [ho] at HIS
    refine Calls.mono (R := fun e w' => e = .returned (.bool false) ∧ w' = w.alloc (.cells #[.int .i64 v.t, .int .i64 v.n] 34)) ?_ ?_
    · clear h ho H1 hb
      go_enter Tryz.func22, Tryz.ntmps22
      go_wp2_with fail
      refine (HIS.out).mono ?_
      rintro x1 w1 ⟨rfl, hww⟩
      have hww' := hww.symm
      subst hww'
      clear hww
      go_wp2_with fail
      go_ret
      exact ⟨rfl, rfl⟩
    · rintro e w1 ⟨rfl, rfl⟩
      refine ⟨rfl, ?_, Keep.of_below hb⟩
      split
      · rw [upd_none ho]; exact H1
      · exact H1
  | some o =>
    rw [ho] at HIS
    obtain ⟨i, sv, g, cc, rfl, hi, hsv, hob, hl, hc, hrow⟩ := H1.some_at ho
    obtain ⟨c0, -⟩ := H1.cells
    have z3 := hc 3 _ rfl
    have hn := hss o ho
    rw [hl] at c0
    by_cases hr : 0 ≤ slot ∧ slot < o.slots.length
    · obtain ⟨j, rfl⟩ := Int.eq_ofNat_of_zero_le hr.1
      have hj : j < o.slots.length := by omega
      obtain ⟨q, cc, rfl⟩ := row_shape hrow (by omega)
      refine Calls.mono (R := fun e w' => e = .returned (.bool true) ∧ w' = (((w.alloc (.cells #[.int .i64 v.t, .int .i64 v.n] 34)).setCell ⟨q, j * 2, none⟩ (.int .i64 v.t)).setCell ⟨q, j * 2 + 1, none⟩ (.int .i64 v.n)).drew) ?_ ?_
      · obtain ⟨u, hu⟩ : ∃ u, o.slots[j]? = some u := ⟨o.slots[j], List.getElem?_eq_getElem _⟩
        obtain ⟨f0, f1⟩ := flatV_at _ _ _ hu
        have d0 := hrow.cells (g := q) rfl _ _ f0
        have d1 := hrow.cells (g := q) rfl _ _ f1
        rw [addr_add, Nat.zero_add] at d0 d1
        have g0 := row_free hrow (g := q) rfl (j * 2)
        have g1 := row_free hrow (g := q) rfl (j * 2 + 1)
        obtain ⟨N, hN⟩ : ∃ N, N = o.slots.length := ⟨_, rfl⟩
        obtain ⟨K, hK⟩ : ∃ K, K = M.obs.length := ⟨_, rfl⟩
        rw [← hN] at z3 hn hj
        rw [← hK] at c0 hs hi
        clear h ho hsv hob hl hc hrow hN hK H1 hb hr hu f0 f1 hss
        go_enter Tryz.func22, Tryz.ntmps22
        go_wp2_with fail
        refine (HIS.out).mono ?_
        rintro x1 w1 ⟨rfl, hww⟩
        have hww' := hww.symm
        subst hww'
        clear hww
        go_wp2_with fail
        go_region
        all_goals go_wp2_with fail
        all_goals (
          go_ret
          exact ⟨rfl, rfl⟩)
      · rintro e w1 ⟨rfl, rfl⟩
        refine ⟨by show _ = Ending.returned (Value.bool (decide (0 ≤ (j : Int) ∧ (j : Int) < o.slots.length))); rw [decide_eq_true hr], ?_⟩
        rw [if_pos hr.1, upd_some hob, Int.toNat_natCast]
        obtain ⟨b1, b2⟩ := H1.slots hob hsv (Keep.setCell (B := fun b => (Value.slice (some ⟨q, 0, none⟩) o.slots.length cc).ownBlock = some b) (p := ⟨q, j * 2 + 1, none⟩) (Keep.setCell (B := fun b => (Value.slice (some ⟨q, 0, none⟩) o.slots.length cc).ownBlock = some b) (p := ⟨q, j * 2, none⟩) (Keep.refl _ _) (fun _ => rfl) _) (fun _ => rfl) _) (row_slot hrow j hj v)
        refine ⟨b1.below (below_drewN (Below.refl _ _) 1), ?_⟩
        exact ((Keep.of_below (B := L.own) hb).trans b2).trans (Keep.of_below (below_drewN (Below.refl _ _) 1))
    · refine Calls.mono (R := fun e w' => e = .returned (.bool false) ∧ w' = w.alloc (.cells #[.int .i64 v.t, .int .i64 v.n] 34)) ?_ ?_
      · obtain ⟨a, cc, hsv2⟩ := row_slice hrow
        rw [hsv2] at z3
        obtain ⟨N, hN⟩ : ∃ N, N = o.slots.length := ⟨_, rfl⟩
        obtain ⟨K, hK⟩ : ∃ K, K = M.obs.length := ⟨_, rfl⟩
        rw [← hN] at z3 hn hr
        rw [← hK] at c0 hs hi
        clear h ho hsv hob hl hc hrow hN hK H1 hb hss hsv2
        have hr2 : slot < 0 ∨ (¬ slot < 0 ∧ (N : Int) ≤ slot) := by omega
        clear hr
        rcases hr2 with h0 | ⟨h0, h1⟩
        all_goals
          go_enter Tryz.func22, Tryz.ntmps22
          go_wp2_with fail
          refine (HIS.out).mono ?_
          rintro x1 w1 ⟨rfl, hww⟩
          have hww' := hww.symm
          subst hww'
          clear hww
          go_wp2_with fail
          go_ret
          exact ⟨rfl, rfl⟩
      · rintro e w1 ⟨rfl, rfl⟩
        refine ⟨by show _ = Ending.returned (Value.bool (decide (0 ≤ slot ∧ slot < o.slots.length))); rw [decide_eq_false hr], ?_, Keep.of_below hb⟩
        split
        · rename_i hp
          rw [upd_some hob]
          have e : o.slots.set slot.toNat v = o.slots := by
            apply List.ext_getElem?
            intro j
            rw [List.getElem?_set]
            split
            · rename_i e; split
              · exfalso; apply hr; omega
              · rw [List.getElem?_eq_none (by omega)]
            · rfl
          rw [e, set_same hob]
          exact H1
        · exact H1
end Go.Proofs.YtminbemdcanakaaGreat
/- The reference's objects: an entry is cleared; an object is gone. -/
namespace Go.Proofs.YtminbemdcanakaaGreat
open Go.RowKit
set_option linter.unusedVariables false
set_option linter.unusedSimpArgs false

variable {w w' : World} {L : RL} {M : Mm}
/-- Values are put one behind the other. -/
def setRun (l : List Value) (n : Nat) : List Value → List Value
  | [] => l
  | u :: us => setRun (l.set n u) (n + 1) us
def setChain (w : World) (g n : Nat) : List Value → World
  | [] => w
  | u :: us => setChain (w.setCell ⟨g, n, none⟩ u) g (n + 1) us
theorem setRun_mid : ∀ (us X A B : List Value), us.length = X.length → setRun (A ++ (X ++ B)) A.length us = A ++ (us ++ B) := by
  intro us
  induction us with
  | nil => intro X A B h; rw [List.length_nil] at h; rw [List.length_eq_zero_iff.1 h.symm]; rfl
  | cons u us ih =>
    intro X A B h
    cases X with
    | nil => simp at h
    | cons x X =>
      have e : (A ++ (x :: X ++ B)).set A.length u = (A ++ [u]) ++ (X ++ B) := by
        rw [List.set_append_right _ _ (Nat.le_refl _), Nat.sub_self]
        simp
      show setRun ((A ++ (x :: X ++ B)).set A.length u) (A.length + 1) us = _
      rw [e, show A.length + 1 = (A ++ [u]).length by simp, ih X (A ++ [u]) B (by simpa using h)]
      simp
theorem ownsRow_run {base : Nat} {e : TypeId} {size : Nat} {v : Value} {n : Nat} {g : Nat} (hg : v.ownBlock = some g) : ∀ (us : List Value) (i : Nat) (w : World) (xs : List Value), w.ownsRow base e size v n xs → i + us.length ≤ n * size → (setChain w g i us).ownsRow base e size v n (setRun xs i us) := by
  intro us
  induction us with
  | nil => intro i w xs h _; exact h
  | cons u us ih =>
    intro i w xs h hi
    rw [List.length_cons] at hi
    exact ih (i + 1) _ _ (ownsRow_set h hg i (by omega) u) (by omega)
theorem chain_keep {g : Nat} : ∀ (us : List Value) (i : Nat) (w : World), Keep (fun b => b = g) w (setChain w g i us) := by
  intro us
  induction us with
  | nil => intro i w; exact Keep.refl _ _
  | cons u us ih => intro i w; exact (Keep.setCell (B := fun b => b = g) (p := ⟨g, i, none⟩) (Keep.refl _ w) (fun _ => rfl) u).trans (ih (i + 1) _)
theorem flatR_run {l : List RC} {j : Nat} {x : RC} (hx : l[j]? = some x) (x' : RC) : setRun (flatR l) (j * 9) (rcF x') = flatR (l.set j x') := by
  obtain ⟨hj, e⟩ := List.getElem?_eq_some_iff.1 hx
  have e1 : l = l.take j ++ x :: l.drop (j + 1) := by rw [← e, List.getElem_cons_drop, List.take_append_drop]
  have e2 : flatR l = flatR (l.take j) ++ (rcF x ++ flatR (l.drop (j + 1))) := by
    conv => lhs; rw [e1]
    unfold flatR
    rw [List.flatMap_append, List.flatMap_cons]
  have e3 : flatR (l.set j x') = flatR (l.take j) ++ (rcF x' ++ flatR (l.drop (j + 1))) := by
    rw [List.set_eq_take_append_cons_drop, if_pos hj]
    unfold flatR
    rw [List.flatMap_append, List.flatMap_cons]
  have e4 : (flatR (l.take j)).length = j * 9 := by rw [flatR_len, List.length_take]; omega
  rw [e2, e3, ← e4]
  exact setRun_mid _ _ _ _ (by rw [rcF_len, rcF_len])
/-- An object is gone. -/
theorem RMAt.gone (h : RMAt w L M) {i g c : Nat} {o : Ob} (ho : M.obs[i]? = some (some o)) (hl : L.l = .slice (some ⟨g, 0, none⟩) M.obs.length c) :
    RMAt (setChain w g (i * 9) (rcL none (.slice none 0 0))) { L with svs := L.svs.set i (.slice none 0 0) } { M with obs := M.obs.set i none } ∧ Keep (fun b => b = g) w (setChain w g (i * 9) (rcL none (.slice none 0 0))) := by
  have hg : L.l.ownBlock = some g := by rw [hl]; rfl
  obtain ⟨n1, n2, n3⟩ := h.ne_row hg
  have hi := (List.getElem?_eq_some_iff.1 ho).1
  have hk := chain_keep (g := g) (rcL none (.slice none 0 0)) (i * 9) w
  obtain ⟨sv, hs⟩ : ∃ sv, L.svs[i]? = some sv := ⟨_, List.getElem?_eq_getElem (by rw [h.len]; exact hi)⟩
  refine ⟨⟨h.box.of_block (hk.block _ h.box.lt n1), ?_, ownsRow_of_block h.roots fun k e => hk.block k (h.roots.lt k e).2 fun e2 => n2 (by rw [e, e2]), ?_, ?_, ?_, ?_, ?_⟩, hk⟩
  · have h1 := ownsRow_run hg (rcL none (.slice none 0 0)) (i * 9) w _ h.row (by show i * 9 + 9 ≤ _; omega)
    have h2 := flatR_run (zip_at ho hs) (none, .slice none 0 0)
    rw [zip_set] at h2
    show World.ownsRow _ 0 _ 9 _ (M.obs.set i none).length (flatR ((M.obs.set i none).zip (L.svs.set i (.slice none 0 0))))
    rw [List.length_set, ← h2]
    exact h1
  · show (L.svs.set i _).length = (M.obs.set i none).length
    rw [List.length_set, List.length_set]; exact h.len
  · intro j o2 sv2 hj hj2
    rcases set_at (show (M.obs.set i none)[j]? = some (some o2) from hj) with ⟨rfl, e⟩ | ⟨hne, e⟩
    · cases e
    · rcases set_at (show (L.svs.set i (.slice none 0 0))[j]? = some sv2 from hj2) with ⟨rfl, e2⟩ | ⟨-, e2⟩
      · exact absurd rfl hne
      · exact ownsRow_of_block (h.sl j o2 sv2 e e2) fun k e3 => hk.block k ((h.sl j o2 sv2 e e2).lt k e3).2 fun e4 => n3 j sv2 e2 (by rw [e3, e4])
  · intro j sv2 hj hj2
    rcases set_at (show (L.svs.set i (.slice none 0 0))[j]? = some sv2 from hj2) with ⟨rfl, e2⟩ | ⟨hne, e2⟩
    · exact e2
    · rcases set_at (show (M.obs.set i none)[j]? = some none from hj) with ⟨rfl, e⟩ | ⟨-, e⟩
      · exact absurd rfl hne
      · exact h.no j sv2 e e2
  · intro a b sv1 sv2 h1 h2 hne k hk1
    rcases set_at (show (L.svs.set i (.slice none 0 0))[a]? = some sv1 from h1) with ⟨rfl, e⟩ | ⟨-, e⟩
    · rw [e] at hk1; cases hk1
    · rcases set_at (show (L.svs.set i (.slice none 0 0))[b]? = some sv2 from h2) with ⟨rfl, e2⟩ | ⟨-, e2⟩
      · rw [e2]; exact fun x => nomatch x
      · exact h.inj a b sv1 sv2 e e2 hne k hk1
  · intro a sv1 h1 k hk1
    rcases set_at (show (L.svs.set i (.slice none 0 0))[a]? = some sv1 from h1) with ⟨rfl, e⟩ | ⟨-, e⟩
    · rw [e]; exact fun x => nomatch x
    · exact h.sep a sv1 e k hk1
def RTo (w : World) (L : RL) (w' : World) (M' : Mm) : Prop := ∃ L' : RL, L'.p = L.p ∧ RMAt w' L' M' ∧ Keep L.own w w' ∧ ∀ k, L'.own k → L.own k ∨ w.heap.size ≤ k
theorem RTo.same (h : RMAt w' L M) (k : Keep L.own w w') : RTo w L w' M := ⟨L, rfl, h, k, fun _ h => .inl h⟩
set_option maxRecDepth 100000 in
set_option maxHeartbeats 2000000 in
theorem rdrop_any (h : RMAt w L M) (hs : M.obs.length ≤ 100000) (hd : Int) : Calls Tryz.prog 32 #[.pointer (some ⟨L.p, 0, none⟩), .int .i64 hd] w fun e w' => e = .returned (.tuple #[]) ∧ RTo w L w' (M.drop hd) := by
  have HIS := Lib.hid (ris_any h hs hd)
  cases ho : M.at hd with
  | none =>
    rw [ho] at HIS
    refine Calls.mono (R := fun e w' => e = .returned (.tuple #[]) ∧ w' = w) ?_ ?_
    · clear h ho
      go_enter Tryz.func32, Tryz.ntmps32
      go_wp2_with fail
      refine (HIS.out).mono ?_
      rintro x1 w1 ⟨rfl, hww⟩
      have hww' := hww.symm
      subst hww'
      clear hww
      go_wp2_with fail
      first | go_end0 | refine bodyPost_ret (results_none rfl _ _ _) rfl ?_
      exact ⟨rfl, rfl⟩
    · rintro e w1 ⟨rfl, rfl⟩
      rw [drop_none ho]
      exact ⟨rfl, RTo.same h (Keep.refl _ _)⟩
  | some o =>
    rw [ho] at HIS
    obtain ⟨i, sv, g, cc, rfl, hi, hsv, hob, hl, hc, hrow⟩ := h.some_at ho
    refine Calls.mono (R := fun e w' => e = .returned (.tuple #[]) ∧ w' = setChain w g (i * 9) (rcL none (.slice none 0 0))) ?_ ?_
    · obtain ⟨c0, -⟩ := h.cells
      rw [hl] at c0
      have hg : L.l.ownBlock = some g := by rw [hl]; rfl
      have z0 := hc 0 _ rfl
      have z1 := hc 1 _ rfl
      have z2 := hc 2 _ rfl
      have z3 := hc 3 _ rfl
      have z4 := hc 4 _ rfl
      have z5 := hc 5 _ rfl
      have z6 := hc 6 _ rfl
      have z7 := hc 7 _ rfl
      have z8 := hc 8 _ rfl
      have f0 := row_free h.row hg (i * 9)
      have f1 := row_free h.row hg (i * 9 + 1)
      have f2 := row_free h.row hg (i * 9 + 2)
      have f3 := row_free h.row hg (i * 9 + 3)
      have f4 := row_free h.row hg (i * 9 + 4)
      have f5 := row_free h.row hg (i * 9 + 5)
      have f6 := row_free h.row hg (i * 9 + 6)
      have f7 := row_free h.row hg (i * 9 + 7)
      have f8 := row_free h.row hg (i * 9 + 8)
      simp only [Nat.add_zero] at z0
      obtain ⟨N, hN⟩ : ∃ N, N = M.obs.length := ⟨_, rfl⟩
      rw [← hN] at c0 hs hi
      clear h ho hsv hob hl hc hrow hN hg
      go_enter Tryz.func32, Tryz.ntmps32
      go_wp2_with fail
      refine (HIS.out).mono ?_
      rintro x1 w1 ⟨rfl, hww⟩
      have hww' := hww.symm
      subst hww'
      clear hww
      go_wp2_with fail
      first | go_end0 | refine bodyPost_ret (results_none rfl _ _ _) rfl ?_
      exact ⟨rfl, rfl⟩
    · rintro e w1 ⟨rfl, rfl⟩
      have ed : M.drop ((i : Int) + 1) = { M with obs := M.obs.set i none } := by
        unfold Mm.drop
        rw [if_pos (by omega), show ((i : Int) + 1 - 1).toNat = i by omega]
      rw [ed]
      clear ed
      obtain ⟨h1, k1⟩ := h.gone hob hl
      refine ⟨rfl, { L with svs := L.svs.set i (.slice none 0 0) }, rfl, h1, k1.mono fun k _ e => by subst e; exact .inr (.inl (by rw [hl]; rfl)), fun k hk => ?_⟩
      rcases hk with e | e | e | ⟨j, sv2, hj, e⟩
      · exact .inl (.inl e)
      · exact .inl (.inr (.inl e))
      · exact .inl (.inr (.inr (.inl e)))
      · rcases set_at (show (L.svs.set i (.slice none 0 0))[j]? = some sv2 from hj) with ⟨rfl, e2⟩ | ⟨-, e2⟩
        · rw [e2] at e; cases e
        · exact .inl (.inr (.inr (.inr ⟨j, sv2, e2, e⟩)))
set_option maxRecDepth 100000 in
set_option maxHeartbeats 4000000 in
theorem rclear_any (h : RMAt w L M) (hs : M.obs.length ≤ 100000) (hd slot : Int) (key : Bool) (hss : ∀ o, M.at hd = some o → o.slots.length ≤ 100000) : Calls Tryz.prog 30 #[.pointer (some ⟨L.p, 0, none⟩), .int .i64 hd, .int .i64 slot, .bool key] w fun e w' => RP w L (M.clear hd slot key) (.tuple #[]) e w' := by
  have HIS := Lib.hid (ris_any h hs hd)
  unfold Mm.clear
  cases ho : M.at hd with
  | none =>
    rw [ho] at HIS
    refine Calls.mono (R := fun e w' => e = .returned (.tuple #[]) ∧ w' = w) ?_ ?_
    · clear h ho
      go_enter Tryz.func30, Tryz.ntmps30
      go_wp2_with fail
      refine (HIS.out).mono ?_
      rintro x1 w1 ⟨rfl, hww⟩
      have hww' := hww.symm
      subst hww'
      clear hww
      go_wp2_with fail
      first | go_end0 | refine bodyPost_ret (results_none rfl _ _ _) rfl ?_
      exact ⟨rfl, rfl⟩
    · rintro e w1 ⟨rfl, rfl⟩
      rw [upd_none ho]
      exact ⟨rfl, h, Keep.refl _ _⟩
  | some o =>
    rw [ho] at HIS
    obtain ⟨i, sv, g, cc, rfl, hi, hsv, hob, hl, hc, hrow⟩ := h.some_at ho
    obtain ⟨c0, -⟩ := h.cells
    have z3 := hc 3 _ rfl
    have hn := hss o ho
    rw [hl] at c0
    rw [upd_some hob]
    obtain ⟨K, hK⟩ : ∃ K, K = M.obs.length := ⟨_, rfl⟩
    rw [← hK] at c0 hs hi
    by_cases hr : slot < 0 ∨ (o.slots.length : Int) ≤ slot ∨ (key = true ∧ slot < 1)
    · have e9 : clearSlots o.slots slot key = o.slots := by unfold clearSlots; rw [if_pos hr]
      rw [e9, set_same hob]
      refine Calls.mono (R := fun e w' => e = .returned (.tuple #[]) ∧ w' = w) ?_ ?_
      · obtain ⟨a, cc, hsv2⟩ := row_slice hrow
        rw [hsv2] at z3
        obtain ⟨N, hN⟩ : ∃ N, N = o.slots.length := ⟨_, rfl⟩
        rw [← hN] at z3 hn hr
        clear h ho hsv hob hl hc hrow hN hK hss hsv2 e9
        have hr2 : slot < 0 ∨ (¬ slot < 0 ∧ (N : Int) ≤ slot) ∨ (¬ slot < 0 ∧ ¬ (N : Int) ≤ slot ∧ key = true ∧ slot = 0) := by
          by_cases h1 : slot < 0
          · exact .inl h1
          · by_cases h2 : (N : Int) ≤ slot
            · exact .inr (.inl ⟨h1, h2⟩)
            · rcases hr with h3 | h3 | h3
              · exact absurd h3 h1
              · exact absurd h3 h2
              · exact .inr (.inr ⟨h1, h2, h3.1, by omega⟩)
        clear hr
        rcases hr2 with h0 | ⟨h0, h1⟩ | ⟨h0, h1, rfl, rfl⟩
        all_goals
          go_enter Tryz.func30, Tryz.ntmps30
          go_wp2_with fail
          refine (HIS.out).mono ?_
          rintro x1 w1 ⟨rfl, hww⟩
          have hww' := hww.symm
          subst hww'
          clear hww
          go_wp2_with fail
          first | go_end0 | refine bodyPost_ret (results_none rfl _ _ _) rfl ?_
          exact ⟨rfl, rfl⟩
      · rintro e w1 ⟨rfl, rfl⟩
        exact ⟨rfl, h, Keep.refl _ _⟩
    · obtain ⟨j, rfl⟩ : ∃ j : Nat, slot = (j : Int) := Int.eq_ofNat_of_zero_le (by omega)
      have hj : j < o.slots.length := by omega
      obtain ⟨q, cc, rfl⟩ := row_shape hrow (by omega)
      obtain ⟨u, hu⟩ : ∃ u, o.slots[j]? = some u := ⟨o.slots[j], List.getElem?_eq_getElem _⟩
      obtain ⟨f0, f1⟩ := flatV_at _ _ _ hu
      have d0 := hrow.cells (g := q) rfl _ _ f0
      have d1 := hrow.cells (g := q) rfl _ _ f1
      rw [addr_add, Nat.zero_add] at d0 d1
      have g0 := row_free hrow (g := q) rfl (j * 2)
      have g1 := row_free hrow (g := q) rfl (j * 2 + 1)
      have r1 := row_slot hrow j hj nilV
      cases key with
      | false =>
        have e9 : clearSlots o.slots (j : Int) false = o.slots.set j nilV := by unfold clearSlots; rw [if_neg hr]; rfl
        rw [e9]
        refine Calls.mono (R := fun e w' => e = .returned (.tuple #[]) ∧ w' = ((w.setCell ⟨q, j * 2, none⟩ (.int .i64 0)).setCell ⟨q, j * 2 + 1, none⟩ (.int .i64 0))) ?_ ?_
        · obtain ⟨N, hN⟩ : ∃ N, N = o.slots.length := ⟨_, rfl⟩
          rw [← hN] at z3 hn hj
          clear h ho hsv hob hl hc hrow hN hK hr hu f0 f1 hss r1 e9
          go_enter Tryz.func30, Tryz.ntmps30
          go_wp2_with fail
          refine (HIS.out).mono ?_
          rintro x1 w1 ⟨rfl, hww⟩
          have hww' := hww.symm
          subst hww'
          clear hww
          go_wp2_with fail
          first | go_end0 | refine bodyPost_ret (results_none rfl _ _ _) rfl ?_
          exact ⟨rfl, rfl⟩
        · rintro e w1 ⟨rfl, rfl⟩
          obtain ⟨b1, b2⟩ := h.slots hob hsv (Keep.setCell (B := fun b => (Value.slice (some ⟨q, 0, none⟩) o.slots.length cc).ownBlock = some b) (p := ⟨q, j * 2 + 1, none⟩) (Keep.setCell (B := fun b => (Value.slice (some ⟨q, 0, none⟩) o.slots.length cc).ownBlock = some b) (p := ⟨q, j * 2, none⟩) (Keep.refl _ _) (fun _ => rfl) _) (fun _ => rfl) _) r1
          exact ⟨rfl, b1, b2⟩
      | true =>
        have hj1 : ¬ ((j : Int) < 1) := fun e => hr (.inr (.inr ⟨rfl, e⟩))
        obtain ⟨m, rfl⟩ : ∃ m, j = m + 1 := ⟨j - 1, by omega⟩
        have e9 : clearSlots o.slots ((m + 1 : Nat) : Int) true = (o.slots.set (m + 1) nilV).modify m fun v => { v with t := 11 } := by
          unfold clearSlots
          rw [if_neg hr]
          show (o.slots.set (m + 1) nilV).modify (((m + 1 : Nat) : Int) - 1).toNat _ = _
          rw [show (((m + 1 : Nat) : Int) - 1).toNat = m by omega]
        rw [e9]
        have r2 := row_slotT (n := o.slots.length) (l := o.slots.set (m + 1) nilV) r1 m (by rw [List.length_set]; omega) 11
        have n1 : L.p ≠ q := fun e => h.box.ne_row hrow (by decide) (k := q) rfl e.symm
        have n2 : g ≠ q := fun e => (h.ne_row (g := g) (by rw [hl]; rfl)).2.2 i _ hsv (by rw [e]; rfl)
        refine Calls.mono (R := fun e w' => e = .returned (.tuple #[]) ∧ w' = ((w.setCell ⟨q, (m + 1) * 2, none⟩ (.int .i64 0)).setCell ⟨q, (m + 1) * 2 + 1, none⟩ (.int .i64 0)).setCell ⟨q, m * 2, none⟩ (.int .i64 11)) ?_ ?_
        · have g2 := row_free hrow (g := q) rfl (m * 2)
          obtain ⟨u2, hu2⟩ : ∃ u, o.slots[m]? = some u := ⟨o.slots[m], List.getElem?_eq_getElem _⟩
          obtain ⟨f2, -⟩ := flatV_at _ _ _ hu2
          have d2 := hrow.cells (g := q) rfl _ _ f2
          rw [addr_add, Nat.zero_add] at d2
          obtain ⟨N, hN⟩ : ∃ N, N = o.slots.length := ⟨_, rfl⟩
          rw [← hN] at z3 hn hj
          have e1 : ((m : Int) + 1 == 0) = false := by simp; omega
          clear h ho hsv hob hl hc hrow hN hK hr hu f0 f1 hss r1 e9 r2 hu2 f2
          go_enter Tryz.func30, Tryz.ntmps30
          go_wp2_with fail
          refine (HIS.out).mono ?_
          rintro x1 w1 ⟨rfl, hww⟩
          have hww' := hww.symm
          subst hww'
          clear hww
          go_wp2_with fail
          first | go_end0 | refine bodyPost_ret (results_none rfl _ _ _) rfl ?_
          exact ⟨rfl, rfl⟩
        · rintro e w1 ⟨rfl, rfl⟩
          obtain ⟨b1, b2⟩ := h.slots (l' := (o.slots.set (m + 1) nilV).modify m fun v => { v with t := 11 }) hob hsv (Keep.setCell (B := fun b => (Value.slice (some ⟨q, 0, none⟩) o.slots.length cc).ownBlock = some b) (p := ⟨q, m * 2, none⟩) (Keep.setCell (B := fun b => (Value.slice (some ⟨q, 0, none⟩) o.slots.length cc).ownBlock = some b) (p := ⟨q, (m + 1) * 2 + 1, none⟩) (Keep.setCell (B := fun b => (Value.slice (some ⟨q, 0, none⟩) o.slots.length cc).ownBlock = some b) (p := ⟨q, (m + 1) * 2, none⟩) (Keep.refl _ _) (fun _ => rfl) _) (fun _ => rfl) _) (fun _ => rfl) _) r2
          exact ⟨rfl, b1, b2⟩
end Go.Proofs.YtminbemdcanakaaGreat
/- The reference's objects: those that are there; a list is copied. -/
namespace Go.Proofs.YtminbemdcanakaaGreat
open Go.RowKit
set_option linter.unusedVariables false
set_option linter.unusedSimpArgs false

variable {w w' : World} {L : RL} {M : Mm}
theorem infVal3 : (Tryz.prog.info? 34).map (fun i => (i.zero, i.size, i.bytes)) = some (some (.agg #[.int .i64 0, .int .i64 0]), 2, 16) := by kernel_rfl
set_option maxRecDepth 100000 in
set_option maxHeartbeats 2000000 in
theorem copied_any {v : Value} {l : List V} (h : RdV w v l) (hs : l.length ≤ 100000) : Calls Tryz.prog 73 #[v] w fun e w' => ValsP w l e w' := by
  obtain ⟨i0, hi0, hz0, hz1, hz2⟩ := info_parts infVal3
  have hrow : (w.alloc (.cells #[] 34)).ownsRow w.heap.size 34 2 (.slice (some ⟨w.heap.size, 0, none⟩) 0 0) 0 [] := World.ownsRow_made (base := w.heap.size) (e := 34) (size := 2) w #[] 0 (Nat.le_refl _) (by decide) (by simp)
  have hb := below_alloc w (.cells #[] 34)
  rcases h with ⟨rfl, h0, -⟩ | ⟨ad, c, rfl, hc⟩
  · have hl : l = [] := List.length_eq_zero_iff.1 h0
    subst hl
    have HR := Lib.hid hrow
    have HB := Lib.hid hb
    clear hrow hb h0
    go_enter Tryz.func73, Tryz.ntmps73
    go_wp2_with (at_builtin; refine wpList_append_own_none rfl _ _ 23 rfl w.heap.size 34 i0 2 Tryz.underlying23 hi0 _ _ _ rfl HR.out rfl ?_)
    go_wp2_with fail
    go_ret
    exact ⟨_, rfl, HR.out, HB.out⟩
  · obtain ⟨N, hN⟩ : ∃ N, N = l.length := ⟨_, rfl⟩
    have HN := Lib.hid hN
    have HC := Lib.hid hc
    have HR := Lib.hid hrow
    have HB := Lib.hid hb
    rw [← hN] at hs ⊢
    clear hN hc hrow hb
    go_enter Tryz.func73, Tryz.ntmps73
    go_wp2_with (at_builtin; refine wpList_append_own _ rfl _ _ 23 rfl w.heap.size 34 i0 (.agg #[.int .i64 0, .int .i64 0]) 2 16 Tryz.underlying23 hi0 hz0 hz1 hz2 rfl (by decide) _ _ _ rfl HR.out _ _ _ (flatV l) rfl (by rw [flatV_len, ← HN.out]) ?_ ?_ ?_ ?_ ?_ ?_)
    · intro j u hu
      exact (Below.cell HB.out (cell_lt (HC.out j u hu))).trans (HC.out j u hu)
    · exact flatV_one l
    · unfold maxLen; omega
    · omega
    · exact Nat.le_of_lt (by simp)
    intro v' w4 hown4 hg4 _
    have HP := Lib.hid (show ValsP w l (.returned v') w4 from ⟨v', rfl, by rw [← HN.out]; simpa using hown4, HB.out.trans (show Below w.heap.size _ w4 from (Below.refl _ _).grown hg4 (by simp) fun j hj => by cases hj; exact Nat.le_refl _)⟩)
    obtain ⟨ra, rc, rfl⟩ := row_slice hown4
    clear hown4 hg4
    go_wp2_with fail
    go_ret
    exact HP.out
theorem at_nat {M : Mm} {i : Nat} {x : Option Ob} (h : M.obs[i]? = some x) : M.at ((i : Int) + 1) = x := by
  have hi := (List.getElem?_eq_some_iff.1 h).1
  unfold Mm.at
  rw [if_pos (by omega), show ((i : Int) + 1 - 1).toNat = i by omega, h]
  rfl
set_option maxRecDepth 100000 in
set_option maxHeartbeats 2000000 in
theorem rorder_any (h : RMAt w L M) (hs : M.obs.length ≤ 100000) : Calls Tryz.prog 80 #[.pointer (some ⟨L.p, 0, none⟩)] w fun e w' => OrderP w M.order e w' := by
  obtain ⟨i0, hi0, hz0, hz1, hz2⟩ := info_parts infC1
  obtain ⟨la, lc, hl⟩ := row_slice h.row
  obtain ⟨N, hN⟩ : ∃ N, N = M.obs.length := ⟨_, rfl⟩
  rw [← hN] at hs hl
  have HH := Lib.hid h
  have HN := Lib.hid hN
  have HL := Lib.hid hl
  clear h hN hl
  go_enter Tryz.func80, Tryz.ntmps80
  go_wp2_with fail
  go_loopw [3, 4] (fun out t4 wr => ∃ i : Nat, i ≤ N ∧ t4 = .int .i64 ((i : Int) + 1) ∧ wr.ownsRow w.heap.size 3 1 out (orderF 0 (M.obs.take i)).length (intL (orderF 0 (M.obs.take i))) ∧ Below w.heap.size w wr) (fun _ t4 _ => N + 1 - (intOf t4).toNat)
  case atStart => exact ⟨0, Nat.zero_le _, by go_num, World.ownsRow_nil _ _ _ _, Below.refl _ _⟩
  case round =>
    obtain ⟨i, hi, rfl, hown, hB⟩ := hrel
    obtain ⟨a0, c1, rfl⟩ := row_slice hown
    obtain ⟨c0, -⟩ := (HH.out.below hB).cells
    rw [HL.out] at c0
    by_cases hlt : i < N
    · have g1 : decide ((i : Int) + 1 ≤ (N : Int)) = true := decide_eq_true (by omega)
      have hilt : i < M.obs.length := by rw [← HN.out]; exact hlt
      obtain ⟨x, hx⟩ : ∃ x, M.obs[i]? = some x := ⟨M.obs[i], List.getElem?_eq_getElem _⟩
      have HIS := Lib.hid (ris_any (HH.out.below hB) (by rw [← HN.out]; exact hs) ((i : Int) + 1))
      rw [at_nat hx] at HIS
      have hlen := orderF_len (M.obs.take i) 0
      rw [List.length_take] at hlen
      have hts : M.obs.take (i + 1) = M.obs.take i ++ [x] := by rw [List.take_add_one, hx]; rfl
      have hsn : orderF 0 (M.obs.take (i + 1)) = orderF 0 (M.obs.take i) ++ here1 i x := by
        rw [hts, orderF_snoc, List.length_take, show 0 + min i M.obs.length = i by omega]
      have HS := Lib.hid hsn
      obtain ⟨acc, hacc⟩ : ∃ acc, acc = orderF 0 (M.obs.take i) := ⟨_, rfl⟩
      rw [← hacc] at hown hlen
      obtain ⟨K, hK⟩ : ∃ K, K = acc.length := ⟨_, rfl⟩
      have HK := Lib.hid hK
      have HACC := Lib.hid hacc
      rw [← hK] at hown hlen
      have hlen2 : K ≤ i := by omega
      cases x with
      | none =>
        clear hx hts hsn hacc hK hlen
        rw [← HACC.out, ← HK.out]
        go_wp2_with fail
        refine (HIS.out).mono ?_
        rintro x1 w1 ⟨rfl, hww⟩
        have hww' := hww.symm
        subst hww'
        clear hww
        go_wp2_with fail
        go_roundw
        case rel =>
          refine ⟨i + 1, by omega, by go_num, ?_, hB⟩
          rw [HS.out, ← HACC.out]
          show World.ownsRow _ _ _ _ _ (acc ++ []).length (intL (acc ++ []))
          rw [List.append_nil, ← HK.out]; exact hown
        case measure => simp [intOf]; omega
      | some o =>
        clear hx hts hsn hacc hK hlen
        rw [← HACC.out, ← HK.out]
        go_wp2_with fail
        refine (HIS.out).mono ?_
        rintro x1 w1 ⟨rfl, hww⟩
        have hww' := hww.symm
        subst hww'
        clear hww
        go_wp2_with (at_builtin; refine wpList_append_own _ rfl _ _ 54 rfl w.heap.size 3 i0 (.int .i64 0) 1 8 Tryz.underlying54 hi0 hz0 hz1 hz2 rfl (by decide) _ _ _ rfl (hown.alloc _) _ _ _ [.int .i64 ((i : Int) + 1)] rfl rfl ?_ ?_ ?_ ?_ ?_ ?_)
        · exact cell_new1 wr (.int .i64 ((i : Int) + 1)) 3
        · intro u hu; simp at hu; subst hu; rfl
        · unfold maxLen; omega
        · omega
        · have := hB.size; simp; omega
        intro v' w4 hown4 hg4 _
        go_wp2_with fail
        go_roundw
        case rel =>
          refine ⟨i + 1, by omega, by go_num, ?_, ?_⟩
          · rw [HS.out, ← HACC.out]
            have e : intL (acc ++ [(i : Int) + 1]) = intL acc ++ [.int .i64 ((i : Int) + 1)] := by unfold intL; rw [List.map_append]; rfl
            show World.ownsRow _ _ _ _ _ (acc ++ [(i : Int) + 1]).length (intL (acc ++ [(i : Int) + 1]))
            rw [List.length_append, ← HK.out, List.length_singleton]
            rw [e]
            exact hown4
          · refine (hB.alloc hB.size _).grown hg4 (by have := hB.size; simp; omega) ?_
            intro j hj
            exact (hown.lt j hj).1
        case measure => simp [intOf]; omega
    · obtain rfl : i = N := by omega
      have g1 : decide ((i : Int) + 1 ≤ (i : Int)) = false := decide_eq_false (by omega)
      have e : M.obs.take i = M.obs := by rw [HN.out, List.take_length]
      rw [e] at hown
      have HP : OrderP w M.order (.returned (.slice a0 (orderF 0 (M.obs.take i)).length c1)) wr := ⟨_, rfl, by rw [e]; exact hown, hB⟩
      have HP := Lib.hid HP
      clear hown
      go_wp2_with fail
      go_ret
      exact HP.out
end Go.Proofs.YtminbemdcanakaaGreat
/- The reference's objects: one more. -/
namespace Go.Proofs.YtminbemdcanakaaGreat
open Go.RowKit
set_option linter.unusedVariables false
set_option linter.unusedSimpArgs false

variable {w w' : World} {L : RL} {M : Mm}
/-- One more, at the list's end. -/
theorem RMAt.added {W W7 : World} {L : RL} {M : Mm} (h : RMAt W L M) {B : Nat} {u v' : Value} {o : Ob} (hu : W.ownsRow B 34 2 u o.slots.length (flatV o.slots)) (hB : ∀ k, L.own k → k < B)
    (hv : W7.ownsRow 0 116 9 v' (M.obs.length + 1) (flatR (M.obs.zip L.svs) ++ rcL (some o) u))
    (hg : (W.alloc (.cells (rcL (some o) u).toArray 116)).grownBy W7 L.l.ownBlock)
    (hb : v'.ownBlock = L.l.ownBlock ∨ v'.ownBlock = some (W.heap.size + 1)) (hBW : B ≤ W.heap.size) :
    RMAt (W7.setCell ⟨L.p, 0, none⟩ v') { L with l := v', svs := L.svs ++ [u] } (M.add o) ∧ Keep L.own W (W7.setCell ⟨L.p, 0, none⟩ v') ∧
      ∀ k, ({ L with l := v', svs := L.svs ++ [u] } : RL).own k → L.own k ∨ B ≤ k := by
  have hold : ∀ k, k < W.heap.size → L.l.ownBlock ≠ some k → W7.heap[k]? = W.heap[k]? := by
    intro k hk hn
    rw [hg.block k (by simp; omega) (fun e => hn e.symm), Below.heap_alloc _ _ _ hk]
  have hsz : W.heap.size + 1 ≤ W7.heap.size := by have := hg.size; simpa using this
  have hp7 : Box W7 L.p [L.l, L.rv] 44 := h.box.of_block (hold _ h.box.lt (fun e => h.box.ne_row h.row (by decide) e rfl))
  have hset : ∀ k, k ≠ L.p → (W7.setCell ⟨L.p, 0, none⟩ v').heap[k]? = W7.heap[k]? := fun k hk => Below.heap_setCell _ _ _ _ hk
  have hsz8 : (W7.setCell ⟨L.p, 0, none⟩ v').heap.size = W7.heap.size := by simp [World.setCell]
  have hk8 : Keep L.own W (W7.setCell ⟨L.p, 0, none⟩ v') := by
    refine ⟨hg.os, hg.tape, hg.output, by rw [hsz8]; omega, fun k hk hn => ?_⟩
    rw [hset k (fun e => hn (.inl e)), hold k hk (fun e => hn (.inr (.inl e)))]
  have hrow8 : ∀ {base : Nat} {n : Nat} {x : Value} {xs : List Value}, W.ownsRow base 34 2 x n xs → (W7.setCell ⟨L.p, 0, none⟩ v').ownsRow base 34 2 x n xs := by
    intro base n x xs hr
    refine ownsRow_of_block hr fun k hk => ?_
    rw [hset k (fun e => h.box.ne_row hr (by decide) hk e), hold k (hr.lt k hk).2 (fun e => row_ne_row h.row hr (by decide) e hk)]
  refine ⟨⟨hp7.set 0 v', ?_, hrow8 h.roots, ?_, ?_, ?_, ?_, ?_⟩, hk8, ?_⟩
  · show World.ownsRow _ 0 _ 9 v' (M.obs ++ [some o]).length (flatR ((M.obs ++ [some o]).zip (L.svs ++ [u])))
    have e : (M.obs ++ [some o]).zip (L.svs ++ [u]) = M.obs.zip L.svs ++ [(some o, u)] := List.zip_append h.len.symm
    have e2 : flatR (M.obs.zip L.svs ++ [(some o, u)]) = flatR (M.obs.zip L.svs) ++ rcL (some o) u := by
      unfold flatR
      rw [List.flatMap_append]
      simp [rcF]
    rw [e, e2, List.length_append, List.length_singleton]
    exact ownsRow_setCell_other hv (fun e => hp7.ne_row hv (by decide) e rfl) v'
  · show (L.svs ++ [u]).length = (M.obs ++ [some o]).length
    rw [List.length_append, List.length_append, h.len]; rfl
  · intro j o2 sv2 hj hj2
    have ho2 : (M.obs ++ [some o])[j]? = some (some o2) := hj
    have hs2 : (L.svs ++ [u])[j]? = some sv2 := hj2
    by_cases hlt : j < M.obs.length
    · rw [List.getElem?_append_left hlt] at ho2
      rw [List.getElem?_append_left (by rw [h.len]; exact hlt)] at hs2
      exact hrow8 (h.sl j o2 sv2 ho2 hs2)
    · have hje : j = M.obs.length := by
        have := (List.getElem?_eq_some_iff.1 ho2).1
        rw [List.length_append, List.length_singleton] at this
        omega
      subst hje
      rw [List.getElem?_append_right (Nat.le_refl _), Nat.sub_self] at ho2
      rw [← h.len, List.getElem?_append_right (Nat.le_refl _), Nat.sub_self] at hs2
      simp only [List.getElem?_cons_zero, Option.some.injEq] at ho2 hs2
      subst ho2
      subst hs2
      have hr := hrow8 hu
      exact ⟨hr.1, by rcases hr.2 with x | ⟨g, cap, cur, h1, h2, h3⟩; exact .inl x; exact .inr ⟨g, cap, cur, h1, Nat.zero_le _, h3⟩⟩
  · intro j sv2 hj hj2
    have ho2 : (M.obs ++ [some o])[j]? = some none := hj
    have hs2 : (L.svs ++ [u])[j]? = some sv2 := hj2
    by_cases hlt : j < M.obs.length
    · rw [List.getElem?_append_left hlt] at ho2
      rw [List.getElem?_append_left (by rw [h.len]; exact hlt)] at hs2
      exact h.no j sv2 ho2 hs2
    · rw [List.getElem?_append_right (by omega)] at ho2
      have := (List.getElem?_eq_some_iff.1 ho2).1
      have e0 : j - M.obs.length = 0 := by simpa using this
      rw [e0] at ho2
      simp at ho2
  · have hnew : ∀ (j : Nat) (sv2 : Value), (L.svs ++ [u])[j]? = some sv2 → (j < L.svs.length ∧ L.svs[j]? = some sv2) ∨ (j = L.svs.length ∧ sv2 = u) := by
      intro j sv2 hs2
      by_cases hlt : j < L.svs.length
      · rw [List.getElem?_append_left hlt] at hs2; exact .inl ⟨hlt, hs2⟩
      · have := (List.getElem?_eq_some_iff.1 hs2).1
        rw [List.length_append, List.length_singleton] at this
        have e : j = L.svs.length := by omega
        subst e
        rw [List.getElem?_append_right (Nat.le_refl _), Nat.sub_self] at hs2
        simp only [List.getElem?_cons_zero, Option.some.injEq] at hs2
        exact .inr ⟨rfl, hs2.symm⟩
    intro i j sv1 sv2 h1 h2 hne k hk1 hk2
    rcases hnew i sv1 h1 with ⟨-, a⟩ | ⟨a, rfl⟩
    · rcases hnew j sv2 h2 with ⟨-, b⟩ | ⟨b, rfl⟩
      · exact h.inj i j sv1 sv2 a b hne k hk1 hk2
      · have := hB k (.inr (.inr (.inr ⟨i, sv1, a, hk1⟩))); have := (hu.lt k hk2).1; omega
    · rcases hnew j sv2 h2 with ⟨-, b⟩ | ⟨b, rfl⟩
      · have := hB k (.inr (.inr (.inr ⟨j, sv2, b, hk2⟩))); have := (hu.lt k hk1).1; omega
      · exact hne (a.trans b.symm)
  · intro i sv1 h1 k hk1 hk2
    have hs2 : (L.svs ++ [u])[i]? = some sv1 := h1
    by_cases hlt : i < L.svs.length
    · rw [List.getElem?_append_left hlt] at hs2; exact h.sep i sv1 hs2 k hk1 hk2
    · have := (List.getElem?_eq_some_iff.1 hs2).1
      rw [List.length_append, List.length_singleton] at this
      have e : i = L.svs.length := by omega
      subst e
      rw [List.getElem?_append_right (Nat.le_refl _), Nat.sub_self] at hs2
      simp only [List.getElem?_cons_zero, Option.some.injEq] at hs2
      subst hs2
      have := hB k (.inr (.inr (.inl hk1))); have := (hu.lt k hk2).1; omega
  · intro k hk
    rcases hk with e | e | e | ⟨i, sv1, h1, e⟩
    · exact .inl (.inl e)
    · rcases hb with x | x
      · exact .inl (.inr (.inl (x ▸ e)))
      · have e' : v'.ownBlock = some k := e
        rw [x] at e'
        cases e'
        exact .inr (by omega)
    · exact .inl (.inr (.inr (.inl e)))
    · have hs2 : (L.svs ++ [u])[i]? = some sv1 := h1
      by_cases hlt : i < L.svs.length
      · rw [List.getElem?_append_left hlt] at hs2; exact .inl (.inr (.inr (.inr ⟨i, sv1, hs2, e⟩)))
      · have := (List.getElem?_eq_some_iff.1 hs2).1
        rw [List.length_append, List.length_singleton] at this
        have e0 : i = L.svs.length := by omega
        subst e0
        rw [List.getElem?_append_right (Nat.le_refl _), Nat.sub_self] at hs2
        simp only [List.getElem?_cons_zero, Option.some.injEq] at hs2
        subst hs2
        exact .inr (hu.lt k e).1
/-! ### is an object right? -/
theorem refW_graph (w : World) (o : Ob) (n : Nat) : GrAt (((w.alloc (.cells #[.int .i64 o.kind, .int .i64 o.weak, .int .i64 o.array, .slice (some ⟨w.heap.size + 1, 0, none⟩) n n, .int .i64 o.fin] 36)).alloc (.cells (flatV (List.replicate n nilV)).toArray 34)).alloc (.cells #[.int .i64 o.kind, .int .i64 o.weak, .int .i64 o.array, .slice (some ⟨w.heap.size + 1, 0, none⟩) n n, .int .i64 o.fin] 36)) (.slice (some ⟨w.heap.size + 1 + 1, 0, none⟩) 1 1) (.slice none 0 0) [(emptied o n, .slice (some ⟨w.heap.size + 1, 0, none⟩) n n)] [] := by
  have hg := right_graph w o (some ⟨w.heap.size + 1, 0, none⟩) n n
  exact ⟨hg.things, fun o2 sv h => hg.slots o2 sv h, hg.roots⟩
theorem rightT_test (o : Ob) (h : ¬ (o.kind = 4 ∧ 0 < o.slots.length)) : rightT o = rightG [emptied o o.slots.length] [] := by
  rw [right_one]
  unfold rightT
  rw [decide_eq_true (show o.kind ≠ 4 ∨ o.slots = [] from by
    by_cases e : o.kind = 4
    · right
      exact List.length_eq_zero_iff.1 (by have := fun y => h ⟨e, y⟩; omega)
    · exact .inl e), Bool.true_and]
set_option maxRecDepth 100000 in
set_option maxHeartbeats 4000000 in
theorem rRight_any {o : Ob} {sa : Option Addr} {sc : Nat} (hn : o.slots.length ≤ 100000) : Calls Tryz.prog 76 #[thingV o (.slice sa o.slots.length sc)] w fun e w' => AllP w (rightT o) e w' := by
  have hmk := run_make2 o.slots.length (by omega)
  by_cases k4 : o.kind = 4
  · have e1 : (o.kind == 4) = true := by simp [k4]
    by_cases hl : 0 < o.slots.length
    · have e2 : decide (0 < (o.slots.length : Int)) = true := decide_eq_true (by omega)
      have e2' : decide (0 < o.slots.length) = true := decide_eq_true hl
      have HR := Lib.hid (show rightT o = false by unfold rightT; rw [decide_eq_false (show ¬ (o.kind ≠ 4 ∨ o.slots = []) from by rintro (x | x); exact x k4; rw [x] at hl; simp at hl)]; rfl)
      have HB := Lib.hid (below_alloc w (.cells #[.int .i64 o.kind, .int .i64 o.weak, .int .i64 o.array, .slice sa o.slots.length sc, .int .i64 o.fin] 36))
      clear k4 hl
      unfold thingV
      go_enter Tryz.func76, Tryz.ntmps76
      go_wp2_with fail
      go_ret
      exact ⟨by first | (rw [HR.out]; rfl) | rw [HR.out], HB.out⟩
    · have e2 : decide (0 < (o.slots.length : Int)) = false := decide_eq_false (by omega)
      have e2' : decide (0 < o.slots.length) = false := decide_eq_false hl
      have hno : ¬ (o.kind = 4 ∧ 0 < o.slots.length) := fun y => hl y.2
      clear k4 hl
      have HT := Lib.hid (rightT_test o hno)
      have HW := Lib.hid (refRight_any (refW_graph w o o.slots.length) (by simp) (by intro o2 sv h; rw [List.mem_singleton] at h; cases h; show (List.replicate _ nilV).length ≤ _; rw [List.length_replicate]; exact hn) (by decide))
      have HB := Lib.hid (show Below w.heap.size w (((w.alloc (.cells #[.int .i64 o.kind, .int .i64 o.weak, .int .i64 o.array, .slice (some ⟨w.heap.size + 1, 0, none⟩) o.slots.length o.slots.length, .int .i64 o.fin] 36)).alloc (.cells (flatV (List.replicate o.slots.length nilV)).toArray 34)).alloc (.cells #[.int .i64 o.kind, .int .i64 o.weak, .int .i64 o.array, .slice (some ⟨w.heap.size + 1, 0, none⟩) o.slots.length o.slots.length, .int .i64 o.fin] 36)) from (((below_alloc _ _).alloc (by simp) _).alloc (by simp; omega) _))
      clear hno
      rw [show ([(emptied o o.slots.length, Value.slice (some ⟨w.heap.size + 1, 0, none⟩) o.slots.length o.slots.length)].map Prod.fst) = [emptied o o.slots.length] from rfl, ← HT.out] at HW
      clear HT
      obtain ⟨b, hb⟩ : ∃ b, b = rightT o := ⟨_, rfl⟩
      rw [← hb] at HW ⊢
      clear hb
      obtain ⟨N, hN⟩ : ∃ N, N = o.slots.length := ⟨_, rfl⟩
      rw [← hN] at HW HB hmk hn ⊢
      try rw [← hN] at e2
      try rw [← hN] at e2'
      clear hN
      unfold thingV
      go_enter Tryz.func76, Tryz.ntmps76
      go_wp2_with fail
      refine HW.out.mono ?_
      rintro e w5 ⟨rfl, hb5⟩
      have HB5 := Lib.hid (HB.out.trans (hb5.mono HB.out.size))
      clear hb5
      go_wp2_with fail
      go_ret
      exact ⟨rfl, HB5.out⟩
  · have e1 : (o.kind == 4) = false := by simp [k4]
    have hno : ¬ (o.kind = 4 ∧ 0 < o.slots.length) := fun y => k4 y.1
    clear k4
    have HT := Lib.hid (rightT_test o hno)
    have HW := Lib.hid (refRight_any (refW_graph w o o.slots.length) (by simp) (by intro o2 sv h; rw [List.mem_singleton] at h; cases h; show (List.replicate _ nilV).length ≤ _; rw [List.length_replicate]; exact hn) (by decide))
    have HB := Lib.hid (show Below w.heap.size w (((w.alloc (.cells #[.int .i64 o.kind, .int .i64 o.weak, .int .i64 o.array, .slice (some ⟨w.heap.size + 1, 0, none⟩) o.slots.length o.slots.length, .int .i64 o.fin] 36)).alloc (.cells (flatV (List.replicate o.slots.length nilV)).toArray 34)).alloc (.cells #[.int .i64 o.kind, .int .i64 o.weak, .int .i64 o.array, .slice (some ⟨w.heap.size + 1, 0, none⟩) o.slots.length o.slots.length, .int .i64 o.fin] 36)) from (((below_alloc _ _).alloc (by simp) _).alloc (by simp; omega) _))
    clear hno
    rw [show ([(emptied o o.slots.length, Value.slice (some ⟨w.heap.size + 1, 0, none⟩) o.slots.length o.slots.length)].map Prod.fst) = [emptied o o.slots.length] from rfl, ← HT.out] at HW
    clear HT
    obtain ⟨b, hb⟩ : ∃ b, b = rightT o := ⟨_, rfl⟩
    rw [← hb] at HW ⊢
    clear hb
    obtain ⟨N, hN⟩ : ∃ N, N = o.slots.length := ⟨_, rfl⟩
    rw [← hN] at HW HB hmk hn ⊢
    try rw [← hN] at e2
    try rw [← hN] at e2'
    clear hN
    unfold thingV
    go_enter Tryz.func76, Tryz.ntmps76
    go_wp2_with fail
    refine HW.out.mono ?_
    rintro e w5 ⟨rfl, hb5⟩
    have HB5 := Lib.hid (HB.out.trans (hb5.mono HB.out.size))
    clear hb5
    go_wp2_with fail
    go_ret
    exact ⟨rfl, HB5.out⟩
/-! ### one more -/
theorem infCell3 : (Tryz.prog.info? 116).map (fun i => (i.zero, i.size, i.bytes)) = some (some (.agg #[.int .i64 0, .int .i64 0, .int .i64 0, .slice none 0 0, .int .i64 0, .int .i64 0, .int .i64 0, .int .i64 0, .bool false]), 9, 88) := by kernel_rfl
def RAddP (w : World) (L : RL) (M : Mm) (o : Ob) (e : Ending) (w' : World) : Prop := e = .returned (.int .i64 (addH M o)) ∧ RTo w L w' (M.added o)
set_option maxRecDepth 100000 in
set_option maxHeartbeats 4000000 in
theorem radd_any (h : RMAt w L M) (hs : M.obs.length ≤ 100000) {o : Ob} {sv : Value} (hv : RdV w sv o.slots) (hn : o.slots.length ≤ 100000) :
    Calls Tryz.prog 20 #[.pointer (some ⟨L.p, 0, none⟩), thingV o sv] w fun e w' => RAddP w L M o e w' := by
  obtain ⟨i0, hi0, hz0, hz1, hz2⟩ := info_parts infCell3
  obtain ⟨sa, sc, rfl⟩ := rd_slice hv
  obtain ⟨N, hN⟩ : ∃ N, N = o.slots.length := ⟨_, rfl⟩
  have hb0 := below_alloc w (.cells #[.int .i64 o.kind, .int .i64 o.weak, .int .i64 o.array, .slice sa o.slots.length sc, .int .i64 o.fin] 36)
  have hbx := Box.new w [.int .i64 o.kind, .int .i64 o.weak, .int .i64 o.array, .slice sa o.slots.length sc, .int .i64 o.fin] 36
  have HR := Lib.hid (rRight_any (w := w.alloc (.cells #[.int .i64 o.kind, .int .i64 o.weak, .int .i64 o.array, .slice sa o.slots.length sc, .int .i64 o.fin] 36)) (o := o) (sa := sa) (sc := sc) hn)
  unfold thingV at HR
  rw [← hN] at HR hb0 hbx ⊢
  have HH := Lib.hid h
  have HV := Lib.hid hv
  have HB0 := Lib.hid hb0
  have HBX := Lib.hid hbx
  have HNN := Lib.hid hN
  have HS := Lib.hid hs
  have HN := Lib.hid hn
  clear h hv hb0 hbx hN
  unfold thingV
  go_enter Tryz.func20, Tryz.ntmps20
  go_wp2_with fail
  refine HR.out.mono ?_
  rintro e w2 ⟨rfl, hb2⟩
  have hk2 : Keep L.own w w2 := (Keep.of_below HB0.out).trans (Keep.of_below hb2)
  have HK2 := Lib.hid hk2
  have HB2 := Lib.hid hb2
  have H2 := (HH.out.below HB0.out).below hb2
  cases hr : rightT o with
  | false =>
    have HP : RAddP w L M o (.returned (.int .i64 0)) w2 := ⟨by unfold addH; rw [hr]; rfl, by unfold Mm.added; rw [hr]; exact RTo.same H2 hk2⟩
    have HPP := Lib.hid HP
    clear HP H2 hk2 hb2 hr
    go_wp2_with fail
    go_ret
    exact HPP.out
  | true =>
    have hx2 := HBX.out.below hb2 (by simp)
    have x3 := hx2.cell 3
    simp only [List.getElem?_cons_zero, List.getElem?_cons_succ] at x3
    have f3 := hx2.free 3
    have hv2 : RdV w2 (.slice sa o.slots.length sc) o.slots := by have := Rd.below (Rd.below HV.out HB0.out) hb2; exact this
    have HC := Lib.hid (copied_any hv2 HN.out)
    have HX2 := Lib.hid hx2
    have HRT := Lib.hid hr
    have hw2 : w.heap.size + 1 ≤ w2.heap.size := by have := hb2.size; simpa using this
    rw [← HNN.out] at HC
    clear hx2 hv2 H2 hk2 hb2 hr
    go_wp2_with fail
    refine HC.out.mono ?_
    rintro e w3 ⟨u, rfl, hu, hb3⟩
    rw [← HNN.out] at hu
    obtain ⟨ua, uc, rfl⟩ := row_slice hu
    have hx3 := HX2.out.below hb3 (by omega)
    have g3 := hx3.free 3
    have z3 := hx3.cell 3
    simp only [List.getElem?_cons_zero, List.getElem?_cons_succ] at z3
    have HX3 := Lib.hid hx3
    have HU := Lib.hid hu
    have HB3 := Lib.hid hb3
    clear hx3 hu hb3 x3 f3
    go_wp2_with fail
    obtain ⟨W4, hW4⟩ : ∃ W, W = w3.setCell ⟨w.heap.size, 3, none⟩ (.slice ua N uc) := ⟨_, rfl⟩
    rw [← hW4]
    have hbw : Below w.heap.size w W4 := by
      have h1 := HB3.out.size
      have h2 : Below w.heap.size w w2 := HB0.out.trans (HB2.out.mono (by simp))
      rw [hW4]; exact (h2.trans (HB3.out.mono (by omega))).setCell (Nat.le_refl _) _
    have hx4 : Box W4 w.heap.size [.int .i64 o.kind, .int .i64 o.weak, .int .i64 o.array, .slice ua N uc, .int .i64 o.fin] 36 := by rw [hW4]; exact HX3.out.set 3 _
    have HW := HH.out.below hbw
    obtain ⟨c0, -⟩ := HW.cells
    obtain ⟨la, lc, hla⟩ := row_slice HW.row
    have f0 : W4.frozen? ⟨L.p, 0, none⟩ = false := HW.box.free 0
    have y0 := hx4.cell 0
    have y1 := hx4.cell 1
    have y2 := hx4.cell 2
    have y3 := hx4.cell 3
    have y4 := hx4.cell 4
    simp only [List.getElem?_cons_zero, List.getElem?_cons_succ] at y0 y1 y2 y3 y4
    have hu4 : W4.drew.ownsRow w2.heap.size 34 2 (.slice ua N uc) (newOb o).slots.length (flatV (newOb o).slots) := by
      have : (w3.setCell ⟨w.heap.size, 3, none⟩ (.slice ua N uc)).ownsRow w2.heap.size 34 2 (.slice ua N uc) N (flatV o.slots) := ownsRow_setCell_other HU.out (fun e => HX3.out.ne_row HU.out (by decide) e rfl) _
      rw [← hW4, HNN.out] at this
      rw [HNN.out]; exact this
    have HU4 := Lib.hid hu4
    have HW4 := Lib.hid (HW.below (below_drewN (Below.refl _ _) 1))
    obtain ⟨N2, hN2⟩ : ∃ n, n = M.obs.length := ⟨_, rfl⟩
    rw [← hN2] at hs hla
    rw [hla] at c0
    have HN2 := Lib.hid hN2
    have HLA := Lib.hid hla
    have HX4 := Lib.hid hx4
    have HBW := Lib.hid hbw
    have HSZ := Lib.hid (show w2.heap.size ≤ W4.heap.size ∧ w.heap.size < w2.heap.size from by
      have h1 := HB3.out.size
      have h2 : W4.heap.size = w3.heap.size := by rw [hW4]; simp [World.setCell]
      omega)
    have hnb : ∀ k, L.own k → k ≠ w.heap.size := fun k hk e => by have := HH.out.own_lt hk; omega
    have HNB := Lib.hid hnb
    clear hW4 hbw hx4 HW hu4 hla hN2 hnb
    refine wp_region_noPanic ?_
    refine wp_region_held_drew (S := (fun W => W.cell? ⟨w.heap.size, 0, none⟩ = some (.int .i64 o.kind) ∧ W.cell? ⟨w.heap.size, 1, none⟩ = some (.int .i64 o.weak) ∧ W.cell? ⟨w.heap.size, 2, none⟩ = some (.int .i64 o.array) ∧ W.cell? ⟨w.heap.size, 3, none⟩ = some (.slice ua N uc) ∧ W.cell? ⟨w.heap.size, 4, none⟩ = some (.int .i64 o.fin))) (by kernel_rfl) ?_ (fun hHeld => ?_)
    · exact ⟨y0, y1, y2, y3, y4⟩
    refine wpAnyH_take (i := 0) (oi := ?oia0_1) (v := ?vva0_1) ?hia0_1 (by kernel_rfl) (by kernel_rfl) (by kernel_rfl) ?hQa0_1 ?hya0_1 (by assumption) ?resta0_1
    case hia0_1 => (simp only [List.getElem?_toArray, List.getElem?_cons_succ, List.getElem?_cons_zero]; rfl)
    case hQa0_1 => exact fun _ _ _ h => h
    case hya0_1 => (refine Or.inl ⟨by rfl, ?_⟩; intro w hSw; (try dsimp only at hSw); go_simp; try with_reducible rfl)
    try simp only [Act.put, List.setIfInBounds_toArray, List.set_cons_zero, List.set_cons_succ]
    refine wpAnyH_take (i := 1) (oi := ?oia1_2) (v := ?vva1_2) ?hia1_2 (by kernel_rfl) (by kernel_rfl) (by kernel_rfl) ?hQa1_2 ?hya1_2 (by assumption) ?resta1_2
    case hia1_2 => (simp only [List.getElem?_toArray, List.getElem?_cons_succ, List.getElem?_cons_zero]; rfl)
    case hQa1_2 => exact fun _ _ _ h => h
    case hya1_2 => (refine Or.inl ⟨by rfl, ?_⟩; intro w hSw; (try dsimp only at hSw); go_simp; try with_reducible rfl)
    try simp only [Act.put, List.setIfInBounds_toArray, List.set_cons_zero, List.set_cons_succ]
    refine wpAnyH_take (i := 2) (oi := ?oia2_3) (v := ?vva2_3) ?hia2_3 (by kernel_rfl) (by kernel_rfl) (by kernel_rfl) ?hQa2_3 ?hya2_3 (by assumption) ?resta2_3
    case hia2_3 => (simp only [List.getElem?_toArray, List.getElem?_cons_succ, List.getElem?_cons_zero]; rfl)
    case hQa2_3 => exact fun _ _ _ h => h
    case hya2_3 => (refine Or.inl ⟨by rfl, ?_⟩; intro w hSw; (try dsimp only at hSw); go_simp; try with_reducible rfl)
    try simp only [Act.put, List.setIfInBounds_toArray, List.set_cons_zero, List.set_cons_succ]
    refine wpAnyH_take (i := 3) (oi := ?oia3_4) (v := ?vva3_4) ?hia3_4 (by kernel_rfl) (by kernel_rfl) (by kernel_rfl) ?hQa3_4 ?hya3_4 (by assumption) ?resta3_4
    case hia3_4 => (simp only [List.getElem?_toArray, List.getElem?_cons_succ, List.getElem?_cons_zero]; rfl)
    case hQa3_4 => exact fun _ _ _ h => h
    case hya3_4 => (refine Or.inl ⟨by rfl, ?_⟩; intro w hSw; (try dsimp only at hSw); go_simp; try with_reducible rfl)
    try simp only [Act.put, List.setIfInBounds_toArray, List.set_cons_zero, List.set_cons_succ]
    refine wpAnyH_take (i := 5) (oi := ?oia5_5) (v := ?vva5_5) ?hia5_5 (by kernel_rfl) (by kernel_rfl) (by kernel_rfl) ?hQa5_5 ?hya5_5 (by assumption) ?resta5_5
    case hia5_5 => (simp only [List.getElem?_toArray, List.getElem?_cons_succ, List.getElem?_cons_zero]; rfl)
    case hQa5_5 => exact fun _ _ _ h => h
    case hya5_5 => (refine Or.inl ⟨by rfl, ?_⟩; intro w hSw; (try dsimp only at hSw); go_simp; try with_reducible rfl)
    try simp only [Act.put, List.setIfInBounds_toArray, List.set_cons_zero, List.set_cons_succ]
    refine wpAnyH_take (i := 6) (oi := ?oia6_6) (v := ?vva6_6) ?hia6_6 (by kernel_rfl) (by kernel_rfl) (by kernel_rfl) ?hQa6_6 ?hya6_6 (by assumption) ?resta6_6
    case hia6_6 => (simp only [List.getElem?_toArray, List.getElem?_cons_succ, List.getElem?_cons_zero]; rfl)
    case hQa6_6 => exact fun _ _ _ h => h
    case hya6_6 => (refine Or.inl ⟨by rfl, ?_⟩; intro w hSw; (try dsimp only at hSw); go_simp; try with_reducible rfl)
    try simp only [Act.put, List.setIfInBounds_toArray, List.set_cons_zero, List.set_cons_succ]
    refine wpAnyH_ready (rs := [4, 7]) (by kernel_rfl) (by simp) ?_
    refine AllReadyH.cons (o := ?oa4_7) ?hoa4_7 (fun Kz hK => ?sta4_7) (AllReadyH.cons (o := ?oa7_7x) ?hoa7_7x (fun Kz hK => ?sta7_7x) AllReadyH.nil)
    case hoa4_7 => (simp only [List.getElem?_toArray, List.getElem?_cons_succ, List.getElem?_cons_zero]; rfl)
    case hoa7_7x => (simp only [List.getElem?_toArray, List.getElem?_cons_succ, List.getElem?_cons_zero]; rfl)
    · go_simp
      refine hK.out _ _ ⟨y0, y1, y2, y3, y4⟩ (fun hHeld => ?_)
      clear hK Kz
      try simp only [Act.put, List.setIfInBounds_toArray, List.set_cons_zero, List.set_cons_succ]
      refine wpAnyH_ready (rs := [7]) (by kernel_rfl) (by simp) ?_
      refine AllReadyH.cons (o := ?ob7_8) ?hob7_8 (fun Kz hK => ?stb7_8) AllReadyH.nil
      case hob7_8 => (simp only [List.getElem?_toArray, List.getElem?_cons_succ, List.getElem?_cons_zero]; rfl)
      go_simp
      refine hK.out _ _ ⟨Lib.cell?_alloc_some _ y0, Lib.cell?_alloc_some _ y1, Lib.cell?_alloc_some _ y2, Lib.cell?_alloc_some _ y3, Lib.cell?_alloc_some _ y4⟩ (fun hHeld => ?_)
      clear hK Kz
      try simp only [Act.put, List.setIfInBounds_toArray, List.set_cons_zero, List.set_cons_succ]
      refine wpAnyH_ready (rs := [8]) (by kernel_rfl) (by simp) ?_
      refine AllReadyH.cons (o := ?oc8_9) ?hoc8_9 (fun Kz hK => ?stc8_9) AllReadyH.nil
      case hoc8_9 => (simp only [List.getElem?_toArray, List.getElem?_cons_succ, List.getElem?_cons_zero]; rfl)
      refine step_append_row rfl (.tmp 16) (.tmp 19) 42 rfl 116 i0 (.agg #[.int .i64 0, .int .i64 0, .int .i64 0, .slice none 0 0, .int .i64 0, .int .i64 0, .int .i64 0, .int .i64 0, .bool false]) 9 88 Tryz.underlying42 hi0 hz0 hz1 hz2 rfl (by decide) (.slice la N2 lc) N2 (flatR (M.obs.zip L.svs)) rfl (by rw [← HLA.out, HN2.out]; exact (HW4.out.below (below_alloc _ _)).row) ⟨W4.heap.size, 0, none⟩ 1 1 (rcL (some (newOb o)) (.slice ua N uc)) rfl rfl ?_ ?_ (by unfold maxLen; omega) (by omega) ?_
      · intro j x hx
        rw [addr_add, Nat.zero_add]
        exact ((Box.new W4.drew (rcL (some (newOb o)) (.slice ua N uc)) 116).cell j).trans hx
      · intro x hx
        simp only [rcL, List.mem_cons, List.mem_nil_iff, or_false] at hx
        rcases hx with rfl | rfl | rfl | rfl | rfl | rfl | rfl | rfl | rfl <;> rfl
      intro v9 w9 hown9 hg9 hb9
      obtain ⟨a9, cc9, rfl⟩ := row_slice hown9
      have hg' : (W4.drew.alloc (.cells (rcL (some (newOb o)) (.slice ua N uc)).toArray 116)).grownBy w9 L.l.ownBlock := by rw [HLA.out]; exact hg9
      have hx9 : Box w9 w.heap.size [.int .i64 o.kind, .int .i64 o.weak, .int .i64 o.array, .slice ua N uc, .int .i64 o.fin] 36 := (HX4.out.drew.alloc _).of_block (hg'.block _ (HX4.out.drew.alloc _).lt fun e => HNB.out _ (.inr (.inl e.symm)) rfl)
      have hp9 : Box w9 L.p [L.l, L.rv] 44 := (HW4.out.box.alloc _).of_block (hg'.block _ (HW4.out.box.alloc _).lt fun e => HW4.out.box.ne_row HW4.out.row (by decide) e.symm rfl)
      have hadd := HW4.out.added (o := newOb o) HU4.out (fun k hk => by have := HH.out.own_lt hk; have := HSZ.out; omega) (by rw [← HN2.out]; exact hown9) hg' (by rcases hb9 with y | y; exact .inl (by rw [HLA.out]; exact y); exact .inr (y.trans (congrArg some (by simp)))) HSZ.out.1
      obtain ⟨ha1, ha2, ha3⟩ := hadd
      have HR := Lib.hid (show RAddP w L M o (.returned (.int .i64 ((N2 : Int) + 1))) (w9.setCell ⟨L.p, 0, none⟩ (.slice a9 (N2 + 1) cc9)) from ⟨by unfold addH; rw [HRT.out, if_pos rfl, HN2.out], by
        unfold Mm.added
        rw [HRT.out, if_pos rfl]
        refine ⟨{ L with l := .slice a9 (N2 + 1) cc9, svs := L.svs ++ [.slice ua N uc] }, rfl, ha1, ?_, fun k hk => ?_⟩
        · exact ((Keep.of_below HBW.out).trans (Keep.of_below (B := L.own) (below_drewN (Below.refl _ _) 1))).trans ha2
        · rcases ha3 k hk with e | e
          · exact .inl e
          · exact .inr (by have := HSZ.out; omega)⟩)
      have q9 := hp9.cell 0
      have fz9 := hp9.free 0
      have x0 := hx9.cell 0
      have x1 := hx9.cell 1
      have x2 := hx9.cell 2
      have x3 := hx9.cell 3
      have x4 := hx9.cell 4
      simp only [List.getElem?_cons_zero, List.getElem?_cons_succ] at q9 x0 x1 x2 x3 x4
      have hne9 : L.p ≠ w.heap.size := HNB.out _ (.inl rfl)
      have hfin := ha1.cells.1
      simp only at hfin
      clear hown9 hg9 hb9 hg' hx9 hp9 ha1 ha2 ha3
      refine hK.out _ _ ⟨x0, x1, x2, x3, x4⟩ (fun hHeld => ?_)
      clear hK Kz
      try simp only [Act.put, List.setIfInBounds_toArray, List.set_cons_zero, List.set_cons_succ]
      refine wpAnyH_take (i := 9) (oi := ?oic9_10) (v := ?vvc9_10) ?hic9_10 (by kernel_rfl) (by kernel_rfl) (by kernel_rfl) ?hQc9_10 ?hyc9_10 (by assumption) ?restc9_10
      case hic9_10 => (simp only [List.getElem?_toArray, List.getElem?_cons_succ, List.getElem?_cons_zero]; rfl)
      case hQc9_10 => exact fun _ _ _ h => h
      case hyc9_10 => (refine Or.inl ⟨by rfl, ?_⟩; intro w hSw; (try dsimp only at hSw); go_simp; try with_reducible rfl)
      try simp only [Act.put, List.setIfInBounds_toArray, List.set_cons_zero, List.set_cons_succ]
      refine wpAnyH_take (i := 10) (oi := ?oic10_11) (v := ?vvc10_11) ?hic10_11 (by kernel_rfl) (by kernel_rfl) (by kernel_rfl) ?hQc10_11 ?hyc10_11 (by assumption) ?restc10_11
      case hic10_11 => (simp only [List.getElem?_toArray, List.getElem?_cons_succ, List.getElem?_cons_zero]; rfl)
      case hQc10_11 => exact fun _ _ _ h => h
      case hyc10_11 => (refine Or.inl ⟨by rfl, ?_⟩; intro w hSw; (try dsimp only at hSw); go_simp; try with_reducible rfl)
      try simp only [Act.put, List.setIfInBounds_toArray, List.set_cons_zero, List.set_cons_succ]
      refine wpAnyH_ready (rs := [11]) (by kernel_rfl) (by simp) ?_
      refine AllReadyH.cons (o := ?oc11_12) ?hoc11_12 (fun Kz hK => ?stc11_12) AllReadyH.nil
      case hoc11_12 => (simp only [List.getElem?_toArray, List.getElem?_cons_succ, List.getElem?_cons_zero]; rfl)
      go_simp
      refine hK.out _ _ ⟨(World.cell?_setCell_far _ _ _ _ hne9).trans x0, (World.cell?_setCell_far _ _ _ _ hne9).trans x1, (World.cell?_setCell_far _ _ _ _ hne9).trans x2, (World.cell?_setCell_far _ _ _ _ hne9).trans x3, (World.cell?_setCell_far _ _ _ _ hne9).trans x4⟩ (fun hHeld => ?_)
      clear hK Kz
      try simp only [Act.put, List.setIfInBounds_toArray, List.set_cons_zero, List.set_cons_succ]
      refine wpAnyH_done (by kernel_rfl) ?_ _
      refine NoPanic.normal ?_
      go_wp2_with fail
      go_ret
      exact HR.out
    · go_simp
      refine hK.out _ _ ⟨Lib.cell?_alloc_some _ y0, Lib.cell?_alloc_some _ y1, Lib.cell?_alloc_some _ y2, Lib.cell?_alloc_some _ y3, Lib.cell?_alloc_some _ y4⟩ (fun hHeld => ?_)
      clear hK Kz
      try simp only [Act.put, List.setIfInBounds_toArray, List.set_cons_zero, List.set_cons_succ]
      have c0' := Lib.cell?_alloc_some (.cells #[.int .i64 o.kind, .int .i64 o.weak, .int .i64 o.array, .slice ua N uc, .int .i64 o.fin, .int .i64 0, .int .i64 0, .int .i64 0, .bool true] 116) c0
      refine wpAnyH_ready (rs := [4]) (by kernel_rfl) (by simp) ?_
      refine AllReadyH.cons (o := ?ob4_13) ?hob4_13 (fun Kz hK => ?stb4_13) AllReadyH.nil
      case hob4_13 => (simp only [List.getElem?_toArray, List.getElem?_cons_succ, List.getElem?_cons_zero]; rfl)
      go_simp
      refine hK.out _ _ ⟨Lib.cell?_alloc_some _ y0, Lib.cell?_alloc_some _ y1, Lib.cell?_alloc_some _ y2, Lib.cell?_alloc_some _ y3, Lib.cell?_alloc_some _ y4⟩ (fun hHeld => ?_)
      clear hK Kz
      try simp only [Act.put, List.setIfInBounds_toArray, List.set_cons_zero, List.set_cons_succ]
      refine wpAnyH_ready (rs := [8]) (by kernel_rfl) (by simp) ?_
      refine AllReadyH.cons (o := ?oc8_14) ?hoc8_14 (fun Kz hK => ?stc8_14) AllReadyH.nil
      case hoc8_14 => (simp only [List.getElem?_toArray, List.getElem?_cons_succ, List.getElem?_cons_zero]; rfl)
      refine step_append_row rfl (.tmp 16) (.tmp 19) 42 rfl 116 i0 (.agg #[.int .i64 0, .int .i64 0, .int .i64 0, .slice none 0 0, .int .i64 0, .int .i64 0, .int .i64 0, .int .i64 0, .bool false]) 9 88 Tryz.underlying42 hi0 hz0 hz1 hz2 rfl (by decide) (.slice la N2 lc) N2 (flatR (M.obs.zip L.svs)) rfl (by rw [← HLA.out, HN2.out]; exact (HW4.out.below (below_alloc _ _)).row) ⟨W4.heap.size, 0, none⟩ 1 1 (rcL (some (newOb o)) (.slice ua N uc)) rfl rfl ?_ ?_ (by unfold maxLen; omega) (by omega) ?_
      · intro j x hx
        rw [addr_add, Nat.zero_add]
        exact ((Box.new W4.drew (rcL (some (newOb o)) (.slice ua N uc)) 116).cell j).trans hx
      · intro x hx
        simp only [rcL, List.mem_cons, List.mem_nil_iff, or_false] at hx
        rcases hx with rfl | rfl | rfl | rfl | rfl | rfl | rfl | rfl | rfl <;> rfl
      intro v9 w9 hown9 hg9 hb9
      obtain ⟨a9, cc9, rfl⟩ := row_slice hown9
      have hg' : (W4.drew.alloc (.cells (rcL (some (newOb o)) (.slice ua N uc)).toArray 116)).grownBy w9 L.l.ownBlock := by rw [HLA.out]; exact hg9
      have hx9 : Box w9 w.heap.size [.int .i64 o.kind, .int .i64 o.weak, .int .i64 o.array, .slice ua N uc, .int .i64 o.fin] 36 := (HX4.out.drew.alloc _).of_block (hg'.block _ (HX4.out.drew.alloc _).lt fun e => HNB.out _ (.inr (.inl e.symm)) rfl)
      have hp9 : Box w9 L.p [L.l, L.rv] 44 := (HW4.out.box.alloc _).of_block (hg'.block _ (HW4.out.box.alloc _).lt fun e => HW4.out.box.ne_row HW4.out.row (by decide) e.symm rfl)
      have hadd := HW4.out.added (o := newOb o) HU4.out (fun k hk => by have := HH.out.own_lt hk; have := HSZ.out; omega) (by rw [← HN2.out]; exact hown9) hg' (by rcases hb9 with y | y; exact .inl (by rw [HLA.out]; exact y); exact .inr (y.trans (congrArg some (by simp)))) HSZ.out.1
      obtain ⟨ha1, ha2, ha3⟩ := hadd
      have HR := Lib.hid (show RAddP w L M o (.returned (.int .i64 ((N2 : Int) + 1))) (w9.setCell ⟨L.p, 0, none⟩ (.slice a9 (N2 + 1) cc9)) from ⟨by unfold addH; rw [HRT.out, if_pos rfl, HN2.out], by
        unfold Mm.added
        rw [HRT.out, if_pos rfl]
        refine ⟨{ L with l := .slice a9 (N2 + 1) cc9, svs := L.svs ++ [.slice ua N uc] }, rfl, ha1, ?_, fun k hk => ?_⟩
        · exact ((Keep.of_below HBW.out).trans (Keep.of_below (B := L.own) (below_drewN (Below.refl _ _) 1))).trans ha2
        · rcases ha3 k hk with e | e
          · exact .inl e
          · exact .inr (by have := HSZ.out; omega)⟩)
      have q9 := hp9.cell 0
      have fz9 := hp9.free 0
      have x0 := hx9.cell 0
      have x1 := hx9.cell 1
      have x2 := hx9.cell 2
      have x3 := hx9.cell 3
      have x4 := hx9.cell 4
      simp only [List.getElem?_cons_zero, List.getElem?_cons_succ] at q9 x0 x1 x2 x3 x4
      have hne9 : L.p ≠ w.heap.size := HNB.out _ (.inl rfl)
      have hfin := ha1.cells.1
      simp only at hfin
      clear hown9 hg9 hb9 hg' hx9 hp9 ha1 ha2 ha3
      refine hK.out _ _ ⟨x0, x1, x2, x3, x4⟩ (fun hHeld => ?_)
      clear hK Kz
      try simp only [Act.put, List.setIfInBounds_toArray, List.set_cons_zero, List.set_cons_succ]
      refine wpAnyH_take (i := 9) (oi := ?oic9_15) (v := ?vvc9_15) ?hic9_15 (by kernel_rfl) (by kernel_rfl) (by kernel_rfl) ?hQc9_15 ?hyc9_15 (by assumption) ?restc9_15
      case hic9_15 => (simp only [List.getElem?_toArray, List.getElem?_cons_succ, List.getElem?_cons_zero]; rfl)
      case hQc9_15 => exact fun _ _ _ h => h
      case hyc9_15 => (refine Or.inl ⟨by rfl, ?_⟩; intro w hSw; (try dsimp only at hSw); go_simp; try with_reducible rfl)
      try simp only [Act.put, List.setIfInBounds_toArray, List.set_cons_zero, List.set_cons_succ]
      refine wpAnyH_take (i := 10) (oi := ?oic10_16) (v := ?vvc10_16) ?hic10_16 (by kernel_rfl) (by kernel_rfl) (by kernel_rfl) ?hQc10_16 ?hyc10_16 (by assumption) ?restc10_16
      case hic10_16 => (simp only [List.getElem?_toArray, List.getElem?_cons_succ, List.getElem?_cons_zero]; rfl)
      case hQc10_16 => exact fun _ _ _ h => h
      case hyc10_16 => (refine Or.inl ⟨by rfl, ?_⟩; intro w hSw; (try dsimp only at hSw); go_simp; try with_reducible rfl)
      try simp only [Act.put, List.setIfInBounds_toArray, List.set_cons_zero, List.set_cons_succ]
      refine wpAnyH_ready (rs := [11]) (by kernel_rfl) (by simp) ?_
      refine AllReadyH.cons (o := ?oc11_17) ?hoc11_17 (fun Kz hK => ?stc11_17) AllReadyH.nil
      case hoc11_17 => (simp only [List.getElem?_toArray, List.getElem?_cons_succ, List.getElem?_cons_zero]; rfl)
      go_simp
      refine hK.out _ _ ⟨(World.cell?_setCell_far _ _ _ _ hne9).trans x0, (World.cell?_setCell_far _ _ _ _ hne9).trans x1, (World.cell?_setCell_far _ _ _ _ hne9).trans x2, (World.cell?_setCell_far _ _ _ _ hne9).trans x3, (World.cell?_setCell_far _ _ _ _ hne9).trans x4⟩ (fun hHeld => ?_)
      clear hK Kz
      try simp only [Act.put, List.setIfInBounds_toArray, List.set_cons_zero, List.set_cons_succ]
      refine wpAnyH_done (by kernel_rfl) ?_ _
      refine NoPanic.normal ?_
      go_wp2_with fail
      go_ret
      exact HR.out
end Go.Proofs.YtminbemdcanakaaGreat
/- The reference's objects of a graph. -/
namespace Go.Proofs.YtminbemdcanakaaGreat
open Go.RowKit
set_option linter.unusedVariables false
set_option linter.unusedSimpArgs false

variable {w w' : World} {L : RL} {M : Mm}
theorem memM_snocR {l : List Ob} {r : List V} {o : Ob} (h : rightT o = true) : (memM l r).added o = memM (l ++ [o]) r := by
  unfold Mm.added
  rw [h, if_pos rfl]
  unfold Mm.add memM
  simp
def RNewP (w : World) (m : Option Mm) (e : Ending) (w' : World) : Prop := match m with
  | none => e = .returned (.pointer none) ∧ Below w.heap.size w w'
  | some M => ∃ L : RL, e = .returned (.pointer (some ⟨L.p, 0, none⟩)) ∧ RMAt w' L M ∧ Below w.heap.size w w' ∧ ∀ k, L.own k → w.heap.size ≤ k
/-- What NewMem has made. -/
structure RS13 (w wr : World) (p : Nat) (tv rv : Value) (L : RL) (M : Mm) : Prop where
  at_ : RMAt wr L M
  p : L.p = p
  hg : Box wr w.heap.size [tv, rv] 25
  below : Below w.heap.size w wr
  own : ∀ k, L.own k → w.heap.size < k
theorem RS13.to {w wr wr' : World} {p : Nat} {tv rv : Value} {L : RL} {M M' : Mm} (h : RS13 w wr p tv rv L M) (hm : RTo wr L wr' M') : ∃ L', RS13 w wr' p tv rv L' M' := by
  obtain ⟨L', h1, h2, h3, h4⟩ := hm
  refine ⟨L', h2, h1.trans h.p, h.hg.of_block (h3.block _ h.hg.lt fun e => by have := h.own _ e; omega), h.below.trans (h3.below h.below.size fun k hk e => by have := h.own k e; omega), fun k hk => ?_⟩
  rcases h4 k hk with e | e
  · exact h.own k e
  · have := h.hg.lt; omega
theorem rmem_new {W : World} {B : Nat} {u : Value} {r : List V} (hu : W.ownsRow B 34 2 u r.length (flatV r)) : RMAt (W.alloc (.cells #[.slice none 0 0, u] 44)) ⟨W.heap.size, .slice none 0 0, u, []⟩ (memM [] r) := by
  have hu2 := ownsRow_of_block (w' := W.alloc (.cells #[.slice none 0 0, u] 44)) hu fun k hk => Below.heap_alloc _ _ _ (hu.lt k hk).2
  refine ⟨Box.new W _ _, World.ownsRow_nil _ _ _ _, ⟨hu2.1, ?_⟩, rfl, ?_, ?_, ?_, ?_⟩
  · rcases hu2.2 with x | ⟨g, cap, cur, h1, h2, h3⟩
    · exact .inl x
    · exact .inr ⟨g, cap, cur, h1, Nat.zero_le _, h3⟩
  · intro i o sv hi; simp [memM] at hi
  · intro i sv hi; simp [memM] at hi
  · intro i j sv sv' hi; simp at hi
  · intro i sv hi; simp at hi
set_option maxRecDepth 100000 in
set_option maxHeartbeats 4000000 in
theorem rnewMem_any {tv rv : Value} {ts : List (Ob × Value)} {roots : List V} (hg : GrAt w tv rv ts roots) (hs : ts.length ≤ 100000) (hss : ∀ o sv, (o, sv) ∈ ts → o.slots.length ≤ 100000) (hsr : roots.length ≤ 100000) :
    Calls Tryz.prog 18 #[.agg #[tv, rv]] w fun e w' => RNewP w (newM (ts.map Prod.fst) roots) e w' := by
  obtain ⟨ta, tc, rfl⟩ := rd_slice hg.things
  obtain ⟨ra, rc, rfl⟩ := rd_slice hg.roots
  obtain ⟨N, hN⟩ : ∃ N, N = ts.length := ⟨_, rfl⟩
  obtain ⟨RN, hRN⟩ : ∃ N, N = roots.length := ⟨_, rfl⟩
  have hb0 := below_alloc w (.cells #[.slice ta ts.length tc, .slice ra roots.length rc] 25)
  have hbx := Box.new w [.slice ta ts.length tc, .slice ra roots.length rc] 25
  have HG := Lib.hid hg
  have HR := Lib.hid (refRight_any (hg.below hb0) hs hss hsr)
  rw [← hN, ← hRN] at HR hb0 hbx ⊢
  have HB0 := Lib.hid hb0
  have HBX := Lib.hid hbx
  have HT0 := Lib.hid (show Rd w (.slice ta N tc) ts.length (flatT ts) by rw [hN]; exact hg.things)
  have HRV := Lib.hid (show RdV w (.slice ra RN rc) roots by rw [hRN]; exact hg.roots)
  have HN := Lib.hid hN
  have HRN := Lib.hid hRN
  have HSS := Lib.hid hss
  have hsN : N ≤ 100000 := by omega
  have HS := Lib.hid hs
  have HSR := Lib.hid hsr
  clear hg hN hRN hss hb0 hbx hsr hs
  go_enter Tryz.func18, Tryz.ntmps18
  go_wp2_with fail
  refine HR.out.mono ?_
  rintro e w1 ⟨rfl, hb1⟩
  cases hr : rightG (ts.map Prod.fst) roots with
  | false =>
    have HP : RNewP w (newM (ts.map Prod.fst) roots) (.returned (.pointer none)) w1 := by
      unfold newM RNewP
      rw [hr, if_neg (by rintro ⟨h, -⟩; cases h)]
      exact ⟨rfl, HB0.out.trans (hb1.mono (by simp))⟩
    have HPP := Lib.hid HP
    clear HP hb1 hr
    go_wp2_with fail
    go_ret
    exact HPP.out
  | true =>
    have hx1 := HBX.out.below hb1 (by simp)
    have x1 := hx1.cell 1
    simp only [List.getElem?_cons_zero, List.getElem?_cons_succ] at x1
    have HX1 := Lib.hid hx1
    have HB1 := Lib.hid (HB0.out.trans (hb1.mono (by simp)))
    have HCP := Lib.hid (copied_any (Rd.below HRV.out HB1.out) HSR.out)
    have HRG := Lib.hid hr
    have HSZ := Lib.hid (show w.heap.size + 1 ≤ w1.heap.size from by have := hb1.size; simpa using this)
    clear hx1 hb1 hr
    go_wp2_with fail
    refine HCP.out.mono ?_
    rintro e w2 ⟨u, rfl, hu, hb2⟩
    obtain ⟨ua, uc, rfl⟩ := row_slice hu
    have hNS : RS13 w (w2.alloc (.cells #[.slice none 0 0, .slice ua roots.length uc] 44)) w2.heap.size (.slice ta N tc) (.slice ra RN rc) ⟨w2.heap.size, .slice none 0 0, .slice ua roots.length uc, []⟩ (memM [] roots) := by
      have h1 := hb2.size
      have h2 := HSZ.out
      refine ⟨rmem_new hu, rfl, (HX1.out.below hb2 HX1.out.lt).alloc _, (HB1.out.trans (hb2.mono HB1.out.size)).alloc (by omega) _, ?_⟩
      rintro k (rfl | e | e | ⟨i, sv, hi, e⟩)
      · show w.heap.size < w2.heap.size; omega
      · cases e
      · have := (hu.lt k e).1; omega
      · simp at hi
    have x0 := hNS.hg.cell 0
    simp only [List.getElem?_cons_zero] at x0
    have HNS := Lib.hid hNS
    clear hNS hu hb2 x1
    go_wp2_with fail
    go_loopw [4] (fun t4 wr => ∃ (i : Nat) (L : RL), i ≤ N ∧ t4 = .int .i64 i ∧ ((ts.take i).map Prod.fst).all rightT = true ∧ RS13 w wr w2.heap.size (.slice ta N tc) (.slice ra RN rc) L (memM ((ts.take i).map Prod.fst) roots)) (fun t4 _ => N - (intOf t4).toNat)
    case atStart => exact ⟨0, _, Nat.zero_le _, by go_num, rfl, HNS.out⟩
    case round =>
      obtain ⟨i, L, hi, rfl, hacc, R⟩ := hrel
      have b0 := R.hg.cell 0
      simp only [List.getElem?_cons_zero] at b0
      clear x0
      by_cases hlt : i < N
      · obtain ⟨⟨o, sv⟩, hx⟩ : ∃ x, ts[i]? = some x := ⟨ts[i]'(by rw [← HN.out]; exact hlt), List.getElem?_eq_getElem _⟩
        have hmem : (o, sv) ∈ ts := List.mem_of_getElem? hx
        obtain ⟨ad, c2, ha, hc⟩ := rd_at (Rd.below HT0.out R.below) (by intro e; have := flatT_len ts; rw [e] at this; simp at this; have := HN.out; omega)
        simp only [Value.slice.injEq] at ha
        obtain ⟨rfl, -, rfl⟩ := ha
        obtain ⟨f0, f1, f2, f3, f4⟩ := flatT_at _ _ _ hx
        have d0 := hc _ _ f0
        have d1 := cell_more (hc _ _ f1)
        have d2 := cell_more (k := 1) (hc _ _ f2)
        have d3 := cell_more (k := 2) (hc _ _ f3)
        have d4 := cell_more (k := 3) (hc _ _ f4)
        simp only [Nat.zero_add, Nat.reduceAdd] at d0 d1 d2 d3 d4
        have hsl := HG.out.slots o sv hmem
        have hsz := HSS.out o sv hmem
        obtain ⟨sa, sc, rfl⟩ := rd_slice hsl
        have hts : (ts.take (i + 1)).map Prod.fst = (ts.take i).map Prod.fst ++ [o] := by
          rw [List.take_add_one, hx]; simp
        have HTS := Lib.hid hts
        have HACC := Lib.hid hacc
        have HMEM := Lib.hid hmem
        have hA := radd_any R.at_ (by show (((ts.take i).map Prod.fst).map _).length ≤ _; simp; have := HS.out; omega) (Rd.below hsl R.below) hsz
        rw [R.p] at hA
        unfold thingV at hA
        have HA := Lib.hid hA
        have HW := Lib.hid R
        clear hc hx hmem f0 f1 f2 f3 f4 hsl hsz hts hacc R hA
        go_wp2_with fail
        refine HA.out.mono ?_
        rintro e w3 ⟨rfl, hM⟩
        obtain ⟨L2, hM2⟩ := HW.out.to hM
        have HM2 := Lib.hid hM2
        clear hM hM2
        cases hr : rightT o with
        | false =>
          have hz : addH (memM ((ts.take i).map Prod.fst) roots) o = 0 := by unfold addH; rw [hr]; rfl
          rw [hz]
          have HP : RNewP w (newM (ts.map Prod.fst) roots) (.returned (.pointer none)) w3 := by
            unfold newM RNewP
            rw [if_neg]
            · exact ⟨rfl, HM2.out.below⟩
            · rintro ⟨-, h⟩
              have := List.all_eq_true.1 h o (List.mem_map.2 ⟨(o, _), HMEM.out, rfl⟩)
              rw [hr] at this
              cases this
          have HPP := Lib.hid HP
          clear HP hr hz
          go_wp2_with fail
          go_ret
          exact HPP.out
        | true =>
          have hz : addH (memM ((ts.take i).map Prod.fst) roots) o = (i : Int) + 1 := by
            unfold addH
            rw [hr, if_pos rfl]
            show ((((ts.take i).map Prod.fst).map _).length : Int) + 1 = _
            simp
            have := HN.out
            omega
          rw [hz]
          have e1 : ((i : Int) + 1 == 0) = false := by simp; omega
          have HM3 := Lib.hid (show RS13 w w3 w2.heap.size (.slice (some ad) N tc) (.slice ra RN rc) L2 (memM ((ts.take (i + 1)).map Prod.fst) roots) from by
            have := HM2.out
            rw [memM_snocR hr] at this
            rw [HTS.out]; exact this)
          have HAL := Lib.hid (show ((ts.take (i + 1)).map Prod.fst).all rightT = true by rw [HTS.out, List.all_append, HACC.out]; simp [hr])
          clear hr hz
          go_wp2_with fail
          go_roundw
          case rel => exact ⟨i + 1, L2, by omega, by go_num, HAL.out, HM3.out⟩
          case measure => simp [intOf]; omega
      · obtain rfl : i = N := by omega
        have HP : RNewP w (newM (ts.map Prod.fst) roots) (.returned (.pointer (some ⟨w2.heap.size, 0, none⟩))) wr := by
          have e : (ts.take i).map Prod.fst = ts.map Prod.fst := by rw [HN.out, List.take_length]
          rw [e] at hacc R
          unfold newM
          rw [if_pos ⟨HRG.out, hacc⟩]
          exact ⟨L, by rw [R.p], R.at_, R.below, fun k hk => Nat.le_of_lt (R.own k hk)⟩
        have HPP := Lib.hid HP
        clear HP hacc R
        go_wp2_with fail
        go_ret
        exact HPP.out
end Go.Proofs.YtminbemdcanakaaGreat
