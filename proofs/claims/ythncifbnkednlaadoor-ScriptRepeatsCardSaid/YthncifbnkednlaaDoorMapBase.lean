/- Maps whose keys are ints: what a map's block reads as, a key looked up, stored, deleted; no condition but that every key is an int. -/
import Derived.WalkKit
import Derived.WalkSpells
import Derived.WalkLawsBesides
import Derived.Maps.OwnSet
import Derived.RangeFuncRecord
import Derived.Lib.Hide
namespace Go.Proofs.YthncifbnkednlaaDoor
open Go.RowKit Go.MapKept
set_option linter.unusedVariables false
set_option linter.unusedSimpArgs false

/-- Every key is an int. -/
def IntKeys (es : List MapEntry) : Prop := ∀ e ∈ es, ∃ k : Int, e.key = .int .i64 k

/-- No key stands twice. -/
def NodupKeys (es : List MapEntry) : Prop := es.Pairwise fun a b => a.key ≠ b.key

/-- The entries read as M. -/
def MapRep (es : List MapEntry) (M : Int → Option Value) : Prop :=
  IntKeys es ∧ NodupKeys es ∧ ∀ k v, M k = some v ↔ ∃ e ∈ es, e.key = .int .i64 k ∧ e.val = v

/-- Block b is a map that reads as M. -/
def IntMapAt (w : World) (b : Nat) (M : Int → Option Value) : Prop :=
  ∃ es clock, w.heap[b]? = some (.map es clock) ∧ MapRep es.toList M

def updM (M : Int → Option Value) (k : Int) (v : Option Value) : Int → Option Value := fun j => if j = k then v else M j

theorem isKey_int (k : Int) : IsKey (.int .i64) (.int .i64 k) := by simp [IsKey]

theorem IntKeys.isKey {es : List MapEntry} (h : IntKeys es) : ∀ x ∈ es, IsKey (.int .i64) x.key := by
  intro x hx
  obtain ⟨k, hk⟩ := h x hx
  rw [hk]; exact isKey_int k

/-- What a key's search comes to. -/
theorem MapRep.find {es : List MapEntry} {M : Int → Option Value} (h : MapRep es M) (k : Int) :
    (Instr.findNow (.int .i64) (.int .i64 k) es 0 = some none ∧ M k = none ∧ ∀ x ∈ es, x.key ≠ .int .i64 k) ∨
    ∃ (j : Nat) (e : MapEntry), Instr.findNow (.int .i64) (.int .i64 k) es 0 = some (some (j, e.val)) ∧ M k = some e.val ∧ es[j]? = some e ∧ e.key = .int .i64 k := by
  rcases findNow_spec (isKey_int k) es 0 h.1.isKey with ⟨h1, h2⟩ | ⟨j, e, h1, h2, h3⟩
  · refine .inl ⟨h1, ?_, h2⟩
    cases hM : M k with
    | none => rfl
    | some v =>
      obtain ⟨e, he, hk, _⟩ := (h.2.2 k v).1 hM
      exact absurd hk (h2 e he)
  · exact .inr ⟨j, e, by simpa using h1, (h.2.2 k _).2 ⟨e, List.mem_of_getElem? h2, h3, rfl⟩, h2, h3⟩

theorem MapRep.push {es : List MapEntry} {M : Int → Option Value} (h : MapRep es M) {k : Int} (hk : ∀ x ∈ es, x.key ≠ .int .i64 k) (v : Value) (n : Nat) :
    MapRep (es ++ [{ key := .int .i64 k, val := v, born := n }]) (updM M k (some v)) := by
  refine ⟨?_, ?_, ?_⟩
  · intro e he
    rcases List.mem_append.1 he with he | he
    · exact h.1 e he
    · simp at he; subst he; exact ⟨k, rfl⟩
  · unfold NodupKeys
    rw [List.pairwise_append]
    refine ⟨h.2.1, by simp, ?_⟩
    intro a ha b hb
    simp at hb; subst hb
    exact hk a ha
  · intro j u
    unfold updM
    by_cases hj : j = k
    · subst hj
      rw [if_pos rfl]
      constructor
      · intro e; cases e; exact ⟨{ key := .int .i64 j, val := v, born := n }, by simp, rfl, rfl⟩
      · rintro ⟨e, he, h1, h2⟩
        rcases List.mem_append.1 he with he | he
        · exact absurd h1 (hk e he)
        · simp at he; subst he; rw [← h2]
    · rw [if_neg hj, h.2.2 j u]
      constructor
      · rintro ⟨e, he, h1, h2⟩; exact ⟨e, by simp [he], h1, h2⟩
      · rintro ⟨e, he, h1, h2⟩
        rcases List.mem_append.1 he with he | he
        · exact ⟨e, he, h1, h2⟩
        · simp at he; subst he; simp at h1; exact absurd h1.symm hj

theorem nodup_same {es : List MapEntry} (h : NodupKeys es) {i j : Nat} {a b : MapEntry} (ha : es[i]? = some a) (hb : es[j]? = some b) (hk : a.key = b.key) : i = j := by
  unfold NodupKeys at h
  rw [List.pairwise_iff_getElem] at h
  obtain ⟨h1, h2⟩ := List.getElem?_eq_some_iff.1 ha
  obtain ⟨h3, h4⟩ := List.getElem?_eq_some_iff.1 hb
  rcases Nat.lt_trichotomy i j with hlt | he | hlt
  · have := h i j h1 h3 hlt; rw [h2, h4] at this; exact absurd hk this
  · exact he
  · have := h j i h3 h1 hlt; rw [h2, h4] at this; exact absurd hk.symm this

theorem MapRep.set {es : List MapEntry} {M : Int → Option Value} (h : MapRep es M) {k : Int} {i : Nat} {e : MapEntry} (he : es[i]? = some e) (hk : e.key = .int .i64 k) (v : Value) :
    MapRep (es.set i { e with key := .int .i64 k, val := v }) (updM M k (some v)) := by
  have hi : i < es.length := (List.getElem?_eq_some_iff.1 he).1
  have key : ∀ j : Nat, ((es.set i { e with key := .int .i64 k, val := v })[j]?).map (·.key) = (es[j]?).map (·.key) := by
    intro j
    rw [List.getElem?_set]
    split
    · rename_i hij; subst hij; (try rw [if_pos hi]); rw [he]; simp [hk]
    · rfl
  refine ⟨?_, ?_, ?_⟩
  · intro x hx
    obtain ⟨j, hj⟩ := List.getElem?_of_mem hx
    have h1 := key j
    rw [hj] at h1
    cases hx' : es[j]? with
    | none => rw [hx'] at h1; simp at h1
    | some y =>
      rw [hx'] at h1
      simp at h1
      obtain ⟨q, hq⟩ := h.1 y (List.mem_of_getElem? hx')
      exact ⟨q, h1.trans hq⟩
  · unfold NodupKeys
    rw [List.pairwise_iff_getElem]
    intro a b ha hb hab hkk
    have k1 := key a
    have k2 := key b
    rw [List.getElem?_eq_getElem ha] at k1
    rw [List.getElem?_eq_getElem hb] at k2
    rw [List.length_set] at ha hb
    rw [List.getElem?_eq_getElem ha] at k1
    rw [List.getElem?_eq_getElem hb] at k2
    simp only [Option.map_some, Option.some.injEq] at k1 k2
    have := nodup_same h.2.1 (List.getElem?_eq_getElem ha) (List.getElem?_eq_getElem hb) (by rw [← k1, ← k2]; exact hkk)
    omega
  · intro j u
    unfold updM
    by_cases hj : j = k
    · subst hj
      rw [if_pos rfl]
      constructor
      · intro e'; cases e'
        exact ⟨{ e with key := .int .i64 j, val := v }, List.mem_of_getElem? (i := i) (by rw [List.getElem?_set_self hi]), rfl, rfl⟩
      · rintro ⟨x, hx, h1, h2⟩
        obtain ⟨q, hq⟩ := List.getElem?_of_mem hx
        rw [List.getElem?_set] at hq
        split at hq
        · rename_i hiq; (try rw [if_pos hi] at hq); cases hq; exact congrArg some h2
        · rename_i hne
          exact absurd (nodup_same h.2.1 he hq (hk.trans h1.symm)) hne
    · rw [if_neg hj, h.2.2 j u]
      constructor
      · rintro ⟨x, hx, h1, h2⟩
        obtain ⟨q, hq⟩ := List.getElem?_of_mem hx
        refine ⟨x, List.mem_of_getElem? (i := q) ?_, h1, h2⟩
        rw [List.getElem?_set]
        split
        · rename_i hiq; subst hiq; rw [he] at hq; cases hq; rw [hk] at h1; simp at h1; exact absurd h1.symm hj
        · exact hq
      · rintro ⟨x, hx, h1, h2⟩
        obtain ⟨q, hq⟩ := List.getElem?_of_mem hx
        rw [List.getElem?_set] at hq
        split at hq
        · rename_i hiq; (try rw [if_pos hi] at hq); cases hq; simp at h1; exact absurd h1.symm hj
        · exact ⟨x, List.mem_of_getElem? hq, h1, h2⟩

theorem MapRep.erase {es : List MapEntry} {M : Int → Option Value} (h : MapRep es M) {k : Int} {i : Nat} {e : MapEntry} (he : es[i]? = some e) (hk : e.key = .int .i64 k) :
    MapRep (es.eraseIdx i) (updM M k none) := by
  have hsub : (es.eraseIdx i).Sublist es := List.eraseIdx_sublist _ _
  refine ⟨fun x hx => h.1 x (hsub.subset hx), h.2.1.sublist hsub, ?_⟩
  intro j u
  unfold updM
  have mem : ∀ x, x ∈ es.eraseIdx i → ∃ q, q ≠ i ∧ es[q]? = some x := by
    intro x hx
    obtain ⟨q, hq⟩ := List.getElem?_of_mem hx
    rw [List.getElem?_eraseIdx] at hq
    split at hq
    · exact ⟨q, by omega, hq⟩
    · exact ⟨q + 1, by omega, hq⟩
  have mem' : ∀ x (q : Nat), q ≠ i → es[q]? = some x → x ∈ es.eraseIdx i := by
    intro x q hq hx
    by_cases hlt : q < i
    · exact List.mem_of_getElem? (i := q) (by rw [List.getElem?_eraseIdx, if_pos hlt]; exact hx)
    · obtain ⟨d, rfl⟩ : ∃ d, q = d + 1 := ⟨q - 1, by omega⟩
      exact List.mem_of_getElem? (i := d) (by rw [List.getElem?_eraseIdx, if_neg (by omega)]; exact hx)
  by_cases hj : j = k
  · subst hj
    rw [if_pos rfl]
    constructor
    · intro e'; cases e'
    · rintro ⟨x, hx, h1, _⟩
      obtain ⟨q, hq, hx'⟩ := mem x hx
      exact absurd (nodup_same h.2.1 hx' he (h1.trans hk.symm)) hq
  · rw [if_neg hj, h.2.2 j u]
    constructor
    · rintro ⟨x, hx, h1, h2⟩
      obtain ⟨q, hq⟩ := List.getElem?_of_mem hx
      refine ⟨x, mem' x q ?_ hq, h1, h2⟩
      rintro rfl
      rw [he] at hq; cases hq; rw [hk] at h1; simp at h1; exact hj h1.symm
    · rintro ⟨x, hx, h1, h2⟩
      exact ⟨x, hsub.subset hx, h1, h2⟩

section
variable {P : Program} {w : World}

/-- 'v, ok := m[k]' and 'm[k]'. -/
theorem run_lookup_int {t kt e : TypeId} (ht : P.underlying t = some (.map kt e)) (hk : P.underlying kt = some (.int .i64)) {z : Value} (hz : (zeroValue e).run P w = .ok z w)
    {b : Nat} {es : Array MapEntry} {clock : Nat} (hb : w.heap[b]? = some (.map es clock)) {M : Int → Option Value} (hM : MapRep es.toList M) (k : Int) (ok : Bool) :
    (Instr.lookup t (.map (some b)) (.int .i64 k) ok).run P w = .ok (if ok then .tuple #[(M k).getD z, .bool (M k).isSome] else (M k).getD z) w := by
  rcases hM.find k with ⟨h1, h2, h3⟩ | ⟨j, e, h1, h2, h3, h4⟩
  · simp [Instr.lookup, run_underlying ht, MapKept.run_getObj_map hb, run_checkKey hk (isKey_int k), run_findKey hk h1, Result.andThen, hz, h2]
  · simp [Instr.lookup, run_underlying ht, MapKept.run_getObj_map hb, run_checkKey hk (isKey_int k), run_findKey hk h1, Result.andThen, h2]

theorem IntMapAt.of_block {w' : World} {b : Nat} {M : Int → Option Value} (h : IntMapAt w b M) (hb : w'.heap[b]? = w.heap[b]?) : IntMapAt w' b M := by
  obtain ⟨es, c, h1, h2⟩ := h
  exact ⟨es, c, hb.trans h1, h2⟩

theorem IntMapAt.lt {b : Nat} {M : Int → Option Value} (h : IntMapAt w b M) : b < w.heap.size := by
  obtain ⟨es, c, h1, h2⟩ := h
  exact (Array.getElem?_eq_some_iff.1 h1).1

theorem grownBy_set (w : World) (b : Nat) (o : Obj) : w.grownBy { w with heap := w.heap.setIfInBounds b o } (some b) :=
  ⟨rfl, rfl, rfl, by simp, fun k _ hk => by
    have : k ≠ b := fun e => hk (by rw [e])
    simp [Array.getElem?_setIfInBounds_ne (Ne.symm this)]⟩

/-- 'm[k] = v'. -/
theorem run_mapUpdate_int {t kt e : TypeId} (ht : P.underlying t = some (.map kt e)) (hk : P.underlying kt = some (.int .i64))
    {b : Nat} {M : Int → Option Value} (hM : IntMapAt w b M) (k : Int) (v : Value) :
    ∃ w', (Instr.mapUpdate t (.map (some b)) (.int .i64 k) v).run P w = .ok () w' ∧ IntMapAt w' b (updM M k (some v)) ∧ w.grownBy w' (some b) ∧ w'.heap.size = w.heap.size := by
  obtain ⟨es, clock, hb, hR⟩ := hM
  rcases hR.find k with ⟨h1, h2, h3⟩ | ⟨j, e, h1, h2, h3, h4⟩
  · refine ⟨_, by simp [Instr.mapUpdate, run_underlying ht, MapKept.run_getObj_map hb, run_checkKey hk (isKey_int k), run_findKey hk h1, MapKept.run_setObj_map _ hb, Result.andThen]; rfl, ?_, grownBy_set _ _ _, by simp⟩
    exact ⟨_, _, (heap_set hb).1, by simpa using hR.push h3 v clock⟩
  · have hj : es[j]? = some e := by simpa using h3
    refine ⟨_, by simp [Instr.mapUpdate, run_underlying ht, MapKept.run_getObj_map hb, run_checkKey hk (isKey_int k), run_findKey hk h1, hj, h4, run_keyThatStays (isKey_int k), MapKept.run_setObj_map _ hb, Result.andThen]; rfl, ?_, grownBy_set _ _ _, by simp⟩
    refine ⟨_, _, (heap_set hb).1, ?_⟩
    have e1 : (es.modify j fun e => { e with key := .int .i64 k, val := v }).toList = es.toList.set j { e with key := .int .i64 k, val := v } := by
      apply List.ext_getElem?
      intro q
      simp only [Array.toList_modify, List.getElem?_modify, List.getElem?_set]
      by_cases hq : j = q
      · subst hq
        have hlt := (List.getElem?_eq_some_iff.1 h3).1
        rw [h3, if_pos rfl, if_pos hlt]; simp
      · rw [if_neg hq]
        cases hes : es.toList[q]? with
        | none => rfl
        | some y => simp [hq]
    rw [e1]
    exact hR.set h3 h4 v

/-- 'delete(m, k)'. -/
theorem run_delete_int {t kt e ty : TypeId} (ht : P.underlying t = some (.map kt e)) (hk : P.underlying kt = some (.int .i64))
    {b : Nat} {M : Int → Option Value} (hM : IntMapAt w b M) (k : Int) (kt' : TypeId) :
    ∃ w', (Builtin.delete_ #[t, kt'] ty #[.map (some b), .int .i64 k]).run P w = .ok (.tuple #[]) w' ∧ IntMapAt w' b (updM M k none) ∧ w.grownBy w' (some b) ∧ w'.heap.size = w.heap.size := by
  obtain ⟨es, clock, hb, hR⟩ := hM
  rcases hR.find k with ⟨h1, h2, h3⟩ | ⟨j, e, h1, h2, h3, h4⟩
  · refine ⟨_, by simp [Builtin.delete_, run_underlying ht, MapKept.run_getObj_map hb, run_checkKey hk (isKey_int k), run_findKey hk h1, MapKept.run_setObj_map _ hb, Result.andThen]; rfl, ?_, grownBy_set _ _ _, by simp⟩
    refine ⟨_, _, (heap_set hb).1, ?_⟩
    have : updM M k none = M := by
      funext q; unfold updM; split
      · rename_i hq; rw [hq, h2]
      · rfl
    rw [this]; exact hR
  · refine ⟨_, by simp [Builtin.delete_, run_underlying ht, MapKept.run_getObj_map hb, run_checkKey hk (isKey_int k), run_findKey hk h1, MapKept.run_setObj_map _ hb, Result.andThen]; rfl, ?_, grownBy_set _ _ _, by simp⟩
    refine ⟨_, _, (heap_set hb).1, ?_⟩
    have hlt : j < es.size := by have := (List.getElem?_eq_some_iff.1 h3).1; simpa using this
    have e1 : (es.eraseIdxIfInBounds j).toList = es.toList.eraseIdx j := by
      simp [Array.eraseIdxIfInBounds, hlt]
    rw [e1]
    exact hR.erase h3 h4

end
end Go.Proofs.YthncifbnkednlaaDoor
