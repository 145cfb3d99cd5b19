/- Maps whose keys are ints: what a map's block reads as, a key looked up, stored, deleted; no condition but that every key is an int. -/
import Derived.WalkKit
import Derived.WalkSpells
import Derived.WalkLawsBesides
import Derived.Maps.OwnSet
import Derived.RangeFuncRecord
import Derived.Lib.Hide
import Derived.Laws.CopyOwn
import Derived.RangeFuncNested
import Derived.RangeFuncLeaves
import Derived.Shelf.Abstract
import Derived.OwnWalkIn
import Derived.TacticsInMore
import Derived.LoopNIn
import Derived.LoopIn
import Derived.Shelf.RegionOpen
namespace Go.Proofs.YtminbemdcanakaaGreat
open Go.RowKit Go.MapKept
set_option linter.unusedVariables false
set_option linter.unusedSimpArgs false

/-- Every key is an int. -/
def IntKeys (es : List MapEntry) : Prop := ∀ e ∈ es, ∃ k : Int, e.key = .int .i64 k

/-- No key stands twice. -/
def NodupKeys (es : List MapEntry) : Prop := es.Pairwise fun a b => a.key ≠ b.key

/-- The entries read as M. -/
def MapRep (es : List MapEntry) (M : Int → Option Value) : Prop :=
  IntKeys es ∧ NodupKeys es ∧ ∀ k v, M k = some v ↔ ∃ e ∈ es, e.key = .int .i64 k ∧ e.val = v

/-- Block b is a map that reads as M. -/
def IntMapAt (w : World) (b : Nat) (M : Int → Option Value) : Prop :=
  ∃ es clock, w.heap[b]? = some (.map es clock) ∧ MapRep es.toList M

def updM (M : Int → Option Value) (k : Int) (v : Option Value) : Int → Option Value := fun j => if j = k then v else M j

theorem isKey_int (k : Int) : IsKey (.int .i64) (.int .i64 k) := by simp [IsKey]

theorem IntKeys.isKey {es : List MapEntry} (h : IntKeys es) : ∀ x ∈ es, IsKey (.int .i64) x.key := by
  intro x hx
  obtain ⟨k, hk⟩ := h x hx
  rw [hk]; exact isKey_int k

/-- What a key's search comes to. -/
theorem MapRep.find {es : List MapEntry} {M : Int → Option Value} (h : MapRep es M) (k : Int) :
    (Instr.findNow (.int .i64) (.int .i64 k) es 0 = some none ∧ M k = none ∧ ∀ x ∈ es, x.key ≠ .int .i64 k) ∨
    ∃ (j : Nat) (e : MapEntry), Instr.findNow (.int .i64) (.int .i64 k) es 0 = some (some (j, e.val)) ∧ M k = some e.val ∧ es[j]? = some e ∧ e.key = .int .i64 k := by
  rcases findNow_spec (isKey_int k) es 0 h.1.isKey with ⟨h1, h2⟩ | ⟨j, e, h1, h2, h3⟩
  · refine .inl ⟨h1, ?_, h2⟩
    cases hM : M k with
    | none => rfl
    | some v =>
      obtain ⟨e, he, hk, _⟩ := (h.2.2 k v).1 hM
      exact absurd hk (h2 e he)
  · exact .inr ⟨j, e, by simpa using h1, (h.2.2 k _).2 ⟨e, List.mem_of_getElem? h2, h3, rfl⟩, h2, h3⟩

theorem MapRep.push {es : List MapEntry} {M : Int → Option Value} (h : MapRep es M) {k : Int} (hk : ∀ x ∈ es, x.key ≠ .int .i64 k) (v : Value) (n : Nat) :
    MapRep (es ++ [{ key := .int .i64 k, val := v, born := n }]) (updM M k (some v)) := by
  refine ⟨?_, ?_, ?_⟩
  · intro e he
    rcases List.mem_append.1 he with he | he
    · exact h.1 e he
    · simp at he; subst he; exact ⟨k, rfl⟩
  · unfold NodupKeys
    rw [List.pairwise_append]
    refine ⟨h.2.1, by simp, ?_⟩
    intro a ha b hb
    simp at hb; subst hb
    exact hk a ha
  · intro j u
    unfold updM
    by_cases hj : j = k
    · subst hj
      rw [if_pos rfl]
      constructor
      · intro e; cases e; exact ⟨{ key := .int .i64 j, val := v, born := n }, by simp, rfl, rfl⟩
      · rintro ⟨e, he, h1, h2⟩
        rcases List.mem_append.1 he with he | he
        · exact absurd h1 (hk e he)
        · simp at he; subst he; rw [← h2]
    · rw [if_neg hj, h.2.2 j u]
      constructor
      · rintro ⟨e, he, h1, h2⟩; exact ⟨e, by simp [he], h1, h2⟩
      · rintro ⟨e, he, h1, h2⟩
        rcases List.mem_append.1 he with he | he
        · exact ⟨e, he, h1, h2⟩
        · simp at he; subst he; simp at h1; exact absurd h1.symm hj

theorem nodup_same {es : List MapEntry} (h : NodupKeys es) {i j : Nat} {a b : MapEntry} (ha : es[i]? = some a) (hb : es[j]? = some b) (hk : a.key = b.key) : i = j := by
  unfold NodupKeys at h
  rw [List.pairwise_iff_getElem] at h
  obtain ⟨h1, h2⟩ := List.getElem?_eq_some_iff.1 ha
  obtain ⟨h3, h4⟩ := List.getElem?_eq_some_iff.1 hb
  rcases Nat.lt_trichotomy i j with hlt | he | hlt
  · have := h i j h1 h3 hlt; rw [h2, h4] at this; exact absurd hk this
  · exact he
  · have := h j i h3 h1 hlt; rw [h2, h4] at this; exact absurd hk.symm this

theorem MapRep.set {es : List MapEntry} {M : Int → Option Value} (h : MapRep es M) {k : Int} {i : Nat} {e : MapEntry} (he : es[i]? = some e) (hk : e.key = .int .i64 k) (v : Value) :
    MapRep (es.set i { e with key := .int .i64 k, val := v }) (updM M k (some v)) := by
  have hi : i < es.length := (List.getElem?_eq_some_iff.1 he).1
  have key : ∀ j : Nat, ((es.set i { e with key := .int .i64 k, val := v })[j]?).map (·.key) = (es[j]?).map (·.key) := by
    intro j
    rw [List.getElem?_set]
    split
    · rename_i hij; subst hij; (try rw [if_pos hi]); rw [he]; simp [hk]
    · rfl
  refine ⟨?_, ?_, ?_⟩
  · intro x hx
    obtain ⟨j, hj⟩ := List.getElem?_of_mem hx
    have h1 := key j
    rw [hj] at h1
    cases hx' : es[j]? with
    | none => rw [hx'] at h1; simp at h1
    | some y =>
      rw [hx'] at h1
      simp at h1
      obtain ⟨q, hq⟩ := h.1 y (List.mem_of_getElem? hx')
      exact ⟨q, h1.trans hq⟩
  · unfold NodupKeys
    rw [List.pairwise_iff_getElem]
    intro a b ha hb hab hkk
    have k1 := key a
    have k2 := key b
    rw [List.getElem?_eq_getElem ha] at k1
    rw [List.getElem?_eq_getElem hb] at k2
    rw [List.length_set] at ha hb
    rw [List.getElem?_eq_getElem ha] at k1
    rw [List.getElem?_eq_getElem hb] at k2
    simp only [Option.map_some, Option.some.injEq] at k1 k2
    have := nodup_same h.2.1 (List.getElem?_eq_getElem ha) (List.getElem?_eq_getElem hb) (by rw [← k1, ← k2]; exact hkk)
    omega
  · intro j u
    unfold updM
    by_cases hj : j = k
    · subst hj
      rw [if_pos rfl]
      constructor
      · intro e'; cases e'
        exact ⟨{ e with key := .int .i64 j, val := v }, List.mem_of_getElem? (i := i) (by rw [List.getElem?_set_self hi]), rfl, rfl⟩
      · rintro ⟨x, hx, h1, h2⟩
        obtain ⟨q, hq⟩ := List.getElem?_of_mem hx
        rw [List.getElem?_set] at hq
        split at hq
        · rename_i hiq; (try rw [if_pos hi] at hq); cases hq; exact congrArg some h2
        · rename_i hne
          exact absurd (nodup_same h.2.1 he hq (hk.trans h1.symm)) hne
    · rw [if_neg hj, h.2.2 j u]
      constructor
      · rintro ⟨x, hx, h1, h2⟩
        obtain ⟨q, hq⟩ := List.getElem?_of_mem hx
        refine ⟨x, List.mem_of_getElem? (i := q) ?_, h1, h2⟩
        rw [List.getElem?_set]
        split
        · rename_i hiq; subst hiq; rw [he] at hq; cases hq; rw [hk] at h1; simp at h1; exact absurd h1.symm hj
        · exact hq
      · rintro ⟨x, hx, h1, h2⟩
        obtain ⟨q, hq⟩ := List.getElem?_of_mem hx
        rw [List.getElem?_set] at hq
        split at hq
        · rename_i hiq; (try rw [if_pos hi] at hq); cases hq; simp at h1; exact absurd h1.symm hj
        · exact ⟨x, List.mem_of_getElem? hq, h1, h2⟩

theorem MapRep.erase {es : List MapEntry} {M : Int → Option Value} (h : MapRep es M) {k : Int} {i : Nat} {e : MapEntry} (he : es[i]? = some e) (hk : e.key = .int .i64 k) :
    MapRep (es.eraseIdx i) (updM M k none) := by
  have hsub : (es.eraseIdx i).Sublist es := List.eraseIdx_sublist _ _
  refine ⟨fun x hx => h.1 x (hsub.subset hx), h.2.1.sublist hsub, ?_⟩
  intro j u
  unfold updM
  have mem : ∀ x, x ∈ es.eraseIdx i → ∃ q, q ≠ i ∧ es[q]? = some x := by
    intro x hx
    obtain ⟨q, hq⟩ := List.getElem?_of_mem hx
    rw [List.getElem?_eraseIdx] at hq
    split at hq
    · exact ⟨q, by omega, hq⟩
    · exact ⟨q + 1, by omega, hq⟩
  have mem' : ∀ x (q : Nat), q ≠ i → es[q]? = some x → x ∈ es.eraseIdx i := by
    intro x q hq hx
    by_cases hlt : q < i
    · exact List.mem_of_getElem? (i := q) (by rw [List.getElem?_eraseIdx, if_pos hlt]; exact hx)
    · obtain ⟨d, rfl⟩ : ∃ d, q = d + 1 := ⟨q - 1, by omega⟩
      exact List.mem_of_getElem? (i := d) (by rw [List.getElem?_eraseIdx, if_neg (by omega)]; exact hx)
  by_cases hj : j = k
  · subst hj
    rw [if_pos rfl]
    constructor
    · intro e'; cases e'
    · rintro ⟨x, hx, h1, _⟩
      obtain ⟨q, hq, hx'⟩ := mem x hx
      exact absurd (nodup_same h.2.1 hx' he (h1.trans hk.symm)) hq
  · rw [if_neg hj, h.2.2 j u]
    constructor
    · rintro ⟨x, hx, h1, h2⟩
      obtain ⟨q, hq⟩ := List.getElem?_of_mem hx
      refine ⟨x, mem' x q ?_ hq, h1, h2⟩
      rintro rfl
      rw [he] at hq; cases hq; rw [hk] at h1; simp at h1; exact hj h1.symm
    · rintro ⟨x, hx, h1, h2⟩
      exact ⟨x, hsub.subset hx, h1, h2⟩

section
variable {P : Program} {w : World}

/-- 'v, ok := m[k]' and 'm[k]'. -/
theorem run_lookup_int {t kt e : TypeId} (ht : P.underlying t = some (.map kt e)) (hk : P.underlying kt = some (.int .i64)) {z : Value} (hz : (zeroValue e).run P w = .ok z w)
    {b : Nat} {es : Array MapEntry} {clock : Nat} (hb : w.heap[b]? = some (.map es clock)) {M : Int → Option Value} (hM : MapRep es.toList M) (k : Int) (ok : Bool) :
    (Instr.lookup t (.map (some b)) (.int .i64 k) ok).run P w = .ok (if ok then .tuple #[(M k).getD z, .bool (M k).isSome] else (M k).getD z) w := by
  rcases hM.find k with ⟨h1, h2, h3⟩ | ⟨j, e, h1, h2, h3, h4⟩
  · simp [Instr.lookup, run_underlying ht, MapKept.run_getObj_map hb, run_checkKey hk (isKey_int k), run_findKey hk h1, Result.andThen, hz, h2]
  · simp [Instr.lookup, run_underlying ht, MapKept.run_getObj_map hb, run_checkKey hk (isKey_int k), run_findKey hk h1, Result.andThen, h2]

theorem IntMapAt.of_block {w' : World} {b : Nat} {M : Int → Option Value} (h : IntMapAt w b M) (hb : w'.heap[b]? = w.heap[b]?) : IntMapAt w' b M := by
  obtain ⟨es, c, h1, h2⟩ := h
  exact ⟨es, c, hb.trans h1, h2⟩

theorem IntMapAt.lt {b : Nat} {M : Int → Option Value} (h : IntMapAt w b M) : b < w.heap.size := by
  obtain ⟨es, c, h1, h2⟩ := h
  exact (Array.getElem?_eq_some_iff.1 h1).1

theorem grownBy_set (w : World) (b : Nat) (o : Obj) : w.grownBy { w with heap := w.heap.setIfInBounds b o } (some b) :=
  ⟨rfl, rfl, rfl, by simp, fun k _ hk => by
    have : k ≠ b := fun e => hk (by rw [e])
    simp [Array.getElem?_setIfInBounds_ne (Ne.symm this)]⟩

/-- 'm[k] = v'. -/
theorem run_mapUpdate_int {t kt e : TypeId} (ht : P.underlying t = some (.map kt e)) (hk : P.underlying kt = some (.int .i64))
    {b : Nat} {M : Int → Option Value} (hM : IntMapAt w b M) (k : Int) (v : Value) :
    ∃ w', (Instr.mapUpdate t (.map (some b)) (.int .i64 k) v).run P w = .ok () w' ∧ IntMapAt w' b (updM M k (some v)) ∧ w.grownBy w' (some b) ∧ w'.heap.size = w.heap.size := by
  obtain ⟨es, clock, hb, hR⟩ := hM
  rcases hR.find k with ⟨h1, h2, h3⟩ | ⟨j, e, h1, h2, h3, h4⟩
  · refine ⟨_, by simp [Instr.mapUpdate, run_underlying ht, MapKept.run_getObj_map hb, run_checkKey hk (isKey_int k), run_findKey hk h1, MapKept.run_setObj_map _ hb, Result.andThen]; rfl, ?_, grownBy_set _ _ _, by simp⟩
    exact ⟨_, _, (heap_set hb).1, by simpa using hR.push h3 v clock⟩
  · have hj : es[j]? = some e := by simpa using h3
    refine ⟨_, by simp [Instr.mapUpdate, run_underlying ht, MapKept.run_getObj_map hb, run_checkKey hk (isKey_int k), run_findKey hk h1, hj, h4, run_keyThatStays (isKey_int k), MapKept.run_setObj_map _ hb, Result.andThen]; rfl, ?_, grownBy_set _ _ _, by simp⟩
    refine ⟨_, _, (heap_set hb).1, ?_⟩
    have e1 : (es.modify j fun e => { e with key := .int .i64 k, val := v }).toList = es.toList.set j { e with key := .int .i64 k, val := v } := by
      apply List.ext_getElem?
      intro q
      simp only [Array.toList_modify, List.getElem?_modify, List.getElem?_set]
      by_cases hq : j = q
      · subst hq
        have hlt := (List.getElem?_eq_some_iff.1 h3).1
        rw [h3, if_pos rfl, if_pos hlt]; simp
      · rw [if_neg hq]
        cases hes : es.toList[q]? with
        | none => rfl
        | some y => simp [hq]
    rw [e1]
    exact hR.set h3 h4 v

/-- 'delete(m, k)'. -/
theorem run_delete_int {t kt e ty : TypeId} (ht : P.underlying t = some (.map kt e)) (hk : P.underlying kt = some (.int .i64))
    {b : Nat} {M : Int → Option Value} (hM : IntMapAt w b M) (k : Int) (kt' : TypeId) :
    ∃ w', (Builtin.delete_ #[t, kt'] ty #[.map (some b), .int .i64 k]).run P w = .ok (.tuple #[]) w' ∧ IntMapAt w' b (updM M k none) ∧ w.grownBy w' (some b) ∧ w'.heap.size = w.heap.size := by
  obtain ⟨es, clock, hb, hR⟩ := hM
  rcases hR.find k with ⟨h1, h2, h3⟩ | ⟨j, e, h1, h2, h3, h4⟩
  · refine ⟨_, by simp [Builtin.delete_, run_underlying ht, MapKept.run_getObj_map hb, run_checkKey hk (isKey_int k), run_findKey hk h1, MapKept.run_setObj_map _ hb, Result.andThen]; rfl, ?_, grownBy_set _ _ _, by simp⟩
    refine ⟨_, _, (heap_set hb).1, ?_⟩
    have : updM M k none = M := by
      funext q; unfold updM; split
      · rename_i hq; rw [hq, h2]
      · rfl
    rw [this]; exact hR
  · refine ⟨_, by simp [Builtin.delete_, run_underlying ht, MapKept.run_getObj_map hb, run_checkKey hk (isKey_int k), run_findKey hk h1, MapKept.run_setObj_map _ hb, Result.andThen]; rfl, ?_, grownBy_set _ _ _, by simp⟩
    refine ⟨_, _, (heap_set hb).1, ?_⟩
    have hlt : j < es.size := by have := (List.getElem?_eq_some_iff.1 h3).1; simpa using this
    have e1 : (es.eraseIdxIfInBounds j).toList = es.toList.eraseIdx j := by
      simp [Array.eraseIdxIfInBounds, hlt]
    rw [e1]
    exact hR.erase h3 h4

end
end Go.Proofs.YtminbemdcanakaaGreat
/- A row that is appended to: where it lies then; 'splice' and rows; blocks written whole. -/
namespace Go.Proofs.YtminbemdcanakaaGreat
open Go.RowKit Go.MapKept
set_option linter.unusedVariables false
set_option linter.unusedSimpArgs false

section
variable {P : Program} {w : World}

/-- append, and in which block the longer row lies: in the old one or in a new one. -/
theorem run_append_row (t ty e : TypeId) (i : TypeInfo) (z : Value) (size bytes : Nat) (ht : P.underlying t = some (.slice e)) (hi : P.info? e = some i) (hz : i.zero = some z)
    (hsize : i.size = size) (hby : i.bytes = bytes) (hzs : z.cells.size = size) (hsz : 0 < size)
    (v : Value) (n : Nat) (xs : List Value) (hown : w.ownsRow 0 e size v n xs)
    (a : Addr) (m c : Nat) (news : List Value) (hl : news.length = m * size) (hnews : ∀ j u, news[j]? = some u → w.cell? (a.add j) = some u) (h1 : ∀ u ∈ news, u.oneCell' = true)
    (h63 : n + m ≤ maxLen) (hbytes : (n + m) * bytes ≤ 140737488355328) :
    ∃ v' w', (Builtin.append_ #[t, t] ty #[v, .slice (some a) m c]).run P w = .ok v' w' ∧ w'.ownsRow 0 e size v' (n + m) (xs ++ news) ∧ w.grownBy w' v.ownBlock ∧
      (v'.ownBlock = v.ownBlock ∨ v'.ownBlock = some w.heap.size) := by
  obtain ⟨v', w', hr, ho, hg, hiff⟩ := run_append_own (P := P) w 0 t ty e i z size bytes ht hi hz hsize hby hzs hsz v n xs hown a m c news hl hnews h1 h63 hbytes (Nat.zero_le _)
  refine ⟨v', w', hr, ho, hg, ?_⟩
  subst hsize
  subst hby
  have hsm : n + m ≤ 9223372036854775807 := by simp only [maxLen] at h63; omega
  have hlen := hown.1
  rcases hown.2 with ⟨rfl, rfl⟩ | ⟨g, cap, cur, rfl, hbg, hgg, hnc, hcm, hcs, htake⟩
  · by_cases hm : m = 0
    · left; rw [hiff.2 ⟨rfl, hm⟩]
    · right
      have hr2 := run_append_nil (P := P) (w := w) t ty e i z ht hi hz a m c news hl hnews (by omega) (by omega) (by simp only [Nat.zero_add] at hbytes; omega)
      rw [hr] at hr2
      cases hr2
      rfl
  · by_cases hroom : n + m ≤ cap
    · left
      have hfit : n * i.size + news.length ≤ cur.size := by rw [hl, hcs, ← Nat.add_mul]; exact Nat.mul_le_mul_right _ hroom
      have hr2 := run_append_room (P := P) (w := w) t ty e i ht hi g n cap cur hgg a m c news hl hnews h1 hroom hfit
      rw [hr] at hr2
      cases hr2
      rfl
    · right
      have holds : ∀ j u, xs[j]? = some u → w.cell? ((⟨g, 0, none⟩ : Addr).add j) = some u := hown.cells (g := g) rfl
      have hr2 := run_append_grow (P := P) (w := w) t ty e i z ht hi hz ⟨g, 0, none⟩ n cap xs hlen holds a m c news hl hnews (by omega) (by omega) (growslice_fits (by omega) hbytes)
      rw [hr] at hr2
      cases hr2
      rfl

theorem wp_append_row {o : Oper} {a : Act} {K : Act → World → Prop} {Q : Exit → Act → World → Prop} (s x : Operand) (t : TypeId)
    (ho : o.op = .call { callee := .builtin .append, args := #[s, x], argTypes := #[t, t] })
    (e : TypeId) (i : TypeInfo) (z : Value) (size bytes : Nat) (ht : P.underlying t = some (.slice e)) (hi : P.info? e = some i) (hz : i.zero = some z)
    (hsize : i.size = size) (hby : i.bytes = bytes) (hzs : z.cells.size = size) (hsz : 0 < size)
    (v : Value) (n : Nat) (xs : List Value) (hs : a.eval s = v) (hown : w.ownsRow 0 e size v n xs)
    (ad : Addr) (m c : Nat) (news : List Value) (hx : a.eval x = .slice (some ad) m c) (hl : news.length = m * size) (hnews : ∀ j u, news[j]? = some u → w.cell? (ad.add j) = some u) (h1 : ∀ u ∈ news, u.oneCell' = true)
    (h63 : n + m ≤ maxLen) (hbytes : (n + m) * bytes ≤ 140737488355328)
    (h : ∀ v' w', w'.ownsRow 0 e size v' (n + m) (xs ++ news) → w.grownBy w' v.ownBlock → (v'.ownBlock = v.ownBlock ∨ v'.ownBlock = some w.heap.size) → K (a.put o.dst v') w') : o.wp P a w K Q := by
  obtain ⟨v', w', hr, h2, h3, h4⟩ := run_append_row (P := P) (w := w) t o.type e i z size bytes ht hi hz hsize hby hzs hsz v n xs hown ad m c news hl hnews h1 h63 hbytes
  unfold Oper.wp execOp
  simp only [ho, resolve, invoke, builtin, Sem.run_bind, Sem.run_pure, Result.andThen_ok, List.map_toArray, List.map_cons, List.map_nil, hs, hx, hr]
  exact h v' w' h2 h3 h4

theorem wpList_append_row {ops : Array Oper} {rest : List Oper} {o : Oper} {a : Act} {Q : Exit → Act → World → Prop} (hgd : o.guard = none) (s x : Operand) (t : TypeId)
    (ho : o.op = .call { callee := .builtin .append, args := #[s, x], argTypes := #[t, t] })
    (e : TypeId) (i : TypeInfo) (z : Value) (size bytes : Nat) (ht : P.underlying t = some (.slice e)) (hi : P.info? e = some i) (hz : i.zero = some z)
    (hsize : i.size = size) (hby : i.bytes = bytes) (hzs : z.cells.size = size) (hsz : 0 < size)
    (v : Value) (n : Nat) (xs : List Value) (hs : a.eval s = v) (hown : w.ownsRow 0 e size v n xs)
    (ad : Addr) (m c : Nat) (news : List Value) (hx : a.eval x = .slice (some ad) m c) (hl : news.length = m * size) (hnews : ∀ j u, news[j]? = some u → w.cell? (ad.add j) = some u) (h1 : ∀ u ∈ news, u.oneCell' = true)
    (h63 : n + m ≤ maxLen) (hbytes : (n + m) * bytes ≤ 140737488355328)
    (h : ∀ v' w', w'.ownsRow 0 e size v' (n + m) (xs ++ news) → w.grownBy w' v.ownBlock → (v'.ownBlock = v.ownBlock ∨ v'.ownBlock = some w.heap.size) → wpList P ops Q rest (a.put o.dst v') w') : wpList P ops Q (o :: rest) a w :=
  wpList_plain hgd fun _ hK => wp_append_row s x t ho e i z size bytes ht hi hz hsize hby hzs hsz v n xs hs hown ad m c news hx hl hnews h1 h63 hbytes fun v' w' h2 h3 h4 => hK _ _ (h v' w' h2 h3 h4)

theorem step_append_row {ops : Array Oper} {o : Oper} {a : Act} {K : Act → World → Prop} {Q : Exit → Act → World → Prop} {E : Prop} (hgd : o.guard = none) (s x : Operand) (t : TypeId)
    (ho : o.op = .call { callee := .builtin .append, args := #[s, x], argTypes := #[t, t] })
    (e : TypeId) (i : TypeInfo) (z : Value) (size bytes : Nat) (ht : P.underlying t = some (.slice e)) (hi : P.info? e = some i) (hz : i.zero = some z)
    (hsize : i.size = size) (hby : i.bytes = bytes) (hzs : z.cells.size = size) (hsz : 0 < size)
    (v : Value) (n : Nat) (xs : List Value) (hs : a.eval s = v) (hown : w.ownsRow 0 e size v n xs)
    (ad : Addr) (m c : Nat) (news : List Value) (hx : a.eval x = .slice (some ad) m c) (hl : news.length = m * size) (hnews : ∀ j u, news[j]? = some u → w.cell? (ad.add j) = some u) (h1 : ∀ u ∈ news, u.oneCell' = true)
    (h63 : n + m ≤ maxLen) (hbytes : (n + m) * bytes ≤ 140737488355328)
    (h : ∀ v' w', w'.ownsRow 0 e size v' (n + m) (xs ++ news) → w.grownBy w' v.ownBlock → (v'.ownBlock = v.ownBlock ∨ v'.ownBlock = some w.heap.size) → K (a.put o.dst v') w') :
    if Region.wanted o (yielded ops a.tmps) = true then Oper.wp P o a w K Q else E := by
  have hw : Region.wanted o (yielded ops a.tmps) = true := by simp [Region.wanted, hgd]
  rw [if_pos hw]
  exact wp_append_row s x t ho e i z size bytes ht hi hz hsize hby hzs hsz v n xs hs hown ad m c news hx hl hnews h1 h63 hbytes h

/-- 'm[k] = v' at the operation. -/
theorem wpList_mapUpdate_i {ops : Array Oper} {rest : List Oper} {o : Oper} {a : Act} {Q : Exit → Act → World → Prop} (hg : o.guard = none) (m x v : Operand) (t : TypeId) (hop : o.op = Op.mapUpdate t m x v)
    (kt e : TypeId) (ht : P.underlying t = some (.map kt e)) (hk : P.underlying kt = some (.int .i64)) (b : Nat) (M : Int → Option Value) (hM : IntMapAt w b M)
    (hm : a.eval m = .map (some b)) (k : Int) (hx : a.eval x = .int .i64 k) (val : Value) (hv : a.eval v = val)
    (hK : ∀ w', IntMapAt w' b (updM M k (some val)) → w.grownBy w' (some b) → w'.heap.size = w.heap.size → wpList P ops Q rest (a.put o.dst undef) w') : wpList P ops Q (o :: rest) a w := by
  refine wpList_plain hg fun K hK' => ?_
  obtain ⟨w', hrun, r1, r2, r3⟩ := run_mapUpdate_int (P := P) ht hk hM k val
  unfold Oper.wp
  simp [execOp, hop, hm, hx, hv, hrun, Result.andThen]
  exact hK' _ _ (hK w' r1 r2 r3)

/-- 'delete(m, k)' at the operation. -/
theorem wpList_delete_i {ops : Array Oper} {rest : List Oper} {o : Oper} {a : Act} {Q : Exit → Act → World → Prop} (hg : o.guard = none) (m x : Operand) (t kt : TypeId)
    (ho : o.op = .call { callee := .builtin .delete, args := #[m, x], argTypes := #[t, kt] })
    (e : TypeId) (ht : P.underlying t = some (.map kt e)) (hk : P.underlying kt = some (.int .i64)) (b : Nat) (M : Int → Option Value) (hM : IntMapAt w b M)
    (hm : a.eval m = .map (some b)) (k : Int) (hx : a.eval x = .int .i64 k)
    (hK : ∀ w', IntMapAt w' b (updM M k none) → w.grownBy w' (some b) → w'.heap.size = w.heap.size → wpList P ops Q rest (a.put o.dst (.tuple #[])) w') : wpList P ops Q (o :: rest) a w := by
  refine wpList_plain hg fun K hK' => ?_
  obtain ⟨w', hrun, r1, r2, r3⟩ := run_delete_int (P := P) (ty := o.type) ht hk hM k kt
  unfold Oper.wp
  simp [execOp, ho, resolve, invoke, builtin, hm, hx, hrun, Result.andThen]
  exact hK' _ _ (hK w' r1 r2 r3)

/-- 'copy(dst, src)', dst in a row that is known whole: the row behind it; no other block has turned. -/
theorem wpList_copy_row {ops : Array Oper} {rest : List Oper} {o : Oper} {a : Act} {Q : Exit → Act → World → Prop} (hgd : o.guard = none) (d s : Operand) (dT sT : TypeId)
    (ho : o.op = .call { callee := .builtin .copy, args := #[d, s], argTypes := #[dT, sT] }) (elem : TypeId) (hu : P.underlying dT = some (.slice elem)) (hsz : (P.info? elem).map (·.size) = some 1)
    (dp sp : Option Addr) (dLen dCap sLen sCap : Nat) (hd : a.eval d = .slice dp dLen dCap) (hs : a.eval s = .slice sp sLen sCap)
    (g off : Nat) (cur : List Value) (t : TypeId) (hg : w.heap[g]? = some (.cells cur.toArray t (0, 0))) (cs : List Value) (hn : cs.length = Nat.min sLen dLen)
    (hpos : 0 < cs.length → dp = some ⟨g, off, none⟩ ∧ ∃ ad, sp = some ad ∧ ∀ j v, cs[j]? = some v → w.cell? (ad.add j) = some v)
    (hfit : off + cs.length ≤ cur.length) (h1 : ∀ v ∈ cs, v.oneCell' = true)
    (h : ∀ w', w'.heap[g]? = some (.cells (splice cur off cs).toArray t (0, 0)) → w.grownBy w' (some g) → w'.heap.size = w.heap.size → wpList P ops Q rest (a.put o.dst (goInt cs.length)) w') :
    wpList P ops Q (o :: rest) a w := by
  by_cases h0 : cs.length = 0
  · obtain rfl : cs = [] := List.eq_nil_of_length_eq_zero h0
    refine wpList_copy_nothing hgd d s dT sT ho elem hu hsz dp sp dLen dCap sLen sCap hd hs (by simpa using hn.symm) ?_
    exact h w (by simpa [splice] using hg) ⟨rfl, rfl, rfl, Nat.le_refl _, fun _ _ _ => rfl⟩ rfl
  · obtain ⟨rfl, ad, rfl, hsrc⟩ := hpos (by omega)
    refine wpList_copy_own hgd d s dT sT ho elem hu hsz g off dLen dCap ad sLen sCap hd hs cur.toArray t hg cs hn hsrc (by simpa using hfit) h1 ?_
    exact h _ (by simpa [splice] using setRow_heap w g _ _ t _ hg) ⟨rfl, rfl, rfl, by simp [World.setRow], fun k _ hk => setRow_other w g k _ (fun e => hk (by rw [e]))⟩ (by simp [World.setRow])

/-- append within the capacity, onto a slice of a row that is known whole: the cells are laid over what lies there. -/
theorem wpList_append_over {ops : Array Oper} {rest : List Oper} {o : Oper} {a : Act} {Q : Exit → Act → World → Prop} (hgd : o.guard = none) (s x : Operand) (t : TypeId)
    (ho : o.op = .call { callee := .builtin .append, args := #[s, x], argTypes := #[t, t] })
    (e : TypeId) (i : TypeInfo) (ht : P.underlying t = some (.slice e)) (hi : P.info? e = some i) (hsize : i.size = 1)
    (g sLen sCap : Nat) (hs : a.eval s = .slice (some ⟨g, 0, none⟩) sLen sCap) (cur : List Value) (hg : w.heap[g]? = some (.cells cur.toArray e (0, 0)))
    (xp : Option Addr) (m c : Nat) (hx : a.eval x = .slice xp m c) (ad : Addr) (hxp : xp = some ad) (news : List Value) (hl : news.length = m) (hnews : ∀ j u, news[j]? = some u → w.cell? (ad.add j) = some u) (h1 : ∀ u ∈ news, u.oneCell' = true)
    (hroom : sLen + m ≤ sCap) (hfit : sLen + m ≤ cur.length)
    (h : ∀ w', w'.heap[g]? = some (.cells (cur.take sLen ++ news ++ cur.drop (sLen + m)).toArray e (0, 0)) → w.grownBy w' (some g) → w'.heap.size = w.heap.size → wpList P ops Q rest (a.put o.dst (.slice (some ⟨g, 0, none⟩) (sLen + m) sCap)) w') :
    wpList P ops Q (o :: rest) a w := by
  subst hxp
  refine wpList_plain hgd fun K hK => ?_
  have hrun := run_append_room (P := P) w t o.type e i ht hi g sLen sCap cur.toArray hg ad m c news (by rw [hsize, Nat.mul_one]; exact hl) hnews h1 hroom (by rw [hsize, Nat.mul_one, hl]; simpa using hfit)
  unfold Oper.wp
  simp [execOp, ho, resolve, invoke, builtin, hs, hx, hrun, Result.andThen]
  refine hK _ _ (h _ ?_ ⟨rfl, rfl, rfl, by simp [World.setRow], fun k _ hk => setRow_other w g k _ (fun e => hk (by rw [e]))⟩ (by simp [World.setRow]))
  refine (setRow_heap w g _ _ e _ hg).trans ?_
  simp [hsize, hl]

/-- The same as one step of a region that draws its order. -/
theorem step_append_over {ops : Array Oper} {o : Oper} {a : Act} {K : Act → World → Prop} {Q : Exit → Act → World → Prop} {E : Prop} (hgd : o.guard = none) (s x : Operand) (t : TypeId)
    (ho : o.op = .call { callee := .builtin .append, args := #[s, x], argTypes := #[t, t] })
    (e : TypeId) (i : TypeInfo) (ht : P.underlying t = some (.slice e)) (hi : P.info? e = some i) (hsize : i.size = 1)
    (g sLen sCap : Nat) (hs : a.eval s = .slice (some ⟨g, 0, none⟩) sLen sCap) (cur : List Value) (hg : w.heap[g]? = some (.cells cur.toArray e (0, 0)))
    (m c : Nat) (ad : Addr) (hx : a.eval x = .slice (some ad) m c) (news : List Value) (hl : news.length = m) (hnews : ∀ j u, news[j]? = some u → w.cell? (ad.add j) = some u) (h1 : ∀ u ∈ news, u.oneCell' = true)
    (hroom : sLen + m ≤ sCap) (hfit : sLen + m ≤ cur.length)
    (h : ∀ w', w'.heap[g]? = some (.cells (cur.take sLen ++ news ++ cur.drop (sLen + m)).toArray e (0, 0)) → w.grownBy w' (some g) → w'.heap.size = w.heap.size → K (a.put o.dst (.slice (some ⟨g, 0, none⟩) (sLen + m) sCap)) w') :
    if Region.wanted o (yielded ops a.tmps) = true then Oper.wp P o a w K Q else E := by
  have hw : Region.wanted o (yielded ops a.tmps) = true := by simp [Region.wanted, hgd]
  rw [if_pos hw]
  have hrun := run_append_room (P := P) w t o.type e i ht hi g sLen sCap cur.toArray hg ad m c news (by rw [hsize, Nat.mul_one]; exact hl) hnews h1 hroom (by rw [hsize, Nat.mul_one, hl]; simpa using hfit)
  unfold Oper.wp
  simp [execOp, ho, resolve, invoke, builtin, hs, hx, hrun, Result.andThen]
  refine h _ ?_ ⟨rfl, rfl, rfl, by simp [World.setRow], fun k _ hk => setRow_other w g k _ (fun e => hk (by rw [e]))⟩ (by simp [World.setRow])
  refine (setRow_heap w g _ _ e _ hg).trans ?_
  simp [hsize, hl]

/-- 'clear(s)' on a part of a row that is known whole. -/
theorem run_clear_row (t e ty tt : TypeId) (z : Value) (ht : P.underlying t = some (.slice e)) (hv : (zeroValue e).run P w = .ok z w) (hz : z.cells = #[z]) (h1 : z.oneCell' = true) (g o n c : Nat) (cur : List Value) (hn : 0 < n)
    (hg : w.heap[g]? = some (.cells cur.toArray tt (0, 0))) (hfit : o + n ≤ cur.length) :
    (Builtin.clear_ #[t] ty #[.slice (some ⟨g, o, none⟩) n c]).run P w = .ok (.tuple #[]) (w.setRow g (cur.take o ++ List.replicate n z ++ cur.drop (o + n)).toArray) := by
  have hzc : (Builtin.zeroCells z.cells n).toList = List.replicate n z := by
    rw [hz]
    simp only [Builtin.zeroCells]
    apply List.ext_getElem
    · simp
    · intro i h1 h2; simp [Nat.mod_one]
  have hst := run_storeCells_at P g o tt (List.replicate n z) 0 cur.toArray w hg (by simpa using hfit) (by intro v hv'; rw [List.eq_of_mem_replicate hv']; exact h1)
  simp only [Nat.add_zero, List.length_replicate] at hst
  obtain ⟨m, rfl⟩ : ∃ m, n = m + 1 := ⟨n - 1, by omega⟩
  simp [Builtin.clear_, run_underlying ht, hv, hzc, hst]

/-- What is asked where 'clear' stands next. -/
def ClearNext (P : Program) (w : World) (ops : Array Oper) (rest : List Oper) (o : Oper) (a : Act) (Q : Exit → Act → World → Prop) (x : Operand) (t : TypeId) : Prop :=
  ∃ (e tt : TypeId) (z : Value) (xp : Option Addr) (g off n c : Nat) (cur : List Value), P.underlying t = some (.slice e) ∧ (zeroValue e).run P w = .ok z w ∧ z.cells = #[z] ∧ z.oneCell' = true ∧ a.eval x = .slice xp n c ∧ xp = some ⟨g, off, none⟩ ∧
      0 < n ∧ w.heap[g]? = some (.cells cur.toArray tt (0, 0)) ∧ off + n ≤ cur.length ∧
      ∀ w', w'.heap[g]? = some (.cells (cur.take off ++ List.replicate n z ++ cur.drop (off + n)).toArray tt (0, 0)) → w.grownBy w' (some g) → w'.heap.size = w.heap.size → wpList P ops Q rest (a.put o.dst (.tuple #[])) w'

theorem wpList_clear_row {ops : Array Oper} {rest : List Oper} {o : Oper} {a : Act} {Q : Exit → Act → World → Prop} (hgd : o.guard = none) (x : Operand) (t : TypeId)
    (ho : o.op = .call { callee := .builtin .clear, args := #[x], argTypes := #[t] })
    (h : ClearNext P w ops rest o a Q x t) :
    wpList P ops Q (o :: rest) a w := by
  obtain ⟨e, tt, z, xp, g, off, n, c, cur, h1, h2, h3, h4, h5, rfl, h6, h7, h8, h9⟩ := h
  refine wpList_plain hgd fun K hK => ?_
  have hrun := run_clear_row (P := P) (w := w) t e o.type tt z h1 h2 h3 h4 g off n c cur h6 h7 h8
  unfold Oper.wp
  simp [execOp, ho, resolve, invoke, builtin, h5, hrun, Result.andThen]
  exact hK _ _ (h9 _ (by rw [List.append_assoc]; exact setRow_heap w g _ _ tt _ h7) ⟨rfl, rfl, rfl, by simp [World.setRow], fun k _ hk => setRow_other w g k _ (fun e => hk (by rw [e]))⟩ (by simp [World.setRow]))

/-- A row that is not empty, opened: its block holds it and what is spare. -/
theorem row_open {e : TypeId} {v : Value} {n : Nat} {xs : List Value} (h : w.ownsRow 0 e 1 v n xs) (hx : xs ≠ []) :
    ∃ g c spare, v = .slice (some ⟨g, 0, none⟩) n c ∧ n = xs.length ∧ w.heap[g]? = some (.cells (xs ++ spare).toArray e (0, 0)) ∧ (xs ++ spare).length = c ∧ c ≤ maxLen := by
  have hlen := h.1
  rcases h.2 with ⟨rfl, rfl⟩ | ⟨g, cap, cur, rfl, _, hg, h1, h2, h3, h4⟩
  · exact absurd (List.eq_nil_of_length_eq_zero (by simpa using hlen)) hx
  · refine ⟨g, cap, cur.toList.drop n, rfl, by simpa using hlen.symm, ?_, ?_, h2⟩
    · rw [← h4]; simpa using hg
    · rw [← h4]; simp; omega

theorem row_shut {e : TypeId} {g c : Nat} {xs spare : List Value} (hg : w.heap[g]? = some (.cells (xs ++ spare).toArray e (0, 0))) (hc : (xs ++ spare).length = c) (hm : c ≤ maxLen) :
    w.ownsRow 0 e 1 (.slice (some ⟨g, 0, none⟩) xs.length c) xs.length xs := by
  refine ⟨by simp, .inr ⟨g, c, _, rfl, Nat.zero_le _, hg, ?_, hm, by simpa using hc, by simp⟩⟩
  rw [← hc, List.length_append]; omega

theorem cell_new1 (w : World) (x : Value) (t : TypeId) : ∀ (j : Nat) (u : Value), [x][j]? = some u → (w.alloc (.cells #[x] t)).cell? ((⟨w.heap.size, 0, none⟩ : Addr).add j) = some u := by
  intro j u hu
  cases j with
  | zero =>
    simp at hu; subst hu
    have : (⟨w.heap.size, 0, none⟩ : Addr).add 0 = ⟨w.heap.size, 0, none⟩ := rfl
    rw [this, World.cell?_alloc_at _ _ _ _ rfl]; rfl
  | succ j => simp at hu

theorem cell_of_list {g : Nat} {l : List Value} {t : TypeId} {fz : Nat × Nat} (hg : w.heap[g]? = some (.cells l.toArray t fz)) (i : Nat) : w.cell? ⟨g, i, none⟩ = l[i]? := by
  simp [World.cell?, hg]
theorem free_of_list {g : Nat} {l : List Value} {t : TypeId} (hg : w.heap[g]? = some (.cells l.toArray t (0, 0))) (i : Nat) : w.frozen? ⟨g, i, none⟩ = false := by
  simp [World.frozen?, hg]
theorem setCell_list {g i : Nat} {l : List Value} {t : TypeId} {fz : Nat × Nat} (hg : w.heap[g]? = some (.cells l.toArray t fz)) (v : Value) : (w.setCell ⟨g, i, none⟩ v).heap[g]? = some (.cells (l.set i v).toArray t fz) := by
  simp [World.setCell, Array.getElem?_modify, hg]
theorem grownBy_setCell (w : World) (g i : Nat) (v : Value) : w.grownBy (w.setCell ⟨g, i, none⟩ v) (some g) :=
  ⟨rfl, rfl, rfl, by simp [World.setCell], fun k _ hk => Below.heap_setCell _ _ _ _ (fun e => hk (by rw [e]))⟩
theorem addr_add (g i j : Nat) : (⟨g, i, none⟩ : Addr).add j = ⟨g, i + j, none⟩ := by
  unfold Addr.add; split <;> simp_all

end
end Go.Proofs.YtminbemdcanakaaGreat
/- An iterator's rounds: what a loop's body must leave alone (all cells, maps and walks outside a few blocks of its own); small facts on boxes. -/
namespace Go.Proofs.YtminbemdcanakaaGreat
open Go.RowKit Go.Shelf
set_option linter.unusedVariables false
set_option linter.unusedSimpArgs false

/-- Cells, maps and walks outside C are as they were. -/
structure KpC (C : Nat → Prop) (W W' : World) : Prop where
  size : W.heap.size ≤ W'.heap.size
  same : ∀ (k : Nat) (o : Obj), W.heap[k]? = some o → (o.isCells = true ∨ o.isWalk = true) → ¬ C k → W'.heap[k]? = some o

theorem KpC.refl (C : Nat → Prop) (W : World) : KpC C W W := ⟨Nat.le_refl _, fun _ _ h _ _ => h⟩
theorem KpC.trans {C : Nat → Prop} {A B D : World} (h : KpC C A B) (k : KpC C B D) : KpC C A D :=
  ⟨Nat.le_trans h.size k.size, fun i o hi ho hc => k.same i o (h.same i o hi ho hc) ho hc⟩
theorem KpC.alloc (C : Nat → Prop) (W : World) (o : Obj) : KpC C W (W.alloc o) :=
  ⟨by simp, fun k o' hk _ _ => (Below.heap_alloc W o k (Array.getElem?_eq_some_iff.1 hk).1).trans hk⟩
theorem KpC.setCell {C : Nat → Prop} (W : World) (p : Addr) (hp : C p.block) (v : Value) : KpC C W (W.setCell p v) :=
  ⟨by simp [World.setCell], fun k o hk _ hc => (Below.heap_setCell W p v k (fun e => hc (by rw [e]; exact hp))).trans hk⟩
theorem KpC.drew (C : Nat → Prop) (W : World) : KpC C W W.drew := ⟨Nat.le_refl _, fun _ _ h _ _ => h⟩
theorem KpC.of_below {C : Nat → Prop} {W W' : World} (h : Below W.heap.size W W') : KpC C W W' :=
  ⟨h.size, fun k o hk _ _ => (h.block k (Array.getElem?_eq_some_iff.1 hk).1).trans hk⟩
theorem kpC_t {C : Nat → Prop} {A B D : World} (h : KpC C A B) (k : KpC C B D) : KpC C A D := h.trans k
theorem kpC_b {C : Nat → Prop} {B : Nat} (W : World) (l : Nat) (o o' : Obj) (_ : B ≤ l) (h : W.heap[l]? = some o) (hc : o.isCells = false) (hw : o.isWalk = false) : KpC C W (W.putObj l o') :=
  ⟨by simp [World.putObj], fun k o2 hk ho _ => by
    have : k ≠ l := by
      rintro rfl
      rw [h] at hk; cases hk
      rcases ho with ho | ho
      · rw [hc] at ho; cases ho
      · rw [hw] at ho; cases ho
    exact (World.putObj_heap_other this).trans hk⟩

theorem KpC.cells {C : Nat → Prop} {W W' : World} (h : KpC C W W') {k : Nat} {c : Array Value} {e : TypeId} {f : Nat × Nat} (hk : W.heap[k]? = some (.cells c e f)) (hc : ¬ C k) : W'.heap[k]? = W.heap[k]? :=
  (h.same k _ hk (.inl rfl) hc).trans hk.symm
theorem KpC.map {C : Nat → Prop} {W W' : World} (h : KpC C W W') {k : Nat} {es : Array MapEntry} {c : Nat} (hk : W.heap[k]? = some (.map es c)) (hc : ¬ C k) : W'.heap[k]? = W.heap[k]? :=
  (h.same k _ hk (.inr rfl) hc).trans hk.symm

/-- A block that is wholly known: one list of cells. -/
def Box (W : World) (b : Nat) (l : List Value) (t : TypeId) : Prop := W.heap[b]? = some (.cells l.toArray t (0, 0))
theorem Box.lt {W : World} {b : Nat} {l : List Value} {t : TypeId} (h : Box W b l t) : b < W.heap.size := (Array.getElem?_eq_some_iff.1 h).1
theorem Box.cell {W : World} {b : Nat} {l : List Value} {t : TypeId} (h : Box W b l t) (i : Nat) : W.cell? ⟨b, i, none⟩ = l[i]? := by
  unfold Box at h; simp [World.cell?, h]
theorem Box.free {W : World} {b : Nat} {l : List Value} {t : TypeId} (h : Box W b l t) (i : Nat) : W.frozen? ⟨b, i, none⟩ = false := by
  unfold Box at h; simp [World.frozen?, h]
theorem Box.of_block {W W' : World} {b : Nat} {l : List Value} {t : TypeId} (h : Box W b l t) (hb : W'.heap[b]? = W.heap[b]?) : Box W' b l t := hb.trans h
theorem Box.below {W W' : World} {n b : Nat} {l : List Value} {t : TypeId} (h : Box W b l t) (hb : Below n W W') (hn : b < n) : Box W' b l t := h.of_block (hb.block b hn)
theorem Box.kp {C : Nat → Prop} {W W' : World} {b : Nat} {l : List Value} {t : TypeId} (h : Box W b l t) (hk : KpC C W W') (hc : ¬ C b) : Box W' b l t := h.of_block (hk.cells h hc)
theorem Box.alloc {W : World} {b : Nat} {l : List Value} {t : TypeId} (h : Box W b l t) (o : Obj) : Box (W.alloc o) b l t := h.of_block (Below.heap_alloc W o b h.lt)
theorem Box.new (W : World) (l : List Value) (t : TypeId) : Box (W.alloc (.cells l.toArray t)) W.heap.size l t := World.alloc_heap_new W _
theorem Box.set {W : World} {b : Nat} {l : List Value} {t : TypeId} (h : Box W b l t) (i : Nat) (v : Value) : Box (W.setCell ⟨b, i, none⟩ v) b (l.set i v) t := by
  unfold Box at *; simp [World.setCell, Array.getElem?_modify, h]
theorem Box.setOther {W : World} {b : Nat} {l : List Value} {t : TypeId} (h : Box W b l t) (p : Addr) (hp : b ≠ p.block) (v : Value) : Box (W.setCell p v) b l t := h.of_block (Below.heap_setCell W p v b hp)
theorem Box.drew {W : World} {b : Nat} {l : List Value} {t : TypeId} (h : Box W b l t) : Box W.drew b l t := h
/-- Boxes abide the turn of a block that is no cells. -/
theorem Box.grown {W W' : World} {b : Nat} {l : List Value} {t : TypeId} (h : Box W b l t) {row : Option Nat} (hg : W.grownBy W' row) (hr : ∀ r, row = some r → ∃ o : Obj, W.heap[r]? = some o ∧ o.isCells = false) : Box W' b l t := by
  refine h.of_block (hg.block b h.lt ?_)
  intro e
  obtain ⟨o, ho, hc⟩ := hr b e.symm
  unfold Box at h
  rw [h] at ho; cases ho; cases hc
end Go.Proofs.YtminbemdcanakaaGreat
