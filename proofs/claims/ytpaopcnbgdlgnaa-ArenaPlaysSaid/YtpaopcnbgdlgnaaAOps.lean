/- What the arena's calls make of its state, in plain Lean; that the state stays well made. -/
import Derived.Test.YtpaopcnbgdlgnaaARuns
namespace Go.Proofs.Ytpaopcnbgdlgnaa
set_option linter.unusedVariables false
set_option linter.unusedSimpArgs false

/-! ### the least handle -/
def leastFrom (L : List Blk) : Nat → Nat → Nat
  | 0, k => k
  | f + 1, k => if (getB k L).isSome then leastFrom L f (k + 1) else k
def leastH (L : List Blk) : Nat := leastFrom L (L.length + 1) 1

theorem pigeon : ∀ (n lo : Nat) (l : List Nat), (∀ k, lo ≤ k → k < lo + n → k ∈ l) → n ≤ l.length := by
  intro n
  induction n with
  | zero => intro lo l _; exact Nat.zero_le _
  | succ n ih =>
    intro lo l h
    have hm := h (lo + n) (by omega) (by omega)
    have h2 := ih lo (l.erase (lo + n)) (fun k h1 h2 => (List.mem_erase_of_ne (by omega)).2 (h k h1 (by omega)))
    rw [List.length_erase_of_mem hm] at h2
    have := List.length_pos_of_mem hm
    omega

theorem getB_isSome {L : List Blk} {k : Nat} : (getB k L).isSome = true ↔ k ∈ L.map (·.h) := by
  constructor
  · intro h
    obtain ⟨b, hb⟩ := Option.isSome_iff_exists.1 h
    obtain ⟨h1, h2⟩ := getB_mem hb
    exact List.mem_map.2 ⟨b, h1, by omega⟩
  · intro h
    obtain ⟨b, h1, h2⟩ := List.mem_map.1 h
    cases hg : getB (k : Int) L with
    | some c => rfl
    | none => exact absurd (by omega) (getB_none.1 hg b h1)

theorem leastFrom_spec (L : List Blk) : ∀ (f k : Nat), k ≤ leastFrom L f k ∧ leastFrom L f k ≤ k + f ∧ (∀ j, k ≤ j → j < leastFrom L f k → (getB j L).isSome = true) ∧
    (leastFrom L f k < k + f → getB (leastFrom L f k) L = none) := by
  intro f
  induction f with
  | zero => intro k; exact ⟨Nat.le_refl _, Nat.le_refl _, fun j h1 h2 => by simp only [leastFrom] at h2; omega, fun h => by simp only [leastFrom] at h; omega⟩
  | succ f ih =>
    intro k
    unfold leastFrom
    split
    · rename_i h
      obtain ⟨h1, h2, h3, h4⟩ := ih (k + 1)
      refine ⟨by omega, by omega, fun j hj1 hj2 => ?_, fun hlt => h4 (by omega)⟩
      by_cases e : j = k
      · subst e; exact h
      · exact h3 j (by omega) hj2
    · rename_i h
      exact ⟨Nat.le_refl _, by omega, fun j h1 h2 => by omega, fun _ => by simpa using h⟩

theorem leastH_spec (L : List Blk) : 1 ≤ leastH L ∧ leastH L ≤ L.length + 1 ∧ getB (leastH L) L = none ∧ (∀ j, 1 ≤ j → j < leastH L → (getB j L).isSome = true) := by
  obtain ⟨h1, h2, h3, h4⟩ := leastFrom_spec L (L.length + 1) 1
  have hlt : leastFrom L (L.length + 1) 1 < 1 + (L.length + 1) := by
    apply Classical.byContradiction
    intro hn
    have h5 := pigeon (L.length + 1) 1 (L.map (·.h)) (fun k hk1 hk2 => getB_isSome.1 (h3 k hk1 (by omega)))
    simp at h5
    omega
  exact ⟨h1, by unfold leastH; omega, h4 hlt, h3⟩

/-! ### a block more, a block less -/
def insB (L : List Blk) (i : Nat) (b : Blk) : List Blk := L.take i ++ b :: L.drop i

theorem getB_ins {k : Int} {b : Blk} : ∀ {L : List Blk} {i : Nat}, getB b.h L = none → getB k (insB L i b) = if (b.h : Int) = k then some b else getB k L := by
  intro L
  induction L with
  | nil => intro i _; cases i <;> simp [insB, getB]
  | cons c l ih =>
    intro i h
    have hc : (c.h : Int) ≠ b.h := getB_none.1 h c (by simp)
    have hl : getB b.h l = none := getB_none.2 fun x hx => getB_none.1 h x (by simp [hx])
    cases i with
    | zero => simp [insB, getB]
    | succ i =>
      have e : insB (c :: l) (i + 1) b = c :: insB l i b := by simp [insB]
      rw [e]
      by_cases hck : (c.h : Int) = k
      · have hbk : ¬ (b.h : Int) = k := fun e => hc (by omega)
        simp [getB, hck, hbk]
      · rw [show getB k (c :: insB l i b) = getB k (insB l i b) from by simp [getB, hck], ih hl]
        simp [getB, hck]

theorem mapOf_ins {L : List Blk} {i : Nat} {b : Blk} (h : getB b.h L = none) : mapOf (insB L i b) = updM (mapOf L) b.h (some (blkV b)) := by
  funext k
  unfold mapOf updM
  rw [getB_ins h]
  by_cases e : (b.h : Int) = k
  · rw [if_pos e, if_pos e.symm]; rfl
  · rw [if_neg e, if_neg (fun e' => e e'.symm)]

theorem live_ins {L : List Blk} {b : Blk} : ∀ {i : Nat}, liveL (insB L i b) = liveL L + b.n := by
  induction L with
  | nil => intro i; cases i <;> simp [insB, liveL]
  | cons c l ih =>
    intro i
    cases i with
    | zero => simp [insB, liveL]; omega
    | succ i =>
      have e : insB (c :: l) (i + 1) b = c :: insB l i b := by simp [insB]
      rw [e]; simp only [liveL, ih]; omega

theorem map_ins {α : Type} (f : Blk → α) (L : List Blk) (i : Nat) (b : Blk) : (insB L i b).map f = (L.map f).take i ++ [f b] ++ (L.map f).drop i := by
  simp [insB]

theorem mem_ins {L : List Blk} {i : Nat} {b x : Blk} : x ∈ insB L i b ↔ x = b ∨ x ∈ L := by
  unfold insB
  rw [List.mem_append, List.mem_cons]
  have : x ∈ L ↔ x ∈ L.take i ∨ x ∈ L.drop i := by rw [← List.mem_append, List.take_append_drop]
  rw [this]
  constructor
  · rintro (h | h | h)
    · exact .inr (.inl h)
    · exact .inl h
    · exact .inr (.inr h)
  · rintro (h | h | h)
    · exact .inr (.inl h)
    · exact .inl h
    · exact .inr (.inr h)

theorem nodup_ins {L : List Blk} {i : Nat} {b : Blk} (hn : (L.map (·.h)).Nodup) (h : getB b.h L = none) : ((insB L i b).map (·.h)).Nodup := by
  rw [map_ins]
  have hp : ((L.map (·.h)).take i ++ [b.h] ++ (L.map (·.h)).drop i).Perm (b.h :: L.map (·.h)) := by
    rw [List.append_assoc]
    refine List.Perm.trans List.perm_middle ?_
    show (b.h :: ((L.map (·.h)).take i ++ (L.map (·.h)).drop i)).Perm _
    rw [List.take_append_drop]
  refine hp.nodup_iff.2 (List.nodup_cons.2 ⟨?_, hn⟩)
  intro hm
  obtain ⟨c, hc, e⟩ := List.mem_map.1 hm
  exact getB_none.1 h c hc (by omega)

def eraseB (k : Int) : List Blk → List Blk
  | [] => []
  | b :: l => if (b.h : Int) = k then l else b :: eraseB k l

theorem eraseB_split {k : Int} : ∀ {L : List Blk} {b : Blk}, getB k L = some b → ∃ pre post, L = pre ++ b :: post ∧ eraseB k L = pre ++ post ∧ (∀ x ∈ pre, (x.h : Int) ≠ k) ∧ (b.h : Int) = k := by
  intro L
  induction L with
  | nil => intro b h; simp [getB] at h
  | cons c l ih =>
    intro b h
    unfold getB at h
    unfold eraseB
    by_cases hc : (c.h : Int) = k
    · rw [if_pos hc] at h ⊢; cases h
      exact ⟨[], l, rfl, rfl, by simp, hc⟩
    · rw [if_neg hc] at h ⊢
      obtain ⟨pre, post, h1, h2, h3, h4⟩ := ih h
      exact ⟨c :: pre, post, by rw [h1]; rfl, by rw [h2]; rfl, fun x hx => by
        rcases List.mem_cons.1 hx with rfl | hx
        · exact hc
        · exact h3 x hx, h4⟩

theorem getB_erase {k j : Int} : ∀ {L : List Blk}, (L.map (·.h)).Nodup → getB j (eraseB k L) = if j = k then none else getB j L := by
  intro L
  induction L with
  | nil => intro _; simp [eraseB, getB]
  | cons c l ih =>
    intro hn
    simp only [List.map_cons, List.nodup_cons] at hn
    unfold eraseB
    by_cases hc : (c.h : Int) = k
    · rw [if_pos hc]
      by_cases hj : j = k
      · subst hj
        rw [if_pos rfl, getB_none]
        intro b hb e
        exact hn.1 (List.mem_map.2 ⟨b, hb, by omega⟩)
      · rw [if_neg hj]
        have : ¬ (c.h : Int) = j := fun e => hj (by omega)
        simp [getB, this]
    · rw [if_neg hc]
      by_cases hcj : (c.h : Int) = j
      · have : ¬ j = k := fun e => hc (by omega)
        simp [getB, hcj, this]
      · rw [show getB j (c :: eraseB k l) = getB j (eraseB k l) from by simp [getB, hcj], ih hn.2]
        simp [getB, hcj]

theorem mapOf_erase {k : Int} {L : List Blk} (hn : (L.map (·.h)).Nodup) : mapOf (eraseB k L) = updM (mapOf L) k none := by
  funext j
  unfold mapOf updM
  rw [getB_erase hn]
  split <;> simp

theorem laid_mono : ∀ {L : List Blk} {lo lo' : Nat}, lo' ≤ lo → Laid lo L → Laid lo' L := by
  intro L
  cases L with
  | nil => intro _ _ _ _; trivial
  | cons b l => intro lo lo' h h2; exact ⟨by have := h2.1; omega, h2.2⟩

theorem laid_erase {k : Int} : ∀ {L : List Blk} {lo : Nat}, Laid lo L → Laid lo (eraseB k L) ∧ topL lo (eraseB k L) ≤ topL lo L := by
  intro L
  induction L with
  | nil => intro lo _; exact ⟨trivial, Nat.le_refl _⟩
  | cons c l ih =>
    intro lo h
    obtain ⟨h1, h2, h3, h4⟩ := h
    unfold eraseB
    split
    · refine ⟨laid_mono (by omega) h4, ?_⟩
      cases l with
      | nil => simp [topL]; omega
      | cons d l => exact Nat.le_refl _
    · obtain ⟨g1, g2⟩ := ih h4
      exact ⟨⟨h1, h2, h3, g1⟩, g2⟩

theorem live_erase {k : Int} : ∀ {L : List Blk} {b : Blk}, getB k L = some b → liveL (eraseB k L) + b.n = liveL L := by
  intro L
  induction L with
  | nil => intro b h; simp [getB] at h
  | cons c l ih =>
    intro b h
    unfold getB at h
    unfold eraseB
    by_cases hc : (c.h : Int) = k
    · rw [if_pos hc] at h ⊢; cases h; simp [liveL]; omega
    · rw [if_neg hc] at h ⊢
      have := ih h
      simp only [liveL]; omega

theorem mem_erase {k : Int} : ∀ {L : List Blk} {x : Blk}, x ∈ eraseB k L → x ∈ L := by
  intro L
  induction L with
  | nil => intro x h; exact h
  | cons c l ih =>
    intro x h
    unfold eraseB at h
    split at h
    · simp [h]
    · rcases List.mem_cons.1 h with rfl | h
      · simp
      · simp [ih h]

theorem nodup_erase {k : Int} : ∀ {L : List Blk}, (L.map (·.h)).Nodup → ((eraseB k L).map (·.h)).Nodup := by
  intro L
  induction L with
  | nil => intro h; exact h
  | cons c l ih =>
    intro h
    simp only [List.map_cons, List.nodup_cons] at h
    unfold eraseB
    split
    · exact h.2
    · simp only [List.map_cons, List.nodup_cons]
      refine ⟨?_, ih h.2⟩
      intro hm
      obtain ⟨x, hx, e⟩ := List.mem_map.1 hm
      exact h.1 (List.mem_map.2 ⟨x, mem_erase hx, e⟩)

theorem Inv.erase {S : St} (h : Inv S) (k : Int) : Inv { S with L := eraseB k S.L } :=
  ⟨(laid_erase h.laid).1, Nat.le_trans (laid_erase h.laid).2 h.top, nodup_erase h.nodup, h.size, h.pos, fun b hb => h.small b (mem_erase hb)⟩

/-! ### a place among the blocks -/
theorem run_ins {N : Nat} : ∀ {L : List Blk} {lo i : Nat} {r : Run}, Laid lo L → topL lo L ≤ N → r ∈ runsFrom N 0 lo i L →
    ∃ j, r.i = i + j ∧ j ≤ L.length ∧ lo ≤ r.a ∧ 1 ≤ r.n ∧ ∀ h n, 1 ≤ h → 1 ≤ n → n ≤ r.n → Laid lo (insB L j ⟨h, r.a, n⟩) ∧ topL lo (insB L j ⟨h, r.a, n⟩) ≤ N := by
  intro L
  induction L with
  | nil =>
    intro lo i r _ ht hr
    unfold runsFrom at hr
    split at hr
    · rename_i hlt
      simp at hr
      subst hr
      exact ⟨0, by simp, by simp, Nat.le_refl _, by simp; omega, fun h n h1 h2 h3 => by simp only at h3; simp [insB, Laid, topL]; omega⟩
    · simp at hr
  | cons c l ih =>
    intro lo i r hl ht hr
    obtain ⟨h1, h2, h3, h4⟩ := hl
    unfold runsFrom at hr
    rw [if_neg (by omega)] at hr
    rcases List.mem_append.1 hr with hr | hr
    · split at hr
      · rename_i hlt
        simp at hr
        subst hr
        refine ⟨0, by simp, by simp, Nat.le_refl _, by simp; omega, fun h n g1 g2 g3 => ?_⟩
        simp only at g3
        exact ⟨⟨Nat.le_refl _, g2, g1, by simp only; omega, h2, h3, h4⟩, ht⟩
      · simp at hr
    · obtain ⟨j, e1, e2, e3, e4, e5⟩ := ih h4 ht hr
      refine ⟨j + 1, by omega, by simp; omega, by omega, e4, fun h n g1 g2 g3 => ?_⟩
      have e : insB (c :: l) (j + 1) ⟨h, r.a, n⟩ = c :: insB l j ⟨h, r.a, n⟩ := by simp [insB]
      rw [e]
      obtain ⟨f1, f2⟩ := e5 h n g1 g2 g3
      exact ⟨⟨h1, h2, h3, f1⟩, f2⟩

theorem firstRun_some {n : Nat} {r : Run} : ∀ {l : List Run}, firstRun n l = some r → r ∈ l ∧ n ≤ r.n := by
  intro l
  induction l with
  | nil => intro h; simp [firstRun] at h
  | cons x l ih =>
    intro h
    unfold firstRun at h
    split at h
    · cases h; exact ⟨by simp, by assumption⟩
    · obtain ⟨h1, h2⟩ := ih h; exact ⟨by simp [h1], h2⟩

/-! ### the cells -/
def layCells (cells : List Int) (a : Nat) (l : List Int) : List Int := cells.take a ++ (l ++ cells.drop (a + l.length))
theorem layCells_length {cells : List Int} {a : Nat} {l : List Int} (h : a + l.length ≤ cells.length) : (layCells cells a l).length = cells.length := by
  simp [layCells]; omega

theorem Inv.ins {S : St} (hS : Inv S) {r : Run} (hr : r ∈ runs S.cells.length 0 S.L) {h n : Nat} (h1 : 1 ≤ h) (h7 : h ≤ 70000) (hg : getB h S.L = none) (n1 : 1 ≤ n) (n2 : n ≤ r.n) {cells : List Int} (hc : cells.length = S.cells.length) :
    Inv ⟨cells, insB S.L r.i ⟨h, r.a, n⟩⟩ ∧ r.i ≤ S.L.length ∧ r.a + n ≤ S.cells.length := by
  obtain ⟨j, e1, e2, e3, e4, e5⟩ := run_ins hS.laid hS.top hr
  obtain ⟨f1, f2⟩ := e5 h n h1 n1 n2
  have e : r.i = j := by omega
  subst e
  have hm : (⟨h, r.a, n⟩ : Blk) ∈ insB S.L r.i ⟨h, r.a, n⟩ := mem_ins.2 (.inl rfl)
  have hb := (laid_mem f1 hm).2.2.2
  simp only at hb
  exact ⟨⟨f1, by rw [hc]; exact f2, nodup_ins hS.nodup hg, by rw [hc]; exact hS.size, by rw [hc]; exact hS.pos, fun b hb => by
    rcases mem_ins.1 hb with rfl | hb
    · exact h7
    · exact hS.small b hb⟩, e2, by omega⟩

/-! ### Alloc, Free -/
def allocR (S : St) (n : Int) : Int × Int :=
  if n < 1 ∨ 65536 < n then (0, 1) else
  match firstRun n.toNat (runs S.cells.length 0 S.L) with
  | none => (0, 8)
  | some r => (leastH S.L, 0)
def allocS (S : St) (n : Int) : St :=
  if n < 1 ∨ 65536 < n then S else
  match firstRun n.toNat (runs S.cells.length 0 S.L) with
  | none => S
  | some r => ⟨layCells S.cells r.a (List.replicate n.toNat 0), insB S.L r.i ⟨leastH S.L, r.a, n.toNat⟩⟩

theorem leastH_le {S : St} (h : Inv S) : leastH S.L ≤ 70000 := by
  have := (leastH_spec S.L).2.1
  have := h.length
  have := h.size
  omega

theorem Inv.alloc {S : St} (h : Inv S) (n : Int) : Inv (allocS S n) := by
  unfold allocS
  split
  · exact h
  · split
    · exact h
    · rename_i hn r hr
      obtain ⟨h1, h2⟩ := firstRun_some hr
      have hl := leastH_spec S.L
      have hb := (h.ins h1 (h := leastH S.L) (n := n.toNat) (cells := S.cells) hl.1 (leastH_le h) hl.2.2.1 (by omega) h2 rfl).2.2
      exact (h.ins h1 hl.1 (leastH_le h) hl.2.2.1 (by omega) h2 (layCells_length (by simpa using hb))).1

def freeS (S : St) (h : Int) : St := { S with L := eraseB h S.L }

theorem eraseB_none {k : Int} : ∀ {L : List Blk}, getB k L = none → eraseB k L = L := by
  intro L
  induction L with
  | nil => intro _; rfl
  | cons c l ih =>
    intro h
    have h1 := getB_none.1 h c (by simp)
    have h2 : getB k l = none := getB_none.2 fun x hx => getB_none.1 h x (by simp [hx])
    unfold eraseB
    rw [if_neg h1, ih h2]
end Go.Proofs.Ytpaopcnbgdlgnaa
