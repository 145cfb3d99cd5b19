/- What lies in a block, through all calls, in plain Lean. -/
import Derived.Test.YtpaopcnbgdlgnaaLawP
namespace Go.Proofs.Ytpaopcnbgdlgnaa
set_option linter.unusedVariables false
set_option linter.unusedSimpArgs false

/-- The block of a handle holds a list. -/
def Cont (S : St) (h : Int) (xs : List Int) : Prop := ∃ b, getB h S.L = some b ∧ b.n = xs.length ∧ ∀ (j : Nat) (x : Int), xs[j]? = some x → S.cells[b.a + j]? = some x

theorem lay_low {cells : List Int} {a q : Nat} {l : List Int} (ha : a ≤ cells.length) (h : q < a) : (layCells cells a l)[q]? = cells[q]? := by
  unfold layCells
  rw [List.getElem?_append_left (by simp; omega), List.getElem?_take_of_lt h]
theorem lay_high {cells : List Int} {a q : Nat} {l : List Int} (ha : a ≤ cells.length) (h : a + l.length ≤ q) : (layCells cells a l)[q]? = cells[q]? := by
  unfold layCells
  rw [List.getElem?_append_right (by simp; omega), List.length_take, Nat.min_eq_left ha, List.getElem?_append_right (by omega), List.getElem?_drop]
  congr 1; omega
theorem lay_in {cells : List Int} {a q : Nat} {l : List Int} (ha : a ≤ cells.length) (h : q < l.length) : (layCells cells a l)[a + q]? = l[q]? := by
  unfold layCells
  rw [List.getElem?_append_right (by simp; omega), List.length_take, Nat.min_eq_left ha, List.getElem?_append_left (by omega)]
  congr 1; omega
theorem lay_out {cells : List Int} {a q : Nat} {l : List Int} (ha : a ≤ cells.length) (h : q < a ∨ a + l.length ≤ q) : (layCells cells a l)[q]? = cells[q]? := by
  rcases h with h | h
  · exact lay_low ha h
  · exact lay_high ha h
theorem put_out {cells : List Int} {a n q : Nat} {own : List Int} (ha : a + n ≤ cells.length) (ho : own.length ≤ n) (h : q < a ∨ a + n ≤ q) : (putC cells a n own)[q]? = cells[q]? := by
  have hl : (layCells cells a (List.replicate n 0)).length = cells.length := layCells_length (by simpa using ha)
  unfold putC
  rw [lay_out (by rw [hl]; omega) (by omega), lay_out (by omega) (by simpa using h)]

theorem laid_disj : ∀ {L : List Blk} {lo : Nat} {b c : Blk}, Laid lo L → b ∈ L → c ∈ L → b.h ≠ c.h → b.a + b.n ≤ c.a ∨ c.a + c.n ≤ b.a := by
  intro L
  induction L with
  | nil => intro lo b c _ hb; simp at hb
  | cons d l ih =>
    intro lo b c h hb hc hne
    obtain ⟨h1, h2, h3, h4⟩ := h
    rcases List.mem_cons.1 hb with rfl | hb2
    · rcases List.mem_cons.1 hc with rfl | hc2
      · exact absurd rfl hne
      · exact .inl (laid_mem h4 hc2).1
    · rcases List.mem_cons.1 hc with rfl | hc2
      · exact .inr (laid_mem h4 hb2).1
      · exact ih h4 hb2 hc2 hne

/-- Cells of a block stay where another block is laid, and cells are turned there alone. -/
theorem Cont.laid {S S' : St} {h : Int} {xs : List Int} (hc : Cont S h xs) (hI : Inv S') {c : Blk} (hcm : c ∈ S'.L) (hch : (c.h : Int) ≠ h) (hg : getB h S'.L = getB h S.L)
    (hcell : ∀ q, (q < c.a ∨ c.a + c.n ≤ q) → S'.cells[q]? = S.cells[q]?) : Cont S' h xs := by
  obtain ⟨b, hb, hn, hx⟩ := hc
  have hb' : getB h S'.L = some b := hg.trans hb
  obtain ⟨hbm, hbh⟩ := getB_mem hb'
  have hd := laid_disj hI.laid hbm hcm (by omega)
  refine ⟨b, hb', hn, fun j x hj => ?_⟩
  have hlt := (List.getElem?_eq_some_iff.1 hj).1
  rw [hcell _ (by omega)]
  exact hx j x hj

theorem Cont.alloc {S : St} {h : Int} {xs : List Int} (hS : Inv S) (hc : Cont S h xs) (n : Int) : Cont (allocS S n) h xs := by
  by_cases hn : n < 1 ∨ 65536 < n
  · unfold allocS; rw [if_pos hn]; exact hc
  · obtain ⟨m, rfl⟩ := Int.eq_ofNat_of_zero_le (show 0 ≤ n by omega)
    have hI := hS.alloc (m : Int)
    rcases alloc_cases hS (m := m) (by omega) (by omega) with ⟨_, _, e⟩ | ⟨_, _, r, _, _, _, h3, _, e⟩
    · rw [e]; exact hc
    · rw [e] at hI ⊢
      have hgn : getB (leastH S.L) S.L = none := (leastH_spec S.L).2.2.1
      have hne : ((leastH S.L : Nat) : Int) ≠ h := by
        intro eq; obtain ⟨b, hb, _⟩ := hc; rw [← eq, hgn] at hb; simp at hb
      refine hc.laid hI (c := ⟨leastH S.L, r.a, m⟩) (mem_ins.2 (.inl rfl)) hne ?_ ?_
      · show getB h (insB _ _ _) = _; rw [getB_ins hgn, if_neg hne]
      · intro q hq; exact lay_out (by omega) (by simpa using hq)

theorem Cont.free {S : St} {h k : Int} {xs : List Int} (hS : Inv S) (hc : Cont S h xs) (hk : k ≠ h) : Cont (freeS S k) h xs := by
  obtain ⟨b, hb, hn, hx⟩ := hc
  exact ⟨b, by show getB h (eraseB k S.L) = _; rw [getB_erase hS.nodup, if_neg (fun e => hk e.symm)]; exact hb, hn, hx⟩

theorem Cont.resize {S : St} {h k : Int} {xs : List Int} (hS : Inv S) (hc : Cont S h xs) (hk : k ≠ h) (n : Int) : Cont (resizeS S k n) h xs := by
  have hI := (hS.resize k n).1
  unfold resizeS at hI ⊢
  cases hf : getB k S.L with
  | none => exact hc
  | some b =>
    rw [hf] at hI
    simp only at hI ⊢
    split
    · exact hc
    · rename_i hn
      rw [if_neg hn] at hI
      cases hr : firstRun n.toNat (runs S.cells.length 0 (eraseB k S.L)) with
      | none => exact hc
      | some r =>
        rw [hr] at hI
        simp only at hI ⊢
        obtain ⟨b1, b2, b3, b4, b5⟩ := hS.get hf
        obtain ⟨hrm, hrn⟩ := firstRun_some hr
        have hbh := (getB_mem hf).2
        have hgn : getB b.h (eraseB k S.L) = none := by rw [getB_erase hS.nodup, if_pos hbh]
        have hol := ownC_length hS (getB_mem hf).1 n.toNat
        obtain ⟨_, _, i3⟩ := (hS.erase k).ins hrm (h := b.h) (n := n.toNat) (cells := S.cells) b2 b5 hgn (by omega) hrn rfl
        refine hc.laid hI (c := ⟨b.h, r.a, n.toNat⟩) (mem_ins.2 (.inl rfl)) (by simp only; omega) ?_ ?_
        · show getB h (insB _ _ _) = _
          rw [getB_ins (b := ⟨b.h, r.a, n.toNat⟩) hgn, if_neg (by simp only; omega), getB_erase hS.nodup, if_neg (fun e => hk e.symm)]
        · intro q hq; exact put_out i3 (by omega) hq

theorem Cont.storeO {S : St} {h k : Int} {xs : List Int} (hS : Inv S) (hc : Cont S h xs) (hk : k ≠ h) (i x : Int) : Cont (storeS S k i x) h xs := by
  unfold storeS
  split
  · rename_i h0
    obtain ⟨b, hb, hn, hx⟩ := hc
    refine ⟨b, hb, hn, fun j y hj => ?_⟩
    have hlt := (List.getElem?_eq_some_iff.1 hj).1
    show (S.cells.set _ _)[b.a + j]? = some y
    rw [List.getElem?_set_ne ?_]
    · exact hx j y hj
    · unfold cellR at h0 ⊢
      cases hf : getB k S.L with
      | none => rw [hf] at h0; simp at h0
      | some c =>
        rw [hf] at h0
        simp only at h0 ⊢
        split at h0
        · rename_i hi
          rw [if_pos hi]
          obtain ⟨hcm, hch⟩ := getB_mem hf
          obtain ⟨hbm, hbh⟩ := getB_mem hb
          have := laid_disj hS.laid hbm hcm (by omega)
          simp only
          omega
        · simp at h0
  · exact hc

theorem comp_low : ∀ {L : List Blk} {lo lo' q : Nat} {cells : List Int}, lo ≤ lo' → Laid lo' L → topL lo' L ≤ cells.length → q < lo → (compC cells lo L)[q]? = cells[q]? := by
  intro L
  induction L with
  | nil => intro lo lo' q cells _ _ _ _; rfl
  | cons b l ih =>
    intro lo lo' q cells hlo h ht hq
    obtain ⟨h1, h2, h3, h4⟩ := h
    have hb : b.a + b.n ≤ cells.length := Nat.le_trans (topL_ge h4) ht
    have hm : (moveC cells lo b).length = cells.length := moveC_length (by omega) hb
    show (compC (moveC cells lo b) (lo + b.n) l)[q]? = _
    rw [ih (lo' := b.a + b.n) (by omega) h4 (by rw [hm]; exact ht) (by omega)]
    unfold moveC
    split
    · rfl
    · exact lay_low (by omega) hq

theorem comp_cells : ∀ {L : List Blk} {lo lo' : Nat} {cells : List Int} {h : Int} {b : Blk}, lo ≤ lo' → Laid lo' L → topL lo' L ≤ cells.length → getB h L = some b →
    ∃ b', getB h (compL lo L) = some b' ∧ b'.h = b.h ∧ b'.n = b.n ∧ ∀ j, j < b.n → (compC cells lo L)[b'.a + j]? = cells[b.a + j]? := by
  intro L
  induction L with
  | nil => intro lo lo' cells h b _ _ _ hb; simp [getB] at hb
  | cons c l ih =>
    intro lo lo' cells h b hlo hl ht hb
    obtain ⟨h1, h2, h3, h4⟩ := hl
    have hcn : c.a + c.n ≤ cells.length := Nat.le_trans (topL_ge h4) ht
    have hm : (moveC cells lo c).length = cells.length := moveC_length (by omega) hcn
    show ∃ b', (if (c.h : Int) = h then some ⟨c.h, lo, c.n⟩ else getB h (compL (lo + c.n) l) : Option Blk) = some b' ∧ _
    unfold getB at hb
    by_cases hh : (c.h : Int) = h
    · rw [if_pos hh] at hb
      cases hb
      refine ⟨⟨c.h, lo, c.n⟩, by rw [if_pos hh], rfl, rfl, fun j hj => ?_⟩
      show (compC (moveC cells lo c) (lo + c.n) l)[lo + j]? = _
      rw [comp_low (lo' := c.a + c.n) (by omega) h4 (by rw [hm]; exact ht) (by omega)]
      unfold moveC
      split
      · rename_i e; rw [e]
      · rw [lay_in (by omega) (by simp; omega), List.getElem?_take_of_lt hj, List.getElem?_drop]
    · rw [if_neg hh] at hb
      obtain ⟨b', g1, g2, g3, g4⟩ := ih (lo := lo + c.n) (lo' := c.a + c.n) (cells := moveC cells lo c) (by omega) h4 (by rw [hm]; exact ht) hb
      refine ⟨b', by rw [if_neg hh]; exact g1, g2, g3, fun j hj => ?_⟩
      show (compC (moveC cells lo c) (lo + c.n) l)[b'.a + j]? = _
      rw [g4 j hj]
      have := (laid_mem h4 (getB_mem hb).1).1
      unfold moveC
      split
      · rfl
      · exact lay_high (by omega) (by simp; omega)

theorem Cont.compact {S : St} {h : Int} {xs : List Int} (hS : Inv S) (hc : Cont S h xs) : Cont (compactS S) h xs := by
  obtain ⟨b, hb, hn, hx⟩ := hc
  obtain ⟨b', g1, g2, g3, g4⟩ := comp_cells (Nat.le_refl 0) hS.laid hS.top hb
  refine ⟨b', g1, by omega, fun j x hj => ?_⟩
  have hlt := (List.getElem?_eq_some_iff.1 hj).1
  show (compC S.cells 0 S.L)[b'.a + j]? = _
  rw [g4 j (by omega)]
  exact hx j x hj

theorem Cont.extend {S : St} {h k : Int} {xs : List Int} (hS : Inv S) (hc : Cont S h xs) (hk : k ≠ h) (n : Int) : Cont (extendS S k n) h xs := by
  have hI := (hS.extend k n).1
  unfold extendS at hI ⊢
  cases hf : getB k S.L with
  | none => exact hc
  | some b =>
    rw [hf] at hI
    simp only at hI ⊢
    split
    · exact hc
    · rename_i hn
      rw [if_neg hn] at hI
      split
      · exact hc
      · rename_i hn2
        rw [if_neg hn2] at hI
        obtain ⟨b1, b2, b3, b4, b5⟩ := hS.get hf
        have hbh := (getB_mem hf).2
        have hle := live_erase hf
        have hgn : getB b.h (compL 0 (eraseB k S.L)) = none := compL_none (by rw [getB_erase hS.nodup, if_pos hbh])
        have hI1 := hS.erase k
        have hcl : (compactS (freeS S k)).cells.length = S.cells.length := compC_length (Nat.le_refl _) hI1.laid hI1.top
        have hol := ownC_length hS (getB_mem hf).1 n.toNat
        have hc2 : Cont (compactS (freeS S k)) h xs := (hc.free hS hk).compact hI1
        refine hc2.laid hI (c := ⟨b.h, liveL (eraseB k S.L), n.toNat⟩) (mem_ins.2 (.inl rfl)) (by simp only; omega) ?_ ?_
        · show getB h (insB _ _ _) = _
          rw [getB_ins (b := ⟨b.h, liveL (eraseB k S.L), n.toNat⟩) hgn, if_neg (by simp only; omega)]; rfl
        · intro q hq; exact put_out (by rw [hcl]; omega) (by omega) hq

/-- Whatever is done with others. -/
theorem Cont.play {S : St} {h : Int} {xs : List Int} (hS : Inv S) (hc : Cont S h xs) {a : ActV} (ha : a.k = 1 ∨ a.h ≠ h) : Cont (playS S a) h xs := by
  unfold playS
  split
  · exact hc.alloc hS _
  rename_i h1
  have ha := ha.resolve_left h1
  split
  · exact hc.free hS ha
  split
  · exact hc.resize hS ha _
  split
  · exact hc.storeO hS ha _ _
  split
  · exact hc.compact hS
  split
  · exact hc.extend hS ha _
  · exact hc

theorem Cont.len {S : St} {h : Int} {xs : List Int} (hc : Cont S h xs) : ∃ a : Nat, findR S.L h = ((a : Int), (xs.length : Int), (0 : Int)) := by
  obtain ⟨b, hb, hn, hx⟩ := hc
  exact ⟨b.a, by unfold findR; rw [hb, ← hn]⟩

theorem Cont.load {S : St} {h : Int} {xs : List Int} (hc : Cont S h xs) {i : Nat} {x : Int} (hi : xs[i]? = some x) : loadR S h i = (x, 0) := by
  obtain ⟨b, hb, hn, hx⟩ := hc
  have hlt := (List.getElem?_eq_some_iff.1 hi).1
  have he : cellR S.L h i = (((b.a + i : Nat) : Int), 0) := by
    unfold cellR; rw [hb]; simp only; rw [if_pos (by omega)]; simp
  unfold loadR
  rw [he]
  simp only [if_true]
  have := hx i x hi
  simp only [Int.toNat_natCast, List.getD_eq_getElem?_getD, this, Option.getD_some]

theorem Cont.store {S : St} {h : Int} {xs : List Int} (hS : Inv S) (hc : Cont S h xs) {i : Nat} (hi : i < xs.length) (x : Int) : (cellR S.L h i).2 = 0 ∧ Cont (storeS S h i x) h (xs.set i x) := by
  obtain ⟨b, hb, hn, hx⟩ := hc
  have he : cellR S.L h i = (((b.a + i : Nat) : Int), 0) := by
    unfold cellR; rw [hb]; simp only; rw [if_pos (by omega)]; simp
  have hbn := hS.get hb
  refine ⟨by rw [he], ?_⟩
  unfold storeS
  rw [he, if_pos rfl]
  refine ⟨b, hb, by simpa using hn, fun j y hj => ?_⟩
  show (S.cells.set _ _)[b.a + j]? = some y
  simp only [Int.toNat_natCast]
  by_cases hij : i = j
  · subst hij
    rw [List.getElem?_set_self (by omega)] at hj
    rw [List.getElem?_set_self (by omega)]
    exact hj
  · rw [List.getElem?_set_ne hij] at hj
    rw [List.getElem?_set_ne (by omega)]
    exact hx j y hj
end Go.Proofs.Ytpaopcnbgdlgnaa
