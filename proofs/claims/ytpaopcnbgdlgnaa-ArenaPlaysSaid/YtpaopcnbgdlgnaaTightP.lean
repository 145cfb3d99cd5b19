/- ArenaTight in plain Lean. -/
import Derived.Test.YtpaopcnbgdlgnaaApartP
import Derived.Test.YtpaopcnbgdlgnaaLawFullP
namespace Go.Proofs.Ytpaopcnbgdlgnaa
set_option linter.unusedVariables false
set_option linter.unusedSimpArgs false

theorem compM_again : ∀ {L : List Blk} {lo : Nat}, compM lo (compL lo L) = 0 := by
  intro L
  induction L with
  | nil => intro lo; rfl
  | cons b l ih =>
    intro lo
    show (if lo = lo then 0 else 1) + compM (lo + b.n) (compL (lo + b.n) l) = 0
    rw [ih, if_pos rfl]

theorem getB_hs : ∀ {L R : List Blk}, L.map (·.h) = R.map (·.h) → ∀ k : Int, (getB k L).isSome = (getB k R).isSome := by
  intro L
  induction L with
  | nil => intro R h k; cases R with
    | nil => rfl
    | cons _ _ => simp at h
  | cons b l ih =>
    intro R h k
    cases R with
    | nil => simp at h
    | cons c r =>
      simp only [List.map_cons, List.cons.injEq] at h
      unfold getB
      rw [h.1]
      split
      · rfl
      · exact ih h.2 k

theorem hsTo_comp (L : List Blk) (lo k : Nat) : hsTo (compL lo L) k = hsTo L k := by
  unfold hsTo
  apply List.filter_congr
  intro j _
  exact getB_hs compL_hs _

/-- Which blocks stand first stays. -/
theorem comp_order : ∀ {L : List Blk} {lo lo' : Nat} {x y : Blk}, Laid lo' L → (L.map (·.h)).Nodup → x ∈ L → y ∈ L → x.h ≠ y.h →
    ∃ x' y', getB x.h (compL lo L) = some x' ∧ getB y.h (compL lo L) = some y' ∧ (x.a < y.a ↔ x'.a < y'.a) := by
  intro L
  induction L with
  | nil => intro lo lo' x y _ _ hx; simp at hx
  | cons b l ih =>
    intro lo lo' x y hl hn hx hy hne
    obtain ⟨h1, h2, h3, h4⟩ := hl
    simp only [List.map_cons, List.nodup_cons] at hn
    have hcl : Laid (lo + b.n) (compL (lo + b.n) l) := compL_laid h4
    have key : ∀ z ∈ l, ∃ z', getB z.h (compL (lo + b.n) l) = some z' ∧ lo + b.n ≤ z'.a ∧ b.h ≠ z.h := by
      intro z hz
      have hzn : b.h ≠ z.h := fun e => hn.1 (List.mem_map.2 ⟨z, hz, e.symm⟩)
      have hs : (getB z.h (compL (lo + b.n) l)).isSome = true := by
        rw [getB_hs compL_hs, getB_of_mem hn.2 hz]; rfl
      obtain ⟨z', hz'⟩ := Option.isSome_iff_exists.1 hs
      exact ⟨z', hz', (laid_mem hcl (getB_mem hz').1).1, hzn⟩
    have hd : ∀ k : Int, getB k (compL lo (b :: l)) = if (b.h : Int) = k then some ⟨b.h, lo, b.n⟩ else getB k (compL (lo + b.n) l) := fun _ => rfl
    rcases List.mem_cons.1 hx with rfl | hx2
    · rcases List.mem_cons.1 hy with rfl | hy2
      · exact absurd rfl hne
      · obtain ⟨y', hy', hya, _⟩ := key y hy2
        refine ⟨⟨x.h, lo, x.n⟩, y', by rw [hd, if_pos rfl], by rw [hd, if_neg (by omega)]; exact hy', ?_⟩
        have := (laid_mem h4 hy2).1
        simp only
        omega
    · rcases List.mem_cons.1 hy with rfl | hy2
      · obtain ⟨x', hx', hxa, _⟩ := key x hx2
        refine ⟨x', ⟨y.h, lo, y.n⟩, by rw [hd, if_neg (by omega)]; exact hx', by rw [hd, if_pos rfl], ?_⟩
        have := (laid_mem h4 hx2).1
        simp only
        omega
      · obtain ⟨x', y', e1, e2, e3⟩ := ih (lo := lo + b.n) h4 hn.2 hx2 hy2 hne
        obtain ⟨_, _, _, n1⟩ := key x hx2
        obtain ⟨_, _, _, n2⟩ := key y hy2
        exact ⟨x', y', by rw [hd, if_neg (by omega)]; exact e1, by rw [hd, if_neg (by omega)]; exact e2, e3⟩

/-- How many of a list's handles have another address behind the compaction. -/
def movedOf (L R : List Blk) (hs : List Nat) : Nat := (hs.filter fun h : Nat => decide (addrR R h ≠ addrR L h)).length

theorem addr_get {L : List Blk} {k : Int} {b : Blk} (h : getB k L = some b) : addrR L k = b.a := by unfold addrR findR; rw [h]; rfl

theorem moved_list : ∀ {L : List Blk} {lo : Nat}, (L.map (·.h)).Nodup → movedOf L (compL lo L) (L.map (·.h)) = compM lo L := by
  intro L
  induction L with
  | nil => intro lo _; rfl
  | cons b l ih =>
    intro lo hn
    simp only [List.map_cons, List.nodup_cons] at hn
    have hd : ∀ k : Int, getB k (compL lo (b :: l)) = if (b.h : Int) = k then some ⟨b.h, lo, b.n⟩ else getB k (compL (lo + b.n) l) := fun _ => rfl
    have hd2 : ∀ k : Int, getB k (b :: l) = if (b.h : Int) = k then some b else getB k l := fun _ => rfl
    have htail : (l.map (·.h)).filter (fun h : Nat => decide (addrR (compL lo (b :: l)) h ≠ addrR (b :: l) h)) = (l.map (·.h)).filter (fun h : Nat => decide (addrR (compL (lo + b.n) l) h ≠ addrR l h)) := by
      apply List.filter_congr
      intro h hh
      have hne : ¬ (b.h : Int) = h := by
        intro e
        have : b.h = h := by omega
        rw [this] at hn; exact hn.1 hh
      unfold addrR findR
      rw [hd, hd2, if_neg hne, if_neg hne]
    have i2 := ih (lo := lo + b.n) hn.2
    unfold movedOf at i2 ⊢
    have e1 : addrR (compL lo (b :: l)) b.h = lo := addr_get (b := ⟨b.h, lo, b.n⟩) (by rw [hd, if_pos rfl])
    have e2 : addrR (b :: l) b.h = b.a := addr_get (b := b) (by rw [hd2, if_pos rfl])
    show (((b.h :: l.map (·.h)).filter fun h : Nat => decide (addrR (compL lo (b :: l)) h ≠ addrR (b :: l) h))).length = (if b.a = lo then 0 else 1) + compM (lo + b.n) l
    rw [List.filter_cons, htail]
    by_cases hb : b.a = lo
    · rw [if_neg (by rw [e1, e2, hb]; simp), if_pos hb, i2]; omega
    · rw [if_pos (by rw [e1, e2]; simp; omega), if_neg hb, List.length_cons, i2]; omega

theorem moved_hs {S : St} (hS : Inv S) : movedOf S.L (compactS S).L (hsTo S.L 70000) = compM 0 S.L := by
  have h1 := ((hsTo_all hS).filter (fun h : Nat => decide (addrR (compactS S).L h ≠ addrR S.L h))).length_eq
  unfold movedOf
  rw [h1]
  exact moved_list hS.nodup

theorem moved_take {L R : List Blk} {hs : List Nat} {i h : Nat} (hi : hs[i]? = some h) : movedOf L R (hs.take (i + 1)) = movedOf L R (hs.take i) + if addrR R h ≠ addrR L h then 1 else 0 := by
  unfold movedOf
  rw [List.take_add_one, hi, List.filter_append, List.length_append]
  congr 1
  by_cases hq : addrR R h = addrR L h
  · simp [hq]
  · simp [hq]
end Go.Proofs.Ytpaopcnbgdlgnaa
