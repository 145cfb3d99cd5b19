/- ArenaGrows in plain Lean, and an arena beside rows of the caller's own. -/
import Derived.Test.YtpaopcnbgdlgnaaCont
namespace Go.Proofs.Ytpaopcnbgdlgnaa
open Go.RowKit
set_option linter.unusedVariables false
set_option linter.unusedSimpArgs false

theorem first_le {N n : Nat} {h : Int} {b : Blk} : ∀ {L : List Blk} {lo i : Nat}, Laid lo L → topL lo L ≤ N → getB h L = some b → 1 ≤ n → n ≤ b.n → ∃ r, firstRun n (runsFrom N 0 lo i (eraseB h L)) = some r ∧ r.a ≤ b.a := by
  intro L
  induction L with
  | nil => intro lo i _ _ hb; simp [getB] at hb
  | cons c l ih =>
    intro lo i hl ht hb h1 hn
    obtain ⟨g1, g2, g3, g4⟩ := hl
    unfold getB at hb
    by_cases hh : (c.h : Int) = h
    · rw [if_pos hh] at hb
      cases hb
      have he : eraseB h (b :: l) = l := by unfold eraseB; rw [if_pos hh]
      rw [he]
      have hbn : b.a + b.n ≤ N := Nat.le_trans (topL_ge g4) ht
      cases l with
      | nil =>
        unfold runsFrom
        rw [if_pos (by omega)]
        exact ⟨⟨lo, N - lo, i⟩, by unfold firstRun; rw [if_pos (by show n ≤ N - lo; omega)], g1⟩
      | cons d l' =>
        obtain ⟨d1, d2, d3, d4⟩ := g4
        unfold runsFrom
        rw [if_neg (show ¬ (d.h : Int) = 0 by omega), if_pos (by omega)]
        exact ⟨⟨lo, d.a - lo, i⟩, by show firstRun n (⟨lo, d.a - lo, i⟩ :: _) = _; unfold firstRun; rw [if_pos (by show n ≤ d.a - lo; omega)], g1⟩
    · rw [if_neg hh] at hb
      have he : eraseB h (c :: l) = c :: eraseB h l := by
        show (if (c.h : Int) = h then l else c :: eraseB h l) = _
        rw [if_neg hh]
      rw [he]
      have hba := (laid_mem g4 (getB_mem hb).1).1
      obtain ⟨r, hr, hra⟩ := ih (lo := c.a + c.n) (i := i + 1) g4 ht hb h1 hn
      unfold runsFrom
      rw [if_neg (show ¬ (c.h : Int) = 0 by omega)]
      by_cases hc : lo < c.a
      · rw [if_pos hc]
        show ∃ r, firstRun n (⟨lo, c.a - lo, i⟩ :: runsFrom N 0 (c.a + c.n) (i + 1) (eraseB h l)) = some r ∧ _
        unfold firstRun
        by_cases hx : n ≤ c.a - lo
        · exact ⟨_, by rw [if_pos hx], by show lo ≤ b.a; omega⟩
        · exact ⟨r, by rw [if_neg hx]; exact hr, hra⟩
      · rw [if_neg hc]
        exact ⟨r, hr, hra⟩

theorem resize_cases {S : St} (hS : Inv S) (h n : Int) :
    (getB h S.L = none ∧ resizeR S h n = 5 ∧ resizeS S h n = S) ∨
    ∃ b, getB h S.L = some b ∧ (((resizeR S h n = 1 ∨ resizeR S h n = 8) ∧ resizeS S h n = S) ∨
      ∃ (m : Nat) (b' : Blk), n = m ∧ 1 ≤ m ∧ m ≤ 65536 ∧ resizeR S h n = 0 ∧ getB h (resizeS S h n).L = some b' ∧ b'.n = m ∧ (m ≤ b.n → b'.a ≤ b.a) ∧
        ∀ xs, Cont S h xs → Cont (resizeS S h n) h ((List.range m).map fun i => xs.getD i 0)) := by
  cases hf : getB h S.L with
  | none => exact .inl ⟨rfl, by unfold resizeR; rw [hf], by unfold resizeS; rw [hf]⟩
  | some b =>
    refine .inr ⟨b, rfl, ?_⟩
    by_cases hn : n < 1 ∨ 65536 < n
    · exact .inl ⟨.inl (by unfold resizeR; rw [hf]; simp only; rw [if_pos hn]), by unfold resizeS; rw [hf]; simp only; rw [if_pos hn]⟩
    · obtain ⟨m, rfl⟩ := Int.eq_ofNat_of_zero_le (show 0 ≤ n by omega)
      cases hr : firstRun m (runs S.cells.length 0 (eraseB h S.L)) with
      | none =>
        exact .inl ⟨.inr (by unfold resizeR; rw [hf]; simp only [Int.toNat_natCast, hr]; rw [if_neg hn]), by unfold resizeS; rw [hf]; simp only [Int.toNat_natCast, hr]; rw [if_neg hn]⟩
      | some r =>
        have e1 : resizeR S h m = 0 := by unfold resizeR; rw [hf]; simp only [Int.toNat_natCast, hr]; rw [if_neg hn]
        have e2 : resizeS S h m = ⟨putC S.cells r.a m (ownC S.cells b m), insB (eraseB h S.L) r.i ⟨b.h, r.a, m⟩⟩ := by
          unfold resizeS; rw [hf]; simp only [Int.toNat_natCast, hr]; rw [if_neg hn]
        obtain ⟨b1, b2, b3, b4, b5⟩ := hS.get hf
        obtain ⟨hrm, hrn⟩ := firstRun_some hr
        have hbh := (getB_mem hf).2
        have hgn : getB b.h (eraseB h S.L) = none := by rw [getB_erase hS.nodup, if_pos hbh]
        have hol := ownC_length hS (getB_mem hf).1 m
        obtain ⟨_, _, i3⟩ := (hS.erase h).ins hrm (h := b.h) (n := m) (cells := S.cells) b2 b5 hgn (by omega) hrn rfl
        have i3' : r.a + m ≤ S.cells.length := i3
        have hg : getB h (resizeS S h m).L = some ⟨b.h, r.a, m⟩ := by
          rw [e2]
          show getB h (insB _ _ _) = _
          rw [getB_ins (b := ⟨b.h, r.a, m⟩) hgn, if_pos hbh]
        refine .inr ⟨m, ⟨b.h, r.a, m⟩, rfl, by omega, by omega, e1, hg, rfl, ?_, ?_⟩
        · intro hm
          obtain ⟨r', hr', hra⟩ := first_le (N := S.cells.length) (i := 0) hS.laid hS.top hf (show 1 ≤ m by omega) hm
          have : firstRun m (runs S.cells.length 0 (eraseB h S.L)) = some r' := hr'
          rw [hr] at this
          cases this
          exact hra
        · rintro xs ⟨b0, hb0, hn0, hx0⟩
          rw [hf] at hb0
          cases hb0
          refine ⟨_, hg, by simp, fun j x hj => ?_⟩
          rw [e2]
          show (putC S.cells r.a m (ownC S.cells b m))[r.a + j]? = some x
          have hjm : j < m := by
            have := (List.getElem?_eq_some_iff.1 hj).1
            simpa using this
          rw [List.getElem?_map, List.getElem?_range hjm] at hj
          simp only [Option.map_some, Option.some.injEq] at hj
          have hl : (layCells S.cells r.a (List.replicate m 0)).length = S.cells.length := layCells_length (by simpa using i3')
          unfold putC
          by_cases hjb : j < b.n
          · rw [lay_in (by rw [hl]; omega) (by omega)]
            unfold ownC
            rw [List.getElem?_take_of_lt (by omega), List.getElem?_drop]
            have hjx : xs[j]? = some (xs.getD j 0) := by
              rw [List.getD_eq_getElem?_getD, List.getElem?_eq_getElem (by omega)]; rfl
            rw [hx0 j _ hjx, hj]
          · rw [lay_high (by rw [hl]; omega) (by omega), lay_in (by omega) (by simpa using hjm)]
            rw [List.getD_eq_getElem?_getD, List.getElem?_eq_none (by omega)] at hj
            simp only [Option.getD_none] at hj
            rw [List.getElem?_replicate, if_pos hjm, hj]

/-- The contents of a block. -/
theorem cont_of {S : St} (hS : Inv S) {h : Int} {b : Blk} (hb : getB h S.L = some b) : ∃ xs, Cont S h xs ∧ xs.length = b.n := by
  have := hS.get hb
  refine ⟨(S.cells.drop b.a).take b.n, ⟨b, hb, by simp; omega, fun j x hj => ?_⟩, by simp; omega⟩
  have hlt := (List.getElem?_eq_some_iff.1 hj).1
  simp at hlt
  rw [List.getElem?_take_of_lt (by omega), List.getElem?_drop] at hj
  exact hj

/-! ### rows of the caller's own -/
/-- The arena's blocks all lie below lim. -/
def Old (lim : Nat) (w0 w : World) (p : Nat) (S : St) : Prop :=
  ∃ A : AP, A.p = p ∧ ArenaAt w A S ∧ Below w0.heap.size w0 w ∧ (∀ k, A.owns k → w0.heap.size ≤ k ∧ k < lim)

variable {X : Nat → Prop} {w0 w w' : World} {p : Nat} {S : St} {lim : Nat}

theorem Has.toOld (h : Has X w0 w p S) : Old w.heap.size w0 w p S := by
  obtain ⟨A, hp, H, h0, ho, _⟩ := h
  exact ⟨A, hp, H, h0, fun k hk => ⟨(ho k hk).1, H.owns_lt hk⟩⟩

theorem Old.below (h : Old lim w0 w p S) (hl : lim ≤ w.heap.size) (hb : Below lim w w') (h0 : Below w0.heap.size w0 w') : Old lim w0 w' p S := by
  obtain ⟨A, hp, H, _, ho⟩ := h
  exact ⟨A, hp, H.keep (B := fun k => lim ≤ k) ⟨hb.os, hb.tape, hb.output, hb.size, fun k hk hn => hb.block k (by omega)⟩ (fun k hk => by have := (ho k hk).2; omega), h0, ho⟩

theorem Old.old (h : Old lim w0 w p S) : Below w0.heap.size w0 w := by
  obtain ⟨A, _, _, h0, _⟩ := h; exact h0

theorem Old.toHas (h : Old lim w0 w p S) : Has (fun k => lim ≤ k ∧ k < w.heap.size) w0 w p S := by
  obtain ⟨A, hp, H, h0, ho⟩ := h
  exact ⟨A, hp, H, h0, fun k hk => ⟨(ho k hk).1, fun hx => by have := (ho k hk).2; omega⟩, fun k hk => hk.2⟩

theorem old_load (h : Old lim w0 w p S) (n i : Int) :
    Calls Try.prog 18 #[.pointer (some ⟨p, 0, none⟩), .int .i64 n, .int .i64 i] w fun e w' => e = .returned (.tuple #[.int .i64 (loadR S n i).1, .int .i64 (loadR S n i).2]) ∧ Below w.heap.size w w' := by
  obtain ⟨A, rfl, H, _⟩ := h
  exact load_any H n i

theorem row_below {e : TypeId} {v : Value} {n base : Nat} {xs : List Value} (h : w.ownsRow base e 1 v n xs) (hb : Below w.heap.size w w') : w'.ownsRow base e 1 v n xs :=
  ownsRow_of_block h fun k hk => hb.block k (h.lt k hk).2

theorem row_open' {e : TypeId} {v : Value} {n base : Nat} {xs : List Value} (h : w.ownsRow base e 1 v n xs) (hx : xs ≠ []) :
    ∃ g c spare, v = .slice (some ⟨g, 0, none⟩) n c ∧ n = xs.length ∧ w.heap[g]? = some (.cells (xs ++ spare).toArray e (0, 0)) ∧ base ≤ g ∧ g < w.heap.size := by
  have hlen := h.1
  rcases h.2 with ⟨rfl, rfl⟩ | ⟨g, cap, cur, rfl, hb, hg, h1, h2, h3, h4⟩
  · exact absurd (List.eq_nil_of_length_eq_zero (by simpa using hlen)) hx
  · refine ⟨g, cap, cur.toList.drop n, rfl, by simpa using hlen.symm, ?_, hb, (Array.getElem?_eq_some_iff.1 hg).1⟩
    rw [← h4]; simpa using hg
end Go.Proofs.Ytpaopcnbgdlgnaa
