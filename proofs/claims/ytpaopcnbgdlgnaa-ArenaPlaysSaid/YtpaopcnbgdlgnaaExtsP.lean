/- ArenaExtends in plain Lean. -/
import Derived.Test.YtpaopcnbgdlgnaaTightP
namespace Go.Proofs.Ytpaopcnbgdlgnaa
set_option linter.unusedVariables false
set_option linter.unusedSimpArgs false

theorem hsTo_get {L R : List Blk} {k : Nat} (h : ∀ j : Int, (getB j L).isSome = (getB j R).isSome) : hsTo L k = hsTo R k := by
  unfold hsTo
  apply List.filter_congr
  intro j _
  exact h j

theorem extend_none {S : St} {h : Int} (n : Int) (hf : getB h S.L = none) : extendR S h n = 5 ∧ extendS S h n = S :=
  ⟨by unfold extendR; rw [hf], by unfold extendS; rw [hf]⟩

theorem extend_arg {S : St} {h n : Int} {b : Blk} (hf : getB h S.L = some b) (hn : n < 1 ∨ 65536 < n) : extendR S h n = 1 ∧ extendS S h n = S :=
  ⟨by unfold extendR; rw [hf]; simp only; rw [if_pos hn], by unfold extendS; rw [hf]; simp only; rw [if_pos hn]⟩

theorem extend_full {S : St} {h : Int} {m : Nat} {b : Blk} (hf : getB h S.L = some b) (h1 : 1 ≤ m) (h6 : m ≤ 65536) (hl : S.cells.length < liveL S.L - b.n + m) (hb : b.n ≤ liveL S.L) : extendR S h m = 8 ∧ extendS S h m = S :=
  ⟨by unfold extendR; rw [hf]; simp only; rw [if_neg (by omega), if_pos (by omega)], by unfold extendS; rw [hf]; simp only; rw [if_neg (by omega), if_pos (by omega)]⟩

theorem extend_fits {S : St} (hS : Inv S) {h : Int} {m : Nat} {b : Blk} (hf : getB h S.L = some b) (h1 : 1 ≤ m) (h6 : m ≤ 65536) (hl : liveL S.L - b.n + m ≤ S.cells.length) :
    extendR S h m = 0 ∧ liveL (extendS S h m).L = liveL S.L - b.n + m ∧ topL 0 (extendS S h m).L = liveL S.L - b.n + m ∧ addrR (extendS S h m).L h = (liveL S.L - b.n : Nat) ∧
    hsTo (extendS S h m).L 70000 = hsTo S.L 70000 ∧ (∀ xs, Cont S h xs → Cont (extendS S h m) h ((List.range m).map fun i => xs.getD i 0)) := by
  have hbl := live_erase hf
  obtain ⟨b1, b2, b3, b4, b5⟩ := hS.get hf
  have hbh := (getB_mem hf).2
  have e2 : extendS S h m = ⟨putC (compactS (freeS S h)).cells (liveL (eraseB h S.L)) m (ownC S.cells b m), insB (compL 0 (eraseB h S.L)) (eraseB h S.L).length ⟨b.h, liveL (eraseB h S.L), m⟩⟩ := by
    unfold extendS; rw [hf]; simp only; rw [if_neg (by omega), if_neg (by omega)]; simp only [Int.toNat_natCast]
  have hgn0 : getB b.h (eraseB h S.L) = none := by rw [getB_erase hS.nodup, if_pos hbh]
  have hgn : getB b.h (compL 0 (eraseB h S.L)) = none := compL_none hgn0
  have hins : ∀ j : Int, getB j (extendS S h m).L = if (b.h : Int) = j then some ⟨b.h, liveL (eraseB h S.L), m⟩ else getB j (compL 0 (eraseB h S.L)) := by
    intro j
    rw [e2]
    exact getB_ins (b := ⟨b.h, liveL (eraseB h S.L), m⟩) hgn
  have hg : getB h (extendS S h m).L = some ⟨b.h, liveL (eraseB h S.L), m⟩ := by rw [hins, if_pos hbh]
  refine ⟨by unfold extendR; rw [hf]; simp only; rw [if_neg (by omega), if_neg (by omega)], ?_, ?_, ?_, ?_, ?_⟩
  · rw [e2]
    show liveL (insB _ _ _) = _
    rw [live_ins, compL_live]
    simp only
    omega
  · rw [e2]
    show topL 0 (insB _ _ _) = _
    have hlen : (compL 0 (eraseB h S.L)).length = (eraseB h S.L).length := compL_length
    have hi : insB (compL 0 (eraseB h S.L)) (eraseB h S.L).length ⟨b.h, liveL (eraseB h S.L), m⟩ = compL 0 (eraseB h S.L) ++ [⟨b.h, liveL (eraseB h S.L), m⟩] := by
      unfold insB; rw [← hlen, List.take_length, List.drop_length]
    rw [hi, topL_app]
    show liveL (eraseB h S.L) + m = _
    omega
  · unfold addrR findR
    rw [hg]
    show ((liveL (eraseB h S.L) : Nat) : Int) = _
    omega
  · apply hsTo_get
    intro j
    rw [hins]
    by_cases hj : (b.h : Int) = j
    · rw [if_pos hj, ← hj, hbh, hf]; rfl
    · rw [if_neg hj, getB_hs (compL_hs (L := eraseB h S.L)) j, getB_erase hS.nodup, if_neg (by omega)]
  · rintro xs ⟨b0, hb0, hn0, hx0⟩
    rw [hf] at hb0
    cases hb0
    refine ⟨_, hg, by simp, fun j x hj => ?_⟩
    have hI1 := hS.erase h
    have hcl : (compactS (freeS S h)).cells.length = S.cells.length := compC_length (Nat.le_refl _) hI1.laid hI1.top
    have hol := ownC_length hS (getB_mem hf).1 m
    rw [e2]
    obtain ⟨C, hC⟩ : ∃ C, C = (compactS (freeS S h)).cells := ⟨_, rfl⟩
    rw [← hC] at hcl ⊢
    obtain ⟨lv, hlv⟩ : ∃ lv, lv = liveL (eraseB h S.L) := ⟨_, rfl⟩
    rw [← hlv] at hbl ⊢
    show (putC C lv m (ownC S.cells b m))[lv + j]? = some x
    have hjm : j < m := by
      have := (List.getElem?_eq_some_iff.1 hj).1
      simpa using this
    rw [List.getElem?_map, List.getElem?_range hjm] at hj
    simp only [Option.map_some, Option.some.injEq] at hj
    have hll : (layCells C lv (List.replicate m 0)).length = C.length := layCells_length (by simp; omega)
    unfold putC
    by_cases hjb : j < b.n
    · rw [lay_in (by rw [hll]; omega) (by omega)]
      unfold ownC
      rw [List.getElem?_take_of_lt (by omega), List.getElem?_drop]
      have hjx : xs[j]? = some (xs.getD j 0) := by
        rw [List.getD_eq_getElem?_getD, List.getElem?_eq_getElem (by omega)]; rfl
      rw [hx0 j _ hjx, hj]
    · rw [lay_high (by rw [hll]; omega) (by omega), lay_in (by omega) (by simpa using hjm)]
      rw [List.getD_eq_getElem?_getD, List.getElem?_eq_none (by omega)] at hj
      simp only [Option.getD_none] at hj
      rw [List.getElem?_replicate, if_pos hjm, hj]
end Go.Proofs.Ytpaopcnbgdlgnaa
