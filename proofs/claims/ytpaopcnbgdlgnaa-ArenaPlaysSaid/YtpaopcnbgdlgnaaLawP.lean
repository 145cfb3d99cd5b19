/- Plain laws of the arena, for the statements. -/
import Derived.Test.YtpaopcnbgdlgnaaOpenL
namespace Go.Proofs.Ytpaopcnbgdlgnaa
open Go.RowKit
set_option linter.unusedVariables false
set_option linter.unusedSimpArgs false

theorem maxRun_lt {n : Nat} : ∀ {l : List Run}, 1 ≤ n → (firstRun n l = none ↔ maxRun l < n) := by
  intro l
  induction l with
  | nil => intro hn; simp [firstRun, maxRun]; omega
  | cons r l ih =>
    intro hn
    unfold firstRun maxRun
    by_cases h : n ≤ r.n
    · rw [if_pos h]; simp; omega
    · rw [if_neg h, ih hn]; omega

theorem alloc_cases {S : St} (hS : Inv S) {m : Nat} (h1 : 1 ≤ m) (h2 : m ≤ 65536) :
    (maxRun (runs S.cells.length 0 S.L) < m ∧ allocR S m = (0, 8) ∧ allocS S m = S) ∨
    (m ≤ maxRun (runs S.cells.length 0 S.L) ∧ allocR S m = (((leastH S.L : Nat) : Int), 0) ∧ ∃ r, r ∈ runs S.cells.length 0 S.L ∧ firstRun m (runs S.cells.length 0 S.L) = some r ∧ m ≤ r.n ∧ r.a + m ≤ S.cells.length ∧ r.i ≤ S.L.length ∧ allocS S m = ⟨layCells S.cells r.a (List.replicate m 0), insB S.L r.i ⟨leastH S.L, r.a, m⟩⟩) := by
  have hn : ¬ ((m : Int) < 1 ∨ 65536 < (m : Int)) := by omega
  unfold allocR allocS
  rw [if_neg hn, if_neg hn]
  simp only [Int.toNat_natCast]
  cases hr : firstRun m (runs S.cells.length 0 S.L) with
  | none => exact .inl ⟨(maxRun_lt h1).1 hr, rfl, rfl⟩
  | some r =>
    refine .inr ⟨?_, rfl, r, (firstRun_some hr).1, rfl, (firstRun_some hr).2, ?_, ?_, rfl⟩
    · rcases Nat.lt_or_ge (maxRun (runs S.cells.length 0 S.L)) m with h | h
      · rw [(maxRun_lt h1).2 h] at hr; simp at hr
      · exact h
    · exact (hS.ins (firstRun_some hr).1 (cells := S.cells) (leastH_spec S.L).1 (leastH_le hS) (leastH_spec S.L).2.2.1 h1 (firstRun_some hr).2 rfl).2.2
    · exact (hS.ins (firstRun_some hr).1 (cells := S.cells) (leastH_spec S.L).1 (leastH_le hS) (leastH_spec S.L).2.2.1 h1 (firstRun_some hr).2 rfl).2.1

/-! ### every call keeps the invariant, and the size -/
theorem Inv.resize {S : St} (hS : Inv S) (h n : Int) : Inv (resizeS S h n) ∧ (resizeS S h n).cells.length = S.cells.length := by
  unfold resizeS
  cases hf : getB h S.L with
  | none => exact ⟨hS, rfl⟩
  | some b =>
    simp only
    split
    · exact ⟨hS, rfl⟩
    · rename_i hn
      cases hr : firstRun n.toNat (runs S.cells.length 0 (eraseB h S.L)) with
      | none => exact ⟨hS, rfl⟩
      | some r =>
        simp only
        obtain ⟨b1, b2, b3, b4, b5⟩ := hS.get hf
        obtain ⟨hrm, hrn⟩ := firstRun_some hr
        have hbh := (getB_mem hf).2
        have hgn : getB b.h (eraseB h S.L) = none := by rw [getB_erase hS.nodup, if_pos hbh]
        have hol := ownC_length hS (getB_mem hf).1 n.toNat
        obtain ⟨i1, i2, i3⟩ := (hS.erase h).ins hrm (h := b.h) (n := n.toNat) (cells := S.cells) b2 b5 hgn (by omega) hrn rfl
        have hpl : (putC S.cells r.a n.toNat (ownC S.cells b n.toNat)).length = S.cells.length := putC_length i3 (by omega)
        exact ⟨((hS.erase h).ins hrm (h := b.h) (n := n.toNat) b2 b5 hgn (by omega) hrn hpl).1, hpl⟩

theorem Inv.extend {S : St} (hS : Inv S) (h n : Int) : Inv (extendS S h n) ∧ (extendS S h n).cells.length = S.cells.length := by
  unfold extendS
  cases hf : getB h S.L with
  | none => exact ⟨hS, rfl⟩
  | some b =>
    simp only
    split
    · exact ⟨hS, rfl⟩
    · rename_i hn
      split
      · exact ⟨hS, rfl⟩
      · rename_i hn2
        obtain ⟨b1, b2, b3, b4, b5⟩ := hS.get hf
        have hbh := (getB_mem hf).2
        have hle := live_erase hf
        have hI1 := hS.erase h
        have hI2 := hI1.compact
        have hgn : getB b.h (compL 0 (eraseB h S.L)) = none := compL_none (by rw [getB_erase hS.nodup, if_pos hbh])
        have htop : topL 0 (compL 0 (eraseB h S.L)) = liveL (eraseB h S.L) := by rw [compL_top]; omega
        have hcl : (compactS (freeS S h)).cells.length = S.cells.length := compC_length (Nat.le_refl _) hI1.laid hI1.top
        have hol := ownC_length hS (getB_mem hf).1 n.toNat
        have hpl : (putC (compactS (freeS S h)).cells (liveL (eraseB h S.L)) n.toNat (ownC S.cells b n.toNat)).length = (compactS (freeS S h)).cells.length := putC_length (by rw [hcl]; omega) (by omega)
        have hI3 := hI2.snoc (h := b.h) (n := n.toNat) (cells := putC (compactS (freeS S h)).cells (liveL (eraseB h S.L)) n.toNat (ownC S.cells b n.toNat)) b2 b5 hgn (by omega) (by show topL 0 (compL 0 (eraseB h S.L)) + _ ≤ (compactS (freeS S h)).cells.length; rw [htop, hcl]; omega) hpl
        refine ⟨?_, hpl.trans hcl⟩
        have e1 : (compactS { S with L := eraseB h S.L }).L = compL 0 (eraseB h S.L) := rfl
        rw [e1, htop, compL_length] at hI3
        exact hI3

theorem alloc_length {S : St} (hS : Inv S) (n : Int) : (allocS S n).cells.length = S.cells.length := by
  by_cases hn : n < 1 ∨ 65536 < n
  · unfold allocS; rw [if_pos hn]
  · obtain ⟨m, rfl⟩ := Int.eq_ofNat_of_zero_le (show 0 ≤ n by omega)
    rcases alloc_cases hS (m := m) (by omega) (by omega) with ⟨_, _, h⟩ | ⟨_, _, r, _, _, _, h3, _, h⟩
    · rw [h]
    · rw [h]; exact layCells_length (by simpa using h3)

theorem store_length {S : St} (h i x : Int) : (storeS S h i x).cells.length = S.cells.length := by
  unfold storeS; split <;> simp

theorem Inv.play {S : St} (hS : Inv S) (a : ActV) : Inv (playS S a) ∧ (playS S a).cells.length = S.cells.length := by
  unfold playS
  split
  · exact ⟨hS.alloc _, alloc_length hS _⟩
  split
  · exact ⟨hS.erase _, rfl⟩
  split
  · exact hS.resize _ _
  split
  · exact ⟨hS.storeS _ _ _, store_length _ _ _⟩
  split
  · exact ⟨hS.compact, compC_length (Nat.le_refl _) hS.laid hS.top⟩
  split
  · exact hS.extend _ _
  · exact ⟨hS, rfl⟩

theorem Inv.playAll : ∀ {l : List ActV} {S : St}, Inv S → Inv (playAll S l) ∧ (Go.Proofs.Ytpaopcnbgdlgnaa.playAll S l).cells.length = S.cells.length := by
  intro l
  induction l with
  | nil => intro S h; exact ⟨h, rfl⟩
  | cons a l ih =>
    intro S h
    obtain ⟨h1, h2⟩ := h.play a
    obtain ⟨h3, h4⟩ := ih h1
    exact ⟨h3, h4.trans h2⟩

def MadeOk (w : World) (n : Int) (e : Ending) (w' : World) : Prop :=
  (e = .returned (.pointer none) ∧ Below w.heap.size w w') ∨
  ∃ p S, e = .returned (.pointer (some ⟨p, 0, none⟩)) ∧ Has (fun _ => False) w w' p S ∧ (S.cells.length : Int) = n

theorem made_ok (n : Int) (A : Option Addr) (l : List ActV) (c : Nat) (w : World) (hl : Lst w w.heap.size A l) (hlen : l.length ≤ maxLen) :
    Calls Try.prog 12 #[.int .i64 n, .slice A l.length c] w fun e w' => MadeOk w n e w' := by
  refine (made_any n A l c w hl hlen).mono fun e w' h => ?_
  rcases h with ⟨_, h1, h2⟩ | ⟨⟨h1, _⟩, p, h2, h3⟩
  · exact .inl ⟨h1, h2⟩
  · refine .inr ⟨p, _, h2, h3, ?_⟩
    have := (newS_inv (n := n.toNat) (by omega) (by omega)).playAll (l := l)
    rw [this.2]
    simp [newS]
    omega
end Go.Proofs.Ytpaopcnbgdlgnaa
