/- lay: a block is laid somewhere. -/
import Derived.Test.YtpaopcnbgdlgnaaChecked
import Derived.Test.YtpaopcnbgdlgnaaARaw
import Derived.StillTailTactics
import Derived.Lib.Hide
namespace Go.Proofs.Ytpaopcnbgdlgnaa
open Go.RowKit Go.MapKept
set_option linter.unusedVariables false
set_option linter.unusedSimpArgs false
attribute [local go_sem] obj_alloc obj_drew obj_setCell

theorem Try.info3 : (Try.prog.info? 3).map (fun i => (i.zero, i.size, i.bytes)) = some (some (.int .i64 0), 1, 8) := by kernel_rfl

theorem Try.size3 : (Try.prog.info? 3).map (·.size) = some 1 := by kernel_rfl

theorem ins_splice (row sp : List Value) (z : Value) (i : Nat) (hi : i ≤ row.length) :
    splice (row ++ [z] ++ sp) (i + 1) (row.drop i) = ((row ++ [z]).take (i + 1) ++ row.drop i) ++ sp := by
  unfold splice
  have h1 : i + 1 + (row.drop i).length = (row ++ [z]).length := by simp; omega
  rw [h1, List.drop_left, List.take_append_of_le_length (by simp; omega)]
  simp

theorem ins_set (row : List Value) (z x : Value) (i : Nat) (hi : i ≤ row.length) :
    ((row ++ [z]).take (i + 1) ++ row.drop i).set i x = row.take i ++ [x] ++ row.drop i := by
  have hl : ((row ++ [z]).take (i + 1)).length = i + 1 := by simp; omega
  rw [List.set_append_left _ _ (by omega)]
  congr 1
  apply List.ext_getElem?
  intro j
  rw [List.getElem?_set]
  by_cases hj : i = j
  · subst hj
    rw [if_pos rfl, if_pos (by omega), List.getElem?_append_right (by simp; omega)]
    simp [Nat.min_eq_left hi]
  · rw [if_neg hj]
    by_cases hlt : j < i
    · rw [List.getElem?_append_left (by simp; omega), List.getElem?_take_of_lt (by omega), List.getElem?_append_left (by omega), List.getElem?_take_of_lt hlt]
    · rw [List.getElem?_eq_none (by omega), List.getElem?_eq_none (by simp [Nat.min_eq_left hi]; omega)]

/-- What lay leaves. -/
def LayPost (w : World) (p cb mb : Nat) (rv : Value) (lv : Nat) (cells : List Int) (M : Int → Option Value) (row : List Value) (h at_ : Int) (n i : Nat) (e : Ending) (w' : World) : Prop :=
      e = .returned (.tuple #[]) ∧ ∃ rv', Raw w' p cb mb rv' ((lv + n : Nat) : Int) cells (updM M h (some (.agg #[.int .i64 at_, .int .i64 n]))) rv' (row.take i ++ [iv h] ++ row.drop i) ∧
        Keep (AP.owns ⟨p, cb, mb, rv⟩) w w' ∧ (rv'.ownBlock = rv.ownBlock ∨ ∃ k, rv'.ownBlock = some k ∧ w.heap.size ≤ k)

set_option maxHeartbeats 400000 in
theorem lay_any {w : World} {p cb mb : Nat} {lv : Nat} {cells : List Int} {M : Int → Option Value} {rv : Value} {row : List Value} (R : Raw w p cb mb rv lv cells M rv row)
    (h at_ : Int) (n i : Nat) (hi : i ≤ row.length) (hl : row.length ≤ 65536) (hlv : lv ≤ 65536) (hn : n ≤ 65536) (hone : ∀ v ∈ row, v.oneCell' = true) :
    Calls Try.prog 39 #[.pointer (some ⟨p, 0, none⟩), .int .i64 h, .int .i64 at_, .int .i64 n, .int .i64 i] w fun e w' => LayPost w p cb mb rv lv cells M row h at_ n i e w' := by
  have HONE := Lib.hid hone
  clear hone
  have c1 := R.c1
  obtain ⟨i0, hi0, hz0, hz1, hz2⟩ := info_parts Try.info3
  go_enter Try.func39, Try.ntmps39
  go_wp2_with (at_mapUpdate; refine wpList_mapUpdate_i rfl _ _ _ 58 rfl 3 64 Try.underlying58 Try.underlying3 mb M R.hm rfl h rfl _ rfl ?_)
  intro w1 hm1 hg1 hz1
  have R1 := R.turnMap hm1 hg1
  clear c1 hm1 hz1
  have c2 := R1.c2
  have hp1 := R1.p_lt
  go_wp2_with (at_builtin; refine wpList_append_row rfl _ _ 43 rfl 3 i0 (.int .i64 0) 1 8 Try.underlying43 hi0 hz0 hz1 hz2 rfl (by decide) _ _ _ rfl (R1.alloc _).hr _ _ _ [.int .i64 0] rfl rfl ?_ ?_ ?_ ?_ ?_)
  · exact cell_new1 _ _ _
  · intro u hu; simp at hu; subst hu; rfl
  · unfold maxLen; omega
  · omega
  intro rv2 w2 hown2 hg2 hb2
  have R2 := (R1.alloc _).turnRow (row' := row ++ [.int .i64 0]) (by simpa using hown2) hg2
  obtain ⟨g, c, sp, rfl, hnl, hg, hc, hcm⟩ := row_open hown2 (by simp)
  clear hnl
  have hlc : row.length + 1 ≤ c := by rw [← hc]; simp
  have HC := Lib.hid hc
  have HG2 := Lib.hid hg
  have HCM := Lib.hid hcm
  have HB := Lib.hid hb2
  clear c2 hp1 hown2 hc hg hcm hb2
  have c2 := R2.c2
  have f2 := R2.frz 2
  go_wp2_with fail
  have R3 := R2.setFld (.slice (some ⟨g, 0, none⟩) (row.length + 1) c)
  have hgp : g ≠ p := fun e => R2.row_ne_p (by rw [← e]; rfl)
  have hg3 := (Below.heap_setCell w2 ⟨p, 2, none⟩ (.slice (some ⟨g, 0, none⟩) (row.length + 1) c) g hgp).trans HG2.out
  have k3 := (Keep.refl (fun k => k = p) w2).setCell (p := ⟨p, 2, none⟩) (fun _ => rfl) (.slice (some ⟨g, 0, none⟩) (row.length + 1) c)
  generalize w2.setCell ⟨p, 2, none⟩ (.slice (some ⟨g, 0, none⟩) (row.length + 1) c) = w3 at R3 hg3 k3 ⊢
  clear c2 f2
  have c2 := R3.c2
  have HG := Lib.hid hg3
  clear hg3
  have q1 : IntKind.i64.wrap ((i : Int) + 1) = (i : Int) + 1 := IntWalk.i64_in _ (by omega)
  have q2 : 0 ≤ (i : Int) + 1 := by omega
  have q3 : ((i : Int) + 1).toNat = i + 1 := by omega
  have q4 : (i : Int) ≤ (row.length : Int) + 1 := by omega
  have q5 : i ≤ row.length + 1 := by omega
  refine wp_region_still_tail 13 (by kernel_rfl) (by kernel_rfl) ?_
  simp only [List.take_succ_cons, List.take_zero, List.drop_succ_cons, List.drop_zero]
  change wpStill _ _ (World.drew w3) _ _ _
  repeat still_step
  refine wpStill_nil ?_
  change wpList _ _ _ _ _ (World.drew w3)
  clear q1 q2 q3 q4 q5
  refine wpList_copy_row rfl (.tmp 33) (.tmp 39) 43 43 rfl 3 Try.underlying43 Try.size3 _ _ _ _ _ _ rfl rfl g (i + 1) (row ++ [Value.int .i64 0] ++ sp) 3 HG.out (row.drop i) ?_ ?_ ?_ ?_ ?_
  · show (row.drop i).length = min (row.length + 1 - i) (row.length - i)
    simp
    omega
  · intro h0
    simp only [List.length_drop] at h0
    refine ⟨by rw [if_neg (by omega)], ⟨g, i, none⟩, by rw [if_neg (by omega)], ?_⟩
    intro j v hv
    rw [addr_add]
    change w3.cell? ⟨g, i + j, none⟩ = some v
    rw [cell_of_list HG.out, List.append_assoc, List.getElem?_append_left]
    · rw [List.getElem?_drop] at hv; exact hv
    · have := (List.getElem?_eq_some_iff.1 hv).1; simp at this; omega
  · simp; omega
  · intro v hv; exact HONE.out v (List.mem_of_mem_drop hv)
  intro w4 hg4 hgr4 hz4
  generalize (if c = i + 1 then some (⟨g, 0, none⟩ : Addr) else some ⟨g, i + 1, none⟩) = A33
  generalize (if c = i then some (⟨g, 0, none⟩ : Addr) else some ⟨g, i, none⟩) = A39
  rw [ins_splice _ _ _ _ hi] at hg4
  have R4 := R3.drew.turnRow (rv' := .slice (some ⟨g, 0, none⟩) (row.length + 1) c) (row' := (row ++ [Value.int .i64 0]).take (i + 1) ++ row.drop i) (by
    have hs := row_shut hg4 (by have h := HC.out; simp at h ⊢; omega) HCM.out
    have hl4 : ((row ++ [Value.int .i64 0]).take (i + 1) ++ row.drop i).length = row.length + 1 := by simp; omega
    rw [hl4] at hs ⊢
    exact hs) hgr4
  have k4 : Keep (fun k => k = p ∨ k = g) w2 w4 := ((k3.mono fun _ _ e => .inl e).drew).trans' (Keep.of_grown (B := fun k => k = g) (w := w3.drew) hgr4 (fun k e _ => by cases e; rfl)) (fun k _ e => .inr e)
  clear c2 R3 k3 hgr4 hz4 HG HG2
  have c2 := R4.c2
  have c3 := R4.c3
  have f3 := R4.frz 3
  have hgp' : ¬ p = g := fun e => hgp e.symm
  have ci : ∃ x, w4.cell? ⟨g, i, none⟩ = some x := by
    rw [cell_of_list hg4]
    exact ⟨_, List.getElem?_eq_getElem (by simp; omega)⟩
  obtain ⟨x, ci⟩ := ci
  have q6 : i < row.length + 1 := by omega
  have q7 : (i : Int) < (row.length : Int) + 1 := by omega
  have fi := free_of_list hg4 i
  have HG4 := Lib.hid hg4
  clear hg4
  go_wp2_with fail
  have hg1z := hg1.size
  have hgo : g < w.heap.size → AP.owns ⟨p, cb, mb, rv⟩ g := by
    rcases HB.out with e | e
    · exact fun _ => .inr (.inr (.inr e.symm))
    · simp [Value.ownBlock] at e; omega
  have R5 := R4.turnRow (w' := w4.setCell ⟨g, i, none⟩ (.int .i64 h)) (rv' := .slice (some ⟨g, 0, none⟩) (row.length + 1) c) (row' := row.take i ++ [iv h] ++ row.drop i) (by
    have hs := row_shut (w := w4.setCell ⟨g, i, none⟩ (.int .i64 h)) (xs := row.take i ++ [iv h] ++ row.drop i) (spare := sp) (c := c) (by
      rw [← ins_set row (.int .i64 0) (iv h) i hi, ← List.set_append_left _ _ (by simp; omega)]
      exact setCell_list HG4.out _) (by have h := HC.out; simp at h ⊢; omega) HCM.out
    have hl4 : (row.take i ++ [iv h] ++ row.drop i).length = row.length + 1 := by simp; omega
    rw [hl4] at hs ⊢
    exact hs) (grownBy_setCell w4 g i _)
  have R6 := R5.setLive ((lv : Int) + n)
  go_end0
  refine ⟨rfl, .slice (some ⟨g, 0, none⟩) (row.length + 1) c, ?_, ?_, ?_⟩
  · exact R6
  · refine Keep.setCell (Keep.setCell ?_ (fun e => hgo e) _) (fun _ => .inl rfl) _
    refine Keep.trans' (Keep.trans' (Keep.alloc (Keep.of_grown hg1 ?_) _) (Keep.of_grown (B := fun k => rv.ownBlock = some k) hg2 (fun k e _ => e)) ?_) k4 ?_
    · intro k e _; cases e; exact .inr (.inr (.inl rfl))
    · intro k _ e; exact .inr (.inr (.inr e))
    · rintro k hk (rfl | rfl)
      · exact .inl rfl
      · exact hgo hk
  · rcases HB.out with e | e
    · exact .inl e
    · exact .inr ⟨_, e, by omega⟩
end Go.Proofs.Ytpaopcnbgdlgnaa
