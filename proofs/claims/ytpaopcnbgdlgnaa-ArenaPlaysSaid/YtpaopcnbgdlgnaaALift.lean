/- lift: a block is taken away. -/
import Derived.Test.YtpaopcnbgdlgnaaChecked
import Derived.Test.YtpaopcnbgdlgnaaARaw
import Derived.StillTailTactics
import Derived.Lib.Hide
import Derived.Deep.RegionLaw
namespace Go.Proofs.Ytpaopcnbgdlgnaa
open Go.RowKit Go.MapKept
set_option linter.unusedVariables false
set_option linter.unusedSimpArgs false
attribute [local go_sem] obj_alloc obj_drew obj_setCell

theorem Try.infoL3 : (Try.prog.info? 3).map (fun i => (i.zero, i.size, i.bytes)) = some (some (.int .i64 0), 1, 8) := by kernel_rfl

/-- What lift leaves. -/
def LiftPost (w : World) (p cb mb : Nat) (rv : Value) (lv : Int) (cells : List Int) (M : Int → Option Value) (pre post : List Int) (h : Int) (e : Ending) (w' : World) : Prop :=
      e = .returned (.tuple #[]) ∧ ∃ rv', Raw w' p cb mb rv' lv cells (updM M h none) rv' ((pre ++ post).map iv) ∧
        Keep (AP.owns ⟨p, cb, mb, rv⟩) w w' ∧ rv'.ownBlock = rv.ownBlock

theorem zeroL (w : World) : (zeroValue 64).run Try.prog w = .ok (.agg #[.int .i64 0, .int .i64 0]) w := by kernel_rfl

theorem field_n (W : World) (x y : Int) : (Instr.field 64 (.agg #[.int .i64 x, .int .i64 y]) 1).run Try.prog W = .ok (.int .i64 y) W := by kernel_rfl
attribute [local go_sem] field_n

set_option maxHeartbeats 400000 in
theorem lift_any {w : World} {p cb mb : Nat} {lv : Int} {cells : List Int} {M : Int → Option Value} {rv : Value} {pre post : List Int} {h : Int} (R : Raw w p cb mb rv lv cells M rv ((pre ++ h :: post).map iv))
    (hpre : h ∉ pre) (hl : (pre ++ h :: post).length ≤ 65536) (at_ n : Int) (hM : M h = some (.agg #[.int .i64 at_, .int .i64 n])) (hn0 : 0 ≤ n) (hn1 : n ≤ lv) (hlv : lv ≤ 65536) :
    Calls Try.prog 42 #[.pointer (some ⟨p, 0, none⟩), .int .i64 h] w fun e w' => LiftPost w p cb mb rv (lv - n) cells M pre post h e w' := by
  obtain ⟨g, c, sp, hrv, hnl, hg, hc, hcm⟩ := row_open R.hr (by simp)
  obtain ⟨N, hN⟩ : ∃ N, N = pre.length + post.length + 1 := ⟨_, rfl⟩
  have hN' : (List.map iv (pre ++ h :: post)).length = N := by simp; omega
  rw [hN'] at hrv
  subst hrv
  have hNl : N ≤ 65536 := by simp at hl; omega
  have hNc : N ≤ c := by rw [← hc, List.length_append, hN']; omega
  have hNp : pre.length < N := by omega
  have HC := Lib.hid hc
  have HCM := Lib.hid hcm
  have HG0 := Lib.hid hg
  have HN := Lib.hid hN
  have HN' := Lib.hid hN'
  clear hnl hg hc hcm hN hN' hl
  have c1 := R.c1
  have c3 := R.c3
  have hmb := R.mb_lt
  have hp0 := R.p_lt
  obtain ⟨es, clock, hm, hrep⟩ := R.hm
  have hlook : ∀ W : World, obj? W mb = some (.map es clock) → (Instr.lookup 58 (.map (some mb)) (.int .i64 h) false).run Try.prog W = .ok (.agg #[.int .i64 at_, .int .i64 n]) W := fun W hW => by
    rw [run_lookup_int Try.underlying58 Try.underlying3 (zeroL W) hW hrep h false, hM]; rfl
  have hm' : obj? w mb = some (.map es clock) := hm
  have HP := Lib.hid hpre
  have HREP := Lib.hid hrep
  clear hM hm hrep hpre
  obtain ⟨i0, hi0, hz0, hz1, hz2⟩ := info_parts Try.infoL3
  have q1 : IntKind.i64.wrap (lv - n) = lv - n := IntWalk.i64_in _ (by omega)
  go_enter Try.func42, Try.ntmps42
  go_wp2_with fail
  refine wp_region_still_tail 14 (by kernel_rfl) (by kernel_rfl) ?_
  simp only [List.take_succ_cons, List.take_zero, List.drop_succ_cons, List.drop_zero]
  change wpStill _ _ (World.drew w) _ _ _
  repeat still_step
  refine wpStill_nil ?_
  change wpList _ _ _ _ _ (World.drew w)
  clear q1 c3
  have f3 := R.frz 3
  have c3 := R.c3
  have R1 := (R.setLive (lv - n)).drew
  have hpm : ¬ p = mb := R.p_ne_mb
  go_wp2_with (at_delete; refine wpList_delete_i rfl _ _ 58 3 rfl 64 Try.underlying58 Try.underlying3 mb M R1.hm rfl h rfl ?_)
  intro w2 hm2 hg2 hz2
  have R2 := R1.turnMap hm2 hg2
  clear c1 c3 f3 hm' hlook hm2 hz2
  have hgp : ¬ p = g := fun e => R.row_ne_p (by rw [e]; rfl)
  have hgm : ¬ g = mb := fun e => R.row_ne_mb (by rw [← e]; rfl)
  have hg2' : w2.heap[g]? = some (.cells (List.map iv (pre ++ h :: post) ++ sp).toArray 3 (0, 0)) :=
    (hg2.block g (by have := R1.row_lt (k := g) rfl; exact this) (by simpa using hgm)).trans ((Below.heap_setCell w ⟨p, 3, none⟩ (.int .i64 (lv - n)) g (fun e => hgp e.symm)).trans HG0.out)
  have HG := Lib.hid hg2'
  clear hg2' HG0
  have c2 := R2.c2
  go_wp2_with fail
  go_loop [29] (fun t => ∃ k : Nat, k ≤ pre.length ∧ t = .int .i64 k) (fun t => pre.length - (intOf t).toNat)
  case atStart => exact ⟨0, Nat.zero_le _, rfl⟩
  case round =>
    obtain ⟨k, hk, rfl⟩ := hrel
    have hkN : k < N := by omega
    by_cases hlt : k < pre.length
    · have ck : w2.cell? ⟨g, k, none⟩ = some (.int .i64 pre[k]) := by
        rw [cell_of_list HG.out, List.getElem?_append_left (by simp; omega), List.getElem?_map, List.getElem?_append_left hlt, List.getElem?_eq_getElem hlt]
        rfl
      have hne : (pre[k] == h) = false := by
        rw [beq_eq_false_iff_ne]; intro e; exact HP.out (by rw [← e]; exact List.getElem_mem _)
      go_wp2_with fail
      go_round
      case rel => exact ⟨k + 1, by omega, by go_num⟩
      case measure => simp [intOf]; omega
    · obtain rfl : k = pre.length := by omega
      have ck : w2.cell? ⟨g, pre.length, none⟩ = some (.int .i64 h) := by
        rw [cell_of_list HG.out, List.getElem?_append_left (by simp)]
        simp [iv]
      go_wp2_with fail
      have q1 : IntKind.i64.wrap ((pre.length : Int) + 1) = (pre.length : Int) + 1 := IntWalk.i64_in _ (by omega)
      have q2 : 0 ≤ (pre.length : Int) + 1 := by omega
      have q3 : ((pre.length : Int) + 1).toNat = pre.length + 1 := by omega
      have q4 : pre.length + 1 ≤ N := by omega
      have q5 : pre.length ≤ c := by omega
      have q6 : (pre.length : Int) + 1 ≤ N := by omega
      have q7 : (pre.length : Int) ≤ c := by omega
      have hm : N - (pre.length + 1) = post.length := by have := HN.out; omega
      obtain ⟨AD, hAD, HAD⟩ : ∃ AD : Addr, (if c = pre.length + 1 then some (⟨g, 0, none⟩ : Addr) else some ⟨g, pre.length + 1, none⟩) = some AD ∧ Hid (∀ j u, (List.map iv post)[j]? = some u → w2.cell? (AD.add j) = some u) := by
        refine ⟨if c = pre.length + 1 then ⟨g, 0, none⟩ else ⟨g, pre.length + 1, none⟩, by split <;> rfl, ?_⟩
        intro j u hu
        have hj : j < post.length := by have := (List.getElem?_eq_some_iff.1 hu).1; simpa using this
        rw [if_neg (by have := HN.out; omega), addr_add]
        rw [cell_of_list HG.out, List.getElem?_append_left (by simp; omega), ← hu, List.getElem?_map, List.getElem?_map, List.getElem?_append_right (by omega)]
        rw [show pre.length + 1 + j - pre.length = j + 1 from by omega, List.getElem?_cons_succ]
      have HM := Lib.hid hm
      clear hm
      have hcur : Hid ((List.map iv (pre ++ h :: post) ++ sp).take pre.length ++ List.map iv post ++ (List.map iv (pre ++ h :: post) ++ sp).drop (pre.length + (N - (pre.length + 1)))
          = List.map iv (pre ++ post) ++ (List.map iv (pre ++ h :: post) ++ sp).drop (pre.length + (N - (pre.length + 1)))) := by
        unfold Hid
        congr 1
        rw [List.map_append, List.append_assoc, List.take_left' (by simp), List.map_append]
      have after : ∀ w3 : World, w3.heap[g]? = some (.cells ((List.map iv (pre ++ h :: post) ++ sp).take pre.length ++ List.map iv post ++ (List.map iv (pre ++ h :: post) ++ sp).drop (pre.length + (N - (pre.length + 1)))).toArray 3 (0, 0)) → (World.drew w2).grownBy w3 (some g) →
          Raw w3 p cb mb (.slice (some ⟨g, 0, none⟩) N c) (lv - n) cells (updM M h none) (.slice (some ⟨g, 0, none⟩) (pre.length + (N - (pre.length + 1))) c) (List.map iv (pre ++ post)) := by
        intro w3 hg3 hgr3
        rw [hcur.out] at hg3
        refine R2.drew.turnRow ?_ hgr3
        have hs := row_shut hg3 (by have h1 := HC.out; have h2 := HN'.out; simp at h1 h2 ⊢; omega) HCM.out
        have hl4 : (List.map iv (pre ++ post)).length = pre.length + (N - (pre.length + 1)) := by rw [HM.out]; simp
        rw [hl4] at hs ⊢
        exact hs
      have AFT := Lib.hid after
      clear after
      go_region_law ((refine step_append_over rfl (.tmp 47) (.tmp 54) 43 rfl 3 i0 Try.underlying43 hi0 hz1 g pre.length c (by simp [Act.eval, Act.put]) (List.map iv (pre ++ h :: post) ++ sp) HG.out (N - (pre.length + 1)) (c - (pre.length + 1)) AD (by simp [Act.eval, Act.put]) (List.map iv post) (by rw [HM.out]; simp) HAD.out (by intro u hu; obtain ⟨x, _, rfl⟩ := List.mem_map.1 hu; rfl) (by omega) (by have := HN'.out; rw [List.length_append, this]; omega) ?_; intro w3 hg3 hgr3 hz3; have R3 := AFT.out w3 hg3 hgr3; have k3 := R3.c2; have e3 := R3.frz 2; clear hg3 hz3))
      all_goals go_wp2
      all_goals refine bodyPost_ret (results_none rfl _ _ _) rfl ?_
      all_goals
        refine ⟨rfl, .slice (some ⟨g, 0, none⟩) (pre.length + (N - (pre.length + 1))) c, R3.setFld _, ?_, rfl⟩
        refine Keep.setCell ?_ (fun _ => .inl rfl) _
        refine Keep.trans' (Keep.drew (Keep.trans' (Keep.drew (Keep.setCell (Keep.refl _ w) (fun _ => .inl rfl) _)) (Keep.of_grown (B := fun k => k = mb) hg2 (fun k e _ => by cases e; rfl)) ?_)) (Keep.of_grown (B := fun k => k = g) hgr3 (fun k e _ => by cases e; rfl)) ?_
        · intro k _ e; exact .inr (.inr (.inl e))
        · intro k _ e; subst e; exact .inr (.inr (.inr rfl))
end Go.Proofs.Ytpaopcnbgdlgnaa
