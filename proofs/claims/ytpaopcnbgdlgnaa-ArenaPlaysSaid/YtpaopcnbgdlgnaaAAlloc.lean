/- Alloc. -/
import Derived.Test.YtpaopcnbgdlgnaaAWrites
import Derived.Test.YtpaopcnbgdlgnaaAPlace
namespace Go.Proofs.Ytpaopcnbgdlgnaa
open Go.RowKit Go.MapKept
set_option linter.unusedVariables false
set_option linter.unusedSimpArgs false
attribute [local go_sem] obj_alloc obj_drew obj_setCell eql_nil_map field_n

/-- lay, of a block for which there is a place. -/
theorem lay_arena {w : World} {A : AP} {S : St} (H : ArenaAt w A S) (b : Blk) (i : Nat) (hi : i ≤ S.L.length) (hg : getB b.h S.L = none) (hI : Inv ⟨S.cells, insB S.L i b⟩) :
    Calls Try.prog 39 #[.pointer (some ⟨A.p, 0, none⟩), .int .i64 b.h, .int .i64 b.a, .int .i64 b.n, .int .i64 i] w fun e w' => e = .returned (.tuple #[]) ∧ ∃ A', ArenaAt w' A' ⟨S.cells, insB S.L i b⟩ ∧ Step w w' A A' := by
  have R := H.raw
  have hl := H.inv.live
  have hsz := H.inv.size
  have hle := H.inv.length
  have hbm := hI.mem (b := b) (mem_ins.2 (.inl rfl))
  refine (lay_any R b.h b.a b.n i (by simpa using hi) (by simp; omega) (by omega) (by omega) ?_).mono ?_
  · intro v hv
    obtain ⟨x, _, rfl⟩ := List.mem_map.1 hv
    rfl
  · rintro e w' ⟨rfl, rv', R', k', o'⟩
    refine ⟨rfl, ⟨A.p, A.cb, A.mb, rv'⟩, ?_, ⟨k', rfl, rfl, rfl, ?_⟩⟩
    · exact R'.arena (L := insB S.L i b) (by rw [live_ins]) (mapOf_ins hg).symm (by rw [map_ins]) hI
    · rintro k (rfl | rfl | rfl | hk)
      · exact .inl (.inl rfl)
      · exact .inl (.inr (.inl rfl))
      · exact .inl (.inr (.inr (.inl rfl)))
      · rcases o' with o' | ⟨k', o', hk'⟩
        · exact .inl (.inr (.inr (.inr (by rw [← hk, o']))))
        · rw [hk] at o'; cases o'; exact .inr hk'

theorem layCells_map (cells : List Int) (a : Nat) (l : List Int) : (layCells cells a l).map iv = (cells.map iv).take a ++ l.map iv ++ (cells.map iv).drop (a + l.length) := by
  simp [layCells]

def AllocPost (w : World) (A : AP) (S : St) (n : Int) (e : Ending) (w' : World) : Prop := e = .returned (.tuple #[.int .i64 (allocR S n).1, .int .i64 (allocR S n).2]) ∧ ∃ A', ArenaAt w' A' (allocS S n) ∧ Step w w' A A'

theorem zero2 (w : World) : (zeroValue 2).run Try.prog w = .ok (.int .i64 0) w := by kernel_rfl

set_option maxHeartbeats 1000000 in
theorem alloc_any {w : World} {A : AP} {S : St} (H : ArenaAt w A S) (n : Int) :
    Calls Try.prog 14 #[.pointer (some ⟨A.p, 0, none⟩), .int .i64 n] w fun e w' => AllocPost w A S n e w' := by
  have c1 := H.c1
  by_cases hn1 : n < 1
  · have hR : AllocPost w A S n (.returned (.tuple #[.int .i64 0, .int .i64 1])) w := by
      unfold AllocPost allocR allocS; rw [if_pos (.inl hn1), if_pos (.inl hn1)]; exact ⟨rfl, A, H, Step.of_below (Below.refl _ _)⟩
    have HR := Lib.hid hR
    clear hR
    go_enter Try.func14, Try.ntmps14
    go_wp2_with fail
    go_ret2
    exact HR.out
  by_cases hn2 : 65536 < n
  · have hR : AllocPost w A S n (.returned (.tuple #[.int .i64 0, .int .i64 1])) w := by
      unfold AllocPost allocR allocS; rw [if_pos (.inr hn2), if_pos (.inr hn2)]; exact ⟨rfl, A, H, Step.of_below (Below.refl _ _)⟩
    have HR := Lib.hid hR
    clear hR
    go_enter Try.func14, Try.ntmps14
    go_wp2_with fail
    go_ret2
    exact HR.out
  obtain ⟨m, rfl⟩ := Int.eq_ofNat_of_zero_le (show 0 ≤ n by omega)
  have hm1 : 1 ≤ m := by omega
  have hm2 : m ≤ 65536 := by omega
  have hcase : ∀ r, firstRun m (runs S.cells.length 0 S.L) = some r → allocR S m = ((leastH S.L : Int), 0) ∧ allocS S m = ⟨layCells S.cells r.a (List.replicate m 0), insB S.L r.i ⟨leastH S.L, r.a, m⟩⟩ := by
    intro r hr
    unfold allocR allocS
    rw [if_neg (by omega), if_neg (by omega), Int.toNat_natCast, hr]
    exact ⟨rfl, rfl⟩
  have hnone : firstRun m (runs S.cells.length 0 S.L) = none → allocR S m = (0, 8) ∧ allocS S m = S := by
    intro hr
    unfold allocR allocS
    rw [if_neg (by omega), if_neg (by omega), Int.toNat_natCast, hr]
    exact ⟨rfl, rfl⟩
  have P := fun (W : World) (hW : ArenaAt W A S) => place_any hW m 0
  unfold placeR at P
  cases hr : firstRun m (runs S.cells.length 0 S.L) with
  | none =>
    have hR : ∀ w', Below w.heap.size w w' → AllocPost w A S m (.returned (.tuple #[.int .i64 0, .int .i64 8])) w' := by
      intro w' hb
      unfold AllocPost; rw [(hnone hr).1, (hnone hr).2]; exact ⟨rfl, A, H.below hb, Step.of_below hb⟩
    rw [hr] at P
    simp only at P
    have HR := Lib.hid hR
    have HP := Lib.hid P
    clear hR hcase hnone hr P
    go_enter Try.func14, Try.ntmps14
    go_wp2_with fail
    refine (HP.out _ H).mono ?_
    rintro e w1 ⟨rfl, hb⟩
    go_wp2_with fail
    go_ret2
    exact HR.out _ hb
  | some r =>
    obtain ⟨hrm, hrn⟩ := firstRun_some hr
    have hls := leastH_spec S.L
    have hll := leastH_le H.inv
    obtain ⟨_, hri, hra⟩ := H.inv.ins hrm (h := leastH S.L) (n := m) (cells := S.cells) hls.1 hll hls.2.2.1 hm1 hrn rfl
    have hI := (H.inv.ins hrm (h := leastH S.L) (n := m) (cells := S.cells) hls.1 hll hls.2.2.1 hm1 hrn rfl).1
    have hcs := hcase r hr
    rw [hr] at P
    simp only at P
    have HP := Lib.hid P
    have HCS := Lib.hid hcs
    have HI := Lib.hid hI
    have HSP := Lib.hid hls
    have hsz := H.inv.size
    clear hI hcase hnone hr P hcs hrm hrn
    obtain ⟨lh, hlh⟩ : ∃ lh, lh = leastH S.L := ⟨_, rfl⟩
    rw [← hlh] at hls hll
    have HLH := Lib.hid hlh
    obtain ⟨hl1, hl2, hl3, hl4⟩ := hls
    have HL3 := Lib.hid hl3
    have HL4 := Lib.hid hl4
    clear hlh hl3 hl4
    go_enter Try.func14, Try.ntmps14
    go_wp2_with fail
    refine (HP.out _ H).mono ?_
    rintro e w1 ⟨rfl, hb⟩
    have H1 := H.below hb
    obtain ⟨es, clock, hm, hlook⟩ := look_ok H1
    have HLOOK := Lib.hid hlook
    have HB := Lib.hid hb
    clear hlook hb c1
    have c1 := H1.c1
    go_wp2_with fail
    go_loop [8] (fun t => ∃ k : Nat, 1 ≤ k ∧ k ≤ lh ∧ t = .int .i64 k) (fun t => lh - (intOf t).toNat)
    case atStart => exact ⟨1, Nat.le_refl _, hl1, rfl⟩
    case round =>
      obtain ⟨k, hk1, hk2, rfl⟩ := hrel
      by_cases hlt : k < lh
      · have hs := HL4.out k hk1 hlt
        obtain ⟨b, hb⟩ := Option.isSome_iff_exists.1 hs
        have hbn := (H1.inv.get hb).1
        have hL := fun W hW => HLOOK.out W k false hW
        simp only [mapOf, hb, Option.map_some, Option.getD_some, blkV] at hL
        simp at hL
        clear hs hb
        go_wp2_with fail
        go_round
        case rel => exact ⟨k + 1, by omega, by omega, by go_num⟩
        case measure => simp [intOf]; omega
      · obtain rfl : k = lh := by omega
        have hL := fun W hW => HLOOK.out W k false hW
        simp only [mapOf, HL3.out, Option.map_none, Option.getD_none] at hL
        simp at hL
        go_wp2_with fail
        refine (lay_arena H1 ⟨k, r.a, m⟩ r.i hri HL3.out (by rw [HLH.out]; exact HI.out)).mono ?_
        rintro e w2 ⟨rfl, A', H2, S2⟩
        have d0 := H2.c0
        have hp2 : A'.p = A.p := S2.p
        rw [hp2] at d0
        simp only at d0
        have q1 : r.a + m ≤ S.cells.length := hra
        have q2 : r.a ≤ r.a + m := by omega
        go_wp2_with (with_reducible refine wpList_clear_row rfl (.tmp 56) 38 rfl ?_)
        unfold ClearNext
        refine ⟨2, 2, .int .i64 0, _, A'.cb, r.a, _, _, S.cells.map iv, Try.underlying38, zero2 _, rfl, rfl, rfl, ?_, ?_, H2.hc, ?_, ?_⟩
        · rfl
        · omega
        · simp; omega
        intro w3 hg3 hgr3 hz3
        have hmm : r.a + m - r.a = m := by omega
        simp only [hmm] at hg3
        have hl3 : (layCells S.cells r.a (List.replicate m 0)).length = S.cells.length := layCells_length (by simpa using hra)
        have H3 := H2.setCells (cells := layCells S.cells r.a (List.replicate m 0)) hl3 (by rw [layCells_map]; simpa [iv] using hg3) (fun q hq hne => hgr3.block q hq (by simpa using hne))
        have K3 : Step w2 w3 A' A' := ⟨Keep.of_grown hgr3 (fun q e _ => by cases e; exact .inr (.inl rfl)), rfl, rfl, rfl, fun q hq => .inl hq⟩
        have HF := Lib.hid (show AllocPost w A S m (.returned (.tuple #[.int .i64 k, .int .i64 0])) w3 from by
          unfold AllocPost; rw [HCS.out.1, HCS.out.2, ← HLH.out]
          exact ⟨rfl, A', H3, ((Step.of_below HB.out).trans S2).trans K3⟩)
        clear hg3 H3 K3 hmm hl3 hz3
        go_wp2_with fail
        go_ret2
        exact HF.out
end Go.Proofs.Ytpaopcnbgdlgnaa
