/- ArenaFull: a block is refused just if nowhere so many cells are free together: the law returns true for every size, list of calls and length. -/
import Derived.Test.YtpaopcnbgdlgnaaRows
import Derived.Test.YtpaopcnbgdlgnaaLawFullP
namespace Go.Proofs.Ytpaopcnbgdlgnaa.arenaFull
open Go.ChangeShapes Go.WideShapes Go.ChangeAt Go.RowKit
set_option linter.unusedVariables false
set_option linter.unusedSimpArgs false

theorem own : ownKnob Try.prog.godebug = none := by kernel_rfl

theorem Try.laidOut : laidOutB Try.prog = true := by kernel_rfl

set_option maxHeartbeats 1000000 in
theorem walk (a0 : Int) (A : Option Addr) (l : List ActV) (c : Nat) (a2 : Int) (w : World) (hl : Lst w w.heap.size A l) (hlen : l.length ≤ maxLen) :
    Calls Try.prog 5 #[.int .i64 a0, .slice A l.length c, .int .i64 a2] w fun e w' => e = .returned (.bool true) ∧ Below w.heap.size w w' := by
  have M := Lib.hid (made_ok a0 A l c w hl hlen)
  clear hl hlen
  by_cases hn : a2 < 1 ∨ 65536 < a2
  · rcases hn with hn | hn
    all_goals
      go_enter Try.func5, Try.ntmps5
      go_wp2_with fail
      refine M.out.mono ?_
      clear M
      rintro e w1 (⟨rfl, hb⟩ | ⟨p, S, rfl, H, hS⟩)
      · clear hn
        go_wp2_with fail
        refine (alive_any _).mono ?_
        rintro e wa ⟨rfl, hba⟩
        have HF := Lib.hid ((hb).trans (hba.mono (hb).size))
        go_wp2_with fail
        go_ret
        exact ⟨rfl, HF.out⟩
      · have HS := Lib.hid hS
        clear hS
        go_wp2_with fail
        refine (alive_any _).mono ?_
        rintro e wa ⟨rfl, hba⟩
        have HF := Lib.hid ((H.old).trans (hba.mono (H.old).size))
        go_wp2_with fail
        go_ret
        exact ⟨rfl, HF.out⟩
  obtain ⟨m, rfl⟩ := Int.eq_ofNat_of_zero_le (show 0 ≤ a2 by omega)
  have hm1 : 1 ≤ m := by omega
  have hm2 : m ≤ 65536 := by omega
  clear hn
  go_enter Try.func5, Try.ntmps5
  go_wp2_with fail
  refine M.out.mono ?_
  clear M
  rintro e w1 (⟨rfl, hb⟩ | ⟨p, S, rfl, H, hS⟩)
  · go_wp2_with fail
    refine (alive_any _).mono ?_
    rintro e wa ⟨rfl, hba⟩
    have HF := Lib.hid ((hb).trans (hba.mono (hb).size))
    go_wp2_with fail
    go_ret
    exact ⟨rfl, HF.out⟩
  have G := has_gap H
  have hsz := H.inv.size
  have hlv := H.inv.live
  have AC := alloc_cases H.inv hm1 hm2
  obtain ⟨g, hg⟩ : ∃ g, g = maxRun (runs S.cells.length 0 S.L) := ⟨_, rfl⟩
  obtain ⟨lv, hv⟩ : ∃ lv, lv = liveL S.L := ⟨_, rfl⟩
  rw [← hg] at G AC
  rw [← hv] at hlv
  have HV := Lib.hid hv
  have HS := Lib.hid hS
  clear hg hv hS
  have q1 : IntKind.i64.wrap ((lv : Int) + m) = (lv : Int) + m := IntWalk.i64_in _ (by omega)
  rcases AC with ⟨hgm, hr, hs⟩ | ⟨hgm, hr, r, hr1, hr2, hr3, hr4, hr5, hs⟩
  · have HR := Lib.hid hr
    have HSS := Lib.hid hs
    clear hr hs
    have GC := Lib.hid (gap_comp H.inv)
    have CL : (compactS S).cells.length = S.cells.length := compC_length (Nat.le_refl _) H.inv.laid H.inv.top
    have HC := Lib.hid (show ((m ≤ S.cells.length - lv) ∧ allocR (compactS S) m = (((leastH (compactS S).L : Nat) : Int), 0)) ∨ (S.cells.length - lv < m ∧ allocR (compactS S) m = (0, 8)) from by
      rcases alloc_cases H.inv.compact hm1 hm2 with ⟨g1, g2, _⟩ | ⟨g1, g2, _⟩
      · rw [GC.out, ← HV.out] at g1; exact .inr ⟨g1, g2⟩
      · rw [GC.out, ← HV.out] at g1; exact .inl ⟨g1, g2⟩)
    clear GC CL
    have q2 : ¬ (m : Int) ≤ g := by omega
    go_wp2_with fail
    refine G.mono ?_
    clear G
    rintro e w2 ⟨rfl, H2, -⟩
    go_wp2_with fail
    have L2 := has_live H2
    rw [← HV.out] at L2
    refine L2.mono ?_
    clear L2
    rintro e w3 ⟨rfl, rfl⟩
    go_wp2_with fail
    have C2 := has_alloc H2 m
    rw [HR.out, HSS.out] at C2
    simp only at C2
    refine C2.mono ?_
    clear C2 H H2
    rintro e w3 ⟨rfl, H3, -⟩
    go_wp2_with fail
    refine (no_any 8 _).mono ?_
    rintro e wn ⟨rfl, rfl⟩
    go_wp2_with fail
    refine (no_any 8 _).mono ?_
    rintro e wn ⟨rfl, rfl⟩
    go_wp2_with fail
    have L2 := has_live H3
    rw [← HV.out] at L2
    refine L2.mono ?_
    clear L2
    rintro e w4 ⟨rfl, rfl⟩
    go_wp2_with fail
    refine (has_compact H3).mono ?_
    rintro e w4 ⟨rfl, H4, -⟩
    go_wp2_with fail
    have C3 := has_alloc H4 m
    have hx : IntKind.i64.wrap (a0 - lv) = a0 - lv := IntWalk.i64_in _ (by have := HS.out; omega)
    rcases HC.out with ⟨h1, h2⟩ | ⟨h1, h2⟩
    · have h3 : (m : Int) ≤ a0 - lv := by have := HS.out; omega
      rw [h2] at C3
      simp only at C3
      refine C3.mono ?_
      clear C3 h2
      rintro e w5 ⟨rfl, H5, -⟩
      go_wp2_with fail
      refine (no_any 0 _).mono ?_
      rintro e wn ⟨rfl, rfl⟩
      go_wp2_with fail
      refine (no_any 0 _).mono ?_
      rintro e wn ⟨rfl, rfl⟩
      go_wp2_with fail
      refine (alive_any _).mono ?_
      rintro e wa ⟨rfl, hba⟩
      have HF := Lib.hid ((H5.old).trans (hba.mono (H5.old).size))
      go_wp2_with fail
      go_ret
      exact ⟨rfl, HF.out⟩
    · have h3 : ¬ (m : Int) ≤ a0 - lv := by have := HS.out; omega
      rw [h2] at C3
      simp only at C3
      refine C3.mono ?_
      clear C3 h2
      rintro e w5 ⟨rfl, H5, -⟩
      go_wp2_with fail
      refine (no_any 8 _).mono ?_
      rintro e wn ⟨rfl, rfl⟩
      go_wp2_with fail
      refine (no_any 8 _).mono ?_
      rintro e wn ⟨rfl, rfl⟩
      go_wp2_with fail
      refine (no_any 8 _).mono ?_
      rintro e wn ⟨rfl, rfl⟩
      go_wp2_with fail
      refine (alive_any _).mono ?_
      rintro e wa ⟨rfl, hba⟩
      have HF := Lib.hid ((H5.old).trans (hba.mono (H5.old).size))
      go_wp2_with fail
      go_ret
      exact ⟨by simp [h3], HF.out⟩
  · have hgn : getB (leastH S.L) S.L = none := (leastH_spec S.L).2.2.1
    have hL : liveL (allocS S m).L = lv + m := by rw [hs]; show liveL (insB _ _ _) = _; rw [live_ins, HV.out]
    have hF : findR (allocS S m).L (leastH S.L) = ((r.a : Int), (m : Int), (0 : Int)) := by rw [hs]; exact find_ins hgn
    obtain ⟨k, hk⟩ : ∃ k, k = leastH S.L := ⟨_, rfl⟩
    rw [← hk] at hr hF
    have HR := Lib.hid hr
    have HL := Lib.hid hL
    have HF := Lib.hid hF
    clear hr hr1 hr2 hr3 hr4 hr5 hs hgn hL hF hk
    have q2 : (m : Int) ≤ g := by omega
    go_wp2_with fail
    refine G.mono ?_
    clear G
    rintro e w2 ⟨rfl, H2, -⟩
    go_wp2_with fail
    have L2 := has_live H2
    rw [← HV.out] at L2
    refine L2.mono ?_
    clear L2
    rintro e w3 ⟨rfl, rfl⟩
    go_wp2_with fail
    have C2 := has_alloc H2 m
    rw [HR.out] at C2
    simp only at C2
    refine C2.mono ?_
    clear C2 H H2
    rintro e w3 ⟨rfl, H3, -⟩
    go_wp2_with fail
    refine (no_any 0 _).mono ?_
    rintro e wn ⟨rfl, rfl⟩
    go_wp2_with fail
    have L2 := has_live H3
    rw [HL.out] at L2
    refine L2.mono ?_
    clear L2
    rintro e w4 ⟨rfl, rfl⟩
    go_wp2_with fail
    have L3 := has_len H3 k
    rw [HF.out] at L3
    simp only at L3
    refine L3.mono ?_
    clear L3
    rintro e w5 ⟨rfl, H5, -⟩
    go_wp2_with fail
    refine (alive_any _).mono ?_
    rintro e wa ⟨rfl, hba⟩
    have HF := Lib.hid ((H5.old).trans (hba.mono (H5.old).size))
    go_wp2_with fail
    go_ret
    exact ⟨rfl, HF.out⟩

set_option maxRecDepth 100000 in
theorem lifted (os : Os) (started : os.Started) (H : Type) (enc : TypeId × Value → H) :
    ReturnsInHanded {} Try.checked os 5 .any (Rows.arenaFullSpec.pre6 enc Try.prog Try.f5 Rows.arenaFullRow.domain false) (Rows.arenaFullSpec.post enc Try.prog Try.f5 false true false false) := by
  refine returnsInHanded_of_change (C := Try.checked) own started (by kernel_rfl) Try.func5
    (ChangeSpec.witness6 (enc := enc) (C := Try.checked) false ⟨#[], #[.int .i64 0, .slice none 0 0, .int .i64 0], []⟩ 8 (by kernel_rfl) (by kernel_rfl) (by kernel_rfl) (by kernel_rfl)) ?_
  intro W base args ds gs before hval0 hW hcnd _
  have hval : ∀ (j : Nat) t v, Try.f5.params[j]? = some t → args[j]? = some v → Value.okWide Try.prog W .any base t v := hval0
  have hW' := hW
  obtain ⟨p, q, hA0, hV, rfl, hfz, hnd⟩ := hW
  have hA : DataW.TrodAll enc Try.prog W 0 (fun _ => true) true Try.f5.params.toList args.toList ds p := hA0
  rw [Try.params5] at hA hval
  obtain ⟨v0, vs0, d0, ds0, p0, q0, hargs, rfl, rfl, h0, r0⟩ := trodAll_cons hA
  obtain ⟨v1, vs1, d1, ds1, p1, q1, rfl, rfl, rfl, h1, r1⟩ := trodAll_cons r0
  obtain ⟨v2, vs2, d2, ds2, p2, q2, rfl, rfl, rfl, h2, r2⟩ := trodAll_cons r1
  obtain ⟨rfl, rfl, rfl⟩ := trodAll_nil r2
  obtain rfl : args = #[v0, v1, v2] := by cases args; simp_all
  obtain ⟨rfl, rfl⟩ := trodVars_none hV
  simp only [List.append_nil] at hW'
  obtain ⟨a0, rfl, rfl, rfl, w0⟩ := open_int Try.underlying3 (hval 0 3 v0 rfl rfl) h0
  have h1k := h1
  obtain ⟨x1, y1, z1, rfl⟩ := okWide_slice Try.underlying22 (hval 1 22 v1 rfl rfl)
  obtain ⟨fuel1, hf1⟩ := h1
  obtain ⟨A1, l1, c1, hcs1, hl1, hlen1⟩ := open_acts hf1
  simp only [Value.cells, List.cons.injEq, and_true, Value.slice.injEq] at hcs1
  obtain ⟨rfl, rfl, rfl⟩ := hcs1
  obtain ⟨a2, rfl, rfl, rfl, w2⟩ := open_int Try.underlying3 (hval 2 3 v2 rfl rfl) h2
  clear hA0 hval0
  simp only [List.append_nil] at hW'
  refine (walk a0 x1 l1 z1 a2 W hl1 hlen1).mono fun e W' ⟨he, hg⟩ => ?_
  subst he
  exact ⟨_, rfl, _, _, _, [], _, [], hW', (trodAll_cons_mk (shut_bool Try.underlying4 _) trodAll_mk0), (trodAll_cons_mk (shut_int Try.underlying3 w0) (trodAll_cons_mk (Below.trod Try.laidOut (by kernel_rfl) (of_decide_eq_true (by kernel_rfl)) h1k hg (fun x hx => by have := hW'.lt x (by simp [hx]); simpa using this)) (trodAll_cons_mk (shut_int Try.underlying3 w2) trodAll_mk0))), rfl,
    hg.frame _, fun h => by cases h⟩

theorem over : Rows.arenaFullRow.holds Try.pinned (OpenSpec.ofChange Rows.arenaFullSpec) :=
  OpenClaim.holds_of_wide 5 Try.f5 rfl rfl rfl rfl rfl rfl rfl ⟨rfl, rfl, rfl, rfl, rfl⟩ rfl rfl rfl rfl rfl (by kernel_rfl) Try.func5 (by kernel_rfl)
    (of_decide_eq_true (by kernel_rfl)) (by unfold Func.isWrapper; first | (rw [if_pos (by decide +kernel)]; kernel_rfl) | (rw [if_neg (by decide +kernel)]; exact ⟨rfl, rfl⟩))
    (fun os started H enc _ => lifted os started H enc)

theorem proved : Rows.ArenaFullSaid :=
  over
#print axioms proved
end Go.Proofs.Ytpaopcnbgdlgnaa.arenaFull
