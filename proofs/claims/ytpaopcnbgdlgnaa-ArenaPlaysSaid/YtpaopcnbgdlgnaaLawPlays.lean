/- ArenaPlays: whatever is asked of an arena, call by call, it answers, and lays its blocks, as the document says: the law returns true for every size, list of calls and handle asked for. -/
import Derived.Test.YtpaopcnbgdlgnaaRows
import Derived.Test.YtpaopcnbgdlgnaaRefLooks
import Derived.Test.YtpaopcnbgdlgnaaLawP
import Derived.Test.YtpaopcnbgdlgnaaOpenL
namespace Go.Proofs.Ytpaopcnbgdlgnaa.arenaPlays
open Go.ChangeShapes Go.WideShapes Go.ChangeAt Go.RowKit
set_option linter.unusedVariables false
set_option linter.unusedSimpArgs false

theorem own : ownKnob Try.prog.godebug = none := by kernel_rfl

theorem Try.laidOut : laidOutB Try.prog = true := by kernel_rfl

set_option maxHeartbeats 1000000 in
theorem walk (a0 : Int) (A : Option Addr) (l : List ActV) (c : Nat) (ask : Int) (w : World) (hl : Lst w w.heap.size A l) (hlen : l.length ≤ maxLen) :
    Calls Try.prog 11 #[.int .i64 a0, .slice A l.length c, .int .i64 ask] w fun e w' => e = .returned (.bool true) ∧ Below w.heap.size w w' := by
  obtain ⟨N, hN⟩ : ∃ N, N = l.length := ⟨_, rfl⟩
  rw [← hN] at hlen ⊢
  have HN := Lib.hid hN
  have HLEN := Lib.hid hlen
  have HL := Lib.hid hl
  clear hN hl hlen
  go_enter Try.func11, Try.ntmps11
  go_wp2_with fail
  refine (has_new a0 _).mono ?_
  rintro e w1 (⟨hh, rfl, rfl⟩ | ⟨hh, pa, rfl, H⟩)
  · go_wp2_with fail
    refine (ref_new a0 _).mono ?_
    rintro e w2 (⟨-, rfl, rfl⟩ | ⟨hh2, _⟩)
    case inr => exact absurd hh2 hh
    clear hh
    go_wp2_with fail
    refine (no_any 1 _).mono ?_
    rintro e wn ⟨rfl, rfl⟩
    go_wp2_with fail
    refine (alive_any _).mono ?_
    rintro e wa ⟨rfl, hba⟩
    have HF := Lib.hid hba
    clear hba
    go_wp2_with fail
    go_ret
    exact ⟨rfl, HF.out⟩
  · go_wp2_with fail
    refine (ref_new a0 _).mono ?_
    rintro e w2 (⟨hh2, _⟩ | ⟨-, pr, rfl, J, hb2⟩)
    case inl => exact absurd hh hh2
    have B2 : Both w w2 pa pr (newS a0.toNat) := by
      refine ⟨_, (H.watchAll hb2).less fun k hk => .inr hk, J, fun k hk => ?_⟩
      have := H.old.size
      omega
    clear H J hb2 hh
    go_wp2_with fail
    refine (no_any 0 _).mono ?_
    rintro e wn ⟨rfl, rfl⟩
    go_wp2_with fail
    refine (alive_any _).mono ?_
    rintro e wa ⟨rfl, hba⟩
    have B3 := B2.below hba
    clear hba B2
    by_cases hl80 : N ≤ 80
    case neg =>
      have HF := Lib.hid B3.old
      clear B3
      go_wp2_with fail
      go_ret
      exact ⟨rfl, HF.out⟩
    go_wp2_with fail
    go_loopw [11] (fun t wr => ∃ i : Nat, i ≤ N ∧ t = .int .i64 i ∧ Both w wr pa pr (playAll (newS a0.toNat) (l.take i))) (fun t _ => N - (intOf t).toNat)
    case atStart => exact ⟨0, Nat.zero_le _, by go_num, B3⟩
    case round =>
      clear B3
      obtain ⟨i, hi, rfl, H1⟩ := hrel
      by_cases hlt : i < N
      · obtain ⟨a, ha⟩ : ∃ a, l[i]? = some a := ⟨l[i]'(by rw [← HN.out]; exact hlt), List.getElem?_eq_getElem _⟩
        obtain ⟨ad, hA, hB, hc⟩ := (HL.out.below H1.old) i a ha
        subst hA
        have hc0 : wr.cell? (ad.add (i * 4)) = some (.int .i64 a.k) := hc 0 _ rfl
        have hc1 : wr.cell? ⟨(ad.add (i * 4)).block, (ad.add (i * 4)).off + 1, none⟩ = some (.int .i64 a.h) := hc 1 _ rfl
        have hc2 : wr.cell? ⟨(ad.add (i * 4)).block, (ad.add (i * 4)).off + 2, none⟩ = some (.int .i64 a.n) := hc 2 _ rfl
        have hc3 : wr.cell? ⟨(ad.add (i * 4)).block, (ad.add (i * 4)).off + 3, none⟩ = some (.int .i64 a.x) := hc 3 _ rfl
        have hS : playS (playAll (newS a0.toNat) (l.take i)) ⟨a.k, a.h, a.n, a.x⟩ = playAll (newS a0.toNat) (l.take (i + 1)) := (playAll_take _ _ ha).symm
        have D := do_any H1 a.k a.h a.n a.x
        rw [hS] at D
        clear hc ha hS H1
        go_wp2_with fail
        refine D.mono ?_
        clear D hc0 hc1 hc2 hc3
        rintro e w3 ⟨rfl, B3⟩
        go_wp2_with fail
        refine (looks_any B3).mono ?_
        clear B3
        rintro e w4 ⟨rfl, B4⟩
        go_wp2_with fail
        refine (both_len B4 ask).mono ?_
        clear B4
        rintro e w5 ⟨rfl, B5⟩
        go_wp2_with fail
        refine (both_rlen B5 ask).mono ?_
        clear B5
        rintro e w6 ⟨rfl, B6⟩
        go_wp2_with fail
        refine (both_addr B6 ask).mono ?_
        clear B6
        rintro e w7 ⟨rfl, B7⟩
        go_wp2_with fail
        refine (both_raddr B7 ask).mono ?_
        clear B7
        rintro e w8 ⟨rfl, B8⟩
        have HB := Lib.hid B8
        clear B8
        go_wp2_with fail
        go_roundw
        case rel => exact ⟨i + 1, by omega, by go_num, HB.out⟩
        case measure => simp [intOf]; omega
      · obtain rfl : i = N := by omega
        have HF := Lib.hid H1.old
        clear H1
        go_wp2_with fail
        go_ret
        exact ⟨rfl, HF.out⟩

set_option maxRecDepth 100000 in
theorem lifted (os : Os) (started : os.Started) (H : Type) (enc : TypeId × Value → H) :
    ReturnsInHanded {} Try.checked os 11 .any (Rows.arenaPlaysSpec.pre6 enc Try.prog Try.f11 Rows.arenaPlaysRow.domain false) (Rows.arenaPlaysSpec.post enc Try.prog Try.f11 false true false false) := by
  refine returnsInHanded_of_change (C := Try.checked) own started (by kernel_rfl) Try.func11
    (ChangeSpec.witness6 (enc := enc) (C := Try.checked) false ⟨#[], #[.int .i64 0, .slice none 0 0, .int .i64 0], []⟩ 8 (by kernel_rfl) (by kernel_rfl) (by kernel_rfl) (by kernel_rfl)) ?_
  intro W base args ds gs before hval0 hW hcnd _
  have hval : ∀ (j : Nat) t v, Try.f11.params[j]? = some t → args[j]? = some v → Value.okWide Try.prog W .any base t v := hval0
  have hW' := hW
  obtain ⟨p, q, hA0, hV, rfl, hfz, hnd⟩ := hW
  have hA : DataW.TrodAll enc Try.prog W 0 (fun _ => true) true Try.f11.params.toList args.toList ds p := hA0
  rw [Try.params11] at hA hval
  obtain ⟨v0, vs0, d0, ds0, p0, q0, hargs, rfl, rfl, h0, r0⟩ := trodAll_cons hA
  obtain ⟨v1, vs1, d1, ds1, p1, q1, rfl, rfl, rfl, h1, r1⟩ := trodAll_cons r0
  obtain ⟨v2, vs2, d2, ds2, p2, q2, rfl, rfl, rfl, h2, r2⟩ := trodAll_cons r1
  obtain ⟨rfl, rfl, rfl⟩ := trodAll_nil r2
  obtain rfl : args = #[v0, v1, v2] := by cases args; simp_all
  obtain ⟨rfl, rfl⟩ := trodVars_none hV
  simp only [List.append_nil] at hW'
  obtain ⟨a0, rfl, rfl, rfl, w0⟩ := open_int Try.underlying3 (hval 0 3 v0 rfl rfl) h0
  have h1k := h1
  obtain ⟨x1, y1, z1, rfl⟩ := okWide_slice Try.underlying22 (hval 1 22 v1 rfl rfl)
  obtain ⟨fuel1, hf1⟩ := h1
  obtain ⟨A1, l1, c1, hcs1, hl1, hlen1⟩ := open_acts hf1
  simp only [Value.cells, List.cons.injEq, and_true, Value.slice.injEq] at hcs1
  obtain ⟨rfl, rfl, rfl⟩ := hcs1
  obtain ⟨a2, rfl, rfl, rfl, w2⟩ := open_int Try.underlying3 (hval 2 3 v2 rfl rfl) h2
  clear hA0 hval0
  try simp only [List.append_nil] at hW'
  refine (walk a0 x1 l1 z1 a2 W hl1 hlen1).mono fun e W' ⟨he, hg⟩ => ?_
  subst he
  exact ⟨_, rfl, _, _, _, [], _, [], hW', (trodAll_cons_mk (shut_bool Try.underlying4 _) trodAll_mk0), (trodAll_cons_mk (shut_int Try.underlying3 w0) (trodAll_cons_mk (Below.trod Try.laidOut (by kernel_rfl) (of_decide_eq_true (by kernel_rfl)) h1k hg (fun x hx => by have := hW'.lt x (by simp [hx]); simpa using this)) (trodAll_cons_mk (shut_int Try.underlying3 w2) trodAll_mk0))), rfl,
    hg.frame _, fun h => by cases h⟩

theorem over : Rows.arenaPlaysRow.holds Try.pinned (OpenSpec.ofChange Rows.arenaPlaysSpec) :=
  OpenClaim.holds_of_wide 11 Try.f11 rfl rfl rfl rfl rfl rfl rfl ⟨rfl, rfl, rfl, rfl, rfl⟩ rfl rfl rfl rfl rfl (by kernel_rfl) Try.func11 (by kernel_rfl)
    (of_decide_eq_true (by kernel_rfl)) (by unfold Func.isWrapper; first | (rw [if_pos (by decide +kernel)]; kernel_rfl) | (rw [if_neg (by decide +kernel)]; exact ⟨rfl, rfl⟩))
    (fun os started H enc _ => lifted os started H enc)

theorem proved : Rows.ArenaPlaysSaid :=
  over
#print axioms proved
end Go.Proofs.Ytpaopcnbgdlgnaa.arenaPlays
