/- Do the program's arena and the reference's tell the same? -/
import Derived.Test.YtpaopcnbgdlgnaaRefDo
import Derived.Test.YtpaopcnbgdlgnaaInts
namespace Go.Proofs.Ytpaopcnbgdlgnaa
open Go.RowKit Go.MapKept
set_option linter.unusedVariables false
set_option linter.unusedSimpArgs false

variable {X : Nat → Prop} {w0 w w1 w' : World} {p pa pr N : Nat} {R T : List RBlk} {v v' : Value} {S : St}

theorem low_top (h : Has X w0 w p S) : Calls Try.prog 29 #[.pointer (some ⟨p, 0, none⟩)] w fun e w' => e = .returned (.int .i64 (topL 0 S.L)) ∧ Below w.heap.size w w' := by
  obtain ⟨A, rfl, H, _⟩ := h; exact top_any H
theorem low_gap (h : Has X w0 w p S) : Calls Try.prog 22 #[.pointer (some ⟨p, 0, none⟩)] w fun e w' => e = .returned (.int .i64 (maxRun (runs S.cells.length 0 S.L))) ∧ Below w.heap.size w w' := by
  obtain ⟨A, rfl, H, _⟩ := h; exact gap_any H
theorem low_len (h : Has X w0 w p S) (n : Int) : Calls Try.prog 19 #[.pointer (some ⟨p, 0, none⟩), .int .i64 n] w fun e w' => e = .returned (.int .i64 (findR S.L n).2.1) ∧ Below w.heap.size w w' := by
  obtain ⟨A, rfl, H, _⟩ := h; exact len_any H n
theorem low_addr (h : Has X w0 w p S) (n : Int) : Calls Try.prog 20 #[.pointer (some ⟨p, 0, none⟩), .int .i64 n] w fun e w' => e = .returned (.int .i64 (addrR S.L n)) ∧ Below w.heap.size w w' := by
  obtain ⟨A, rfl, H, _⟩ := h; exact addr_any H n
theorem low_handles (h : Has X w0 w p S) : Calls Try.prog 25 #[.pointer (some ⟨p, 0, none⟩)] w fun e w' => HandlesPost w S e w' := by
  obtain ⟨A, rfl, H, _⟩ := h; exact handles_any H

theorem Reads.up {xs : List Int} (h : Reads w1 w1.heap.size v xs) (hB : Below w1.heap.size w1 w') : Reads w' w'.heap.size v xs := by
  obtain ⟨A, c, hv, hx⟩ := h
  refine ⟨A, c, hv, fun i x hi => ?_⟩
  obtain ⟨g, h1, h2, h3⟩ := hx i x hi
  exact ⟨g, h1, Nat.lt_of_lt_of_le h2 hB.size, (hB.cell h2).trans h3⟩

/-- A call that only reads, seen from an earlier world. -/
theorem lk_call {f : Nat} {args : Array Value} {r c0 : Value} {a : Addr} (hB : Below w1.heap.size w1 w') (hc : w1.cell? a = some c0) (ha : a.block < w1.heap.size)
    (c : Calls Try.prog f args w' fun e w'' => e = .returned r ∧ Below w'.heap.size w' w'') :
    Calls Try.prog f args w' fun e w'' => e = .returned r ∧ Below w1.heap.size w1 w'' ∧ w''.cell? a = some c0 :=
  c.mono fun e w'' g => ⟨g.1, hB.trans (g.2.mono hB.size), ((hB.trans (g.2.mono hB.size)).cell ha).trans hc⟩
theorem lk_same {f : Nat} {args : Array Value} {r c0 : Value} {a : Addr} (hB : Below w1.heap.size w1 w') (hc : w1.cell? a = some c0) (ha : a.block < w1.heap.size)
    (c : Calls Try.prog f args w' fun e w'' => e = .returned r ∧ w'' = w') :
    Calls Try.prog f args w' fun e w'' => e = .returned r ∧ Below w1.heap.size w1 w'' ∧ w''.cell? a = some c0 :=
  c.mono fun e w'' g => ⟨g.1, by rw [g.2]; exact hB, by rw [g.2]; exact (hB.cell ha).trans hc⟩
theorem lk_same' {f : Nat} {args : Array Value} {r c0 : Value} {a : Addr} (hB : Below w1.heap.size w1 w') (hc : w1.cell? a = some c0) (ha : a.block < w1.heap.size)
    (c : Calls Try.prog f args w' fun e w'' => e = .returned r ∧ w' = w'') :
    Calls Try.prog f args w' fun e w'' => e = .returned r ∧ Below w1.heap.size w1 w'' ∧ w''.cell? a = some c0 :=
  c.mono fun e w'' g => ⟨g.1, by rw [← g.2]; exact hB, by rw [← g.2]; exact (hB.cell ha).trans hc⟩

set_option maxRecDepth 100000 in
set_option maxHeartbeats 2000000 in
theorem looks_any (H : Both w0 w pa pr S) :
    Calls Try.prog 35 #[.pointer (some ⟨pa, 0, none⟩), .pointer (some ⟨pr, 0, none⟩)] w fun e w' => DoPost w0 pa pr S e w' := by
  have HB0 := Lib.hid H
  obtain ⟨X, G0, J0, -⟩ := H
  have RH := ref_handles J0
  have HG0 := Lib.hid G0
  have HJ0 := Lib.hid J0
  clear G0 J0
  go_enter Try.func35, Try.ntmps35
  go_wp2_with fail
  refine RH.mono ?_
  clear RH
  rintro e w1 ⟨v, rfl, hr1, hb1⟩
  have G1 := (HG0.out.below hb1).1
  have J1 := HJ0.out.below hb1
  obtain ⟨hsI, hhs⟩ : ∃ hsI : List Int, hsI = (hsTo S.L 70000).map fun h : Nat => (h : Int) := ⟨_, rfl⟩
  have e1 : ((hsTo S.L 70000).map fun h : Nat => iv h) = hsI.map iv := by rw [hhs]; simp [Function.comp_def]
  rw [e1] at hr1
  have RL := Lib.hid (reads_of hr1)
  have hS := G1.inv
  have hsl : S.L.length = hsI.length := by rw [hhs, List.length_map, hsTo_len hS]
  have hl6 : hsI.length ≤ 65536 := by rw [← hsl]; have := hS.length; have := hS.size; omega
  obtain ⟨A, c, rfl⟩ := row_shape hr1
  have HHS := Lib.hid e1
  have HG := Lib.hid G1
  have HJ := Lib.hid J1
  obtain ⟨N, R, vr, Hr, hrel, -⟩ := J1
  have c0 := Hr.c0
  have hpr : pr < w1.heap.size := Hr.lt.1
  obtain rfl : N = S.cells.length := hrel.size
  have C0 := Lib.hid c0
  have HB1 := Lib.hid hb1
  have HSL := Lib.hid hsl
  obtain ⟨M, hM⟩ : ∃ M, M = S.L.length := ⟨_, rfl⟩
  rw [← hM] at RL ⊢
  have HM := Lib.hid hM
  have hM6 : M ≤ 65536 := by rw [hM, hsl]; exact hl6
  clear hr1 e1 hhs G1 Hr hrel hS hb1 hsl hM
  go_upto_region 2 with fail
  go_cut [43] (fun s wx => s = .bool false ∧ Below w1.heap.size w1 wx)
  case first =>
    go_region_held3 (fun w' => Below w1.heap.size w1 w' ∧ w'.cell? ⟨pr, 0, none⟩ = some (.int .i64 S.cells.length))
      (first | assumption | exact ⟨(Below.refl _ _).drew, C0.out⟩)
      ((first
        | (go_at_call 25; refine (low_handles (HG.out.below (by first | assumption | exact (Below.refl _ _).drew)).1).mono ?_; rintro e wa ⟨v2, rfl, hr2, hb2⟩; obtain ⟨a2, cc2, rfl⟩ := row_shape hr2; rw [HHS.out] at hr2; have bA : Below w1.heap.size w1 wa := Below.trans (show Below w1.heap.size w1 w1.drew from (Below.refl _ _).drew) hb2; have s1 := And.intro bA ((bA.cell (p := ⟨pr, 0, none⟩) hpr).trans C0.out))
        | (go_at_call 26; refine (lk_call (by first | assumption | exact (Below.refl _ _).drew) C0.out hpr (ints_same (reads_of hr2) (RL.out.up bA) (by omega))).mono ?_; rintro e wb ⟨rfl, bB, cB⟩; have s1 := And.intro bB cB)
        | (go_at_call 23; refine (lk_same' (by first | assumption | exact (Below.refl _ _).drew) C0.out hpr (has_live (HG.out.below (by first | assumption | exact (Below.refl _ _).drew)).1)).mono ?_; rintro e wb ⟨rfl, bB, cB⟩; have s1 := And.intro bB cB)
        | (go_at_call 52; refine (lk_same (by first | assumption | exact (Below.refl _ _).drew) C0.out hpr (ref_live (HJ.out.below (by first | assumption | exact (Below.refl _ _).drew)))).mono ?_; rintro e wb ⟨rfl, bB, cB⟩; have s1 := And.intro bB cB)
        | (go_at_call 29; refine (lk_call (by first | assumption | exact (Below.refl _ _).drew) C0.out hpr (low_top (HG.out.below (by first | assumption | exact (Below.refl _ _).drew)).1)).mono ?_; rintro e wb ⟨rfl, bB, cB⟩; have s1 := And.intro bB cB)
        | (go_at_call 53; refine (lk_call (by first | assumption | exact (Below.refl _ _).drew) C0.out hpr (ref_top (HJ.out.below (by first | assumption | exact (Below.refl _ _).drew)))).mono ?_; rintro e wb ⟨rfl, bB, cB⟩; have s1 := And.intro bB cB)
        | (go_at_call 22; refine (lk_call (by first | assumption | exact (Below.refl _ _).drew) C0.out hpr (low_gap (HG.out.below (by first | assumption | exact (Below.refl _ _).drew)).1)).mono ?_; rintro e wb ⟨rfl, bB, cB⟩; have s1 := And.intro bB cB)
        | (go_at_call 54; refine (lk_call (by first | assumption | exact (Below.refl _ _).drew) C0.out hpr (ref_gap (HJ.out.below (by first | assumption | exact (Below.refl _ _).drew)))).mono ?_; rintro e wb ⟨rfl, bB, cB⟩; have s1 := And.intro bB cB)
        | (go_at_call 28; refine (lk_same' (by first | assumption | exact (Below.refl _ _).drew) C0.out hpr (has_size (HG.out.below (by first | assumption | exact (Below.refl _ _).drew)).1)).mono ?_; rintro e wb ⟨rfl, bB, cB⟩; have s1 := And.intro bB cB)))
    all_goals (
      go_wp2_with fail
      go_meet
      exact ⟨by first | rfl | simp, bB⟩)
  case rest =>
    obtain ⟨rfl, hBc⟩ := hcut
    clear c0
    go_wp2_with fail
    go_loopw [6] (fun t wr => ∃ i : Nat, i ≤ M ∧ t = .int .i64 i ∧ Below w1.heap.size w1 wr) (fun t _ => M - (intOf t).toNat)
    case atStart => exact ⟨0, Nat.zero_le _, by go_num, hBc⟩
    case round =>
      clear hBc
      obtain ⟨i, hi, rfl, hBr⟩ := hrel
      by_cases hlt : i < M
      · obtain ⟨x, hx⟩ : ∃ x, hsI[i]? = some x := ⟨hsI[i]'(by rw [← HSL.out, ← HM.out]; exact hlt), List.getElem?_eq_getElem _⟩
        have hxx := RL.out
        obtain ⟨A', c', hv, hxx⟩ := hxx
        simp only [Value.slice.injEq] at hv
        obtain ⟨rfl, -, rfl⟩ := hv
        obtain ⟨g, hA, hgl, hcell1⟩ := hxx i x hx
        subst hA
        have CX := Lib.hid hcell1
        have hcell := (hBr.cell (p := ⟨g, i, none⟩) hgl).trans hcell1
        have CR := Lib.hid hcell
        have HBR := Lib.hid hBr
        clear hx hxx hcell1 hBr
        go_upto_region 7 with fail
        go_cut [77] (fun s wx => s = .bool false ∧ Below w1.heap.size w1 wx)
        case first =>
          go_region_held3 (fun w' => Below w1.heap.size w1 w' ∧ w'.cell? ⟨g, i, none⟩ = some (.int .i64 x))
            (first | assumption | exact ⟨HBR.out.drew, CR.out⟩)
            ((first
              | (go_at_call 20; refine (lk_call (by first | assumption | exact HBR.out.drew) CX.out hgl (low_addr (HG.out.below (by first | assumption | exact HBR.out.drew)).1 x)).mono ?_; rintro e wb ⟨rfl, bB, cB⟩; have s1 := And.intro bB cB)
              | (go_at_call 37; refine (lk_same (by first | assumption | exact HBR.out.drew) CX.out hgl (ref_addr (HJ.out.below (by first | assumption | exact HBR.out.drew)) x)).mono ?_; rintro e wb ⟨rfl, bB, cB⟩; have s1 := And.intro bB cB)
              | (go_at_call 19; refine (lk_call (by first | assumption | exact HBR.out.drew) CX.out hgl (low_len (HG.out.below (by first | assumption | exact HBR.out.drew)).1 x)).mono ?_; rintro e wb ⟨rfl, bB, cB⟩; have s1 := And.intro bB cB)
              | (go_at_call 36; refine (lk_same (by first | assumption | exact HBR.out.drew) CX.out hgl (ref_len (HJ.out.below (by first | assumption | exact HBR.out.drew)) x)).mono ?_; rintro e wb ⟨rfl, bB, cB⟩; have s1 := And.intro bB cB)))
          all_goals (
            go_wp2_with fail
            go_meet
            exact ⟨by first | rfl | simp, bB⟩)
        case rest =>
          obtain ⟨rfl, hBc⟩ := hcut
          have HC := Lib.hid hBc
          clear hBc hcell
          go_wp2_with fail
          go_roundw
          case rel => exact ⟨i + 1, by omega, by go_num, HC.out⟩
          case measure => simp [intOf]; omega
      · obtain rfl : i = M := by omega
        have HP := Lib.hid (show DoPost w0 pa pr S (.returned (.bool true)) wr from ⟨rfl, HB0.out.below (HB1.out.trans (hBr.mono HB1.out.size))⟩)
        clear hBr
        go_wp2_with fail
        go_ret
        exact HP.out

theorem both_len (H : Both w0 w pa pr S) (n : Int) : Calls Try.prog 19 #[.pointer (some ⟨pa, 0, none⟩), .int .i64 n] w fun e w' => e = .returned (.int .i64 (findR S.L n).2.1) ∧ Both w0 w' pa pr S := by
  have H0 := H
  obtain ⟨X, G, _⟩ := H
  exact (low_len G n).mono fun e w' g => ⟨g.1, H0.below g.2⟩
theorem both_addr (H : Both w0 w pa pr S) (n : Int) : Calls Try.prog 20 #[.pointer (some ⟨pa, 0, none⟩), .int .i64 n] w fun e w' => e = .returned (.int .i64 (addrR S.L n)) ∧ Both w0 w' pa pr S := by
  have H0 := H
  obtain ⟨X, G, _⟩ := H
  exact (low_addr G n).mono fun e w' g => ⟨g.1, H0.below g.2⟩
theorem both_rlen (H : Both w0 w pa pr S) (n : Int) : Calls Try.prog 36 #[.pointer (some ⟨pr, 0, none⟩), .int .i64 n] w fun e w' => e = .returned (.int .i64 (findR S.L n).2.1) ∧ Both w0 w' pa pr S := by
  have H0 := H
  obtain ⟨X, _, J, _⟩ := H
  exact (ref_len J n).mono fun e w' g => ⟨g.1, by rw [g.2]; exact H0⟩
theorem both_raddr (H : Both w0 w pa pr S) (n : Int) : Calls Try.prog 37 #[.pointer (some ⟨pr, 0, none⟩), .int .i64 n] w fun e w' => e = .returned (.int .i64 (addrR S.L n)) ∧ Both w0 w' pa pr S := by
  have H0 := H
  obtain ⟨X, _, J, _⟩ := H
  exact (ref_addr J n).mono fun e w' g => ⟨g.1, by rw [g.2]; exact H0⟩

set_option maxHeartbeats 1000000 in
theorem ref_new (n : Int) (w : World) :
    Calls Try.prog 33 #[.int .i64 n] w fun e w' => (¬ (1 ≤ n ∧ n ≤ 65536) ∧ e = .returned (.tuple #[.pointer none, .int .i64 1]) ∧ w' = w) ∨
      ((1 ≤ n ∧ n ≤ 65536) ∧ ∃ p, e = .returned (.tuple #[.pointer (some ⟨p, 0, none⟩), .int .i64 0]) ∧ RefS (fun k => w.heap.size ≤ k ∧ k < w'.heap.size) w' p (newS n.toNat) ∧ Below w.heap.size w w') := by
  by_cases hn : n < 1 ∨ 65536 < n
  · have hh : ¬ (1 ≤ n ∧ n ≤ 65536) := by omega
    have HH := Lib.hid hh
    clear hh
    rcases hn with hn | hn
    all_goals
      go_enter Try.func33, Try.ntmps33
      go_wp2_with fail
      go_ret2
      exact .inl ⟨HH.out, rfl, rfl⟩
  · obtain ⟨m, rfl⟩ := Int.eq_ofNat_of_zero_le (show 0 ≤ n by omega)
    have hm1 : 1 ≤ m := by omega
    have hm6 : m ≤ 65536 := by omega
    clear hn
    have HP := Lib.hid (show RefS (fun k => w.heap.size ≤ k ∧ k < (w.alloc (.cells #[.int .i64 m, .slice none 0 0] 77)).heap.size) (w.alloc (.cells #[.int .i64 m, .slice none 0 0] 77)) w.heap.size (newS m) from by
      refine ⟨m, [], .slice none 0 0, ⟨heap_alloc_new w _, ⟨Nat.le_refl _, by simp⟩, World.ownsRow_nil _ _ _ _, fun g hg => by simp [Value.ownBlock] at hg, fun b hb => by simp at hb, by simp⟩, ⟨by simp [newS], rfl, fun b hb => by simp at hb⟩, newS_inv hm1 hm6⟩)
    go_enter Try.func33, Try.ntmps33
    go_wp2_with fail
    go_ret2
    exact .inr ⟨by omega, _, rfl, HP.out, below_alloc _ _⟩
end Go.Proofs.Ytpaopcnbgdlgnaa
