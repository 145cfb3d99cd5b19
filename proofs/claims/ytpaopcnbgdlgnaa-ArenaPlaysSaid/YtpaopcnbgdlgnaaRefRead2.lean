/- The reference's Top, Gap, Place, Handles. -/
import Derived.Test.YtpaopcnbgdlgnaaRefRead
import Derived.BigQuiet
import Derived.Deep.QuietTactic
namespace Go.Proofs.Ytpaopcnbgdlgnaa
open Go.RowKit Go.MapKept
set_option linter.unusedVariables false
set_option linter.unusedSimpArgs false

variable {X : Nat → Prop} {w : World} {p N : Nat} {R : List RBlk} {v : Value} {S : St}

theorem top_last : ∀ {L : List Blk} {lo : Nat} {b : Blk}, L[L.length - 1]? = some b → topL lo L = b.a + b.n := by
  intro L
  induction L with
  | nil => intro lo b h; simp at h
  | cons c l ih =>
    intro lo b h
    show topL (c.a + c.n) l = _
    cases l with
    | nil => simp at h; subst h; rfl
    | cons d l => exact ih (by simpa using h)

set_option maxHeartbeats 1000000 in
theorem ref_top (J : RefS X w p S) :
    Calls Try.prog 53 #[.pointer (some ⟨p, 0, none⟩)] w fun e w' => e = .returned (.int .i64 (topL 0 S.L)) ∧ Below w.heap.size w w' := by
  obtain ⟨N, R, v, H, hr, hS⟩ := J
  have hL := hr.blks
  have hlen : R.length ≤ 65536 := by have := hr.length; have := hS.length; have := hS.size; omega
  have c1 := H.c1
  obtain ⟨A, c, rfl⟩ := H.shape
  obtain ⟨M, hM⟩ : ∃ M, M = R.length := ⟨_, rfl⟩
  have HML := hM.trans hr.length
  rw [← hM] at c1 hlen
  obtain ⟨q, hq⟩ : ∃ q, q = topL 0 S.L := ⟨_, rfl⟩
  rw [← hq]
  have hwp := H.lt.1
  by_cases h0 : M = 0
  · have HE := Lib.hid (show (q : Int) = 0 from by
      rw [hq]
      have : S.L = [] := List.eq_nil_of_length_eq_zero (by omega)
      rw [this]; rfl)
    subst h0
    clear hq hM HML H hr hL
    go_enter Try.func53, Try.ntmps53
    go_wp2_with fail
    go_ret
    exact ⟨by rw [HE.out]; rfl, Below.refl _ _⟩
  · obtain ⟨b, hb⟩ : ∃ b, R[M - 1]? = some b := ⟨R[M - 1]'(by omega), List.getElem?_eq_getElem _⟩
    have hbl := blk_get hL hb
    have hme := hS.mem (List.mem_of_getElem? hbl)
    have hab : b.a + b.xs.length ≤ 65536 := hme.2.2.2.1
    have HE := Lib.hid (show (q : Int) = ((b.a + b.xs.length : Nat) : Int) from by
      rw [hq, top_last (b := b.blk) (by rw [← HML]; exact hbl)]; rfl)
    obtain ⟨g, rfl, -, e0, e1, e2⟩ := H.at_ hb
    have hgl : g < w.heap.size := H.lt.2.1 g rfl
    obtain ⟨m, rfl⟩ : ∃ m, M = m + 1 := ⟨M - 1, by omega⟩
    simp only [Nat.add_sub_cancel] at e0 e1 e2
    clear hq hM HML H hr hL hb hbl hme h0
    go_enter Try.func53, Try.ntmps53
    go_wp2_with fail
    go_region
    all_goals (go_wp2_with fail)
    all_goals (
      go_ret
      exact ⟨by rw [HE.out]; go_num, (below_alloc w _).drew⟩)

theorem _root_.Go.RowKit.Below.drewN {B : Nat} {w w' : World} (h : Below B w w') (n : Nat) : Below B w (w'.drewN n) := ⟨h.os, h.tape, h.output, h.size, h.block⟩

/-! ### the gaps -/
theorem maxRun_step {T m lo i : Nat} {Z : Nat} {b : Blk} {l : List Blk} (h : max m (maxRun (runsFrom T 0 lo i (b :: l))) = Z) (hb : 1 ≤ b.h) :
    max (max m (b.a - lo)) (maxRun (runsFrom T 0 (b.a + b.n) (i + 1) l)) = Z := by
  unfold runsFrom at h
  rw [if_neg (show ¬ (b.h : Int) = 0 by omega)] at h
  split at h
  · rw [show maxRun ([⟨lo, b.a - lo, i⟩] ++ runsFrom T 0 (b.a + b.n) (i + 1) l) = max (b.a - lo) (maxRun (runsFrom T 0 (b.a + b.n) (i + 1) l)) from rfl] at h
    omega
  · simp only [List.nil_append] at h
    omega

set_option maxHeartbeats 1000000 in
theorem ref_gap (J : RefS X w p S) :
    Calls Try.prog 54 #[.pointer (some ⟨p, 0, none⟩)] w fun e w' => e = .returned (.int .i64 (maxRun (runs S.cells.length 0 S.L))) ∧ Below w.heap.size w w' := by
  obtain ⟨N, R, v, H, hr, hS⟩ := J
  have hL := hr.blks
  have hlen : R.length ≤ 65536 := by have := hr.length; have := hS.length; have := hS.size; omega
  have hN := hr.size
  have hN6 := hS.size
  have hla := hS.laid
  have hto := hS.top
  rw [← hN] at hN6 hto ⊢
  have c0 := H.c0
  have c1 := H.c1
  have hwp := H.lt.1
  obtain ⟨A, c, rfl⟩ := H.shape
  obtain ⟨M, hM⟩ : ∃ M, M = R.length := ⟨_, rfl⟩
  have HML := Lib.hid (hM.trans hr.length)
  rw [← hM] at c1 hlen
  have HM := Lib.hid hM
  have HH := Lib.hid H
  obtain ⟨Z, hZ⟩ : ∃ Z, Z = maxRun (runs N 0 S.L) := ⟨_, rfl⟩
  have HZ := Lib.hid hZ
  rw [← hZ]
  clear hM H hN hZ
  go_enter Try.func54, Try.ntmps54
  go_wp2_with fail
  go_loopw [3, 4, 5] (fun t3 t4 t wr => ∃ (i m lo : Nat), i ≤ M ∧ t = .int .i64 i ∧ t3 = .int .i64 m ∧ t4 = .int .i64 lo ∧ max m (maxRun (runsFrom N 0 lo i (S.L.drop i))) = Z ∧ Laid lo (S.L.drop i) ∧ topL lo (S.L.drop i) ≤ N ∧ m ≤ 65536 ∧ Below w.heap.size w wr) (fun _ _ t _ => M - (intOf t).toNat)
  case atStart => exact ⟨0, 0, 0, Nat.zero_le _, by go_num, by go_num, by go_num, by rw [HZ.out]; simp [runs], by simpa using hla, by simpa using hto, by omega, Below.refl _ _⟩
  case round =>
    obtain ⟨i, m, lo, hi, rfl, rfl, rfl, hz, hl, ht, hm6, hB⟩ := hrel
    have H1 := HH.out.below hB
    have c0 := H1.c0
    have c1 := H1.c1
    rw [← HM.out] at c1
    by_cases hlt : i < M
    · obtain ⟨b, hb⟩ : ∃ b, R[i]? = some b := ⟨R[i]'(by rw [← HM.out]; exact hlt), List.getElem?_eq_getElem _⟩
      have hbl := blk_get hL hb
      have hdr : S.L.drop i = b.blk :: S.L.drop (i + 1) := by
        have hh := (List.getElem?_eq_some_iff.1 hbl)
        rw [List.drop_eq_getElem_cons hh.1, hh.2]
      have hme := hS.mem (List.mem_of_getElem? hbl)
      have hab : b.a + b.xs.length ≤ 65536 := hme.2.2.2.1
      rw [hdr] at hz hl ht
      obtain ⟨l1, l2, l3, l4⟩ := hl
      have hz2 := maxRun_step hz hme.2.1
      have hlo : lo ≤ b.a := l1
      obtain ⟨g, rfl, -, e0, e1, e2⟩ := H1.at_ hb
      have HREL := Lib.hid (show max (max m (b.a - lo)) (maxRun (runsFrom N 0 (b.a + b.xs.length) (i + 1) (S.L.drop (i + 1)))) = Z ∧ Laid (b.a + b.xs.length) (S.L.drop (i + 1)) ∧ topL (b.a + b.xs.length) (S.L.drop (i + 1)) ≤ N from ⟨hz2, l4, ht⟩)
      have hw1 : IntKind.i64.wrap ((b.a : Int) - lo) = ((b.a - lo : Nat) : Int) := by rw [IntWalk.i64_in _ (by omega)]; omega
      have HB := Lib.hid hB
      clear hz ht hb hbl hdr hme hz2 l1 l2 l3 l4 H1 hB
      by_cases hgt : m < b.a - lo
      · go_wp2_with fail
        go_quiet (fail)
        go_wp2_with fail
        go_roundw
        case rel => exact ⟨i + 1, b.a - lo, b.a + b.xs.length, by omega, by go_num, by first | rfl | go_num, by go_num, by have := HREL.out.1; rw [show max m (b.a - lo) = b.a - lo by omega] at this; exact this, HREL.out.2.1, HREL.out.2.2, by omega, HB.out.drewN _⟩
        case measure => simp [intOf]; omega
      · go_wp2_with fail
        go_quiet (fail)
        go_wp2_with fail
        go_roundw
        case rel => exact ⟨i + 1, m, b.a + b.xs.length, by omega, by go_num, by first | rfl | go_num, by go_num, by have := HREL.out.1; rw [show max m (b.a - lo) = m by omega] at this; exact this, HREL.out.2.1, HREL.out.2.2, by omega, HB.out.drewN _⟩
        case measure => simp [intOf]; omega
    · obtain rfl : i = M := by omega
      rw [List.drop_eq_nil_of_le (by rw [HML.out]; exact Nat.le_refl _)] at hz ht
      have ht' : lo ≤ N := ht
      have hzz : Z = max m (N - lo) := by
        rw [← hz]
        unfold runsFrom
        split
        · simp [maxRun]
        · show max m 0 = _; omega
      have hw1 : IntKind.i64.wrap ((N : Int) - lo) = ((N - lo : Nat) : Int) := by rw [IntWalk.i64_in _ (by omega)]; omega
      have HZZ := Lib.hid hzz
      have HB := Lib.hid hB
      clear hz hl ht H1 hzz hB
      by_cases hgt : m < N - lo
      · go_wp2_with fail
        go_ret
        exact ⟨by rw [HZZ.out, Nat.max_eq_right (by omega)]; first | rfl | go_num, HB.out⟩
      · go_wp2_with fail
        go_ret
        exact ⟨by rw [HZZ.out, Nat.max_eq_left (by omega)]; first | rfl | go_num, HB.out⟩

/-! ### the place for a block -/
def RPlacePost (N n : Nat) (T : List RBlk) (w : World) (e : Ending) (w' : World) : Prop :=
  (match firstRun n (runs N 0 (T.map RBlk.blk)) with
    | none => e = .returned (.tuple #[.int .i64 (-1), .int .i64 0])
    | some r => e = .returned (.tuple #[.int .i64 r.a, .int .i64 r.i])) ∧ Below w.heap.size w w'

theorem firstRun_step {T lo i n : Nat} {Z : Option Run} {b : Blk} {l : List Blk} (h : firstRun n (runsFrom T 0 lo i (b :: l)) = Z) (hb : 1 ≤ b.h) (hn : 1 ≤ n) :
    if n ≤ b.a - lo then Z = some ⟨lo, b.a - lo, i⟩ else firstRun n (runsFrom T 0 (b.a + b.n) (i + 1) l) = Z := by
  unfold runsFrom at h
  rw [if_neg (show ¬ (b.h : Int) = 0 by omega)] at h
  split
  · rename_i hc
    rw [if_pos (by omega)] at h
    have h : firstRun n (⟨lo, b.a - lo, i⟩ :: runsFrom T 0 (b.a + b.n) (i + 1) l) = Z := h
    unfold firstRun at h
    rw [if_pos hc] at h
    exact h.symm
  · rename_i hc
    split at h
    · have h : firstRun n (⟨lo, b.a - lo, i⟩ :: runsFrom T 0 (b.a + b.n) (i + 1) l) = Z := h
      unfold firstRun at h
      rw [if_neg hc] at h
      exact h
    · exact h

set_option maxHeartbeats 1000000 in
theorem ref_place {T : List RBlk} {n base : Nat} (hrow : w.ownsRow base 84 3 v T.length (flat T)) (hT : Laid 0 (T.map RBlk.blk)) (htop : topL 0 (T.map RBlk.blk) ≤ N) (hN6 : N ≤ 65536) (hlen : T.length ≤ 65536) (hn : 1 ≤ n) (hn6 : n ≤ 65536) :
    Calls Try.prog 57 #[v, .int .i64 N, .int .i64 n] w fun e w' => RPlacePost N n T w e w' := by
  obtain ⟨A, c, rfl⟩ := row_shape hrow
  obtain ⟨M, hM⟩ : ∃ M, M = T.length := ⟨_, rfl⟩
  have HR := Lib.hid hrow
  rw [← hM] at hlen ⊢
  have HM := Lib.hid hM
  obtain ⟨L, hL⟩ : ∃ L, L = T.map RBlk.blk := ⟨_, rfl⟩
  have HLM := Lib.hid (show L.length = M by rw [hL, List.length_map, hM])
  rw [← hL] at hT htop
  obtain ⟨Z, hZ⟩ : ∃ Z, Z = firstRun n (runs N 0 L) := ⟨_, rfl⟩
  have HP : ∀ e w', (match Z with | none => e = .returned (.tuple #[.int .i64 (-1), .int .i64 0]) | some r => e = .returned (.tuple #[.int .i64 r.a, .int .i64 r.i])) ∧ Below w.heap.size w w' → RPlacePost N n T w e w' := by
    intro e w' hh
    unfold RPlacePost
    rw [← hL, ← hZ]
    exact hh
  have HPP := Lib.hid HP
  have HZ := Lib.hid hZ
  have HL := Lib.hid hL
  clear hrow hM hZ HP hL
  go_enter Try.func57, Try.ntmps57
  go_wp2_with fail
  go_loopw [8, 9] (fun t4 t wr => ∃ (i lo : Nat), i ≤ M ∧ t = .int .i64 i ∧ t4 = .int .i64 lo ∧ firstRun n (runsFrom N 0 lo i (L.drop i)) = Z ∧ Laid lo (L.drop i) ∧ topL lo (L.drop i) ≤ N ∧ Below w.heap.size w wr) (fun _ t _ => M - (intOf t).toNat)
  case atStart => exact ⟨0, 0, Nat.zero_le _, by go_num, by go_num, by rw [HZ.out]; simp [runs], by simpa using hT, by simpa using htop, Below.refl _ _⟩
  case round =>
    obtain ⟨i, lo, hi, rfl, rfl, hz, hl, ht, hB⟩ := hrel
    by_cases hlt : i < M
    · obtain ⟨b, hb⟩ : ∃ b, T[i]? = some b := ⟨T[i]'(by rw [← HM.out]; exact hlt), List.getElem?_eq_getElem _⟩
      have hbl := blk_get HL.out.symm hb
      have hdr : L.drop i = b.blk :: L.drop (i + 1) := by
        have hh := (List.getElem?_eq_some_iff.1 hbl)
        rw [List.drop_eq_getElem_cons hh.1, hh.2]
      rw [hdr] at hz hl ht
      obtain ⟨l1, l2, l3, l4⟩ := hl
      have hab : b.a + b.xs.length ≤ 65536 := Nat.le_trans (Nat.le_trans (topL_ge l4) ht) hN6
      have hz2 := firstRun_step hz l3 hn
      have hlo : lo ≤ b.a := l1
      obtain ⟨g, rfl, -, e0, e1, e2⟩ := row_at (ownsRow_of_block HR.out fun k hk => hB.block k (HR.out.lt k hk).2) hb
      have hw1 : IntKind.i64.wrap ((b.a : Int) - lo) = ((b.a - lo : Nat) : Int) := by rw [IntWalk.i64_in _ (by omega)]; omega
      have HB := Lib.hid hB
      by_cases hgt : n ≤ b.a - lo
      · rw [show b.blk.a = b.a from rfl, if_pos hgt] at hz2
        have HQ := Lib.hid hz2
        clear hz ht hb hbl hdr hz2 l1 l2 l3 l4 hB
        go_wp2_with fail
        go_ret2
        exact HPP.out _ _ ⟨by rw [HQ.out]; rfl, HB.out⟩
      · rw [show b.blk.a = b.a from rfl, if_neg hgt] at hz2
        have HQ := Lib.hid (show firstRun n (runsFrom N 0 (b.a + b.xs.length) (i + 1) (L.drop (i + 1))) = Z ∧ Laid (b.a + b.xs.length) (L.drop (i + 1)) ∧ topL (b.a + b.xs.length) (L.drop (i + 1)) ≤ N from ⟨hz2, l4, ht⟩)
        clear hz ht hb hbl hdr hz2 l1 l2 l3 l4 hB
        go_wp2_with fail
        go_quiet (fail)
        go_wp2_with fail
        go_roundw
        case rel => exact ⟨i + 1, b.a + b.xs.length, by omega, by go_num, by go_num, HQ.out.1, HQ.out.2.1, HQ.out.2.2, HB.out.drewN _⟩
        case measure => simp [intOf]; omega
    · obtain rfl : i = M := by omega
      rw [List.drop_eq_nil_of_le (by rw [HLM.out]; exact Nat.le_refl _)] at hz ht
      have ht' : lo ≤ N := ht
      have hw1 : IntKind.i64.wrap ((N : Int) - lo) = ((N - lo : Nat) : Int) := by rw [IntWalk.i64_in _ (by omega)]; omega
      have HB := Lib.hid hB
      by_cases hgt : n ≤ N - lo
      · have HQ := Lib.hid (show Z = some ⟨lo, N - lo, i⟩ from by
          rw [← hz]
          unfold runsFrom
          rw [if_pos (by omega)]
          unfold firstRun
          rw [if_pos hgt])
        clear hz hl ht hB
        go_wp2_with fail
        go_ret2
        exact HPP.out _ _ ⟨by rw [HQ.out]; rfl, HB.out⟩
      · have HQ := Lib.hid (show Z = none from by
          rw [← hz]
          unfold runsFrom
          split
          · unfold firstRun
            rw [if_neg hgt]; rfl
          · rfl)
        clear hz hl ht hB
        go_wp2_with fail
        go_ret2
        exact HPP.out _ _ ⟨by rw [HQ.out]; rfl, HB.out⟩

/-! ### the handles -/
theorem Try.infoR3 : (Try.prog.info? 3).map (fun i => (i.zero, i.size, i.bytes)) = some (some (.int .i64 0), 1, 8) := by kernel_rfl

set_option maxHeartbeats 1000000 in
theorem ref_handles (J : RefS X w p S) :
    Calls Try.prog 51 #[.pointer (some ⟨p, 0, none⟩)] w fun e w' => HandlesPost w S e w' := by
  obtain ⟨i0, hi0, hz0, hz1, hz2⟩ := info_parts Try.infoR3
  obtain ⟨N, R, v, H, hr, hS⟩ := J
  have hL := hr.blks
  have hlen : R.length ≤ 65536 := by have := hr.length; have := hS.length; have := hS.size; omega
  have hwp := H.lt.1
  obtain ⟨A, c, rfl⟩ := H.shape
  obtain ⟨M, hM⟩ : ∃ M, M = R.length := ⟨_, rfl⟩
  have hN1 : M ≤ 65536 := by omega
  have HML := Lib.hid (hM.trans hr.length)
  have HM := Lib.hid hM
  have HH := Lib.hid H
  have HIN := Lib.hid hS
  clear hM H
  go_enter Try.func51, Try.ntmps51
  go_wp2_with fail
  go_loopw [3, 4] (fun out t4 wr => ∃ k : Nat, k ≤ 70000 ∧ t4 = .int .i64 (k + 1) ∧ wr.ownsRow w.heap.size 3 1 out (hsTo S.L k).length ((hsTo S.L k).map fun h : Nat => iv h) ∧ Below w.heap.size w wr) (fun _ t4 _ => 70001 - (intOf t4).toNat)
  case atStart => exact ⟨0, Nat.zero_le _, by go_num, World.ownsRow_nil _ _ _ _, Below.refl _ _⟩
  case round =>
    obtain ⟨k, hk, rfl, hown, hB⟩ := hrel
    obtain ⟨a0, cc, rfl⟩ := row_shape hown
    have H1 := HH.out.below hB
    have c1 := H1.c1
    rw [← HM.out] at c1
    have hhl := hsTo_le S.L k
    by_cases hlt : (hsTo S.L k).length < M
    · have hk7 : k < 70000 := hsTo_go HIN.out hk (by have := HML.out; omega)
      have F := ref_find H1 ((k : Int) + 1) hlen
      have hs := hsTo_succ S.L k
      have hcast : (((k + 1 : Nat)) : Int) = (k : Int) + 1 := by omega
      rw [hcast] at hs
      have HS := Lib.hid hs
      have HOWN := Lib.hid hown
      have HB := Lib.hid hB
      clear hs hcast hown hB H1
      go_wp2_with fail
      refine F.mono ?_
      clear F
      rintro e w1 ⟨(⟨i, b, hat, rfl⟩ | ⟨hno, rfl⟩), rfl⟩
      · have hgb := (getB_at hat).1
        rw [hL] at hgb
        have HGB := Lib.hid hgb
        have hlt := (List.getElem?_eq_some_iff.1 hat.1).1
        have hBs := HB.out.size
        clear hgb hat
        go_wp2_with (at_builtin; refine wpList_append_own _ rfl _ _ 43 rfl w.heap.size 3 i0 (.int .i64 0) 1 8 Try.underlying43 hi0 hz0 hz1 hz2 rfl (by decide) _ _ _ rfl (HOWN.out.alloc _) _ _ _ [.int .i64 ((k : Int) + 1)] rfl rfl ?_ ?_ ?_ ?_ ?_ ?_)
        · exact cell_new1 _ (.int .i64 ((k : Int) + 1)) 3
        · intro u hu; simp at hu; subst hu; rfl
        · unfold maxLen; omega
        · omega
        · simp; omega
        intro v' w2 hown2 hg2 _
        go_wp2_with fail
        go_roundw
        case rel =>
          have hh := HS.out
          rw [HGB.out] at hh
          simp only [Option.isSome_some, if_true] at hh
          refine ⟨k + 1, by omega, by go_num, ?_, ?_⟩
          · rw [hh]; simpa [iv] using hown2
          · refine (HB.out.alloc hBs _).grown hg2 (by simp; omega) ?_
            intro j hj
            exact (HOWN.out.lt j hj).1
        case measure => simp [intOf]; omega
      · have hgb := getB_no hno
        rw [hL] at hgb
        have HGB := Lib.hid hgb
        clear hgb hno
        go_wp2_with fail
        go_roundw
        case rel =>
          have hh := HS.out
          rw [HGB.out] at hh
          simp at hh
          exact ⟨k + 1, by omega, by go_num, by rw [hh]; exact HOWN.out, HB.out⟩
        case measure => simp [intOf]; omega
    · have hs := hsTo_stop HIN.out hk (by have := HML.out; omega)
      have hl := hsTo_len HIN.out
      have HP : HandlesPost w S (.returned (.slice a0 (hsTo S.L k).length cc)) wr := ⟨_, rfl, by rw [← hl, ← hs]; exact hown, hB⟩
      have HP := Lib.hid HP
      clear hs hl hown
      go_wp2_with fail
      go_ret
      exact HP.out
end Go.Proofs.Ytpaopcnbgdlgnaa
