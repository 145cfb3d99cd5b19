/- The document's table: Next. -/
import Derived.Test.YtpodgmajccmgkaaR6Get
import Derived.Deep.DeepCutAuto
namespace Go.Proofs.Ytpodgmajccmgkaa
open Go.RowKit Go.Shelf
set_option linter.unusedVariables false
set_option linter.unusedSimpArgs false
attribute [local go_sem] Oper.semAt_some field_t

variable {w w' W W' : World} {p : Nat} {A L : Value} {T T' : Tb}

/-! ### the pairs by their places -/
def pairAt (T : Tb) (i : Nat) : Option Pr := if i < T.a then arrP T i else nodP T (i - T.a)
def posN (T : Tb) (i : Nat) : Nat := if i < T.a then i else T.a + 2 * (i - T.a) + 1
theorem pairAt_pos {i : Nat} {x : Pr} (h : pairAt T i = some x) : x.i = posN T i := by
  unfold pairAt at h
  unfold posN
  split at h
  · rename_i hi
    rw [if_pos hi]
    rw [arrP_eq] at h
    split at h
    · cases h
    · cases h; rfl
  · rename_i hi
    rw [if_neg hi]
    rw [nodP_eq] at h
    split at h
    · cases h
    · cases h; rfl
theorem fm_congr {α β : Type} {f g : α → Option β} : ∀ l : List α, (∀ i, i ∈ l → f i = g i) → l.filterMap f = l.filterMap g := by
  intro l
  induction l with
  | nil => intro _; rfl
  | cons x l ih =>
    intro h
    rw [List.filterMap_cons, List.filterMap_cons, h x (by simp), ih (fun i hi => h i (by simp [hi]))]
theorem pairs_at (T : Tb) : pairsL T = (List.range (T.a + T.nodes)).filterMap (pairAt T) := by
  rw [List.range_add, List.filterMap_append, List.filterMap_map]
  unfold pairsL arrL nodL
  congr 1
  · refine fm_congr _ (fun i hi => ?_)
    unfold pairAt
    rw [if_pos (List.mem_range.1 hi)]
  · refine fm_congr _ (fun i _ => ?_)
    unfold pairAt
    simp only [Function.comp]
    rw [if_neg (by omega), Nat.add_sub_cancel_left]
def scanN (T : Tb) : Nat → Nat → V × V × Int
  | _, 0 => (nilV, nilV, 0)
  | i, f + 1 => match pairAt T i with
    | some x => (x.k, x.v, 0)
    | none => scanN T (i + 1) f
theorem scan_find (p : Pr → Bool) : ∀ (m s : Nat), (∀ i x, s ≤ i → pairAt T i = some x → p x = true) → nxR (((List.range' s m).filterMap (pairAt T)).find? p) = scanN T s m := by
  intro m
  induction m with
  | zero => intro s _; rfl
  | succ m ih =>
    intro s hp
    rw [List.range'_succ, List.filterMap_cons]
    unfold scanN
    cases h : pairAt T s with
    | none =>
      simp only
      exact ih (s + 1) (fun i x hi hx => hp i x (by omega) hx)
    | some x =>
      simp only
      rw [List.find?_cons, hp s x (Nat.le_refl _) h]
      rfl
theorem nx_scan {f : Int} {s : Nat} (hs : s ≤ T.a + T.nodes) (hf : ∀ i : Nat, f < (posN T i : Int) ↔ s ≤ i) : nx T f = scanN T s (T.a + T.nodes - s) := by
  unfold nx
  have hr : List.range (T.a + T.nodes) = List.range' 0 s ++ List.range' s (T.a + T.nodes - s) := by
    rw [List.range_eq_range', show T.a + T.nodes = s + (T.a + T.nodes - s) by omega, ← List.range'_append_1]
    rw [show 0 + s = s by omega, show s + (T.a + T.nodes - s) - s = T.a + T.nodes - s by omega]
  rw [pairs_at, hr, List.filterMap_append, List.find?_append]
  have h1 : ((List.range' 0 s).filterMap (pairAt T)).find? (isNx f) = none := by
    rw [List.find?_eq_none]
    intro x hx
    obtain ⟨i, hi, hp⟩ := List.mem_filterMap.1 hx
    have hi2 : i < s := by have := List.mem_range'_1.1 hi; omega
    have hpos := pairAt_pos hp
    have := (not_congr (hf i)).2 (by omega)
    unfold isNx
    rw [decide_eq_true_eq, hpos]; exact this
  rw [h1, Option.none_or]
  refine scan_find _ _ _ (fun i x hi hx => ?_)
  have hpos := pairAt_pos hx
  unfold isNx
  rw [decide_eq_true_eq, hpos]
  exact (hf i).2 hi
theorem nx_zero (T : Tb) : nx T (-1) = scanN T 0 (T.a + T.nodes - 0) := nx_scan (Nat.zero_le _) (fun i => ⟨fun _ => Nat.zero_le _, fun _ => by omega⟩)
theorem nx_at {m : Nat} (hm : m < T.a + T.nodes) : nx T (posN T m : Int) = scanN T (m + 1) (T.a + T.nodes - (m + 1)) := by
  refine nx_scan (by omega) (fun i => ?_)
  unfold posN
  split <;> split <;> omega

/-- What Next answers, by the place of the key. -/
theorem nextR_place {k k' : V} (h0 : k.t ≠ 0) (hk : keyR k = some k') : (placeN T k' < 0 ∧ nextR T k = (nilV, nilV, 13)) ∨ ∃ m : Nat, m < T.a + T.nodes ∧ placeN T k' = (m : Int) ∧ nextR T k = scanN T (m + 1) (T.a + T.nodes - (m + 1)) := by
  unfold nextR placeN
  rw [if_neg h0, hk]
  simp only
  rw [findT_ref]
  by_cases hi : inAB T k' = true
  · rw [if_pos hi, if_pos hi]
    have hin := inAB_iff.1 hi
    unfold inA at hin
    right
    refine ⟨(k'.n - 1).toNat, by omega, by omega, ?_⟩
    simp only
    rw [if_neg (by omega), ← nx_at (by omega)]
    congr 1
    unfold posN
    rw [if_pos (by omega)]; omega
  · rw [if_neg hi, if_neg hi]
    simp only
    rcases (findN_range T k').1 with h | ⟨y, hy, h⟩
    · rw [h]; left; exact ⟨by rw [if_pos (by decide)]; decide, rfl⟩
    · right
      refine ⟨T.a + y, by omega, by rw [h, if_neg (by omega)]; omega, ?_⟩
      rw [h, if_neg (by omega), if_neg (by omega), ← nx_at (by omega)]
      congr 1
      unfold posN
      rw [if_neg (by omega)]; omega
theorem nextR_bad {k : V} (h0 : k.t ≠ 0) (hk : keyR k = none) : nextR T k = (nilV, nilV, 13) := by
  unfold nextR
  rw [if_neg h0, hk]
theorem nextR_nil {k : V} (h0 : k.t = 0) : nextR T k = scanN T 0 (T.a + T.nodes - 0) := by
  unfold nextR
  rw [if_pos h0, nx_zero]

theorem rplace_is (H : RefAt w p A L T) {k : V} {r : Int} (hr : placeN T k = r) : Calls Try.prog 58 #[.pointer (some ⟨p, 0, none⟩), .agg #[.bool false, .slice none 0 0, .slice none 0 0], .agg #[.int .i64 k.t, .int .i64 k.n]] w fun e w' => e = .returned (.int .i64 r) ∧ Below w.heap.size w w' := by
  have := rplace_any H k
  rw [hr] at this
  exact this

/-- Next's cells. -/
def NxF (w : World) (kt kn : Int) (W : World) : Prop :=
  Fr w [(w.heap.size, [.bool false, .slice none 0 0, .slice none 0 0], 77), (w.heap.size + 1, [.int .i64 kt, .int .i64 kn], 27), (w.heap.size + 1 + 1, [.int .i64 0, .int .i64 0], 27), (w.heap.size + 1 + 1 + 1, [.int .i64 0, .int .i64 0], 27)] W
theorem NxF.step {kt kn : Int} (h : NxF w kt kn W) (hb : Below W.heap.size W W') : NxF w kt kn W' := Fr.step h hb
theorem NxF.h {kt kn : Int} (h : NxF w kt kn W) : W.cell? ⟨w.heap.size, 0, none⟩ = some (.bool false) ∧ W.cell? ⟨w.heap.size, 1, none⟩ = some (.slice none 0 0) ∧ W.cell? ⟨w.heap.size, 2, none⟩ = some (.slice none 0 0) :=
  (Fr.box h (w.heap.size, [.bool false, .slice none 0 0, .slice none 0 0], 77) (by simp)).cells3
theorem NxF.k {kt kn : Int} (h : NxF w kt kn W) : W.cell? ⟨w.heap.size + 1, 0, none⟩ = some (.int .i64 kt) ∧ W.cell? ⟨w.heap.size + 1, 1, none⟩ = some (.int .i64 kn) :=
  let ⟨a, b, _, _⟩ := (Fr.box h (w.heap.size + 1, [.int .i64 kt, .int .i64 kn], 27) (by simp)).cells2; ⟨a, b⟩
theorem NxF.r {kt kn : Int} (h : NxF w kt kn W) : W.cell? ⟨w.heap.size + 1 + 1, 0, none⟩ = some (.int .i64 0) ∧ W.cell? ⟨w.heap.size + 1 + 1, 1, none⟩ = some (.int .i64 0) ∧ W.frozen? ⟨w.heap.size + 1 + 1, 0, none⟩ = false ∧ W.frozen? ⟨w.heap.size + 1 + 1, 1, none⟩ = false :=
  (Fr.box h (w.heap.size + 1 + 1, [.int .i64 0, .int .i64 0], 27) (by simp)).cells2
theorem NxF.s {kt kn : Int} (h : NxF w kt kn W) : W.cell? ⟨w.heap.size + 1 + 1 + 1, 0, none⟩ = some (.int .i64 0) ∧ W.cell? ⟨w.heap.size + 1 + 1 + 1, 1, none⟩ = some (.int .i64 0) ∧ W.frozen? ⟨w.heap.size + 1 + 1 + 1, 0, none⟩ = false ∧ W.frozen? ⟨w.heap.size + 1 + 1 + 1, 1, none⟩ = false :=
  (Fr.box h (w.heap.size + 1 + 1 + 1, [.int .i64 0, .int .i64 0], 27) (by simp)).cells2
theorem NxF.lt {kt kn : Int} (h : NxF w kt kn W) : w.heap.size + 1 + 1 + 1 < W.heap.size :=
  (Fr.box h (w.heap.size + 1 + 1 + 1, [.int .i64 0, .int .i64 0], 27) (by simp)).lt
theorem NxF.mk' (w : World) (kt kn : Int) : NxF w kt kn ((((w.alloc (.cells #[.bool false, .slice none 0 0, .slice none 0 0] 77)).alloc (.cells #[.int .i64 kt, .int .i64 kn] 27)).alloc (.cells #[.int .i64 0, .int .i64 0] 27)).alloc (.cells #[.int .i64 0, .int .i64 0] 27)) := by
  obtain ⟨W0, hW0⟩ : ∃ W0, W0 = (((w.alloc (.cells #[.bool false, .slice none 0 0, .slice none 0 0] 77)).alloc (.cells #[.int .i64 kt, .int .i64 kn] 27)).alloc (.cells #[.int .i64 0, .int .i64 0] 27)).alloc (.cells #[.int .i64 0, .int .i64 0] 27) := ⟨_, rfl⟩
  have h0 : Box W0 w.heap.size [.bool false, .slice none 0 0, .slice none 0 0] 77 := (by rw [hW0]; unfold Box World.alloc; simp only [Array.getElem?_push, Array.size_push]; repeat (first | rw [if_neg (by omega)] | rw [if_pos (by omega)] | rw [if_pos trivial]))
  have h1 : Box W0 (w.heap.size + 1) [.int .i64 kt, .int .i64 kn] 27 := (by rw [hW0]; unfold Box World.alloc; simp only [Array.getElem?_push, Array.size_push]; repeat (first | rw [if_neg (by omega)] | rw [if_pos (by omega)] | rw [if_pos trivial]))
  have h2 : Box W0 (w.heap.size + 1 + 1) [.int .i64 0, .int .i64 0] 27 := (by rw [hW0]; unfold Box World.alloc; simp only [Array.getElem?_push, Array.size_push]; repeat (first | rw [if_neg (by omega)] | rw [if_pos (by omega)] | rw [if_pos trivial]))
  have h3 : Box W0 (w.heap.size + 1 + 1 + 1) [.int .i64 0, .int .i64 0] 27 := (by rw [hW0]; unfold Box World.alloc; simp only [Array.getElem?_push, Array.size_push]; repeat (first | rw [if_neg (by omega)] | rw [if_pos (by omega)] | rw [if_pos trivial]))
  have hB0 : Below w.heap.size w W0 := by rw [hW0]; exact (by repeat (first | exact Below.refl _ _ | refine Below.alloc ?_ (by first | (simp; done) | (simp; omega)) _ | refine Below.drew ?_ | refine Below.setCell ?_ (by first | (simp; done) | (simp; omega)) _))
  rw [← hW0]
  refine ⟨fun x hx => ?_, hB0⟩
  simp only [List.mem_cons, List.not_mem_nil, or_false] at hx
  rcases hx with rfl | rfl | rfl | rfl
  · exact h0
  · exact h1
  · exact h2
  · exact h3

/-- Where the search begins. -/
def NxI (w : World) (T : Tb) (kt kn : Int) (R : V × V × Int) (t9 : Value) (W : World) : Prop :=
  ∃ s : Nat, s ≤ T.a + T.nodes ∧ t9 = .int .i64 ((s : Int) - 1) ∧ R = scanN T s (T.a + T.nodes - s) ∧ NxF w kt kn W
theorem scanN_arr {i : Nat} (hi : i < T.a) : scanN T i (T.a + T.nodes - i) = if (aN T i).t = 0 then scanN T (i + 1) (T.a + T.nodes - (i + 1)) else (⟨2, (i : Int) + 1⟩, aN T i, 0) := by
  rw [show T.a + T.nodes - i = (T.a + T.nodes - (i + 1)) + 1 by omega]
  conv => lhs; unfold scanN
  have : pairAt T i = arrP T i := by unfold pairAt; rw [if_pos hi]
  rw [this, arrP_eq]
  split <;> rename_i h
  · split at h
    · cases h
    · cases h; rename_i h0; rw [if_neg h0]
  · split at h
    · rename_i h0; rw [if_pos h0]
    · cases h
theorem scanN_nod {j : Nat} (hj : j < T.nodes) : scanN T (T.a + j) (T.a + T.nodes - (T.a + j)) = if (vN T j).t = 0 then scanN T (T.a + j + 1) (T.a + T.nodes - (T.a + j + 1)) else (kN T j, vN T j, 0) := by
  rw [show T.a + T.nodes - (T.a + j) = (T.a + T.nodes - (T.a + j + 1)) + 1 by omega]
  conv => lhs; unfold scanN
  have : pairAt T (T.a + j) = nodP T j := by unfold pairAt; rw [if_neg (by omega), Nat.add_sub_cancel_left]
  rw [this, nodP_eq]
  split <;> rename_i h
  · split at h
    · cases h
    · cases h; rename_i h0; rw [if_neg h0]
  · split at h
    · rename_i h0; rw [if_pos h0]
    · cases h

set_option maxRecDepth 100000 in
set_option maxHeartbeats 4000000 in
theorem rnext_any (H : RefAt w p A L T) (k : V) : Calls Try.prog 40 #[.pointer (some ⟨p, 0, none⟩), .agg #[.bool false, .slice none 0 0, .slice none 0 0], .agg #[.int .i64 k.t, .int .i64 k.n]] w fun e w' => e = .returned (encNx (nextR T k)) ∧ Below w.heap.size w w' := by
  obtain ⟨a, b, q, hq⟩ := keyIs_ex k
  have HK := Lib.hid (fun w => rkey_as hq w)
  have HQ := Lib.hid hq
  obtain ⟨R, hR⟩ : ∃ R, R = nextR T k := ⟨_, rfl⟩
  rw [← hR]
  have HH := Lib.hid H
  have HOW := Lib.hid (fun k (h : OwnR p A L k) => H.own_lt h)
  have HNIL := Lib.hid (fun h => hR.trans (nextR_nil (T := T) (k := k) h))
  have HBAD := Lib.hid (fun h h2 => hR.trans (nextR_bad (T := T) (k := k) h h2))
  have HPL := Lib.hid (fun (h : k.t ≠ 0) (h2 : keyR k = some ⟨a, b⟩) => nextR_place (T := T) h h2)
  have HRE := Lib.hid hR
  obtain ⟨kt, kn⟩ := k
  simp only at *
  clear hq hR H
  obtain ⟨W0, hW0⟩ : ∃ W0, W0 = (((w.alloc (.cells #[.bool false, .slice none 0 0, .slice none 0 0] 77)).alloc (.cells #[.int .i64 kt, .int .i64 kn] 27)).alloc (.cells #[.int .i64 0, .int .i64 0] 27)).alloc (.cells #[.int .i64 0, .int .i64 0] 27) := ⟨_, rfl⟩
  have hF := NxF.mk' w kt kn
  rw [← hW0] at hF
  have HF := Lib.hid hF
  have HW := Lib.hid hW0
  clear hF hW0
  go_enter Try.func40, Try.ntmps40
  go_upto_if 15 with fail
  rw [← HW.out]
  go_cut [9] (fun t9 wx => NxI w T kt kn R t9 wx)
  case first =>
    by_cases h0 : kt = 0
    · have HN := Lib.hid (HNIL.out h0)
      subst h0
      go_wp2_with fail
      go_meet
      exact ⟨0, Nat.zero_le _, by rfl, HN.out, HF.out⟩
    · have h0' : (kt != 0) = true := by simp [h0]
      obtain ⟨k0, k1⟩ := HF.out.k
      go_wp2_with fail
      refine (HK.out _).mono ?_
      rintro e w1 ⟨rfl, hb1⟩
      have hF1 := (HF.out.step hb1).step (below_alloc w1 (.cells #[.int .i64 a, .int .i64 b] 27))
      have HF1 := Lib.hid hF1
      clear k0 k1
      obtain ⟨x0, x1, x2⟩ := HF1.out.h
      cases q with
      | false =>
        have hR : R = (nilV, nilV, 13) := by
          rcases HQ.out with ⟨h, -⟩ | ⟨-, h, -⟩
          · cases h
          · exact HBAD.out h0 h
        have HR := Lib.hid hR
        obtain ⟨r0, r1, rf0, rf1⟩ := HF1.out.r
        obtain ⟨s0, s1, sf0, sf1⟩ := HF1.out.s
        have HB := Lib.hid hF1.b
        clear hR hb1 hF1 h0
        go_wp2_with fail
        refine bodyPost_ret (v := encNx (nilV, nilV, 13)) (by simp [results, Try.results40, go_sem, r0, r1, s0, s1, encNx, nilV]) rfl ⟨by rw [HR.out], ?_⟩
        exact ((((HB.out).setCell (p := ⟨w.heap.size + 1 + 1, 0, none⟩) (by simp only; omega) _).setCell (p := ⟨w.heap.size + 1 + 1, 1, none⟩) (by simp only; omega) _).setCell (p := ⟨w.heap.size + 1 + 1 + 1, 0, none⟩) (by simp only; omega) _).setCell (p := ⟨w.heap.size + 1 + 1 + 1, 1, none⟩) (by simp only; omega) _
      | true =>
        have hkr : keyR ⟨kt, kn⟩ = some ⟨a, b⟩ := by
          rcases HQ.out with ⟨-, h⟩ | ⟨h, -⟩
          · exact h
          · cases h
        have HPL2 := Lib.hid (HPL.out h0 hkr)
        obtain ⟨r, hr⟩ : ∃ r, placeN T ⟨a, b⟩ = r := ⟨_, rfl⟩
        have HPC := Lib.hid (fun w (h : RefAt w p A L T) => rplace_is h hr)
        have hp2 := HPL2.out
        rw [hr, ← HRE.out] at hp2
        have HP3 := Lib.hid hp2
        have HR1 := Lib.hid (HH.out.below hF1.b)
        clear hkr hr hp2 hb1 hF1 h0
        go_wp2_with fail
        refine (HPC.out _ HR1.out).mono ?_
        rintro e w2 ⟨rfl, hb2⟩
        have HF2 := Lib.hid (HF1.out.step hb2)
        clear hb2 x0 x1 x2
        rcases HP3.out with ⟨hneg, hR⟩ | ⟨m, hm, rfl, hR⟩
        · have HR := Lib.hid hR
          obtain ⟨r0, r1, rf0, rf1⟩ := HF2.out.r
          obtain ⟨s0, s1, sf0, sf1⟩ := HF2.out.s
          have HB := Lib.hid HF2.out.b
          clear hR
          go_wp2_with fail
          refine bodyPost_ret (v := encNx (nilV, nilV, 13)) (by simp [results, Try.results40, go_sem, r0, r1, s0, s1, encNx, nilV]) rfl ⟨by rw [HR.out], ?_⟩
          exact ((((HB.out).setCell (p := ⟨w.heap.size + 1 + 1, 0, none⟩) (by simp only; omega) _).setCell (p := ⟨w.heap.size + 1 + 1, 1, none⟩) (by simp only; omega) _).setCell (p := ⟨w.heap.size + 1 + 1 + 1, 0, none⟩) (by simp only; omega) _).setCell (p := ⟨w.heap.size + 1 + 1 + 1, 1, none⟩) (by simp only; omega) _
        · have HR := Lib.hid hR
          have HM := Lib.hid hm
          clear hR hm
          go_wp2_with fail
          go_meet
          exact ⟨m + 1, HM.out, by rw [Int.natCast_add, Int.natCast_one, Int.add_sub_cancel], HR.out, HF2.out⟩
  case rest =>
    obtain ⟨s, hs, rfl, hR, hF⟩ := hcut
    have HF1 := Lib.hid hF
    have HR1 := Lib.hid (HH.out.below hF.b)
    have hsm : T.a + 2 * T.nodes ≤ 1000000 := by have := HH.out.small; have := HH.out.exact_; omega
    have hw1 : IntKind.i64.wrap ((s : Int) - 1 + 1) = s := by rw [IntWalk.i64_in _ (by omega)]; omega
    have hw1' : IntKind.i64.wrap (s : Int) = s := IntWalk.i64_in _ (by omega)
    have HS := Lib.hid hs
    have HRS := Lib.hid hR
    obtain ⟨gA, rfl, hgA⟩ := HR1.out.shapeA
    obtain ⟨gL, rfl, hgL⟩ := HR1.out.shapeL
    obtain ⟨N, hN⟩ : ∃ N, N = T.nodes := ⟨_, rfl⟩
    obtain ⟨M, hM⟩ : ∃ M, M = T.a := ⟨_, rfl⟩
    rw [← hN] at hsm hgL
    rw [← hM] at hsm hgA
    have HN := Lib.hid hN
    have HM := Lib.hid hM
    have HGA := Lib.hid hgA
    have HGL := Lib.hid hgL
    clear hF hs hR hN hM hgA hgL HK HQ HNIL HBAD HPL HF HW HH
    go_wp2_with fail
    clear hw1 hw1'
    go_loopw [12] (fun t12 wr => ∃ i : Nat, i ≤ M + N ∧ t12 = .int .i64 i ∧ R = scanN T i (M + N - i) ∧ Below wc.heap.size wc wr) (fun t12 _ => M + N - (intOf t12).toNat)
    case atStart => exact ⟨s, by have := HS.out; rw [HM.out, HN.out]; exact this, rfl, by rw [HM.out, HN.out]; exact HRS.out, Below.refl _ _⟩
    case round =>
      obtain ⟨i, hi, rfl, hR, hB⟩ := hrel
      have HF2 := Lib.hid (HF1.out.step hB)
      have HR2 := Lib.hid (HR1.out.below hB)
      have HB := Lib.hid hB
      have HRS2 := Lib.hid hR
      have c0 := HR2.out.c0
      have c1 := HR2.out.c1
      rw [← HM.out] at c0
      rw [← HN.out] at c1
      have hw2 : IntKind.i64.wrap ((M : Int) + (N : Int)) = (M : Int) + (N : Int) := IntWalk.i64_in _ (by omega)
      clear hB hR
      by_cases hlt : i < M + N
      · have g1 : decide ((i : Int) < (M : Int) + (N : Int)) = true := decide_eq_true (by omega)
        have g2 : decide (i < M + N) = true := decide_eq_true hlt
        go_wp2_with fail
        go_quiet (fail)
        by_cases hiM : i < M
        · obtain ⟨g, rfl⟩ := HGA.out (by omega)
          have hiT : i < T.a := by rw [← HM.out]; exact hiM
          have hsc := scanN_arr (T := T) hiT
          rw [← HM.out, ← HN.out, ← HRS2.out] at hsc
          obtain ⟨d0, d1⟩ := HR2.out.arrC hiT
          obtain ⟨⟨xt, xn⟩, hx⟩ : ∃ v, v = aN T i := ⟨_, rfl⟩
          rw [← hx] at d0 d1 hsc
          simp only at d0 d1 hsc
          have HSC := Lib.hid hsc
          have HX := Lib.hid hx
          have g3 : decide ((i : Int) < (M : Int)) = true := decide_eq_true (by omega)
          have g4 : decide (i < M) = true := decide_eq_true hiM
          clear hsc hx
          by_cases hz : xt = 0
          · have hR := HSC.out
            rw [if_pos hz] at hR
            have HR3 := Lib.hid hR
            have hz' : (xt != 0) = false := by simp [hz]
            clear hR HSC
            subst hz
            go_wp2_with fail
            go_roundw
            case rel => exact ⟨i + 1, by omega, by go_num, HR3.out, below_drewN HB.out _⟩
            case measure => simp [intOf]; omega
          · have hR := HSC.out
            rw [if_neg hz] at hR
            have HR3 := Lib.hid hR
            have hz' : (xt != 0) = true := by simp [hz]
            have hw4 : IntKind.i64.wrap ((i : Int) + 1) = (i : Int) + 1 := IntWalk.i64_in _ (by omega)
            have HF3 := Lib.hid (HF2.out.step (below_drewN (Below.refl _ wr) nq))
            have HRT := Lib.hid (HR2.out.below (below_drewN (Below.refl _ wr) nq))
            obtain ⟨W3, hW3⟩ : ∃ W, W = wr.drewN nq := ⟨_, rfl⟩
            rw [← hW3] at HF3 HRT
            have HALL : Hid (∀ w', Below W3.heap.size W3 w' → (w'.cell? ⟨p, 0, none⟩ = some (.slice (some ⟨g, 0, none⟩) M M) ∧ w'.cell? ⟨g, i * 2, none⟩ = some (.int .i64 xt) ∧ w'.cell? ⟨g, i * 2 + 1, none⟩ = some (.int .i64 xn)) ∧ NxF w kt kn w') := by
              refine Lib.hid (fun w' hb => ⟨⟨?_, ?_, ?_⟩, HF3.out.step hb⟩)
              · rw [HM.out]; exact (HRT.out.below hb).c0
              · have := ((HRT.out.below hb).arrC hiT).1; rw [← HX.out] at this; exact this
              · have := ((HRT.out.below hb).arrC hiT).2; rw [← HX.out] at this; exact this
            clear hR HSC
            go_wp2_with fail
            rw [← hW3]
            have HB3 := Lib.hid (show Below wc.heap.size wc W3 from by rw [hW3]; exact below_drewN HB.out _)
            clear hW3 c0 c1 d0 d1 HB HF2 HR2
            obtain ⟨⟨c0, d0, d1⟩, hf⟩ := HALL.out _ (Below.refl _ _)
            obtain ⟨r0, r1, rf0, rf1⟩ := hf.r
            obtain ⟨s0, s1, sf0, sf1⟩ := hf.s
            clear hf
            have hp1 : w.heap.size + 1 + 1 ≠ p := by have := HOW.out p (.inl rfl); omega
            have hp2 : w.heap.size + 1 + 1 + 1 ≠ p := by have := HOW.out p (.inl rfl); omega
            have hg1 : w.heap.size + 1 + 1 ≠ g := by have := HOW.out g (.inr (.inl rfl)); omega
            have hg2 : w.heap.size + 1 + 1 + 1 ≠ g := by have := HOW.out g (.inr (.inl rfl)); omega
            go_region_held3 (fun w' => w'.cell? ⟨p, 0, none⟩ = some (.slice (some ⟨g, 0, none⟩) M M) ∧ w'.cell? ⟨g, i * 2, none⟩ = some (.int .i64 xt) ∧ w'.cell? ⟨g, i * 2 + 1, none⟩ = some (.int .i64 xn))
              (first | assumption | exact ⟨c0, d0, d1⟩ | (simp [*, World.cell?_alloc_some, World.cell?_setCell_far]))
              ((go_at_call 50; refine (rint_any' _ _).mono ?_; rintro e w4 ⟨rfl, hb4⟩; have hb5 : Below W3.heap.size W3 w4 := ⟨hb4.os, hb4.tape, hb4.output, hb4.size, hb4.block⟩; have HB5 := Lib.hid hb5; obtain ⟨hs1, hf⟩ := HALL.out _ hb5; obtain ⟨r0', r1', rf0', rf1'⟩ := hf.r; obtain ⟨s0', s1', sf0', sf1'⟩ := hf.s; clear hf hb4 hb5))
            all_goals (
              have HR9 := Lib.hid HR3.out
              clear hs1 c0 d0 d1
              go_wp2_with fail
              refine bodyPost_ret (v := encNx (⟨2, (i : Int) + 1⟩, ⟨xt, xn⟩, 0)) (by simp [results, Try.results40, go_sem, r0', r1', s0', s1', encNx]) rfl ⟨by rw [HR9.out], ?_⟩
              exact (((((HF1.out.b.trans (HB3.out.mono HF1.out.b.size)).trans (HB5.out.mono ((HF1.out.b.trans (HB3.out.mono HF1.out.b.size))).size)).setCell (p := ⟨w.heap.size + 1 + 1, 0, none⟩) (by simp only; omega) _).setCell (p := ⟨w.heap.size + 1 + 1, 1, none⟩) (by simp only; omega) _).setCell (p := ⟨w.heap.size + 1 + 1 + 1, 0, none⟩) (by simp only; omega) _).setCell (p := ⟨w.heap.size + 1 + 1 + 1, 1, none⟩) (by simp only; omega) _)
        · obtain ⟨j, hj⟩ : ∃ j, i = M + j := ⟨i - M, by omega⟩
          have hjN : j < N := by omega
          have hjT : j < T.nodes := by rw [← HN.out]; exact hjN
          obtain ⟨g, rfl⟩ := HGL.out (by omega)
          have hsc := scanN_nod (T := T) hjT
          rw [← HM.out, ← HN.out, ← hj, ← HRS2.out] at hsc
          obtain ⟨d0, d1, d2, d3⟩ := HR2.out.nodC hjT
          obtain ⟨⟨xt, xn⟩, hx⟩ : ∃ v, v = vN T j := ⟨_, rfl⟩
          obtain ⟨⟨yt, yn⟩, hy⟩ : ∃ v, v = kN T j := ⟨_, rfl⟩
          rw [← hx] at d2 d3 hsc
          rw [← hy] at d0 d1 hsc
          simp only at d0 d1 d2 d3 hsc
          have HSC := Lib.hid hsc
          have g3 : decide ((i : Int) < (M : Int)) = false := decide_eq_false (by omega)
          have g4 : decide (i < M) = false := decide_eq_false hiM
          have hw3 : IntKind.i64.wrap ((i : Int) - (M : Int)) = (j : Int) := by rw [IntWalk.i64_in _ (by omega)]; omega
          have hj1 : (0 : Int) ≤ (j : Int) := by omega
          have hj2 : (j : Int) < (N : Int) := by omega
          have HJ := Lib.hid hj
          obtain ⟨W3, hW3⟩ : ∃ W, W = wr.drewN nq := ⟨_, rfl⟩
          have HB3 := Lib.hid (show Below wc.heap.size wc W3 from by rw [hW3]; exact below_drewN HB.out _)
          have HF3 := Lib.hid (show NxF w kt kn W3 from by rw [hW3]; exact HF2.out.step (below_drewN (Below.refl _ wr) nq))
          have k0 : W3.cell? ⟨p, 0, none⟩ = some (.slice gA M M) := by rw [hW3]; exact c0
          have k1 : W3.cell? ⟨p, 1, none⟩ = some (.slice (some ⟨g, 0, none⟩) N N) := by rw [hW3]; exact c1
          have e0 : W3.cell? ⟨g, j * 4, none⟩ = some (.int .i64 yt) := by rw [hW3]; exact d0
          have e1 : W3.cell? ⟨g, j * 4 + 1, none⟩ = some (.int .i64 yn) := by rw [hW3]; exact d1
          have e2 : W3.cell? ⟨g, j * 4 + 2, none⟩ = some (.int .i64 xt) := by rw [hW3]; exact d2
          have e3 : W3.cell? ⟨g, j * 4 + 2 + 1, none⟩ = some (.int .i64 xn) := by rw [hW3]; exact d3
          clear hsc hx hy hj d0 d1 d2 d3 c0 c1 HB HF2 HR2
          rw [← hW3]
          clear hW3
          by_cases hz : xt = 0
          · have hR := HSC.out
            rw [if_pos hz] at hR
            have HR3 := Lib.hid hR
            have hz' : (xt != 0) = false := by simp [hz]
            clear hR HSC
            subst hz
            go_wp2_with fail
            go_quiet (fail)
            go_wp2_with fail
            go_roundw
            case rel => exact ⟨i + 1, by omega, by go_num, HR3.out, below_drewN HB3.out _⟩
            case measure => simp [intOf]; omega
          · have hR := HSC.out
            rw [if_neg hz] at hR
            have HR3 := Lib.hid hR
            have hz' : (xt != 0) = true := by simp [hz]
            obtain ⟨r0, r1, rf0, rf1⟩ := HF3.out.r
            obtain ⟨s0, s1, sf0, sf1⟩ := HF3.out.s
            clear hR HSC
            go_wp2_with fail
            go_quiet (fail)
            go_wp2_with fail
            have hp1 : w.heap.size + 1 + 1 ≠ p := by have := HOW.out p (.inl rfl); omega
            have hp2 : w.heap.size + 1 + 1 + 1 ≠ p := by have := HOW.out p (.inl rfl); omega
            have hg1 : w.heap.size + 1 + 1 ≠ g := by have := HOW.out g (.inr (.inr rfl)); omega
            have hg2 : w.heap.size + 1 + 1 + 1 ≠ g := by have := HOW.out g (.inr (.inr rfl)); omega
            have HBX : Hid (∀ n, Below w.heap.size w (W3.drewN n)) := Lib.hid (fun n => below_drewN (HF1.out.b.trans (HB3.out.mono HF1.out.b.size)) n)
            clear HB3 HF3
            go_region_held3 (fun w' => w'.cell? ⟨p, 0, none⟩ = some (.slice gA M M) ∧ w'.cell? ⟨p, 1, none⟩ = some (.slice (some ⟨g, 0, none⟩) N N) ∧ w'.cell? ⟨g, j * 4, none⟩ = some (.int .i64 yt) ∧ w'.cell? ⟨g, j * 4 + 1, none⟩ = some (.int .i64 yn) ∧ w'.cell? ⟨g, j * 4 + 2, none⟩ = some (.int .i64 xt) ∧ w'.cell? ⟨g, j * 4 + 2 + 1, none⟩ = some (.int .i64 xn))
              (first | assumption | exact ⟨k0, k1, e0, e1, e2, e3⟩ | (simp [*, World.cell?_alloc_some, World.cell?_setCell_far]))
              (fail)
            all_goals (
              go_wp2_with fail
              refine bodyPost_ret (v := encNx (⟨yt, yn⟩, ⟨xt, xn⟩, 0)) (by simp [results, Try.results40, go_sem, r0, r1, s0, s1, encNx]) rfl ⟨by rw [HR3.out], ?_⟩
              exact (((((HBX.out _).drew.setCell (p := ⟨w.heap.size + 1 + 1, 0, none⟩) (by simp only; omega) _).setCell (p := ⟨w.heap.size + 1 + 1, 1, none⟩) (by simp only; omega) _).setCell (p := ⟨w.heap.size + 1 + 1 + 1, 0, none⟩) (by simp only; omega) _).setCell (p := ⟨w.heap.size + 1 + 1 + 1, 1, none⟩) (by simp only; omega) _))
      · obtain rfl : i = M + N := by omega
        have hR := HRS2.out
        rw [Nat.sub_self] at hR
        have HR3 := Lib.hid (show R = (nilV, nilV, 0) from hR)
        obtain ⟨r0, r1, rf0, rf1⟩ := HF2.out.r
        obtain ⟨s0, s1, sf0, sf1⟩ := HF2.out.s
        have g1 : decide ((M : Int) + (N : Int) < (M : Int) + (N : Int)) = false := decide_eq_false (by omega)
        clear hR hlt
        go_wp2_with fail
        go_quiet (fail)
        go_wp2_with fail
        refine bodyPost_ret (v := encNx (nilV, nilV, 0)) (by simp [results, Try.results40, go_sem, r0, r1, s0, s1, encNx, nilV]) rfl ⟨by rw [HR3.out], ?_⟩
        exact (((((below_drewN (HF1.out.b.trans (HB.out.mono HF1.out.b.size)) _).setCell (p := ⟨w.heap.size + 1 + 1, 0, none⟩) (by simp only; omega) _).setCell (p := ⟨w.heap.size + 1 + 1, 1, none⟩) (by simp only; omega) _).setCell (p := ⟨w.heap.size + 1 + 1 + 1, 0, none⟩) (by simp only; omega) _).setCell (p := ⟨w.heap.size + 1 + 1 + 1, 1, none⟩) (by simp only; omega) _)
end Go.Proofs.Ytpodgmajccmgkaa
