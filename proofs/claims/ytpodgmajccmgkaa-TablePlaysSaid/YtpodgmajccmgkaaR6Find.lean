/- The document's table: Find, Get. -/
import Derived.Test.YtpodgmajccmgkaaR6Rep
namespace Go.Proofs.Ytpodgmajccmgkaa
open Go.RowKit Go.Shelf
set_option linter.unusedVariables false
set_option linter.unusedSimpArgs false
attribute [local go_sem] Oper.semAt_some

variable {w w' : World} {p : Nat} {A L : Value} {T T' : Tb}

/-- A value as a key. -/
def KeyIs (k : V) (a b : Int) (q : Bool) : Prop := (q = true ∧ keyR k = some ⟨a, b⟩) ∨ (q = false ∧ keyR k = none ∧ k = ⟨a, b⟩)
theorem keyIs_ex (k : V) : ∃ a b q, KeyIs k a b q := by
  cases h : keyR k with
  | none => exact ⟨k.t, k.n, false, .inr ⟨rfl, h, rfl⟩⟩
  | some x => exact ⟨x.t, x.n, true, .inl ⟨rfl, h⟩⟩
theorem rkey_as {k : V} {a b : Int} {q : Bool} (h : KeyIs k a b q) (w : World) : Calls Try.prog 14 #[.agg #[.int .i64 k.t, .int .i64 k.n]] w fun e w' => e = .returned (.tuple #[.agg #[.int .i64 a, .int .i64 b], .bool q]) ∧ Below w.heap.size w w' := by
  refine (rkey_any k w).mono ?_
  rintro e w1 ⟨h1, h2⟩
  refine ⟨?_, h2⟩
  rcases h with ⟨rfl, h⟩ | ⟨rfl, h, h3⟩
  · rw [h] at h1; exact h1
  · rw [h] at h1
    subst h3
    exact h1

/-! ### Find, in plain Lean -/
def rfL (T : Tb) (k : V) : List Nat → Int × Int
  | [] => (-1, -1)
  | x :: l => if kN T x = k then ((x : Int), -1) else if (kN T x).t = 0 then (-1, (x : Int)) else rfL T k l
def findN (T : Tb) (k : V) : Int × Int := rfL T k (wayL T k)
theorem rfL_find (T : Tb) (k : V) : ∀ l, findL T k l = ((if (rfL T k l).1 < 0 then -1 else T.a + 2 * (rfL T k l).1 + 1), (rfL T k l).2) := by
  intro l
  induction l with
  | nil => rfl
  | cons x l ih =>
    unfold findL rfL
    change (if kN T x = k then _ else if (kN T x).t = 0 then _ else _) = _
    by_cases h1 : kN T x = k
    · rw [if_pos h1, if_pos h1, if_neg (by simp only; omega)]
      simp only [Prod.mk.injEq, and_true]; omega
    · rw [if_neg h1, if_neg h1]
      by_cases h2 : (kN T x).t = 0
      · rw [if_pos h2, if_pos h2]; rfl
      · rw [if_neg h2, if_neg h2, ih]
theorem findT_ref (T : Tb) (k : V) : findT T k = if inAB T k = true then (k.n - 1, -1) else ((if (findN T k).1 < 0 then -1 else T.a + 2 * (findN T k).1 + 1), (findN T k).2) := by
  unfold findT findN
  rw [rfL_find]
  by_cases h : inAB T k = true
  · rw [if_pos h, if_pos (show k.t = 2 ∧ 1 ≤ k.n ∧ k.n ≤ (T.a : Int) from inAB_iff.1 h)]
  · rw [if_neg h, if_neg (fun e : k.t = 2 ∧ 1 ≤ k.n ∧ k.n ≤ (T.a : Int) => h (inAB_iff.2 e))]
theorem rfL_range (T : Tb) (k : V) : ∀ l, ((rfL T k l).1 = -1 ∨ ∃ y ∈ l, (rfL T k l).1 = (y : Int)) ∧ ((rfL T k l).2 = -1 ∨ ∃ y ∈ l, (rfL T k l).2 = (y : Int) ∧ (rfL T k l).1 = -1 ∧ (kN T y).t = 0) := by
  intro l
  induction l with
  | nil => exact ⟨.inl rfl, .inl rfl⟩
  | cons x l ih =>
    unfold rfL
    by_cases h1 : kN T x = k
    · rw [if_pos h1]; exact ⟨.inr ⟨x, by simp, rfl⟩, .inl rfl⟩
    · rw [if_neg h1]
      by_cases h2 : (kN T x).t = 0
      · rw [if_pos h2]; exact ⟨.inl rfl, .inr ⟨x, by simp, rfl, rfl, h2⟩⟩
      · rw [if_neg h2]
        refine ⟨?_, ?_⟩
        · rcases ih.1 with h | ⟨y, hy, h⟩
          · exact .inl h
          · exact .inr ⟨y, by simp [hy], h⟩
        · rcases ih.2 with h | ⟨y, hy, h⟩
          · exact .inl h
          · exact .inr ⟨y, by simp [hy], h⟩
theorem findN_range (T : Tb) (k : V) : ((findN T k).1 = -1 ∨ ∃ y : Nat, y < T.nodes ∧ (findN T k).1 = (y : Int)) ∧ ((findN T k).2 = -1 ∨ ∃ y : Nat, y < T.nodes ∧ (findN T k).2 = (y : Int) ∧ (findN T k).1 = -1 ∧ (kN T y).t = 0) := by
  obtain ⟨h1, h2⟩ := rfL_range T k (wayL T k)
  refine ⟨?_, ?_⟩
  · rcases h1 with h | ⟨y, hy, h⟩
    · exact .inl h
    · exact .inr ⟨y, wayL_lt k y hy, h⟩
  · rcases h2 with h | ⟨y, hy, h⟩
    · exact .inl h
    · exact .inr ⟨y, wayL_lt k y hy, h⟩

theorem boxesG {w w1 : World} {l l' : List Value} {e e' : TypeId} (hb : Below ((w.alloc (.cells l.toArray e)).alloc (.cells l'.toArray e')).heap.size ((w.alloc (.cells l.toArray e)).alloc (.cells l'.toArray e')) w1) :
    Box w1 w.heap.size l e ∧ Box w1 (w.heap.size + 1) l' e' ∧ Below w.heap.size w w1 := by
  obtain ⟨W0, hW0⟩ : ∃ W0, W0 = (w.alloc (.cells l.toArray e)).alloc (.cells l'.toArray e') := ⟨_, rfl⟩
  have hsz : W0.heap.size = w.heap.size + 2 := by rw [hW0]; simp
  have h0 : Box W0 w.heap.size l e := (by rw [hW0]; unfold Box World.alloc; simp only [Array.getElem?_push, Array.size_push]; repeat (first | rw [if_neg (by omega)] | rw [if_pos (by omega)] | rw [if_pos trivial]))
  have h1 : Box W0 (w.heap.size + 1) l' e' := (by rw [hW0]; unfold Box World.alloc; simp only [Array.getElem?_push, Array.size_push]; repeat (first | rw [if_neg (by omega)] | rw [if_pos (by omega)] | rw [if_pos trivial]))
  have hB0 : Below w.heap.size w W0 := by rw [hW0]; exact (by repeat (first | exact Below.refl _ _ | refine Below.alloc ?_ (by first | (simp; done) | (simp; omega)) _ | refine Below.drew ?_ | refine Below.setCell ?_ (by first | (simp; done) | (simp; omega)) _))
  rw [← hW0] at hb
  exact ⟨h0.below hb (by omega), h1.below hb (by omega), hB0.trans (hb.mono (by omega))⟩
theorem Box.cells3 {W : World} {b : Nat} {x y z : Value} {e : TypeId} (h : Box W b [x, y, z] e) : W.cell? ⟨b, 0, none⟩ = some x ∧ W.cell? ⟨b, 1, none⟩ = some y ∧ W.cell? ⟨b, 2, none⟩ = some z :=
  ⟨h.cell 0, h.cell 1, h.cell 2⟩

theorem rhash_is {k : V} {M : Nat} (hM : mixR k.t k.n = (M : Int)) (w : World) : Calls Try.prog 67 #[.agg #[.bool false, .slice none 0 0, .slice none 0 0], .agg #[.int .i64 k.t, .int .i64 k.n]] w fun e w' => e = .returned (.int .u32 (M : Int)) ∧ Below w.heap.size w w' := by
  have := rhash_any k w
  rw [hM] at this
  exact this

set_option maxRecDepth 100000 in
set_option maxHeartbeats 2000000 in
theorem rfind_any (H : RefAt w p A L T) (k : V) : Calls Try.prog 57 #[.pointer (some ⟨p, 0, none⟩), .agg #[.bool false, .slice none 0 0, .slice none 0 0], .agg #[.int .i64 k.t, .int .i64 k.n]] w fun e w' => e = .returned (.tuple #[.int .i64 (findN T k).1, .int .i64 (findN T k).2]) ∧ Below w.heap.size w w' := by
  obtain ⟨gL, rfl, hL⟩ := H.shapeL
  obtain ⟨M, hM⟩ : ∃ M : Nat, mixR k.t k.n = (M : Int) := ⟨(mixR k.t k.n).toNat, by have := (mixR_range k.t k.n).1; omega⟩
  have hM32 : M < 4294967296 := by have := (mixR_range k.t k.n).2; omega
  have HC := Lib.hid (fun w => rhash_is hM w)
  obtain ⟨f1, f2, hf⟩ : ∃ f1 f2, findN T k = (f1, f2) := ⟨_, _, rfl⟩
  have hf0 : rfL T k (wayF T T.nodes (M % T.nodes)) = (f1, f2) := by
    rw [← hf]; unfold findN wayL; rw [hM, Int.toNat_natCast]
    split
    · rename_i h0; rw [h0]; rfl
    · rfl
  rw [hf]
  have hs : T.nodes ≤ 1000000 := by have := H.small; have := H.exact_; omega
  obtain ⟨N, hN⟩ : ∃ N, N = T.nodes := ⟨_, rfl⟩
  have HH := Lib.hid H
  rw [← hN] at hf0 hs hL HH
  simp only
  have HN := Lib.hid hN
  have HL := Lib.hid hL
  obtain ⟨h1, hh1⟩ : ∃ h1, h1 = M % N := ⟨_, rfl⟩
  rw [← hh1] at hf0
  have HF0 := Lib.hid hf0
  have hh1N : 0 < N → h1 < N := fun h => by rw [hh1]; exact Nat.mod_lt _ h
  have hsM : h1 ≤ M := by rw [hh1]; exact Nat.mod_le _ _
  have HH1 := Lib.hid hh1
  have HM1 : IntKind.i64.wrap (M : Int) = M := IntWalk.i64_in _ (by omega)
  obtain ⟨hb0, hb1, hB⟩ := boxesG (l := [.bool false, .slice none 0 0, .slice none 0 0]) (l' := [.int .i64 k.t, .int .i64 k.n]) (Below.refl ((w.alloc (.cells #[.bool false, .slice none 0 0, .slice none 0 0] 77)).alloc (.cells #[.int .i64 k.t, .int .i64 k.n] 27)).heap.size _)
  obtain ⟨W0, hW0⟩ : ∃ W, W = (w.alloc (.cells #[.bool false, .slice none 0 0, .slice none 0 0] 77)).alloc (.cells #[.int .i64 k.t, .int .i64 k.n] 27) := ⟨_, rfl⟩
  change Box (((w.alloc (.cells #[.bool false, .slice none 0 0, .slice none 0 0] 77)).alloc (.cells #[.int .i64 k.t, .int .i64 k.n] 27))) _ _ _ at hb0 hb1
  change Below _ _ ((w.alloc (.cells #[.bool false, .slice none 0 0, .slice none 0 0] 77)).alloc (.cells #[.int .i64 k.t, .int .i64 k.n] 27)) at hB
  rw [← hW0] at hb0 hb1 hB
  have c1 := (HH.out.below hB).c1
  rw [hW0] at c1
  have HW0 := Lib.hid hW0
  have HB0 := Lib.hid hb0
  have HB1 := Lib.hid hb1
  have HB := Lib.hid hB
  obtain ⟨kt, kn⟩ := k
  clear hM hf hf0 hN hL hh1 hb0 hb1 hW0 hB H
  simp only at *
  go_enter Try.func57, Try.ntmps57
  go_wp2_with fail
  rw [← HW0.out]
  clear c1 HW0
  go_loopw [9] (fun t9 wr => ∃ i : Nat, i ≤ N ∧ t9 = .int .i64 i ∧ rfL T ⟨kt, kn⟩ (wayF T (N - i) ((h1 + i) % N)) = (f1, f2) ∧ Below W0.heap.size W0 wr) (fun t9 _ => N - (intOf t9).toNat)
  case atStart => exact ⟨0, Nat.zero_le _, by go_num, by have := HF0.out; rw [HH1.out] at this ⊢; rw [Nat.add_zero, Nat.mod_mod]; exact this, Below.refl _ _⟩
  case round =>
    obtain ⟨i, hi, rfl, hrf, hbr⟩ := hrel
    have HRF := Lib.hid hrf
    have HBR := Lib.hid hbr
    clear hrf hbr
    by_cases hlt : i < N
    · obtain ⟨g, rfl⟩ := HL.out (by omega)
      have HR := Lib.hid ((HH.out.below HB.out).below HBR.out)
      obtain ⟨x, hx⟩ : ∃ x, x = (h1 + i) % N := ⟨_, rfl⟩
      have hxN : x < N := by rw [hx]; exact Nat.mod_lt _ (by omega)
      have hxT : x < T.nodes := by have := HN.out; omega
      have hst := wayF_step T (d := N - i) (x := x) (by omega)
      have hrf := HRF.out
      rw [← hx, hst] at hrf
      unfold rfL at hrf
      have hnx : N - i - 1 = N - (i + 1) := by omega
      have hnn : (x + 1) % T.nodes = (h1 + (i + 1)) % N := by rw [← HN.out, hx, Nat.mod_add_mod, Nat.add_assoc]
      rw [hnx, hnn] at hrf
      obtain ⟨⟨xt, xn⟩, hk⟩ : ∃ v, v = kN T x := ⟨_, rfl⟩
      change (if kN T x = _ then _ else if (kN T x).t = 0 then _ else rfL T _ (if (kN T x).t = 0 then _ else _)) = _ at hrf
      rw [← hk] at hrf
      simp only at hrf
      have HK := Lib.hid hk
      have HRF2 := Lib.hid hrf
      obtain ⟨e0, e1, e2⟩ := (HB0.out.below HBR.out HB0.out.lt).cells3
      obtain ⟨k0, k1, -, -⟩ := (HB1.out.below HBR.out HB1.out.lt).cells2
      have hq1 : (M : Int).tmod (N : Int) = (h1 : Int) := by rw [HH1.out]; rfl
      have hq1' : (M : Int) % (N : Int) = (h1 : Int) := by rw [HH1.out]; rfl
      have hq2 : ((h1 : Int) + (i : Int)).tmod (N : Int) = (x : Int) := by rw [hx]; rfl
      have hq2' : ((h1 : Int) + (i : Int)) % (N : Int) = (x : Int) := by rw [hx]; rfl
      have hNp : 0 < N := by omega
      have hh1p := hh1N hNp
      have hq3 : IntKind.i64.wrap ((h1 : Int) + (i : Int)) = (h1 : Int) + (i : Int) := IntWalk.i64_in _ (by omega)
      have hNz : ((N : Int) == 0) = false := by simp; omega
      clear hx hst hrf hnx hnn hk
      go_wp2_with fail
      refine (HC.out _).mono ?_
      rintro e w1 ⟨rfl, hb1⟩
      have HBR1 := Lib.hid (HBR.out.trans (hb1.mono HBR.out.size))
      have HR1 := Lib.hid (HR.out.below hb1)
      clear hb1 e0 e1 e2 k0 k1
      obtain ⟨k0, k1, -, -⟩ := (HB1.out.below HBR1.out HB1.out.lt).cells2
      have c1 := HR1.out.c1
      obtain ⟨d0, d1, -, -⟩ := HR1.out.nodC hxT
      rw [← HK.out] at d0 d1
      simp only at d0 d1
      have hcs : (xt = kt ∧ xn = kn) ∨ xt ≠ kt ∨ (xt = kt ∧ xn ≠ kn) := by
        by_cases h : xt = kt
        · by_cases h2 : xn = kn
          · exact .inl ⟨h, h2⟩
          · exact .inr (.inr ⟨h, h2⟩)
        · exact .inr (.inl h)
      rcases hcs with ⟨rfl, rfl⟩ | hne
      · have hrf := HRF2.out
        rw [if_pos rfl] at hrf
        simp only [Prod.mk.injEq] at hrf
        obtain ⟨rfl, rfl⟩ := hrf
        clear HRF HRF2 HF0
        go_wp2_with fail
        go_quiet (fail)
        go_wp2_with fail
        go_ret2
        exact ⟨rfl, below_drewN (HB.out.trans (HBR1.out.mono HB.out.size)) _⟩
      · have hrf := HRF2.out
        rw [if_neg (by simp only [V.mk.injEq]; omega)] at hrf
        have HRF3 := Lib.hid hrf
        clear hrf HRF HRF2 HF0
        rcases hne with hc | ⟨rfl, hc⟩
        · have h1' : (xt == kt) = false := by simp [hc]
          clear hc
          go_wp2_with fail
          go_quiet (fail)
          by_cases hz : xt = 0
          · have hrf := HRF3.out
            rw [if_pos hz] at hrf
            simp only [Prod.mk.injEq] at hrf
            obtain ⟨rfl, rfl⟩ := hrf
            clear HRF3
            subst hz
            go_wp2_with fail
            go_ret2
            exact ⟨rfl, below_drewN (HB.out.trans (HBR1.out.mono HB.out.size)) _⟩
          · have hrf := HRF3.out
            rw [if_neg hz, if_neg hz] at hrf
            have HRF4 := Lib.hid hrf
            have hz' : (xt == 0) = false := by simp [hz]
            clear hrf HRF3 hz
            go_wp2_with fail
            go_roundw
            case rel => exact ⟨i + 1, by omega, by go_num, HRF4.out, below_drewN HBR1.out _⟩
            case measure => simp [intOf]; omega
        · have h1' : (xn == kn) = false := by simp [hc]
          clear hc
          go_wp2_with fail
          go_quiet (fail)
          by_cases hz : xt = 0
          · have hrf := HRF3.out
            rw [if_pos hz] at hrf
            simp only [Prod.mk.injEq] at hrf
            obtain ⟨rfl, rfl⟩ := hrf
            clear HRF3
            subst hz
            go_wp2_with fail
            go_ret2
            exact ⟨rfl, below_drewN (HB.out.trans (HBR1.out.mono HB.out.size)) _⟩
          · have hrf := HRF3.out
            rw [if_neg hz, if_neg hz] at hrf
            have HRF4 := Lib.hid hrf
            have hz' : (xt == 0) = false := by simp [hz]
            clear hrf HRF3 hz
            go_wp2_with fail
            go_roundw
            case rel => exact ⟨i + 1, by omega, by go_num, HRF4.out, below_drewN HBR1.out _⟩
            case measure => simp [intOf]; omega
    · obtain rfl : i = N := by omega
      have hrf := HRF.out
      rw [Nat.sub_self] at hrf
      simp only [wayF, rfL, Prod.mk.injEq] at hrf
      obtain ⟨rfl, rfl⟩ := hrf
      clear HRF HF0
      go_wp2_with fail
      go_ret2
      exact ⟨rfl, HB.out.trans (HBR.out.mono HB.out.size)⟩

theorem getT_ref {T : Tb} {k : V} {a b : Int} (h : keyR k = some ⟨a, b⟩) : getT T k = if inAB T ⟨a, b⟩ = true then aN T (b - 1).toNat else if (findN T ⟨a, b⟩).1 < 0 then nilV else vN T (findN T ⟨a, b⟩).1.toNat := by
  rw [getT_val h]
  unfold valT
  rw [findT_ref]
  by_cases hi : inAB T ⟨a, b⟩ = true
  · rw [if_pos hi, if_pos hi]
    have := inAB_iff.1 hi
    unfold inA at this
    simp only at this ⊢
    rw [if_neg (by omega)]
    unfold aN
    rw [Int.toNat_of_nonneg (by omega)]
  · rw [if_neg hi, if_neg hi]
    simp only
    by_cases hn : (findN T ⟨a, b⟩).1 < 0
    · rw [if_pos hn, if_pos hn, if_pos (by omega)]
    · rw [if_neg hn, if_neg hn, if_neg (by omega)]
      unfold vN
      congr 1
      omega
end Go.Proofs.Ytpodgmajccmgkaa
