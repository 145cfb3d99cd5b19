/- The document's table: Kill. -/
import Derived.Test.YtpodgmajccmgkaaTabKill
namespace Go.Proofs.Ytpodgmajccmgkaa
open Go.RowKit Go.Shelf
set_option linter.unusedVariables false
set_option linter.unusedSimpArgs false
attribute [local go_sem] Oper.semAt_some field_t

variable {w0 w w' W W' : World} {p g : Nat} {sv A L A' L' : Value} {T T' : Tb}

set_option maxRecDepth 100000 in
set_option maxHeartbeats 2000000 in
theorem rkill_any (H : RefAt w p A L T) (i : Int) (hi64 : i < 2 ^ 63 ∧ -(2 ^ 63) ≤ i) : Calls Try.prog 41 #[.pointer (some ⟨p, 0, none⟩), .int .i64 i] w fun e w' => KillRP w p A L (killT T i) e w' := by
  obtain ⟨R, hR⟩ : ∃ R, R = killT T i := ⟨_, rfl⟩
  rw [← hR]
  obtain ⟨gA, rfl, hgA⟩ := H.shapeA
  obtain ⟨gL, rfl, hgL⟩ := H.shapeL
  have hsm : T.a + 2 * T.nodes ≤ 1000000 := by have := H.small; have := H.exact_; omega
  have c0 := H.c0
  have c1 := H.c1
  have HH := Lib.hid H
  rcases killT_cases T i with ⟨h0, h⟩ | ⟨m, hm, rfl, h⟩ | ⟨h0, h1, h⟩ | ⟨h0, h1, h2, h⟩ | ⟨j, hj, rfl, h⟩
  · have HE : Hid (KillRP w p (.slice gA T.a T.a) (.slice gL T.nodes T.nodes) R (.returned (.tuple #[])) w) := Lib.hid ⟨rfl, by rw [hR, h]; exact HH.out, Keep.refl _ _⟩
    obtain ⟨a, ha⟩ : ∃ a, a = T.a := ⟨_, rfl⟩
    rw [← ha] at c0 hsm
    have g1 : decide (0 ≤ i) = false := decide_eq_false (by omega)
    have g2 : i < (a : Int) := by omega
    clear h hR H hgA hgL ha
    go_enter Try.func41, Try.ntmps41
    go_wp2_with fail
    go_end0
    exact HE.out
  · obtain ⟨g, rfl⟩ := hgA (by omega)
    obtain ⟨d0, d1⟩ := H.arrC hm
    have HR := Lib.hid (H.setA hm nilV)
    have hfz := fun i => frz_at H.arr_at i
    have fz0 := hfz (m * 2)
    have fz1 := hfz (m * 2 + 1)
    have e0 := HR.out.c0
    have HE : Hid (KillRP w p (.slice (some ⟨g, 0, none⟩) T.a T.a) (.slice gL T.nodes T.nodes) R (.returned (.tuple #[])) ((w.setCell ⟨g, m * 2, none⟩ (.int .i64 0)).setCell ⟨g, m * 2 + 1, none⟩ (.int .i64 0))) :=
      Lib.hid ⟨rfl, by rw [hR, h]; exact HR.out, ((Keep.refl _ w).setCell (p := ⟨g, m * 2, none⟩) (fun _ => .inr (.inl rfl)) (.int .i64 0)).setCell (p := ⟨g, m * 2 + 1, none⟩) (fun _ => .inr (.inl rfl)) (.int .i64 0)⟩
    unfold nilV at e0
    simp only at e0
    obtain ⟨a, ha⟩ : ∃ a, a = T.a := ⟨_, rfl⟩
    rw [← ha] at c0 hsm hm e0
    have g2 : (m : Int) < (a : Int) := by omega
    have g3 : decide ((m : Int) < (a : Int)) = true := decide_eq_true g2
    have g4 : decide (m < a) = true := decide_eq_true hm
    clear h hR H hgA hgL ha hfz
    go_enter Try.func41, Try.ntmps41
    go_wp2_with fail
    go_end0
    exact HE.out
  · have HE : Hid (KillRP w p (.slice gA T.a T.a) (.slice gL T.nodes T.nodes) R (.returned (.tuple #[])) w) := Lib.hid ⟨rfl, by rw [hR, h]; exact HH.out, Keep.refl _ _⟩
    obtain ⟨a, ha⟩ : ∃ a, a = T.a := ⟨_, rfl⟩
    rw [← ha] at c0 hsm h0 h1
    have hn1 : ¬ i < (a : Int) := by omega
    have g0 : decide (0 ≤ i) = true := decide_eq_true (by omega)
    have g3 : decide (i < (a : Int)) = false := decide_eq_false hn1
    obtain ⟨d, hd⟩ : ∃ d, d = i - (a : Int) := ⟨_, rfl⟩
    have hw1 : IntKind.i64.wrap (i - (a : Int)) = d := by rw [hd]; exact IntWalk.i64_in _ (by omega)
    have hd0 : 0 ≤ d := by omega
    have hd63 : d < 2 ^ 63 := by omega
    have hq1 : d % 2 = 0 := by omega
    have hq2 : d.tmod 2 = 0 := by rw [Int.tmod_eq_emod_of_nonneg (by omega)]; exact hq1
    clear h hR H hgA hgL ha hd h0 h1
    go_enter Try.func41, Try.ntmps41
    go_wp2_with fail
    go_end0
    exact HE.out
  · have HE : Hid (KillRP w p (.slice gA T.a T.a) (.slice gL T.nodes T.nodes) R (.returned (.tuple #[])) w) := Lib.hid ⟨rfl, by rw [hR, h]; exact HH.out, Keep.refl _ _⟩
    obtain ⟨a, ha⟩ : ∃ a, a = T.a := ⟨_, rfl⟩
    obtain ⟨n, hn⟩ : ∃ n, n = T.nodes := ⟨_, rfl⟩
    rw [← ha] at c0 hsm h0 h1 h2
    rw [← hn] at c1 hsm h2
    have hn1 : ¬ i < (a : Int) := by omega
    have g0 : decide (0 ≤ i) = true := decide_eq_true (by omega)
    have g3 : decide (i < (a : Int)) = false := decide_eq_false hn1
    obtain ⟨d, hd⟩ : ∃ d, d = i - (a : Int) := ⟨_, rfl⟩
    have hw1 : IntKind.i64.wrap (i - (a : Int)) = d := by rw [hd]; exact IntWalk.i64_in _ (by omega)
    have hq1 : d % 2 = 1 := by omega
    have hq2 : d.tmod 2 = 1 := by rw [Int.tmod_eq_emod_of_nonneg (by omega)]; exact hq1
    obtain ⟨k, hk⟩ : ∃ k, k = d / 2 := ⟨_, rfl⟩
    have hq3 : d / 2 = k := hk.symm
    have hq4 : d.tdiv 2 = k := by rw [Int.tdiv_eq_ediv_of_nonneg (by omega)]; exact hq3
    have g5 : decide ((n : Int) ≤ k) = true := decide_eq_true (by omega)
    have hd0 : 0 ≤ d := by omega
    have hd63 : d < 2 ^ 63 := by omega
    have hw2 : IntKind.i64.wrap k = k := IntWalk.i64_in _ (by omega)
    clear h hR H hgA hgL ha hd h0 h1 hn hk h2
    go_enter Try.func41, Try.ntmps41
    go_wp2_with fail
    go_end0
    exact HE.out
  · obtain ⟨g, rfl⟩ := hgL (by omega)
    obtain ⟨d0, d1, d2, d3⟩ := H.nodC hj
    have HR1 := Lib.hid (H.setV hj nilV)
    have hj1 : j < (setT T ((T.a + 2 * j + 1 : Nat) : Int) nilV).nodes := by rw [setT_nodes]; exact hj
    have hkn : kN (setT T ((T.a + 2 * j + 1 : Nat) : Int) nilV) j = kN T j := kN_setV (by have := H.exact_; omega) hj nilV j
    have HR2 : Hid (RefAt (((w.setCell ⟨g, j * 4 + 2, none⟩ (.int .i64 0)).setCell ⟨g, j * 4 + 2 + 1, none⟩ (.int .i64 0)).setCell ⟨g, j * 4, none⟩ (.int .i64 11)) p (.slice gA T.a T.a) (.slice (some ⟨g, 0, none⟩) T.nodes T.nodes) (setT (setT T ((T.a + 2 * j + 1 : Nat) : Int) nilV) ((T.a + 2 * j : Nat) : Int) ⟨11, (kN T j).n⟩)) := by
      have := HR1.out.setKT hj1 11
      rw [hkn, setT_a] at this
      exact Lib.hid this
    have hK1 := ((Keep.refl (OwnR p (.slice gA T.a T.a) (.slice (some ⟨g, 0, none⟩) T.nodes T.nodes)) w).setCell (p := ⟨g, j * 4 + 2, none⟩) (fun _ => .inr (.inr rfl)) (.int .i64 0)).setCell (p := ⟨g, j * 4 + 2 + 1, none⟩) (fun _ => .inr (.inr rfl)) (.int .i64 0)
    have hK2 := hK1.setCell (p := ⟨g, j * 4, none⟩) (fun _ => .inr (.inr rfl)) (.int .i64 11)
    have HK1 := Lib.hid hK1
    have HK2 := Lib.hid hK2
    have hfz := fun i => frz_at H.nod_at i
    have fz0 := hfz (j * 4)
    have fz2 := hfz (j * 4 + 2)
    have fz3 := hfz (j * 4 + 2 + 1)
    have e1 := HR1.out.c1
    have hat1 := HR1.out.nodC hj1
    rw [hkn] at hat1
    obtain ⟨x0, x1, -, -⟩ := hat1
    have fy0 := frz_at HR1.out.nod_at (j * 4)
    obtain ⟨⟨kt, kn⟩, hk⟩ : ∃ v, v = kN T j := ⟨_, rfl⟩
    have hRk : R = if deadB ⟨kt, kn⟩ = true then setT (setT T ((T.a + 2 * j + 1 : Nat) : Int) nilV) ((T.a + 2 * j : Nat) : Int) ⟨11, (kN T j).n⟩ else setT T ((T.a + 2 * j + 1 : Nat) : Int) nilV := by
      rw [hR, h]; unfold killN; rw [← hk]
    rw [← hk] at d0 d1 x0 x1
    simp only [nilV] at e1 x0 x1 fy0 d0 d1
    have HRK := Lib.hid hRk
    obtain ⟨I, hI⟩ : ∃ I : Int, I = ((T.a + 2 * j + 1 : Nat) : Int) := ⟨_, rfl⟩
    rw [← hI]
    obtain ⟨a, ha⟩ : ∃ a, a = T.a := ⟨_, rfl⟩
    obtain ⟨n, hn⟩ : ∃ n, n = T.nodes := ⟨_, rfl⟩
    rw [← ha] at c0 hsm hI
    rw [← hn] at c1 hsm hj e1
    have hn1 : ¬ I < (a : Int) := by omega
    have g0 : decide (0 ≤ I) = true := decide_eq_true (by omega)
    have g3 : decide (I < (a : Int)) = false := decide_eq_false hn1
    obtain ⟨d, hd⟩ : ∃ d, d = I - (a : Int) := ⟨_, rfl⟩
    have hw1 : IntKind.i64.wrap (I - (a : Int)) = d := by rw [hd]; exact IntWalk.i64_in _ (by omega)
    have hq1 : d % 2 = 1 := by omega
    have hq2 : d.tmod 2 = 1 := by rw [Int.tmod_eq_emod_of_nonneg (by omega)]; exact hq1
    have hq3 : d / 2 = (j : Int) := by omega
    have hq4 : d.tdiv 2 = (j : Int) := by rw [Int.tdiv_eq_ediv_of_nonneg (by omega)]; exact hq3
    have hw2 : IntKind.i64.wrap (j : Int) = j := IntWalk.i64_in _ (by omega)
    have g5 : decide ((n : Int) ≤ (j : Int)) = false := decide_eq_false (by omega)
    have g6 : decide (n ≤ j) = false := decide_eq_false (by omega)
    have hd0 : 0 ≤ d := by omega
    have hd63 : d < 2 ^ 63 := by omega
    clear h hR H hgA hgL ha hd hn hk hRk hI hK1 hK2 hfz hkn hj1 hi64
    by_cases hd4 : 4 ≤ kt
    · by_cases hd9 : kt ≤ 9
      · have HE : Hid (KillRP w p (.slice gA T.a T.a) (.slice (some ⟨g, 0, none⟩) T.nodes T.nodes) R (.returned (.tuple #[])) (((w.setCell ⟨g, j * 4 + 2, none⟩ (.int .i64 0)).setCell ⟨g, j * 4 + 2 + 1, none⟩ (.int .i64 0)).setCell ⟨g, j * 4, none⟩ (.int .i64 11))) :=
          Lib.hid ⟨rfl, by rw [HRK.out, if_pos (deadB_iff.2 ⟨hd4, hd9⟩)]; exact HR2.out, HK2.out⟩
        go_enter Try.func41, Try.ntmps41
        go_wp2_with fail
        go_end0
        exact HE.out
      · have HE : Hid (KillRP w p (.slice gA T.a T.a) (.slice (some ⟨g, 0, none⟩) T.nodes T.nodes) R (.returned (.tuple #[])) ((w.setCell ⟨g, j * 4 + 2, none⟩ (.int .i64 0)).setCell ⟨g, j * 4 + 2 + 1, none⟩ (.int .i64 0))) :=
          Lib.hid ⟨rfl, by rw [HRK.out, if_neg (fun h => hd9 (deadB_iff.1 h).2)]; exact HR1.out, HK1.out⟩
        go_enter Try.func41, Try.ntmps41
        go_wp2_with fail
        go_end0
        exact HE.out
    · have HE : Hid (KillRP w p (.slice gA T.a T.a) (.slice (some ⟨g, 0, none⟩) T.nodes T.nodes) R (.returned (.tuple #[])) ((w.setCell ⟨g, j * 4 + 2, none⟩ (.int .i64 0)).setCell ⟨g, j * 4 + 2 + 1, none⟩ (.int .i64 0))) :=
        Lib.hid ⟨rfl, by rw [HRK.out, if_neg (fun h => hd4 (deadB_iff.1 h).1)]; exact HR1.out, HK1.out⟩
      go_enter Try.func41, Try.ntmps41
      go_wp2_with fail
      go_end0
      exact HE.out
end Go.Proofs.Ytpodgmajccmgkaa
