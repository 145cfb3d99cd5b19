/- The document's table: Pairs. -/
import Derived.Test.YtpodgmajccmgkaaR6Next
namespace Go.Proofs.Ytpodgmajccmgkaa
open Go.RowKit Go.Shelf
set_option linter.unusedVariables false
set_option linter.unusedSimpArgs false
attribute [local go_sem] Oper.semAt_some field_t

variable {w w' W W' : World} {p : Nat} {A L : Value} {T T' : Tb}

theorem row_up' {W W' : World} {base : Nat} {e : TypeId} {size : Nat} {v : Value} {n : Nat} {xs : List Value} (h : W.ownsRow base e size v n xs) (hb : Below W.heap.size W W') : W'.ownsRow base e size v n xs := by
  refine ⟨h.1, h.2.imp id ?_⟩
  rintro ⟨g, cap, cur, hv, hb', hg, h4⟩
  exact ⟨g, cap, cur, hv, hb', (hb.block g (Array.getElem?_eq_some_iff.1 hg).1).trans hg, h4⟩
theorem row_lo {W : World} {base : Nat} {e : TypeId} {size : Nat} {v : Value} {n : Nat} {xs : List Value} (h : W.ownsRow base e size v n xs) : W.ownsRow 0 e size v n xs := by
  refine ⟨h.1, h.2.imp id ?_⟩
  rintro ⟨g, cap, cur, hv, hb', hg, h4⟩
  exact ⟨g, cap, cur, hv, Nat.zero_le _, hg, h4⟩
theorem row_hi {W : World} {base : Nat} {e : TypeId} {size : Nat} {v : Value} {n : Nat} {xs : List Value} (h : W.ownsRow 0 e size v n xs) (hk : ∀ k, v.ownBlock = some k → base ≤ k) : W.ownsRow base e size v n xs := by
  refine ⟨h.1, h.2.imp id ?_⟩
  rintro ⟨g, cap, cur, hv, hb', hg, h4⟩
  exact ⟨g, cap, cur, hv, hk g (by rw [hv]; rfl), hg, h4⟩
theorem row_own {W : World} {base : Nat} {e : TypeId} {size : Nat} {v : Value} {n : Nat} {xs : List Value} (h : W.ownsRow base e size v n xs) : ∀ k, v.ownBlock = some k → base ≤ k := fun k hk => (row_ge h k hk).1

theorem flatP_app (l m : List Pr) : flatP (l ++ m) = flatP l ++ flatP m := by simp [flatP]
theorem one4 (a b c d : Int) : ∀ v ∈ [Value.int .i64 a, .int .i64 b, .int .i64 c, .int .i64 d], v.oneCell' = true := by
  intro v hv
  simp at hv
  rcases hv with rfl | rfl | rfl | rfl <;> rfl
theorem Try.infoN85 : (Try.prog.info? 85).map (fun i => (i.zero, i.size, i.bytes)) = some (some (.agg #[.int .i64 0, .int .i64 0, .int .i64 0, .int .i64 0]), 4, 32) := by kernel_rfl
theorem arrL_le' (T : Tb) : ∀ n, (arrL T n).length ≤ n := by
  intro n; unfold arrL; exact Nat.le_trans (List.length_filterMap_le _ _) (by simp)
theorem nodL_le' (T : Tb) : ∀ n, (nodL T n).length ≤ n := by
  intro n; unfold nodL; exact Nat.le_trans (List.length_filterMap_le _ _) (by simp)

/-- A row of pairs, made since w. -/
def PRow (w : World) (v : Value) (l : List Pr) (W : World) : Prop := W.ownsRow w.heap.size 85 4 v l.length (flatP l) ∧ Below w.heap.size w W
def PairsAns (w : World) (l : List Pr) (e : Ending) (w' : World) : Prop := ∃ v, e = .returned v ∧ PRow w v l w'

set_option maxRecDepth 100000 in
set_option maxHeartbeats 4000000 in
theorem rpairs_any (H : RefAt w p A L T) : Calls Try.prog 66 #[.pointer (some ⟨p, 0, none⟩)] w fun e w' => PairsAns w (pairsL T) e w' := by
  obtain ⟨gA, rfl, hgA⟩ := H.shapeA
  obtain ⟨gL, rfl, hgL⟩ := H.shapeL
  have hsm : T.a + 2 * T.nodes ≤ 1000000 := by have := H.small; have := H.exact_; omega
  have HH := Lib.hid H
  have HOW := Lib.hid (fun k (h : OwnR p (.slice gA T.a T.a) (.slice gL T.nodes T.nodes) k) => H.own_lt h)
  obtain ⟨N, hN⟩ : ∃ N, N = T.nodes := ⟨_, rfl⟩
  obtain ⟨M, hM⟩ : ∃ M, M = T.a := ⟨_, rfl⟩
  rw [← hN] at hsm hgL HH HOW
  rw [← hM] at hsm hgA HH HOW
  have HN := Lib.hid hN
  have HM := Lib.hid hM
  have HGA := Lib.hid hgA
  have HGL := Lib.hid hgL
  obtain ⟨i0, hi0, hz0, hz1, hz2⟩ := info_parts Try.infoN85
  have c0 := HH.out.c0
  clear hN hM hgA hgL H
  go_enter Try.func66, Try.ntmps66
  go_wp2_with fail
  clear c0
  go_loopw [3, 4] (fun t3 t4 wr => ∃ i : Nat, i ≤ M ∧ t4 = .int .i64 i ∧ PRow w t3 (arrL T i) wr) (fun _ t4 _ => M - (intOf t4).toNat)
  case atStart => exact ⟨0, Nat.zero_le _, by go_num, World.ownsRow_nil _ _ _ _, Below.refl _ _⟩
  case round =>
    obtain ⟨i, hi, rfl, hP⟩ := hrel
    have HP := Lib.hid hP
    have HR := Lib.hid (HH.out.below hP.2)
    have c0 := HR.out.c0
    clear hP
    by_cases hlt : i < M
    · obtain ⟨g, rfl⟩ := HGA.out (by omega)
      have hiT : i < T.a := by rw [← HM.out]; exact hlt
      obtain ⟨d0, d1⟩ := HR.out.arrC hiT
      have hsu := arrL_succ T i
      rw [arrP_eq] at hsu
      obtain ⟨⟨xt, xn⟩, hx⟩ : ∃ v, v = aN T i := ⟨_, rfl⟩
      rw [← hx] at d0 d1 hsu
      simp only at d0 d1 hsu
      have HX := Lib.hid hx
      have HSU := Lib.hid hsu
      have hln := arrL_le' T i
      clear hsu hx
      by_cases hz : xt = 0
      · have hsu := HSU.out
        rw [if_pos hz, Option.toList_none, List.append_nil] at hsu
        have HS2 := Lib.hid hsu
        have hz' : (xt != 0) = false := by simp [hz]
        clear hsu HSU HX
        subst hz
        go_wp2_with fail
        go_roundw
        case rel => exact ⟨i + 1, by omega, by go_num, by rw [HS2.out]; exact HP.out⟩
        case measure => simp [intOf]; omega
      · have hsu := HSU.out
        rw [if_neg hz, Option.toList_some] at hsu
        have HS2 := Lib.hid hsu
        have hz' : (xt != 0) = true := by simp [hz]
        have hw1 : IntKind.i64.wrap ((i : Int) + 1) = (i : Int) + 1 := IntWalk.i64_in _ (by omega)
        have HALL : Hid (∀ w', Below w.heap.size w w' → w'.cell? ⟨p, 0, none⟩ = some (.slice (some ⟨g, 0, none⟩) M M) ∧ w'.cell? ⟨g, i * 2, none⟩ = some (.int .i64 xt) ∧ w'.cell? ⟨g, i * 2 + 1, none⟩ = some (.int .i64 xn)) := by
          refine Lib.hid (fun w' hb => ⟨(HH.out.below hb).c0, ?_, ?_⟩)
          · have := ((HH.out.below hb).arrC hiT).1; rw [← HX.out] at this; exact this
          · have := ((HH.out.below hb).arrC hiT).2; rw [← HX.out] at this; exact this
        clear hsu HSU
        go_wp2_with fail
        clear c0 d0 d1
        have HST : Hid (∀ w', Below wr.heap.size wr w' → Below w.heap.size w w' ∧ w'.ownsRow 0 85 4 u3 (arrL T i).length (flatP (arrL T i))) :=
          Lib.hid (fun w' hb => ⟨HP.out.2.trans (hb.mono HP.out.2.size), row_up' (row_lo HP.out.1) hb⟩)
        have hpl : (arrL T (i + 1)).length = (arrL T i).length + 1 := by rw [HS2.out]; simp
        have HEND : Hid (∀ v' w3 (w4 : World), Below w.heap.size w w4 → w3.ownsRow 0 85 4 v' ((arrL T i).length + 1) (flatP (arrL T i) ++ [.int .i64 2, .int .i64 ((i : Int) + 1), .int .i64 xt, .int .i64 xn]) → w4.grownBy w3 u3.ownBlock → (v'.ownBlock = u3.ownBlock ∨ v'.ownBlock = some w4.heap.size) → PRow w v' (arrL T (i + 1)) w3) := by
          refine Lib.hid (fun v' w3 w4 hb h1 h2 h3 => ⟨?_, ?_⟩)
          · rw [hpl, HS2.out, flatP_app]
            refine row_hi h1 (fun k hk => ?_)
            rcases h3 with h3 | h3
            · rw [h3] at hk; exact row_own HP.out.1 k hk
            · rw [h3] at hk; cases hk; exact hb.size
          · exact hb.grown h2 hb.size (fun k hk => row_own HP.out.1 k hk)
        clear hpl
        go_region_held3 (fun w' => w'.cell? ⟨p, 0, none⟩ = some (.slice (some ⟨g, 0, none⟩) M M) ∧ w'.cell? ⟨g, i * 2, none⟩ = some (.int .i64 xt) ∧ w'.cell? ⟨g, i * 2 + 1, none⟩ = some (.int .i64 xn))
          (first | assumption | exact HALL.out _ HP.out.2.drew | (simp [*, World.cell?_alloc_some, World.cell?_setCell_far]))
          ((first | (go_at_call 50; refine (rint_any' _ _).mono ?_; rintro e wz ⟨rfl, hz9⟩; have hz8 : Below wr.heap.size wr wz := ⟨hz9.os, hz9.tape, hz9.output, hz9.size, hz9.block⟩; have s1 := HALL.out _ (HST.out _ hz8).1) | (refine step_append_row rfl (.tmp 24) (.tmp 36) 47 rfl 85 i0 (.agg #[.int .i64 0, .int .i64 0, .int .i64 0, .int .i64 0]) 4 32 Try.underlying47 hi0 hz0 hz1 hz2 rfl (by decide) u3 (arrL T i).length (flatP (arrL T i)) rfl (row_up' (HST.out wz hz8).2 (below_alloc wz _)) _ 1 1 [.int .i64 2, .int .i64 ((i : Int) + 1), .int .i64 xt, .int .i64 xn] rfl rfl (cell_new4 wz [.int .i64 2, .int .i64 ((i : Int) + 1), .int .i64 xt, .int .i64 xn] 85) (one4 _ _ _ _) (by unfold maxLen; omega) (by omega) ?_; intro v3 w3 hown3 hg3 hb3; have HE3 := Lib.hid (HEND.out v3 w3 _ ((HST.out wz hz8).1.alloc (HST.out wz hz8).1.size _) hown3 hg3 hb3); have s3 := HALL.out _ HE3.out.2)))
        all_goals (
          clear hown3 hg3 hb3 s1 s3
          go_wp2_with fail
          go_roundw
          case rel => exact ⟨i + 1, by omega, by go_num, HE3.out⟩
          case measure => simp [intOf]; omega)
    · obtain rfl : i = M := by omega
      have HPA : Hid (PRow w u3 (arrL T T.a ++ nodL T 0) wr) := Lib.hid (by rw [← HM.out]; have := HP.out; simpa [nodL] using this)
      have c1 := HR.out.c1
      go_wp2_with fail
      clear c0 c1
      go_loopw [3, 5] (fun t3 t5 wx => ∃ j : Nat, j ≤ N ∧ t5 = .int .i64 j ∧ PRow w t3 (arrL T T.a ++ nodL T j) wx) (fun _ t5 _ => N - (intOf t5).toNat)
      case atStart => exact ⟨0, Nat.zero_le _, by go_num, HPA.out⟩
      case round =>
        clear HP HR HPA
        obtain ⟨j, hj, rfl, hP⟩ := hrel
        have HP := Lib.hid hP
        have HR := Lib.hid (HH.out.below hP.2)
        have c1 := HR.out.c1
        clear hP
        by_cases hltj : j < N
        · obtain ⟨g, rfl⟩ := HGL.out (by omega)
          have hjT : j < T.nodes := by rw [← HN.out]; exact hltj
          obtain ⟨d0, d1, d2, d3⟩ := HR.out.nodC hjT
          have hsu := nodL_succ T j
          rw [nodP_eq] at hsu
          obtain ⟨⟨xt, xn⟩, hx⟩ : ∃ v, v = vN T j := ⟨_, rfl⟩
          obtain ⟨⟨yt, yn⟩, hy⟩ : ∃ v, v = kN T j := ⟨_, rfl⟩
          rw [← hx, ← hy] at hsu
          rw [← hx] at d2 d3
          rw [← hy] at d0 d1
          simp only at d0 d1 d2 d3 hsu
          have HSU := Lib.hid hsu
          have hln : (arrL T T.a ++ nodL T j).length ≤ 1000000 := by rw [List.length_append]; have := arrL_le' T T.a; have := nodL_le' T j; have := HM.out; have := HN.out; omega
          clear hsu hx hy
          by_cases hz : xt = 0
          · have hsu := HSU.out
            rw [if_pos hz, Option.toList_none, List.append_nil] at hsu
            have HS2 := Lib.hid hsu
            have hz' : (xt != 0) = false := by simp [hz]
            clear hsu HSU
            subst hz
            go_wp2_with fail
            go_roundw
            case rel => exact ⟨j + 1, by omega, by go_num, by rw [HS2.out]; exact HP.out⟩
            case measure => simp [intOf]; omega
          · have hsu := HSU.out
            rw [if_neg hz, Option.toList_some] at hsu
            have hs2 : flatP (arrL T T.a ++ nodL T (j + 1)) = flatP (arrL T T.a ++ nodL T j) ++ [.int .i64 yt, .int .i64 yn, .int .i64 xt, .int .i64 xn] := by
              rw [hsu, ← List.append_assoc, flatP_snoc]
            have hs3 : (arrL T T.a ++ nodL T (j + 1)).length = (arrL T T.a ++ nodL T j).length + 1 := by rw [hsu, ← List.append_assoc, List.length_append]; rfl
            have HS2 := Lib.hid hs2
            have HS3 := Lib.hid hs3
            have hz' : (xt != 0) = true := by simp [hz]
            have hnews := cell_new4 wr [.int .i64 yt, .int .i64 yn, .int .i64 xt, .int .i64 xn] 85
            have hB8 : w.heap.size ≤ (wr.alloc (.cells #[.int .i64 yt, .int .i64 yn, .int .i64 xt, .int .i64 xn] 85)).heap.size := by have := HP.out.2.size; simp; omega
            clear hsu hs2 hs3 HSU
            go_wp2_with (at_builtin; refine wpList_append_own _ rfl _ _ 47 rfl w.heap.size 85 i0 (.agg #[.int .i64 0, .int .i64 0, .int .i64 0, .int .i64 0]) 4 32 Try.underlying47 hi0 hz0 hz1 hz2 rfl (by decide) _ _ _ rfl (HP.out.1.alloc _) _ _ _ [.int .i64 yt, .int .i64 yn, .int .i64 xt, .int .i64 xn] rfl rfl hnews (one4 _ _ _ _) (by unfold maxLen; omega) (by omega) hB8 ?_)
            intro v' w8 hown8 hg8 _
            have HE8 : Hid (PRow w v' (arrL T T.a ++ nodL T (j + 1)) w8) := Lib.hid ⟨by rw [HS2.out, HS3.out, List.length_append]; exact hown8, (HP.out.2.alloc HP.out.2.size _).grown hg8 hB8 (fun k hk => row_own HP.out.1 k hk)⟩
            clear hown8 hg8 hnews hB8 d0 d1 d2 d3 c1
            go_wp2_with fail
            go_roundw
            case rel => exact ⟨j + 1, by omega, by go_num, HE8.out⟩
            case measure => simp [intOf]; omega
        · obtain rfl : j = N := by omega
          have HE : Hid (PRow w u3 (pairsL T) wr) := Lib.hid (by have := HP.out; rw [HN.out] at this; exact this)
          go_wp2_with fail
          go_ret
          exact ⟨_, rfl, HE.out⟩
end Go.Proofs.Ytpodgmajccmgkaa
