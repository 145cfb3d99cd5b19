/- The document's table: Set. -/
import Derived.Test.YtpodgmajccmgkaaR6Need
namespace Go.Proofs.Ytpodgmajccmgkaa
open Go.RowKit Go.Shelf
set_option linter.unusedVariables false
set_option linter.unusedSimpArgs false
attribute [local go_sem] Oper.semAt_some field_t

variable {w w' W W' : World} {p g : Nat} {A L A' L' : Value} {T T' : Tb}

theorem newSz_le (T : Tb) (k : V) (hl : (pairsL T).length + 1 ≤ 8000) : (newSz T k).1 ≤ 4096 ∧ (newSz T k).2 ≤ 16000 := by
  refine ⟨bestT_pow _ 13 (Nat.le_refl _), ?_⟩
  show nodT _ ≤ 16000
  rcases Nat.eq_zero_or_pos (nodT (((pairsL T).map Pr.k ++ [k]).length - (bestT ((pairsL T).map Pr.k ++ [k]) 13).2)) with h | h
  · omega
  · have := nodT_lt h
    have : ((pairsL T).map Pr.k ++ [k]).length = (pairsL T).length + 1 := by simp
    omega

theorem setR_none {k : V} (v : V) (hk : keyR k = none) : setR T k v = (T, 13) := by unfold setR; rw [hk]
theorem setR_dead {k v k' : V} (hk : keyR k = some k') (hv : v.t = 11) : setR T k v = (T, 13) := by unfold setR; rw [hk]; simp only; rw [if_pos hv]
theorem setR_put {k v k' : V} (hk : keyR k = some k') (hv : v.t ≠ 11) (hp : (putT T k' v).2 = true) : setR T k v = ((putT T k' v).1, 0) := by
  unfold setR; rw [hk]; simp only; rw [if_neg hv, if_pos hp]
theorem setR_full {k v k' : V} (hk : keyR k = some k') (hv : v.t ≠ 11) (hp : ¬ (putT T k' v).2 = true) (hf : ¬ ((newSz T k').1 + 2 * (newSz T k').2 : Int) ≤ T.most) : setR T k v = (T, 8) := by
  unfold setR; rw [hk]; simp only; rw [if_neg hv, if_neg hp]; unfold renewT; rw [if_neg hf]; rfl
theorem setR_renew (H : WF T) (hl : (pairsL T).length + 1 ≤ 8000) {k v k' : V} (hk : keyR k = some k') (hv : v.t ≠ 11) (hp : ¬ (putT T k' v).2 = true) (hf : ((newSz T k').1 + 2 * (newSz T k').2 : Int) ≤ T.most) :
    setR T k v = ((putT ((pairsL T).foldl putF (sizedT T (newSz T k').1 (newSz T k').2)) k' v).1, 0) := by
  unfold setR; rw [hk]; simp only; rw [if_neg hv, if_neg hp]; unfold renewT; rw [if_pos hf, renew_put H hl]; rfl

theorem rneed_is (H : RefAt w p A L T) (hpl : (pairsL T).length + 1 ≤ 8000) {k v : V} {r1 r2 : Int} {r3 : Bool} (hr : needR T k v = (r1, r2, r3)) : Calls Try.prog 53 #[.pointer (some ⟨p, 0, none⟩), .agg #[.bool false, .slice none 0 0, .slice none 0 0], .agg #[.int .i64 k.t, .int .i64 k.n], .agg #[.int .i64 v.t, .int .i64 v.n]] w fun e w' => e = .returned (.tuple #[.int .i64 r1, .int .i64 r2, .bool r3]) ∧ Below w.heap.size w w' := by
  have := rneed_any H hpl k v
  rw [hr] at this
  exact this

def SetRP (w : World) (p : Nat) (A L : Value) (r : Tb × Int) (e : Ending) (w' : World) : Prop := ∃ A' L', e = .returned (.int .i64 r.2) ∧ RefAt w' p A' L' r.1 ∧ MvR p A L w w' A' L'
theorem MvR.of_keep (h : Keep (OwnR p A L) w w') : MvR p A L w w' A L := ⟨h, fun _ hk => .inl hk⟩

theorem Fr.keep {l : List (Nat × List Value × TypeId)} (h : Fr w l W) {B : Nat → Prop} (hk : Keep B W W') (hB : ∀ x, x ∈ l → ¬ B x.1) : ∀ x, x ∈ l → Box W' x.1 x.2.1 x.2.2 :=
  fun x hx => (h.box x hx).of_block (hk.block _ (h.box x hx).lt (hB x hx))

set_option maxRecDepth 100000 in
set_option maxHeartbeats 4000000 in
theorem rset_any (H : RefAt w p A L T) (hW : WF T) (hpl : (pairsL T).length + 1 ≤ 8000) (k v : V) : Calls Try.prog 38 #[.pointer (some ⟨p, 0, none⟩), .agg #[.bool false, .slice none 0 0, .slice none 0 0], .agg #[.int .i64 k.t, .int .i64 k.n], .agg #[.int .i64 v.t, .int .i64 v.n]] w fun e w' => SetRP w p A L (setR T k v) e w' := by
  obtain ⟨a, b, q, hq⟩ := keyIs_ex k
  have HK := Lib.hid (fun w => rkey_as hq w)
  have HQ := Lib.hid hq
  obtain ⟨S, hS⟩ : ∃ S, S = setR T k v := ⟨_, rfl⟩
  rw [← hS]
  have HS := Lib.hid hS
  have HH := Lib.hid H
  have HW := Lib.hid hW
  have HO : Hid (∀ j, OwnR p A L j → j < w.heap.size) := Lib.hid (fun j hj => H.own_lt hj)
  obtain ⟨kt, kn⟩ := k
  obtain ⟨vt, vn⟩ := v
  simp only at *
  clear hq hS H hW
  go_enter Try.func38, Try.ntmps38
  go_wp2_with fail
  refine (HK.out _).mono ?_
  rintro e w1 ⟨rfl, hb⟩
  have hF1 := (boxes3G (l := [.bool false, .slice none 0 0, .slice none 0 0]) (l' := [.int .i64 kt, .int .i64 kn]) (l'' := [.int .i64 vt, .int .i64 vn]) hb).cons [.int .i64 a, .int .i64 b] 27
  have HF1 := Lib.hid hF1
  have HR1 := Lib.hid (HH.out.below hF1.b)
  clear hb hF1 HK
  obtain ⟨v0, v1, -, -⟩ := (HF1.out.box (w.heap.size + 1 + 1, [.int .i64 vt, .int .i64 vn], 27) (by simp)).cells2
  cases q with
  | false =>
    have hk : keyR ⟨kt, kn⟩ = none := by
      rcases HQ.out with ⟨h, -⟩ | ⟨-, h, -⟩
      · cases h
      · exact h
    have HE : Hid (SetRP w p A L S (.returned (.int .i64 13)) (w1.alloc (.cells #[.int .i64 a, .int .i64 b] 27))) := Lib.hid ⟨A, L, by rw [HS.out, setR_none _ hk], by rw [HS.out, setR_none _ hk]; exact HR1.out, MvR.of_keep (Keep.of_below HF1.out.b)⟩
    clear hk
    go_wp2_with fail
    go_ret
    exact HE.out
  | true =>
    have hk : keyR ⟨kt, kn⟩ = some ⟨a, b⟩ := by
      rcases HQ.out with ⟨-, h⟩ | ⟨h, -⟩
      · exact h
      · cases h
    have HKY := Lib.hid hk
    clear hk HQ
    by_cases h11 : vt = 11
    · have hs := setR_dead (T := T) (v := ⟨vt, vn⟩) HKY.out h11
      have HE : Hid (SetRP w p A L S (.returned (.int .i64 13)) (w1.alloc (.cells #[.int .i64 a, .int .i64 b] 27))) := Lib.hid ⟨A, L, by rw [HS.out, hs], by rw [HS.out, hs]; exact HR1.out, MvR.of_keep (Keep.of_below HF1.out.b)⟩
      clear hs
      subst h11
      go_wp2_with fail
      go_ret
      exact HE.out
    · have H11 := Lib.hid (show (⟨vt, vn⟩ : V).t ≠ 11 from h11)
      have h11' : (vt == 11) = false := by simp [h11]
      obtain ⟨r1, r2, r3, hr⟩ : ∃ r1 r2 r3, needR T ⟨a, b⟩ ⟨vt, vn⟩ = (r1, r2, r3) := ⟨_, _, _, rfl⟩
      have HNC := Lib.hid (fun w (h : RefAt w p A L T) => rneed_is h hpl hr)
      unfold needR at hr
      have HRV := Lib.hid hr
      obtain ⟨b1, hb1⟩ : ∃ b1, b1 = w1.heap.size := ⟨_, rfl⟩
      obtain ⟨W1, hW1⟩ : ∃ W, W = w1.alloc (.cells #[.int .i64 a, .int .i64 b] 27) := ⟨_, rfl⟩
      have hbl : w.heap.size ≤ b1 := by
        have := (HF1.out.box (w.heap.size + 1 + 1, [.int .i64 vt, .int .i64 vn], 27) (by simp)).lt
        simp at this; omega
      have HF := HF1.out
      have hRW := HR1.out
      rw [← hW1] at HF hRW
      rw [← hb1] at HF
      have HF2 := Lib.hid HF
      have HR2 := Lib.hid hRW
      have HBL := Lib.hid hbl
      obtain ⟨x0, x1, x2⟩ := (HF.box (w.heap.size, [.bool false, .slice none 0 0, .slice none 0 0], 77) (by simp)).cells3
      obtain ⟨k0, k1, -, -⟩ := (HF.box (b1, [.int .i64 a, .int .i64 b], 27) (by simp)).cells2
      obtain ⟨v0', v1', -, -⟩ := (HF.box (w.heap.size + 1 + 1, [.int .i64 vt, .int .i64 vn], 27) (by simp)).cells2
      rw [hW1] at x0 x1 x2 k0 k1 v0' v1'
      rw [hb1] at k0 k1
      have HW1 := Lib.hid hW1
      have HB1 := Lib.hid hb1
      clear HF hRW h11 hr hW1 hb1 hbl HF1 HR1
      go_wp2_with fail
      rw [← HW1.out]
      refine (HNC.out _ HR2.out).mono ?_
      rintro e w2 ⟨rfl, hb2⟩
      rw [← HB1.out]
      have HF3 := Lib.hid (HF2.out.step hb2)
      have HR3 := Lib.hid (HR2.out.below hb2)
      clear hb2 x0 x1 x2 k0 k1 v0 v1 v0' v1' HW1 HB1 HF2 HR2 HNC
      obtain ⟨x0, x1, x2⟩ := (HF3.out.box (w.heap.size, [.bool false, .slice none 0 0, .slice none 0 0], 77) (by simp)).cells3
      obtain ⟨k0, k1, -, -⟩ := (HF3.out.box (b1, [.int .i64 a, .int .i64 b], 27) (by simp)).cells2
      obtain ⟨v0, v1, -, -⟩ := (HF3.out.box (w.heap.size + 1 + 1, [.int .i64 vt, .int .i64 vn], 27) (by simp)).cells2
      by_cases hp : (putT T ⟨a, b⟩ ⟨vt, vn⟩).2 = true
      · have hr := HRV.out
        rw [if_pos hp] at hr
        simp only [Prod.mk.injEq] at hr
        obtain ⟨rfl, rfl, rfl⟩ := hr
        have hs := setR_put HKY.out H11.out hp
        have HS2 := Lib.hid (HS.out.trans hs)
        clear HRV hs hp
        go_wp2_with fail
        refine (rput_any HR3.out ⟨a, b⟩ ⟨vt, vn⟩).mono ?_
        rintro e w5 ⟨rfl, h5, h6⟩
        have HE : Hid (SetRP w p A L S (.returned (.int .i64 0)) w5) := Lib.hid ⟨A, L, by rw [HS2.out], by rw [HS2.out]; exact h5, MvR.of_keep ((Keep.of_below HF3.out.b).trans h6)⟩
        clear h5 h6 x0 x1 x2 k0 k1 v0 v1
        go_wp2_with fail
        go_ret
        exact HE.out
      · have hr := HRV.out
        rw [if_neg hp] at hr
        simp only [Prod.mk.injEq] at hr
        obtain ⟨rfl, rfl, rfl⟩ := hr
        obtain ⟨l1, l2⟩ := newSz_le T ⟨a, b⟩ hpl
        have c2 := HR3.out.c2
        have hful := fun hf => setR_full (T := T) (v := ⟨vt, vn⟩) HKY.out H11.out hp hf
        have hren := fun hf => setR_renew (T := T) (v := ⟨vt, vn⟩) HW.out hpl HKY.out H11.out hp hf
        have RN := Lib.hid (rrenew_any HR3.out (newSz T ⟨a, b⟩).1 (newSz T ⟨a, b⟩).2 (by omega) (by omega) (by omega))
        obtain ⟨z1, hz1⟩ : ∃ z, z = (newSz T ⟨a, b⟩).1 := ⟨_, rfl⟩
        obtain ⟨z2, hz2⟩ : ∃ z, z = (newSz T ⟨a, b⟩).2 := ⟨_, rfl⟩
        obtain ⟨mo, hmo⟩ : ∃ m, m = T.most := ⟨_, rfl⟩
        rw [← hz1] at l1 RN hful hren ⊢
        rw [← hz2] at l2 RN hful hren ⊢
        rw [← hmo] at c2 hful hren
        have hw1 : IntKind.i64.wrap (2 * (z2 : Int)) = 2 * (z2 : Int) := IntWalk.i64_in _ (by omega)
        have hw2 : IntKind.i64.wrap ((z1 : Int) + 2 * (z2 : Int)) = (z1 : Int) + 2 * (z2 : Int) := IntWalk.i64_in _ (by omega)
        have HFUL := Lib.hid hful
        have HREN := Lib.hid hren
        clear HRV hful hren hp hz1 hz2 hmo
        by_cases hf : (z1 : Int) + 2 * (z2 : Int) ≤ mo
        · have HS2 := Lib.hid (HS.out.trans (HREN.out hf))
          have g1 : decide (mo < (z1 : Int) + 2 * (z2 : Int)) = false := decide_eq_false (by omega)
          clear HFUL HREN
          go_wp2_with fail
          refine RN.out.mono ?_
          rintro e w4 ⟨rfl, A', L', hR4, hM4⟩
          have hbx := HF3.out.keep hM4.1 (fun x hx ho => by
            have := HO.out _ ho
            have := HBL.out
            simp only [List.mem_cons, List.not_mem_nil, or_false] at hx
            rcases hx with rfl | rfl | rfl | rfl <;> simp only at * <;> omega)
          have HBX := Lib.hid hbx
          have HR4 := Lib.hid hR4
          have HM4 := Lib.hid hM4
          clear hR4 hM4 hbx x0 x1 x2 k0 k1 v0 v1 c2
          obtain ⟨x0, x1, x2⟩ := (HBX.out (w.heap.size, [.bool false, .slice none 0 0, .slice none 0 0], 77) (by simp)).cells3
          obtain ⟨k0, k1, -, -⟩ := (HBX.out (b1, [.int .i64 a, .int .i64 b], 27) (by simp)).cells2
          obtain ⟨v0, v1, -, -⟩ := (HBX.out (w.heap.size + 1 + 1, [.int .i64 vt, .int .i64 vn], 27) (by simp)).cells2
          have hcells : w4.cell? ⟨w.heap.size, 0, none⟩ = some (.bool false) := x0
          go_wp2_with fail
          refine (rput_any HR4.out ⟨a, b⟩ ⟨vt, vn⟩).mono ?_
          rintro e w5 ⟨rfl, h5, h6⟩
          have HE : Hid (SetRP w p A L S (.returned (.int .i64 0)) w5) := by
            have hk3 := (Keep.of_below (B := OwnR p A L) HF3.out.b).trans HM4.out.1
            have hsz := HF3.out.b.size
            have hown : ∀ k, OwnR p A' L' k → OwnR p A L k ∨ w.heap.size ≤ k := fun k hk => (HM4.out.2 k hk).imp id (fun h => Nat.le_trans hsz h)
            exact Lib.hid ⟨A', L', by rw [HS2.out], by rw [HS2.out]; exact h5, hk3.trans' h6 (fun k hk ho => (hown k ho).elim id (fun h => by omega)), hown⟩
          clear h5 h6 x0 x1 x2 k0 k1 v0 v1 hcells
          go_wp2_with fail
          go_ret
          exact HE.out
        · have HS2 := Lib.hid (HS.out.trans (HFUL.out hf))
          have g1 : decide (mo < (z1 : Int) + 2 * (z2 : Int)) = true := decide_eq_true (by omega)
          have HE : Hid (SetRP w p A L S (.returned (.int .i64 8)) w2) := Lib.hid ⟨A, L, by rw [HS2.out], by rw [HS2.out]; exact HR3.out, MvR.of_keep (Keep.of_below HF3.out.b)⟩
          clear HFUL HREN
          go_wp2_with fail
          go_ret
          exact HE.out
end Go.Proofs.Ytpodgmajccmgkaa
