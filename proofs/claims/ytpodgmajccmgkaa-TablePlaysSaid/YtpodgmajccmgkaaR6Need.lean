/- The document's table: Need. -/
import Derived.Test.YtpodgmajccmgkaaR6Renew
namespace Go.Proofs.Ytpodgmajccmgkaa
open Go.RowKit Go.Shelf
set_option linter.unusedVariables false
set_option linter.unusedSimpArgs false
attribute [local go_sem] Oper.semAt_some field_t

variable {w w' W W' : World} {p g : Nat} {A L A' L' : Value} {T T' : Tb}

def needR (T : Tb) (k v : V) : Int × Int × Bool := if (putT T k v).2 = true then (0, 0, false) else (((newSz T k).1 : Int), ((newSz T k).2 : Int), true)

theorem putT_snd (T : Tb) (k v : V) : (putT T k v).2 = (inAB T k || decide (0 ≤ (findN T k).1) || decide (0 ≤ (findN T k).2) || decide (v.t = 0)) := by
  rw [putT_ref]
  cases inAB T k with
  | true => rw [if_pos rfl]; rfl
  | false =>
    rw [if_neg (by decide)]
    by_cases h1 : 0 ≤ (findN T k).1
    · rw [if_pos h1]; simp [h1]
    · rw [if_neg h1]
      by_cases h2 : v.t = 0
      · rw [if_pos h2]; simp [h2]
      · rw [if_neg h2]
        by_cases h3 : 0 ≤ (findN T k).2
        · rw [if_pos h3]; simp [h3]
        · rw [if_neg h3]; simp [h1, h2, h3]

theorem rowP_own {v : Value} {l : List Pr} {n : Nat} (h : W.ownsRow 0 85 4 v n (flatP l)) (hn : n = l.length) (h0 : 0 < n) : ∃ g c, v = .slice (some ⟨g, 0, none⟩) n c ∧ RowP W g (l.map fun x => (x.k, x.v)) := by
  have hc := fun {g : Nat} (e : v.ownBlock = some g) => World.ownsRow.cells h (g := g) e
  rcases h.2 with ⟨-, h1⟩ | ⟨g, cap, cur, rfl, -, hg, h4⟩
  · omega
  · refine ⟨g, cap, rfl, (Array.getElem?_eq_some_iff.1 hg).1, fun i x hx => ?_⟩
    rw [List.getElem?_map, Option.map_eq_some_iff] at hx
    obtain ⟨y, hy, rfl⟩ := hx
    have hcc := fun j => hc (g := g) rfl (i * 4 + j)
    have h0 := hcc 0 _ ((flatP_get hy (k := 0) (by omega)).trans rfl)
    have h1 := hcc 1 _ ((flatP_get hy (k := 1) (by omega)).trans rfl)
    have h2 := hcc 2 _ ((flatP_get hy (k := 2) (by omega)).trans rfl)
    have h3 := hcc 3 _ ((flatP_get hy (k := 3) (by omega)).trans rfl)
    rw [addr_add, Nat.zero_add] at h0 h1 h2 h3
    exact ⟨h0, h1, h2, h3⟩

set_option maxRecDepth 100000 in
set_option maxHeartbeats 4000000 in
theorem rneed_any (H : RefAt w p A L T) (hpl : (pairsL T).length + 1 ≤ 8000) (k v : V) : Calls Try.prog 53 #[.pointer (some ⟨p, 0, none⟩), .agg #[.bool false, .slice none 0 0, .slice none 0 0], .agg #[.int .i64 k.t, .int .i64 k.n], .agg #[.int .i64 v.t, .int .i64 v.n]] w fun e w' => e = .returned (.tuple #[.int .i64 (needR T k v).1, .int .i64 (needR T k v).2.1, .bool (needR T k v).2.2]) ∧ Below w.heap.size w w' := by
  obtain ⟨q, hq⟩ : ∃ q, inAB T k = q := ⟨_, rfl⟩
  obtain ⟨f1, f2, hf⟩ : ∃ f1 f2, findN T k = (f1, f2) := ⟨_, _, rfl⟩
  obtain ⟨r1, r2, r3, hr⟩ : ∃ r1 r2 r3, needR T k v = (r1, r2, r3) := ⟨_, _, _, rfl⟩
  rw [hr]
  simp only
  unfold needR at hr
  rw [putT_snd, hq, hf] at hr
  simp only at hr
  have HI := Lib.hid (fun w (h : RefAt w p A L T) => rin_is h hq)
  have HFC := Lib.hid (fun w (h : RefAt w p A L T) => rfind_is h hf)
  have HH := Lib.hid H
  have HP := Lib.hid hr
  obtain ⟨n, hn⟩ : ∃ n, n = (pairsL T).length := ⟨_, rfl⟩
  obtain ⟨z1, hz1⟩ : ∃ z, z = (newSz T k).1 := ⟨_, rfl⟩
  obtain ⟨z2, hz2⟩ : ∃ z, z = (newSz T k).2 := ⟨_, rfl⟩
  have HN := Lib.hid hn
  have HZ1 := Lib.hid hz1
  have HZ2 := Lib.hid hz2
  rw [← hn] at hpl
  have HSZ : Hid (∀ (w : World) (g c : Nat), RowP w g ((pairsL T ++ [(⟨0, k, v⟩ : Pr)]).map fun x => (x.k, x.v)) → Calls Try.prog 65 #[.slice (some ⟨g, 0, none⟩) (n + 1) c] w fun e w' => e = .returned (.tuple #[.int .i64 z1, .int .i64 z2]) ∧ Below w.heap.size w w') := by
    refine Lib.hid (fun w g c h => ?_)
    have := rsizes_any h (N := n + 1) (c := c) (by simp [hn]) (by omega) (K := (pairsL T).map Pr.k ++ [k]) (by simp [Function.comp])
    rw [hz1, hz2]
    exact this
  obtain ⟨i0, hi0, hzz0, hzz1, hzz2⟩ := info_parts Try.infoN85
  obtain ⟨kt, kn⟩ := k
  obtain ⟨vt, vn⟩ := v
  simp only at *
  clear hq hf hr H hn hz1 hz2
  go_enter Try.func53, Try.ntmps53
  go_wp2_with fail
  have hF0 := boxes3G (l := [.bool false, .slice none 0 0, .slice none 0 0]) (l' := [.int .i64 kt, .int .i64 kn]) (l'' := [.int .i64 vt, .int .i64 vn]) (Below.refl (((w.alloc (.cells [.bool false, .slice none 0 0, .slice none 0 0].toArray 77)).alloc (.cells [.int .i64 kt, .int .i64 kn].toArray 27)).alloc (.cells [.int .i64 vt, .int .i64 vn].toArray 27)).heap.size _)
  refine (HFC.out _ (HH.out.below hF0.b)).mono ?_
  rintro e w1 ⟨rfl, hb1⟩
  have HF1 := Lib.hid (hF0.step hb1)
  have HR1 := Lib.hid (HH.out.below HF1.out.b)
  clear hb1 hF0 HFC
  obtain ⟨k0, k1, -, -⟩ := (HF1.out.box (w.heap.size + 1, [.int .i64 kt, .int .i64 kn], 27) (by simp)).cells2
  go_wp2_with fail
  refine (HI.out _ HR1.out).mono ?_
  rintro e w2 ⟨rfl, hb2⟩
  have HF2 := Lib.hid (HF1.out.step hb2)
  have HR2 := Lib.hid (HR1.out.below hb2)
  clear hb2 HI k0 k1 HF1 HR1
  obtain ⟨k0, k1, -, -⟩ := (HF2.out.box (w.heap.size + 1, [.int .i64 kt, .int .i64 kn], 27) (by simp)).cells2
  obtain ⟨v0, v1, -, -⟩ := (HF2.out.box (w.heap.size + 1 + 1, [.int .i64 vt, .int .i64 vn], 27) (by simp)).cells2
  cases q with
  | true =>
    have hr := HP.out
    rw [if_pos (by rfl)] at hr
    simp only [Prod.mk.injEq] at hr
    obtain ⟨rfl, rfl, rfl⟩ := hr
    clear HP
    go_wp2_with fail
    go_ret3
    exact ⟨rfl, HF2.out.b⟩
  | false =>
    have HP1 := Lib.hid HP.out
    clear HP
    by_cases h1 : 0 ≤ f1
    · have hr := HP1.out
      rw [if_pos (by simp [h1])] at hr
      simp only [Prod.mk.injEq] at hr
      obtain ⟨rfl, rfl, rfl⟩ := hr
      have g1 : decide (0 ≤ f1) = true := decide_eq_true h1
      clear HP1
      go_wp2_with fail
      go_ret3
      exact ⟨rfl, HF2.out.b⟩
    · have HP2 := Lib.hid HP1.out
      have g1 : decide (0 ≤ f1) = false := decide_eq_false h1
      have g1' : f1 < 0 := by omega
      clear HP1
      by_cases h2 : 0 ≤ f2
      · have hr := HP2.out
        rw [if_pos (by simp [h2])] at hr
        simp only [Prod.mk.injEq] at hr
        obtain ⟨rfl, rfl, rfl⟩ := hr
        have g2 : decide (0 ≤ f2) = true := decide_eq_true h2
        clear HP2
        go_wp2_with fail
        go_ret3
        exact ⟨rfl, HF2.out.b⟩
      · have g2 : decide (0 ≤ f2) = false := decide_eq_false h2
        have g2' : f2 < 0 := by omega
        by_cases h3 : vt = 0
        · have hr := HP2.out
          rw [if_pos (by simp [h3])] at hr
          simp only [Prod.mk.injEq] at hr
          obtain ⟨rfl, rfl, rfl⟩ := hr
          clear HP2
          subst h3
          go_wp2_with fail
          go_ret3
          exact ⟨rfl, HF2.out.b⟩
        · have hr := HP2.out
          rw [if_neg (by simp [h1, h2, h3])] at hr
          simp only [Prod.mk.injEq] at hr
          obtain ⟨rfl, rfl, rfl⟩ := hr
          have h3' : (vt == 0) = false := by simp [h3]
          clear HP2
          have HALL : Hid (∀ w', Below w2.heap.size w2 w' → Below w.heap.size w w' ∧ RefAt w' p A L T ∧ w'.cell? ⟨w.heap.size + 1, 0, none⟩ = some (.int .i64 kt) ∧ w'.cell? ⟨w.heap.size + 1, 1, none⟩ = some (.int .i64 kn) ∧ w'.cell? ⟨w.heap.size + 1 + 1, 0, none⟩ = some (.int .i64 vt) ∧ w'.cell? ⟨w.heap.size + 1 + 1, 1, none⟩ = some (.int .i64 vn)) := by
            refine Lib.hid (fun w' hb => ?_)
            have hF := HF2.out.step hb
            obtain ⟨a0, a1, -, -⟩ := (hF.box (w.heap.size + 1, [.int .i64 kt, .int .i64 kn], 27) (by simp)).cells2
            obtain ⟨b0, b1, -, -⟩ := (hF.box (w.heap.size + 1 + 1, [.int .i64 vt, .int .i64 vn], 27) (by simp)).cells2
            exact ⟨hF.b, HR2.out.below hb, a0, a1, b0, b1⟩
          have HROW : Hid (∀ (W : World) (v3 : Value), W.ownsRow 0 85 4 v3 (n + 1) (flatP (pairsL T) ++ [.int .i64 kt, .int .i64 kn, .int .i64 vt, .int .i64 vn]) → ∃ g c, v3 = .slice (some ⟨g, 0, none⟩) (n + 1) c ∧ RowP W g ((pairsL T ++ [(⟨0, ⟨kt, kn⟩, ⟨vt, vn⟩⟩ : Pr)]).map fun x => (x.k, x.v))) :=
            Lib.hid (fun W v3 h => rowP_own (l := pairsL T ++ [(⟨0, ⟨kt, kn⟩, ⟨vt, vn⟩⟩ : Pr)]) (by rw [flatP_snoc]; exact h) (by simp [HN.out]) (by omega))
          go_wp2_with fail
          go_region_held3 (fun w' => w'.cell? ⟨w.heap.size + 1, 0, none⟩ = some (.int .i64 kt) ∧ w'.cell? ⟨w.heap.size + 1, 1, none⟩ = some (.int .i64 kn) ∧ w'.cell? ⟨w.heap.size + 1 + 1, 0, none⟩ = some (.int .i64 vt) ∧ w'.cell? ⟨w.heap.size + 1 + 1, 1, none⟩ = some (.int .i64 vn))
            (first | assumption | exact (HALL.out _ (Below.refl _ _).drew).2.2 | (simp [*, World.cell?_alloc_some, World.cell?_setCell_far]))
            ((first
              | (go_at_call 66; refine (rpairs_any (HALL.out _ (by repeat (first | exact Below.refl _ _ | refine Below.alloc ?_ (by first | (simp; done) | (simp; omega)) _ | refine below_drewN ?_ _ | refine Below.drew ?_ | refine Below.setCell ?_ (by first | (simp; done) | (simp; omega)) _))).2.1).mono ?_; rintro e wz ⟨vz, rfl, hz⟩; have hzW := blj (show Below w2.heap.size w2 _ from (by repeat (first | exact Below.refl _ _ | refine Below.alloc ?_ (by first | (simp; done) | (simp; omega)) _ | refine below_drewN ?_ _ | refine Below.drew ?_ | refine Below.setCell ?_ (by first | (simp; done) | (simp; omega)) _))) hz.2; have s1 := (HALL.out _ hzW).2.2)
              | (refine step_append_row rfl (.tmp 40) (.tmp 44) 47 rfl 85 i0 (.agg #[.int .i64 0, .int .i64 0, .int .i64 0, .int .i64 0]) 4 32 Try.underlying47 hi0 hzz0 hzz1 hzz2 rfl (by decide) vz (pairsL T).length (flatP (pairsL T)) rfl (row_up' (row_lo hz.1) (below_alloc wz _)) ⟨wz.heap.size, 0, none⟩ 1 1 [.int .i64 kt, .int .i64 kn, .int .i64 vt, .int .i64 vn] rfl rfl (cell_new4 wz [.int .i64 kt, .int .i64 kn, .int .i64 vt, .int .i64 vn] 85) (one4 _ _ _ _) (by have := HN.out; unfold maxLen; omega) (by have := HN.out; omega) ?_; intro v3 w3 hown3 hg3 hb3; have hB3 : Below w2.heap.size w2 w3 := (hzW.alloc hzW.size _).grown hg3 (Nat.le_trans hzW.size (by simp)) (fun k hk => Nat.le_trans (show w2.heap.size ≤ _ by simp) (row_own hz.1 k hk)); obtain ⟨g3, c3, rfl, hR3⟩ := HROW.out _ _ (by rw [HN.out]; exact hown3); have s3 := (HALL.out _ hB3).2.2)
              | (refine step_append_row rfl (.tmp 40) (.tmp 44) 47 rfl 85 i0 (.agg #[.int .i64 0, .int .i64 0, .int .i64 0, .int .i64 0]) 4 32 Try.underlying47 hi0 hzz0 hzz1 hzz2 rfl (by decide) vz (pairsL T).length (flatP (pairsL T)) rfl (row_lo hz.1) ⟨w2.heap.size, 0, none⟩ 1 1 [.int .i64 kt, .int .i64 kn, .int .i64 vt, .int .i64 vn] rfl rfl (fun j u hu => (hz.2.cell (by simp [addr_add])).trans (cell_new4 w2 [.int .i64 kt, .int .i64 kn, .int .i64 vt, .int .i64 vn] 85 j u hu)) (one4 _ _ _ _) (by have := HN.out; unfold maxLen; omega) (by have := HN.out; omega) ?_; intro v3 w3 hown3 hg3 hb3; have hB3 : Below w2.heap.size w2 w3 := hzW.grown hg3 hzW.size (fun k hk => Nat.le_trans (show w2.heap.size ≤ _ by simp) (row_own hz.1 k hk)); obtain ⟨g3, c3, rfl, hR3⟩ := HROW.out _ _ (by rw [HN.out]; exact hown3); have s3 := (HALL.out _ hB3).2.2)
              | (go_at_call 65; refine (HSZ.out _ _ _ hR3).mono ?_; rintro e w4 ⟨rfl, h4⟩; have hB4 := blj hB3 h4; have s4 := (HALL.out _ hB4).2.2)))
          all_goals (
            have HE := Lib.hid (HALL.out _ hB4).1
            clear h4 hB4 hB3 s4 s3 hown3 hg3 hb3 hR3
            go_wp2_with fail
            go_ret3
            exact ⟨by rw [← HZ1.out, ← HZ2.out]; rfl, HE.out⟩)
end Go.Proofs.Ytpodgmajccmgkaa
