/- ScriptPrints: its walk. -/
import Derived.Test.YthncifbnkednlaaDoorScrRPrint
import Derived.Test.YthncifbnkednlaaDoorScrAlive
import Derived.Laws.AppendOwnNone
namespace Go.Proofs.YthncifbnkednlaaDoor
open Go.RowKit Go.Shelf
set_option linter.unusedVariables false
set_option linter.unusedSimpArgs false

/-- A scene that came in. -/
def InZ (W : World) (v : Value) (pts : List Pt) : Prop := PtsZ W v pts ∧ (v = .slice none 0 0 ∨ ∃ ad c, v = .slice (some ad) pts.length c)
theorem InZ.keep {W W' : World} {v : Value} {pts : List Pt} (h : InZ W v pts) (hb : Below W.heap.size W W') : InZ W' v pts := ⟨h.1.keep hb, h.2⟩

def flatZ (l : List Pt) : List Value := l.flatMap fun x => [.int .i64 x.1, .int .i64 x.2]
theorem flatZ_len (l : List Pt) : (flatZ l).length = l.length * 2 := by
  induction l with
  | nil => rfl
  | cons x l ih => unfold flatZ at *; rw [List.flatMap_cons, List.length_append, ih, List.length_cons]; simp; omega
theorem flatZ_at : ∀ (l : List Pt) (j : Nat) (x : Pt), l[j]? = some x → (flatZ l)[j * 2]? = some (.int .i64 x.1) ∧ (flatZ l)[j * 2 + 1]? = some (.int .i64 x.2) := by
  intro l
  induction l with
  | nil => intro j x h; simp at h
  | cons y l ih =>
    intro j x h
    cases j with
    | zero => simp only [List.getElem?_cons_zero, Option.some.injEq] at h; subst h; exact ⟨rfl, rfl⟩
    | succ j =>
      rw [List.getElem?_cons_succ] at h
      obtain ⟨h1, h2⟩ := ih j x h
      rw [show (j + 1) * 2 = j * 2 + 1 + 1 by omega]
      unfold flatZ at *
      rw [List.flatMap_cons]
      exact ⟨h1, h2⟩
theorem flatZ_one (l : List Pt) : ∀ u ∈ flatZ l, u.oneCell' = true := by
  intro u hu
  unfold flatZ at hu
  rw [List.mem_flatMap] at hu
  obtain ⟨x, _, hx⟩ := hu
  simp at hx
  rcases hx with rfl | rfl <;> rfl
theorem add_odd (ad : Addr) (i : Nat) : ad.add (i * 2 + 1) = ⟨(ad.add (i * 2)).block, (ad.add (i * 2)).off + 1, none⟩ := by
  unfold Addr.add
  rw [if_neg (by omega)]
  split
  · rename_i h; simp [h]
  · simp; omega
theorem PtsZ.flat {W : World} {ad : Addr} {n c : Nat} {pts : List Pt} (h : PtsZ W (.slice (some ad) n c) pts) : ∀ j u, (flatZ pts)[j]? = some u → W.cell? (ad.add j) = some u := by
  obtain ⟨a, c', he, hc⟩ := h
  cases he
  intro j u hu
  have hl : j < (flatZ pts).length := (List.getElem?_eq_some_iff.1 hu).1
  rw [flatZ_len] at hl
  have hi : j / 2 < pts.length := by omega
  have hx : pts[j / 2]? = some pts[j / 2] := List.getElem?_eq_getElem hi
  obtain ⟨ad', e, e1, e2⟩ := hc _ _ hx
  obtain rfl := Option.some.inj e
  obtain ⟨k1, k2⟩ := flatZ_at pts _ _ hx
  rcases (show j = j / 2 * 2 ∨ j = j / 2 * 2 + 1 by omega) with h | h
  · rw [h] at hu ⊢
    rw [k1] at hu
    rw [← hu]
    exact e1
  · rw [h] at hu ⊢
    rw [k2] at hu
    rw [← hu, add_odd]
    exact e2
theorem own_ptsZ {W : World} {base : Nat} {v : Value} {pts : List Pt} (h : W.ownsRow base 43 2 v pts.length (flatZ pts)) : PtsZ W v pts := by
  have hc : ∀ g, v.ownBlock = some g → ∀ j u, (flatZ pts)[j]? = some u → W.cell? ((⟨g, 0, none⟩ : Addr).add j) = some u := fun g hg => h.cells (g := g) hg
  rcases h.2 with ⟨rfl, h0⟩ | ⟨g, cap, cur, rfl, _⟩
  · refine ⟨none, 0, by rw [h0], fun j x e => ?_⟩
    have := (List.getElem?_eq_some_iff.1 e).1
    omega
  · refine ⟨some ⟨g, 0, none⟩, cap, rfl, fun i x e => ⟨_, rfl, ?_, ?_⟩⟩
    · exact hc g rfl _ _ (flatZ_at pts i x e).1
    · rw [← add_odd]
      exact hc g rfl _ _ (flatZ_at pts i x e).2

set_option maxRecDepth 100000 in
set_option maxHeartbeats 4000000 in
theorem prints_any (x : ScZ) (pv : Value) (w : World) (he : EnvP w) (hp : InZ w pv x.pts) : Calls Tryd.prog 4 #[sceneZ x pv] w fun e w' => e = .returned (.bool true) ∧ Below w.heap.size w w' := by
  obtain ⟨N, hN⟩ : ∃ N, N = x.pts.length := ⟨_, rfl⟩
  obtain ⟨a, c, rfl, hcell⟩ := hp.1
  have HE := Lib.hid he
  have HP := Lib.hid hp
  have HN := Lib.hid hN
  obtain ⟨p, hpp⟩ : ∃ p, p = w.heap.size := ⟨_, rfl⟩
  have HPB := Lib.hid hpp
  obtain ⟨W, hW⟩ : ∃ W, W = w.alloc (.cells #[.int .i64 x.size, .int .i64 x.steps, .slice a N c, .string (str x.src)] 25) := ⟨_, rfl⟩
  have HX : Hid (Box W p [.int .i64 x.size, .int .i64 x.steps, .slice a N c, .string (str x.src)] 25) := Lib.hid (by rw [hW, hpp]; exact heap_alloc_new w _)
  have HBL : Hid (Below w.heap.size w W) := Lib.hid (by rw [hW]; exact below_alloc _ _)
  have HE1 := Lib.hid (HE.out.below HBL.out)
  unfold sceneZ
  rw [← hN]
  obtain ⟨sb, hsb⟩ : ∃ sb, sb = str x.src := ⟨_, rfl⟩
  have HSB := Lib.hid hsb
  rw [← hsb] at HX hW ⊢
  have c0 := HX.out.cell 0
  have c1 := HX.out.cell 1
  have c2 := HX.out.cell 2
  have c3 := HX.out.cell 3
  simp only [List.getElem?_cons_zero, List.getElem?_cons_succ] at c0 c1 c2 c3
  have HWW := Lib.hid hW
  clear he hp hcell hN hsb hW
  go_enter Tryd.func4, Tryd.ntmps4
  go_upto_region 1 with fail
  rw [← HWW.out, ← hpp]
  clear hpp
  go_wp2_with fail
  refine (vast_any x.size x.steps a N c sb W).mono ?_
  rintro e w2 ⟨rfl, hb2⟩
  have HX2 := Lib.hid (HX.out.below hb2 HX.out.lt)
  have HBL2 := Lib.hid (HBL.out.trans (hb2.mono HBL.out.size))
  have HE2 := Lib.hid (HE1.out.below hb2)
  clear hb2 c0 c1 c2 c3
  cases hv : decide (5000 < N ∨ 20000 < sb.size) with
  | true =>
    go_wp2_with fail
    refine (alive_any _ HE2.out.e).mono ?_
    rintro e w3 ⟨rfl, hb3⟩
    have HBL3 := Lib.hid (HBL2.out.trans (hb3.mono HBL2.out.size))
    clear hb3
    go_wp2_with fail
    go_ret
    exact ⟨rfl, HBL3.out⟩
  | false =>
    have hvn := of_decide_eq_false hv
    have hn5 : N ≤ 5000 := by omega
    have hs5 : sb.size ≤ 20000 := by omega
    clear hv hvn
    have c0 := HX2.out.cell 0
    have c1 := HX2.out.cell 1
    have c2 := HX2.out.cell 2
    have c3 := HX2.out.cell 3
    simp only [List.getElem?_cons_zero, List.getElem?_cons_succ] at c0 c1 c2 c3
    have cA2 : (w2.alloc (.cells #[] 43)).cell? ⟨p, 2, none⟩ = some (.slice a N c) := ((below_alloc w2 _).cell HX2.out.lt).trans c2
    have hown0 : (w2.alloc (.cells #[] 43)).ownsRow 0 43 2 (.slice (some ⟨w2.heap.size, 0, none⟩) 0 0) 0 [] := World.ownsRow_made w2 #[] 0 (Nat.zero_le _) (Nat.zero_le _) rfl
    obtain ⟨i0, hi0, hzz0, hzz1, hzz2⟩ := info_parts Tryd.infoN43
    have HI0 := Lib.hid hi0
    clear hi0
    have HPZ := Lib.hid (HP.out.1.keep (HBL2.out.trans ((below_alloc w2 (.cells #[] 43)).mono HBL2.out.size)))
    go_upto_region 3 with fail
    go_cut [3] (fun t3 wx => PtsZ wx t3 x.pts ∧ Below w2.heap.size w2 wx)
    case first =>
      rcases HP.out.2 with h0 | ⟨ad, c', hse⟩
      · have h1 := Value.slice.inj h0
        obtain rfl : a = none := h1.1
        obtain rfl : c = 0 := h1.2.2
        obtain rfl : N = 0 := by rw [HN.out]; exact h1.2.1
        have hnil : x.pts = [] := List.eq_nil_of_length_eq_zero h1.2.1
        have HNIL := Lib.hid hnil
        clear hnil h0 h1
        go_wp2_with (at_builtin; refine wpList_append_own_none rfl _ _ 23 rfl 0 43 i0 2 Tryd.underlying23 HI0.out _ 0 [] rfl hown0 rfl ?_)
        go_meet
        case rel => exact ⟨by rw [HNIL.out]; exact ⟨_, _, rfl, fun i x e => by simp at e⟩, below_alloc _ _⟩
      · have h1 := Value.slice.inj hse
        obtain rfl : a = some ad := h1.1
        obtain rfl : c = c' := h1.2.2
        clear hse h1
        go_wp2_with (at_builtin; refine wpList_append_row rfl _ _ 23 rfl 43 i0 (.agg #[.int .i64 0, .int .i64 0]) 2 16 Tryd.underlying23 HI0.out hzz0 hzz1 hzz2 rfl (by decide) _ 0 [] rfl hown0 ad N c (flatZ x.pts) rfl (by rw [flatZ_len, HN.out]) HPZ.out.flat (flatZ_one _) (by unfold maxLen; omega) (by omega) ?_)
        intro v3 w3 hown3 hg3 hb3
        replace hown3 : w3.ownsRow 0 43 2 v3 x.pts.length (flatZ x.pts) := by have h := hown3; rw [← HN.out]; simpa using h
        have hz3 := Lib.hid (own_ptsZ hown3)
        have hbb : Below w2.heap.size w2 w3 := (below_alloc w2 _).grown hg3 (by simp) (fun k hk => by cases hk; exact Nat.le_refl _)
        have HBB := Lib.hid hbb
        clear hown3 hg3 hb3 hbb
        go_wp2_with fail
        go_meet
        case rel => exact ⟨hz3.out, HBB.out⟩
    case rest =>
      obtain ⟨hz3, hb3⟩ := hcut
      have HZ3 := Lib.hid hz3
      have HX3 := Lib.hid (HX2.out.below hb3 HX2.out.lt)
      have HBL3 := Lib.hid (HBL2.out.trans (hb3.mono HBL2.out.size))
      have HE3 := Lib.hid (HE2.out.below hb3)
      have HP3 := Lib.hid (HP.out.1.keep HBL3.out)
      clear hz3 hb3 c0 c1 c2 c3 cA2 hown0 HPZ HX2 HBL2 HE2
      have c0 := HX3.out.cell 0
      have c1 := HX3.out.cell 1
      have c2 := HX3.out.cell 2
      have c3 := HX3.out.cell 3
      simp only [List.getElem?_cons_zero, List.getElem?_cons_succ] at c0 c1 c2 c3
      obtain ⟨r, hr⟩ : ∃ r, r = printZ x.size x.steps x.pts x.src := ⟨_, rfl⟩
      have hsl : x.src.length ≤ 20000 := by rw [← size_str, ← HSB.out]; exact hs5
      have hnl : x.pts.length ≤ 5000 := by rw [← HN.out]; exact hn5
      have HPR : Hid (∀ w, EnvP w → PtsZ w (.slice a x.pts.length c) x.pts → Calls Tryd.prog 14 #[.agg #[.int .i64 x.size, .int .i64 x.steps, .slice a N c, .string sb]] w fun e w' => PrintAns r e ∧ Below w.heap.size w w') := Lib.hid (fun w h1 h2 => by
        rw [HN.out, HSB.out, hr]
        exact print_any x _ w h1 h2 hnl hsl)
      have HRR : Hid (∀ w, PtsZ w (.slice a x.pts.length c) x.pts → Calls Tryd.prog 15 #[.agg #[.int .i64 x.size, .int .i64 x.steps, .slice a N c, .string sb]] w fun e w' => PrintAns r e ∧ Below w.heap.size w w') := Lib.hid (fun w h2 => by
        rw [HN.out, HSB.out, hr]
        exact rprint_any x _ w h2 hnl hsl)
      have HNL := Lib.hid hnl
      clear hr hsl hnl
      go_wp2_with fail
      refine (HPR.out _ HE3.out HP3.out).mono ?_
      rintro e w4 ⟨hans, hb4⟩
      unfold PrintAns at hans
      subst hans
      have HX4 := Lib.hid (HX3.out.below hb4 HX3.out.lt)
      have HBL4 := Lib.hid (HBL3.out.trans (hb4.mono HBL3.out.size))
      have HE4 := Lib.hid (HE3.out.below hb4)
      have HP4 := Lib.hid (HP.out.1.keep HBL4.out)
      have HZ4 := Lib.hid (HZ3.out.keep hb4)
      clear hb4 c0 c1 c2 c3
      have c0 := HX4.out.cell 0
      have c1 := HX4.out.cell 1
      have c2 := HX4.out.cell 2
      have c3 := HX4.out.cell 3
      simp only [List.getElem?_cons_zero, List.getElem?_cons_succ] at c0 c1 c2 c3
      go_wp2_with fail
      refine (HRR.out _ HP4.out).mono ?_
      rintro e w5 ⟨hans, hb5⟩
      unfold PrintAns at hans
      subst hans
      have HX5 := Lib.hid (HX4.out.below hb5 HX4.out.lt)
      have HBL5 := Lib.hid (HBL4.out.trans (hb5.mono HBL4.out.size))
      have HE5 := Lib.hid (HE4.out.below hb5)
      have HP5 := Lib.hid (HP.out.1.keep HBL5.out)
      have HZ5 := Lib.hid (HZ4.out.keep hb5)
      clear hb5 c0 c1 c2 c3
      have c0 := HX5.out.cell 0
      have c1 := HX5.out.cell 1
      have c2 := HX5.out.cell 2
      have c3 := HX5.out.cell 3
      simp only [List.getElem?_cons_zero, List.getElem?_cons_succ] at c0 c1 c2 c3
      obtain ⟨r1, r2⟩ := r
      simp only
      go_wp2_with (go_at_call 12; refine (no_int _ _).mono ?_; rintro e w' ⟨rfl, rfl⟩)
      have hps := points_sameZ HZ5.out HP5.out (by have := HNL.out; omega)
      rw [← HN.out] at hps
      refine hps.mono ?_
      rintro e w6 ⟨rfl, hb6⟩
      have HBL6 := Lib.hid (HBL5.out.trans (hb6.mono HBL5.out.size))
      have HE6 := Lib.hid (HE5.out.below hb6)
      clear hb6 hps
      go_wp2_with fail
      refine (alive_any _ HE6.out.e).mono ?_
      rintro e w7 ⟨rfl, hb7⟩
      have HBL7 := Lib.hid (HBL6.out.trans (hb7.mono HBL6.out.size))
      clear hb7
      go_wp2_with fail
      go_ret
      exact ⟨rfl, HBL7.out⟩
end Go.Proofs.YthncifbnkednlaaDoor
