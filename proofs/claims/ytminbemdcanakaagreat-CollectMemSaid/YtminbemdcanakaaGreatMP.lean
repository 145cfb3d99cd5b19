/- The reference's graphs. -/
import Derived.Test.YtminbemdcanakaaGreatME
import Derived.Test.YtminbemdcanakaaGreatMF
namespace Go.Proofs.YtminbemdcanakaaGreat
open Go.RowKit
set_option linter.unusedVariables false
set_option linter.unusedSimpArgs false

variable {w : World}
set_option maxRecDepth 100000 in
set_option maxHeartbeats 4000000 in
theorem refObj_any {tv rv : Value} {ts : List (Ob × Value)} (ht : Rd w tv ts.length (flatT ts)) (hs : ts.length ≤ 100000) (v : V) :
    Calls Tryz.prog 86 #[.agg #[tv, rv], v.val] w fun e w' => e = .returned (.int .i64 (objG (ts.map Prod.fst) v)) ∧ Below w.heap.size w w' := by
  have hb := (below_alloc w (.cells #[tv, rv] 25)).alloc (by simp) (.cells #[.int .i64 v.t, .int .i64 v.n] 34)
  replace ht := ht.below hb
  have hlm : (ts.map Prod.fst).length = ts.length := List.length_map _
  obtain ⟨N, hN⟩ : ∃ N, N = ts.length := ⟨_, rfl⟩
  unfold V.val
  obtain ⟨vt, vn⟩ := v
  simp only
  by_cases h1 : vt < 4
  · have hr : objG (ts.map Prod.fst) ⟨vt, vn⟩ = 0 := if_neg (by simp only; omega)
    rw [hr]
    have g1 : decide (vt < 4) = true := decide_eq_true h1
    have HB := Lib.hid hb
    clear hr hb
    try clear ht
    go_enter Tryz.func86, Tryz.ntmps86
    go_wp2_with fail
    go_ret
    exact ⟨rfl, HB.out⟩
  have g1 : decide (vt < 4) = false := decide_eq_false h1
  by_cases h2 : 9 < vt
  · have hr : objG (ts.map Prod.fst) ⟨vt, vn⟩ = 0 := if_neg (by simp only; omega)
    rw [hr]
    have g2 : decide (9 < vt) = true := decide_eq_true h2
    have HB := Lib.hid hb
    clear hr hb
    try clear ht
    go_enter Tryz.func86, Tryz.ntmps86
    go_wp2_with fail
    go_ret
    exact ⟨rfl, HB.out⟩
  have g2 : decide (9 < vt) = false := decide_eq_false h2
  by_cases h3 : vn < 1
  · have hr : objG (ts.map Prod.fst) ⟨vt, vn⟩ = 0 := if_neg (by simp only; omega)
    rw [hr]
    have g3 : decide (vn < 1) = true := decide_eq_true h3
    have HB := Lib.hid hb
    clear hr hb
    try clear ht
    go_enter Tryz.func86, Tryz.ntmps86
    go_wp2_with fail
    go_ret
    exact ⟨rfl, HB.out⟩
  have g3 : decide (vn < 1) = false := decide_eq_false h3
  by_cases h4 : (ts.length : Int) < vn
  · have hr : objG (ts.map Prod.fst) ⟨vt, vn⟩ = 0 := if_neg (by simp only; omega)
    rw [hr]
    obtain ⟨a, c, rfl⟩ := rd_slice ht
    rw [← hN] at hs h4 ⊢
    have g4 : decide ((N : Int) < vn) = true := decide_eq_true h4
    have HB := Lib.hid hb
    clear hr hb
    try clear ht
    go_enter Tryz.func86, Tryz.ntmps86
    go_wp2_with fail
    go_ret
    exact ⟨rfl, HB.out⟩
  obtain ⟨j, rfl⟩ : ∃ j : Nat, vn = (j : Int) + 1 := ⟨(vn - 1).toNat, by omega⟩
  have hjl : j < ts.length := by omega
  obtain ⟨⟨o, sv⟩, hx⟩ : ∃ x, ts[j]? = some x := ⟨ts[j], List.getElem?_eq_getElem _⟩
  obtain ⟨ad, c, rfl, hc⟩ := rd_at ht (by intro e; have := flatT_len ts; rw [e] at this; simp at this; omega)
  obtain ⟨f0, -⟩ := flatT_at _ _ _ hx
  have d0 := hc _ _ f0
  have ho : (ts.map Prod.fst)[j]? = some o := by rw [List.getElem?_map, hx]; rfl
  have hob : objG (ts.map Prod.fst) ⟨vt, (j : Int) + 1⟩ = if o.kind = vt then (j : Int) + 1 else 0 := by
    unfold objG
    simp only
    by_cases hk : o.kind = vt
    · rw [if_pos hk, if_pos]
      refine ⟨by omega, by omega, by omega, by omega, ?_⟩
      rw [show ((j : Int) + 1 - 1).toNat = j by omega, ho, Option.map_some, hk]
    · rw [if_neg hk, if_neg]
      rintro ⟨-, -, -, -, e⟩
      rw [show ((j : Int) + 1 - 1).toNat = j by omega, ho, Option.map_some, Option.some.injEq] at e
      exact hk e
  rw [hob]
  rw [← hN] at hs h4 hjl d0 hb ⊢
  have g4 : decide ((N : Int) < (j : Int) + 1) = false := decide_eq_false h4
  have g4' : decide ((N : Int) ≤ (j : Int)) = false := decide_eq_false (by omega)
  obtain ⟨okd, hok⟩ : ∃ k, k = o.kind := ⟨_, rfl⟩
  simp only at d0
  rw [← hok] at d0 ⊢
  by_cases hk : okd = vt
  · rw [if_pos hk]
    rw [hk] at d0
    clear hok hk
    have hr : True := trivial
    have HB := Lib.hid hb
    clear hr hb
    try clear ht
    try clear hob
    try clear ho
    try clear hx
    try clear hok
    try clear hlm
    try clear hN
    try clear hc
    try clear f0
    go_enter Tryz.func86, Tryz.ntmps86
    go_wp2_with fail
    go_region
    go_wp2_with fail
    go_ret
    exact ⟨rfl, HB.out.trans (below_drewN (Below.refl _ _) 1)⟩
  · rw [if_neg hk]
    have g5 : (okd != vt) = true := by simp [hk]
    have hr : True := trivial
    have HB := Lib.hid hb
    clear hr hb
    try clear ht
    try clear hob
    try clear ho
    try clear hx
    try clear hok
    try clear hlm
    try clear hN
    try clear hc
    try clear f0
    go_enter Tryz.func86, Tryz.ntmps86
    go_wp2_with fail
    go_region
    go_wp2_with fail
    go_ret
    exact ⟨rfl, HB.out.trans (below_drewN (Below.refl _ _) 1)⟩
end Go.Proofs.YtminbemdcanakaaGreat
/- The reference's graphs: are all values of a list right ones? -/
namespace Go.Proofs.YtminbemdcanakaaGreat
open Go.RowKit
set_option linter.unusedVariables false
set_option linter.unusedSimpArgs false

variable {w : World}
set_option maxRecDepth 100000 in
set_option maxHeartbeats 4000000 in
theorem refAll_any {tv rv lv : Value} {ts : List (Ob × Value)} {l : List V} (ht : Rd w tv ts.length (flatT ts)) (hs : ts.length ≤ 100000)
    (hl : RdV w lv l) (hsl : l.length ≤ 100000) : Calls Tryz.prog 122 #[.agg #[tv, rv], lv] w fun e w' => AllP w (allG (ts.map Prod.fst) l) e w' := by
  obtain ⟨a, c, rfl⟩ := rd_slice hl
  obtain ⟨N, hN⟩ : ∃ N, N = l.length := ⟨_, rfl⟩
  have hb0 := below_alloc w (.cells #[tv, rv] 25)
  have HX := Lib.hid (Box.new w [tv, rv] 25)
  have HB0 := Lib.hid hb0
  have HL := Lib.hid (Rd.below hl hb0)
  have HT := Lib.hid (ht.below hb0)
  have HN := Lib.hid hN
  have HS := Lib.hid hs
  rw [← hN] at hsl ⊢
  clear hl ht hN hs hb0
  go_enter Tryz.func122, Tryz.ntmps122
  go_wp2_with fail
  obtain ⟨W0, hW0⟩ : ∃ W, W = w.alloc (.cells #[tv, rv] 25) := ⟨_, rfl⟩
  have HSZ := Lib.hid (show W0.heap.size = w.heap.size + 1 by rw [hW0]; simp)
  rw [← hW0] at HX HB0 HL HT ⊢
  clear hW0
  go_loopw [5] (fun t5 wr => ∃ i : Nat, i ≤ N ∧ t5 = .int .i64 i ∧ allG (ts.map Prod.fst) (l.take i) = true ∧ Below W0.heap.size W0 wr) (fun t5 _ => N - (intOf t5).toNat)
  case atStart => exact ⟨0, Nat.zero_le _, by go_num, rfl, Below.refl _ _⟩
  case round =>
    obtain ⟨i, hi, rfl, hacc, hB⟩ := hrel
    by_cases hlt : i < N
    · obtain ⟨x, hx⟩ : ∃ x, l[i]? = some x := ⟨l[i]'(by rw [← HN.out]; exact hlt), List.getElem?_eq_getElem _⟩
      obtain ⟨ad, c2, ha, hc⟩ := rd_at (Rd.below HL.out hB) (by intro e; have := flatV_len l; rw [e] at this; simp at this; have := HN.out; omega)
      rw [← HN.out] at ha
      simp only [Value.slice.injEq] at ha
      obtain ⟨rfl, -, rfl⟩ := ha
      obtain ⟨f0, f1⟩ := flatV_at _ _ _ hx
      have d0 := hc _ _ f0
      have d1 := hc _ _ f1
      have d1' : wr.cell? ⟨(ad.add (i * 2)).block, (ad.add (i * 2)).off + 1, none⟩ = some (.int .i64 x.n) := cell_more d1
      have hacc2 : allG (ts.map Prod.fst) (l.take (i + 1)) = okG (ts.map Prod.fst) x := by
        have e : l.take (i + 1) = l.take i ++ [x] := by rw [List.take_add_one, hx]; rfl
        unfold allG at hacc ⊢
        rw [e, List.all_append, hacc]; simp
      have hfalse : okG (ts.map Prod.fst) x = false → allG (ts.map Prod.fst) l = false := by
        intro hf
        unfold allG
        rw [List.all_eq_false]
        exact ⟨x, List.mem_of_getElem? hx, by rw [hf]; decide⟩
      obtain ⟨xt, xn⟩ := x
      simp only at d0 d1 d1'
      have HA := Lib.hid hacc2
      have HF := Lib.hid hfalse
      clear hacc2 hfalse hx f0 f1 hc hacc
      by_cases h1 : xt < 4
      · have g1 : decide (4 ≤ xt) = false := decide_eq_false (by omega)
        have hok : okG (ts.map Prod.fst) ⟨xt, xn⟩ = true := decide_eq_true (by simp only; omega)
        have HOK := Lib.hid hok
        clear hok
        go_wp2_with fail
        go_quiet (fail)
        have HB2 := Lib.hid (below_drewN hB nq)
        go_wp2_with fail
        go_roundw
        case rel => exact ⟨i + 1, by omega, by go_num, by rw [HA.out, HOK.out], HB2.out⟩
        case measure => simp [intOf]; omega
      · have g1 : decide (4 ≤ xt) = true := decide_eq_true (by omega)
        by_cases h2 : 9 < xt
        · have g2 : decide (xt ≤ 9) = false := decide_eq_false (by omega)
          have hok : okG (ts.map Prod.fst) ⟨xt, xn⟩ = true := decide_eq_true (by simp only; omega)
          have HOK := Lib.hid hok
          clear hok
          go_wp2_with fail
          go_quiet (fail)
          have HB2 := Lib.hid (below_drewN hB nq)
          go_wp2_with fail
          go_roundw
          case rel => exact ⟨i + 1, by omega, by go_num, by rw [HA.out, HOK.out], HB2.out⟩
          case measure => simp [intOf]; omega
        · have g2 : decide (xt ≤ 9) = true := decide_eq_true (by omega)
          have hBd := below_drewN hB 1
          have HO := Lib.hid (refObj_any (rv := rv) (Rd.below HT.out hBd) HS.out ⟨xt, xn⟩)
          have HBA := Lib.hid hBd
          have hbx := HX.out.below hB (by have := HSZ.out; omega)
          have b0 := hbx.cell 0
          have b1 := hbx.cell 1
          simp only [List.getElem?_cons_zero, List.getElem?_cons_succ] at b0 b1
          obtain ⟨g, hg⟩ : ∃ g, g = objG (ts.map Prod.fst) ⟨xt, xn⟩ := ⟨_, rfl⟩
          rw [← hg] at HO
          have HG := Lib.hid hg
          clear hBd hbx hg
          have hst : ∀ W', Below wr.heap.size wr W' → (W'.cell? ⟨w.heap.size, 0, none⟩ = some tv ∧ W'.cell? ⟨w.heap.size, 1, none⟩ = some rv ∧ W'.cell? (ad.add (i * 2)) = some (.int .i64 xt) ∧ W'.cell? ⟨(ad.add (i * 2)).block, (ad.add (i * 2)).off + 1, none⟩ = some (.int .i64 xn)) := fun W' hb =>
            ⟨(hb.cell (p := ⟨w.heap.size, 0, none⟩) (cell_lt b0)).trans b0, (hb.cell (p := ⟨w.heap.size, 1, none⟩) (cell_lt b1)).trans b1, (hb.cell (cell_lt d0)).trans d0, (hb.cell (cell_lt d1')).trans d1'⟩
          by_cases h3 : g = 0
          · have g3 : (g == 0) = true := by simp [h3]
            have hok : okG (ts.map Prod.fst) ⟨xt, xn⟩ = false := decide_eq_false (by rw [← HG.out]; simp only; omega)
            have HR := Lib.hid (HF.out hok)
            clear hok h3
            go_wp2_with fail
            refine wp_region_noPanic ?_
            refine wp_region_held_drew (S := (fun W => W.cell? ⟨w.heap.size, 0, none⟩ = some tv ∧ W.cell? ⟨w.heap.size, 1, none⟩ = some rv ∧ W.cell? (ad.add (i * 2)) = some (.int .i64 xt) ∧ W.cell? ⟨(ad.add (i * 2)).block, (ad.add (i * 2)).off + 1, none⟩ = some (.int .i64 xn))) (by kernel_rfl) ?_ (fun hHeld => ?_)
            · exact ⟨b0, b1, d0, d1'⟩
            refine wpAnyH_take (i := 0) (oi := ?oia0_1) (v := ?vva0_1) ?hia0_1 (by kernel_rfl) (by kernel_rfl) (by kernel_rfl) ?hQa0_1 ?hya0_1 (by assumption) ?resta0_1
            case hia0_1 => (simp only [List.getElem?_toArray, List.getElem?_cons_succ, List.getElem?_cons_zero]; rfl)
            case hQa0_1 => exact fun _ _ _ h => h
            case hya0_1 => (refine Or.inl ⟨by rfl, ?_⟩; intro w hSw; (try dsimp only at hSw); go_simp; try with_reducible rfl)
            try simp only [Act.put, List.setIfInBounds_toArray, List.set_cons_zero, List.set_cons_succ]
            refine wpAnyH_take (i := 1) (oi := ?oia1_2) (v := ?vva1_2) ?hia1_2 (by kernel_rfl) (by kernel_rfl) (by kernel_rfl) ?hQa1_2 ?hya1_2 (by assumption) ?resta1_2
            case hia1_2 => (simp only [List.getElem?_toArray, List.getElem?_cons_succ, List.getElem?_cons_zero]; rfl)
            case hQa1_2 => exact fun _ _ _ h => h
            case hya1_2 => (refine Or.inl ⟨by rfl, ?_⟩; intro w hSw; (try dsimp only at hSw); go_simp; try with_reducible rfl)
            try simp only [Act.put, List.setIfInBounds_toArray, List.set_cons_zero, List.set_cons_succ]
            refine wpAnyH_take (i := 2) (oi := ?oia2_3) (v := ?vva2_3) ?hia2_3 (by kernel_rfl) (by kernel_rfl) (by kernel_rfl) ?hQa2_3 ?hya2_3 (by assumption) ?resta2_3
            case hia2_3 => (simp only [List.getElem?_toArray, List.getElem?_cons_succ, List.getElem?_cons_zero]; rfl)
            case hQa2_3 => exact fun _ _ _ h => h
            case hya2_3 => (refine Or.inl ⟨by rfl, ?_⟩; intro w hSw; (try dsimp only at hSw); go_simp; try with_reducible rfl)
            try simp only [Act.put, List.setIfInBounds_toArray, List.set_cons_zero, List.set_cons_succ]
            refine wpAnyH_take (i := 3) (oi := ?oia3_4) (v := ?vva3_4) ?hia3_4 (by kernel_rfl) (by kernel_rfl) (by kernel_rfl) ?hQa3_4 ?hya3_4 (by assumption) ?resta3_4
            case hia3_4 => (simp only [List.getElem?_toArray, List.getElem?_cons_succ, List.getElem?_cons_zero]; rfl)
            case hQa3_4 => exact fun _ _ _ h => h
            case hya3_4 => (refine Or.inl ⟨by rfl, ?_⟩; intro w hSw; (try dsimp only at hSw); go_simp; try with_reducible rfl)
            try simp only [Act.put, List.setIfInBounds_toArray, List.set_cons_zero, List.set_cons_succ]
            refine wpAnyH_take (i := 4) (oi := ?oia4_5) (v := ?vva4_5) ?hia4_5 (by kernel_rfl) (by kernel_rfl) (by kernel_rfl) ?hQa4_5 ?hya4_5 (by assumption) ?resta4_5
            case hia4_5 => (simp only [List.getElem?_toArray, List.getElem?_cons_succ, List.getElem?_cons_zero]; rfl)
            case hQa4_5 => exact fun _ _ _ h => h
            case hya4_5 => (refine Or.inl ⟨by rfl, ?_⟩; intro w hSw; (try dsimp only at hSw); go_simp; try with_reducible rfl)
            try simp only [Act.put, List.setIfInBounds_toArray, List.set_cons_zero, List.set_cons_succ]
            refine wpAnyH_take (i := 5) (oi := ?oia5_6) (v := ?vva5_6) ?hia5_6 (by kernel_rfl) (by kernel_rfl) (by kernel_rfl) ?hQa5_6 ?hya5_6 (by assumption) ?resta5_6
            case hia5_6 => (simp only [List.getElem?_toArray, List.getElem?_cons_succ, List.getElem?_cons_zero]; rfl)
            case hQa5_6 => exact fun _ _ _ h => h
            case hya5_6 => (refine Or.inl ⟨by rfl, ?_⟩; intro w hSw; (try dsimp only at hSw); go_simp; try with_reducible rfl)
            try simp only [Act.put, List.setIfInBounds_toArray, List.set_cons_zero, List.set_cons_succ]
            refine wpAnyH_take (i := 6) (oi := ?oia6_7) (v := ?vva6_7) ?hia6_7 (by kernel_rfl) (by kernel_rfl) (by kernel_rfl) ?hQa6_7 ?hya6_7 (by assumption) ?resta6_7
            case hia6_7 => (simp only [List.getElem?_toArray, List.getElem?_cons_succ, List.getElem?_cons_zero]; rfl)
            case hQa6_7 => exact fun _ _ _ h => h
            case hya6_7 => (refine Or.inl ⟨by rfl, ?_⟩; intro w hSw; (try dsimp only at hSw); go_simp; try with_reducible rfl)
            try simp only [Act.put, List.setIfInBounds_toArray, List.set_cons_zero, List.set_cons_succ]
            refine wpAnyH_take (i := 7) (oi := ?oia7_8) (v := ?vva7_8) ?hia7_8 (by kernel_rfl) (by kernel_rfl) (by kernel_rfl) ?hQa7_8 ?hya7_8 (by assumption) ?resta7_8
            case hia7_8 => (simp only [List.getElem?_toArray, List.getElem?_cons_succ, List.getElem?_cons_zero]; rfl)
            case hQa7_8 => exact fun _ _ _ h => h
            case hya7_8 => (refine Or.inl ⟨by rfl, ?_⟩; intro w hSw; (try dsimp only at hSw); go_simp; try with_reducible rfl)
            try simp only [Act.put, List.setIfInBounds_toArray, List.set_cons_zero, List.set_cons_succ]
            refine wpAnyH_take (i := 8) (oi := ?oia8_9) (v := ?vva8_9) ?hia8_9 (by kernel_rfl) (by kernel_rfl) (by kernel_rfl) ?hQa8_9 ?hya8_9 (by assumption) ?resta8_9
            case hia8_9 => (simp only [List.getElem?_toArray, List.getElem?_cons_succ, List.getElem?_cons_zero]; rfl)
            case hQa8_9 => exact fun _ _ _ h => h
            case hya8_9 => (refine Or.inl ⟨by rfl, ?_⟩; intro w hSw; (try dsimp only at hSw); go_simp; try with_reducible rfl)
            try simp only [Act.put, List.setIfInBounds_toArray, List.set_cons_zero, List.set_cons_succ]
            refine wpAnyH_take (i := 9) (oi := ?oia9_10) (v := ?vva9_10) ?hia9_10 (by kernel_rfl) (by kernel_rfl) (by kernel_rfl) ?hQa9_10 ?hya9_10 (by assumption) ?resta9_10
            case hia9_10 => (simp only [List.getElem?_toArray, List.getElem?_cons_succ, List.getElem?_cons_zero]; rfl)
            case hQa9_10 => exact fun _ _ _ h => h
            case hya9_10 => (refine Or.inl ⟨by rfl, ?_⟩; intro w hSw; (try dsimp only at hSw); go_simp; try with_reducible rfl)
            try simp only [Act.put, List.setIfInBounds_toArray, List.set_cons_zero, List.set_cons_succ]
            refine wpAnyH_take (i := 10) (oi := ?oia10_11) (v := ?vva10_11) ?hia10_11 (by kernel_rfl) (by kernel_rfl) (by kernel_rfl) ?hQa10_11 ?hya10_11 (by assumption) ?resta10_11
            case hia10_11 => (simp only [List.getElem?_toArray, List.getElem?_cons_succ, List.getElem?_cons_zero]; rfl)
            case hQa10_11 => exact fun _ _ _ h => h
            case hya10_11 => (refine Or.inl ⟨by rfl, ?_⟩; intro w hSw; (try dsimp only at hSw); go_simp; try with_reducible rfl)
            try simp only [Act.put, List.setIfInBounds_toArray, List.set_cons_zero, List.set_cons_succ]
            refine wpAnyH_take (i := 11) (oi := ?oia11_12) (v := ?vva11_12) ?hia11_12 (by kernel_rfl) (by kernel_rfl) (by kernel_rfl) ?hQa11_12 ?hya11_12 (by assumption) ?resta11_12
            case hia11_12 => (simp only [List.getElem?_toArray, List.getElem?_cons_succ, List.getElem?_cons_zero]; rfl)
            case hQa11_12 => exact fun _ _ _ h => h
            case hya11_12 => (refine Or.inl ⟨by rfl, ?_⟩; intro w hSw; (try dsimp only at hSw); go_simp; try with_reducible rfl)
            try simp only [Act.put, List.setIfInBounds_toArray, List.set_cons_zero, List.set_cons_succ]
            refine wpAnyH_take (i := 12) (oi := ?oia12_13) (v := ?vva12_13) ?hia12_13 (by kernel_rfl) (by kernel_rfl) (by kernel_rfl) ?hQa12_13 ?hya12_13 (by assumption) ?resta12_13
            case hia12_13 => (simp only [List.getElem?_toArray, List.getElem?_cons_succ, List.getElem?_cons_zero]; rfl)
            case hQa12_13 => exact fun _ _ _ h => h
            case hya12_13 => (refine Or.inl ⟨by rfl, ?_⟩; intro w hSw; (try dsimp only at hSw); go_simp; try with_reducible rfl)
            try simp only [Act.put, List.setIfInBounds_toArray, List.set_cons_zero, List.set_cons_succ]
            refine wpAnyH_take (i := 13) (oi := ?oia13_14) (v := ?vva13_14) ?hia13_14 (by kernel_rfl) (by kernel_rfl) (by kernel_rfl) ?hQa13_14 ?hya13_14 (by assumption) ?resta13_14
            case hia13_14 => (simp only [List.getElem?_toArray, List.getElem?_cons_succ, List.getElem?_cons_zero]; rfl)
            case hQa13_14 => exact fun _ _ _ h => h
            case hya13_14 => (refine Or.inl ⟨by rfl, ?_⟩; intro w hSw; (try dsimp only at hSw); go_simp; try with_reducible rfl)
            try simp only [Act.put, List.setIfInBounds_toArray, List.set_cons_zero, List.set_cons_succ]
            refine wpAnyH_take (i := 14) (oi := ?oia14_15) (v := ?vva14_15) ?hia14_15 (by kernel_rfl) (by kernel_rfl) (by kernel_rfl) ?hQa14_15 ?hya14_15 (by assumption) ?resta14_15
            case hia14_15 => (simp only [List.getElem?_toArray, List.getElem?_cons_succ, List.getElem?_cons_zero]; rfl)
            case hQa14_15 => exact fun _ _ _ h => h
            case hya14_15 => (refine Or.inl ⟨by rfl, ?_⟩; intro w hSw; (try dsimp only at hSw); go_simp; try with_reducible rfl)
            try simp only [Act.put, List.setIfInBounds_toArray, List.set_cons_zero, List.set_cons_succ]
            refine wpAnyH_take (i := 15) (oi := ?oia15_16) (v := ?vva15_16) ?hia15_16 (by kernel_rfl) (by kernel_rfl) (by kernel_rfl) ?hQa15_16 ?hya15_16 (by assumption) ?resta15_16
            case hia15_16 => (simp only [List.getElem?_toArray, List.getElem?_cons_succ, List.getElem?_cons_zero]; rfl)
            case hQa15_16 => exact fun _ _ _ h => h
            case hya15_16 => (refine Or.inl ⟨by rfl, ?_⟩; intro w hSw; (try dsimp only at hSw); go_simp; try with_reducible rfl)
            try simp only [Act.put, List.setIfInBounds_toArray, List.set_cons_zero, List.set_cons_succ]
            refine wpAnyH_take (i := 16) (oi := ?oia16_17) (v := ?vva16_17) ?hia16_17 (by kernel_rfl) (by kernel_rfl) (by kernel_rfl) ?hQa16_17 ?hya16_17 (by assumption) ?resta16_17
            case hia16_17 => (simp only [List.getElem?_toArray, List.getElem?_cons_succ, List.getElem?_cons_zero]; rfl)
            case hQa16_17 => exact fun _ _ _ h => h
            case hya16_17 => (refine Or.inl ⟨by rfl, ?_⟩; intro w hSw; (try dsimp only at hSw); go_simp; try with_reducible rfl)
            try simp only [Act.put, List.setIfInBounds_toArray, List.set_cons_zero, List.set_cons_succ]
            refine wpAnyH_take (i := 17) (oi := ?oia17_18) (v := ?vva17_18) ?hia17_18 (by kernel_rfl) (by kernel_rfl) (by kernel_rfl) ?hQa17_18 ?hya17_18 (by assumption) ?resta17_18
            case hia17_18 => (simp only [List.getElem?_toArray, List.getElem?_cons_succ, List.getElem?_cons_zero]; rfl)
            case hQa17_18 => exact fun _ _ _ h => h
            case hya17_18 => (refine Or.inl ⟨by rfl, ?_⟩; intro w hSw; (try dsimp only at hSw); go_simp; try with_reducible rfl)
            try simp only [Act.put, List.setIfInBounds_toArray, List.set_cons_zero, List.set_cons_succ]
            refine wpAnyH_take (i := 18) (oi := ?oia18_19) (v := ?vva18_19) ?hia18_19 (by kernel_rfl) (by kernel_rfl) (by kernel_rfl) ?hQa18_19 ?hya18_19 (by assumption) ?resta18_19
            case hia18_19 => (simp only [List.getElem?_toArray, List.getElem?_cons_succ, List.getElem?_cons_zero]; rfl)
            case hQa18_19 => exact fun _ _ _ h => h
            case hya18_19 => (refine Or.inl ⟨by rfl, ?_⟩; intro w hSw; (try dsimp only at hSw); go_simp; try with_reducible rfl)
            try simp only [Act.put, List.setIfInBounds_toArray, List.set_cons_zero, List.set_cons_succ]
            refine wpAnyH_take (i := 19) (oi := ?oia19_20) (v := ?vva19_20) ?hia19_20 (by kernel_rfl) (by kernel_rfl) (by kernel_rfl) ?hQa19_20 ?hya19_20 (by assumption) ?resta19_20
            case hia19_20 => (simp only [List.getElem?_toArray, List.getElem?_cons_succ, List.getElem?_cons_zero]; rfl)
            case hQa19_20 => exact fun _ _ _ h => h
            case hya19_20 => (refine Or.inl ⟨by rfl, ?_⟩; intro w hSw; (try dsimp only at hSw); go_simp; try with_reducible rfl)
            try simp only [Act.put, List.setIfInBounds_toArray, List.set_cons_zero, List.set_cons_succ]
            refine wpAnyH_ready (rs := [20]) (by kernel_rfl) (by simp) ?_
            refine AllReadyH.cons (o := ?oa20_21) ?hoa20_21 (fun Kz hK => ?sta20_21) AllReadyH.nil
            case hoa20_21 => (simp only [List.getElem?_toArray, List.getElem?_cons_succ, List.getElem?_cons_zero]; rfl)
            go_simp
            refine HO.out.mono ?_
            rintro e w2 ⟨rfl, hb2⟩
            have hS2 := hst _ ((below_drewN (Below.refl _ wr) 1).trans (hb2.mono (Nat.le_refl _)))
            have HB2 := Lib.hid (HBA.out.trans (hb2.mono HBA.out.size))
            clear hb2
            go_simp
            refine hK.out _ _ hS2 (fun hHeld => ?_)
            clear hK Kz
            try simp only [Act.put, List.setIfInBounds_toArray, List.set_cons_zero, List.set_cons_succ]
            refine wpAnyH_take (i := 21) (oi := ?oib21_22) (v := ?vvb21_22) ?hib21_22 (by kernel_rfl) (by kernel_rfl) (by kernel_rfl) ?hQb21_22 ?hyb21_22 (by assumption) ?restb21_22
            case hib21_22 => (simp only [List.getElem?_toArray, List.getElem?_cons_succ, List.getElem?_cons_zero]; rfl)
            case hQb21_22 => exact fun _ _ _ h => h
            case hyb21_22 => (refine Or.inl ⟨by rfl, ?_⟩; intro w hSw; (try dsimp only at hSw); go_simp; try with_reducible rfl)
            try simp only [Act.put, List.setIfInBounds_toArray, List.set_cons_zero, List.set_cons_succ]
            refine wpAnyH_take (i := 22) (oi := ?oib22_23) (v := ?vvb22_23) ?hib22_23 (by kernel_rfl) (by kernel_rfl) (by kernel_rfl) ?hQb22_23 ?hyb22_23 (by assumption) ?restb22_23
            case hib22_23 => (simp only [List.getElem?_toArray, List.getElem?_cons_succ, List.getElem?_cons_zero]; rfl)
            case hQb22_23 => exact fun _ _ _ h => h
            case hyb22_23 => (refine Or.inl ⟨by rfl, ?_⟩; intro w hSw; (try dsimp only at hSw); go_simp; try with_reducible rfl)
            try simp only [Act.put, List.setIfInBounds_toArray, List.set_cons_zero, List.set_cons_succ]
            refine wpAnyH_done (by kernel_rfl) ?_ _
            refine NoPanic.normal ?_
            go_wp2_with fail
            go_ret
            exact ⟨by first | (rw [HR.out]; rfl) | rw [HR.out], HB0.out.trans (HB2.out.mono (by have := HSZ.out; omega))⟩
          · have g3 : (g == 0) = false := by simp [h3]
            have hok : okG (ts.map Prod.fst) ⟨xt, xn⟩ = true := decide_eq_true (by rw [← HG.out]; simp only; omega)
            have HOK := Lib.hid hok
            clear hok h3
            go_wp2_with fail
            refine wp_region_noPanic ?_
            refine wp_region_held_drew (S := (fun W => W.cell? ⟨w.heap.size, 0, none⟩ = some tv ∧ W.cell? ⟨w.heap.size, 1, none⟩ = some rv ∧ W.cell? (ad.add (i * 2)) = some (.int .i64 xt) ∧ W.cell? ⟨(ad.add (i * 2)).block, (ad.add (i * 2)).off + 1, none⟩ = some (.int .i64 xn))) (by kernel_rfl) ?_ (fun hHeld => ?_)
            · exact ⟨b0, b1, d0, d1'⟩
            refine wpAnyH_take (i := 0) (oi := ?oia0_24) (v := ?vva0_24) ?hia0_24 (by kernel_rfl) (by kernel_rfl) (by kernel_rfl) ?hQa0_24 ?hya0_24 (by assumption) ?resta0_24
            case hia0_24 => (simp only [List.getElem?_toArray, List.getElem?_cons_succ, List.getElem?_cons_zero]; rfl)
            case hQa0_24 => exact fun _ _ _ h => h
            case hya0_24 => (refine Or.inl ⟨by rfl, ?_⟩; intro w hSw; (try dsimp only at hSw); go_simp; try with_reducible rfl)
            try simp only [Act.put, List.setIfInBounds_toArray, List.set_cons_zero, List.set_cons_succ]
            refine wpAnyH_take (i := 1) (oi := ?oia1_25) (v := ?vva1_25) ?hia1_25 (by kernel_rfl) (by kernel_rfl) (by kernel_rfl) ?hQa1_25 ?hya1_25 (by assumption) ?resta1_25
            case hia1_25 => (simp only [List.getElem?_toArray, List.getElem?_cons_succ, List.getElem?_cons_zero]; rfl)
            case hQa1_25 => exact fun _ _ _ h => h
            case hya1_25 => (refine Or.inl ⟨by rfl, ?_⟩; intro w hSw; (try dsimp only at hSw); go_simp; try with_reducible rfl)
            try simp only [Act.put, List.setIfInBounds_toArray, List.set_cons_zero, List.set_cons_succ]
            refine wpAnyH_take (i := 2) (oi := ?oia2_26) (v := ?vva2_26) ?hia2_26 (by kernel_rfl) (by kernel_rfl) (by kernel_rfl) ?hQa2_26 ?hya2_26 (by assumption) ?resta2_26
            case hia2_26 => (simp only [List.getElem?_toArray, List.getElem?_cons_succ, List.getElem?_cons_zero]; rfl)
            case hQa2_26 => exact fun _ _ _ h => h
            case hya2_26 => (refine Or.inl ⟨by rfl, ?_⟩; intro w hSw; (try dsimp only at hSw); go_simp; try with_reducible rfl)
            try simp only [Act.put, List.setIfInBounds_toArray, List.set_cons_zero, List.set_cons_succ]
            refine wpAnyH_take (i := 3) (oi := ?oia3_27) (v := ?vva3_27) ?hia3_27 (by kernel_rfl) (by kernel_rfl) (by kernel_rfl) ?hQa3_27 ?hya3_27 (by assumption) ?resta3_27
            case hia3_27 => (simp only [List.getElem?_toArray, List.getElem?_cons_succ, List.getElem?_cons_zero]; rfl)
            case hQa3_27 => exact fun _ _ _ h => h
            case hya3_27 => (refine Or.inl ⟨by rfl, ?_⟩; intro w hSw; (try dsimp only at hSw); go_simp; try with_reducible rfl)
            try simp only [Act.put, List.setIfInBounds_toArray, List.set_cons_zero, List.set_cons_succ]
            refine wpAnyH_take (i := 4) (oi := ?oia4_28) (v := ?vva4_28) ?hia4_28 (by kernel_rfl) (by kernel_rfl) (by kernel_rfl) ?hQa4_28 ?hya4_28 (by assumption) ?resta4_28
            case hia4_28 => (simp only [List.getElem?_toArray, List.getElem?_cons_succ, List.getElem?_cons_zero]; rfl)
            case hQa4_28 => exact fun _ _ _ h => h
            case hya4_28 => (refine Or.inl ⟨by rfl, ?_⟩; intro w hSw; (try dsimp only at hSw); go_simp; try with_reducible rfl)
            try simp only [Act.put, List.setIfInBounds_toArray, List.set_cons_zero, List.set_cons_succ]
            refine wpAnyH_take (i := 5) (oi := ?oia5_29) (v := ?vva5_29) ?hia5_29 (by kernel_rfl) (by kernel_rfl) (by kernel_rfl) ?hQa5_29 ?hya5_29 (by assumption) ?resta5_29
            case hia5_29 => (simp only [List.getElem?_toArray, List.getElem?_cons_succ, List.getElem?_cons_zero]; rfl)
            case hQa5_29 => exact fun _ _ _ h => h
            case hya5_29 => (refine Or.inl ⟨by rfl, ?_⟩; intro w hSw; (try dsimp only at hSw); go_simp; try with_reducible rfl)
            try simp only [Act.put, List.setIfInBounds_toArray, List.set_cons_zero, List.set_cons_succ]
            refine wpAnyH_take (i := 6) (oi := ?oia6_30) (v := ?vva6_30) ?hia6_30 (by kernel_rfl) (by kernel_rfl) (by kernel_rfl) ?hQa6_30 ?hya6_30 (by assumption) ?resta6_30
            case hia6_30 => (simp only [List.getElem?_toArray, List.getElem?_cons_succ, List.getElem?_cons_zero]; rfl)
            case hQa6_30 => exact fun _ _ _ h => h
            case hya6_30 => (refine Or.inl ⟨by rfl, ?_⟩; intro w hSw; (try dsimp only at hSw); go_simp; try with_reducible rfl)
            try simp only [Act.put, List.setIfInBounds_toArray, List.set_cons_zero, List.set_cons_succ]
            refine wpAnyH_take (i := 7) (oi := ?oia7_31) (v := ?vva7_31) ?hia7_31 (by kernel_rfl) (by kernel_rfl) (by kernel_rfl) ?hQa7_31 ?hya7_31 (by assumption) ?resta7_31
            case hia7_31 => (simp only [List.getElem?_toArray, List.getElem?_cons_succ, List.getElem?_cons_zero]; rfl)
            case hQa7_31 => exact fun _ _ _ h => h
            case hya7_31 => (refine Or.inl ⟨by rfl, ?_⟩; intro w hSw; (try dsimp only at hSw); go_simp; try with_reducible rfl)
            try simp only [Act.put, List.setIfInBounds_toArray, List.set_cons_zero, List.set_cons_succ]
            refine wpAnyH_take (i := 8) (oi := ?oia8_32) (v := ?vva8_32) ?hia8_32 (by kernel_rfl) (by kernel_rfl) (by kernel_rfl) ?hQa8_32 ?hya8_32 (by assumption) ?resta8_32
            case hia8_32 => (simp only [List.getElem?_toArray, List.getElem?_cons_succ, List.getElem?_cons_zero]; rfl)
            case hQa8_32 => exact fun _ _ _ h => h
            case hya8_32 => (refine Or.inl ⟨by rfl, ?_⟩; intro w hSw; (try dsimp only at hSw); go_simp; try with_reducible rfl)
            try simp only [Act.put, List.setIfInBounds_toArray, List.set_cons_zero, List.set_cons_succ]
            refine wpAnyH_take (i := 9) (oi := ?oia9_33) (v := ?vva9_33) ?hia9_33 (by kernel_rfl) (by kernel_rfl) (by kernel_rfl) ?hQa9_33 ?hya9_33 (by assumption) ?resta9_33
            case hia9_33 => (simp only [List.getElem?_toArray, List.getElem?_cons_succ, List.getElem?_cons_zero]; rfl)
            case hQa9_33 => exact fun _ _ _ h => h
            case hya9_33 => (refine Or.inl ⟨by rfl, ?_⟩; intro w hSw; (try dsimp only at hSw); go_simp; try with_reducible rfl)
            try simp only [Act.put, List.setIfInBounds_toArray, List.set_cons_zero, List.set_cons_succ]
            refine wpAnyH_take (i := 10) (oi := ?oia10_34) (v := ?vva10_34) ?hia10_34 (by kernel_rfl) (by kernel_rfl) (by kernel_rfl) ?hQa10_34 ?hya10_34 (by assumption) ?resta10_34
            case hia10_34 => (simp only [List.getElem?_toArray, List.getElem?_cons_succ, List.getElem?_cons_zero]; rfl)
            case hQa10_34 => exact fun _ _ _ h => h
            case hya10_34 => (refine Or.inl ⟨by rfl, ?_⟩; intro w hSw; (try dsimp only at hSw); go_simp; try with_reducible rfl)
            try simp only [Act.put, List.setIfInBounds_toArray, List.set_cons_zero, List.set_cons_succ]
            refine wpAnyH_take (i := 11) (oi := ?oia11_35) (v := ?vva11_35) ?hia11_35 (by kernel_rfl) (by kernel_rfl) (by kernel_rfl) ?hQa11_35 ?hya11_35 (by assumption) ?resta11_35
            case hia11_35 => (simp only [List.getElem?_toArray, List.getElem?_cons_succ, List.getElem?_cons_zero]; rfl)
            case hQa11_35 => exact fun _ _ _ h => h
            case hya11_35 => (refine Or.inl ⟨by rfl, ?_⟩; intro w hSw; (try dsimp only at hSw); go_simp; try with_reducible rfl)
            try simp only [Act.put, List.setIfInBounds_toArray, List.set_cons_zero, List.set_cons_succ]
            refine wpAnyH_take (i := 12) (oi := ?oia12_36) (v := ?vva12_36) ?hia12_36 (by kernel_rfl) (by kernel_rfl) (by kernel_rfl) ?hQa12_36 ?hya12_36 (by assumption) ?resta12_36
            case hia12_36 => (simp only [List.getElem?_toArray, List.getElem?_cons_succ, List.getElem?_cons_zero]; rfl)
            case hQa12_36 => exact fun _ _ _ h => h
            case hya12_36 => (refine Or.inl ⟨by rfl, ?_⟩; intro w hSw; (try dsimp only at hSw); go_simp; try with_reducible rfl)
            try simp only [Act.put, List.setIfInBounds_toArray, List.set_cons_zero, List.set_cons_succ]
            refine wpAnyH_take (i := 13) (oi := ?oia13_37) (v := ?vva13_37) ?hia13_37 (by kernel_rfl) (by kernel_rfl) (by kernel_rfl) ?hQa13_37 ?hya13_37 (by assumption) ?resta13_37
            case hia13_37 => (simp only [List.getElem?_toArray, List.getElem?_cons_succ, List.getElem?_cons_zero]; rfl)
            case hQa13_37 => exact fun _ _ _ h => h
            case hya13_37 => (refine Or.inl ⟨by rfl, ?_⟩; intro w hSw; (try dsimp only at hSw); go_simp; try with_reducible rfl)
            try simp only [Act.put, List.setIfInBounds_toArray, List.set_cons_zero, List.set_cons_succ]
            refine wpAnyH_take (i := 14) (oi := ?oia14_38) (v := ?vva14_38) ?hia14_38 (by kernel_rfl) (by kernel_rfl) (by kernel_rfl) ?hQa14_38 ?hya14_38 (by assumption) ?resta14_38
            case hia14_38 => (simp only [List.getElem?_toArray, List.getElem?_cons_succ, List.getElem?_cons_zero]; rfl)
            case hQa14_38 => exact fun _ _ _ h => h
            case hya14_38 => (refine Or.inl ⟨by rfl, ?_⟩; intro w hSw; (try dsimp only at hSw); go_simp; try with_reducible rfl)
            try simp only [Act.put, List.setIfInBounds_toArray, List.set_cons_zero, List.set_cons_succ]
            refine wpAnyH_take (i := 15) (oi := ?oia15_39) (v := ?vva15_39) ?hia15_39 (by kernel_rfl) (by kernel_rfl) (by kernel_rfl) ?hQa15_39 ?hya15_39 (by assumption) ?resta15_39
            case hia15_39 => (simp only [List.getElem?_toArray, List.getElem?_cons_succ, List.getElem?_cons_zero]; rfl)
            case hQa15_39 => exact fun _ _ _ h => h
            case hya15_39 => (refine Or.inl ⟨by rfl, ?_⟩; intro w hSw; (try dsimp only at hSw); go_simp; try with_reducible rfl)
            try simp only [Act.put, List.setIfInBounds_toArray, List.set_cons_zero, List.set_cons_succ]
            refine wpAnyH_take (i := 16) (oi := ?oia16_40) (v := ?vva16_40) ?hia16_40 (by kernel_rfl) (by kernel_rfl) (by kernel_rfl) ?hQa16_40 ?hya16_40 (by assumption) ?resta16_40
            case hia16_40 => (simp only [List.getElem?_toArray, List.getElem?_cons_succ, List.getElem?_cons_zero]; rfl)
            case hQa16_40 => exact fun _ _ _ h => h
            case hya16_40 => (refine Or.inl ⟨by rfl, ?_⟩; intro w hSw; (try dsimp only at hSw); go_simp; try with_reducible rfl)
            try simp only [Act.put, List.setIfInBounds_toArray, List.set_cons_zero, List.set_cons_succ]
            refine wpAnyH_take (i := 17) (oi := ?oia17_41) (v := ?vva17_41) ?hia17_41 (by kernel_rfl) (by kernel_rfl) (by kernel_rfl) ?hQa17_41 ?hya17_41 (by assumption) ?resta17_41
            case hia17_41 => (simp only [List.getElem?_toArray, List.getElem?_cons_succ, List.getElem?_cons_zero]; rfl)
            case hQa17_41 => exact fun _ _ _ h => h
            case hya17_41 => (refine Or.inl ⟨by rfl, ?_⟩; intro w hSw; (try dsimp only at hSw); go_simp; try with_reducible rfl)
            try simp only [Act.put, List.setIfInBounds_toArray, List.set_cons_zero, List.set_cons_succ]
            refine wpAnyH_take (i := 18) (oi := ?oia18_42) (v := ?vva18_42) ?hia18_42 (by kernel_rfl) (by kernel_rfl) (by kernel_rfl) ?hQa18_42 ?hya18_42 (by assumption) ?resta18_42
            case hia18_42 => (simp only [List.getElem?_toArray, List.getElem?_cons_succ, List.getElem?_cons_zero]; rfl)
            case hQa18_42 => exact fun _ _ _ h => h
            case hya18_42 => (refine Or.inl ⟨by rfl, ?_⟩; intro w hSw; (try dsimp only at hSw); go_simp; try with_reducible rfl)
            try simp only [Act.put, List.setIfInBounds_toArray, List.set_cons_zero, List.set_cons_succ]
            refine wpAnyH_take (i := 19) (oi := ?oia19_43) (v := ?vva19_43) ?hia19_43 (by kernel_rfl) (by kernel_rfl) (by kernel_rfl) ?hQa19_43 ?hya19_43 (by assumption) ?resta19_43
            case hia19_43 => (simp only [List.getElem?_toArray, List.getElem?_cons_succ, List.getElem?_cons_zero]; rfl)
            case hQa19_43 => exact fun _ _ _ h => h
            case hya19_43 => (refine Or.inl ⟨by rfl, ?_⟩; intro w hSw; (try dsimp only at hSw); go_simp; try with_reducible rfl)
            try simp only [Act.put, List.setIfInBounds_toArray, List.set_cons_zero, List.set_cons_succ]
            refine wpAnyH_ready (rs := [20]) (by kernel_rfl) (by simp) ?_
            refine AllReadyH.cons (o := ?oa20_44) ?hoa20_44 (fun Kz hK => ?sta20_44) AllReadyH.nil
            case hoa20_44 => (simp only [List.getElem?_toArray, List.getElem?_cons_succ, List.getElem?_cons_zero]; rfl)
            go_simp
            refine HO.out.mono ?_
            rintro e w2 ⟨rfl, hb2⟩
            have hS2 := hst _ ((below_drewN (Below.refl _ wr) 1).trans (hb2.mono (Nat.le_refl _)))
            have HB2 := Lib.hid (HBA.out.trans (hb2.mono HBA.out.size))
            clear hb2
            go_simp
            refine hK.out _ _ hS2 (fun hHeld => ?_)
            clear hK Kz
            try simp only [Act.put, List.setIfInBounds_toArray, List.set_cons_zero, List.set_cons_succ]
            refine wpAnyH_take (i := 21) (oi := ?oib21_45) (v := ?vvb21_45) ?hib21_45 (by kernel_rfl) (by kernel_rfl) (by kernel_rfl) ?hQb21_45 ?hyb21_45 (by assumption) ?restb21_45
            case hib21_45 => (simp only [List.getElem?_toArray, List.getElem?_cons_succ, List.getElem?_cons_zero]; rfl)
            case hQb21_45 => exact fun _ _ _ h => h
            case hyb21_45 => (refine Or.inl ⟨by rfl, ?_⟩; intro w hSw; (try dsimp only at hSw); go_simp; try with_reducible rfl)
            try simp only [Act.put, List.setIfInBounds_toArray, List.set_cons_zero, List.set_cons_succ]
            refine wpAnyH_take (i := 22) (oi := ?oib22_46) (v := ?vvb22_46) ?hib22_46 (by kernel_rfl) (by kernel_rfl) (by kernel_rfl) ?hQb22_46 ?hyb22_46 (by assumption) ?restb22_46
            case hib22_46 => (simp only [List.getElem?_toArray, List.getElem?_cons_succ, List.getElem?_cons_zero]; rfl)
            case hQb22_46 => exact fun _ _ _ h => h
            case hyb22_46 => (refine Or.inl ⟨by rfl, ?_⟩; intro w hSw; (try dsimp only at hSw); go_simp; try with_reducible rfl)
            try simp only [Act.put, List.setIfInBounds_toArray, List.set_cons_zero, List.set_cons_succ]
            refine wpAnyH_done (by kernel_rfl) ?_ _
            refine NoPanic.normal ?_
            go_wp2_with fail
            go_roundw
            case rel => exact ⟨i + 1, by omega, by go_num, by rw [HA.out, HOK.out], HB2.out⟩
            case measure => simp [intOf]; omega
    · obtain rfl : i = N := by omega
      have hr : allG (ts.map Prod.fst) l = true := by rw [HN.out, List.take_length] at hacc; exact hacc
      have HR := Lib.hid hr
      clear hacc hr
      go_wp2_with fail
      go_ret
      exact ⟨by first | (rw [HR.out]; rfl) | rw [HR.out], HB0.out.trans (hB.mono (by have := HSZ.out; omega))⟩
end Go.Proofs.YtminbemdcanakaaGreat
/- The reference's graphs: is one right? -/
namespace Go.Proofs.YtminbemdcanakaaGreat
open Go.RowKit
set_option linter.unusedVariables false
set_option linter.unusedSimpArgs false

variable {w : World}
def seenR (T : List Ob) (i : Nat) : List Int := ((T.take i).map (·.fin)).reverse
theorem seenR_succ {T : List Ob} {i : Nat} {o : Ob} (h : T[i]? = some o) : seenR T (i + 1) = o.fin :: seenR T i := by
  unfold seenR
  rw [List.take_add_one, h]
  simp
theorem drop_at {T : List Ob} {i : Nat} {o : Ob} (h : T[i]? = some o) : T.drop i = o :: T.drop (i + 1) := by
  obtain ⟨hi, he⟩ := List.getElem?_eq_some_iff.1 h
  rw [List.drop_eq_getElem_cons hi, he]
theorem rightF_at {T : List Ob} {i : Nat} {o : Ob} (h : T[i]? = some o) : rightF T (seenR T i) (T.drop i) = (okOb o && okOb2 T (seenR T i) o && rightF T (seenR T (i + 1)) (T.drop (i + 1))) := by
  rw [drop_at h, seenR_succ h]
  rfl
theorem seenR_mem {T : List Ob} {i : Nat} {n : Int} : n ∈ seenR T i ↔ ∃ j, j < i ∧ (T[j]?.map (·.fin)) = some n := by
  unfold seenR
  rw [List.mem_reverse, List.mem_map]
  constructor
  · rintro ⟨o, ho, rfl⟩
    obtain ⟨j, hj⟩ := List.mem_iff_getElem?.1 ho
    rw [List.getElem?_take] at hj
    split at hj
    · rename_i h; exact ⟨j, h, by rw [hj]; rfl⟩
    · cases hj
  · rintro ⟨j, hj, he⟩
    cases ho : T[j]? with
    | none => rw [ho] at he; cases he
    | some o =>
      rw [ho] at he
      refine ⟨o, List.mem_iff_getElem?.2 ⟨j, ?_⟩, by simpa using he⟩
      rw [List.getElem?_take, if_pos hj, ho]
set_option maxRecDepth 100000 in
set_option maxHeartbeats 8000000 in
theorem refRight_any {tv rv : Value} {ts : List (Ob × Value)} {roots : List V} (hg : GrAt w tv rv ts roots) (hs : ts.length ≤ 100000) (hss : ∀ o sv, (o, sv) ∈ ts → o.slots.length ≤ 100000) (hsr : roots.length ≤ 100000) :
    Calls Tryz.prog 72 #[.agg #[tv, rv]] w fun e w' => AllP w (rightG (ts.map Prod.fst) roots) e w' := by
  obtain ⟨ta, tc, rfl⟩ := rd_slice hg.things
  obtain ⟨ra, rc, rfl⟩ := rd_slice hg.roots
  obtain ⟨N, hN⟩ : ∃ N, N = ts.length := ⟨_, rfl⟩
  obtain ⟨RN, hRN⟩ : ∃ N, N = roots.length := ⟨_, rfl⟩
  have hb0 := below_alloc w (.cells #[.slice ta ts.length tc, .slice ra roots.length rc] 25)
  have HX := Lib.hid (Box.new w [.slice ta ts.length tc, .slice ra roots.length rc] 25)
  have HB0 := Lib.hid hb0
  have hT := (hg.below hb0).things
  have hR := (hg.below hb0).roots
  have HSL := Lib.hid (hg.below hb0).slots
  have HN := Lib.hid hN
  have HRN := Lib.hid hRN
  have HS := Lib.hid hs
  have HSS := Lib.hid hss
  have HSR := Lib.hid hsr
  have hNs : N ≤ 100000 := by rw [hN]; exact hs
  clear hg hs hss hsr hb0
  obtain ⟨W0, hW0⟩ : ∃ W, W = w.alloc (.cells #[.slice ta ts.length tc, .slice ra roots.length rc] 25) := ⟨_, rfl⟩
  have HSZ := Lib.hid (show W0.heap.size = w.heap.size + 1 by rw [hW0]; simp)
  rw [← hW0] at HX HB0 HSL hT hR
  rw [← hN, ← hRN] at hW0 HX ⊢
  have HT := Lib.hid (show Rd W0 (.slice ta N tc) ts.length (flatT ts) by rw [hN]; exact hT)
  have HR := Lib.hid (show RdV W0 (.slice ra RN rc) roots by rw [hRN]; exact hR)
  clear hN hRN hT hR
  go_enter Tryz.func72, Tryz.ntmps72
  go_wp2_with fail
  rw [← hW0]
  clear hW0
  go_loopw [3] (fun t3 wr => ∃ i : Nat, i ≤ N ∧ t3 = .int .i64 i ∧ rightF (ts.map Prod.fst) [] (ts.map Prod.fst) = rightF (ts.map Prod.fst) (seenR (ts.map Prod.fst) i) ((ts.map Prod.fst).drop i) ∧ Below W0.heap.size W0 wr) (fun t3 _ => N - (intOf t3).toNat)
  case atStart => exact ⟨0, Nat.zero_le _, by go_num, rfl, Below.refl _ _⟩
  case round =>
    obtain ⟨i, hi, rfl, hacc, hB⟩ := hrel
    have z0 := ((HX.out.below hB (by have := HSZ.out; omega)).cell 0)
    have z1 := ((HX.out.below hB (by have := HSZ.out; omega)).cell 1)
    simp only [List.getElem?_cons_zero, List.getElem?_cons_succ] at z0 z1
    by_cases hlt : i < N
    · obtain ⟨⟨o, sv⟩, hx⟩ : ∃ x, ts[i]? = some x := ⟨ts[i]'(by rw [← HN.out]; exact hlt), List.getElem?_eq_getElem _⟩
      have hmem : (o, sv) ∈ ts := List.mem_of_getElem? hx
      obtain ⟨ad, c2, ha, hc⟩ := rd_at (Rd.below HT.out hB) (by intro e; have := flatT_len ts; rw [e] at this; simp at this; have := HN.out; omega)
      simp only [Value.slice.injEq] at ha
      obtain ⟨rfl, -, rfl⟩ := ha
      obtain ⟨f0, f1, f2, f3, f4⟩ := flatT_at _ _ _ hx
      have d0 := hc _ _ f0
      have d1 := cell_more (hc _ _ f1)
      have d2 := cell_more (k := 1) (hc _ _ f2)
      have d3 := cell_more (k := 2) (hc _ _ f3)
      have d4 := cell_more (k := 3) (hc _ _ f4)
      simp only [Nat.zero_add, Nat.reduceAdd] at d0 d1 d2 d3 d4
      have hsl := HSL.out o sv hmem
      have hsz := HSS.out o sv hmem
      obtain ⟨sa, sc, rfl⟩ := rd_slice hsl
      have hTi : (ts.map Prod.fst)[i]? = some o := by rw [List.getElem?_map, hx]; rfl
      have HRF := Lib.hid (hacc.trans (rightF_at hTi))
      have hBT : Below W0.heap.size W0 (wr.alloc (.cells #[.int .i64 o.kind, .int .i64 o.weak, .int .i64 o.array, .slice sa o.slots.length sc, .int .i64 o.fin] 36)) := hB.alloc hB.size _
      have HBT := Lib.hid hBT
      have y0 := Lib.cell?_alloc_some (.cells #[.int .i64 o.kind, .int .i64 o.weak, .int .i64 o.array, .slice sa o.slots.length sc, .int .i64 o.fin] 36) z0
      have y1 := Lib.cell?_alloc_some (.cells #[.int .i64 o.kind, .int .i64 o.weak, .int .i64 o.array, .slice sa o.slots.length sc, .int .i64 o.fin] 36) z1
      have HXT := Lib.hid (Box.new wr [.int .i64 o.kind, .int .i64 o.weak, .int .i64 o.array, .slice sa o.slots.length sc, .int .i64 o.fin] 36)
      have HALL := Lib.hid (refAll_any (rv := .slice ra RN rc) (Rd.below HT.out hBT) HS.out (Rd.below hsl hBT) hsz)
      have HBN := Lib.hid (HB0.out.trans (hBT.mono (by have := HSZ.out; omega)))
      clear hc hx hmem f0 f1 f2 f3 f4 hsl hsz hacc hTi hBT
      by_cases k1 : o.kind < 4
      · have e_k1 : decide (o.kind < 4) = true := decide_eq_true k1
        have HNO := Lib.hid (show rightG (ts.map Prod.fst) roots = false by unfold rightG; rw [HRF.out, show okOb o = false from decide_eq_false (by omega)]; rfl)
        go_wp2_with fail
        go_ret
        exact ⟨by first | (rw [HNO.out]; rfl) | rw [HNO.out], HBN.out⟩
      have e_k1 : decide (o.kind < 4) = false := decide_eq_false k1
      by_cases k2 : 9 < o.kind
      · have e_k2 : decide (9 < o.kind) = true := decide_eq_true k2
        have HNO := Lib.hid (show rightG (ts.map Prod.fst) roots = false by unfold rightG; rw [HRF.out, show okOb o = false from decide_eq_false (by omega)]; rfl)
        go_wp2_with fail
        go_ret
        exact ⟨by first | (rw [HNO.out]; rfl) | rw [HNO.out], HBN.out⟩
      have e_k2 : decide (9 < o.kind) = false := decide_eq_false k2
      by_cases k3 : o.weak < 0
      · have e_k3 : decide (o.weak < 0) = true := decide_eq_true k3
        have HNO := Lib.hid (show rightG (ts.map Prod.fst) roots = false by unfold rightG; rw [HRF.out, show okOb o = false from decide_eq_false (by omega)]; rfl)
        go_wp2_with fail
        go_ret
        exact ⟨by first | (rw [HNO.out]; rfl) | rw [HNO.out], HBN.out⟩
      have e_k3 : decide (o.weak < 0) = false := decide_eq_false k3
      by_cases k4 : 3 < o.weak
      · have e_k4 : decide (3 < o.weak) = true := decide_eq_true k4
        have HNO := Lib.hid (show rightG (ts.map Prod.fst) roots = false by unfold rightG; rw [HRF.out, show okOb o = false from decide_eq_false (by omega)]; rfl)
        go_wp2_with fail
        go_ret
        exact ⟨by first | (rw [HNO.out]; rfl) | rw [HNO.out], HBN.out⟩
      have e_k4 : decide (3 < o.weak) = false := decide_eq_false k4
      by_cases k5 : o.fin < 0
      · have e_k5 : decide (o.fin < 0) = true := decide_eq_true k5
        have HNO := Lib.hid (show rightG (ts.map Prod.fst) roots = false by unfold rightG; rw [HRF.out, show okOb o = false from decide_eq_false (by omega)]; rfl)
        go_wp2_with fail
        go_ret
        exact ⟨by first | (rw [HNO.out]; rfl) | rw [HNO.out], HBN.out⟩
      have e_k5 : decide (o.fin < 0) = false := decide_eq_false k5
      by_cases k6 : o.array < 0
      · have e_k6 : decide (o.array < 0) = true := decide_eq_true k6
        have HNO := Lib.hid (show rightG (ts.map Prod.fst) roots = false by unfold rightG; rw [HRF.out, show okOb o = false from decide_eq_false (by omega)]; rfl)
        go_wp2_with fail
        go_ret
        exact ⟨by first | (rw [HNO.out]; rfl) | rw [HNO.out], HBN.out⟩
      have e_k6 : decide (o.array < 0) = false := decide_eq_false k6
      by_cases k7 : o.kind = 5
      · have e_k7 : (o.kind != 5) = false := by simp [k7]
        have HOK1 := Lib.hid (show okOb o = true from decide_eq_true (by omega))
        clear k7
        by_cases a1 : 0 < o.array
        · have e7 : decide (0 < o.array) = true := decide_eq_true a1
          by_cases a2 : (o.slots.length : Int) ≤ o.array
          · have e8 : decide ((o.slots.length : Int) ≤ o.array) = true := decide_eq_true a2
            have HNO := Lib.hid (show rightG (ts.map Prod.fst) roots = false by
              unfold rightG
              rw [HRF.out, show okOb2 (ts.map Prod.fst) (seenR (ts.map Prod.fst) i) o = false from (by unfold okOb2; rw [decide_eq_false (fun y => y.1 ⟨a1, a2⟩)]; rfl)]
              simp)
            go_wp2_with fail
            go_ret
            exact ⟨by first | (rw [HNO.out]; rfl) | rw [HNO.out], HBN.out⟩
          · have e8 : decide ((o.slots.length : Int) ≤ o.array) = false := decide_eq_false a2
            go_wp2_with fail
            refine HALL.out.mono ?_
            rintro e w5 ⟨rfl, hb5⟩
            have HX5 := Lib.hid (HXT.out.below hb5 HXT.out.lt)
            have HB5 := Lib.hid (HBT.out.trans (hb5.mono HBT.out.size))
            clear hb5
            cases hal : allG (ts.map Prod.fst) o.slots with
            | false =>
              have HNO := Lib.hid (show rightG (ts.map Prod.fst) roots = false by
                unfold rightG
                rw [HRF.out, show okOb2 (ts.map Prod.fst) (seenR (ts.map Prod.fst) i) o = false from (by unfold okOb2; rw [hal, Bool.and_false])]
                simp)
              have HBN := Lib.hid (HB0.out.trans (HB5.out.mono (by have := HSZ.out; omega)))
              go_wp2_with fail
              go_ret
              exact ⟨by first | (rw [HNO.out]; rfl) | rw [HNO.out], HBN.out⟩
            | true =>
              have HALT := Lib.hid hal
              clear hal
              -- the world is w5, Below W0 w5 is HB5, the thing's box HX5
              have q4 := HX5.out.cell 4
              simp only [List.getElem?_cons_zero, List.getElem?_cons_succ] at q4
              by_cases f1 : 0 < o.fin
              · have e5 : decide (0 < o.fin) = true := decide_eq_true f1
                go_wp2_with fail
                go_loopw [5] (fun t5 wr => ∃ k : Nat, k ≤ i ∧ t5 = .int .i64 k ∧ (∀ j, j < k → ¬ ((ts.map Prod.fst)[j]?.map (·.fin)) = some o.fin) ∧ Below w5.heap.size w5 wr) (fun t5 _ => i - (intOf t5).toNat)
                case atStart => exact ⟨0, Nat.zero_le _, by go_num, (by intro j hj; omega), Below.refl _ _⟩
                case round =>
                  obtain ⟨k, hk, rfl, hfin, hB8⟩ := hrel
                  have hB9 : Below W0.heap.size W0 wr := HB5.out.trans (hB8.mono HB5.out.size)
                  by_cases hlk : k < i
                  · have hkN : k < N := by omega
                    obtain ⟨⟨o2, sv2⟩, hx2⟩ : ∃ x, ts[k]? = some x := ⟨ts[k]'(by rw [← HN.out]; exact hkN), List.getElem?_eq_getElem _⟩
                    obtain ⟨ad2, c4, ha2, hc2⟩ := rd_at (Rd.below HT.out hB9) (by intro e; have := flatT_len ts; rw [e] at this; simp at this; have := HN.out; omega)
                    rw [← HN.out] at ha2
                    simp only [Value.slice.injEq, Option.some.injEq] at ha2
                    obtain ⟨rfl, -, rfl⟩ := ha2
                    obtain ⟨-, -, -, -, f4⟩ := flatT_at _ _ _ hx2
                    have z4 := cell_more (k := 3) (hc2 _ _ f4)
                    simp only [Nat.reduceAdd] at z4
                    have z0 := ((HX.out.below hB9 (by have := HSZ.out; omega)).cell 0)
                    have q4' := ((HX5.out.below hB8 HX5.out.lt).cell 4)
                    simp only [List.getElem?_cons_zero, List.getElem?_cons_succ] at z0 q4'
                    have hT2 : (ts.map Prod.fst)[k]? = some o2 := by rw [List.getElem?_map, hx2]; rfl
                    have HT2 := Lib.hid hT2
                    have HFIN := Lib.hid hfin
                    obtain ⟨n2, hn2⟩ : ∃ n, n = o2.fin := ⟨_, rfl⟩
                    rw [← hn2] at z4
                    have HN2 := Lib.hid hn2
                    clear hx2 hc2 f4 hT2 hfin hn2 q4
                    by_cases h2 : n2 = o.fin
                    · have e6 : (n2 == o.fin) = true := by simp [h2]
                      have HNO := Lib.hid (show rightG (ts.map Prod.fst) roots = false by
                        unfold rightG
                        rw [HRF.out, show okOb2 (ts.map Prod.fst) (seenR (ts.map Prod.fst) i) o = false from (by
                          unfold okOb2
                          rw [decide_eq_false (fun y => y.2 ⟨f1, seenR_mem.2 ⟨k, hlk, by rw [HT2.out, Option.map_some, ← HN2.out, h2]⟩⟩)]
                          rfl)]
                        simp)
                      clear h2
                      go_wp2_with fail
                      go_quiet (fail)
                      have HBN := Lib.hid (HB0.out.trans ((below_drewN hB9 nq).mono (by have := HSZ.out; omega)))
                      go_wp2_with fail
                      go_ret
                      exact ⟨by first | (rw [HNO.out]; rfl) | rw [HNO.out], HBN.out⟩
                    · have e6 : (n2 == o.fin) = false := by simp [h2]
                      have HF2 := Lib.hid (show ∀ j, j < k + 1 → ¬ ((ts.map Prod.fst)[j]?.map (·.fin)) = some o.fin from fun j hj => by
                        by_cases hjk : j = k
                        · subst hjk; rw [HT2.out, Option.map_some, Option.some.injEq, ← HN2.out]; exact h2
                        · exact HFIN.out j (by omega))
                      clear h2
                      go_wp2_with fail
                      go_quiet (fail)
                      have HB10 := Lib.hid (below_drewN hB8 nq)
                      go_wp2_with fail
                      go_roundw
                      case rel => exact ⟨k + 1, by omega, by go_num, HF2.out, HB10.out⟩
                      case measure => simp [intOf]; omega
                  · obtain rfl : i = k := by omega
                    have hseen : ¬ (0 < o.fin ∧ o.fin ∈ seenR (ts.map Prod.fst) i) := by
                      rintro ⟨-, y⟩
                      obtain ⟨j, hj, he⟩ := seenR_mem.1 y
                      exact hfin j hj he
                    clear hfin
                    have HOK2 := Lib.hid (show okOb2 (ts.map Prod.fst) (seenR (ts.map Prod.fst) i) o = true by unfold okOb2; rw [HALT.out, Bool.and_true]; exact decide_eq_true ⟨by omega, hseen⟩)
                    clear hseen
                    go_wp2_with fail
                    go_roundw
                    case rel => exact ⟨i + 1, by omega, by go_num, by rw [HRF.out, HOK1.out, HOK2.out]; rfl, hB9⟩
                    case measure => simp [intOf]; omega
              · have e5 : decide (0 < o.fin) = false := decide_eq_false f1
                have HSN := Lib.hid (show ¬ (0 < o.fin ∧ o.fin ∈ seenR (ts.map Prod.fst) i) from fun y => f1 y.1)
                go_wp2_with fail
                go_loopw [5] (fun t5 wr => ∃ k : Nat, k ≤ i ∧ t5 = .int .i64 k ∧ Below w5.heap.size w5 wr) (fun t5 _ => i - (intOf t5).toNat)
                case atStart => exact ⟨0, Nat.zero_le _, by go_num, Below.refl _ _⟩
                case round =>
                  obtain ⟨k, hk, rfl, hB8⟩ := hrel
                  have hB9 : Below W0.heap.size W0 wr := HB5.out.trans (hB8.mono HB5.out.size)
                  by_cases hlk : k < i
                  · have q4' := ((HX5.out.below hB8 HX5.out.lt).cell 4)
                    simp only [List.getElem?_cons_zero, List.getElem?_cons_succ] at q4'
                    clear q4
                    go_wp2_with fail
                    go_quiet (fail)
                    have HB10 := Lib.hid (below_drewN hB8 nq)
                    go_wp2_with fail
                    go_roundw
                    case rel => exact ⟨k + 1, by omega, by go_num, HB10.out⟩
                    case measure => simp [intOf]; omega
                  · obtain rfl : i = k := by omega
                    have hseen := HSN.out
                    have HOK2 := Lib.hid (show okOb2 (ts.map Prod.fst) (seenR (ts.map Prod.fst) i) o = true by unfold okOb2; rw [HALT.out, Bool.and_true]; exact decide_eq_true ⟨by omega, hseen⟩)
                    clear hseen
                    go_wp2_with fail
                    go_roundw
                    case rel => exact ⟨i + 1, by omega, by go_num, by rw [HRF.out, HOK1.out, HOK2.out]; rfl, hB9⟩
                    case measure => simp [intOf]; omega
        · have e7 : decide (0 < o.array) = false := decide_eq_false a1
          go_wp2_with fail
          refine HALL.out.mono ?_
          rintro e w5 ⟨rfl, hb5⟩
          have HX5 := Lib.hid (HXT.out.below hb5 HXT.out.lt)
          have HB5 := Lib.hid (HBT.out.trans (hb5.mono HBT.out.size))
          clear hb5
          cases hal : allG (ts.map Prod.fst) o.slots with
          | false =>
            have HNO := Lib.hid (show rightG (ts.map Prod.fst) roots = false by
              unfold rightG
              rw [HRF.out, show okOb2 (ts.map Prod.fst) (seenR (ts.map Prod.fst) i) o = false from (by unfold okOb2; rw [hal, Bool.and_false])]
              simp)
            have HBN := Lib.hid (HB0.out.trans (HB5.out.mono (by have := HSZ.out; omega)))
            go_wp2_with fail
            go_ret
            exact ⟨by first | (rw [HNO.out]; rfl) | rw [HNO.out], HBN.out⟩
          | true =>
            have HALT := Lib.hid hal
            clear hal
            -- the world is w5, Below W0 w5 is HB5, the thing's box HX5
            have q4 := HX5.out.cell 4
            simp only [List.getElem?_cons_zero, List.getElem?_cons_succ] at q4
            by_cases f1 : 0 < o.fin
            · have e5 : decide (0 < o.fin) = true := decide_eq_true f1
              go_wp2_with fail
              go_loopw [5] (fun t5 wr => ∃ k : Nat, k ≤ i ∧ t5 = .int .i64 k ∧ (∀ j, j < k → ¬ ((ts.map Prod.fst)[j]?.map (·.fin)) = some o.fin) ∧ Below w5.heap.size w5 wr) (fun t5 _ => i - (intOf t5).toNat)
              case atStart => exact ⟨0, Nat.zero_le _, by go_num, (by intro j hj; omega), Below.refl _ _⟩
              case round =>
                obtain ⟨k, hk, rfl, hfin, hB8⟩ := hrel
                have hB9 : Below W0.heap.size W0 wr := HB5.out.trans (hB8.mono HB5.out.size)
                by_cases hlk : k < i
                · have hkN : k < N := by omega
                  obtain ⟨⟨o2, sv2⟩, hx2⟩ : ∃ x, ts[k]? = some x := ⟨ts[k]'(by rw [← HN.out]; exact hkN), List.getElem?_eq_getElem _⟩
                  obtain ⟨ad2, c4, ha2, hc2⟩ := rd_at (Rd.below HT.out hB9) (by intro e; have := flatT_len ts; rw [e] at this; simp at this; have := HN.out; omega)
                  rw [← HN.out] at ha2
                  simp only [Value.slice.injEq, Option.some.injEq] at ha2
                  obtain ⟨rfl, -, rfl⟩ := ha2
                  obtain ⟨-, -, -, -, f4⟩ := flatT_at _ _ _ hx2
                  have z4 := cell_more (k := 3) (hc2 _ _ f4)
                  simp only [Nat.reduceAdd] at z4
                  have z0 := ((HX.out.below hB9 (by have := HSZ.out; omega)).cell 0)
                  have q4' := ((HX5.out.below hB8 HX5.out.lt).cell 4)
                  simp only [List.getElem?_cons_zero, List.getElem?_cons_succ] at z0 q4'
                  have hT2 : (ts.map Prod.fst)[k]? = some o2 := by rw [List.getElem?_map, hx2]; rfl
                  have HT2 := Lib.hid hT2
                  have HFIN := Lib.hid hfin
                  obtain ⟨n2, hn2⟩ : ∃ n, n = o2.fin := ⟨_, rfl⟩
                  rw [← hn2] at z4
                  have HN2 := Lib.hid hn2
                  clear hx2 hc2 f4 hT2 hfin hn2 q4
                  by_cases h2 : n2 = o.fin
                  · have e6 : (n2 == o.fin) = true := by simp [h2]
                    have HNO := Lib.hid (show rightG (ts.map Prod.fst) roots = false by
                      unfold rightG
                      rw [HRF.out, show okOb2 (ts.map Prod.fst) (seenR (ts.map Prod.fst) i) o = false from (by
                        unfold okOb2
                        rw [decide_eq_false (fun y => y.2 ⟨f1, seenR_mem.2 ⟨k, hlk, by rw [HT2.out, Option.map_some, ← HN2.out, h2]⟩⟩)]
                        rfl)]
                      simp)
                    clear h2
                    go_wp2_with fail
                    go_quiet (fail)
                    have HBN := Lib.hid (HB0.out.trans ((below_drewN hB9 nq).mono (by have := HSZ.out; omega)))
                    go_wp2_with fail
                    go_ret
                    exact ⟨by first | (rw [HNO.out]; rfl) | rw [HNO.out], HBN.out⟩
                  · have e6 : (n2 == o.fin) = false := by simp [h2]
                    have HF2 := Lib.hid (show ∀ j, j < k + 1 → ¬ ((ts.map Prod.fst)[j]?.map (·.fin)) = some o.fin from fun j hj => by
                      by_cases hjk : j = k
                      · subst hjk; rw [HT2.out, Option.map_some, Option.some.injEq, ← HN2.out]; exact h2
                      · exact HFIN.out j (by omega))
                    clear h2
                    go_wp2_with fail
                    go_quiet (fail)
                    have HB10 := Lib.hid (below_drewN hB8 nq)
                    go_wp2_with fail
                    go_roundw
                    case rel => exact ⟨k + 1, by omega, by go_num, HF2.out, HB10.out⟩
                    case measure => simp [intOf]; omega
                · obtain rfl : i = k := by omega
                  have hseen : ¬ (0 < o.fin ∧ o.fin ∈ seenR (ts.map Prod.fst) i) := by
                    rintro ⟨-, y⟩
                    obtain ⟨j, hj, he⟩ := seenR_mem.1 y
                    exact hfin j hj he
                  clear hfin
                  have HOK2 := Lib.hid (show okOb2 (ts.map Prod.fst) (seenR (ts.map Prod.fst) i) o = true by unfold okOb2; rw [HALT.out, Bool.and_true]; exact decide_eq_true ⟨by omega, hseen⟩)
                  clear hseen
                  go_wp2_with fail
                  go_roundw
                  case rel => exact ⟨i + 1, by omega, by go_num, by rw [HRF.out, HOK1.out, HOK2.out]; rfl, hB9⟩
                  case measure => simp [intOf]; omega
            · have e5 : decide (0 < o.fin) = false := decide_eq_false f1
              have HSN := Lib.hid (show ¬ (0 < o.fin ∧ o.fin ∈ seenR (ts.map Prod.fst) i) from fun y => f1 y.1)
              go_wp2_with fail
              go_loopw [5] (fun t5 wr => ∃ k : Nat, k ≤ i ∧ t5 = .int .i64 k ∧ Below w5.heap.size w5 wr) (fun t5 _ => i - (intOf t5).toNat)
              case atStart => exact ⟨0, Nat.zero_le _, by go_num, Below.refl _ _⟩
              case round =>
                obtain ⟨k, hk, rfl, hB8⟩ := hrel
                have hB9 : Below W0.heap.size W0 wr := HB5.out.trans (hB8.mono HB5.out.size)
                by_cases hlk : k < i
                · have q4' := ((HX5.out.below hB8 HX5.out.lt).cell 4)
                  simp only [List.getElem?_cons_zero, List.getElem?_cons_succ] at q4'
                  clear q4
                  go_wp2_with fail
                  go_quiet (fail)
                  have HB10 := Lib.hid (below_drewN hB8 nq)
                  go_wp2_with fail
                  go_roundw
                  case rel => exact ⟨k + 1, by omega, by go_num, HB10.out⟩
                  case measure => simp [intOf]; omega
                · obtain rfl : i = k := by omega
                  have hseen := HSN.out
                  have HOK2 := Lib.hid (show okOb2 (ts.map Prod.fst) (seenR (ts.map Prod.fst) i) o = true by unfold okOb2; rw [HALT.out, Bool.and_true]; exact decide_eq_true ⟨by omega, hseen⟩)
                  clear hseen
                  go_wp2_with fail
                  go_roundw
                  case rel => exact ⟨i + 1, by omega, by go_num, by rw [HRF.out, HOK1.out, HOK2.out]; rfl, hB9⟩
                  case measure => simp [intOf]; omega
      have e_k7 : (o.kind != 5) = true := by simp [k7]
      by_cases k8 : 0 < o.weak
      · have e_k8 : decide (0 < o.weak) = true := decide_eq_true k8
        have HNO := Lib.hid (show rightG (ts.map Prod.fst) roots = false by unfold rightG; rw [HRF.out, show okOb o = false from decide_eq_false (by omega)]; rfl)
        go_wp2_with fail
        go_ret
        exact ⟨by first | (rw [HNO.out]; rfl) | rw [HNO.out], HBN.out⟩
      have e_k8 : decide (0 < o.weak) = false := decide_eq_false k8
      by_cases k9 : 0 < o.fin
      · have e_k9 : decide (0 < o.fin) = true := decide_eq_true k9
        have HNO := Lib.hid (show rightG (ts.map Prod.fst) roots = false by unfold rightG; rw [HRF.out, show okOb o = false from decide_eq_false (by omega)]; rfl)
        go_wp2_with fail
        go_ret
        exact ⟨by first | (rw [HNO.out]; rfl) | rw [HNO.out], HBN.out⟩
      have e_k9 : decide (0 < o.fin) = false := decide_eq_false k9
      have HOK1 := Lib.hid (show okOb o = true from decide_eq_true (by omega))
      by_cases a1 : 0 < o.array
      · have e7 : decide (0 < o.array) = true := decide_eq_true a1
        by_cases a2 : (o.slots.length : Int) ≤ o.array
        · have e8 : decide ((o.slots.length : Int) ≤ o.array) = true := decide_eq_true a2
          have HNO := Lib.hid (show rightG (ts.map Prod.fst) roots = false by
            unfold rightG
            rw [HRF.out, show okOb2 (ts.map Prod.fst) (seenR (ts.map Prod.fst) i) o = false from (by unfold okOb2; rw [decide_eq_false (fun y => y.1 ⟨a1, a2⟩)]; rfl)]
            simp)
          go_wp2_with fail
          go_ret
          exact ⟨by first | (rw [HNO.out]; rfl) | rw [HNO.out], HBN.out⟩
        · have e8 : decide ((o.slots.length : Int) ≤ o.array) = false := decide_eq_false a2
          go_wp2_with fail
          refine HALL.out.mono ?_
          rintro e w5 ⟨rfl, hb5⟩
          have HX5 := Lib.hid (HXT.out.below hb5 HXT.out.lt)
          have HB5 := Lib.hid (HBT.out.trans (hb5.mono HBT.out.size))
          clear hb5
          cases hal : allG (ts.map Prod.fst) o.slots with
          | false =>
            have HNO := Lib.hid (show rightG (ts.map Prod.fst) roots = false by
              unfold rightG
              rw [HRF.out, show okOb2 (ts.map Prod.fst) (seenR (ts.map Prod.fst) i) o = false from (by unfold okOb2; rw [hal, Bool.and_false])]
              simp)
            have HBN := Lib.hid (HB0.out.trans (HB5.out.mono (by have := HSZ.out; omega)))
            go_wp2_with fail
            go_ret
            exact ⟨by first | (rw [HNO.out]; rfl) | rw [HNO.out], HBN.out⟩
          | true =>
            have HALT := Lib.hid hal
            clear hal
            -- the world is w5, Below W0 w5 is HB5, the thing's box HX5
            have q4 := HX5.out.cell 4
            simp only [List.getElem?_cons_zero, List.getElem?_cons_succ] at q4
            by_cases f1 : 0 < o.fin
            · have e5 : decide (0 < o.fin) = true := decide_eq_true f1
              go_wp2_with fail
              go_loopw [5] (fun t5 wr => ∃ k : Nat, k ≤ i ∧ t5 = .int .i64 k ∧ (∀ j, j < k → ¬ ((ts.map Prod.fst)[j]?.map (·.fin)) = some o.fin) ∧ Below w5.heap.size w5 wr) (fun t5 _ => i - (intOf t5).toNat)
              case atStart => exact ⟨0, Nat.zero_le _, by go_num, (by intro j hj; omega), Below.refl _ _⟩
              case round =>
                obtain ⟨k, hk, rfl, hfin, hB8⟩ := hrel
                have hB9 : Below W0.heap.size W0 wr := HB5.out.trans (hB8.mono HB5.out.size)
                by_cases hlk : k < i
                · have hkN : k < N := by omega
                  obtain ⟨⟨o2, sv2⟩, hx2⟩ : ∃ x, ts[k]? = some x := ⟨ts[k]'(by rw [← HN.out]; exact hkN), List.getElem?_eq_getElem _⟩
                  obtain ⟨ad2, c4, ha2, hc2⟩ := rd_at (Rd.below HT.out hB9) (by intro e; have := flatT_len ts; rw [e] at this; simp at this; have := HN.out; omega)
                  rw [← HN.out] at ha2
                  simp only [Value.slice.injEq, Option.some.injEq] at ha2
                  obtain ⟨rfl, -, rfl⟩ := ha2
                  obtain ⟨-, -, -, -, f4⟩ := flatT_at _ _ _ hx2
                  have z4 := cell_more (k := 3) (hc2 _ _ f4)
                  simp only [Nat.reduceAdd] at z4
                  have z0 := ((HX.out.below hB9 (by have := HSZ.out; omega)).cell 0)
                  have q4' := ((HX5.out.below hB8 HX5.out.lt).cell 4)
                  simp only [List.getElem?_cons_zero, List.getElem?_cons_succ] at z0 q4'
                  have hT2 : (ts.map Prod.fst)[k]? = some o2 := by rw [List.getElem?_map, hx2]; rfl
                  have HT2 := Lib.hid hT2
                  have HFIN := Lib.hid hfin
                  obtain ⟨n2, hn2⟩ : ∃ n, n = o2.fin := ⟨_, rfl⟩
                  rw [← hn2] at z4
                  have HN2 := Lib.hid hn2
                  clear hx2 hc2 f4 hT2 hfin hn2 q4
                  by_cases h2 : n2 = o.fin
                  · have e6 : (n2 == o.fin) = true := by simp [h2]
                    have HNO := Lib.hid (show rightG (ts.map Prod.fst) roots = false by
                      unfold rightG
                      rw [HRF.out, show okOb2 (ts.map Prod.fst) (seenR (ts.map Prod.fst) i) o = false from (by
                        unfold okOb2
                        rw [decide_eq_false (fun y => y.2 ⟨f1, seenR_mem.2 ⟨k, hlk, by rw [HT2.out, Option.map_some, ← HN2.out, h2]⟩⟩)]
                        rfl)]
                      simp)
                    clear h2
                    go_wp2_with fail
                    go_quiet (fail)
                    have HBN := Lib.hid (HB0.out.trans ((below_drewN hB9 nq).mono (by have := HSZ.out; omega)))
                    go_wp2_with fail
                    go_ret
                    exact ⟨by first | (rw [HNO.out]; rfl) | rw [HNO.out], HBN.out⟩
                  · have e6 : (n2 == o.fin) = false := by simp [h2]
                    have HF2 := Lib.hid (show ∀ j, j < k + 1 → ¬ ((ts.map Prod.fst)[j]?.map (·.fin)) = some o.fin from fun j hj => by
                      by_cases hjk : j = k
                      · subst hjk; rw [HT2.out, Option.map_some, Option.some.injEq, ← HN2.out]; exact h2
                      · exact HFIN.out j (by omega))
                    clear h2
                    go_wp2_with fail
                    go_quiet (fail)
                    have HB10 := Lib.hid (below_drewN hB8 nq)
                    go_wp2_with fail
                    go_roundw
                    case rel => exact ⟨k + 1, by omega, by go_num, HF2.out, HB10.out⟩
                    case measure => simp [intOf]; omega
                · obtain rfl : i = k := by omega
                  have hseen : ¬ (0 < o.fin ∧ o.fin ∈ seenR (ts.map Prod.fst) i) := by
                    rintro ⟨-, y⟩
                    obtain ⟨j, hj, he⟩ := seenR_mem.1 y
                    exact hfin j hj he
                  clear hfin
                  have HOK2 := Lib.hid (show okOb2 (ts.map Prod.fst) (seenR (ts.map Prod.fst) i) o = true by unfold okOb2; rw [HALT.out, Bool.and_true]; exact decide_eq_true ⟨by omega, hseen⟩)
                  clear hseen
                  go_wp2_with fail
                  go_roundw
                  case rel => exact ⟨i + 1, by omega, by go_num, by rw [HRF.out, HOK1.out, HOK2.out]; rfl, hB9⟩
                  case measure => simp [intOf]; omega
            · have e5 : decide (0 < o.fin) = false := decide_eq_false f1
              have HSN := Lib.hid (show ¬ (0 < o.fin ∧ o.fin ∈ seenR (ts.map Prod.fst) i) from fun y => f1 y.1)
              go_wp2_with fail
              go_loopw [5] (fun t5 wr => ∃ k : Nat, k ≤ i ∧ t5 = .int .i64 k ∧ Below w5.heap.size w5 wr) (fun t5 _ => i - (intOf t5).toNat)
              case atStart => exact ⟨0, Nat.zero_le _, by go_num, Below.refl _ _⟩
              case round =>
                obtain ⟨k, hk, rfl, hB8⟩ := hrel
                have hB9 : Below W0.heap.size W0 wr := HB5.out.trans (hB8.mono HB5.out.size)
                by_cases hlk : k < i
                · have q4' := ((HX5.out.below hB8 HX5.out.lt).cell 4)
                  simp only [List.getElem?_cons_zero, List.getElem?_cons_succ] at q4'
                  clear q4
                  go_wp2_with fail
                  go_quiet (fail)
                  have HB10 := Lib.hid (below_drewN hB8 nq)
                  go_wp2_with fail
                  go_roundw
                  case rel => exact ⟨k + 1, by omega, by go_num, HB10.out⟩
                  case measure => simp [intOf]; omega
                · obtain rfl : i = k := by omega
                  have hseen := HSN.out
                  have HOK2 := Lib.hid (show okOb2 (ts.map Prod.fst) (seenR (ts.map Prod.fst) i) o = true by unfold okOb2; rw [HALT.out, Bool.and_true]; exact decide_eq_true ⟨by omega, hseen⟩)
                  clear hseen
                  go_wp2_with fail
                  go_roundw
                  case rel => exact ⟨i + 1, by omega, by go_num, by rw [HRF.out, HOK1.out, HOK2.out]; rfl, hB9⟩
                  case measure => simp [intOf]; omega
      · have e7 : decide (0 < o.array) = false := decide_eq_false a1
        go_wp2_with fail
        refine HALL.out.mono ?_
        rintro e w5 ⟨rfl, hb5⟩
        have HX5 := Lib.hid (HXT.out.below hb5 HXT.out.lt)
        have HB5 := Lib.hid (HBT.out.trans (hb5.mono HBT.out.size))
        clear hb5
        cases hal : allG (ts.map Prod.fst) o.slots with
        | false =>
          have HNO := Lib.hid (show rightG (ts.map Prod.fst) roots = false by
            unfold rightG
            rw [HRF.out, show okOb2 (ts.map Prod.fst) (seenR (ts.map Prod.fst) i) o = false from (by unfold okOb2; rw [hal, Bool.and_false])]
            simp)
          have HBN := Lib.hid (HB0.out.trans (HB5.out.mono (by have := HSZ.out; omega)))
          go_wp2_with fail
          go_ret
          exact ⟨by first | (rw [HNO.out]; rfl) | rw [HNO.out], HBN.out⟩
        | true =>
          have HALT := Lib.hid hal
          clear hal
          -- the world is w5, Below W0 w5 is HB5, the thing's box HX5
          have q4 := HX5.out.cell 4
          simp only [List.getElem?_cons_zero, List.getElem?_cons_succ] at q4
          by_cases f1 : 0 < o.fin
          · have e5 : decide (0 < o.fin) = true := decide_eq_true f1
            go_wp2_with fail
            go_loopw [5] (fun t5 wr => ∃ k : Nat, k ≤ i ∧ t5 = .int .i64 k ∧ (∀ j, j < k → ¬ ((ts.map Prod.fst)[j]?.map (·.fin)) = some o.fin) ∧ Below w5.heap.size w5 wr) (fun t5 _ => i - (intOf t5).toNat)
            case atStart => exact ⟨0, Nat.zero_le _, by go_num, (by intro j hj; omega), Below.refl _ _⟩
            case round =>
              obtain ⟨k, hk, rfl, hfin, hB8⟩ := hrel
              have hB9 : Below W0.heap.size W0 wr := HB5.out.trans (hB8.mono HB5.out.size)
              by_cases hlk : k < i
              · have hkN : k < N := by omega
                obtain ⟨⟨o2, sv2⟩, hx2⟩ : ∃ x, ts[k]? = some x := ⟨ts[k]'(by rw [← HN.out]; exact hkN), List.getElem?_eq_getElem _⟩
                obtain ⟨ad2, c4, ha2, hc2⟩ := rd_at (Rd.below HT.out hB9) (by intro e; have := flatT_len ts; rw [e] at this; simp at this; have := HN.out; omega)
                rw [← HN.out] at ha2
                simp only [Value.slice.injEq, Option.some.injEq] at ha2
                obtain ⟨rfl, -, rfl⟩ := ha2
                obtain ⟨-, -, -, -, f4⟩ := flatT_at _ _ _ hx2
                have z4 := cell_more (k := 3) (hc2 _ _ f4)
                simp only [Nat.reduceAdd] at z4
                have z0 := ((HX.out.below hB9 (by have := HSZ.out; omega)).cell 0)
                have q4' := ((HX5.out.below hB8 HX5.out.lt).cell 4)
                simp only [List.getElem?_cons_zero, List.getElem?_cons_succ] at z0 q4'
                have hT2 : (ts.map Prod.fst)[k]? = some o2 := by rw [List.getElem?_map, hx2]; rfl
                have HT2 := Lib.hid hT2
                have HFIN := Lib.hid hfin
                obtain ⟨n2, hn2⟩ : ∃ n, n = o2.fin := ⟨_, rfl⟩
                rw [← hn2] at z4
                have HN2 := Lib.hid hn2
                clear hx2 hc2 f4 hT2 hfin hn2 q4
                by_cases h2 : n2 = o.fin
                · have e6 : (n2 == o.fin) = true := by simp [h2]
                  have HNO := Lib.hid (show rightG (ts.map Prod.fst) roots = false by
                    unfold rightG
                    rw [HRF.out, show okOb2 (ts.map Prod.fst) (seenR (ts.map Prod.fst) i) o = false from (by
                      unfold okOb2
                      rw [decide_eq_false (fun y => y.2 ⟨f1, seenR_mem.2 ⟨k, hlk, by rw [HT2.out, Option.map_some, ← HN2.out, h2]⟩⟩)]
                      rfl)]
                    simp)
                  clear h2
                  go_wp2_with fail
                  go_quiet (fail)
                  have HBN := Lib.hid (HB0.out.trans ((below_drewN hB9 nq).mono (by have := HSZ.out; omega)))
                  go_wp2_with fail
                  go_ret
                  exact ⟨by first | (rw [HNO.out]; rfl) | rw [HNO.out], HBN.out⟩
                · have e6 : (n2 == o.fin) = false := by simp [h2]
                  have HF2 := Lib.hid (show ∀ j, j < k + 1 → ¬ ((ts.map Prod.fst)[j]?.map (·.fin)) = some o.fin from fun j hj => by
                    by_cases hjk : j = k
                    · subst hjk; rw [HT2.out, Option.map_some, Option.some.injEq, ← HN2.out]; exact h2
                    · exact HFIN.out j (by omega))
                  clear h2
                  go_wp2_with fail
                  go_quiet (fail)
                  have HB10 := Lib.hid (below_drewN hB8 nq)
                  go_wp2_with fail
                  go_roundw
                  case rel => exact ⟨k + 1, by omega, by go_num, HF2.out, HB10.out⟩
                  case measure => simp [intOf]; omega
              · obtain rfl : i = k := by omega
                have hseen : ¬ (0 < o.fin ∧ o.fin ∈ seenR (ts.map Prod.fst) i) := by
                  rintro ⟨-, y⟩
                  obtain ⟨j, hj, he⟩ := seenR_mem.1 y
                  exact hfin j hj he
                clear hfin
                have HOK2 := Lib.hid (show okOb2 (ts.map Prod.fst) (seenR (ts.map Prod.fst) i) o = true by unfold okOb2; rw [HALT.out, Bool.and_true]; exact decide_eq_true ⟨by omega, hseen⟩)
                clear hseen
                go_wp2_with fail
                go_roundw
                case rel => exact ⟨i + 1, by omega, by go_num, by rw [HRF.out, HOK1.out, HOK2.out]; rfl, hB9⟩
                case measure => simp [intOf]; omega
          · have e5 : decide (0 < o.fin) = false := decide_eq_false f1
            have HSN := Lib.hid (show ¬ (0 < o.fin ∧ o.fin ∈ seenR (ts.map Prod.fst) i) from fun y => f1 y.1)
            go_wp2_with fail
            go_loopw [5] (fun t5 wr => ∃ k : Nat, k ≤ i ∧ t5 = .int .i64 k ∧ Below w5.heap.size w5 wr) (fun t5 _ => i - (intOf t5).toNat)
            case atStart => exact ⟨0, Nat.zero_le _, by go_num, Below.refl _ _⟩
            case round =>
              obtain ⟨k, hk, rfl, hB8⟩ := hrel
              have hB9 : Below W0.heap.size W0 wr := HB5.out.trans (hB8.mono HB5.out.size)
              by_cases hlk : k < i
              · have q4' := ((HX5.out.below hB8 HX5.out.lt).cell 4)
                simp only [List.getElem?_cons_zero, List.getElem?_cons_succ] at q4'
                clear q4
                go_wp2_with fail
                go_quiet (fail)
                have HB10 := Lib.hid (below_drewN hB8 nq)
                go_wp2_with fail
                go_roundw
                case rel => exact ⟨k + 1, by omega, by go_num, HB10.out⟩
                case measure => simp [intOf]; omega
              · obtain rfl : i = k := by omega
                have hseen := HSN.out
                have HOK2 := Lib.hid (show okOb2 (ts.map Prod.fst) (seenR (ts.map Prod.fst) i) o = true by unfold okOb2; rw [HALT.out, Bool.and_true]; exact decide_eq_true ⟨by omega, hseen⟩)
                clear hseen
                go_wp2_with fail
                go_roundw
                case rel => exact ⟨i + 1, by omega, by go_num, by rw [HRF.out, HOK1.out, HOK2.out]; rfl, hB9⟩
                case measure => simp [intOf]; omega
    · obtain rfl : i = N := by omega
      have HALL := Lib.hid (refAll_any (rv := .slice ra RN rc) (Rd.below HT.out hB) HS.out (Rd.below HR.out hB) HSR.out)
      have HRG := Lib.hid (show rightG (ts.map Prod.fst) roots = allG (ts.map Prod.fst) roots by
        unfold rightG
        rw [hacc, List.drop_eq_nil_of_le (by simp; have := HN.out; omega)]
        rfl)
      clear hacc
      go_wp2_with fail
      refine HALL.out.mono ?_
      rintro e w5 ⟨rfl, hb5⟩
      have HBN := Lib.hid (HB0.out.trans ((hB.trans (hb5.mono hB.size)).mono (by have := HSZ.out; omega)))
      clear hb5
      go_wp2_with fail
      go_ret
      exact ⟨by first | (rw [HRG.out]; rfl) | rw [HRG.out], HBN.out⟩
end Go.Proofs.YtminbemdcanakaaGreat
