/- Entries of the weak ones are gone over. -/
import Derived.Test.YtminbemdcanakaaGreatMG
namespace Go.Proofs.YtminbemdcanakaaGreat
open Go.RowKit Go.Shelf
set_option linter.unusedVariables false
set_option linter.unusedSimpArgs false
attribute [local go_sem] Oper.semAt_some meth_order meth_thing meth_kind meth_cells meth_colour meth_age meth_setColour meth_setAge meth_setFin meth_clear meth_drop meth_roots

/-- Closure number id, over the boxes be (the ender) and bc (the collector), does f. -/
def DoF (id : FuncId) (be bc : Nat) (f : EachF) : Prop := ∀ (c : Cs) (wk : List Int) (W : World) (E1 : EL) (o : Ob) (sv : Value) (h : Int) (i : Nat) (k : Int),
  EAt W E1 ⟨c, wk⟩ → Bd c → Box W be [.pointer (some ⟨E1.ep, 0, none⟩)] 152 → Box W bc [.pointer (some ⟨E1.K.cp, 0, none⟩)] 59 → W.ownsRow 0 34 2 sv o.slots.length (flatV o.slots) → 1 ≤ i → i < o.slots.length → keyAt o i = some k → o.slots.length ≤ 100000 →
  Calls Tryz.prog id #[.int .i64 h, thingV o sv, .int .i64 i, .int .i64 k, .pointer (some ⟨be, 0, none⟩), .pointer (some ⟨bc, 0, none⟩)] W fun x w' => UnitTo noQ W E1.K (f c o h i k) x w'
variable {w : World} {E : EL} {e : En}
theorem EAt.turnK {w' : World} {c' : Cs} {s : Nat → Prop} {K' : CL} (h : EAt w E e) (G : CGo s w E.K w' K' c') : EAt w' { E with K := K' } ⟨c', e.weak⟩ := by
  have hk := G.keepAll
  refine ⟨?_, G.at_, h.weak.keep hk h.sepW, ?_, ?_⟩
  · show Box w' E.ep [.pointer (some ⟨K'.cp, 0, none⟩), E.wv] _
    rw [G.cp]
    exact hk.box h.box h.sepE
  · intro x
    rcases G.ownAll x with y | y
    · exact h.sepE y
    · have := h.box.lt; have y' : w.heap.size ≤ E.ep := y; omega
  · intro k hk2 x
    rcases G.ownAll x with y | y
    · exact h.sepW k hk2 y
    · have := h.weak.lt hk2; omega
theorem CGo.self {s : Nat → Prop} {K : CL} {c : Cs} (h : CAt w K c) : CGo s w K w K c := ⟨rfl, rfl, h, fun _ _ _ => rfl, Keep.refl _ _, fun _ hk => .inl hk⟩
theorem CGo.below {s : Nat → Prop} {K K' : CL} {c : Cs} {w1 w2 : World} (h : CGo s w K w1 K' c) (hb : Below w1.heap.size w1 w2) : CGo s w K w2 K' c := ⟨h.cp, h.p, h.at_.below hb, h.q, h.keep.trans (Keep.of_below hb), h.own⟩
theorem range'_snoc (n : Nat) : List.range' 1 (n + 1) = List.range' 1 n ++ [n + 1] := by
  rw [List.range'_concat]; simp [Nat.add_comm]
set_option maxRecDepth 100000 in
set_option maxHeartbeats 8000000 in
theorem each_any1 {be bc : Nat} {f : EachF} (hf : EachCl f) (hdo : DoF 129 be bc f) (h : EAt w E e) (hB : Bd e.c) (hwl : e.weak.length ≤ 20000000) (hbe : Box w be [.pointer (some ⟨E.ep, 0, none⟩)] 152) (hbc : Box w bc [.pointer (some ⟨E.K.cp, 0, none⟩)] 59) (hne : ¬ E.own be) (hnc : ¬ E.own bc) :
    Calls Tryz.prog 128 #[.pointer (some ⟨E.ep, 0, none⟩), .func (.func 129) #[] #[.pointer (some ⟨be, 0, none⟩), .pointer (some ⟨bc, 0, none⟩)]] w fun x w' => UnitTo noQ w E.K (each f e.weak e.c) x w' := by
  have p0 := h.cells.1
  have p1 := h.cells.2
  obtain ⟨wa, wc, hwv⟩ := h.weak.slice
  rw [hwv] at p1
  have HH := Lib.hid h
  have HBD := Lib.hid hB
  have HWV := Lib.hid hwv
  have HBE := Lib.hid hbe
  have HBC := Lib.hid hbc
  have HNE := Lib.hid (fun h => hne (.inr (.inl h)) : ¬ E.K.own be)
  have HNC := Lib.hid (fun h => hnc (.inr (.inl h)) : ¬ E.K.own bc)
  have HDO := Lib.hid hdo
  have HF := Lib.hid hf
  obtain ⟨wk, hwk⟩ : ∃ wk, wk = e.weak := ⟨_, rfl⟩
  rw [← hwk] at p1 hwl
  have HWK := Lib.hid hwk
  clear h hB hwv hbe hbc hne hnc hdo hf hwk
  go_enter Tryz.func128, Tryz.ntmps128
  go_wp2_with fail
  go_loopw [14] (fun t14 wr => ∃ (a : Nat) (Ka : CL), a ≤ wk.length ∧ t14 = .int .i64 a ∧ CGo noQ w E.K wr Ka ((wk.take a).foldl (each1 f) e.c)) (fun t14 _ => wk.length - (intOf t14).toNat)
  case atStart => exact ⟨0, E.K, Nat.zero_le _, by go_num, CGo.self HH.out.at_⟩
  case round =>
    obtain ⟨a, Ka, ha, rfl, G⟩ := hrel
    by_cases hlt : a < wk.length
    · obtain ⟨x, hx⟩ : ∃ x, wk[a]? = some x := ⟨wk[a], List.getElem?_eq_getElem _⟩
      have hEa := HH.out.turnK G
      have hww : QAt wr E.wv wk := by rw [HWK.out]; exact hEa.weak
      obtain ⟨g, off, cap, hqg, hle, hmx, hcell⟩ := hww.get (by intro e; rw [e] at hlt; simp at hlt)
      rw [HWV.out, ← HWK.out] at hqg
      simp only [Value.slice.injEq] at hqg
      obtain ⟨rfl, -, rfl⟩ := hqg
      have y0 := hcell _ _ hx
      obtain ⟨ca, hca⟩ : ∃ ca, ca = (wk.take a).foldl (each1 f) e.c := ⟨_, rfl⟩
      have hcl : Cl e.c ca := by rw [hca]; exact each_cl HF.out _ _
      have hbd : Bd ca := HBD.out.mk' (k := 0) hcl.is
      rw [← hca] at G hEa
      have r0 := hEa.cells.1
      have c0 := G.at_.cells.1
      have r0' : wr.cell? ⟨E.ep, 0, none⟩ = some (.pointer (some ⟨E.K.cp, 0, none⟩)) := by rw [← G.cp]; exact r0
      rw [G.cp, G.p] at c0
      have HTH := Lib.hid (thing_any G.at_.mem hbd.sz.n x (at_small hbd.sz))
      rw [G.p] at HTH
      have hn := (get_small hbd.sz x).1
      have ha0 := (get_small hbd.sz x).2.1
      have ha1 := (get_small hbd.sz x).2.2
      obtain ⟨o, ho⟩ : ∃ o, o = ca.m.get x := ⟨_, rfl⟩
      rw [← ho] at HTH hn ha0 ha1
      have HO := Lib.hid ho
      have HTS := Lib.hid (show (wk.take (a + 1)).foldl (each1 f) e.c = each1 f ca x by rw [List.take_add_one, hx, List.foldl_append, ← hca]; rfl)
      have HG := Lib.hid G
      have HEA := Lib.hid hEa
      have HBA := Lib.hid hbd
      clear hx hww hcell hca hcl hbd G hEa ho r0
      go_wp2_with fail
      refine HTH.out.mono ?_
      rintro x2 w2 ⟨sv, rfl, hv, hb2⟩
      obtain ⟨sa, sc, rfl⟩ := row_slice hv
      unfold thingV
      obtain ⟨W1, hW1⟩ : ∃ W, W = w2.alloc (.cells #[.int .i64 o.kind, .int .i64 o.weak, .int .i64 o.array, .slice sa o.slots.length sc, .int .i64 o.fin] 36) := ⟨_, rfl⟩
      have hb1 : Below wr.heap.size wr W1 := by rw [hW1]; exact hb2.alloc hb2.size _
      have hbt : Box W1 w2.heap.size [.int .i64 o.kind, .int .i64 o.weak, .int .i64 o.array, .slice sa o.slots.length sc, .int .i64 o.fin] 36 := by rw [hW1]; exact Box.new w2 _ _
      have hrow : W1.ownsRow wr.heap.size 34 2 (.slice sa o.slots.length sc) o.slots.length (flatV o.slots) := by rw [hW1]; exact hv.alloc _
      have hE1 := HEA.out.below hb1
      have hszz := hb2.size
      have HROW := Lib.hid hrow
      have HBT := Lib.hid hbt
      have HE1 := Lib.hid hE1
      have HB1 := Lib.hid hb1
      have HW1 := Lib.hid hW1
      have hown : ∀ k, Ka.own k → k < wr.heap.size := fun k hk => HEA.out.at_.own_lt hk
      have HOWN := Lib.hid hown
      have HSZ := Lib.hid hszz
      clear hv hb2 hW1 hb1 hbt hrow hE1 hown hszz y0 r0' c0
      go_wp2_with fail
      rw [← HW1.out]
      go_loopw [7] (fun t7 wr => ∃ (i : Nat) (Ki : CL), i ≤ o.slots.length - 1 ∧ t7 = .int .i64 ((i : Int) + 1) ∧ CGo noQ W1 Ka wr Ki ((List.range' 1 i).foldl (eachAt f o x) ca)) (fun t7 _ => o.slots.length - (intOf t7).toNat)
      case atStart => exact ⟨0, Ka, Nat.zero_le _, by go_num, CGo.self HE1.out.at_⟩
      case round =>
        obtain ⟨j, Ki, hj, rfl, G⟩ := hrel
        have ht3 : Box wr w2.heap.size [.int .i64 o.kind, .int .i64 o.weak, .int .i64 o.array, .slice sa o.slots.length sc, .int .i64 o.fin] 36 := G.keepAll.box HBT.out fun hk => by have := HOWN.out _ hk; have := HSZ.out; omega
        have t0 := ht3.cell 0
        have t1 := ht3.cell 1
        have t2 := ht3.cell 2
        have t3 := ht3.cell 3
        have t4 := ht3.cell 4
        simp only [List.getElem?_cons_zero, List.getElem?_cons_succ] at t0 t1 t2 t3 t4
        by_cases hjl : j + 1 < o.slots.length
        · obtain ⟨ci, hci⟩ : ∃ ci, ci = (List.range' 1 j).foldl (eachAt f o x) ca := ⟨_, rfl⟩
          have hcl : Cl ca ci := by rw [hci]; exact cls _ (fun c i => eachAt_cl HF.out o x c i) _ _
          have hbi : Bd ci := HBA.out.mk' (k := 0) hcl.is
          rw [← hci] at G
          have hEi := HE1.out.turnK G
          have hk0 : Keep E.K.own w W1 := (HG.out.keepAll).trans (Keep.of_below HB1.out)
          have hki := hk0.trans' G.keepAll (fun k hk ho => by
            rcases HG.out.ownAll ho with y | y
            · exact y
            · omega)
          have hbe2 := hki.box HBE.out HNE.out
          have hbc2 := hki.box HBC.out HNC.out
          have hbc3 : Box wr bc [.pointer (some ⟨Ki.cp, 0, none⟩)] 59 := by rw [G.cp, HG.out.cp]; exact hbc2
          have hrd : wr.ownsRow 0 34 2 (.slice sa o.slots.length sc) o.slots.length (flatV o.slots) := row_of_base (ownsRow_of_block HROW.out fun k hk => G.keepAll.block k (HROW.out.lt k hk).2 fun ho => by
            have := (HROW.out.lt k hk).1
            have := HOWN.out _ ho
            omega) fun _ _ => Nat.zero_le _
          have HEI := Lib.hid hEi
          have HBI := Lib.hid hbi
          have HBE2 := Lib.hid hbe2
          have HBC2 := Lib.hid hbc3
          have HRD := Lib.hid hrd
          have HGI := Lib.hid G
          have HRS := Lib.hid (show (List.range' 1 (j + 1)).foldl (eachAt f o x) ca = eachAt f o x ci (j + 1) by rw [range'_snoc, List.foldl_append, ← hci]; rfl)
          have q0 : (j : Int) + 1 < o.slots.length := by omega
          clear hci hcl hbi hEi hk0 hki hbe2 hbc2 hbc3 hrd G ht3
          by_cases hA : (j : Int) < o.array
          · have z1 : decide ((j : Int) - o.array < 0) = true := decide_eq_true (by omega)
            have z2 : decide ((j : Int) < o.array) = true := decide_eq_true hA
            have HKA := Lib.hid (show keyAt o (j + 1) = some (-1) from by unfold keyAt; rw [if_pos (.inl (by omega))])
            clear hA
            have HDO2 := Lib.hid (HDO.out ci e.weak wr { E with K := Ki } o (.slice sa o.slots.length sc) x (j + 1) (-1) HEI.out HBI.out HBE2.out HBC2.out HRD.out (by omega) (by omega) HKA.out hn)
            unfold thingV at HDO2
            go_wp2_with fail
            refine HDO2.out.mono ?_
            rintro x8 w8 ⟨rfl, hT8⟩
            obtain ⟨K8, G8⟩ := HGI.out.to hT8
            have HG8 := Lib.hid (show CGo noQ W1 Ka w8 K8 ((List.range' 1 (j + 1)).foldl (eachAt f o x) ca) from by rw [HRS.out, show eachAt f o x ci (j + 1) = f ci o x (j + 1) (-1) from by unfold eachAt; rw [HKA.out]]; exact G8)
            clear hT8 G8
            go_wp2_with fail
            go_roundw
            case rel => exact ⟨j + 1, K8, by omega, by go_num, HG8.out⟩
            case measure => simp [intOf]; omega
          · have z1 : decide ((j : Int) - o.array < 0) = false := decide_eq_false (by omega)
            have z2 : decide ((j : Int) < o.array) = false := decide_eq_false hA
            have z7 : 0 ≤ (j : Int) - o.array := by omega
            by_cases hE : ((j : Int) - o.array) % 2 = 0
            · have z5 : (((j : Int) - o.array) % 2 == 0) = true := by rw [hE]; rfl
              have z8 : (((j : Int) - o.array) % 2 == 1) = false := by rw [hE]; rfl
              by_cases hZ : j + 1 + 1 = o.slots.length
              · have z6 : ((j : Int) + 1 == (o.slots.length : Int) - 1) = true := by simp; omega
                have HKA := Lib.hid (show keyAt o (j + 1) = some (-1) from by unfold keyAt; rw [if_pos (.inr ⟨by omega, hZ⟩)])
                clear hA hE hZ
                have HDO2 := Lib.hid (HDO.out ci e.weak wr { E with K := Ki } o (.slice sa o.slots.length sc) x (j + 1) (-1) HEI.out HBI.out HBE2.out HBC2.out HRD.out (by omega) (by omega) HKA.out hn)
                unfold thingV at HDO2
                go_wp2_with fail
                refine HDO2.out.mono ?_
                rintro x8 w8 ⟨rfl, hT8⟩
                obtain ⟨K8, G8⟩ := HGI.out.to hT8
                have HG8 := Lib.hid (show CGo noQ W1 Ka w8 K8 ((List.range' 1 (j + 1)).foldl (eachAt f o x) ca) from by rw [HRS.out, show eachAt f o x ci (j + 1) = f ci o x (j + 1) (-1) from by unfold eachAt; rw [HKA.out]]; exact G8)
                clear hT8 G8
                go_wp2_with fail
                go_roundw
                case rel => exact ⟨j + 1, K8, by omega, by go_num, HG8.out⟩
                case measure => simp [intOf]; omega
              · have z6 : ((j : Int) + 1 == (o.slots.length : Int) - 1) = false := by simp; omega
                have HKA := Lib.hid (show keyAt o (j + 1) = none from by unfold keyAt; rw [if_neg (by omega), if_neg (by omega)])
                clear hA hE hZ
                go_wp2_with fail
                go_roundw
                case rel => exact ⟨j + 1, Ki, by omega, by go_num, by rw [HRS.out]; unfold eachAt; rw [HKA.out]; exact HGI.out⟩
                case measure => simp [intOf]; omega
            · have hr9 : ((j : Int) - o.array) % 2 = 1 := by omega
              have z5 : (((j : Int) - o.array) % 2 == 0) = false := by rw [hr9]; rfl
              have z8 : (((j : Int) - o.array) % 2 == 1) = true := by rw [hr9]; rfl
              have HKA := Lib.hid (show keyAt o (j + 1) = some (j : Int) from by unfold keyAt; rw [if_neg (by omega), if_pos (by omega)]; congr 1; omega)
              clear hA hE hr9
              have HDO2 := Lib.hid (HDO.out ci e.weak wr { E with K := Ki } o (.slice sa o.slots.length sc) x (j + 1) (j : Int) HEI.out HBI.out HBE2.out HBC2.out HRD.out (by omega) (by omega) HKA.out hn)
              unfold thingV at HDO2
              go_wp2_with fail
              refine HDO2.out.mono ?_
              rintro x8 w8 ⟨rfl, hT8⟩
              obtain ⟨K8, G8⟩ := HGI.out.to hT8
              have HG8 := Lib.hid (show CGo noQ W1 Ka w8 K8 ((List.range' 1 (j + 1)).foldl (eachAt f o x) ca) from by rw [HRS.out, show eachAt f o x ci (j + 1) = f ci o x (j + 1) (j : Int) from by unfold eachAt; rw [HKA.out]]; exact G8)
              clear hT8 G8
              go_wp2_with fail
              go_roundw
              case rel => exact ⟨j + 1, K8, by omega, by go_num, HG8.out⟩
              case measure => simp [intOf]; omega
        · have q1 : (o.slots.length : Int) ≤ (j : Int) + 1 := by omega
          have hjj : j = o.slots.length - 1 := by omega
          have hE2 : each1 f ca x = (List.range' 1 j).foldl (eachAt f o x) ca := by
            unfold each1
            rw [← HO.out, ← hjj]
          obtain ⟨K9, G9⟩ := HG.out.to (CTo.ahead HB1.out HG.out.at_ ⟨Ki, G⟩)
          have HG9 := Lib.hid (show CGo noQ w E.K wr K9 ((wk.take (a + 1)).foldl (each1 f) e.c) from by rw [HTS.out, hE2]; exact G9)
          clear G hjj hE2 G9 ht3
          go_wp2_with fail
          go_roundw
          case rel => exact ⟨a + 1, K9, by omega, by go_num, HG9.out⟩
          case measure => simp [intOf]; omega
    · obtain rfl : a = wk.length := by omega
      have HR := Lib.hid (show UnitTo noQ w E.K (each f e.weak e.c) (.returned (.tuple #[])) wr from ⟨rfl, by rw [List.take_length, HWK.out] at G; exact ⟨Ka, G⟩⟩)
      clear G
      go_wp2_with fail
      first | go_end0 | refine bodyPost_ret (results_none rfl _ _ _) rfl ?_
      exact HR.out
set_option maxRecDepth 100000 in
set_option maxHeartbeats 8000000 in
theorem each_any2 {be bc : Nat} {f : EachF} (hf : EachCl f) (hdo : DoF 132 be bc f) (h : EAt w E e) (hB : Bd e.c) (hwl : e.weak.length ≤ 20000000) (hbe : Box w be [.pointer (some ⟨E.ep, 0, none⟩)] 152) (hbc : Box w bc [.pointer (some ⟨E.K.cp, 0, none⟩)] 59) (hne : ¬ E.own be) (hnc : ¬ E.own bc) :
    Calls Tryz.prog 128 #[.pointer (some ⟨E.ep, 0, none⟩), .func (.func 132) #[] #[.pointer (some ⟨be, 0, none⟩), .pointer (some ⟨bc, 0, none⟩)]] w fun x w' => UnitTo noQ w E.K (each f e.weak e.c) x w' := by
  have p0 := h.cells.1
  have p1 := h.cells.2
  obtain ⟨wa, wc, hwv⟩ := h.weak.slice
  rw [hwv] at p1
  have HH := Lib.hid h
  have HBD := Lib.hid hB
  have HWV := Lib.hid hwv
  have HBE := Lib.hid hbe
  have HBC := Lib.hid hbc
  have HNE := Lib.hid (fun h => hne (.inr (.inl h)) : ¬ E.K.own be)
  have HNC := Lib.hid (fun h => hnc (.inr (.inl h)) : ¬ E.K.own bc)
  have HDO := Lib.hid hdo
  have HF := Lib.hid hf
  obtain ⟨wk, hwk⟩ : ∃ wk, wk = e.weak := ⟨_, rfl⟩
  rw [← hwk] at p1 hwl
  have HWK := Lib.hid hwk
  clear h hB hwv hbe hbc hne hnc hdo hf hwk
  go_enter Tryz.func128, Tryz.ntmps128
  go_wp2_with fail
  go_loopw [14] (fun t14 wr => ∃ (a : Nat) (Ka : CL), a ≤ wk.length ∧ t14 = .int .i64 a ∧ CGo noQ w E.K wr Ka ((wk.take a).foldl (each1 f) e.c)) (fun t14 _ => wk.length - (intOf t14).toNat)
  case atStart => exact ⟨0, E.K, Nat.zero_le _, by go_num, CGo.self HH.out.at_⟩
  case round =>
    obtain ⟨a, Ka, ha, rfl, G⟩ := hrel
    by_cases hlt : a < wk.length
    · obtain ⟨x, hx⟩ : ∃ x, wk[a]? = some x := ⟨wk[a], List.getElem?_eq_getElem _⟩
      have hEa := HH.out.turnK G
      have hww : QAt wr E.wv wk := by rw [HWK.out]; exact hEa.weak
      obtain ⟨g, off, cap, hqg, hle, hmx, hcell⟩ := hww.get (by intro e; rw [e] at hlt; simp at hlt)
      rw [HWV.out, ← HWK.out] at hqg
      simp only [Value.slice.injEq] at hqg
      obtain ⟨rfl, -, rfl⟩ := hqg
      have y0 := hcell _ _ hx
      obtain ⟨ca, hca⟩ : ∃ ca, ca = (wk.take a).foldl (each1 f) e.c := ⟨_, rfl⟩
      have hcl : Cl e.c ca := by rw [hca]; exact each_cl HF.out _ _
      have hbd : Bd ca := HBD.out.mk' (k := 0) hcl.is
      rw [← hca] at G hEa
      have r0 := hEa.cells.1
      have c0 := G.at_.cells.1
      have r0' : wr.cell? ⟨E.ep, 0, none⟩ = some (.pointer (some ⟨E.K.cp, 0, none⟩)) := by rw [← G.cp]; exact r0
      rw [G.cp, G.p] at c0
      have HTH := Lib.hid (thing_any G.at_.mem hbd.sz.n x (at_small hbd.sz))
      rw [G.p] at HTH
      have hn := (get_small hbd.sz x).1
      have ha0 := (get_small hbd.sz x).2.1
      have ha1 := (get_small hbd.sz x).2.2
      obtain ⟨o, ho⟩ : ∃ o, o = ca.m.get x := ⟨_, rfl⟩
      rw [← ho] at HTH hn ha0 ha1
      have HO := Lib.hid ho
      have HTS := Lib.hid (show (wk.take (a + 1)).foldl (each1 f) e.c = each1 f ca x by rw [List.take_add_one, hx, List.foldl_append, ← hca]; rfl)
      have HG := Lib.hid G
      have HEA := Lib.hid hEa
      have HBA := Lib.hid hbd
      clear hx hww hcell hca hcl hbd G hEa ho r0
      go_wp2_with fail
      refine HTH.out.mono ?_
      rintro x2 w2 ⟨sv, rfl, hv, hb2⟩
      obtain ⟨sa, sc, rfl⟩ := row_slice hv
      unfold thingV
      obtain ⟨W1, hW1⟩ : ∃ W, W = w2.alloc (.cells #[.int .i64 o.kind, .int .i64 o.weak, .int .i64 o.array, .slice sa o.slots.length sc, .int .i64 o.fin] 36) := ⟨_, rfl⟩
      have hb1 : Below wr.heap.size wr W1 := by rw [hW1]; exact hb2.alloc hb2.size _
      have hbt : Box W1 w2.heap.size [.int .i64 o.kind, .int .i64 o.weak, .int .i64 o.array, .slice sa o.slots.length sc, .int .i64 o.fin] 36 := by rw [hW1]; exact Box.new w2 _ _
      have hrow : W1.ownsRow wr.heap.size 34 2 (.slice sa o.slots.length sc) o.slots.length (flatV o.slots) := by rw [hW1]; exact hv.alloc _
      have hE1 := HEA.out.below hb1
      have hszz := hb2.size
      have HROW := Lib.hid hrow
      have HBT := Lib.hid hbt
      have HE1 := Lib.hid hE1
      have HB1 := Lib.hid hb1
      have HW1 := Lib.hid hW1
      have hown : ∀ k, Ka.own k → k < wr.heap.size := fun k hk => HEA.out.at_.own_lt hk
      have HOWN := Lib.hid hown
      have HSZ := Lib.hid hszz
      clear hv hb2 hW1 hb1 hbt hrow hE1 hown hszz y0 r0' c0
      go_wp2_with fail
      rw [← HW1.out]
      go_loopw [7] (fun t7 wr => ∃ (i : Nat) (Ki : CL), i ≤ o.slots.length - 1 ∧ t7 = .int .i64 ((i : Int) + 1) ∧ CGo noQ W1 Ka wr Ki ((List.range' 1 i).foldl (eachAt f o x) ca)) (fun t7 _ => o.slots.length - (intOf t7).toNat)
      case atStart => exact ⟨0, Ka, Nat.zero_le _, by go_num, CGo.self HE1.out.at_⟩
      case round =>
        obtain ⟨j, Ki, hj, rfl, G⟩ := hrel
        have ht3 : Box wr w2.heap.size [.int .i64 o.kind, .int .i64 o.weak, .int .i64 o.array, .slice sa o.slots.length sc, .int .i64 o.fin] 36 := G.keepAll.box HBT.out fun hk => by have := HOWN.out _ hk; have := HSZ.out; omega
        have t0 := ht3.cell 0
        have t1 := ht3.cell 1
        have t2 := ht3.cell 2
        have t3 := ht3.cell 3
        have t4 := ht3.cell 4
        simp only [List.getElem?_cons_zero, List.getElem?_cons_succ] at t0 t1 t2 t3 t4
        by_cases hjl : j + 1 < o.slots.length
        · obtain ⟨ci, hci⟩ : ∃ ci, ci = (List.range' 1 j).foldl (eachAt f o x) ca := ⟨_, rfl⟩
          have hcl : Cl ca ci := by rw [hci]; exact cls _ (fun c i => eachAt_cl HF.out o x c i) _ _
          have hbi : Bd ci := HBA.out.mk' (k := 0) hcl.is
          rw [← hci] at G
          have hEi := HE1.out.turnK G
          have hk0 : Keep E.K.own w W1 := (HG.out.keepAll).trans (Keep.of_below HB1.out)
          have hki := hk0.trans' G.keepAll (fun k hk ho => by
            rcases HG.out.ownAll ho with y | y
            · exact y
            · omega)
          have hbe2 := hki.box HBE.out HNE.out
          have hbc2 := hki.box HBC.out HNC.out
          have hbc3 : Box wr bc [.pointer (some ⟨Ki.cp, 0, none⟩)] 59 := by rw [G.cp, HG.out.cp]; exact hbc2
          have hrd : wr.ownsRow 0 34 2 (.slice sa o.slots.length sc) o.slots.length (flatV o.slots) := row_of_base (ownsRow_of_block HROW.out fun k hk => G.keepAll.block k (HROW.out.lt k hk).2 fun ho => by
            have := (HROW.out.lt k hk).1
            have := HOWN.out _ ho
            omega) fun _ _ => Nat.zero_le _
          have HEI := Lib.hid hEi
          have HBI := Lib.hid hbi
          have HBE2 := Lib.hid hbe2
          have HBC2 := Lib.hid hbc3
          have HRD := Lib.hid hrd
          have HGI := Lib.hid G
          have HRS := Lib.hid (show (List.range' 1 (j + 1)).foldl (eachAt f o x) ca = eachAt f o x ci (j + 1) by rw [range'_snoc, List.foldl_append, ← hci]; rfl)
          have q0 : (j : Int) + 1 < o.slots.length := by omega
          clear hci hcl hbi hEi hk0 hki hbe2 hbc2 hbc3 hrd G ht3
          by_cases hA : (j : Int) < o.array
          · have z1 : decide ((j : Int) - o.array < 0) = true := decide_eq_true (by omega)
            have z2 : decide ((j : Int) < o.array) = true := decide_eq_true hA
            have HKA := Lib.hid (show keyAt o (j + 1) = some (-1) from by unfold keyAt; rw [if_pos (.inl (by omega))])
            clear hA
            have HDO2 := Lib.hid (HDO.out ci e.weak wr { E with K := Ki } o (.slice sa o.slots.length sc) x (j + 1) (-1) HEI.out HBI.out HBE2.out HBC2.out HRD.out (by omega) (by omega) HKA.out hn)
            unfold thingV at HDO2
            go_wp2_with fail
            refine HDO2.out.mono ?_
            rintro x8 w8 ⟨rfl, hT8⟩
            obtain ⟨K8, G8⟩ := HGI.out.to hT8
            have HG8 := Lib.hid (show CGo noQ W1 Ka w8 K8 ((List.range' 1 (j + 1)).foldl (eachAt f o x) ca) from by rw [HRS.out, show eachAt f o x ci (j + 1) = f ci o x (j + 1) (-1) from by unfold eachAt; rw [HKA.out]]; exact G8)
            clear hT8 G8
            go_wp2_with fail
            go_roundw
            case rel => exact ⟨j + 1, K8, by omega, by go_num, HG8.out⟩
            case measure => simp [intOf]; omega
          · have z1 : decide ((j : Int) - o.array < 0) = false := decide_eq_false (by omega)
            have z2 : decide ((j : Int) < o.array) = false := decide_eq_false hA
            have z7 : 0 ≤ (j : Int) - o.array := by omega
            by_cases hE : ((j : Int) - o.array) % 2 = 0
            · have z5 : (((j : Int) - o.array) % 2 == 0) = true := by rw [hE]; rfl
              have z8 : (((j : Int) - o.array) % 2 == 1) = false := by rw [hE]; rfl
              by_cases hZ : j + 1 + 1 = o.slots.length
              · have z6 : ((j : Int) + 1 == (o.slots.length : Int) - 1) = true := by simp; omega
                have HKA := Lib.hid (show keyAt o (j + 1) = some (-1) from by unfold keyAt; rw [if_pos (.inr ⟨by omega, hZ⟩)])
                clear hA hE hZ
                have HDO2 := Lib.hid (HDO.out ci e.weak wr { E with K := Ki } o (.slice sa o.slots.length sc) x (j + 1) (-1) HEI.out HBI.out HBE2.out HBC2.out HRD.out (by omega) (by omega) HKA.out hn)
                unfold thingV at HDO2
                go_wp2_with fail
                refine HDO2.out.mono ?_
                rintro x8 w8 ⟨rfl, hT8⟩
                obtain ⟨K8, G8⟩ := HGI.out.to hT8
                have HG8 := Lib.hid (show CGo noQ W1 Ka w8 K8 ((List.range' 1 (j + 1)).foldl (eachAt f o x) ca) from by rw [HRS.out, show eachAt f o x ci (j + 1) = f ci o x (j + 1) (-1) from by unfold eachAt; rw [HKA.out]]; exact G8)
                clear hT8 G8
                go_wp2_with fail
                go_roundw
                case rel => exact ⟨j + 1, K8, by omega, by go_num, HG8.out⟩
                case measure => simp [intOf]; omega
              · have z6 : ((j : Int) + 1 == (o.slots.length : Int) - 1) = false := by simp; omega
                have HKA := Lib.hid (show keyAt o (j + 1) = none from by unfold keyAt; rw [if_neg (by omega), if_neg (by omega)])
                clear hA hE hZ
                go_wp2_with fail
                go_roundw
                case rel => exact ⟨j + 1, Ki, by omega, by go_num, by rw [HRS.out]; unfold eachAt; rw [HKA.out]; exact HGI.out⟩
                case measure => simp [intOf]; omega
            · have hr9 : ((j : Int) - o.array) % 2 = 1 := by omega
              have z5 : (((j : Int) - o.array) % 2 == 0) = false := by rw [hr9]; rfl
              have z8 : (((j : Int) - o.array) % 2 == 1) = true := by rw [hr9]; rfl
              have HKA := Lib.hid (show keyAt o (j + 1) = some (j : Int) from by unfold keyAt; rw [if_neg (by omega), if_pos (by omega)]; congr 1; omega)
              clear hA hE hr9
              have HDO2 := Lib.hid (HDO.out ci e.weak wr { E with K := Ki } o (.slice sa o.slots.length sc) x (j + 1) (j : Int) HEI.out HBI.out HBE2.out HBC2.out HRD.out (by omega) (by omega) HKA.out hn)
              unfold thingV at HDO2
              go_wp2_with fail
              refine HDO2.out.mono ?_
              rintro x8 w8 ⟨rfl, hT8⟩
              obtain ⟨K8, G8⟩ := HGI.out.to hT8
              have HG8 := Lib.hid (show CGo noQ W1 Ka w8 K8 ((List.range' 1 (j + 1)).foldl (eachAt f o x) ca) from by rw [HRS.out, show eachAt f o x ci (j + 1) = f ci o x (j + 1) (j : Int) from by unfold eachAt; rw [HKA.out]]; exact G8)
              clear hT8 G8
              go_wp2_with fail
              go_roundw
              case rel => exact ⟨j + 1, K8, by omega, by go_num, HG8.out⟩
              case measure => simp [intOf]; omega
        · have q1 : (o.slots.length : Int) ≤ (j : Int) + 1 := by omega
          have hjj : j = o.slots.length - 1 := by omega
          have hE2 : each1 f ca x = (List.range' 1 j).foldl (eachAt f o x) ca := by
            unfold each1
            rw [← HO.out, ← hjj]
          obtain ⟨K9, G9⟩ := HG.out.to (CTo.ahead HB1.out HG.out.at_ ⟨Ki, G⟩)
          have HG9 := Lib.hid (show CGo noQ w E.K wr K9 ((wk.take (a + 1)).foldl (each1 f) e.c) from by rw [HTS.out, hE2]; exact G9)
          clear G hjj hE2 G9 ht3
          go_wp2_with fail
          go_roundw
          case rel => exact ⟨a + 1, K9, by omega, by go_num, HG9.out⟩
          case measure => simp [intOf]; omega
    · obtain rfl : a = wk.length := by omega
      have HR := Lib.hid (show UnitTo noQ w E.K (each f e.weak e.c) (.returned (.tuple #[])) wr from ⟨rfl, by rw [List.take_length, HWK.out] at G; exact ⟨Ka, G⟩⟩)
      clear G
      go_wp2_with fail
      first | go_end0 | refine bodyPost_ret (results_none rfl _ _ _) rfl ?_
      exact HR.out
end Go.Proofs.YtminbemdcanakaaGreat
