/- ArenaGrows: a block that is made longer, or shorter, keeps its handle and what it had: the law returns true for every size, list of calls, block and length. -/
import Derived.Test.YtpaopcnbgdlgnaaRows
import Derived.Test.YtpaopcnbgdlgnaaGrowP
namespace Go.Proofs.Ytpaopcnbgdlgnaa.arenaGrows
open Go.ChangeShapes Go.WideShapes Go.ChangeAt Go.RowKit
set_option linter.unusedVariables false
set_option linter.unusedSimpArgs false

theorem own : ownKnob Try.prog.godebug = none := by kernel_rfl

theorem Try.laidOut : laidOutB Try.prog = true := by kernel_rfl

theorem found {S : St} (hS : Inv S) (h : Int) : ∃ xs : List Int, (findR S.L h).2.1 = (xs.length : Int) ∧ xs.length ≤ 65536 ∧ (∀ i, i < xs.length → ∃ x, xs[i]? = some x ∧ loadR S h i = (x, 0)) ∧
    ((getB h S.L = none ∧ xs.length = 0) ∨ (∃ b, getB h S.L = some b ∧ Cont S h xs ∧ xs.length = b.n ∧ 1 ≤ b.n)) := by
  cases hf : getB h S.L with
  | none => exact ⟨[], by unfold findR; rw [hf]; rfl, by simp, fun i hi => by simp at hi, .inl ⟨rfl, rfl⟩⟩
  | some b =>
    have hb := hS.get hf
    obtain ⟨xs, hc, hl⟩ := cont_of hS hf
    refine ⟨xs, by unfold findR; rw [hf]; simp only; omega, by omega, fun i hi => ?_, .inr ⟨b, rfl, hc, hl, hb.1⟩⟩
    exact ⟨xs[i], List.getElem?_eq_getElem hi, hc.load (List.getElem?_eq_getElem hi)⟩

def Growing (X : Nat → Prop) (w : World) (p : Nat) (S : St) (g : Nat) (cs : List Value) (wr : World) : Prop := Has X w wr p S ∧ wr.heap[g]? = some (.cells cs.toArray 2 (0, 0))

set_option maxHeartbeats 1000000 in
theorem walk (a0 : Int) (A : Option Addr) (l : List ActV) (c : Nat) (h n : Int) (w : World) (hl : Lst w w.heap.size A l) (hlen : l.length ≤ maxLen) :
    Calls Try.prog 4 #[.int .i64 a0, .slice A l.length c, .int .i64 h, .int .i64 n] w fun e w' => e = .returned (.bool true) ∧ Below w.heap.size w w' := by
  have M := Lib.hid (made_ok a0 A l c w hl hlen)
  obtain ⟨i0, hi0, hz0, hz1, hz2⟩ := info_parts Try.infoN2
  clear hl hlen
  go_enter Try.func4, Try.ntmps4
  go_wp2_with fail
  refine M.out.mono ?_
  clear M
  rintro e w1 (⟨rfl, hb⟩ | ⟨p, S, rfl, H, hS⟩)
  · go_wp2_with fail
    refine (alive_any _).mono ?_
    rintro e wa ⟨rfl, hba⟩
    have HF := Lib.hid ((hb).trans (hba.mono (hb).size))
    go_wp2_with fail
    go_ret
    exact ⟨rfl, HF.out⟩
  clear hS
  obtain ⟨xs, hk, hk6, hld, hcs⟩ := found H.inv h
  obtain ⟨K, hK⟩ : ∃ K, K = xs.length := ⟨_, rfl⟩
  rw [← hK] at hk hk6 hld
  have LN := has_len H h
  rw [hk] at LN
  have HK := Lib.hid hK
  have HLD := Lib.hid hld
  have HCS := Lib.hid hcs
  have HI := H.inv
  clear hk hld hcs hK
  go_wp2_with fail
  refine LN.mono ?_
  clear LN H
  rintro e w2 ⟨rfl, H, -⟩
  have HO := H.toOld
  have h02 := H.old
  clear H
  go_wp2_with fail
  go_loopw [11, 12] (fun out t wr => ∃ i : Nat, i ≤ K ∧ t = .int .i64 i ∧ wr.ownsRow w2.heap.size 2 1 out i ((xs.take i).map iv) ∧ Below w2.heap.size w2 wr) (fun _ t _ => K - (intOf t).toNat)
  case atStart => exact ⟨0, Nat.zero_le _, by go_num, World.ownsRow_nil _ _ _ _, Below.refl _ _⟩
  case round =>
    obtain ⟨i, hi, rfl, hown, hB⟩ := hrel
    obtain ⟨o0, oc, rfl⟩ := row_shape hown
    by_cases hlt : i < K
    · obtain ⟨x, hx, hl⟩ := HLD.out i hlt
      have H1 := HO.below (Nat.le_refl _) hB (h02.trans (hB.mono h02.size))
      have LD := old_load H1 h i
      rw [hl] at LD
      simp only at LD
      have HX := Lib.hid hx
      clear hl hx H1
      go_wp2_with fail
      refine LD.mono ?_
      clear LD
      rintro e w3 ⟨rfl, hb3⟩
      have hown3 := row_below hown hb3
      have hB3 := hB.trans (hb3.mono hB.size)
      have hBs := hB3.size
      have HOWNLT := Lib.hid (fun j hj => (hown3.lt j hj).1)
      clear hown hB hb3
      go_wp2_with (at_builtin; refine wpList_append_own _ rfl _ _ 38 rfl w2.heap.size 2 i0 (.int .i64 0) 1 8 Try.underlying38 hi0 hz0 hz1 hz2 rfl (by decide) _ _ _ rfl (hown3.alloc _) _ _ _ [.int .i64 x] rfl rfl ?_ ?_ ?_ ?_ ?_ ?_)
      · exact cell_new1 w3 (.int .i64 x) 2
      · intro u hu; simp at hu; subst hu; rfl
      · unfold maxLen; omega
      · omega
      · simp; omega
      intro v' w4 hown4 hg4 _
      go_wp2_with fail
      go_roundw
      case rel =>
        refine ⟨i + 1, by omega, by go_num, ?_, ?_⟩
        · have e1 : (xs.take (i + 1)).map iv = (xs.take i).map iv ++ [.int .i64 x] := by rw [List.take_add_one, HX.out]; simp [iv]
          rw [e1, List.map_take]; exact hown4
        · exact (hB3.alloc hBs _).grown hg4 (by simp; omega) HOWNLT.out
      case measure => simp [intOf]; omega
    · obtain rfl : i = K := by omega
      rw [HK.out, List.take_length, ← HK.out] at hown
      have HOWN := Lib.hid hown
      have H1 := (HO.below (Nat.le_refl _) hB (h02.trans (hB.mono h02.size))).toHas
      have HY := Lib.hid (fun g (h1 : w2.heap.size ≤ g) (h2 : g < wr.heap.size) => (⟨h1, h2⟩ : w2.heap.size ≤ g ∧ g < wr.heap.size))
      clear hB hown HO h02
      obtain ⟨X, hX⟩ : ∃ X : Nat → Prop, X = fun k => w2.heap.size ≤ k ∧ k < wr.heap.size := ⟨_, rfl⟩
      rw [← hX] at H1
      have HXX := Lib.hid hX
      clear hX
      have AD := has_addr H1 h
      have RS := resize_cases HI h n
      have RC := has_resize H1 h n
      rcases HCS.out with ⟨hg0, hz⟩ | ⟨b, hg0, hcont, hlb, hb1⟩
      · have hi0' : i = 0 := by rw [HK.out, hz]
        subst hi0'
        rcases RS with ⟨_, e1, e2⟩ | ⟨b, hb, _⟩
        · have hA : addrR S.L h = -1 := by unfold addrR findR; rw [hg0]; rfl
          rw [hA] at AD
          rw [e1] at RC
          have AD' := fun W (hW : Has X w W p S) => has_resize hW h n
          rw [e1] at AD'
          clear hA e1 e2 RC hg0 hz
          go_wp2_with fail
          refine AD.mono ?_
          clear AD
          rintro e w3 ⟨rfl, H3, -⟩
          go_wp2_with fail
          refine (AD' _ H3).mono ?_
          clear AD'
          rintro e w4 ⟨rfl, H4, -⟩
          go_wp2_with fail
          refine (no_any 5 _).mono ?_
          rintro e wn ⟨rfl, rfl⟩
          go_wp2_with fail
          refine (alive_any _).mono ?_
          rintro e wa ⟨rfl, hba⟩
          have HF := Lib.hid ((H4.old).trans (hba.mono (H4.old).size))
          go_wp2_with fail
          go_ret
          exact ⟨rfl, HF.out⟩
        · rw [hg0] at hb; simp at hb
      · have hA : addrR S.L h = b.a := by unfold addrR findR; rw [hg0]; rfl
        have hi1 : 1 ≤ i := by rw [HK.out, hlb]; exact hb1
        have hib : i = b.n := by rw [HK.out, hlb]
        have HIB := Lib.hid hib
        rw [hA] at AD
        have AD' := Lib.hid (fun W (hW : Has X w W p S) => has_resize hW h n)
        have LN' := Lib.hid (fun W (hW : Has X w W p S) => has_len hW h)
        have AA' := Lib.hid (fun W (hW : Has X w W p S) => has_addr hW h)
        have HG0 := Lib.hid hg0
        have HA := Lib.hid hA
        have HC := Lib.hid hcont
        obtain ⟨g, oc', spare, hv, hn', hgg, hg1, hg2⟩ := row_open' HOWN.out (by intro h0; have := congrArg List.length h0; simp at this; rw [this] at hlb; simp at hlb; omega)
        have hov := Value.slice.inj hv
        obtain ⟨rfl, -, rfl⟩ := hov
        have HGG := Lib.hid hgg
        have HXg := Lib.hid (show X g from by rw [HXX.out]; exact ⟨hg1, hg2⟩)
        clear RC hg0 hA hcont hlb hv hn' hgg hg1 hg2 hib
        rcases RS with ⟨hb, _⟩ | ⟨b0, hb0, hrs⟩
        · rw [HG0.out] at hb; simp at hb
        · rw [HG0.out] at hb0
          cases hb0
          rcases hrs with ⟨e1, e2⟩ | ⟨m, b', rfl, hm1, hm2, e1, hg', hbn, hba, hC'⟩
          · have HE2 := Lib.hid e2
            have hfl : (findR S.L h).2.1 = (i : Int) := by unfold findR; rw [HG0.out, HIB.out]
            have HFL := Lib.hid hfl
            clear e2 hfl
            rcases e1 with e1 | e1
            all_goals
              have HE1 := Lib.hid e1
              clear e1
              go_wp2_with fail
              refine AD.mono ?_
              clear AD
              rintro e w3 ⟨rfl, H3, -⟩
              have RC := AD'.out _ H3
              rw [HE1.out, HE2.out] at RC
              go_wp2_with fail
              refine RC.mono ?_
              clear RC
              rintro e w4 ⟨rfl, H4, -⟩
              have L4 := LN'.out _ H4
              rw [HFL.out] at L4
              have A5 := AA'.out
              rw [HA.out] at A5
              have HA5 := Lib.hid A5
              clear A5
              repeat (go_wp2_with fail; (first | (refine (no_any 1 _).mono ?_) | (refine (no_any 8 _).mono ?_)); rintro e wn ⟨rfl, rfl⟩)
              go_wp2_with fail
              refine L4.mono ?_
              clear L4
              rintro e w5 ⟨rfl, H5, -⟩
              go_wp2_with fail
              refine (HA5.out _ H5).mono ?_
              rintro e w6 ⟨rfl, H6, -⟩
              go_wp2_with fail
              refine (alive_any _).mono ?_
              rintro e wa ⟨rfl, hba⟩
              have HF := Lib.hid ((H6.old).trans (hba.mono (H6.old).size))
              go_wp2_with fail
              go_ret
              exact ⟨rfl, HF.out⟩
          · have HE1 := Lib.hid e1
            have HC' := Lib.hid (hC' _ HC.out)
            have hfl : findR (resizeS S h m).L h = ((b'.a : Int), (m : Int), (0 : Int)) := by unfold findR; rw [hg']; simp only; rw [hbn]
            have hal : addrR (resizeS S h m).L h = b'.a := by unfold addrR; rw [hfl]; rfl
            have HFL := Lib.hid hfl
            have HAL := Lib.hid hal
            have hcond : ¬ (b.a < b'.a ∧ m ≤ i) := by
              rintro ⟨h1, h2⟩
              rw [HIB.out] at h2
              have := hba h2
              omega
            have HCO := Lib.hid hcond
            clear e1 hg' hbn hba hC' hfl hal hcond
            go_wp2_with fail
            refine AD.mono ?_
            clear AD
            rintro e w3 ⟨rfl, H3, s3⟩
            have RC := AD'.out _ H3
            rw [HE1.out] at RC
            go_wp2_with fail
            refine RC.mono ?_
            clear RC
            rintro e w4 ⟨rfl, H4, s4⟩
            have s34 := s3.trans s4
            clear s3 s4
            go_wp2_with fail
            refine (no_any 0 _).mono ?_
            rintro e wn ⟨rfl, rfl⟩
            go_wp2_with fail
            have L4 := has_len H4 h
            rw [HFL.out] at L4
            simp only at L4
            refine L4.mono ?_
            clear L4
            rintro e w5 ⟨rfl, H5, s5⟩
            have s35 := s34.trans s5
            clear s34 s5
            have A5 := has_addr H5 h
            rw [HAL.out] at A5
            go_wp2_with fail
            refine A5.mono ?_
            clear A5
            rintro e w6 ⟨rfl, H6, s6⟩
            have s36 := s35.trans s6
            have hg6 : w6.heap[g]? = _ := (s36 g HXg.out).trans HGG.out
            have HG6 := Lib.hid hg6
            clear s35 s6 s36 hg6
            have G0 : Growing X w p (resizeS S h m) g (xs.map iv ++ spare) w6 := ⟨H6, HG6.out⟩
            clear H6 HG6 H3 H4 H5 H1
            rcases (show ¬ b.a < b'.a ∨ (b.a < b'.a ∧ ¬ m ≤ i) from by have := HCO.out; omega) with h1 | ⟨h1, h2⟩
            all_goals go_wp2_with fail
            all_goals
              go_loopw [17] (fun t wr => ∃ j : Nat, j ≤ m ∧ t = .int .i64 j ∧ Growing X w p (resizeS S h m) g (xs.map iv ++ spare) wr) (fun t _ => m - (intOf t).toNat)
              case atStart => exact ⟨0, Nat.zero_le _, by go_num, G0⟩
              case round =>
                clear G0
                obtain ⟨j, hj, rfl, hG⟩ := hrel
                by_cases hjm : j < m
                · obtain ⟨H7, hgg7⟩ := hG
                  have LD := has_load H7 h j
                  have hxj : ((List.range m).map fun i => xs.getD i 0)[j]? = some (xs.getD j 0) := by rw [List.getElem?_map, List.getElem?_range hjm]; rfl
                  rw [HC'.out.load hxj] at LD
                  simp only at LD
                  have HGG7 := Lib.hid hgg7
                  clear hxj hgg7
                  go_wp2_with fail
                  refine LD.mono ?_
                  clear LD
                  rintro e w8 ⟨rfl, H8, s8⟩
                  have hg8 := (s8 g HXg.out).trans HGG7.out
                  have G1 := Lib.hid (show Growing X w p (resizeS S h m) g (xs.map iv ++ spare) w8 from ⟨H8, hg8⟩)
                  by_cases hji : j < i
                  · have hcell : w8.cell? ⟨g, j, none⟩ = some (.int .i64 (xs.getD j 0)) := by
                      rw [cell_of_list hg8, List.getElem?_append_left (by rw [List.length_map, ← HK.out]; exact hji), List.getElem?_map, List.getD_eq_getElem?_getD, List.getElem?_eq_getElem (by rw [← HK.out]; exact hji)]; rfl
                    obtain ⟨y, hy⟩ : ∃ y, y = xs.getD j 0 := ⟨_, rfl⟩
                    rw [← hy] at hcell ⊢
                    clear hg8 H8 H7 hy s8
                    go_wp2_with fail
                    refine (no_any 0 _).mono ?_
                    rintro e wn ⟨rfl, rfl⟩
                    go_wp2_with fail
                    go_roundw
                    case rel => exact ⟨j + 1, by omega, by go_num, G1.out⟩
                    case measure => simp [intOf]; omega
                  · have hy : xs.getD j 0 = 0 := by rw [List.getD_eq_getElem?_getD, List.getElem?_eq_none (by rw [← HK.out]; omega)]; rfl
                    rw [hy]
                    clear hg8 H8 H7 hy s8
                    go_wp2_with fail
                    refine (no_any 0 _).mono ?_
                    rintro e wn ⟨rfl, rfl⟩
                    go_wp2_with fail
                    go_roundw
                    case rel => exact ⟨j + 1, by omega, by go_num, G1.out⟩
                    case measure => simp [intOf]; omega
                · obtain rfl : j = m := by omega
                  obtain ⟨H7, -⟩ := hG
                  go_wp2_with fail
                  refine (alive_any _).mono ?_
                  rintro e wa ⟨rfl, hba⟩
                  have HF := Lib.hid ((H7.old).trans (hba.mono (H7.old).size))
                  go_wp2_with fail
                  go_ret
                  exact ⟨rfl, HF.out⟩

set_option maxRecDepth 100000 in
theorem lifted (os : Os) (started : os.Started) (H : Type) (enc : TypeId × Value → H) :
    ReturnsInHanded {} Try.checked os 4 .any (Rows.arenaGrowsSpec.pre6 enc Try.prog Try.f4 Rows.arenaGrowsRow.domain false) (Rows.arenaGrowsSpec.post enc Try.prog Try.f4 false true false false) := by
  refine returnsInHanded_of_change (C := Try.checked) own started (by kernel_rfl) Try.func4
    (ChangeSpec.witness6 (enc := enc) (C := Try.checked) false ⟨#[], #[.int .i64 0, .slice none 0 0, .int .i64 0, .int .i64 0], []⟩ 8 (by kernel_rfl) (by kernel_rfl) (by kernel_rfl) (by kernel_rfl)) ?_
  intro W base args ds gs before hval0 hW hcnd _
  have hval : ∀ (j : Nat) t v, Try.f4.params[j]? = some t → args[j]? = some v → Value.okWide Try.prog W .any base t v := hval0
  have hW' := hW
  obtain ⟨p, q, hA0, hV, rfl, hfz, hnd⟩ := hW
  have hA : DataW.TrodAll enc Try.prog W 0 (fun _ => true) true Try.f4.params.toList args.toList ds p := hA0
  rw [Try.params4] at hA hval
  obtain ⟨v0, vs0, d0, ds0, p0, q0, hargs, rfl, rfl, h0, r0⟩ := trodAll_cons hA
  obtain ⟨v1, vs1, d1, ds1, p1, q1, rfl, rfl, rfl, h1, r1⟩ := trodAll_cons r0
  obtain ⟨v2, vs2, d2, ds2, p2, q2, rfl, rfl, rfl, h2, r2⟩ := trodAll_cons r1
  obtain ⟨v3, vs3, d3, ds3, p3, q3, rfl, rfl, rfl, h3, r3⟩ := trodAll_cons r2
  obtain ⟨rfl, rfl, rfl⟩ := trodAll_nil r3
  obtain rfl : args = #[v0, v1, v2, v3] := by cases args; simp_all
  obtain ⟨rfl, rfl⟩ := trodVars_none hV
  simp only [List.append_nil] at hW'
  obtain ⟨a0, rfl, rfl, rfl, w0⟩ := open_int Try.underlying3 (hval 0 3 v0 rfl rfl) h0
  have h1k := h1
  obtain ⟨x1, y1, z1, rfl⟩ := okWide_slice Try.underlying22 (hval 1 22 v1 rfl rfl)
  obtain ⟨fuel1, hf1⟩ := h1
  obtain ⟨A1, l1, c1, hcs1, hl1, hlen1⟩ := open_acts hf1
  simp only [Value.cells, List.cons.injEq, and_true, Value.slice.injEq] at hcs1
  obtain ⟨rfl, rfl, rfl⟩ := hcs1
  obtain ⟨a2, rfl, rfl, rfl, w2⟩ := open_int Try.underlying3 (hval 2 3 v2 rfl rfl) h2
  obtain ⟨a3, rfl, rfl, rfl, w3⟩ := open_int Try.underlying3 (hval 3 3 v3 rfl rfl) h3
  clear hA0 hval0
  simp only [List.append_nil] at hW'
  refine (walk a0 x1 l1 z1 a2 a3 W hl1 hlen1).mono fun e W' ⟨he, hg⟩ => ?_
  subst he
  exact ⟨_, rfl, _, _, _, [], _, [], hW', (trodAll_cons_mk (shut_bool Try.underlying4 _) trodAll_mk0), (trodAll_cons_mk (shut_int Try.underlying3 w0) (trodAll_cons_mk (Below.trod Try.laidOut (by kernel_rfl) (of_decide_eq_true (by kernel_rfl)) h1k hg (fun x hx => by have := hW'.lt x (by simp [hx]); simpa using this)) (trodAll_cons_mk (shut_int Try.underlying3 w2) (trodAll_cons_mk (shut_int Try.underlying3 w3) trodAll_mk0)))), rfl,
    hg.frame _, fun h => by cases h⟩

theorem over : Rows.arenaGrowsRow.holds Try.pinned (OpenSpec.ofChange Rows.arenaGrowsSpec) :=
  OpenClaim.holds_of_wide 4 Try.f4 rfl rfl rfl rfl rfl rfl rfl ⟨rfl, rfl, rfl, rfl, rfl⟩ rfl rfl rfl rfl rfl (by kernel_rfl) Try.func4 (by kernel_rfl)
    (of_decide_eq_true (by kernel_rfl)) (by unfold Func.isWrapper; first | (rw [if_pos (by decide +kernel)]; kernel_rfl) | (rw [if_neg (by decide +kernel)]; exact ⟨rfl, rfl⟩))
    (fun os started H enc _ => lifted os started H enc)

theorem proved : Rows.ArenaGrowsSaid :=
  over
#print axioms proved
end Go.Proofs.Ytpaopcnbgdlgnaa.arenaGrows
