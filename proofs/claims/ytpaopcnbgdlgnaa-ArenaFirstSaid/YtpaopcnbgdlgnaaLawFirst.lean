/- ArenaFirst: a block comes to lie at the lowest place that there is, with the least handle, and its cells are 0: the law returns true for every size, list of calls and length. -/
import Derived.Test.YtpaopcnbgdlgnaaRows
import Derived.Test.YtpaopcnbgdlgnaaFirstP
import Derived.Deep.RegionHeld3
import Derived.Deep.DeepCutAuto
namespace Go.Proofs.Ytpaopcnbgdlgnaa.arenaFirst
open Go.ChangeShapes Go.WideShapes Go.ChangeAt Go.RowKit
set_option linter.unusedVariables false
set_option linter.unusedSimpArgs false

theorem own : ownKnob Try.prog.godebug = none := by kernel_rfl

theorem Try.laidOut : laidOutB Try.prog = true := by kernel_rfl

theorem alloc_parts {S : St} (hS : Inv S) (n : Int) :
    ((allocR S n = (0, 1) ∨ allocR S n = (0, 8)) ∧ allocS S n = S) ∨ ∃ (m k : Nat) (r : Run), n = m ∧ 1 ≤ m ∧ m ≤ 65536 ∧ allocR S n = ((k : Int), 0) ∧ Cont (allocS S n) k (List.replicate m 0) ∧ addrR (allocS S n).L k = r.a ∧
      (∀ j : Nat, j ≠ k → getB j (allocS S n).L = getB j S.L) ∧ getB k S.L = none ∧ 1 ≤ k ∧ k ≤ 70000 ∧ (∀ j : Nat, 1 ≤ j → j < k → (getB j S.L).isSome = true) ∧ (r.a = 0 ∨ endsAt S.L r.a (hsTo S.L 70000) = 1) := by
  by_cases hn : n < 1 ∨ 65536 < n
  · left
    unfold allocR allocS
    rw [if_pos hn, if_pos hn]
    exact ⟨.inl rfl, rfl⟩
  · obtain ⟨m, rfl⟩ := Int.eq_ofNat_of_zero_le (show 0 ≤ n by omega)
    rcases alloc_cases hS (m := m) (by omega) (by omega) with ⟨_, h1, h2⟩ | ⟨_, h1, r, hr, _, _, h3, _, h2⟩
    · exact .inl ⟨.inr h1, h2⟩
    · have hg : ∀ j : Int, getB j (allocS S m).L = if ((leastH S.L : Nat) : Int) = j then some ⟨leastH S.L, r.a, m⟩ else getB j S.L := by
        intro j; rw [h2]; exact getB_ins (b := ⟨leastH S.L, r.a, m⟩) (leastH_spec S.L).2.2.1
      refine .inr ⟨m, leastH S.L, r, rfl, by omega, by omega, h1, ?_, ?_, ?_, (leastH_spec S.L).2.2.1, (leastH_spec S.L).1, leastH_le hS, (leastH_spec S.L).2.2.2, ?_⟩
      · refine ⟨⟨leastH S.L, r.a, m⟩, by rw [hg, if_pos rfl], by simp, fun j x hj => ?_⟩
        rw [h2]
        show (layCells _ _ _)[r.a + j]? = _
        rw [lay_in (by omega) (List.getElem?_eq_some_iff.1 hj).1]
        exact hj
      · unfold addrR findR; rw [hg, if_pos rfl]; rfl
      · intro j hj; rw [hg, if_neg (by omega)]
      · by_cases h0 : r.a = 0
        · exact .inl h0
        · exact .inr (ends_one hS hr h0)

set_option maxHeartbeats 1000000 in
theorem walk (a0 : Int) (A : Option Addr) (l : List ActV) (c : Nat) (n : Int) (w : World) (hl : Lst w w.heap.size A l) (hlen : l.length ≤ maxLen) :
    Calls Try.prog 6 #[.int .i64 a0, .slice A l.length c, .int .i64 n] w fun e w' => e = .returned (.bool true) ∧ Below w.heap.size w w' := by
  have M := Lib.hid (made_ok a0 A l c w hl hlen)
  clear hl hlen
  go_enter Try.func6, Try.ntmps6
  go_wp2_with fail
  refine M.out.mono ?_
  clear M
  rintro e w1 (⟨rfl, hb⟩ | ⟨p, S, rfl, H, hS⟩)
  · go_wp2_with fail
    refine (alive_any _).mono ?_
    rintro e wa ⟨rfl, hba⟩
    have HF := Lib.hid ((hb).trans (hba.mono (hb).size))
    go_wp2_with fail
    go_ret
    exact ⟨rfl, HF.out⟩
  clear hS
  have HI := H.inv
  have HHL := hsTo_len HI
  have HLL := HI.length
  have HLS := HI.size
  have HW := handles_row H
  obtain ⟨hsI, hhs⟩ : ∃ hsI : List Int, hsI = (hsTo S.L 70000).map fun h : Nat => (h : Int) := ⟨_, rfl⟩
  rw [← hhs] at HW
  have hsl : hsI.length = S.L.length := by rw [hhs, List.length_map, HHL]
  have HHS := Lib.hid hhs
  have HSL := Lib.hid hsl
  have hn6 : hsI.length ≤ 65536 := by omega
  clear hhs hsl HHL HLL HLS
  go_wp2_with fail
  refine HW.mono ?_
  clear HW H
  rintro e w2 ⟨v, X, rfl, H, hrow⟩
  have T : Two X w p S v hsI w2 := ⟨H, hrow⟩
  obtain ⟨A', c', rfl, -⟩ := hrow
  have C := has_alloc T.1 n
  rcases alloc_parts HI n with ⟨hr, hs⟩ | ⟨m, k, r, rfl, hm1, hm2, hr, hc, hat, hgj, hgk, hk1, hk7, hle, hend⟩
  · rw [hs] at C
    clear hs
    rcases hr with hr | hr
    all_goals
      rw [hr] at C
      simp only at C
      clear hr
      go_wp2_with fail
      refine C.mono ?_
      clear C H
      rintro e w3 ⟨rfl, H3, s3⟩
      have R3 := T.2.same s3
      clear T s3
      go_wp2_with fail
      first
        | (refine (no_any 1 _).mono ?_; rintro e wn ⟨rfl, rfl⟩)
        | (refine (no_any 8 _).mono ?_; rintro e wn ⟨rfl, rfl⟩)
      go_wp2_with fail
      refine (has_handles H3).mono ?_
      rintro e w4 ⟨v2, rfl, hr2, hb2, H4, s4⟩
      have R4 := (R3.same s4).reads H4
      have e1 : ((hsTo S.L 70000).map fun h : Nat => iv h) = hsI.map iv := by rw [HHS.out]; simp [Function.comp_def]
      rw [e1] at hr2
      have Q4 := reads_of_row hr2
      obtain ⟨a2, cc2, rfl⟩ := row_shape hr2
      have IS := ints_same Q4 R4 (by omega)
      clear hr2 hb2 s4 R3 R4 Q4 H3 e1
      go_wp2_with fail
      refine IS.mono ?_
      clear IS
      rintro e w5 ⟨rfl, hb5⟩
      have H5 := (H4.below hb5).1
      clear hb5 H4
      go_wp2_with fail
      refine (alive_any _).mono ?_
      rintro e wa ⟨rfl, hba⟩
      have HF := Lib.hid ((H5.old).trans (hba.mono (H5.old).size))
      go_wp2_with fail
      go_ret
      exact ⟨rfl, HF.out⟩
  · rw [hr] at C
    simp only at C
    have HC := Lib.hid hc
    have HAT := Lib.hid hat
    have HGJ := Lib.hid hgj
    have HGK := Lib.hid hgk
    have HLE := Lib.hid hle
    have HEND := Lib.hid hend
    clear hr hc hat hgj hgk hle hend
    go_wp2_with fail
    refine C.mono ?_
    clear C H
    rintro e w3 ⟨rfl, H3, s3⟩
    have T3 : Two X w p (allocS S m) (.slice A' hsI.length c') hsI w3 := ⟨H3, T.2.same s3⟩
    clear T s3 H3
    go_wp2_with fail
    refine (no_any 0 _).mono ?_
    rintro e wn ⟨rfl, rfl⟩
    go_wp2_with fail
    refine (T3.addr k HAT.out).mono ?_
    clear T3
    rintro e w4 ⟨rfl, T4⟩
    go_wp2_with fail
    go_loopw [12] (fun t wr => ∃ i : Nat, i ≤ m ∧ t = .int .i64 i ∧ Two X w p (allocS S m) (.slice A' hsI.length c') hsI wr) (fun t _ => m - (intOf t).toNat)
    case atStart => exact ⟨0, Nat.zero_le _, by go_num, T4⟩
    case round =>
      clear T4
      obtain ⟨i, hi, rfl, T5⟩ := hrel
      by_cases hlt : i < m
      · have LD := T5.load k i (HC.out.load (i := i) (x := 0) (by rw [List.getElem?_replicate, if_pos hlt]))
        clear T5
        go_wp2_with fail
        refine LD.mono ?_
        clear LD
        rintro e w6 ⟨rfl, T6⟩
        have HT := Lib.hid T6
        clear T6
        go_wp2_with fail
        refine (no_any 0 _).mono ?_
        rintro e wn ⟨rfl, rfl⟩
        go_wp2_with fail
        go_roundw
        case rel => exact ⟨i + 1, by omega, by go_num, HT.out⟩
        case measure => simp [intOf]; omega
      · obtain rfl : i = m := by omega
        obtain ⟨N, hN⟩ : ∃ N, N = hsI.length := ⟨_, rfl⟩
        rw [← hN] at T5 hn6 ⊢
        have HN := Lib.hid hN
        clear hN
        go_wp2_with fail
        go_loopw [15, 16] (fun t t2 wr => ∃ q : Nat, q ≤ N ∧ t2 = .int .i64 q ∧ t = .int .i64 (endsAt S.L r.a ((hsTo S.L 70000).take q)) ∧ Two X w p (allocS S i) (.slice A' N c') hsI wr) (fun _ t2 _ => N - (intOf t2).toNat)
        case atStart => exact ⟨0, Nat.zero_le _, by go_num, rfl, T5⟩
        case round =>
          clear T5
          obtain ⟨q, hq, rfl, rfl, T7⟩ := hrel
          by_cases hqn : q < N
          · have hsn : (hsTo S.L 70000).length = N := by rw [HN.out, HHS.out, List.length_map]
            obtain ⟨hh, hhq⟩ : ∃ hh, (hsTo S.L 70000)[q]? = some hh := ⟨(hsTo S.L 70000)[q]'(by rw [hsn]; exact hqn), List.getElem?_eq_getElem _⟩
            have hix : hsI[q]? = some (hh : Int) := by rw [HHS.out, List.getElem?_map, hhq]; rfl
            obtain ⟨⟨_, hh7⟩, hhm⟩ := hsTo_mem.1 (List.mem_of_getElem? hhq)
            obtain ⟨cb, hcb, rfl⟩ := List.mem_map.1 hhm
            have hgb := getB_of_mem HI.nodup hcb
            have hcm := HI.mem hcb
            have hne : cb.h ≠ k := by
              intro e; rw [e, HGK.out] at hgb; simp at hgb
            have hgb' := (HGJ.out cb.h hne).trans hgb
            have hA : addrR (allocS S i).L cb.h = cb.a := by unfold addrR findR; rw [hgb']; rfl
            have hF : (findR (allocS S i).L cb.h).2.1 = cb.n := by unfold findR; rw [hgb']
            have hE : endOf S.L cb.h = (cb.a : Int) + cb.n := by unfold endOf; rw [hgb]
            have hT' := endsAt_take (L := S.L) (q := (r.a : Int)) hhq
            rw [hE] at hT'
            have hzl := ends_le S.L r.a ((hsTo S.L 70000).take q)
            have hzl2 : ((hsTo S.L 70000).take q).length ≤ 65536 := by rw [List.length_take]; omega
            obtain ⟨z, hz⟩ : ∃ z, z = endsAt S.L r.a ((hsTo S.L 70000).take q) := ⟨_, rfl⟩
            rw [← hz] at hT' hzl ⊢
            have hz6 : z ≤ 65536 := by omega
            have hwr : IntKind.i64.wrap ((cb.a : Int) + cb.n) = (cb.a : Int) + cb.n := IntWalk.i64_in _ (by omega)
            obtain ⟨g, rfl⟩ := T7.at_ hix
            have hcell := T7.cell hix
            have HIX := Lib.hid hix
            have HA := Lib.hid hA
            have HF := Lib.hid hF
            have HTT := Lib.hid hT'
            have HT7 := Lib.hid T7
            clear hix hA hF hE hT' hz hzl hzl2 hgb hgb' hhm hhq hcm hcb hsn hh7
            go_upto_region 21 with fail
            go_cut [94] (fun s wx => s = .bool (decide ((cb.a : Int) + cb.n = (r.a : Int))) ∧ Two X w p (allocS S i) (.slice (some ⟨g, 0, none⟩) N c') hsI wx)
            case first =>
              go_region_held3 (fun w' => Two X w p (allocS S i) (.slice (some ⟨g, 0, none⟩) N c') hsI w' ∧ w'.cell? ⟨g, q, none⟩ = some (.int .i64 cb.h))
                (first | assumption | exact ⟨HT7.out.drew, Two.cell HT7.out.drew HIX.out⟩)
                ((first | (go_at_call 20; refine (Two.addr (by first | assumption | exact HT7.out.drew) cb.h HA.out).mono ?_; rintro e wz ⟨rfl, hT⟩; have s1 := And.intro hT (Two.cell hT HIX.out)) | (go_at_call 19; refine (Two.len (by first | assumption | exact HT7.out.drew) cb.h HF.out).mono ?_; rintro e wz ⟨rfl, hT⟩; have s1 := And.intro hT (Two.cell hT HIX.out))))
              all_goals (
                go_wp2_with fail
                go_meet
                exact ⟨by first | rfl | simp, by assumption⟩)
            case rest =>
              obtain ⟨rfl, T8⟩ := hcut
              clear hcell HT7 T7 hwr
              by_cases he : (cb.a : Int) + cb.n = (r.a : Int)
              · have ht := HTT.out
                rw [if_pos he] at ht
                have HZ := Lib.hid ht
                have HT8 := Lib.hid T8
                clear ht HTT T8
                go_wp2_with fail
                go_roundw
                case rel => exact ⟨q + 1, by omega, by go_num, by rw [HZ.out]; go_num, HT8.out⟩
                case measure => simp [intOf]; omega
              · have ht := HTT.out
                rw [if_neg he] at ht
                have HZ := Lib.hid ht
                have HT8 := Lib.hid T8
                clear ht HTT T8
                go_wp2_with fail
                go_roundw
                case rel => exact ⟨q + 1, by omega, by go_num, by rw [HZ.out]; rfl, HT8.out⟩
                case measure => simp [intOf]; omega
          · obtain rfl : q = N := by omega
            have hsn : (hsTo S.L 70000).length = q := by rw [HN.out, HHS.out, List.length_map]
            have htk : (hsTo S.L 70000).take q = hsTo S.L 70000 := by rw [← hsn, List.take_length]
            rw [htk]
            have hend := HEND.out
            obtain ⟨z, hz⟩ : ∃ z, z = endsAt S.L r.a (hsTo S.L 70000) := ⟨_, rfl⟩
            rw [← hz] at hend ⊢
            have HE2 := Lib.hid hend
            clear hsn htk hz hend
            go_wp2_with fail
            go_loopw [17] (fun t wr => ∃ j : Nat, 1 ≤ j ∧ j ≤ k ∧ t = .int .i64 j ∧ Two X w p (allocS S i) (.slice A' q c') hsI wr) (fun t _ => k - (intOf t).toNat)
            case atStart => exact ⟨1, Nat.le_refl _, hk1, rfl, T7⟩
            case round =>
              clear T7
              obtain ⟨j, hj1, hjk, rfl, T9⟩ := hrel
              by_cases hlt3 : j < k
              · obtain ⟨cb, hcb⟩ := Option.isSome_iff_exists.1 (HLE.out j hj1 hlt3)
                have hcn := (HI.get hcb).1
                have hgb' := (HGJ.out j (by omega)).trans hcb
                have LN := T9.len j (q := (cb.n : Int)) (by unfold findR; rw [hgb'])
                have hc0 : ¬ cb.n = 0 := by omega
                clear hgb' hcb T9
                go_wp2_with fail
                refine LN.mono ?_
                clear LN
                rintro e w10 ⟨rfl, T10⟩
                have HT := Lib.hid T10
                clear T10
                go_wp2_with fail
                go_roundw
                case rel => exact ⟨j + 1, by omega, by omega, by go_num, HT.out⟩
                case measure => simp [intOf]; omega
              · obtain rfl : j = k := by omega
                by_cases h0 : r.a = 0
                · go_wp2_with fail
                  refine (alive_any _).mono ?_
                  rintro e wa ⟨rfl, hba⟩
                  have HF := Lib.hid ((T9.1.old).trans (hba.mono (T9.1.old).size))
                  go_wp2_with fail
                  go_ret
                  exact ⟨rfl, HF.out⟩
                · have hz1 := HE2.out.resolve_left h0
                  subst hz1
                  go_wp2_with fail
                  refine (alive_any _).mono ?_
                  rintro e wa ⟨rfl, hba⟩
                  have HF := Lib.hid ((T9.1.old).trans (hba.mono (T9.1.old).size))
                  go_wp2_with fail
                  go_ret
                  exact ⟨rfl, HF.out⟩

set_option maxRecDepth 100000 in
theorem lifted (os : Os) (started : os.Started) (H : Type) (enc : TypeId × Value → H) :
    ReturnsInHanded {} Try.checked os 6 .any (Rows.arenaFirstSpec.pre6 enc Try.prog Try.f6 Rows.arenaFirstRow.domain false) (Rows.arenaFirstSpec.post enc Try.prog Try.f6 false true false false) := by
  refine returnsInHanded_of_change (C := Try.checked) own started (by kernel_rfl) Try.func6
    (ChangeSpec.witness6 (enc := enc) (C := Try.checked) false ⟨#[], #[.int .i64 0, .slice none 0 0, .int .i64 0], []⟩ 8 (by kernel_rfl) (by kernel_rfl) (by kernel_rfl) (by kernel_rfl)) ?_
  intro W base args ds gs before hval0 hW hcnd _
  have hval : ∀ (j : Nat) t v, Try.f6.params[j]? = some t → args[j]? = some v → Value.okWide Try.prog W .any base t v := hval0
  have hW' := hW
  obtain ⟨p, q, hA0, hV, rfl, hfz, hnd⟩ := hW
  have hA : DataW.TrodAll enc Try.prog W 0 (fun _ => true) true Try.f6.params.toList args.toList ds p := hA0
  rw [Try.params6] at hA hval
  obtain ⟨v0, vs0, d0, ds0, p0, q0, hargs, rfl, rfl, h0, r0⟩ := trodAll_cons hA
  obtain ⟨v1, vs1, d1, ds1, p1, q1, rfl, rfl, rfl, h1, r1⟩ := trodAll_cons r0
  obtain ⟨v2, vs2, d2, ds2, p2, q2, rfl, rfl, rfl, h2, r2⟩ := trodAll_cons r1
  obtain ⟨rfl, rfl, rfl⟩ := trodAll_nil r2
  obtain rfl : args = #[v0, v1, v2] := by cases args; simp_all
  obtain ⟨rfl, rfl⟩ := trodVars_none hV
  simp only [List.append_nil] at hW'
  obtain ⟨a0, rfl, rfl, rfl, w0⟩ := open_int Try.underlying3 (hval 0 3 v0 rfl rfl) h0
  have h1k := h1
  obtain ⟨x1, y1, z1, rfl⟩ := okWide_slice Try.underlying22 (hval 1 22 v1 rfl rfl)
  obtain ⟨fuel1, hf1⟩ := h1
  obtain ⟨A1, l1, c1, hcs1, hl1, hlen1⟩ := open_acts hf1
  simp only [Value.cells, List.cons.injEq, and_true, Value.slice.injEq] at hcs1
  obtain ⟨rfl, rfl, rfl⟩ := hcs1
  obtain ⟨a2, rfl, rfl, rfl, w2⟩ := open_int Try.underlying3 (hval 2 3 v2 rfl rfl) h2
  clear hA0 hval0
  simp only [List.append_nil] at hW'
  refine (walk a0 x1 l1 z1 a2 W hl1 hlen1).mono fun e W' ⟨he, hg⟩ => ?_
  subst he
  exact ⟨_, rfl, _, _, _, [], _, [], hW', (trodAll_cons_mk (shut_bool Try.underlying4 _) trodAll_mk0), (trodAll_cons_mk (shut_int Try.underlying3 w0) (trodAll_cons_mk (Below.trod Try.laidOut (by kernel_rfl) (of_decide_eq_true (by kernel_rfl)) h1k hg (fun x hx => by have := hW'.lt x (by simp [hx]); simpa using this)) (trodAll_cons_mk (shut_int Try.underlying3 w2) trodAll_mk0))), rfl,
    hg.frame _, fun h => by cases h⟩

theorem over : Rows.arenaFirstRow.holds Try.pinned (OpenSpec.ofChange Rows.arenaFirstSpec) :=
  OpenClaim.holds_of_wide 6 Try.f6 rfl rfl rfl rfl rfl rfl rfl ⟨rfl, rfl, rfl, rfl, rfl⟩ rfl rfl rfl rfl rfl (by kernel_rfl) Try.func6 (by kernel_rfl)
    (of_decide_eq_true (by kernel_rfl)) (by unfold Func.isWrapper; first | (rw [if_pos (by decide +kernel)]; kernel_rfl) | (rw [if_neg (by decide +kernel)]; exact ⟨rfl, rfl⟩))
    (fun os started H enc _ => lifted os started H enc)

theorem proved : Rows.ArenaFirstSaid :=
  over
#print axioms proved
end Go.Proofs.Ytpaopcnbgdlgnaa.arenaFirst
