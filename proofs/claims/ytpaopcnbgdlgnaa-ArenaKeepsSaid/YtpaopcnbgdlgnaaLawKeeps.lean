/- ArenaKeeps: what lies in a block stays there, whatever is done with others: the law returns true for every size, both lists of calls and every length. -/
import Derived.Test.YtpaopcnbgdlgnaaRows
import Derived.Test.YtpaopcnbgdlgnaaCont
namespace Go.Proofs.Ytpaopcnbgdlgnaa.arenaKeeps
open Go.ChangeShapes Go.WideShapes Go.ChangeAt Go.RowKit
set_option linter.unusedVariables false
set_option linter.unusedSimpArgs false

theorem own : ownKnob Try.prog.godebug = none := by kernel_rfl

theorem Try.laidOut : laidOutB Try.prog = true := by kernel_rfl

theorem alloc_split {S : St} (hS : Inv S) (n : Int) :
    ((allocR S n = (0, 1) ∨ allocR S n = (0, 8)) ∧ allocS S n = S) ∨ ∃ m k : Nat, n = m ∧ 1 ≤ m ∧ m ≤ 65536 ∧ allocR S n = ((k : Int), 0) ∧ Cont (allocS S n) k (List.replicate m 0) := by
  by_cases hn : n < 1 ∨ 65536 < n
  · left
    unfold allocR allocS
    rw [if_pos hn, if_pos hn]
    exact ⟨.inl rfl, rfl⟩
  · obtain ⟨m, rfl⟩ := Int.eq_ofNat_of_zero_le (show 0 ≤ n by omega)
    rcases alloc_cases hS (m := m) (by omega) (by omega) with ⟨_, h1, h2⟩ | ⟨_, h1, r, _, _, _, h3, _, h2⟩
    · exact .inl ⟨.inr h1, h2⟩
    · refine .inr ⟨m, leastH S.L, rfl, by omega, by omega, h1, ?_⟩
      rw [h2]
      refine ⟨⟨leastH S.L, r.a, m⟩, ?_, by simp, fun j x hj => ?_⟩
      · show getB _ (insB _ _ _) = _
        rw [getB_ins (b := ⟨leastH S.L, r.a, m⟩) (leastH_spec S.L).2.2.1, if_pos rfl]
      · show (layCells _ _ _)[r.a + j]? = _
        rw [lay_in (by omega) (List.getElem?_eq_some_iff.1 hj).1]
        exact hj

def sq (j : Nat) : Int := (j : Int) * j + 7

def Fill (w wr : World) (p k m i : Nat) : Prop := ∃ S xs, Has (fun _ => False) w wr p S ∧ Cont S k xs ∧ xs.length = m ∧ ∀ j, j < i → xs[j]? = some (sq j)

theorem Fill.full {w wr : World} {p k m : Nat} (h : Fill w wr p k m m) : ∃ S, Has (fun _ => False) w wr p S ∧ Cont S k ((List.range m).map sq) := by
  obtain ⟨S, xs, H, C, hl, hx⟩ := h
  refine ⟨S, H, ?_⟩
  have : xs = (List.range m).map sq := by
    apply List.ext_getElem?
    intro j
    by_cases hj : j < m
    · rw [hx j hj, List.getElem?_map, List.getElem?_range hj]; rfl
    · rw [List.getElem?_eq_none (by omega), List.getElem?_eq_none (by simp; omega)]
  rw [← this]; exact C

def Keeping (w wr : World) (p k m : Nat) : Prop := ∃ S, Has (fun _ => False) w wr p S ∧ Cont S k ((List.range m).map sq)

theorem sq_range {m i : Nat} (hi : i < m) : ((List.range m).map sq)[i]? = some ((i : Int) * i + 7) := by
  rw [List.getElem?_map, List.getElem?_range hi]; rfl

theorem sq_le {i : Nat} (hi : i ≤ 65536) : (i : Int) * i ≤ 4294967296 := by
  have : i * i ≤ 65536 * 65536 := Nat.mul_le_mul hi hi
  have h2 : ((i * i : Nat) : Int) = (i : Int) * i := by simp
  omega
theorem sq_ge (i : Nat) : 0 ≤ (i : Int) * i := by
  have h2 : ((i * i : Nat) : Int) = (i : Int) * i := by simp
  omega

set_option maxHeartbeats 1000000 in
theorem walk (a0 : Int) (A : Option Addr) (l : List ActV) (c : Nat) (A2 : Option Addr) (l2 : List ActV) (c2 : Nat) (a3 : Int) (w : World) (hl : Lst w w.heap.size A l) (hlen : l.length ≤ maxLen) (hl2 : Lst w w.heap.size A2 l2) (hlen2 : l2.length ≤ maxLen) :
    Calls Try.prog 3 #[.int .i64 a0, .slice A l.length c, .slice A2 l2.length c2, .int .i64 a3] w fun e w' => e = .returned (.bool true) ∧ Below w.heap.size w w' := by
  have M := Lib.hid (made_ok a0 A l c w hl hlen)
  obtain ⟨N, hN⟩ : ∃ N, N = l2.length := ⟨_, rfl⟩
  rw [← hN] at hlen2 ⊢
  have HN := Lib.hid hN
  have HL := Lib.hid hl2
  clear hl hlen hl2 hlen2 hN
  go_enter Try.func3, Try.ntmps3
  go_wp2_with fail
  refine M.out.mono ?_
  clear M
  rintro e w1 (⟨rfl, hb⟩ | ⟨p, S, rfl, H, hS⟩)
  · go_wp2_with fail
    refine (alive_any _).mono ?_
    rintro e wa ⟨rfl, hba⟩
    have HF := Lib.hid ((hb).trans (hba.mono (hb).size))
    go_wp2_with fail
    go_ret
    exact ⟨rfl, HF.out⟩
  clear hS
  by_cases hN80 : 80 < N
  · go_wp2_with fail
    refine (alive_any _).mono ?_
    rintro e wa ⟨rfl, hba⟩
    have HF := Lib.hid ((H.old).trans (hba.mono (H.old).size))
    go_wp2_with fail
    go_ret
    exact ⟨rfl, HF.out⟩
  have C := has_alloc H a3
  have HI := H.inv
  rcases alloc_split HI a3 with ⟨hr, hs⟩ | ⟨m, k, rfl, hm1, hm2, hr, hc⟩
  · clear hs
    rcases hr with hr | hr
    all_goals
      rw [hr] at C
      simp only at C
      clear hr
      go_wp2_with fail
      refine C.mono ?_
      clear C HI
      rintro e w2 ⟨rfl, H2, -⟩
      go_wp2_with fail
      first
        | (refine (no_any 1 _).mono ?_; rintro e wn ⟨rfl, rfl⟩)
        | (refine (no_any 8 _).mono ?_; rintro e wn ⟨rfl, rfl⟩)
      go_wp2_with fail
      refine (alive_any _).mono ?_
      rintro e wa ⟨rfl, hba⟩
      have HF := Lib.hid ((H2.old).trans (hba.mono (H2.old).size))
      go_wp2_with fail
      go_ret
      exact ⟨rfl, HF.out⟩
  rw [hr] at C
  simp only at C
  have HC := Lib.hid hc
  clear hr hc HI
  go_wp2_with fail
  refine C.mono ?_
  clear C H
  rintro e w2 ⟨rfl, H2, -⟩
  have F0 : Fill w w2 p k m 0 := ⟨_, _, H2, HC.out, by simp, fun j hj => by omega⟩
  clear H2 HC
  go_wp2_with fail
  refine (no_any 0 _).mono ?_
  rintro e wn ⟨rfl, rfl⟩
  go_wp2_with fail
  go_loopw [12] (fun t wr => ∃ i : Nat, i ≤ m ∧ t = .int .i64 i ∧ Fill w wr p k m i) (fun t _ => m - (intOf t).toNat)
  case atStart => exact ⟨0, Nat.zero_le _, by go_num, F0⟩
  case round =>
    clear F0
    obtain ⟨i, hi, rfl, hF⟩ := hrel
    by_cases hlt : i < m
    · obtain ⟨S1, xs, H1, C1, hxl, hx⟩ := hF
      have hs1 := sq_le (i := i) (by omega)
      have hs2 := sq_ge i
      have z1 : IntKind.i64.wrap ((i : Int) * i) = (i : Int) * i := IntWalk.i64_in _ (by omega)
      have z2 : IntKind.i64.wrap ((i : Int) * i + 7) = (i : Int) * i + 7 := IntWalk.i64_in _ (by omega)
      obtain ⟨g1, g2⟩ := C1.store H1.inv (i := i) (by omega) ((i : Int) * i + 7)
      have ST := has_store H1 k i ((i : Int) * i + 7)
      rw [g1] at ST
      have G2 := Lib.hid g2
      have HX := Lib.hid hx
      have HXL := Lib.hid hxl
      clear g1 g2 hx hxl C1
      go_wp2_with fail
      refine ST.mono ?_
      clear ST
      rintro e w3 ⟨rfl, H3, -⟩
      have F1 := Lib.hid (show Fill w w3 p k m (i + 1) from ⟨_, _, H3, G2.out, by rw [List.length_set]; exact HXL.out, fun j hj => by
        by_cases hij : i = j
        · subst hij; rw [List.getElem?_set_self (by rw [HXL.out]; exact hlt)]; rfl
        · rw [List.getElem?_set_ne hij]; exact HX.out j (by omega)⟩)
      clear H1 H3 G2 HX HXL hs1 hs2 z1 z2
      go_wp2_with fail
      refine (no_any 0 _).mono ?_
      rintro e wn ⟨rfl, rfl⟩
      go_wp2_with fail
      go_roundw
      case rel => exact ⟨i + 1, by omega, by go_num, F1.out⟩
      case measure => simp [intOf]; omega
    · obtain rfl : i = m := by omega
      have K0 : Keeping w wr p k i := hF.full
      clear hF
      go_wp2_with fail
      go_loopw [13] (fun t ws => ∃ i2 : Nat, i2 ≤ N ∧ t = .int .i64 i2 ∧ Keeping w ws p k i) (fun t _ => N - (intOf t).toNat)
      case atStart => exact ⟨0, Nat.zero_le _, by go_num, K0⟩
      case round =>
        clear K0
        obtain ⟨i2, hi2, rfl, hK⟩ := hrel
        by_cases hlt2 : i2 < N
        · obtain ⟨S1, H1, C1⟩ := hK
          obtain ⟨a, ha⟩ : ∃ a, l2[i2]? = some a := ⟨l2[i2]'(by rw [← HN.out]; exact hlt2), List.getElem?_eq_getElem _⟩
          obtain ⟨ad, hA, hB, hcc⟩ := (HL.out.below H1.old) i2 a ha
          subst hA
          obtain ⟨ak, ah, an, ax⟩ := a
          have hc0 : wr.cell? (ad.add (i2 * 4)) = some (.int .i64 ak) := hcc 0 _ rfl
          have hc1 : wr.cell? ⟨(ad.add (i2 * 4)).block, (ad.add (i2 * 4)).off + 1, none⟩ = some (.int .i64 ah) := hcc 1 _ rfl
          have hc2 : wr.cell? ⟨(ad.add (i2 * 4)).block, (ad.add (i2 * 4)).off + 2, none⟩ = some (.int .i64 an) := hcc 2 _ rfl
          have hc3 : wr.cell? ⟨(ad.add (i2 * 4)).block, (ad.add (i2 * 4)).off + 3, none⟩ = some (.int .i64 ax) := hcc 3 _ rfl
          clear hcc ha
          by_cases hk1 : ak = 1
          · subst hk1
            have CP := Lib.hid (C1.play H1.inv (a := ⟨1, ah, an, ax⟩) (.inl rfl))
            clear C1
            go_wp2_with fail
            refine (play_any H1 1 ah an ax).mono ?_
            rintro e w2 ⟨rfl, H3, -⟩
            have K1 := Lib.hid (show Keeping w w2 p k i from ⟨_, H3, CP.out⟩)
            clear hc0 hc1 hc2 hc3 H1 H3 CP
            go_wp2_with fail
            go_roundw
            case rel => exact ⟨i2 + 1, by omega, by go_num, K1.out⟩
            case measure => simp [intOf]; omega
          · by_cases hh : ah = k
            · subst hh
              have K1 := Lib.hid (show Keeping w wr p k i from ⟨_, H1, C1⟩)
              clear C1 H1
              go_wp2_with fail
              go_roundw
              case rel => exact ⟨i2 + 1, by omega, by go_num, K1.out⟩
              case measure => simp [intOf]; omega
            · have CP := Lib.hid (C1.play H1.inv (a := ⟨ak, ah, an, ax⟩) (.inr hh))
              clear C1
              go_wp2_with fail
              refine (play_any H1 ak ah an ax).mono ?_
              rintro e w2 ⟨rfl, H3, -⟩
              have K1 := Lib.hid (show Keeping w w2 p k i from ⟨_, H3, CP.out⟩)
              clear hc0 hc1 hc2 hc3 H1 H3 CP
              go_wp2_with fail
              go_roundw
              case rel => exact ⟨i2 + 1, by omega, by go_num, K1.out⟩
              case measure => simp [intOf]; omega
              case roundEnd =>
                rename_i hx
                exact absurd (by simpa using hx.2) hh
        · obtain rfl : i2 = N := by omega
          go_wp2_with fail
          go_loopw [14] (fun t wt => ∃ i3 : Nat, i3 ≤ i ∧ t = .int .i64 i3 ∧ Keeping w wt p k i) (fun t _ => i - (intOf t).toNat)
          case atStart => exact ⟨0, Nat.zero_le _, by go_num, hK⟩
          case round =>
            clear hK
            obtain ⟨i3, hi3, rfl, hK⟩ := hrel
            obtain ⟨S1, H1, C1⟩ := hK
            by_cases hlt3 : i3 < i
            · have hs1 := sq_le (i := i3) (by omega)
              have hs2 := sq_ge i3
              have z1 : IntKind.i64.wrap ((i3 : Int) * i3) = (i3 : Int) * i3 := IntWalk.i64_in _ (by omega)
              have z2 : IntKind.i64.wrap ((i3 : Int) * i3 + 7) = (i3 : Int) * i3 + 7 := IntWalk.i64_in _ (by omega)
              have LD := has_load H1 k i3
              rw [C1.load (sq_range hlt3)] at LD
              simp only at LD
              have HC1 := Lib.hid C1
              clear C1
              go_wp2_with fail
              refine LD.mono ?_
              clear LD
              rintro e w3 ⟨rfl, H3, -⟩
              have K1 := Lib.hid (show Keeping w w3 p k i from ⟨_, H3, HC1.out⟩)
              clear H1 H3 HC1
              go_wp2_with fail
              refine (no_any 0 _).mono ?_
              rintro e wn ⟨rfl, rfl⟩
              go_wp2_with fail
              go_roundw
              case rel => exact ⟨i3 + 1, by omega, by go_num, K1.out⟩
              case measure => simp [intOf]; omega
            · obtain rfl : i3 = i := by omega
              have LN := has_len H1 k
              obtain ⟨aa, haa⟩ := C1.len
              rw [haa] at LN
              simp only [List.length_map, List.length_range] at LN
              clear haa C1
              go_wp2_with fail
              refine LN.mono ?_
              clear LN
              rintro e w3 ⟨rfl, H3, -⟩
              go_wp2_with fail
              refine (alive_any _).mono ?_
              rintro e wa ⟨rfl, hba⟩
              have HF := Lib.hid ((H3.old).trans (hba.mono (H3.old).size))
              go_wp2_with fail
              go_ret
              exact ⟨rfl, HF.out⟩

set_option maxRecDepth 100000 in
theorem lifted (os : Os) (started : os.Started) (H : Type) (enc : TypeId × Value → H) :
    ReturnsInHanded {} Try.checked os 3 .any (Rows.arenaKeepsSpec.pre6 enc Try.prog Try.f3 Rows.arenaKeepsRow.domain false) (Rows.arenaKeepsSpec.post enc Try.prog Try.f3 false true false false) := by
  refine returnsInHanded_of_change (C := Try.checked) own started (by kernel_rfl) Try.func3
    (ChangeSpec.witness6 (enc := enc) (C := Try.checked) false ⟨#[], #[.int .i64 0, .slice none 0 0, .slice none 0 0, .int .i64 0], []⟩ 8 (by kernel_rfl) (by kernel_rfl) (by kernel_rfl) (by kernel_rfl)) ?_
  intro W base args ds gs before hval0 hW hcnd _
  have hval : ∀ (j : Nat) t v, Try.f3.params[j]? = some t → args[j]? = some v → Value.okWide Try.prog W .any base t v := hval0
  have hW' := hW
  obtain ⟨p, q, hA0, hV, rfl, hfz, hnd⟩ := hW
  have hA : DataW.TrodAll enc Try.prog W 0 (fun _ => true) true Try.f3.params.toList args.toList ds p := hA0
  rw [Try.params3] at hA hval
  obtain ⟨v0, vs0, d0, ds0, p0, q0, hargs, rfl, rfl, h0, r0⟩ := trodAll_cons hA
  obtain ⟨v1, vs1, d1, ds1, p1, q1, rfl, rfl, rfl, h1, r1⟩ := trodAll_cons r0
  obtain ⟨v2, vs2, d2, ds2, p2, q2, rfl, rfl, rfl, h2, r2⟩ := trodAll_cons r1
  obtain ⟨v3, vs3, d3, ds3, p3, q3, rfl, rfl, rfl, h3, r3⟩ := trodAll_cons r2
  obtain ⟨rfl, rfl, rfl⟩ := trodAll_nil r3
  obtain rfl : args = #[v0, v1, v2, v3] := by cases args; simp_all
  obtain ⟨rfl, rfl⟩ := trodVars_none hV
  simp only [List.append_nil] at hW'
  obtain ⟨a0, rfl, rfl, rfl, w0⟩ := open_int Try.underlying3 (hval 0 3 v0 rfl rfl) h0
  have h1k := h1
  obtain ⟨x1, y1, z1, rfl⟩ := okWide_slice Try.underlying22 (hval 1 22 v1 rfl rfl)
  obtain ⟨fuel1, hf1⟩ := h1
  obtain ⟨A1, l1, c1, hcs1, hl1, hlen1⟩ := open_acts hf1
  simp only [Value.cells, List.cons.injEq, and_true, Value.slice.injEq] at hcs1
  obtain ⟨rfl, rfl, rfl⟩ := hcs1
  have h2k := h2
  obtain ⟨x2, y2, z2, rfl⟩ := okWide_slice Try.underlying22 (hval 2 22 v2 rfl rfl)
  obtain ⟨fuel2, hf2⟩ := h2
  obtain ⟨A2, l2, c2, hcs2, hl2, hlen2⟩ := open_acts hf2
  simp only [Value.cells, List.cons.injEq, and_true, Value.slice.injEq] at hcs2
  obtain ⟨rfl, rfl, rfl⟩ := hcs2
  obtain ⟨a3, rfl, rfl, rfl, w3⟩ := open_int Try.underlying3 (hval 3 3 v3 rfl rfl) h3
  clear hA0 hval0
  simp only [List.append_nil] at hW'
  refine (walk a0 x1 l1 z1 x2 l2 z2 a3 W hl1 hlen1 hl2 hlen2).mono fun e W' ⟨he, hg⟩ => ?_
  subst he
  exact ⟨_, rfl, _, _, _, [], _, [], hW', (trodAll_cons_mk (shut_bool Try.underlying4 _) trodAll_mk0), (trodAll_cons_mk (shut_int Try.underlying3 w0) (trodAll_cons_mk (Below.trod Try.laidOut (by kernel_rfl) (of_decide_eq_true (by kernel_rfl)) h1k hg (fun x hx => by have := hW'.lt x (by simp [hx]); simpa using this)) (trodAll_cons_mk (Below.trod Try.laidOut (by kernel_rfl) (of_decide_eq_true (by kernel_rfl)) h2k hg (fun x hx => by have := hW'.lt x (by simp [hx]); simpa using this)) (trodAll_cons_mk (shut_int Try.underlying3 w3) trodAll_mk0)))), rfl,
    hg.frame _, fun h => by cases h⟩

theorem over : Rows.arenaKeepsRow.holds Try.pinned (OpenSpec.ofChange Rows.arenaKeepsSpec) :=
  OpenClaim.holds_of_wide 3 Try.f3 rfl rfl rfl rfl rfl rfl rfl ⟨rfl, rfl, rfl, rfl, rfl⟩ rfl rfl rfl rfl rfl (by kernel_rfl) Try.func3 (by kernel_rfl)
    (of_decide_eq_true (by kernel_rfl)) (by unfold Func.isWrapper; first | (rw [if_pos (by decide +kernel)]; kernel_rfl) | (rw [if_neg (by decide +kernel)]; exact ⟨rfl, rfl⟩))
    (fun os started H enc _ => lifted os started H enc)

theorem proved : Rows.ArenaKeepsSaid :=
  over
#print axioms proved
end Go.Proofs.Ytpaopcnbgdlgnaa.arenaKeeps
