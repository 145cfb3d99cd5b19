/- The reference's Alloc. -/
import Derived.Test.YtpaopcnbgdlgnaaRefWrite
import Derived.Test.YtpaopcnbgdlgnaaFirstP
import Derived.Deep.RegionHeld3
import Derived.Deep.DeepCutAuto
import Derived.Deep.OwnRows
namespace Go.Proofs.Ytpaopcnbgdlgnaa
open Go.RowKit Go.MapKept
set_option linter.unusedVariables false
set_option linter.unusedSimpArgs false

variable {X : Nat → Prop} {w w1 w2 w' : World} {p N : Nat} {R T : List RBlk} {v v' : Value} {S S' : St}

theorem ref_place_at {n : Nat} {Z : Option Run} (H : RefAt X w1 p N R v) (hB : Below w.heap.size w w1) (hs : w.heap.size ≤ w1.heap.size) (hr : Rel S R N) (hS : Inv S) (hn : 1 ≤ n) (hn6 : n ≤ 65536) (hZ : firstRun n (runs N 0 S.L) = Z) :
    Calls Try.prog 57 #[v, .int .i64 N, .int .i64 n] w1 fun e w2 => e = .returned (match Z with | none => .tuple #[.int .i64 (-1), .int .i64 0] | some r => .tuple #[.int .i64 r.a, .int .i64 r.i]) ∧ RefAt X w2 p N R v ∧ Below w.heap.size w w2 := by
  have hlen : R.length ≤ 65536 := by have := hr.length; have := hS.length; have := hS.size; omega
  refine (ref_place H.row (by rw [hr.blks]; exact hS.laid) (by rw [hr.blks, hr.size]; exact hS.top) (by rw [hr.size]; exact hS.size) hlen hn hn6).mono ?_
  rintro e w2 ⟨h1, h2⟩
  rw [hr.blks, hZ] at h1
  refine ⟨?_, H.below h2, hB.trans (h2.mono hs)⟩
  cases Z with
  | none => exact h1
  | some r => exact h1

theorem RefAt.frz (H : RefAt X w p N R v) (i : Nat) : w.frozen? ⟨p, i, none⟩ = false := by simp [World.frozen?, H.head]

theorem ref_put_at {i m : Nat} (b : RBlk) {base : Nat} (hrow : w.ownsRow base 84 3 v T.length (flat T)) (hb : Below w.heap.size w w1) (hi : i ≤ T.length) (hlen : T.length ≤ 65536) (hm : b.xs.length = m) {h : Int} {a d : Nat} (e1 : (b.h : Int) = h) (e2 : b.a = a) (e3 : b.d = d) :
    Calls Try.prog 58 #[v, .int .i64 i, .agg #[.int .i64 h, .int .i64 a, .slice (some ⟨d, 0, none⟩) m m]] w1 fun e w2 => ∃ A c, e = .returned (.slice A (T.length + 1) c) ∧ w2.ownsRow w.heap.size 84 3 (.slice A (T.length + 1) c) (T.take i ++ b :: T.drop i).length (flat (T.take i ++ b :: T.drop i)) ∧ Below w1.heap.size w1 w2 := by
  subst e1 e2 e3 hm
  refine (ref_put b (ownsRow_of_block hrow fun k hk => hb.block k (hrow.lt k hk).2) hi hlen).mono ?_
  rintro e w2 ⟨v', rfl, h2, h3⟩
  obtain ⟨A, c, rfl⟩ := row_shape h2
  have hl : (T.take i ++ b :: T.drop i).length = T.length + 1 := by simp; omega
  rw [hl] at h2 ⊢
  exact ⟨A, c, rfl, row_base h2 hb.size, h3⟩

theorem ins_blks {i : Nat} {b : RBlk} : (R.take i ++ b :: R.drop i).map RBlk.blk = insB (R.map RBlk.blk) i b.blk := by
  unfold insB; simp [List.map_take, List.map_drop]

theorem rel_alloc (hr : Rel S R N) (hS : Inv S) {m : Nat} {r : Run} (hle : r.a + m ≤ S.cells.length) (hs : allocS S m = ⟨layCells S.cells r.a (List.replicate m 0), insB S.L r.i ⟨leastH S.L, r.a, m⟩⟩) (d : Nat) :
    Rel (allocS S m) (R.take r.i ++ ⟨leastH S.L, r.a, List.replicate m 0, d⟩ :: R.drop r.i) N := by
  have hgn : getB (leastH S.L) S.L = none := (leastH_spec S.L).2.2.1
  refine ⟨?_, ?_, ?_⟩
  · rw [hr.size, hs]
    exact (layCells_length (by simpa using hle)).symm
  · rw [ins_blks, hr.blks, hs]
    simp [RBlk.blk]
  · intro c hc
    have hold : ∀ c ∈ R, Cont (allocS S m) c.h c.xs := fun c hc => (hr.cont c hc).alloc hS m
    rcases List.mem_append.1 hc with h | h
    · exact hold c (List.mem_of_mem_take h)
    · rcases List.mem_cons.1 h with rfl | h
      · refine ⟨⟨leastH S.L, r.a, m⟩, ?_, by simp, fun j x hj => ?_⟩
        · rw [hs]
          show getB _ (insB _ _ _) = _
          rw [getB_ins (b := ⟨leastH S.L, r.a, m⟩) hgn, if_pos rfl]
        · rw [hs]
          show (layCells _ _ _)[r.a + j]? = _
          rw [lay_in (by omega) (List.getElem?_eq_some_iff.1 hj).1]
          exact hj
      · exact hold c (List.mem_of_mem_drop h)

theorem ins_nodup {i : Nat} {b : RBlk} (h : (R.map (·.d)).Nodup) (hd : ∀ c ∈ R, c.d ≠ b.d) : ((R.take i ++ b :: R.drop i).map (·.d)).Nodup := by
  have hp : (R.take i ++ b :: R.drop i).Perm (b :: R) := by
    have := List.perm_middle (a := b) (l₁ := R.take i) (l₂ := R.drop i)
    rwa [List.take_append_drop] at this
  rw [(hp.map (·.d)).nodup_iff, List.map_cons, List.nodup_cons]
  refine ⟨fun hm => ?_, h⟩
  obtain ⟨c, hc, e⟩ := List.mem_map.1 hm
  exact hd c hc e

theorem made_zeros (m : Nat) : madeCells #[Value.int .i64 0] m = ((List.replicate m (0 : Int)).map iv).toArray := by
  apply Array.toList_inj.1
  rw [made_replicate]
  simp [iv]

theorem Grow.mono {k : Nat} (hb : Below w.heap.size w w1) : Grow X w1 w' k → Grow X w w' k := by
  rintro (h | ⟨h1, h2⟩)
  · exact .inl h
  · exact .inr ⟨Nat.le_trans hb.size h1, h2⟩

theorem RefAt.fin {w3 wz : World} {r : Value} (H : RefAt X w3 p N R v) (hB : Below w.heap.size w w3) (hb2 : Below w3.heap.size w3 wz) (hown : wz.ownsRow w3.heap.size 84 3 v' T.length (flat T))
    (hdata : ∀ b ∈ T, b ∈ R ∨ (wz.heap[b.d]? = some (.cells (b.xs.map iv).toArray 2 (0, 0)) ∧ (X b.d ∨ w3.heap.size ≤ b.d))) (hnd : (T.map (·.d)).Nodup) (hrel : Rel S' T N) (hI : Inv S') :
    RefPost X w p S' r (.returned r) (wz.setCell ⟨p, 1, none⟩ v') := by
  obtain ⟨h1, h2⟩ := H.setRow hb2 hown hdata hnd
  exact ⟨rfl, ⟨N, T, v', h1.mono (fun k hk => Grow.mono hB hk), hrel, hI⟩, (Keep.of_below hB).trans h2⟩

theorem Try.infoD2 : (Try.prog.info? 2).map (fun i => (i.zero, i.size, i.bytes)) = some (some (.int .i64 0), 1, 8) := by kernel_rfl

set_option maxHeartbeats 1000000 in
theorem ref_alloc (J : RefS X w p S) (n : Int) :
    Calls Try.prog 44 #[.pointer (some ⟨p, 0, none⟩), .int .i64 n] w fun e w' => RefPost X w p (allocS S n) (.tuple #[.int .i64 (allocR S n).1, .int .i64 (allocR S n).2]) e w' := by
  have J0 := J
  by_cases hn : n < 1 ∨ 65536 < n
  · have HP := Lib.hid (show RefPost X w p (allocS S n) (.tuple #[.int .i64 (allocR S n).1, .int .i64 (allocR S n).2]) (.returned (.tuple #[.int .i64 0, .int .i64 1])) w from by
      rw [show allocS S n = S from by unfold allocS; rw [if_pos hn], show allocR S n = (0, 1) from by unfold allocR; rw [if_pos hn]]
      exact J0.post)
    clear J J0
    rcases hn with hn | hn
    all_goals
      go_enter Try.func44, Try.ntmps44
      go_wp2_with fail
      go_ret2
      exact HP.out
  obtain ⟨m, rfl⟩ := Int.eq_ofNat_of_zero_le (show 0 ≤ n by omega)
  have hm1 : 1 ≤ m := by omega
  have hm6 : m ≤ 65536 := by omega
  clear hn
  obtain ⟨N, R, v, H, hr, hS⟩ := J
  have hL := hr.blks
  have hlen : R.length ≤ 65536 := by have := hr.length; have := hS.length; have := hS.size; omega
  have c0 := H.c0
  have c1 := H.c1
  have hwp := H.lt.1
  have HJ := Lib.hid J0
  have HH := Lib.hid H
  have HREL := Lib.hid hr
  have HIN := Lib.hid hS
  have hAC := alloc_cases hS hm1 hm6
  have hri := hr.size
  rw [← hri] at hAC
  have hRl := hr.length
  rw [← hRl] at hAC
  obtain ⟨A, c, rfl⟩ := H.shape
  have C0 := Lib.hid c0
  have C1 := Lib.hid c1
  have hmk := run_make_row' (P := Try.prog) 38 2 (.int .i64 0) 8 Try.underlying38 Try.infoD2 rfl .i64 .i64 m (by omega) (by omega)
  obtain ⟨k, hk⟩ : ∃ k, k = leastH S.L := ⟨_, rfl⟩
  obtain ⟨k1, k2, k3, k4⟩ := leastH_spec S.L
  rw [← hk] at k1 k2 k3 k4 hAC
  have hk6 : k ≤ 70000 := by omega
  have K3 := Lib.hid k3
  have K4 := Lib.hid k4
  have HK := Lib.hid hk
  have HL := Lib.hid hL
  clear J0 H hr hS hL hri hRl k3 k4 hk k2
  go_enter Try.func44, Try.ntmps44
  rcases hAC with ⟨hlt, hR, hs⟩ | ⟨-, hR, r, hr1, hf, hn, hle, hri, hs⟩
  · have HZ := Lib.hid ((maxRun_lt hm1).2 hlt)
    have HP : ∀ wx, RefAt X wx p N R (.slice A R.length c) → Below w.heap.size w wx → RefPost X w p (allocS S m) (.tuple #[.int .i64 (allocR S m).1, .int .i64 (allocR S m).2]) (.returned (.tuple #[.int .i64 0, .int .i64 8])) wx := by
      intro wx h1 h2
      rw [hs, hR]
      exact ⟨rfl, ⟨N, R, _, h1.mono (fun k hk => .inl hk), HREL.out, HIN.out⟩, Keep.of_below h2⟩
    have HPP := Lib.hid HP
    clear hlt hR hs HP
    go_upto_region 3 with fail
    go_cut [6, 7] (fun s6 s7 wx => s6 = .int .i64 (-1) ∧ s7 = .int .i64 0 ∧ RefAt X wx p N R (.slice A R.length c) ∧ Below w.heap.size w wx)
    case first =>
      go_region_held3 (fun w' => RefAt X w' p N R (.slice A R.length c) ∧ Below w.heap.size w w' ∧ w'.cell? ⟨p, 0, none⟩ = some (.int .i64 N) ∧ w'.cell? ⟨p, 1, none⟩ = some (.slice A R.length c))
        (first | assumption | exact ⟨HH.out.below (Below.refl _ _).drew, (Below.refl _ _).drew, C0.out, C1.out⟩)
        ((first | (go_at_call 57; refine (ref_place_at (w := w) (HH.out.below (Below.refl _ _).drew) (Below.refl _ _).drew (Nat.le_refl _) HREL.out HIN.out hm1 hm6 HZ.out).mono ?_; rintro e wz ⟨rfl, hT, hBz⟩; have s1 := And.intro hT (And.intro hBz (And.intro hT.c0 hT.c1)))))
      all_goals (
        go_wp2_with fail
        go_meet
        exact ⟨rfl, rfl, hT, hBz⟩)
    case rest =>
      obtain ⟨rfl, rfl, H1, hB1⟩ := hcut
      have HQ := Lib.hid (HPP.out _ H1 hB1)
      clear H1 hB1 hmk
      go_wp2_with fail
      go_ret2
      exact HQ.out
  · have HF := Lib.hid hf
    have HRR := Lib.hid hR
    have HSS := Lib.hid hs
    have HLE := Lib.hid hle
    clear hf hR hs hle hr1
    go_upto_region 3 with fail
    go_cut [6, 7] (fun s6 s7 wx => s6 = .int .i64 r.a ∧ s7 = .int .i64 r.i ∧ RefAt X wx p N R (.slice A R.length c) ∧ Below w.heap.size w wx)
    case first =>
      go_region_held3 (fun w' => RefAt X w' p N R (.slice A R.length c) ∧ Below w.heap.size w w' ∧ w'.cell? ⟨p, 0, none⟩ = some (.int .i64 N) ∧ w'.cell? ⟨p, 1, none⟩ = some (.slice A R.length c))
        (first | assumption | exact ⟨HH.out.below (Below.refl _ _).drew, (Below.refl _ _).drew, C0.out, C1.out⟩)
        ((first | (go_at_call 57; refine (ref_place_at (w := w) (HH.out.below (Below.refl _ _).drew) (Below.refl _ _).drew (Nat.le_refl _) HREL.out HIN.out hm1 hm6 HF.out).mono ?_; rintro e wz ⟨rfl, hT, hBz⟩; have s1 := And.intro hT (And.intro hBz (And.intro hT.c0 hT.c1)))))
      all_goals (
        go_wp2_with fail
        go_meet
        exact ⟨rfl, rfl, hT, hBz⟩)
    case rest =>
      obtain ⟨rfl, rfl, H1, hB1⟩ := hcut
      clear c0 c1
      have hra : 0 ≤ (r.a : Int) := by omega
      go_wp2_with fail
      go_loopw [8] (fun t wr => ∃ h : Nat, 1 ≤ h ∧ h ≤ k ∧ t = .int .i64 h ∧ RefAt X wr p N R (.slice A R.length c) ∧ Below w.heap.size w wr) (fun t _ => k + 1 - (intOf t).toNat)
      case atStart => exact ⟨1, Nat.le_refl _, k1, by go_num, H1, hB1⟩
      case round =>
        clear H1 hB1
        obtain ⟨h, h1, hk, rfl, H2, hB2⟩ := hrel
        have F := ref_find H2 (h : Int) hlen
        have H2H := Lib.hid H2
        have HB2 := Lib.hid hB2
        have c1 := H2.c1
        clear H2 hB2
        go_wp2_with fail
        refine F.mono ?_
        clear F
        rintro e w3 ⟨(⟨i, b, hat, rfl⟩ | ⟨hno, rfl⟩), rfl⟩
        · have hgb := (getB_at hat).1
          rw [HL.out] at hgb
          have hne : h < k := by
            rcases Nat.lt_or_ge h k with h' | h'
            · exact h'
            · obtain rfl : h = k := by omega
              rw [K3.out] at hgb; simp at hgb
          clear hat hgb c1 hmk
          go_wp2_with fail
          go_roundw
          case rel => exact ⟨h + 1, by omega, by omega, by go_num, H2H.out, HB2.out⟩
          case measure => simp [intOf]; omega
        · have hgb := getB_no hno
          rw [HL.out] at hgb
          have hne : h = k := by
            rcases Nat.lt_or_ge h k with h' | h'
            · have := K4.out h h1 h'; rw [hgb] at this; simp at this
            · omega
          subst hne
          clear hgb hno
          have C1 := Lib.hid c1
          have hp3 : p < w3.heap.size := H2H.out.lt.1
          have hp4 : ¬ p = w3.heap.size := by omega
          have c1a : (w3.alloc (.cells (madeCells #[.int .i64 0] m) 2)).drew.cell? ⟨p, 1, none⟩ = some (.slice A R.length c) := (H2H.out.below (below_alloc _ _)).c1
          have c1b : (w3.alloc (.cells (madeCells #[.int .i64 0] m) 2)).cell? ⟨p, 1, none⟩ = some (.slice A R.length c) := (H2H.out.below (below_alloc _ _)).c1
          go_upto_region 9 with fail
          go_region_with ((first | (go_at_call 58; refine (ref_put_at (w := w3) (i := r.i) ⟨h, r.a, List.replicate m 0, w3.heap.size⟩ H2H.out.row ((Below.refl _ _).drew.alloc (Nat.le_refl _) _) hri hlen List.length_replicate rfl rfl rfl).mono ?_; rintro e wz ⟨A2, c2, rfl, hown, hbz⟩; have hbz2 := ((Below.refl _ w3).drew.alloc (Nat.le_refl _) _).trans (hbz.mono (by simp)); have s1 := (H2H.out.below hbz2).c1; have s2 := (H2H.out.below hbz2).frz 1)))
          all_goals (
            have HP := Lib.hid (show RefPost X w p (allocS S m) (.tuple #[.int .i64 (allocR S m).1, .int .i64 (allocR S m).2]) (.returned (.tuple #[.int .i64 h, .int .i64 0])) (wz.setCell ⟨p, 1, none⟩ (.slice A2 (R.length + 1) c2)) from by
              rw [HRR.out]
              refine H2H.out.fin HB2.out hbz2 hown ?_ (ins_nodup H2H.out.nodup fun c hc e => by have := H2H.out.lt.2.2 c hc; simp only at e; omega) ?_ (HIN.out.alloc m)
              · intro b hb
                rcases List.mem_append.1 hb with hb | hb
                · exact .inl (List.mem_of_mem_take hb)
                · rcases List.mem_cons.1 hb with rfl | hb
                  · refine .inr ⟨?_, .inr (Nat.le_refl _)⟩
                    have h1 := hbz.block w3.heap.size (by simp)
                    have h2 : (w3.drew.alloc (.cells (madeCells #[.int .i64 0] m) 2)).heap[w3.heap.size]? = some (.cells (madeCells #[.int .i64 0] m) 2 (0, 0)) := heap_alloc_new w3.drew _
                    rw [h2, made_zeros] at h1
                    exact h1
                  · exact .inl (List.mem_of_mem_drop hb)
              · have hh := rel_alloc HREL.out HIN.out (by have := HLE.out; rw [HREL.out.size] at this; exact this) (by rw [HSS.out, ← HK.out]) w3.heap.size
                rw [← HK.out] at hh
                exact hh)
            clear hown hbz hbz2 s1 s2 c1 c1a c1b hmk
            go_wp2_with fail
            go_ret2
            exact HP.out)
end Go.Proofs.Ytpaopcnbgdlgnaa
