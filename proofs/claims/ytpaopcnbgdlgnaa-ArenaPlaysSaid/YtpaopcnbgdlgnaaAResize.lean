/- Resize. -/
import Derived.Test.YtpaopcnbgdlgnaaAOwn
import Derived.Deep.RegionHeld3
import Derived.Deep.DeepCutAuto
namespace Go.Proofs.Ytpaopcnbgdlgnaa
open Go.RowKit Go.MapKept
set_option linter.unusedVariables false
set_option linter.unusedSimpArgs false
attribute [local go_sem] obj_alloc obj_drew obj_setCell eql_nil_map field_n

def ResizePost (w : World) (A : AP) (S : St) (h n : Int) (e : Ending) (w' : World) : Prop := e = .returned (.int .i64 (resizeR S h n)) ∧ ∃ A', ArenaAt w' A' (resizeS S h n) ∧ Step w w' A A'

set_option maxRecDepth 100000 in
set_option maxHeartbeats 2000000 in
theorem resize_any {w : World} {A : AP} {S : St} (H : ArenaAt w A S) (h n : Int) :
    Calls Try.prog 21 #[.pointer (some ⟨A.p, 0, none⟩), .int .i64 h, .int .i64 n] w fun e w' => ResizePost w A S h n e w' := by
  have F := fun (W : World) (hW : ArenaAt W A S) => find_any hW h
  unfold findR at F
  cases hf : getB h S.L with
  | none =>
    have hP : ∀ w', Below w.heap.size w w' → ResizePost w A S h n (.returned (.int .i64 5)) w' := by
      intro w' hb
      unfold ResizePost resizeR resizeS
      rw [hf]
      exact ⟨rfl, A, H.below hb, Step.of_below hb⟩
    have HP := Lib.hid hP
    rw [hf] at F
    clear hf hP
    simp only at F
    go_enter Try.func21, Try.ntmps21
    go_wp2_with fail
    refine (F _ H).mono ?_
    clear F
    rintro e w1 ⟨rfl, hb⟩
    go_wp2_with fail
    go_ret
    exact HP.out _ (hb.alloc hb.size _)
  | some b =>
    have hbm := H.inv.get hf
    rw [hf] at F
    simp only at F
    by_cases hn : n < 1 ∨ 65536 < n
    · have hP : ∀ w', Below w.heap.size w w' → ResizePost w A S h n (.returned (.int .i64 1)) w' := by
        intro w' hb
        unfold ResizePost resizeR resizeS
        rw [hf]
        simp only
        rw [if_pos hn, if_pos hn]
        exact ⟨rfl, A, H.below hb, Step.of_below hb⟩
      have HP := Lib.hid hP
      clear hf hP
      rcases hn with hn | hn
      all_goals
        go_enter Try.func21, Try.ntmps21
        go_wp2_with fail
        refine (F _ H).mono ?_
        clear F
        rintro e w1 ⟨rfl, hb⟩
        go_wp2_with fail
        go_ret
        exact HP.out _ (hb.alloc hb.size _)
    · obtain ⟨m, rfl⟩ := Int.eq_ofNat_of_zero_le (show 0 ≤ n by omega)
      have hm1 : 1 ≤ m := by omega
      have hm2 : m ≤ 65536 := by omega
      have PL := fun (W : World) (hW : ArenaAt W A S) => place_any hW m h
      have hfk := first_without H.inv m h
      unfold placeR at PL
      cases hr : firstRun m (runs S.cells.length 0 (eraseB h S.L)) with
      | none =>
        rw [hr] at hfk
        have hfn : firstRun m (runs S.cells.length h S.L) = none := by
          cases hx : firstRun m (runs S.cells.length h S.L) with
          | none => rfl
          | some x => rw [hx] at hfk; simp at hfk
        rw [hfn] at PL
        simp only at PL
        have hP : ∀ w', Below w.heap.size w w' → ResizePost w A S h m (.returned (.int .i64 8)) w' := by
          intro w' hb
          unfold ResizePost resizeR resizeS
          rw [hf]
          simp only [Int.toNat_natCast, hr]
          rw [if_neg hn, if_neg hn]
          exact ⟨rfl, A, H.below hb, Step.of_below hb⟩
        have HP := Lib.hid hP
        have HPL := Lib.hid PL
        clear hf hP hn hfk hfn hr PL
        go_enter Try.func21, Try.ntmps21
        go_wp2_with fail
        refine (F _ H).mono ?_
        clear F
        rintro e w1 ⟨rfl, hb⟩
        go_wp2_with fail
        have hb1 := hb.alloc hb.size (.cells #[.int .i64 b.a, .int .i64 b.n] 64)
        refine (HPL.out _ (H.below hb1)).mono ?_
        rintro e w2 ⟨rfl, hb2⟩
        go_wp2_with fail
        go_ret
        exact HP.out _ (hb1.trans (hb2.mono hb1.size))
      | some r =>
        rw [hr] at hfk
        obtain ⟨rx, hrx, hka⟩ : ∃ rx, firstRun m (runs S.cells.length h S.L) = some rx ∧ rx.a = r.a := by
          cases hx : firstRun m (runs S.cells.length h S.L) with
          | none => rw [hx] at hfk; simp at hfk
          | some x => rw [hx] at hfk; simp [Run.key] at hfk; exact ⟨x, rfl, hfk.1⟩
        rw [hrx] at PL
        simp only at PL
        rw [hka] at PL
        obtain ⟨b1, b2, b3, b4, b5⟩ := hbm
        obtain ⟨hrm, hrn⟩ := firstRun_some hr
        have hbh := (getB_mem hf).2
        have hI1 := H.inv.erase h
        have hgn : getB b.h (eraseB h S.L) = none := by rw [getB_erase H.inv.nodup, if_pos hbh]
        obtain ⟨hI2, hri, hra⟩ := hI1.ins hrm (h := b.h) (n := m) (cells := S.cells) b2 b5 hgn hm1 hrn rfl
        simp only at hra hri
        have PL0 := fun (W : World) (A' : AP) (hW : ArenaAt W A' (freeS S h)) => place_any hW m 0
        simp only [placeR, freeS, hr] at PL0
        have LF := fun (W : World) (hW : ArenaAt W A S) => lift_arena hW hf
        have hPR : resizeR S h m = 0 ∧ resizeS S h m = ⟨putC S.cells r.a m (ownC S.cells b m), insB (eraseB h S.L) r.i ⟨b.h, r.a, m⟩⟩ := by
          unfold resizeR resizeS
          rw [hf]
          simp only [Int.toNat_natCast, hr]
          rw [if_neg hn, if_neg hn]
          exact ⟨rfl, rfl⟩
        have hol := ownC_length H.inv (getB_mem hf).1 m
        have HPR := Lib.hid hPR
        have HPL := Lib.hid PL
        have HPL0 := Lib.hid PL0
        have HLF := Lib.hid LF
        have HI2 := Lib.hid hI2
        have HGN := Lib.hid hgn
        have HBH := Lib.hid hbh
        have HOL := Lib.hid hol
        have hsz := H.inv.size
        clear hPR PL PL0 LF hI2 hgn hbh hol hf hn hfk hr hrx hka hrm hrn hI1
        obtain ⟨i0, hi0, hz0, hz1, hz2⟩ := info_parts Try.infoR2
        go_enter Try.func21, Try.ntmps21
        go_wp2_with fail
        refine (F _ H).mono ?_
        clear F
        rintro e w1 ⟨rfl, hb⟩
        go_wp2_with fail
        have hb1 := hb.alloc hb.size (.cells #[.int .i64 b.a, .int .i64 b.n] 64)
        have hbx := Box.new w1 [.int .i64 b.a, .int .i64 b.n] 64
        have hlb : w.heap.size ≤ w1.heap.size := hb.size
        obtain ⟨lb, hlb'⟩ : ∃ lb, lb = w1.heap.size := ⟨_, rfl⟩
        rw [← hlb'] at hbx hlb ⊢
        have hlbs := hbx.lt
        obtain ⟨W1, hW1⟩ : ∃ W1, W1 = w1.alloc (.cells #[.int .i64 b.a, .int .i64 b.n] 64) := ⟨_, rfl⟩
        rw [← hW1] at hb1 hbx hlbs ⊢
        clear hW1 hlb' hb
        refine (HPL.out _ (H.below hb1)).mono ?_
        rintro e w2 ⟨rfl, hb2⟩
        have hbw := hb1.trans (hb2.mono hb1.size)
        have hbx2 := hbx.below hb2 hlbs
        have H2 := H.below hbw
        have hlb2 := hbx2.lt
        clear hb1 hb2 hbx hlbs
        have hcb2 := H2.cb_lt
        have hp2 := H2.p_lt
        have AR := Lib.hid (show ∀ (W : World), (∀ k, k < w2.heap.size → W.heap[k]? = w2.heap[k]?) → ∀ j u, ((ownC S.cells b m).map iv)[j]? = some u → W.cell? ((⟨A.cb, b.a, none⟩ : Addr).add j) = some u from by
          intro W hW j u hu
          have hj := (List.getElem?_eq_some_iff.1 hu).1
          rw [List.length_map, HOL.out] at hj
          rw [addr_add, World.cell?_of_block (w := w2) (hW _ hcb2), cell_of_list H2.hc, ← hu]
          unfold ownC
          rw [List.getElem?_map, List.getElem?_map, List.getElem?_take_of_lt (by omega), List.getElem?_drop])
        have hom : ((ownC S.cells b m).map iv).length = min m b.n := by rw [List.length_map]; exact HOL.out
        have HNE := Lib.hid (show (ownC S.cells b m).map iv ≠ [] from by
          intro h0
          rw [h0] at hom
          simp at hom
          omega)
        have HOM := Lib.hid hom
        clear hom
        have hne : ¬ S.cells.length = b.a := by omega
        go_upto_region 9 with fail
        go_cut [11] (fun s wx => OwnIn w2 wx ((ownC S.cells b m).map iv) s)
        case first =>
          have c0 := H2.c0
          have d0 := hbx2.cell 0
          have d1 := hbx2.cell 1
          simp only [List.getElem?_cons_zero, List.getElem?_cons_succ] at d0 d1
          by_cases z0 : b.n < m
          · have z1 : b.n < m := z0
            have hmin : min m b.n = b.n := by omega
            have HMIN := Lib.hid hmin
            clear hmin
            have hkk : b.n ≤ b.n := by omega
            have q1 : IntKind.i64.wrap ((b.a : Int) + b.n) = (b.a : Int) + b.n := IntWalk.i64_in _ (by omega)
            have q2 : 0 ≤ (b.a : Int) + b.n := by omega
            have q3 : ((b.a : Int) + b.n).toNat = b.a + b.n := by omega
            have q4 : b.a ≤ b.a + b.n := by omega
            have q5 : (b.a : Int) ≤ (b.a : Int) + b.n := by omega
            have q6 : (b.a : Int) + b.n ≤ S.cells.length := by omega
            have q7 : b.a + b.n ≤ S.cells.length := by omega
            have q8 : (0 : Int) ≤ b.a := by omega
            go_region_held3 (fun w' => w'.cell? ⟨A.p, 0, none⟩ = some (.slice (some ⟨A.cb, 0, none⟩) S.cells.length S.cells.length) ∧ w'.cell? ⟨lb, 0, none⟩ = some (.int .i64 b.a) ∧ w'.cell? ⟨lb, 1, none⟩ = some (.int .i64 b.n))
              (first | assumption | refine ⟨?_, ?_, ?_⟩ <;> (first | go_keep | (simp [*, World.cell?_alloc_some, World.cell?_setCell_far])))
              ((refine step_append_row rfl (.tmp 38) (.tmp 52) 38 rfl 2 i0 (.int .i64 0) 1 8 Try.underlying38 hi0 hz0 hz1 hz2 rfl Nat.one_pos (.slice (some ⟨w2.heap.size, 0, none⟩) 0 0) 0 [] rfl (World.ownsRow_made (base := 0) (e := 2) (size := 1) w2 #[] 0 (Nat.zero_le _) (by decide) (by simp)).drew ⟨A.cb, b.a, none⟩ b.n (S.cells.length - b.a) ((ownC S.cells b m).map iv) rfl (by rw [HOM.out, HMIN.out, Nat.mul_one]) (AR.out _ (fun k hk => Below.heap_alloc _ _ _ hk)) (by intro v hv; obtain ⟨x, _, rfl⟩ := List.mem_map.1 hv; rfl) (by unfold maxLen; omega) (by omega) ?_; intro v3 w3 hown3 hg3 hb3; have hk3 : ∀ k, k < w2.heap.size → w3.heap[k]? = w2.heap[k]? := fun k hk => (hg3.block k (by simp; omega) (by simp [Value.ownBlock]; omega)).trans (Below.heap_alloc _ _ _ hk); have s3 : w3.cell? ⟨A.p, 0, none⟩ = some (.slice (some ⟨A.cb, 0, none⟩) S.cells.length S.cells.length) ∧ w3.cell? ⟨lb, 0, none⟩ = some (.int .i64 b.a) ∧ w3.cell? ⟨lb, 1, none⟩ = some (.int .i64 b.n) := ⟨(World.cell?_of_block (w := w2) (hk3 A.p hp2)).trans c0, (World.cell?_of_block (w := w2) (hk3 lb hlb2)).trans d0, (World.cell?_of_block (w := w2) (hk3 lb hlb2)).trans d1⟩))
            all_goals (
              have hOI : OwnIn w2 w3 ((ownC S.cells b m).map iv) v3 := own_in hown3 (by simp) HNE.out ((below_alloc _ _).drew) hg3 (by intro k hk; simp [Value.ownBlock] at hk; omega) hb3
              clear hown3 hg3 hb3 hk3
              go_wp2_with fail
              go_meet
              exact hOI)
          · have z1 : ¬ b.n < m := z0
            have hmin : min m b.n = m := by omega
            have HMIN := Lib.hid hmin
            clear hmin
            have hkk : m ≤ b.n := by omega
            have q1 : IntKind.i64.wrap ((b.a : Int) + m) = (b.a : Int) + m := IntWalk.i64_in _ (by omega)
            have q2 : 0 ≤ (b.a : Int) + m := by omega
            have q3 : ((b.a : Int) + m).toNat = b.a + m := by omega
            have q4 : b.a ≤ b.a + m := by omega
            have q5 : (b.a : Int) ≤ (b.a : Int) + m := by omega
            have q6 : (b.a : Int) + m ≤ S.cells.length := by omega
            have q7 : b.a + m ≤ S.cells.length := by omega
            have q8 : (0 : Int) ≤ b.a := by omega
            go_region_held3 (fun w' => w'.cell? ⟨A.p, 0, none⟩ = some (.slice (some ⟨A.cb, 0, none⟩) S.cells.length S.cells.length) ∧ w'.cell? ⟨lb, 0, none⟩ = some (.int .i64 b.a) ∧ w'.cell? ⟨lb, 1, none⟩ = some (.int .i64 b.n))
              (first | assumption | refine ⟨?_, ?_, ?_⟩ <;> (first | go_keep | (simp [*, World.cell?_alloc_some, World.cell?_setCell_far])))
              ((refine step_append_row rfl (.tmp 38) (.tmp 52) 38 rfl 2 i0 (.int .i64 0) 1 8 Try.underlying38 hi0 hz0 hz1 hz2 rfl Nat.one_pos (.slice (some ⟨w2.heap.size, 0, none⟩) 0 0) 0 [] rfl (World.ownsRow_made (base := 0) (e := 2) (size := 1) w2 #[] 0 (Nat.zero_le _) (by decide) (by simp)).drew ⟨A.cb, b.a, none⟩ m (S.cells.length - b.a) ((ownC S.cells b m).map iv) rfl (by rw [HOM.out, HMIN.out, Nat.mul_one]) (AR.out _ (fun k hk => Below.heap_alloc _ _ _ hk)) (by intro v hv; obtain ⟨x, _, rfl⟩ := List.mem_map.1 hv; rfl) (by unfold maxLen; omega) (by omega) ?_; intro v3 w3 hown3 hg3 hb3; have hk3 : ∀ k, k < w2.heap.size → w3.heap[k]? = w2.heap[k]? := fun k hk => (hg3.block k (by simp; omega) (by simp [Value.ownBlock]; omega)).trans (Below.heap_alloc _ _ _ hk); have s3 : w3.cell? ⟨A.p, 0, none⟩ = some (.slice (some ⟨A.cb, 0, none⟩) S.cells.length S.cells.length) ∧ w3.cell? ⟨lb, 0, none⟩ = some (.int .i64 b.a) ∧ w3.cell? ⟨lb, 1, none⟩ = some (.int .i64 b.n) := ⟨(World.cell?_of_block (w := w2) (hk3 A.p hp2)).trans c0, (World.cell?_of_block (w := w2) (hk3 lb hlb2)).trans d0, (World.cell?_of_block (w := w2) (hk3 lb hlb2)).trans d1⟩))
            all_goals (
              have hOI : OwnIn w2 w3 ((ownC S.cells b m).map iv) v3 := own_in hown3 (by simp) HNE.out ((below_alloc _ _).drew) hg3 (by intro k hk; simp [Value.ownBlock] at hk; omega) hb3
              clear hown3 hg3 hb3 hk3
              go_wp2_with fail
              go_meet
              exact hOI)
        case rest =>
          obtain ⟨g, c, spare, rfl, hg, hgc, hbc⟩ := (hcut : OwnIn w2 wc _ _)
          have H3 := H2.below hbc
          have hw3 := hbw.trans (hbc.mono hbw.size)
          have hgl : g < wc.heap.size := (Array.getElem?_eq_some_iff.1 hgc).1
          have AW : Away A wc g := ⟨hgl, fun hk => by have := H2.owns_lt hk; omega⟩
          have HGC := Lib.hid hgc
          clear hgc hbc hbx2 hlb2 hcb2 hp2 AR H2 hbw hg
          go_wp2_with fail
          refine (HLF.out _ H3).mono ?_
          rintro e w4 ⟨rfl, A4, H4, S4⟩
          obtain ⟨AW4, hg4⟩ := AW.step S4
          have S4' := (Step.of_below hw3).trans S4
          have hp4 := Lib.hid S4.p
          clear hw3 S4 AW hgl
          go_wp2_with fail
          have PL4 := HPL0.out w4 A4 H4
          rw [hp4.out] at PL4
          refine PL4.mono ?_
          clear PL4
          rintro e w5 ⟨rfl, hb5⟩
          have H5 : ArenaAt w5 A4 ⟨S.cells, eraseB h S.L⟩ := H4.below hb5
          have hg5 := (hb5.block g AW4.1).trans hg4
          have AW5 : Away A4 w5 g := ⟨Nat.lt_of_lt_of_le AW4.1 hb5.size, AW4.2⟩
          have S5 := S4'.trans (Step.of_below hb5)
          clear H4 hb5 hg4 AW4 S4'
          go_wp2_with fail
          have LA := lay_arena H5 ⟨b.h, r.a, m⟩ r.i hri HGN.out HI2.out
          simp only at LA
          rw [hp4.out, HBH.out] at LA
          refine LA.mono ?_
          clear LA
          rintro e w6 ⟨rfl, A6, H6', S6⟩
          have H6 : ArenaAt w6 A6 ⟨S.cells, insB (eraseB h S.L) r.i ⟨b.h, r.a, m⟩⟩ := H6'
          clear H6'
          obtain ⟨AW6, hg6⟩ := AW5.step S6
          have S6' := S5.trans S6
          have hg6' := hg6.trans hg5
          have d0 := H6.c0
          have hp6 : A6.p = A.p := S6.p.trans hp4.out
          rw [hp6] at d0
          simp only at d0
          have HP6 := Lib.hid hp6
          have HG6 := Lib.hid (hg6'.trans HGC.out)
          have q1 : r.a + m ≤ S.cells.length := hra
          have q2 : r.a ≤ r.a + m := by omega
          clear H5 AW5 hg5 S5 hg6 hg6' hp6 S6
          go_wp2_with (with_reducible refine wpList_clear_row rfl (.tmp 77) 38 rfl ?_)
          unfold ClearNext
          refine ⟨2, 2, .int .i64 0, _, A6.cb, r.a, _, _, S.cells.map iv, Try.underlying38, zero2 _, rfl, rfl, rfl, ?_, ?_, H6.hc, ?_, ?_⟩
          · rfl
          · omega
          · simp; omega
          intro w7 hg7 hgr7 hz7
          have hmm : r.a + m - r.a = m := by omega
          try simp only [hmm] at hg7
          have hl7 : (layCells S.cells r.a (List.replicate m 0)).length = S.cells.length := layCells_length (by simpa using hra)
          have H7 := H6.setCells (cells := layCells S.cells r.a (List.replicate m 0)) hl7 (by rw [layCells_map]; simpa [iv] using hg7) (fun q hq hne => hgr7.block q hq (by simpa using hne))
          have S7 := S6'.trans (A2 := A6) ⟨Keep.of_grown hgr7 (fun q e _ => by cases e; exact .inr (.inl rfl)), rfl, rfl, rfl, fun q hq => .inl hq⟩
          have HG7 := Lib.hid ((hgr7.block g AW6.1 (by intro e; cases e; exact AW6.2 (.inr (.inl rfl)))).trans HG6.out)
          have HL7 := Lib.hid hl7
          have d1 := H7.c0
          rw [HP6.out] at d1
          simp only [hl7] at d1
          clear hg7 hgr7 hz7 H6 S6' HG6 d0 hmm hl7
          go_wp2_with (refine wpList_copy_row rfl (.tmp 83) (.tmp 84) 38 38 rfl 2 Try.underlying38 Try.size2 _ _ _ _ _ _ rfl rfl A6.cb r.a ((layCells S.cells r.a (List.replicate m 0)).map iv) 2 H7.hc ((ownC S.cells b m).map iv) ?_ ?_ ?_ ?_ ?_)
          · have := HOL.out
            show _ = min _ _
            omega
          · intro _ j x hx
            have hj := (List.getElem?_eq_some_iff.1 hx).1
            rw [cell_of_list HG7.out, List.getElem?_append_left (by simpa using hj), List.getElem?_map, hx]
            rfl
          · have := HOL.out
            have := HL7.out
            omega
          · intro _ _
            rfl
          intro w8 hg8 hgr8 hz8
          have hl8 : (putC S.cells r.a m (ownC S.cells b m)).length = (layCells S.cells r.a (List.replicate m 0)).length := layCells_length (by have := HOL.out; have := HL7.out; omega)
          have H8 := H7.setCells (cells := putC S.cells r.a m (ownC S.cells b m)) (w' := w8) hl8 (by rw [hg8]; unfold putC; rw [layCells_map (layCells S.cells r.a (List.replicate m 0)) r.a]; simp only [splice, List.length_map, List.append_assoc]) (fun q hq hne => hgr8.block q hq (by simpa using hne))
          have S8 := S7.trans (A2 := A6) ⟨Keep.of_grown hgr8 (fun q e _ => by cases e; exact .inr (.inl rfl)), rfl, rfl, rfl, fun q hq => .inl hq⟩
          have HF := Lib.hid (show ResizePost w A S h m (.returned (.int .i64 0)) w8 from by
            unfold ResizePost; rw [HPR.out.1, HPR.out.2]
            exact ⟨rfl, A6, H8, S8⟩)
          clear hg8 hgr8 hz8 H8 S8 H7 S7 HG7 hl8
          go_wp2_with fail
          go_ret
          exact HF.out
end Go.Proofs.Ytpaopcnbgdlgnaa
