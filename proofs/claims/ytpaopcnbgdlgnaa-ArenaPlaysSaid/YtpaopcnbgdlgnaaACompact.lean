/- Compact. -/
import Derived.Test.YtpaopcnbgdlgnaaATop
namespace Go.Proofs.Ytpaopcnbgdlgnaa
open Go.RowKit Go.MapKept
set_option linter.unusedVariables false
set_option linter.unusedSimpArgs false
attribute [local go_sem] obj_alloc obj_drew obj_setCell eql_nil_map field_n

/-! ### in plain Lean -/
def moveC (cells : List Int) (lo : Nat) (b : Blk) : List Int := if b.a = lo then cells else layCells cells lo ((cells.drop b.a).take b.n)
def compC : List Int → Nat → List Blk → List Int
  | cells, _, [] => cells
  | cells, lo, b :: l => compC (moveC cells lo b) (lo + b.n) l
def compL : Nat → List Blk → List Blk
  | _, [] => []
  | lo, b :: l => ⟨b.h, lo, b.n⟩ :: compL (lo + b.n) l
def compM : Nat → List Blk → Nat
  | _, [] => 0
  | lo, b :: l => (if b.a = lo then 0 else 1) + compM (lo + b.n) l

def compactS (S : St) : St := ⟨compC S.cells 0 S.L, compL 0 S.L⟩

theorem compM_le (lo : Nat) : ∀ (L : List Blk), compM lo L ≤ L.length := by
  intro L
  induction L generalizing lo with
  | nil => exact Nat.le_refl _
  | cons b l ih =>
    have := ih (lo + b.n)
    unfold compM
    split <;> simp <;> omega

theorem laid_app : ∀ {L : List Blk} {lo : Nat} {R : List Blk}, Laid lo (L ++ R) ↔ Laid lo L ∧ Laid (topL lo L) R := by
  intro L
  induction L with
  | nil => intro lo R; simp [Laid, topL]
  | cons b l ih =>
    intro lo R
    show (lo ≤ b.a ∧ 1 ≤ b.n ∧ 1 ≤ b.h ∧ Laid (b.a + b.n) (l ++ R)) ↔ (lo ≤ b.a ∧ 1 ≤ b.n ∧ 1 ≤ b.h ∧ Laid (b.a + b.n) l) ∧ Laid (topL (b.a + b.n) l) R
    rw [ih]
    constructor
    · rintro ⟨h1, h2, h3, h4, h5⟩; exact ⟨⟨h1, h2, h3, h4⟩, h5⟩
    · rintro ⟨⟨h1, h2, h3, h4⟩, h5⟩; exact ⟨h1, h2, h3, h4, h5⟩

theorem topL_app : ∀ {L : List Blk} {lo : Nat} {R : List Blk}, topL lo (L ++ R) = topL (topL lo L) R := by
  intro L
  induction L with
  | nil => intro lo R; rfl
  | cons b l ih => intro lo R; exact ih

/-- One block has moved down to where those ahead of it end. -/
theorem Inv.move {cells : List Int} {pre rest : List Blk} {b : Blk} (h : Inv ⟨cells, pre ++ b :: rest⟩) {cells' : List Int} (hc : cells'.length = cells.length) :
    Inv ⟨cells', (pre ++ [⟨b.h, topL 0 pre, b.n⟩]) ++ rest⟩ ∧ topL 0 pre ≤ b.a := by
  obtain ⟨h1, h2⟩ := laid_app.1 h.laid
  obtain ⟨g1, g2, g3, g4⟩ := h2
  have hl : Laid 0 ((pre ++ [⟨b.h, topL 0 pre, b.n⟩]) ++ rest) := by
    rw [List.append_assoc, laid_app]
    exact ⟨h1, Nat.le_refl _, g2, g3, laid_mono (by simp only; omega) g4⟩
  refine ⟨⟨hl, ?_, ?_, by rw [hc]; exact h.size, by rw [hc]; exact h.pos, ?_⟩, g1⟩
  · rw [hc]
    refine Nat.le_trans ?_ h.top
    simp only
    rw [List.append_assoc, topL_app, topL_app, topL_app (L := pre) (R := b :: rest)]
    show topL (topL 0 pre + b.n) rest ≤ topL (b.a + b.n) rest
    cases rest with
    | nil => show topL 0 pre + b.n ≤ b.a + b.n; omega
    | cons c r => exact Nat.le_refl _
  · have := h.nodup
    simp only at this ⊢
    simpa using this
  · intro x hx
    simp only [List.mem_append, List.mem_singleton] at hx
    rcases hx with (hx | rfl) | hx
    · exact h.small x (by simp [hx])
    · exact h.small b (by simp)
    · exact h.small x (by simp [hx])

theorem getB_app {k : Int} {R : List Blk} : ∀ {L : List Blk}, getB k L = none → getB k (L ++ R) = getB k R := by
  intro L
  induction L with
  | nil => intro _; rfl
  | cons c l ih =>
    intro h
    have h1 := getB_none.1 h c (by simp)
    have h2 : getB k l = none := getB_none.2 fun x hx => getB_none.1 h x (by simp [hx])
    rw [List.cons_append]
    simp [getB, h1, ih h2]

theorem getB_app_some {k : Int} {R : List Blk} {b : Blk} : ∀ {L : List Blk}, getB k L = some b → getB k (L ++ R) = some b := by
  intro L
  induction L with
  | nil => intro h; simp [getB] at h
  | cons c l ih =>
    intro h
    unfold getB at h
    rw [List.cons_append]
    unfold getB
    split at h
    · rename_i hc; rw [if_pos hc]; exact h
    · rename_i hc; rw [if_neg hc]; exact ih h

theorem mapOf_move {pre rest : List Blk} {b : Blk} (lo : Nat) (hn : ((pre ++ b :: rest).map (·.h)).Nodup) : updM (mapOf (pre ++ b :: rest)) b.h (some (.agg #[.int .i64 lo, .int .i64 b.n])) = mapOf ((pre ++ [⟨b.h, lo, b.n⟩]) ++ rest) := by
  have hpre : getB b.h pre = none := by
    rw [getB_none]
    intro x hx e
    have : x.h = b.h := by omega
    simp only [List.map_append, List.map_cons] at hn
    rw [List.nodup_append] at hn
    exact hn.2.2 x.h (List.mem_map.2 ⟨x, hx, rfl⟩) b.h (by simp) this
  funext k
  unfold updM mapOf
  rw [List.append_assoc]
  by_cases e : k = b.h
  · subst e
    rw [if_pos rfl, getB_app hpre]
    simp [getB, blkV]
  · rw [if_neg e]
    have hk : ¬ (b.h : Int) = k := fun h => e h.symm
    cases hg : getB k pre with
    | some x => rw [getB_app_some hg, getB_app_some hg]
    | none => rw [getB_app hg, getB_app hg]; simp [getB, hk]

theorem live_app : ∀ {L R : List Blk}, liveL (L ++ R) = liveL L + liveL R := by
  intro L
  induction L with
  | nil => intro R; simp [liveL]
  | cons b l ih => intro R; rw [List.cons_append]; simp only [liveL, ih]; omega

theorem moveC_length {cells : List Int} {lo : Nat} {b : Blk} (h1 : lo ≤ b.a) (h2 : b.a + b.n ≤ cells.length) : (moveC cells lo b).length = cells.length := by
  unfold moveC
  split
  · rfl
  · refine layCells_length ?_
    simp; omega

/-! ### the walk -/
theorem Try.size2 : (Try.prog.info? 2).map (·.size) = some 1 := by kernel_rfl

def CompactPost (w : World) (A : AP) (S : St) (e : Ending) (w' : World) : Prop := e = .returned (.int .i64 (compM 0 S.L)) ∧ ArenaAt w' A (compactS S) ∧ Step w w' A A

set_option maxHeartbeats 2000000 in
theorem compact_any {w : World} {A : AP} {S : St} (H : ArenaAt w A S) :
    Calls Try.prog 24 #[.pointer (some ⟨A.p, 0, none⟩)] w fun e w' => CompactPost w A S e w' := by
  obtain ⟨ra, rc, hrv, hg⟩ := H.rv_eq
  have hsz := H.inv.size
  have hle := H.inv.length
  have c2 := H.c2
  obtain ⟨N, hN⟩ : ∃ N, N = S.L.length := ⟨_, rfl⟩
  have hN1 : N ≤ 65536 := by omega
  rw [hrv, ← hN] at c2
  have HN := Lib.hid hN
  have HRV := Lib.hid hrv
  have HG := Lib.hid hg
  clear hN hle hrv hg
  go_enter Try.func24, Try.ntmps24
  go_wp2_with fail
  clear c2
  go_loopw [3, 4, 15] (fun t3 t4 t15 wr => ∃ (k mv : Nat) (cells : List Int) (pre : List Blk), k ≤ N ∧ t15 = .int .i64 k ∧ t3 = .int .i64 (topL 0 pre) ∧ t4 = .int .i64 mv ∧ mv ≤ k ∧ pre.length = k ∧ cells.length = S.cells.length ∧
      ArenaAt wr A ⟨cells, pre ++ S.L.drop k⟩ ∧ Step w wr A A ∧ compC cells (topL 0 pre) (S.L.drop k) = compC S.cells 0 S.L ∧ pre ++ compL (topL 0 pre) (S.L.drop k) = compL 0 S.L ∧ mv + compM (topL 0 pre) (S.L.drop k) = compM 0 S.L)
    (fun _ _ t15 _ => N - (intOf t15).toNat)
  case atStart => exact ⟨0, 0, S.cells, [], Nat.zero_le _, rfl, rfl, rfl, Nat.le_refl _, rfl, rfl, H, Step.of_below (Below.refl _ _), rfl, rfl, by simp [topL]⟩
  case round =>
    obtain ⟨k, mv, cells, pre, hk, rfl, rfl, rfl, hmv, hpl, hcl, H1, S1, e1, e2, e3⟩ := hrel
    by_cases hlt : k < N
    · have hkL : k < S.L.length := by have := HN.out; omega
      have hdrop : S.L.drop k = S.L[k] :: S.L.drop (k + 1) := List.drop_eq_getElem_cons hkL
      generalize S.L[k] = b at hdrop
      rw [hdrop] at e1 e2 e3 H1
      have hne : S.L ≠ [] := by intro e; rw [e] at hkL; simp at hkL
      obtain ⟨g, rfl⟩ := HG.out hne
      have hlen : pre.length < (pre ++ b :: S.L.drop (k + 1)).length := by simp
      have rk := H1.rowcell HRV.out (i := pre.length) hlen
      simp only [List.getElem_append_right (Nat.le_refl _), Nat.sub_self, List.getElem_cons_zero] at rk
      rw [hpl] at rk
      have hbm : b ∈ pre ++ b :: S.L.drop (k + 1) := by simp
      have hget := getB_of_mem H1.inv.nodup hbm
      obtain ⟨m1, m2, m3, m4, m5⟩ := H1.inv.mem hbm
      obtain ⟨es, clock, hm, hlook⟩ := look_ok H1
      have hL := fun W hW => hlook W b.h false hW
      simp only [mapOf, hget, Option.map_some, Option.getD_some, blkV] at hL
      simp at hL
      have hmb := H1.mb_lt
      have hp := H1.p_lt
      have c0 := H1.c0
      have c1 := H1.c1
      simp only at m3 c0
      rw [hcl] at m3 c0
      have hmv2 := (H1.inv.move (cells' := cells) rfl).2
      obtain ⟨lo, hlo⟩ : ∃ lo, lo = topL 0 pre := ⟨_, rfl⟩
      rw [← hlo] at hmv2 e1 e2 e3 ⊢
      have hlo6 : lo ≤ 65536 := by omega
      have E1 := Lib.hid e1
      have E2 := Lib.hid e2
      have E3 := Lib.hid e3
      have HLO := Lib.hid hlo
      have HPL := Lib.hid hpl
      have HCL := Lib.hid hcl
      have HDR := Lib.hid hdrop
      clear e1 e2 e3 hlo hpl hcl hdrop hlook hget hbm hlen hne
      by_cases hba : b.a = lo
      · have t1 : ((b.a : Int) != lo) = false := by simp [hba]
        have HBA := Lib.hid hba
        clear hba
        go_wp2_with fail
        go_roundw
        case rel =>
          have f1 := E1.out
          have f2 := E2.out
          have f3 := E3.out
          simp only [compC, compL, compM, moveC, if_pos HBA.out] at f1 f2 f3
          have hb : b = ⟨b.h, lo, b.n⟩ := by rw [← HBA.out]
          have ht : topL 0 (pre ++ [b]) = lo + b.n := by rw [topL_app]; show b.a + b.n = _; rw [HBA.out]
          refine ⟨k + 1, mv, cells, pre ++ [b], by omega, by go_num, by rw [ht]; go_num, rfl, by omega, by simp [HPL.out], HCL.out, ?_, S1.trans (Step.of_below (below_alloc _ _)), by rw [ht]; exact f1, ?_, by rw [ht]; omega⟩
          · rw [List.append_assoc]; exact H1.below (below_alloc _ _)
          · rw [ht, ← f2, ← hb]; simp
        case measure => simp [intOf]; omega
      · have t1 : ((b.a : Int) != lo) = true := by simp; omega
        have HBA := Lib.hid hba
        clear hba
        go_wp2_with fail
        have H2 := H1.below (below_alloc wr (.cells #[.int .i64 b.a, .int .i64 b.n] 64))
        have hbx := Box.new wr [.int .i64 b.a, .int .i64 b.n] 64
        have S2 := S1.trans (Step.of_below (below_alloc wr (.cells #[.int .i64 b.a, .int .i64 b.n] 64)))
        have hcbl := H1.cb_lt
        have hmbl := H1.mb_lt
        obtain ⟨W1, hW1⟩ : ∃ W1, W1 = wr.alloc (.cells #[.int .i64 b.a, .int .i64 b.n] 64) := ⟨_, rfl⟩
        obtain ⟨lb, hlb⟩ : ∃ lb, lb = wr.heap.size := ⟨_, rfl⟩
        rw [← hlb] at hbx hcbl hmbl ⊢
        rw [← hW1] at H2 hbx S2 ⊢
        clear hW1 hlb c0 c1 rk hL hm hmb hp H1 S1
        have c0 := H2.c0
        have c1 := H2.c1
        have d0 := hbx.cell 0
        have d1 := hbx.cell 1
        simp only [List.getElem?_cons_zero, List.getElem?_cons_succ] at d0 d1
        simp only at c0
        rw [HCL.out] at c0
        have q1 : IntKind.i64.wrap ((b.a : Int) + b.n) = (b.a : Int) + b.n := IntWalk.i64_in _ (by omega)
        have q2 : 0 ≤ (b.a : Int) + b.n := by omega
        have q3 : ((b.a : Int) + b.n).toNat = b.a + b.n := by omega
        have q4 : lo ≤ S.cells.length := by omega
        have q5 : (lo : Int) ≤ S.cells.length := by omega
        have q6 : b.a ≤ b.a + b.n := by omega
        have q7 : (b.a : Int) ≤ (b.a : Int) + b.n := by omega
        have q8 : (b.a : Int) + b.n ≤ S.cells.length := by omega
        refine wp_region_still_tail 18 (by kernel_rfl) (by kernel_rfl) ?_
        simp only [List.take_succ_cons, List.take_zero, List.drop_succ_cons, List.drop_zero]
        change wpStill _ _ (World.drew W1) _ _ _
        repeat still_step
        refine wpStill_nil ?_
        change wpList _ _ _ _ _ (World.drew W1)
        clear q1 q2 q3 q4 q5 q6 q7 q8 c0 c1
        refine wpList_copy_row rfl (.tmp 34) (.tmp 46) 38 38 rfl 2 Try.underlying38 Try.size2 _ _ _ _ _ _ rfl rfl A.cb lo (cells.map iv) 2 H2.hc (((cells.drop b.a).take b.n).map iv) ?_ ?_ ?_ ?_ ?_
        · show _ = min _ _
          have := HCL.out
          simp; omega
        · intro h0
          have hcl := HCL.out
          refine ⟨by rw [if_neg (by omega)], ⟨A.cb, b.a, none⟩, by rw [if_neg (by omega)], ?_⟩
          intro j v hv
          have hj := (List.getElem?_eq_some_iff.1 hv).1
          simp at hj
          rw [addr_add]
          change W1.cell? ⟨A.cb, b.a + j, none⟩ = some v
          rw [cell_of_list H2.hc, ← hv, List.getElem?_map, List.getElem?_map, List.getElem?_take_of_lt (by omega), List.getElem?_drop]
        · have := HCL.out
          simp; omega
        · intro v hv
          obtain ⟨x, _, rfl⟩ := List.mem_map.1 hv
          rfl
        intro w3 hg3 hgr3 hz3
        have hl3 : (layCells cells lo ((cells.drop b.a).take b.n)).length = cells.length := layCells_length (by have := HCL.out; simp; omega)
        have H3 := H2.setCells (cells := layCells cells lo ((cells.drop b.a).take b.n)) (w' := w3) hl3 (by rw [hg3, layCells_map]; simp [splice]) (fun q hq hne => hgr3.block q hq (by simpa using hne))
        have hb3 := hbx.of_block (hgr3.block lb hbx.lt (by simp; omega))
        have S3 : Step W1 w3 A A := ⟨Keep.of_grown (w := W1) ⟨hgr3.os, hgr3.tape, hgr3.output, hgr3.size, hgr3.block⟩ (fun q e _ => by cases e; exact .inr (.inl rfl)), rfl, rfl, rfl, fun q hq => .inl hq⟩
        have S3' := S2.trans S3
        generalize (if S.cells.length = lo then some (⟨A.cb, 0, none⟩ : Addr) else some ⟨A.cb, lo, none⟩) = A33
        generalize (if S.cells.length = b.a then some (⟨A.cb, 0, none⟩ : Addr) else some ⟨A.cb, b.a, none⟩) = A39
        clear hg3 hgr3 hz3 d0 d1 H2 S2 S3 hbx
        have c1 := H3.c1
        have d0 := hb3.cell 0
        have d1 := hb3.cell 1
        simp only [List.getElem?_cons_zero, List.getElem?_cons_succ] at d0 d1
        go_wp2_with fail
        refine wp_region_still_tail 9 (by kernel_rfl) (by kernel_rfl) ?_
        simp only [List.take_succ_cons, List.take_zero, List.drop_succ_cons, List.drop_zero]
        change wpStill _ _ (World.drew w3) _ _ _
        repeat still_step
        refine wpStill_nil ?_
        change wpList _ _ _ _ _ (World.drew w3)
        refine wpList_mapUpdate_i rfl _ _ _ 58 rfl 3 64 Try.underlying58 Try.underlying3 A.mb _ H3.hm rfl b.h rfl (.agg #[.int .i64 lo, .int .i64 b.n]) rfl ?_
        intro w4 hm4 hg4 hz4
        have hg4' : w3.grownBy w4 (some A.mb) := ⟨hg4.os, hg4.tape, hg4.output, hg4.size, hg4.block⟩
        have hinv := (H3.inv.move (cells' := layCells cells lo ((cells.drop b.a).take b.n)) rfl).1
        rw [← HLO.out] at hinv
        have R4 := (H3.raw).turnMap hm4 hg4'
        have H4 := R4.arena (L := (pre ++ [⟨b.h, lo, b.n⟩]) ++ S.L.drop (k + 1)) (by simp only [live_app, liveL]; omega) (mapOf_move lo H3.inv.nodup) (by simp) hinv
        have hb4 := hb3.of_block (hg4'.block lb hb3.lt (by simp; omega))
        have S4 := S3'.trans (A2 := A) ⟨Keep.of_grown hg4' (fun q e _ => by cases e; exact .inr (.inr (.inl rfl))), rfl, rfl, rfl, fun q hq => .inl hq⟩
        clear hm4 hg4 hz4 hg4' hinv R4 H3 S3' hb3 d0 d1 c1
        have d1 := hb4.cell 1
        simp only [List.getElem?_cons_zero, List.getElem?_cons_succ] at d1
        go_wp2_with fail
        go_roundw
        case rel =>
          have f1 := E1.out
          have f2 := E2.out
          have f3 := E3.out
          simp only [compC, compL, compM, moveC, if_neg HBA.out] at f1 f2 f3
          have ht : topL 0 (pre ++ [⟨b.h, lo, b.n⟩]) = lo + b.n := by rw [topL_app]; rfl
          refine ⟨k + 1, mv + 1, _, pre ++ [⟨b.h, lo, b.n⟩], by omega, by go_num, by rw [ht]; go_num, by go_num, by omega, by simp [HPL.out], hl3.trans HCL.out, H4, S4, by rw [ht]; exact f1, ?_, by rw [ht]; omega⟩
          rw [ht, ← f2]; simp
        case measure => simp [intOf]; omega
    · have hkN : k = N := by omega
      have hd : S.L.drop k = [] := by have := HN.out; simp; omega
      have HP : CompactPost w A S (.returned (.int .i64 mv)) wr := by
        rw [hd] at e1 e2 e3 H1
        simp only [compC, compL, compM, List.append_nil, Nat.add_zero] at e1 e2 e3 H1
        exact ⟨by rw [e3], by unfold compactS; rw [← e1, ← e2]; exact H1, S1⟩
      have HP := Lib.hid HP
      clear e1 e2 e3 hd hkN
      go_wp2_with fail
      go_ret
      exact HP.out
end Go.Proofs.Ytpaopcnbgdlgnaa
