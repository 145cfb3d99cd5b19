/- The arena's calls that only read: what each answers. -/
import Derived.Test.YtpaopcnbgdlgnaaChecked
import Derived.Test.YtpaopcnbgdlgnaaArenaPure
namespace Go.Proofs.Ytpaopcnbgdlgnaa
open Go.RowKit Go.MapKept
set_option linter.unusedVariables false
set_option linter.unusedSimpArgs false
attribute [local go_sem] obj_alloc obj_drew obj_setCell

theorem zero64 (w : World) : (zeroValue 64).run Try.prog w = .ok (.agg #[.int .i64 0, .int .i64 0]) w := by kernel_rfl

theorem look_ok {w : World} {A : AP} {S : St} (h : ArenaAt w A S) : ∃ es clock, obj? w A.mb = some (.map es clock) ∧
    (∀ (W : World) (k : Int) (ok : Bool), obj? W A.mb = some (.map es clock) → (Instr.lookup 58 (.map (some A.mb)) (.int .i64 k) ok).run Try.prog W =
      .ok (if ok then .tuple #[((mapOf S.L) k).getD (.agg #[.int .i64 0, .int .i64 0]), .bool ((mapOf S.L) k).isSome] else ((mapOf S.L) k).getD (.agg #[.int .i64 0, .int .i64 0])) W) := by
  obtain ⟨es, clock, h1, h2⟩ := h.hm
  exact ⟨es, clock, h1, fun W k ok hW => run_lookup_int Try.underlying58 Try.underlying3 (zero64 W) hW h2 k ok⟩

theorem eql_nil_map (w : World) (r : Option Nat) : (binOp .eql 58 (.map r) (.map none)).run Try.prog w = .ok (.bool r.isNone) w := run_eql_map_nil w _ _ _ r Try.underlying58
attribute [local go_sem] eql_nil_map

set_option maxHeartbeats 400000 in
theorem find_any {w : World} {A : AP} {S : St} (H : ArenaAt w A S) (h : Int) :
    Calls Try.prog 41 #[.pointer (some ⟨A.p, 0, none⟩), .int .i64 h] w fun e w' => e = .returned (.tuple #[.agg #[.int .i64 (findR S.L h).1, .int .i64 (findR S.L h).2.1], .int .i64 (findR S.L h).2.2]) ∧ Below w.heap.size w w' := by
  obtain ⟨es, clock, hm, hlook⟩ := look_ok H
  have c1 := H.c1
  have hp := H.p_lt
  have hmb := H.mb_lt
  unfold findR
  cases hf : getB h S.L with
  | none =>
    have hl : mapOf S.L h = none := by simp [mapOf, hf]
    have hL := fun W => hlook W h true
    simp only [hl, Option.isSome_none, Option.getD_none, if_true] at hL
    clear hlook hf hl H
    go_enter Try.func41, Try.ntmps41
    go_wp2
    exact bodyPost_ret (v := .tuple #[.agg #[.int .i64 0, .int .i64 0], .int .i64 5]) (by simp [results, Try.results41, go_sem]) rfl ⟨rfl, (by repeat (first | exact Below.refl _ _ | refine Below.alloc ?_ (by first | (simp; done) | (simp; omega)) _ | refine Below.drew ?_ | refine Below.setCell ?_ (by first | (simp; done) | (simp; omega)) _))⟩
  | some b =>
    have hl : mapOf S.L h = some (blkV b) := by simp [mapOf, hf]
    have hL := fun W => hlook W h true
    simp only [hl, Option.isSome_some, Option.getD_some, if_true, blkV] at hL
    clear hlook hf hl H
    go_enter Try.func41, Try.ntmps41
    go_wp2
    exact bodyPost_ret (v := .tuple #[.agg #[.int .i64 b.a, .int .i64 b.n], .int .i64 0]) (by simp [results, Try.results41, go_sem]) rfl ⟨rfl, (by repeat (first | exact Below.refl _ _ | refine Below.alloc ?_ (by first | (simp; done) | (simp; omega)) _ | refine Below.drew ?_ | refine Below.setCell ?_ (by first | (simp; done) | (simp; omega)) _))⟩

set_option maxHeartbeats 400000 in
theorem len_any {w : World} {A : AP} {S : St} (H : ArenaAt w A S) (h : Int) :
    Calls Try.prog 19 #[.pointer (some ⟨A.p, 0, none⟩), .int .i64 h] w fun e w' => e = .returned (.int .i64 (findR S.L h).2.1) ∧ Below w.heap.size w w' := by
  generalize hr : findR S.L h = r
  have F := fun (W : World) (hW : ArenaAt W A S) => find_any hW h
  rw [hr] at F
  go_enter Try.func19, Try.ntmps19
  go_wp2_with fail
  refine (F _ H).mono ?_
  clear F
  rintro e w1 ⟨rfl, hb⟩
  go_wp2_with fail
  go_ret
  exact ⟨rfl, hb.alloc hb.size _⟩

set_option maxHeartbeats 400000 in
theorem addr_any {w : World} {A : AP} {S : St} (H : ArenaAt w A S) (h : Int) :
    Calls Try.prog 20 #[.pointer (some ⟨A.p, 0, none⟩), .int .i64 h] w fun e w' => e = .returned (.int .i64 (if (findR S.L h).2.2 = 0 then (findR S.L h).1 else -1)) ∧ Below w.heap.size w w' := by
  have h05 : (findR S.L h).2.2 = 0 ∨ (findR S.L h).2.2 = 5 := by unfold findR; split <;> simp
  generalize hr : findR S.L h = r at h05 ⊢
  obtain ⟨r1, r2, r3⟩ := r
  have F := fun (W : World) (hW : ArenaAt W A S) => find_any hW h
  rw [hr] at F
  clear hr
  simp only at h05 F ⊢
  rcases h05 with rfl | rfl
  all_goals
    go_enter Try.func20, Try.ntmps20
    go_wp2_with fail
    refine (F _ H).mono ?_
    clear F
    rintro e w1 ⟨rfl, hb⟩
    go_wp2_with fail
    go_ret
    exact ⟨rfl, hb.alloc hb.size _⟩

set_option maxHeartbeats 400000 in
theorem cell_any {w : World} {A : AP} {S : St} (H : ArenaAt w A S) (h i : Int) :
    Calls Try.prog 40 #[.pointer (some ⟨A.p, 0, none⟩), .int .i64 h, .int .i64 i] w fun e w' => e = .returned (.tuple #[.int .i64 (cellR S.L h i).1, .int .i64 (cellR S.L h i).2]) ∧ Below w.heap.size w w' := by
  have F := fun (W : World) (hW : ArenaAt W A S) => find_any hW h
  unfold findR at F
  unfold cellR
  cases hf : getB h S.L with
  | none =>
    rw [hf] at F
    clear hf
    simp only at F ⊢
    go_enter Try.func40, Try.ntmps40
    go_wp2_with fail
    refine (F _ H).mono ?_
    clear F
    rintro e w1 ⟨rfl, hb⟩
    go_wp2_with fail
    go_ret2
    exact ⟨rfl, hb.alloc hb.size _⟩
  | some b =>
    have hB := H.inv.get hf
    rw [hf] at F
    clear hf
    simp only at F ⊢
    obtain ⟨b1, b2, b3, b4, b5⟩ := hB
    by_cases h0 : 0 ≤ i
    · by_cases h1 : i < b.n
      · rw [if_pos ⟨h0, h1⟩]
        go_enter Try.func40, Try.ntmps40
        go_wp2_with fail
        refine (F _ H).mono ?_
        clear F
        rintro e w1 ⟨rfl, hb⟩
        go_wp2_with fail
        go_ret2
        exact ⟨rfl, hb.alloc hb.size _⟩
      · rw [if_neg (by omega)]
        go_enter Try.func40, Try.ntmps40
        go_wp2_with fail
        refine (F _ H).mono ?_
        clear F
        rintro e w1 ⟨rfl, hb⟩
        go_wp2_with fail
        go_ret2
        exact ⟨rfl, hb.alloc hb.size _⟩
    · rw [if_neg (by omega)]
      go_enter Try.func40, Try.ntmps40
      go_wp2_with fail
      refine (F _ H).mono ?_
      clear F
      rintro e w1 ⟨rfl, hb⟩
      go_wp2_with fail
      go_ret2
      exact ⟨rfl, hb.alloc hb.size _⟩

set_option maxHeartbeats 400000 in
theorem load_any {w : World} {A : AP} {S : St} (H : ArenaAt w A S) (h i : Int) :
    Calls Try.prog 18 #[.pointer (some ⟨A.p, 0, none⟩), .int .i64 h, .int .i64 i] w fun e w' => e = .returned (.tuple #[.int .i64 (loadR S h i).1, .int .i64 (loadR S h i).2]) ∧ Below w.heap.size w w' := by
  have F := fun (W : World) (hW : ArenaAt W A S) => cell_any hW h i
  have h05 := cellR_err (L := S.L) (h := h) (i := i)
  have hok := cellR_ok H.inv (h := h) (i := i)
  unfold loadR
  generalize hr : cellR S.L h i = r at h05 hok F ⊢
  clear hr
  obtain ⟨r1, r2⟩ := r
  simp only at h05 hok F ⊢
  rcases h05 with rfl | ⟨rfl, rfl | rfl⟩
  · obtain ⟨o1, o2⟩ := hok rfl
    obtain ⟨q, rfl⟩ := Int.eq_ofNat_of_zero_le o1
    have hsz := H.inv.size
    clear hok
    go_enter Try.func18, Try.ntmps18
    go_wp2_with fail
    refine (F _ H).mono ?_
    clear F
    rintro e w1 ⟨rfl, hb⟩
    have H1 := H.below hb
    have c0 := H1.c0
    have cq := H1.cc q (by omega)
    clear H1
    go_wp2_with fail
    go_ret2
    exact ⟨by simp, hb⟩
  all_goals
    clear hok
    go_enter Try.func18, Try.ntmps18
    go_wp2_with fail
    refine (F _ H).mono ?_
    clear F
    rintro e w1 ⟨rfl, hb⟩
    go_wp2_with fail
    go_ret2
    exact ⟨by simp, hb⟩

set_option maxHeartbeats 400000 in
theorem live_any {w : World} {A : AP} {S : St} (H : ArenaAt w A S) :
    Calls Try.prog 23 #[.pointer (some ⟨A.p, 0, none⟩)] w fun e w' => e = .returned (.int .i64 (liveL S.L)) ∧ w = w' := by
  have c3 := H.c3
  clear H
  go_enter Try.func23, Try.ntmps23
  go_wp2
  go_ret
  exact ⟨rfl, rfl⟩

set_option maxHeartbeats 400000 in
theorem size_any {w : World} {A : AP} {S : St} (H : ArenaAt w A S) :
    Calls Try.prog 28 #[.pointer (some ⟨A.p, 0, none⟩)] w fun e w' => e = .returned (.int .i64 S.cells.length) ∧ w = w' := by
  have c0 := H.c0
  have hsz := H.inv.size
  clear H
  go_enter Try.func28, Try.ntmps28
  go_wp2
  go_ret
  exact ⟨rfl, rfl⟩
end Go.Proofs.Ytpaopcnbgdlgnaa
