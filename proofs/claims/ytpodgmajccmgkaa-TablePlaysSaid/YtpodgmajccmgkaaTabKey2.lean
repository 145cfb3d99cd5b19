/- Keys: num.Key, table.key. -/
import Derived.Test.YtpodgmajccmgkaaTabKey
namespace Go.Proofs.Ytpodgmajccmgkaa
open Go.RowKit
set_option linter.unusedVariables false
set_option linter.unusedSimpArgs false

def numKey (v : V) : V := match wholeR v with | some n => ⟨2, n⟩ | none => v

theorem box_v2 {w w1 : World} {t n : Int} {e : TypeId} {o : Obj} (hb : Below (w.heap.size + 1 + 1) ((w.alloc (.cells #[.int .i64 t, .int .i64 n] e)).alloc o) w1) :
    w1.cell? ⟨w.heap.size, 0, none⟩ = some (.int .i64 t) ∧ w1.cell? ⟨w.heap.size, 1, none⟩ = some (.int .i64 n) ∧ w1.heap[w.heap.size + 1]? = some o ∧ Below w.heap.size w w1 := by
  have hs : (w.alloc (.cells #[.int .i64 t, .int .i64 n] e)).heap.size = w.heap.size + 1 := by simp
  have h0 : ((w.alloc (.cells #[.int .i64 t, .int .i64 n] e)).alloc o).heap[w.heap.size]? = some (.cells [.int .i64 t, .int .i64 n].toArray e (0, 0)) :=
    (Below.heap_alloc _ _ _ (by simp)).trans (heap_alloc_new w _)
  have h1 : w1.heap[w.heap.size]? = some (.cells [.int .i64 t, .int .i64 n].toArray e (0, 0)) := (hb.block _ (by omega)).trans h0
  have h2 : ((w.alloc (.cells #[.int .i64 t, .int .i64 n] e)).alloc o).heap[w.heap.size + 1]? = some o := by
    have := heap_alloc_new (w.alloc (.cells #[.int .i64 t, .int .i64 n] e)) o
    rwa [hs] at this
  refine ⟨cell_of_list h1 0, cell_of_list h1 1, (hb.block _ (by omega)).trans h2, ?_⟩
  exact ((below_alloc w _).alloc (by simp) o).trans (hb.mono (by omega))

theorem below_up2 {w w1 : World} {o o' : Obj} (hb : Below ((w.alloc o).alloc o').heap.size ((w.alloc o).alloc o') w1) : Below (w.heap.size + 1 + 1) ((w.alloc o).alloc o') w1 := by
  have : ((w.alloc o).alloc o').heap.size = w.heap.size + 1 + 1 := by simp
  rw [← this]; exact hb

theorem zero_cells {w1 : World} {b : Nat} {e : TypeId} (h : w1.heap[b]? = some (.cells #[.int .i64 0, .int .i64 0] e (0, 0))) : w1.cell? ⟨b, 0, none⟩ = some (.int .i64 0) ∧ w1.cell? ⟨b, 1, none⟩ = some (.int .i64 0) ∧ w1.frozen? ⟨b, 0, none⟩ = false ∧ w1.frozen? ⟨b, 1, none⟩ = false := by
  refine ⟨?_, ?_, ?_, ?_⟩ <;> simp [World.cell?, World.frozen?, h]

set_option maxHeartbeats 1000000 in
theorem numkey_any (v : V) (w : World) : Calls Try.prog 45 #[v.val] w fun e w' => e = .returned (numKey v).val ∧ Below w.heap.size w w' := by
  have W := whole_any v
  obtain ⟨t, n⟩ := v
  cases hr : wholeR ⟨t, n⟩ with
  | none =>
    have hk : numKey ⟨t, n⟩ = ⟨t, n⟩ := by unfold numKey; rw [hr]
    rw [hr] at W
    rw [hk]
    clear hr hk
    unfold V.val at *
    simp only at *
    go_enter Try.func45, Try.ntmps45
    go_wp2_with fail
    refine (W _).mono ?_
    clear W
    rintro e w1 ⟨⟨k, hk0, rfl⟩, hb⟩
    obtain ⟨d0, d1, hz, hB⟩ := box_v2 (below_up2 hb)
    obtain ⟨z0, z1, z2, z3⟩ := zero_cells hz
    have HB := Lib.hid hB
    clear hb hz hB
    go_wp2_with fail
    exact bodyPost_ret (v := .agg #[.int .i64 t, .int .i64 n]) (by simp [results, Try.results45, go_sem, z0, z1]) rfl ⟨rfl, (HB.out.setCell (p := ⟨w.heap.size + 1, 0, none⟩) (Nat.le_succ _) _).setCell (p := ⟨w.heap.size + 1, 1, none⟩) (Nat.le_succ _) _⟩
  | some m =>
    have hk : numKey ⟨t, n⟩ = ⟨2, m⟩ := by unfold numKey; rw [hr]
    rw [hr] at W
    rw [hk]
    clear hr hk
    unfold V.val at *
    simp only at *
    go_enter Try.func45, Try.ntmps45
    go_wp2_with fail
    refine (W _).mono ?_
    clear W
    rintro e w1 ⟨rfl, hb⟩
    obtain ⟨d0, d1, hz, hB⟩ := box_v2 (below_up2 hb)
    have HZ := Lib.hid hz
    have HB := Lib.hid hB
    clear hb hz hB
    go_wp2_with fail
    refine (int_any m _).mono ?_
    rintro e w2 ⟨rfl, hb⟩
    have hz2 := (hb.block _ (Array.getElem?_eq_some_iff.1 HZ.out).1).trans HZ.out
    obtain ⟨z0, z1, z2, z3⟩ := zero_cells hz2
    have HB2 := Lib.hid (HB.out.trans (hb.mono HB.out.size))
    clear hb hz2
    unfold V.val
    go_wp2_with fail
    exact bodyPost_ret (v := .agg #[.int .i64 2, .int .i64 m]) (by simp [results, Try.results45, go_sem, z0, z1]) rfl ⟨rfl, (HB2.out.setCell (p := ⟨w.heap.size + 1, 0, none⟩) (Nat.le_succ _) _).setCell (p := ⟨w.heap.size + 1, 1, none⟩) (Nat.le_succ _) _⟩

/-- A value as a key, if it can be one. -/
def keyR (v : V) : Option V := if v.t = 0 ∨ v.t = 11 then none else if v.t = 3 ∧ (isR v = false ∨ nanB (ofB v) = true) then none else some (numKey v)

set_option maxHeartbeats 1000000 in
theorem key_any (v : V) (w : World) : Calls Try.prog 29 #[v.val] w fun e w' => (match keyR v with
    | some k => e = .returned (.tuple #[k.val, .bool true])
    | none => e = .returned (.tuple #[v.val, .bool false])) ∧ Below w.heap.size w w' := by
  have O := of_any v
  have K := numkey_any v
  obtain ⟨t, n⟩ := v
  by_cases h0 : t = 0 ∨ t = 11
  · have hk : keyR ⟨t, n⟩ = none := by unfold keyR; rw [if_pos h0]
    rw [hk]
    clear hk O K
    unfold V.val at *
    simp only at *
    rcases h0 with h0 | h0
    · subst h0
      go_enter Try.func29, Try.ntmps29
      go_wp2_with fail
      exact bodyPost_ret (v := .tuple #[.agg #[.int .i64 0, .int .i64 n], .bool false]) (by simp [results, Try.results29, go_sem]) rfl ⟨rfl, (by repeat (first | exact Below.refl _ _ | refine Below.alloc ?_ (by first | (simp; done) | (simp; omega)) _ | refine Below.drew ?_ | refine Below.setCell ?_ (by first | (simp; done) | (simp; omega)) _))⟩
    · subst h0
      go_enter Try.func29, Try.ntmps29
      go_wp2_with fail
      exact bodyPost_ret (v := .tuple #[.agg #[.int .i64 11, .int .i64 n], .bool false]) (by simp [results, Try.results29, go_sem]) rfl ⟨rfl, (by repeat (first | exact Below.refl _ _ | refine Below.alloc ?_ (by first | (simp; done) | (simp; omega)) _ | refine Below.drew ?_ | refine Below.setCell ?_ (by first | (simp; done) | (simp; omega)) _))⟩
  · have ha : ¬ t = 0 := fun h => h0 (.inl h)
    have hb : ¬ t = 11 := fun h => h0 (.inr h)
    by_cases h3 : t = 3
    · subst h3
      by_cases hbad : isR ⟨3, n⟩ = false ∨ nanB (ofB ⟨3, n⟩) = true
      · have hk : keyR ⟨3, n⟩ = none := by unfold keyR; rw [if_neg h0, if_pos ⟨rfl, hbad⟩]
        rw [hk]
        clear hk K h0 ha hb
        obtain ⟨q, hq⟩ : ∃ q, q = isR ⟨3, n⟩ := ⟨_, rfl⟩
        obtain ⟨b, hb⟩ : ∃ b, b = ofB ⟨3, n⟩ := ⟨_, rfl⟩
        rw [← hq, ← hb] at hbad O
        clear hq hb
        unfold V.val at *
        simp only at *
        go_enter Try.func29, Try.ntmps29
        go_wp2_with fail
        refine (O _).mono ?_
        clear O
        rintro e w1 ⟨rfl, hb⟩
        obtain ⟨d0, d1, hz, hB⟩ := box_v2 (below_up2 hb)
        obtain ⟨z0, z1, z2, z3⟩ := zero_cells hz
        have HB := Lib.hid hB
        clear hb hz hB
        have hor : (q = false) ∨ (q = true ∧ (FloatKind.f64.format.order b b != some Ordering.eq) = true) := by
          cases q with
          | false => exact .inl rfl
          | true => exact .inr ⟨rfl, by rcases hbad with h | h; · simp at h
                                        · exact h⟩
        clear hbad
        rcases hor with rfl | ⟨rfl, hn⟩
        all_goals
          go_wp2_with fail
          exact bodyPost_ret (v := .tuple #[.agg #[.int .i64 3, .int .i64 n], .bool false]) (by simp [results, Try.results29, go_sem, z0, z1]) rfl ⟨rfl, (HB.out.setCell (p := ⟨w.heap.size + 1, 0, none⟩) (Nat.le_succ _) _).setCell (p := ⟨w.heap.size + 1, 1, none⟩) (Nat.le_succ _) _⟩
      · have hk : keyR ⟨3, n⟩ = some (numKey ⟨3, n⟩) := by unfold keyR; rw [if_neg h0, if_neg (fun h => hbad h.2)]
        rw [hk]
        clear hk h0 ha hb
        have hq : isR ⟨3, n⟩ = true := by
          cases h : isR ⟨3, n⟩ with
          | true => rfl
          | false => exact absurd (.inl h) hbad
        have hn : (FloatKind.f64.format.order (ofB ⟨3, n⟩) (ofB ⟨3, n⟩) != some Ordering.eq) = false := by
          cases h : nanB (ofB ⟨3, n⟩) with
          | false => exact h
          | true => exact absurd (.inr h) hbad
        rw [hq] at O
        obtain ⟨b, hb⟩ : ∃ b, b = ofB ⟨3, n⟩ := ⟨_, rfl⟩
        rw [← hb] at hn O
        clear hb hq hbad
        obtain ⟨kk, hkk⟩ : ∃ kk, kk = numKey ⟨3, n⟩ := ⟨_, rfl⟩
        rw [← hkk] at K ⊢
        clear hkk
        unfold V.val at *
        simp only at *
        go_enter Try.func29, Try.ntmps29
        go_wp2_with fail
        refine (O _).mono ?_
        clear O
        rintro e w1 ⟨rfl, hb⟩
        obtain ⟨d0, d1, hz, hB⟩ := box_v2 (below_up2 hb)
        have HZ := Lib.hid hz
        have HB := Lib.hid hB
        clear hb hz hB
        go_wp2_with fail
        refine (K _).mono ?_
        clear K
        rintro e w2 ⟨rfl, hb⟩
        have hz2 := (hb.block _ (Array.getElem?_eq_some_iff.1 HZ.out).1).trans HZ.out
        obtain ⟨z0, z1, z2, z3⟩ := zero_cells hz2
        have HB2 := Lib.hid (HB.out.trans (hb.mono HB.out.size))
        clear hb hz2
        go_wp2_with fail
        exact bodyPost_ret (v := .tuple #[.agg #[.int .i64 kk.t, .int .i64 kk.n], .bool true]) (by simp [results, Try.results29, go_sem, z0, z1]) rfl ⟨rfl, (HB2.out.setCell (p := ⟨w.heap.size + 1, 0, none⟩) (Nat.le_succ _) _).setCell (p := ⟨w.heap.size + 1, 1, none⟩) (Nat.le_succ _) _⟩
    · have hk : keyR ⟨t, n⟩ = some (numKey ⟨t, n⟩) := by unfold keyR; rw [if_neg h0, if_neg (fun h => h3 h.1)]
      rw [hk]
      have ha' : (t == 0) = false := by simp [ha]
      have hb' : (t == 11) = false := by simp [hb]
      have h3' : (t == 3) = false := by simp [h3]
      clear hk h0 O
      obtain ⟨kk, hkk⟩ : ∃ kk, kk = numKey ⟨t, n⟩ := ⟨_, rfl⟩
      rw [← hkk] at K ⊢
      clear hkk
      unfold V.val at *
      simp only at *
      go_enter Try.func29, Try.ntmps29
      go_wp2_with fail
      refine (K _).mono ?_
      clear K
      rintro e w1 ⟨rfl, hb⟩
      obtain ⟨d0, d1, hz, hB⟩ := box_v2 (below_up2 hb)
      obtain ⟨z0, z1, z2, z3⟩ := zero_cells hz
      have HB := Lib.hid hB
      clear hb hz hB
      go_wp2_with fail
      exact bodyPost_ret (v := .tuple #[.agg #[.int .i64 kk.t, .int .i64 kk.n], .bool true]) (by simp [results, Try.results29, go_sem, z0, z1]) rfl ⟨rfl, (HB.out.setCell (p := ⟨w.heap.size + 1, 0, none⟩) (Nat.le_succ _) _).setCell (p := ⟨w.heap.size + 1, 1, none⟩) (Nat.le_succ _) _⟩
end Go.Proofs.Ytpodgmajccmgkaa
