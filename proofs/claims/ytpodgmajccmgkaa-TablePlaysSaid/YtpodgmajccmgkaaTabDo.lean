/- do: a call of both. -/
import Derived.Test.YtpodgmajccmgkaaTabTwo
namespace Go.Proofs.Ytpodgmajccmgkaa
open Go.RowKit Go.Shelf
set_option linter.unusedVariables false
set_option linter.unusedSimpArgs false
attribute [local go_sem] Oper.semAt_some nil_slot field_t meth_array meth_nodes meth_slot meth_setslot meth_resize meth_hash

variable {w0 w w' W W' : World} {pm pr n : Nat} {T R : Tb} {X : Nat → Prop}

theorem st_getB (h : St w0 w X pm pr T R) (k : V) {a b : Int} (hr : getT T k = ⟨a, b⟩) : Calls Try.prog 13 #[.iface 23 (.pointer (some ⟨pm, 0, none⟩)), .agg #[.int .i64 k.t, .int .i64 k.n]] w fun e w' => e = .returned (.agg #[.int .i64 a, .int .i64 b]) ∧ Below w.heap.size w w' := by
  obtain ⟨sv, A, L, h1, -⟩ := h
  have := get_has h1 k
  rw [hr] at this
  exact this
theorem st_nextB (h : St w0 w X pm pr T R) (k : V) {a b c d f : Int} (hr : nextR T k = (⟨a, b⟩, ⟨c, d⟩, f)) : Calls Try.prog 11 #[.iface 23 (.pointer (some ⟨pm, 0, none⟩)), .agg #[.int .i64 k.t, .int .i64 k.n]] w fun e w' => e = .returned (.tuple #[.agg #[.int .i64 a, .int .i64 b], .agg #[.int .i64 c, .int .i64 d], .int .i64 f]) ∧ Below w.heap.size w w' := by
  obtain ⟨sv, A, L, h1, -⟩ := h
  have := next_has h1 k
  rw [hr] at this
  exact this
theorem st_rgetB (h : St w0 w X pm pr T R) (k : V) {a b : Int} (hr : getT R k = ⟨a, b⟩) : Calls Try.prog 39 #[.pointer (some ⟨pr, 0, none⟩), .agg #[.bool false, .slice none 0 0, .slice none 0 0], .agg #[.int .i64 k.t, .int .i64 k.n]] w fun e w' => e = .returned (.agg #[.int .i64 a, .int .i64 b]) ∧ Below w.heap.size w w' := by
  obtain ⟨sv, A, L, h1, h2, -⟩ := h
  have := rget_any h2 k
  rw [hr] at this
  exact this
theorem st_rnextB (h : St w0 w X pm pr T R) (k : V) {a b c d f : Int} (hr : nextR R k = (⟨a, b⟩, ⟨c, d⟩, f)) : Calls Try.prog 40 #[.pointer (some ⟨pr, 0, none⟩), .agg #[.bool false, .slice none 0 0, .slice none 0 0], .agg #[.int .i64 k.t, .int .i64 k.n]] w fun e w' => e = .returned (.tuple #[.agg #[.int .i64 a, .int .i64 b], .agg #[.int .i64 c, .int .i64 d], .int .i64 f]) ∧ Below w.heap.size w w' := by
  obtain ⟨sv, A, L, h1, h2, -⟩ := h
  have := rnext_any h2 k
  rw [hr] at this
  exact this

def DoP (w0 : World) (pm pr : Nat) (T : Tb) (e : Ending) (w' : World) : Prop := e = .returned (.bool true) ∧ St w0 w' (fun _ => False) pm pr T T

set_option maxRecDepth 100000 in
set_option maxHeartbeats 4000000 in
theorem do_any {c : Nat} (h : St w0 w (fun _ => False) pm pr T T) (hM : MT T c) (hc : c + 1 ≤ 8000) (a : ActV) (hi : a.i < 2 ^ 63 ∧ -(2 ^ 63) ≤ a.i) : Calls Try.prog 23 #[.pointer (some ⟨pm, 0, none⟩), .pointer (some ⟨pr, 0, none⟩), .agg #[.int .i64 a.kind, .int .i64 a.k.t, .int .i64 a.k.n, .int .i64 a.v.t, .int .i64 a.v.n, .int .i64 a.i]] w fun e w' => DoP w0 pm pr (actX T a) e w' := by
  obtain ⟨kind, ⟨kt, kn⟩, ⟨vt, vn⟩, ai⟩ := a
  obtain ⟨Q, hQ⟩ : ∃ Q, Q = actX T ⟨kind, ⟨kt, kn⟩, ⟨vt, vn⟩, ai⟩ := ⟨_, rfl⟩
  rw [← hQ]
  unfold actX at hQ
  simp only at hQ hi
  have HQ := Lib.hid hQ
  have HH := Lib.hid h
  have HMT := Lib.hid hM
  have HI := Lib.hid hi
  have hpl : (pairsL T).length + 1 ≤ 8000 := by have := hM.cnt; omega
  simp only
  obtain ⟨W0, hW0⟩ : ∃ W, W = (w.alloc (.cells #[.int .i64 kind, .int .i64 kt, .int .i64 kn, .int .i64 vt, .int .i64 vn, .int .i64 ai] 36)).alloc (.cells #[.bool false, .slice none 0 0, .slice none 0 0] 77) := ⟨_, rfl⟩
  obtain ⟨hb0, hb1, hB⟩ := boxesG (l := [.int .i64 kind, .int .i64 kt, .int .i64 kn, .int .i64 vt, .int .i64 vn, .int .i64 ai]) (l' := [.bool false, .slice none 0 0, .slice none 0 0]) (Below.refl ((w.alloc (.cells #[.int .i64 kind, .int .i64 kt, .int .i64 kn, .int .i64 vt, .int .i64 vn, .int .i64 ai] 36)).alloc (.cells #[.bool false, .slice none 0 0, .slice none 0 0] 77)).heap.size _)
  change Box ((w.alloc (.cells #[.int .i64 kind, .int .i64 kt, .int .i64 kn, .int .i64 vt, .int .i64 vn, .int .i64 ai] 36)).alloc (.cells #[.bool false, .slice none 0 0, .slice none 0 0] 77)) _ _ _ at hb0 hb1
  change Below _ _ ((w.alloc (.cells #[.int .i64 kind, .int .i64 kt, .int .i64 kn, .int .i64 vt, .int .i64 vn, .int .i64 ai] 36)).alloc (.cells #[.bool false, .slice none 0 0, .slice none 0 0] 77)) at hB
  rw [← hW0] at hb0 hb1 hB
  have hsz : W0.heap.size = w.heap.size + 2 := by rw [hW0]; simp
  have hST : St w0 W0 (fun k => k = w.heap.size ∨ k = w.heap.size + 1) pm pr T T :=
    (h.more (Y := fun k => k = w.heap.size ∨ k = w.heap.size + 1) hB (fun k hk => by rcases hk with rfl | rfl <;> omega)).less (fun k hk => .inr hk)
  have HST := Lib.hid hST
  have HB := Lib.hid hB
  have HALL : Hid (∀ w', Kp (fun k => k = w.heap.size ∨ k = w.heap.size + 1) W0 w' → w'.cell? ⟨w.heap.size, 1, none⟩ = some (.int .i64 kt) ∧ w'.cell? ⟨w.heap.size, 2, none⟩ = some (.int .i64 kn) ∧ w'.cell? ⟨w.heap.size, 3, none⟩ = some (.int .i64 vt) ∧ w'.cell? ⟨w.heap.size, 4, none⟩ = some (.int .i64 vn) ∧ w'.cell? ⟨w.heap.size, 5, none⟩ = some (.int .i64 ai) ∧ w'.cell? ⟨w.heap.size + 1, 0, none⟩ = some (.bool false) ∧ w'.cell? ⟨w.heap.size + 1, 1, none⟩ = some (.slice none 0 0) ∧ w'.cell? ⟨w.heap.size + 1, 2, none⟩ = some (.slice none 0 0)) := by
    refine Lib.hid (fun w' hk => ?_)
    have x0 := hk.box (.inl rfl) hb0
    have x1 := hk.box (.inr rfl) hb1
    exact ⟨x0.cell 1, x0.cell 2, x0.cell 3, x0.cell 4, x0.cell 5, x1.cell 0, x1.cell 1, x1.cell 2⟩
  have hk0 : W0.cell? ⟨w.heap.size, 0, none⟩ = some (.int .i64 kind) := hb0.cell 0
  have HW0 := Lib.hid hW0
  clear hQ h hM hi hW0 hb0 hb1 hB hST hsz
  go_enter Try.func23, Try.ntmps23
  go_upto_region 2 with fail
  rw [← HW0.out]
  by_cases h1 : kind = 1
  · obtain ⟨T', r, hr⟩ : ∃ T' r, setR T ⟨kt, kn⟩ ⟨vt, vn⟩ = (T', r) := ⟨_, _, rfl⟩
    have hq := HQ.out
    rw [if_pos h1, hr] at hq
    have HQ2 := Lib.hid hq
    have HR := Lib.hid hr
    subst h1
    clear hq HQ hr
    go_wp2_with fail
    obtain ⟨y1, y2, y3, y4, y5, z0, z1, z2⟩ := HALL.out W0 (fun _ _ => rfl)
    clear y1 y2 y3 y4 y5 z0 z1 z2
    go_region_held3 (fun w' => w'.cell? ⟨w.heap.size, 1, none⟩ = some (.int .i64 kt) ∧ w'.cell? ⟨w.heap.size, 2, none⟩ = some (.int .i64 kn) ∧ w'.cell? ⟨w.heap.size, 3, none⟩ = some (.int .i64 vt) ∧ w'.cell? ⟨w.heap.size, 4, none⟩ = some (.int .i64 vn) ∧ w'.cell? ⟨w.heap.size, 5, none⟩ = some (.int .i64 ai) ∧ w'.cell? ⟨w.heap.size + 1, 0, none⟩ = some (.bool false) ∧ w'.cell? ⟨w.heap.size + 1, 1, none⟩ = some (.slice none 0 0) ∧ w'.cell? ⟨w.heap.size + 1, 2, none⟩ = some (.slice none 0 0))
      (first | assumption | exact HALL.out _ (fun _ _ => rfl))
      ((first
        | (go_at_call 12; refine (no_any _ _).mono ?_; rintro e wn ⟨rfl, rfl⟩)
        | (go_at_call 16; (with_reducible refine (st_set ((HST.out.step (Below.refl _ W0).drew).1) hpl ⟨kt, kn⟩ ⟨vt, vn⟩ HR.out).mono ?_); rintro e wz ⟨rfl, h1, k1⟩; have s1 := HALL.out _ (show Kp _ W0 wz from k1))
        | (go_at_call 38; (with_reducible refine (st_rset ((HST.out.step (Below.refl _ W0).drew).1) HMT.out.wf hpl ⟨kt, kn⟩ ⟨vt, vn⟩ HR.out).mono ?_); rintro e wy ⟨rfl, h2, k2⟩; have s2 := HALL.out _ (show Kp _ W0 wy from k2))
        | (go_at_call 16; (with_reducible refine (st_set h2 hpl ⟨kt, kn⟩ ⟨vt, vn⟩ HR.out).mono ?_); rintro e wz ⟨rfl, h3, k3⟩; have s3 := HALL.out _ (show Kp _ W0 wz from Kp.trans k2 k3))
        | (go_at_call 38; (with_reducible refine (st_rset h1 HMT.out.wf hpl ⟨kt, kn⟩ ⟨vt, vn⟩ HR.out).mono ?_); rintro e wy ⟨rfl, h3, k3⟩; have s3 := HALL.out _ (show Kp _ W0 wy from Kp.trans k1 k3))))
    all_goals (
      have HE := Lib.hid (h3.less (Y := fun _ => False) (fun _ h => h.elim))
      clear h3 k3 s3
      go_wp2_with fail
      go_ret
      exact ⟨rfl, by rw [HQ2.out]; exact HE.out⟩)
  · have hq := HQ.out
    rw [if_neg h1] at hq
    have hk1 : (kind == 1) = false := by simp [h1]
    have HQ1 := Lib.hid hq
    have HBL : Hid (∀ w', Below W0.heap.size W0 w' → St w0 w' (fun _ => False) pm pr T T ∧ Below W0.heap.size W0 w' ∧ w'.cell? ⟨w.heap.size, 1, none⟩ = some (.int .i64 kt) ∧ w'.cell? ⟨w.heap.size, 2, none⟩ = some (.int .i64 kn) ∧ w'.cell? ⟨w.heap.size, 3, none⟩ = some (.int .i64 vt) ∧ w'.cell? ⟨w.heap.size, 4, none⟩ = some (.int .i64 vn) ∧ w'.cell? ⟨w.heap.size, 5, none⟩ = some (.int .i64 ai) ∧ w'.cell? ⟨w.heap.size + 1, 0, none⟩ = some (.bool false) ∧ w'.cell? ⟨w.heap.size + 1, 1, none⟩ = some (.slice none 0 0) ∧ w'.cell? ⟨w.heap.size + 1, 2, none⟩ = some (.slice none 0 0)) :=
      Lib.hid (fun w' hb => ⟨(HST.out.step hb).1.less (fun _ h => h.elim), hb, HALL.out _ (HST.out.step hb).2⟩)
    clear hq HQ
    by_cases h2 : kind = 2
    · obtain ⟨gt, gn, hg⟩ : ∃ gt gn, getT T ⟨kt, kn⟩ = ⟨gt, gn⟩ := ⟨_, _, rfl⟩
      have HG := Lib.hid hg
      have HQ2 := Lib.hid (show Q = T from by rw [HQ1.out, if_neg (by omega)])
      subst h2
      clear hg HQ1
      go_wp2_with fail
      go_region_held3 (fun w' => Below W0.heap.size W0 w' ∧ w'.cell? ⟨w.heap.size, 1, none⟩ = some (.int .i64 kt) ∧ w'.cell? ⟨w.heap.size, 2, none⟩ = some (.int .i64 kn) ∧ w'.cell? ⟨w.heap.size, 3, none⟩ = some (.int .i64 vt) ∧ w'.cell? ⟨w.heap.size, 4, none⟩ = some (.int .i64 vn) ∧ w'.cell? ⟨w.heap.size, 5, none⟩ = some (.int .i64 ai) ∧ w'.cell? ⟨w.heap.size + 1, 0, none⟩ = some (.bool false) ∧ w'.cell? ⟨w.heap.size + 1, 1, none⟩ = some (.slice none 0 0) ∧ w'.cell? ⟨w.heap.size + 1, 2, none⟩ = some (.slice none 0 0))
        (first | assumption | exact (HBL.out _ (Below.refl _ _).drew).2)
        ((first
          | (go_at_call 13; refine (st_getB (HBL.out _ (by first | assumption | exact (Below.refl _ _).drew)).1 ⟨kt, kn⟩ HG.out).mono ?_; rintro e wz ⟨rfl, hz⟩; have bz := blj (show Below W0.heap.size W0 _ from by first | assumption | exact (Below.refl _ _).drew) hz; have s1 := (HBL.out _ bz).2)
          | (go_at_call 39; refine (st_rgetB (HBL.out _ (by first | assumption | exact (Below.refl _ _).drew)).1 ⟨kt, kn⟩ HG.out).mono ?_; rintro e wy ⟨rfl, hy⟩; have bz := blj (show Below W0.heap.size W0 _ from by first | assumption | exact (Below.refl _ _).drew) hy; have s2 := (HBL.out _ bz).2)))
      all_goals (
        have HE := Lib.hid (HBL.out _ bz).1
        clear bz
        go_wp2_with fail
        go_ret
        exact ⟨by simp, by rw [HQ2.out]; exact HE.out⟩)
    · have hk2 : (kind == 2) = false := by simp [h2]
      by_cases h3 : kind = 3
      · obtain ⟨a, b, c', d, f, hg⟩ : ∃ a b c' d f, nextR T ⟨kt, kn⟩ = (⟨a, b⟩, ⟨c', d⟩, f) := ⟨_, _, _, _, _, rfl⟩
        have HG := Lib.hid hg
        have HQ2 := Lib.hid (show Q = T from by rw [HQ1.out, if_neg (by omega)])
        subst h3
        obtain ⟨y1, y2, y3, y4, y5, z0, z1, z2⟩ := HALL.out W0 (fun _ _ => rfl)
        clear hg HQ1
        go_wp2_with fail
        refine (st_nextB (HBL.out _ (Below.refl _ _)).1 ⟨kt, kn⟩ HG.out).mono ?_
        rintro e w1 ⟨rfl, hb1⟩
        obtain ⟨u0, u1, u2⟩ := boxesG (l := [.int .i64 a, .int .i64 b]) (l' := [.int .i64 c', .int .i64 d]) (Below.refl ((w1.alloc (.cells [.int .i64 a, .int .i64 b].toArray 27)).alloc (.cells [.int .i64 c', .int .i64 d].toArray 27)).heap.size _)
        obtain ⟨W2, hW2⟩ : ∃ W, W = (w1.alloc (.cells #[.int .i64 a, .int .i64 b] 27)).alloc (.cells #[.int .i64 c', .int .i64 d] 27) := ⟨_, rfl⟩
        change Box ((w1.alloc (.cells #[.int .i64 a, .int .i64 b] 27)).alloc (.cells #[.int .i64 c', .int .i64 d] 27)) _ _ _ at u0 u1
        change Below _ _ ((w1.alloc (.cells #[.int .i64 a, .int .i64 b] 27)).alloc (.cells #[.int .i64 c', .int .i64 d] 27)) at u2
        obtain ⟨b8, hb8⟩ : ∃ b8, b8 = w1.heap.size := ⟨_, rfl⟩
        rw [← hW2] at u0 u1 u2
        rw [← hb8] at u0 u1
        have hb2 : Below W0.heap.size W0 W2 := blj hb1 (by rw [hb8] at *; exact u2)
        have HB2 := Lib.hid hb2
        have HU0 := Lib.hid u0
        have HU1 := Lib.hid u1
        have HW2 := Lib.hid hW2
        have HB8 := Lib.hid hb8
        have hall := (HBL.out _ hb2).2.2
        rw [hW2] at hall
        obtain ⟨v1, v2, v3, v4, v5, q0, q1, q2⟩ := hall
        clear y1 y2 y3 y4 y5 z0 z1 z2 hb1 u0 u1 u2 hW2 hb2 hb8 v3 v4 v5
        go_wp2_with fail
        rw [← HW2.out]
        refine (st_rnextB (HBL.out _ HB2.out).1 ⟨kt, kn⟩ HG.out).mono ?_
        rintro e w3 ⟨rfl, hb3⟩
        rw [← HB8.out]
        have hb4 : Below W0.heap.size W0 ((w3.alloc (.cells #[.int .i64 a, .int .i64 b] 27)).alloc (.cells #[.int .i64 c', .int .i64 d] 27)) := blj HB2.out (blj hb3 (by repeat (first | exact Below.refl _ _ | refine Below.alloc ?_ (by first | (simp; done) | (simp; omega)) _ | refine Below.drew ?_ | refine Below.setCell ?_ (by first | (simp; done) | (simp; omega)) _)))
        have HB4 := Lib.hid hb4
        obtain ⟨x0, x1, -, -⟩ := ((HU0.out.below hb3 HU0.out.lt).below (show Below w3.heap.size w3 ((w3.alloc (.cells #[.int .i64 a, .int .i64 b] 27)).alloc (.cells #[.int .i64 c', .int .i64 d] 27)) from (by repeat (first | exact Below.refl _ _ | refine Below.alloc ?_ (by first | (simp; done) | (simp; omega)) _ | refine Below.drew ?_ | refine Below.setCell ?_ (by first | (simp; done) | (simp; omega)) _))) (HU0.out.below hb3 HU0.out.lt).lt).cells2
        obtain ⟨x2, x3, -, -⟩ := ((HU1.out.below hb3 HU1.out.lt).below (show Below w3.heap.size w3 ((w3.alloc (.cells #[.int .i64 a, .int .i64 b] 27)).alloc (.cells #[.int .i64 c', .int .i64 d] 27)) from (by repeat (first | exact Below.refl _ _ | refine Below.alloc ?_ (by first | (simp; done) | (simp; omega)) _ | refine Below.drew ?_ | refine Below.setCell ?_ (by first | (simp; done) | (simp; omega)) _))) (HU1.out.below hb3 HU1.out.lt).lt).cells2
        clear hb3 hb4 v1 v2 q0 q1 q2
        go_wp2_with fail
        refine (no_any _ _).mono ?_
        rintro e wn ⟨rfl, rfl⟩
        have HE := Lib.hid (HBL.out _ HB4.out).1
        go_wp2_with fail
        go_ret
        exact ⟨by simp, by rw [HQ2.out]; exact HE.out⟩
      · have hk3 : (kind == 3) = false := by simp [h3]
        by_cases h4 : kind = 4
        · have HQ2 := Lib.hid (show Q = killT T ai from by rw [HQ1.out, if_pos h4])
          subst h4
          obtain ⟨y1, y2, y3, y4, y5, z0, z1, z2⟩ := HALL.out W0 (fun _ _ => rfl)
          clear HQ1 y1 y2 y3 y4 z0 z1 z2
          go_wp2_with fail
          refine (st_kill HST.out ai HI.out).mono ?_
          rintro e w1 ⟨rfl, h1', k1⟩
          have HK1 := Lib.hid h1'
          have hall := HALL.out _ k1
          obtain ⟨v1, v2, v3, v4, v5, q0, q1, q2⟩ := hall
          clear k1 h1' y5 v1 v2 v3 v4 q0 q1 q2
          go_wp2_with fail
          refine (st_rkill HK1.out ai HI.out).mono ?_
          rintro e w2 ⟨rfl, h2', k2⟩
          have HE := Lib.hid (h2'.less (Y := fun _ => False) (fun _ h => h.elim))
          clear k2 h2' v5
          go_wp2_with fail
          go_ret
          exact ⟨rfl, by rw [HQ2.out]; exact HE.out⟩
        · have HQ2 := Lib.hid (show Q = T from by rw [HQ1.out, if_neg h4])
          have hk4 : (kind == 4) = false := by simp [h4]
          have HE := Lib.hid (HBL.out _ (Below.refl _ _)).1
          clear HQ1
          go_wp2_with fail
          go_ret
          exact ⟨rfl, by rw [HQ2.out]; exact HE.out⟩
end Go.Proofs.Ytpodgmajccmgkaa
