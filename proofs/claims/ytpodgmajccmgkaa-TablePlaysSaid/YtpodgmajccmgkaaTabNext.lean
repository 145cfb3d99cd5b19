/- Next. -/
import Derived.Test.YtpodgmajccmgkaaTabSets
namespace Go.Proofs.Ytpodgmajccmgkaa
open Go.RowKit Go.Shelf
set_option linter.unusedVariables false
set_option linter.unusedSimpArgs false
attribute [local go_sem] Oper.semAt_some nil_slot field_t meth_array meth_nodes meth_slot meth_setslot meth_resize meth_hash

variable {w w' : World} {p : Nat} {sv sv' : Value} {T T' : Tb}

def isNx (f : Int) (x : Pr) : Bool := decide (f < (x.i : Int))
def nxR : Option Pr → V × V × Int
  | none => (nilV, nilV, 0)
  | some x => (x.k, x.v, 0)
def nx (T : Tb) (f : Int) : V × V × Int := nxR ((pairsL T).find? (isNx f))
def nextR (T : Tb) (k : V) : V × V × Int :=
  if k.t = 0 then nx T (-1) else match keyR k with
    | none => (nilV, nilV, 13)
    | some k' => if (findT T k').1 < 0 then (nilV, nilV, 13) else nx T (findT T k').1

def encNx (r : V × V × Int) : Value := .tuple #[.agg #[.int .i64 r.1.t, .int .i64 r.1.n], .agg #[.int .i64 r.2.1.t, .int .i64 r.2.1.n], .int .i64 r.2.2]

/-- Next's own cells. -/
structure NB (w : World) (b : Nat) (f : Int) (W : World) : Prop where
  k : Box W (b + 1) [.int .i64 0, .int .i64 0] 27
  v : Box W (b + 1 + 1) [.int .i64 0, .int .i64 0] 27
  e : Box W (b + 1 + 1 + 1) [.int .i64 0] 28
  f : Box W (b + 1 + 1 + 1 + 1) [.int .i64 f] 3
  below : Below b w W
theorem NB.grown {b : Nat} {f : Int} {W W' : World} (h : NB w b f W) (hb : b = w.heap.size) {row : Option Nat} (hg : W.grownBy W' row) (hr : ∀ r, row = some r → b ≤ r ∧ ∃ o : Obj, W.heap[r]? = some o ∧ o.isCells = false) : NB w b f W' := by
  refine ⟨h.k.grown hg (fun r e => (hr r e).2), h.v.grown hg (fun r e => (hr r e).2), h.e.grown hg (fun r e => (hr r e).2), h.f.grown hg (fun r e => (hr r e).2), ?_⟩
  exact h.below.grown hg (by have := h.below.size; omega) (fun r e => (hr r e).1)
theorem NB.alloc {b : Nat} {f : Int} {W : World} (h : NB w b f W) (hb : b = w.heap.size) (o : Obj) : NB w b f (W.alloc o) := ⟨h.k.alloc _, h.v.alloc _, h.e.alloc _, h.f.alloc _, h.below.alloc (by have := h.below.size; omega) _⟩
theorem NB.step {b : Nat} {f : Int} {W W' : World} (h : NB w b f W) (hb : b = w.heap.size) (hs : Below W.heap.size W W') : NB w b f W' :=
  ⟨h.k.below hs h.k.lt, h.v.below hs h.v.lt, h.e.below hs h.e.lt, h.f.below hs h.f.lt, h.below.trans (hs.mono (by have := h.below.size; omega))⟩
theorem NB.setF {b : Nat} {f f' : Int} {W : World} (h : NB w b f W) : NB w b f' (W.setCell ⟨b + 1 + 1 + 1 + 1, 0, none⟩ (.int .i64 f')) :=
  ⟨h.k.setOther _ (by show b + 1 ≠ b + 1 + 1 + 1 + 1; omega) _, h.v.setOther _ (by show b + 1 + 1 ≠ b + 1 + 1 + 1 + 1; omega) _, h.e.setOther _ (by show b + 1 + 1 + 1 ≠ b + 1 + 1 + 1 + 1; omega) _, h.f.set 0 _, h.below.setCell (p := ⟨b + 1 + 1 + 1 + 1, 0, none⟩) (by show b ≤ b + 1 + 1 + 1 + 1; omega) _⟩

theorem NB.facts {b : Nat} {f : Int} {W : World} (h : NB w b f W) :
    (W.cell? ⟨b + 1, 0, none⟩ = some (.int .i64 0) ∧ W.cell? ⟨b + 1, 1, none⟩ = some (.int .i64 0) ∧ W.frozen? ⟨b + 1, 0, none⟩ = false ∧ W.frozen? ⟨b + 1, 1, none⟩ = false) ∧
    (W.cell? ⟨b + 1 + 1, 0, none⟩ = some (.int .i64 0) ∧ W.cell? ⟨b + 1 + 1, 1, none⟩ = some (.int .i64 0) ∧ W.frozen? ⟨b + 1 + 1, 0, none⟩ = false ∧ W.frozen? ⟨b + 1 + 1, 1, none⟩ = false) ∧
    (W.cell? ⟨b + 1 + 1 + 1, 0, none⟩ = some (.int .i64 0) ∧ W.frozen? ⟨b + 1 + 1 + 1, 0, none⟩ = false) ∧ W.cell? ⟨b + 1 + 1 + 1 + 1, 0, none⟩ = some (.int .i64 f) ∧ W.frozen? ⟨b + 1 + 1 + 1 + 1, 0, none⟩ = false :=
  ⟨⟨h.k.cell 0, h.k.cell 1, h.k.free 0, h.k.free 1⟩, ⟨h.v.cell 0, h.v.cell 1, h.v.free 0, h.v.free 1⟩, ⟨h.e.cell 0, h.e.free 0⟩, h.f.cell 0, h.f.free 0⟩

/-- What is handed back. -/
structure NE (w : World) (b : Nat) (r : V × V × Int) (W : World) : Prop where
  k : Box W (b + 1) [.int .i64 r.1.t, .int .i64 r.1.n] 27
  v : Box W (b + 1 + 1) [.int .i64 r.2.1.t, .int .i64 r.2.1.n] 27
  e : Box W (b + 1 + 1 + 1) [.int .i64 r.2.2] 28
  below : Below b w W
theorem NE.grown {b : Nat} {r : V × V × Int} {W W' : World} (h : NE w b r W) (hb : b = w.heap.size) {row : Option Nat} (hg : W.grownBy W' row) (hr : ∀ r, row = some r → b ≤ r ∧ ∃ o : Obj, W.heap[r]? = some o ∧ o.isCells = false) : NE w b r W' :=
  ⟨h.k.grown hg (fun r e => (hr r e).2), h.v.grown hg (fun r e => (hr r e).2), h.e.grown hg (fun r e => (hr r e).2), h.below.grown hg (by have := h.below.size; omega) (fun r e => (hr r e).1)⟩

theorem NB.out {b : Nat} {f : Int} {W : World} (h : NB w b f W) (r : V × V × Int) :
    NE w b r (((((W.setCell ⟨b + 1, 0, none⟩ (.int .i64 r.1.t)).setCell ⟨b + 1, 1, none⟩ (.int .i64 r.1.n)).setCell ⟨b + 1 + 1, 0, none⟩ (.int .i64 r.2.1.t)).setCell ⟨b + 1 + 1, 1, none⟩ (.int .i64 r.2.1.n)).setCell ⟨b + 1 + 1 + 1, 0, none⟩ (.int .i64 r.2.2)) := by
  have n1 : b + 1 ≠ b + 1 + 1 := by omega
  have n2 : b + 1 ≠ b + 1 + 1 + 1 := by omega
  have n3 : b + 1 + 1 ≠ b + 1 := by omega
  have n4 : b + 1 + 1 ≠ b + 1 + 1 + 1 := by omega
  have n5 : b + 1 + 1 + 1 ≠ b + 1 := by omega
  have n6 : b + 1 + 1 + 1 ≠ b + 1 + 1 := by omega
  have m1 : b ≤ b + 1 := by omega
  have m2 : b ≤ b + 1 + 1 := by omega
  have m3 : b ≤ b + 1 + 1 + 1 := by omega
  exact ⟨((h.k.set2.setOther ⟨b + 1 + 1, 0, none⟩ n1 _).setOther ⟨b + 1 + 1, 1, none⟩ n1 _).setOther ⟨b + 1 + 1 + 1, 0, none⟩ n2 _,
    ((h.v.setOther ⟨b + 1, 0, none⟩ n3 _).setOther ⟨b + 1, 1, none⟩ n3 _).set2.setOther ⟨b + 1 + 1 + 1, 0, none⟩ n4 _,
    ((((h.e.setOther ⟨b + 1, 0, none⟩ n5 _).setOther ⟨b + 1, 1, none⟩ n5 _).setOther ⟨b + 1 + 1, 0, none⟩ n6 _).setOther ⟨b + 1 + 1, 1, none⟩ n6 _).set 0 _,
    ((((h.below.setCell (p := ⟨b + 1, 0, none⟩) m1 _).setCell (p := ⟨b + 1, 1, none⟩) m1 _).setCell (p := ⟨b + 1 + 1, 0, none⟩) m2 _).setCell (p := ⟨b + 1 + 1, 1, none⟩) m2 _).setCell (p := ⟨b + 1 + 1 + 1, 0, none⟩) m3 _⟩
theorem NE.alloc {b : Nat} {r : V × V × Int} {W : World} (h : NE w b r W) (hb : b = w.heap.size) (o : Obj) : NE w b r (W.alloc o) := ⟨h.k.alloc _, h.v.alloc _, h.e.alloc _, h.below.alloc (by have := h.below.size; omega) _⟩
theorem NE.facts {b : Nat} {r : V × V × Int} {W : World} (h : NE w b r W) :
    W.cell? ⟨b + 1, 0, none⟩ = some (.int .i64 r.1.t) ∧ W.cell? ⟨b + 1, 1, none⟩ = some (.int .i64 r.1.n) ∧ W.cell? ⟨b + 1 + 1, 0, none⟩ = some (.int .i64 r.2.1.t) ∧ W.cell? ⟨b + 1 + 1, 1, none⟩ = some (.int .i64 r.2.1.n) ∧ W.cell? ⟨b + 1 + 1 + 1, 0, none⟩ = some (.int .i64 r.2.2) :=
  ⟨h.k.cell 0, h.k.cell 1, h.v.cell 0, h.v.cell 1, h.e.cell 0⟩

theorem NE.drew {b : Nat} {r : V × V × Int} {W : World} (h : NE w b r W) : NE w b r W.drew := ⟨h.k, h.v, h.e, h.below.drew⟩
/-- The five stores at the end. -/
def outW (b : Nat) (r : V × V × Int) (W : World) : World := ((((W.setCell ⟨b + 1, 0, none⟩ (.int .i64 r.1.t)).setCell ⟨b + 1, 1, none⟩ (.int .i64 r.1.n)).setCell ⟨b + 1 + 1, 0, none⟩ (.int .i64 r.2.1.t)).setCell ⟨b + 1 + 1, 1, none⟩ (.int .i64 r.2.1.n)).setCell ⟨b + 1 + 1 + 1, 0, none⟩ (.int .i64 r.2.2)
theorem outW_keeps (B b : Nat) (r : V × V × Int) (W : World) : KeepsFrom B W (outW b r W) :=
  (((((KeepsOthers.setCell _ _ _).trans (KeepsOthers.setCell _ _ _)).trans (KeepsOthers.setCell _ _ _)).trans (KeepsOthers.setCell _ _ _)).trans (KeepsOthers.setCell _ _ _)).from B
def NoNx (f : Int) (pre : List Pr) : Prop := pre.find? (isNx f) = none
def IsNx (f : Int) (pre : List Pr) (x : Pr) : Prop := pre.find? (isNx f) = some x

theorem nx_results {ts : Array Value} {W : World} {b : Nat} {r : V × V × Int} (h : NE w b r W) (h4 : ts[4]? = some (.pointer (some ⟨b + 1, 0, none⟩))) (h5 : ts[5]? = some (.pointer (some ⟨b + 1 + 1, 0, none⟩))) (h6 : ts[6]? = some (.pointer (some ⟨b + 1 + 1 + 1, 0, none⟩))) :
    (results Try.f11 ts).run Try.prog W = .ok (encNx r) W := by
  obtain ⟨z0, z1, z2, z3, z4⟩ := h.facts
  simp [results, Try.f11, go_sem, z0, z1, z2, z3, z4, encNx, h4, h5, h6]

def NextPost (w : World) (r : V × V × Int) (e : Ending) (w' : World) : Prop := e = .returned (encNx r) ∧ Below w.heap.size w w'

set_option maxRecDepth 100000 in
set_option maxHeartbeats 4000000 in
theorem next_in (F : Fence) (m : Nat) (hF : ∀ f, F.fn f) (hal : F.alive = false) (hd : F.depth = none) (hro : F.round = none) (hn : 3 ≤ m) (H : MemAt w p sv T) (hP : Pow2 T.nodes) (k : V) : CallsIn F m Try.prog 11 #[memV p, k.val] w fun e w' => NextPost w (nextR T k) e w' := by
  have h1 : 1 ≤ m := by omega
  have K := key_any k
  have G : nextR T k = if k.t = 0 then nx T (-1) else match keyR k with
    | none => (nilV, nilV, 13)
    | some k' => if (findT T k').1 < 0 then (nilV, nilV, 13) else nx T (findT T k').1 := rfl
  obtain ⟨g, hg⟩ : ∃ g, g = nextR T k := ⟨_, rfl⟩
  rw [← hg] at G ⊢
  clear hg
  obtain ⟨t, n⟩ := k
  unfold memV V.val
  unfold V.val at K
  simp only at K G ⊢
  have HH := Lib.hid H
  have HG := Lib.hid G
  have HK := Lib.hid K
  clear H G K
  refine callsIn_of_wp_marks Try.func11 rfl (hF _) ?_ hro
  simp only [Try.ntmps11, List.size_toArray, List.length_cons, List.length_nil, Nat.reduceAdd, Nat.reduceSub, Array.replicate_succ, Array.replicate_zero, List.push_toArray, List.append_toArray, List.nil_append, List.cons_append]
  gi_upto_if 18 with fail
  obtain ⟨W0, hW0⟩ : ∃ W0, W0 = ((((w.alloc (.cells #[.int .i64 t, .int .i64 n] 27)).alloc (.cells #[.int .i64 0, .int .i64 0] 27)).alloc (.cells #[.int .i64 0, .int .i64 0] 27)).alloc (.cells #[.int .i64 0] 28)).alloc (.cells #[.int .i64 (-1)] 3) := ⟨_, rfl⟩
  have hsz : W0.heap.size = w.heap.size + 5 := by rw [hW0]; simp
  have hB0 : Below w.heap.size w W0 := by rw [hW0]; exact (by repeat (first | exact Below.refl _ _ | refine Below.alloc ?_ (by first | (simp; done) | (simp; omega)) _ | refine Below.drew ?_ | refine Below.setCell ?_ (by first | (simp; done) | (simp; omega)) _))
  have hx0 : Box W0 w.heap.size [.int .i64 t, .int .i64 n] 27 := (by rw [hW0]; unfold Box World.alloc; simp only [Array.getElem?_push, Array.size_push]; repeat (first | rw [if_neg (by omega)] | rw [if_pos (by omega)] | rw [if_pos trivial]))
  have hx1 : Box W0 (w.heap.size + 1) [.int .i64 0, .int .i64 0] 27 := (by rw [hW0]; unfold Box World.alloc; simp only [Array.getElem?_push, Array.size_push]; repeat (first | rw [if_neg (by omega)] | rw [if_pos (by omega)] | rw [if_pos trivial]))
  have hx2 : Box W0 (w.heap.size + 1 + 1) [.int .i64 0, .int .i64 0] 27 := (by rw [hW0]; unfold Box World.alloc; simp only [Array.getElem?_push, Array.size_push]; repeat (first | rw [if_neg (by omega)] | rw [if_pos (by omega)] | rw [if_pos trivial]))
  have hx3 : Box W0 (w.heap.size + 1 + 1 + 1) [.int .i64 0] 28 := (by rw [hW0]; unfold Box World.alloc; simp only [Array.getElem?_push, Array.size_push]; repeat (first | rw [if_neg (by omega)] | rw [if_pos (by omega)] | rw [if_pos trivial]))
  have hx4 : Box W0 (w.heap.size + 1 + 1 + 1 + 1) [.int .i64 (-1)] 3 := (by rw [hW0]; unfold Box World.alloc; simp only [Array.getElem?_push, Array.size_push]; repeat (first | rw [if_neg (by omega)] | rw [if_pos (by omega)] | rw [if_pos trivial]))
  rw [← hW0]
  clear hW0
  obtain ⟨b, hb⟩ : ∃ b, b = w.heap.size := ⟨_, rfl⟩
  rw [← hb] at hB0 hsz hx0 hx1 hx2 hx3 hx4 ⊢
  have HN := Lib.hid (show NB w b (-1) W0 from ⟨hx1, hx2, hx3, hx4, hB0⟩)
  have HSZ := Lib.hid hsz
  have HB := Lib.hid hb
  have c0 := hx0.cell 0
  have c1 := hx0.cell 1
  simp only [List.getElem?_cons_zero, List.getElem?_cons_succ] at c0 c1
  clear hb hsz hB0 hx0 hx1 hx2 hx3 hx4
  gi_cut [18] from 1000 (fun _ wc => ∃ f : Int, NB w b f wc ∧ g = nx T f)
  case first =>
    by_cases h0 : t = 0
    · subst h0
      gi_wp2
      gi_meet
      exact ⟨_, HN.out, by rw [HG.out]; simp⟩
    · have h0' : (t == 0) = false := by simp [h0]
      gi_wp2
      refine (calls_wide hF hal hd (HK.out _)).mono ?_
      rintro e w1 ⟨he, hb1⟩
      have hG := HG.out
      rw [if_neg h0] at hG
      cases hk : keyR ⟨t, n⟩ with
      | none =>
        rw [hk] at he hG
        simp only at he hG
        subst he
        have HG2 := Lib.hid hG
        clear hG hk
        have hN1 := HN.out.step HB.out hb1
        obtain ⟨⟨p0, p1, p2, p3⟩, ⟨q0, q1, q2, q3⟩, ⟨r0, r1⟩, s0, s1⟩ := hN1.facts
        have l1 := hN1.f.lt
        have l2 : b + 1 + 1 + 1 < w1.heap.size := by omega
        have l3 : b + 1 + 1 < w1.heap.size := by omega
        have l4 : b + 1 < w1.heap.size := by omega
        have HN1 := Lib.hid hN1
        clear hN1 hb1
        gi_wp2
        have hE := (HN1.out.out (nilV, nilV, 13)).alloc HB.out (.cells #[.int .i64 t, .int .i64 n] 27)
        simp only [nilV] at hE
        have hE2 := hE.below
        rw [HB.out] at hE2
        obtain ⟨z0, z1, z2, z3, z4⟩ := hE.facts
        rw [HB.out] at z0 z1 z2 z3 z4
        refine ⟨encNx (nilV, nilV, 13), ?_, by rw [HG2.out], by rw [HB.out]; exact hE2⟩
        rw [HB.out]
        generalize World.alloc _ _ = WF at z0 z1 z2 z3 z4 ⊢
        simp [results, Try.f11, go_sem, z0, z1, z2, z3, z4, encNx, nilV]
      | some k' =>
        rw [hk] at he hG
        simp only at he hG
        subst he
        obtain ⟨t', n'⟩ := k'
        simp only
        have HG2 := Lib.hid hG
        clear hG hk
        have hN1 := (HN.out.step HB.out hb1).alloc HB.out (.cells #[.int .i64 t', .int .i64 n'] 27)
        have FC := find_any' (HH.out.below (by have := hN1.below; rw [HB.out] at this; exact this)) hP ⟨t', n'⟩
        obtain ⟨⟨f1, f2⟩, hf⟩ : ∃ f, f = findT T ⟨t', n'⟩ := ⟨_, rfl⟩
        rw [← hf] at FC
        simp only at FC
        have HF := Lib.hid hf
        have HN1 := Lib.hid hN1
        clear hf hN1
        gi_wp2
        refine (calls_wide hF hal hd FC).mono ?_
        clear FC
        rintro e w2 ⟨rfl, hb2⟩
        have hN2 := HN1.out.step HB.out hb2
        obtain ⟨⟨p0, p1, p2, p3⟩, ⟨q0, q1, q2, q3⟩, ⟨r0, r1⟩, s0, s1⟩ := hN2.facts
        have l1 := hN2.f.lt
        have l2 : b + 1 + 1 + 1 < w2.heap.size := by omega
        have l3 : b + 1 + 1 < w2.heap.size := by omega
        have l4 : b + 1 < w2.heap.size := by omega
        have HN2 := Lib.hid hN2
        clear hN2 hb1 hb2
        by_cases hf0 : f1 < 0
        · gi_wp2
          have hE := (HN2.out.setF (f' := f1)).out (nilV, nilV, 13)
          simp only [nilV] at hE
          have hE2 := hE.below
          rw [HB.out] at hE2
          obtain ⟨z0, z1, z2, z3, z4⟩ := hE.facts
          rw [HB.out] at z0 z1 z2 z3 z4
          refine ⟨encNx (nilV, nilV, 13), ?_, by rw [HG2.out, ← HF.out]; exact (if_pos hf0).symm ▸ rfl, by rw [HB.out]; exact hE2⟩
          rw [HB.out]
          generalize World.setCell _ _ _ = WF at z0 z1 z2 z3 z4 ⊢
          simp [results, Try.f11, go_sem, z0, z1, z2, z3, z4, encNx, nilV]
        · gi_wp2
          gi_meet
          exact ⟨f1, HN2.out.setF, by rw [HG2.out, ← HF.out]; exact if_neg (by show ¬ f1 < 0; omega)⟩
  case rest =>
    obtain ⟨f, hN, hgf⟩ := hcut
    have HN2 := Lib.hid hN
    have HGF := Lib.hid hgf
    have hbc : b + 5 ≤ wc.heap.size := by have := hN.f.lt; omega
    clear hN hgf HN c0 c1
    gi_wp2_with (gi_at_call 31; refine (pairs_in F (m - 1) hF hro p _).mono ?_; rintro e w' ⟨rfl, rfl⟩)
    obtain ⟨s, hs⟩ : ∃ s, s = wc.heap.size := ⟨_, rfl⟩
    obtain ⟨W1, hW1⟩ : ∃ W1, W1 = wc.alloc (.cells #[.iface 23 (.pointer (some ⟨p, 0, none⟩))] 59) := ⟨_, rfl⟩
    have hs1 : Box W1 s [.iface 23 (.pointer (some ⟨p, 0, none⟩))] 59 := by rw [hW1, hs]; exact Box.new wc _ _
    have hN1 : NB w b f W1 := by rw [hW1]; exact HN2.out.alloc HB.out _
    have hsz1 : W1.heap.size = s + 1 := by rw [hW1, hs]; simp
    have hbs : b + 5 ≤ s := by rw [hs]; exact hbc
    rw [← hW1, ← hs]
    have hown : ∀ k, OwnS p sv k → k < b := fun k hk => by rw [HB.out]; exact HH.out.own_lt hk
    have HN1 := Lib.hid hN1
    have HSZ1 := Lib.hid hsz1
    have HM1 := Lib.hid (show MemAt W1 p sv T from HH.out.below (by have := hN1.below; rwa [HB.out] at this))
    have HGF := HGF
    clear hW1 hs hN1 hsz1 HN2 hbc HSZ
    refine wpIn_rangeFunc_ownH hro h1 (gf := 47) (lb := #[.pointer (some ⟨s, 0, none⟩)]) rfl (hF _) (enters_of Try.func47 (by kernel_rfl) rfl)
      (pairs_stops F (m - 1) hF hal hd hro (by omega) (fun k => False) W1 HM1.out s hs1 (fun k hk e => e) (fun e => e))
      kpC_t kpC_b (Below.refl _ _) (fun _ => rfl)
      (fun pre W => NoNx f pre ∧ NB w b f W)
      (fun c pre W => c = .ret ∧ ∃ x, IsNx f pre x ∧ NE w b (x.k, x.v, 0) W)
      (fun s X Y row hs hg hr => ⟨hs.1, hs.2.grown HB.out hg (fun r e => ⟨by have := (hr r e).1; have := HSZ1.out; omega, (hr r e).2⟩)⟩)
      (fun c s X Y row hs hg hr => by
        obtain ⟨rfl, x, h1, h2⟩ := hs
        exact ⟨rfl, x, h1, h2.grown HB.out hg (fun r e => ⟨by have := (hr r e).1; have := HSZ1.out; omega, (hr r e).2⟩)⟩)
      ⟨rfl, HN1.out⟩
      (fun (x : Pr) a' W => ∃ c11 v42 v43 v44 v45 v46 v47 v48 v49 v50, Box W c11 (prC x) 66 ∧ a' = { tmps := #[.iface 23 (.pointer (some ⟨p, 0, none⟩)), .agg #[.int .i64 t, .int .i64 n], undef, .pointer (some ⟨b, 0, none⟩), .pointer (some ⟨b + 1, 0, none⟩), .pointer (some ⟨b + 1 + 1, 0, none⟩), .pointer (some ⟨b + 1 + 1 + 1, 0, none⟩), .pointer (some ⟨b + 1 + 1 + 1 + 1, 0, none⟩), u8, u9, .int .i64 (x.i : Int), .pointer (some ⟨c11, 0, none⟩), .iface 23 (.pointer (some ⟨p, 0, none⟩)), .bool false, undef, undef, .pointer (some ⟨b, 0, none⟩), .int .i64 t, u18, u19, u20, u21, u22, u23, u24, u25, u26, u27, u28, u29, u30, u31, u32, u33, u34, u35, u36, u37, .iface 23 (.pointer (some ⟨p, 0, none⟩)), .func (.func 47) #[] #[.pointer (some ⟨s, 0, none⟩)], .int .i64 (x.i : Int), .agg #[.int .i64 x.k.t, .int .i64 x.k.n, .int .i64 x.v.t, .int .i64 x.v.n], v42, v43, v44, v45, v46, v47, v48, v49, v50], defers := [] })
      (fun x a' s X Y row hs hg hr => by
        obtain ⟨c11, v42, v43, v44, v45, v46, v47, v48, v49, v50, h1, h2⟩ := hs
        exact ⟨c11, v42, v43, v44, v45, v46, v47, v48, v49, v50, h1.grown hg (fun r e => (hr r e).2), h2⟩)
      ?assign ?body ?done ?stop
    case assign =>
      rintro l pre ⟨xi, ⟨kt, kn⟩, ⟨vt, vn⟩⟩ W K ⟨hp, hN⟩ hK
      simp only [encP]
      have HBX := Lib.hid (Box.new W [.int .i64 kt, .int .i64 kn, .int .i64 vt, .int .i64 vn] 66)
      have HN3 := Lib.hid hN
      have HP3 := Lib.hid hp
      clear hN hp
      gi_wp2
      exact hK _ _ ((KeepsOthers.alloc W _).from _) (KpC.alloc _ _ _) ⟨HP3.out, HN3.out.alloc HB.out _⟩ ⟨_, _, _, _, _, _, _, _, _, _, HBX.out, rfl⟩
    case body =>
      rintro l pre ⟨xi, ⟨kt, kn⟩, ⟨vt, vn⟩⟩ a' W hl hrec ⟨hp, hN⟩ ⟨c11, v42, v43, v44, v45, v46, v47, v48, v49, v50, hc11, rfl⟩ hlen
      obtain ⟨⟨p0, p1, p2, p3⟩, ⟨q0, q1, q2, q3⟩, ⟨r0, r1⟩, s0, s1⟩ := hN.facts
      obtain ⟨d0, d1, d2, d3⟩ := hc11.cells4
      simp only at d0 d1 d2 d3
      have HN3 := Lib.hid hN
      have HP3 := Lib.hid hp
      clear hN hp hc11
      dsimp only
      by_cases hlt : f < (xi : Int)
      · have hfi : (pre ++ [(⟨xi, ⟨kt, kn⟩, ⟨vt, vn⟩⟩ : Pr)]).find? (isNx f) = some ⟨xi, ⟨kt, kn⟩, ⟨vt, vn⟩⟩ := by
          have h := HP3.out
          unfold NoNx at h
          rw [List.find?_append, h]; simp [isNx, hlt]
        have HFI := Lib.hid hfi
        clear hfi
        gi_wp2
        have hE3 := (HN3.out.out (⟨kt, kn⟩, ⟨vt, vn⟩, 0)).drew
        have hK3 := outW_keeps W1.heap.size b (⟨kt, kn⟩, ⟨vt, vn⟩, 0) W
        unfold outW at hK3
        simp only at hE3 hK3
        have HE3 := Lib.hid hE3
        have HK3 := Lib.hid hK3
        clear hE3 hK3
        gi_region
        all_goals gi_wp2
        all_goals (
          have hE3 := HE3.out
          have hK3 := HK3.out
          generalize World.setCell (World.setCell (World.setCell _ _ _) _ _) _ _ = X at hE3 hK3 ⊢
          refine (show KeepsFrom W1.heap.size W X.drew ∧ (Code.ret = Code.ret ∧ ∃ x, IsNx f (pre ++ [(⟨xi, ⟨kt, kn⟩, ⟨vt, vn⟩⟩ : Pr)]) x ∧ NE w b (x.k, x.v, 0) X.drew) from ⟨⟨hK3.size, hK3.same⟩, rfl, _, HFI.out, hE3⟩))
      · have hfi : (pre ++ [(⟨xi, ⟨kt, kn⟩, ⟨vt, vn⟩⟩ : Pr)]).find? (isNx f) = none := by
          have h := HP3.out
          unfold NoNx at h
          rw [List.find?_append, h]; simp [isNx]; omega
        have HFI := Lib.hid hfi
        clear hfi
        gi_wp2
        exact ⟨KeepsFrom.refl _ _, KpC.refl _ _, HFI.out, HN3.out⟩
    case done =>
      rintro D ys W hD rfl ⟨hp, hN⟩ hK
      have HN3 := Lib.hid hN
      have HG3 := Lib.hid (show g = (nilV, nilV, 0) from by unfold NoNx at hp; rw [HGF.out]; unfold nx; rw [hp]; rfl)
      obtain ⟨⟨p0, p1, p2, p3⟩, ⟨q0, q1, q2, q3⟩, ⟨r0, r1⟩, s0, s1⟩ := hN.facts
      have HE3 := Lib.hid (hN.out (nilV, nilV, 0))
      have HK5 := Lib.hid (show (outW b (nilV, nilV, 0) W).heap[D]? = some (.deferred (some [])) from (outW_keeps D b (nilV, nilV, 0) W).same D _ (Nat.le_refl _) hK rfl)
      clear hN hp hK
      gi_wp2
      have hK5 := HK5.out
      have hE3 := HE3.out
      unfold outW at hK5
      simp only [nilV] at hK5 hE3
      generalize World.setCell (World.setCell _ _ _) _ _ = WF at hK5 hE3 ⊢
      have hE4 := hE3.grown HB.out (grownBy_putObj' WF D (.deferred none)) (fun r e => by cases e; exact ⟨by have := HSZ1.out; omega, _, hK5, rfl⟩)
      refine ⟨by simp, .inl ⟨_, _, rfl, run_takeDeferred hK5, ?_⟩⟩
      refine ⟨encNx (nilV, nilV, 0), nx_results hE4 rfl rfl rfl, by rw [HG3.out], ?_⟩
      have := hE4.below
      rw [HB.out] at this
      exact this
    case stop =>
      rintro D c pre W hD ⟨rest, hpre⟩ ⟨rfl, x, hx, hE⟩ hK
      have HG3 := Lib.hid (show g = (x.k, x.v, 0) from by unfold IsNx at hx; rw [HGF.out]; unfold nx; rw [← hpre, List.find?_append, hx]; rfl)
      have HE := Lib.hid hE
      clear hpre hx hE
      gi_wp2
      have hE4 := HE.out.grown HB.out (grownBy_putObj' W D (.deferred none)) (fun r e => by cases e; exact ⟨by have := HSZ1.out; omega, _, hK, rfl⟩)
      refine ⟨by simp, .inl ⟨_, _, rfl, run_takeDeferred hK, ?_⟩⟩
      refine ⟨encNx (x.k, x.v, 0), nx_results hE4 rfl rfl rfl, by rw [HG3.out], ?_⟩
      have := hE4.below
      rw [HB.out] at this
      exact this

theorem next_any (H : MemAt w p sv T) (hP : Pow2 T.nodes) (k : V) : Calls Try.prog 11 #[.iface 23 (.pointer (some ⟨p, 0, none⟩)), .agg #[.int .i64 k.t, .int .i64 k.n]] w fun e w' => e = .returned (encNx (nextR T k)) ∧ Below w.heap.size w w' :=
  callsIn_wide.1 (next_in Fence.wide 5 (fun _ => trivial) rfl rfl rfl (by omega) H hP k)
end Go.Proofs.Ytpodgmajccmgkaa
