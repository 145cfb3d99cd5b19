/- All cells of a block in a row; rows of rows that are watched. -/
import Derived.Test.YtpaopcnbgdlgnaaExtsP
import Derived.Test.YtpaopcnbgdlgnaaATop
namespace Go.Proofs.Ytpaopcnbgdlgnaa
open Go.RowKit Go.MapKept
set_option linter.unusedVariables false
set_option linter.unusedSimpArgs false

theorem Try.infoC2 : (Try.prog.info? 2).map (fun i => (i.zero, i.size, i.bytes)) = some (some (.int .i64 0), 1, 8) := by kernel_rfl

def CellsPost (w : World) (xs : List Int) (e : Ending) (w' : World) : Prop :=
  ∃ v, e = .returned v ∧ w'.ownsRow w.heap.size 2 1 v xs.length (xs.map iv) ∧ Below w.heap.size w w'

set_option maxHeartbeats 1000000 in
theorem cells_any {w : World} {A : AP} {S : St} (H : ArenaAt w A S) {h : Int} {xs : List Int} (hc : Cont S h xs) (hx6 : xs.length ≤ 65536) :
    Calls Try.prog 31 #[.pointer (some ⟨A.p, 0, none⟩), .int .i64 h] w fun e w' => CellsPost w xs e w' := by
  obtain ⟨i0, hi0, hz0, hz1, hz2⟩ := info_parts Try.infoC2
  obtain ⟨N, hN⟩ : ∃ N, N = xs.length := ⟨_, rfl⟩
  have hfl : (findR S.L h).2.1 = (N : Int) := by obtain ⟨a, ha⟩ := hc.len; rw [ha, hN]
  rw [← hN] at hx6
  have HC := Lib.hid hc
  have HN := Lib.hid hN
  have HFL := Lib.hid hfl
  clear hc hN hfl
  go_enter Try.func31, Try.ntmps31
  go_wp2_with fail
  go_loopw [5, 6] (fun out t6 wr => ∃ i : Nat, i ≤ N ∧ t6 = .int .i64 i ∧ wr.ownsRow w.heap.size 2 1 out i ((xs.take i).map iv) ∧ Below w.heap.size w wr) (fun _ t6 _ => N - (intOf t6).toNat)
  case atStart => exact ⟨0, Nat.zero_le _, by go_num, World.ownsRow_nil _ _ _ _, Below.refl _ _⟩
  case round =>
    obtain ⟨i, hi, rfl, hown, hB⟩ := hrel
    obtain ⟨a0, cc, rfl⟩ := row_shape hown
    have H1 := H.below hB
    have hBs := hB.size
    have LN := len_any H1 h
    rw [HFL.out] at LN
    go_wp2_with fail
    refine LN.mono ?_
    clear LN
    rintro e w2 ⟨rfl, hb2⟩
    have H2 := H1.below hb2
    have own2 := row_below hown hb2
    have B2 := hB.trans (hb2.mono hBs)
    have hs2 := B2.size
    clear hown hb2 hB
    by_cases hlt : i < N
    · obtain ⟨x, hx⟩ : ∃ x, xs[i]? = some x := ⟨xs[i]'(by rw [← HN.out]; exact hlt), List.getElem?_eq_getElem _⟩
      have LD := load_any H2 h i
      rw [HC.out.load hx] at LD
      have hts : (xs.take (i + 1)).map iv = (xs.take i).map iv ++ [.int .i64 x] := by rw [List.take_add_one, hx]; simp [iv]
      have HTS := Lib.hid hts
      clear hts hx
      simp only at LD
      go_wp2_with fail
      refine LD.mono ?_
      clear LD
      rintro e w3 ⟨rfl, hb3⟩
      have own3 := row_below own2 hb3
      have B3 := B2.trans (hb3.mono hs2)
      have hs3 := B3.size
      clear own2 hb3 B2
      go_wp2_with (at_builtin; refine wpList_append_own _ rfl _ _ 38 rfl w.heap.size 2 i0 (.int .i64 0) 1 8 Try.underlying38 hi0 hz0 hz1 hz2 rfl (by decide) _ _ _ rfl (own3.alloc _) _ _ _ [.int .i64 x] rfl rfl ?_ ?_ ?_ ?_ ?_ ?_)
      · exact cell_new1 w3 (.int .i64 x) 2
      · intro u hu; simp at hu; subst hu; rfl
      · unfold maxLen; omega
      · omega
      · simp; omega
      intro v' w4 hown4 hg4 _
      go_wp2_with fail
      go_roundw
      case rel =>
        refine ⟨i + 1, by omega, by go_num, ?_, ?_⟩
        · rw [HTS.out, List.map_take]; exact hown4
        · refine (B3.alloc hs3 _).grown hg4 (by simp; omega) ?_
          intro j hj
          exact (own3.lt j hj).1
      case measure => simp [intOf]; omega
    · obtain rfl : i = N := by omega
      have HP : CellsPost w xs (.returned (.slice a0 i cc)) w2 := ⟨_, rfl, by rw [← HN.out]; have := own2; rw [HN.out, List.take_length, ← HN.out] at this; exact this, B2⟩
      have HP := Lib.hid HP
      clear own2 H2 H1 B2
      go_wp2_with fail
      go_ret
      exact HP.out

theorem has_cells {X : Nat → Prop} {w0 w : World} {p : Nat} {S : St} (H : Has X w0 w p S) {h : Int} {xs : List Int} (hc : Cont S h xs) (hx6 : xs.length ≤ 65536) :
    Calls Try.prog 31 #[.pointer (some ⟨p, 0, none⟩), .int .i64 h] w fun e w' => CellsPost w xs e w' := by
  obtain ⟨A, rfl, H, _⟩ := H
  exact cells_any H hc hx6

/-- All that was made since may be watched. -/
theorem Has.watchAll {X : Nat → Prop} {w0 w w' : World} {p : Nat} {S : St} (h : Has X w0 w p S) (hb : Below w.heap.size w w') : Has (fun k => X k ∨ (w.heap.size ≤ k ∧ k < w'.heap.size)) w0 w' p S := by
  obtain ⟨A, hp, H, h0, ho, hX⟩ := h
  refine ⟨A, hp, H.below hb, h0.trans (hb.mono h0.size), fun j hj => ⟨(ho j hj).1, ?_⟩, ?_⟩
  · rintro (h1 | ⟨h1, _⟩)
    · exact (ho j hj).2 h1
    · have := H.owns_lt hj; omega
  · rintro j (h1 | ⟨_, h1⟩)
    · exact Nat.lt_of_lt_of_le (hX j h1) hb.size
    · exact h1

/-- What lies in a handle's block. -/
def contL (S : St) (h : Int) : List Int := match getB h S.L with | some b => (S.cells.drop b.a).take b.n | none => []

theorem contL_of {S : St} (hS : Inv S) {h : Int} {b : Blk} (hb : getB h S.L = some b) : Cont S h (contL S h) ∧ (contL S h).length = b.n := by
  have := hS.get hb
  unfold contL
  rw [hb]
  simp only
  refine ⟨⟨b, hb, by simp; omega, fun j x hj => ?_⟩, by simp; omega⟩
  have hlt := (List.getElem?_eq_some_iff.1 hj).1
  simp at hlt
  rw [List.getElem?_take_of_lt (by omega), List.getElem?_drop] at hj
  exact hj

theorem reads_of {w : World} {base n : Nat} {e : TypeId} {v : Value} {xs : List Int} (h : w.ownsRow base e 1 v n (xs.map iv)) : Reads w w.heap.size v xs := by
  by_cases hx : xs = []
  · subst hx
    obtain ⟨a, c, rfl⟩ := row_shape h
    have hl := h.1
    simp at hl
    subst hl
    exact ⟨a, c, rfl, fun i x hi => by simp at hi⟩
  · obtain ⟨g, c, spare, rfl, hn, hg, hb, hlt⟩ := row_open' h (by simpa using hx)
    refine ⟨_, c, by rw [hn]; simp, fun i x hi => ⟨g, rfl, hlt, ?_⟩⟩
    rw [cell_of_list hg, List.getElem?_append_left (by simpa using (List.getElem?_eq_some_iff.1 hi).1), List.getElem?_map, hi]
    rfl

/-- A row made since: its cells lie from there on. -/
def Since (base : Nat) (w : World) (v : Value) (xs : List Int) : Prop :=
  ∃ A c, v = .slice A xs.length c ∧ ∀ (q : Nat) (x : Int), xs[q]? = some x → ∃ g, A = some ⟨g, 0, none⟩ ∧ base ≤ g ∧ g < w.heap.size ∧ w.cell? ⟨g, q, none⟩ = some (.int .i64 x)

theorem row_since {w : World} {base n : Nat} {e : TypeId} {v : Value} {xs : List Int} (h : w.ownsRow base e 1 v n (xs.map iv)) : Since base w v xs := by
  obtain ⟨A9, c9, h9, k9⟩ := reads_of h
  refine ⟨A9, c9, h9, fun q x hq => ?_⟩
  obtain ⟨g, e1, e2, e3⟩ := k9 q x hq
  exact ⟨g, e1, (h.lt g (by rw [h9, e1]; rfl)).1, e2, e3⟩

theorem Since.below {base : Nat} {w w' : World} {v : Value} {xs : List Int} (h : Since base w v xs) (hb : Below w.heap.size w w') : Since base w' v xs := by
  obtain ⟨A, c, h2, h3⟩ := h
  refine ⟨A, c, h2, fun q x hq => ?_⟩
  obtain ⟨g, e1, e0, e2, e3⟩ := h3 q x hq
  exact ⟨g, e1, e0, Nat.lt_of_lt_of_le e2 hb.size, (hb.cell e2).trans e3⟩

theorem Row.mono {X Y : Nat → Prop} {w : World} {v : Value} {xs : List Int} (h : Row X w v xs) (hX : ∀ k, X k → Y k) : Row Y w v xs := by
  obtain ⟨A, c, hv, hx⟩ := h
  refine ⟨A, c, hv, fun i x hi => ?_⟩
  obtain ⟨g, h1, h2, h3⟩ := hx i x hi
  exact ⟨g, h1, hX g h2, h3⟩

/-! ### rows of rows -/
/-- A row of rows in the making. -/
def Inners (base : Nat) (w : World) (vs : List Value) (i : Nat) (vss : List (List Int)) : Prop :=
  ∀ (j : Nat) xs, j < i → vss[j]? = some xs → ∃ u, vs[j]? = some u ∧ Since base w u xs

theorem Inners.below {base : Nat} {w w' : World} {vs : List Value} {i : Nat} {vss : List (List Int)} (h : Inners base w vs i vss) (hb : Below w.heap.size w w') : Inners base w' vs i vss := by
  intro j xs hj hx
  obtain ⟨u, h1, h2⟩ := h j xs hj hx
  exact ⟨u, h1, h2.below hb⟩

/-- An append to the row of rows leaves the rows in it as they are. -/
theorem Inners.grown {w w' : World} {base : Nat} {e : TypeId} {v u : Value} {vs : List Value} {i : Nat} {vss : List (List Int)} {xs : List Int} (h : Inners base w vs i vss) (hl : vs.length = i) (ho : w.ownsRow base e 1 v i vs)
    (hx : vss[i]? = some xs) {g0 : Nat} (hg0 : ∀ g, v.ownBlock = some g → g < g0) (hb0 : base ≤ g0) (hu : Since g0 w u xs)
    (hg : w.grownBy w' v.ownBlock) : Inners base w' (vs ++ [u]) (i + 1) vss := by
  intro j ys hj hy
  by_cases hji : j < i
  · obtain ⟨u', h1, A, c, h2, h3⟩ := h j ys hji hy
    refine ⟨u', by rw [List.getElem?_append_left (by omega)]; exact h1, A, c, h2, fun q x hq => ?_⟩
    obtain ⟨g, e1, e0, e2, e3⟩ := h3 q x hq
    refine ⟨g, e1, e0, Nat.lt_of_lt_of_le e2 hg.size, hg.cell e3 ?_⟩
    intro hgo
    have hgo : v.ownBlock = some g := hgo.symm
    have hlt := (List.getElem?_eq_some_iff.1 hq).1
    obtain ⟨g', f1, _, f2, f3⟩ := h3 0 (ys[0]'(by omega)) (List.getElem?_eq_getElem _)
    have hgg : g' = g := by rw [e1] at f1; simpa using f1.symm
    subst hgg
    have hv0 : vs[0]? = some (vs[0]'(by omega)) := List.getElem?_eq_getElem _
    have hc := ho.cells hgo 0 _ hv0
    have hc2 : w.cell? ⟨g', 0, none⟩ = some (vs[0]'(by omega)) := by simpa [Addr.add] using hc
    rw [f3] at hc2
    obtain ⟨x0, hx0⟩ : ∃ x0, vss[0]? = some x0 := ⟨vss[0]'(by have := (List.getElem?_eq_some_iff.1 hx).1; omega), List.getElem?_eq_getElem _⟩
    obtain ⟨u0, k1, A0, c0, k2, _⟩ := h 0 x0 (by omega) hx0
    rw [hv0] at k1
    simp only [Option.some.injEq] at k1 hc2
    rw [k1, k2] at hc2
    simp at hc2
  · obtain rfl : j = i := by omega
    rw [hx] at hy
    cases hy
    obtain ⟨A, c, h2, h3⟩ := hu
    refine ⟨u, by rw [List.getElem?_append_right (by omega), hl]; simp, A, c, h2, fun q x hq => ?_⟩
    obtain ⟨g, e1, e0, e2, e3⟩ := h3 q x hq
    refine ⟨g, e1, Nat.le_trans hb0 e0, Nat.lt_of_lt_of_le e2 hg.size, hg.cell e3 ?_⟩
    intro hgo
    have := hg0 g hgo.symm
    omega

/-- A row of rows that is watched. -/
def Was (X : Nat → Prop) (w : World) (v : Value) (vss : List (List Int)) : Prop :=
  ∃ A c, v = .slice A vss.length c ∧ ∀ (i : Nat) (xs : List Int), vss[i]? = some xs → ∃ g u, A = some ⟨g, 0, none⟩ ∧ X g ∧ w.cell? ⟨g, i, none⟩ = some u ∧ Row X w u xs

theorem Was.same {X : Nat → Prop} {w w' : World} {v : Value} {vss : List (List Int)} (h : Was X w v vss) (hs : Same X w w') : Was X w' v vss := by
  obtain ⟨A, c, hv, hx⟩ := h
  refine ⟨A, c, hv, fun i xs hi => ?_⟩
  obtain ⟨g, u, h1, h2, h3, h4⟩ := hx i xs hi
  exact ⟨g, u, h1, h2, (World.cell?_of_block (w := w) (hs g h2)).trans h3, h4.same hs⟩

theorem Inners.was {X : Nat → Prop} {w : World} {base : Nat} {e : TypeId} {v : Value} {vs : List Value} {i : Nat} {vss : List (List Int)} (h : Inners base w vs i vss) (hi : i = vss.length) (ho : w.ownsRow base e 1 v i vs)
    (hX : ∀ k, base ≤ k → k < w.heap.size → X k) : Was X w v vss := by
  subst hi
  by_cases hv : vs = []
  · subst hv
    obtain ⟨a, c, rfl⟩ := row_shape ho
    have hl := ho.1
    simp at hl
    exact ⟨a, c, rfl, fun i x hi => by have := (List.getElem?_eq_some_iff.1 hi).1; omega⟩
  · obtain ⟨g, c, spare, rfl, hn, hg, hbb, hlt⟩ := row_open' ho hv
    refine ⟨_, c, rfl, fun i xs hi => ?_⟩
    have hil := (List.getElem?_eq_some_iff.1 hi).1
    obtain ⟨u, h1, h2⟩ := h i xs hil hi
    obtain ⟨A2, c2, e1, e2⟩ := h2
    refine ⟨g, u, rfl, hX g hbb hlt, ?_, A2, c2, e1, fun q x hq => by obtain ⟨g2, f1, f2, f3, f4⟩ := e2 q x hq; exact ⟨g2, f1, hX g2 f2 f3, f4⟩⟩
    rw [cell_of_list hg, List.getElem?_append_left (by omega), h1]

theorem Was.at_ {X : Nat → Prop} {w : World} {A : Option Addr} {n c : Nat} {vss : List (List Int)} (h : Was X w (.slice A n c) vss) {i : Nat} {xs : List Int} (hi : vss[i]? = some xs) :
    ∃ g u, A = some ⟨g, 0, none⟩ ∧ X g ∧ w.cell? ⟨g, i, none⟩ = some u ∧ Row X w u xs := by
  obtain ⟨A', c', hv, hx⟩ := h
  simp only [Value.slice.injEq] at hv
  rw [hv.1]
  exact hx i xs hi

theorem Since.at_ {base : Nat} {w : World} {A : Option Addr} {n c : Nat} {xs : List Int} (h : Since base w (.slice A n c) xs) {i : Nat} {x : Int} (hi : xs[i]? = some x) :
    ∃ g, A = some ⟨g, 0, none⟩ ∧ base ≤ g ∧ g < w.heap.size ∧ w.cell? ⟨g, i, none⟩ = some (.int .i64 x) := by
  obtain ⟨A', c', hv, hx⟩ := h
  simp only [Value.slice.injEq] at hv
  rw [hv.1]
  exact hx i x hi

/-- An arena, a row of handles, and a row of rows. -/
def Ext (X : Nat → Prop) (w : World) (p : Nat) (S : St) (v : Value) (xs : List Int) (u : Value) (vss : List (List Int)) (wr : World) : Prop := Two X w p S v xs wr ∧ Was X wr u vss

variable {X : Nat → Prop} {w wr w' : World} {p : Nat} {S S' : St} {v u : Value} {xs : List Int} {vss : List (List Int)}

theorem Ext.next (h : Ext X w p S v xs u vss wr) (H : Has X w w' p S') (s : Same X wr w') : Ext X w p S' v xs u vss w' := ⟨⟨H, h.1.2.same s⟩, h.2.same s⟩

theorem Ext.below (h : Ext X w p S v xs u vss wr) (hb : Below wr.heap.size wr w') : Ext X w p S v xs u vss w' := h.next (h.1.1.below hb).1 (h.1.1.below hb).2

theorem Ext.row {g n c i : Nat} {ys : List Int} (h : Ext X w p S v xs (.slice (some ⟨g, 0, none⟩) n c) vss wr) (hi : vss[i]? = some ys) : ∃ A c', wr.cell? ⟨g, i, none⟩ = some (.slice A ys.length c') ∧ ∀ (q : Nat) (x : Int), ys[q]? = some x → ∃ k, A = some ⟨k, 0, none⟩ ∧ wr.cell? ⟨k, q, none⟩ = some (.int .i64 x) := by
  obtain ⟨_, A, c', hv, hx⟩ := h
  obtain ⟨g', u', h1, h2, h3, h4⟩ := hx i ys hi
  simp only [Value.slice.injEq] at hv
  rw [← hv.1] at h1
  simp only [Option.some.injEq, Addr.mk.injEq] at h1
  obtain ⟨rfl, _⟩ := h1
  obtain ⟨A', c'', rfl, h5⟩ := h4
  exact ⟨A', c'', h3, fun q x hq => by obtain ⟨k, e1, _, e3⟩ := h5 q x hq; exact ⟨k, e1, e3⟩⟩
end Go.Proofs.Ytpaopcnbgdlgnaa
