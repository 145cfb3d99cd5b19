/- The contracts restated for laws: a table that a law has made. -/
import Derived.Test.YtpodgmajccmgkaaTabNext
import Derived.Test.YtpodgmajccmgkaaTabLen
namespace Go.Proofs.Ytpodgmajccmgkaa
open Go.RowKit Go.Shelf
set_option linter.unusedVariables false
set_option linter.unusedSimpArgs false
attribute [local go_sem] Oper.semAt_some nil_slot field_t meth_array meth_nodes meth_slot meth_setslot meth_resize meth_hash

variable {w0 w w' : World} {p : Nat} {sv sv' : Value} {T T' : Tb}

/-- A table at p, made since w0. -/
structure HasT (w0 w : World) (p : Nat) (sv : Value) (T : Tb) : Prop where
  m : MemAt w p sv T
  own : ∀ k, OwnS p sv k → w0.heap.size ≤ k
  b : Below w0.heap.size w0 w
  pow : Pow2 T.nodes
  most : T.most < 2 ^ 63 ∧ -(2 ^ 63) ≤ T.most

theorem HasT.step (H : HasT w0 w p sv T) (hb : Below w.heap.size w w') : HasT w0 w' p sv T := ⟨H.m.below hb, H.own, H.b.trans (hb.mono H.b.size), H.pow, H.most⟩
theorem HasT.mv (H : HasT w0 w p sv T) (hm : MemAt w' p sv' T') (hv : Mv p sv w w' sv') (hp : Pow2 T'.nodes) (hmo : T'.most = T.most) : HasT w0 w' p sv' T' :=
  ⟨hm, fun k hk => by
      rcases hv.2 k hk with h | h
      · exact H.own k h
      · exact Nat.le_trans H.b.size h,
    H.b.trans (hv.1.below H.b.size fun k hk h => by have := H.own k h; omega), hp, by rw [hmo]; exact H.most⟩
theorem HasT.ge (H : HasT w0 w p sv T) : w0.heap.size ≤ p := H.own p (.inl rfl)

theorem putT_shape (T : Tb) (k v : V) : (putT T k v).1.a = T.a ∧ (putT T k v).1.sl.length = T.sl.length ∧ (putT T k v).1.most = T.most := by
  unfold putT
  split
  · simp [setT_a, setT_len, setT_most]
  · split
    · simp
    · split <;> simp [setT_a, setT_len, setT_most]
theorem putT_nodes (T : Tb) (k v : V) : (putT T k v).1.nodes = T.nodes := by
  obtain ⟨h1, h2, -⟩ := putT_shape T k v
  unfold Tb.nodes; rw [h1, h2]
theorem renewT_most (T : Tb) (k : V) : (renewT T k).1.most = T.most := by
  unfold renewT
  split
  · exact (foldl_shape (pairsL T) (sizedT T (newSz T k).1 (newSz T k).2)).2.2
  · rfl
theorem setR_pow (T : Tb) (k v : V) (hP : Pow2 T.nodes) : Pow2 (setR T k v).1.nodes := by
  unfold setR
  split
  · exact hP
  · split
    · exact hP
    · split
      · simp only; rw [putT_nodes]; exact hP
      · split
        · simp only; rw [putT_nodes]; exact renewT_nodes _ _ hP
        · exact hP
theorem setR_most (T : Tb) (k v : V) : (setR T k v).1.most = T.most := by
  unfold setR
  split
  · rfl
  · split
    · rfl
    · split
      · exact (putT_shape _ _ _).2.2
      · split
        · exact (putT_shape _ _ _).2.2.trans (renewT_most _ _)
        · rfl

def SetHas (w0 w : World) (p : Nat) (sv : Value) (g : Tb × Int) (e : Ending) (w' : World) : Prop :=
  ∃ sv', e = .returned (.int .i64 g.2) ∧ HasT w0 w' p sv' g.1 ∧ Mv p sv w w' sv'

theorem set_has (H : HasT w0 w p sv T) (hpl : (pairsL T).length + 1 ≤ 8000) (k v : V) :
    Calls Try.prog 16 #[.iface 23 (.pointer (some ⟨p, 0, none⟩)), .agg #[.int .i64 k.t, .int .i64 k.n], .agg #[.int .i64 v.t, .int .i64 v.n]] w fun e w' => SetHas w0 w p sv (setR T k v) e w' :=
  (set_any H.m H.pow H.most hpl k v).mono fun _ _ ⟨sv', h1, h2, h3⟩ => ⟨sv', h1, H.mv h2 h3 (setR_pow _ _ _ H.pow) (setR_most _ _ _), h3⟩

def NewHas (w : World) (most : Int) (e : Ending) (w' : World) : Prop :=
  ∃ p, e = .returned (.pointer (some ⟨p, 0, none⟩)) ∧ HasT w w' p (.slice none 0 0) ⟨most, 0, []⟩
theorem new_has (most : Int) (hm : most < 2 ^ 63 ∧ -(2 ^ 63) ≤ most) (w : World) : Calls Try.prog 19 #[.int .i64 most] w fun e w' => NewHas w most e w' :=
  (newmem_any most w).mono fun _ _ ⟨p, h1, h2, h3, h4⟩ => ⟨p, h1, h2, fun k hk => by
    rcases hk with rfl | hk
    · exact h3
    · simp [Value.ownBlock] at hk, h4, .inl (by simp [Tb.nodes]), hm⟩

theorem next_has (H : HasT w0 w p sv T) (k : V) : Calls Try.prog 11 #[.iface 23 (.pointer (some ⟨p, 0, none⟩)), .agg #[.int .i64 k.t, .int .i64 k.n]] w fun e w' => e = .returned (encNx (nextR T k)) ∧ Below w.heap.size w w' := next_any H.m H.pow k
theorem get_has (H : HasT w0 w p sv T) (k : V) : Calls Try.prog 13 #[.iface 23 (.pointer (some ⟨p, 0, none⟩)), .agg #[.int .i64 k.t, .int .i64 k.n]] w fun e w' => e = .returned (.agg #[.int .i64 (getT T k).t, .int .i64 (getT T k).n]) ∧ Below w.heap.size w w' := get_any' H.m H.pow k
theorem len_has (H : HasT w0 w p sv T) (N : Nat) (hN : IsLen T N) (hN6 : N ≤ 1000000) : Calls Try.prog 17 #[.iface 23 (.pointer (some ⟨p, 0, none⟩))] w fun e w' => e = .returned (.int .i64 N) ∧ Below w.heap.size w w' := len_any H.m H.pow N hN hN6

set_option maxHeartbeats 400000 in
theorem no_any (n : Int) (w : World) : Calls Try.prog 12 #[.int .i64 n] w fun e w' => e = .returned (.int .i64 n) ∧ w' = w := by
  go_enter Try.func12, Try.ntmps12
  go_wp2_with fail
  go_ret
  exact ⟨rfl, rfl⟩
set_option maxHeartbeats 400000 in
theorem word_any (n : Int) (w : World) : Calls Try.prog 34 #[.int .i64 n] w fun e w' => e = .returned (.agg #[.int .i64 4, .int .i64 n]) ∧ Below w.heap.size w w' := by
  go_enter Try.func34, Try.ntmps34
  go_wp2_with fail
  refine bodyPost_ret (v := .agg #[.int .i64 4, .int .i64 n]) (by simp [results, Try.results34, go_sem]) rfl ⟨rfl, (by repeat (first | exact Below.refl _ _ | refine Below.alloc ?_ (by first | (simp; done) | (simp; omega)) _ | refine Below.drew ?_ | refine Below.setCell ?_ (by first | (simp; done) | (simp; omega)) _))⟩
set_option maxHeartbeats 400000 in
theorem float_one (w : World) : Calls Try.prog 35 #[.float .f64 4607182418800017408] w fun e w' => e = .returned (.agg #[.int .i64 3, .int .i64 4607182418800017408]) ∧ Below w.heap.size w w' := by
  go_enter Try.func35, Try.ntmps35
  have hn : (FloatKind.f64.format.order 4607182418800017408 4607182418800017408 != some Ordering.eq) = false := by kernel_rfl
  have hb := to_bits 4607182418800017408
  have hw : IntKind.i64.wrap 4607182418800017408 = 4607182418800017408 := by decide
  go_wp2_with fail
  refine bodyPost_ret (v := .agg #[.int .i64 3, .int .i64 4607182418800017408]) (by simp [results, Try.results35, go_sem]) rfl ⟨rfl, (by repeat (first | exact Below.refl _ _ | refine Below.alloc ?_ (by first | (simp; done) | (simp; omega)) _ | refine Below.drew ?_ | refine Below.setCell ?_ (by first | (simp; done) | (simp; omega)) _))⟩
end Go.Proofs.Ytpodgmajccmgkaa
