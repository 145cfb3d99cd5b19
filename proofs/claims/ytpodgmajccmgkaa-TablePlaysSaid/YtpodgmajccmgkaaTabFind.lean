/- find: where a key lies. -/
import Derived.Test.YtpodgmajccmgkaaTabWay
namespace Go.Proofs.Ytpodgmajccmgkaa
open Go.RowKit Go.Shelf
set_option linter.unusedVariables false
set_option linter.unusedSimpArgs false
attribute [local go_sem] Oper.semAt_some nil_slot field_t meth_array meth_nodes meth_slot meth_setslot meth_resize meth_hash

variable {w w' : World} {p : Nat} {sv sv' : Value} {T T' : Tb}

set_option maxHeartbeats 400000 in
theorem way_in (F : Fence) (n : Nat) (hF : ∀ f, F.fn f) (hro : F.round = none) (p : Nat) (k : V) (w : World) :
    CallsIn F n Try.prog 46 #[memV p, k.val] w fun e w' => e = .returned (.func (.func 62) #[] #[.pointer (some ⟨w.heap.size, 0, none⟩), .pointer (some ⟨w.heap.size + 1, 0, none⟩)]) ∧
      w' = (w.alloc (.cells #[memV p] 59)).alloc (.cells #[.int .i64 k.t, .int .i64 k.n] 27) := by
  unfold V.val memV
  refine callsIn_of_wp Try.func46 rfl (hF _) ?_ hro
  simp only [Try.ntmps46, List.size_toArray, List.length_cons, List.length_nil, Nat.reduceAdd, Nat.reduceSub, Array.replicate_succ, Array.replicate_zero, List.push_toArray, List.append_toArray, List.nil_append, List.cons_append]
  gi_wp2
  go_ret
  exact ⟨rfl, rfl⟩

def encF {N : Nat} (x : Fin N) : Array Value := encN x.val

theorem way_stops (F : Fence) (n : Nat) (hF : ∀ f, F.fn f) (hal : F.alive = false) (hd : F.depth = none) (hro : F.round = none) (hn : 1 ≤ n) (C : Nat → Prop) (w : World) (H : MemAt w p sv T) (hP : Pow2 T.nodes) (k : V) (bs bk : Nat)
    (hbs : Box w bs [memV p] 59) (hbk : Box w bk [.int .i64 k.t, .int .i64 k.n] 27) (hC : ∀ k, OwnS p sv k → ¬ C k) (hCb : ¬ C bs ∧ ¬ C bk) (hCn : ∀ k, C k → k < w.heap.size) :
    SeqStopsK F n Try.prog 62 #[.pointer (some ⟨bs, 0, none⟩), .pointer (some ⟨bk, 0, none⟩)] (encF (N := T.nodes)) (KpC C) (fun ys => ys.map Fin.val = wayL T k) (fun pre => pre.map Fin.val <+: wayL T k) (T.nodes + 1) w := by
  intro l J Jx W hW hJ _ hY h0
  refine (way1_in F n hF hal hd hro hn l bs bk k C (fun pre W => ∃ q : List (Fin T.nodes), q.map Fin.val = pre ∧ J q W) (fun pre W => ∃ q : List (Fin T.nodes), q.map Fin.val = pre ∧ Jx q W) W ?_ ?_ (H.below hW) hP hC hCb (fun k hk => Nat.lt_of_lt_of_le (hCn k hk) hW.size) (hbs.below hW hbs.lt) (hbk.below hW hbk.lt) ⟨[], rfl, h0⟩).mono ?_
  · rintro s X Y row ⟨q, h1, h2⟩ hg hr
    exact ⟨q, h1, hJ q X Y row h2 hg hr⟩
  · rintro pre x W1 ⟨q, rfl, h2⟩ hlen hx
    obtain ⟨fn, tmps, assign, body, hy, hR⟩ := hY q ⟨x, hx⟩ W1 h2 (by simpa using hlen)
    refine ⟨fn, tmps, assign, body, hy, hR.mono ?_⟩
    rintro e W' (⟨h3, h4, h5⟩ | ⟨h3, h4⟩)
    · exact .inl ⟨h3, ⟨q ++ [⟨x, hx⟩], by simp, h4⟩, h5⟩
    · exact .inr ⟨h3, ⟨q ++ [⟨x, hx⟩], by simp, h4⟩⟩
  · rintro e W' ⟨hv, (⟨ys, rfl, q, h2, h3⟩ | ⟨pre, hpre, q, rfl, h3⟩)⟩
    · exact ⟨hv, .inl ⟨q, h2, h3⟩⟩
    · exact ⟨hv, .inr ⟨q, hpre, h3⟩⟩

theorem MemAt.grown (H : MemAt w p sv T) {row : Option Nat} (hg : w.grownBy w' row) (hr : ∀ r, row = some r → ∃ o : Obj, w.heap[r]? = some o ∧ o.isCells = false) : MemAt w' p sv T := by
  have key : ∀ (b : Nat) (c : Array Value) (e : TypeId), w.heap[b]? = some (.cells c e (0, 0)) → w'.heap[b]? = w.heap[b]? := by
    intro b c e hb
    refine hg.block b (Array.getElem?_eq_some_iff.1 hb).1 ?_
    intro heq
    obtain ⟨o, ho, hc⟩ := hr b heq.symm
    rw [hb] at ho; cases ho; cases hc
  refine ⟨(key _ _ _ H.head).trans H.head, ?_, H.le, H.small⟩
  rcases H.row with h | ⟨g, h, hg'⟩
  · exact .inl h
  · exact .inr ⟨g, h, (key _ _ _ hg').trans hg'⟩

/-- What find answers, from the nodes on the way. -/
def findL (T : Tb) (k : V) : List Nat → Int × Int
  | [] => (-1, -1)
  | x :: l => if slotT T (T.a + 2 * x : Nat) = k then (((T.a + 2 * x + 1 : Nat) : Int), -1) else if (slotT T (T.a + 2 * x : Nat)).t = 0 then (-1, (x : Int)) else findL T k l
def findT (T : Tb) (k : V) : Int × Int := if k.t = 2 ∧ 1 ≤ k.n ∧ k.n ≤ T.a then (k.n - 1, -1) else findL T k (wayL T k)

theorem findL_app {T : Tb} {k : V} {pre l : List Nat} (h : ∀ y ∈ pre, slotT T (T.a + 2 * y : Nat) ≠ k ∧ (slotT T (T.a + 2 * y : Nat)).t ≠ 0) : findL T k (pre ++ l) = findL T k l := by
  induction pre with
  | nil => rfl
  | cons x t ih =>
    have h1 := h x (by simp)
    show (if slotT T (T.a + 2 * x : Nat) = k then (((T.a + 2 * x + 1 : Nat) : Int), -1) else if (slotT T (T.a + 2 * x : Nat)).t = 0 then (-1, (x : Int)) else findL T k (t ++ l)) = _
    rw [if_neg h1.1, if_neg h1.2]
    exact ih (fun y hy => h y (by simp [hy]))

theorem way_in' (F : Fence) (n : Nat) (hF : ∀ f, F.fn f) (hro : F.round = none) (p : Nat) (t i : Int) (w : World) :
    CallsIn F n Try.prog 46 #[.iface 23 (.pointer (some ⟨p, 0, none⟩)), .agg #[.int .i64 t, .int .i64 i]] w fun e w' => e = .returned (.func (.func 62) #[] #[.pointer (some ⟨w.heap.size, 0, none⟩), .pointer (some ⟨w.heap.size + 1, 0, none⟩)]) ∧
      w' = (w.alloc (.cells #[.iface 23 (.pointer (some ⟨p, 0, none⟩))] 59)).alloc (.cells #[.int .i64 t, .int .i64 i] 27) :=
  way_in F n hF hro p ⟨t, i⟩ w

/-- find's own cells that stay: the store, the key, how many array slots there are. -/
structure FBox (W : World) (b p : Nat) (t n : Int) (a : Nat) : Prop where
  s : Box W b [.iface 23 (.pointer (some ⟨p, 0, none⟩))] 59
  k : Box W (b + 1) [.int .i64 t, .int .i64 n] 27
  a : Box W (b + 1 + 1 + 1 + 1) [.int .i64 a] 3
theorem FBox.grown {W W' : World} {b p : Nat} {t n : Int} {a : Nat} (h : FBox W b p t n a) {row : Option Nat} (hg : W.grownBy W' row) (hr : ∀ r, row = some r → ∃ o : Obj, W.heap[r]? = some o ∧ o.isCells = false) : FBox W' b p t n a :=
  ⟨h.s.grown hg hr, h.k.grown hg hr, h.a.grown hg hr⟩
theorem FBox.alloc {W : World} {b p : Nat} {t n : Int} {a : Nat} (h : FBox W b p t n a) (o : Obj) : FBox (W.alloc o) b p t n a := ⟨h.s.alloc o, h.k.alloc o, h.a.alloc o⟩
theorem FBox.below {W W' : World} {b p : Nat} {t n : Int} {a m : Nat} (h : FBox W b p t n a) (hb : Below m W W') (hm : b + 1 + 1 + 1 + 1 < m) : FBox W' b p t n a := ⟨h.s.below hb (by omega), h.k.below hb (by omega), h.a.below hb hm⟩

theorem keepsFrom_of_below {B : Nat} {W W' : World} (h : Below W.heap.size W W') : KeepsFrom B W W' := ⟨h.size, fun k o _ hk _ => (h.block k (Array.getElem?_eq_some_iff.1 hk).1).trans hk⟩

def FindTPost (w : World) (T : Tb) (k : V) (e : Ending) (w' : World) : Prop := e = .returned (.tuple #[.int .i64 (findT T k).1, .int .i64 (findT T k).2]) ∧ Below w.heap.size w w'

set_option maxRecDepth 100000 in
set_option maxHeartbeats 2000000 in
theorem find_in (F : Fence) (m : Nat) (hF : ∀ f, F.fn f) (hal : F.alive = false) (hd : F.depth = none) (hro : F.round = none) (hn : 3 ≤ m) {w : World} (H : MemAt w p sv T) (hP : Pow2 T.nodes) (k : V) :
    CallsIn F m Try.prog 30 #[memV p, k.val] w fun e w' => FindTPost w T k e w' := by
  have h1 : 1 ≤ m := by omega
  obtain ⟨t, n⟩ := k
  unfold memV V.val
  simp only
  obtain ⟨a, ha⟩ : ∃ a, a = T.a := ⟨_, rfl⟩
  have ha6 : a ≤ 1000000 := by rw [ha]; exact Nat.le_trans H.le H.small
  have HH := Lib.hid H
  have HA := Lib.hid ha
  by_cases hin : t = 2 ∧ 1 ≤ n ∧ n ≤ a
  · have HFT := Lib.hid (show findT T ⟨t, n⟩ = (n - 1, -1) from by unfold findT; rw [← HA.out, if_pos hin])
    obtain ⟨rfl, i2, i3⟩ := hin
    have hw0 : Below w.heap.size w ((((w.alloc (.cells #[.iface 23 (.pointer (some ⟨p, 0, none⟩))] 59)).alloc (.cells #[.int .i64 2, .int .i64 n] 27)).alloc (.cells #[.int .i64 0] 3)).alloc (.cells #[.int .i64 0] 3)) := (by repeat (first | exact Below.refl _ _ | refine Below.alloc ?_ (by first | (simp; done) | (simp; omega)) _ | refine Below.drew ?_ | refine Below.setCell ?_ (by first | (simp; done) | (simp; omega)) _))
    have AC := array_any (H.below hw0)
    rw [← ha] at AC
    clear H ha hw0
    refine callsIn_of_wp_marks Try.func30 rfl (hF _) ?_ hro
    simp only [Try.ntmps30, List.size_toArray, List.length_cons, List.length_nil, Nat.reduceAdd, Nat.reduceSub, Array.replicate_succ, Array.replicate_zero, List.push_toArray, List.append_toArray, List.nil_append, List.cons_append]
    gi_wp2
    refine (calls_wide hF hal hd AC).mono ?_
    clear AC
    rintro e w1 ⟨rfl, rfl⟩
    gi_wp2
    refine ⟨.tuple #[.int .i64 (n - 1), .int .i64 (-1)], ?_, ?_, ?_⟩
    · simp [results, Try.f30, go_sem]
    · rw [HFT.out]
    · exact (by repeat (first | exact Below.refl _ _ | refine Below.alloc ?_ (by first | (simp; done) | (simp; omega)) _ | refine Below.drew ?_ | refine Below.setCell ?_ (by first | (simp; done) | (simp; omega)) _))
  · have HFT := Lib.hid (show findT T ⟨t, n⟩ = findL T ⟨t, n⟩ (wayL T ⟨t, n⟩) from by unfold findT; rw [← HA.out, if_neg hin])
    have hw0 : Below w.heap.size w ((((w.alloc (.cells #[.iface 23 (.pointer (some ⟨p, 0, none⟩))] 59)).alloc (.cells #[.int .i64 t, .int .i64 n] 27)).alloc (.cells #[.int .i64 0] 3)).alloc (.cells #[.int .i64 0] 3)) := (by repeat (first | exact Below.refl _ _ | refine Below.alloc ?_ (by first | (simp; done) | (simp; omega)) _ | refine Below.drew ?_ | refine Below.setCell ?_ (by first | (simp; done) | (simp; omega)) _))
    have AC := array_any (H.below hw0)
    rw [← ha] at AC
    clear H ha hw0
    have hcond : (t == 2) = false ∨ ((t == 2) = true ∧ n < 1) ∨ ((t == 2) = true ∧ ¬ n < 1 ∧ (a : Int) < n) := by
      by_cases h2 : t = 2
      · by_cases h3 : n < 1
        · exact .inr (.inl ⟨by simp [h2], h3⟩)
        · exact .inr (.inr ⟨by simp [h2], h3, by
            have : ¬ n ≤ a := fun h => hin ⟨h2, by omega, h⟩
            omega⟩)
      · exact .inl (by simp [h2])
    refine callsIn_of_wp_marks Try.func30 rfl (hF _) ?_ hro
    simp only [Try.ntmps30, List.size_toArray, List.length_cons, List.length_nil, Nat.reduceAdd, Nat.reduceSub, Array.replicate_succ, Array.replicate_zero, List.push_toArray, List.append_toArray, List.nil_append, List.cons_append]
    gi_wp2
    refine (calls_wide hF hal hd AC).mono ?_
    clear AC hin
    rintro e w1 ⟨rfl, rfl⟩
    rcases hcond with hc1 | ⟨hc1, hc2⟩ | ⟨hc1, hc2, hc3⟩
    all_goals gi_wp2_with (gi_at_call 46; refine (way_in' F (m - 1) hF hro p t n _).mono ?_; rintro e w' ⟨rfl, rfl⟩)
    all_goals (
      obtain ⟨W0, hW0⟩ : ∃ W0, W0 = ((((((w.alloc (.cells #[.iface 23 (.pointer (some ⟨p, 0, none⟩))] 59)).alloc (.cells #[.int .i64 t, .int .i64 n] 27)).alloc (.cells #[.int .i64 0] 3)).alloc (.cells #[.int .i64 0] 3)).alloc (.cells #[.int .i64 a] 3)).alloc (.cells #[.iface 23 (.pointer (some ⟨p, 0, none⟩))] 59)).alloc (.cells #[.int .i64 t, .int .i64 n] 27) := ⟨_, rfl⟩
      have hsz : W0.heap.size = w.heap.size + 7 := by rw [hW0]; simp
      have hB0 : Below w.heap.size w W0 := by rw [hW0]; exact (by repeat (first | exact Below.refl _ _ | refine Below.alloc ?_ (by first | (simp; done) | (simp; omega)) _ | refine Below.drew ?_ | refine Below.setCell ?_ (by first | (simp; done) | (simp; omega)) _))
      have hs0 : Box W0 w.heap.size [.iface 23 (.pointer (some ⟨p, 0, none⟩))] 59 := (by rw [hW0]; unfold Box World.alloc; simp only [Array.getElem?_push, Array.size_push]; repeat (first | rw [if_neg (by omega)] | rw [if_pos (by omega)] | rw [if_pos trivial]))
      have hk0 : Box W0 (w.heap.size + 1) [.int .i64 t, .int .i64 n] 27 := (by rw [hW0]; unfold Box World.alloc; simp only [Array.getElem?_push, Array.size_push]; repeat (first | rw [if_neg (by omega)] | rw [if_pos (by omega)] | rw [if_pos trivial]))
      have hr0 : Box W0 (w.heap.size + 1 + 1) [.int .i64 0] 3 := (by rw [hW0]; unfold Box World.alloc; simp only [Array.getElem?_push, Array.size_push]; repeat (first | rw [if_neg (by omega)] | rw [if_pos (by omega)] | rw [if_pos trivial]))
      have hq0 : Box W0 (w.heap.size + 1 + 1 + 1) [.int .i64 0] 3 := (by rw [hW0]; unfold Box World.alloc; simp only [Array.getElem?_push, Array.size_push]; repeat (first | rw [if_neg (by omega)] | rw [if_pos (by omega)] | rw [if_pos trivial]))
      have ha0 : Box W0 (w.heap.size + 1 + 1 + 1 + 1) [.int .i64 a] 3 := (by rw [hW0]; unfold Box World.alloc; simp only [Array.getElem?_push, Array.size_push]; repeat (first | rw [if_neg (by omega)] | rw [if_pos (by omega)] | rw [if_pos trivial]))
      have hu0 : Box W0 (w.heap.size + 1 + 1 + 1 + 1 + 1) [.iface 23 (.pointer (some ⟨p, 0, none⟩))] 59 := (by rw [hW0]; unfold Box World.alloc; simp only [Array.getElem?_push, Array.size_push]; repeat (first | rw [if_neg (by omega)] | rw [if_pos (by omega)] | rw [if_pos trivial]))
      have hv0 : Box W0 (w.heap.size + 1 + 1 + 1 + 1 + 1 + 1) [.int .i64 t, .int .i64 n] 27 := (by rw [hW0]; unfold Box World.alloc; simp only [Array.getElem?_push, Array.size_push]; repeat (first | rw [if_neg (by omega)] | rw [if_pos (by omega)] | rw [if_pos trivial]))
      rw [← hW0]
      clear hW0
      have hown : ∀ k, OwnS p sv k → k < w.heap.size := fun k hk => HH.out.own_lt hk
      refine wpIn_rangeFunc_ownH hro h1 (gf := 62) (lb := #[.pointer (some ⟨w.heap.size + 1 + 1 + 1 + 1 + 1, 0, none⟩), .pointer (some ⟨w.heap.size + 1 + 1 + 1 + 1 + 1 + 1, 0, none⟩)]) rfl (hF _) (enters_of Try.func62 (by kernel_rfl) rfl)
        (way_stops F (m - 1) hF hal hd hro (by omega) (fun k => k = w.heap.size + 1 + 1 ∨ k = w.heap.size + 1 + 1 + 1) W0 (HH.out.below hB0) hP ⟨t, n⟩ (w.heap.size + 1 + 1 + 1 + 1 + 1) (w.heap.size + 1 + 1 + 1 + 1 + 1 + 1) hu0 hv0 (fun k hk e => by have := hown k hk; omega) ⟨by omega, by omega⟩ (fun k e => by omega))
        kpC_t kpC_b (Below.refl _ _) (fun _ => rfl)
        (fun pre W => ((∀ y ∈ pre.map Fin.val, slotT T (T.a + 2 * y : Nat) ≠ ⟨t, n⟩ ∧ (slotT T (T.a + 2 * y : Nat)).t ≠ 0) ∧ FBox W w.heap.size p t n a ∧ Box W (w.heap.size + 1 + 1) [.int .i64 0] 3 ∧ Box W (w.heap.size + 1 + 1 + 1) [.int .i64 0] 3) ∧ Below w.heap.size w W)
        (fun c pre W => (c = .ret ∧ Box W (w.heap.size + 1 + 1) [.int .i64 (findL T ⟨t, n⟩ (pre.map Fin.val)).1] 3 ∧ Box W (w.heap.size + 1 + 1 + 1) [.int .i64 (findL T ⟨t, n⟩ (pre.map Fin.val)).2] 3 ∧ ∀ l, findL T ⟨t, n⟩ (pre.map Fin.val ++ l) = findL T ⟨t, n⟩ (pre.map Fin.val)) ∧ Below w.heap.size w W)
        (OwnFrom.and (fun s X Y row hs hg hr => ⟨hs.1, hs.2.1.grown hg (fun r e => (hr r e).2), hs.2.2.1.grown hg (fun r e => (hr r e).2), hs.2.2.2.grown hg (fun r e => (hr r e).2)⟩) (ownFrom_below (Nat.le_refl _) (by omega)))
        (fun c => OwnFrom.and (fun s X Y row hs hg hr => ⟨hs.1, hs.2.1.grown hg (fun r e => (hr r e).2), hs.2.2.1.grown hg (fun r e => (hr r e).2), hs.2.2.2⟩) (ownFrom_below (Nat.le_refl _) (by omega)))
        ⟨⟨by simp, ⟨hs0, hk0, ha0⟩, hr0, hq0⟩, hB0⟩
        (fun (x : Fin T.nodes) a' W => ∃ u13 u14 u15 u16 u17 u18 u19 u20 u21 u22 u23 u24 u25 u26 u27, a' = { tmps := #[.iface 23 (.pointer (some ⟨p, 0, none⟩)), .agg #[.int .i64 t, .int .i64 n], .pointer (some ⟨w.heap.size, 0, none⟩), .pointer (some ⟨w.heap.size + 1, 0, none⟩), .pointer (some ⟨w.heap.size + 1 + 1, 0, none⟩), .pointer (some ⟨w.heap.size + 1 + 1 + 1, 0, none⟩), .pointer (some ⟨w.heap.size + 1 + 1 + 1 + 1, 0, none⟩), .int .i64 (x.val : Int), undef, .iface 23 (.pointer (some ⟨p, 0, none⟩)), .int .i64 a, .pointer (some ⟨w.heap.size + 1, 0, none⟩), .int .i64 t, u13, u14, u15, u16, u17, u18, u19, u20, u21, u22, u23, u24, u25, u26, u27, .iface 23 (.pointer (some ⟨p, 0, none⟩)), .agg #[.int .i64 t, .int .i64 n], .func (.func 62) #[] #[.pointer (some ⟨w.heap.size + 1 + 1 + 1 + 1 + 1, 0, none⟩), .pointer (some ⟨w.heap.size + 1 + 1 + 1 + 1 + 1 + 1, 0, none⟩)], .int .i64 (x.val : Int), undef, undef, undef, undef, undef, undef, undef, undef, undef, undef, undef, undef, undef, undef, undef, undef, undef, undef, undef, undef], defers := [] })
        (fun x a' s X Y row hs hg hr => hs)
        ?assign ?body ?done ?stop
      case assign =>
        rintro l pre x W K ⟨⟨hp, hfb, h3, h4⟩, hB⟩ hK
        simp only [encF, encN]
        gi_wp2
        exact hK _ _ ((KeepsOthers.refl W).from _) (KpC.refl _ _) ⟨⟨hp, hfb, h3, h4⟩, hB⟩ ⟨_, _, _, _, _, _, _, _, _, _, _, _, _, _, _, rfl⟩
      case body =>
        rintro l pre ⟨x, hxN⟩ a' W hl hrec ⟨⟨hp, hfb, h3, h4⟩, hB⟩ ⟨u13, u14, u15, u16, u17, u18, u19, u20, u21, u22, u23, u24, u25, u26, u27, rfl⟩ hlen
        have HW := HH.out.below hB
        have AS := slot_any HW ((T.a + 2 * x : Nat) : Int)
        rw [← HA.out] at AS
        obtain ⟨y, hy⟩ : ∃ y, y = slotT T ((a + 2 * x : Nat) : Int) := ⟨_, rfl⟩
        rw [← hy] at AS
        have HY := Lib.hid hy
        obtain ⟨yt, yn⟩ := y
        unfold V.val at AS
        simp only at AS
        have hx6 : x ≤ 1000000 := Nat.le_trans (Nat.le_of_lt hxN) (Nat.le_trans (by unfold Tb.nodes; omega) HW.small)
        have hx1 : IntKind.i64.wrap (2 * (x : Int)) = 2 * (x : Int) := IntWalk.i64_in _ (by omega)
        have hx2 : IntKind.i64.wrap ((a : Int) + 2 * (x : Int)) = ((a + 2 * x : Nat) : Int) := by rw [IntWalk.i64_in _ (by omega)]; omega
        have s0 := hfb.s.cell 0
        have k0 := hfb.k.cell 0
        have k1 := hfb.k.cell 1
        have a0 := hfb.a.cell 0
        simp only [List.getElem?_cons_zero, List.getElem?_cons_succ] at s0 k0 k1 a0
        have HP := Lib.hid hp
        have HFL := Lib.hid (show ∀ l, findL T ⟨t, n⟩ ((pre ++ [(⟨x, hxN⟩ : Fin T.nodes)]).map Fin.val ++ l) = if yt = t ∧ yn = n then (((a + 2 * x + 1 : Nat) : Int), -1) else if yt = 0 then (-1, (x : Int)) else findL T ⟨t, n⟩ l from by
          intro l
          rw [List.map_append, List.append_assoc, findL_app hp]
          show (if slotT T (T.a + 2 * x : Nat) = _ then (((T.a + 2 * x + 1 : Nat) : Int), -1) else if (slotT T (T.a + 2 * x : Nat)).t = 0 then (-1, (x : Int)) else findL T _ l) = _
          rw [← HA.out, ← hy]
          simp only [V.mk.injEq])
        clear hp HW hy
        dsimp only
        gi_wp2
        refine (calls_wide (F := F.inRound l) hF hal hd AS).mono ?_
        clear AS
        rintro e w1 ⟨rfl, hb1⟩
        have hfb1 := hfb.below hb1 (by have := hfb.a.lt; exact this)
        have h31 := h3.below hb1 h3.lt
        have h41 := h4.below hb1 h4.lt
        have s1 := hfb1.s.cell 0
        have k01 := hfb1.k.cell 0
        have k11 := hfb1.k.cell 1
        have a1 := hfb1.a.cell 0
        have r1 := h31.free 0
        have q1 := h41.free 0
        simp only [List.getElem?_cons_zero, List.getElem?_cons_succ] at s1 k01 k11 a1
        clear s0 k0 k1 a0
        have r10 := h31.cell 0
        have q10 := h41.cell 0
        simp only [List.getElem?_cons_zero] at r10 q10
        have hz4 := hfb1.a.lt
        have hz1 : w.heap.size + 1 < w1.heap.size := by omega
        have hz0 : w.heap.size < w1.heap.size := by omega
        have hz2 : w.heap.size + 1 + 1 < w1.heap.size := by omega
        have hz3 : w.heap.size + 1 + 1 + 1 < w1.heap.size := by omega
        gi_wp2
        · have hf := HFL.out
          simp only [if_pos (show yt = t ∧ yn = n from ⟨by assumption, by assumption⟩)] at hf
          have hf0 := hf []
          rw [List.append_nil] at hf0
          refine ⟨(((keepsFrom_of_below hb1).trans ((KeepsOthers.setCell _ _ _).from _)).trans ((KeepsOthers.setCell _ _ _).from _)).trans ((KeepsOthers.alloc _ _).from _), ⟨rfl, ?_, ?_, ?_⟩, ?_⟩
          · rw [hf0]; exact ((h31.set 0 _).setOther _ (by simp) _).alloc _
          · rw [hf0]; exact ((h41.setOther _ (by simp) _).set 0 _).alloc _
          · intro l; rw [hf, hf0]
          · exact (((hB.trans (hb1.mono hB.size)).setCell (p := ⟨w.heap.size + 1 + 1, 0, none⟩) (by show w.heap.size ≤ w.heap.size + 1 + 1; omega) _).setCell (p := ⟨w.heap.size + 1 + 1 + 1, 0, none⟩) (by show w.heap.size ≤ w.heap.size + 1 + 1 + 1; omega) _).alloc (by simp [World.setCell]; omega) _
        all_goals (
          have hne : ¬ (yt = t ∧ yn = n) := by omega
          have hf := HFL.out
          simp only [if_neg hne] at hf)
        all_goals first
          | (have h0 : yt = 0 := by first | simpa using ‹(yt == 0) = true› | (have := ‹(t == 0) = true›; have h2 := ‹yt = t›; rw [h2]; simpa using this)
             simp only [if_pos h0] at hf
             have hf0 := hf []
             rw [List.append_nil] at hf0
             refine ⟨(((keepsFrom_of_below hb1).trans ((KeepsOthers.setCell _ _ _).from _)).trans ((KeepsOthers.setCell _ _ _).from _)).trans ((KeepsOthers.alloc _ _).from _), ⟨rfl, ?_, ?_, ?_⟩, ?_⟩
             · rw [hf0]; exact ((h31.set 0 _).setOther _ (by simp) _).alloc _
             · rw [hf0]; exact ((h41.setOther _ (by simp) _).set 0 _).alloc _
             · intro l; rw [hf, hf0]
             · exact (((hB.trans (hb1.mono hB.size)).setCell (p := ⟨w.heap.size + 1 + 1, 0, none⟩) (by show w.heap.size ≤ w.heap.size + 1 + 1; omega) _).setCell (p := ⟨w.heap.size + 1 + 1 + 1, 0, none⟩) (by show w.heap.size ≤ w.heap.size + 1 + 1 + 1; omega) _).alloc (by simp [World.setCell]; omega) _)
          | (have h0 : ¬ yt = 0 := by first | simpa using ‹(yt == 0) = false› | (have := ‹(t == 0) = false›; have h2 := ‹yt = t›; rw [h2]; simpa using this)
             refine ⟨(keepsFrom_of_below hb1).trans ((KeepsOthers.alloc _ _).from _), (KpC.of_below hb1).trans (KpC.alloc _ _ _), ⟨?_, hfb1.alloc _, h31.alloc _, h41.alloc _⟩, (hB.trans (hb1.mono hB.size)).alloc (by have := hB.size; have := hb1.size; omega) _⟩
             intro y hy
             rw [List.map_append, List.mem_append] at hy
             rcases hy with hy | hy
             · exact HP.out y hy
             · simp only [List.map_cons, List.map_nil, List.mem_singleton] at hy
               subst hy
               rw [← HA.out, ← HY.out]
               refine ⟨fun e => hne ?_, h0⟩
               simp only [V.mk.injEq] at e
               exact e)
      case done =>
        rintro D ys W hD hys ⟨⟨hp, hfb, h3, h4⟩, hB⟩ hK
        have r0 := h3.cell 0
        have s0 := h4.cell 0
        have rf := h3.free 0
        have sf := h4.free 0
        simp only [List.getElem?_cons_zero] at r0 s0
        have hfl : findL T ⟨t, n⟩ (wayL T ⟨t, n⟩) = (-1, -1) := by rw [← hys, ← List.append_nil (ys.map Fin.val), findL_app hp]; rfl
        have HP := Lib.hid hfl
        clear hp hfl hys
        gi_wp2
        have hK' : ((W.setCell ⟨w.heap.size + 1 + 1, 0, none⟩ (.int .i64 (-1))).setCell ⟨w.heap.size + 1 + 1 + 1, 0, none⟩ (.int .i64 (-1))).heap[D]? = some (.deferred (some [])) :=
          (KeepsOthers.setCell _ _ _).same D _ ((KeepsOthers.setCell W ⟨w.heap.size + 1 + 1, 0, none⟩ (.int .i64 (-1))).same D _ hK rfl) rfl
        refine ⟨by simp, .inl ⟨_, _, rfl, run_takeDeferred hK', ?_⟩⟩
        have e3 := (((h3.set 0 (.int .i64 (-1))).setOther ⟨w.heap.size + 1 + 1 + 1, 0, none⟩ (by simp) (.int .i64 (-1))).grown (grownBy_putObj' _ D (.deferred none)) (fun r e => by cases e; exact ⟨_, hK', rfl⟩)).cell 0
        have e4 := (((h4.setOther ⟨w.heap.size + 1 + 1, 0, none⟩ (by simp) (.int .i64 (-1))).set 0 (.int .i64 (-1))).grown (grownBy_putObj' _ D (.deferred none)) (fun r e => by cases e; exact ⟨_, hK', rfl⟩)).cell 0
        simp only [List.set_cons_zero, List.getElem?_cons_zero] at e3 e4
        refine ⟨.tuple #[.int .i64 (-1), .int .i64 (-1)], ?_, ?_, ?_⟩
        · simp [results, Try.f30, go_sem, e3, e4]
        · rw [HFT.out, HP.out]
        · exact ((hB.setCell (p := ⟨w.heap.size + 1 + 1, 0, none⟩) (by show w.heap.size ≤ w.heap.size + 1 + 1; omega) _).setCell (p := ⟨w.heap.size + 1 + 1 + 1, 0, none⟩) (by show w.heap.size ≤ w.heap.size + 1 + 1 + 1; omega) _).trans (belowK_b (w := w) (Nat.le_refl _) _ D _ _ (by omega) hK' rfl rfl)
      case stop =>
        rintro D c pre W hD ⟨rest, hpre⟩ ⟨⟨rfl, h5, h6, hl⟩, hB⟩ hK
        have hfl : findL T ⟨t, n⟩ (wayL T ⟨t, n⟩) = findL T ⟨t, n⟩ (pre.map Fin.val) := by rw [← hpre]; exact hl rest
        have HP := Lib.hid hfl
        clear hfl hpre hl
        gi_wp2
        refine ⟨by simp, .inl ⟨_, _, rfl, run_takeDeferred hK, ?_⟩⟩
        have e3 := (h5.grown (grownBy_putObj' _ D (.deferred none)) (fun r e => by cases e; exact ⟨_, hK, rfl⟩)).cell 0
        have e4 := (h6.grown (grownBy_putObj' _ D (.deferred none)) (fun r e => by cases e; exact ⟨_, hK, rfl⟩)).cell 0
        simp only [List.getElem?_cons_zero] at e3 e4
        refine ⟨.tuple #[.int .i64 (findL T ⟨t, n⟩ (pre.map Fin.val)).1, .int .i64 (findL T ⟨t, n⟩ (pre.map Fin.val)).2], ?_, ?_, ?_⟩
        · simp [results, Try.f30, go_sem, e3, e4]
        · rw [HFT.out, HP.out]
        · exact hB.trans (belowK_b (w := w) (Nat.le_refl _) W D _ _ (by omega) hK rfl rfl))

theorem find_any {w : World} (H : MemAt w p sv T) (hP : Pow2 T.nodes) (k : V) :
    Calls Try.prog 30 #[memV p, k.val] w fun e w' => e = .returned (.tuple #[.int .i64 (findT T k).1, .int .i64 (findT T k).2]) ∧ Below w.heap.size w w' :=
  callsIn_wide.1 (find_in Fence.wide 5 (fun _ => trivial) rfl rfl rfl (by omega) H hP k)
end Go.Proofs.Ytpodgmajccmgkaa
