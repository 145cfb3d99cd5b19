/- place and Gap: the loops over the runs of free cells. -/
import Derived.Test.YtpaopcnbgdlgnaaAFree
namespace Go.Proofs.Ytpaopcnbgdlgnaa
open Go.RowKit Go.Shelf
set_option linter.unusedVariables false
set_option linter.unusedSimpArgs false
attribute [local go_sem] Oper.semAt_some

set_option maxHeartbeats 400000 in
theorem free_in (F : Fence) (n : Nat) (hF : ∀ f, F.fn f) (hro : F.round = none) (p : Nat) (wo : Int) (w : World) :
    CallsIn F n Try.prog 43 #[.pointer (some ⟨p, 0, none⟩), .int .i64 wo] w fun e w' => e = .returned (.func (.func 56) #[] #[.pointer (some ⟨w.heap.size, 0, none⟩), .pointer (some ⟨w.heap.size + 1, 0, none⟩)]) ∧
      w' = (w.alloc (.cells #[.pointer (some ⟨p, 0, none⟩)] 23)).alloc (.cells #[.int .i64 wo] 3) := by
  refine callsIn_of_wp Try.func43 rfl (hF _) ?_ hro
  simp only [Try.ntmps43, List.size_toArray, List.length_cons, List.length_nil, Nat.reduceAdd, Nat.reduceSub, Array.replicate_succ, Array.replicate_zero, List.push_toArray, List.append_toArray, List.nil_append, List.cons_append]
  gi_wp2
  go_ret
  exact ⟨rfl, rfl⟩

/-- What free hands back keeps the iterators' contract. -/
theorem free_stops (F : Fence) (n : Nat) (hF : ∀ f, F.fn f) (hal : F.alive = false) (hd : F.depth = none) (hro : F.round = none) (hn : 1 ≤ n) {A : AP} {S : St} (C : Nat → Prop) (w : World) (H : ArenaAt w A S) (wo : Int) (ba bw : Nat)
    (hba : Box w ba [.pointer (some ⟨A.p, 0, none⟩)] 23) (hbw : Box w bw [.int .i64 wo] 3) (hC : ∀ k, A.owns k → ¬ C k) (hCb : ¬ C ba ∧ ¬ C bw) (hCn : ∀ k, C k → k < w.heap.size) :
    SeqStopsK F n Try.prog 56 #[.pointer (some ⟨ba, 0, none⟩), .pointer (some ⟨bw, 0, none⟩)] encRun (KpC C) (fun ys => ys = runs S.cells.length wo S.L) (fun pre => pre <+: runs S.cells.length wo S.L) (S.L.length + 1) w :=
  fun l J Jx W hW hJ _ hY h0 => free1_in F n hF hal hd hro hn l ba bw wo C J Jx W hJ hY (H.below hW) hC hCb (fun k hk => Nat.lt_of_lt_of_le (hCn k hk) hW.size) (hba.below hW hba.lt) (hbw.below hW hbw.lt) h0

theorem size_alloc' (w : World) (o : Obj) : (w.alloc o).heap.size = w.heap.size + 1 := by simp

/-- What place answers. -/
def placeR (N : Nat) (n : Nat) (wo : Int) (L : List Blk) : Int × Int :=
  match firstRun n (runs N wo L) with
  | some r => (r.a, r.i)
  | none => (-1, 0)

def GapPost (w : World) (S : St) (e : Ending) (w' : World) : Prop := e = .returned (.int .i64 (maxRun (runs S.cells.length 0 S.L))) ∧ Below w.heap.size w w'

set_option maxRecDepth 100000 in
set_option maxHeartbeats 1000000 in
theorem gap_in (F : Fence) (n : Nat) (hF : ∀ f, F.fn f) (hal : F.alive = false) (hd : F.depth = none) (hro : F.round = none) (hn : 3 ≤ n) {w : World} {A : AP} {S : St} (H : ArenaAt w A S) :
    CallsIn F n Try.prog 22 #[.pointer (some ⟨A.p, 0, none⟩)] w fun e w' => GapPost w S e w' := by
  have h1 : 1 ≤ n := by omega
  refine callsIn_of_wp_marks Try.func22 rfl (hF _) ?_ hro
  simp only [Try.ntmps22, List.size_toArray, List.length_cons, List.length_nil, Nat.reduceAdd, Nat.reduceSub, Array.replicate_succ, Array.replicate_zero, List.push_toArray, List.append_toArray, List.nil_append, List.cons_append]
  gi_wp2_with (gi_at_call 43; refine (free_in F (n - 1) hF hro _ _ _).mono ?_; rintro e w' ⟨rfl, rfl⟩)
  obtain ⟨W0, hW0⟩ : ∃ W0, W0 = ((w.alloc (.cells #[.int .i64 0] 3)).alloc (.cells #[.pointer (some ⟨A.p, 0, none⟩)] 23)).alloc (.cells #[.int .i64 0] 3) := ⟨_, rfl⟩
  have hsz : W0.heap.size = w.heap.size + 3 := by rw [hW0]; simp
  have hB0 : Below w.heap.size w W0 := by rw [hW0]; exact (by repeat (first | exact Below.refl _ _ | refine Below.alloc ?_ (by first | (simp; done) | (simp; omega)) _ | refine Below.drew ?_ | refine Below.setCell ?_ (by first | (simp; done) | (simp; omega)) _))
  have hm0 : Box W0 w.heap.size [.int .i64 0] 3 := by
    rw [hW0]; exact ((Box.new w [.int .i64 0] 3).alloc _).alloc _
  have ha0 : Box W0 (w.heap.size + 1) [.pointer (some ⟨A.p, 0, none⟩)] 23 := by
    rw [hW0]; have := (Box.new (w.alloc (.cells #[.int .i64 0] 3)) [.pointer (some ⟨A.p, 0, none⟩)] 23).alloc (.cells #[.int .i64 0] 3); rwa [size_alloc'] at this
  have hb0 : Box W0 (w.heap.size + 1 + 1) [.int .i64 0] 3 := by
    rw [hW0]; have := Box.new ((w.alloc (.cells #[.int .i64 0] 3)).alloc (.cells #[.pointer (some ⟨A.p, 0, none⟩)] 23)) [.int .i64 0] 3; rwa [size_alloc', size_alloc'] at this
  rw [← hW0]
  clear hW0
  have hown : ∀ k, A.owns k → k < w.heap.size := fun k hk => H.owns_lt hk
  refine wpIn_rangeFunc_ownH hro h1 (gf := 56) (lb := #[.pointer (some ⟨w.heap.size + 1, 0, none⟩), .pointer (some ⟨w.heap.size + 1 + 1, 0, none⟩)]) rfl (hF _) (enters_of Try.func56 (by kernel_rfl) rfl)
    (free_stops F (n - 1) hF hal hd hro (by omega) (A := A) (S := S) (fun k => k = w.heap.size) W0 (H.below hB0) 0 (w.heap.size + 1) (w.heap.size + 1 + 1) ha0 hb0 (fun k hk e => by have := hown k hk; omega) ⟨by omega, by omega⟩ (fun k e => by omega))
    kpC_t kpC_b (Below.refl _ _) (fun _ => rfl)
    (fun pre W => Box W w.heap.size [.int .i64 (maxRun pre)] 3 ∧ Below w.heap.size w W)
    (fun _ _ _ => False)
    (OwnFrom.and (fun s X Y row hs hg hr => hs.grown hg (fun r e => (hr r e).2)) (ownFrom_below (Nat.le_refl _) (by omega)))
    (fun _ _ _ _ _ hs _ _ => hs)
    ⟨hm0, hB0⟩
    (fun x a' W => ∃ blk, blk ≠ w.heap.size ∧ Box W blk [.int .i64 x.n, .int .i64 x.i] 73 ∧ a' = { tmps := #[.pointer (some ⟨A.p, 0, none⟩), undef, .int .i64 0, .pointer (some ⟨w.heap.size, 0, none⟩), undef, .pointer (some ⟨blk, 0, none⟩), .pointer (some ⟨A.p, 0, none⟩), .bool false, .pointer (some ⟨A.p, 0, none⟩),
      .func (.func 56) #[] #[.pointer (some ⟨w.heap.size + 1, 0, none⟩), .pointer (some ⟨w.heap.size + 1 + 1, 0, none⟩)], .int .i64 x.a, .agg #[.int .i64 x.n, .int .i64 x.i], undef, undef, undef, undef, undef], defers := [] })
    (fun x a' s X Y row hs hg hr => by
      obtain ⟨blk, h1, h2, h3⟩ := hs
      exact ⟨blk, h1, h2.grown hg (fun r e => (hr r e).2), h3⟩)
    ?assign ?body ?done ?stop
  case assign =>
    rintro l pre x W K ⟨hm, hB⟩ hK
    simp only [encRun]
    gi_wp2
    exact hK _ _ ((KeepsOthers.alloc W _).from _) (KpC.alloc _ _ _) ⟨hm.alloc _, hB.alloc hB.size _⟩ ⟨W.heap.size, by have := hm.lt; omega, Box.new W [.int .i64 x.n, .int .i64 x.i] _, rfl⟩
  case body =>
    rintro l pre x a' W hl hrec ⟨hm, hB⟩ ⟨blk, hbm, hblk, rfl⟩ hlen
    have m0 := hm.cell 0
    have mf := hm.free 0
    have k0 := hblk.cell 0
    simp only [List.getElem?_cons_zero] at m0 k0
    gi_wp2
    all_goals
      refine ⟨(KeepsOthers.setCell _ _ _).from _, KpC.setCell (C := fun k => k = w.heap.size) W ⟨w.heap.size, 0, none⟩ rfl _, ?_, hB.setCell (p := ⟨w.heap.size, 0, none⟩) (Nat.le_refl _) _⟩
    · have e : maxRun (pre ++ [x]) = x.n := by rw [maxRun_snoc]; omega
      rw [e]; exact hm.set 0 _
    · have e : maxRun (pre ++ [x]) = maxRun pre := by rw [maxRun_snoc]; omega
      rw [e]; exact hm.set 0 _
  case done =>
    rintro D ys W hD rfl ⟨hm, hB⟩ hK
    have m0 := hm.cell 0
    simp only [List.getElem?_cons_zero] at m0
    gi_wp2
    refine ⟨by simp, .inl ⟨_, _, rfl, run_takeDeferred hK, ?_⟩⟩
    exact ⟨_, results_tmp rfl _ _ _, rfl, hB.trans (belowK_b (w := w) (Nat.le_refl _) W D _ _ (by omega) hK rfl rfl)⟩
  case stop =>
    rintro D c pre W _ _ h _
    exact h.elim

theorem gap_any {w : World} {A : AP} {S : St} (H : ArenaAt w A S) :
    Calls Try.prog 22 #[.pointer (some ⟨A.p, 0, none⟩)] w fun e w' => e = .returned (.int .i64 (maxRun (runs S.cells.length 0 S.L))) ∧ Below w.heap.size w w' :=
  callsIn_wide.1 (gap_in Fence.wide 5 (fun _ => trivial) rfl rfl rfl (by omega) H)

def PlacePost (w : World) (S : St) (n : Nat) (wo : Int) (e : Ending) (w' : World) : Prop := e = .returned (.tuple #[.int .i64 (placeR S.cells.length n wo S.L).1, .int .i64 (placeR S.cells.length n wo S.L).2]) ∧ Below w.heap.size w w'

set_option maxRecDepth 100000 in
set_option maxHeartbeats 1000000 in
theorem place_in (F : Fence) (m : Nat) (hF : ∀ f, F.fn f) (hal : F.alive = false) (hd : F.depth = none) (hro : F.round = none) (hn : 3 ≤ m) {w : World} {A : AP} {S : St} (H : ArenaAt w A S) (n : Nat) (wo : Int) :
    CallsIn F m Try.prog 38 #[.pointer (some ⟨A.p, 0, none⟩), .int .i64 n, .int .i64 wo] w fun e w' => PlacePost w S n wo e w' := by
  have h1 : 1 ≤ m := by omega
  refine callsIn_of_wp_marks Try.func38 rfl (hF _) ?_ hro
  simp only [Try.ntmps38, List.size_toArray, List.length_cons, List.length_nil, Nat.reduceAdd, Nat.reduceSub, Array.replicate_succ, Array.replicate_zero, List.push_toArray, List.append_toArray, List.nil_append, List.cons_append]
  gi_wp2_with (gi_at_call 43; refine (free_in F (m - 1) hF hro _ _ _).mono ?_; rintro e w' ⟨rfl, rfl⟩)
  obtain ⟨W0, hW0⟩ : ∃ W0, W0 = ((((w.alloc (.cells #[.int .i64 n] 3)).alloc (.cells #[.int .i64 0] 3)).alloc (.cells #[.int .i64 0] 3)).alloc (.cells #[.pointer (some ⟨A.p, 0, none⟩)] 23)).alloc (.cells #[.int .i64 wo] 3) := ⟨_, rfl⟩
  have hsz : W0.heap.size = w.heap.size + 5 := by rw [hW0]; simp
  have hB0 : Below w.heap.size w W0 := by rw [hW0]; exact (by repeat (first | exact Below.refl _ _ | refine Below.alloc ?_ (by first | (simp; done) | (simp; omega)) _ | refine Below.drew ?_ | refine Below.setCell ?_ (by first | (simp; done) | (simp; omega)) _))
  have hn0 : Box W0 w.heap.size [.int .i64 n] 3 := (by rw [hW0]; unfold Box World.alloc; simp only [Array.getElem?_push, Array.size_push]; repeat (first | rw [if_neg (by omega)] | rw [if_pos (by omega)] | rw [if_pos trivial]))
  have hr0 : Box W0 (w.heap.size + 1) [.int .i64 0] 3 := (by rw [hW0]; unfold Box World.alloc; simp only [Array.getElem?_push, Array.size_push]; repeat (first | rw [if_neg (by omega)] | rw [if_pos (by omega)] | rw [if_pos trivial]))
  have hs0 : Box W0 (w.heap.size + 1 + 1) [.int .i64 0] 3 := (by rw [hW0]; unfold Box World.alloc; simp only [Array.getElem?_push, Array.size_push]; repeat (first | rw [if_neg (by omega)] | rw [if_pos (by omega)] | rw [if_pos trivial]))
  have ha0 : Box W0 (w.heap.size + 1 + 1 + 1) [.pointer (some ⟨A.p, 0, none⟩)] 23 := (by rw [hW0]; unfold Box World.alloc; simp only [Array.getElem?_push, Array.size_push]; repeat (first | rw [if_neg (by omega)] | rw [if_pos (by omega)] | rw [if_pos trivial]))
  have hb0 : Box W0 (w.heap.size + 1 + 1 + 1 + 1) [.int .i64 wo] 3 := (by rw [hW0]; unfold Box World.alloc; simp only [Array.getElem?_push, Array.size_push]; repeat (first | rw [if_neg (by omega)] | rw [if_pos (by omega)] | rw [if_pos trivial]))
  rw [← hW0]
  clear hW0
  have hown : ∀ k, A.owns k → k < w.heap.size := fun k hk => H.owns_lt hk
  refine wpIn_rangeFunc_ownH hro h1 (gf := 56) (lb := #[.pointer (some ⟨w.heap.size + 1 + 1 + 1, 0, none⟩), .pointer (some ⟨w.heap.size + 1 + 1 + 1 + 1, 0, none⟩)]) rfl (hF _) (enters_of Try.func56 (by kernel_rfl) rfl)
    (free_stops F (m - 1) hF hal hd hro (by omega) (A := A) (S := S) (fun k => k = w.heap.size + 1 ∨ k = w.heap.size + 1 + 1) W0 (H.below hB0) wo (w.heap.size + 1 + 1 + 1) (w.heap.size + 1 + 1 + 1 + 1) ha0 hb0 (fun k hk e => by have := hown k hk; omega) ⟨by omega, by omega⟩ (fun k e => by omega))
    kpC_t kpC_b (Below.refl _ _) (fun _ => rfl)
    (fun pre W => ((∀ r ∈ pre, r.n < n) ∧ Box W w.heap.size [.int .i64 n] 3 ∧ Box W (w.heap.size + 1) [.int .i64 0] 3 ∧ Box W (w.heap.size + 1 + 1) [.int .i64 0] 3) ∧ Below w.heap.size w W)
    (fun c pre W => (c = .ret ∧ ∃ pre' r, pre = pre' ++ [r] ∧ (∀ x ∈ pre', x.n < n) ∧ n ≤ r.n ∧ Box W (w.heap.size + 1) [.int .i64 r.a] 3 ∧ Box W (w.heap.size + 1 + 1) [.int .i64 r.i] 3) ∧ Below w.heap.size w W)
    (OwnFrom.and (fun s X Y row hs hg hr => ⟨hs.1, hs.2.1.grown hg (fun r e => (hr r e).2), hs.2.2.1.grown hg (fun r e => (hr r e).2), hs.2.2.2.grown hg (fun r e => (hr r e).2)⟩) (ownFrom_below (Nat.le_refl _) (by omega)))
    (fun c => OwnFrom.and (fun s X Y row hs hg hr => by
      obtain ⟨h1, pre', r, h2, h3, h4, h5, h6⟩ := hs
      exact ⟨h1, pre', r, h2, h3, h4, h5.grown hg (fun r e => (hr r e).2), h6.grown hg (fun r e => (hr r e).2)⟩) (ownFrom_below (Nat.le_refl _) (by omega)))
    ⟨⟨by simp, hn0, hr0, hs0⟩, hB0⟩
    (fun x a' W => ∃ blk, (blk ≠ w.heap.size + 1 ∧ blk ≠ w.heap.size + 1 + 1) ∧ Box W blk [.int .i64 x.n, .int .i64 x.i] 73 ∧ a' = { tmps := #[.pointer (some ⟨A.p, 0, none⟩), .int .i64 n, .int .i64 wo, undef, .pointer (some ⟨w.heap.size, 0, none⟩), undef, .pointer (some ⟨w.heap.size + 1, 0, none⟩), .pointer (some ⟨w.heap.size + 1 + 1, 0, none⟩), .int .i64 x.a, .pointer (some ⟨blk, 0, none⟩), .pointer (some ⟨A.p, 0, none⟩), .int .i64 wo,
      .func (.func 56) #[] #[.pointer (some ⟨w.heap.size + 1 + 1 + 1, 0, none⟩), .pointer (some ⟨w.heap.size + 1 + 1 + 1 + 1, 0, none⟩)], .int .i64 x.a, .agg #[.int .i64 x.n, .int .i64 x.i], undef, undef, undef, undef, undef, undef, undef], defers := [] })
    (fun x a' s X Y row hs hg hr => by
      obtain ⟨blk, h1, h2, h3⟩ := hs
      exact ⟨blk, h1, h2.grown hg (fun r e => (hr r e).2), h3⟩)
    ?assign ?body ?done ?stop
  case assign =>
    rintro l pre x W K ⟨⟨hp, h2, h3, h4⟩, hB⟩ hK
    simp only [encRun]
    gi_wp2
    exact hK _ _ ((KeepsOthers.alloc W _).from _) (KpC.alloc _ _ _) ⟨⟨hp, h2.alloc _, h3.alloc _, h4.alloc _⟩, hB.alloc hB.size _⟩ ⟨W.heap.size, ⟨by have := h3.lt; omega, by have := h4.lt; omega⟩, Box.new W [.int .i64 x.n, .int .i64 x.i] _, rfl⟩
  case body =>
    rintro l pre x a' W hl hrec ⟨⟨hp, h2, h3, h4⟩, hB⟩ ⟨blk, ⟨hbm1, hbm2⟩, hblk, rfl⟩ hlen
    have k0 := hblk.cell 0
    have k1 := hblk.cell 1
    have n0 := h2.cell 0
    have r0 := h3.cell 0
    have s0 := h4.cell 0
    have rf := h3.free 0
    have sf := h4.free 0
    have hmix : Try.prog.follows .mixedOrders = true := by kernel_rfl
    simp only [List.getElem?_cons_zero, List.getElem?_cons_succ] at k0 k1 n0 r0 s0
    have HP := Lib.hid hp
    clear hp
    by_cases hle : n ≤ x.n
    · gi_wp2
      gi_region_with_o (fail)
      all_goals gi_wp2
      all_goals
        refine ⟨KeepsFrom.trans (KeepsFrom.trans ((KeepsOthers.setCell _ _ _).from _) ((KeepsOthers.setCell _ _ _).from _)) ((KeepsOthers.drew _).from _), ⟨rfl, pre, x, rfl, HP.out, hle, ?_, ?_⟩, ?_⟩
        · first
            | exact ((h3.set 0 _).setOther _ (by simp) _).drew
            | exact ((h3.setOther _ (by simp) _).set 0 _).drew
        · first
            | exact ((h4.setOther _ (by simp) _).set 0 _).drew
            | exact ((h4.set 0 _).setOther _ (by simp) _).drew
        · exact ((hB.setCell (by simp) _).setCell (by simp; omega) _).drew
    · gi_wp2
      refine ⟨KeepsFrom.refl _ _, KpC.refl _ _, ⟨fun r hr => ?_, h2, h3, h4⟩, hB⟩
      rcases List.mem_append.1 hr with hr | hr
      · exact HP.out r hr
      · simp at hr; subst hr; omega
  case done =>
    rintro D ys W hD rfl ⟨⟨hp, h2, h3, h4⟩, hB⟩ hK
    have r0 := h3.cell 0
    have s0 := h4.cell 0
    have rf := h3.free 0
    have sf := h4.free 0
    simp only [List.getElem?_cons_zero] at r0 s0
    have hpl : placeR S.cells.length n wo S.L = (-1, 0) := by unfold placeR; rw [firstRun_none hp]
    have HP := Lib.hid hpl
    clear hp hpl
    gi_wp2
    have hK' : ((W.setCell ⟨w.heap.size + 1, 0, none⟩ (.int .i64 (-1))).setCell ⟨w.heap.size + 1 + 1, 0, none⟩ (.int .i64 0)).heap[D]? = some (.deferred (some [])) :=
      (KeepsOthers.setCell _ _ _).same D _ ((KeepsOthers.setCell W ⟨w.heap.size + 1, 0, none⟩ (.int .i64 (-1))).same D _ hK rfl) rfl
    refine ⟨by simp, .inl ⟨_, _, rfl, run_takeDeferred hK', ?_⟩⟩
    have e3 := (((h3.set 0 (.int .i64 (-1))).setOther ⟨w.heap.size + 1 + 1, 0, none⟩ (by simp) (.int .i64 0)).grown (grownBy_putObj' _ D (.deferred none)) (fun r e => by cases e; exact ⟨_, hK', rfl⟩)).cell 0
    have e4 := (((h4.setOther ⟨w.heap.size + 1, 0, none⟩ (by simp) (.int .i64 (-1))).set 0 (.int .i64 0)).grown (grownBy_putObj' _ D (.deferred none)) (fun r e => by cases e; exact ⟨_, hK', rfl⟩)).cell 0
    simp only [List.set_cons_zero, List.getElem?_cons_zero] at e3 e4
    refine ⟨.tuple #[.int .i64 (-1), .int .i64 0], ?_, ?_, ?_⟩
    · simp [results, Try.f38, go_sem, e3, e4]
    · rw [HP.out]
    · exact ((hB.setCell (p := ⟨w.heap.size + 1, 0, none⟩) (by simp) _).setCell (p := ⟨w.heap.size + 1 + 1, 0, none⟩) (by simp; omega) _).trans (belowK_b (w := w) (Nat.le_refl _) _ D _ _ (by omega) hK' rfl rfl)
  case stop =>
    rintro D c pre W hD hpre ⟨⟨rfl, pre', r, rfl, h3, h4, h5, h6⟩, hB⟩ hK
    gi_wp2
    refine ⟨by simp, .inl ⟨_, _, rfl, run_takeDeferred hK, ?_⟩⟩
    have e3 := (h5.grown (grownBy_putObj' _ D (.deferred none)) (fun r e => by cases e; exact ⟨_, hK, rfl⟩)).cell 0
    have e4 := (h6.grown (grownBy_putObj' _ D (.deferred none)) (fun r e => by cases e; exact ⟨_, hK, rfl⟩)).cell 0
    simp only [List.getElem?_cons_zero] at e3 e4
    refine ⟨.tuple #[.int .i64 r.a, .int .i64 r.i], ?_, ?_, ?_⟩
    · simp [results, Try.f38, go_sem, e3, e4]
    · obtain ⟨rest, hr⟩ := hpre
      have : placeR S.cells.length n wo S.L = ((r.a : Int), (r.i : Int)) := by unfold placeR; rw [← hr, List.append_assoc, List.singleton_append, firstRun_app h3 h4]
      rw [this]
    · exact hB.trans (belowK_b (w := w) (Nat.le_refl _) W D _ _ (by omega) hK rfl rfl)

theorem place_any {w : World} {A : AP} {S : St} (H : ArenaAt w A S) (n : Nat) (wo : Int) :
    Calls Try.prog 38 #[.pointer (some ⟨A.p, 0, none⟩), .int .i64 n, .int .i64 wo] w fun e w' => e = .returned (.tuple #[.int .i64 (placeR S.cells.length n wo S.L).1, .int .i64 (placeR S.cells.length n wo S.L).2]) ∧ Below w.heap.size w w' :=
  callsIn_wide.1 (place_in Fence.wide 5 (fun _ => trivial) rfl rfl rfl (by omega) H n wo)
end Go.Proofs.Ytpaopcnbgdlgnaa
