/- The end of marking under way, in memory. -/
import Derived.Test.YtminbemdcanakaaGreatMF
namespace Go.Proofs.YtminbemdcanakaaGreat
open Go.RowKit Go.Shelf
set_option linter.unusedVariables false
set_option linter.unusedSimpArgs false
attribute [local go_sem] Oper.semAt_some meth_order meth_thing meth_kind meth_cells meth_colour meth_age meth_setColour meth_setAge meth_setFin meth_clear meth_drop meth_roots

/-! ### slices.Contains -/
def IndexP (w : World) (l : List Int) (x : Int) (e : Ending) (w' : World) : Prop := ∃ n : Int, e = .returned (.int .i64 n) ∧ (0 ≤ n ↔ x ∈ l) ∧ w' = w
set_option maxHeartbeats 1000000 in
theorem index_any {w : World} {v : Value} {l : List Int} (hq : QAt w v l) (hn : l.length ≤ 100000000) (x : Int) : Calls Tryz.prog 173 #[v, .int .i64 x] w fun e w' => IndexP w l x e w' := by
  obtain ⟨a, c, hv⟩ := hq.slice
  have HQ := Lib.hid hq
  rw [hv] at HQ ⊢
  clear hq hv
  go_enter Tryz.func173, Tryz.ntmps173
  go_wp2_with fail
  go_loop [8] (fun t8 => ∃ i : Nat, i ≤ l.length ∧ t8 = .int .i64 i ∧ ∀ y ∈ l.take i, y ≠ x) (fun t8 => l.length - (intOf t8).toNat)
  case atStart => exact ⟨0, Nat.zero_le _, by go_num, by intro y hy; simp at hy⟩
  case round =>
    obtain ⟨i, hi, rfl, hacc⟩ := hrel
    by_cases hlt : i < l.length
    · obtain ⟨y, hy⟩ : ∃ y, l[i]? = some y := ⟨l[i], List.getElem?_eq_getElem _⟩
      obtain ⟨g, off, cap, hqg, hle, hmx, hcell⟩ := HQ.out.get (by intro e; rw [e] at hlt; simp at hlt)
      simp only [Value.slice.injEq] at hqg
      obtain ⟨rfl, -, rfl⟩ := hqg
      have y0 := hcell _ _ hy
      by_cases hxy : x = y
      · have e0 : (x == y) = true := by simp [hxy]
        have HR := Lib.hid (show IndexP w l x (.returned (.int .i64 i)) w from ⟨i, rfl, ⟨fun _ => hxy ▸ List.mem_of_getElem? hy, fun _ => by omega⟩, rfl⟩)
        clear hxy hcell hy hacc
        go_wp2_with fail
        go_ret
        exact HR.out
      · have e0 : (x == y) = false := by simp [hxy]
        have HT := Lib.hid (show ∀ z ∈ l.take (i + 1), z ≠ x by
          intro z hz
          rw [List.take_add_one, hy] at hz
          rcases List.mem_append.1 hz with h | h
          · exact hacc z h
          · simp at h; subst h; exact fun e => hxy e.symm)
        clear hxy hcell hy hacc
        go_wp2_with fail
        go_round
        case rel => exact ⟨i + 1, by omega, by go_num, HT.out⟩
        case measure => simp [intOf]; omega
    · obtain rfl : i = l.length := by omega
      rw [List.take_length] at hacc
      have HR := Lib.hid (show IndexP w l x (.returned (.int .i64 (-1))) w from ⟨-1, rfl, ⟨fun h => by omega, fun h => absurd rfl (hacc x h)⟩, rfl⟩)
      clear hacc
      go_wp2_with fail
      go_ret
      exact HR.out
set_option maxHeartbeats 1000000 in
theorem contains_any {w : World} {v : Value} {l : List Int} (hq : QAt w v l) (hn : l.length ≤ 100000000) (x : Int) : Calls Tryz.prog 158 #[v, .int .i64 x] w fun e w' => e = .returned (.bool (decide (x ∈ l))) ∧ w' = w := by
  have HI := Lib.hid (index_any hq hn x)
  clear hq hn
  obtain ⟨b, hb⟩ : ∃ b, b = decide (x ∈ l) := ⟨_, rfl⟩
  rw [← hb]
  have HB := Lib.hid hb
  clear hb
  go_enter Tryz.func158, Tryz.ntmps158
  go_wp2_with fail
  refine HI.out.mono ?_
  rintro e w1 ⟨n, rfl, hn, rfl⟩
  have HN := Lib.hid hn
  clear hn
  by_cases h0 : 0 ≤ n
  · have e0 : decide (0 ≤ n) = true := decide_eq_true h0
    have HR := Lib.hid (show b = true by rw [HB.out]; exact decide_eq_true (HN.out.1 h0))
    clear h0
    go_wp2_with fail
    go_ret
    exact ⟨by rw [HR.out]; rfl, rfl⟩
  · have e0 : decide (0 ≤ n) = false := decide_eq_false h0
    have HR := Lib.hid (show b = false by rw [HB.out]; exact decide_eq_false (fun h => h0 (HN.out.2 h)))
    clear h0
    go_wp2_with fail
    go_ret
    exact ⟨by rw [HR.out]; rfl, rfl⟩

/-! ### the ender -/
structure EL where
  ep : Nat
  K : CL
  wv : Value
def EL.own (E : EL) (k : Nat) : Prop := k = E.ep ∨ E.K.own k ∨ E.wv.ownBlock = some k
structure EAt (w : World) (E : EL) (e : En) : Prop where
  box : Box w E.ep [.pointer (some ⟨E.K.cp, 0, none⟩), E.wv] 154
  at_ : CAt w E.K e.c
  weak : QAt w E.wv e.weak
  sepE : ¬ E.K.own E.ep
  sepW : ∀ k, E.wv.ownBlock = some k → ¬ E.K.own k
structure EGo (w : World) (E : EL) (w' : World) (E' : EL) (e' : En) : Prop where
  ep : E'.ep = E.ep
  cp : E'.K.cp = E.K.cp
  p : E'.K.L.p = E.K.L.p
  at_ : EAt w' E' e'
  keep : Keep E.own w w'
  own : ∀ k, E'.own k → E.own k ∨ w.heap.size ≤ k
def ETo (w : World) (E : EL) (w' : World) (e' : En) : Prop := ∃ E' : EL, EGo w E w' E' e'
section
variable {w w' : World} {E E' : EL} {e e' : En} {c : Cs} {s : Nat → Prop}
theorem EAt.wv_ne (h : EAt w E e) {k : Nat} (hk : E.wv.ownBlock = some k) : k ≠ E.ep := by
  rintro rfl
  obtain ⟨cur, hc⟩ := h.weak.type hk
  have hb := h.box
  unfold Box at hb
  rw [hb] at hc
  cases hc
theorem EAt.own_lt (h : EAt w E e) {k : Nat} (hk : E.own k) : k < w.heap.size := by
  rcases hk with rfl | hk | hk
  · exact h.box.lt
  · exact h.at_.own_lt hk
  · exact h.weak.lt hk
theorem EAt.below (h : EAt w E e) (hb : Below w.heap.size w w') : EAt w' E e := ⟨h.box.below hb h.box.lt, h.at_.below hb, h.weak.below hb, h.sepE, h.sepW⟩
theorem EGo.refl (h : EAt w E e) : EGo w E w E e := ⟨rfl, rfl, rfl, h, Keep.refl _ _, fun _ h => .inl h⟩
theorem ETo.refl (h : EAt w E e) : ETo w E w e := ⟨E, EGo.refl h⟩
theorem ETo.below (h : EAt w E e) (hb : Below w.heap.size w w') : ETo w E w' e := ⟨E, rfl, rfl, rfl, h.below hb, Keep.of_below hb, fun _ h => .inl h⟩
theorem EGo.to (h : EGo w E w' E' e') {w2 : World} {e2 : En} (k : ETo w' E' w2 e2) : ETo w E w2 e2 := by
  obtain ⟨E2, b1, b2, b3, b4, b5, b6⟩ := k
  obtain ⟨a1, a2, a3, a4, a5, a6⟩ := h
  refine ⟨E2, b1.trans a1, b2.trans a2, b3.trans a3, b4, a5.trans' b5 (fun k hk ho => ?_), fun k hk => ?_⟩
  · rcases a6 k ho with x | x
    · exact x
    · omega
  · rcases b6 k hk with x | x
    · exact a6 k x
    · have := a5.size; exact .inr (by omega)
theorem ETo.ahead {w0 w1 : World} (hb : Below w0.heap.size w0 w1) (h : ETo w1 E w' e') : ETo w0 E w' e' := by
  obtain ⟨E1, a1, a2, a3, a4, a5, a6⟩ := h
  refine ⟨E1, a1, a2, a3, a4, (Keep.of_below hb).trans a5, fun k hk => ?_⟩
  rcases a6 k hk with x | x
  · exact .inl x
  · have := hb.size; exact .inr (by omega)
/-- The collector goes a step. -/
theorem EAt.turnC (h : EAt w E e) (k : CTo s w E.K w' c) : ETo w E w' ⟨c, e.weak⟩ := by
  obtain ⟨K', G⟩ := k
  have hk := G.keepAll
  refine ⟨{ E with K := K' }, rfl, G.cp, G.p, ⟨?_, G.at_, ?_, ?_, ?_⟩, hk.mono fun k _ e => .inr (.inl e), ?_⟩
  · show Box w' E.ep [.pointer (some ⟨K'.cp, 0, none⟩), E.wv] _
    rw [G.cp]
    exact hk.box h.box h.sepE
  · exact h.weak.keep hk h.sepW
  · intro x
    rcases G.ownAll x with y | y
    · exact h.sepE y
    · have := h.box.lt; have y' : w.heap.size ≤ E.ep := y; omega
  · intro k hk2 x
    rcases G.ownAll x with y | y
    · exact h.sepW k hk2 y
    · have := h.weak.lt hk2; omega
  · rintro k (x | x | x)
    · exact .inl (.inl x)
    · rcases G.ownAll x with y | y
      · exact .inl (.inr (.inl y))
      · exact .inr y
    · exact .inl (.inr (.inr x))
/-- The weak ones are others. -/
theorem EAt.turnW (h : EAt w E e) {v : Value} {l : List Int} (hq : QAt w' v l) (hk : Keep (fun k => E.wv.ownBlock = some k) w w') (hv : ∀ k, v.ownBlock = some k → E.wv.ownBlock = some k ∨ w.heap.size ≤ k) :
    ETo w E (w'.setCell ⟨E.ep, 1, none⟩ v) ⟨e.c, l⟩ := by
  have hcp : ∀ k, k ≠ E.ep → (w'.setCell ⟨E.ep, 1, none⟩ v).heap[k]? = w'.heap[k]? := fun k hk => Below.heap_setCell _ _ _ _ hk
  have hlt := h.box.lt
  have hb1 : Box w' E.ep [.pointer (some ⟨E.K.cp, 0, none⟩), E.wv] 154 := h.box.of_block (hk.block _ hlt fun e => h.wv_ne e rfl)
  have hvc : v.ownBlock ≠ some E.ep := fun e => by
    rcases hv _ e with e | e
    · exact h.wv_ne e rfl
    · omega
  have hsz : (w'.setCell ⟨E.ep, 1, none⟩ v).heap.size = w'.heap.size := by simp [World.setCell]
  refine ⟨{ E with wv := v }, rfl, rfl, rfl, ⟨hb1.set 1 v, ?_, ?_, h.sepE, ?_⟩, ?_, ?_⟩
  · exact h.at_.of_blocks (by rw [hsz]; exact hk.size) fun k ho => by
      rw [hcp k (fun e => h.sepE (e ▸ ho))]
      exact hk.block k (h.at_.own_lt ho) fun e => h.sepW k e ho
  · exact hq.of_block fun k ho => hcp k fun e => hvc (e ▸ ho)
  · intro k ho x
    rcases hv k ho with y | y
    · exact h.sepW k y x
    · have := h.at_.own_lt x; omega
  · refine ⟨hk.os, hk.tape, hk.output, by rw [hsz]; exact hk.size, fun k hl hn => ?_⟩
    rw [hcp k (fun e => hn (.inl e))]
    exact hk.block k hl fun e => hn (.inr (.inr e))
  · rintro k (x | x | x)
    · exact .inl (.inl x)
    · exact .inl (.inr (.inl x))
    · rcases hv k x with y | y
      · exact .inl (.inr (.inr y))
      · exact .inr y
theorem EAt.cells (h : EAt w E e) : w.cell? ⟨E.ep, 0, none⟩ = some (.pointer (some ⟨E.K.cp, 0, none⟩)) ∧ w.cell? ⟨E.ep, 1, none⟩ = some E.wv := ⟨h.box.cell 0, h.box.cell 1⟩
theorem CAt.drew' {K : CL} (h : CAt w K c) : CAt w.drew K c := h.below (below_drewN (Below.refl _ _) 1)
def UnitE (w : World) (E : EL) (e' : En) (x : Ending) (w' : World) : Prop := x = .returned (.tuple #[]) ∧ ETo w E w' e'
set_option maxRecDepth 100000 in
set_option maxHeartbeats 2000000 in
theorem held_any (h : EAt w E e) (hs : Sz e.c.m) (v : V) : Calls Tryz.prog 130 #[.pointer (some ⟨E.ep, 0, none⟩), v.val] w fun x w' => BoolB w (held e.c v) x w' := by
  have hb := below_alloc w (.cells #[.int .i64 v.t, .int .i64 v.n] 34)
  have H1 := h.below hb
  have HF := Lib.hid (fresh_any H1.at_.drew' hs v)
  have c0 := H1.cells.1
  have hx := (Box.new w [.int .i64 v.t, .int .i64 v.n] 34).drew
  have hS : ∀ w5, Below (w.alloc (.cells #[.int .i64 v.t, .int .i64 v.n] 34)).drew.heap.size (w.alloc (.cells #[.int .i64 v.t, .int .i64 v.n] 34)).drew w5 →
      (w5.cell? ⟨E.ep, 0, none⟩ = some (.pointer (some ⟨E.K.cp, 0, none⟩)) ∧ w5.cell? ⟨w.heap.size, 0, none⟩ = some (.int .i64 v.t) ∧ w5.cell? ⟨w.heap.size, 1, none⟩ = some (.int .i64 v.n)) := fun w5 h5 =>
    ⟨(H1.box.drew.below h5 H1.box.lt).cell 0, (hx.below h5 hx.lt).cell 0, (hx.below h5 hx.lt).cell 1⟩
  have HS := Lib.hid hS
  have HB := Lib.hid hb
  clear hb h H1 hS hx
  unfold V.val at *
  by_cases h4 : v.t = 4
  · have e4 : (v.t != 4) = false := by simp [h4]
    have HR := Lib.hid (show held e.c v = false by unfold held; rw [decide_eq_false (fun h => h h4)]; rfl)
    clear h4
    go_enter Tryz.func130, Tryz.ntmps130
    go_wp2_with fail
    go_quiet (fail)
    go_wp2_with fail
    go_ret
    exact ⟨by rw [HR.out]; rfl, HB.out.trans (below_drewN (Below.refl _ _) _)⟩
  · have e4 : (v.t != 4) = true := by simp [h4]
    have HR := Lib.hid (show held e.c v = fresh e.c.m e.c.white v by unfold held; rw [decide_eq_true h4]; rfl)
    clear h4
    go_enter Tryz.func130, Tryz.ntmps130
    go_wp2_with fail
    go_region_held3 (fun w' => w'.cell? ⟨E.ep, 0, none⟩ = some (.pointer (some ⟨E.K.cp, 0, none⟩)) ∧ w'.cell? ⟨w.heap.size, 0, none⟩ = some (.int .i64 v.t) ∧ w'.cell? ⟨w.heap.size, 1, none⟩ = some (.int .i64 v.n))
      (first | assumption | refine ⟨?_, ?_, ?_⟩ <;> (first | go_keep | (simp [*, World.cell?_alloc_some, World.cell?_setCell_far])))
      ((go_at_call 112; refine HF.out.mono ?_; rintro e w5 ⟨rfl, hb5⟩; have k5 := HS.out w5 hb5; have HB5 := Lib.hid hb5; clear hb5))
    go_wp2_with fail
    go_ret
    exact ⟨by rw [HR.out]; rfl, HB.out.trans (((drew_below _).trans (HB5.out.mono (Nat.le_refl _))).mono (by simp))⟩
end
end Go.Proofs.YtminbemdcanakaaGreat
/- Again is emptied. -/
namespace Go.Proofs.YtminbemdcanakaaGreat
open Go.RowKit Go.Shelf
set_option linter.unusedVariables false
set_option linter.unusedSimpArgs false
attribute [local go_sem] Oper.semAt_some meth_order meth_thing meth_kind meth_cells meth_colour meth_age meth_setColour meth_setAge meth_setFin meth_clear meth_drop meth_roots

/-- Where a queue stands when its first one has left it. -/
def tailAddr (off cap : Nat) : Nat := if cap = 1 then off else off + 1
theorem tailAddr_or (off cap : Nat) : tailAddr off cap = off + 1 ∨ (cap = 1 ∧ tailAddr off cap = off) := by
  unfold tailAddr
  split
  · rename_i h; exact .inr ⟨h, rfl⟩
  · exact .inl rfl
theorem run_tail (g off n cap : Nat) (W : World) : (Instr.sliceAt 54 (.slice (some ⟨g, off, none⟩) (n + 1) cap) (some (.int .i64 1)) none none).run Tryz.prog W = .ok (.slice (some ⟨g, tailAddr off cap, none⟩) n (cap - 1)) W := by
  have q : (1 : Int) ≤ (n : Int) + 1 := by omega
  unfold tailAddr
  by_cases h : cap = 1
  · subst h
    go_simp
  · rw [if_neg h]
    go_simp
attribute [local go_sem high] run_tail
variable {w : World} {E : EL} {e : En}
/-- The first one of a queue leaves it. -/
theorem EAt.popped (h : EAt w E e) {x : Int} {l : List Int} (ha : e.c.again = x :: l) : ∃ g off cap, E.K.q 1 = .slice (some ⟨g, off, none⟩) (l.length + 1) cap ∧ 1 ≤ cap ∧ cap ≤ maxLen ∧ w.cell? ⟨g, off, none⟩ = some (.int .i64 x) ∧
    ∀ W off', Below w.heap.size w W → (off' = off + 1 ∨ (cap = 1 ∧ off' = off)) → ETo w E (W.setCell ⟨E.K.cp, 5, none⟩ (.slice (some ⟨g, off', none⟩) l.length (cap - 1))) ⟨e.c.withAgain l, e.weak⟩ := by
  have hq := h.at_.q 1 (by omega)
  have hq' : QAt w (E.K.q 1) e.c.again := hq
  rw [ha] at hq'
  obtain ⟨g, off, cap, hqv, hle, hmx, hcell⟩ := hq'.get (by simp)
  have d0 := hcell 0 x rfl
  rw [Nat.add_zero] at d0
  refine ⟨g, off, cap, hqv, by simp at hle; omega, hmx, d0, fun W off' hb ho => ?_⟩
  rw [hqv] at hq'
  have ht := QAt.tail (xs := l) hq' off' ho
  have := h.at_.turnQ (w' := W) 1 (by omega) (ht.below hb) (Keep.of_below hb) (fun k hk => .inl (by rw [hqv]; exact hk))
  exact h.turnC this
structure Be (e : En) : Prop where
  bd : Bd e.c
  weak : e.weak.length + dm e.c ≤ 20000000
set_option maxRecDepth 100000 in
set_option maxHeartbeats 4000000 in
theorem drain_any (h : EAt w E e) (hB : Be e) : Calls Tryz.prog 126 #[.pointer (some ⟨E.ep, 0, none⟩)] w fun x w' => UnitE w E (drain e) x w' := by
  have HH := Lib.hid h
  have HBE := Lib.hid hB
  clear h hB
  go_enter Tryz.func126, Tryz.ntmps126
  go_wp2_with fail
  go_loopg [] (dm e.c) (fun k wr => ∃ (Ei : EL) (ei : En), dm ei.c = k ∧ drain ei = drain e ∧ Be ei ∧ EGo w E wr Ei ei)
  case atStart => exact ⟨E, e, rfl, rfl, HBE.out, EGo.refl HH.out⟩
  case round =>
    obtain ⟨Ei, ei, hk, he, hb, G⟩ := hrel
    have p0 := G.at_.cells.1
    have c5 := G.at_.at_.cells.2.2.2.2.2.1
    rw [G.cp] at p0 c5
    rw [G.ep] at p0
    have HG := Lib.hid G
    have HE := Lib.hid he
    have HKK := Lib.hid hk
    have HBI := Lib.hid hb
    cases ha : ei.c.again with
    | nil =>
      have hq : QAt wr (Ei.K.q 1) ei.c.again := G.at_.at_.q 1 (by omega)
      obtain ⟨qa, qc, hqv⟩ := hq.slice
      rw [hqv, ha] at c5
      have HR := Lib.hid (show UnitE w E (drain e) (.returned (.tuple #[])) wr from ⟨rfl, by rw [← HE.out, drain_done ha]; exact ⟨Ei, HG.out⟩⟩)
      clear hq hqv ha G he hk hb
      simp only [List.length_nil] at c5
      go_wp2_with fail
      first | go_end0 | refine bodyPost_ret (results_none rfl _ _ _) rfl ?_
      exact HR.out
    | cons x l =>
      obtain ⟨g, off, cap, hqv, hc1, hcm, d0, hpop⟩ := G.at_.popped ha
      rw [hqv] at c5
      have c0 := G.at_.at_.cells.1
      rw [G.cp, G.p] at c0
      have f5 := G.at_.at_.box.free 5
      rw [G.cp] at f5
      have hne : E.ep ≠ E.K.cp := fun e => HH.out.sepE (e ▸ .inl rfl)
      obtain ⟨N, hN⟩ : ∃ N, N = l.length := ⟨_, rfl⟩
      rw [← hN] at c5
      have e0 : decide (0 < ((N + 1 : Nat) : Int)) = true := decide_eq_true (by omega)
      have e0' : decide (0 < N + 1) = true := decide_eq_true (by omega)
      have hT1 := hpop wr.drew (tailAddr off cap) (drew_below wr) (tailAddr_or _ _)
      rw [G.cp, ← hN] at hT1
      obtain ⟨E1, G1⟩ := HG.out.to hT1
      have hne1 := drain1_mk HBI.out.bd.w01 (by rw [ha]; simp)
      have hbe1 : Be (drain1 ei) := ⟨HBI.out.bd.mk' (k := 0) hne1.1, Nat.le_trans hne1.2.2.2 HBI.out.weak⟩
      have hmea : dm (drain1 ei).c < gk := by rw [← hk]; exact hne1.2.1
      have hstep : drain (drain1 ei) = drain e := by rw [← drain_step HBI.out.bd.w01 (by rw [ha]; simp)]; exact he
      have HBE1 := Lib.hid hbe1
      have HMEA := Lib.hid hmea
      have HSTEP := Lib.hid hstep
      have hbd0 := (unagain_mk ha).1
      have hbd1 : Bd (ei.c.withAgain l) := HBI.out.bd.mk' (k := 0) hbd0
      have HBD1 := Lib.hid hbd1
      have HTH := Lib.hid (thing_any G1.at_.at_.mem hbd1.sz.n x (at_small hbd1.sz))
      rw [G1.p] at HTH
      obtain ⟨o, ho⟩ : ∃ o, o = ei.c.m.get x := ⟨_, rfl⟩
      have ho2 : (ei.c.withAgain l).m.get x = o := ho.symm
      rw [ho2] at HTH
      have hn : o.slots.length ≤ 100000 := by rw [ho]; exact (get_small HBI.out.bd.sz x).1
      have HO := Lib.hid ho
      have HA := Lib.hid ha
      have HG1 := Lib.hid G1
      have HN := Lib.hid hN
      clear hpop hqv ha G he hk hb hN hT1 G1 hne1 hbe1 hmea hstep hbd0 hbd1 ho ho2
      go_wp2_with fail
      refine wp_region_still_tail 14 (by kernel_rfl) (by kernel_rfl) ?_
      simp only [List.take_succ_cons, List.take_zero, List.drop_succ_cons, List.drop_zero]
      change wpStill _ _ (World.drew wr) _ _ _
      repeat still_step
      refine wpStill_nil ?_
      change wpList _ _ _ _ _ (World.drew wr)
      go_wp2_with fail
      refine HTH.out.mono ?_
      rintro e2 w2 ⟨sv, rfl, hv, hb2⟩
      obtain ⟨sa, sc, rfl⟩ := row_slice hv
      unfold thingV
      have hb3 := hb2.alloc hb2.size (.cells #[.int .i64 o.kind, .int .i64 o.weak, .int .i64 o.array, .slice sa o.slots.length sc, .int .i64 o.fin] 36)
      have hx3 := Box.new w2 [.int .i64 o.kind, .int .i64 o.weak, .int .i64 o.array, .slice sa o.slots.length sc, .int .i64 o.fin] 36
      have HB3 := Lib.hid hb3
      have H3 := HG1.out.at_.below hb3
      have HH3 := Lib.hid H3
      clear hb2 hb3 hx3 hv H3
      by_cases h0 : o.kind = 0
      · have e1 : (o.kind == 0) = true := by simp [h0]
        have HD := Lib.hid (show drain1 ei = ⟨ei.c.withAgain l, ei.weak⟩ by
          unfold drain1; rw [HA.out]; simp only; rw [← HO.out, if_pos h0])
        clear h0
        go_wp2_with fail
        obtain ⟨E4, G4⟩ := HG1.out.to (ETo.below HG1.out.at_ HB3.out)
        have HG4 := Lib.hid G4
        clear G4
        go_roundg (dm (drain1 ei).c)
        case measure => exact HMEA.out
        case rel => exact ⟨E4, drain1 ei, rfl, HSTEP.out, HBE1.out, by rw [HD.out]; exact HG4.out⟩
      · have e1 : (o.kind == 0) = false := by simp [h0]
        have HK0 := Lib.hid h0
        have HWK := Lib.hid (weak_any (w := w2.alloc (.cells #[.int .i64 o.kind, .int .i64 o.weak, .int .i64 o.array, .slice sa o.slots.length sc, .int .i64 o.fin] 36)) o (.slice sa o.slots.length sc))
        clear h0
        unfold thingV at HWK
        go_wp2_with fail
        refine HWK.out.mono ?_
        rintro e4 w4 ⟨rfl, hb4⟩
        have HB4 := Lib.hid (HB3.out.trans (hb4.mono HB3.out.size))
        have H4 := HH3.out.below hb4
        have r0 := H4.cells.1
        have r1 := H4.cells.2
        rw [HG1.out.ep] at r0 r1
        rw [HG1.out.cp] at r0
        have g1 : w4.frozen? ⟨E.ep, 1, none⟩ = false := by have := H4.box.free 1; rw [HG1.out.ep] at this; exact this
        obtain ⟨wa, wc, hwv⟩ := H4.weak.slice
        have HWV := Lib.hid hwv
        have hww := H4.weak
        rw [hwv] at r1
        have HWW := Lib.hid hww
        have HH4 := Lib.hid H4
        clear hb4 hwv hww H4
        cases hw : weakB o with
        | true =>
          have hwl : ei.weak.length ≤ 20000000 := by have := HBI.out.weak; omega
          have HCO := Lib.hid (contains_any (w := w4) (v := .slice wa ei.weak.length wc) (l := ei.weak) (by rw [← HWV.out]; exact HWW.out) (by omega) x)
          have HD := Lib.hid (show drain1 ei = ⟨ei.c.withAgain l, if x ∈ ei.weak then ei.weak else ei.weak ++ [x]⟩ by
            unfold drain1; rw [HA.out]; simp only; rw [← HO.out, if_neg HK0.out, hw, if_pos rfl])
          clear hw
          go_wp2_with fail
          refine HCO.out.mono ?_
          rintro e5 w5 ⟨rfl, rfl⟩
          by_cases hm : x ∈ ei.weak
          · have HM := Lib.hid hm
            have e5 : decide (x ∈ ei.weak) = true := decide_eq_true hm
            clear hm
            go_wp2_with fail
            obtain ⟨E4, G4⟩ := HG1.out.to (ETo.below HG1.out.at_ HB4.out)
            have HG4 := Lib.hid G4
            clear G4
            go_roundg (dm (drain1 ei).c)
            case measure => exact HMEA.out
            case rel => exact ⟨E4, drain1 ei, rfl, HSTEP.out, HBE1.out, by rw [HD.out, if_pos HM.out]; exact HG4.out⟩
          · have HM := Lib.hid hm
            have e5 : decide (x ∈ ei.weak) = false := decide_eq_false hm
            clear hm
            go_wp2_with (at_builtin; refine wpList_append_q rfl _ _ rfl E1.wv ei.weak (by rw [HWV.out]; rfl) (HWW.out.below (below_alloc _ _)) _ [x] rfl (rd_one _ _) (by simp; omega) ?_)
            intro v6 w6 hq6 hg6 hb6
            have hk6 : Keep (fun k => E1.wv.ownBlock = some k) w5 w6 := ((Keep.refl _ w5).alloc _).grown hg6 (fun k e _ => e)
            have hT6 := HH4.out.turnW hq6 hk6 (fun k hk => by
              rcases hb6 with e | e
              · exact .inl (e ▸ hk)
              · rw [e] at hk; cases hk; exact .inr (by omega))
            have hbx6 : Box w6 E.ep [.pointer (some ⟨E1.K.cp, 0, none⟩), E1.wv] 154 := by
              have hb := HH4.out.box
              rw [HG1.out.ep] at hb
              exact hb.of_block (hk6.block _ hb.lt fun e => HH4.out.wv_ne e HG1.out.ep.symm)
            have u6 := hbx6.cell 1
            have f6 := hbx6.free 1
            simp only [List.getElem?_cons_zero, List.getElem?_cons_succ] at u6
            obtain ⟨a6, cc6, rfl⟩ := hq6.slice
            rw [show (ei.weak ++ [x]).length = ei.weak.length + 1 by simp, HG1.out.ep] at hT6
            obtain ⟨E7, G7⟩ := HG1.out.to (ETo.ahead HB4.out hT6)
            have HG7 := Lib.hid G7
            clear hq6 hg6 hb6 hk6 hT6 hbx6 G7
            go_wp2_with fail
            go_roundg (dm (drain1 ei).c)
            case measure => exact HMEA.out
            case rel => exact ⟨E7, drain1 ei, rfl, HSTEP.out, HBE1.out, by rw [HD.out, if_neg HM.out]; exact HG7.out⟩
        | false =>
          have HD := Lib.hid (show drain1 ei = ⟨goOn (through (ei.c.withAgain l) x), ei.weak⟩ by
            unfold drain1; rw [HA.out]; simp only; rw [← HO.out, if_neg HK0.out, hw, if_neg (by decide)])
          have hbt : Bd (through (ei.c.withAgain l) x) := HBD1.out.mk' (k := 0) (through_mk0 HBD1.out.w01 x (by show weakB (ei.c.m.get x) = false; rw [← HO.out]; exact hw))
          have HTR := Lib.hid (through_any HH4.out.at_ HBD1.out x)
          rw [HG1.out.cp] at HTR
          have HBT := Lib.hid hbt
          clear hw hbt
          go_wp2_with fail
          refine HTR.out.mono ?_
          rintro e5 w5 ⟨rfl, hT5⟩
          obtain ⟨E5, G5⟩ := HG1.out.to (ETo.ahead HB4.out (HH4.out.turnC hT5))
          have HGO := Lib.hid (goOn_any G5.at_.at_ HBT.out)
          rw [G5.cp] at HGO
          have s0 := G5.at_.cells.1
          rw [G5.ep, G5.cp] at s0
          have HG5 := Lib.hid G5
          clear hT5 G5
          go_wp2_with fail
          refine HGO.out.mono ?_
          rintro e6 w6 ⟨rfl, hT6⟩
          obtain ⟨E6, G6⟩ := HG5.out.to (HG5.out.at_.turnC hT6)
          have HG6 := Lib.hid G6
          clear hT6 G6
          go_wp2_with fail
          go_roundg (dm (drain1 ei).c)
          case measure => exact HMEA.out
          case rel => exact ⟨E6, drain1 ei, rfl, HSTEP.out, HBE1.out, by rw [HD.out]; exact HG6.out⟩
end Go.Proofs.YtminbemdcanakaaGreat
