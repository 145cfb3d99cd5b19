/- What a weak one leads to is marked: one value. -/
import Derived.Test.YtminbemdcanakaaGreatMG
import Derived.Deep.RegionWith
namespace Go.Proofs.YtminbemdcanakaaGreat
open Go.RowKit Go.Shelf
set_option linter.unusedVariables false
set_option linter.unusedSimpArgs false
attribute [local go_sem] Oper.semAt_some meth_order meth_thing meth_kind meth_cells meth_colour meth_age meth_setColour meth_setAge meth_setFin meth_clear meth_drop meth_roots

variable {w : World} {E : EL} {e : En}
/-- The ender goes a step, and the mark 'some' (at bs) is turned. -/
structure EGs (w : World) (E : EL) (bs : Nat) (w' : World) (E' : EL) (e' : En) (b' : Bool) : Prop where
  ep : E'.ep = E.ep
  cp : E'.K.cp = E.K.cp
  p : E'.K.L.p = E.K.L.p
  at_ : EAt w' E' e'
  box : Box w' bs [.bool b'] 4
  keep : Keep (fun k => E.own k ∨ k = bs) w w'
  own : ∀ k, E'.own k → E.own k ∨ w.heap.size ≤ k
theorem EGs.trans {w0 w1 w2 : World} {E0 E1 E2 : EL} {bs : Nat} {e1 e2 : En} {b1 b2 : Bool} (h : EGs w0 E0 bs w1 E1 e1 b1) (k : EGs w1 E1 bs w2 E2 e2 b2) : EGs w0 E0 bs w2 E2 e2 b2 := by
  refine ⟨k.ep.trans h.ep, k.cp.trans h.cp, k.p.trans h.p, k.at_, k.box, h.keep.trans' k.keep (fun i hi ho => ?_), fun i hi => ?_⟩
  · rcases ho with ho | ho
    · rcases h.own i ho with x | x
      · exact .inl x
      · omega
    · exact .inr ho
  · rcases k.own i hi with x | x
    · exact h.own i x
    · have := h.keep.size; exact .inr (by omega)
theorem EAt.of_blocks {w' : World} (h : EAt w E e) (hs : w.heap.size ≤ w'.heap.size) (hb : ∀ k, E.own k → w'.heap[k]? = w.heap[k]?) : EAt w' E e :=
  ⟨h.box.of_block (hb _ (.inl rfl)), h.at_.of_blocks hs fun k hk => hb k (.inr (.inl hk)), h.weak.of_block fun k hk => hb k (.inr (.inr hk)), h.sepE, h.sepW⟩
theorem EAt.put {w' : World} {c' : Cs} {s : Nat → Prop} (h : EAt w E e) (hT : CTo s w E.K w' c') {bs : Nat} {b : Bool} (hbs : Box w bs [.bool b] 4) (hns : ¬ E.own bs) (b' : Bool) : ∃ E', EGs w E bs (w'.setCell ⟨bs, 0, none⟩ (.bool b')) E' ⟨c', e.weak⟩ b' := by
  obtain ⟨E1, G⟩ := h.turnC hT
  have hb1 := G.keep.box hbs hns
  have hne : ∀ k, E1.own k → k ≠ bs := by
    rintro k ho rfl
    rcases G.own _ ho with x | x
    · exact hns x
    · have := hbs.lt; omega
  have hset : ∀ k, k ≠ bs → (w'.setCell ⟨bs, 0, none⟩ (.bool b')).heap[k]? = w'.heap[k]? := fun k hk => Below.heap_setCell _ _ _ _ hk
  have hsz : (w'.setCell ⟨bs, 0, none⟩ (.bool b')).heap.size = w'.heap.size := by simp [World.setCell]
  refine ⟨E1, G.ep, G.cp, G.p, G.at_.of_blocks (by rw [hsz]; exact Nat.le_refl _) fun k ho => hset k (hne k ho), hb1.set 0 _, ?_, G.own⟩
  exact (G.keep.mono fun k _ x => .inl x).trans' (C := fun k => k = bs) (Keep.setCell (B := fun k => k = bs) (p := ⟨bs, 0, none⟩) (Keep.refl _ w') (fun _ => rfl) _) (fun _ _ x => .inr x)
theorem EGs.ahead {w0 : World} {w1 w2 : World} {bs : Nat} {e2 : En} {b2 : Bool} {E2 : EL} (hb : Below w0.heap.size w0 w1) (h : EGs w1 E bs w2 E2 e2 b2) : EGs w0 E bs w2 E2 e2 b2 :=
  ⟨h.ep, h.cp, h.p, h.at_, h.box, (Keep.of_below hb).trans h.keep, fun k hk => (h.own k hk).imp id fun x => by have := hb.size; omega⟩
def PutP (w : World) (E : EL) (bs : Nat) (e' : En) (b' : Bool) (x : Ending) (w' : World) : Prop := x = .returned (.tuple #[]) ∧ ∃ E', EGs w E bs w' E' e' b'
set_option maxRecDepth 100000 in
set_option maxHeartbeats 4000000 in
theorem put_any (h : EAt w E e) (hB : Bd e.c) {be bs : Nat} {b : Bool} (hbe : Box w be [.pointer (some ⟨E.ep, 0, none⟩)] 152) (hne : ¬ E.own be) (hbs : Box w bs [.bool b] 4) (hns : ¬ E.own bs) (v : V) :
    Calls Tryz.prog 174 #[v.val, .pointer (some ⟨be, 0, none⟩), .pointer (some ⟨bs, 0, none⟩)] w fun x w' => PutP w E bs ⟨mark e.c v, e.weak⟩ (fresh e.c.m e.c.white v || b) x w' := by
  have hb := below_alloc w (.cells #[.int .i64 v.t, .int .i64 v.n] 34)
  have H1 := (h.below hb).below (drew_below _)
  have HM := Lib.hid (mark_any H1.at_ hB v)
  have c0 := (hbe.alloc (.cells #[.int .i64 v.t, .int .i64 v.n] 34)).cell 0
  have c1 := (hbs.alloc (.cells #[.int .i64 v.t, .int .i64 v.n] 34)).cell 0
  have c2 := (h.below hb).cells.1
  have c3 := (Box.new w [.int .i64 v.t, .int .i64 v.n] 34).cell 0
  have c4 := (Box.new w [.int .i64 v.t, .int .i64 v.n] 34).cell 1
  simp only [List.getElem?_cons_zero, List.getElem?_cons_succ] at c0 c1 c3 c4
  have HB := Lib.hid hb
  have HH := Lib.hid h
  have HH1 := Lib.hid H1
  have HBE := Lib.hid hbe
  have HBS := Lib.hid hbs
  have HNE := Lib.hid hne
  have HNS := Lib.hid hns
  clear h hb H1 hbe hne hbs hns hB
  unfold V.val at *
  have HFIN : ∀ w5, CTo marksQ (w.alloc (.cells #[.int .i64 v.t, .int .i64 v.n] 34)).drew E.K w5 (mark e.c v) →
      w5.cell? ⟨bs, 0, none⟩ = some (.bool b) ∧ w5.frozen? ⟨bs, 0, none⟩ = false ∧ PutP w E bs ⟨mark e.c v, e.weak⟩ (fresh e.c.m e.c.white v || b) (.returned (.tuple #[])) (w5.setCell ⟨bs, 0, none⟩ (.bool (fresh e.c.m e.c.white v || b))) := by
    intro w5 hT
    have hbx := (HBS.out.alloc (.cells #[.int .i64 v.t, .int .i64 v.n] 34)).drew
    have hb5 := hT.box hbx fun x => HNS.out (.inr (.inl x))
    obtain ⟨E', G⟩ := HH1.out.put hT hbx HNS.out (fresh e.c.m e.c.white v || b)
    refine ⟨hb5.cell 0, hb5.free 0, rfl, E', G.ahead (HB.out.trans ((drew_below _).mono (by simp)))⟩
  have HFI := Lib.hid HFIN
  clear HFIN
  cases hf : fresh e.c.m e.c.white v with
  | true =>
    have HF := Lib.hid hf
    rw [hf] at HFI
    clear hf
    go_enter Tryz.func174, Tryz.ntmps174
    go_wp2_with fail
    go_region_with (go_at_call 114; refine HM.out.mono ?_; rintro x w5 ⟨rfl, hT5⟩; rw [HF.out]; obtain ⟨u1, f1, hP⟩ := HFI.out w5 hT5; have HP := Lib.hid hP; clear hP hT5)
    all_goals go_wp2_with fail
    all_goals (
      first | go_end0 | refine bodyPost_ret (results_none rfl _ _ _) rfl ?_
      exact HP.out)
  | false =>
    have HF := Lib.hid hf
    rw [hf] at HFI
    clear hf
    go_enter Tryz.func174, Tryz.ntmps174
    go_wp2_with fail
    go_region_with (go_at_call 114; refine HM.out.mono ?_; rintro x w5 ⟨rfl, hT5⟩; rw [HF.out]; obtain ⟨u1, f1, hP⟩ := HFI.out w5 hT5; have HP := Lib.hid hP; clear hP hT5)
    all_goals go_wp2_with fail
    all_goals (
      first | go_end0 | refine bodyPost_ret (results_none rfl _ _ _) rfl ?_
      exact HP.out)
end Go.Proofs.YtminbemdcanakaaGreat
/- What a weak one leads to is marked. -/
namespace Go.Proofs.YtminbemdcanakaaGreat
open Go.RowKit Go.Shelf
set_option linter.unusedVariables false
set_option linter.unusedSimpArgs false
attribute [local go_sem] Oper.semAt_some meth_order meth_thing meth_kind meth_cells meth_colour meth_age meth_setColour meth_setAge meth_setFin meth_clear meth_drop meth_roots

variable {w : World} {E : EL} {e : En}
theorem EGs.below {w0 w1 w2 : World} {E1 : EL} {bs : Nat} {e1 : En} {b1 : Bool} (h : EGs w0 E bs w1 E1 e1 b1) (hb : Below w1.heap.size w1 w2) : EGs w0 E bs w2 E1 e1 b1 :=
  ⟨h.ep, h.cp, h.p, h.at_.below hb, h.box.below hb h.box.lt, h.keep.trans (Keep.of_below hb), h.own⟩
theorem EGs.turn {w0 w1 w2 w3 : World} {E1 E2 : EL} {bs : Nat} {e1 e2 : En} {b1 b2 : Bool} (h : EGs w0 E bs w1 E1 e1 b1) (hb : Below w1.heap.size w1 w2) (k : EGs w2 E1 bs w3 E2 e2 b2) : EGs w0 E bs w3 E2 e2 b2 := h.trans (k.ahead hb)
theorem wants_pos {c : Cs} {o : Ob} {i : Nat} (hi : 0 < i) : ephWants c o i = (if (slotAt o i).t = 4 ∧ o.weak ≠ 1 then true else if o.weak = 2 ∧ isKeyAt o i = true then true else if o.weak = 1 ∧ loneAt o i = true then true else if o.weak = 1 ∧ isKeyAt o i = true then !held c (slotAt o i) else if o.weak = 1 then !held c (slotAt o (i - 1)) else false) := by
  unfold ephWants
  have : ¬ i = 0 := by omega
  simp only [this, false_or]
def EphRel (w3 : World) (E : EL) (bs : Nat) (wk : List Int) (o : Ob) (s0 : Cs × Bool) (i : Nat) (Ei : EL) (wr : World) : Prop :=
  EGs w3 E bs wr Ei ⟨((List.range i).foldl (ephStep o) s0).1, wk⟩ ((List.range i).foldl (ephStep o) s0).2
theorem eph_succ (o : Ob) (s0 : Cs × Bool) (i : Nat) : (List.range (i + 1)).foldl (ephStep o) s0 = ephStep o ((List.range i).foldl (ephStep o) s0) i := by
  rw [List.range_succ, List.foldl_append]; rfl
/-- All that a round knows. -/
structure EphR (w3 wr : World) (E Ei : EL) (be bt bs : Nat) (wk : List Int) (o : Ob) (sa : Option Addr) (sc : Nat) (s : Cs × Bool) : Prop where
  go : EGs w3 E bs wr Ei ⟨s.1, wk⟩ s.2
  hbe : Box wr be [.pointer (some ⟨E.ep, 0, none⟩)] 152
  nbe : ¬ Ei.own be
  nbs : ¬ Ei.own bs
  hbt : Box wr bt [.int .i64 o.kind, .int .i64 o.weak, .int .i64 o.array, .slice sa o.slots.length sc, .int .i64 o.fin] 36
  row : wr.ownsRow 0 34 2 (.slice sa o.slots.length sc) o.slots.length (flatV o.slots)
  bd : Bd s.1
def ephPutC (wr : World) (Ei : EL) (be bs : Nat) (wk : List Int) (s : Cs × Bool) (v : V) : Prop := ∀ W', Below wr.heap.size wr W' →
  Calls Tryz.prog 174 #[v.val, .pointer (some ⟨be, 0, none⟩), .pointer (some ⟨bs, 0, none⟩)] W' fun x w' => PutP W' Ei bs ⟨mark s.1 v, wk⟩ (fresh s.1.m s.1.white v || s.2) x w'
theorem EphR.put {w3 wr : World} {E Ei : EL} {be bt bs : Nat} {wk : List Int} {o : Ob} {sa : Option Addr} {sc : Nat} {s : Cs × Bool} (h : EphR w3 wr E Ei be bt bs wk o sa sc s) (v : V) : ephPutC wr Ei be bs wk s v := by
  intro W' hb
  exact put_any (h.go.at_.below hb) h.bd (by have := h.hbe.below hb h.hbe.lt; rw [← h.go.ep] at this; exact this) h.nbe (h.go.box.below hb h.go.box.lt) h.nbs v
end Go.Proofs.YtminbemdcanakaaGreat
