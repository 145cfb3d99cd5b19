/- What is to be finalised is put into Pending. -/
import Derived.Test.YtminbemdcanakaaGreatMH
import Derived.Test.YtminbemdcanakaaGreatQColEach
namespace Go.Proofs.YtminbemdcanakaaGreat
open Go.RowKit Go.Shelf
set_option linter.unusedVariables false
set_option linter.unusedSimpArgs false
attribute [local go_sem] Oper.semAt_some field_fin meth_order meth_thing meth_kind meth_cells meth_colour meth_age meth_setColour meth_setAge meth_setFin meth_clear meth_drop meth_roots

theorem step_append_q {w : World} {ops : Array Oper} {o : Oper} {a : Act} {K : Act → World → Prop} {Q : Exit → Act → World → Prop} {X : Prop} (hgd : o.guard = none) (s x : Operand)
    (ho : o.op = .call { callee := .builtin .append, args := #[s, x], argTypes := #[54, 54] })
    (v : Value) (xs : List Int) (hsv : a.eval s = v) (hq : QAt w v xs) (sv : Value) (news : List Int) (hx : a.eval x = sv) (hs : Rd w sv news.length (intL news)) (hb : xs.length + news.length ≤ 100000000)
    (h : ∀ v' w', QAt w' v' (xs ++ news) → w.grownBy w' v.ownBlock → (v'.ownBlock = v.ownBlock ∨ v'.ownBlock = some w.heap.size) → K (a.put o.dst v') w') : if Region.wanted o (yielded ops a.tmps) = true then Oper.wp Tryz.prog o a w K Q else X := by
  have hw : Region.wanted o (yielded ops a.tmps) = true := by simp [Region.wanted, hgd]
  rw [if_pos hw]
  obtain ⟨v', w', hr, h2, h3, h4⟩ := run_append_q hq hs hb o.type
  unfold Oper.wp execOp
  simp only [ho, resolve, invoke, builtin, Sem.run_bind, Sem.run_pure, Result.andThen_ok, List.map_toArray, List.map_cons, List.map_nil, hsv, hx, hr]
  exact h v' w' h2 h3 h4
variable {w : World} {E : EL} {e : En}
theorem EAt.of_blocks' {w' : World} (h : EAt w E e) (hs : w.heap.size ≤ w'.heap.size) (hb : ∀ k, E.own k → w'.heap[k]? = w.heap[k]?) : EAt w' E e :=
  ⟨h.box.of_block (hb _ (.inl rfl)), h.at_.of_blocks hs fun k hk => hb k (.inr (.inl hk)), h.weak.of_block fun k hk => hb k (.inr (.inr hk)), h.sepE, h.sepW⟩
def sepP (c : Cs) (h : Int) : Bool := decide (0 < (c.m.get h).fin ∧ c.m.col h = c.white)
theorem order_mem {m : Mm} {x : Int} (h : x ∈ m.order) : 1 ≤ x ∧ x ≤ m.obs.length := by
  have : ∀ (l : List (Option Ob)) (k : Nat), x ∈ orderF k l → (k : Int) + 1 ≤ x ∧ x ≤ (k : Int) + l.length := by
    intro l
    induction l with
    | nil => intro k h; cases h
    | cons y l ih =>
      intro k h
      cases y with
      | none =>
        have := ih (k + 1) h
        simp only [List.length_cons]
        omega
      | some y =>
        rcases List.mem_cons.1 h with rfl | h
        · simp only [List.length_cons]; omega
        · have := ih (k + 1) h
          simp only [List.length_cons]
          omega
  have := this m.obs 0 h
  omega
theorem filter_snoc (p : Int → Bool) (l : List Int) (i : Nat) (x : Int) (h : l[i]? = some x) : (l.take (i + 1)).filter p = (l.take i).filter p ++ (if p x = true then [x] else []) := by
  rw [List.take_add_one, h, List.filter_append]
  by_cases hx : p x = true
  · rw [if_pos hx]; simp [hx]
  · rw [if_neg hx]; simp [hx]
/-- The boxes that separate's own text reads. -/
structure SB (w : World) (E : EL) (be : Nat) : Prop where
  b : Box w be [.pointer (some ⟨E.ep, 0, none⟩)] 152
  e : ∃ v, Box w E.ep [.pointer (some ⟨E.K.cp, 0, none⟩), v] 154
  nb : ¬ E.K.own be
  ne : ¬ E.K.own E.ep
theorem SB.cells {be : Nat} (h : SB w E be) : w.cell? ⟨be, 0, none⟩ = some (.pointer (some ⟨E.ep, 0, none⟩)) ∧ w.cell? ⟨E.ep, 0, none⟩ = some (.pointer (some ⟨E.K.cp, 0, none⟩)) := by
  obtain ⟨v, hv⟩ := h.e
  exact ⟨h.b.cell 0, hv.cell 0⟩
theorem SB.keep {be : Nat} {w' : World} (h : SB w E be) (hk : Keep E.K.own w w') : SB w' E be := by
  obtain ⟨v, hv⟩ := h.e
  exact ⟨hk.box h.b h.nb, ⟨v, hk.box hv h.ne⟩, h.nb, h.ne⟩
theorem SB.keepB {be : Nat} {w' : World} {B : Nat → Prop} (h : SB w E be) (hk : Keep B w w') (h1 : ¬ B be) (h2 : ¬ B E.ep) : SB w' E be := by
  obtain ⟨v, hv⟩ := h.e
  exact ⟨hk.box h.b h1, ⟨v, hk.box hv h2⟩, h.nb, h.ne⟩
def finsM (l : List Int) (m : Mm) : Mm := l.foldl (fun m h => m.setFin h 0) m
def markV (c : Cs) (h : Int) : Cs := mark c (valueOf c.m h)
set_option maxRecDepth 100000 in
set_option maxHeartbeats 8000000 in
theorem separate_any (h : EAt w E e) (hB : Bd e.c) (hp : e.c.pending.length ≤ 9000000) : Calls Tryz.prog 131 #[.pointer (some ⟨E.ep, 0, none⟩)] w fun x w' => UnitTo allQ w E.K (separate e.c) x w' := by
  have hmf : ∀ (fn : Fn) (first cap : Array Value) (w : World), (Instr.makeFunc fn first cap).run Tryz.prog w = .ok (.func fn first cap) w := fun _ _ _ _ => rfl
  obtain ⟨i0, hi0, hz0, hz1, hz2⟩ := info_parts infC1
  have hb0 := below_alloc w (.cells #[.pointer (some ⟨E.ep, 0, none⟩)] 152)
  have hx0 := Box.new w [.pointer (some ⟨E.ep, 0, none⟩)] 152
  have H0 := h.below hb0
  have p0 := H0.cells.1
  have c0 := H0.at_.cells.1
  have HO := Lib.hid (order_any H0.at_.mem hB.sz.n)
  obtain ⟨ord, hord⟩ : ∃ ord, ord = e.c.m.order := ⟨_, rfl⟩
  rw [← hord] at HO
  have holen : ord.length ≤ 100000 := by rw [hord]; exact Nat.le_trans (orderF_length _ _) hB.sz.n
  obtain ⟨be, hbe⟩ : ∃ be, be = w.heap.size := ⟨_, rfl⟩
  have hsb : SB (w.alloc (.cells #[.pointer (some ⟨E.ep, 0, none⟩)] 152)) E be := ⟨by rw [hbe]; exact hx0, ⟨_, H0.box⟩, fun x => by have := h.at_.own_lt x; omega, h.sepE⟩
  have HSB0 := Lib.hid hsb
  have HH0 := Lib.hid H0
  have HH := Lib.hid h
  have HB := Lib.hid hB
  have HP9 := Lib.hid hp
  have HB0 := Lib.hid hb0
  have HORD := Lib.hid hord
  have HBE := Lib.hid hbe
  clear h hB hp hb0 hx0 H0 hord hsb hbe
  go_enter Tryz.func131, Tryz.ntmps131
  go_wp2_with fail
  refine HO.out.mono ?_
  rintro x1 w1 ⟨ov, rfl, hov, hb1⟩
  obtain ⟨oa, oc, rfl⟩ := row_slice hov
  have HB1 := Lib.hid (HB0.out.trans (hb1.mono (by simp)))
  have HOV := Lib.hid hov
  have HSB1 := Lib.hid (HSB0.out.keep (Keep.of_below hb1))
  have HH1 := Lib.hid (HH0.out.below hb1)
  clear hov hb1 p0 c0
  go_wp2_with fail
  rw [← HBE.out]
  go_loopw [2, 18] (fun t2 t18 wr => ∃ i : Nat, i ≤ ord.length ∧ t18 = .int .i64 i ∧ wr.ownsRow w1.heap.size 3 1 t2 ((ord.take i).filter (sepP e.c)).length (intL ((ord.take i).filter (sepP e.c))) ∧ Below w1.heap.size w1 wr) (fun _ t18 _ => ord.length - (intOf t18).toNat)
  case atStart => exact ⟨0, Nat.zero_le _, by go_num, World.ownsRow_nil _ _ _ _, Below.refl _ _⟩
  case round =>
    obtain ⟨i, hi, rfl, hown, hBW⟩ := hrel
    obtain ⟨l, hl⟩ : ∃ l, l = (ord.take i).filter (sepP e.c) := ⟨_, rfl⟩
    rw [← hl] at hown
    obtain ⟨la, lc, rfl⟩ := row_slice hown
    have hsb := HSB1.out.keep (Keep.of_below hBW)
    have hEr := HH1.out.below hBW
    obtain ⟨r0, r1⟩ := hsb.cells
    have r2 := hEr.at_.cells.1
    have r3 := hEr.at_.cells.2.2.2.1
    have hll : l.length ≤ 100000 := by
      rw [hl]
      refine Nat.le_trans (List.length_filter_le _ _) ?_
      rw [List.length_take]; omega
    by_cases hlt : i < ord.length
    · obtain ⟨x, hx⟩ : ∃ x, ord[i]? = some x := ⟨ord[i], List.getElem?_eq_getElem _⟩
      have hovr := ownsRow_of_block HOV.out fun k hk => hBW.block k (HOV.out.lt k hk).2
      obtain ⟨g, c2, ha2, hcell⟩ := row_at hovr (by omega)
      simp only [Value.slice.injEq] at ha2
      obtain ⟨rfl, -, rfl⟩ := ha2
      have y0 := hcell _ _ (intL_get hx)
      have hts := filter_snoc (sepP e.c) ord i x hx
      rw [← hl] at hts
      have hS5 := (⟨r0, r1, r2, r3⟩ : wr.drew.cell? ⟨be, 0, none⟩ = some (.pointer (some ⟨E.ep, 0, none⟩)) ∧ wr.drew.cell? ⟨E.ep, 0, none⟩ = some (.pointer (some ⟨E.K.cp, 0, none⟩)) ∧ wr.drew.cell? ⟨E.K.cp, 0, none⟩ = some (memI E.K.L.p) ∧ wr.drew.cell? ⟨E.K.cp, 3, none⟩ = some (.int .i64 e.c.white))
      have HTH := Lib.hid (thing_any (hEr.at_.mem.drew') HB.out.sz.n x (at_small HB.out.sz))
      have HSB := Lib.hid (show ∀ w5, Below wr.heap.size wr w5 → w5.cell? ⟨be, 0, none⟩ = some (.pointer (some ⟨E.ep, 0, none⟩)) ∧ w5.cell? ⟨E.ep, 0, none⟩ = some (.pointer (some ⟨E.K.cp, 0, none⟩)) ∧ w5.cell? ⟨E.K.cp, 0, none⟩ = some (memI E.K.L.p) ∧ w5.cell? ⟨E.K.cp, 3, none⟩ = some (.int .i64 e.c.white) from fun w5 h5 => ⟨(h5.cell (cell_lt r0)).trans r0, (h5.cell (cell_lt r1)).trans r1, (h5.cell (cell_lt r2)).trans r2, (h5.cell (cell_lt r3)).trans r3⟩)
      have HCOL := Lib.hid (show ∀ w5, Below wr.heap.size wr w5 → Calls Tryz.prog 65 #[.pointer (some ⟨E.K.L.p, 0, none⟩), .int .i64 x] w5 fun e1 w' => e1 = .returned (.int .i64 (e.c.m.col x)) ∧ w' = w5 from fun w5 h5 => colour_any (hEr.at_.mem.below h5) HB.out.sz.n x)
      have HBW := Lib.hid hBW
      have HOWN := Lib.hid hown
      have HTS := Lib.hid hts
      have HLL := Lib.hid hll
      have HL := Lib.hid hl
      obtain ⟨o, ho⟩ : ∃ o, o = e.c.m.get x := ⟨_, rfl⟩
      rw [← ho] at HTH
      have hsp : sepP e.c x = decide (0 < o.fin ∧ e.c.m.col x = e.c.white) := by unfold sepP; rw [ho]
      have HSP := Lib.hid hsp
      clear hx hovr hcell hts hl hsb hEr hown hBW ho hsp hll
      by_cases hf : 0 < o.fin
      · have e0 : decide (0 < o.fin) = true := decide_eq_true hf
        by_cases hc : e.c.m.col x = e.c.white
        · have e1 : (e.c.m.col x == e.c.white) = true := by simp [hc]
          have HY := Lib.hid (show (ord.take (i + 1)).filter (sepP e.c) = l ++ [x] by rw [HTS.out, HSP.out, decide_eq_true ⟨hf, hc⟩]; rfl)
          clear hf hc
          go_wp2_with fail
          refine wp_region_noPanic ?_
          refine wp_region_held_drew (S := (fun w' => w'.cell? ⟨be, 0, none⟩ = some (.pointer (some ⟨E.ep, 0, none⟩)) ∧ w'.cell? ⟨E.ep, 0, none⟩ = some (.pointer (some ⟨E.K.cp, 0, none⟩)) ∧ w'.cell? ⟨E.K.cp, 0, none⟩ = some (memI E.K.L.p) ∧ w'.cell? ⟨E.K.cp, 3, none⟩ = some (.int .i64 e.c.white))) (by kernel_rfl) ?_ (fun hHeld => ?_)
          · exact hS5
          refine wpAnyH_take (i := 0) (oi := ?oia0) (v := ?vva0) ?hia0 (by kernel_rfl) (by kernel_rfl) (by kernel_rfl) ?hQa0 ?hya0 (by assumption) ?resta0
          case hia0 => (simp only [List.getElem?_toArray, List.getElem?_cons_succ, List.getElem?_cons_zero]; rfl)
          case hQa0 => exact fun _ _ _ h => h
          case hya0 => (refine Or.inl ⟨by rfl, ?_⟩; intro w hSw; (try dsimp only at hSw); go_simp; try with_reducible rfl)
          try simp only [Act.put, List.setIfInBounds_toArray, List.set_cons_zero, List.set_cons_succ]
          refine wpAnyH_take (i := 1) (oi := ?oia1) (v := ?vva1) ?hia1 (by kernel_rfl) (by kernel_rfl) (by kernel_rfl) ?hQa1 ?hya1 (by assumption) ?resta1
          case hia1 => (simp only [List.getElem?_toArray, List.getElem?_cons_succ, List.getElem?_cons_zero]; rfl)
          case hQa1 => exact fun _ _ _ h => h
          case hya1 => (refine Or.inl ⟨by rfl, ?_⟩; intro w hSw; (try dsimp only at hSw); go_simp; try with_reducible rfl)
          try simp only [Act.put, List.setIfInBounds_toArray, List.set_cons_zero, List.set_cons_succ]
          refine wpAnyH_take (i := 2) (oi := ?oia2) (v := ?vva2) ?hia2 (by kernel_rfl) (by kernel_rfl) (by kernel_rfl) ?hQa2 ?hya2 (by assumption) ?resta2
          case hia2 => (simp only [List.getElem?_toArray, List.getElem?_cons_succ, List.getElem?_cons_zero]; rfl)
          case hQa2 => exact fun _ _ _ h => h
          case hya2 => (refine Or.inl ⟨by rfl, ?_⟩; intro w hSw; (try dsimp only at hSw); go_simp; try with_reducible rfl)
          try simp only [Act.put, List.setIfInBounds_toArray, List.set_cons_zero, List.set_cons_succ]
          refine wpAnyH_take (i := 3) (oi := ?oia3) (v := ?vva3) ?hia3 (by kernel_rfl) (by kernel_rfl) (by kernel_rfl) ?hQa3 ?hya3 (by assumption) ?resta3
          case hia3 => (simp only [List.getElem?_toArray, List.getElem?_cons_succ, List.getElem?_cons_zero]; rfl)
          case hQa3 => exact fun _ _ _ h => h
          case hya3 => (refine Or.inl ⟨by rfl, ?_⟩; intro w hSw; (try dsimp only at hSw); go_simp; try with_reducible rfl)
          try simp only [Act.put, List.setIfInBounds_toArray, List.set_cons_zero, List.set_cons_succ]
          refine wpAnyH_take (i := 4) (oi := ?oia4) (v := ?vva4) ?hia4 (by kernel_rfl) (by kernel_rfl) (by kernel_rfl) ?hQa4 ?hya4 (by assumption) ?resta4
          case hia4 => (simp only [List.getElem?_toArray, List.getElem?_cons_succ, List.getElem?_cons_zero]; rfl)
          case hQa4 => exact fun _ _ _ h => h
          case hya4 => (refine Or.inl ⟨by rfl, ?_⟩; intro w hSw; (try dsimp only at hSw); go_simp; try with_reducible rfl)
          try simp only [Act.put, List.setIfInBounds_toArray, List.set_cons_zero, List.set_cons_succ]
          refine wpAnyH_take (i := 5) (oi := ?oia5) (v := ?vva5) ?hia5 (by kernel_rfl) (by kernel_rfl) (by kernel_rfl) ?hQa5 ?hya5 (by assumption) ?resta5
          case hia5 => (simp only [List.getElem?_toArray, List.getElem?_cons_succ, List.getElem?_cons_zero]; rfl)
          case hQa5 => exact fun _ _ _ h => h
          case hya5 => (refine Or.inl ⟨by rfl, ?_⟩; intro w hSw; (try dsimp only at hSw); go_simp; try with_reducible rfl)
          try simp only [Act.put, List.setIfInBounds_toArray, List.set_cons_zero, List.set_cons_succ]
          refine wpAnyH_take (i := 6) (oi := ?oia6) (v := ?vva6) ?hia6 (by kernel_rfl) (by kernel_rfl) (by kernel_rfl) ?hQa6 ?hya6 (by assumption) ?resta6
          case hia6 => (simp only [List.getElem?_toArray, List.getElem?_cons_succ, List.getElem?_cons_zero]; rfl)
          case hQa6 => exact fun _ _ _ h => h
          case hya6 => (refine Or.inl ⟨by rfl, ?_⟩; intro w hSw; (try dsimp only at hSw); go_simp; try with_reducible rfl)
          try simp only [Act.put, List.setIfInBounds_toArray, List.set_cons_zero, List.set_cons_succ]
          refine wpAnyH_take (i := 7) (oi := ?oia7) (v := ?vva7) ?hia7 (by kernel_rfl) (by kernel_rfl) (by kernel_rfl) ?hQa7 ?hya7 (by assumption) ?resta7
          case hia7 => (simp only [List.getElem?_toArray, List.getElem?_cons_succ, List.getElem?_cons_zero]; rfl)
          case hQa7 => exact fun _ _ _ h => h
          case hya7 => (refine Or.inl ⟨by rfl, ?_⟩; intro w hSw; (try dsimp only at hSw); go_simp; try with_reducible rfl)
          try simp only [Act.put, List.setIfInBounds_toArray, List.set_cons_zero, List.set_cons_succ]
          refine wpAnyH_ready (rs := [8]) (by kernel_rfl) (by simp) ?_
          refine AllReadyH.cons (o := ?oa8) ?hoa8 (fun K hK => ?sta8) AllReadyH.nil
          case hoa8 => (simp only [List.getElem?_toArray, List.getElem?_cons_succ, List.getElem?_cons_zero]; rfl)
          go_simp
          refine HTH.out.mono ?_
          rintro x5 w5 ⟨sv5, rfl, hv5, hb5⟩
          unfold thingV
          have k5 := HSB.out w5 ((drew_below _).trans (hb5.mono (Nat.le_refl _)))
          have HB5 := Lib.hid ((drew_below _).trans (hb5.mono (Nat.le_refl _)))
          clear hv5 hb5
          go_simp
          refine hK.out _ _ k5 (fun hHeld => ?_)
          clear hK K
          try simp only [Act.put, List.setIfInBounds_toArray, List.set_cons_zero, List.set_cons_succ]
          refine wpAnyH_take (i := 9) (oi := ?oia9) (v := ?vva9) ?hia9 (by kernel_rfl) (by kernel_rfl) (by kernel_rfl) ?hQa9 ?hya9 (by assumption) ?resta9
          case hia9 => (simp only [List.getElem?_toArray, List.getElem?_cons_succ, List.getElem?_cons_zero]; rfl)
          case hQa9 => exact fun _ _ _ h => h
          case hya9 => (refine Or.inl ⟨by rfl, ?_⟩; intro w hSw; (try dsimp only at hSw); go_simp; try with_reducible rfl)
          try simp only [Act.put, List.setIfInBounds_toArray, List.set_cons_zero, List.set_cons_succ]
          refine wpAnyH_take (i := 10) (oi := ?oia10) (v := ?vva10) ?hia10 (by kernel_rfl) (by kernel_rfl) (by kernel_rfl) ?hQa10 ?hya10 (by assumption) ?resta10
          case hia10 => (simp only [List.getElem?_toArray, List.getElem?_cons_succ, List.getElem?_cons_zero]; rfl)
          case hQa10 => exact fun _ _ _ h => h
          case hya10 => (refine Or.inl ⟨by rfl, ?_⟩; intro w hSw; (try dsimp only at hSw); go_simp; try with_reducible rfl)
          try simp only [Act.put, List.setIfInBounds_toArray, List.set_cons_zero, List.set_cons_succ]
          refine wpAnyH_take (i := 11) (oi := ?oia11) (v := ?vva11) ?hia11 (by kernel_rfl) (by kernel_rfl) (by kernel_rfl) ?hQa11 ?hya11 (by assumption) ?resta11
          case hia11 => (simp only [List.getElem?_toArray, List.getElem?_cons_succ, List.getElem?_cons_zero]; rfl)
          case hQa11 => exact fun _ _ _ h => h
          case hya11 => (refine Or.inl ⟨by rfl, ?_⟩; intro w hSw; (try dsimp only at hSw); go_simp; try with_reducible rfl)
          try simp only [Act.put, List.setIfInBounds_toArray, List.set_cons_zero, List.set_cons_succ]
          refine wpAnyH_take (i := 12) (oi := ?oia12) (v := ?vva12) ?hia12 (by kernel_rfl) (by kernel_rfl) (by kernel_rfl) ?hQa12 ?hya12 (by assumption) ?resta12
          case hia12 => (simp only [List.getElem?_toArray, List.getElem?_cons_succ, List.getElem?_cons_zero]; rfl)
          case hQa12 => exact fun _ _ _ h => h
          case hya12 => (refine Or.inl ⟨by rfl, ?_⟩; intro w hSw; (try dsimp only at hSw); go_simp; try with_reducible rfl)
          try simp only [Act.put, List.setIfInBounds_toArray, List.set_cons_zero, List.set_cons_succ]
          refine wpAnyH_take (i := 13) (oi := ?oia13) (v := ?vva13) ?hia13 (by kernel_rfl) (by kernel_rfl) (by kernel_rfl) ?hQa13 ?hya13 (by assumption) ?resta13
          case hia13 => (simp only [List.getElem?_toArray, List.getElem?_cons_succ, List.getElem?_cons_zero]; rfl)
          case hQa13 => exact fun _ _ _ h => h
          case hya13 => (refine Or.inl ⟨by rfl, ?_⟩; intro w hSw; (try dsimp only at hSw); go_simp; try with_reducible rfl)
          try simp only [Act.put, List.setIfInBounds_toArray, List.set_cons_zero, List.set_cons_succ]
          refine wpAnyH_take (i := 14) (oi := ?oia14) (v := ?vva14) ?hia14 (by kernel_rfl) (by kernel_rfl) (by kernel_rfl) ?hQa14 ?hya14 (by assumption) ?resta14
          case hia14 => (simp only [List.getElem?_toArray, List.getElem?_cons_succ, List.getElem?_cons_zero]; rfl)
          case hQa14 => exact fun _ _ _ h => h
          case hya14 => (refine Or.inl ⟨by rfl, ?_⟩; intro w hSw; (try dsimp only at hSw); go_simp; try with_reducible rfl)
          try simp only [Act.put, List.setIfInBounds_toArray, List.set_cons_zero, List.set_cons_succ]
          refine wpAnyH_take (i := 15) (oi := ?oia15) (v := ?vva15) ?hia15 (by kernel_rfl) (by kernel_rfl) (by kernel_rfl) ?hQa15 ?hya15 (by assumption) ?resta15
          case hia15 => (simp only [List.getElem?_toArray, List.getElem?_cons_succ, List.getElem?_cons_zero]; rfl)
          case hQa15 => exact fun _ _ _ h => h
          case hya15 => (refine Or.inl ⟨by rfl, ?_⟩; intro w hSw; (try dsimp only at hSw); go_simp; try with_reducible rfl)
          try simp only [Act.put, List.setIfInBounds_toArray, List.set_cons_zero, List.set_cons_succ]
          refine wpAnyH_take (i := 16) (oi := ?oia16) (v := ?vva16) ?hia16 (by kernel_rfl) (by kernel_rfl) (by kernel_rfl) ?hQa16 ?hya16 (by assumption) ?resta16
          case hia16 => (simp only [List.getElem?_toArray, List.getElem?_cons_succ, List.getElem?_cons_zero]; rfl)
          case hQa16 => exact fun _ _ _ h => h
          case hya16 => (refine Or.inl ⟨by rfl, ?_⟩; intro w hSw; (try dsimp only at hSw); go_simp; try with_reducible rfl)
          try simp only [Act.put, List.setIfInBounds_toArray, List.set_cons_zero, List.set_cons_succ]
          refine wpAnyH_take (i := 17) (oi := ?oia17) (v := ?vva17) ?hia17 (by kernel_rfl) (by kernel_rfl) (by kernel_rfl) ?hQa17 ?hya17 (by assumption) ?resta17
          case hia17 => (simp only [List.getElem?_toArray, List.getElem?_cons_succ, List.getElem?_cons_zero]; rfl)
          case hQa17 => exact fun _ _ _ h => h
          case hya17 => (refine Or.inl ⟨by rfl, ?_⟩; intro w hSw; (try dsimp only at hSw); go_simp; try with_reducible rfl)
          try simp only [Act.put, List.setIfInBounds_toArray, List.set_cons_zero, List.set_cons_succ]
          refine wpAnyH_take (i := 18) (oi := ?oia18) (v := ?vva18) ?hia18 (by kernel_rfl) (by kernel_rfl) (by kernel_rfl) ?hQa18 ?hya18 (by assumption) ?resta18
          case hia18 => (simp only [List.getElem?_toArray, List.getElem?_cons_succ, List.getElem?_cons_zero]; rfl)
          case hQa18 => exact fun _ _ _ h => h
          case hya18 => (refine Or.inl ⟨by rfl, ?_⟩; intro w hSw; (try dsimp only at hSw); go_simp; try with_reducible rfl)
          try simp only [Act.put, List.setIfInBounds_toArray, List.set_cons_zero, List.set_cons_succ]
          refine wpAnyH_take (i := 19) (oi := ?oia19) (v := ?vva19) ?hia19 (by kernel_rfl) (by kernel_rfl) (by kernel_rfl) ?hQa19 ?hya19 (by assumption) ?resta19
          case hia19 => (simp only [List.getElem?_toArray, List.getElem?_cons_succ, List.getElem?_cons_zero]; rfl)
          case hQa19 => exact fun _ _ _ h => h
          case hya19 => (refine Or.inl ⟨by rfl, ?_⟩; intro w hSw; (try dsimp only at hSw); go_simp; try with_reducible rfl)
          try simp only [Act.put, List.setIfInBounds_toArray, List.set_cons_zero, List.set_cons_succ]
          refine wpAnyH_take (i := 21) (oi := ?oia21) (v := ?vva21) ?hia21 (by kernel_rfl) (by kernel_rfl) (by kernel_rfl) ?hQa21 ?hya21 (by assumption) ?resta21
          case hia21 => (simp only [List.getElem?_toArray, List.getElem?_cons_succ, List.getElem?_cons_zero]; rfl)
          case hQa21 => exact fun _ _ _ h => h
          case hya21 => (refine Or.inl ⟨by rfl, ?_⟩; intro w hSw; (try dsimp only at hSw); go_simp; try with_reducible rfl)
          try simp only [Act.put, List.setIfInBounds_toArray, List.set_cons_zero, List.set_cons_succ]
          refine wpAnyH_take (i := 22) (oi := ?oia22) (v := ?vva22) ?hia22 (by kernel_rfl) (by kernel_rfl) (by kernel_rfl) ?hQa22 ?hya22 (by assumption) ?resta22
          case hia22 => (simp only [List.getElem?_toArray, List.getElem?_cons_succ, List.getElem?_cons_zero]; rfl)
          case hQa22 => exact fun _ _ _ h => h
          case hya22 => (refine Or.inl ⟨by rfl, ?_⟩; intro w hSw; (try dsimp only at hSw); go_simp; try with_reducible rfl)
          try simp only [Act.put, List.setIfInBounds_toArray, List.set_cons_zero, List.set_cons_succ]
          refine wpAnyH_take (i := 23) (oi := ?oia23) (v := ?vva23) ?hia23 (by kernel_rfl) (by kernel_rfl) (by kernel_rfl) ?hQa23 ?hya23 (by assumption) ?resta23
          case hia23 => (simp only [List.getElem?_toArray, List.getElem?_cons_succ, List.getElem?_cons_zero]; rfl)
          case hQa23 => exact fun _ _ _ h => h
          case hya23 => (refine Or.inl ⟨by rfl, ?_⟩; intro w hSw; (try dsimp only at hSw); go_simp; try with_reducible rfl)
          try simp only [Act.put, List.setIfInBounds_toArray, List.set_cons_zero, List.set_cons_succ]
          refine wpAnyH_take (i := 24) (oi := ?oia24) (v := ?vva24) ?hia24 (by kernel_rfl) (by kernel_rfl) (by kernel_rfl) ?hQa24 ?hya24 (by assumption) ?resta24
          case hia24 => (simp only [List.getElem?_toArray, List.getElem?_cons_succ, List.getElem?_cons_zero]; rfl)
          case hQa24 => exact fun _ _ _ h => h
          case hya24 => (refine Or.inl ⟨by rfl, ?_⟩; intro w hSw; (try dsimp only at hSw); go_simp; try with_reducible rfl)
          try simp only [Act.put, List.setIfInBounds_toArray, List.set_cons_zero, List.set_cons_succ]
          refine wpAnyH_take (i := 25) (oi := ?oia25) (v := ?vva25) ?hia25 (by kernel_rfl) (by kernel_rfl) (by kernel_rfl) ?hQa25 ?hya25 (by assumption) ?resta25
          case hia25 => (simp only [List.getElem?_toArray, List.getElem?_cons_succ, List.getElem?_cons_zero]; rfl)
          case hQa25 => exact fun _ _ _ h => h
          case hya25 => (refine Or.inl ⟨by rfl, ?_⟩; intro w hSw; (try dsimp only at hSw); go_simp; try with_reducible rfl)
          try simp only [Act.put, List.setIfInBounds_toArray, List.set_cons_zero, List.set_cons_succ]
          refine wpAnyH_take (i := 26) (oi := ?oia26) (v := ?vva26) ?hia26 (by kernel_rfl) (by kernel_rfl) (by kernel_rfl) ?hQa26 ?hya26 (by assumption) ?resta26
          case hia26 => (simp only [List.getElem?_toArray, List.getElem?_cons_succ, List.getElem?_cons_zero]; rfl)
          case hQa26 => exact fun _ _ _ h => h
          case hya26 => (refine Or.inl ⟨by rfl, ?_⟩; intro w hSw; (try dsimp only at hSw); go_simp; try with_reducible rfl)
          try simp only [Act.put, List.setIfInBounds_toArray, List.set_cons_zero, List.set_cons_succ]
          refine wpAnyH_take (i := 27) (oi := ?oia27) (v := ?vva27) ?hia27 (by kernel_rfl) (by kernel_rfl) (by kernel_rfl) ?hQa27 ?hya27 (by assumption) ?resta27
          case hia27 => (simp only [List.getElem?_toArray, List.getElem?_cons_succ, List.getElem?_cons_zero]; rfl)
          case hQa27 => exact fun _ _ _ h => h
          case hya27 => (refine Or.inl ⟨by rfl, ?_⟩; intro w hSw; (try dsimp only at hSw); go_simp; try with_reducible rfl)
          try simp only [Act.put, List.setIfInBounds_toArray, List.set_cons_zero, List.set_cons_succ]
          refine wpAnyH_ready (rs := [20]) (by kernel_rfl) (by simp) ?_
          refine AllReadyH.cons (o := ?oa20) ?hoa20 (fun K hK => ?sta20) AllReadyH.nil
          case hoa20 => (simp only [List.getElem?_toArray, List.getElem?_cons_succ, List.getElem?_cons_zero]; rfl)
          go_simp
          refine (HCOL.out w5 HB5.out).mono ?_
          rintro x6 w6 ⟨rfl, rfl⟩
          go_simp
          refine hK.out _ _ k5 (fun hHeld => ?_)
          clear hK K
          try simp only [Act.put, List.setIfInBounds_toArray, List.set_cons_zero, List.set_cons_succ]
          refine wpAnyH_take (i := 28) (oi := ?oia28) (v := ?vva28) ?hia28 (by kernel_rfl) (by kernel_rfl) (by kernel_rfl) ?hQa28 ?hya28 (by assumption) ?resta28
          case hia28 => (simp only [List.getElem?_toArray, List.getElem?_cons_succ, List.getElem?_cons_zero]; rfl)
          case hQa28 => exact fun _ _ _ h => h
          case hya28 => (refine Or.inl ⟨by rfl, ?_⟩; intro w hSw; (try dsimp only at hSw); go_simp; try with_reducible rfl)
          try simp only [Act.put, List.setIfInBounds_toArray, List.set_cons_zero, List.set_cons_succ]
          refine wpAnyH_take (i := 29) (oi := ?oia29) (v := ?vva29) ?hia29 (by kernel_rfl) (by kernel_rfl) (by kernel_rfl) ?hQa29 ?hya29 (by assumption) ?resta29
          case hia29 => (simp only [List.getElem?_toArray, List.getElem?_cons_succ, List.getElem?_cons_zero]; rfl)
          case hQa29 => exact fun _ _ _ h => h
          case hya29 => (refine Or.inl ⟨by rfl, ?_⟩; intro w hSw; (try dsimp only at hSw); go_simp; try with_reducible rfl)
          try simp only [Act.put, List.setIfInBounds_toArray, List.set_cons_zero, List.set_cons_succ]
          refine wpAnyH_done (by kernel_rfl) ?_ _
          refine NoPanic.normal ?_
          go_wp2_with (at_builtin; refine wpList_append_own _ rfl _ _ 54 rfl w1.heap.size 3 i0 (.int .i64 0) 1 8 Tryz.underlying54 hi0 hz0 hz1 hz2 rfl (by decide) _ _ _ rfl ((ownsRow_of_block HOWN.out fun k hk => HB5.out.block k (HOWN.out.lt k hk).2).alloc _) _ _ _ [.int .i64 x] rfl rfl ?_ ?_ ?_ ?_ ?_ ?_)
          · exact cell_new1 _ (.int .i64 x) 3
          · intro u hu; simp at hu; subst hu; rfl
          · have := HLL.out; unfold maxLen; omega
          · have := HLL.out; omega
          · have := HB5.out.size; have := HBW.out.size; simp; omega
          intro v' w7 hown7 hg7 _
          have HO7 := Lib.hid hown7
          have HB7 := Lib.hid (show Below w1.heap.size w1 w7 from ((HBW.out.trans (HB5.out.mono HBW.out.size)).alloc (by have := HB5.out.size; have := HBW.out.size; omega) _).grown hg7 (by have := HB5.out.size; have := HBW.out.size; simp; omega) (by intro j hj; exact (HOWN.out.lt j hj).1))
          clear hown7 hg7
          go_wp2_with fail
          go_roundw
          case rel =>
            refine ⟨i + 1, by omega, by go_num, ?_, HB7.out⟩
            rw [HY.out, intL_app, List.length_append]
            exact HO7.out
          case measure => simp [intOf]; omega
        · have e1 : (e.c.m.col x == e.c.white) = false := by simp [hc]
          have HY := Lib.hid (show (ord.take (i + 1)).filter (sepP e.c) = l by rw [HTS.out, HSP.out, decide_eq_false (fun h => hc h.2)]; simp)
          clear hf hc
          go_wp2_with fail
          refine wp_region_noPanic ?_
          refine wp_region_held_drew (S := (fun w' => w'.cell? ⟨be, 0, none⟩ = some (.pointer (some ⟨E.ep, 0, none⟩)) ∧ w'.cell? ⟨E.ep, 0, none⟩ = some (.pointer (some ⟨E.K.cp, 0, none⟩)) ∧ w'.cell? ⟨E.K.cp, 0, none⟩ = some (memI E.K.L.p) ∧ w'.cell? ⟨E.K.cp, 3, none⟩ = some (.int .i64 e.c.white))) (by kernel_rfl) ?_ (fun hHeld => ?_)
          · exact hS5
          refine wpAnyH_take (i := 0) (oi := ?oib0) (v := ?vvb0) ?hib0 (by kernel_rfl) (by kernel_rfl) (by kernel_rfl) ?hQb0 ?hyb0 (by assumption) ?restb0
          case hib0 => (simp only [List.getElem?_toArray, List.getElem?_cons_succ, List.getElem?_cons_zero]; rfl)
          case hQb0 => exact fun _ _ _ h => h
          case hyb0 => (refine Or.inl ⟨by rfl, ?_⟩; intro w hSw; (try dsimp only at hSw); go_simp; try with_reducible rfl)
          try simp only [Act.put, List.setIfInBounds_toArray, List.set_cons_zero, List.set_cons_succ]
          refine wpAnyH_take (i := 1) (oi := ?oib1) (v := ?vvb1) ?hib1 (by kernel_rfl) (by kernel_rfl) (by kernel_rfl) ?hQb1 ?hyb1 (by assumption) ?restb1
          case hib1 => (simp only [List.getElem?_toArray, List.getElem?_cons_succ, List.getElem?_cons_zero]; rfl)
          case hQb1 => exact fun _ _ _ h => h
          case hyb1 => (refine Or.inl ⟨by rfl, ?_⟩; intro w hSw; (try dsimp only at hSw); go_simp; try with_reducible rfl)
          try simp only [Act.put, List.setIfInBounds_toArray, List.set_cons_zero, List.set_cons_succ]
          refine wpAnyH_take (i := 2) (oi := ?oib2) (v := ?vvb2) ?hib2 (by kernel_rfl) (by kernel_rfl) (by kernel_rfl) ?hQb2 ?hyb2 (by assumption) ?restb2
          case hib2 => (simp only [List.getElem?_toArray, List.getElem?_cons_succ, List.getElem?_cons_zero]; rfl)
          case hQb2 => exact fun _ _ _ h => h
          case hyb2 => (refine Or.inl ⟨by rfl, ?_⟩; intro w hSw; (try dsimp only at hSw); go_simp; try with_reducible rfl)
          try simp only [Act.put, List.setIfInBounds_toArray, List.set_cons_zero, List.set_cons_succ]
          refine wpAnyH_take (i := 3) (oi := ?oib3) (v := ?vvb3) ?hib3 (by kernel_rfl) (by kernel_rfl) (by kernel_rfl) ?hQb3 ?hyb3 (by assumption) ?restb3
          case hib3 => (simp only [List.getElem?_toArray, List.getElem?_cons_succ, List.getElem?_cons_zero]; rfl)
          case hQb3 => exact fun _ _ _ h => h
          case hyb3 => (refine Or.inl ⟨by rfl, ?_⟩; intro w hSw; (try dsimp only at hSw); go_simp; try with_reducible rfl)
          try simp only [Act.put, List.setIfInBounds_toArray, List.set_cons_zero, List.set_cons_succ]
          refine wpAnyH_take (i := 4) (oi := ?oib4) (v := ?vvb4) ?hib4 (by kernel_rfl) (by kernel_rfl) (by kernel_rfl) ?hQb4 ?hyb4 (by assumption) ?restb4
          case hib4 => (simp only [List.getElem?_toArray, List.getElem?_cons_succ, List.getElem?_cons_zero]; rfl)
          case hQb4 => exact fun _ _ _ h => h
          case hyb4 => (refine Or.inl ⟨by rfl, ?_⟩; intro w hSw; (try dsimp only at hSw); go_simp; try with_reducible rfl)
          try simp only [Act.put, List.setIfInBounds_toArray, List.set_cons_zero, List.set_cons_succ]
          refine wpAnyH_take (i := 5) (oi := ?oib5) (v := ?vvb5) ?hib5 (by kernel_rfl) (by kernel_rfl) (by kernel_rfl) ?hQb5 ?hyb5 (by assumption) ?restb5
          case hib5 => (simp only [List.getElem?_toArray, List.getElem?_cons_succ, List.getElem?_cons_zero]; rfl)
          case hQb5 => exact fun _ _ _ h => h
          case hyb5 => (refine Or.inl ⟨by rfl, ?_⟩; intro w hSw; (try dsimp only at hSw); go_simp; try with_reducible rfl)
          try simp only [Act.put, List.setIfInBounds_toArray, List.set_cons_zero, List.set_cons_succ]
          refine wpAnyH_take (i := 6) (oi := ?oib6) (v := ?vvb6) ?hib6 (by kernel_rfl) (by kernel_rfl) (by kernel_rfl) ?hQb6 ?hyb6 (by assumption) ?restb6
          case hib6 => (simp only [List.getElem?_toArray, List.getElem?_cons_succ, List.getElem?_cons_zero]; rfl)
          case hQb6 => exact fun _ _ _ h => h
          case hyb6 => (refine Or.inl ⟨by rfl, ?_⟩; intro w hSw; (try dsimp only at hSw); go_simp; try with_reducible rfl)
          try simp only [Act.put, List.setIfInBounds_toArray, List.set_cons_zero, List.set_cons_succ]
          refine wpAnyH_take (i := 7) (oi := ?oib7) (v := ?vvb7) ?hib7 (by kernel_rfl) (by kernel_rfl) (by kernel_rfl) ?hQb7 ?hyb7 (by assumption) ?restb7
          case hib7 => (simp only [List.getElem?_toArray, List.getElem?_cons_succ, List.getElem?_cons_zero]; rfl)
          case hQb7 => exact fun _ _ _ h => h
          case hyb7 => (refine Or.inl ⟨by rfl, ?_⟩; intro w hSw; (try dsimp only at hSw); go_simp; try with_reducible rfl)
          try simp only [Act.put, List.setIfInBounds_toArray, List.set_cons_zero, List.set_cons_succ]
          refine wpAnyH_ready (rs := [8]) (by kernel_rfl) (by simp) ?_
          refine AllReadyH.cons (o := ?ob8) ?hob8 (fun K hK => ?stb8) AllReadyH.nil
          case hob8 => (simp only [List.getElem?_toArray, List.getElem?_cons_succ, List.getElem?_cons_zero]; rfl)
          go_simp
          refine HTH.out.mono ?_
          rintro x5 w5 ⟨sv5, rfl, hv5, hb5⟩
          unfold thingV
          have k5 := HSB.out w5 ((drew_below _).trans (hb5.mono (Nat.le_refl _)))
          have HB5 := Lib.hid ((drew_below _).trans (hb5.mono (Nat.le_refl _)))
          clear hv5 hb5
          go_simp
          refine hK.out _ _ k5 (fun hHeld => ?_)
          clear hK K
          try simp only [Act.put, List.setIfInBounds_toArray, List.set_cons_zero, List.set_cons_succ]
          refine wpAnyH_take (i := 9) (oi := ?oib9) (v := ?vvb9) ?hib9 (by kernel_rfl) (by kernel_rfl) (by kernel_rfl) ?hQb9 ?hyb9 (by assumption) ?restb9
          case hib9 => (simp only [List.getElem?_toArray, List.getElem?_cons_succ, List.getElem?_cons_zero]; rfl)
          case hQb9 => exact fun _ _ _ h => h
          case hyb9 => (refine Or.inl ⟨by rfl, ?_⟩; intro w hSw; (try dsimp only at hSw); go_simp; try with_reducible rfl)
          try simp only [Act.put, List.setIfInBounds_toArray, List.set_cons_zero, List.set_cons_succ]
          refine wpAnyH_take (i := 10) (oi := ?oib10) (v := ?vvb10) ?hib10 (by kernel_rfl) (by kernel_rfl) (by kernel_rfl) ?hQb10 ?hyb10 (by assumption) ?restb10
          case hib10 => (simp only [List.getElem?_toArray, List.getElem?_cons_succ, List.getElem?_cons_zero]; rfl)
          case hQb10 => exact fun _ _ _ h => h
          case hyb10 => (refine Or.inl ⟨by rfl, ?_⟩; intro w hSw; (try dsimp only at hSw); go_simp; try with_reducible rfl)
          try simp only [Act.put, List.setIfInBounds_toArray, List.set_cons_zero, List.set_cons_succ]
          refine wpAnyH_take (i := 11) (oi := ?oib11) (v := ?vvb11) ?hib11 (by kernel_rfl) (by kernel_rfl) (by kernel_rfl) ?hQb11 ?hyb11 (by assumption) ?restb11
          case hib11 => (simp only [List.getElem?_toArray, List.getElem?_cons_succ, List.getElem?_cons_zero]; rfl)
          case hQb11 => exact fun _ _ _ h => h
          case hyb11 => (refine Or.inl ⟨by rfl, ?_⟩; intro w hSw; (try dsimp only at hSw); go_simp; try with_reducible rfl)
          try simp only [Act.put, List.setIfInBounds_toArray, List.set_cons_zero, List.set_cons_succ]
          refine wpAnyH_take (i := 12) (oi := ?oib12) (v := ?vvb12) ?hib12 (by kernel_rfl) (by kernel_rfl) (by kernel_rfl) ?hQb12 ?hyb12 (by assumption) ?restb12
          case hib12 => (simp only [List.getElem?_toArray, List.getElem?_cons_succ, List.getElem?_cons_zero]; rfl)
          case hQb12 => exact fun _ _ _ h => h
          case hyb12 => (refine Or.inl ⟨by rfl, ?_⟩; intro w hSw; (try dsimp only at hSw); go_simp; try with_reducible rfl)
          try simp only [Act.put, List.setIfInBounds_toArray, List.set_cons_zero, List.set_cons_succ]
          refine wpAnyH_take (i := 13) (oi := ?oib13) (v := ?vvb13) ?hib13 (by kernel_rfl) (by kernel_rfl) (by kernel_rfl) ?hQb13 ?hyb13 (by assumption) ?restb13
          case hib13 => (simp only [List.getElem?_toArray, List.getElem?_cons_succ, List.getElem?_cons_zero]; rfl)
          case hQb13 => exact fun _ _ _ h => h
          case hyb13 => (refine Or.inl ⟨by rfl, ?_⟩; intro w hSw; (try dsimp only at hSw); go_simp; try with_reducible rfl)
          try simp only [Act.put, List.setIfInBounds_toArray, List.set_cons_zero, List.set_cons_succ]
          refine wpAnyH_take (i := 14) (oi := ?oib14) (v := ?vvb14) ?hib14 (by kernel_rfl) (by kernel_rfl) (by kernel_rfl) ?hQb14 ?hyb14 (by assumption) ?restb14
          case hib14 => (simp only [List.getElem?_toArray, List.getElem?_cons_succ, List.getElem?_cons_zero]; rfl)
          case hQb14 => exact fun _ _ _ h => h
          case hyb14 => (refine Or.inl ⟨by rfl, ?_⟩; intro w hSw; (try dsimp only at hSw); go_simp; try with_reducible rfl)
          try simp only [Act.put, List.setIfInBounds_toArray, List.set_cons_zero, List.set_cons_succ]
          refine wpAnyH_take (i := 15) (oi := ?oib15) (v := ?vvb15) ?hib15 (by kernel_rfl) (by kernel_rfl) (by kernel_rfl) ?hQb15 ?hyb15 (by assumption) ?restb15
          case hib15 => (simp only [List.getElem?_toArray, List.getElem?_cons_succ, List.getElem?_cons_zero]; rfl)
          case hQb15 => exact fun _ _ _ h => h
          case hyb15 => (refine Or.inl ⟨by rfl, ?_⟩; intro w hSw; (try dsimp only at hSw); go_simp; try with_reducible rfl)
          try simp only [Act.put, List.setIfInBounds_toArray, List.set_cons_zero, List.set_cons_succ]
          refine wpAnyH_take (i := 16) (oi := ?oib16) (v := ?vvb16) ?hib16 (by kernel_rfl) (by kernel_rfl) (by kernel_rfl) ?hQb16 ?hyb16 (by assumption) ?restb16
          case hib16 => (simp only [List.getElem?_toArray, List.getElem?_cons_succ, List.getElem?_cons_zero]; rfl)
          case hQb16 => exact fun _ _ _ h => h
          case hyb16 => (refine Or.inl ⟨by rfl, ?_⟩; intro w hSw; (try dsimp only at hSw); go_simp; try with_reducible rfl)
          try simp only [Act.put, List.setIfInBounds_toArray, List.set_cons_zero, List.set_cons_succ]
          refine wpAnyH_take (i := 17) (oi := ?oib17) (v := ?vvb17) ?hib17 (by kernel_rfl) (by kernel_rfl) (by kernel_rfl) ?hQb17 ?hyb17 (by assumption) ?restb17
          case hib17 => (simp only [List.getElem?_toArray, List.getElem?_cons_succ, List.getElem?_cons_zero]; rfl)
          case hQb17 => exact fun _ _ _ h => h
          case hyb17 => (refine Or.inl ⟨by rfl, ?_⟩; intro w hSw; (try dsimp only at hSw); go_simp; try with_reducible rfl)
          try simp only [Act.put, List.setIfInBounds_toArray, List.set_cons_zero, List.set_cons_succ]
          refine wpAnyH_take (i := 18) (oi := ?oib18) (v := ?vvb18) ?hib18 (by kernel_rfl) (by kernel_rfl) (by kernel_rfl) ?hQb18 ?hyb18 (by assumption) ?restb18
          case hib18 => (simp only [List.getElem?_toArray, List.getElem?_cons_succ, List.getElem?_cons_zero]; rfl)
          case hQb18 => exact fun _ _ _ h => h
          case hyb18 => (refine Or.inl ⟨by rfl, ?_⟩; intro w hSw; (try dsimp only at hSw); go_simp; try with_reducible rfl)
          try simp only [Act.put, List.setIfInBounds_toArray, List.set_cons_zero, List.set_cons_succ]
          refine wpAnyH_take (i := 19) (oi := ?oib19) (v := ?vvb19) ?hib19 (by kernel_rfl) (by kernel_rfl) (by kernel_rfl) ?hQb19 ?hyb19 (by assumption) ?restb19
          case hib19 => (simp only [List.getElem?_toArray, List.getElem?_cons_succ, List.getElem?_cons_zero]; rfl)
          case hQb19 => exact fun _ _ _ h => h
          case hyb19 => (refine Or.inl ⟨by rfl, ?_⟩; intro w hSw; (try dsimp only at hSw); go_simp; try with_reducible rfl)
          try simp only [Act.put, List.setIfInBounds_toArray, List.set_cons_zero, List.set_cons_succ]
          refine wpAnyH_take (i := 21) (oi := ?oib21) (v := ?vvb21) ?hib21 (by kernel_rfl) (by kernel_rfl) (by kernel_rfl) ?hQb21 ?hyb21 (by assumption) ?restb21
          case hib21 => (simp only [List.getElem?_toArray, List.getElem?_cons_succ, List.getElem?_cons_zero]; rfl)
          case hQb21 => exact fun _ _ _ h => h
          case hyb21 => (refine Or.inl ⟨by rfl, ?_⟩; intro w hSw; (try dsimp only at hSw); go_simp; try with_reducible rfl)
          try simp only [Act.put, List.setIfInBounds_toArray, List.set_cons_zero, List.set_cons_succ]
          refine wpAnyH_take (i := 22) (oi := ?oib22) (v := ?vvb22) ?hib22 (by kernel_rfl) (by kernel_rfl) (by kernel_rfl) ?hQb22 ?hyb22 (by assumption) ?restb22
          case hib22 => (simp only [List.getElem?_toArray, List.getElem?_cons_succ, List.getElem?_cons_zero]; rfl)
          case hQb22 => exact fun _ _ _ h => h
          case hyb22 => (refine Or.inl ⟨by rfl, ?_⟩; intro w hSw; (try dsimp only at hSw); go_simp; try with_reducible rfl)
          try simp only [Act.put, List.setIfInBounds_toArray, List.set_cons_zero, List.set_cons_succ]
          refine wpAnyH_take (i := 23) (oi := ?oib23) (v := ?vvb23) ?hib23 (by kernel_rfl) (by kernel_rfl) (by kernel_rfl) ?hQb23 ?hyb23 (by assumption) ?restb23
          case hib23 => (simp only [List.getElem?_toArray, List.getElem?_cons_succ, List.getElem?_cons_zero]; rfl)
          case hQb23 => exact fun _ _ _ h => h
          case hyb23 => (refine Or.inl ⟨by rfl, ?_⟩; intro w hSw; (try dsimp only at hSw); go_simp; try with_reducible rfl)
          try simp only [Act.put, List.setIfInBounds_toArray, List.set_cons_zero, List.set_cons_succ]
          refine wpAnyH_take (i := 24) (oi := ?oib24) (v := ?vvb24) ?hib24 (by kernel_rfl) (by kernel_rfl) (by kernel_rfl) ?hQb24 ?hyb24 (by assumption) ?restb24
          case hib24 => (simp only [List.getElem?_toArray, List.getElem?_cons_succ, List.getElem?_cons_zero]; rfl)
          case hQb24 => exact fun _ _ _ h => h
          case hyb24 => (refine Or.inl ⟨by rfl, ?_⟩; intro w hSw; (try dsimp only at hSw); go_simp; try with_reducible rfl)
          try simp only [Act.put, List.setIfInBounds_toArray, List.set_cons_zero, List.set_cons_succ]
          refine wpAnyH_take (i := 25) (oi := ?oib25) (v := ?vvb25) ?hib25 (by kernel_rfl) (by kernel_rfl) (by kernel_rfl) ?hQb25 ?hyb25 (by assumption) ?restb25
          case hib25 => (simp only [List.getElem?_toArray, List.getElem?_cons_succ, List.getElem?_cons_zero]; rfl)
          case hQb25 => exact fun _ _ _ h => h
          case hyb25 => (refine Or.inl ⟨by rfl, ?_⟩; intro w hSw; (try dsimp only at hSw); go_simp; try with_reducible rfl)
          try simp only [Act.put, List.setIfInBounds_toArray, List.set_cons_zero, List.set_cons_succ]
          refine wpAnyH_take (i := 26) (oi := ?oib26) (v := ?vvb26) ?hib26 (by kernel_rfl) (by kernel_rfl) (by kernel_rfl) ?hQb26 ?hyb26 (by assumption) ?restb26
          case hib26 => (simp only [List.getElem?_toArray, List.getElem?_cons_succ, List.getElem?_cons_zero]; rfl)
          case hQb26 => exact fun _ _ _ h => h
          case hyb26 => (refine Or.inl ⟨by rfl, ?_⟩; intro w hSw; (try dsimp only at hSw); go_simp; try with_reducible rfl)
          try simp only [Act.put, List.setIfInBounds_toArray, List.set_cons_zero, List.set_cons_succ]
          refine wpAnyH_take (i := 27) (oi := ?oib27) (v := ?vvb27) ?hib27 (by kernel_rfl) (by kernel_rfl) (by kernel_rfl) ?hQb27 ?hyb27 (by assumption) ?restb27
          case hib27 => (simp only [List.getElem?_toArray, List.getElem?_cons_succ, List.getElem?_cons_zero]; rfl)
          case hQb27 => exact fun _ _ _ h => h
          case hyb27 => (refine Or.inl ⟨by rfl, ?_⟩; intro w hSw; (try dsimp only at hSw); go_simp; try with_reducible rfl)
          try simp only [Act.put, List.setIfInBounds_toArray, List.set_cons_zero, List.set_cons_succ]
          refine wpAnyH_ready (rs := [20]) (by kernel_rfl) (by simp) ?_
          refine AllReadyH.cons (o := ?ob20) ?hob20 (fun K hK => ?stb20) AllReadyH.nil
          case hob20 => (simp only [List.getElem?_toArray, List.getElem?_cons_succ, List.getElem?_cons_zero]; rfl)
          go_simp
          refine (HCOL.out w5 HB5.out).mono ?_
          rintro x6 w6 ⟨rfl, rfl⟩
          go_simp
          refine hK.out _ _ k5 (fun hHeld => ?_)
          clear hK K
          try simp only [Act.put, List.setIfInBounds_toArray, List.set_cons_zero, List.set_cons_succ]
          refine wpAnyH_take (i := 28) (oi := ?oib28) (v := ?vvb28) ?hib28 (by kernel_rfl) (by kernel_rfl) (by kernel_rfl) ?hQb28 ?hyb28 (by assumption) ?restb28
          case hib28 => (simp only [List.getElem?_toArray, List.getElem?_cons_succ, List.getElem?_cons_zero]; rfl)
          case hQb28 => exact fun _ _ _ h => h
          case hyb28 => (refine Or.inl ⟨by rfl, ?_⟩; intro w hSw; (try dsimp only at hSw); go_simp; try with_reducible rfl)
          try simp only [Act.put, List.setIfInBounds_toArray, List.set_cons_zero, List.set_cons_succ]
          refine wpAnyH_take (i := 29) (oi := ?oib29) (v := ?vvb29) ?hib29 (by kernel_rfl) (by kernel_rfl) (by kernel_rfl) ?hQb29 ?hyb29 (by assumption) ?restb29
          case hib29 => (simp only [List.getElem?_toArray, List.getElem?_cons_succ, List.getElem?_cons_zero]; rfl)
          case hQb29 => exact fun _ _ _ h => h
          case hyb29 => (refine Or.inl ⟨by rfl, ?_⟩; intro w hSw; (try dsimp only at hSw); go_simp; try with_reducible rfl)
          try simp only [Act.put, List.setIfInBounds_toArray, List.set_cons_zero, List.set_cons_succ]
          refine wpAnyH_done (by kernel_rfl) ?_ _
          refine NoPanic.normal ?_
          go_wp2_with fail
          go_roundw
          case rel =>
            refine ⟨i + 1, by omega, by go_num, ?_, HBW.out.trans (HB5.out.mono HBW.out.size)⟩
            rw [HY.out]
            exact ownsRow_of_block HOWN.out fun k hk => HB5.out.block k (HOWN.out.lt k hk).2
          case measure => simp [intOf]; omega
      · have e0 : decide (0 < o.fin) = false := decide_eq_false hf
        have HY := Lib.hid (show (ord.take (i + 1)).filter (sepP e.c) = l by rw [HTS.out, HSP.out, decide_eq_false (fun h => hf h.1)]; simp)
        clear hf
        go_wp2_with fail
        refine wp_region_noPanic ?_
        refine wp_region_held_drew (S := (fun w' => w'.cell? ⟨be, 0, none⟩ = some (.pointer (some ⟨E.ep, 0, none⟩)) ∧ w'.cell? ⟨E.ep, 0, none⟩ = some (.pointer (some ⟨E.K.cp, 0, none⟩)) ∧ w'.cell? ⟨E.K.cp, 0, none⟩ = some (memI E.K.L.p) ∧ w'.cell? ⟨E.K.cp, 3, none⟩ = some (.int .i64 e.c.white))) (by kernel_rfl) ?_ (fun hHeld => ?_)
        · exact hS5
        refine wpAnyH_take (i := 0) (oi := ?oic0) (v := ?vvc0) ?hic0 (by kernel_rfl) (by kernel_rfl) (by kernel_rfl) ?hQc0 ?hyc0 (by assumption) ?restc0
        case hic0 => (simp only [List.getElem?_toArray, List.getElem?_cons_succ, List.getElem?_cons_zero]; rfl)
        case hQc0 => exact fun _ _ _ h => h
        case hyc0 => (refine Or.inl ⟨by rfl, ?_⟩; intro w hSw; (try dsimp only at hSw); go_simp; try with_reducible rfl)
        try simp only [Act.put, List.setIfInBounds_toArray, List.set_cons_zero, List.set_cons_succ]
        refine wpAnyH_take (i := 1) (oi := ?oic1) (v := ?vvc1) ?hic1 (by kernel_rfl) (by kernel_rfl) (by kernel_rfl) ?hQc1 ?hyc1 (by assumption) ?restc1
        case hic1 => (simp only [List.getElem?_toArray, List.getElem?_cons_succ, List.getElem?_cons_zero]; rfl)
        case hQc1 => exact fun _ _ _ h => h
        case hyc1 => (refine Or.inl ⟨by rfl, ?_⟩; intro w hSw; (try dsimp only at hSw); go_simp; try with_reducible rfl)
        try simp only [Act.put, List.setIfInBounds_toArray, List.set_cons_zero, List.set_cons_succ]
        refine wpAnyH_take (i := 2) (oi := ?oic2) (v := ?vvc2) ?hic2 (by kernel_rfl) (by kernel_rfl) (by kernel_rfl) ?hQc2 ?hyc2 (by assumption) ?restc2
        case hic2 => (simp only [List.getElem?_toArray, List.getElem?_cons_succ, List.getElem?_cons_zero]; rfl)
        case hQc2 => exact fun _ _ _ h => h
        case hyc2 => (refine Or.inl ⟨by rfl, ?_⟩; intro w hSw; (try dsimp only at hSw); go_simp; try with_reducible rfl)
        try simp only [Act.put, List.setIfInBounds_toArray, List.set_cons_zero, List.set_cons_succ]
        refine wpAnyH_take (i := 3) (oi := ?oic3) (v := ?vvc3) ?hic3 (by kernel_rfl) (by kernel_rfl) (by kernel_rfl) ?hQc3 ?hyc3 (by assumption) ?restc3
        case hic3 => (simp only [List.getElem?_toArray, List.getElem?_cons_succ, List.getElem?_cons_zero]; rfl)
        case hQc3 => exact fun _ _ _ h => h
        case hyc3 => (refine Or.inl ⟨by rfl, ?_⟩; intro w hSw; (try dsimp only at hSw); go_simp; try with_reducible rfl)
        try simp only [Act.put, List.setIfInBounds_toArray, List.set_cons_zero, List.set_cons_succ]
        refine wpAnyH_take (i := 4) (oi := ?oic4) (v := ?vvc4) ?hic4 (by kernel_rfl) (by kernel_rfl) (by kernel_rfl) ?hQc4 ?hyc4 (by assumption) ?restc4
        case hic4 => (simp only [List.getElem?_toArray, List.getElem?_cons_succ, List.getElem?_cons_zero]; rfl)
        case hQc4 => exact fun _ _ _ h => h
        case hyc4 => (refine Or.inl ⟨by rfl, ?_⟩; intro w hSw; (try dsimp only at hSw); go_simp; try with_reducible rfl)
        try simp only [Act.put, List.setIfInBounds_toArray, List.set_cons_zero, List.set_cons_succ]
        refine wpAnyH_take (i := 5) (oi := ?oic5) (v := ?vvc5) ?hic5 (by kernel_rfl) (by kernel_rfl) (by kernel_rfl) ?hQc5 ?hyc5 (by assumption) ?restc5
        case hic5 => (simp only [List.getElem?_toArray, List.getElem?_cons_succ, List.getElem?_cons_zero]; rfl)
        case hQc5 => exact fun _ _ _ h => h
        case hyc5 => (refine Or.inl ⟨by rfl, ?_⟩; intro w hSw; (try dsimp only at hSw); go_simp; try with_reducible rfl)
        try simp only [Act.put, List.setIfInBounds_toArray, List.set_cons_zero, List.set_cons_succ]
        refine wpAnyH_take (i := 6) (oi := ?oic6) (v := ?vvc6) ?hic6 (by kernel_rfl) (by kernel_rfl) (by kernel_rfl) ?hQc6 ?hyc6 (by assumption) ?restc6
        case hic6 => (simp only [List.getElem?_toArray, List.getElem?_cons_succ, List.getElem?_cons_zero]; rfl)
        case hQc6 => exact fun _ _ _ h => h
        case hyc6 => (refine Or.inl ⟨by rfl, ?_⟩; intro w hSw; (try dsimp only at hSw); go_simp; try with_reducible rfl)
        try simp only [Act.put, List.setIfInBounds_toArray, List.set_cons_zero, List.set_cons_succ]
        refine wpAnyH_take (i := 7) (oi := ?oic7) (v := ?vvc7) ?hic7 (by kernel_rfl) (by kernel_rfl) (by kernel_rfl) ?hQc7 ?hyc7 (by assumption) ?restc7
        case hic7 => (simp only [List.getElem?_toArray, List.getElem?_cons_succ, List.getElem?_cons_zero]; rfl)
        case hQc7 => exact fun _ _ _ h => h
        case hyc7 => (refine Or.inl ⟨by rfl, ?_⟩; intro w hSw; (try dsimp only at hSw); go_simp; try with_reducible rfl)
        try simp only [Act.put, List.setIfInBounds_toArray, List.set_cons_zero, List.set_cons_succ]
        refine wpAnyH_ready (rs := [8]) (by kernel_rfl) (by simp) ?_
        refine AllReadyH.cons (o := ?oc8) ?hoc8 (fun K hK => ?stc8) AllReadyH.nil
        case hoc8 => (simp only [List.getElem?_toArray, List.getElem?_cons_succ, List.getElem?_cons_zero]; rfl)
        go_simp
        refine HTH.out.mono ?_
        rintro x5 w5 ⟨sv5, rfl, hv5, hb5⟩
        unfold thingV
        have k5 := HSB.out w5 ((drew_below _).trans (hb5.mono (Nat.le_refl _)))
        have HB5 := Lib.hid ((drew_below _).trans (hb5.mono (Nat.le_refl _)))
        clear hv5 hb5
        go_simp
        refine hK.out _ _ k5 (fun hHeld => ?_)
        clear hK K
        try simp only [Act.put, List.setIfInBounds_toArray, List.set_cons_zero, List.set_cons_succ]
        refine wpAnyH_take (i := 9) (oi := ?oic9) (v := ?vvc9) ?hic9 (by kernel_rfl) (by kernel_rfl) (by kernel_rfl) ?hQc9 ?hyc9 (by assumption) ?restc9
        case hic9 => (simp only [List.getElem?_toArray, List.getElem?_cons_succ, List.getElem?_cons_zero]; rfl)
        case hQc9 => exact fun _ _ _ h => h
        case hyc9 => (refine Or.inl ⟨by rfl, ?_⟩; intro w hSw; (try dsimp only at hSw); go_simp; try with_reducible rfl)
        try simp only [Act.put, List.setIfInBounds_toArray, List.set_cons_zero, List.set_cons_succ]
        refine wpAnyH_take (i := 10) (oi := ?oic10) (v := ?vvc10) ?hic10 (by kernel_rfl) (by kernel_rfl) (by kernel_rfl) ?hQc10 ?hyc10 (by assumption) ?restc10
        case hic10 => (simp only [List.getElem?_toArray, List.getElem?_cons_succ, List.getElem?_cons_zero]; rfl)
        case hQc10 => exact fun _ _ _ h => h
        case hyc10 => (refine Or.inl ⟨by rfl, ?_⟩; intro w hSw; (try dsimp only at hSw); go_simp; try with_reducible rfl)
        try simp only [Act.put, List.setIfInBounds_toArray, List.set_cons_zero, List.set_cons_succ]
        refine wpAnyH_take (i := 11) (oi := ?oic11) (v := ?vvc11) ?hic11 (by kernel_rfl) (by kernel_rfl) (by kernel_rfl) ?hQc11 ?hyc11 (by assumption) ?restc11
        case hic11 => (simp only [List.getElem?_toArray, List.getElem?_cons_succ, List.getElem?_cons_zero]; rfl)
        case hQc11 => exact fun _ _ _ h => h
        case hyc11 => (refine Or.inl ⟨by rfl, ?_⟩; intro w hSw; (try dsimp only at hSw); go_simp; try with_reducible rfl)
        try simp only [Act.put, List.setIfInBounds_toArray, List.set_cons_zero, List.set_cons_succ]
        refine wpAnyH_take (i := 12) (oi := ?oic12) (v := undef) ?hic12 (by kernel_rfl) (by kernel_rfl) (by kernel_rfl) ?hQc12 ?hyc12 (by assumption) ?restc12
        case hic12 => (simp only [List.getElem?_toArray, List.getElem?_cons_succ, List.getElem?_cons_zero]; rfl)
        case hQc12 => exact fun _ _ _ h => h
        case hyc12 => exact Or.inr ⟨by rfl, rfl⟩
        try simp only [Act.put, List.setIfInBounds_toArray, List.set_cons_zero, List.set_cons_succ]
        refine wpAnyH_take (i := 13) (oi := ?oic13) (v := undef) ?hic13 (by kernel_rfl) (by kernel_rfl) (by kernel_rfl) ?hQc13 ?hyc13 (by assumption) ?restc13
        case hic13 => (simp only [List.getElem?_toArray, List.getElem?_cons_succ, List.getElem?_cons_zero]; rfl)
        case hQc13 => exact fun _ _ _ h => h
        case hyc13 => exact Or.inr ⟨by rfl, rfl⟩
        try simp only [Act.put, List.setIfInBounds_toArray, List.set_cons_zero, List.set_cons_succ]
        refine wpAnyH_take (i := 14) (oi := ?oic14) (v := undef) ?hic14 (by kernel_rfl) (by kernel_rfl) (by kernel_rfl) ?hQc14 ?hyc14 (by assumption) ?restc14
        case hic14 => (simp only [List.getElem?_toArray, List.getElem?_cons_succ, List.getElem?_cons_zero]; rfl)
        case hQc14 => exact fun _ _ _ h => h
        case hyc14 => exact Or.inr ⟨by rfl, rfl⟩
        try simp only [Act.put, List.setIfInBounds_toArray, List.set_cons_zero, List.set_cons_succ]
        refine wpAnyH_take (i := 15) (oi := ?oic15) (v := undef) ?hic15 (by kernel_rfl) (by kernel_rfl) (by kernel_rfl) ?hQc15 ?hyc15 (by assumption) ?restc15
        case hic15 => (simp only [List.getElem?_toArray, List.getElem?_cons_succ, List.getElem?_cons_zero]; rfl)
        case hQc15 => exact fun _ _ _ h => h
        case hyc15 => exact Or.inr ⟨by rfl, rfl⟩
        try simp only [Act.put, List.setIfInBounds_toArray, List.set_cons_zero, List.set_cons_succ]
        refine wpAnyH_take (i := 16) (oi := ?oic16) (v := undef) ?hic16 (by kernel_rfl) (by kernel_rfl) (by kernel_rfl) ?hQc16 ?hyc16 (by assumption) ?restc16
        case hic16 => (simp only [List.getElem?_toArray, List.getElem?_cons_succ, List.getElem?_cons_zero]; rfl)
        case hQc16 => exact fun _ _ _ h => h
        case hyc16 => exact Or.inr ⟨by rfl, rfl⟩
        try simp only [Act.put, List.setIfInBounds_toArray, List.set_cons_zero, List.set_cons_succ]
        refine wpAnyH_take (i := 17) (oi := ?oic17) (v := undef) ?hic17 (by kernel_rfl) (by kernel_rfl) (by kernel_rfl) ?hQc17 ?hyc17 (by assumption) ?restc17
        case hic17 => (simp only [List.getElem?_toArray, List.getElem?_cons_succ, List.getElem?_cons_zero]; rfl)
        case hQc17 => exact fun _ _ _ h => h
        case hyc17 => exact Or.inr ⟨by rfl, rfl⟩
        try simp only [Act.put, List.setIfInBounds_toArray, List.set_cons_zero, List.set_cons_succ]
        refine wpAnyH_take (i := 18) (oi := ?oic18) (v := undef) ?hic18 (by kernel_rfl) (by kernel_rfl) (by kernel_rfl) ?hQc18 ?hyc18 (by assumption) ?restc18
        case hic18 => (simp only [List.getElem?_toArray, List.getElem?_cons_succ, List.getElem?_cons_zero]; rfl)
        case hQc18 => exact fun _ _ _ h => h
        case hyc18 => exact Or.inr ⟨by rfl, rfl⟩
        try simp only [Act.put, List.setIfInBounds_toArray, List.set_cons_zero, List.set_cons_succ]
        refine wpAnyH_take (i := 19) (oi := ?oic19) (v := undef) ?hic19 (by kernel_rfl) (by kernel_rfl) (by kernel_rfl) ?hQc19 ?hyc19 (by assumption) ?restc19
        case hic19 => (simp only [List.getElem?_toArray, List.getElem?_cons_succ, List.getElem?_cons_zero]; rfl)
        case hQc19 => exact fun _ _ _ h => h
        case hyc19 => exact Or.inr ⟨by rfl, rfl⟩
        try simp only [Act.put, List.setIfInBounds_toArray, List.set_cons_zero, List.set_cons_succ]
        refine wpAnyH_take (i := 20) (oi := ?oic20) (v := undef) ?hic20 (by kernel_rfl) (by kernel_rfl) (by kernel_rfl) ?hQc20 ?hyc20 (by assumption) ?restc20
        case hic20 => (simp only [List.getElem?_toArray, List.getElem?_cons_succ, List.getElem?_cons_zero]; rfl)
        case hQc20 => exact fun _ _ _ h => h
        case hyc20 => exact Or.inr ⟨by rfl, rfl⟩
        try simp only [Act.put, List.setIfInBounds_toArray, List.set_cons_zero, List.set_cons_succ]
        refine wpAnyH_take (i := 21) (oi := ?oic21) (v := undef) ?hic21 (by kernel_rfl) (by kernel_rfl) (by kernel_rfl) ?hQc21 ?hyc21 (by assumption) ?restc21
        case hic21 => (simp only [List.getElem?_toArray, List.getElem?_cons_succ, List.getElem?_cons_zero]; rfl)
        case hQc21 => exact fun _ _ _ h => h
        case hyc21 => exact Or.inr ⟨by rfl, rfl⟩
        try simp only [Act.put, List.setIfInBounds_toArray, List.set_cons_zero, List.set_cons_succ]
        refine wpAnyH_take (i := 22) (oi := ?oic22) (v := undef) ?hic22 (by kernel_rfl) (by kernel_rfl) (by kernel_rfl) ?hQc22 ?hyc22 (by assumption) ?restc22
        case hic22 => (simp only [List.getElem?_toArray, List.getElem?_cons_succ, List.getElem?_cons_zero]; rfl)
        case hQc22 => exact fun _ _ _ h => h
        case hyc22 => exact Or.inr ⟨by rfl, rfl⟩
        try simp only [Act.put, List.setIfInBounds_toArray, List.set_cons_zero, List.set_cons_succ]
        refine wpAnyH_take (i := 23) (oi := ?oic23) (v := undef) ?hic23 (by kernel_rfl) (by kernel_rfl) (by kernel_rfl) ?hQc23 ?hyc23 (by assumption) ?restc23
        case hic23 => (simp only [List.getElem?_toArray, List.getElem?_cons_succ, List.getElem?_cons_zero]; rfl)
        case hQc23 => exact fun _ _ _ h => h
        case hyc23 => exact Or.inr ⟨by rfl, rfl⟩
        try simp only [Act.put, List.setIfInBounds_toArray, List.set_cons_zero, List.set_cons_succ]
        refine wpAnyH_take (i := 24) (oi := ?oic24) (v := undef) ?hic24 (by kernel_rfl) (by kernel_rfl) (by kernel_rfl) ?hQc24 ?hyc24 (by assumption) ?restc24
        case hic24 => (simp only [List.getElem?_toArray, List.getElem?_cons_succ, List.getElem?_cons_zero]; rfl)
        case hQc24 => exact fun _ _ _ h => h
        case hyc24 => exact Or.inr ⟨by rfl, rfl⟩
        try simp only [Act.put, List.setIfInBounds_toArray, List.set_cons_zero, List.set_cons_succ]
        refine wpAnyH_take (i := 25) (oi := ?oic25) (v := undef) ?hic25 (by kernel_rfl) (by kernel_rfl) (by kernel_rfl) ?hQc25 ?hyc25 (by assumption) ?restc25
        case hic25 => (simp only [List.getElem?_toArray, List.getElem?_cons_succ, List.getElem?_cons_zero]; rfl)
        case hQc25 => exact fun _ _ _ h => h
        case hyc25 => exact Or.inr ⟨by rfl, rfl⟩
        try simp only [Act.put, List.setIfInBounds_toArray, List.set_cons_zero, List.set_cons_succ]
        refine wpAnyH_take (i := 26) (oi := ?oic26) (v := undef) ?hic26 (by kernel_rfl) (by kernel_rfl) (by kernel_rfl) ?hQc26 ?hyc26 (by assumption) ?restc26
        case hic26 => (simp only [List.getElem?_toArray, List.getElem?_cons_succ, List.getElem?_cons_zero]; rfl)
        case hQc26 => exact fun _ _ _ h => h
        case hyc26 => exact Or.inr ⟨by rfl, rfl⟩
        try simp only [Act.put, List.setIfInBounds_toArray, List.set_cons_zero, List.set_cons_succ]
        refine wpAnyH_take (i := 27) (oi := ?oic27) (v := undef) ?hic27 (by kernel_rfl) (by kernel_rfl) (by kernel_rfl) ?hQc27 ?hyc27 (by assumption) ?restc27
        case hic27 => (simp only [List.getElem?_toArray, List.getElem?_cons_succ, List.getElem?_cons_zero]; rfl)
        case hQc27 => exact fun _ _ _ h => h
        case hyc27 => exact Or.inr ⟨by rfl, rfl⟩
        try simp only [Act.put, List.setIfInBounds_toArray, List.set_cons_zero, List.set_cons_succ]
        refine wpAnyH_take (i := 28) (oi := ?oic28) (v := undef) ?hic28 (by kernel_rfl) (by kernel_rfl) (by kernel_rfl) ?hQc28 ?hyc28 (by assumption) ?restc28
        case hic28 => (simp only [List.getElem?_toArray, List.getElem?_cons_succ, List.getElem?_cons_zero]; rfl)
        case hQc28 => exact fun _ _ _ h => h
        case hyc28 => exact Or.inr ⟨by rfl, rfl⟩
        try simp only [Act.put, List.setIfInBounds_toArray, List.set_cons_zero, List.set_cons_succ]
        refine wpAnyH_take (i := 29) (oi := ?oic29) (v := ?vvc29) ?hic29 (by kernel_rfl) (by kernel_rfl) (by kernel_rfl) ?hQc29 ?hyc29 (by assumption) ?restc29
        case hic29 => (simp only [List.getElem?_toArray, List.getElem?_cons_succ, List.getElem?_cons_zero]; rfl)
        case hQc29 => exact fun _ _ _ h => h
        case hyc29 => (refine Or.inl ⟨by rfl, ?_⟩; intro w hSw; (try dsimp only at hSw); go_simp; try with_reducible rfl)
        try simp only [Act.put, List.setIfInBounds_toArray, List.set_cons_zero, List.set_cons_succ]
        refine wpAnyH_done (by kernel_rfl) ?_ _
        refine NoPanic.normal ?_
        go_wp2_with fail
        go_roundw
        case rel =>
          refine ⟨i + 1, by omega, by go_num, ?_, HBW.out.trans (HB5.out.mono HBW.out.size)⟩
          rw [HY.out]
          exact ownsRow_of_block HOWN.out fun k hk => HB5.out.block k (HOWN.out.lt k hk).2
        case measure => simp [intOf]; omega
    · obtain rfl : i = ord.length := by omega
      have hlF : l = e.c.m.order.filter (sepP e.c) := by rw [hl, List.take_length, HORD.out]
      have hown1 : ∀ k, (Value.slice la l.length lc).ownBlock = some k → w1.heap.size ≤ k ∧ ¬ E.own k := fun k hk => ⟨(hown.lt k hk).1, fun x => by have := HH1.out.own_lt x; have := (hown.lt k hk).1; omega⟩
      have hbeL : be < w1.heap.size := HSB1.out.b.lt
      have hepL : E.ep < w1.heap.size := HH1.out.box.lt
      have HSO := Lib.hid (sort_any (be := be) (ep := E.ep) (cp := E.K.cp) r0 r1 r2 hEr.at_.mem HB.out.sz hown (fun x hx => by
          rw [hlF] at hx
          have := order_mem (List.mem_filter.1 hx).1
          have := HB.out.sz.n
          omega) (by omega) (fun k hk => ⟨fun x => by have := (hown1 k hk).1; omega, fun x => by have := (hown1 k hk).1; omega, fun x => (hown1 k hk).2 (.inr (.inl (.inl x))), fun x => (hown1 k hk).2 (.inr (.inl (.inr (.inl x))))⟩))
      have HWR := Lib.hid hBW
      have HER := Lib.hid hEr
      have HSBR := Lib.hid hsb
      have HOW1 := Lib.hid hown1
      have HSL := Lib.hid (show l.mergeSort (sepLe e.c.m) = sepL e.c by rw [hlF]; rfl)
      have HLL := Lib.hid hll
      have HBEL := Lib.hid hbeL
      have HEPL := Lib.hid hepL
      clear hl hlF hown1 hbeL hepL hown hBW hsb hEr r0 r1 r2 r3 hll
      go_wp2_with fail
      refine HSO.out.mono ?_
      rintro x7 w7 ⟨rfl, hsrt, hk7⟩
      rw [HSL.out] at hsrt
      have hsl : (sepL e.c).length = l.length := by rw [← HSL.out, List.length_mergeSort]
      rw [hsl] at hsrt
      have h7 := HER.out.of_blocks' hk7.size fun k hk => hk7.block k (HER.out.own_lt hk) fun x => (HOW1.out k x).2 hk
      have hsb7 : SB w7 E be := HSBR.out.keepB hk7 (fun x => by have := (HOW1.out _ x).1; have := HBEL.out; omega) (fun x => by have := (HOW1.out _ x).1; have := HEPL.out; omega)
      obtain ⟨r0, r1⟩ := hsb7.cells
      have HSRT := Lib.hid hsrt
      have HSLL := Lib.hid hsl
      have HSB7 := Lib.hid hsb7
      have HH7 := Lib.hid h7
      have HK7 := Lib.hid hk7
      have c6 := h7.at_.cells.2.2.2.2.2.2.1
      have hpq : QAt w7 (E.K.q 2) e.c.pending := h7.at_.q 2 (by omega)
      obtain ⟨pa, pc, hpv⟩ := hpq.slice
      rw [hpv] at c6
      have HPV := Lib.hid hpv
      have HPQ := Lib.hid hpq
      obtain ⟨sl, hsl2⟩ : ∃ sl, sl = sepL e.c := ⟨_, rfl⟩
      rw [← hsl2] at HSRT
      have hslen : sl.length ≤ 100000 := by have := HSLL.out; rw [← hsl2] at this; rw [this]; exact HLL.out
      have HSL2 := Lib.hid hsl2
      obtain ⟨lv, hlv⟩ : ∃ lv, lv = Value.slice la l.length lc := ⟨_, rfl⟩
      rw [← hlv] at HSRT HOW1
      have HLV := Lib.hid hlv
      have hle : sl.length = l.length := by have := HSLL.out; rw [← hsl2] at this; exact this
      have HLE := Lib.hid hle
      have HLR := Lib.hid (show Rd w7.drew (.slice la l.length lc) sl.length (intL sl) from by
        rw [hle]
        have := rd_row (ownsRow_of_block HSRT.out fun k hk => (drew_below w7).block k (HSRT.out.lt k hk).2)
        rw [hlv] at this
        exact this)
      have HLBD := Lib.hid (show e.c.pending.length + sl.length ≤ 100000000 from by have := HP9.out; omega)
      have HAP := Lib.hid (show ∀ v3 w3, QAt w3 v3 (e.c.pending ++ sl) → w7.drew.grownBy w3 (E.K.q 2).ownBlock → (v3.ownBlock = (E.K.q 2).ownBlock ∨ v3.ownBlock = some w7.drew.heap.size) →
          (w3.cell? ⟨be, 0, none⟩ = some (.pointer (some ⟨E.ep, 0, none⟩)) ∧ w3.cell? ⟨E.ep, 0, none⟩ = some (.pointer (some ⟨E.K.cp, 0, none⟩))) ∧ (∃ u, w3.cell? ⟨E.K.cp, 6, none⟩ = some u) ∧ w3.frozen? ⟨E.K.cp, 6, none⟩ = false ∧ CTo (fun j => j = 2) w7 E.K (w3.setCell ⟨E.K.cp, 6, none⟩ v3) (e.c.setQ 2 (e.c.pending ++ sl)) from by
        intro v3 w3 hq3 hg3 hb3
        have hk3 : Keep (fun k => (E.K.q 2).ownBlock = some k) w7 w3 := (Keep.of_below (drew_below w7)).grown hg3 (fun k e _ => e)
        have hb4 : Box w3 E.K.cp (boxC E.K e.c) 126 := HH7.out.at_.box.of_block (hk3.block _ HH7.out.at_.box.lt fun e => HH7.out.at_.cp_ne (by omega) e rfl)
        have hsb3 := HSB7.out.keep (hk3.mono fun k _ x => .inr (.inr ⟨2, by omega, x⟩))
        refine ⟨hsb3.cells, ⟨_, hb4.cell 6⟩, hb4.free 6, HH7.out.at_.turnQ 2 (by omega) hq3 hk3 fun k hk => ?_⟩
        rcases hb3 with y | y
        · exact .inl (y ▸ hk)
        · rw [y] at hk; cases hk; exact .inr (Nat.le_refl _))
      have HK8 := Lib.hid (show ∀ (w3 : World) (v3 : Value), (w3.cell? ⟨be, 0, none⟩ = some (.pointer (some ⟨E.ep, 0, none⟩)) ∧ w3.cell? ⟨E.ep, 0, none⟩ = some (.pointer (some ⟨E.K.cp, 0, none⟩))) → ((w3.setCell ⟨E.K.cp, 6, none⟩ v3).cell? ⟨be, 0, none⟩ = some (.pointer (some ⟨E.ep, 0, none⟩)) ∧ (w3.setCell ⟨E.K.cp, 6, none⟩ v3).cell? ⟨E.ep, 0, none⟩ = some (.pointer (some ⟨E.K.cp, 0, none⟩))) from by
        intro w3 v3 hk
        refine ⟨(World.cell?_setCell_far _ _ _ _ (fun x => HSB7.out.nb (.inl x.symm))).trans hk.1, (World.cell?_setCell_far _ _ _ _ (fun x => HSB7.out.ne (.inl x.symm))).trans hk.2⟩)
      clear hsrt hsl hsb7 h7 hk7 hpv hpq hsl2 hlv hle
      go_wp2_with fail
      refine wp_region_noPanic ?_
      refine wp_region_held_drew (S := (fun w' => w'.cell? ⟨be, 0, none⟩ = some (.pointer (some ⟨E.ep, 0, none⟩)) ∧ w'.cell? ⟨E.ep, 0, none⟩ = some (.pointer (some ⟨E.K.cp, 0, none⟩)))) (by kernel_rfl) ?_ (fun hHeld => ?_)
      · exact ⟨r0, r1⟩
      refine wpAnyH_take (i := 0) (oi := ?oid0) (v := ?vvd0) ?hid0 (by kernel_rfl) (by kernel_rfl) (by kernel_rfl) ?hQd0 ?hyd0 (by assumption) ?restd0
      case hid0 => (simp only [List.getElem?_toArray, List.getElem?_cons_succ, List.getElem?_cons_zero]; rfl)
      case hQd0 => exact fun _ _ _ h => h
      case hyd0 => (refine Or.inl ⟨by rfl, ?_⟩; intro w hSw; (try dsimp only at hSw); go_simp; try with_reducible rfl)
      try simp only [Act.put, List.setIfInBounds_toArray, List.set_cons_zero, List.set_cons_succ]
      refine wpAnyH_take (i := 1) (oi := ?oid1) (v := ?vvd1) ?hid1 (by kernel_rfl) (by kernel_rfl) (by kernel_rfl) ?hQd1 ?hyd1 (by assumption) ?restd1
      case hid1 => (simp only [List.getElem?_toArray, List.getElem?_cons_succ, List.getElem?_cons_zero]; rfl)
      case hQd1 => exact fun _ _ _ h => h
      case hyd1 => (refine Or.inl ⟨by rfl, ?_⟩; intro w hSw; (try dsimp only at hSw); go_simp; try with_reducible rfl)
      try simp only [Act.put, List.setIfInBounds_toArray, List.set_cons_zero, List.set_cons_succ]
      refine wpAnyH_take (i := 2) (oi := ?oid2) (v := ?vvd2) ?hid2 (by kernel_rfl) (by kernel_rfl) (by kernel_rfl) ?hQd2 ?hyd2 (by assumption) ?restd2
      case hid2 => (simp only [List.getElem?_toArray, List.getElem?_cons_succ, List.getElem?_cons_zero]; rfl)
      case hQd2 => exact fun _ _ _ h => h
      case hyd2 => (refine Or.inl ⟨by rfl, ?_⟩; intro w hSw; (try dsimp only at hSw); go_simp; try with_reducible rfl)
      try simp only [Act.put, List.setIfInBounds_toArray, List.set_cons_zero, List.set_cons_succ]
      refine wpAnyH_take (i := 3) (oi := ?oid3) (v := ?vvd3) ?hid3 (by kernel_rfl) (by kernel_rfl) (by kernel_rfl) ?hQd3 ?hyd3 (by assumption) ?restd3
      case hid3 => (simp only [List.getElem?_toArray, List.getElem?_cons_succ, List.getElem?_cons_zero]; rfl)
      case hQd3 => exact fun _ _ _ h => h
      case hyd3 => (refine Or.inl ⟨by rfl, ?_⟩; intro w hSw; (try dsimp only at hSw); go_simp; try with_reducible rfl)
      try simp only [Act.put, List.setIfInBounds_toArray, List.set_cons_zero, List.set_cons_succ]
      refine wpAnyH_take (i := 4) (oi := ?oid4) (v := ?vvd4) ?hid4 (by kernel_rfl) (by kernel_rfl) (by kernel_rfl) ?hQd4 ?hyd4 (by assumption) ?restd4
      case hid4 => (simp only [List.getElem?_toArray, List.getElem?_cons_succ, List.getElem?_cons_zero]; rfl)
      case hQd4 => exact fun _ _ _ h => h
      case hyd4 => (refine Or.inl ⟨by rfl, ?_⟩; intro w hSw; (try dsimp only at hSw); go_simp; try with_reducible rfl)
      try simp only [Act.put, List.setIfInBounds_toArray, List.set_cons_zero, List.set_cons_succ]
      refine wpAnyH_take (i := 5) (oi := ?oid5) (v := ?vvd5) ?hid5 (by kernel_rfl) (by kernel_rfl) (by kernel_rfl) ?hQd5 ?hyd5 (by assumption) ?restd5
      case hid5 => (simp only [List.getElem?_toArray, List.getElem?_cons_succ, List.getElem?_cons_zero]; rfl)
      case hQd5 => exact fun _ _ _ h => h
      case hyd5 => (refine Or.inl ⟨by rfl, ?_⟩; intro w hSw; (try dsimp only at hSw); go_simp; try with_reducible rfl)
      try simp only [Act.put, List.setIfInBounds_toArray, List.set_cons_zero, List.set_cons_succ]
      refine wpAnyH_take (i := 6) (oi := ?oid6) (v := ?vvd6) ?hid6 (by kernel_rfl) (by kernel_rfl) (by kernel_rfl) ?hQd6 ?hyd6 (by assumption) ?restd6
      case hid6 => (simp only [List.getElem?_toArray, List.getElem?_cons_succ, List.getElem?_cons_zero]; rfl)
      case hQd6 => exact fun _ _ _ h => h
      case hyd6 => (refine Or.inl ⟨by rfl, ?_⟩; intro w hSw; (try dsimp only at hSw); go_simp; try with_reducible rfl)
      try simp only [Act.put, List.setIfInBounds_toArray, List.set_cons_zero, List.set_cons_succ]
      refine wpAnyH_take (i := 7) (oi := ?oid7) (v := ?vvd7) ?hid7 (by kernel_rfl) (by kernel_rfl) (by kernel_rfl) ?hQd7 ?hyd7 (by assumption) ?restd7
      case hid7 => (simp only [List.getElem?_toArray, List.getElem?_cons_succ, List.getElem?_cons_zero]; rfl)
      case hQd7 => exact fun _ _ _ h => h
      case hyd7 => (refine Or.inl ⟨by rfl, ?_⟩; intro w hSw; (try dsimp only at hSw); go_simp; try with_reducible rfl)
      try simp only [Act.put, List.setIfInBounds_toArray, List.set_cons_zero, List.set_cons_succ]
      refine wpAnyH_take (i := 8) (oi := ?oid8) (v := ?vvd8) ?hid8 (by kernel_rfl) (by kernel_rfl) (by kernel_rfl) ?hQd8 ?hyd8 (by assumption) ?restd8
      case hid8 => (simp only [List.getElem?_toArray, List.getElem?_cons_succ, List.getElem?_cons_zero]; rfl)
      case hQd8 => exact fun _ _ _ h => h
      case hyd8 => (refine Or.inl ⟨by rfl, ?_⟩; intro w hSw; (try dsimp only at hSw); go_simp; try with_reducible rfl)
      try simp only [Act.put, List.setIfInBounds_toArray, List.set_cons_zero, List.set_cons_succ]
      refine wpAnyH_take (i := 9) (oi := ?oid9) (v := ?vvd9) ?hid9 (by kernel_rfl) (by kernel_rfl) (by kernel_rfl) ?hQd9 ?hyd9 (by assumption) ?restd9
      case hid9 => (simp only [List.getElem?_toArray, List.getElem?_cons_succ, List.getElem?_cons_zero]; rfl)
      case hQd9 => exact fun _ _ _ h => h
      case hyd9 => (refine Or.inl ⟨by rfl, ?_⟩; intro w hSw; (try dsimp only at hSw); go_simp; try with_reducible rfl)
      try simp only [Act.put, List.setIfInBounds_toArray, List.set_cons_zero, List.set_cons_succ]
      refine wpAnyH_take (i := 11) (oi := ?oid11) (v := ?vvd11) ?hid11 (by kernel_rfl) (by kernel_rfl) (by kernel_rfl) ?hQd11 ?hyd11 (by assumption) ?restd11
      case hid11 => (simp only [List.getElem?_toArray, List.getElem?_cons_succ, List.getElem?_cons_zero]; rfl)
      case hQd11 => exact fun _ _ _ h => h
      case hyd11 => (refine Or.inl ⟨by rfl, ?_⟩; intro w hSw; (try dsimp only at hSw); go_simp; try with_reducible rfl)
      try simp only [Act.put, List.setIfInBounds_toArray, List.set_cons_zero, List.set_cons_succ]
      refine wpAnyH_ready (rs := [10]) (by kernel_rfl) (by simp) ?_
      refine AllReadyH.cons (o := ?od10) ?hod10 (fun K hK => ?std10) AllReadyH.nil
      case hod10 => (simp only [List.getElem?_toArray, List.getElem?_cons_succ, List.getElem?_cons_zero]; rfl)
      go_simp
      refine hK.out _ _ ⟨r0, r1⟩ (fun hHeld => ?_)
      clear hK K
      try simp only [Act.put, List.setIfInBounds_toArray, List.set_cons_zero, List.set_cons_succ]
      refine wpAnyH_ready (rs := [12]) (by kernel_rfl) (by simp) ?_
      refine AllReadyH.cons (o := ?od12) ?hod12 (fun K hK => ?std12) AllReadyH.nil
      case hod12 => (simp only [List.getElem?_toArray, List.getElem?_cons_succ, List.getElem?_cons_zero]; rfl)
      refine step_append_q rfl (.tmp 70) (.tmp 71) rfl (E.K.q 2) e.c.pending (by rw [HPV.out]; rfl) (HPQ.out.below (drew_below _)) _ sl rfl HLR.out HLBD.out ?_
      intro v9 w9 hq7 hg7 hb7
      obtain ⟨pa7, pc7, rfl⟩ := hq7.slice
      obtain ⟨k7, ⟨u7, hu7⟩, f7, hT7⟩ := HAP.out _ _ hq7 hg7 hb7
      have HT7 := Lib.hid hT7
      clear hq7 hg7 hb7 hT7
      refine hK.out _ _ k7 (fun hHeld => ?_)
      clear hK K
      try simp only [Act.put, List.setIfInBounds_toArray, List.set_cons_zero, List.set_cons_succ]
      refine wpAnyH_take (i := 13) (oi := ?oid13) (v := ?vvd13) ?hid13 (by kernel_rfl) (by kernel_rfl) (by kernel_rfl) ?hQd13 ?hyd13 (by assumption) ?restd13
      case hid13 => (simp only [List.getElem?_toArray, List.getElem?_cons_succ, List.getElem?_cons_zero]; rfl)
      case hQd13 => exact fun _ _ _ h => h
      case hyd13 => (refine Or.inl ⟨by rfl, ?_⟩; intro w hSw; (try dsimp only at hSw); go_simp; try with_reducible rfl)
      try simp only [Act.put, List.setIfInBounds_toArray, List.set_cons_zero, List.set_cons_succ]
      refine wpAnyH_take (i := 14) (oi := ?oid14) (v := ?vvd14) ?hid14 (by kernel_rfl) (by kernel_rfl) (by kernel_rfl) ?hQd14 ?hyd14 (by assumption) ?restd14
      case hid14 => (simp only [List.getElem?_toArray, List.getElem?_cons_succ, List.getElem?_cons_zero]; rfl)
      case hQd14 => exact fun _ _ _ h => h
      case hyd14 => (refine Or.inl ⟨by rfl, ?_⟩; intro w hSw; (try dsimp only at hSw); go_simp; try with_reducible rfl)
      try simp only [Act.put, List.setIfInBounds_toArray, List.set_cons_zero, List.set_cons_succ]
      refine wpAnyH_ready (rs := [15]) (by kernel_rfl) (by simp) ?_
      refine AllReadyH.cons (o := ?od15) ?hod15 (fun K hK => ?std15) AllReadyH.nil
      case hod15 => (simp only [List.getElem?_toArray, List.getElem?_cons_succ, List.getElem?_cons_zero]; rfl)
      go_simp
      refine hK.out _ _ (HK8.out _ _ k7) (fun hHeld => ?_)
      clear hK K
      try simp only [Act.put, List.setIfInBounds_toArray, List.set_cons_zero, List.set_cons_succ]
      refine wpAnyH_done (by kernel_rfl) ?_ _
      refine NoPanic.normal ?_
      have hbw7 : Below w.heap.size w w7 := by
        have h1 := HB1.out.trans (HWR.out.mono HB1.out.size)
        exact h1.trans (HK7.out.below h1.size fun k hk x => by have h2 := (HOW1.out k (by rw [HLV.out]; exact x)).1; have h3 := HB1.out.size; omega)
      have HBW7 := Lib.hid hbw7
      obtain ⟨K9, G9⟩ := HT7.out.all
      rw [show (e.c.pending ++ sl).length = e.c.pending.length + sl.length by simp] at G9
      have HG9 := Lib.hid G9
      have HS9 := Lib.hid (show ∀ wr, Keep E.K.own w7 wr → wr.ownsRow 0 3 1 (.slice la l.length lc) sl.length (intL sl) from by
        intro wr hk
        rw [← HLV.out, HLE.out]
        exact ownsRow_of_block HSRT.out fun k hk2 => hk.block k (HSRT.out.lt k hk2).2 fun x => (HOW1.out k hk2).2 (.inr (.inl x)))
      obtain ⟨c9, hc9⟩ : ∃ c9, c9 = e.c.setQ 2 (e.c.pending ++ sl) := ⟨_, rfl⟩
      have hbd9 : Bd c9 := by rw [hc9]; exact ⟨HB.out.sz, HB.out.w01, HB.out.dm, by show (e.c.pending ++ sl).length ≤ _; rw [List.length_append]; have := HP9.out; omega⟩
      have HBD9 := Lib.hid hbd9
      have HC9 := Lib.hid hc9
      obtain ⟨W9, hW9⟩ : ∃ W, W = w9.setCell ⟨E.K.cp, 6, none⟩ (.slice pa7 (e.c.pending.length + sl.length) pc7) := ⟨_, rfl⟩
      have HG9' := Lib.hid (show CGo allQ w7 E.K W9 K9 c9 from by rw [hW9, hc9]; exact HG9.out)
      have HW9 := Lib.hid hW9
      have hll3 : l.length ≤ 100000 := HLL.out
      clear hbw7 G9 hbd9 hc9 hW9 k7 r0 r1 c6 hu7 f7
      try simp only [List.length_append]
      rw [← HW9.out]
      go_wp2_with fail
      go_loopw [77] (fun t77 wr => ∃ (i : Nat) (Ki : CL), i ≤ l.length ∧ t77 = .int .i64 i ∧ CGo allQ w7 E.K wr Ki (c9.withM (finsM (sl.take i) c9.m))) (fun t77 _ => l.length - (intOf t77).toNat)
      case atStart => exact ⟨0, K9, Nat.zero_le _, by go_num, HG9'.out⟩
      case round =>
        obtain ⟨i, Ki, hi, rfl, G⟩ := hrel
        have hrow := HS9.out _ G.keepAll
        have hsb := HSB7.out.keep G.keepAll
        obtain ⟨r0, r1⟩ := hsb.cells
        have r2 := G.at_.cells.1
        rw [G.cp, G.p] at r2
        obtain ⟨hlk, -⟩ := fins_all 0 (sl.take i) c9.m
        have hsz : Sz (c9.withM (finsM (sl.take i) c9.m)).m := hlk.sz HBD9.out.sz
        by_cases hlt : i < l.length
        · obtain ⟨x, hx⟩ : ∃ x, sl[i]? = some x := ⟨sl[i]'(by rw [HLE.out]; exact hlt), List.getElem?_eq_getElem _⟩
          obtain ⟨q, qc, hqs, hcell⟩ := row_at hrow (by rw [HLE.out]; omega)
          simp only [Value.slice.injEq] at hqs
          obtain ⟨rfl, -, rfl⟩ := hqs
          have y0 := hcell _ _ (intL_get hx)
          have HSF := Lib.hid (setFin_any G.at_.mem hsz.n x 0)
          rw [G.p] at HSF
          have HTS := Lib.hid (show c9.withM (finsM (sl.take (i + 1)) c9.m) = (c9.withM (finsM (sl.take i) c9.m)).withM ((finsM (sl.take i) c9.m).setFin x 0) by
            unfold finsM
            rw [List.take_add_one, hx, List.foldl_append]; rfl)
          have HGI := Lib.hid G
          clear hx hcell hrow hsb hlk hsz G
          go_wp2_with fail
          refine HSF.out.mono ?_
          rintro x5 w5 ⟨rfl, hm, hk⟩
          obtain ⟨K5, G5⟩ := HGI.out.to (HGI.out.at_.turnK (s := allQ) hm hk)
          have HG5 := Lib.hid G5
          clear hm hk G5
          go_wp2_with fail
          go_roundw
          case rel => exact ⟨i + 1, K5, by omega, by go_num, by rw [HTS.out]; exact HG5.out⟩
          case measure => simp [intOf]; omega
        · obtain rfl : i = l.length := by omega
          have e3 : sl.take l.length = sl := by rw [← HLE.out, List.take_length]
          rw [e3] at G hlk
          obtain ⟨c10, hc10⟩ : ∃ c10, c10 = c9.withM (finsM sl c9.m) := ⟨_, rfl⟩
          rw [← hc10] at G
          have hbd10 : Bd c10 := by
            rw [hc10]
            refine ⟨hlk.sz HBD9.out.sz, HBD9.out.w01, ?_, HBD9.out.pend⟩
            have hw := (fins_all c9.white sl c9.m).2
            show 2 * (finsM sl c9.m).obs.countP (isW c9.white) + c9.grey.length + c9.again.length ≤ 10000000
            unfold finsM
            rw [hw]
            exact HBD9.out.dm
          have HBD10 := Lib.hid hbd10
          have HGA := Lib.hid G
          have HC10 := Lib.hid hc10
          clear hrow hsb hlk hsz G hbd10 hc10 e3 r0 r1 r2
          go_wp2_with fail
          go_loopw [93] (fun t93 wr => ∃ (j : Nat) (Kj : CL), j ≤ l.length ∧ t93 = .int .i64 j ∧ CGo allQ w7 E.K wr Kj ((sl.take j).foldl markV c10)) (fun t93 _ => l.length - (intOf t93).toNat)
          case atStart => exact ⟨0, Ki, Nat.zero_le _, by go_num, HGA.out⟩
          case round =>
            obtain ⟨j, Kj, hj, rfl, G⟩ := hrel
            have hrow := HS9.out _ G.keepAll
            have hsb := HSB7.out.keep G.keepAll
            obtain ⟨r0, r1⟩ := hsb.cells
            have hmk := marks_mk markV (fun c h hw => mark_mk hw _) (sl.take j) c10 HBD10.out.w01
            have hbdj := HBD10.out.mk' (k := 0) hmk
            by_cases hlt : j < l.length
            · obtain ⟨x, hx⟩ : ∃ x, sl[j]? = some x := ⟨sl[j]'(by rw [HLE.out]; exact hlt), List.getElem?_eq_getElem _⟩
              obtain ⟨q, qc, hqs, hcell⟩ := row_at hrow (by rw [HLE.out]; omega)
              simp only [Value.slice.injEq] at hqs
              obtain ⟨rfl, -, rfl⟩ := hqs
              have y0 := hcell _ _ (intL_get hx)
              obtain ⟨cj, hcj⟩ : ∃ cj, cj = (sl.take j).foldl markV c10 := ⟨_, rfl⟩
              rw [← hcj] at G hbdj
              have HVA := Lib.hid (value_any (G.at_.below (drew_below _)) hbdj.sz x)
              rw [G.cp] at HVA
              have HMA := Lib.hid (show ∀ W', Below (wr).heap.size wr W' → Calls Tryz.prog 114 #[.pointer (some ⟨E.K.cp, 0, none⟩), (valueOf cj.m x).val] W' fun e1 w' => MarkP W' Kj cj (valueOf cj.m x) e1 w' from by
                intro W' hb
                have := mark_any (G.at_.below hb) hbdj (valueOf cj.m x)
                rw [G.cp] at this
                exact this)
              have HTS := Lib.hid (show (sl.take (j + 1)).foldl markV c10 = mark cj (valueOf cj.m x) by
                rw [List.take_add_one, hx, List.foldl_append, ← hcj]; rfl)
              have HGJ := Lib.hid G
              have HSBJ := Lib.hid hsb
              unfold V.val at HMA
              clear hx hcell hrow hsb hmk hbdj hcj G
              go_wp2_with fail
              go_region_held3 (fun w' => w'.cell? ⟨be, 0, none⟩ = some (.pointer (some ⟨E.ep, 0, none⟩)) ∧ w'.cell? ⟨E.ep, 0, none⟩ = some (.pointer (some ⟨E.K.cp, 0, none⟩)))
                (first | (with_reducible assumption) | refine ⟨?_, ?_⟩ <;> (first | go_keep | (simp [*, World.cell?_alloc_some, World.cell?_setCell_far])))
                (first
                  | (go_at_call 123; refine HVA.out.mono ?_; rintro x5 w5 ⟨rfl, hb5⟩; have HB5 := Lib.hid ((drew_below wr).trans (hb5.mono (Nat.le_refl _))); have k5 := (HSBJ.out.keep (Keep.of_below HB5.out)).cells; clear hb5; (try unfold V.val))
                  | (go_at_call 114; refine (HMA.out _ HB5.out).mono ?_; rintro x6 w6 ⟨rfl, hT6⟩; obtain ⟨K6, G6⟩ := HGJ.out.to (CTo.ahead HB5.out HGJ.out.at_ hT6.all); have HG6 := Lib.hid G6; have k6 := (HSB7.out.keep G6.keepAll).cells; clear hT6 G6))
              go_wp2_with fail
              go_roundw
              case rel => exact ⟨j + 1, K6, by omega, by go_num, by rw [HTS.out]; exact HG6.out⟩
              case measure => simp [intOf]; omega
            · obtain rfl : j = l.length := by omega
              have HRES := Lib.hid (show UnitTo allQ w E.K (separate e.c) (.returned (.tuple #[])) wr from ⟨rfl, by
                rw [show sl.take l.length = sl by rw [← HLE.out, List.take_length]] at G
                have hse : separate e.c = sl.foldl markV c10 := by
                  unfold separate
                  rw [HC10.out, HC9.out, ← HSL2.out]
                  rfl
                rw [hse]
                exact CTo.ahead HBW7.out HH.out.at_ ⟨Kj, G⟩⟩)
              clear hrow hsb hmk hbdj G
              go_wp2_with fail
              first | go_end0 | refine bodyPost_ret (results_none rfl _ _ _) rfl ?_
              exact HRES.out
end Go.Proofs.YtminbemdcanakaaGreat
