/- Which objects are there; an object read whole; roots. -/
import Derived.Test.YtminbemdcanakaaGreatMC
import Derived.Laws.Rows
import Derived.DataElems
namespace Go.Proofs.YtminbemdcanakaaGreat
open Go.RowKit
set_option linter.unusedVariables false
set_option linter.unusedSimpArgs false

def here1 (i : Nat) : Option Ob → List Int
  | none => []
  | some _ => [(i : Int) + 1]
theorem orderF_snoc : ∀ (l : List (Option Ob)) (k : Nat) (x : Option Ob), orderF k (l ++ [x]) = orderF k l ++ here1 (k + l.length) x := by
  intro l
  induction l with
  | nil => intro k x; cases x <;> rfl
  | cons y l ih =>
    intro k x
    cases y with
    | none =>
      show orderF (k + 1) (l ++ [x]) = orderF (k + 1) l ++ _
      rw [ih, List.length_cons, show k + (l.length + 1) = k + 1 + l.length by omega]
    | some y =>
      show _ :: orderF (k + 1) (l ++ [x]) = (_ :: orderF (k + 1) l) ++ _
      rw [ih, List.length_cons, show k + (l.length + 1) = k + 1 + l.length by omega, List.cons_append]
theorem orderF_len : ∀ (l : List (Option Ob)) (k : Nat), (orderF k l).length ≤ l.length := by
  intro l
  induction l with
  | nil => intro k; exact Nat.le_refl _
  | cons y l ih =>
    intro k
    have := ih (k + 1)
    cases y with
    | none => show (orderF (k + 1) l).length ≤ _; simp; omega
    | some y => show (_ :: orderF (k + 1) l).length ≤ _; simp; omega

def thingV (o : Ob) (sv : Value) : Value := .agg #[.int .i64 o.kind, .int .i64 o.weak, .int .i64 o.array, sv, .int .i64 o.fin]

variable {w : World} {L : ML} {M : Mm}
def OrderP (w : World) (l : List Int) (e : Ending) (w' : World) : Prop := ∃ v, e = .returned v ∧ w'.ownsRow w.heap.size 3 1 v l.length (intL l) ∧ Below w.heap.size w w'
set_option maxRecDepth 100000 in
set_option maxHeartbeats 2000000 in
theorem order_any (h : MemAt w L M) (hs : M.obs.length ≤ 100000) : Calls Tryz.prog 63 #[.pointer (some ⟨L.p, 0, none⟩)] w fun e w' => OrderP w M.order e w' := by
  obtain ⟨i0, hi0, hz0, hz1, hz2⟩ := info_parts infC1
  obtain ⟨c0, -, -⟩ := h.cells
  obtain ⟨a, cc, ha⟩ := row_slice h.row
  rw [ha] at c0
  obtain ⟨N, hN⟩ : ∃ N, N = M.obs.length := ⟨_, rfl⟩
  rw [← hN] at c0 hs
  have HH := Lib.hid h
  have HN := Lib.hid hN
  have HA := Lib.hid ha
  clear h hN ha
  go_enter Tryz.func63, Tryz.ntmps63
  go_wp2_with fail
  go_loopw [3, 13] (fun out t13 wr => ∃ i : Nat, i ≤ N ∧ t13 = .int .i64 i ∧ wr.ownsRow w.heap.size 3 1 out (orderF 0 (M.obs.take i)).length (intL (orderF 0 (M.obs.take i))) ∧ Below w.heap.size w wr) (fun _ t13 _ => N - (intOf t13).toNat)
  case atStart => exact ⟨0, Nat.zero_le _, by go_num, World.ownsRow_nil _ _ _ _, Below.refl _ _⟩
  case round =>
    obtain ⟨i, hi, rfl, hown, hB⟩ := hrel
    obtain ⟨a0, c1, rfl⟩ := row_slice hown
    by_cases hlt : i < N
    · obtain ⟨g, c2, ha2, hcell⟩ := row_at (HH.out.below hB).row (by rw [← HN.out]; omega)
      rw [HA.out] at ha2
      simp only [Value.slice.injEq] at ha2
      obtain ⟨rfl, -, rfl⟩ := ha2
      have hilt : i < M.obs.length := by rw [← HN.out]; exact hlt
      obtain ⟨x, hx⟩ : ∃ x, M.obs[i]? = some x := ⟨M.obs[i], List.getElem?_eq_getElem _⟩
      obtain ⟨⟨b, sv⟩, hcs⟩ : ∃ c, L.cs[i]? = some c := ⟨_, List.getElem?_eq_getElem (by rw [HH.out.len]; exact hilt)⟩
      have hc := hcell i (ptrV (b, sv) x) (by unfold ML.ptrs; rw [List.getElem?_zipWith, hcs, hx])
      have hlen := orderF_len (M.obs.take i) 0
      rw [List.length_take] at hlen
      have hts : M.obs.take (i + 1) = M.obs.take i ++ [x] := by rw [List.take_add_one, hx]; rfl
      have hsn : orderF 0 (M.obs.take (i + 1)) = orderF 0 (M.obs.take i) ++ here1 i x := by
        rw [hts, orderF_snoc, List.length_take, show 0 + min i M.obs.length = i by omega]
      have HS := Lib.hid hsn
      obtain ⟨acc, hacc⟩ : ∃ acc, acc = orderF 0 (M.obs.take i) := ⟨_, rfl⟩
      rw [← hacc] at hown hlen
      obtain ⟨K, hK⟩ : ∃ K, K = acc.length := ⟨_, rfl⟩
      have HK := Lib.hid hK
      have HACC := Lib.hid hacc
      rw [← hK] at hown hlen
      have hlen2 : K ≤ i := by omega
      cases x with
      | none =>
        unfold ptrV at hc
        simp only at hc
        clear hx hcs hcell hts hsn hacc hK hlen
        rw [← HACC.out, ← HK.out]
        go_wp2_with fail
        go_roundw
        case rel =>
          refine ⟨i + 1, by omega, by go_num, ?_, hB⟩
          rw [HS.out, ← HACC.out]
          show World.ownsRow _ _ _ _ _ (acc ++ []).length (intL (acc ++ []))
          rw [List.append_nil, ← HK.out]; exact hown
        case measure => simp [intOf]; omega
      | some o =>
        unfold ptrV at hc
        simp only at hc
        clear hx hcs hcell hts hsn hacc hK hlen
        rw [← HACC.out, ← HK.out]
        go_wp2_with (at_builtin; refine wpList_append_own _ rfl _ _ 54 rfl w.heap.size 3 i0 (.int .i64 0) 1 8 Tryz.underlying54 hi0 hz0 hz1 hz2 rfl (by decide) _ _ _ rfl (hown.alloc _) _ _ _ [.int .i64 ((i : Int) + 1)] rfl rfl ?_ ?_ ?_ ?_ ?_ ?_)
        · exact cell_new1 wr (.int .i64 ((i : Int) + 1)) 3
        · intro u hu; simp at hu; subst hu; rfl
        · unfold maxLen; omega
        · omega
        · have := hB.size; simp; omega
        intro v' w4 hown4 hg4 _
        go_wp2_with fail
        go_roundw
        case rel =>
          refine ⟨i + 1, by omega, by go_num, ?_, ?_⟩
          · rw [HS.out, ← HACC.out]
            have e : intL (acc ++ [(i : Int) + 1]) = intL acc ++ [.int .i64 ((i : Int) + 1)] := by unfold intL; rw [List.map_append]; rfl
            show World.ownsRow _ _ _ _ _ (acc ++ [(i : Int) + 1]).length (intL (acc ++ [(i : Int) + 1]))
            rw [List.length_append, ← HK.out, List.length_singleton]
            rw [e]
            exact hown4
          · refine (hB.alloc hB.size _).grown hg4 (by have := hB.size; simp; omega) ?_
            intro j hj
            exact (hown.lt j hj).1
        case measure => simp [intOf]; omega
    · obtain rfl : i = N := by omega
      have e : M.obs.take i = M.obs := by rw [HN.out, List.take_length]
      rw [e] at hown
      have HP : OrderP w M.order (.returned (.slice a0 (orderF 0 (M.obs.take i)).length c1)) wr := ⟨_, rfl, by rw [e]; exact hown, hB⟩
      have HP := Lib.hid HP
      clear hown
      go_wp2_with fail
      go_ret
      exact HP.out

def ValsP (w : World) (l : List V) (e : Ending) (w' : World) : Prop := ∃ v, e = .returned v ∧ w'.ownsRow w.heap.size 34 2 v l.length (flatV l) ∧ Below w.heap.size w w'
set_option maxHeartbeats 1000000 in
theorem roots_any (h : MemAt w L M) (hs : M.roots.length ≤ 100000) : Calls Tryz.prog 53 #[.pointer (some ⟨L.p, 0, none⟩)] w fun e w' => ValsP w M.roots e w' := by
  obtain ⟨-, c1, -⟩ := h.cells
  have HC := Lib.hid (cloneV_any (rd_row h.roots) hs (flatV_len _) (flatV_one _))
  clear h
  go_enter Tryz.func53, Tryz.ntmps53
  go_wp2_with fail
  refine HC.out.mono ?_
  rintro e w1 ⟨v, rfl, hv, hb⟩
  go_wp2_with fail
  go_ret
  exact ⟨v, rfl, hv, hb⟩
/-- A row of values, read from anywhere. -/
def RdV (w : World) (v : Value) (l : List V) : Prop := Rd w v l.length (flatV l)
theorem Rd.below {w w' : World} {v : Value} {n : Nat} {xs : List Value} (h : Rd w v n xs) (hb : Below w.heap.size w w') : Rd w' v n xs := by
  rcases h with h | ⟨ad, c, rfl, hc⟩
  · exact .inl h
  · refine .inr ⟨ad, c, rfl, fun j u hj => ?_⟩
    have := hc j u hj
    have hlt := cell_lt this
    unfold World.cell? at *
    rw [hb.block _ hlt]
    exact this
theorem row_of_base {w : World} {base base' : Nat} {e : TypeId} {size : Nat} {v : Value} {n : Nat} {xs : List Value} (h : w.ownsRow base e size v n xs) (hb : ∀ k, v.ownBlock = some k → base' ≤ k) : w.ownsRow base' e size v n xs := by
  refine ⟨h.1, ?_⟩
  rcases h.2 with hn | ⟨g, cap, cur, rfl, hb', rest⟩
  · exact .inl hn
  · exact .inr ⟨g, cap, cur, rfl, hb g rfl, rest⟩
/-- Roots are others. -/
theorem MemAt.rooted {w' : World} (h : MemAt w L M) {v : Value} {l : List V} (hv : w'.ownsRow w.heap.size 34 2 v l.length (flatV l)) (hb : Below w.heap.size w w') :
    MemAt (w'.setCell ⟨L.p, 1, none⟩ v) { L with roots := v } { M with roots := l } ∧ Keep L.own w (w'.setCell ⟨L.p, 1, none⟩ v) ∧ ∀ k, ({ L with roots := v } : ML).own k → L.own k ∨ w.heap.size ≤ k := by
  have h1 := h.below hb
  have hk : Keep (fun k => k = L.p) w' (w'.setCell ⟨L.p, 1, none⟩ v) := Keep.setCell (B := fun k => k = L.p) (p := ⟨L.p, 1, none⟩) (Keep.refl _ w') (fun _ => rfl) _
  refine ⟨⟨h1.box.set 1 v, ?_, ?_, h.len, ?_, ?_, h.inj, ?_⟩, (Keep.of_below hb).trans (hk.mono fun k _ e => .inl e), ?_⟩
  · exact ownsRow_setCell_other h1.row (fun e => h1.box.ne_row h1.row (by decide) e rfl) v
  · exact row_of_base (ownsRow_setCell_other hv (fun e => h1.box.ne_row hv (by decide) e rfl) v) fun _ _ => Nat.zero_le _
  · intro i b sv o hi ho
    have h2 := h1.ob i b sv o hi ho
    exact ⟨h2.box.setOther _ (h2.box.ne_box h1.box (by decide)) _, ownsRow_setCell_other h2.row (fun e => h1.box.ne_row h2.row (by decide) e rfl) v⟩
  · intro i b sv hi
    obtain ⟨a, b⟩ := h1.lt i b sv hi
    exact ⟨by simpa [World.setCell] using a, fun k e => by have := b k e; simpa [World.setCell] using this⟩
  · intro i b sv hi k e e'
    have := (h.lt i b sv hi).2 k e'
    have := (hv.lt k e).1
    omega
  · rintro k (e | e | e | ⟨i, b, sv, hi, e⟩)
    · exact .inl (.inl e)
    · exact .inl (.inr (.inl e))
    · exact .inr (hv.lt k e).1
    · exact .inl (.inr (.inr (.inr ⟨i, b, sv, hi, e⟩)))
set_option maxHeartbeats 1000000 in
theorem setRoots_any (h : MemAt w L M) {v : Value} {l : List V} (hv : RdV w v l) (hs : l.length ≤ 100000) : Calls Tryz.prog 23 #[.pointer (some ⟨L.p, 0, none⟩), v] w fun e w' =>
    e = .returned (.tuple #[]) ∧ ∃ u, MemAt w' { L with roots := u } { M with roots := l } ∧ Keep L.own w w' ∧ ∀ k, ({ L with roots := u } : ML).own k → L.own k ∨ w.heap.size ≤ k := by
  obtain ⟨-, c1, c2⟩ := h.cells
  have HC := Lib.hid (cloneV_any hv hs (flatV_len _) (flatV_one _))
  have HH := Lib.hid h
  have f1 : w.frozen? ⟨L.p, 1, none⟩ = false := h.box.free 1
  clear h hv
  go_enter Tryz.func23, Tryz.ntmps23
  go_wp2_with fail
  refine HC.out.mono ?_
  rintro e w1 ⟨u, rfl, hu, hb⟩
  obtain ⟨ua, uc, rfl⟩ := row_slice hu
  have H1 := HH.out.below hb
  obtain ⟨-, d1, d2⟩ := H1.cells
  have f2 : w1.frozen? ⟨L.p, 1, none⟩ = false := H1.box.free 1
  have HR := Lib.hid (HH.out.rooted hu hb)
  clear H1 hu hb
  go_wp2_with fail
  go_end0
  exact ⟨rfl, _, HR.out⟩

def ThingP (w : World) (o : Ob) (e : Ending) (w' : World) : Prop := ∃ v, e = .returned (thingV o v) ∧ w'.ownsRow w.heap.size 34 2 v o.slots.length (flatV o.slots) ∧ Below w.heap.size w w'
theorem infT : (Tryz.prog.info? 36).map (·.size) = some 5 := by kernel_rfl
theorem res_thing {fn : Func} {p : Tmp} (h : fn.results = #[.cell p 36]) (tmps : Array Value) (W : World) (q : Nat) (hp : tmps.getD p undef = .pointer (some ⟨q, 0, none⟩)) {a b c d e : Value} (hb : Box W q [a, b, c, d, e] 36) : (results fn tmps).run Tryz.prog W = .ok (.agg #[a, b, c, d, e]) W := by
  refine results_cell_row h tmps W q 36 #[a, b, c, d, e] (0, 0) _ hp hb Tryz.underlying36 ?_ ?_
  · rfl
  · exact infT
abbrev put5 (W : World) (q : Nat) (a b c d e : Value) : World := ((((W.setCell ⟨q, 0, none⟩ a).setCell ⟨q, 1, none⟩ b).setCell ⟨q, 2, none⟩ c).setCell ⟨q, 3, none⟩ d).setCell ⟨q, 4, none⟩ e
theorem put5_box {W : World} {q : Nat} {x0 x1 x2 x3 x4 : Value} {t : TypeId} (h : Box W q [x0, x1, x2, x3, x4] t) (a b c d e : Value) : Box (put5 W q a b c d e) q [a, b, c, d, e] t := ((((h.set 0 a).set 1 b).set 2 c).set 3 d).set 4 e
theorem put5_below {W : World} {q n : Nat} (hn : n ≤ q) (a b c d e : Value) : Below n W (put5 W q a b c d e) :=
  ((((((Below.refl n W).setCell (p := ⟨q, 0, none⟩) hn a).setCell (p := ⟨q, 1, none⟩) hn b).setCell (p := ⟨q, 2, none⟩) hn c).setCell (p := ⟨q, 3, none⟩) hn d).setCell (p := ⟨q, 4, none⟩) hn e)
abbrev thingZ : Obj := .cells #[.int .i64 0, .int .i64 0, .int .i64 0, .slice none 0 0, .int .i64 0] 36
set_option maxRecDepth 100000 in
set_option maxHeartbeats 2000000 in
theorem thing_any (h : MemAt w L M) (hs : M.obs.length ≤ 100000) (hd : Int) (hss : ∀ o, M.at hd = some o → o.slots.length ≤ 100000) : Calls Tryz.prog 39 #[.pointer (some ⟨L.p, 0, none⟩), .int .i64 hd] w fun e w' => ThingP w (M.get hd) e w' := by
  unfold Mm.get
  have hz : Below w.heap.size w (w.alloc thingZ) := below_alloc _ _
  have hzb : Box (w.alloc thingZ) w.heap.size [.int .i64 0, .int .i64 0, .int .i64 0, .slice none 0 0, .int .i64 0] 36 := Box.new _ _ _
  cases ho : M.at hd with
  | none =>
    have HA := Lib.hid (at_none (h.below hz) hs ho)
    have HB := Lib.hid hzb
    have HL := Lib.hid hz
    clear h ho hzb hz
    go_enter Tryz.func39, Tryz.ntmps39
    go_wp2_with fail
    refine HA.out.mono ?_
    rintro e w1 ⟨rfl, rfl⟩
    go_wp2_with fail
    refine bodyPost_ret (res_thing rfl _ _ w.heap.size rfl HB.out) rfl ?_
    exact ⟨.slice none 0 0, rfl, World.ownsRow_nil _ _ _ _, HL.out⟩
  | some o =>
    obtain ⟨i, b, sv, g, c, rfl, hi, hcs, hob, hat, -, -⟩ := (h.below hz).some_at ho
    have HA := Lib.hid (at_some (h.below hz) hs hi hcs hob)
    have hn := hss o ho
    obtain ⟨sa, sc, rfl⟩ := row_slice hat.row
    have c0 := hat.box.cell 0
    have c1 := hat.box.cell 1
    have c2 := hat.box.cell 2
    have c3 := hat.box.cell 3
    have c4 := hat.box.cell 4
    simp only [obL, List.getElem?_cons_zero, List.getElem?_cons_succ] at c0 c1 c2 c3 c4
    have HT := Lib.hid hat
    have HZ := Lib.hid hz
    have HZB := Lib.hid hzb
    have HN := Lib.hid hn
    clear h ho hat hcs hob hz hzb
    go_enter Tryz.func39, Tryz.ntmps39
    go_wp2_with fail
    refine HA.out.mono ?_
    rintro e w1 ⟨rfl, rfl⟩
    go_wp2_with fail
    obtain ⟨w1, hw1⟩ : ∃ w1, w1 = (w.alloc thingZ).alloc (.cells #[.int .i64 o.kind, .int .i64 o.weak, .int .i64 o.array, .slice sa o.slots.length sc, .int .i64 o.fin] 36) := ⟨_, rfl⟩
    have hb1 : Below (w.alloc thingZ).heap.size (w.alloc thingZ) w1 := by rw [hw1]; exact below_alloc _ _
    have hs1 : w1.heap.size = w.heap.size + 2 := by rw [hw1]; simp
    have hbx1 : Box w1 (w.heap.size + 1) [.int .i64 o.kind, .int .i64 o.weak, .int .i64 o.array, .slice sa o.slots.length sc, .int .i64 o.fin] 36 := by
      have := Box.new (w.alloc thingZ) [.int .i64 o.kind, .int .i64 o.weak, .int .i64 o.array, .slice sa o.slots.length sc, .int .i64 o.fin] 36
      rw [show (w.alloc thingZ).heap.size = w.heap.size + 1 by simp] at this
      rw [hw1]; exact this
    have hcl := cloneV_any (rd_row (ownsRow_of_block HT.out.row fun k hk => hb1.block k (HT.out.row.lt k hk).2)) HN.out (flatV_len _) (flatV_one _)
    rw [← hw1]
    refine hcl.mono ?_
    rintro e w2 ⟨v, rfl, hv, hb2⟩
    obtain ⟨va, vc, rfl⟩ := row_slice hv
    have z := (HZB.out.below hb1 (by simp)).below hb2 (by omega)
    have x := hbx1.below hb2 (by omega)
    have zc0 := z.cell 0
    have zc1 := z.cell 1
    have zc2 := z.cell 2
    have zc3 := z.cell 3
    have zc4 := z.cell 4
    have xc0 := x.cell 0
    have xc1 := x.cell 1
    have xc2 := x.cell 2
    have xc3 := x.cell 3
    have xc4 := x.cell 4
    simp only [List.getElem?_cons_zero, List.getElem?_cons_succ] at zc0 zc1 zc2 zc3 zc4 xc0 xc1 xc2 xc3 xc4
    have zf0 := z.free 0
    have zf1 := z.free 1
    have zf2 := z.free 2
    have zf3 := z.free 3
    have zf4 := z.free 4
    have xf3 := x.free 3
    have HX := Lib.hid (put5_box (z.setOther (W := w2) ⟨w.heap.size + 1, 3, none⟩ (by simp) (.slice va o.slots.length vc)) (.int .i64 o.kind) (.int .i64 o.weak) (.int .i64 o.array) (.slice va o.slots.length vc) (.int .i64 o.fin))
    have HQ : Hid (ThingP w o (.returned (thingV o (.slice va o.slots.length vc))) (put5 (w2.setCell ⟨w.heap.size + 1, 3, none⟩ (.slice va o.slots.length vc)) w.heap.size (.int .i64 o.kind) (.int .i64 o.weak) (.int .i64 o.array) (.slice va o.slots.length vc) (.int .i64 o.fin))) := by
      refine Lib.hid ⟨_, rfl, ?_, ?_⟩
      · have hne : ∀ (q : Nat) (j : Nat), q < w1.heap.size → (Value.slice va o.slots.length vc).ownBlock ≠ some (⟨q, j, none⟩ : Addr).block := fun q j hq e => by have := (hv.lt _ e).1; simp only at this; omega
        refine row_of_base (ownsRow_setCell_other (ownsRow_setCell_other (ownsRow_setCell_other (ownsRow_setCell_other (ownsRow_setCell_other (ownsRow_setCell_other hv (hne _ _ (by omega)) _) (hne _ _ (by omega)) _) (hne _ _ (by omega)) _) (hne _ _ (by omega)) _) (hne _ _ (by omega)) _) (hne _ _ (by omega)) _) fun k e => ?_
        have := (hv.lt k e).1
        omega
      · have hq1 : Below w.heap.size w w1 := HZ.out.trans (hb1.mono (by simp))
        have hq2 : Below w.heap.size w w2 := hq1.trans (hb2.mono (by omega))
        exact (hq2.setCell (p := ⟨w.heap.size + 1, 3, none⟩) (by simp) _).trans (put5_below (Nat.le_refl _) _ _ _ _ _)
    clear z x hb2 hv hcl hbx1 hw1 hb1
    go_wp2_with fail
    refine bodyPost_ret (res_thing rfl _ _ w.heap.size rfl HX.out) rfl ?_
    exact HQ.out
end Go.Proofs.YtminbemdcanakaaGreat
/- Graphs: how they lie, an object's handle. -/
namespace Go.Proofs.YtminbemdcanakaaGreat
open Go.RowKit
set_option linter.unusedVariables false
set_option linter.unusedSimpArgs false

def thingL (o : Ob) (sv : Value) : List Value := [.int .i64 o.kind, .int .i64 o.weak, .int .i64 o.array, sv, .int .i64 o.fin]
def flatT (l : List (Ob × Value)) : List Value := l.flatMap fun x => thingL x.1 x.2
theorem flatT_len (l : List (Ob × Value)) : (flatT l).length = l.length * 5 := by
  induction l with
  | nil => rfl
  | cons x l ih => unfold flatT at *; rw [List.flatMap_cons, List.length_append, ih, List.length_cons]; simp [thingL]; omega
theorem flatT_at : ∀ (l : List (Ob × Value)) (j : Nat) (x : Ob × Value), l[j]? = some x → (flatT l)[j * 5]? = some (.int .i64 x.1.kind) ∧ (flatT l)[j * 5 + 1]? = some (.int .i64 x.1.weak) ∧ (flatT l)[j * 5 + 2]? = some (.int .i64 x.1.array) ∧ (flatT l)[j * 5 + 3]? = some x.2 ∧ (flatT l)[j * 5 + 4]? = some (.int .i64 x.1.fin) := by
  intro l
  induction l with
  | nil => intro j x h; simp at h
  | cons y l ih =>
    intro j x h
    cases j with
    | zero => simp only [List.getElem?_cons_zero, Option.some.injEq] at h; subst h; exact ⟨rfl, rfl, rfl, rfl, rfl⟩
    | succ j =>
      rw [List.getElem?_cons_succ] at h
      have := ih j x h
      rw [show (j + 1) * 5 = j * 5 + 1 + 1 + 1 + 1 + 1 by omega]
      unfold flatT at *
      rw [List.flatMap_cons]
      exact this
structure GrAt (w : World) (tv rv : Value) (ts : List (Ob × Value)) (roots : List V) : Prop where
  things : Rd w tv ts.length (flatT ts)
  slots : ∀ o sv, (o, sv) ∈ ts → RdV w sv o.slots
  roots : RdV w rv roots
theorem GrAt.below {w w' : World} {tv rv : Value} {ts : List (Ob × Value)} {roots : List V} (h : GrAt w tv rv ts roots) (hb : Below w.heap.size w w') : GrAt w' tv rv ts roots :=
  ⟨Rd.below h.things hb, fun o sv ho => Rd.below (h.slots o sv ho) hb, Rd.below h.roots hb⟩
theorem rd_slice {w : World} {v : Value} {n : Nat} {xs : List Value} (h : Rd w v n xs) : ∃ a c, v = .slice a n c := by
  rcases h with ⟨rfl, rfl, -⟩ | ⟨ad, c, rfl, -⟩
  · exact ⟨none, 0, rfl⟩
  · exact ⟨_, _, rfl⟩
theorem rd_at {w : World} {v : Value} {n : Nat} {xs : List Value} (h : Rd w v n xs) (hx : xs ≠ []) : ∃ ad c, v = .slice (some ad) n c ∧ ∀ j u, xs[j]? = some u → w.cell? (ad.add j) = some u := by
  rcases h with ⟨-, -, h0⟩ | h
  · exact absurd h0 hx
  · exact h
/-- The handle of a value that is an object. -/
def objG (ts : List Ob) (v : V) : Int := if 4 ≤ v.t ∧ v.t ≤ 9 ∧ 1 ≤ v.n ∧ v.n ≤ ts.length ∧ (ts[(v.n - 1).toNat]?.map (·.kind)) = some v.t then v.n else 0
def kindAt (ts : List Ob) (j : Nat) : Option Int := ts[j]?.map (·.kind)

variable {w : World}
set_option maxRecDepth 100000 in
set_option maxHeartbeats 4000000 in
theorem object_any {q : Nat} {tv rv nv td : Value} {ts : List (Ob × Value)} (hbx : Box w q [tv, rv, nv, td] 163) (ht : Rd w tv ts.length (flatT ts)) (hs : ts.length ≤ 100000) (v : V) :
    Calls Tryz.prog 121 #[.pointer (some ⟨q, 0, none⟩), v.val] w fun e w' => e = .returned (.int .i64 (objG (ts.map Prod.fst) v)) ∧ Below w.heap.size w w' := by
  have hb := below_alloc w (.cells #[.int .i64 v.t, .int .i64 v.n] 34)
  replace hbx := hbx.alloc (.cells #[.int .i64 v.t, .int .i64 v.n] 34)
  replace ht := ht.below hb
  have c0 := hbx.cell 0
  simp only [List.getElem?_cons_zero] at c0
  have hlm : (ts.map Prod.fst).length = ts.length := List.length_map _
  obtain ⟨N, hN⟩ : ∃ N, N = ts.length := ⟨_, rfl⟩
  unfold V.val
  obtain ⟨vt, vn⟩ := v
  simp only
  by_cases h1 : vt < 4
  · have hr : objG (ts.map Prod.fst) ⟨vt, vn⟩ = 0 := if_neg (by simp only; omega)
    rw [hr]
    have g1 : decide (vt < 4) = true := decide_eq_true h1
    have HB := Lib.hid hb
    clear hr hbx hb
    try clear ht
    try clear hob
    try clear ho
    try clear hx
    try clear hok
    try clear hlm
    try clear hN
    try clear hc
    try clear f0
    go_enter Tryz.func121, Tryz.ntmps121
    go_wp2_with fail
    go_quiet (fail)
    go_wp2_with fail
    go_ret
    exact ⟨rfl, HB.out.trans (below_drewN (Below.refl _ _) _)⟩
  have g1 : decide (vt < 4) = false := decide_eq_false h1
  by_cases h2 : 9 < vt
  · have hr : objG (ts.map Prod.fst) ⟨vt, vn⟩ = 0 := if_neg (by simp only; omega)
    rw [hr]
    have g2 : decide (9 < vt) = true := decide_eq_true h2
    have HB := Lib.hid hb
    clear hr hbx hb
    try clear ht
    try clear hob
    try clear ho
    try clear hx
    try clear hok
    try clear hlm
    try clear hN
    try clear hc
    try clear f0
    go_enter Tryz.func121, Tryz.ntmps121
    go_wp2_with fail
    go_quiet (fail)
    go_wp2_with fail
    go_ret
    exact ⟨rfl, HB.out.trans (below_drewN (Below.refl _ _) _)⟩
  have g2 : decide (9 < vt) = false := decide_eq_false h2
  by_cases h3 : vn < 1
  · have hr : objG (ts.map Prod.fst) ⟨vt, vn⟩ = 0 := if_neg (by simp only; omega)
    rw [hr]
    have g3 : decide (vn < 1) = true := decide_eq_true h3
    have HB := Lib.hid hb
    clear hr hbx hb
    try clear ht
    try clear hob
    try clear ho
    try clear hx
    try clear hok
    try clear hlm
    try clear hN
    try clear hc
    try clear f0
    go_enter Tryz.func121, Tryz.ntmps121
    go_wp2_with fail
    go_quiet (fail)
    go_wp2_with fail
    go_ret
    exact ⟨rfl, HB.out.trans (below_drewN (Below.refl _ _) _)⟩
  have g3 : decide (vn < 1) = false := decide_eq_false h3
  by_cases h4 : (ts.length : Int) < vn
  · have hr : objG (ts.map Prod.fst) ⟨vt, vn⟩ = 0 := if_neg (by simp only; omega)
    rw [hr]
    obtain ⟨a, c, rfl⟩ := rd_slice ht
    rw [← hN] at c0 hs h4
    have g4 : decide ((N : Int) < vn) = true := decide_eq_true h4
    have HB := Lib.hid hb
    clear hr hbx hb
    try clear ht
    try clear hob
    try clear ho
    try clear hx
    try clear hok
    try clear hlm
    try clear hN
    try clear hc
    try clear f0
    go_enter Tryz.func121, Tryz.ntmps121
    go_wp2_with fail
    go_quiet (fail)
    go_wp2_with fail
    go_ret
    exact ⟨rfl, HB.out.trans (below_drewN (Below.refl _ _) _)⟩
  obtain ⟨j, rfl⟩ : ∃ j : Nat, vn = (j : Int) + 1 := ⟨(vn - 1).toNat, by omega⟩
  have hjl : j < ts.length := by omega
  obtain ⟨⟨o, sv⟩, hx⟩ : ∃ x, ts[j]? = some x := ⟨ts[j], List.getElem?_eq_getElem _⟩
  obtain ⟨ad, c, rfl, hc⟩ := rd_at ht (by intro e; have := flatT_len ts; rw [e] at this; simp at this; omega)
  obtain ⟨f0, -⟩ := flatT_at _ _ _ hx
  have d0 := hc _ _ f0
  have ho : (ts.map Prod.fst)[j]? = some o := by rw [List.getElem?_map, hx]; rfl
  have hob : objG (ts.map Prod.fst) ⟨vt, (j : Int) + 1⟩ = if o.kind = vt then (j : Int) + 1 else 0 := by
    unfold objG
    simp only
    by_cases hk : o.kind = vt
    · rw [if_pos hk, if_pos]
      refine ⟨by omega, by omega, by omega, by omega, ?_⟩
      rw [show ((j : Int) + 1 - 1).toNat = j by omega, ho, Option.map_some, hk]
    · rw [if_neg hk, if_neg]
      rintro ⟨-, -, -, -, e⟩
      rw [show ((j : Int) + 1 - 1).toNat = j by omega, ho, Option.map_some, Option.some.injEq] at e
      exact hk e
  rw [hob]
  rw [← hN] at c0 hs h4 hjl
  have g4 : decide ((N : Int) < (j : Int) + 1) = false := decide_eq_false h4
  have g4' : decide ((N : Int) ≤ (j : Int)) = false := decide_eq_false (by omega)
  obtain ⟨okd, hok⟩ : ∃ k, k = o.kind := ⟨_, rfl⟩
  simp only at d0
  rw [← hok] at d0 ⊢
  by_cases hk : okd = vt
  · rw [if_pos hk]
    rw [hk] at d0
    clear hok hk
    have hr : True := trivial
    have HB := Lib.hid hb
    clear hr hbx hb
    try clear ht
    try clear hob
    try clear ho
    try clear hx
    try clear hok
    try clear hlm
    try clear hN
    try clear hc
    try clear f0
    go_enter Tryz.func121, Tryz.ntmps121
    go_wp2_with fail
    go_quiet (fail)
    go_wp2_with fail
    go_ret
    exact ⟨rfl, HB.out.trans (below_drewN (Below.refl _ _) _)⟩
  · rw [if_neg hk]
    have g5 : (okd != vt) = true := by simp [hk]
    have hr : True := trivial
    have HB := Lib.hid hb
    clear hr hbx hb
    try clear ht
    try clear hob
    try clear ho
    try clear hx
    try clear hok
    try clear hlm
    try clear hN
    try clear hc
    try clear f0
    go_enter Tryz.func121, Tryz.ntmps121
    go_wp2_with fail
    go_quiet (fail)
    go_wp2_with fail
    go_ret
    exact ⟨rfl, HB.out.trans (below_drewN (Below.refl _ _) _)⟩
end Go.Proofs.YtminbemdcanakaaGreat
/- Are all values that name objects a graph's? The closure in reach.Right. -/
namespace Go.Proofs.YtminbemdcanakaaGreat
open Go.RowKit
set_option linter.unusedVariables false
set_option linter.unusedSimpArgs false

def okG (ts : List Ob) (v : V) : Bool := decide (¬ (4 ≤ v.t ∧ v.t ≤ 9 ∧ objG ts v = 0))
def allG (ts : List Ob) (l : List V) : Bool := l.all (okG ts)

theorem cell_more {w : World} {ad : Addr} {i k : Nat} {u : Value} (h : w.cell? (ad.add (i + (k + 1))) = some u) : w.cell? ⟨(ad.add i).block, (ad.add i).off + (k + 1), none⟩ = some u := by
  rw [← Addr.add_add, Addr.add_succ'] at h
  exact h
variable {w : World}
def AllP (w : World) (b : Bool) (e : Ending) (w' : World) : Prop := e = .returned (.bool b) ∧ Below w.heap.size w w'
set_option maxRecDepth 100000 in
set_option maxHeartbeats 4000000 in
theorem all_any {q bx : Nat} {tv rv nv td lv : Value} {ts : List (Ob × Value)} {l : List V} (hb : w.cell? ⟨bx, 0, none⟩ = some (.pointer (some ⟨q, 0, none⟩))) (hbx : Box w q [tv, rv, nv, td] 163) (ht : Rd w tv ts.length (flatT ts)) (hs : ts.length ≤ 100000)
    (hl : RdV w lv l) (hsl : l.length ≤ 100000) : Calls Tryz.prog 120 #[lv, .pointer (some ⟨bx, 0, none⟩)] w fun e w' => AllP w (allG (ts.map Prod.fst) l) e w' := by
  obtain ⟨a, c, rfl⟩ := rd_slice hl
  obtain ⟨N, hN⟩ : ∃ N, N = l.length := ⟨_, rfl⟩
  have HL := Lib.hid hl
  have HT := Lib.hid ht
  have HX := Lib.hid hbx
  have HB := Lib.hid hb
  have HN := Lib.hid hN
  have HS := Lib.hid hs
  rw [← hN] at hsl ⊢
  have hbl := cell_lt hb
  clear hl ht hbx hb hN hs
  go_enter Tryz.func120, Tryz.ntmps120
  go_wp2_with fail
  go_loopw [8] (fun t8 wr => ∃ i : Nat, i ≤ N ∧ t8 = .int .i64 i ∧ allG (ts.map Prod.fst) (l.take i) = true ∧ Below w.heap.size w wr) (fun t8 _ => N - (intOf t8).toNat)
  case atStart => exact ⟨0, Nat.zero_le _, by go_num, rfl, Below.refl _ _⟩
  case round =>
    obtain ⟨i, hi, rfl, hacc, hB⟩ := hrel
    by_cases hlt : i < N
    · obtain ⟨x, hx⟩ : ∃ x, l[i]? = some x := ⟨l[i]'(by rw [← HN.out]; exact hlt), List.getElem?_eq_getElem _⟩
      obtain ⟨ad, c2, ha, hc⟩ := rd_at (Rd.below HL.out hB) (by intro e; have := flatV_len l; rw [e] at this; simp at this; have := HN.out; omega)
      simp only [Value.slice.injEq] at ha
      obtain ⟨rfl, -, rfl⟩ := ha
      obtain ⟨f0, f1⟩ := flatV_at _ _ _ hx
      have d0 := hc _ _ f0
      have d1 := hc _ _ f1
      have d1' : wr.cell? ⟨(ad.add (i * 2)).block, (ad.add (i * 2)).off + 1, none⟩ = some (.int .i64 x.n) := cell_more d1
      have hacc2 : allG (ts.map Prod.fst) (l.take (i + 1)) = okG (ts.map Prod.fst) x := by
        have e : l.take (i + 1) = l.take i ++ [x] := by rw [List.take_add_one, hx]; rfl
        unfold allG at hacc ⊢
        rw [e, List.all_append, hacc]; simp
      have hfalse : okG (ts.map Prod.fst) x = false → allG (ts.map Prod.fst) l = false := by
        intro hf
        unfold allG
        rw [List.all_eq_false]
        exact ⟨x, List.mem_of_getElem? hx, by rw [hf]; decide⟩
      obtain ⟨xt, xn⟩ := x
      simp only at d0 d1 d1'
      have HA := Lib.hid hacc2
      have HF := Lib.hid hfalse
      clear hacc2 hfalse hx f0 f1 hc hacc
      have hb1 := Below.block hB
      have e1 : wr.cell? ⟨bx, 0, none⟩ = some (.pointer (some ⟨q, 0, none⟩)) := by
        have := HB.out
        unfold World.cell? at this ⊢
        rw [hB.block _ hbl]; exact this
      clear hb1
      by_cases h1 : xt < 4
      · have g1 : decide (4 ≤ xt) = false := decide_eq_false (by omega)
        have hok : okG (ts.map Prod.fst) ⟨xt, xn⟩ = true := decide_eq_true (by simp only; omega)
        have HOK := Lib.hid hok
        clear hok
        go_wp2_with fail
        go_roundw
        case rel => exact ⟨i + 1, by omega, by go_num, by rw [HA.out, HOK.out], hB.alloc hB.size _⟩
        case measure => simp [intOf]; omega
      · have g1 : decide (4 ≤ xt) = true := decide_eq_true (by omega)
        by_cases h2 : 9 < xt
        · have g2 : decide (xt ≤ 9) = false := decide_eq_false (by omega)
          have hok : okG (ts.map Prod.fst) ⟨xt, xn⟩ = true := decide_eq_true (by simp only; omega)
          have HOK := Lib.hid hok
          clear hok
          go_wp2_with fail
          go_roundw
          case rel => exact ⟨i + 1, by omega, by go_num, by rw [HA.out, HOK.out], hB.alloc hB.size _⟩
          case measure => simp [intOf]; omega
        · have g2 : decide (xt ≤ 9) = true := decide_eq_true (by omega)
          have hba := below_alloc wr (.cells #[.int .i64 xt, .int .i64 xn] 34)
          have HO := Lib.hid (object_any (((HX.out.below hB (HX.out.lt)).below hba (Nat.lt_of_lt_of_le HX.out.lt hB.size))) (Rd.below (Rd.below HT.out hB) hba) HS.out ⟨xt, xn⟩)
          have HBA := Lib.hid (hB.trans (hba.mono hB.size))
          have e2 : (wr.alloc (.cells #[.int .i64 xt, .int .i64 xn] 34)).cell? ⟨bx, 0, none⟩ = some (.pointer (some ⟨q, 0, none⟩)) := Lib.cell?_alloc_some _ e1
          clear hba
          go_wp2_with fail
          refine HO.out.mono ?_
          rintro e w2 ⟨rfl, hb2⟩
          have HB2 := Lib.hid (HBA.out.trans (hb2.mono HBA.out.size))
          clear hb2
          by_cases h3 : objG (ts.map Prod.fst) ⟨xt, xn⟩ = 0
          · have g3 : (objG (ts.map Prod.fst) ⟨xt, xn⟩ == 0) = true := by simp [h3]
            have hok : okG (ts.map Prod.fst) ⟨xt, xn⟩ = false := decide_eq_false (by simp only; omega)
            have HR := Lib.hid (HF.out hok)
            clear hok
            go_wp2_with fail
            go_ret
            exact ⟨by first | (rw [HR.out]; rfl) | rw [HR.out], HB2.out⟩
          · have g3 : (objG (ts.map Prod.fst) ⟨xt, xn⟩ == 0) = false := by simp [h3]
            have hok : okG (ts.map Prod.fst) ⟨xt, xn⟩ = true := decide_eq_true (by simp only; omega)
            have HOK := Lib.hid hok
            clear hok
            go_wp2_with fail
            go_roundw
            case rel => exact ⟨i + 1, by omega, by go_num, by rw [HA.out, HOK.out], HB2.out⟩
            case measure => simp [intOf]; omega
    · obtain rfl : i = N := by omega
      have hr : allG (ts.map Prod.fst) l = true := by rw [HN.out, List.take_length] at hacc; exact hacc
      have HR := Lib.hid hr
      clear hacc hr
      go_wp2_with fail
      go_ret
      exact ⟨by first | (rw [HR.out]; rfl) | rw [HR.out], hB⟩
end Go.Proofs.YtminbemdcanakaaGreat
/- A graph is opened. -/
namespace Go.Proofs.YtminbemdcanakaaGreat
open Go.RowKit
set_option linter.unusedVariables false
set_option linter.unusedSimpArgs false

variable {w : World}
theorem infB : (Tryz.prog.info? 4).map (fun i => (i.zero, i.size, i.bytes)) = some (some (.bool false), 1, 1) := by kernel_rfl
theorem run_makeB (n : Nat) (hn : n ≤ 1000000) (w : World) :
    (Instr.makeSlice 53 (.int .i64 (n : Int)) (.int .i64 (n : Int))).run Tryz.prog w = .ok (.slice (some ⟨w.heap.size, 0, none⟩) n n) (w.alloc (.cells (madeCells #[Value.bool false] (n * 1)) 4)) := by
  obtain ⟨i, hi, hzz⟩ := Option.map_eq_some_iff.1 infB
  simp only [Prod.mk.injEq] at hzz
  obtain ⟨hz, hs, hb⟩ := hzz
  have hr := run_make (P := Tryz.prog) w 53 4 i _ Tryz.underlying53 hi hz .i64 .i64 n n (by omega) (Int.le_refl _) (by rw [hb]; omega) (by omega)
  simp only [Int.toNat_natCast, hs] at hr
  rw [hr]; rfl
def OpenP (w : World) (tv rv : Value) (e : Ending) (w' : World) : Prop := ∃ q nv, e = .returned (.pointer (some ⟨q, 0, none⟩)) ∧ Box w' q [tv, rv, nv, .slice none 0 0] 163 ∧ w.heap.size ≤ q ∧ Below w.heap.size w w'
set_option maxRecDepth 100000 in
set_option maxHeartbeats 4000000 in
theorem open_any {n : Nat} {ta : Option Addr} {tc : Nat} {ra : Option Addr} {rn rc : Nat} (hs : n ≤ 100000) : Calls Tryz.prog 119 #[.agg #[.slice ta n tc, .slice ra rn rc]] w fun e w' => OpenP w (.slice ta n tc) (.slice ra rn rc) e w' := by
  have hmk := run_makeB n (by omega)
  have hb0 := below_alloc w (.cells #[.slice ta n tc, .slice ra rn rc] 25)
  go_enter Tryz.func119, Tryz.ntmps119
  go_wp2_with fail
  go_region
  all_goals go_wp2_with fail
  all_goals (
    go_ret
    refine ⟨w.heap.size + 1 + 1, .slice (some ⟨w.heap.size + 1, 0, none⟩) n n, rfl, ?_, by omega, ?_⟩
    · have h := Box.new ((w.alloc (.cells #[.slice ta n tc, .slice ra rn rc] 25)).alloc (.cells (madeCells #[Value.bool false] n) 4)) [.slice ta n tc, .slice ra rn rc, .slice (some ⟨w.heap.size + 1, 0, none⟩) n n, .slice none 0 0] 163
      have e : ((w.alloc (.cells #[.slice ta n tc, .slice ra rn rc] 25)).alloc (.cells (madeCells #[Value.bool false] n) 4)).heap.size = w.heap.size + 1 + 1 := by simp
      rw [e] at h
      exact h.drew
    · exact below_drewN (((hb0.alloc (by simp) _)).alloc (by simp; omega) _) 1)
end Go.Proofs.YtminbemdcanakaaGreat
