/- How the world grows under reads that lay blocks: for the sort's comparer. -/
import Derived.Test.YtminbemdcanakaaGreatMG
import Derived.Sort.Grow
namespace Go.Proofs.YtminbemdcanakaaGreat
open Go.RowKit Go.Shelf
set_option linter.unusedVariables false
set_option linter.unusedSimpArgs false

def Gr (w w' : World) : Prop := ∃ q os, w' = Go.Sort.grow (w.drewN q) os
theorem gr_of {w w' : World} (hb : Below w.heap.size w w') (hd : w.drawn ≤ w'.drawn) : Gr w w' := by
  refine ⟨w'.drawn - w.drawn, w'.heap.extract w.heap.size w'.heap.size, ?_⟩
  have hh : w'.heap = w.heap ++ w'.heap.extract w.heap.size w'.heap.size := by
    apply Array.ext_getElem?
    intro k
    by_cases hk : k < w.heap.size
    · rw [hb.block k hk, Array.getElem?_append_left hk]
    · rw [Array.getElem?_append_right (by omega), Array.getElem?_extract]
      have hs := hb.size
      by_cases hk2 : k < w'.heap.size
      · rw [if_pos (by omega), show w.heap.size + (k - w.heap.size) = k by omega]
      · rw [if_neg (by omega), Array.getElem?_eq_none (by omega)]
  have h1 := hb.os
  have h2 := hb.tape
  have h3 := hb.output
  unfold Go.Sort.grow World.drewN
  cases w with
  | mk heap tape drawn os output =>
    cases w' with
    | mk heap' tape' drawn' os' output' =>
      simp only at *
      subst h1 h2 h3
      rw [← hh]
      congr 1
      omega
section
variable {P : Program} {w : World}
theorem run_append_ownD (base : Nat) (t ty e : TypeId) (i : TypeInfo) (z : Value) (size bytes : Nat) (ht : P.underlying t = some (.slice e)) (hi : P.info? e = some i) (hz : i.zero = some z)
    (hsize : i.size = size) (hby : i.bytes = bytes) (hzs : z.cells.size = size) (hsz : 0 < size)
    (v : Value) (n : Nat) (xs : List Value) (hown : w.ownsRow base e size v n xs)
    (a : Addr) (m c : Nat) (news : List Value) (hl : news.length = m * size) (hnews : ∀ j u, news[j]? = some u → w.cell? (a.add j) = some u) (h1 : ∀ u ∈ news, u.oneCell' = true)
    (h63 : n + m ≤ maxLen) (hbytes : (n + m) * bytes ≤ 140737488355328) (hbase : base ≤ w.heap.size) :
    ∃ v' w', (Builtin.append_ #[t, t] ty #[v, .slice (some a) m c]).run P w = .ok v' w' ∧ w'.ownsRow base e size v' (n + m) (xs ++ news) ∧ w.grownBy w' v.ownBlock ∧ w.drawn ≤ w'.drawn := by
  obtain ⟨v', w', hr, ho, hg, hiff⟩ := run_append_own (P := P) w base t ty e i z size bytes ht hi hz hsize hby hzs hsz v n xs hown a m c news hl hnews h1 h63 hbytes hbase
  refine ⟨v', w', hr, ho, hg, ?_⟩
  subst hsize
  subst hby
  have hsm : n + m ≤ 9223372036854775807 := by simp only [maxLen] at h63; omega
  have hlen := hown.1
  rcases hown.2 with ⟨rfl, rfl⟩ | ⟨g, cap, cur, rfl, hbg, hgg, hnc, hcm, hcs, htake⟩
  · by_cases hm : m = 0
    · subst hm
      have hn : news = [] := List.eq_nil_of_length_eq_zero (by simpa using hl)
      subst hn
      have hr2 : (Builtin.append_ #[t, t] ty #[.slice none 0 0, .slice (some a) 0 c]).run P w = .ok (.slice none 0 0) w := by
        simp [Builtin.append_, run_underlying ht, sizeOf, typeInfo, hi, Builtin.lenOf, Builtin.firstCells, loadCells, loadCellsFrom]
      rw [hr] at hr2
      cases hr2
      exact Nat.le_refl _
    · have hr2 := run_append_nil (P := P) (w := w) t ty e i z ht hi hz a m c news hl hnews (by omega) (by omega) (by simp only [Nat.zero_add] at hbytes; omega)
      rw [hr] at hr2
      cases hr2
      exact Nat.le_succ _
  · by_cases hroom : n + m ≤ cap
    · have hfit : n * i.size + news.length ≤ cur.size := by rw [hl, hcs, ← Nat.add_mul]; exact Nat.mul_le_mul_right _ hroom
      have hr2 := run_append_room (P := P) (w := w) t ty e i ht hi g n cap cur hgg a m c news hl hnews h1 hroom hfit
      rw [hr] at hr2
      cases hr2
      exact Nat.le_refl _
    · have holds : ∀ j u, xs[j]? = some u → w.cell? ((⟨g, 0, none⟩ : Addr).add j) = some u := hown.cells (g := g) rfl
      have hr2 := run_append_grow (P := P) (w := w) t ty e i z ht hi hz ⟨g, 0, none⟩ n cap xs hlen holds a m c news hl hnews (by omega) (by omega) (growslice_fits (by omega) hbytes)
      rw [hr] at hr2
      cases hr2
      exact Nat.le_succ _
theorem wpList_append_ownD {ops : Array Oper} {rest : List Oper} {o : Oper} {a : Act} {Q : Exit → Act → World → Prop} (w : World) (hgd : o.guard = none) (s x : Operand) (t : TypeId)
    (ho : o.op = .call { callee := .builtin .append, args := #[s, x], argTypes := #[t, t] })
    (base : Nat) (e : TypeId) (i : TypeInfo) (z : Value) (size bytes : Nat) (ht : P.underlying t = some (.slice e)) (hi : P.info? e = some i) (hz : i.zero = some z)
    (hsize : i.size = size) (hby : i.bytes = bytes) (hzs : z.cells.size = size) (hsz : 0 < size)
    (v : Value) (n : Nat) (xs : List Value) (hs : a.eval s = v) (hown : w.ownsRow base e size v n xs)
    (ad : Addr) (m c : Nat) (news : List Value) (hx : a.eval x = .slice (some ad) m c) (hl : news.length = m * size) (hnews : ∀ j u, news[j]? = some u → w.cell? (ad.add j) = some u) (h1 : ∀ u ∈ news, u.oneCell' = true)
    (h63 : n + m ≤ maxLen) (hbytes : (n + m) * bytes ≤ 140737488355328) (hbase : base ≤ w.heap.size)
    (h : ∀ v' w', w'.ownsRow base e size v' (n + m) (xs ++ news) → w.grownBy w' v.ownBlock → w.drawn ≤ w'.drawn → wpList P ops Q rest (a.put o.dst v') w') :
    wpList P ops Q (o :: rest) a w := by
  refine wpList_plain hgd fun K hK => ?_
  obtain ⟨v', w', hr, h2, h3, h4⟩ := run_append_ownD (P := P) (w := w) base t o.type e i z size bytes ht hi hz hsize hby hzs hsz v n xs hown ad m c news hl hnews h1 h63 hbytes hbase
  unfold Oper.wp execOp
  simp only [ho, resolve, invoke, builtin, Sem.run_bind, Sem.run_pure, Result.andThen_ok, List.map_toArray, List.map_cons, List.map_nil, hs, hx, hr]
  exact hK _ _ (h v' w' h2 h3 h4)
end
set_option maxRecDepth 100000 in
set_option maxHeartbeats 1000000 in
theorem cloneD_any {w : World} {v : Value} {n : Nat} {xs : List Value} (h : Rd w v n xs) (hs : n ≤ 100000) (hl : xs.length = n * 2) (h1 : ∀ u ∈ xs, u.oneCell' = true) : Calls Tryz.prog 75 #[v] w fun e w' => ∃ v', e = .returned v' ∧ w'.ownsRow w.heap.size 34 2 v' n xs ∧ Below w.heap.size w w' ∧ w.drawn ≤ w'.drawn := by
  obtain ⟨i0, hi0, hz0, hz1, hz2⟩ := info_parts infC2
  have q22 : ∀ (w : World) (a : Option Addr) (n c n' c' : Nat), (binOp .eql 23 (.slice a n c) (.slice none n' c')).run Tryz.prog w = .ok (.bool a.isNone) w := fun w a n c n' c' => Lib.run_eql_slice_nil w _ _ a n c n' c' Tryz.underlying23
  rcases h with ⟨rfl, rfl, hx⟩ | ⟨ad, c, rfl, hc⟩
  · go_enter Tryz.func75, Tryz.ntmps75
    go_wp2_with fail
    go_ret
    refine ⟨_, rfl, ?_, Below.refl _ _, Nat.le_refl _⟩
    rw [hx]
    exact World.ownsRow_nil _ _ _ _
  · have A := Lib.hid hc
    clear hc
    go_enter Tryz.func75, Tryz.ntmps75
    go_wp2_with (at_builtin; refine wpList_append_ownD _ rfl _ _ 23 rfl w.heap.size 34 i0 ((.agg #[.int .i64 0, .int .i64 0])) 2 16 Tryz.underlying23 hi0 hz0 hz1 hz2 rfl (by decide) _ _ _ rfl (World.ownsRow_made w #[] 0 (Nat.le_refl _) (Nat.zero_le _) rfl) ad n c xs rfl ?qc1 ?qc2 ?qc3 ?qc4 ?qc5 ?qc6 ?_)
    case qc1 => exact hl
    case qc2 =>
      intro j u hj
      exact Lib.cell?_alloc_some _ (A.out j u hj)
    case qc3 => exact h1
    case qc4 => unfold maxLen; omega
    case qc5 => omega
    case qc6 => simp
    intro v' w1 hown hgrow hdr
    have HDR := Lib.hid hdr
    clear hdr
    go_wp2
    go_ret
    refine ⟨v', rfl, by simpa using hown, ?_, HDR.out⟩
    exact ((Below.refl _ w).alloc (Nat.le_refl _) _).grown hgrow (by simp) (by intro k hk; simp [Value.ownBlock] at hk; omega)
variable {w : World} {L : ML} {M : Mm}
def ThingD (w : World) (o : Ob) (e : Ending) (w' : World) : Prop := ∃ v, e = .returned (thingV o v) ∧ w'.ownsRow w.heap.size 34 2 v o.slots.length (flatV o.slots) ∧ Below w.heap.size w w' ∧ w.drawn ≤ w'.drawn
set_option maxRecDepth 100000 in
set_option maxHeartbeats 2000000 in
theorem thingD_any (h : MemAt w L M) (hs : M.obs.length ≤ 100000) (hd : Int) (hss : ∀ o, M.at hd = some o → o.slots.length ≤ 100000) : Calls Tryz.prog 39 #[.pointer (some ⟨L.p, 0, none⟩), .int .i64 hd] w fun e w' => ThingD w (M.get hd) e w' := by
  unfold Mm.get
  have hz : Below w.heap.size w (w.alloc thingZ) := below_alloc _ _
  have hzb : Box (w.alloc thingZ) w.heap.size [.int .i64 0, .int .i64 0, .int .i64 0, .slice none 0 0, .int .i64 0] 36 := Box.new _ _ _
  cases ho : M.at hd with
  | none =>
    have HA := Lib.hid (at_none (h.below hz) hs ho)
    have HB := Lib.hid hzb
    have HL := Lib.hid hz
    clear h ho hzb hz
    go_enter Tryz.func39, Tryz.ntmps39
    go_wp2_with fail
    refine HA.out.mono ?_
    rintro e w1 ⟨rfl, rfl⟩
    go_wp2_with fail
    refine bodyPost_ret (res_thing rfl _ _ w.heap.size rfl HB.out) rfl ?_
    exact ⟨.slice none 0 0, rfl, World.ownsRow_nil _ _ _ _, HL.out, Nat.le_refl _⟩
  | some o =>
    obtain ⟨i, b, sv, g, c, rfl, hi, hcs, hob, hat, -, -⟩ := (h.below hz).some_at ho
    have HA := Lib.hid (at_some (h.below hz) hs hi hcs hob)
    have hn := hss o ho
    obtain ⟨sa, sc, rfl⟩ := row_slice hat.row
    have c0 := hat.box.cell 0
    have c1 := hat.box.cell 1
    have c2 := hat.box.cell 2
    have c3 := hat.box.cell 3
    have c4 := hat.box.cell 4
    simp only [obL, List.getElem?_cons_zero, List.getElem?_cons_succ] at c0 c1 c2 c3 c4
    have HT := Lib.hid hat
    have HZ := Lib.hid hz
    have HZB := Lib.hid hzb
    have HN := Lib.hid hn
    clear h ho hat hcs hob hz hzb
    go_enter Tryz.func39, Tryz.ntmps39
    go_wp2_with fail
    refine HA.out.mono ?_
    rintro e w1 ⟨rfl, rfl⟩
    go_wp2_with fail
    obtain ⟨w1, hw1⟩ : ∃ w1, w1 = (w.alloc thingZ).alloc (.cells #[.int .i64 o.kind, .int .i64 o.weak, .int .i64 o.array, .slice sa o.slots.length sc, .int .i64 o.fin] 36) := ⟨_, rfl⟩
    have hb1 : Below (w.alloc thingZ).heap.size (w.alloc thingZ) w1 := by rw [hw1]; exact below_alloc _ _
    have hs1 : w1.heap.size = w.heap.size + 2 := by rw [hw1]; simp
    have hbx1 : Box w1 (w.heap.size + 1) [.int .i64 o.kind, .int .i64 o.weak, .int .i64 o.array, .slice sa o.slots.length sc, .int .i64 o.fin] 36 := by
      have := Box.new (w.alloc thingZ) [.int .i64 o.kind, .int .i64 o.weak, .int .i64 o.array, .slice sa o.slots.length sc, .int .i64 o.fin] 36
      rw [show (w.alloc thingZ).heap.size = w.heap.size + 1 by simp] at this
      rw [hw1]; exact this
    have hcl := cloneD_any (rd_row (ownsRow_of_block HT.out.row fun k hk => hb1.block k (HT.out.row.lt k hk).2)) HN.out (flatV_len _) (flatV_one _)
    rw [← hw1]
    refine hcl.mono ?_
    rintro e w2 ⟨v, rfl, hv, hb2, hd2⟩
    have hd3 : w.drawn ≤ w2.drawn := by rw [hw1] at hd2; exact hd2
    obtain ⟨va, vc, rfl⟩ := row_slice hv
    have z := (HZB.out.below hb1 (by simp)).below hb2 (by omega)
    have x := hbx1.below hb2 (by omega)
    have zc0 := z.cell 0
    have zc1 := z.cell 1
    have zc2 := z.cell 2
    have zc3 := z.cell 3
    have zc4 := z.cell 4
    have xc0 := x.cell 0
    have xc1 := x.cell 1
    have xc2 := x.cell 2
    have xc3 := x.cell 3
    have xc4 := x.cell 4
    simp only [List.getElem?_cons_zero, List.getElem?_cons_succ] at zc0 zc1 zc2 zc3 zc4 xc0 xc1 xc2 xc3 xc4
    have zf0 := z.free 0
    have zf1 := z.free 1
    have zf2 := z.free 2
    have zf3 := z.free 3
    have zf4 := z.free 4
    have xf3 := x.free 3
    have HX := Lib.hid (put5_box (z.setOther (W := w2) ⟨w.heap.size + 1, 3, none⟩ (by simp) (.slice va o.slots.length vc)) (.int .i64 o.kind) (.int .i64 o.weak) (.int .i64 o.array) (.slice va o.slots.length vc) (.int .i64 o.fin))
    have HQ : Hid (ThingD w o (.returned (thingV o (.slice va o.slots.length vc))) (put5 (w2.setCell ⟨w.heap.size + 1, 3, none⟩ (.slice va o.slots.length vc)) w.heap.size (.int .i64 o.kind) (.int .i64 o.weak) (.int .i64 o.array) (.slice va o.slots.length vc) (.int .i64 o.fin))) := by
      refine Lib.hid ⟨_, rfl, ?_, ?_, hd3⟩
      · have hne : ∀ (q : Nat) (j : Nat), q < w1.heap.size → (Value.slice va o.slots.length vc).ownBlock ≠ some (⟨q, j, none⟩ : Addr).block := fun q j hq e => by have := (hv.lt _ e).1; simp only at this; omega
        refine row_of_base (ownsRow_setCell_other (ownsRow_setCell_other (ownsRow_setCell_other (ownsRow_setCell_other (ownsRow_setCell_other (ownsRow_setCell_other hv (hne _ _ (by omega)) _) (hne _ _ (by omega)) _) (hne _ _ (by omega)) _) (hne _ _ (by omega)) _) (hne _ _ (by omega)) _) (hne _ _ (by omega)) _) fun k e => ?_
        have := (hv.lt k e).1
        omega
      · have hq1 : Below w.heap.size w w1 := HZ.out.trans (hb1.mono (by simp))
        have hq2 : Below w.heap.size w w2 := hq1.trans (hb2.mono (by omega))
        exact (hq2.setCell (p := ⟨w.heap.size + 1, 3, none⟩) (by simp) _).trans (put5_below (Nat.le_refl _) _ _ _ _ _)
    clear z x hb2 hv hcl hbx1 hw1 hb1 hd2 hd3
    go_wp2_with fail
    refine bodyPost_ret (res_thing rfl _ _ w.heap.size rfl HX.out) rfl ?_
    exact HQ.out
end Go.Proofs.YtminbemdcanakaaGreat
