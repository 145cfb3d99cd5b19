/- reach.Right: is it a graph? -/
import Derived.Test.YtminbemdcanakaaGreatMD
namespace Go.Proofs.YtminbemdcanakaaGreat
open Go.RowKit Go.MapKept
set_option linter.unusedVariables false
set_option linter.unusedSimpArgs false

def okOb (o : Ob) : Bool := decide (4 ≤ o.kind ∧ o.kind ≤ 9 ∧ 0 ≤ o.weak ∧ o.weak ≤ 3 ∧ 0 ≤ o.array ∧ 0 ≤ o.fin ∧ (o.kind = 5 ∨ (o.weak = 0 ∧ o.fin = 0)))
def okOb2 (all : List Ob) (seen : List Int) (o : Ob) : Bool := decide (¬ (0 < o.array ∧ (o.slots.length : Int) ≤ o.array) ∧ ¬ (0 < o.fin ∧ o.fin ∈ seen)) && allG all o.slots
def rightF (all : List Ob) : List Int → List Ob → Bool
  | _, [] => true
  | seen, o :: l => okOb o && okOb2 all seen o && rightF all (o.fin :: seen) l
def rightG (ts : List Ob) (roots : List V) : Bool := rightF ts [] ts && allG ts roots

def obj? (w : World) (n : Nat) : Option Obj := w.heap[n]?
theorem obj_alloc (w : World) (o : Obj) (n : Nat) (h : n < w.heap.size) : obj? (w.alloc o) n = obj? w n := Below.heap_alloc w o n h
theorem obj_drew (w : World) (n : Nat) : obj? w.drew n = obj? w n := rfl
theorem obj_setCell (w : World) (n m i : Nat) (v : Value) (h : n ≠ m) : obj? (w.setCell ⟨m, i, none⟩ v) n = obj? w n := Below.heap_setCell _ _ _ _ h
attribute [local go_sem] obj_alloc obj_drew obj_setCell
theorem zeroB (w : World) : (zeroValue 4).run Tryz.prog w = .ok (.bool false) w := by kernel_rfl

def mapS (seen : List Int) : Int → Option Value := fun k => if k ∈ seen then some (.bool true) else none
theorem updS (seen : List Int) (k : Int) : updM (mapS seen) k (some (.bool true)) = mapS (k :: seen) := by
  funext j
  unfold updM mapS
  by_cases h : j = k
  · subst h; simp
  · rw [if_neg h]; simp [h]
/-- What reach.Right has made. -/
structure RS (w wr : World) (tv rv nv : Value) (q bx mb : Nat) (seen : List Int) : Prop where
  hb : Box wr bx [.pointer (some ⟨q, 0, none⟩)] 146
  hq : Box wr q [tv, rv, nv, .slice none 0 0] 163
  hm : IntMapAt wr mb (mapS seen)
  ne1 : mb ≠ bx
  ne2 : mb ≠ q
  hmb : w.heap.size ≤ mb
  hg : Box wr w.heap.size [tv, rv] 25
  ne3 : mb ≠ w.heap.size
  below : Below w.heap.size w wr
theorem RS.next {w wr wr' : World} {tv rv nv : Value} {q bx mb : Nat} {seen : List Int} (h : RS w wr tv rv nv q bx mb seen) (hb : Below wr.heap.size wr wr') : RS w wr' tv rv nv q bx mb seen :=
  ⟨h.hb.below hb h.hb.lt, h.hq.below hb h.hq.lt, h.hm.of_block (hb.block _ h.hm.lt), h.ne1, h.ne2, h.hmb, h.hg.below hb h.hg.lt, h.ne3, h.below.trans (hb.mono h.below.size)⟩
theorem RS.turn {w wr wr' : World} {tv rv nv : Value} {q bx mb : Nat} {seen : List Int} {k : Int} (h : RS w wr tv rv nv q bx mb seen) (hm : IntMapAt wr' mb (updM (mapS seen) k (some (.bool true)))) (hg : wr.grownBy wr' (some mb)) : RS w wr' tv rv nv q bx mb (k :: seen) :=
  ⟨h.hb.of_block (hg.block _ h.hb.lt (fun e => h.ne1 (Option.some.inj e).symm)), h.hq.of_block (hg.block _ h.hq.lt (fun e => h.ne2 (Option.some.inj e).symm)), by rw [← updS]; exact hm, h.ne1, h.ne2, h.hmb, h.hg.of_block (hg.block _ h.hg.lt (fun e => h.ne3 (Option.some.inj e).symm)), h.ne3, h.below.grown hg h.below.size (fun j e => by cases e; exact h.hmb)⟩

variable {w : World}
set_option maxRecDepth 100000 in
set_option maxHeartbeats 20000000 in
theorem right_any {tv rv : Value} {ts : List (Ob × Value)} {roots : List V} (hg : GrAt w tv rv ts roots) (hs : ts.length ≤ 100000) (hss : ∀ o sv, (o, sv) ∈ ts → o.slots.length ≤ 100000) (hsr : roots.length ≤ 100000) :
    Calls Tryz.prog 71 #[.agg #[tv, rv]] w fun e w' => AllP w (rightG (ts.map Prod.fst) roots) e w' := by
  have hmf : ∀ (fn : Fn) (first cap : Array Value) (w : World), (Instr.makeFunc fn first cap).run Tryz.prog w = .ok (.func fn first cap) w := fun _ _ _ _ => rfl
  have hmm := @run_makeMap Tryz.prog
  obtain ⟨ta, tc, rfl⟩ := rd_slice hg.things
  obtain ⟨ra, rc, rfl⟩ := rd_slice hg.roots
  obtain ⟨N, hN⟩ : ∃ N, N = ts.length := ⟨_, rfl⟩
  obtain ⟨RN, hRN⟩ : ∃ N, N = roots.length := ⟨_, rfl⟩
  have hb0 := below_alloc w (.cells #[.slice ta N tc, .slice ra RN rc] 25)
  have HO := Lib.hid (open_any (w := w.alloc (.cells #[.slice ta N tc, .slice ra RN rc] 25)) (n := N) (ta := ta) (tc := tc) (ra := ra) (rn := RN) (rc := rc) (by omega))
  have HG := Lib.hid hg
  have HT0 := Lib.hid (show Rd w (.slice ta N tc) ts.length (flatT ts) by rw [hN]; exact hg.things)
  have HRV := Lib.hid (show RdV w (.slice ra RN rc) roots by rw [hRN]; exact hg.roots)
  have HN := Lib.hid hN
  have HRN := Lib.hid hRN
  have HSS := Lib.hid hss
  have HS := Lib.hid hs
  have HSR := Lib.hid hsr
  have HB0 := Lib.hid hb0
  rw [← hN, ← hRN]
  rw [← hN] at hs
  clear hg hN hRN hss hb0 hsr
  go_enter Tryz.func71, Tryz.ntmps71
  go_wp2_with fail
  refine HO.out.mono ?_
  rintro e w1 ⟨q, nv, rfl, hq, hqs, hb1⟩
  have h25 := (Box.new w [.slice ta N tc, .slice ra RN rc] 25).below hb1 (by simp)
  have g0' := h25.cell 0
  have g1' := h25.cell 1
  simp only [List.getElem?_cons_zero, List.getElem?_cons_succ] at g0' g1'
  have g0 : ((w1.alloc (.cells #[.pointer (some ⟨q, 0, none⟩)] 146)).alloc (.map #[] 0)).cell? ⟨w.heap.size, 0, none⟩ = some (.slice ta N tc) := Lib.cell?_alloc_some _ (Lib.cell?_alloc_some _ g0')
  have G25 := Lib.hid h25
  have HX := Lib.hid (hq)
  have HQS := Lib.hid hqs
  have HB1 := Lib.hid hb1
  have hw1 := hb1.size
  have hw1' : w.heap.size + 1 ≤ w1.heap.size := by simpa using hw1
  have hR0 : RS w ((w1.alloc (.cells #[.pointer (some ⟨q, 0, none⟩)] 146)).alloc (.map #[] 0)) (.slice ta N tc) (.slice ra RN rc) nv q w1.heap.size (w1.heap.size + 1) [] := by
    have hq1 := hq.lt
    refine ⟨(Box.new w1 [.pointer (some ⟨q, 0, none⟩)] 146).alloc _, (hq.alloc _).alloc _, ⟨#[], 0, ?_, by simp [IntKeys], by simp [NodupKeys], by intro k v; simp [mapS]⟩, by omega, by omega, by omega, (G25.out.alloc _).alloc _, by omega, ?_⟩
    · have := World.alloc_heap_new (w1.alloc (.cells #[.pointer (some ⟨q, 0, none⟩)] 146)) (.map #[] 0)
      rw [show (w1.alloc (.cells #[.pointer (some ⟨q, 0, none⟩)] 146)).heap.size = w1.heap.size + 1 by simp] at this
      exact this
    · exact ((HB0.out.trans (hb1.mono (by simp))).alloc (by omega) _).alloc (by simp; omega) _
  have HR0 := Lib.hid hR0
  clear hq hqs hb1 h25 hw1 g0' g1' hR0
  go_wp2_with fail
  go_loopw [15] (fun t15 wr => ∃ (i : Nat) (seen : List Int), i ≤ N ∧ t15 = .int .i64 i ∧ rightF (ts.map Prod.fst) [] (ts.map Prod.fst) = rightF (ts.map Prod.fst) seen ((ts.drop i).map Prod.fst) ∧ RS w wr (.slice ta N tc) (.slice ra RN rc) nv q w1.heap.size (w1.heap.size + 1) seen) (fun t15 _ => N - (intOf t15).toNat)
  case atStart => exact ⟨0, [], Nat.zero_le _, by go_num, rfl, HR0.out⟩
  case round =>
    obtain ⟨i, seen, hi, rfl, hacc, R⟩ := hrel
    by_cases hlt : i < N
    · obtain ⟨⟨o, sv⟩, hx⟩ : ∃ x, ts[i]? = some x := ⟨ts[i]'(by rw [← HN.out]; exact hlt), List.getElem?_eq_getElem _⟩
      have hdrop : ts.drop i = (o, sv) :: ts.drop (i + 1) := by
        obtain ⟨hl, e⟩ := List.getElem?_eq_some_iff.1 hx
        rw [List.drop_eq_getElem_cons hl, e]
      have hmem : (o, sv) ∈ ts := List.mem_of_getElem? hx
      obtain ⟨ad, c2, ha, hc⟩ := rd_at (Rd.below HG.out.things R.below) (by intro e; have := flatT_len ts; rw [e] at this; simp at this; have := HN.out; omega)
      simp only [Value.slice.injEq] at ha
      obtain ⟨rfl, -, rfl⟩ := ha
      obtain ⟨f0, f1, f2, f3, f4⟩ := flatT_at _ _ _ hx
      have d0 := hc _ _ f0
      have d1 := cell_more (hc _ _ f1)
      have d2 := cell_more (k := 1) (hc _ _ f2)
      have d3 := cell_more (k := 2) (hc _ _ f3)
      have d4 := cell_more (k := 3) (hc _ _ f4)
      have hsl := HG.out.slots o sv hmem
      have hsz := HSS.out o sv hmem
      obtain ⟨sa, sc, rfl⟩ := rd_slice hsl
      simp only [Nat.zero_add, Nat.reduceAdd] at d0 d1 d2 d3 d4
      have hstep : rightF (ts.map Prod.fst) [] (ts.map Prod.fst) = (okOb o && okOb2 (ts.map Prod.fst) seen o && rightF (ts.map Prod.fst) (o.fin :: seen) ((ts.drop (i + 1)).map Prod.fst)) := by
        rw [hacc, hdrop]; rfl
      have hW : RS w (wr.alloc (.cells #[.int .i64 o.kind, .int .i64 o.weak, .int .i64 o.array, .slice sa o.slots.length sc, .int .i64 o.fin] 36)) (.slice (some ad) N tc) (.slice ra RN rc) nv q w1.heap.size (w1.heap.size + 1) seen := R.next (below_alloc _ _)
      have hfalse : (okOb o && okOb2 (ts.map Prod.fst) seen o) = false → rightG (ts.map Prod.fst) roots = false := by
        intro h; unfold rightG; rw [hstep, h]; rfl
      have HF := Lib.hid hfalse
      have HST := Lib.hid hstep
      have HRA := Lib.hid hW
      have HSL := Lib.hid hsl
      have hszR := Lib.hid hsz
      obtain ⟨es, clock, hm, hrep⟩ := R.hm
      have hmb := R.hm.lt
      have hlook : ∀ W : World, obj? W (w1.heap.size + 1) = some (.map es clock) → (Instr.lookup 148 (.map (some (w1.heap.size + 1))) (.int .i64 o.fin) false).run Tryz.prog W = .ok (.bool (decide (o.fin ∈ seen))) W := fun W hW => by
        rw [run_lookup_int Tryz.underlying148 Tryz.underlying3 (zeroB W) hW hrep o.fin false]
        unfold mapS
        by_cases h : o.fin ∈ seen
        · rw [if_pos h, decide_eq_true h]; rfl
        · rw [if_neg h, decide_eq_false h]; rfl
      have hm' : obj? wr (w1.heap.size + 1) = some (.map es clock) := hm
      clear hfalse hstep hW hsl hmem hdrop hx f0 f1 f2 f3 f4 hc hacc hm hrep
      by_cases k1 : o.kind < 4
      · have e1 : decide (o.kind < 4) = true := decide_eq_true k1
        have hf := HF.out (by (rw [show okOb o = false from decide_eq_false (by omega)]; rfl))
        have HR := Lib.hid hf
        clear hf
        go_wp2_with fail
        go_ret
        exact ⟨by first | (rw [HR.out]; rfl) | rw [HR.out], HRA.out.below⟩
      have e1 : decide (o.kind < 4) = false := decide_eq_false k1
      by_cases k2 : 9 < o.kind
      · have e2 : decide (9 < o.kind) = true := decide_eq_true k2
        have hf := HF.out (by (rw [show okOb o = false from decide_eq_false (by omega)]; rfl))
        have HR := Lib.hid hf
        clear hf
        go_wp2_with fail
        go_ret
        exact ⟨by first | (rw [HR.out]; rfl) | rw [HR.out], HRA.out.below⟩
      have e2 : decide (9 < o.kind) = false := decide_eq_false k2
      by_cases k3 : o.weak < 0
      · have e3 : decide (o.weak < 0) = true := decide_eq_true k3
        have hf := HF.out (by (rw [show okOb o = false from decide_eq_false (by omega)]; rfl))
        have HR := Lib.hid hf
        clear hf
        go_wp2_with fail
        go_ret
        exact ⟨by first | (rw [HR.out]; rfl) | rw [HR.out], HRA.out.below⟩
      have e3 : decide (o.weak < 0) = false := decide_eq_false k3
      by_cases k4 : 3 < o.weak
      · have e4 : decide (3 < o.weak) = true := decide_eq_true k4
        have hf := HF.out (by (rw [show okOb o = false from decide_eq_false (by omega)]; rfl))
        have HR := Lib.hid hf
        clear hf
        go_wp2_with fail
        go_ret
        exact ⟨by first | (rw [HR.out]; rfl) | rw [HR.out], HRA.out.below⟩
      have e4 : decide (3 < o.weak) = false := decide_eq_false k4
      by_cases k5 : o.array < 0
      · have e5 : decide (o.array < 0) = true := decide_eq_true k5
        have hf := HF.out (by (rw [show okOb o = false from decide_eq_false (by omega)]; rfl))
        have HR := Lib.hid hf
        clear hf
        go_wp2_with fail
        go_ret
        exact ⟨by first | (rw [HR.out]; rfl) | rw [HR.out], HRA.out.below⟩
      have e5 : decide (o.array < 0) = false := decide_eq_false k5
      by_cases k6 : o.fin < 0
      · have e6 : decide (o.fin < 0) = true := decide_eq_true k6
        have hf := HF.out (by (rw [show okOb o = false from decide_eq_false (by omega)]; rfl))
        have HR := Lib.hid hf
        clear hf
        go_wp2_with fail
        go_ret
        exact ⟨by first | (rw [HR.out]; rfl) | rw [HR.out], HRA.out.below⟩
      have e6 : decide (o.fin < 0) = false := decide_eq_false k6
      by_cases k7 : o.kind = 5
      · have e7 : (o.kind != 5) = false := by rw [k7]; rfl
        have HOK := Lib.hid (show okOb o = true from decide_eq_true (by omega))
        clear k7
        by_cases m1 : 0 < o.array
        · have x1 : decide (0 < o.array) = true := decide_eq_true m1
          by_cases m2 : (o.slots.length : Int) ≤ o.array
          · have x2 : decide ((o.slots.length : Int) ≤ o.array) = true := decide_eq_true m2
            have hbad : okOb2 (ts.map Prod.fst) seen o = false := by unfold okOb2; rw [decide_eq_false (fun h => h.1 ⟨m1, m2⟩)]; rfl
            have HBAD := Lib.hid hbad
            clear hbad
            have hf := HF.out (by (rw [HBAD.out, Bool.and_false]))
            have HR := Lib.hid hf
            clear hf
            go_wp2_with fail
            go_ret
            exact ⟨by first | (rw [HR.out]; rfl) | rw [HR.out], HRA.out.below⟩
          · have x2 : decide ((o.slots.length : Int) ≤ o.array) = false := decide_eq_false m2
            have harr : ¬ (0 < o.array ∧ (o.slots.length : Int) ≤ o.array) := fun h => m2 h.2
            have HARR := Lib.hid harr
            clear harr
            by_cases m3 : 0 < o.fin
            · have x3 : decide (0 < o.fin) = true := decide_eq_true m3
              by_cases m4 : o.fin ∈ seen
              · simp only [decide_eq_true m4] at hlook
                have hbad : okOb2 (ts.map Prod.fst) seen o = false := by unfold okOb2; rw [decide_eq_false (fun h => h.2 ⟨m3, m4⟩)]; rfl
                have HBAD := Lib.hid hbad
                clear hbad m4
                have hf := HF.out (by (rw [HBAD.out, Bool.and_false]))
                have HR := Lib.hid hf
                clear hf
                go_wp2_with fail
                go_ret
                exact ⟨by first | (rw [HR.out]; rfl) | rw [HR.out], HRA.out.below⟩
              · simp only [decide_eq_false m4] at hlook
                have HMEM := Lib.hid (show ¬ (0 < o.fin ∧ o.fin ∈ seen) from fun h => m4 h.2)
                clear m4
                have hb1 : (wr.alloc (.cells #[.int .i64 o.kind, .int .i64 o.weak, .int .i64 o.array, .slice sa o.slots.length sc, .int .i64 o.fin] 36)).cell? ⟨w1.heap.size, 0, none⟩ = some (.pointer (some ⟨q, 0, none⟩)) := HRA.out.hb.cell 0
                have HALL := Lib.hid (all_any hb1 HRA.out.hq (Rd.below HT0.out HRA.out.below) HS.out (Rd.below HSL.out HRA.out.below) hszR.out)
                have hthing := Box.new wr [.int .i64 o.kind, .int .i64 o.weak, .int .i64 o.array, .slice sa o.slots.length sc, .int .i64 o.fin] 36
                have HTH := Lib.hid hthing
                clear hthing hb1
                go_wp2_with fail
                refine HALL.out.mono ?_
                rintro e w2 ⟨rfl, hb2⟩
                have R2 := HRA.out.next hb2
                have c4 := (HTH.out.below hb2 (by simp)).cell 4
                simp only [List.getElem?_cons_zero, List.getElem?_cons_succ] at c4
                clear hb2
                cases hall : allG (ts.map Prod.fst) o.slots with
                | false =>
                  have hf := HF.out (by rw [show okOb2 (ts.map Prod.fst) seen o = false by unfold okOb2; rw [hall, Bool.and_false], Bool.and_false])
                  have HR := Lib.hid hf
                  clear hf hall
                  go_wp2_with fail
                  go_ret
                  exact ⟨by first | (rw [HR.out]; rfl) | rw [HR.out], R2.below⟩
                | true =>
                  have hs2 : rightF (ts.map Prod.fst) [] (ts.map Prod.fst) = rightF (ts.map Prod.fst) (o.fin :: seen) ((ts.drop (i + 1)).map Prod.fst) := by
                    rw [HST.out, HOK.out, show okOb2 (ts.map Prod.fst) seen o = true by unfold okOb2; rw [hall, decide_eq_true ⟨HARR.out, HMEM.out⟩]; rfl]
                    rfl
                  have HS2 := Lib.hid hs2
                  have R2H := Lib.hid R2
                  clear hs2 hall R2
                  go_wp2_with (at_mapUpdate; refine wpList_mapUpdate_i rfl _ _ _ 148 rfl 3 4 Tryz.underlying148 Tryz.underlying3 (w1.heap.size + 1) _ R2H.out.hm rfl o.fin rfl (.bool true) rfl ?_)
                  intro w3 hm3 hg3 hz3
                  have R3 := Lib.hid (R2H.out.turn hm3 hg3)
                  clear hm3 hg3 hz3
                  go_wp2_with fail
                  go_roundw
                  case rel => exact ⟨i + 1, _, by omega, by go_num, HS2.out, R3.out⟩
                  case measure => simp [intOf]; omega
            · have x3 : decide (0 < o.fin) = false := decide_eq_false m3
              have HMEM := Lib.hid (show ¬ (0 < o.fin ∧ o.fin ∈ seen) from fun h => m3 h.1)
              clear hlook
              have hb1 : (wr.alloc (.cells #[.int .i64 o.kind, .int .i64 o.weak, .int .i64 o.array, .slice sa o.slots.length sc, .int .i64 o.fin] 36)).cell? ⟨w1.heap.size, 0, none⟩ = some (.pointer (some ⟨q, 0, none⟩)) := HRA.out.hb.cell 0
              have HALL := Lib.hid (all_any hb1 HRA.out.hq (Rd.below HT0.out HRA.out.below) HS.out (Rd.below HSL.out HRA.out.below) hszR.out)
              have hthing := Box.new wr [.int .i64 o.kind, .int .i64 o.weak, .int .i64 o.array, .slice sa o.slots.length sc, .int .i64 o.fin] 36
              have HTH := Lib.hid hthing
              clear hthing hb1
              go_wp2_with fail
              refine HALL.out.mono ?_
              rintro e w2 ⟨rfl, hb2⟩
              have R2 := HRA.out.next hb2
              have c4 := (HTH.out.below hb2 (by simp)).cell 4
              simp only [List.getElem?_cons_zero, List.getElem?_cons_succ] at c4
              clear hb2
              cases hall : allG (ts.map Prod.fst) o.slots with
              | false =>
                have hf := HF.out (by rw [show okOb2 (ts.map Prod.fst) seen o = false by unfold okOb2; rw [hall, Bool.and_false], Bool.and_false])
                have HR := Lib.hid hf
                clear hf hall
                go_wp2_with fail
                go_ret
                exact ⟨by first | (rw [HR.out]; rfl) | rw [HR.out], R2.below⟩
              | true =>
                have hs2 : rightF (ts.map Prod.fst) [] (ts.map Prod.fst) = rightF (ts.map Prod.fst) (o.fin :: seen) ((ts.drop (i + 1)).map Prod.fst) := by
                  rw [HST.out, HOK.out, show okOb2 (ts.map Prod.fst) seen o = true by unfold okOb2; rw [hall, decide_eq_true ⟨HARR.out, HMEM.out⟩]; rfl]
                  rfl
                have HS2 := Lib.hid hs2
                have R2H := Lib.hid R2
                clear hs2 hall R2
                go_wp2_with (at_mapUpdate; refine wpList_mapUpdate_i rfl _ _ _ 148 rfl 3 4 Tryz.underlying148 Tryz.underlying3 (w1.heap.size + 1) _ R2H.out.hm rfl o.fin rfl (.bool true) rfl ?_)
                intro w3 hm3 hg3 hz3
                have R3 := Lib.hid (R2H.out.turn hm3 hg3)
                clear hm3 hg3 hz3
                go_wp2_with fail
                go_roundw
                case rel => exact ⟨i + 1, _, by omega, by go_num, HS2.out, R3.out⟩
                case measure => simp [intOf]; omega
        · have x1 : decide (0 < o.array) = false := decide_eq_false m1
          have harr : ¬ (0 < o.array ∧ (o.slots.length : Int) ≤ o.array) := fun h => m1 h.1
          have HARR := Lib.hid harr
          clear harr
          by_cases m3 : 0 < o.fin
          · have x3 : decide (0 < o.fin) = true := decide_eq_true m3
            by_cases m4 : o.fin ∈ seen
            · simp only [decide_eq_true m4] at hlook
              have hbad : okOb2 (ts.map Prod.fst) seen o = false := by unfold okOb2; rw [decide_eq_false (fun h => h.2 ⟨m3, m4⟩)]; rfl
              have HBAD := Lib.hid hbad
              clear hbad m4
              have hf := HF.out (by (rw [HBAD.out, Bool.and_false]))
              have HR := Lib.hid hf
              clear hf
              go_wp2_with fail
              go_ret
              exact ⟨by first | (rw [HR.out]; rfl) | rw [HR.out], HRA.out.below⟩
            · simp only [decide_eq_false m4] at hlook
              have HMEM := Lib.hid (show ¬ (0 < o.fin ∧ o.fin ∈ seen) from fun h => m4 h.2)
              clear m4
              have hb1 : (wr.alloc (.cells #[.int .i64 o.kind, .int .i64 o.weak, .int .i64 o.array, .slice sa o.slots.length sc, .int .i64 o.fin] 36)).cell? ⟨w1.heap.size, 0, none⟩ = some (.pointer (some ⟨q, 0, none⟩)) := HRA.out.hb.cell 0
              have HALL := Lib.hid (all_any hb1 HRA.out.hq (Rd.below HT0.out HRA.out.below) HS.out (Rd.below HSL.out HRA.out.below) hszR.out)
              have hthing := Box.new wr [.int .i64 o.kind, .int .i64 o.weak, .int .i64 o.array, .slice sa o.slots.length sc, .int .i64 o.fin] 36
              have HTH := Lib.hid hthing
              clear hthing hb1
              go_wp2_with fail
              refine HALL.out.mono ?_
              rintro e w2 ⟨rfl, hb2⟩
              have R2 := HRA.out.next hb2
              have c4 := (HTH.out.below hb2 (by simp)).cell 4
              simp only [List.getElem?_cons_zero, List.getElem?_cons_succ] at c4
              clear hb2
              cases hall : allG (ts.map Prod.fst) o.slots with
              | false =>
                have hf := HF.out (by rw [show okOb2 (ts.map Prod.fst) seen o = false by unfold okOb2; rw [hall, Bool.and_false], Bool.and_false])
                have HR := Lib.hid hf
                clear hf hall
                go_wp2_with fail
                go_ret
                exact ⟨by first | (rw [HR.out]; rfl) | rw [HR.out], R2.below⟩
              | true =>
                have hs2 : rightF (ts.map Prod.fst) [] (ts.map Prod.fst) = rightF (ts.map Prod.fst) (o.fin :: seen) ((ts.drop (i + 1)).map Prod.fst) := by
                  rw [HST.out, HOK.out, show okOb2 (ts.map Prod.fst) seen o = true by unfold okOb2; rw [hall, decide_eq_true ⟨HARR.out, HMEM.out⟩]; rfl]
                  rfl
                have HS2 := Lib.hid hs2
                have R2H := Lib.hid R2
                clear hs2 hall R2
                go_wp2_with (at_mapUpdate; refine wpList_mapUpdate_i rfl _ _ _ 148 rfl 3 4 Tryz.underlying148 Tryz.underlying3 (w1.heap.size + 1) _ R2H.out.hm rfl o.fin rfl (.bool true) rfl ?_)
                intro w3 hm3 hg3 hz3
                have R3 := Lib.hid (R2H.out.turn hm3 hg3)
                clear hm3 hg3 hz3
                go_wp2_with fail
                go_roundw
                case rel => exact ⟨i + 1, _, by omega, by go_num, HS2.out, R3.out⟩
                case measure => simp [intOf]; omega
          · have x3 : decide (0 < o.fin) = false := decide_eq_false m3
            have HMEM := Lib.hid (show ¬ (0 < o.fin ∧ o.fin ∈ seen) from fun h => m3 h.1)
            clear hlook
            have hb1 : (wr.alloc (.cells #[.int .i64 o.kind, .int .i64 o.weak, .int .i64 o.array, .slice sa o.slots.length sc, .int .i64 o.fin] 36)).cell? ⟨w1.heap.size, 0, none⟩ = some (.pointer (some ⟨q, 0, none⟩)) := HRA.out.hb.cell 0
            have HALL := Lib.hid (all_any hb1 HRA.out.hq (Rd.below HT0.out HRA.out.below) HS.out (Rd.below HSL.out HRA.out.below) hszR.out)
            have hthing := Box.new wr [.int .i64 o.kind, .int .i64 o.weak, .int .i64 o.array, .slice sa o.slots.length sc, .int .i64 o.fin] 36
            have HTH := Lib.hid hthing
            clear hthing hb1
            go_wp2_with fail
            refine HALL.out.mono ?_
            rintro e w2 ⟨rfl, hb2⟩
            have R2 := HRA.out.next hb2
            have c4 := (HTH.out.below hb2 (by simp)).cell 4
            simp only [List.getElem?_cons_zero, List.getElem?_cons_succ] at c4
            clear hb2
            cases hall : allG (ts.map Prod.fst) o.slots with
            | false =>
              have hf := HF.out (by rw [show okOb2 (ts.map Prod.fst) seen o = false by unfold okOb2; rw [hall, Bool.and_false], Bool.and_false])
              have HR := Lib.hid hf
              clear hf hall
              go_wp2_with fail
              go_ret
              exact ⟨by first | (rw [HR.out]; rfl) | rw [HR.out], R2.below⟩
            | true =>
              have hs2 : rightF (ts.map Prod.fst) [] (ts.map Prod.fst) = rightF (ts.map Prod.fst) (o.fin :: seen) ((ts.drop (i + 1)).map Prod.fst) := by
                rw [HST.out, HOK.out, show okOb2 (ts.map Prod.fst) seen o = true by unfold okOb2; rw [hall, decide_eq_true ⟨HARR.out, HMEM.out⟩]; rfl]
                rfl
              have HS2 := Lib.hid hs2
              have R2H := Lib.hid R2
              clear hs2 hall R2
              go_wp2_with (at_mapUpdate; refine wpList_mapUpdate_i rfl _ _ _ 148 rfl 3 4 Tryz.underlying148 Tryz.underlying3 (w1.heap.size + 1) _ R2H.out.hm rfl o.fin rfl (.bool true) rfl ?_)
              intro w3 hm3 hg3 hz3
              have R3 := Lib.hid (R2H.out.turn hm3 hg3)
              clear hm3 hg3 hz3
              go_wp2_with fail
              go_roundw
              case rel => exact ⟨i + 1, _, by omega, by go_num, HS2.out, R3.out⟩
              case measure => simp [intOf]; omega
      have e7 : (o.kind != 5) = true := by simp [k7]
      by_cases k8 : o.weak = 0
      · have e8 : (o.weak != 0) = false := by rw [k8]; rfl
        by_cases k9 : o.fin = 0
        · have e9 : (o.fin != 0) = false := by rw [k9]; rfl
          have HOK := Lib.hid (show okOb o = true from decide_eq_true (by omega))
          clear k7 k8 k9
          by_cases m1 : 0 < o.array
          · have x1 : decide (0 < o.array) = true := decide_eq_true m1
            by_cases m2 : (o.slots.length : Int) ≤ o.array
            · have x2 : decide ((o.slots.length : Int) ≤ o.array) = true := decide_eq_true m2
              have hbad : okOb2 (ts.map Prod.fst) seen o = false := by unfold okOb2; rw [decide_eq_false (fun h => h.1 ⟨m1, m2⟩)]; rfl
              have HBAD := Lib.hid hbad
              clear hbad
              have hf := HF.out (by (rw [HBAD.out, Bool.and_false]))
              have HR := Lib.hid hf
              clear hf
              go_wp2_with fail
              go_ret
              exact ⟨by first | (rw [HR.out]; rfl) | rw [HR.out], HRA.out.below⟩
            · have x2 : decide ((o.slots.length : Int) ≤ o.array) = false := decide_eq_false m2
              have harr : ¬ (0 < o.array ∧ (o.slots.length : Int) ≤ o.array) := fun h => m2 h.2
              have HARR := Lib.hid harr
              clear harr
              by_cases m3 : 0 < o.fin
              · have x3 : decide (0 < o.fin) = true := decide_eq_true m3
                by_cases m4 : o.fin ∈ seen
                · simp only [decide_eq_true m4] at hlook
                  have hbad : okOb2 (ts.map Prod.fst) seen o = false := by unfold okOb2; rw [decide_eq_false (fun h => h.2 ⟨m3, m4⟩)]; rfl
                  have HBAD := Lib.hid hbad
                  clear hbad m4
                  have hf := HF.out (by (rw [HBAD.out, Bool.and_false]))
                  have HR := Lib.hid hf
                  clear hf
                  go_wp2_with fail
                  go_ret
                  exact ⟨by first | (rw [HR.out]; rfl) | rw [HR.out], HRA.out.below⟩
                · simp only [decide_eq_false m4] at hlook
                  have HMEM := Lib.hid (show ¬ (0 < o.fin ∧ o.fin ∈ seen) from fun h => m4 h.2)
                  clear m4
                  have hb1 : (wr.alloc (.cells #[.int .i64 o.kind, .int .i64 o.weak, .int .i64 o.array, .slice sa o.slots.length sc, .int .i64 o.fin] 36)).cell? ⟨w1.heap.size, 0, none⟩ = some (.pointer (some ⟨q, 0, none⟩)) := HRA.out.hb.cell 0
                  have HALL := Lib.hid (all_any hb1 HRA.out.hq (Rd.below HT0.out HRA.out.below) HS.out (Rd.below HSL.out HRA.out.below) hszR.out)
                  have hthing := Box.new wr [.int .i64 o.kind, .int .i64 o.weak, .int .i64 o.array, .slice sa o.slots.length sc, .int .i64 o.fin] 36
                  have HTH := Lib.hid hthing
                  clear hthing hb1
                  go_wp2_with fail
                  refine HALL.out.mono ?_
                  rintro e w2 ⟨rfl, hb2⟩
                  have R2 := HRA.out.next hb2
                  have c4 := (HTH.out.below hb2 (by simp)).cell 4
                  simp only [List.getElem?_cons_zero, List.getElem?_cons_succ] at c4
                  clear hb2
                  cases hall : allG (ts.map Prod.fst) o.slots with
                  | false =>
                    have hf := HF.out (by rw [show okOb2 (ts.map Prod.fst) seen o = false by unfold okOb2; rw [hall, Bool.and_false], Bool.and_false])
                    have HR := Lib.hid hf
                    clear hf hall
                    go_wp2_with fail
                    go_ret
                    exact ⟨by first | (rw [HR.out]; rfl) | rw [HR.out], R2.below⟩
                  | true =>
                    have hs2 : rightF (ts.map Prod.fst) [] (ts.map Prod.fst) = rightF (ts.map Prod.fst) (o.fin :: seen) ((ts.drop (i + 1)).map Prod.fst) := by
                      rw [HST.out, HOK.out, show okOb2 (ts.map Prod.fst) seen o = true by unfold okOb2; rw [hall, decide_eq_true ⟨HARR.out, HMEM.out⟩]; rfl]
                      rfl
                    have HS2 := Lib.hid hs2
                    have R2H := Lib.hid R2
                    clear hs2 hall R2
                    go_wp2_with (at_mapUpdate; refine wpList_mapUpdate_i rfl _ _ _ 148 rfl 3 4 Tryz.underlying148 Tryz.underlying3 (w1.heap.size + 1) _ R2H.out.hm rfl o.fin rfl (.bool true) rfl ?_)
                    intro w3 hm3 hg3 hz3
                    have R3 := Lib.hid (R2H.out.turn hm3 hg3)
                    clear hm3 hg3 hz3
                    go_wp2_with fail
                    go_roundw
                    case rel => exact ⟨i + 1, _, by omega, by go_num, HS2.out, R3.out⟩
                    case measure => simp [intOf]; omega
              · have x3 : decide (0 < o.fin) = false := decide_eq_false m3
                have HMEM := Lib.hid (show ¬ (0 < o.fin ∧ o.fin ∈ seen) from fun h => m3 h.1)
                clear hlook
                have hb1 : (wr.alloc (.cells #[.int .i64 o.kind, .int .i64 o.weak, .int .i64 o.array, .slice sa o.slots.length sc, .int .i64 o.fin] 36)).cell? ⟨w1.heap.size, 0, none⟩ = some (.pointer (some ⟨q, 0, none⟩)) := HRA.out.hb.cell 0
                have HALL := Lib.hid (all_any hb1 HRA.out.hq (Rd.below HT0.out HRA.out.below) HS.out (Rd.below HSL.out HRA.out.below) hszR.out)
                have hthing := Box.new wr [.int .i64 o.kind, .int .i64 o.weak, .int .i64 o.array, .slice sa o.slots.length sc, .int .i64 o.fin] 36
                have HTH := Lib.hid hthing
                clear hthing hb1
                go_wp2_with fail
                refine HALL.out.mono ?_
                rintro e w2 ⟨rfl, hb2⟩
                have R2 := HRA.out.next hb2
                have c4 := (HTH.out.below hb2 (by simp)).cell 4
                simp only [List.getElem?_cons_zero, List.getElem?_cons_succ] at c4
                clear hb2
                cases hall : allG (ts.map Prod.fst) o.slots with
                | false =>
                  have hf := HF.out (by rw [show okOb2 (ts.map Prod.fst) seen o = false by unfold okOb2; rw [hall, Bool.and_false], Bool.and_false])
                  have HR := Lib.hid hf
                  clear hf hall
                  go_wp2_with fail
                  go_ret
                  exact ⟨by first | (rw [HR.out]; rfl) | rw [HR.out], R2.below⟩
                | true =>
                  have hs2 : rightF (ts.map Prod.fst) [] (ts.map Prod.fst) = rightF (ts.map Prod.fst) (o.fin :: seen) ((ts.drop (i + 1)).map Prod.fst) := by
                    rw [HST.out, HOK.out, show okOb2 (ts.map Prod.fst) seen o = true by unfold okOb2; rw [hall, decide_eq_true ⟨HARR.out, HMEM.out⟩]; rfl]
                    rfl
                  have HS2 := Lib.hid hs2
                  have R2H := Lib.hid R2
                  clear hs2 hall R2
                  go_wp2_with (at_mapUpdate; refine wpList_mapUpdate_i rfl _ _ _ 148 rfl 3 4 Tryz.underlying148 Tryz.underlying3 (w1.heap.size + 1) _ R2H.out.hm rfl o.fin rfl (.bool true) rfl ?_)
                  intro w3 hm3 hg3 hz3
                  have R3 := Lib.hid (R2H.out.turn hm3 hg3)
                  clear hm3 hg3 hz3
                  go_wp2_with fail
                  go_roundw
                  case rel => exact ⟨i + 1, _, by omega, by go_num, HS2.out, R3.out⟩
                  case measure => simp [intOf]; omega
          · have x1 : decide (0 < o.array) = false := decide_eq_false m1
            have harr : ¬ (0 < o.array ∧ (o.slots.length : Int) ≤ o.array) := fun h => m1 h.1
            have HARR := Lib.hid harr
            clear harr
            by_cases m3 : 0 < o.fin
            · have x3 : decide (0 < o.fin) = true := decide_eq_true m3
              by_cases m4 : o.fin ∈ seen
              · simp only [decide_eq_true m4] at hlook
                have hbad : okOb2 (ts.map Prod.fst) seen o = false := by unfold okOb2; rw [decide_eq_false (fun h => h.2 ⟨m3, m4⟩)]; rfl
                have HBAD := Lib.hid hbad
                clear hbad m4
                have hf := HF.out (by (rw [HBAD.out, Bool.and_false]))
                have HR := Lib.hid hf
                clear hf
                go_wp2_with fail
                go_ret
                exact ⟨by first | (rw [HR.out]; rfl) | rw [HR.out], HRA.out.below⟩
              · simp only [decide_eq_false m4] at hlook
                have HMEM := Lib.hid (show ¬ (0 < o.fin ∧ o.fin ∈ seen) from fun h => m4 h.2)
                clear m4
                have hb1 : (wr.alloc (.cells #[.int .i64 o.kind, .int .i64 o.weak, .int .i64 o.array, .slice sa o.slots.length sc, .int .i64 o.fin] 36)).cell? ⟨w1.heap.size, 0, none⟩ = some (.pointer (some ⟨q, 0, none⟩)) := HRA.out.hb.cell 0
                have HALL := Lib.hid (all_any hb1 HRA.out.hq (Rd.below HT0.out HRA.out.below) HS.out (Rd.below HSL.out HRA.out.below) hszR.out)
                have hthing := Box.new wr [.int .i64 o.kind, .int .i64 o.weak, .int .i64 o.array, .slice sa o.slots.length sc, .int .i64 o.fin] 36
                have HTH := Lib.hid hthing
                clear hthing hb1
                go_wp2_with fail
                refine HALL.out.mono ?_
                rintro e w2 ⟨rfl, hb2⟩
                have R2 := HRA.out.next hb2
                have c4 := (HTH.out.below hb2 (by simp)).cell 4
                simp only [List.getElem?_cons_zero, List.getElem?_cons_succ] at c4
                clear hb2
                cases hall : allG (ts.map Prod.fst) o.slots with
                | false =>
                  have hf := HF.out (by rw [show okOb2 (ts.map Prod.fst) seen o = false by unfold okOb2; rw [hall, Bool.and_false], Bool.and_false])
                  have HR := Lib.hid hf
                  clear hf hall
                  go_wp2_with fail
                  go_ret
                  exact ⟨by first | (rw [HR.out]; rfl) | rw [HR.out], R2.below⟩
                | true =>
                  have hs2 : rightF (ts.map Prod.fst) [] (ts.map Prod.fst) = rightF (ts.map Prod.fst) (o.fin :: seen) ((ts.drop (i + 1)).map Prod.fst) := by
                    rw [HST.out, HOK.out, show okOb2 (ts.map Prod.fst) seen o = true by unfold okOb2; rw [hall, decide_eq_true ⟨HARR.out, HMEM.out⟩]; rfl]
                    rfl
                  have HS2 := Lib.hid hs2
                  have R2H := Lib.hid R2
                  clear hs2 hall R2
                  go_wp2_with (at_mapUpdate; refine wpList_mapUpdate_i rfl _ _ _ 148 rfl 3 4 Tryz.underlying148 Tryz.underlying3 (w1.heap.size + 1) _ R2H.out.hm rfl o.fin rfl (.bool true) rfl ?_)
                  intro w3 hm3 hg3 hz3
                  have R3 := Lib.hid (R2H.out.turn hm3 hg3)
                  clear hm3 hg3 hz3
                  go_wp2_with fail
                  go_roundw
                  case rel => exact ⟨i + 1, _, by omega, by go_num, HS2.out, R3.out⟩
                  case measure => simp [intOf]; omega
            · have x3 : decide (0 < o.fin) = false := decide_eq_false m3
              have HMEM := Lib.hid (show ¬ (0 < o.fin ∧ o.fin ∈ seen) from fun h => m3 h.1)
              clear hlook
              have hb1 : (wr.alloc (.cells #[.int .i64 o.kind, .int .i64 o.weak, .int .i64 o.array, .slice sa o.slots.length sc, .int .i64 o.fin] 36)).cell? ⟨w1.heap.size, 0, none⟩ = some (.pointer (some ⟨q, 0, none⟩)) := HRA.out.hb.cell 0
              have HALL := Lib.hid (all_any hb1 HRA.out.hq (Rd.below HT0.out HRA.out.below) HS.out (Rd.below HSL.out HRA.out.below) hszR.out)
              have hthing := Box.new wr [.int .i64 o.kind, .int .i64 o.weak, .int .i64 o.array, .slice sa o.slots.length sc, .int .i64 o.fin] 36
              have HTH := Lib.hid hthing
              clear hthing hb1
              go_wp2_with fail
              refine HALL.out.mono ?_
              rintro e w2 ⟨rfl, hb2⟩
              have R2 := HRA.out.next hb2
              have c4 := (HTH.out.below hb2 (by simp)).cell 4
              simp only [List.getElem?_cons_zero, List.getElem?_cons_succ] at c4
              clear hb2
              cases hall : allG (ts.map Prod.fst) o.slots with
              | false =>
                have hf := HF.out (by rw [show okOb2 (ts.map Prod.fst) seen o = false by unfold okOb2; rw [hall, Bool.and_false], Bool.and_false])
                have HR := Lib.hid hf
                clear hf hall
                go_wp2_with fail
                go_ret
                exact ⟨by first | (rw [HR.out]; rfl) | rw [HR.out], R2.below⟩
              | true =>
                have hs2 : rightF (ts.map Prod.fst) [] (ts.map Prod.fst) = rightF (ts.map Prod.fst) (o.fin :: seen) ((ts.drop (i + 1)).map Prod.fst) := by
                  rw [HST.out, HOK.out, show okOb2 (ts.map Prod.fst) seen o = true by unfold okOb2; rw [hall, decide_eq_true ⟨HARR.out, HMEM.out⟩]; rfl]
                  rfl
                have HS2 := Lib.hid hs2
                have R2H := Lib.hid R2
                clear hs2 hall R2
                go_wp2_with (at_mapUpdate; refine wpList_mapUpdate_i rfl _ _ _ 148 rfl 3 4 Tryz.underlying148 Tryz.underlying3 (w1.heap.size + 1) _ R2H.out.hm rfl o.fin rfl (.bool true) rfl ?_)
                intro w3 hm3 hg3 hz3
                have R3 := Lib.hid (R2H.out.turn hm3 hg3)
                clear hm3 hg3 hz3
                go_wp2_with fail
                go_roundw
                case rel => exact ⟨i + 1, _, by omega, by go_num, HS2.out, R3.out⟩
                case measure => simp [intOf]; omega
        · have e9 : (o.fin != 0) = true := by simp [k9]
          have HKO := Lib.hid (show okOb o = false from decide_eq_false (by omega))
          clear k7 k8 k9
          have hf := HF.out (by (rw [HKO.out]; rfl))
          have HR := Lib.hid hf
          clear hf
          go_wp2_with fail
          go_ret
          exact ⟨by first | (rw [HR.out]; rfl) | rw [HR.out], HRA.out.below⟩
      · have e8 : (o.weak != 0) = true := by simp [k8]
        have HKO := Lib.hid (show okOb o = false from decide_eq_false (by omega))
        clear k7 k8
        have hf := HF.out (by (rw [HKO.out]; rfl))
        have HR := Lib.hid hf
        clear hf
        go_wp2_with fail
        go_ret
        exact ⟨by first | (rw [HR.out]; rfl) | rw [HR.out], HRA.out.below⟩
    · obtain rfl : i = N := by omega
      have hbR := R.hb.cell 0
      simp only [List.getElem?_cons_zero] at hbR
      have HALL := Lib.hid (all_any hbR R.hq (Rd.below HT0.out R.below) HS.out (Rd.below HRV.out R.below) HSR.out)
      have g1 := R.hg.cell 1
      simp only [List.getElem?_cons_zero, List.getElem?_cons_succ] at g1
      have hr : rightF (ts.map Prod.fst) [] (ts.map Prod.fst) = true := by rw [hacc, HN.out, List.drop_length]; rfl
      have HR := Lib.hid (show rightG (ts.map Prod.fst) roots = allG (ts.map Prod.fst) roots by unfold rightG; rw [hr]; rfl)
      have HRR := Lib.hid R
      clear hr hbR hacc R
      go_wp2_with fail
      refine HALL.out.mono ?_
      rintro e w2 ⟨rfl, hb2⟩
      have HB2 := Lib.hid hb2
      clear hb2
      go_wp2_with fail
      go_ret
      exact ⟨by rw [HR.out]; rfl, HRR.out.below.trans (HB2.out.mono HRR.out.below.size)⟩
end Go.Proofs.YtminbemdcanakaaGreat
