/- The reader: its cells; size, steps. -/
import Derived.Test.YthncifbnkednlaaDoorScrSame
import Derived.Test.YthncifbnkednlaaDoorScrNum
namespace Go.Proofs.YthncifbnkednlaaDoor
open Go.RowKit Go.Shelf
set_option linter.unusedVariables false
set_option linter.unusedSimpArgs false

def flatPt (l : List (Nat × Nat)) : List Value := l.flatMap fun x => [.int .i64 x.1, .int .i64 x.2]
theorem flatPt_snoc (l : List (Nat × Nat)) (x : Nat × Nat) : flatPt (l ++ [x]) = flatPt l ++ [.int .i64 x.1, .int .i64 x.2] := by unfold flatPt; rw [List.flatMap_append]; rfl
theorem flatPt_len (l : List (Nat × Nat)) : (flatPt l).length = l.length * 2 := by
  induction l with
  | nil => rfl
  | cons x l ih => unfold flatPt at *; rw [List.flatMap_cons, List.length_append, ih, List.length_cons]; simp; omega
theorem flatPt_at : ∀ (l : List (Nat × Nat)) (j : Nat) (x : Nat × Nat), l[j]? = some x → (flatPt l)[j * 2]? = some (.int .i64 x.1) ∧ (flatPt l)[j * 2 + 1]? = some (.int .i64 x.2) := by
  intro l
  induction l with
  | nil => intro j x h; simp at h
  | cons y l ih =>
    intro j x h
    cases j with
    | zero => simp only [List.getElem?_cons_zero, Option.some.injEq] at h; subst h; exact ⟨rfl, rfl⟩
    | succ j =>
      rw [List.getElem?_cons_succ] at h
      obtain ⟨h1, h2⟩ := ih j x h
      rw [show (j + 1) * 2 = j * 2 + 1 + 1 by omega]
      unfold flatPt at *
      rw [List.flatMap_cons]
      exact ⟨h1, h2⟩

theorem run_store_func {P : Program} {w : World} {a : Addr} {m : Mode} (fn : Fn) (x y : Array Value) : (store a (.func fn x y) m).run P w = stored P w a (.func fn x y) m := run_store P w a _ m rfl
attribute [local go_sem] run_store_func

/-- What a row reads as hangs on its block alone. -/
theorem ownsRow_of_block {w w' : World} {base : Nat} {e : TypeId} {size : Nat} {v : Value} {n : Nat} {xs : List Value} (h : w.ownsRow base e size v n xs)
    (hb : ∀ k, v.ownBlock = some k → w'.heap[k]? = w.heap[k]?) : w'.ownsRow base e size v n xs := by
  refine ⟨h.1, ?_⟩
  rcases h.2 with hn | ⟨g, cap, cur, rfl, hb', hgg, rest⟩
  · exact .inl hn
  · exact .inr ⟨g, cap, cur, rfl, hb', by rw [hb g rfl]; exact hgg, rest⟩

def nextV (p ph : Nat) : Value := .func (.func (if ph = 0 then 17 else if ph = 1 then 33 else 42)) #[.pointer (some ⟨p, 0, none⟩)] #[]
def ReadAt (W : World) (p : Nat) (x : Sc) (ph : Nat) (dn : Bool) (pv : Value) : Prop :=
  Box W p [.int .i64 x.size, .int .i64 x.steps, pv, .string (str x.src), nextV p ph, .bool dn] 49 ∧ W.ownsRow 0 43 2 pv x.pts.length (flatPt x.pts) ∧ ∀ k, pv.ownBlock = some k → p < k
theorem Box.cells6 {W : World} {b : Nat} {a0 a1 a2 a3 a4 a5 : Value} {e : TypeId} (h : Box W b [a0, a1, a2, a3, a4, a5] e) : W.cell? ⟨b, 0, none⟩ = some a0 ∧ W.cell? ⟨b, 1, none⟩ = some a1 ∧ W.cell? ⟨b, 2, none⟩ = some a2 ∧ W.cell? ⟨b, 3, none⟩ = some a3 ∧ W.cell? ⟨b, 4, none⟩ = some a4 ∧ W.cell? ⟨b, 5, none⟩ = some a5 :=
  ⟨h.cell 0, h.cell 1, h.cell 2, h.cell 3, h.cell 4, h.cell 5⟩
theorem Box.frz6 {W : World} {b : Nat} {a0 a1 a2 a3 a4 a5 : Value} {e : TypeId} (h : Box W b [a0, a1, a2, a3, a4, a5] e) : W.frozen? ⟨b, 0, none⟩ = false ∧ W.frozen? ⟨b, 1, none⟩ = false ∧ W.frozen? ⟨b, 2, none⟩ = false ∧ W.frozen? ⟨b, 3, none⟩ = false ∧ W.frozen? ⟨b, 4, none⟩ = false ∧ W.frozen? ⟨b, 5, none⟩ = false :=
  ⟨h.free 0, h.free 1, h.free 2, h.free 3, h.free 4, h.free 5⟩
theorem ReadAt.below {W W' : World} {p : Nat} {x : Sc} {ph : Nat} {dn : Bool} {pv : Value} (h : ReadAt W p x ph dn pv) (hb : Below W.heap.size W W') : ReadAt W' p x ph dn pv :=
  ⟨h.1.below hb h.1.lt, ownsRow_of_block h.2.1 fun k hk => hb.block k (h.2.1.lt k hk).2, h.2.2⟩

def StepAns (p ph : Nat) (r : Except Nat (Sc × Bool)) (e : Ending) (w' : World) : Prop := match r with
  | .error c => e = .returned (.int .i64 c)
  | .ok (y, d) => e = .returned (.int .i64 0) ∧ ∃ pv, ReadAt w' p y (ph + 1) d pv

set_option maxHeartbeats 2000000 in
theorem size_any {w : World} {p : Nat} {x : Sc} {pv : Value} (line : ByteArray) (h : ReadAt w p x 0 false pv) (hs : line.size ≤ 1000000) :
    Calls Tryd.prog 17 #[.pointer (some ⟨p, 0, none⟩), .string line] w fun e w' => StepAns p 0 (lineStep 0 x (bs line)) e w' ∧ Below p w w' := by
  obtain ⟨r, hr⟩ : ∃ r, lineStep 0 x (bs line) = r := ⟨_, rfl⟩
  rw [hr]
  have HTP := Lib.hid (fun w => Tryd.strings_TrimPrefix line (str sizeW) w)
  have HHP := Lib.hid (fun w => Tryd.strings_HasPrefix line (str sizeW) w)
  obtain ⟨tx, htx2⟩ : ∃ tx, tx = Lib.trimPrefix (bs line) sizeW := ⟨_, rfl⟩
  obtain ⟨hx, hhx⟩ : ∃ hx, hx = Lib.hasPrefix (bs line) sizeW := ⟨_, rfl⟩
  rw [show (⟨(Lib.trimPrefix line.data.toList (str sizeW).data.toList).toArray⟩ : ByteArray) = str tx from by rw [htx2]; rfl] at HTP
  rw [show Lib.hasPrefix line.data.toList (str sizeW).data.toList = hx from by rw [hhx]; rfl] at HHP
  have htl : tx.length ≤ 1000000 := by
    rw [htx2]
    unfold Lib.trimPrefix
    rw [size_bs] at hs
    split
    · rw [List.length_drop]; omega
    · exact hs
  obtain ⟨n, ok, hnp⟩ : ∃ n ok, numP tx (-1) = (n, ok) := ⟨_, _, rfl⟩
  have HNC : Hid (∀ w, Calls Tryd.prog 30 #[.string (str tx), .int .i64 (-1)] w fun e w' => e = .returned (.tuple #[.int .i64 n, .bool ok]) ∧ Below w.heap.size w w') := by
    refine Lib.hid ?_
    intro w
    have := number_any (str tx) (-1) w (by rw [size_bs, bs_str]; exact htl)
    rw [bs_str, hnp] at this
    exact this
  have hkey : (hx = true ∧ ∃ m : Nat, n = m ∧ ok = true ∧ afterL sizeW (bs line) = some m) ∨ ((hx = false ∨ ok = false) ∧ afterL sizeW (bs line) = none) := by
    unfold afterL
    rw [show sizeW.isPrefixOf (bs line) = hx from hhx.symm]
    cases hx with
    | false => exact .inr ⟨.inl rfl, rfl⟩
    | true =>
      have : tx = (bs line).drop sizeW.length := by rw [htx2]; unfold Lib.trimPrefix; rw [if_pos hhx.symm]
      rw [if_pos rfl, ← this]
      unfold numP at hnp
      cases hn : numL tx with
      | none => rw [hn] at hnp; cases hnp; exact .inr ⟨.inr rfl, rfl⟩
      | some m =>
        rw [hn] at hnp
        refine .inl ⟨rfl, m, (Prod.mk.inj hnp).1.symm, ?_, rfl⟩
        rw [← (Prod.mk.inj hnp).2]; simp
  have HH := Lib.hid h
  have HR := Lib.hid hr
  have HK := Lib.hid hkey
  clear h hr hnp htx2 hhx htl hkey
  go_enter Tryd.func17, Tryd.ntmps17
  go_wp2_with fail
  refine (HTP.out _).mono ?_
  rintro e w1 ⟨rfl, rfl⟩
  go_wp2_with fail
  refine (HNC.out _).mono ?_
  rintro e w2 ⟨rfl, hb2⟩
  have HR2 := Lib.hid (HH.out.below hb2)
  have HB2 := Lib.hid (hb2.mono (Nat.le_of_lt HH.out.1.lt))
  clear hb2
  go_wp2_with fail
  refine (HHP.out _).mono ?_
  rintro e w3 ⟨rfl, rfl⟩
  rcases HK.out with ⟨rfl, m, rfl, rfl, haf⟩ | ⟨hbad, haf⟩
  · have hr := HR.out
    unfold lineStep at hr
    rw [if_pos rfl, haf] at hr
    simp only at hr
    by_cases hrg : m < 1 ∨ 65536 < m
    · rw [if_pos hrg] at hr
      subst hr
      clear haf HK
      rcases hrg with h1 | h2
      · go_wp2_with fail
        go_ret
        exact ⟨rfl, HB2.out⟩
      · have h1 : ¬ m < 1 := by omega
        go_wp2_with fail
        go_ret
        exact ⟨rfl, HB2.out⟩
    · rw [if_neg hrg] at hr
      subst hr
      clear haf HK
      have h1 : ¬ m < 1 := by omega
      have h2 : ¬ 65536 < m := by omega
      clear hrg
      obtain ⟨c0, c1, c2, c3, c4, c5⟩ := HR2.out.1.cells6
      obtain ⟨z0, z1, z2, z3, z4, z5⟩ := HR2.out.1.frz6
      have d4 : (w3.setCell ⟨p, 0, none⟩ (.int .i64 m)).cell? ⟨p, 4, none⟩ = some (nextV p 0) := (HR2.out.1.set 0 _).cell 4
      have d4' : (w3.setCell ⟨p, 0, none⟩ (.int .i64 m)).frozen? ⟨p, 4, none⟩ = false := (HR2.out.1.set 0 _).free 4
      go_wp2_with fail
      go_ret
      refine ⟨⟨rfl, pv, ?_, ?_, HR2.out.2.2⟩, ?_⟩
      · exact (HR2.out.1.set 0 _).set 4 _
      · exact ownsRow_of_block HR2.out.2.1 fun k hk => by
          have := HR2.out.2.2 k hk
          exact (Below.heap_setCell _ ⟨p, 4, none⟩ _ k (by show k ≠ p; omega)).trans (Below.heap_setCell w3 ⟨p, 0, none⟩ _ k (by show k ≠ p; omega))
      · exact (HB2.out.setCell (p := ⟨p, 0, none⟩) (Nat.le_refl _) _).setCell (p := ⟨p, 4, none⟩) (Nat.le_refl _) _
  · have hr := HR.out
    unfold lineStep at hr
    rw [if_pos rfl, haf] at hr
    simp only at hr
    subst hr
    clear haf HK
    rcases hbad with rfl | rfl
    · go_wp2_with fail
      go_ret
      exact ⟨rfl, HB2.out⟩
    · cases hx with
      | false =>
        go_wp2_with fail
        go_ret
        exact ⟨rfl, HB2.out⟩
      | true =>
        go_wp2_with fail
        go_ret
        exact ⟨rfl, HB2.out⟩

set_option maxHeartbeats 2000000 in
theorem steps_any {w : World} {p : Nat} {x : Sc} {pv : Value} (line : ByteArray) (h : ReadAt w p x 1 false pv) (hs : line.size ≤ 1000000) :
    Calls Tryd.prog 33 #[.pointer (some ⟨p, 0, none⟩), .string line] w fun e w' => StepAns p 1 (lineStep 1 x (bs line)) e w' ∧ Below p w w' := by
  obtain ⟨r, hr⟩ : ∃ r, lineStep 1 x (bs line) = r := ⟨_, rfl⟩
  rw [hr]
  have HTP := Lib.hid (fun w => Tryd.strings_TrimPrefix line (str stepsW) w)
  have HHP := Lib.hid (fun w => Tryd.strings_HasPrefix line (str stepsW) w)
  obtain ⟨tx, htx2⟩ : ∃ tx, tx = Lib.trimPrefix (bs line) stepsW := ⟨_, rfl⟩
  obtain ⟨hx, hhx⟩ : ∃ hx, hx = Lib.hasPrefix (bs line) stepsW := ⟨_, rfl⟩
  rw [show (⟨(Lib.trimPrefix line.data.toList (str stepsW).data.toList).toArray⟩ : ByteArray) = str tx from by rw [htx2]; rfl] at HTP
  rw [show Lib.hasPrefix line.data.toList (str stepsW).data.toList = hx from by rw [hhx]; rfl] at HHP
  have htl : tx.length ≤ 1000000 := by
    rw [htx2]
    unfold Lib.trimPrefix
    rw [size_bs] at hs
    split
    · rw [List.length_drop]; omega
    · exact hs
  obtain ⟨n, ok, hnp⟩ : ∃ n ok, numP tx (-1) = (n, ok) := ⟨_, _, rfl⟩
  have HNC : Hid (∀ w, Calls Tryd.prog 30 #[.string (str tx), .int .i64 (-1)] w fun e w' => e = .returned (.tuple #[.int .i64 n, .bool ok]) ∧ Below w.heap.size w w') := by
    refine Lib.hid ?_
    intro w
    have := number_any (str tx) (-1) w (by rw [size_bs, bs_str]; exact htl)
    rw [bs_str, hnp] at this
    exact this
  have hkey : (hx = true ∧ ∃ m : Nat, n = m ∧ ok = true ∧ afterL stepsW (bs line) = some m) ∨ ((hx = false ∨ ok = false) ∧ afterL stepsW (bs line) = none) := by
    unfold afterL
    rw [show stepsW.isPrefixOf (bs line) = hx from hhx.symm]
    cases hx with
    | false => exact .inr ⟨.inl rfl, rfl⟩
    | true =>
      have : tx = (bs line).drop stepsW.length := by rw [htx2]; unfold Lib.trimPrefix; rw [if_pos hhx.symm]
      rw [if_pos rfl, ← this]
      unfold numP at hnp
      cases hn : numL tx with
      | none => rw [hn] at hnp; cases hnp; exact .inr ⟨.inr rfl, rfl⟩
      | some m =>
        rw [hn] at hnp
        refine .inl ⟨rfl, m, (Prod.mk.inj hnp).1.symm, ?_, rfl⟩
        rw [← (Prod.mk.inj hnp).2]; simp
  have HH := Lib.hid h
  have HR := Lib.hid hr
  have HK := Lib.hid hkey
  clear h hr hnp htx2 hhx htl hkey
  go_enter Tryd.func33, Tryd.ntmps33
  go_wp2_with fail
  refine (HTP.out _).mono ?_
  rintro e w1 ⟨rfl, rfl⟩
  go_wp2_with fail
  refine (HNC.out _).mono ?_
  rintro e w2 ⟨rfl, hb2⟩
  have HR2 := Lib.hid (HH.out.below hb2)
  have HB2 := Lib.hid (hb2.mono (Nat.le_of_lt HH.out.1.lt))
  clear hb2
  go_wp2_with fail
  refine (HHP.out _).mono ?_
  rintro e w3 ⟨rfl, rfl⟩
  rcases HK.out with ⟨rfl, m, rfl, rfl, haf⟩ | ⟨hbad, haf⟩
  · have hr := HR.out
    unfold lineStep at hr
    rw [if_neg (by decide), if_pos rfl, haf] at hr
    simp only at hr
    by_cases hrg : 20000 < m
    · rw [if_pos hrg] at hr
      subst hr
      clear haf HK
      go_wp2_with fail
      go_ret
      exact ⟨rfl, HB2.out⟩
    · rw [if_neg hrg] at hr
      subst hr
      clear haf HK
      obtain ⟨c0, c1, c2, c3, c4, c5⟩ := HR2.out.1.cells6
      obtain ⟨z0, z1, z2, z3, z4, z5⟩ := HR2.out.1.frz6
      have d4 : (w3.setCell ⟨p, 1, none⟩ (.int .i64 m)).cell? ⟨p, 4, none⟩ = some (nextV p 1) := (HR2.out.1.set 1 _).cell 4
      have d4' : (w3.setCell ⟨p, 1, none⟩ (.int .i64 m)).frozen? ⟨p, 4, none⟩ = false := (HR2.out.1.set 1 _).free 4
      go_wp2_with fail
      go_ret
      refine ⟨⟨rfl, pv, ?_, ?_, HR2.out.2.2⟩, ?_⟩
      · exact (HR2.out.1.set 1 _).set 4 _
      · exact ownsRow_of_block HR2.out.2.1 fun k hk => by
          have := HR2.out.2.2 k hk
          exact (Below.heap_setCell _ ⟨p, 4, none⟩ _ k (by show k ≠ p; omega)).trans (Below.heap_setCell w3 ⟨p, 1, none⟩ _ k (by show k ≠ p; omega))
      · exact (HB2.out.setCell (p := ⟨p, 1, none⟩) (Nat.le_refl _) _).setCell (p := ⟨p, 4, none⟩) (Nat.le_refl _) _
  · have hr := HR.out
    unfold lineStep at hr
    rw [if_neg (by decide), if_pos rfl, haf] at hr
    simp only at hr
    subst hr
    clear haf HK
    rcases hbad with rfl | rfl
    · go_wp2_with fail
      go_ret
      exact ⟨rfl, HB2.out⟩
    · cases hx with
      | false =>
        go_wp2_with fail
        go_ret
        exact ⟨rfl, HB2.out⟩
      | true =>
        go_wp2_with fail
        go_ret
        exact ⟨rfl, HB2.out⟩
end Go.Proofs.YthncifbnkednlaaDoor
