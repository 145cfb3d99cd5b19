/- The reference's calls that turn it: Free, Store, Compact. -/
import Derived.Test.YtpaopcnbgdlgnaaRefPut
namespace Go.Proofs.Ytpaopcnbgdlgnaa
open Go.RowKit Go.MapKept
set_option linter.unusedVariables false
set_option linter.unusedSimpArgs false

variable {X : Nat → Prop} {w w2 w' : World} {p N : Nat} {R T : List RBlk} {v v' : Value} {S S' : St}

/-- What may be turned, and what is new. -/
def Grow (X : Nat → Prop) (w w' : World) : Nat → Prop := fun k => X k ∨ (w.heap.size ≤ k ∧ k < w'.heap.size)

def RefPost (X : Nat → Prop) (w : World) (p : Nat) (S : St) (r : Value) (e : Ending) (w' : World) : Prop := e = .returned r ∧ RefS (Grow X w w') w' p S ∧ Keep X w w'

theorem RefS.post {r : Value} (h : RefS X w p S) : RefPost X w p S r (.returned r) w := by
  obtain ⟨N, R, v, h1, h2, h3⟩ := h
  exact ⟨rfl, ⟨N, R, v, h1.mono (fun k hk => .inl hk), h2, h3⟩, Keep.refl _ _⟩

theorem RefAt.row_not_p (H : RefAt X w p N R v) : v.ownBlock ≠ some p := by
  intro h
  rcases H.row.2 with ⟨rfl, _⟩ | ⟨g, cap, cur, rfl, _, hg, _⟩
  · simp [Value.ownBlock] at h
  · simp only [Value.ownBlock, Option.some.injEq] at h
    subst h
    rw [H.head] at hg
    simp at hg

theorem RefAt.data_not_p (H : RefAt X w p N R v) {b : RBlk} (hb : b ∈ R) : b.d ≠ p := by
  intro h
  have := (H.data b hb).1
  rw [h, H.head] at this
  simp at this

theorem RefAt.data_not_row (H : RefAt X w p N R v) {b : RBlk} (hb : b ∈ R) : v.ownBlock ≠ some b.d := by
  intro h
  rcases H.row.2 with ⟨rfl, _⟩ | ⟨g, cap, cur, rfl, _, hg, _⟩
  · simp [Value.ownBlock] at h
  · simp only [Value.ownBlock, Option.some.injEq] at h
    subst h
    rw [(H.data b hb).1] at hg
    simp at hg

/-- The head is given another row. -/
theorem RefAt.setRow (H : RefAt X w p N R v) (hb : Below w.heap.size w w2) (hrow : w2.ownsRow w.heap.size 84 3 v' T.length (flat T))
    (hdata : ∀ b ∈ T, b ∈ R ∨ (w2.heap[b.d]? = some (.cells (b.xs.map iv).toArray 2 (0, 0)) ∧ (X b.d ∨ w.heap.size ≤ b.d))) (hnd : (T.map (·.d)).Nodup) :
    RefAt (Grow X w (w2.setCell ⟨p, 1, none⟩ v')) (w2.setCell ⟨p, 1, none⟩ v') p N T v' ∧ Keep X w (w2.setCell ⟨p, 1, none⟩ v') := by
  have hp := H.lt.1
  have hsz : (w2.setCell ⟨p, 1, none⟩ v').heap.size = w2.heap.size := by simp [World.setCell]
  have hblk : ∀ k, k ≠ p → (w2.setCell ⟨p, 1, none⟩ v').heap[k]? = w2.heap[k]? := fun k hk => Below.heap_setCell _ _ _ _ hk
  have hhd : w2.heap[p]? = some (.cells [.int .i64 N, v].toArray 77 (0, 0)) := (hb.block p hp).trans H.head
  have hd : ∀ b ∈ T, w2.heap[b.d]? = some (.cells (b.xs.map iv).toArray 2 (0, 0)) ∧ (X b.d ∨ w.heap.size ≤ b.d) := by
    intro b hbT
    rcases hdata b hbT with h | ⟨h1, h2⟩
    · exact ⟨(hb.block _ (H.lt.2.2 b h)).trans (H.data b h).1, .inl (H.data b h).2⟩
    · exact ⟨h1, h2⟩
  have hdl : ∀ b ∈ T, b.d < w2.heap.size := fun b hbT => (Array.getElem?_eq_some_iff.1 (hd b hbT).1).1
  have hdp : ∀ b ∈ T, b.d ≠ p := by
    intro b hbT e
    have := (hd b hbT).1
    rw [e, hhd] at this
    simp at this
  refine ⟨⟨?_, .inl H.xp, ?_, ?_, ?_, hnd⟩, (Keep.of_below hb).setCell (fun _ => H.xp) _⟩
  · have := setCell_list (i := 1) hhd v'
    rw [this]; rfl
  · refine ownsRow_of_block (row_base hrow (Nat.zero_le _)) fun k hk => hblk k ?_
    have := (hrow.lt k hk).1
    omega
  · intro g hg
    have := hrow.lt g hg
    exact .inr ⟨this.1, by rw [hsz]; exact this.2⟩
  · intro b hbT
    refine ⟨(hblk _ (hdp b hbT)).trans (hd b hbT).1, ?_⟩
    rcases (hd b hbT).2 with h | h
    · exact .inl h
    · exact .inr ⟨h, by rw [hsz]; exact hdl b hbT⟩

theorem ref_erase {k : Int} {i : Nat} {b : RBlk} (hr : Rel S R N) (hS : Inv S) (hat : IsAt R k i b) : Rel (freeS S k) (R.take i ++ R.drop (i + 1)) N ∧ (∀ c ∈ R.take i ++ R.drop (i + 1), c ∈ R ∧ k ≠ c.h) := by
  have he := (getB_at hat).2
  have hmem : ∀ c ∈ R.take i ++ R.drop (i + 1), c ∈ R := by
    intro c hc
    rcases List.mem_append.1 hc with h | h
    · exact List.mem_of_mem_take h
    · exact List.mem_of_mem_drop h
  have hne : ∀ c ∈ R.take i ++ R.drop (i + 1), k ≠ c.h := by
    intro c hc e
    have hm : c.blk ∈ eraseB k S.L := by
      rw [← hr.blks, he]
      exact List.mem_map.2 ⟨c, hc, rfl⟩
    have hn : getB k (eraseB k S.L) = none := by rw [getB_erase hS.nodup, if_pos rfl]
    exact getB_none.1 hn c.blk hm e.symm
  refine ⟨⟨hr.size, ?_, ?_⟩, fun c hc => ⟨hmem c hc, hne c hc⟩⟩
  · show _ = eraseB k S.L
    rw [← hr.blks, he]
  · intro c hc
    exact (hr.cont c (hmem c hc)).free hS (hne c hc)

theorem erase_nodup {i : Nat} (h : (R.map (·.d)).Nodup) : ((R.take i ++ R.drop (i + 1)).map (·.d)).Nodup := by
  rw [← List.eraseIdx_eq_take_drop_succ]
  exact h.sublist ((List.eraseIdx_sublist _ _).map _)

set_option maxHeartbeats 1000000 in
theorem ref_free (J : RefS X w p S) (k : Int) :
    Calls Try.prog 45 #[.pointer (some ⟨p, 0, none⟩), .int .i64 k] w fun e w' => RefPost X w p (freeS S k) (.int .i64 (freeR S k)) e w' := by
  have J0 := J
  obtain ⟨N, R, v, H, hr, hS⟩ := J
  have hL := hr.blks
  have hlen : R.length ≤ 65536 := by have := hr.length; have := hS.length; have := hS.size; omega
  have F := ref_find H k hlen
  have c1 := H.c1
  have hp := H.lt.1
  obtain ⟨A, c, rfl⟩ := H.shape
  obtain ⟨q, hq⟩ : ∃ q, q = freeR S k := ⟨_, rfl⟩
  rw [← hq]
  have HQ := Lib.hid hq
  have HJ := Lib.hid J0
  clear hq J0
  go_enter Try.func45, Try.ntmps45
  go_wp2_with fail
  refine F.mono ?_
  clear F
  rintro e w1 ⟨(⟨i, b, hat, rfl⟩ | ⟨hno, rfl⟩), rfl⟩
  · have hgb := (getB_at hat).1
    have hlt := (List.getElem?_eq_some_iff.1 hat.1).1
    have HE := Lib.hid (show q = 0 from by rw [HQ.out]; unfold freeR findR; rw [← hL, hgb])
    have CC := ref_cut H.row hlt hlen
    obtain ⟨hrel, hm⟩ := ref_erase hr hS hat
    have HREL := Lib.hid hrel
    have HM := Lib.hid hm
    have HH := Lib.hid H
    clear hr hL hat hgb hrel hm H
    go_wp2_with fail
    refine CC.mono ?_
    clear CC
    rintro e w2 ⟨v', rfl, hown, hb⟩
    obtain ⟨a2, c2, rfl⟩ := row_shape hown
    have hset := HH.out.setRow hb hown (fun b hb => .inl (HM.out b hb).1) (erase_nodup HH.out.nodup)
    have hf : w2.frozen? ⟨p, 1, none⟩ = false := by
      have : w2.heap[p]? = w1.heap[p]? := hb.block p HH.out.lt.1
      simp [World.frozen?, this, HH.out.head]
    have hc2 : w2.cell? ⟨p, 1, none⟩ = some (.slice A R.length c) := (hb.cell (p := ⟨p, 1, none⟩) HH.out.lt.1).trans HH.out.c1
    have HP := Lib.hid (show RefPost X w1 p (freeS S k) (.int .i64 q) (.returned (.int .i64 0)) (w2.setCell ⟨p, 1, none⟩ (.slice a2 _ c2)) from ⟨by rw [HE.out], ⟨N, _, _, hset.1, HREL.out, hS.erase k⟩, hset.2⟩)
    clear hset hown hb
    go_wp2_with fail
    go_ret
    have h := HP.out
    simp only [List.length_append, List.length_take, List.length_drop] at h
    exact h
  · have HE := Lib.hid (show q = 5 from by rw [HQ.out]; unfold freeR findR; rw [← hL, getB_no hno])
    have hS2 : freeS S k = S := by
      show ({ S with L := eraseB k S.L } : St) = S
      rw [eraseB_none (by rw [← hL]; exact getB_no hno)]
    clear H hr hL hno
    go_wp2_with fail
    go_ret
    show RefPost X w1 p (freeS S k) (.int .i64 q) (.returned (.int .i64 5)) w1
    rw [HE.out, hS2]
    exact HJ.out.post

/-! ### Store -/
theorem mem_set_split {R : List RBlk} {i : Nat} {b b' c : RBlk} (hi : R[i]? = some b) (hc : c ∈ R.set i b') : c = b' ∨ ∃ j, j ≠ i ∧ R[j]? = some c := by
  obtain ⟨j, hj⟩ := List.getElem?_of_mem hc
  by_cases hji : i = j
  · subst hji
    rw [List.getElem?_set_self (List.getElem?_eq_some_iff.1 hi).1] at hj
    exact .inl (by simpa using hj.symm)
  · rw [List.getElem?_set_ne hji] at hj
    exact .inr ⟨j, fun e => hji e.symm, hj⟩

theorem RefAt.d_ne (H : RefAt X w p N R v) {i j : Nat} {b c : RBlk} (hi : R[i]? = some b) (hj : R[j]? = some c) (hij : i ≠ j) : b.d ≠ c.d := by
  intro e
  have h1 : (R.map (·.d))[i]? = some b.d := by rw [List.getElem?_map, hi]; rfl
  have h2 : (R.map (·.d))[j]? = some b.d := by rw [List.getElem?_map, hj, e]; rfl
  have hl := (List.getElem?_eq_some_iff.1 h1).1
  exact hij ((List.getElem?_inj hl H.nodup).1 (h1.trans h2.symm))

theorem flat_same {R : List RBlk} {i : Nat} {b b' : RBlk} (hi : R[i]? = some b) (hv : b'.vals = b.vals) : flat (R.set i b') = flat R := by
  induction R generalizing i with
  | nil => simp at hi
  | cons c l ih =>
    cases i with
    | zero =>
      simp only [List.getElem?_cons_zero, Option.some.injEq] at hi
      subst hi
      rw [List.set_cons_zero, flat_cons, flat_cons, hv]
    | succ i =>
      rw [List.getElem?_cons_succ] at hi
      rw [List.set_cons_succ, flat_cons, flat_cons, ih hi]

theorem RefAt.setData (H : RefAt X w p N R v) {i : Nat} {b : RBlk} (hi : R[i]? = some b) {j : Nat} (x : Int) :
    RefAt X (w.setCell ⟨b.d, j, none⟩ (.int .i64 x)) p N (R.set i { b with xs := b.xs.set j x }) v := by
  have hm := List.mem_of_getElem? hi
  have hblk : ∀ k, k ≠ b.d → (w.setCell ⟨b.d, j, none⟩ (.int .i64 x)).heap[k]? = w.heap[k]? := fun k hk => Below.heap_setCell _ _ _ _ hk
  have hfl : flat (R.set i { b with xs := b.xs.set j x }) = flat R := flat_same hi (by simp [RBlk.vals])
  refine ⟨(hblk p (fun e => H.data_not_p hm e.symm)).trans H.head, H.xp, ?_, H.xrow, ?_, ?_⟩
  · rw [hfl, List.length_set]
    exact ownsRow_of_block H.row fun k hk => hblk k (fun e => H.data_not_row hm (by rw [hk, e]))
  · intro c hc
    rcases mem_set_split hi hc with rfl | ⟨k, hk, hc⟩
    · refine ⟨?_, (H.data b hm).2⟩
      show (w.setCell ⟨b.d, j, none⟩ (.int .i64 x)).heap[b.d]? = _
      rw [setCell_list (i := j) (H.data b hm).1]
      simp [iv, List.map_set]
    · have hcm := List.mem_of_getElem? hc
      exact ⟨(hblk _ (H.d_ne hc hi hk)).trans (H.data c hcm).1, (H.data c hcm).2⟩
  · have : ((R.set i { b with xs := b.xs.set j x }).map (·.d)) = R.map (·.d) := by
      rw [List.map_set]
      apply List.ext_getElem?
      intro n
      by_cases hn : i = n
      · subst hn
        rw [List.getElem?_set_self (by simpa using (List.getElem?_eq_some_iff.1 hi).1), List.getElem?_map, hi]; rfl
      · rw [List.getElem?_set_ne hn]
    rw [this]; exact H.nodup

theorem set_blks {R : List RBlk} {i : Nat} {b b' : RBlk} (hi : R[i]? = some b) (hv : b'.blk = b.blk) : (R.set i b').map RBlk.blk = R.map RBlk.blk := by
  rw [List.map_set]
  apply List.ext_getElem?
  intro n
  by_cases hn : i = n
  · subst hn
    rw [List.getElem?_set_self (by simpa using (List.getElem?_eq_some_iff.1 hi).1), List.getElem?_map, hi, hv]; rfl
  · rw [List.getElem?_set_ne hn]

theorem blk_h_ne (hr : Rel S R N) (hS : Inv S) {i j : Nat} {b c : RBlk} (hi : R[i]? = some b) (hj : R[j]? = some c) (hij : i ≠ j) : b.h ≠ c.h := by
  intro e
  have h1 : (S.L.map (·.h))[i]? = some b.h := by rw [List.getElem?_map, blk_get hr.blks hi]; rfl
  have h2 : (S.L.map (·.h))[j]? = some b.h := by rw [List.getElem?_map, blk_get hr.blks hj, e]; rfl
  have hl := (List.getElem?_eq_some_iff.1 h1).1
  exact hij ((List.getElem?_inj hl hS.nodup).1 (h1.trans h2.symm))

theorem rel_store (hr : Rel S R N) (hS : Inv S) {k : Int} {i j : Nat} {b : RBlk} (hat : IsAt R k i b) (hj : j < b.xs.length) (x : Int) :
    Rel (storeS S k j x) (R.set i { b with xs := b.xs.set j x }) N ∧ (cellR S.L k j).2 = 0 := by
  have hm := List.mem_of_getElem? hat.1
  have hk := hat.2.1
  obtain ⟨c1, c2⟩ := (hr.cont b hm).store hS hj x
  rw [hk] at c1 c2
  have hL : (storeS S k j x).L = S.L := by unfold storeS; split <;> rfl
  refine ⟨⟨?_, ?_, ?_⟩, c1⟩
  · rw [hr.size]; unfold storeS; split <;> simp
  · rw [hL, ← hr.blks]
    exact set_blks hat.1 (by simp [RBlk.blk])
  · intro c hc
    rcases mem_set_split hat.1 hc with rfl | ⟨n, hn, hc⟩
    · show Cont _ ((b.h : Nat) : Int) _
      rw [hk]; exact c2
    · have hne := blk_h_ne hr hS hc hat.1 hn
      exact (hr.cont c (List.mem_of_getElem? hc)).storeO hS (by omega) _ _

set_option maxHeartbeats 1000000 in
theorem ref_store (J : RefS X w p S) (k i x : Int) :
    Calls Try.prog 47 #[.pointer (some ⟨p, 0, none⟩), .int .i64 k, .int .i64 i, .int .i64 x] w fun e w' => RefPost X w p (storeS S k i x) (.int .i64 (cellR S.L k i).2) e w' := by
  have J0 := J
  obtain ⟨N, R, v, H, hr, hS⟩ := J
  have hL := hr.blks
  have hlen : R.length ≤ 65536 := by have := hr.length; have := hS.length; have := hS.size; omega
  have F := ref_find H k hlen
  have c1 := H.c1
  obtain ⟨A, c, rfl⟩ := H.shape
  obtain ⟨q, hq⟩ : ∃ q, q = (cellR S.L k i).2 := ⟨_, rfl⟩
  rw [← hq]
  have HQ := Lib.hid hq
  have HJ := Lib.hid J0
  clear hq J0
  go_enter Try.func47, Try.ntmps47
  go_wp2_with fail
  refine F.mono ?_
  clear F
  rintro e w1 ⟨(⟨j, b, hat, rfl⟩ | ⟨hno, rfl⟩), rfl⟩
  · have hm := List.mem_of_getElem? hat.1
    have hgb := (getB_at hat).1
    rw [hL] at hgb
    have hn := (hS.get hgb).2.2.2.1
    have hn' : b.a + b.xs.length ≤ 65536 := hn
    obtain ⟨g, rfl, -, -, -, d2⟩ := H.at_ hat.1
    have hlt := (List.getElem?_eq_some_iff.1 hat.1).1
    by_cases hi : 0 ≤ i ∧ i < b.xs.length
    · obtain ⟨m, rfl⟩ := Int.eq_ofNat_of_zero_le hi.1
      have hml : m < b.xs.length := by omega
      have hx : b.xs[m]? = some (b.xs[m]'hml) := List.getElem?_eq_getElem _
      obtain ⟨y, hy⟩ : ∃ y, y = b.xs[m]'hml := ⟨_, rfl⟩
      rw [← hy] at hx
      have hcell := H.cell hm hx
      have hfz : w1.frozen? ⟨b.d, m, none⟩ = false := by simp [World.frozen?, (H.data b hm).1]
      obtain ⟨r1, r2⟩ := rel_store hr hS hat hml x
      have hI := hS.storeS k m x
      have HP := Lib.hid (show RefPost X w1 p (storeS S k m x) (.int .i64 q) (.returned (.int .i64 0)) (w1.setCell ⟨b.d, m, none⟩ (.int .i64 x)) from
        ⟨by rw [HQ.out, r2], ⟨N, _, _, (H.setData hat.1 x).mono (fun k hk => .inl hk), r1, hI⟩, (Keep.refl _ _).setCell (fun _ => (H.data b hm).2) _⟩)
      clear H hr hL hat hm hgb hn hx hy hi r1 r2 hI
      go_wp2_with fail
      go_ret
      exact HP.out
    · have hc : cellR S.L k i = (0, 1) := by unfold cellR; rw [hgb]; simp only; exact if_neg hi
      have hs2 : storeS S k i x = S := by unfold storeS; rw [hc]; rfl
      have HP := Lib.hid (show RefPost X w1 p (storeS S k i x) (.int .i64 q) (.returned (.int .i64 1)) w1 from by
        rw [hs2, HQ.out, hc]; exact HJ.out.post)
      clear H hr hL hat hm hgb hn hc hs2
      by_cases h0 : i < 0
      · clear hi
        go_wp2_with fail
        go_ret
        exact HP.out
      · have hge : ¬ i < b.xs.length := fun h => hi ⟨by omega, h⟩
        clear hi
        go_wp2_with fail
        go_ret
        exact HP.out
  · have hc : cellR S.L k i = (0, 5) := by unfold cellR; rw [← hL, getB_no hno]
    have hs2 : storeS S k i x = S := by unfold storeS; rw [hc]; rfl
    have HP := Lib.hid (show RefPost X w1 p (storeS S k i x) (.int .i64 q) (.returned (.int .i64 5)) w1 from by
      rw [hs2, HQ.out, hc]; exact HJ.out.post)
    clear H hr hL hno hc hs2
    go_wp2_with fail
    go_ret
    exact HP.out

/-! ### Compact -/
def compR : Nat → List RBlk → List RBlk
  | _, [] => []
  | lo, b :: l => { b with a := lo } :: compR (lo + b.xs.length) l

theorem compR_blk : ∀ {R : List RBlk} {lo : Nat}, (compR lo R).map RBlk.blk = compL lo (R.map RBlk.blk) := by
  intro R
  induction R with
  | nil => intro lo; rfl
  | cons b l ih =>
    intro lo
    show (RBlk.blk { b with a := lo }) :: (compR (lo + b.xs.length) l).map RBlk.blk = _ :: compL (lo + b.xs.length) (l.map RBlk.blk)
    rw [ih]; rfl
theorem compR_length : ∀ {R : List RBlk} {lo : Nat}, (compR lo R).length = R.length := by
  intro R
  induction R with
  | nil => intro lo; rfl
  | cons b l ih => intro lo; show (compR _ l).length + 1 = _; rw [ih]; rfl
theorem compR_mem : ∀ {R : List RBlk} {lo : Nat} {c : RBlk}, c ∈ compR lo R → ∃ b ∈ R, c.h = b.h ∧ c.xs = b.xs := by
  intro R
  induction R with
  | nil => intro lo c h; simp [compR] at h
  | cons b l ih =>
    intro lo c h
    rcases List.mem_cons.1 (show c ∈ ({ b with a := lo } : RBlk) :: compR (lo + b.xs.length) l from h) with rfl | h
    · exact ⟨b, by simp, rfl, rfl⟩
    · obtain ⟨d, hd, e⟩ := ih h
      exact ⟨d, by simp [hd], e⟩
theorem compR_app : ∀ {R : List RBlk} {lo : Nat} {b : RBlk}, compR lo (R ++ [b]) = compR lo R ++ [{ b with a := lo + liveL (R.map RBlk.blk) }] := by
  intro R
  induction R with
  | nil => intro lo b; rfl
  | cons c l ih =>
    intro lo b
    show ({ c with a := lo } : RBlk) :: compR (lo + c.xs.length) (l ++ [b]) = _
    rw [ih]
    show _ = ({ c with a := lo } : RBlk) :: compR (lo + c.xs.length) l ++ [({ b with a := lo + (c.xs.length + liveL (l.map RBlk.blk)) } : RBlk)]
    rw [Nat.add_assoc]; rfl
theorem compM_app : ∀ {L : List Blk} {lo : Nat} {b : Blk}, compM lo (L ++ [b]) = compM lo L + if b.a = lo + liveL L then 0 else 1 := by
  intro L
  induction L with
  | nil => intro lo b; by_cases h : b.a = lo <;> simp [compM, liveL, h]
  | cons c l ih =>
    intro lo b
    show _ + compM (lo + c.n) (l ++ [b]) = _ + compM (lo + c.n) l + _
    rw [ih]
    show _ = _ + _ + if b.a = lo + (c.n + liveL l) then 0 else 1
    rw [Nat.add_assoc, Nat.add_assoc]

theorem flat_setAt {a' : Nat} : ∀ {R : List RBlk} {i : Nat} {b : RBlk}, R[i]? = some b → flat (R.set i { b with a := a' }) = (flat R).set (i * 3 + 1) (iv a') := by
  intro R
  induction R with
  | nil => intro i b h; simp at h
  | cons c l ih =>
    intro i b h
    cases i with
    | zero =>
      simp only [List.getElem?_cons_zero, Option.some.injEq] at h
      subst h
      rw [List.set_cons_zero, flat_cons, flat_cons]
      rfl
    | succ i =>
      rw [List.getElem?_cons_succ] at h
      rw [List.set_cons_succ, flat_cons, flat_cons, ih h, List.set_append_right _ _ (by simp [RBlk.vals]; omega)]
      congr 2
      simp [RBlk.vals]; omega

theorem RefAt.setAt {g n c : Nat} (H : RefAt X w p N R (.slice (some ⟨g, 0, none⟩) n c)) {i : Nat} {b : RBlk} (hi : R[i]? = some b) (a' : Nat) :
    RefAt X (w.setCell ⟨g, i * 3 + 1, none⟩ (.int .i64 a')) p N (R.set i { b with a := a' }) (.slice (some ⟨g, 0, none⟩) n c) := by
  have hil := (List.getElem?_eq_some_iff.1 hi).1
  have hblk : ∀ k, k ≠ g → (w.setCell ⟨g, i * 3 + 1, none⟩ (.int .i64 a')).heap[k]? = w.heap[k]? := fun k hk => Below.heap_setCell _ _ _ _ hk
  have hgp : p ≠ g := fun e => H.row_not_p (by rw [e]; rfl)
  have hgd : ∀ c ∈ R, c.d ≠ g := fun c hc e => H.data_not_row hc (by rw [e]; rfl)
  have hd : (R.set i { b with a := a' }).map (·.d) = R.map (·.d) := by
    rw [List.map_set]
    apply List.ext_getElem?
    intro m
    by_cases hm : i = m
    · subst hm
      rw [List.getElem?_set_self (by simpa using hil), List.getElem?_map, hi]; rfl
    · rw [List.getElem?_set_ne hm]
  refine ⟨(hblk p hgp).trans H.head, H.xp, ?_, H.xrow, ?_, by rw [hd]; exact H.nodup⟩
  · refine ⟨by rw [flat_length], .inr ?_⟩
    rcases H.row.2 with ⟨hn, h0⟩ | ⟨g', cap, cur, hv, h1, h2, h3, h4, h5, h6⟩
    · omega
    · simp only [Value.slice.injEq, Option.some.injEq, Addr.mk.injEq, and_true] at hv
      obtain ⟨⟨rfl, _⟩, rfl, rfl⟩ := hv
      have h2' : w.heap[g]? = some (.cells cur.toList.toArray 84 (0, 0)) := by simpa using h2
      refine ⟨g, c, _, by rw [List.length_set], h1, setCell_list (i := i * 3 + 1) h2' _, by rw [List.length_set]; exact h3, h4, by simp [h5], ?_⟩
      rw [flat_setAt hi, ← h6, List.length_set]
      simp only [List.take_set]
      rfl
  · intro c hc
    rcases mem_set_split hi hc with rfl | ⟨k, hk, hc⟩
    · have hm := List.mem_of_getElem? hi
      exact ⟨(hblk _ (hgd b hm)).trans (H.data b hm).1, (H.data b hm).2⟩
    · have hm := List.mem_of_getElem? hc
      exact ⟨(hblk _ (hgd c hm)).trans (H.data c hm).1, (H.data c hm).2⟩

theorem RefAt.frz_row {g n c : Nat} (H : RefAt X w p N R (.slice (some ⟨g, 0, none⟩) n c)) (i : Nat) : w.frozen? ⟨g, i, none⟩ = false := by
  rcases H.row.2 with ⟨hn, h0⟩ | ⟨g', cap, cur, hv, h1, h2, _⟩
  · simp at hn
  · simp only [Value.slice.injEq, Option.some.injEq, Addr.mk.injEq, and_true] at hv
    obtain ⟨⟨rfl, _⟩, _, _⟩ := hv
    simp [World.frozen?, h2]

theorem rel_compact (hr : Rel S R N) (hS : Inv S) : Rel (compactS S) (compR 0 R) N := by
  refine ⟨?_, ?_, ?_⟩
  · rw [hr.size]; exact (compC_length (Nat.le_refl _) hS.laid hS.top).symm
  · rw [compR_blk, hr.blks]; rfl
  · intro c hc
    obtain ⟨b, hb, e1, e2⟩ := compR_mem hc
    rw [e1, e2]
    exact (hr.cont b hb).compact hS

/-- Compact halfway. -/
def halfR (R : List RBlk) (i : Nat) : List RBlk := compR 0 (R.take i) ++ R.drop i

theorem half_step {R : List RBlk} {i : Nat} {b : RBlk} (hi : R[i]? = some b) : (halfR R i)[i]? = some b ∧ halfR R (i + 1) = (halfR R i).set i { b with a := liveL ((R.take i).map RBlk.blk) } := by
  have hil := (List.getElem?_eq_some_iff.1 hi).1
  have hd : R.drop i = b :: R.drop (i + 1) := by
    rw [List.drop_eq_getElem_cons hil, (List.getElem?_eq_some_iff.1 hi).2]
  have hl : (compR 0 (R.take i)).length = i := by rw [compR_length, List.length_take]; omega
  unfold halfR
  rw [hd]
  refine ⟨by rw [List.getElem?_append_right (by omega), hl, Nat.sub_self]; rfl, ?_⟩
  rw [List.take_add_one, hi, List.set_append_right _ _ (by omega), hl, Nat.sub_self, List.set_cons_zero]
  show compR 0 (R.take i ++ [b]) ++ _ = _
  rw [compR_app, Nat.zero_add, List.append_assoc]
  rfl

set_option maxHeartbeats 1000000 in
theorem ref_compact (J : RefS X w p S) :
    Calls Try.prog 49 #[.pointer (some ⟨p, 0, none⟩)] w fun e w' => RefPost X w p (compactS S) (.int .i64 (compM 0 S.L)) e w' := by
  obtain ⟨N, R, v, H, hr, hS⟩ := J
  have hL := hr.blks
  have hlen : R.length ≤ 65536 := by have := hr.length; have := hS.length; have := hS.size; omega
  have hlv : liveL S.L ≤ 65536 := by have := hS.live; have := hS.size; omega
  have hcm := compM_le 0 S.L
  rw [← hr.length] at hcm
  obtain ⟨A, c, rfl⟩ := H.shape
  obtain ⟨M, hM⟩ : ∃ M, M = R.length := ⟨_, rfl⟩
  have HML := Lib.hid (hM.trans hr.length)
  rw [← hM] at hlen hcm H
  have HM := Lib.hid hM
  have HREL := Lib.hid hr
  have half0 : halfR R 0 = R := by simp [halfR, compR]
  have HH0 := Lib.hid (show RefAt X w p N (halfR R 0) (.slice A M c) from by rw [half0]; exact H)
  clear half0
  have HLV := Lib.hid hlv
  have HIN := Lib.hid hS
  have HLE := Lib.hid (show ∀ i b, R[i]? = some b → liveL ((R.take i).map RBlk.blk) + b.xs.length ≤ 65536 ∧ liveL ((R.take (i + 1)).map RBlk.blk) = liveL ((R.take i).map RBlk.blk) + b.xs.length ∧
      compM 0 ((R.take (i + 1)).map RBlk.blk) = compM 0 ((R.take i).map RBlk.blk) + (if b.a = liveL ((R.take i).map RBlk.blk) then 0 else 1) ∧ compM 0 ((R.take i).map RBlk.blk) ≤ 65536 from by
    intro i b hb
    have ht := live_take (blk_get hL hb)
    have hle := live_take_le S.L (i + 1)
    rw [ht] at hle
    have e1 : (R.take i).map RBlk.blk = S.L.take i := by rw [← hL, List.map_take]
    have e2 : (R.take (i + 1)).map RBlk.blk = S.L.take (i + 1) := by rw [← hL, List.map_take]
    have e3 : S.L.take (i + 1) = S.L.take i ++ [b.blk] := by rw [List.take_add_one, blk_get hL hb]; rfl
    have h4 := compM_le 0 (S.L.take i)
    have h5 : (S.L.take i).length ≤ M := by rw [List.length_take, ← HML.out]; omega
    rw [e1, e2]
    refine ⟨Nat.le_trans hle hlv, ht, ?_, by omega⟩
    rw [e3, compM_app, Nat.zero_add]; rfl)
  clear hM H hr hS hlv hcm hL
  go_enter Try.func49, Try.ntmps49
  go_wp2_with fail
  go_loopw [3, 4, 5] (fun t3 t4 t5 wr => ∃ i : Nat, i ≤ M ∧ t5 = .int .i64 i ∧ t3 = .int .i64 (liveL ((R.take i).map RBlk.blk)) ∧ t4 = .int .i64 (compM 0 ((R.take i).map RBlk.blk)) ∧ RefAt X wr p N (halfR R i) (.slice A M c) ∧ Keep X w wr) (fun _ _ t5 _ => M - (intOf t5).toNat)
  case atStart => exact ⟨0, Nat.zero_le _, by go_num, by simp [liveL], by simp [compM], HH0.out, Keep.refl _ _⟩
  case round =>
    obtain ⟨i, hi, rfl, rfl, rfl, H, hK⟩ := hrel
    have c1 := H.c1
    by_cases hlt : i < M
    · obtain ⟨b, hb⟩ : ∃ b, R[i]? = some b := ⟨R[i]'(by rw [← HM.out]; exact hlt), List.getElem?_eq_getElem _⟩
      obtain ⟨f1, f2, f3, f4⟩ := HLE.out i b hb
      obtain ⟨u1, u2⟩ := half_step hb
      obtain ⟨lo, hlo⟩ : ∃ lo, lo = liveL ((R.take i).map RBlk.blk) := ⟨_, rfl⟩
      obtain ⟨mm, hmm⟩ : ∃ mm, mm = compM 0 ((R.take i).map RBlk.blk) := ⟨_, rfl⟩
      rw [← hlo] at f1 f2 f3 u2 ⊢
      rw [← hmm] at f3 f4 ⊢
      obtain ⟨g, rfl, xg, -, d1, d2⟩ := H.at_ u1
      have hfz := H.frz_row (i * 3 + 1)
      have HF2 := Lib.hid f2
      have HF3 := Lib.hid f3
      have HK := Lib.hid hK
      have hgl : g < wr.heap.size := H.lt.2.1 g rfl
      by_cases ha : b.a = lo
      · have H' : RefAt X wr p N (halfR R (i + 1)) (.slice (some ⟨g, 0, none⟩) M c) := by
          rw [u2, ← ha]
          have : (halfR R i).set i b = halfR R i := by
            apply List.ext_getElem?
            intro n
            by_cases hn : i = n
            · subst hn
              rw [List.getElem?_set_self (List.getElem?_eq_some_iff.1 u1).1, u1]
            · rw [List.getElem?_set_ne hn]
          exact (this.symm ▸ H : RefAt X wr p N ((halfR R i).set i b) _)
        have HH := Lib.hid H'
        subst ha
        clear H H' hb f2 f3 u1 u2 hlo hmm hK
        go_wp2_with fail
        go_roundw
        case rel => exact ⟨i + 1, by omega, by go_num, by rw [HF2.out]; go_num, by rw [HF3.out, if_pos rfl]; rfl, HH.out, HK.out⟩
        case measure => simp [intOf]; omega
      · have H' := H.setAt u1 lo
        rw [← u2] at H'
        have d2' : (wr.setCell ⟨g, i * 3 + 1, none⟩ (.int .i64 lo)).cell? ⟨g, i * 3 + 2, none⟩ = some (.slice (some ⟨b.d, 0, none⟩) b.xs.length b.xs.length) := by
          obtain ⟨g', e1, _, _, _, e4⟩ := H'.at_ (i := i) (b := { b with a := lo }) (by rw [u2, List.getElem?_set_self (List.getElem?_eq_some_iff.1 u1).1])
          simp only [Option.some.injEq, Addr.mk.injEq] at e1
          rw [← e1.1] at e4
          exact e4
        have c1' := H'.c1
        have HH := Lib.hid H'
        have hK' := hK.setCell (p := ⟨g, i * 3 + 1, none⟩) (fun _ => xg) (.int .i64 lo)
        have HK' := Lib.hid hK'
        clear H H' hb f2 f3 u1 u2 hlo hmm hK hK'
        go_wp2_with fail
        go_roundw
        case rel => exact ⟨i + 1, by omega, by go_num, by rw [HF2.out]; go_num, by rw [HF3.out, if_neg ha]; go_num, HH.out, HK'.out⟩
        case measure => simp [intOf]; omega
    · obtain rfl : i = M := by omega
      have htk : R.take i = R := List.take_of_length_le (by rw [HM.out]; exact Nat.le_refl _)
      have hhf : halfR R i = compR 0 R := by unfold halfR; rw [htk, List.drop_eq_nil_of_le (by rw [HM.out]; exact Nat.le_refl _), List.append_nil]
      rw [htk, HREL.out.blks]
      rw [hhf] at H
      have HP := Lib.hid (show RefPost X w p (compactS S) (.int .i64 (compM 0 S.L)) (.returned (.int .i64 (compM 0 S.L))) wr from
        ⟨rfl, ⟨N, _, _, H.mono (fun k hk => .inl hk), rel_compact HREL.out HIN.out, HIN.out.compact⟩, hK⟩)
      clear htk hhf H hK
      go_wp2_with fail
      go_ret
      exact HP.out
end Go.Proofs.Ytpaopcnbgdlgnaa
