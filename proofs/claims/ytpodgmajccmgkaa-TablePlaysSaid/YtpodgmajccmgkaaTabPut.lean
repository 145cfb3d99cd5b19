/- Set's closure put. -/
import Derived.Test.YtpodgmajccmgkaaTabGet
namespace Go.Proofs.Ytpodgmajccmgkaa
open Go.RowKit Go.Shelf
set_option linter.unusedVariables false
set_option linter.unusedSimpArgs false
attribute [local go_sem] Oper.semAt_some nil_slot field_t meth_array meth_nodes meth_slot meth_setslot meth_resize meth_hash

variable {w w' : World} {p : Nat} {sv sv' : Value} {T T' : Tb}

theorem wayF_lt : ∀ f x, x < T.nodes → ∀ y ∈ wayF T f x, y < T.nodes := by
  intro f
  induction f with
  | zero => intro x _ y hy; simp [wayF] at hy
  | succ f ih =>
    intro x hx y hy
    unfold wayF at hy
    rcases List.mem_cons.1 hy with rfl | hy
    · exact hx
    · split at hy
      · simp at hy
      · exact ih _ (Nat.mod_lt _ (by omega)) y hy
theorem wayL_lt (k : V) : ∀ y ∈ wayL T k, y < T.nodes := by
  intro y hy
  unfold wayL at hy
  split at hy
  · simp at hy
  · exact wayF_lt _ _ (Nat.mod_lt _ (by omega)) y hy

theorem findL_range (k : V) : ∀ l : List Nat, ((findL T k l).1 = -1 ∨ ∃ y ∈ l, (findL T k l).1 = ((T.a + 2 * y + 1 : Nat) : Int) ∧ slotT T (T.a + 2 * y : Nat) = k) ∧ ((findL T k l).2 = -1 ∨ ∃ y ∈ l, (findL T k l).2 = (y : Int) ∧ (findL T k l).1 = -1 ∧ (slotT T (T.a + 2 * y : Nat)).t = 0) := by
  intro l
  induction l with
  | nil => exact ⟨.inl rfl, .inl rfl⟩
  | cons x l ih =>
    unfold findL
    by_cases h1 : slotT T (T.a + 2 * x : Nat) = k
    · rw [if_pos h1]; exact ⟨.inr ⟨x, by simp, rfl, h1⟩, .inl rfl⟩
    · rw [if_neg h1]
      by_cases h2 : (slotT T (T.a + 2 * x : Nat)).t = 0
      · rw [if_pos h2]; exact ⟨.inl rfl, .inr ⟨x, by simp, rfl, rfl, h2⟩⟩
      · rw [if_neg h2]
        refine ⟨ih.1.imp_right ?_, ih.2.imp_right ?_⟩
        · rintro ⟨y, hy, h⟩; exact ⟨y, by simp [hy], h⟩
        · rintro ⟨y, hy, h⟩; exact ⟨y, by simp [hy], h⟩

theorem nodes_le (H : T.a ≤ T.sl.length) : T.a + 2 * T.nodes ≤ T.sl.length := by unfold Tb.nodes; omega

theorem findT_range (k : V) (H : T.a ≤ T.sl.length) : ((findT T k).1 = -1 ∨ ∃ y : Nat, (findT T k).1 = y ∧ y < T.sl.length) ∧ ((findT T k).2 = -1 ∨ ∃ y : Nat, (findT T k).2 = y ∧ y < T.nodes ∧ (findT T k).1 = -1) := by
  have hn := nodes_le H
  unfold findT
  split
  · rename_i h
    refine ⟨.inr ⟨(k.n - 1).toNat, ?_, ?_⟩, .inl rfl⟩
    · show k.n - 1 = _; omega
    · omega
  · obtain ⟨h1, h2⟩ := findL_range (T := T) k (wayL T k)
    refine ⟨h1.imp_right ?_, h2.imp_right ?_⟩
    · rintro ⟨y, hy, h, -⟩
      have := wayL_lt k y hy
      exact ⟨_, h, by omega⟩
    · rintro ⟨y, hy, h, h3, -⟩
      exact ⟨y, h, wayL_lt k y hy, h3⟩

theorem Box.mv {w w' : World} {p : Nat} {sv sv' : Value} {b : Nat} {l : List Value} {e : TypeId} (h : Box w b l e) (hm : Mv p sv w w' sv') (hb : ¬ OwnS p sv b) : Box w' b l e := h.of_block (hm.1.block b h.lt hb)

def putT (T : Tb) (k v : V) : Tb × Bool :=
  if 0 ≤ (findT T k).1 then (setT T (findT T k).1 v, true)
  else if v.t = 0 then (T, true)
  else if 0 ≤ (findT T k).2 then (setT (setT T ((T.a : Int) + 2 * (findT T k).2) k) ((T.a : Int) + 2 * (findT T k).2 + 1) v, true)
  else (T, false)

def PutPost (w : World) (p : Nat) (sv : Value) (r : Tb × Bool) (e : Ending) (w' : World) : Prop := e = .returned (.bool r.2) ∧ MemAt w' p sv r.1 ∧ Mv p sv w w' sv

theorem PutPost.mk' {w w' : World} {p : Nat} {sv : Value} {r : Tb × Bool} {b : Bool} (hb : r.2 = b) (h : MemAt w' p sv r.1) (hm : Mv p sv w w' sv) : PutPost w p sv r (.returned (.bool b)) w' := ⟨by rw [hb], h, hm⟩

set_option maxRecDepth 100000 in
set_option maxHeartbeats 2000000 in
theorem put_any (H : MemAt w p sv T) (hP : Pow2 T.nodes) (k v : V) (bs bk bv : Nat) (hbs : Box w bs [memV p] 59) (hbk : Box w bk [.int .i64 k.t, .int .i64 k.n] 27) (hbv : Box w bv [.int .i64 v.t, .int .i64 v.n] 27)
    (hne : ∀ k, OwnS p sv k → k ≠ bs ∧ k ≠ bk ∧ k ≠ bv) :
    Calls Try.prog 36 #[.pointer (some ⟨bs, 0, none⟩), .pointer (some ⟨bk, 0, none⟩), .pointer (some ⟨bv, 0, none⟩)] w fun e w' => PutPost w p sv (putT T k v) e w' := by
  unfold memV at hbs
  obtain ⟨⟨f1, f2⟩, hf⟩ : ∃ f, f = findT T k := ⟨_, rfl⟩
  have hr := findT_range k H.le
  have FC := find_any' H hP k
  have hput : putT T k v = if 0 ≤ f1 then (setT T f1 v, true) else if v.t = 0 then (T, true) else if 0 ≤ f2 then (setT (setT T ((T.a : Int) + 2 * f2) k) ((T.a : Int) + 2 * f2 + 1) v, true) else (T, false) := by
    unfold putT; rw [← hf]
  rw [← hf] at hr FC
  simp only at hr FC
  obtain ⟨r, hrr⟩ : ∃ r, r = putT T k v := ⟨_, rfl⟩
  rw [← hrr] at hput ⊢
  clear hf hrr
  obtain ⟨kt, kn⟩ := k
  obtain ⟨vt, vn⟩ := v
  simp only at *
  obtain ⟨s0, -⟩ : w.cell? ⟨bs, 0, none⟩ = some _ ∧ True := ⟨hbs.cell 0, trivial⟩
  obtain ⟨k0, k1, -, -⟩ := hbk.cells2
  obtain ⟨v0, v1, -, -⟩ := hbv.cells2
  have HPUT := Lib.hid hput
  have HH := Lib.hid H
  have HR := Lib.hid hr
  have HNE := Lib.hid hne
  clear hput H hr hne
  go_enter Try.func36, Try.ntmps36
  go_wp2_with fail
  refine FC.mono ?_
  clear FC
  rintro e w1 ⟨rfl, hb1⟩
  have hbs1 := hbs.below hb1 hbs.lt
  have hbk1 := hbk.below hb1 hbk.lt
  have hbv1 := hbv.below hb1 hbv.lt
  obtain ⟨s1, -⟩ : w1.cell? ⟨bs, 0, none⟩ = some _ ∧ True := ⟨hbs1.cell 0, trivial⟩
  obtain ⟨k2, k3, -, -⟩ := hbk1.cells2
  obtain ⟨v2, v3, -, -⟩ := hbv1.cells2
  have HB1 := Lib.hid hb1
  clear s0 k0 k1 v0 v1
  by_cases h1 : 0 ≤ f1
  · have h1' : ¬ f1 < 0 := by omega
    have hr1 : r = (setT T f1 ⟨vt, vn⟩, true) := by rw [HPUT.out, if_pos h1]
    have SC := setslot_any (HH.out.below hb1) f1 ⟨vt, vn⟩
    unfold V.val at SC
    simp only at SC
    have HR1 := Lib.hid hr1
    clear hr1 hb1
    go_wp2_with fail
    refine SC.mono ?_
    clear SC
    rintro e w2 ⟨rfl, h2, h3⟩
    have HM := Lib.hid h2
    have HV := Lib.hid ((Mv.below HB1.out).trans h3)
    clear h2 h3
    go_wp2_with fail
    go_ret
    exact PutPost.mk' (by rw [HR1.out]) (by rw [HR1.out]; exact HM.out) HV.out
  · by_cases h2 : vt = 0
    · have hr1 : r = (T, true) := by rw [HPUT.out, if_neg h1, if_pos h2]
      have HR1 := Lib.hid hr1
      clear hr1 hb1
      subst h2
      go_wp2_with fail
      go_ret
      exact PutPost.mk' (by rw [HR1.out]) (by rw [HR1.out]; exact HH.out.below HB1.out) (Mv.below HB1.out)
    · have h2' : (vt == 0) = false := by simp [h2]
      by_cases h3 : 0 ≤ f2
      · have hr1 : r = (setT (setT T ((T.a : Int) + 2 * f2) ⟨kt, kn⟩) ((T.a : Int) + 2 * f2 + 1) ⟨vt, vn⟩, true) := by rw [HPUT.out, if_neg h1, if_neg h2, if_pos h3]
        have HR1 := Lib.hid hr1
        have AC := array_any (HH.out.below hb1)
        obtain ⟨y, hy, hyn, -⟩ : ∃ y : Nat, f2 = y ∧ y < T.nodes ∧ f1 = -1 := by
          rcases HR.out.2 with h | h
          · omega
          · exact h
        have hle := nodes_le HH.out.le
        have hsm := HH.out.small
        obtain ⟨a, ha⟩ : ∃ a, a = T.a := ⟨_, rfl⟩
        rw [← ha] at AC hle hr1
        have HA := Lib.hid ha
        subst hy
        have q1 : IntKind.i64.wrap (2 * (y : Int)) = 2 * (y : Int) := IntWalk.i64_in _ (by omega)
        have q2 : IntKind.i64.wrap ((a : Int) + 2 * (y : Int)) = (a : Int) + 2 * (y : Int) := IntWalk.i64_in _ (by omega)
        have q3 : IntKind.i64.wrap ((a : Int) + 2 * (y : Int) + 1) = (a : Int) + 2 * (y : Int) + 1 := IntWalk.i64_in _ (by omega)
        clear hr1 hb1 ha h3
        go_wp2_with fail
        refine AC.mono ?_
        rintro e w2 ⟨rfl, rfl⟩
        clear AC
        have SC1 := setslot_any (HH.out.below HB1.out) ((a : Int) + 2 * (y : Int)) ⟨kt, kn⟩
        unfold V.val at SC1
        simp only at SC1
        go_wp2_with fail
        refine SC1.mono ?_
        clear SC1
        rintro e w3 ⟨rfl, hm3, hv3⟩
        have hbs3 := hbs1.mv hv3 (fun h => (HNE.out _ h).1 rfl)
        have hbk3 := hbk1.mv hv3 (fun h => (HNE.out _ h).2.1 rfl)
        have hbv3 := hbv1.mv hv3 (fun h => (HNE.out _ h).2.2 rfl)
        obtain ⟨t1, -⟩ : w3.cell? ⟨bs, 0, none⟩ = some _ ∧ True := ⟨hbs3.cell 0, trivial⟩
        obtain ⟨l2, l3, -, -⟩ := hbk3.cells2
        obtain ⟨m2, m3, -, -⟩ := hbv3.cells2
        have SC2 := setslot_any hm3 ((a : Int) + 2 * (y : Int) + 1) ⟨vt, vn⟩
        unfold V.val at SC2
        simp only at SC2
        have HV3 := Lib.hid ((Mv.below HB1.out).trans hv3)
        clear hv3 hm3 s1 k2 k3 v2 v3
        go_wp2_with fail
        refine SC2.mono ?_
        clear SC2
        rintro e w4 ⟨rfl, hm4, hv4⟩
        have HM := Lib.hid hm4
        have HV4 := Lib.hid (HV3.out.trans hv4)
        clear hm4 hv4
        go_wp2_with fail
        go_ret
        exact PutPost.mk' (by rw [HR1.out]) (by rw [HR1.out, ← HA.out]; exact HM.out) HV4.out
      · have hr1 : r = (T, false) := by rw [HPUT.out, if_neg h1, if_neg h2, if_neg h3]
        have HR1 := Lib.hid hr1
        clear hr1 hb1
        go_wp2_with fail
        go_ret
        exact PutPost.mk' (by rw [HR1.out]; simp; omega) (by rw [HR1.out]; exact HH.out.below HB1.out) (Mv.below HB1.out)
end Go.Proofs.Ytpodgmajccmgkaa
