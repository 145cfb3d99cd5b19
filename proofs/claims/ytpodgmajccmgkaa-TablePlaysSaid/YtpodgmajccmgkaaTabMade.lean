/- A table behind some calls. -/
import Derived.Test.YtpodgmajccmgkaaTabOpen
import Derived.Test.YtpodgmajccmgkaaTabWf4
namespace Go.Proofs.Ytpodgmajccmgkaa
open Go.RowKit Go.Shelf
set_option linter.unusedVariables false
set_option linter.unusedSimpArgs false
attribute [local go_sem] Oper.semAt_some nil_slot field_t meth_array meth_nodes meth_slot meth_setslot meth_resize meth_hash

variable {w0 w w' : World} {p n : Nat} {sv sv' : Value} {T T' : Tb}

def actT (T : Tb) (a : ActV) : Tb := if a.kind = 1 then (setR T a.k a.v).1 else T
def playL (T : Tb) (l : List ActV) : Tb := l.foldl actT T

theorem playL_take (T : Tb) (l : List ActV) {i : Nat} {a : ActV} (h : l[i]? = some a) : playL T (l.take (i + 1)) = actT (playL T (l.take i)) a := by
  have : l.take (i + 1) = l.take i ++ [a] := by rw [List.take_add_one, h]; rfl
  rw [this]; simp [playL]

/-- A table that so many Sets have made. -/
structure MT (T : Tb) (n : Nat) : Prop where
  wf : WF T
  cnt : (pairsL T).length ≤ n
theorem MT.start (most : Int) : MT ⟨most, 0, []⟩ 0 := by
  have e : (⟨most, 0, []⟩ : Tb) = sizedT ⟨most, 0, []⟩ 0 0 := rfl
  rw [e]
  exact ⟨sized_wf _ _ _, by rw [sized_pairs]; exact Nat.le_refl _⟩
theorem MT.set (h : MT T n) (hn : n + 1 ≤ 8000) (k v : V) : MT (setR T k v).1 (n + 1) := by
  rcases set_ok h.wf (by have := h.cnt; omega) k v with ⟨-, h2⟩ | ⟨-, k', -, -, h4⟩
  · rw [h2]; exact ⟨h.wf, Nat.le_succ_of_le h.cnt⟩
  · exact ⟨h4.wf, Nat.le_trans h4.cnt (Nat.succ_le_succ h.cnt)⟩
theorem MT.act (h : MT T n) (hn : n + 1 ≤ 8000) (a : ActV) : MT (actT T a) (n + 1) := by
  unfold actT
  split
  · exact h.set hn _ _
  · exact ⟨h.wf, Nat.le_succ_of_le h.cnt⟩
theorem MT.play : ∀ (l : List ActV) {T : Tb} {n : Nat}, MT T n → n + l.length ≤ 7999 → MT (playL T l) (n + l.length) := by
  intro l
  induction l with
  | nil => intro T n h _; exact h
  | cons a l ih =>
    intro T n h hn
    rw [List.length_cons] at hn
    have := ih (h.act (by omega) a) (by omega)
    rw [List.length_cons, show n + (l.length + 1) = n + 1 + l.length by omega]
    exact this

def madeT (l : List ActV) : Tb := playL ⟨400, 0, []⟩ (l.take 80)
theorem madeT_ok (l : List ActV) : MT (madeT l) 80 := by
  have hl : (l.take 80).length ≤ 80 := by rw [List.length_take]; omega
  have := MT.play (l.take 80) (MT.start 400) (by omega)
  exact ⟨this.wf, Nat.le_trans this.cnt (by omega)⟩

theorem made_pre (l : List ActV) {i : Nat} (hi : i ≤ 80) : MT (playL ⟨400, 0, []⟩ (l.take i)) 80 := by
  have hl : (l.take i).length ≤ 80 := by rw [List.length_take]; omega
  have := MT.play (l.take i) (MT.start 400) (by omega)
  exact ⟨this.wf, Nat.le_trans this.cnt (by omega)⟩

def MadeP (w : World) (l : List ActV) (e : Ending) (w' : World) : Prop := ∃ p sv, e = .returned (.pointer (some ⟨p, 0, none⟩)) ∧ HasT w w' p sv (madeT l)

set_option maxHeartbeats 1000000 in
theorem made_any (A : Option Addr) (l : List ActV) (c : Nat) (w : World) (hl : Lst w w.heap.size A l) (hlen : l.length ≤ maxLen) :
    Calls Try.prog 10 #[.slice A l.length c] w fun e w' => MadeP w l e w' := by
  obtain ⟨N, hN⟩ : ∃ N, N = l.length := ⟨_, rfl⟩
  rw [← hN] at hlen ⊢
  have HN := Lib.hid hN
  have HLEN := Lib.hid hlen
  have HL := Lib.hid hl
  clear hN hl hlen
  go_enter Try.func10, Try.ntmps10
  go_wp2_with fail
  refine (new_has 400 ⟨by decide, by decide⟩ _).mono ?_
  rintro e w1 ⟨p, rfl, H⟩
  have HH := Lib.hid H
  clear H
  go_wp2_with fail
  go_loopw [4] (fun t4 wr => ∃ (i : Nat) (sv : Value), i ≤ N ∧ i ≤ 80 ∧ t4 = .int .i64 i ∧ HasT w wr p sv (playL ⟨400, 0, []⟩ (l.take i))) (fun t4 _ => 80 - (intOf t4).toNat)
  case atStart => exact ⟨0, _, Nat.zero_le _, Nat.zero_le _, by go_num, HH.out⟩
  case round =>
    obtain ⟨i, sv, hi, hi8, rfl, H1⟩ := hrel
    by_cases hlt : i < N
    · by_cases hlt8 : i < 80
      · obtain ⟨a, ha⟩ : ∃ a, l[i]? = some a := ⟨l[i]'(by rw [← HN.out]; exact hlt), List.getElem?_eq_getElem _⟩
        obtain ⟨ad, hA, hB, hc⟩ := (HL.out.below H1.b) i a ha
        have hpt := playL_take ⟨400, 0, []⟩ l ha
        have hmt := (made_pre l (i := i) hi8).cnt
        obtain ⟨Ti, hTi⟩ : ∃ Ti, Ti = playL ⟨400, 0, []⟩ (l.take i) := ⟨_, rfl⟩
        rw [← hTi] at H1 hpt hmt
        obtain ⟨kind, ⟨kt, kn⟩, ⟨vt, vn⟩, ai⟩ := a
        subst hA
        have hc0 : wr.cell? (ad.add (i * 6)) = some (.int .i64 kind) := hc 0 _ rfl
        have hc1 : wr.cell? ⟨(ad.add (i * 6)).block, (ad.add (i * 6)).off + 1, none⟩ = some (.int .i64 kt) := hc 1 _ rfl
        have hc2 : wr.cell? ⟨(ad.add (i * 6)).block, (ad.add (i * 6)).off + 1 + 1, none⟩ = some (.int .i64 kn) := hc 2 _ rfl
        have hc3 : wr.cell? ⟨(ad.add (i * 6)).block, (ad.add (i * 6)).off + 3, none⟩ = some (.int .i64 vt) := hc 3 _ rfl
        have hc4 : wr.cell? ⟨(ad.add (i * 6)).block, (ad.add (i * 6)).off + 3 + 1, none⟩ = some (.int .i64 vn) := hc 4 _ rfl
        have HPT := Lib.hid hpt
        have H1' := Lib.hid H1
        clear hc ha hTi H1 hpt
        by_cases hk : kind = 1
        · have hke : actT Ti ⟨kind, ⟨kt, kn⟩, ⟨vt, vn⟩, ai⟩ = (setR Ti ⟨kt, kn⟩ ⟨vt, vn⟩).1 := by unfold actT; rw [if_pos hk]
          have HKE := Lib.hid (HPT.out.trans hke)
          have SC := set_has (H1'.out.step (Below.refl _ wr).drew) (by omega) ⟨kt, kn⟩ ⟨vt, vn⟩
          simp only at SC
          clear hke HPT
          subst hk
          go_wp2_with fail
          have HSC := Lib.hid SC
          clear SC
          go_region_with (go_at_call 16; refine HSC.out.mono ?_; rintro e w2 ⟨sv2, rfl, H2, hv2⟩; have H3 := Lib.hid (show HasT w w2 p sv2 (playL ⟨400, 0, []⟩ (l.take (i + 1))) from by rw [HKE.out]; exact H2); clear H2 hv2)
          all_goals (
            clear hc0 hc1 hc2 hc3 hc4
            go_wp2_with fail
            go_roundw
            case rel => exact ⟨i + 1, _, by omega, by omega, by go_num, H3.out⟩
            case measure => simp [intOf]; omega)
        · have hke : actT Ti ⟨kind, ⟨kt, kn⟩, ⟨vt, vn⟩, ai⟩ = Ti := by unfold actT; rw [if_neg hk]
          have H3 := Lib.hid (show HasT w wr p sv (playL ⟨400, 0, []⟩ (l.take (i + 1))) from by rw [HPT.out, hke]; exact H1'.out)
          have hk1 : (kind == 1) = false := by simp [hk]
          clear hke HPT
          go_wp2_with fail
          go_roundw
          case rel => exact ⟨i + 1, sv, by omega, by omega, by go_num, H3.out⟩
          case measure => simp [intOf]; omega
      · obtain rfl : i = 80 := by omega
        have HP := Lib.hid (show MadeP w l (.returned (.pointer (some ⟨p, 0, none⟩))) wr from ⟨p, sv, rfl, H1⟩)
        clear H1
        go_wp2_with fail
        go_ret
        exact HP.out
    · obtain rfl : i = N := by omega
      have HP := Lib.hid (show MadeP w l (.returned (.pointer (some ⟨p, 0, none⟩))) wr from ⟨p, sv, rfl, by unfold madeT; rw [List.take_of_length_le (by rw [← HN.out]; exact hi8)]; rw [List.take_of_length_le (by rw [← HN.out]; exact Nat.le_refl _)] at H1; exact H1⟩)
      clear H1
      go_wp2_with fail
      go_ret
      exact HP.out
end Go.Proofs.Ytpodgmajccmgkaa
