/- Cut, after: the document's; what lies behind a word. -/
import Derived.Test.YthncifbnkednlaaDoorScrNum
namespace Go.Proofs.YthncifbnkednlaaDoor
open Go.RowKit Go.Shelf
set_option linter.unusedVariables false
set_option linter.unusedSimpArgs false

theorem cut1_at {c : UInt8} : ∀ {l : Bs} {i : Nat}, c ∉ l.take i → l[i]? = some c → cut1 c l = (l.take i, l.drop (i + 1), true) := by
  intro l
  induction l with
  | nil => intro i _ h; simp at h
  | cons b l ih =>
    intro i hn hi
    cases i with
    | zero =>
      simp only [List.getElem?_cons_zero, Option.some.injEq] at hi
      subst hi
      unfold cut1
      rw [if_pos rfl]; rfl
    | succ i =>
      rw [List.take_succ_cons, List.mem_cons, not_or] at hn
      rw [List.getElem?_cons_succ] at hi
      have := ih hn.2 hi
      unfold cut1
      rw [if_neg (fun e => hn.1 e.symm), this]; rfl
theorem cut1_out {c : UInt8} : ∀ {l : Bs}, c ∉ l → cut1 c l = (l, [], false) := by
  intro l
  induction l with
  | nil => intro _; rfl
  | cons b l ih =>
    intro h
    rw [List.mem_cons, not_or] at h
    unfold cut1
    rw [if_neg (fun e => h.1 e.symm), ih h.2]
theorem ext_take (s : ByteArray) (i : Nat) : s.extract 0 i = str ((bs s).take i) := by
  apply ByteArray.ext
  apply Array.toList_inj.1
  unfold str bs
  simp [List.extract]
theorem ext_drop (s : ByteArray) (i : Nat) : s.extract i s.size = str ((bs s).drop i) := by
  apply ByteArray.ext
  apply Array.toList_inj.1
  unfold str bs
  simp [List.extract]
  rw [show s.size = s.data.toList.length from Lib.size_eq s]
  apply List.take_of_length_le
  simp
theorem app_bs (a b : ByteArray) : bs (a ++ b) = bs a ++ bs b := by
  unfold bs
  simp

set_option maxHeartbeats 2000000 in
theorem rcut_any (s : ByteArray) (c : UInt8) (w : World) (hs : s.size ≤ 1000000) : Calls Tryd.prog 19 #[.string s, .int .u8 c.toNat] w fun e w' => e = .returned (.tuple #[.string (str (cut1 c (bs s)).1), .string (str (cut1 c (bs s)).2.1), .bool (cut1 c (bs s)).2.2]) ∧ Below w.heap.size w w' := by
  obtain ⟨r1, r2, r3, hr⟩ : ∃ r1 r2 r3, cut1 c (bs s) = (r1, r2, r3) := ⟨_, _, _, rfl⟩
  rw [hr]
  simp only
  have HR := Lib.hid hr
  obtain ⟨C, hC⟩ : ∃ C, C = c.toNat := ⟨_, rfl⟩
  rw [← hC]
  have HC := Lib.hid hC
  clear hr hC
  go_enter Tryd.func19, Tryd.ntmps19
  go_wp2_with fail
  go_loop [7] (fun t7 => ∃ k : Nat, k ≤ s.size ∧ t7 = .int .i64 k ∧ c ∉ (bs s).take k) (fun t7 => s.size - (intOf t7).toNat)
  case atStart => exact ⟨0, Nat.zero_le _, rfl, by simp⟩
  case round =>
    obtain ⟨k, hk, rfl, hno⟩ := hrel
    have HNO := Lib.hid hno
    by_cases hlt : k < s.size
    · by_cases he : s[k].toNat = C
      · have hec : s[k] = c := UInt8.toNat_inj.1 (by rw [he, HC.out])
        have hr := HR.out
        rw [cut1_at hno (by rw [get_bs s k hlt, hec])] at hr
        simp only [Prod.mk.injEq] at hr
        obtain ⟨rfl, rfl, rfl⟩ := hr
        have HE1 := Lib.hid (ext_take s k)
        have HE2 := Lib.hid (ext_drop s (k + 1))
        have g1 : ((s[k].toNat : Int) == (C : Int)) = true := by simp [he]
        have g2 : (s[k].toNat == C) = true := by simp [he]
        have hw1 : IntKind.i64.wrap ((k : Int) + 1) = (k : Int) + 1 := IntWalk.i64_in _ (by omega)
        have h1 : (0 : Int) ≤ (k : Int) := by omega
        have h2 : (k : Int) ≤ (s.size : Int) := by omega
        have h3 : (0 : Int) ≤ (k : Int) + 1 := by omega
        have h4 : (k : Int) + 1 ≤ (s.size : Int) := by omega
        have h5 : ((k : Int) + 1).toNat = k + 1 := by omega
        have h6 : k + 1 ≤ s.size := by omega
        clear hno hec he
        go_wp2_with fail
        go_quiet (fail)
        go_wp2_with fail
        go_ret3
        exact ⟨by rw [← HE1.out, ← HE2.out]; rfl, below_drewN (Below.refl _ _) _⟩
      · have hnc : s[k] ≠ c := fun e => he (by rw [e, HC.out])
        have HN : Hid (c ∉ (bs s).take (k + 1)) := Lib.hid (by rw [take_snoc' s k hlt, List.mem_append, not_or]; exact ⟨hno, by simp; exact fun e => hnc e.symm⟩)
        have g1 : ((s[k].toNat : Int) == (C : Int)) = false := by simp; omega
        clear hno hnc
        go_wp2_with fail
        go_round
        case rel => exact ⟨k + 1, by omega, by go_num, HN.out⟩
        case measure => simp [intOf]; omega
    · obtain rfl : k = s.size := by omega
      have hr := HR.out
      rw [cut1_out (by have := HNO.out; rwa [List.take_of_length_le (by rw [← size_bs]; exact Nat.le_refl _)] at this)] at hr
      simp only [Prod.mk.injEq] at hr
      obtain ⟨rfl, rfl, rfl⟩ := hr
      clear hno HR
      go_wp2_with fail
      go_ret3
      exact ⟨rfl, Below.refl _ _⟩

/-- What follows a word and a blank, as a number; -1: it is none. -/
def aftR (w l : Bs) : Int := match afterL (w ++ [32]) l with
  | none => -1
  | some n => n
set_option maxHeartbeats 2000000 in
theorem rafter_any (s wd : ByteArray) (w : World) (hs : s.size ≤ 1000000) (hwd : wd.size ≤ 100) : Calls Tryd.prog 20 #[.string s, .string wd] w fun e w' => e = .returned (.int .i64 (aftR (bs wd) (bs s))) ∧ w' = w := by
  obtain ⟨r, hr⟩ : ∃ r, aftR (bs wd) (bs s) = r := ⟨_, rfl⟩
  rw [hr]
  have HR := Lib.hid hr
  clear hr
  have hw1 : IntKind.i64.wrap ((wd.size : Int) + 1) = (wd.size : Int) + 1 := IntWalk.i64_in _ (by omega)
  by_cases hle : s.size ≤ wd.size
  · have hr := HR.out
    unfold aftR afterL at hr
    have hnp : (bs wd ++ [32]).isPrefixOf (bs s) = false := by
      rw [← Bool.not_eq_true, List.isPrefixOf_iff_prefix]
      intro h
      have := h.length_le
      rw [List.length_append, ← size_bs, ← size_bs] at this
      simp only [List.length_cons, List.length_nil] at this
      omega
    rw [hnp, if_neg (by decide)] at hr
    simp only at hr
    subst hr
    clear HR hnp
    go_enter Tryd.func20, Tryd.ntmps20
    go_wp2_with fail
    go_ret
    exact ⟨rfl, rfl⟩
  · have h1 : (0 : Int) ≤ (wd.size : Int) + 1 := by omega
    have h2 : (wd.size : Int) + 1 ≤ (s.size : Int) := by omega
    have h3 : ((wd.size : Int) + 1).toNat = wd.size + 1 := by omega
    have h4 : wd.size + 1 ≤ s.size := by omega
    have hlb : (bs wd ++ [32]).length = wd.size + 1 := by rw [List.length_append, ← size_bs]; rfl
    by_cases heq : (bs s).take (wd.size + 1) = bs wd ++ [32]
    · have hr := HR.out
      unfold aftR afterL at hr
      have hp : (bs wd ++ [32]).isPrefixOf (bs s) = true := by
        rw [List.isPrefixOf_iff_prefix, ← heq]
        exact List.take_prefix _ _
      rw [hp, if_pos rfl, hlb] at hr
      have g1 : ((s.extract 0 (wd.size + 1)).toList == (wd ++ { data := #[32] }).toList) = true := by
        rw [ByteArray.toList_eq, ByteArray.toList_eq, ext_take]
        show (bs (str ((bs s).take (wd.size + 1))) == bs (wd ++ { data := #[32] })) = true
        rw [bs_str, app_bs, heq]
        exact beq_self_eq_true _
      have HE2 := Lib.hid (ext_drop s (wd.size + 1))
      have NC := rnumber_any (s.extract (wd.size + 1) s.size) w (by rw [ext_drop, size_bs, bs_str, List.length_drop, ← size_bs]; omega)
      have hnr : numR (bs (s.extract (wd.size + 1) s.size)) = r := by rw [ext_drop, bs_str, ← hr]; rfl
      rw [hnr] at NC
      have HNC := Lib.hid NC
      clear hr HR hp NC hnr heq hlb
      go_enter Tryd.func20, Tryd.ntmps20
      go_wp2_with fail
      refine HNC.out.mono ?_
      rintro e w1 ⟨rfl, rfl⟩
      go_wp2_with fail
      go_ret
      exact ⟨rfl, rfl⟩
    · have hr := HR.out
      unfold aftR afterL at hr
      have hp : (bs wd ++ [32]).isPrefixOf (bs s) = false := by
        rw [← Bool.not_eq_true, List.isPrefixOf_iff_prefix]
        intro h
        apply heq
        rw [← hlb]
        exact (List.prefix_iff_eq_take.1 h).symm
      rw [hp, if_neg (by decide)] at hr
      simp only at hr
      subst hr
      have g1 : ((s.extract 0 (wd.size + 1)).toList == (wd ++ { data := #[32] }).toList) = false := by
        rw [ByteArray.toList_eq, ByteArray.toList_eq, ext_take]
        show (bs (str ((bs s).take (wd.size + 1))) == bs (wd ++ { data := #[32] })) = false
        rw [bs_str, app_bs, beq_eq_false_iff_ne]
        exact heq
      clear HR hp heq hlb
      go_enter Tryd.func20, Tryd.ntmps20
      go_wp2_with fail
      go_ret
      exact ⟨rfl, rfl⟩
end Go.Proofs.YthncifbnkednlaaDoor
