/- number, Number: both read an N. -/
import Derived.Test.YthncifbnkednlaaDoorScrBase
import Derived.Laws.BitsLemmas
namespace Go.Proofs.YthncifbnkednlaaDoor
open Go.RowKit Go.Shelf
set_option linter.unusedVariables false
set_option linter.unusedSimpArgs false

/-- What number answers. -/
def numP (l : Bs) (m : Int) : Int × Bool := match numL l with
  | none => (0, false)
  | some n => ((n : Int), decide (m < 0 ∨ (n : Int) ≤ m))
def numR (l : Bs) : Int := match numL l with
  | none => -1
  | some n => n

theorem bad_cases (s : ByteArray) : (badN (bs s) = true ∧ (s.size = 0 ∨ (s.size ≠ 0 ∧ 9 < s.size) ∨ (s.size ≠ 0 ∧ ¬ 9 < s.size ∧ 1 < s.size ∧ ∃ h : 0 < s.size, s[0].toNat = 48))) ∨
    (badN (bs s) = false ∧ s.size ≠ 0 ∧ ¬ 9 < s.size ∧ (¬ 1 < s.size ∨ (1 < s.size ∧ ∃ h : 0 < s.size, s[0].toNat ≠ 48))) := by
  unfold badN
  rw [← size_bs]
  by_cases h0 : s.size = 0
  · exact .inl ⟨by rw [decide_eq_true_iff]; exact .inl h0, .inl h0⟩
  · by_cases h9 : 9 < s.size
    · exact .inl ⟨by rw [decide_eq_true_iff]; exact .inr (.inl h9), .inr (.inl ⟨h0, h9⟩)⟩
    · by_cases h1 : 1 < s.size
      · have hp : 0 < s.size := by omega
        have hg := get_bs s 0 hp
        by_cases h48 : s[0].toNat = 48
        · have e : s[0] = 48 := UInt8.toNat_inj.1 h48
          exact .inl ⟨by rw [decide_eq_true_iff]; exact .inr (.inr ⟨h1, by rw [hg, e]⟩), .inr (.inr ⟨h0, h9, h1, hp, h48⟩)⟩
        · refine .inr ⟨?_, h0, h9, .inr ⟨h1, hp, h48⟩⟩
          rw [decide_eq_false_iff_not]
          rintro (h | h | ⟨-, h⟩)
          · exact h0 h
          · exact h9 h
          · rw [hg] at h
            simp only [Option.some.injEq] at h
            rw [h] at h48
            exact h48 rfl
      · refine .inr ⟨?_, h0, h9, .inl h1⟩
        rw [decide_eq_false_iff_not]
        rintro (h | h | ⟨h, -⟩)
        · exact h0 h
        · exact h9 h
        · exact h1 h
theorem numL_bad {l : Bs} (h : badN l = true) : numL l = none := by unfold numL; rw [if_pos h]
theorem all_take_false {s : ByteArray} {k : Nat} (hk : k < s.size) (h : digB s[k] = false) : numL (bs s) = none := by
  unfold numL
  split
  · rfl
  · rw [if_neg]
    intro ha
    rw [List.all_eq_true] at ha
    have := ha s[k] (List.mem_of_getElem? (get_bs s k hk))
    rw [h] at this; cases this
theorem numL_good {l : Bs} (hb : badN l = false) (ha : l.all digB = true) : numL l = some (decV l) := by unfold numL; rw [if_neg (by rw [hb]; decide), if_pos ha]
theorem dig_iff (c : UInt8) : digB c = true ↔ 48 ≤ c.toNat ∧ c.toNat ≤ 57 := by unfold digB; rw [decide_eq_true_iff]
theorem all_snoc {s : ByteArray} {k : Nat} (hk : k < s.size) (h : ((bs s).take k).all digB = true) (hd : digB s[k] = true) : ((bs s).take (k + 1)).all digB = true := by
  rw [take_snoc' s k hk, List.all_append, h]; simp [hd]

theorem empty_of {s : ByteArray} (h : s.size = 0) : s.toList = [] ∧ s.toList.isEmpty = true := by
  have : s.toList = [] := by rw [ByteArray.toList_eq]; exact List.eq_nil_of_length_eq_zero (by rw [← Lib.size_eq]; exact h)
  exact ⟨this, by rw [this]; rfl⟩
theorem full_of {s : ByteArray} (h : s.size ≠ 0) : ¬ s.toList = [] ∧ s.toList.isEmpty = false := by
  have : ¬ s.toList = [] := by
    rw [ByteArray.toList_eq]
    intro e
    apply h
    rw [Lib.size_eq, e]; rfl
  exact ⟨this, by cases hl : s.toList with | nil => exact absurd hl this | cons _ _ => rfl⟩

set_option maxHeartbeats 2000000 in
theorem number_any (s : ByteArray) (m : Int) (w : World) (hs : s.size ≤ 1000000) : Calls Tryd.prog 30 #[.string s, .int .i64 m] w fun e w' => e = .returned (.tuple #[.int .i64 (numP (bs s) m).1, .bool (numP (bs s) m).2]) ∧ Below w.heap.size w w' := by
  obtain ⟨r1, r2, hr⟩ : ∃ r1 r2, numP (bs s) m = (r1, r2) := ⟨_, _, rfl⟩
  rw [hr]
  simp only
  unfold numP at hr
  have HR := Lib.hid hr
  clear hr
  rcases bad_cases s with ⟨hb, hc⟩ | ⟨hb, h0, h9, hc⟩
  · have hr := HR.out
    rw [numL_bad hb] at hr
    simp only [Prod.mk.injEq] at hr
    obtain ⟨rfl, rfl⟩ := hr
    clear HR hb
    rcases hc with h0 | ⟨h0, h9⟩ | ⟨h0, h9, h1, hp, h48⟩
    · obtain ⟨he, he'⟩ := empty_of h0
      go_enter Tryd.func30, Tryd.ntmps30
      go_wp2_with fail
      go_ret2
      exact ⟨rfl, Below.refl _ _⟩
    · obtain ⟨he, he'⟩ := full_of h0
      go_enter Tryd.func30, Tryd.ntmps30
      go_wp2_with fail
      go_ret2
      exact ⟨rfl, Below.refl _ _⟩
    · obtain ⟨he, he'⟩ := full_of h0
      have h48' : ((s[0].toNat : Nat) : Int) = 48 := by rw [h48]; rfl
      go_enter Tryd.func30, Tryd.ntmps30
      go_wp2_with fail
      go_ret2
      exact ⟨rfl, Below.refl _ _⟩
  · obtain ⟨he, he'⟩ := full_of h0
    have HB := Lib.hid hb
    have hcc : (¬ 1 < s.size) ∨ (1 < s.size ∧ ∃ h : 0 < s.size, ((s[0].toNat : Int) == 48) = false) := by
      rcases hc with h | ⟨h, h1, h2⟩
      · exact .inl h
      · exact .inr ⟨h, h1, by simp; omega⟩
    clear hb hc
    go_enter Tryd.func30, Tryd.ntmps30
    rcases hcc with h1 | ⟨h1, h2, h3⟩
    all_goals (
      go_wp2_with fail
      go_loop [28] (fun t28 => ∃ k : Nat, k ≤ s.size ∧ t28 = .int .i64 k ∧ ((bs s).take k).all digB = true) (fun t28 => s.size - (intOf t28).toNat)
      case atStart => exact ⟨0, Nat.zero_le _, rfl, rfl⟩
      case round =>
        obtain ⟨k, hk, rfl, hall⟩ := hrel
        have HALL := Lib.hid hall
        by_cases hlt : k < s.size
        · cases hd : digB s[k] with
          | false =>
            have hr := HR.out
            rw [all_take_false hlt hd] at hr
            simp only [Prod.mk.injEq] at hr
            obtain ⟨rfl, rfl⟩ := hr
            have hcs : (s[k].toNat : Int) < 48 ∨ (¬ (s[k].toNat : Int) < 48 ∧ (57 : Int) < s[k].toNat) := by
              have := (not_congr (dig_iff s[k])).1 (by rw [hd]; decide)
              omega
            clear hd hall HR
            rcases hcs with hc | ⟨hc, hc'⟩
            all_goals (
              go_wp2_with fail
              go_ret2
              exact ⟨rfl, Below.refl _ _⟩)
          | true =>
            have HN := Lib.hid (all_snoc hlt hall hd)
            obtain ⟨d1, d2⟩ := (dig_iff s[k]).1 hd
            have g1 : ¬ (s[k].toNat : Int) < 48 := by omega
            have g2 : ¬ (57 : Int) < s[k].toNat := by omega
            clear hd hall d1 d2
            go_wp2_with fail
            go_round
            case rel => exact ⟨k + 1, by omega, by go_num, HN.out⟩
            case measure => simp [intOf]; omega
        · obtain rfl : k = s.size := by omega
          have hfull : (bs s).all digB = true := by
            have := HALL.out
            rwa [List.take_of_length_le (by rw [← size_bs]; exact Nat.le_refl _)] at this
          have hr := HR.out
          rw [numL_good HB.out hfull] at hr
          simp only [Prod.mk.injEq] at hr
          obtain ⟨rfl, rfl⟩ := hr
          have hne : bs s ≠ [] := by intro e; apply h0; rw [size_bs, e]; rfl
          have hat := atoi_dig hne hfull
          have AC := Lib.hid (fun w => Tryd.strconv_Atoi s (decV (bs s)) (by omega) hat w)
          obtain ⟨v, hv⟩ : ∃ v, v = decV (bs s) := ⟨_, rfl⟩
          rw [← hv] at AC
          have HV := Lib.hid hv
          clear hat hv hfull hall HALL HR hne
          go_wp2_with fail
          refine (AC.out _).mono ?_
          rintro e w1 ⟨rfl, t, ht⟩
          have HW := Lib.hid (below_bytes ht)
          clear ht
          by_cases hm : m < 0
          · have g1 : decide (m < 0 ∨ (decV (bs s) : Int) ≤ m) = true := decide_eq_true (.inl hm)
            have HG := Lib.hid g1
            clear g1
            go_wp2_with fail
            go_ret2
            exact ⟨by rw [HV.out, HG.out]; rfl, HW.out⟩
          · have g3 : decide (m < 0) = false := decide_eq_false hm
            by_cases hm2 : (v : Int) ≤ m
            · have g1 : decide (m < 0 ∨ (decV (bs s) : Int) ≤ m) = true := decide_eq_true (.inr (by rw [← HV.out]; exact hm2))
              have HG := Lib.hid g1
              have g2 : decide ((v : Int) ≤ m) = true := decide_eq_true hm2
              clear g1
              go_wp2_with fail
              go_ret2
              exact ⟨by rw [HV.out, HG.out]; rfl, HW.out⟩
            · have g1 : decide (m < 0 ∨ (decV (bs s) : Int) ≤ m) = false := decide_eq_false (by rw [← HV.out]; omega)
              have HG := Lib.hid g1
              have g2 : decide ((v : Int) ≤ m) = false := decide_eq_false hm2
              clear g1
              go_wp2_with fail
              go_ret2
              exact ⟨by rw [HV.out, HG.out]; rfl, HW.out⟩)

/-! ### the document's Number -/
theorem dec_fold (l : Bs) (h : l.all digB = true) (hl : l.length ≤ 9) : decV l < 1000000000 := by
  have := decV_le l h
  have : (10 : Nat) ^ l.length ≤ 10 ^ 9 := Nat.pow_le_pow_right (by omega) hl
  omega
set_option maxHeartbeats 2000000 in
theorem rnumber_any (s : ByteArray) (w : World) (hs : s.size ≤ 1000000) : Calls Tryd.prog 35 #[.string s] w fun e w' => e = .returned (.int .i64 (numR (bs s))) ∧ w' = w := by
  obtain ⟨r, hr⟩ : ∃ r, numR (bs s) = r := ⟨_, rfl⟩
  rw [hr]
  unfold numR at hr
  have HR := Lib.hid hr
  clear hr
  rcases bad_cases s with ⟨hb, hc⟩ | ⟨hb, h0, h9, hc⟩
  · have hr := HR.out
    rw [numL_bad hb] at hr
    simp only at hr
    subst hr
    clear HR hb
    rcases hc with h0 | ⟨h0, h9⟩ | ⟨h0, h9, h1, hp, h48⟩
    · have g1 : s.size < 1 := by omega
      go_enter Tryd.func35, Tryd.ntmps35
      go_wp2_with fail
      go_ret
      exact ⟨rfl, rfl⟩
    · have g1 : ¬ s.size < 1 := by omega
      go_enter Tryd.func35, Tryd.ntmps35
      go_wp2_with fail
      go_ret
      exact ⟨rfl, rfl⟩
    · have g1 : ¬ s.size < 1 := by omega
      have h48' : ((s[0].toNat : Nat) : Int) = 48 := by rw [h48]; rfl
      go_enter Tryd.func35, Tryd.ntmps35
      go_wp2_with fail
      go_ret
      exact ⟨rfl, rfl⟩
  · have HB := Lib.hid hb
    have hcc : (¬ 1 < s.size) ∨ (1 < s.size ∧ ∃ h : 0 < s.size, ((s[0].toNat : Int) == 48) = false) := by
      rcases hc with h | ⟨h, h1, h2⟩
      · exact .inl h
      · exact .inr ⟨h, h1, by simp; omega⟩
    have g1 : ¬ s.size < 1 := by omega
    clear hb hc
    go_enter Tryd.func35, Tryd.ntmps35
    rcases hcc with h1 | ⟨h1, h2, h3⟩
    all_goals (
      go_wp2_with fail
      go_loop [3, 4] (fun t3 t4 => ∃ k : Nat, k ≤ s.size ∧ t4 = .int .i64 k ∧ t3 = .int .i64 (decV ((bs s).take k)) ∧ ((bs s).take k).all digB = true) (fun _ t4 => s.size - (intOf t4).toNat)
      case atStart => exact ⟨0, Nat.zero_le _, rfl, rfl, rfl⟩
      case round =>
        obtain ⟨k, hk, rfl, rfl, hall⟩ := hrel
        have HALL := Lib.hid hall
        by_cases hlt : k < s.size
        · cases hd : digB s[k] with
          | false =>
            have hr := HR.out
            rw [all_take_false hlt hd] at hr
            simp only at hr
            subst hr
            have hcs : (s[k].toNat : Int) < 48 ∨ (¬ (s[k].toNat : Int) < 48 ∧ (57 : Int) < s[k].toNat) := by
              have := (not_congr (dig_iff s[k])).1 (by rw [hd]; decide)
              omega
            clear hd hall HR
            rcases hcs with hc | ⟨hc, hc'⟩
            all_goals (
              go_wp2_with fail
              go_ret
              exact ⟨rfl, rfl⟩)
          | true =>
            have HN := Lib.hid (all_snoc hlt hall hd)
            have HDS : Hid (decV ((bs s).take (k + 1)) = 10 * decV ((bs s).take k) + (s[k].toNat - 48)) := Lib.hid (by rw [take_snoc' s k hlt, decV_snoc])
            obtain ⟨d1, d2⟩ := (dig_iff s[k]).1 hd
            have g1 : ¬ (s[k].toNat : Int) < 48 := by omega
            have g2 : ¬ (57 : Int) < s[k].toNat := by omega
            have hv := dec_fold _ hall (by rw [List.length_take]; omega)
            obtain ⟨v, hvv⟩ : ∃ v, v = decV ((bs s).take k) := ⟨_, rfl⟩
            obtain ⟨x, hx⟩ : ∃ x, x = s[k].toNat := ⟨_, rfl⟩
            rw [← hvv] at HDS hv ⊢
            have hu8 : IntKind.u8.wrap ((s[k].toNat : Int) - 48) = (s[k].toNat : Int) - 48 := by rw [IntKind.wrap_u8]; omega
            have hu9 : ((s[k].toNat : Int) - 48) % 256 = (s[k].toNat : Int) - 48 := by omega
            have hw1 : IntKind.i64.wrap (10 * (v : Int)) = 10 * (v : Int) := IntWalk.i64_in _ (by omega)
            have hw0 : IntKind.i64.wrap ((s[k].toNat : Int) - 48) = (s[k].toNat : Int) - 48 := IntWalk.i64_in _ (by omega)
            have hw2 : IntKind.i64.wrap (10 * (v : Int) + ((s[k].toNat : Int) - 48)) = 10 * (v : Int) + ((s[k].toNat : Int) - 48) := IntWalk.i64_in _ (by omega)
            clear hd hall hvv hx
            go_wp2_with fail
            go_round
            case rel => exact ⟨k + 1, by omega, by go_num, by rw [HDS.out]; congr 1; omega, HN.out⟩
            case measure => simp [intOf]; omega
        · obtain rfl : k = s.size := by omega
          have hfull : (bs s).all digB = true := by
            have := HALL.out
            rwa [List.take_of_length_le (by rw [← size_bs]; exact Nat.le_refl _)] at this
          have hr := HR.out
          rw [numL_good HB.out hfull] at hr
          simp only at hr
          have HRR := Lib.hid hr
          have HTK : Hid (decV ((bs s).take s.size) = decV (bs s)) := Lib.hid (by rw [List.take_of_length_le (by rw [← size_bs]; exact Nat.le_refl _)])
          clear hr HR hfull hall
          go_wp2_with fail
          go_ret
          exact ⟨by rw [← HRR.out, ← HTK.out]; rfl, rfl⟩)
end Go.Proofs.YthncifbnkednlaaDoor
