/- The document's table: among, Sizes. -/
import Derived.Test.YtpodgmajccmgkaaR6Get
namespace Go.Proofs.Ytpodgmajccmgkaa
open Go.RowKit Go.Shelf
set_option linter.unusedVariables false
set_option linter.unusedSimpArgs false
attribute [local go_sem] Oper.semAt_some field_t

variable {w w' W W' : World} {p g : Nat} {T T' : Tb}

def okA (m : Int) (v : V) : Bool := decide (v.t = 2 ∧ 1 ≤ v.n ∧ v.n ≤ m)
def amN (m : Int) (K : List V) : Nat := (K.filter (okA m)).length
theorem amN_snoc (m : Int) (K : List V) (v : V) : amN m (K ++ [v]) = amN m K + if okA m v = true then 1 else 0 := by
  unfold amN
  rw [List.filter_append, List.length_append, List.filter_cons]
  split <;> rfl
theorem amN_le (m : Int) (K : List V) : amN m K ≤ K.length := List.length_filter_le _ _
theorem amN_inC (a : Nat) (K : List V) : amN (a : Int) K = inC a K := rfl
theorem sum_amN (K : List V) {k : Nat} (hk : k < 13) : sumT K (k + 1) = amN ((2 ^ k : Nat) : Int) K := by
  rw [sumT_eq]
  unfold amN
  congr 1
  apply List.filter_congr
  intro v _
  unfold okA
  rw [decide_eq_decide]
  have := stepT_iff (n := v.n) (j := k) hk
  constructor
  · rintro ⟨h1, h2, h3⟩; exact ⟨h1, h2, this.1 h3⟩
  · rintro ⟨h1, h2, h3⟩; exact ⟨h1, h2, this.2 h3⟩

set_option maxRecDepth 100000 in
set_option maxHeartbeats 2000000 in
theorem ramong_any {L : List (V × V)} (H : RowP w g L) {N c : Nat} (hN : N = L.length) (hN8 : N ≤ 8001) (m : Int) : Calls Try.prog 68 #[.slice (some ⟨g, 0, none⟩) N c, .int .i64 m] w fun e w' => e = .returned (.int .i64 (amN m (L.map Prod.fst))) ∧ Below w.heap.size w w' := by
  have HH := Lib.hid H
  have HN := Lib.hid hN
  clear H hN
  go_enter Try.func68, Try.ntmps68
  go_wp2_with fail
  go_loopw [5, 6] (fun t5 t6 wr => ∃ i : Nat, i ≤ N ∧ t6 = .int .i64 i ∧ t5 = .int .i64 (amN m ((L.take i).map Prod.fst)) ∧ Below w.heap.size w wr) (fun _ t6 _ => N - (intOf t6).toNat)
  case atStart => exact ⟨0, Nat.zero_le _, by go_num, by simp [amN], Below.refl _ _⟩
  case round =>
    obtain ⟨i, hi, rfl, rfl, hB⟩ := hrel
    have HB := Lib.hid hB
    by_cases hlt : i < N
    · obtain ⟨x, hx⟩ : ∃ x, L[i]? = some x := ⟨L[i]'(by rw [← HN.out]; exact hlt), List.getElem?_eq_getElem _⟩
      obtain ⟨c0, c1, -, -⟩ := (HH.out.below hB).at_ i x hx
      have hs := amN_snoc m ((L.take i).map Prod.fst) x.1
      have hle := amN_le m ((L.take i).map Prod.fst)
      have htk : (L.take (i + 1)).map Prod.fst = (L.take i).map Prod.fst ++ [x.1] := by rw [List.take_add_one, hx]; simp
      rw [← htk] at hs
      have hll : ((L.take i).map Prod.fst).length ≤ N := by simp; omega
      obtain ⟨⟨kt, kn⟩, vv⟩ := x
      simp only at c0 c1 hs
      obtain ⟨q, hq⟩ : ∃ q, q = amN m ((L.take i).map Prod.fst) := ⟨_, rfl⟩
      obtain ⟨q', hq'⟩ : ∃ q, q = amN m ((L.take (i + 1)).map Prod.fst) := ⟨_, rfl⟩
      rw [← hq] at hs hle ⊢
      rw [← hq'] at hs
      have HQ' := Lib.hid hq'
      have HS := Lib.hid hs
      have hw1 : IntKind.i64.wrap ((q : Int) + 1) = (q : Int) + 1 := IntWalk.i64_in _ (by omega)
      clear hx hs htk hq hq' hB hll
      by_cases h2 : kt = 2
      · subst h2
        by_cases h1 : 1 ≤ kn
        · by_cases h3 : kn ≤ m
          · have hs := HS.out
            rw [if_pos (by unfold okA; rw [decide_eq_true_iff]; exact ⟨rfl, h1, h3⟩)] at hs
            have HS2 := Lib.hid hs
            clear hs HS
            go_wp2_with fail
            go_roundw
            case rel => exact ⟨i + 1, by omega, by go_num, by rw [← HQ'.out, HS2.out]; go_num, HB.out⟩
            case measure => simp [intOf]; omega
          · have hs := HS.out
            rw [if_neg (by unfold okA; rw [decide_eq_true_iff]; exact fun h => h3 h.2.2)] at hs
            have HS2 := Lib.hid hs
            clear hs HS
            go_wp2_with fail
            go_roundw
            case rel => exact ⟨i + 1, by omega, by go_num, by rw [← HQ'.out, HS2.out]; rfl, HB.out⟩
            case measure => simp [intOf]; omega
        · have hs := HS.out
          rw [if_neg (by unfold okA; rw [decide_eq_true_iff]; exact fun h => h1 h.2.1)] at hs
          have HS2 := Lib.hid hs
          clear hs HS
          go_wp2_with fail
          go_roundw
          case rel => exact ⟨i + 1, by omega, by go_num, by rw [← HQ'.out, HS2.out]; rfl, HB.out⟩
          case measure => simp [intOf]; omega
      · have hs := HS.out
        rw [if_neg (by unfold okA; rw [decide_eq_true_iff]; exact fun h => h2 h.1)] at hs
        have HS2 := Lib.hid hs
        have h2' : (kt == 2) = false := by simp [h2]
        clear hs HS
        go_wp2_with fail
        go_roundw
        case rel => exact ⟨i + 1, by omega, by go_num, by rw [← HQ'.out, HS2.out]; rfl, HB.out⟩
        case measure => simp [intOf]; omega
    · obtain rfl : i = N := by omega
      have HF := Lib.hid (show (L.take i).map Prod.fst = L.map Prod.fst from by rw [List.take_of_length_le (by rw [← HN.out]; exact Nat.le_refl _)])
      go_wp2_with fail
      go_ret
      exact ⟨by rw [HF.out]; rfl, HB.out⟩

theorem bestT_pow (K : List V) : ∀ k, k ≤ 13 → (bestT K k).1 ≤ 4096 := by
  intro k
  induction k with
  | zero => intro _; exact Nat.zero_le _
  | succ k ih =>
    intro hk
    unfold bestT
    split
    · show 2 ^ k ≤ 4096
      exact Nat.le_trans (Nat.pow_le_pow_right (by omega) (show k ≤ 12 by omega)) (by decide)
    · exact ih (by omega)

theorem ramong_is {L : List (V × V)} (H : RowP w g L) {N c q : Nat} (hN : N = L.length) (hN8 : N ≤ 8001) {m : Int} (hq : amN m (L.map Prod.fst) = q) : Calls Try.prog 68 #[.slice (some ⟨g, 0, none⟩) N c, .int .i64 m] w fun e w' => e = .returned (.int .i64 q) ∧ Below w.heap.size w w' := by
  have := ramong_any H hN hN8 m (c := c)
  rw [hq] at this
  exact this

set_option maxRecDepth 100000 in
set_option maxHeartbeats 2000000 in
theorem rsizes_any {L : List (V × V)} (H : RowP w g L) {N c : Nat} (hN : N = L.length) (hN8 : N ≤ 8001) {K : List V} (hK : K = L.map Prod.fst) : Calls Try.prog 65 #[.slice (some ⟨g, 0, none⟩) N c] w fun e w' => e = .returned (.tuple #[.int .i64 (sizesT K).1, .int .i64 (sizesT K).2]) ∧ Below w.heap.size w w' := by
  have HH := Lib.hid H
  have HN := Lib.hid hN
  have HK := Lib.hid hK
  have hKN : K.length = N := by rw [hK, hN, List.length_map]
  have HKN := Lib.hid hKN
  clear H hN hK hKN
  go_enter Try.func65, Try.ntmps65
  go_wp2_with fail
  go_loopw [4, 5, 6] (fun t4 t5 t6 wr => ∃ k : Nat, k ≤ 13 ∧ t6 = .int .i64 k ∧ t5 = .int .i64 (2 ^ k : Nat) ∧ t4 = .int .i64 (bestT K k).1 ∧ Below w.heap.size w wr) (fun _ _ t6 _ => 13 - (intOf t6).toNat)
  case atStart => exact ⟨0, Nat.zero_le _, by go_num, by rfl, by rfl, Below.refl _ _⟩
  case round =>
    obtain ⟨k, hk, rfl, rfl, rfl, hB⟩ := hrel
    have HB := Lib.hid hB
    have HR := Lib.hid (HH.out.below hB)
    have hp := bestT_pow K k hk
    obtain ⟨b, hb⟩ : ∃ b, b = (bestT K k).1 := ⟨_, rfl⟩
    rw [← hb] at hp ⊢
    have HBB := Lib.hid hb
    by_cases h13 : k < 13
    · have hsum := sum_amN K h13
      have hbs : (bestT K (k + 1)).1 = if 2 ^ k < 2 * sumT K (k + 1) then 2 ^ k else b := by
        rw [hb]; show (if 2 ^ k < 2 * sumT K (k + 1) then (2 ^ k, sumT K (k + 1)) else bestT K k).1 = _
        split <;> rfl
      obtain ⟨P, hP⟩ : ∃ P : Nat, P = 2 ^ k := ⟨_, rfl⟩
      have hP2 : 2 * P = 2 ^ (k + 1) := by rw [hP, Nat.pow_succ]; omega
      have hP4 : P ≤ 4096 := by rw [hP]; exact Nat.le_trans (Nat.pow_le_pow_right (by omega) (show k ≤ 12 by omega)) (by decide)
      rw [← hP] at hsum hbs ⊢
      obtain ⟨q, hq⟩ : ∃ q, amN (P : Int) K = q := ⟨_, rfl⟩
      have hqN : q ≤ N := by rw [← hq, ← HKN.out]; exact amN_le _ _
      rw [hsum, hq] at hbs
      have hq2 : amN (P : Int) (L.map Prod.fst) = q := by rw [← HK.out]; exact hq
      have HC := Lib.hid (ramong_is HR.out (c := c) HN.out hN8 hq2)
      have HBS := Lib.hid hbs
      have HP2 := Lib.hid hP2
      have hw1 : IntKind.i64.wrap (2 * (q : Int)) = 2 * (q : Int) := IntWalk.i64_in _ (by omega)
      have hw2 : IntKind.i64.wrap (2 * (P : Int)) = 2 * (P : Int) := IntWalk.i64_in _ (by omega)
      clear hsum hbs hP hP2 hq hq2 hb hB
      go_wp2_with fail
      refine HC.out.mono ?_
      rintro e w1 ⟨rfl, hb1⟩
      have HB1 := Lib.hid (HB.out.trans (hb1.mono HB.out.size))
      clear hb1
      by_cases hgt : P < 2 * q
      · have hbs := HBS.out
        rw [if_pos hgt] at hbs
        have HBS2 := Lib.hid hbs
        have g1 : decide ((P : Int) < 2 * (q : Int)) = true := decide_eq_true (by omega)
        clear hbs HBS
        go_wp2_with fail
        go_roundw
        case rel => exact ⟨k + 1, by omega, by go_num, by rw [← HP2.out]; go_num, by rw [HBS2.out], HB1.out⟩
        case measure => simp [intOf]; omega
      · have hbs := HBS.out
        rw [if_neg hgt] at hbs
        have HBS2 := Lib.hid hbs
        have g1 : decide ((P : Int) < 2 * (q : Int)) = false := decide_eq_false (by omega)
        clear hbs HBS
        go_wp2_with fail
        go_roundw
        case rel => exact ⟨k + 1, by omega, by go_num, by rw [← HP2.out]; go_num, by rw [HBS2.out], HB1.out⟩
        case measure => simp [intOf]; omega
    · obtain rfl : k = 13 := by omega
      have hsp := (bestT_spec K 13 (Nat.le_refl _)).1
      rw [← hb, ← amN_inC] at hsp
      obtain ⟨q, hq⟩ : ∃ q, amN (b : Int) K = q := ⟨_, rfl⟩
      have hqN : q ≤ N := by rw [← hq, ← HKN.out]; exact amN_le _ _
      have hq2 : amN (b : Int) (L.map Prod.fst) = q := by rw [← HK.out]; exact hq
      have HC := Lib.hid (ramong_is HR.out (c := c) HN.out hN8 hq2)
      have hsz1 : (sizesT K).1 = b := hb.symm
      have hsz2 : (sizesT K).2 = nodT (N - q) := by show nodT (K.length - (bestT K 13).2) = _; rw [HKN.out, hsp, hq]
      obtain ⟨r, hr⟩ : ∃ r, r = N - q := ⟨_, rfl⟩
      rw [← hr] at hsz2
      have hw1 : IntKind.i64.wrap ((N : Int) - (q : Int)) = (r : Int) := by rw [IntWalk.i64_in _ (by omega)]; omega
      have hr8 : r ≤ 8001 := by omega
      have HS1 := Lib.hid hsz1
      have HS2 := Lib.hid hsz2
      clear hsp hq hq2 hsz1 hsz2 hb hB hr
      go_wp2_with fail
      refine HC.out.mono ?_
      rintro e w1 ⟨rfl, hb1⟩
      have HB1 := Lib.hid (HB.out.trans (hb1.mono HB.out.size))
      clear hb1
      by_cases hr0 : r = 0
      · subst hr0
        have h0 : (sizesT K).2 = 0 := by rw [HS2.out]; rfl
        have H0 := Lib.hid h0
        clear h0
        go_wp2_with fail
        go_ret2
        exact ⟨by rw [HS1.out, H0.out]; rfl, HB1.out⟩
      · have hup : nodT r = upF r 13 1 := by unfold nodT; rw [if_neg hr0]
        have HUP := Lib.hid (HS2.out.trans hup)
        have hr1 : 0 < r := by omega
        have g1 : decide ((0 : Int) < (r : Int)) = true := decide_eq_true (by omega)
        have g2 : decide (0 < r) = true := decide_eq_true hr1
        clear hup
        go_wp2_with fail
        go_loopw [8] (fun t8 wx => ∃ (f n : Nat), n = 2 ^ (13 - f) ∧ f ≤ 13 ∧ t8 = .int .i64 n ∧ upF r 13 1 = upF r f n ∧ Below w.heap.size w wx) (fun t8 _ => r - (intOf t8).toNat)
        case atStart => exact ⟨13, 1, by rfl, Nat.le_refl _, by go_num, rfl, HB1.out⟩
        case round =>
          obtain ⟨f, n, hn, hf, rfl, hu, hBx⟩ := hrel
          have HBX := Lib.hid hBx
          have hn1 : 1 ≤ n := by rw [hn]; exact Nat.one_le_two_pow
          have hn8 : n ≤ 8192 := by rw [hn]; exact Nat.le_trans (Nat.pow_le_pow_right (by omega) (show 13 - f ≤ 13 by omega)) (by decide)
          by_cases hlt : n < r
          · obtain ⟨f, rfl⟩ : ∃ f', f = f' + 1 := by
              cases f with
              | zero => exfalso; rw [hn] at hlt; simp at hlt; omega
              | succ f => exact ⟨f, rfl⟩
            have hu2 : upF r 13 1 = upF r f (2 * n) := by rw [hu]; conv => lhs; unfold upF
                                                          rw [if_pos hlt]
            have hn2 : 2 * n = 2 ^ (13 - f) := by rw [show 13 - f = (13 - (f + 1)) + 1 by omega, Nat.pow_succ, ← hn]; omega
            have HU := Lib.hid hu2
            have HN2 := Lib.hid hn2
            have hw2 : IntKind.i64.wrap (2 * (n : Int)) = 2 * (n : Int) := IntWalk.i64_in _ (by omega)
            clear hu hu2 hn hn2 hBx
            go_wp2_with fail
            go_roundw
            case rel => exact ⟨f, 2 * n, HN2.out, by omega, by go_num, HU.out, HBX.out⟩
            case measure => simp [intOf]; omega
          · have hu2 : upF r 13 1 = n := by
              rw [hu]
              cases f with
              | zero => rfl
              | succ f => unfold upF; rw [if_neg hlt]
            have HU := Lib.hid (HUP.out.trans hu2)
            clear hu hu2 hn hBx
            go_wp2_with fail
            go_ret2
            exact ⟨by rw [HS1.out, HU.out]; rfl, HBX.out⟩
end Go.Proofs.Ytpodgmajccmgkaa
