/- sizes: what sizes some keys ask for. -/
import Derived.Test.YtpodgmajccmgkaaTabSize
import Derived.Test.YtpodgmajccmgkaaSeqBase
namespace Go.Proofs.Ytpodgmajccmgkaa
open Go.RowKit Go.Shelf
set_option linter.unusedVariables false
set_option linter.unusedSimpArgs false
attribute [local go_sem] Oper.semAt_some

variable {w w' : World} {p : Nat} {sv sv' : Value} {T T' : Tb}

def cntT (L : List V) (k : Nat) : Nat := (L.filter fun v => decide (v.t = 2 ∧ 1 ≤ v.n ∧ stepT v.n = k)).length
def sumT (L : List V) : Nat → Nat
  | 0 => 0
  | k + 1 => sumT L k + cntT L k
def bestT (L : List V) : Nat → Nat × Nat
  | 0 => (0, 0)
  | k + 1 => if 2 ^ k < 2 * sumT L (k + 1) then (2 ^ k, sumT L (k + 1)) else bestT L k
def upF (rest : Nat) : Nat → Nat → Nat
  | 0, n => n
  | f + 1, n => if n < rest then upF rest f (2 * n) else n
def nodT (rest : Nat) : Nat := if rest = 0 then 0 else upF rest 13 1
def sizesT (L : List V) : Nat × Nat := ((bestT L 13).1, nodT (L.length - (bestT L 13).2))

/-- A row of keys and values. -/
structure RowP (w : World) (g : Nat) (L : List (V × V)) : Prop where
  lt : g < w.heap.size
  at_ : ∀ (i : Nat) (x : V × V), L[i]? = some x → w.cell? ⟨g, i * 4, none⟩ = some (.int .i64 x.1.t) ∧ w.cell? ⟨g, i * 4 + 1, none⟩ = some (.int .i64 x.1.n) ∧ w.cell? ⟨g, i * 4 + 2, none⟩ = some (.int .i64 x.2.t) ∧ w.cell? ⟨g, i * 4 + 3, none⟩ = some (.int .i64 x.2.n)

theorem RowP.below {g : Nat} {L : List (V × V)} (h : RowP w g L) (hb : Below w.heap.size w w') : RowP w' g L :=
  ⟨Nat.lt_of_lt_of_le h.lt hb.size, fun i x hx => by
    obtain ⟨h0, h1, h2, h3⟩ := h.at_ i x hx
    have hc : ∀ j, w'.cell? ⟨g, j, none⟩ = w.cell? ⟨g, j, none⟩ := fun j => hb.cell (p := ⟨g, j, none⟩) h.lt
    rw [hc, hc, hc, hc]; exact ⟨h0, h1, h2, h3⟩⟩

theorem cntT_snoc (K : List V) (v : V) (k : Nat) : cntT (K ++ [v]) k = cntT K k + if v.t = 2 ∧ 1 ≤ v.n ∧ stepT v.n = k then 1 else 0 := by
  unfold cntT
  rw [List.filter_append, List.length_append]
  congr 1
  by_cases h : v.t = 2 ∧ 1 ≤ v.n ∧ stepT v.n = k
  · rw [if_pos h]; simp [h]
  · rw [if_neg h, List.filter_cons_of_neg (by simpa using h)]; rfl
theorem cntT_le (K : List V) (k : Nat) : cntT K k ≤ K.length := List.length_filter_le _ _

theorem sumT_eq (K : List V) : ∀ k, sumT K k = (K.filter fun v => decide (v.t = 2 ∧ 1 ≤ v.n ∧ stepT v.n < k)).length := by
  intro k
  induction k with
  | zero =>
    rw [List.filter_eq_nil_iff.2 (by intro v _; simp)]; rfl
  | succ k ih =>
    unfold sumT
    rw [ih]
    clear ih
    unfold cntT
    induction K with
    | nil => rfl
    | cons v K ih =>
      rw [List.filter_cons, List.filter_cons, List.filter_cons]
      by_cases h : v.t = 2 ∧ 1 ≤ v.n
      · rcases Nat.lt_trichotomy (stepT v.n) k with h1 | h1 | h1
        · rw [if_pos (by simp; exact ⟨h.1, h.2, h1⟩), if_neg (by simp; intro _ _; omega), if_pos (by simp; exact ⟨h.1, h.2, by omega⟩)]
          simp only [List.length_cons]; omega
        · rw [if_neg (by simp; intro _ _; omega), if_pos (by simp; exact ⟨h.1, h.2, h1⟩), if_pos (by simp; exact ⟨h.1, h.2, by omega⟩)]
          simp only [List.length_cons]; omega
        · rw [if_neg (by simp; intro _ _; omega), if_neg (by simp; intro _ _; omega), if_neg (by simp; intro _ _; omega)]
          exact ih
      · rw [if_neg (by simp; intro a b; exact absurd ⟨a, b⟩ h), if_neg (by simp; intro a b; exact absurd ⟨a, b⟩ h), if_neg (by simp; intro a b; exact absurd ⟨a, b⟩ h)]
        exact ih
theorem sumT_le (K : List V) (k : Nat) : sumT K k ≤ K.length := by rw [sumT_eq]; exact List.length_filter_le _ _

theorem bestT_le (K : List V) : ∀ k, k ≤ 13 → (bestT K k).1 ≤ 4096 ∧ (bestT K k).2 ≤ K.length := by
  intro k
  induction k with
  | zero => intro _; exact ⟨Nat.zero_le _, Nat.zero_le _⟩
  | succ k ih =>
    intro hk
    unfold bestT
    split
    · exact ⟨Nat.le_trans (Nat.pow_le_pow_right (by omega) (show k ≤ 12 by omega)) (by decide), sumT_le _ _⟩
    · exact ih (by omega)

def cntCells (K : List V) : List Value := (List.range 14).map fun k => .int .i64 (cntT K k)
theorem cntCells_get (K : List V) {k : Nat} (hk : k < 14) : (cntCells K)[k]? = some (.int .i64 (cntT K k)) := by
  unfold cntCells
  rw [List.getElem?_map, List.getElem?_range hk]; rfl
theorem cntCells_set (K : List V) (v : V) (h : v.t = 2 ∧ 1 ≤ v.n) : (cntCells K).set (stepT v.n) (.int .i64 ((cntT K (stepT v.n) : Nat) + 1)) = cntCells (K ++ [v]) := by
  apply List.ext_getElem?
  intro j
  rw [List.getElem?_set]
  have hl : (cntCells K).length = 14 := by simp [cntCells]
  have hl2 : (cntCells (K ++ [v])).length = 14 := by simp [cntCells]
  by_cases hj : j < 14
  · rw [cntCells_get _ hj, cntCells_get _ hj, cntT_snoc, hl]
    by_cases he : stepT v.n = j
    · subst he
      rw [if_pos rfl, if_pos hj, if_pos ⟨h.1, h.2, rfl⟩]
      rfl
    · rw [if_neg he, if_neg (fun c => he c.2.2)]; rfl
  · rw [List.getElem?_eq_none (by omega), List.getElem?_eq_none (by omega), hl]
    have := stepT_le v.n
    rw [if_neg (by omega)]
theorem cntCells_no (K : List V) (v : V) (h : ¬ (v.t = 2 ∧ 1 ≤ v.n)) : cntCells (K ++ [v]) = cntCells K := by
  unfold cntCells
  apply List.map_congr_left
  intro k _
  rw [cntT_snoc, if_neg (fun c => h ⟨c.1, c.2.1⟩)]; rfl

theorem upF_le (rest : Nat) : ∀ f j, f + j = 13 → upF rest f (2 ^ j) ≤ 8192 := by
  intro f
  induction f with
  | zero => intro j hj; unfold upF; exact Nat.le_trans (Nat.pow_le_pow_right (by omega) (show j ≤ 13 by omega)) (by decide)
  | succ f ih =>
    intro j hj
    unfold upF
    split
    · have := ih (j + 1) (by omega)
      rwa [Nat.pow_succ, Nat.mul_comm] at this
    · exact Nat.le_trans (Nat.pow_le_pow_right (by omega) (show j ≤ 13 by omega)) (by decide)
theorem upF_pow (rest : Nat) : ∀ f j, f + j = 13 → ∃ k, k ≤ 13 ∧ upF rest f (2 ^ j) = 2 ^ k := by
  intro f
  induction f with
  | zero => intro j hj; exact ⟨j, by omega, rfl⟩
  | succ f ih =>
    intro j hj
    unfold upF
    split
    · obtain ⟨k, h1, h2⟩ := ih (j + 1) (by omega)
      exact ⟨k, h1, by rwa [Nat.pow_succ, Nat.mul_comm] at h2⟩
    · exact ⟨j, by omega, rfl⟩
theorem nodT_pow (rest : Nat) : Pow2 (nodT rest) := by
  unfold nodT
  split
  · exact .inl rfl
  · exact .inr (upF_pow rest 13 0 rfl)

set_option maxRecDepth 100000 in
set_option maxHeartbeats 4000000 in
theorem sizes_any {g c : Nat} {L : List (V × V)} (H : RowP w g L) (hL : L.length ≤ 8000) : Calls Try.prog 52 #[.slice (some ⟨g, 0, none⟩) L.length c] w fun e w' =>
    e = .returned (.tuple #[.int .i64 (sizesT (L.map Prod.fst)).1, .int .i64 (sizesT (L.map Prod.fst)).2]) ∧ Below w.heap.size w w' := by
  obtain ⟨N, hN⟩ : ∃ N, N = L.length := ⟨_, rfl⟩
  have HN := Lib.hid hN
  rw [← hN] at hL ⊢
  have HH := Lib.hid H
  obtain ⟨KA, hKA⟩ : ∃ KA, KA = L.map Prod.fst := ⟨_, rfl⟩
  have hKAl : KA.length ≤ 8000 := by rw [hKA, List.length_map, ← hN]; exact hL
  have hKAN : KA.length = N := by rw [hKA, List.length_map, ← hN]
  rw [← hKA]
  have HKA := Lib.hid hKA
  have HKN := Lib.hid hKAN
  clear hN H hKA hKAN
  go_enter Try.func52, Try.ntmps52
  go_wp2_with fail
  go_loopw [6, 15] (fun _ t15 wr => ∃ i : Nat, i ≤ N ∧ t15 = .int .i64 i ∧ Box wr w.heap.size (cntCells ((L.take i).map Prod.fst)) 111 ∧ Below w.heap.size w wr) (fun _ t15 _ => N - (intOf t15).toNat)
  case atStart => exact ⟨0, Nat.zero_le _, by go_num, Box.new w _ _, below_alloc _ _⟩
  case round =>
    obtain ⟨i, hi, rfl, hbx, hB⟩ := hrel
    by_cases hlt : i < N
    · obtain ⟨x, hx⟩ : ∃ x, L[i]? = some x := ⟨L[i]'(by rw [← HN.out]; exact hlt), List.getElem?_eq_getElem _⟩
      have htk : (L.take (i + 1)).map Prod.fst = (L.take i).map Prod.fst ++ [x.1] := by rw [List.take_add_one, hx]; simp
      obtain ⟨c0, c1, c2, c3⟩ := (HH.out.below hB).at_ i x hx
      obtain ⟨⟨kt, kn⟩, ⟨vt, vn⟩⟩ := x
      have HTK := Lib.hid htk
      have hKl : ((L.take i).map Prod.fst).length ≤ N := by simp; omega
      obtain ⟨K, hK⟩ : ∃ K, K = (L.take i).map Prod.fst := ⟨_, rfl⟩
      rw [← hK] at hbx hKl
      have HK := Lib.hid hK
      simp only at c0 c1 c2 c3
      have hbl := hbx.lt
      have HBX := Lib.hid hbx
      have HB := Lib.hid hB
      clear hx htk hK hbx hB
      have hpn : w.heap.size < (wr.alloc (.cells #[.int .i64 kt, .int .i64 kn, .int .i64 vt, .int .i64 vn] 66)).heap.size := by simp; omega
      have HBA := Lib.hid (HBX.out.alloc (.cells #[.int .i64 kt, .int .i64 kn, .int .i64 vt, .int .i64 vn] 66))
      have HB2 := Lib.hid (HB.out.alloc HB.out.size (.cells #[.int .i64 kt, .int .i64 kn, .int .i64 vt, .int .i64 vn] 66))
      by_cases hin : kt = 2 ∧ 1 ≤ kn
      · obtain ⟨rfl, h1⟩ := hin
        obtain ⟨q, hq⟩ : ∃ q, q = stepT kn := ⟨_, rfl⟩
        have hq14 : q < 14 := by have := stepT_le kn; omega
        obtain ⟨m, hm⟩ : ∃ m, m = cntT K q := ⟨_, rfl⟩
        have hmN : m ≤ 8000 := by have := cntT_le K q; omega
        have SC := step_any kn
        have hg := cntCells_get K hq14
        rw [← hm] at hg
        have d0 := HBA.out.cell q
        rw [hg] at d0
        have hset := cntCells_set K ⟨2, kn⟩ ⟨rfl, h1⟩
        simp only at hset
        rw [← hq, ← hm] at hset
        rw [← hq] at SC
        have hbs := (HBX.out.set q (.int .i64 ((m : Int) + 1))).alloc (.cells #[.int .i64 2, .int .i64 kn, .int .i64 vt, .int .i64 vn] 66)
        have HB3 := Lib.hid ((HB.out.setCell (p := ⟨w.heap.size, q, none⟩) (Nat.le_refl _) (.int .i64 ((m : Int) + 1))).alloc (HB.out.setCell (p := ⟨w.heap.size, q, none⟩) (Nat.le_refl _) (.int .i64 ((m : Int) + 1))).size (.cells #[.int .i64 2, .int .i64 kn, .int .i64 vt, .int .i64 vn] 66))
        rw [hset] at hbs
        have HBS := Lib.hid hbs
        have hfz := HBA.out.free q
        have hw1 : IntKind.i64.wrap ((m : Int) + 1) = (m : Int) + 1 := IntWalk.i64_in _ (by omega)
        have hge : (1 : Int) ≤ kn := h1
        clear hq hm hg hset hbs
        go_wp2_with fail
        refine (SC _).mono ?_
        clear SC
        rintro e w1 ⟨rfl, rfl⟩
        go_wp2_with fail
        go_roundw
        case rel => exact ⟨i + 1, by omega, by go_num, by rw [HTK.out, ← HK.out]; exact HBS.out, HB3.out⟩
        case measure => simp [intOf]; omega
      · have hno := cntCells_no K ⟨kt, kn⟩ hin
        have HNO := Lib.hid hno
        clear hno
        have hin2 : ¬ kt = 2 ∨ (kt = 2 ∧ kn < 1) := by omega
        clear hin
        rcases hin2 with hk | ⟨rfl, hk⟩
        · have hk1 : (kt == 2) = false := by simp [hk]
          go_wp2_with fail
          go_roundw
          case rel => exact ⟨i + 1, by omega, by go_num, by rw [HTK.out, ← HK.out, HNO.out]; exact HBA.out, HB2.out⟩
          case measure => simp [intOf]; omega
        · go_wp2_with fail
          go_roundw
          case rel => exact ⟨i + 1, by omega, by go_num, by rw [HTK.out, ← HK.out, HNO.out]; exact HBA.out, HB2.out⟩
          case measure => simp [intOf]; omega
    · obtain rfl : N = i := by omega
      rw [show (L.take N).map Prod.fst = KA by rw [HN.out, List.take_length, HKA.out]] at hbx
      have HBX := Lib.hid hbx
      have HB := Lib.hid hB
      have hbl := hbx.lt
      clear hbx hB
      go_wp2_with fail
      go_loopw [7, 8, 9, 38] (fun t7 t8 t9 t38 wr => ∃ k : Nat, k ≤ 13 ∧ t38 = .int .i64 k ∧ t7 = .int .i64 (bestT KA k).1 ∧ t8 = .int .i64 (bestT KA k).2 ∧ t9 = .int .i64 (sumT KA k) ∧ Box wr w.heap.size (cntCells KA) 111 ∧ Below w.heap.size w wr) (fun _ _ _ t38 _ => 13 - (intOf t38).toNat)
      case atStart => exact ⟨0, Nat.zero_le _, by go_num, rfl, rfl, rfl, HBX.out, HB.out⟩
      case round =>
        obtain ⟨k, hk, rfl, rfl, rfl, rfl, hbx, hB⟩ := hrel
        have HBX := Lib.hid hbx
        have HB := Lib.hid hB
        by_cases h13 : k < 13
        · have hsh := shl_one k h13
          have hs1 : sumT KA (k + 1) = sumT KA k + cntT KA k := rfl
          have hb1 : bestT KA (k + 1) = if 2 ^ k < 2 * sumT KA (k + 1) then (2 ^ k, sumT KA (k + 1)) else bestT KA k := rfl
          have hsl := sumT_le KA (k + 1)
          have d0 := hbx.cell k
          rw [cntCells_get KA (by omega : k < 14)] at d0
          obtain ⟨S1, hS1⟩ : ∃ S, S = sumT KA (k + 1) := ⟨_, rfl⟩
          obtain ⟨S0, hS0⟩ : ∃ S, S = sumT KA k := ⟨_, rfl⟩
          obtain ⟨c, hc⟩ : ∃ c, c = cntT KA k := ⟨_, rfl⟩
          obtain ⟨m, hm⟩ : ∃ m, m = 2 ^ k := ⟨_, rfl⟩
          obtain ⟨B1, hB1⟩ : ∃ B, B = bestT KA (k + 1) := ⟨_, rfl⟩
          obtain ⟨⟨ba, bi⟩, hB0⟩ : ∃ B, B = bestT KA k := ⟨_, rfl⟩
          rw [← hS1, ← hS0, ← hc] at hs1
          rw [← hB1, ← hB0, ← hS1, ← hm] at hb1
          rw [← hS1] at hsl
          rw [← hc] at d0
          rw [← hm] at hsh
          rw [← hB0, ← hS0]
          have hw1 : IntKind.i64.wrap ((S0 : Int) + c) = (S1 : Int) := by rw [IntWalk.i64_in _ (by omega)]; omega
          have hw2 : IntKind.i64.wrap (2 * (S1 : Int)) = 2 * (S1 : Int) := IntWalk.i64_in _ (by omega)
          have HS1 := Lib.hid hS1
          have HB1 := Lib.hid hB1
          have HBB := Lib.hid hb1
          have hbl := hbx.lt
          have HSH := Lib.hid hsh
          simp only
          clear hbx hB hs1 hS1 hS0 hc hm hB1 hB0 hb1
          go_wp2_with fail
          · rename_i hgt
            have e1 : B1 = (m, S1) := by rw [HBB.out, if_pos (by omega)]
            have HE := Lib.hid e1
            clear e1
            go_roundw
            case rel => exact ⟨k + 1, by omega, by go_num, by rw [← HB1.out, HE.out, HSH.out] <;> rfl, by rw [← HB1.out, HE.out] <;> rfl, by rw [← HS1.out], HBX.out, HB.out⟩
            case measure => simp [intOf]; omega
          · rename_i hgt
            have e1 : B1 = (ba, bi) := by rw [HBB.out, if_neg (by omega)]
            have HE := Lib.hid e1
            clear e1
            go_roundw
            case rel => exact ⟨k + 1, by omega, by go_num, by rw [← HB1.out, HE.out] <;> rfl, by rw [← HB1.out, HE.out] <;> rfl, by rw [← HS1.out], HBX.out, HB.out⟩
            case measure => simp [intOf]; omega
        · obtain rfl : k = 13 := by omega
          obtain ⟨⟨ba, bi⟩, hB0⟩ : ∃ B, B = bestT KA 13 := ⟨_, rfl⟩
          have hbi := (bestT_le KA 13 (by omega)).2
          rw [← hB0] at hbi
          have HR := Lib.hid (show sizesT KA = (ba, nodT (N - bi)) by unfold sizesT; rw [← hB0, HKN.out])
          rw [← hB0]
          simp only at hbi ⊢
          have hbi2 : bi ≤ N := by rw [← HKN.out]; exact hbi
          obtain ⟨rest, hrest⟩ : ∃ r, r = N - bi := ⟨_, rfl⟩
          have HRE := Lib.hid hrest
          have hr8 : rest ≤ 8000 := by omega
          have hw1 : IntKind.i64.wrap ((N : Int) - bi) = (rest : Int) := by rw [IntWalk.i64_in _ (by omega)]; omega
          clear hB0 hbi hbx hB hrest
          by_cases h0 : rest = 0
          · have HR2 := Lib.hid (show sizesT KA = (ba, 0) by rw [HR.out, ← HRE.out, h0]; rfl)
            subst h0
            go_wp2_with fail
            refine bodyPost_ret (v := .tuple #[.int .i64 ba, .int .i64 0]) (by simp [results, Try.results52, go_sem]) rfl ⟨by rw [HR2.out]; rfl, HB.out⟩
          · have HR2 := Lib.hid (show sizesT KA = (ba, upF rest 13 1) by rw [HR.out, ← HRE.out]; unfold nodT; rw [if_neg h0])
            go_wp2_with fail
            go_loopw [11] (fun t11 wr => ∃ j : Nat, j ≤ 13 ∧ t11 = .int .i64 ((2 ^ j : Nat) : Int) ∧ upF rest (13 - j) (2 ^ j) = upF rest 13 1 ∧ Below w.heap.size w wr) (fun t11 _ => 20000 - (intOf t11).toNat)
            case atStart => exact ⟨0, Nat.zero_le _, by go_num, rfl, HB.out⟩
            case round =>
              obtain ⟨j, hj, rfl, hu, hB⟩ := hrel
              have HB := Lib.hid hB
              have h2 : 2 ^ j ≤ 8192 := Nat.le_trans (Nat.pow_le_pow_right (by omega) hj) (by decide)
              have h3 : 2 ^ (j + 1) = 2 ^ j * 2 := Nat.pow_succ 2 j
              have h4 : 0 < 2 ^ j := Nat.pow_pos (by omega)
              have h5 : 2 ^ j < rest → j < 13 := by
                intro hlt
                rcases Nat.lt_or_ge j 13 with h | h
                · exact h
                · obtain rfl : j = 13 := by omega
                  omega
              have hu1 : 2 ^ j < rest → upF rest (13 - (j + 1)) (2 ^ (j + 1)) = upF rest 13 1 := by
                intro hlt
                rw [← hu, show 13 - j = (13 - (j + 1)) + 1 by have := h5 hlt; omega]
                conv => rhs; unfold upF
                rw [if_pos hlt, h3, Nat.mul_comm]
              have hu2 : ¬ 2 ^ j < rest → 2 ^ j = upF rest 13 1 := by
                intro hlt
                rw [← hu]
                cases 13 - j with
                | zero => rfl
                | succ f => unfold upF; rw [if_neg hlt]
              obtain ⟨m2, hm2⟩ : ∃ m, m = 2 ^ (j + 1) := ⟨_, rfl⟩
              obtain ⟨m, hm⟩ : ∃ m, m = 2 ^ j := ⟨_, rfl⟩
              rw [← hm2] at h3 hu1
              rw [← hm] at h2 h3 h4 h5 hu1 hu2
              rw [← hm]
              have hw2 : IntKind.i64.wrap ((m : Int) * 2) = (m2 : Int) := by rw [IntWalk.i64_in _ (by omega)]; omega
              have H5 := Lib.hid h5
              have HU1 := Lib.hid hu1
              have HU2 := Lib.hid hu2
              have HM2 := Lib.hid hm2
              have HM3 := Lib.hid h3
              clear hB hu h3 h5 hu1 hu2 hm2 hm
              by_cases hlt : m < rest
              · go_wp2_with fail
                go_roundw
                case rel => exact ⟨j + 1, by have := H5.out hlt; omega, by rw [← HM2.out], by rw [← HM2.out]; exact HU1.out hlt, HB.out⟩
                case measure => have := HM3.out; simp [intOf]; omega
              · go_wp2_with fail
                refine bodyPost_ret (v := .tuple #[.int .i64 ba, .int .i64 m]) (by simp [results, Try.results52, go_sem]) rfl ⟨by rw [HR2.out, HU2.out hlt], HB.out⟩
end Go.Proofs.Ytpodgmajccmgkaa
