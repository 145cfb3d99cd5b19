/- Print, then Parse: in plain Lean: a text that was printed is read as the scene; cut off it is refused, or has a shorter source. -/
import Derived.Test.YthncifbnkednlaaDoorScrDigits
import Derived.Test.YthncifbnkednlaaDoorScrParse
import Derived.Test.YthncifbnkednlaaDoorScrPtsZ
namespace Go.Proofs.YthncifbnkednlaaDoor
set_option linter.unusedVariables false
set_option linter.unusedSimpArgs false

/-! ### numbers -/
theorem ofNat_dig (k : Nat) (h : k < 10) : (UInt8.ofNat (48 + k)).toNat = 48 + k := by
  rw [UInt8.toNat_ofNat']; omega
theorem dec_nil : ∀ n, Lib.decDigits n ≠ [] := by
  intro n
  rw [dec_step]
  simp
theorem dec_val : ∀ n, decV (Lib.decDigits n) = n := by
  intro n
  induction n using Nat.strongRecOn with
  | _ n ih =>
    rw [dec_step, decV_snoc, ofNat_dig _ (Nat.mod_lt _ (by decide))]
    by_cases h : n / 10 = 0
    · rw [if_pos h]
      have : decV [] = 0 := rfl
      rw [this]
      omega
    · rw [if_neg h, ih _ (by omega)]
      omega
theorem dec_all : ∀ n, (Lib.decDigits n).all digB = true := by
  intro n
  induction n using Nat.strongRecOn with
  | _ n ih =>
    have hd : digB (UInt8.ofNat (48 + n % 10)) = true := by
      unfold digB
      rw [ofNat_dig _ (Nat.mod_lt _ (by decide)), decide_eq_true_iff]
      omega
    rw [dec_step, List.all_append, Bool.and_eq_true]
    refine ⟨?_, by rw [List.all_cons, hd]; rfl⟩
    by_cases h : n / 10 = 0
    · rw [if_pos h]; rfl
    · rw [if_neg h]; exact ih _ (by omega)
theorem dec_head : ∀ n, 0 < n → (Lib.decDigits n)[0]? ≠ some 48 := by
  intro n
  induction n using Nat.strongRecOn with
  | _ n ih =>
    intro h0
    rw [dec_step]
    by_cases h : n / 10 = 0
    · rw [if_pos h, List.nil_append]
      intro e
      simp only [List.getElem?_cons_zero, Option.some.injEq] at e
      have := congrArg UInt8.toNat e
      rw [ofNat_dig _ (Nat.mod_lt _ (by decide))] at this
      have h48 : (48 : UInt8).toNat = 48 := rfl
      omega
    · rw [if_neg h, List.getElem?_append_left (List.length_pos_iff.2 (dec_nil _))]
      exact ih _ (by omega) (by omega)
theorem dec_zero : Lib.decDigits 0 = [48] := by unfold Lib.decDigits; rw [dif_pos (by decide)]; rfl
theorem numL_dec {n : Nat} (h : n ≤ 999999999) : numL (Lib.decDigits n) = some n := by
  have hb : badN (Lib.decDigits n) = false := by
    unfold badN
    rw [decide_eq_false_iff_not]
    have hl := decDigits_len n 8 (by have : (10 : Nat) ^ 9 = 1000000000 := by decide
                                     omega)
    rintro (h1 | h1 | ⟨h1, h2⟩)
    · exact dec_nil n (List.eq_nil_of_length_eq_zero h1)
    · omega
    · by_cases h0 : n = 0
      · subst h0
        rw [dec_zero] at h1
        simp at h1
      · exact dec_head n (by omega) h2
  unfold numL
  rw [if_neg (by rw [hb]; decide), if_pos (dec_all n), dec_val]
theorem dec_of {l : Bs} (hne : l ≠ []) (ha : l.all digB = true) (h1 : 1 < l.length → l[0]? ≠ some 48) : Lib.decDigits (decV l) = l := by
  induction hn : l.length generalizing l with
  | zero => exact absurd (List.eq_nil_of_length_eq_zero hn) hne
  | succ n ih =>
    obtain ⟨m, c, rfl⟩ : ∃ m c, l = m ++ [c] := ⟨l.dropLast, l.getLast hne, (List.dropLast_concat_getLast _).symm⟩
    rw [List.length_append, List.length_cons, List.length_nil] at hn
    rw [List.all_append, Bool.and_eq_true] at ha
    have hc : digB c = true := by simpa using ha.2
    unfold digB at hc
    rw [decide_eq_true_iff] at hc
    have hcc : UInt8.ofNat (48 + (c.toNat - 48)) = c := by
      apply UInt8.toNat_inj.1
      rw [ofNat_dig _ (by omega)]
      omega
    rw [decV_snoc, dec_step]
    by_cases hm : m = []
    · subst hm
      have e : decV [] = 0 := rfl
      rw [e, if_pos (by omega), show (10 * 0 + (c.toNat - 48)) % 10 = c.toNat - 48 by omega, hcc]
    · have hlm : 0 < m.length := List.length_pos_iff.2 hm
      have hh : m[0]? ≠ some 48 := by
        have := h1 (by rw [List.length_append, List.length_cons, List.length_nil]; omega)
        rwa [List.getElem?_append_left hlm] at this
      have hi := ih hm ha.1 (fun _ => hh) (by omega)
      have hp : decV m ≠ 0 := by
        intro e
        rw [e, dec_zero] at hi
        rw [← hi] at hh
        exact hh rfl
      rw [show (10 * decV m + (c.toNat - 48)) / 10 = decV m by omega, if_neg hp, hi, show (10 * decV m + (c.toNat - 48)) % 10 = c.toNat - 48 by omega, hcc]
theorem numL_uniq {l : Bs} {n : Nat} (h : numL l = some n) : l = Lib.decDigits n := by
  obtain ⟨hb, ha, rfl⟩ := numL_some h
  unfold badN at hb
  rw [decide_eq_false_iff_not] at hb
  refine (dec_of (fun e => hb (.inl (by rw [e]; rfl))) ha (fun h1 h2 => hb (.inr (.inr ⟨h1, h2⟩)))).symm
theorem dec_no {n : Nat} {c : UInt8} (hc : c.toNat < 48) : c ∉ Lib.decDigits n := by
  intro h
  have := List.all_eq_true.1 (dec_all n) c h
  unfold digB at this
  rw [decide_eq_true_iff] at this
  omega

/-! ### cuts -/
theorem cut1_app {c : UInt8} : ∀ {l : Bs} (s : Bs), c ∉ l → cut1 c (l ++ c :: s) = (l, s, true) := by
  intro l
  induction l with
  | nil => intro s _; unfold cut1; rw [List.nil_append]; simp
  | cons b l ih =>
    intro s h
    rw [List.mem_cons, not_or] at h
    rw [List.cons_append]
    unfold cut1
    rw [if_neg (fun e => h.1 e.symm), ih s h.2]
theorem cut1_none {c : UInt8} : ∀ {l : Bs}, c ∉ l → cut1 c l = (l, [], false) := by
  intro l
  induction l with
  | nil => intro _; rfl
  | cons b l ih =>
    intro h
    rw [List.mem_cons, not_or] at h
    unfold cut1
    rw [if_neg (fun e => h.1 e.symm), ih h.2]

/-! ### a point's line -/
def xpart (n : Nat) : Bs := if 1 < n then 32 :: 120 :: Lib.decDigits n else []
def npart (p : Pt) : Bs := if 0 ≤ mostZ p.1 then 32 :: decZ p.2 else []
def lineB (p : Pt) (n : Nat) : Bs := wordZ p.1 ++ npart p ++ xpart n
theorem lineZ_eq (p : Pt) (n : Nat) : lineZ p n = lineB p n ++ [10] := rfl
def toP (p : Pt) : Nat × Nat := (p.1.toNat, p.2.toNat)
theorem timesL_x {n : Nat} (h : 1 < n) (h9 : n ≤ 999999999) : timesL true (120 :: Lib.decDigits n) = some n := by
  unfold timesL
  rw [if_neg (by decide)]
  show (if (120 : UInt8) = 120 then _ else _) = _
  rw [if_pos rfl, numL_dec h9]
  show (if 2 ≤ n then some n else none) = some n
  rw [if_pos (by omega)]
theorem cut_x {l : Bs} (n : Nat) (hl : (32 : UInt8) ∉ l) : cut1 32 (l ++ xpart n) = if 1 < n then (l, 120 :: Lib.decDigits n, true) else (l, [], false) := by
  unfold xpart
  by_cases h : 1 < n
  · rw [if_pos h, if_pos h, cut1_app _ hl]
  · rw [if_neg h, if_neg h, List.append_nil, cut1_none hl]
theorem timesB_x {n : Nat} (h1 : 1 ≤ n) (h9 : n ≤ 999999999) (r : Bs × Bs × Bool) (l : Bs) (hr : r = if 1 < n then (l, 120 :: Lib.decDigits n, true) else (l, [], false)) : r.1 = l ∧ timesL r.2.2 r.2.1 = some n := by
  subst hr
  by_cases h : 1 < n
  · rw [if_pos h]; exact ⟨rfl, timesL_x h h9⟩
  · rw [if_neg h]
    refine ⟨rfl, ?_⟩
    unfold timesL
    rw [if_pos rfl]
    congr 1
    omega
theorem lineP_B {p : Pt} {n : Nat} (h : fitsZ p = true) (h1 : 1 ≤ n) (h9 : n ≤ 999999999) : lineP (lineB p n) = some ((toP p).1, (toP p).2, n) := by
  obtain ⟨k, N⟩ := p
  obtain ⟨hk0, hk6, hN0, hN9, hz, h4⟩ := fitsZ_cases h
  have plain : ∀ (kk : Nat), k = kk → kk < 6 → ¬ (kk = 1 ∨ kk = 4) → (32 : UInt8) ∉ wordZ kk → wordsL.idxOf (wordZ kk) = kk → ¬ (0 ≤ mostZ kk) → lineP (lineB (k, N) n) = some ((toP (k, N)).1, (toP (k, N)).2, n) := by
    intro kk hk hlt hkk hw hi hm
    subst hk
    have hN : N = 0 := hz (by omega) (by omega)
    subst hN
    have hc := cut_x n hw
    obtain ⟨e1, e2⟩ := timesB_x h1 h9 _ _ hc
    have hl : lineB ((kk : Int), 0) n = wordZ kk ++ xpart n := by
      unfold lineB npart
      simp only
      rw [if_neg hm, List.append_nil]
    rw [hl, lineP_plain (by rw [e1]; exact hi) hlt hkk, e2]
    simp [toP]
  have numb : ∀ (kk : Nat), k = kk → (kk = 1 ∨ kk = 4) → (32 : UInt8) ∉ wordZ kk → wordsL.idxOf (wordZ kk) = kk → (0 ≤ mostZ kk) → lineP (lineB (k, N) n) = some ((toP (k, N)).1, (toP (k, N)).2, n) := by
    intro kk hk hkk hw hi hm
    subst hk
    obtain ⟨M, rfl⟩ : ∃ M : Nat, N = M := ⟨N.toNat, by omega⟩
    have hl : lineB ((kk : Int), (M : Int)) n = wordZ kk ++ 32 :: (Lib.decDigits M ++ xpart n) := by
      unfold lineB npart
      simp only
      rw [if_pos hm]
      simp [decZ]
    have hc2 := cut_x n (dec_no (n := M) (c := 32) (by decide))
    obtain ⟨e1, e2⟩ := timesB_x h1 h9 _ _ hc2
    unfold lineP
    simp only
    rw [hl, cut1_app _ hw]
    simp only
    rw [hi, if_neg (by omega), if_pos hkk, if_neg (by decide), e1, numL_dec (by omega)]
    simp only
    rw [if_neg (by intro hh; have := h4 (by omega); omega), e2]
    simp [toP]
  obtain rfl | rfl | rfl | rfl | rfl | rfl : k = 0 ∨ k = 1 ∨ k = 2 ∨ k = 3 ∨ k = 4 ∨ k = 5 := by omega
  · exact plain 0 rfl (by decide) (by decide) (by decide) (by decide) (by decide)
  · exact numb 1 rfl (by decide) (by decide) (by decide) (by decide)
  · exact plain 2 rfl (by decide) (by decide) (by decide) (by decide) (by decide)
  · exact plain 3 rfl (by decide) (by decide) (by decide) (by decide) (by decide)
  · exact numb 4 rfl (by decide) (by decide) (by decide) (by decide)
  · exact plain 5 rfl (by decide) (by decide) (by decide) (by decide) (by decide)
theorem word_no {k : Int} {c : UInt8} (h0 : 0 ≤ k) (h6 : k < 6) (hc : c.toNat < 97) : c ∉ wordZ k := by
  have hall : (wordZ k).all (fun c => decide (97 ≤ c.toNat)) = true := by
    obtain rfl | rfl | rfl | rfl | rfl | rfl : k = 0 ∨ k = 1 ∨ k = 2 ∨ k = 3 ∨ k = 4 ∨ k = 5 := by omega
    all_goals decide
  intro h
  have := of_decide_eq_true (List.all_eq_true.1 hall c h)
  omega
theorem lineB_no {p : Pt} {n : Nat} (h : fitsZ p = true) : (10 : UInt8) ∉ lineB p n := by
  obtain ⟨k, N⟩ := p
  obtain ⟨hk0, hk6, -⟩ := fitsZ_cases h
  unfold lineB npart xpart
  simp only [List.mem_append, not_or]
  refine ⟨⟨word_no hk0 hk6 (by decide), ?_⟩, ?_⟩
  · split
    · simp only [List.mem_cons, not_or]
      exact ⟨by decide, dec_no (by decide)⟩
    · simp
  · split
    · simp only [List.mem_cons, not_or]
      exact ⟨by decide, by decide, dec_no (by decide)⟩
    · simp
theorem lineB_src {p : Pt} {n : Nat} (h : fitsZ p = true) : lineB p n ≠ sourceW := by
  obtain ⟨k, N⟩ := p
  obtain ⟨hk0, hk6, -⟩ := fitsZ_cases h
  intro e
  have h0 := congrArg (fun l : Bs => (l[0]?, l[1]?)) e
  unfold lineB at h0
  obtain rfl | rfl | rfl | rfl | rfl | rfl : k = 0 ∨ k = 1 ∨ k = 2 ∨ k = 3 ∨ k = 4 ∨ k = 5 := by omega
  all_goals
    simp [wordZ, wordsL, sourceW] at h0

/-! ### the whole text -/
theorem parse_line {i : Nat} {x : Sc} {p : Pt} {n : Nat} (s : Bs) (hi : 2 ≤ i) (h : fitsZ p = true) (h1 : 1 ≤ n) (hl : x.pts.length + n ≤ 4000) :
    restP i x (lineZ p n ++ s) = restP (i + 1) { x with pts := x.pts ++ List.replicate n (toP p) } s := by
  have hc : cut1 10 (lineZ p n ++ s) = (lineB p n, s, true) := by
    rw [lineZ_eq, List.append_assoc]
    exact cut1_app s (lineB_no h)
  have hs := lineStep_some (x := x) hi (lineB_src (n := n) h) (lineP_B h h1 (by omega))
  rw [if_neg (by omega)] at hs
  have := restP_next (i := i) (x := x) (s := lineZ p n ++ s) (by rw [hc]) (by rw [hc]; exact hs)
  rw [this, hc]
theorem parse_body : ∀ (l : List Pt) (n i : Nat) (x : Sc) (p : Pt) (t s : Bs), bodyR n l = some t → 2 ≤ i → (0 < n → l.head? = some p) → x.pts.length + n + l.length ≤ 4000 →
    ∃ j, 2 ≤ j ∧ restP i x (t ++ s) = restP j { x with pts := x.pts ++ List.replicate n (toP p) ++ l.map toP } s := by
  intro l
  induction l with
  | nil =>
    intro n i x p t s hb hi hn hl
    obtain rfl : n = 0 := by
      by_cases h : 0 < n
      · have := hn h; cases this
      · omega
    cases hb
    exact ⟨i, hi, by simp⟩
  | cons q l ih =>
    intro n i x p t s hb hi hn hl
    have hf : fitsZ q = true := by
      cases h : fitsZ q with
      | true => rfl
      | false => rw [bodyR_no h] at hb; cases hb
    have hrep : List.replicate n (toP p) = List.replicate n (toP q) := by
      by_cases h : 0 < n
      · have := hn h
        rw [List.head?_cons, Option.some.injEq] at this
        rw [this]
      · obtain rfl : n = 0 := by omega
        rfl
    rw [List.length_cons] at hl
    by_cases hh : l.head? = some q
    · rw [bodyR_same hf hh] at hb
      obtain ⟨j, hj, e⟩ := ih (n + 1) i x q t s hb hi (fun _ => hh) (by omega)
      refine ⟨j, hj, ?_⟩
      rw [e, hrep, List.replicate_succ', List.map_cons]
      simp [List.append_assoc]
    · rw [bodyR_end hf hh] at hb
      obtain ⟨t', ht', rfl⟩ := Option.map_eq_some_iff.1 hb
      have hp := parse_line (x := x) (t' ++ s) hi hf (Nat.succ_le_succ (Nat.zero_le n)) (by omega)
      obtain ⟨j, hj, e⟩ := ih 0 (i + 1) { x with pts := x.pts ++ List.replicate (n + 1) (toP q) } q t' s ht' (by omega) (fun h => by omega) (by simp only [List.length_append, List.length_replicate]; omega)
      refine ⟨j, hj, ?_⟩
      rw [List.append_assoc, hp, e, hrep, List.replicate_succ', List.map_cons]
      simp [List.append_assoc]
theorem parse_tail {i : Nat} {x : Sc} {src : Bs} (hi : 2 ≤ i) (hs : src.length ≤ 8192) : restP i x (tailZ src) = ({ x with src := src }, 0, 0) := by
  have hc : cut1 10 (tailZ src) = (sourceW, src, true) := cut1_app (l := sourceW) src (by decide)
  have hst := lineStep_src (x := x) hi (rfl : sourceW = sourceW)
  rw [restP_done (by rw [hc]) (by rw [hc]; exact hst), hc]
  show (if 8192 < src.length then _ else _) = _
  rw [if_neg (by omega)]
theorem after_dec {w : Bs} {n : Nat} (h : n ≤ 999999999) : afterL w (w ++ Lib.decDigits n) = some n := by
  unfold afterL
  rw [if_pos (by rw [List.isPrefixOf_iff_prefix]; exact List.prefix_append _ _), List.drop_left, numL_dec h]
theorem parse_head {size steps : Int} (s : Bs) (h1 : 1 ≤ size) (h2 : size ≤ 65536) (h3 : 0 ≤ steps) (h4 : steps ≤ 20000) :
    restP 0 zeroSc (headZ size steps ++ s) = restP 2 ⟨size.toNat, steps.toNat, [], []⟩ s := by
  have e1 : headZ size steps ++ s = (sizeW ++ Lib.decDigits size.toNat) ++ 10 :: ((stepsW ++ Lib.decDigits steps.toNat) ++ 10 :: s) := by
    unfold headZ decZ sizeW stepsW
    simp
  have hc1 : cut1 10 (headZ size steps ++ s) = (sizeW ++ Lib.decDigits size.toNat, (stepsW ++ Lib.decDigits steps.toNat) ++ 10 :: s, true) := by
    rw [e1]
    exact cut1_app _ (by rw [List.mem_append, not_or]; exact ⟨by decide, dec_no (by decide)⟩)
  have hc2 : cut1 10 ((stepsW ++ Lib.decDigits steps.toNat) ++ 10 :: s) = (stepsW ++ Lib.decDigits steps.toNat, s, true) :=
    cut1_app _ (by rw [List.mem_append, not_or]; exact ⟨by decide, dec_no (by decide)⟩)
  have hs1 : lineStep 0 zeroSc (sizeW ++ Lib.decDigits size.toNat) = .ok ({ zeroSc with size := size.toNat }, false) := by
    unfold lineStep
    rw [if_pos rfl, after_dec (by omega)]
    simp only
    rw [if_neg (by omega)]
  have hs2 : lineStep 1 { zeroSc with size := size.toNat } (stepsW ++ Lib.decDigits steps.toNat) = .ok ({ zeroSc with size := size.toNat, steps := steps.toNat }, false) := by
    unfold lineStep
    rw [if_neg (by decide), if_pos rfl, after_dec (by omega)]
    simp only
    rw [if_neg (by omega)]
  rw [restP_next (by rw [hc1]) (by rw [hc1]; exact hs1), hc1]
  simp only
  rw [restP_next (by rw [hc2]) (by rw [hc2]; exact hs2), hc2]
  rfl
theorem map_toP {pts : List Pt} : ∀ {n : Nat} {t : Bs}, bodyR n pts = some t → (pts.map toP).map castP = pts := by
  induction pts with
  | nil => intro n t _; rfl
  | cons q l ih =>
    intro n t hb
    have hf : fitsZ q = true := by
      cases h : fitsZ q with
      | true => rfl
      | false => rw [bodyR_no h] at hb; cases hb
    have hq : castP (toP q) = q := by
      obtain ⟨k, N⟩ := q
      obtain ⟨h1, -, h3, -⟩ := fitsZ_cases hf
      simp only [toP, castP, Prod.mk.injEq]
      omega
    have hl : ∃ m t', bodyR m l = some t' := by
      by_cases hh : l.head? = some q
      · rw [bodyR_same hf hh] at hb; exact ⟨_, _, hb⟩
      · rw [bodyR_end hf hh] at hb
        obtain ⟨t', ht', -⟩ := Option.map_eq_some_iff.1 hb
        exact ⟨_, _, ht'⟩
    obtain ⟨m, t', h'⟩ := hl
    rw [List.map_cons, List.map_cons, hq, ih h']
theorem lineZ_len15 {p : Pt} {n : Nat} (h : fitsZ p = true) (h1 : 1 ≤ n) (hn : n ≤ 4000) : (lineZ p n).length ≤ 15 * n := by
  obtain ⟨k, N⟩ := p
  obtain ⟨hk0, hk6, h3, h4, -, -⟩ := fitsZ_cases h
  have hd := decZ_len h3 h4
  have he := decZ_len (n := (n : Int)) (by omega) (by omega)
  obtain rfl | rfl | rfl | rfl | rfl | rfl : k = 0 ∨ k = 1 ∨ k = 2 ∨ k = 3 ∨ k = 4 ∨ k = 5 := by omega
  all_goals
    unfold lineZ
    simp only [List.length_append, List.length_cons, List.length_nil]
    have hw : (wordZ 0).length = 4 ∧ (wordZ 1).length = 4 ∧ (wordZ 2).length = 5 ∧ (wordZ 3).length = 5 ∧ (wordZ 4).length = 4 ∧ (wordZ 5).length = 7 := by decide
    have hm : ¬ 0 ≤ mostZ 0 ∧ 0 ≤ mostZ 1 ∧ ¬ 0 ≤ mostZ 2 ∧ ¬ 0 ≤ mostZ 3 ∧ 0 ≤ mostZ 4 ∧ ¬ 0 ≤ mostZ 5 := by decide
    obtain ⟨w0, w1, w2, w3, w4, w5⟩ := hw
    obtain ⟨m0, m1, m2, m3, m4, m5⟩ := hm
    first | rw [if_neg m0] | rw [if_pos m1] | rw [if_neg m2] | rw [if_neg m3] | rw [if_pos m4] | rw [if_neg m5]
    split <;> simp only [List.length_cons, List.length_nil] <;> omega
theorem body_len : ∀ (l : List Pt) (n : Nat) (t : Bs), bodyR n l = some t → n + l.length ≤ 4000 → t.length ≤ 15 * (n + l.length) := by
  intro l
  induction l with
  | nil => intro n t hb _; cases hb; simp
  | cons q l ih =>
    intro n t hb hl
    have hf : fitsZ q = true := by
      cases h : fitsZ q with
      | true => rfl
      | false => rw [bodyR_no h] at hb; cases hb
    rw [List.length_cons] at hl ⊢
    by_cases hh : l.head? = some q
    · rw [bodyR_same hf hh] at hb
      have := ih (n + 1) t hb (by omega)
      omega
    · rw [bodyR_end hf hh] at hb
      obtain ⟨t', ht', rfl⟩ := Option.map_eq_some_iff.1 hb
      have h1 := ih 0 t' ht' (by omega)
      have h2 := lineZ_len15 (n := n + 1) hf (by omega) (by omega)
      rw [List.length_append]
      omega

/-- What a scene's text says of the scene. -/
theorem printZ_ok {size steps : Int} {pts : List Pt} {src t : Bs} (h : printZ size steps pts src = (t, 0)) :
    1 ≤ size ∧ size ≤ 65536 ∧ 0 ≤ steps ∧ steps ≤ 20000 ∧ pts.length ≤ 4000 ∧ src.length ≤ 8192 ∧ ∃ b, bodyR 0 pts = some b ∧ t = headZ size steps ++ b ++ tailZ src := by
  unfold printZ at h
  split at h
  · cases h
  · split at h
    · cases h
    · split at h
      · cases h
      · rename_i b hb
        split at h
        · cases h
        · refine ⟨by omega, by omega, by omega, by omega, by omega, by omega, b, hb, (Prod.mk.inj h).1.symm⟩
theorem head_len {size steps : Int} (h1 : 1 ≤ size) (h2 : size ≤ 65536) (h3 : 0 ≤ steps) (h4 : steps ≤ 20000) : (headZ size steps).length ≤ 31 := by
  have hz := decZ_len (n := size) (by omega) (by omega)
  have ht := decZ_len (n := steps) (by omega) (by omega)
  unfold headZ
  simp only [List.length_append, List.length_cons, List.length_nil]
  omega
theorem printZ_len {size steps : Int} {pts : List Pt} {src t : Bs} (h : printZ size steps pts src = (t, 0)) : t.length ≤ 73728 := by
  obtain ⟨h1, h2, h3, h4, h5, h6, b, hb, rfl⟩ := printZ_ok h
  have := body_len _ _ _ hb (by omega)
  have := head_len h1 h2 h3 h4
  unfold tailZ
  simp only [List.length_append, List.length_cons, List.length_nil]
  omega
theorem back_one {size steps : Int} {pts : List Pt} {src t : Bs} (h : printZ size steps pts src = (t, 0)) :
    parseD t = (⟨size.toNat, steps.toNat, pts.map toP, src⟩, 0, 0) ∧ scZ ⟨size.toNat, steps.toNat, pts.map toP, src⟩ = ⟨size, steps, pts, src⟩ := by
  have hlen := printZ_len h
  obtain ⟨h1, h2, h3, h4, h5, h6, b, hb, rfl⟩ := printZ_ok h
  refine ⟨?_, ?_⟩
  · rw [parseD_rest (by omega), List.append_assoc, parse_head _ h1 h2 h3 h4]
    obtain ⟨j, hj, e⟩ := parse_body pts 0 2 ⟨size.toNat, steps.toNat, [], []⟩ (0, 0) b (tailZ src) hb (by decide) (fun h => by omega) (by simp; omega)
    rw [e, parse_tail hj h6]
    simp
  · unfold scZ
    simp only
    rw [map_toP hb]
    congr 1 <;> omega
end Go.Proofs.YthncifbnkednlaaDoor
