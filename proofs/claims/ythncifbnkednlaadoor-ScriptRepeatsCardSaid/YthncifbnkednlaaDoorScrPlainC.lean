/- Parse, then Print: what was read has a text that is no longer; a text that is cut off. In plain Lean. -/
import Derived.Test.YthncifbnkednlaaDoorScrPlainB
namespace Go.Proofs.YthncifbnkednlaaDoor
set_option linter.unusedVariables false
set_option linter.unusedSimpArgs false

/-! ### a line that is read -/
theorem after_inv {w l : Bs} {n : Nat} (h : afterL w l = some n) : l = w ++ Lib.decDigits n := by
  unfold afterL at h
  split at h
  · rename_i hp
    obtain ⟨r, rfl⟩ := List.isPrefixOf_iff_prefix.1 hp
    rw [List.drop_left] at h
    rw [numL_uniq h]
  · cases h
theorem timesL_inv {more : Bool} {rest : Bs} {m : Nat} (h : timesL more rest = some m) : (more = false ∧ m = 1) ∨ (more = true ∧ rest = 120 :: Lib.decDigits m ∧ 2 ≤ m ∧ m ≤ 999999999) := by
  unfold timesL at h
  split at h
  · rename_i hm
    cases h
    exact .inl ⟨hm, rfl⟩
  · rename_i hm
    right
    split at h
    · cases h
    · split at h
      · rename_i hb
        split at h
        · rename_i hn
          split at h
          · cases h
            have := (numL_lt hn).1
            exact ⟨by simpa using hm, by rw [hb, ← numL_uniq hn], by assumption, by omega⟩
          · cases h
        · cases h
      · cases h
theorem xpart_cut {rest l : Bs} {r : Bs × Bs × Bool} {m : Nat} (hr : cut1 32 rest = r) (hl : r.1 = l) (h : timesL r.2.2 r.2.1 = some m) : rest = l ++ xpart m ∧ 1 ≤ m ∧ m ≤ 999999999 := by
  unfold xpart
  rcases timesL_inv h with ⟨h1, rfl⟩ | ⟨h1, h2, h3, h4⟩
  · have hn := cut1_no (c := 32) (l := rest) (by rw [hr]; exact h1)
    rw [hr, hl] at hn
    rw [if_neg (by decide), List.append_nil]
    exact ⟨hn.1.symm, by decide, by decide⟩
  · have hy := (cut1_yes (c := 32) (l := rest) (by rw [hr]; exact h1)).1
    rw [hr, hl, h2] at hy
    rw [if_pos (by omega)]
    exact ⟨hy, by omega, h4⟩
theorem lineP_inv {l : Bs} {k N m : Nat} (h : lineP l = some (k, N, m)) : fitsZ ((k : Int), (N : Int)) = true ∧ l = lineB ((k : Int), (N : Int)) m ∧ 1 ≤ m ∧ m ≤ 999999999 := by
  obtain ⟨c, hc⟩ : ∃ c, cut1 32 l = c := ⟨_, rfl⟩
  unfold lineP at h
  simp only at h
  rw [hc] at h
  obtain ⟨kk, hkk⟩ : ∃ kk, wordsL.idxOf c.1 = kk := ⟨_, rfl⟩
  rw [hkk] at h
  split at h
  · cases h
  · rename_i h6
    have hlt : kk < 6 := by omega
    have hw : c.1 = wordZ (kk : Int) := by
      have hl : wordsL.idxOf c.1 < wordsL.length := by rw [hkk]; exact hlt
      have := List.getElem_idxOf hl
      rw [← this]
      unfold wordZ
      rw [Int.toNat_natCast, ← hkk, List.getElem?_eq_getElem hl]
      rfl
    have hmi := most_iff (k := (kk : Int)) (by omega) (by omega)
    split at h
    · rename_i h14
      split at h
      · cases h
      · rename_i hmore
        have hy := (cut1_yes (c := 32) (l := l) (by rw [hc]; simpa using hmore)).1
        rw [hc, hw] at hy
        obtain ⟨d, hd⟩ : ∃ d, cut1 32 c.2.1 = d := ⟨_, rfl⟩
        rw [hd] at h
        split at h
        · cases h
        · rename_i n hn
          split at h
          · cases h
          · rename_i h4
            obtain ⟨q, hq, e⟩ := Option.map_eq_some_iff.1 h
            cases e
            obtain ⟨e1, e2, e3⟩ := xpart_cut hd (numL_uniq hn) hq
            have hlt9 := (numL_lt hn).1
            refine ⟨?_, ?_, e2, e3⟩
            · rw [fitsZ_iff]
              refine ⟨by simp, by simp; omega, by simp, ?_⟩
              simp only
              rcases h14 with rfl | rfl
              · have : mostZ ((1 : Nat) : Int) = 999999999 := by decide
                rw [this]; omega
              · have : mostZ ((4 : Nat) : Int) = 1 := by decide
                rw [this]; omega
            · rw [hy, e1]
              unfold lineB npart
              simp only
              rw [if_pos (hmi.2 (by omega))]
              simp [decZ]
    · rename_i h14
      obtain ⟨q, hq, e⟩ := Option.map_eq_some_iff.1 h
      cases e
      obtain ⟨e1, e2, e3⟩ := xpart_cut hc hw hq
      refine ⟨?_, ?_, e2, e3⟩
      · rw [fitsZ_iff]
        exact ⟨by simp, by simp; omega, by simp, by simp; omega⟩
      · rw [e1]
        unfold lineB npart
        simp only
        rw [if_neg (fun hh => h14 (by have := hmi.1 hh; omega)), List.append_nil]

/-! ### a text that is read -/
def runPts (rs : List ((Nat × Nat) × Nat)) : List (Nat × Nat) := rs.flatMap fun r => List.replicate r.2 r.1
def runTxt (rs : List ((Nat × Nat) × Nat)) : Bs := rs.flatMap fun r => lineZ (castP r.1) r.2
def RunsOK (rs : List ((Nat × Nat) × Nat)) : Prop := ∀ r ∈ rs, fitsZ (castP r.1) = true ∧ 1 ≤ r.2
theorem parseF_inv : ∀ (f i : Nat) (x y : Sc) (s : Bs) (a : Nat), parseF f i x s = (y, a, 0) → 2 ≤ i → x.pts.length ≤ 4000 →
    ∃ rs, RunsOK rs ∧ s = runTxt rs ++ tailZ y.src ∧ y.size = x.size ∧ y.steps = x.steps ∧ y.pts = x.pts ++ runPts rs ∧ y.pts.length ≤ 4000 ∧ y.src.length ≤ 8192 := by
  intro f
  induction f with
  | zero => intro i x y s a h; cases h
  | succ f ih =>
    intro i x y s a h hi hx
    unfold parseF at h
    split at h
    · cases h
    · rename_i hcut
      have hy := (cut1_yes (c := 10) (l := s) (by simpa using hcut)).1
      split at h
      · rename_i e he
        have := lineStep_err he
        cases h
        omega
      · rename_i z hz
        split at h
        · cases h
        · rename_i hsl
          cases h
          unfold lineStep at hz
          rw [if_neg (by omega), if_neg (by omega)] at hz
          split at hz
          · rename_i hsrc
            cases hz
            refine ⟨[], (fun r hr => by cases hr), ?_, rfl, rfl, by simp [runPts], hx, by simpa using hsl⟩
            conv => lhs; rw [hy, hsrc]
            rfl
          · split at hz
            · cases hz
            · split at hz <;> cases hz
      · rename_i z hz
        unfold lineStep at hz
        rw [if_neg (by omega), if_neg (by omega)] at hz
        split at hz
        · cases hz
        · split at hz
          · cases hz
          · rename_i k N m hl
            split at hz
            · cases hz
            · rename_i hmany
              cases hz
              obtain ⟨hf, hlb, hm1, -⟩ := lineP_inv hl
              obtain ⟨rs, h1, h2, h3, h4, h5, h6, h7⟩ := ih _ _ _ _ _ h (by omega) (by simp only [List.length_append, List.length_replicate]; omega)
              refine ⟨((k, N), m) :: rs, ?_, ?_, h3, h4, ?_, h6, h7⟩
              · intro r hr
                rcases List.mem_cons.1 hr with rfl | hr
                · exact ⟨hf, hm1⟩
                · exact h1 r hr
              · conv => lhs; rw [hy, h2, hlb]
                unfold runTxt
                rw [List.flatMap_cons, lineZ_eq]
                simp [castP, List.append_assoc]
              · rw [h5]
                unfold runPts
                rw [List.flatMap_cons]
                simp [List.append_assoc]
theorem parseD_inv {s : Bs} {y : Sc} {a : Nat} (h : parseD s = (y, a, 0)) :
    ∃ rs, RunsOK rs ∧ s = headZ y.size y.steps ++ runTxt rs ++ tailZ y.src ∧ 1 ≤ y.size ∧ y.size ≤ 65536 ∧ y.steps ≤ 20000 ∧ y.pts = runPts rs ∧ y.pts.length ≤ 4000 ∧ y.src.length ≤ 8192 := by
  unfold parseD at h
  split at h
  · cases h
  · unfold parseF at h
    split at h
    · cases h
    · rename_i hcut
      have hy := (cut1_yes (c := 10) (l := s) (by simpa using hcut)).1
      split at h
      · rename_i e he
        have := lineStep_err he
        cases h
        omega
      · rename_i z hz
        unfold lineStep at hz
        rw [if_pos rfl] at hz
        split at hz
        · cases hz
        · split at hz <;> cases hz
      · rename_i z hz
        unfold lineStep at hz
        rw [if_pos rfl] at hz
        split at hz
        · cases hz
        · rename_i n hn
          split at hz
          · cases hz
          · rename_i hrange
            cases hz
            have hl0 := after_inv hn
            have hpos : 0 < s.length := by
              have := congrArg List.length hy
              rw [List.length_append, List.length_cons] at this
              omega
            obtain ⟨f, hf⟩ : ∃ f, s.length = f + 1 := ⟨s.length - 1, by omega⟩
            rw [hf] at h
            unfold parseF at h
            split at h
            · cases h
            · rename_i hcut2
              have hy2 := (cut1_yes (c := 10) (l := (cut1 10 s).2.1) (by simpa using hcut2)).1
              split at h
              · rename_i e he
                have := lineStep_err he
                cases h
                omega
              · rename_i z hz
                unfold lineStep at hz
                rw [if_neg (by decide), if_pos rfl] at hz
                split at hz
                · cases hz
                · split at hz <;> cases hz
              · rename_i z hz
                unfold lineStep at hz
                rw [if_neg (by decide), if_pos rfl] at hz
                split at hz
                · cases hz
                · rename_i n2 hn2
                  split at hz
                  · cases hz
                  · rename_i hrange2
                    cases hz
                    have hl1 := after_inv hn2
                    obtain ⟨rs, h1, h2, h3, h4, h5, h6, h7⟩ := parseF_inv _ _ _ _ _ _ h (by decide) (by simp [zeroSc])
                    simp only at h3 h4
                    refine ⟨rs, h1, ?_, by omega, by omega, by omega, by simpa [zeroSc] using h5, h6, h7⟩
                    conv => lhs; rw [hy, hy2, h2, hl0, hl1]
                    rw [h3, h4]
                    unfold headZ sizeW stepsW decZ
                    simp [List.append_assoc]
theorem runPts_cast (rs : List ((Nat × Nat) × Nat)) : (runPts rs).map castP = rs.flatMap fun r => List.replicate r.2 (castP r.1) := by
  induction rs with
  | nil => rfl
  | cons r rs ih => unfold runPts at *; rw [List.flatMap_cons, List.map_append, ih, List.flatMap_cons, List.map_replicate]

/-! ### the printed text is no longer -/
def dlen (n : Nat) : Nat := (Lib.decDigits n).length
theorem dlen_pos (n : Nat) : 1 ≤ dlen n := List.length_pos_iff.2 (dec_nil n)
theorem dlen_lt (n : Nat) : n < 10 ^ dlen n := by
  have := decV_le (Lib.decDigits n) (dec_all n)
  rw [dec_val] at this
  exact this
theorem dlen_le {n d : Nat} (h : n < 10 ^ (d + 1)) : dlen n ≤ d + 1 := decDigits_len n d h
theorem dlen_add (a m : Nat) : dlen (a + m) ≤ max (dlen a) (dlen m) + 1 := by
  apply dlen_le
  have h1 := dlen_lt a
  have h2 := dlen_lt m
  have e1 : (10 : Nat) ^ dlen a ≤ 10 ^ max (dlen a) (dlen m) := Nat.pow_le_pow_right (by decide) (Nat.le_max_left _ _)
  have e2 : (10 : Nat) ^ dlen m ≤ 10 ^ max (dlen a) (dlen m) := Nat.pow_le_pow_right (by decide) (Nat.le_max_right _ _)
  rw [Nat.pow_succ]
  omega
theorem lineZ_length (p : Pt) (n : Nat) : (lineZ p n).length = (wordZ p.1).length + (npart p).length + (if 1 < n then 2 + dlen n else 0) + 1 := by
  rw [lineZ_eq]
  unfold lineB xpart dlen
  simp only [List.length_append, List.length_cons, List.length_nil]
  split <;> simp <;> omega
theorem lineZ_sub {p : Pt} (h : fitsZ p = true) {a m : Nat} (ha : 1 ≤ a) (hm : 1 ≤ m) : (lineZ p (a + m)).length ≤ (lineZ p a).length + (lineZ p m).length := by
  have hw : 4 ≤ (wordZ p.1).length := by
    obtain ⟨k, N⟩ := p
    obtain ⟨hk0, hk6, -⟩ := fitsZ_cases h
    obtain rfl | rfl | rfl | rfl | rfl | rfl : k = 0 ∨ k = 1 ∨ k = 2 ∨ k = 3 ∨ k = 4 ∨ k = 5 := by omega
    all_goals (simp only; decide)
  have hd := dlen_add a m
  have h1 := dlen_pos a
  have h2 := dlen_pos m
  rw [lineZ_length, lineZ_length, lineZ_length]
  rw [if_pos (by omega)]
  have e1 : a = 1 → dlen a = 1 := by
    rintro rfl
    have : dlen 1 ≤ 1 := dlen_le (by decide)
    omega
  have e2 : m = 1 → dlen m = 1 := by
    rintro rfl
    have : dlen 1 ≤ 1 := dlen_le (by decide)
    omega
  by_cases g1 : 1 < a <;> by_cases g2 : 1 < m
  · rw [if_pos g1, if_pos g2]; omega
  · rw [if_pos g1, if_neg g2]
    have := e2 (by omega)
    omega
  · rw [if_neg g1, if_pos g2]
    have := e1 (by omega)
    omega
  · rw [if_neg g1, if_neg g2]
    have := e1 (by omega)
    have := e2 (by omega)
    omega
theorem body_bump {p : Pt} (h : fitsZ p = true) {m : Nat} (hm : 1 ≤ m) : ∀ (l : List Pt) (a : Nat) (t : Bs), l.head? = some p → bodyR a l = some t → ∃ t', bodyR (a + m) l = some t' ∧ t'.length ≤ t.length + (lineZ p m).length := by
  intro l
  induction l with
  | nil => intro a t hh; cases hh
  | cons q l ih =>
    intro a t hh hb
    rw [List.head?_cons, Option.some.injEq] at hh
    subst hh
    by_cases hh : l.head? = some q
    · rw [bodyR_same h hh] at hb ⊢
      obtain ⟨t', h1, h2⟩ := ih (a + 1) t hh hb
      exact ⟨t', by rw [show a + m + 1 = a + 1 + m by omega]; exact h1, h2⟩
    · rw [bodyR_end h hh] at hb ⊢
      obtain ⟨t0, ht0, rfl⟩ := Option.map_eq_some_iff.1 hb
      refine ⟨lineZ q (a + m + 1) ++ t0, by rw [ht0]; rfl, ?_⟩
      have := lineZ_sub h (a := a + 1) (m := m) (by omega) hm
      rw [show a + 1 + m = a + m + 1 by omega] at this
      rw [List.length_append, List.length_append]
      omega
theorem body_rep {p : Pt} (h : fitsZ p = true) (l : List Pt) : ∀ (j a : Nat), bodyR a (List.replicate (j + 1) p ++ l) = if l.head? = some p then bodyR (a + (j + 1)) l else (bodyR 0 l).map (lineZ p (a + (j + 1)) ++ ·) := by
  intro j
  induction j with
  | zero =>
    intro a
    show bodyR a (p :: l) = _
    by_cases hh : l.head? = some p
    · rw [if_pos hh, bodyR_same h hh]
    · rw [if_neg hh, bodyR_end h hh]
  | succ j ih =>
    intro a
    rw [List.replicate_succ, List.cons_append, bodyR_same h (by rw [List.replicate_succ, List.cons_append, List.head?_cons]), ih (a + 1), show a + 1 + (j + 1) = a + (j + 1 + 1) by omega]
theorem body_runs : ∀ (rs : List ((Nat × Nat) × Nat)), RunsOK rs → ∃ b, bodyR 0 (rs.flatMap fun r => List.replicate r.2 (castP r.1)) = some b ∧ b.length ≤ (runTxt rs).length := by
  intro rs
  induction rs with
  | nil => intro _; exact ⟨[], rfl, Nat.le_refl _⟩
  | cons r rs ih =>
    intro hok
    obtain ⟨b, hb, hl⟩ := ih (fun r' hr => hok r' (List.mem_cons_of_mem _ hr))
    obtain ⟨hf, hm⟩ := hok r List.mem_cons_self
    obtain ⟨q, m⟩ := r
    simp only at hf hm
    obtain ⟨j, rfl⟩ : ∃ j, m = j + 1 := ⟨m - 1, by omega⟩
    rw [List.flatMap_cons, body_rep hf]
    have e : (runTxt ((q, j + 1) :: rs)).length = (lineZ (castP q) (j + 1)).length + (runTxt rs).length := by
      unfold runTxt
      rw [List.flatMap_cons, List.length_append]
    rw [e]
    by_cases hh : (rs.flatMap fun r => List.replicate r.2 (castP r.1)).head? = some (castP q)
    · rw [if_pos hh]
      obtain ⟨t', h1, h2⟩ := body_bump hf hm _ 0 b hh hb
      exact ⟨t', h1, by omega⟩
    · rw [if_neg hh, hb]
      exact ⟨lineZ (castP q) (0 + (j + 1)) ++ b, rfl, by rw [List.length_append, Nat.zero_add]; omega⟩
theorem back_two {s : Bs} {y : Sc} {a : Nat} (h : parseD s = (y, a, 0)) : ∃ u, printZ y.size y.steps (y.pts.map castP) y.src = (u, 0) ∧ u.length ≤ s.length := by
  obtain ⟨rs, hok, rfl, h1, h2, h3, h4, h5, h6⟩ := parseD_inv h
  obtain ⟨b, hb, hl⟩ := body_runs rs hok
  refine ⟨headZ y.size y.steps ++ b ++ tailZ y.src, ?_, by simp only [List.length_append]; omega⟩
  unfold printZ
  rw [if_neg (by omega), if_neg (by rw [List.length_map]; omega), h4, runPts_cast, hb]
  simp only
  rw [if_neg (by omega)]
theorem toP_castP (l : List (Nat × Nat)) : (l.map castP).map toP = l := by
  rw [List.map_map]
  conv => rhs; rw [← List.map_id l]
  apply List.map_congr_left
  intro x _
  simp [toP, castP]

/-! ### cut off -/
def Bad (r : Sc × Nat × Nat) : Prop := r.1 = zeroSc ∧ r.2.2 = 6
theorem bad_no {i : Nat} {x : Sc} {s : Bs} (h : (10 : UInt8) ∉ s) : Bad (restP i x s) := by
  rw [restP_no (by rw [cut1_none h])]
  exact ⟨rfl, rfl⟩
theorem bad_step {i j : Nat} {x y : Sc} {l s : Bs} (hl : (10 : UInt8) ∉ l) (h : ∀ s', restP i x (l ++ 10 :: s') = restP j y s') (hs : ∀ c, c < s.length → Bad (restP j y (s.take c))) :
    ∀ c, c < (l ++ 10 :: s).length → Bad (restP i x ((l ++ 10 :: s).take c)) := by
  intro c hc
  rw [List.length_append, List.length_cons] at hc
  by_cases hcl : c ≤ l.length
  · rw [List.take_append_of_le_length hcl]
    exact bad_no fun hh => hl (List.mem_of_mem_take hh)
  · obtain ⟨d, rfl⟩ : ∃ d, c = l.length + (d + 1) := ⟨c - l.length - 1, by omega⟩
    rw [List.take_length_add_append, List.take_succ_cons, h]
    exact hs d (by omega)
theorem bad_body : ∀ (l : List Pt) (n i : Nat) (x : Sc) (p : Pt) (t s : Bs), bodyR n l = some t → 2 ≤ i → (0 < n → l.head? = some p) → x.pts.length + n + l.length ≤ 4000 →
    (∀ j y, 2 ≤ j → ∀ c, c < s.length → Bad (restP j y (s.take c))) → ∀ c, c < (t ++ s).length → Bad (restP i x ((t ++ s).take c)) := by
  intro l
  induction l with
  | nil =>
    intro n i x p t s hb hi hn hl hs
    cases hb
    exact hs i x hi
  | cons q l ih =>
    intro n i x p t s hb hi hn hl hs
    have hf : fitsZ q = true := by
      cases h : fitsZ q with
      | true => rfl
      | false => rw [bodyR_no h] at hb; cases hb
    rw [List.length_cons] at hl
    by_cases hh : l.head? = some q
    · rw [bodyR_same hf hh] at hb
      exact ih (n + 1) i x q t s hb hi (fun _ => hh) (by omega) hs
    · rw [bodyR_end hf hh] at hb
      obtain ⟨t', ht', rfl⟩ := Option.map_eq_some_iff.1 hb
      have e : lineZ q (n + 1) ++ t' ++ s = lineB q (n + 1) ++ 10 :: (t' ++ s) := by
        rw [lineZ_eq]; simp [List.append_assoc]
      rw [e]
      refine bad_step (y := { x with pts := x.pts ++ List.replicate (n + 1) (toP q) }) (j := i + 1) (lineB_no hf) (fun s' => ?_) ?_
      · have := parse_line (x := x) s' hi hf (Nat.succ_le_succ (Nat.zero_le n)) (by omega)
        rw [lineZ_eq, List.append_assoc] at this
        exact this
      · exact ih 0 (i + 1) _ q t' s ht' (by omega) (fun h => by omega) (by simp only [List.length_append, List.length_replicate]; omega) hs
theorem bad_head {size steps : Int} {s : Bs} (h1 : 1 ≤ size) (h2 : size ≤ 65536) (h3 : 0 ≤ steps) (h4 : steps ≤ 20000) (hs : ∀ c, c < s.length → Bad (restP 2 ⟨size.toNat, steps.toNat, [], []⟩ (s.take c))) :
    ∀ c, c < (headZ size steps ++ s).length → Bad (restP 0 zeroSc ((headZ size steps ++ s).take c)) := by
  have e1 : headZ size steps ++ s = (sizeW ++ Lib.decDigits size.toNat) ++ 10 :: ((stepsW ++ Lib.decDigits steps.toNat) ++ 10 :: s) := by
    unfold headZ decZ sizeW stepsW
    simp
  have n1 : (10 : UInt8) ∉ sizeW ++ Lib.decDigits size.toNat := by rw [List.mem_append, not_or]; exact ⟨by decide, dec_no (by decide)⟩
  have n2 : (10 : UInt8) ∉ stepsW ++ Lib.decDigits steps.toNat := by rw [List.mem_append, not_or]; exact ⟨by decide, dec_no (by decide)⟩
  have hs1 : lineStep 0 zeroSc (sizeW ++ Lib.decDigits size.toNat) = .ok ({ zeroSc with size := size.toNat }, false) := by
    unfold lineStep
    rw [if_pos rfl, after_dec (by omega)]
    simp only
    rw [if_neg (by omega)]
  have hs2 : lineStep 1 { zeroSc with size := size.toNat } (stepsW ++ Lib.decDigits steps.toNat) = .ok ({ zeroSc with size := size.toNat, steps := steps.toNat }, false) := by
    unfold lineStep
    rw [if_neg (by decide), if_pos rfl, after_dec (by omega)]
    simp only
    rw [if_neg (by omega)]
  rw [e1]
  refine bad_step (j := 1) (y := { zeroSc with size := size.toNat }) n1 (fun s' => ?_) (bad_step (j := 2) (y := ⟨size.toNat, steps.toNat, [], []⟩) n2 (fun s' => ?_) hs)
  · have hc := cut1_app s' n1
    rw [restP_next (by rw [hc]) (by rw [hc]; exact hs1), hc]
  · have hc := cut1_app s' n2
    rw [restP_next (by rw [hc]) (by rw [hc]; exact hs2), hc]
    rfl
theorem cuts_bad {size steps : Int} {pts : List Pt} {src t : Bs} (h : printZ size steps pts src = (t, 0)) {c : Nat} (hc : c + src.length < t.length) : Bad (parseD (t.take c)) := by
  have hlen := printZ_len h
  obtain ⟨h1, h2, h3, h4, h5, h6, b, hb, rfl⟩ := printZ_ok h
  rw [parseD_rest (by rw [List.length_take]; omega)]
  have e : headZ size steps ++ b ++ tailZ src = (headZ size steps ++ (b ++ (sourceW ++ [10]))) ++ src := by
    unfold tailZ sourceW; simp [List.append_assoc]
  rw [e] at hc ⊢
  rw [List.length_append] at hc
  rw [List.take_append_of_le_length (by omega)]
  refine bad_head h1 h2 h3 h4 (bad_body pts 0 2 _ (0, 0) b _ hb (by decide) (fun h => by omega) (by simp; omega) ?_) c (by omega)
  intro j y hj c hc
  rw [List.take_append_of_le_length (by simp at hc; simp [sourceW] at hc ⊢; omega)]
  exact bad_no fun hh => by
    have := List.mem_of_mem_take hh
    revert this
    decide
theorem cuts_good {size steps : Int} {pts : List Pt} {src t : Bs} (h : printZ size steps pts src = (t, 0)) {c : Nat} (hc : t.length ≤ c + src.length) (hct : c ≤ t.length) :
    printZ size steps pts (src.take (src.length - (t.length - c))) = (t.take c, 0) := by
  obtain ⟨h1, h2, h3, h4, h5, h6, b, hb, ht⟩ := printZ_ok h
  obtain ⟨T, hT⟩ : ∃ T : Bs, T = headZ size steps ++ (b ++ (sourceW ++ [10])) := ⟨_, rfl⟩
  have e : ∀ z, headZ size steps ++ b ++ tailZ z = T ++ z := by
    intro z
    rw [hT]
    unfold tailZ sourceW
    simp [List.append_assoc]
  rw [e] at ht
  have el : t.length = T.length + src.length := by rw [ht, List.length_append]
  obtain ⟨d, rfl⟩ : ∃ d, c = T.length + d := ⟨c - T.length, by omega⟩
  unfold printZ
  rw [if_neg (by omega), if_neg (by omega), hb]
  simp only
  rw [if_neg (by rw [List.length_take]; omega), e, ht, List.take_length_add_append, List.length_append, show src.length - (T.length + src.length - (T.length + d)) = d by omega]

/-! ### many in one line -/
theorem body_many {p : Pt} (h : fitsZ p = true) {n : Nat} (hn : 1 ≤ n) : bodyR 0 (List.replicate n p) = some (lineZ p n) := by
  obtain ⟨j, rfl⟩ : ∃ j, n = j + 1 := ⟨n - 1, by omega⟩
  have := body_rep h [] j 0
  rw [List.append_nil, if_neg (by simp), bodyR_nil, Nat.zero_add] at this
  rw [this]
  simp
end Go.Proofs.YthncifbnkednlaaDoor
