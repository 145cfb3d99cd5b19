/- TableNext: gone over from the beginning, each key with a value is met once, with that value: the law returns true for every list of calls. -/
import Derived.Test.YtpodgmajccmgkaaRows
import Derived.Test.YtpodgmajccmgkaaTabEm
import Derived.Test.YtpodgmajccmgkaaRefKey2
namespace Go.Proofs.Ytpodgmajccmgkaa.tableNext
open Go.ChangeShapes Go.WideShapes Go.ChangeAt Go.RowKit Go.Shelf
set_option linter.unusedVariables false
set_option linter.unusedSimpArgs false
attribute [local go_sem] Oper.semAt_some nil_slot field_t meth_array meth_nodes meth_slot meth_setslot meth_resize meth_hash

theorem own : ownKnob Try.prog.godebug = none := by kernel_rfl

variable {w0 w w' : World} {p : Nat} {sv sv' : Value} {T T' : Tb}

theorem next_is (H : HasT w0 w p sv T) (k : V) {r : Option Pr} (hr : nextR T k = nxR r) {a b c d : Int} (h : nxR r = (⟨a, b⟩, ⟨c, d⟩, 0)) :
    Calls Try.prog 11 #[.iface 23 (.pointer (some ⟨p, 0, none⟩)), .agg #[.int .i64 k.t, .int .i64 k.n]] w fun e w' => e = .returned (.tuple #[.agg #[.int .i64 a, .int .i64 b], .agg #[.int .i64 c, .int .i64 d], .int .i64 0]) ∧ Below w.heap.size w w' := by
  have := next_has H k
  rw [hr, h] at this
  exact this
theorem nxR_split (r : Option Pr) : ∃ a b c d, nxR r = (⟨a, b⟩, ⟨c, d⟩, 0) ∧ (r = none → a = 0 ∧ b = 0 ∧ c = 0 ∧ d = 0) ∧ ∀ x, r = some x → x.k = ⟨a, b⟩ ∧ x.v = ⟨c, d⟩ := by
  cases r with
  | none => exact ⟨0, 0, 0, 0, rfl, fun _ => ⟨rfl, rfl, rfl, rfl⟩, (by intro x h; cases h)⟩
  | some x => exact ⟨x.k.t, x.k.n, x.v.t, x.v.n, rfl, (by intro h; cases h), (by intro y h; cases h; exact ⟨rfl, rfl⟩)⟩
theorem hasT_set (H : HasT w0 w p sv T) {a : Addr} (h0 : w0.heap.size ≤ a.block) (hn : ¬ OwnS p sv a.block) (u : Value) : HasT w0 (w.setCell a u) p sv T :=
  ⟨H.m.keep (B := fun k => k = a.block) (Keep.setCell (B := fun k => k = a.block) (p := a) (Keep.refl _ w) (fun _ => rfl) u) (fun k hk e => hn (by rw [← e]; exact hk)), H.own, H.b.setCell h0 u, H.pow, H.most⟩

/-- A value as a key. -/
def KeyIs (k : V) (a b : Int) (q : Bool) : Prop := (q = true ∧ keyR k = some ⟨a, b⟩) ∨ (q = false ∧ keyR k = none ∧ k = ⟨a, b⟩)
theorem keyIs_ex (k : V) : ∃ a b q, KeyIs k a b q := by
  cases h : keyR k with
  | none => exact ⟨k.t, k.n, false, .inr ⟨rfl, h, rfl⟩⟩
  | some x => exact ⟨x.t, x.n, true, .inl ⟨rfl, h⟩⟩
theorem rkey_as {xt xn a b : Int} {q : Bool} (h : KeyIs ⟨xt, xn⟩ a b q) (w : World) : Calls Try.prog 14 #[.agg #[.int .i64 xt, .int .i64 xn]] w fun e w' => e = .returned (.tuple #[.agg #[.int .i64 a, .int .i64 b], .bool q]) ∧ Below w.heap.size w w' := by
  refine (rkey_any ⟨xt, xn⟩ w).mono ?_
  rintro e w1 ⟨h1, h2⟩
  refine ⟨?_, h2⟩
  rcases h with ⟨rfl, h⟩ | ⟨rfl, h, h3⟩
  · rw [h] at h1; exact h1
  · rw [h] at h1
    simp only [V.mk.injEq] at h3
    obtain ⟨rfl, rfl⟩ := h3
    exact h1
/-- Is the key among the first keys that were met? -/
def inP (T : Tb) (a b : Int) (q : Bool) (m : Nat) : Bool := q && (((pairsL T).map Pr.k).take m).any fun y => decide (y = ⟨a, b⟩)
theorem inP_zero (T : Tb) (a b : Int) (q : Bool) : inP T a b q 0 = false := by unfold inP; simp
theorem inP_succ {T : Tb} {a b : Int} {q : Bool} {m : Nat} {y : Pr} (h : (pairsL T)[m]? = some y) : inP T a b q (m + 1) = (inP T a b q m || (q && decide (y.k = ⟨a, b⟩))) := by
  unfold inP
  rw [List.take_add_one, List.getElem?_map, h, List.any_append]
  cases q <;> simp
theorem inP_last (H : WF T) {k : V} {a b : Int} {q : Bool} (h : KeyIs k a b q) {m : Nat} (hm : (pairsL T).length ≤ m) : inP T a b q m = decide ((getT T k).t ≠ 0) := by
  unfold inP
  rw [List.take_of_length_le (by simpa using hm)]
  rcases h with ⟨rfl, h⟩ | ⟨rfl, h, -⟩
  · rw [Bool.true_and, Bool.eq_iff_iff, List.any_eq_true, decide_eq_true_iff, getT_val h]
    constructor
    · rintro ⟨y, hy, he⟩
      obtain ⟨x, hx, rfl⟩ := List.mem_map.1 hy
      rw [← of_decide_eq_true he, H.pair_val hx]
      exact (H.pair hx).2.2.2
    · intro hv
      obtain ⟨x, hx, h1, -⟩ := val_pair hv
      exact ⟨x.k, List.mem_map.2 ⟨x, hx, rfl⟩, decide_eq_true h1⟩
  · rw [getT_none h, Bool.false_and]; rfl

theorem flatV_snoc (l : List V) (v : V) : flatV (l ++ [v]) = flatV l ++ [.int .i64 v.t, .int .i64 v.n] := by simp [flatV, V.cells]
theorem flatV_one (x y : Int) : ∀ v ∈ [Value.int .i64 x, .int .i64 y], v.oneCell' = true := by
  intro v hv
  simp at hv
  rcases hv with rfl | rfl <;> rfl
theorem hasT_grown (H : HasT w0 w p sv T) {row : Option Nat} {B : Nat} (hg : w.grownBy w' row) (hr : ∀ r, row = some r → B ≤ r) (hown : ∀ k, OwnS p sv k → k < B) (hB : w0.heap.size ≤ B) : HasT w0 w' p sv T :=
  ⟨H.m.keep (B := fun k => row = some k) ⟨hg.os, hg.tape, hg.output, hg.size, fun k hk hb => hg.block k hk (fun e => hb e.symm)⟩ (fun k hk e => by have := hown k hk; have := hr k e; omega), H.own,
    H.b.grown hg H.b.size (fun r e => Nat.le_trans hB (hr r e)), H.pow, H.most⟩
theorem row_up {W W' : World} {base : Nat} {e : TypeId} {size : Nat} {v : Value} {n : Nat} {xs : List Value} (h : W.ownsRow base e size v n xs) (hb : Below W.heap.size W W') : W'.ownsRow base e size v n xs := by
  refine ⟨h.1, h.2.imp id ?_⟩
  rintro ⟨g, cap, cur, hv, hb', hg, h4⟩
  exact ⟨g, cap, cur, hv, hb', (hb.block g (Array.getElem?_eq_some_iff.1 hg).1).trans hg, h4⟩

set_option maxRecDepth 100000 in
set_option maxHeartbeats 3000000 in
theorem walk (A : Option Addr) (l : List ActV) (c : Nat) (w : World) (hl : Lst w w.heap.size A l) (hlen : l.length ≤ maxLen) :
    Calls Try.prog 3 #[.slice A l.length c] w fun e w' => e = .returned (.bool true) ∧ Below w.heap.size w w' := by
  have HM := Lib.hid (made_any A l c w hl hlen)
  obtain ⟨Q, hQ⟩ : ∃ Q, Q = l.length := ⟨_, rfl⟩
  have HQ := Lib.hid hQ
  have HL := Lib.hid hl
  have HLEN := Lib.hid hlen
  rw [← hQ] at HM ⊢
  have HT := Lib.hid (madeT_ok l)
  obtain ⟨T, hT⟩ : ∃ T, T = madeT l := ⟨_, rfl⟩
  unfold MadeP at HM
  rw [← hT] at HM HT
  have HTT := Lib.hid hT
  clear hl hlen hQ hT
  obtain ⟨i0, hi0, hz0, hz1, hz2⟩ := info_parts Try.infoV27
  go_enter Try.func3, Try.ntmps3
  go_wp2_with fail
  refine HM.out.mono ?_
  rintro e w1 ⟨p, sv, rfl, H⟩
  have H1 := Lib.hid H
  clear HM H
  obtain ⟨kt, kn, vt, vn, hr, hr0, hr1⟩ := nxR_split ((pairsL T)[0]?)
  have HR := Lib.hid hr
  have HR0 := Lib.hid hr0
  have HR1 := Lib.hid hr1
  clear hr hr0 hr1
  go_wp2_with fail
  refine (next_is H1.out ⟨0, 0⟩ (next_first T) HR.out).mono ?_
  rintro e w2 ⟨rfl, hb2⟩
  obtain ⟨hk0, hv0, hB3⟩ := boxes2 (Below.refl ((w2.alloc (.cells #[.int .i64 kt, .int .i64 kn] 27)).alloc (.cells #[.int .i64 vt, .int .i64 vn] 27)).heap.size _)
  obtain ⟨W3, hW3⟩ : ∃ W, W = (w2.alloc (.cells #[.int .i64 kt, .int .i64 kn] 27)).alloc (.cells #[.int .i64 vt, .int .i64 vn] 27) := ⟨_, rfl⟩
  have hsz : W3.heap.size = w2.heap.size + 2 := by rw [hW3]; simp
  rw [← hW3] at hk0 hv0 hB3
  have H3 := Lib.hid ((H1.out.step hb2).step hB3)
  obtain ⟨b, hbb⟩ : ∃ b, b = w2.heap.size := ⟨_, rfl⟩
  have hnk : ∀ j, b ≤ j → ¬ OwnS p sv j := fun j hj h => by have := (H1.out.step hb2).m.own_lt h; omega
  have hgb : w.heap.size ≤ b := by have := (H1.out.step hb2).b.size; omega
  go_wp2_with fail
  rw [← hW3, ← hbb]
  rw [← hbb] at hk0 hv0 hsz
  have HK3 := Lib.hid hk0
  have HV3 := Lib.hid hv0
  have HNK := Lib.hid hnk
  have HGB := Lib.hid hgb
  have HLN := Lib.hid HT.out.cnt
  have hB2 : b + 2 ≤ W3.heap.size := by omega
  clear hk0 hv0 hB3 hW3 hb2 hbb hnk hgb hsz
  go_loopw [4, 7, 8] (fun t4 t7 t8 wr => ∃ (j : Nat) (ka kb va vb : Int), j ≤ (pairsL T).length ∧ t7 = .int .i64 0 ∧ t8 = .int .i64 j ∧ wr.ownsRow (b + 2) 27 2 t4 j (flatV (((pairsL T).map Pr.k).take j)) ∧ HasT w wr p sv T ∧
      Box wr b [.int .i64 ka, .int .i64 kb] 27 ∧ Box wr (b + 1) [.int .i64 va, .int .i64 vb] 27 ∧ b + 2 ≤ wr.heap.size ∧ ((pairsL T)[j]? = none → ka = 0 ∧ kb = 0 ∧ va = 0 ∧ vb = 0) ∧ ∀ x, (pairsL T)[j]? = some x → x.k = ⟨ka, kb⟩ ∧ x.v = ⟨va, vb⟩) (fun _ _ t8 _ => 81 - (intOf t8).toNat)
  case atStart => exact ⟨0, kt, kn, vt, vn, Nat.zero_le _, rfl, by go_num, World.ownsRow_nil _ _ _ _, H3.out, HK3.out, HV3.out, hB2, HR0.out, HR1.out⟩
  case round =>
    obtain ⟨j, ka, kb, va, vb, hj, rfl, rfl, hrow, hr, hbk, hbv, hB4, hno, hyes⟩ := hrel
    obtain ⟨c0, c1, f0, f1⟩ := hbk.cells2
    obtain ⟨d0, d1, g0, g1⟩ := hbv.cells2
    have HROW := Lib.hid hrow
    have HR5 := Lib.hid hr
    have HBK := Lib.hid hbk
    have HBV := Lib.hid hbv
    have hj8 : j ≤ 80 := by have := HLN.out; omega
    cases hx : (pairsL T)[j]? with
    | none =>
      obtain ⟨rfl, rfl, rfl, rfl⟩ := hno hx
      have hjl : (pairsL T).length ≤ j := by rw [List.getElem?_eq_none_iff] at hx; exact hx
      have HALL := Lib.hid (show ((pairsL T).map Pr.k).take j = (pairsL T).map Pr.k from List.take_of_length_le (by simpa using hjl))
      have HJL := Lib.hid (show j = (pairsL T).length by omega)
      obtain ⟨A', cap', rfl, hA'⟩ : ∃ A' cap', u4 = .slice A' j cap' ∧ (0 < j → ∃ g, A' = some ⟨g, 0, none⟩) := by
        rcases hrow.2 with ⟨rfl, h0⟩ | ⟨g, cap, cur, rfl, -⟩
        · exact ⟨none, 0, by rw [h0], fun h => by omega⟩
        · exact ⟨_, cap, rfl, fun _ => ⟨g, rfl⟩⟩
      have HA := Lib.hid hA'
      clear hA' hx hno hyes hrow hr hbk hbv hjl
      go_wp2_with fail
      refine (no_any _ _).mono ?_
      rintro e wn ⟨rfl, rfl⟩
      go_wp2_with fail
      refine (no_any _ _).mono ?_
      rintro e wm ⟨rfl, rfl⟩
      go_wp2_with fail
      clear c0 c1 d0 d1 f0 f1 g0 g1
      go_loopw [10] (fun t10 wx => ∃ i : Nat, i ≤ Q ∧ i ≤ 80 ∧ t10 = .int .i64 i ∧ Below wm.heap.size wm wx) (fun t10 _ => 80 - (intOf t10).toNat)
      case atStart => exact ⟨0, Nat.zero_le _, Nat.zero_le _, by go_num, Below.refl _ _⟩
      case round =>
        obtain ⟨i, hi, hi8, rfl, hbx⟩ := hrel
        have H7 := Lib.hid (HR5.out.step hbx)
        have HROW7 := Lib.hid (row_up HROW.out hbx)
        have HB7 := Lib.hid hbx
        clear hbx
        by_cases hlt : i < Q
        · by_cases hlt8 : i < 80
          · obtain ⟨a, ha⟩ : ∃ a, l[i]? = some a := ⟨l[i]'(by rw [← HQ.out]; exact hlt), List.getElem?_eq_getElem _⟩
            obtain ⟨ad, hA, hB, hc⟩ := (HL.out.below H7.out.b) i a ha
            obtain ⟨kind, ⟨xt, xn⟩, ⟨yt, yn⟩, ai⟩ := a
            subst hA
            have hc1 : wr.cell? ⟨(ad.add (i * 6)).block, (ad.add (i * 6)).off + 1, none⟩ = some (.int .i64 xt) := hc 1 _ rfl
            have hc2 : wr.cell? ⟨(ad.add (i * 6)).block, (ad.add (i * 6)).off + 1 + 1, none⟩ = some (.int .i64 xn) := hc 2 _ rfl
            have HC1 := Lib.hid hc1
            have HC2 := Lib.hid hc2
            have hadl : (ad.add (i * 6)).block < wr.heap.size := by have := H7.out.b.size; rw [blk_add]; omega
            obtain ⟨kt, kn, q, hq⟩ := keyIs_ex ⟨xt, xn⟩
            have HKI := Lib.hid hq
            obtain ⟨gt, gn, hg⟩ : ∃ gt gn, getT T ⟨xt, xn⟩ = ⟨gt, gn⟩ := ⟨_, _, rfl⟩
            have HG := Lib.hid hg
            clear hc ha hq hg
            go_wp2_with fail
            refine (rkey_as HKI.out _).mono ?_
            rintro e w8 ⟨rfl, hb8⟩
            have hb9 : Below wr.heap.size wr (w8.alloc (.cells #[.int .i64 kt, .int .i64 kn] 27)) := hb8.alloc hb8.size _
            have hk9 : Box (w8.alloc (.cells #[.int .i64 kt, .int .i64 kn] 27)) w8.heap.size [.int .i64 kt, .int .i64 kn] 27 := heap_alloc_new w8 _
            obtain ⟨b1, hb1⟩ : ∃ b1, b1 = w8.heap.size := ⟨_, rfl⟩
            obtain ⟨W9, hW9⟩ : ∃ W, W = w8.alloc (.cells #[.int .i64 kt, .int .i64 kn] 27) := ⟨_, rfl⟩
            rw [← hb1, ← hW9] at hk9
            rw [← hW9] at hb9
            have H9 := Lib.hid (H7.out.step hb9)
            have HROW9 := Lib.hid (row_up HROW7.out hb9)
            have HB9 := Lib.hid hb9
            have HK9 := Lib.hid hk9
            clear hb9 hk9 hc1 hc2 H7 HROW7
            go_wp2_with fail
            rw [← hW9, ← hb1]
            clear hW9 hb1 hb8
            go_loopw [13, 14] (fun t13 t14 wx => ∃ m : Nat, m ≤ j ∧ t13 = .bool (inP T kt kn q m) ∧ t14 = .int .i64 m ∧ Below W9.heap.size W9 wx) (fun _ t14 _ => j - (intOf t14).toNat)
            case atStart => exact ⟨0, Nat.zero_le _, by rw [inP_zero], by go_num, Below.refl _ _⟩
            case round =>
              obtain ⟨m, hm, rfl, rfl, hbx⟩ := hrel
              obtain ⟨c0, c1, -, -⟩ := (HK9.out.below hbx HK9.out.lt).cells2
              have HX := Lib.hid hbx
              by_cases hmj : m < j
              · have HROWX := Lib.hid (row_up HROW9.out hbx)
                clear hbx
                obtain ⟨g, rfl⟩ := HA.out (by omega)
                have hml : m < (pairsL T).length := by have := HJL.out; omega
                obtain ⟨y, hy⟩ : ∃ y, (pairsL T)[m]? = some y := ⟨_, List.getElem?_eq_getElem hml⟩
                have hyl : (((pairsL T).map Pr.k).take j)[m]? = some y.k := by
                  rw [List.getElem?_take_of_lt hmj, List.getElem?_map, hy]; rfl
                have k0 := HROWX.out.cells (g := g) rfl (m * 2 + 0) _ ((flatV_get hyl (k := 0) (by omega)).trans rfl)
                have k1 := HROWX.out.cells (g := g) rfl (m * 2 + 1) _ ((flatV_get hyl (k := 1) (by omega)).trans rfl)
                rw [addr_add, Nat.zero_add] at k0 k1
                have hsu := inP_succ (a := kt) (b := kn) (q := q) hy
                obtain ⟨yi, ⟨yt, yn⟩, yv⟩ := y
                simp only [Nat.add_zero] at k0 k1 hsu
                obtain ⟨r, hr⟩ : ∃ r, r = inP T kt kn q m := ⟨_, rfl⟩
                rw [← hr] at hsu ⊢
                have HSU := Lib.hid hsu
                clear hyl hy hsu hr hml
                cases r with
                | true =>
                  have HN := Lib.hid (show inP T kt kn q (m + 1) = true from by rw [HSU.out]; rfl)
                  go_wp2_with fail
                  go_quiet (fail)
                  go_wp2_with fail
                  go_roundw
                  case rel => exact ⟨m + 1, by omega, by rw [HN.out], by go_num, ⟨HX.out.os, HX.out.tape, HX.out.output, HX.out.size, HX.out.block⟩⟩
                  case measure => simp [intOf]; omega
                | false =>
                  cases q with
                  | false =>
                    have HN := Lib.hid (show inP T kt kn false (m + 1) = false from by rw [HSU.out]; rfl)
                    go_wp2_with fail
                    go_quiet (fail)
                    go_wp2_with fail
                    go_roundw
                    case rel => exact ⟨m + 1, by omega, by rw [HN.out], by go_num, ⟨HX.out.os, HX.out.tape, HX.out.output, HX.out.size, HX.out.block⟩⟩
                    case measure => simp [intOf]; omega
                  | true =>
                    have hcs : yt ≠ kt ∨ (yt = kt ∧ yn ≠ kn) ∨ (yt = kt ∧ yn = kn) := by
                      by_cases h : yt = kt
                      · by_cases h2 : yn = kn
                        · exact .inr (.inr ⟨h, h2⟩)
                        · exact .inr (.inl ⟨h, h2⟩)
                      · exact .inl h
                    rcases hcs with hc | ⟨rfl, hc⟩ | ⟨rfl, rfl⟩
                    · have h1 : (yt == kt) = false := by simp [hc]
                      have HN := Lib.hid (show inP T kt kn true (m + 1) = false from by rw [HSU.out]; simp [hc])
                      clear hc
                      go_wp2_with fail
                      go_quiet (fail)
                      go_wp2_with fail
                      go_roundw
                      case rel => exact ⟨m + 1, by omega, by rw [HN.out], by go_num, ⟨HX.out.os, HX.out.tape, HX.out.output, HX.out.size, HX.out.block⟩⟩
                      case measure => simp [intOf]; omega
                    · have h1 : (yn == kn) = false := by simp [hc]
                      have HN := Lib.hid (show inP T yt kn true (m + 1) = false from by rw [HSU.out]; simp [hc])
                      clear hc
                      go_wp2_with fail
                      go_quiet (fail)
                      go_wp2_with fail
                      go_roundw
                      case rel => exact ⟨m + 1, by omega, by rw [HN.out], by go_num, ⟨HX.out.os, HX.out.tape, HX.out.output, HX.out.size, HX.out.block⟩⟩
                      case measure => simp [intOf]; omega
                    · have HN := Lib.hid (show inP T yt yn true (m + 1) = true from by rw [HSU.out]; simp)
                      go_wp2_with fail
                      go_quiet (fail)
                      go_wp2_with fail
                      go_roundw
                      case rel => exact ⟨m + 1, by omega, by rw [HN.out], by go_num, ⟨HX.out.os, HX.out.tape, HX.out.output, HX.out.size, HX.out.block⟩⟩
                      case measure => simp [intOf]; omega
              · obtain rfl : m = j := by omega
                have hlast := inP_last HT.out.wf HKI.out (m := m) (by have := HJL.out; omega)
                have hgk := get_has (H9.out.step hbx) ⟨xt, xn⟩
                rw [HG.out] at hlast hgk
                simp only at hlast hgk
                have hc1 : wr.cell? ⟨(ad.add (i * 6)).block, (ad.add (i * 6)).off + 1, none⟩ = some (.int .i64 xt) := (((HB9.out.trans (hbx.mono HB9.out.size)).cell (p := ⟨(ad.add (i * 6)).block, (ad.add (i * 6)).off + 1, none⟩) hadl).trans HC1.out)
                have hc2 : wr.cell? ⟨(ad.add (i * 6)).block, (ad.add (i * 6)).off + 1 + 1, none⟩ = some (.int .i64 xn) := (((HB9.out.trans (hbx.mono HB9.out.size)).cell (p := ⟨(ad.add (i * 6)).block, (ad.add (i * 6)).off + 1 + 1, none⟩) hadl).trans HC2.out)
                have HBE := Lib.hid (HB7.out.trans ((HB9.out.trans (hbx.mono HB9.out.size)).mono HB7.out.size))
                have HGK := Lib.hid hgk
                clear hgk hbx
                by_cases hg0 : gt = 0
                · have hf : inP T kt kn q m = false := by rw [hlast]; simp [hg0]
                  subst hg0
                  rw [hf]
                  clear hf hlast
                  go_wp2_with fail
                  refine HGK.out.mono ?_
                  rintro e w10 ⟨rfl, hb10⟩
                  have HBF := Lib.hid (HBE.out.trans (hb10.mono HBE.out.size))
                  clear hb10 c0 c1 hc1 hc2
                  go_wp2_with fail
                  go_roundw
                  case rel => exact ⟨i + 1, by omega, by omega, by go_num, HBF.out⟩
                  case measure => simp [intOf]; omega
                · have hf : inP T kt kn q m = true := by rw [hlast]; simp [hg0]
                  have hg1 : (gt != 0) = true := by simp [hg0]
                  rw [hf]
                  clear hf hlast hg0
                  go_wp2_with fail
                  refine HGK.out.mono ?_
                  rintro e w10 ⟨rfl, hb10⟩
                  have HBF := Lib.hid (HBE.out.trans (hb10.mono HBE.out.size))
                  clear hb10 c0 c1 hc1 hc2
                  go_wp2_with fail
                  go_roundw
                  case rel => exact ⟨i + 1, by omega, by omega, by go_num, HBF.out⟩
                  case measure => simp [intOf]; omega
          · have h8 : ¬ i < 80 := hlt8
            go_wp2_with fail
            refine (alive_any _).mono ?_
            rintro e w8 ⟨rfl, hb8⟩
            have HF := Lib.hid (H7.out.b.trans (hb8.mono H7.out.b.size))
            clear hb8
            go_wp2_with fail
            go_ret
            exact ⟨rfl, HF.out⟩
        · obtain rfl : i = Q := by omega
          go_wp2_with fail
          refine (alive_any _).mono ?_
          rintro e w8 ⟨rfl, hb8⟩
          have HF := Lib.hid (H7.out.b.trans (hb8.mono H7.out.b.size))
          clear hb8
          go_wp2_with fail
          go_ret
          exact ⟨rfl, HF.out⟩
    | some x =>
      obtain ⟨hxk, hxv⟩ := hyes x hx
      have hmem := List.mem_of_getElem? hx
      obtain ⟨q1, q2, q3, q4⟩ := HT.out.wf.pair hmem
      have hkt := (keyR_t q2).1
      rw [hxk] at hkt
      rw [hxv] at q4
      simp only at hkt q4
      have ha0 : (ka == 0) = false := by simp [hkt]
      have ha1 : (ka != 0) = true := by simp [hkt]
      have hv0 : (va == 0) = false := by simp [q4]
      have hget : getT T ⟨ka, kb⟩ = ⟨va, vb⟩ := by rw [← hxk, getT_val q2, HT.out.wf.pair_val hmem, hxv]
      have HGET := Lib.hid hget
      obtain ⟨A', cap', rfl, hA'⟩ : ∃ A' cap', u4 = .slice A' j cap' ∧ (0 < j → ∃ g, A' = some ⟨g, 0, none⟩) := by
        rcases hrow.2 with ⟨rfl, h0⟩ | ⟨g, cap, cur, rfl, -⟩
        · exact ⟨none, 0, by rw [h0], fun h => by omega⟩
        · exact ⟨_, cap, rfl, fun _ => ⟨g, rfl⟩⟩
      have HA := Lib.hid hA'
      have HX := Lib.hid hx
      have HXK := Lib.hid hxk
      clear hA' hx
      clear hno hyes hrow hr hbk hbv hxk hxv q1 q2 q3 hget
      go_wp2_with fail
      refine (no_any _ _).mono ?_
      rintro e wn ⟨rfl, rfl⟩
      have GC := get_has (HR5.out.step (Below.refl _ wn).drew) ⟨ka, kb⟩
      rw [HGET.out] at GC
      simp only at GC
      have HGC := Lib.hid GC
      clear GC
      go_wp2_with fail
      go_region_with (go_at_call 13; refine HGC.out.mono ?_; rintro e w6 ⟨rfl, hb6⟩; obtain ⟨e0, e1, -, -⟩ := (HBV.out.below (W' := w6) (show Below wn.heap.size wn w6 from ⟨hb6.os, hb6.tape, hb6.output, hb6.size, hb6.block⟩) HBV.out.lt).cells2)
      all_goals (
        have hbw : Below wn.heap.size wn w6 := ⟨hb6.os, hb6.tape, hb6.output, hb6.size, hb6.block⟩
        have HB6 := Lib.hid hbw
        have HK6 := Lib.hid (HBK.out.below hbw HBK.out.lt)
        have HV6 := Lib.hid (HBV.out.below hbw HBV.out.lt)
        have HROW6 := Lib.hid (row_up HROW.out hbw)
        have H6 := Lib.hid (HR5.out.step hbw)
        have hB6 : b + 2 ≤ w6.heap.size := Nat.le_trans hB4 hbw.size
        clear hb6 hbw HBK HBV HROW HR5 hB4 e0 e1 c0 c1 d0 d1 f0 f1 g0 g1
        obtain ⟨c0, c1, f0, f1⟩ := HK6.out.cells2
        go_wp2_with fail
        go_loopw [9] (fun t9 wx => ∃ m : Nat, m ≤ j ∧ t9 = .int .i64 m ∧ Below w6.heap.size w6 wx) (fun t9 _ => j - (intOf t9).toNat)
        case atStart => exact ⟨0, Nat.zero_le _, by go_num, Below.refl _ _⟩
        case round =>
          obtain ⟨m, hm, rfl, hbx⟩ := hrel
          have HB7 := Lib.hid hbx
          have HROW7 := Lib.hid (row_up HROW6.out hbx)
          have HK7 := Lib.hid (HK6.out.below hbx HK6.out.lt)
          have HV7 := Lib.hid (HV6.out.below hbx HV6.out.lt)
          have H7 := Lib.hid (H6.out.step hbx)
          have hB7 : b + 2 ≤ wr.heap.size := Nat.le_trans hB6 hbx.size
          clear c0 c1 f0 f1 hbx
          obtain ⟨c0, c1, f0, f1⟩ := HK7.out.cells2
          by_cases hmj : m < j
          · obtain ⟨g, rfl⟩ := HA.out (by omega)
            obtain ⟨hjl, hje⟩ := List.getElem?_eq_some_iff.1 HX.out
            have hml : m < (pairsL T).length := by omega
            obtain ⟨y, hy⟩ : ∃ y, y = (pairsL T)[m]'hml := ⟨_, rfl⟩
            have hyl : (((pairsL T).map Pr.k).take j)[m]? = some y.k := by
              rw [List.getElem?_take_of_lt hmj, List.getElem?_map, List.getElem?_eq_getElem hml, hy]; rfl
            have hne : y.k ≠ ⟨ka, kb⟩ := by
              intro he
              have hs := pairs_sorted T
              rw [List.pairwise_iff_getElem] at hs
              have h1 := hs m j hml hjl hmj
              rw [← hy, hje] at h1
              have h2 := HT.out.wf.pair_eq (by rw [hy]; exact List.getElem_mem _) hmem (he.trans HXK.out.symm)
              rw [h2] at h1
              omega
            have k0 := HROW7.out.cells (g := g) rfl (m * 2 + 0) _ ((flatV_get hyl (k := 0) (by omega)).trans rfl)
            have k1 := HROW7.out.cells (g := g) rfl (m * 2 + 1) _ ((flatV_get hyl (k := 1) (by omega)).trans rfl)
            rw [addr_add, Nat.zero_add] at k0 k1
            obtain ⟨yi, ⟨yt, yn⟩, yv⟩ := y
            simp only [Nat.add_zero] at k0 k1
            have hcs : yt ≠ ka ∨ (yt = ka ∧ yn ≠ kb) := by
              by_cases h : yt = ka
              · exact .inr ⟨h, fun h2 => hne (by rw [h, h2])⟩
              · exact .inl h
            clear hyl hy hne hjl hje hml
            rcases hcs with hc | ⟨rfl, hc⟩
            · have h1 : (yt == ka) = false := by simp [hc]
              go_wp2_with fail
              go_quiet (fail)
              go_wp2_with fail
              go_roundw
              case rel => exact ⟨m + 1, by omega, by go_num, ⟨HB7.out.os, HB7.out.tape, HB7.out.output, HB7.out.size, HB7.out.block⟩⟩
              case measure => simp [intOf]; omega
            · have h1 : (yn == kb) = false := by simp [hc]
              go_wp2_with fail
              go_quiet (fail)
              go_wp2_with fail
              go_roundw
              case rel => exact ⟨m + 1, by omega, by go_num, ⟨HB7.out.os, HB7.out.tape, HB7.out.output, HB7.out.size, HB7.out.block⟩⟩
              case measure => simp [intOf]; omega
          · obtain rfl : m = j := by omega
            obtain ⟨a', b', c', d', hr', hr0', hr1'⟩ := nxR_split ((pairsL T)[m + 1]?)
            have HR' := Lib.hid hr'
            have HR0' := Lib.hid hr0'
            have HR1' := Lib.hid hr1'
            have hnx := next_after HT.out.wf HX.out
            rw [HXK.out] at hnx
            have HNX := Lib.hid hnx
            have HTK := Lib.hid (show ((pairsL T).map Pr.k).take (m + 1) = ((pairsL T).map Pr.k).take m ++ [(⟨ka, kb⟩ : V)] from by rw [List.take_add_one, List.getElem?_map, HX.out]; simp [HXK.out])
            have hmlt : m < (pairsL T).length := (List.getElem?_eq_some_iff.1 HX.out).1
            have hnews := cell_new4 wr [.int .i64 ka, .int .i64 kb] 27
            have hB8 : b + 2 ≤ (wr.alloc (.cells #[.int .i64 ka, .int .i64 kb] 27)).heap.size := by simp; omega
            clear hr' hr0' hr1' hnx
            go_wp2_with (at_builtin; refine wpList_append_own _ rfl _ _ 25 rfl (b + 2) 27 i0 (.agg #[.int .i64 0, .int .i64 0]) 2 16 Try.underlying25 hi0 hz0 hz1 hz2 rfl (by decide) _ _ _ rfl (HROW7.out.alloc _) _ _ _ [.int .i64 ka, .int .i64 kb] rfl rfl hnews (flatV_one _ _) (by unfold maxLen; omega) (by omega) hB8 ?_)
            intro v' w8 hown8 hg8 _
            have hownb : ∀ q, OwnS p sv q → q < b + 2 := fun q hq => Classical.byContradiction fun hh => HNK.out q (by omega) hq
            have hge := row_ge (HROW7.out.alloc (.cells #[.int .i64 ka, .int .i64 kb] 27))
            have HO8 := Lib.hid hown8
            have H8 := Lib.hid (hasT_grown (B := b + 2) (H7.out.step (below_alloc _ _)) hg8 (fun r hr => (hge r hr).1) hownb (by have := HGB.out; omega))
            have hk8 := (HK7.out.alloc (.cells #[.int .i64 ka, .int .i64 kb] 27)).grownC hg8 (fun r hr e => by have := (hge r hr).1; omega)
            have hv8 := (HV7.out.alloc (.cells #[.int .i64 ka, .int .i64 kb] 27)).grownC hg8 (fun r hr e => by have := (hge r hr).1; omega)
            have hB9 : b + 2 ≤ w8.heap.size := Nat.le_trans hB8 hg8.size
            clear c0 c1 f0 f1 hown8 hg8 hge hnews hB8
            obtain ⟨c0, c1, -, -⟩ := hk8.cells2
            go_wp2_with fail
            refine (next_is H8.out ⟨ka, kb⟩ HNX.out HR'.out).mono ?_
            rintro e w9 ⟨rfl, hb9⟩
            have H9 := Lib.hid (H8.out.step hb9)
            have HO9 := Lib.hid (row_up HO8.out hb9)
            have hk9 := hk8.below hb9 hk8.lt
            have hv9 := hv8.below hb9 hv8.lt
            have hB10 : b + 2 ≤ w9.heap.size := Nat.le_trans hB9 hb9.size
            clear c0 c1 hb9 hk8 hv8
            obtain ⟨c0, c1, f0, f1⟩ := hk9.cells2
            obtain ⟨d0, d1, g0, g1⟩ := hv9.cells2
            have n1 : b ≠ b + 1 := by omega
            have n2 : b + 1 ≠ b := by omega
            have hgb := HGB.out
            have o1 : ¬ OwnS p sv b := HNK.out b (Nat.le_refl _)
            have o2 : ¬ OwnS p sv (b + 1) := HNK.out (b + 1) (Nat.le_succ _)
            have HK10 := Lib.hid (((hk9.set2 (x' := .int .i64 a') (y' := .int .i64 b')).setOther ⟨b + 1, 0, none⟩ n1 (.int .i64 c')).setOther ⟨b + 1, 1, none⟩ n1 (.int .i64 d'))
            have HV10 := Lib.hid (((hv9.setOther ⟨b, 0, none⟩ n2 (.int .i64 a')).setOther ⟨b, 1, none⟩ n2 (.int .i64 b')).set2 (x' := .int .i64 c') (y' := .int .i64 d'))
            have H10 := Lib.hid (hasT_set (hasT_set (hasT_set (hasT_set H9.out (a := ⟨b, 0, none⟩) hgb o1 (.int .i64 a')) (a := ⟨b, 1, none⟩) hgb o1 (.int .i64 b')) (a := ⟨b + 1, 0, none⟩) (Nat.le_succ_of_le hgb) o2 (.int .i64 c')) (a := ⟨b + 1, 1, none⟩) (Nat.le_succ_of_le hgb) o2 (.int .i64 d'))
            have p1 : b < b + 2 := by omega
            have p2 : b + 1 < b + 2 := by omega
            have HO10 := Lib.hid (row_set (row_set (row_set (row_set HO9.out (a := ⟨b, 0, none⟩) p1 (.int .i64 a')) (a := ⟨b, 1, none⟩) p1 (.int .i64 b')) (a := ⟨b + 1, 0, none⟩) p2 (.int .i64 c')) (a := ⟨b + 1, 1, none⟩) p2 (.int .i64 d'))
            clear hk9 hv9
            go_wp2_with fail
            go_roundw
            case rel => exact ⟨m + 1, a', b', c', d', by omega, rfl, by go_num, by rw [HTK.out, flatV_snoc]; exact HO10.out, H10.out, HK10.out, HV10.out, by simp [World.setCell]; omega, HR0'.out, HR1'.out⟩
            case measure => simp [intOf]; omega)

set_option maxRecDepth 100000 in
theorem lifted (os : Os) (started : os.Started) (H : Type) (enc : TypeId × Value → H) :
    ReturnsInHanded {} Try.checked os 3 .any (Rows.tableNextSpec.pre6 enc Try.prog Try.f3 Rows.tableNextRow.domain false) (Rows.tableNextSpec.post enc Try.prog Try.f3 false true false false) := by
  refine returnsInHanded_of_change (C := Try.checked) own started (by kernel_rfl) Try.func3
    (ChangeSpec.witness6 (enc := enc) (C := Try.checked) false ⟨#[], #[.slice none 0 0], []⟩ 8 (by kernel_rfl) (by kernel_rfl) (by kernel_rfl) (by kernel_rfl)) ?_
  intro W base args ds gs before hval0 hW hcnd _
  have hval : ∀ (j : Nat) t v, Try.f3.params[j]? = some t → args[j]? = some v → Value.okWide Try.prog W .any base t v := hval0
  have hW' := hW
  obtain ⟨p, q, hA0, hV, rfl, hfz, hnd⟩ := hW
  have hA : DataW.TrodAll enc Try.prog W 0 (fun _ => true) true Try.f3.params.toList args.toList ds p := hA0
  rw [Try.params3] at hA hval
  obtain ⟨v0, vs0, d0, ds0, p0, q0, hargs, rfl, rfl, h0, r0⟩ := trodAll_cons hA
  obtain ⟨rfl, rfl, rfl⟩ := trodAll_nil r0
  obtain rfl : args = #[v0] := by cases args; simp_all
  obtain ⟨rfl, rfl⟩ := trodVars_none hV
  simp only [List.append_nil] at hW'
  have h0k := h0
  obtain ⟨x0, y0, z0, rfl⟩ := okWide_slice Try.underlying22 (hval 0 22 v0 rfl rfl)
  obtain ⟨fuel0, hf0⟩ := h0
  obtain ⟨A0, l0, c0, hcs0, hl0, hlen0⟩ := open_acts hf0
  simp only [Value.cells, List.cons.injEq, and_true, Value.slice.injEq] at hcs0
  obtain ⟨rfl, rfl, rfl⟩ := hcs0
  clear hA0 hval0
  try simp only [List.append_nil] at hW'
  refine (walk x0 l0 z0 W hl0 hlen0).mono fun e W' ⟨he, hg⟩ => ?_
  subst he
  exact ⟨_, rfl, _, _, _, [], _, [], hW', (trodAll_cons_mk (shut_bool Try.underlying4 _) trodAll_mk0), (trodAll_cons_mk (Below.trod Try.laidOut (by kernel_rfl) (of_decide_eq_true (by kernel_rfl)) h0k hg (fun x hx => by have := hW'.lt x (by simp [hx]); simpa using this)) trodAll_mk0), rfl,
    hg.frame _, fun h => by cases h⟩

theorem over : Rows.tableNextRow.holds Try.pinned (OpenSpec.ofChange Rows.tableNextSpec) :=
  OpenClaim.holds_of_wide 3 Try.f3 rfl rfl rfl rfl rfl rfl rfl ⟨rfl, rfl, rfl, rfl, rfl⟩ rfl rfl rfl rfl rfl (by kernel_rfl) Try.func3 (by kernel_rfl)
    (of_decide_eq_true (by kernel_rfl)) (by unfold Func.isWrapper; first | (rw [if_pos (by decide +kernel)]; kernel_rfl) | (rw [if_neg (by decide +kernel)]; exact ⟨rfl, rfl⟩))
    (fun os started H enc _ => lifted os started H enc)

theorem proved : Rows.TableNextSaid :=
  over
#print axioms proved
end Go.Proofs.Ytpodgmajccmgkaa.tableNext
