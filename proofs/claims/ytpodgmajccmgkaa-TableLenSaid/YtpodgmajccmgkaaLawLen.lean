/- TableLen: the length is the first place behind which a number's value is lacking: the law returns true for every list of calls. -/
import Derived.Test.YtpodgmajccmgkaaRows
import Derived.Test.YtpodgmajccmgkaaTabMade
namespace Go.Proofs.Ytpodgmajccmgkaa.tableLen
open Go.ChangeShapes Go.WideShapes Go.ChangeAt Go.RowKit Go.Shelf
set_option linter.unusedVariables false
set_option linter.unusedSimpArgs false
attribute [local go_sem] Oper.semAt_some nil_slot field_t meth_array meth_nodes meth_slot meth_setslot meth_resize meth_hash

theorem own : ownKnob Try.prog.godebug = none := by kernel_rfl

variable {w0 w w' : World} {p : Nat} {sv sv' : Value} {T T' : Tb}

theorem nodup_le {α : Type} [DecidableEq α] : ∀ (l m : List α), l.Nodup → (∀ x, x ∈ l → x ∈ m) → l.length ≤ m.length := by
  intro l
  induction l with
  | nil => intro m _ _; exact Nat.zero_le _
  | cons x l ih =>
    intro m hn hs
    rw [List.nodup_cons] at hn
    have hx := hs x (by simp)
    have := ih (m.erase x) hn.2 (fun y hy => (List.mem_erase_of_ne (fun e => hn.1 (by rw [← e]; exact hy))).2 (hs y (by simp [hy])))
    rw [List.length_erase_of_mem hx] at this
    have := List.length_pos_of_mem hx
    rw [List.length_cons]; omega

theorem len_bound {c : Nat} (H : MT T c) (N : Nat) (h : ∀ i : Nat, i < N → (getT T ⟨2, (i : Int) + 1⟩).t ≠ 0) : N ≤ c := by
  have := nodup_le ((List.range N).map fun (i : Nat) => (⟨2, (i : Int) + 1⟩ : V)) ((pairsL T).map Pr.k) (by
    unfold List.Nodup
    rw [List.pairwise_map]
    refine List.Pairwise.imp ?_ List.pairwise_lt_range
    intro a b hab he
    simp only [V.mk.injEq, true_and] at he
    omega) (by
    intro x hx
    obtain ⟨i, hi, rfl⟩ := List.mem_map.1 hx
    have := h i (List.mem_range.1 hi)
    rw [getT_val (keyR_int _)] at this
    obtain ⟨y, hy, hk, -⟩ := val_pair this
    exact List.mem_map.2 ⟨y, hy, hk⟩)
  rw [List.length_map, List.length_map, List.length_range] at this
  exact Nat.le_trans this H.cnt

theorem len_exists {c : Nat} (H : MT T c) : ∃ N, N ≤ c ∧ IsLen T N := by
  have key : ∀ m, (∃ N, N ≤ m ∧ IsLen T N) ∨ (∀ i : Nat, i < m + 1 → (getT T ⟨2, (i : Int) + 1⟩).t ≠ 0) := by
    intro m
    induction m with
    | zero =>
      by_cases h : (getT T ⟨2, ((0 : Nat) : Int) + 1⟩).t = 0
      · exact .inl ⟨0, Nat.le_refl _, h, fun i hi => by omega⟩
      · right; intro i hi; obtain rfl : i = 0 := by omega
        exact h
    | succ m ih =>
      rcases ih with ⟨N, h1, h2⟩ | ih
      · exact .inl ⟨N, by omega, h2⟩
      · by_cases h : (getT T ⟨2, ((m + 1 : Nat) : Int) + 1⟩).t = 0
        · exact .inl ⟨m + 1, Nat.le_refl _, h, ih⟩
        · right
          intro i hi
          rcases Nat.lt_or_ge i (m + 1) with h1 | h1
          · exact ih i h1
          · obtain rfl : i = m + 1 := by omega
            exact h
  rcases key c with h | h
  · exact h
  · have := len_bound H (c + 1) h
    omega

theorem get_z {k : V} {z : Int} (H : HasT w0 w p sv T) (h : (getT T k).t = z) : ∃ n, Calls Try.prog 13 #[.iface 23 (.pointer (some ⟨p, 0, none⟩)), .agg #[.int .i64 k.t, .int .i64 k.n]] w fun e w' => e = .returned (.agg #[.int .i64 z, .int .i64 n]) ∧ Below w.heap.size w w' :=
  ⟨_, by have := get_has H k; rw [h] at this; exact this⟩

set_option maxRecDepth 100000 in
set_option maxHeartbeats 2000000 in
theorem walk (A : Option Addr) (l : List ActV) (c : Nat) (w : World) (hl : Lst w w.heap.size A l) (hlen : l.length ≤ maxLen) :
    Calls Try.prog 5 #[.slice A l.length c] w fun e w' => e = .returned (.bool true) ∧ Below w.heap.size w w' := by
  obtain ⟨N, hN, hI⟩ := len_exists (madeT_ok l)
  have HM := Lib.hid (made_any A l c w hl hlen)
  have HI := Lib.hid hI
  obtain ⟨Q, hQ⟩ : ∃ Q, Q = l.length := ⟨_, rfl⟩
  rw [← hQ] at HM ⊢
  clear hl hlen hQ hI
  go_enter Try.func5, Try.ntmps5
  go_wp2_with fail
  refine HM.out.mono ?_
  rintro e w1 ⟨p, sv, rfl, H⟩
  have H1 := Lib.hid H
  clear HM H
  go_wp2_with fail
  refine (len_has H1.out N HI.out (by omega)).mono ?_
  rintro e w2 ⟨rfl, hb⟩
  have H2 := Lib.hid (H1.out.step hb)
  clear hb H1
  have q1 : IntKind.i64.wrap ((N : Int) + 1) = (N : Int) + 1 := IntWalk.i64_in _ (by omega)
  have q2 : (N : Int) ≤ 80 := by omega
  have q3 : decide ((N : Int) < 0) = false := by rw [decide_eq_false_iff_not]; omega
  have q4 : decide ((80 : Int) < (N : Int)) = false := by rw [decide_eq_false_iff_not]; omega
  go_wp2_with fail
  refine (int_any' _ _).mono ?_
  rintro e w3 ⟨rfl, hb⟩
  have H3 := Lib.hid (H2.out.step hb)
  clear hb H2
  obtain ⟨gn, G⟩ := get_z (k := ⟨2, (N : Int) + 1⟩) H3.out HI.out.1
  simp only at G
  go_wp2_with fail
  refine G.mono ?_
  clear G
  rintro e w4 ⟨rfl, hb⟩
  have H4 := Lib.hid (H3.out.step hb)
  clear hb H3
  go_wp2_with fail
  go_loopw [5] (fun t5 wr => ∃ i : Nat, i ≤ N ∧ t5 = .int .i64 ((i : Int) + 1) ∧ HasT w wr p sv (madeT l)) (fun t5 _ => N + 1 - (intOf t5).toNat)
  case atStart => exact ⟨0, Nat.zero_le _, by go_num, H4.out⟩
  case round =>
    obtain ⟨i, hi, rfl, H5⟩ := hrel
    have q5 : IntKind.i64.wrap ((i : Int) + 1 + 1) = (i : Int) + 1 + 1 := IntWalk.i64_in _ (by omega)
    by_cases hlt : i < N
    · have H5' := Lib.hid H5
      have hne := HI.out.2 i hlt
      obtain ⟨z, hz⟩ : ∃ z, z = (getT (madeT l) ⟨2, (i : Int) + 1⟩).t := ⟨_, rfl⟩
      rw [← hz] at hne
      have HZ := Lib.hid hz.symm
      have hz1 : (z == 0) = false := by simp [hne]
      clear H5 hz
      have q6 : (i : Int) + 1 ≤ N := by omega
      go_wp2_with fail
      refine (int_any' _ _).mono ?_
      rintro e w5 ⟨rfl, hb⟩
      have H6 := Lib.hid (H5'.out.step hb)
      clear hb H5'
      obtain ⟨gn, G⟩ := get_z (k := ⟨2, (i : Int) + 1⟩) H6.out HZ.out
      simp only at G
      go_wp2_with fail
      refine G.mono ?_
      clear G
      rintro e w6 ⟨rfl, hb⟩
      have H7 := Lib.hid (H6.out.step hb)
      clear hb H6
      go_wp2_with fail
      go_roundw
      case rel => exact ⟨i + 1, by omega, by go_num, H7.out⟩
      case measure => simp [intOf]; omega
    · obtain rfl : i = N := by omega
      have H5' := Lib.hid H5
      clear H5
      go_wp2_with fail
      refine (alive_any _).mono ?_
      rintro e w5 ⟨rfl, hb⟩
      have HB := Lib.hid (H5'.out.step hb).b
      clear hb H5'
      go_wp2_with fail
      go_ret
      exact ⟨rfl, HB.out⟩

set_option maxRecDepth 100000 in
theorem lifted (os : Os) (started : os.Started) (H : Type) (enc : TypeId × Value → H) :
    ReturnsInHanded {} Try.checked os 5 .any (Rows.tableLenSpec.pre6 enc Try.prog Try.f5 Rows.tableLenRow.domain false) (Rows.tableLenSpec.post enc Try.prog Try.f5 false true false false) := by
  refine returnsInHanded_of_change (C := Try.checked) own started (by kernel_rfl) Try.func5
    (ChangeSpec.witness6 (enc := enc) (C := Try.checked) false ⟨#[], #[.slice none 0 0], []⟩ 8 (by kernel_rfl) (by kernel_rfl) (by kernel_rfl) (by kernel_rfl)) ?_
  intro W base args ds gs before hval0 hW hcnd _
  have hval : ∀ (j : Nat) t v, Try.f5.params[j]? = some t → args[j]? = some v → Value.okWide Try.prog W .any base t v := hval0
  have hW' := hW
  obtain ⟨p, q, hA0, hV, rfl, hfz, hnd⟩ := hW
  have hA : DataW.TrodAll enc Try.prog W 0 (fun _ => true) true Try.f5.params.toList args.toList ds p := hA0
  rw [Try.params5] at hA hval
  obtain ⟨v0, vs0, d0, ds0, p0, q0, hargs, rfl, rfl, h0, r0⟩ := trodAll_cons hA
  obtain ⟨rfl, rfl, rfl⟩ := trodAll_nil r0
  obtain rfl : args = #[v0] := by cases args; simp_all
  obtain ⟨rfl, rfl⟩ := trodVars_none hV
  simp only [List.append_nil] at hW'
  have h0k := h0
  obtain ⟨x0, y0, z0, rfl⟩ := okWide_slice Try.underlying22 (hval 0 22 v0 rfl rfl)
  obtain ⟨fuel0, hf0⟩ := h0
  obtain ⟨A0, l0, c0, hcs0, hl0, hlen0⟩ := open_acts hf0
  simp only [Value.cells, List.cons.injEq, and_true, Value.slice.injEq] at hcs0
  obtain ⟨rfl, rfl, rfl⟩ := hcs0
  clear hA0 hval0
  try simp only [List.append_nil] at hW'
  refine (walk x0 l0 z0 W hl0 hlen0).mono fun e W' ⟨he, hg⟩ => ?_
  subst he
  exact ⟨_, rfl, _, _, _, [], _, [], hW', (trodAll_cons_mk (shut_bool Try.underlying4 _) trodAll_mk0), (trodAll_cons_mk (Below.trod Try.laidOut (by kernel_rfl) (of_decide_eq_true (by kernel_rfl)) h0k hg (fun x hx => by have := hW'.lt x (by simp [hx]); simpa using this)) trodAll_mk0), rfl,
    hg.frame _, fun h => by cases h⟩

theorem over : Rows.tableLenRow.holds Try.pinned (OpenSpec.ofChange Rows.tableLenSpec) :=
  OpenClaim.holds_of_wide 5 Try.f5 rfl rfl rfl rfl rfl rfl rfl ⟨rfl, rfl, rfl, rfl, rfl⟩ rfl rfl rfl rfl rfl (by kernel_rfl) Try.func5 (by kernel_rfl)
    (of_decide_eq_true (by kernel_rfl)) (by unfold Func.isWrapper; first | (rw [if_pos (by decide +kernel)]; kernel_rfl) | (rw [if_neg (by decide +kernel)]; exact ⟨rfl, rfl⟩))
    (fun os started H enc _ => lifted os started H enc)

theorem proved : Rows.TableLenSaid :=
  over
#print axioms proved
end Go.Proofs.Ytpodgmajccmgkaa.tableLen
