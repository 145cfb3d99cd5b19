/- TablePlays: whatever is set, got, gone over and killed, each slot of the table is what the document says: the law returns true for every number of slots and every list of calls. -/
import Derived.Test.YtpodgmajccmgkaaRows
import Derived.Test.YtpodgmajccmgkaaTabLooks
namespace Go.Proofs.Ytpodgmajccmgkaa.tablePlays
open Go.ChangeShapes Go.WideShapes Go.ChangeAt Go.RowKit Go.Shelf
set_option linter.unusedVariables false
set_option linter.unusedSimpArgs false
attribute [local go_sem] Oper.semAt_some nil_slot field_t meth_array meth_nodes meth_slot meth_setslot meth_resize meth_hash

theorem own : ownKnob Try.prog.godebug = none := by kernel_rfl

variable {w0 w w' : World} {pm pr : Nat} {T : Tb}

theorem st_start {w w1 : World} {p : Nat} {most : Int} (h : HasT w w1 p (.slice none 0 0) ⟨most, 0, []⟩) : St w (w1.alloc (.cells #[.slice none 0 0, .slice none 0 0, .int .i64 most] 49)) (fun _ => False) p w1.heap.size ⟨most, 0, []⟩ ⟨most, 0, []⟩ := by
  refine ⟨.slice none 0 0, .slice none 0 0, .slice none 0 0, h.step (below_alloc w1 _), ⟨heap_alloc_new w1 _, .inl ⟨rfl, rfl⟩, .inl ⟨rfl, by simp [Tb.nodes]⟩, by simp [Tb.nodes], by simp⟩, ?_, ?_, fun k hk => hk.elim⟩
  · rintro k (rfl | hk | hk)
    · exact h.b.size
    · cases hk
    · cases hk
  · rintro k hk (rfl | ho | ho)
    · have := h.m.own_lt hk; omega
    · cases ho
    · cases ho
def playX (T : Tb) (l : List ActV) : Tb := l.foldl actX T
theorem playX_take (T : Tb) (l : List ActV) {i : Nat} {a : ActV} (h : l[i]? = some a) : playX T (l.take (i + 1)) = actX (playX T (l.take i)) a := by
  have : l.take (i + 1) = l.take i ++ [a] := by rw [List.take_add_one, h]; rfl
  rw [this]; simp [playX]

set_option maxRecDepth 100000 in
set_option maxHeartbeats 3000000 in
theorem walk (most : Int) (A : Option Addr) (l : List ActV) (c : Nat) (w : World) (hmo : (Lit.int .i64 most).wf = true) (hl : Lst w w.heap.size A l) (hlen : l.length ≤ maxLen) (hwf : ∀ (i : Nat) (a : ActV), l[i]? = some a → (Lit.int .i64 a.i).wf = true) :
    Calls Try.prog 8 #[.int .i64 most, .slice A l.length c] w fun e w' => e = .returned (.bool true) ∧ Below w.heap.size w w' := by
  have hmost := wf_i64' hmo
  obtain ⟨N, hN⟩ : ∃ N, N = l.length := ⟨_, rfl⟩
  rw [← hN] at hlen ⊢
  have HN := Lib.hid hN
  have HL := Lib.hid hl
  have HWF := Lib.hid hwf
  have HLEN := Lib.hid hlen
  clear hl hN hwf hmo hlen
  go_enter Try.func8, Try.ntmps8
  go_wp2_with fail
  refine (new_has most hmost _).mono ?_
  rintro e w1 ⟨pm, rfl, H⟩
  have HS := Lib.hid (st_start H)
  obtain ⟨pr, hpr⟩ : ∃ p, p = w1.heap.size := ⟨_, rfl⟩
  obtain ⟨W1, hW1⟩ : ∃ W, W = w1.alloc (.cells #[.slice none 0 0, .slice none 0 0, .int .i64 most] 49) := ⟨_, rfl⟩
  rw [← hpr, ← hW1] at HS
  have HW1 := Lib.hid hW1
  have HPR := Lib.hid hpr
  clear H hW1 hpr hmost
  go_wp2_with fail
  rw [← HW1.out, ← HPR.out]
  clear HW1 HPR
  refine (alive_any _).mono ?_
  rintro e w2 ⟨rfl, hb2⟩
  have HS2 := Lib.hid (HS.out.step hb2).1
  clear hb2 HS
  have hle := HLEN.out
  unfold maxLen at hle
  by_cases h80 : 80 < N
  · have HB := Lib.hid HS2.out.b
    have g1 : decide ((80 : Int) < (N : Int)) = true := decide_eq_true (by omega)
    have g2 : decide (80 < N) = true := decide_eq_true h80
    go_wp2_with fail
    go_ret
    exact ⟨rfl, HB.out⟩
  · have g1 : decide ((80 : Int) < (N : Int)) = false := decide_eq_false (by omega)
    have g2 : decide (80 < N) = false := decide_eq_false h80
    have hN80 : N ≤ 80 := by omega
    clear h80 hle
    go_wp2_with fail
    clear g1 g2
    go_loopw [7] (fun t wr => ∃ i : Nat, i ≤ N ∧ t = .int .i64 i ∧ St w wr (fun _ => False) pm pr (playX ⟨most, 0, []⟩ (l.take i)) (playX ⟨most, 0, []⟩ (l.take i)) ∧ MT (playX ⟨most, 0, []⟩ (l.take i)) i) (fun t _ => N - (intOf t).toNat)
    case atStart => exact ⟨0, Nat.zero_le _, by go_num, HS2.out, MT.start most⟩
    case round =>
      obtain ⟨i, hi, rfl, hS, hM⟩ := hrel
      have HS3 := Lib.hid hS
      have HM := Lib.hid hM
      by_cases hlt : i < N
      · obtain ⟨a, ha⟩ : ∃ a, l[i]? = some a := ⟨l[i]'(by rw [← HN.out]; exact hlt), List.getElem?_eq_getElem _⟩
        obtain ⟨ad, hA, hB, hc⟩ := (HL.out.below hS.b) i a ha
        have hpt := playX_take ⟨most, 0, []⟩ l ha
        have hbd := wf_i64' (HWF.out i a ha)
        obtain ⟨Ti, hTi⟩ : ∃ Ti, Ti = playX ⟨most, 0, []⟩ (l.take i) := ⟨_, rfl⟩
        rw [← hTi] at hpt HS3 HM
        have HMA := Lib.hid (HM.out.actX (by omega) a)
        have DC := Lib.hid (do_any HS3.out HM.out (by omega) a hbd)
        rw [← hpt] at DC HMA
        obtain ⟨Tj, hTj⟩ : ∃ Tj, Tj = playX ⟨most, 0, []⟩ (l.take (i + 1)) := ⟨_, rfl⟩
        rw [← hTj] at DC HMA
        have HTJ := Lib.hid hTj
        obtain ⟨kind, ⟨kt, kn⟩, ⟨vt, vn⟩, ai⟩ := a
        subst hA
        have hc0 : wr.cell? (ad.add (i * 6)) = some (.int .i64 kind) := hc 0 _ rfl
        have hc1 : wr.cell? ⟨(ad.add (i * 6)).block, (ad.add (i * 6)).off + 1, none⟩ = some (.int .i64 kt) := hc 1 _ rfl
        have hc2 : wr.cell? ⟨(ad.add (i * 6)).block, (ad.add (i * 6)).off + 2, none⟩ = some (.int .i64 kn) := hc 2 _ rfl
        have hc3 : wr.cell? ⟨(ad.add (i * 6)).block, (ad.add (i * 6)).off + 3, none⟩ = some (.int .i64 vt) := hc 3 _ rfl
        have hc4 : wr.cell? ⟨(ad.add (i * 6)).block, (ad.add (i * 6)).off + 4, none⟩ = some (.int .i64 vn) := hc 4 _ rfl
        have hc5 : wr.cell? ⟨(ad.add (i * 6)).block, (ad.add (i * 6)).off + 5, none⟩ = some (.int .i64 ai) := hc 5 _ rfl
        clear hc ha hS hM hpt hTi hTj hbd
        go_wp2_with fail
        refine DC.out.mono ?_
        rintro e w3 ⟨rfl, h3⟩
        have HS4 := Lib.hid h3
        have LC := Lib.hid (looks_any h3 HMA.out (by omega))
        clear h3 hc0 hc1 hc2 hc3 hc4 hc5 DC
        go_wp2_with fail
        refine LC.out.mono ?_
        rintro e w4 ⟨rfl, h4⟩
        have HS5 := Lib.hid h4
        clear h4 LC
        go_wp2_with fail
        go_roundw
        case rel => exact ⟨i + 1, by omega, by go_num, by rw [← HTJ.out]; exact HS5.out, by rw [← HTJ.out]; exact HMA.out⟩
        case measure => simp [intOf]; omega
      · obtain rfl : i = N := by omega
        have HB := Lib.hid hS.b
        clear hS hM
        go_wp2_with fail
        go_ret
        exact ⟨rfl, HB.out⟩

set_option maxRecDepth 100000 in
theorem lifted (os : Os) (started : os.Started) (H : Type) (enc : TypeId × Value → H) :
    ReturnsInHanded {} Try.checked os 8 .any (Rows.tablePlaysSpec.pre6 enc Try.prog Try.f8 Rows.tablePlaysRow.domain false) (Rows.tablePlaysSpec.post enc Try.prog Try.f8 false true false false) := by
  refine returnsInHanded_of_change (C := Try.checked) own started (by kernel_rfl) Try.func8
    (ChangeSpec.witness6 (enc := enc) (C := Try.checked) false ⟨#[], #[.int .i64 0, .slice none 0 0], []⟩ 8 (by kernel_rfl) (by kernel_rfl) (by kernel_rfl) (by kernel_rfl)) ?_
  intro W base args ds gs before hval0 hW hcnd _
  have hval : ∀ (j : Nat) t v, Try.f8.params[j]? = some t → args[j]? = some v → Value.okWide Try.prog W .any base t v := hval0
  have hW' := hW
  obtain ⟨p, q, hA0, hV, rfl, hfz, hnd⟩ := hW
  have hA : DataW.TrodAll enc Try.prog W 0 (fun _ => true) true Try.f8.params.toList args.toList ds p := hA0
  rw [Try.params8] at hA hval
  obtain ⟨v0, vs0, d0, ds0, p0, q0, hargs, rfl, rfl, h0, r0⟩ := trodAll_cons hA
  obtain ⟨v1, vs1, d1, ds1, p1, q1, rfl, rfl, rfl, h1, r1⟩ := trodAll_cons r0
  obtain ⟨rfl, rfl, rfl⟩ := trodAll_nil r1
  obtain rfl : args = #[v0, v1] := by cases args; simp_all
  obtain ⟨rfl, rfl⟩ := trodVars_none hV
  simp only [List.append_nil] at hW'
  obtain ⟨a0, rfl, rfl, rfl, w0⟩ := open_int Try.underlying3 (hval 0 3 v0 rfl rfl) h0
  have h1k := h1
  obtain ⟨x1, y1, z1, rfl⟩ := okWide_slice Try.underlying22 (hval 1 22 v1 rfl rfl)
  obtain ⟨fuel1, hf1⟩ := h1
  obtain ⟨A1, l1, c1, hcs1, hl1, hlen1, hwf1⟩ := open_actsW hf1
  simp only [Value.cells, List.cons.injEq, and_true, Value.slice.injEq] at hcs1
  obtain ⟨rfl, rfl, rfl⟩ := hcs1
  clear hA0 hval0
  try simp only [List.append_nil] at hW'
  refine (walk a0 x1 l1 z1 W w0 hl1 hlen1 hwf1).mono fun e W' ⟨he, hg⟩ => ?_
  subst he
  exact ⟨_, rfl, _, _, _, [], _, [], hW', (trodAll_cons_mk (shut_bool Try.underlying4 _) trodAll_mk0), (trodAll_cons_mk (shut_int Try.underlying3 w0) (trodAll_cons_mk (Below.trod Try.laidOut (by kernel_rfl) (of_decide_eq_true (by kernel_rfl)) h1k hg (fun x hx => by have := hW'.lt x (by simp [hx]); simpa using this)) trodAll_mk0)), rfl,
    hg.frame _, fun h => by cases h⟩

theorem over : Rows.tablePlaysRow.holds Try.pinned (OpenSpec.ofChange Rows.tablePlaysSpec) :=
  OpenClaim.holds_of_wide 8 Try.f8 rfl rfl rfl rfl rfl rfl rfl ⟨rfl, rfl, rfl, rfl, rfl⟩ rfl rfl rfl rfl rfl (by kernel_rfl) Try.func8 (by kernel_rfl)
    (of_decide_eq_true (by kernel_rfl)) (by unfold Func.isWrapper; first | (rw [if_pos (by decide +kernel)]; kernel_rfl) | (rw [if_neg (by decide +kernel)]; exact ⟨rfl, rfl⟩))
    (fun os started H enc _ => lifted os started H enc)

theorem proved : Rows.TablePlaysSaid :=
  over
#print axioms proved
end Go.Proofs.Ytpodgmajccmgkaa.tablePlays
