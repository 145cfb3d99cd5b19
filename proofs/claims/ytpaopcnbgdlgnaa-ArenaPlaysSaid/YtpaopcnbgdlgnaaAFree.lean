/- free: the iterator over the runs of free cells has its contract. -/
import Derived.Test.YtpaopcnbgdlgnaaAReads
import Derived.Test.YtpaopcnbgdlgnaaARuns
import Derived.Test.YtpaopcnbgdlgnaaInBase
import Derived.Test.YtpaopcnbgdlgnaaRowBase
namespace Go.Proofs.Ytpaopcnbgdlgnaa
open Go.RowKit Go.Shelf
set_option linter.unusedVariables false
set_option linter.unusedSimpArgs false
attribute [local go_sem] Oper.semAt_some
attribute [local go_sem] obj_alloc obj_drew obj_setCell

theorem ArenaAt.kp {C : Nat → Prop} {W W' : World} {A : AP} {S : St} (h : ArenaAt W A S) (hk : KpC C W W') (hC : ∀ k, A.owns k → ¬ C k) : ArenaAt W' A S := by
  obtain ⟨es, clock, hm, hr⟩ := h.hm
  exact ⟨(hk.cells h.hs (hC _ (.inl rfl))).trans h.hs, (hk.cells h.hc (hC _ (.inr (.inl rfl)))).trans h.hc, h.hm.of_block (hk.map hm (hC _ (.inr (.inr (.inl rfl))))),
    ownsRow_of_block h.hr fun k hk' => by obtain ⟨cur, hcur⟩ := row_obj h.hr hk'; exact hk.cells hcur (hC _ (.inr (.inr (.inr hk')))), h.inv⟩

theorem ArenaAt.rv_eq {w : World} {A : AP} {S : St} (h : ArenaAt w A S) : ∃ a c, A.rv = .slice a S.L.length c ∧ (S.L ≠ [] → ∃ g, a = some ⟨g, 0, none⟩) := by
  rcases h.hr.2 with ⟨hv, hn⟩ | ⟨g, cap, cur, hv, _⟩
  · exact ⟨none, 0, by rw [hv, hn], fun hne => absurd (List.eq_nil_of_length_eq_zero hn) hne⟩
  · exact ⟨some ⟨g, 0, none⟩, cap, hv, fun _ => ⟨g, rfl⟩⟩

theorem ArenaAt.rowcell {w : World} {A : AP} {S : St} (h : ArenaAt w A S) {g m c : Nat} (hrv : A.rv = .slice (some ⟨g, 0, none⟩) m c) {i : Nat} (hi : i < S.L.length) : w.cell? ⟨g, i, none⟩ = some (.int .i64 (S.L[i]).h) := by
  have hc := h.hr.cells (g := g) (by rw [hrv]; rfl) i (.int .i64 (S.L[i]).h) (by simp [iv, hi])
  rwa [addr_add, Nat.zero_add] at hc

/-- A run as the values that are yielded. -/
def encRun (r : Run) : Array Value := #[.int .i64 r.a, .agg #[.int .i64 r.n, .int .i64 r.i]]

def FreeItPost (S : St) (wo : Int) (J Jx : List Run → World → Prop) (e : Ending) (W' : World) : Prop := (∃ v, e = .returned v) ∧
      ((∃ ys, ys = runs S.cells.length wo S.L ∧ J ys W') ∨ (∃ pre, pre <+: runs S.cells.length wo S.L ∧ Jx pre W'))

set_option maxRecDepth 100000 in
set_option maxHeartbeats 1000000 in
theorem free1_in (F : Fence) (n : Nat) (hF : ∀ f, F.fn f) (hal : F.alive = false) (hd : F.depth = none) (hro : F.round = none) (hn : 1 ≤ n) (l ba bw : Nat) (wo : Int) {A : AP} {S : St} (C : Nat → Prop) (J Jx : List Run → World → Prop) (W : World)
    (hJ : AbidesFrom W.heap.size J)
    (hY : ∀ pre x W1, J pre W1 → pre.length < S.L.length + 1 → YieldAt F (n - 1) Try.prog l (encRun x) W1 fun e W' =>
      (e = .returned (.bool true) ∧ J (pre ++ [x]) W' ∧ KpC C W1 W') ∨ (e = .returned (.bool false) ∧ Jx (pre ++ [x]) W'))
    (H : ArenaAt W A S) (hC : ∀ k, A.owns k → ¬ C k) (hCb : ¬ C ba ∧ ¬ C bw) (hCn : ∀ k, C k → k < W.heap.size)
    (hba : Box W ba [.pointer (some ⟨A.p, 0, none⟩)] 23) (hbw : Box W bw [.int .i64 wo] 3) (h0 : J [] W) :
    CallsIn F n Try.prog 56 #[.func (.yield l) #[] #[], .pointer (some ⟨ba, 0, none⟩), .pointer (some ⟨bw, 0, none⟩)] W fun e W' => FreeItPost S wo J Jx e W' := by
  refine callsIn_of_wp Try.func56 rfl (hF _) ?_ hro
  simp only [Try.ntmps56, List.size_toArray, List.length_cons, List.length_nil, Nat.reduceAdd, Nat.reduceSub, Array.replicate_succ, Array.replicate_zero, List.push_toArray, List.append_toArray, List.nil_append, List.cons_append]
  obtain ⟨p, cb, mb, rv⟩ := A
  obtain ⟨ra, rc, hrv, hg⟩ := H.rv_eq
  simp only at hrv hba
  subst hrv
  obtain ⟨len, hlen⟩ : ∃ len, len = S.L.length := ⟨_, rfl⟩
  have hll := H.inv.length
  have hcl := H.inv.size
  rw [← hlen] at hll hY H hC
  have hl65 : len ≤ 65536 := by omega
  have HLEN := Lib.hid hlen
  have HG := Lib.hid hg
  have HC := Lib.hid hC
  have HCN := Lib.hid hCn
  have HJ := Lib.hid hJ
  have HY := Lib.hid hY
  clear hlen hll hcl hg hC hCn hJ hY
  have b1 := hba.cell 0
  have b2 := hbw.cell 0
  have c2 := H.c2
  simp only [List.getElem?_cons_zero] at b1 b2
  gi_wp2
  clear b1 b2 c2
  gi_loopw [4, 13] (fun t4 t13 wr => ∃ (k lo : Nat) (pre : List Run), k ≤ len ∧ t13 = .int .i64 k ∧ t4 = .int .i64 lo ∧ lo ≤ S.cells.length ∧ pre ++ runsFrom S.cells.length wo lo k (S.L.drop k) = runs S.cells.length wo S.L ∧ J pre wr ∧ KpC C W wr ∧ pre.length ≤ k)
    (fun _ t13 _ => len - (intOf t13).toNat)
  case atStart =>
    exact ⟨0, 0, [], Nat.zero_le _, rfl, rfl, Nat.zero_le _, rfl, h0, KpC.refl _ _, Nat.le_refl _⟩
  case round =>
    obtain ⟨k, lo, pre, hk, rfl, rfl, hlo, hruns, hJs, hkp, hpl⟩ := hrel
    have H1 := H.kp hkp HC.out
    have hba1 := hba.kp hkp hCb.1
    have hbw1 := hbw.kp hkp hCb.2
    have b1 := hba1.cell 0
    have b2 := hbw1.cell 0
    have c0 := H1.c0
    have c1 := H1.c1
    have c2 := H1.c2
    simp only [List.getElem?_cons_zero] at b1 b2
    by_cases hlt : k < len
    · have hkL : k < S.L.length := by have := HLEN.out; omega
      have hne : S.L ≠ [] := by intro e; rw [e] at hkL; simp at hkL
      obtain ⟨g, rfl⟩ := HG.out hne
      have rk := H1.rowcell (g := g) rfl hkL
      have hdrop : S.L.drop k = S.L[k] :: S.L.drop (k + 1) := List.drop_eq_getElem_cons hkL
      have hget := getB_of_mem H1.inv.nodup (List.getElem_mem hkL)
      obtain ⟨m1, m2, m3, m4, m5⟩ := H1.inv.mem (List.getElem_mem hkL)
      generalize S.L[k] = b at *
      obtain ⟨es, clock, hm, hlook⟩ := look_ok H1
      have hL := fun W hW => hlook W b.h false hW
      simp only [mapOf, hget, Option.map_some, Option.getD_some, blkV] at hL
      simp at hL
      have hmb := H1.mb_lt
      have hp := H1.p_lt
      simp only at hmb hp hm hL
      rw [hdrop] at hruns
      have HR := Lib.hid hruns
      have HD := Lib.hid hdrop
      have HGET := Lib.hid hget
      have HPL := Lib.hid hpl
      clear hruns hdrop hget hlook hpl HG
      by_cases hwo : (b.h : Int) = wo
      · have t1 : ((b.h : Int) == wo) = true := by simp [hwo]
        have HWO := Lib.hid hwo
        clear hwo
        gi_wp2
        go_roundw
        case rel =>
          have hr := HR.out
          unfold runsFrom at hr
          rw [if_pos HWO.out] at hr
          exact ⟨k + 1, lo, pre, by omega, by go_num, rfl, hlo, hr, hJs, hkp, by have := HPL.out; omega⟩
        case measure => simp [intOf]; omega
      · have t1 : ((b.h : Int) == wo) = false := by simp [hwo]
        have HWO := Lib.hid hwo
        clear hwo
        have hJ2 := HJ.out pre wr (wr.alloc (.cells #[.int .i64 b.a, .int .i64 b.n] 64)) none hJs (World.grownBy_alloc _ _ _) (fun r e => by cases e)
        have hk2 : KpC C W (wr.alloc (.cells #[.int .i64 b.a, .int .i64 b.n] 64)) := hkp.trans (KpC.alloc _ _ _)
        by_cases hla : lo < b.a
        · obtain ⟨fn, tmps, assign, body, hy, hR⟩ := HY.out pre ⟨lo, b.a - lo, k⟩ _ hJ2 (by have := HPL.out; omega)
          have hs : ((b.a - lo : Nat) : Int) = (b.a : Int) - lo := by omega
          simp only [encRun, hs] at hy
          clear hs
          gi_wp2
          refine hR.mono ?_
          rintro e W3 (⟨rfl, hJ3, hk3⟩ | ⟨rfl, hJx3⟩)
          · have hb3 : Box W3 wr.heap.size [.int .i64 b.a, .int .i64 b.n] 64 := (Box.new wr _ _).kp hk3 (fun hc => by have := HCN.out _ hc; have := hkp.size; omega)
            have d1 := hb3.cell 0
            have d2 := hb3.cell 1
            simp only [List.getElem?_cons_zero, List.getElem?_cons_succ] at d1 d2
            gi_wp2
            go_roundw
            case rel =>
              have hr := HR.out
              unfold runsFrom at hr
              rw [if_neg HWO.out, if_pos hla] at hr
              exact ⟨k + 1, b.a + b.n, pre ++ [⟨lo, b.a - lo, k⟩], by omega, by go_num, by go_num, by omega, by rw [← hr]; simp, hJ3, hk2.trans hk3, by have := HPL.out; simp; omega⟩
            case measure => simp [intOf]; omega
          · gi_wp2
            refine bodyPost_ret (results_none rfl _ _ _) rfl ?_
            have hr := HR.out
            unfold runsFrom at hr
            rw [if_neg HWO.out, if_pos hla] at hr
            exact ⟨⟨_, rfl⟩, .inr ⟨pre ++ [⟨lo, b.a - lo, k⟩], ⟨_, by rw [← hr]; simp; rfl⟩, hJx3⟩⟩
        · gi_wp2
          go_roundw
          case rel =>
            have hr := HR.out
            unfold runsFrom at hr
            rw [if_neg HWO.out, if_neg hla] at hr
            exact ⟨k + 1, b.a + b.n, pre, by omega, by go_num, by go_num, by omega, by rw [← hr]; simp, hJ2, hk2, by have := HPL.out; omega⟩
          case measure => simp [intOf]; omega
    · obtain rfl : k = len := by omega
      have hdrop : S.L.drop k = [] := by have := HLEN.out; simp; omega
      rw [hdrop] at hruns
      have hsz := H1.inv.size
      unfold runsFrom at hruns
      clear hdrop
      by_cases hN : lo < S.cells.length
      · rw [if_pos hN] at hruns
        have HR := Lib.hid hruns
        have HPL := Lib.hid hpl
        clear hruns hpl
        have hJ2 := HJ.out pre wr wr.drew none hJs ⟨rfl, rfl, rfl, Nat.le_refl _, fun _ _ _ => rfl⟩ (fun r e => by cases e)
        obtain ⟨fn, tmps, assign, body, hy, hR⟩ := HY.out pre ⟨lo, S.cells.length - lo, k⟩ _ hJ2 (by have := HPL.out; omega)
        have hs : ((S.cells.length - lo : Nat) : Int) = (S.cells.length : Int) - lo := by omega
        simp only [encRun, hs] at hy
        clear hs
        gi_wp2
        have q1 : IntKind.i64.wrap ((S.cells.length : Int) - lo) = (S.cells.length : Int) - lo := IntWalk.i64_in _ (by omega)
        have hR2 := hR.mono (R' := fun e W' => ∃ t : Bool, e = .returned (.bool t) ∧ Hid ((t = true ∧ J (pre ++ [⟨lo, S.cells.length - lo, k⟩]) W') ∨ (t = false ∧ Jx (pre ++ [⟨lo, S.cells.length - lo, k⟩]) W'))) (by
          rintro e W3 (⟨rfl, hJ3, hk3⟩ | ⟨rfl, hJx3⟩)
          · exact ⟨true, rfl, .inl ⟨rfl, hJ3⟩⟩
          · exact ⟨false, rfl, .inr ⟨rfl, hJx3⟩⟩)
        have HR2 := Lib.hid hR2
        clear hR hR2
        refine wpIn_region_still_tail hF hal hd hro 15 (by kernel_rfl) (by kernel_rfl) ?_
        simp only [List.take_succ_cons, List.take_zero, List.drop_succ_cons, List.drop_zero]
        change wpStill _ _ (World.drew wr) _ _ _
        repeat still_step
        refine wpStill_nil ?_
        change wpListIn _ _ _ _ _ _ _ (World.drew wr)
        gi_wp2
        refine HR2.out.mono ?_
        rintro e W3 ⟨t, rfl, h3⟩
        gi_wp2
        go_end0
        refine ⟨⟨_, rfl⟩, ?_⟩
        have hr := HR.out
        rcases h3.out with ⟨_, h⟩ | ⟨_, h⟩
        · exact .inl ⟨_, hr, h⟩
        · exact .inr ⟨_, ⟨[], by rw [← hr]; simp⟩, h⟩
      · rw [if_neg hN] at hruns
        gi_wp2
        go_end0
        exact ⟨⟨_, rfl⟩, .inl ⟨pre, by rw [← hruns]; simp, hJs⟩⟩
end Go.Proofs.Ytpaopcnbgdlgnaa
