/- Top, Handles. -/
import Derived.Test.YtpaopcnbgdlgnaaAAlloc
import Derived.Deep.RegionHeld3
namespace Go.Proofs.Ytpaopcnbgdlgnaa
open Go.RowKit Go.MapKept
set_option linter.unusedVariables false
set_option linter.unusedSimpArgs false
attribute [local go_sem] obj_alloc obj_drew obj_setCell eql_nil_map field_n

theorem topL_last {L : List Blk} {b : Blk} : ∀ {lo : Nat}, L.getLast? = some b → topL lo L = b.a + b.n := by
  induction L with
  | nil => intro lo h; simp at h
  | cons c l ih =>
    intro lo h
    cases l with
    | nil => simp at h; subst h; rfl
    | cons d l => exact ih (lo := c.a + c.n) (by simpa using h)

def TopPost (w : World) (S : St) (e : Ending) (w' : World) : Prop := e = .returned (.int .i64 (topL 0 S.L)) ∧ Below w.heap.size w w'

set_option maxHeartbeats 1000000 in
theorem top_any {w : World} {A : AP} {S : St} (H : ArenaAt w A S) :
    Calls Try.prog 29 #[.pointer (some ⟨A.p, 0, none⟩)] w fun e w' => TopPost w S e w' := by
  obtain ⟨ra, rc, hrv, hg⟩ := H.rv_eq
  have c1 := H.c1
  have c2 := H.c2
  have hsz := H.inv.size
  have hle := H.inv.length
  by_cases hL : S.L = []
  · have hP : TopPost w S (.returned (.int .i64 0)) w := ⟨by rw [hL]; rfl, Below.refl _ _⟩
    have HP := Lib.hid hP
    rw [hrv, hL] at c2
    clear hP hL hg H hrv
    go_enter Try.func29, Try.ntmps29
    go_wp2_with fail
    go_ret
    exact HP.out
  · obtain ⟨g, rfl⟩ := hg hL
    have hpos : 0 < S.L.length := List.length_pos_iff.2 hL
    obtain ⟨N, hN⟩ : ∃ N, N = S.L.length := ⟨_, rfl⟩
    have ck := H.rowcell hrv (i := S.L.length - 1) (by omega)
    have hlast : S.L.getLast? = some S.L[S.L.length - 1] := by rw [List.getLast?_eq_getElem?]; exact List.getElem?_eq_getElem _
    have hget := getB_of_mem H.inv.nodup (List.getElem_mem (l := S.L) (n := S.L.length - 1) (by omega))
    have hB := H.inv.mem (List.getElem_mem (l := S.L) (n := S.L.length - 1) (by omega))
    generalize S.L[S.L.length - 1] = b at ck hlast hget hB
    obtain ⟨b1, b2, b3, b4, b5⟩ := hB
    obtain ⟨es, clock, hm, hlook⟩ := look_ok H
    have hLk := fun W hW => hlook W b.h false hW
    simp only [mapOf, hget, Option.map_some, Option.getD_some, blkV] at hLk
    simp at hLk
    have hmb := H.mb_lt
    have hP : ∀ w', Below w.heap.size w w' → TopPost w S (.returned (.int .i64 ((b.a : Int) + b.n))) w' := fun w' hb => ⟨by rw [topL_last hlast]; rfl, hb⟩
    rw [hrv, ← hN] at c2
    rw [← hN] at ck hpos hle
    have HP := Lib.hid hP
    clear hP hL hg H hrv hN hlast hget hlook
    have hN1 : N ≤ 65536 := by omega
    clear hle
    have z1 : ((N : Int) == 0) = false := by simp; omega
    have q1 : IntKind.i64.wrap ((N : Int) - 1) = (N : Int) - 1 := IntWalk.i64_in _ (by omega)
    have q2 : ((N : Int) - 1).toNat = N - 1 := by omega
    have q3 : 0 ≤ (N : Int) - 1 := by omega
    have q4 : (N : Int) - 1 < N := by omega
    have q5 : 1 ≤ (N : Int) := by omega
    go_enter Try.func29, Try.ntmps29
    go_wp2_with fail
    go_region_held3 (fun w' => w'.cell? ⟨A.p, 1, none⟩ = some (.map (some A.mb)) ∧ w'.cell? ⟨A.p, 2, none⟩ = some (.slice (some ⟨g, 0, none⟩) N rc) ∧ w'.cell? ⟨g, N - 1, none⟩ = some (.int .i64 b.h) ∧ obj? w' A.mb = some (.map es clock))
      (refine ⟨?_, ?_, ?_, ?_⟩ <;> (first | go_keep | (simp [*, obj_alloc, obj_drew, obj_setCell, World.cell?_alloc_some, World.cell?_setCell_far]))) (fail)
    all_goals
      clear q1 q2 q3 q4 q5 z1
      go_wp2_with fail
      go_ret
      exact HP.out _ ((Below.refl _ w).alloc (Nat.le_refl _) _).drew

/-! ### Handles -/
/-- The handles up to k, in order. -/
def hsTo (L : List Blk) (k : Nat) : List Nat := (List.range' 1 k).filter fun j => (getB j L).isSome

theorem hsTo_succ (L : List Blk) (k : Nat) : hsTo L (k + 1) = hsTo L k ++ if (getB (k + 1 : Nat) L).isSome then [k + 1] else [] := by
  unfold hsTo
  rw [List.range'_concat, List.filter_append]
  congr 1
  rw [show 1 + 1 * k = k + 1 from by omega]
  by_cases h : (getB ((k + 1 : Nat) : Int) L).isSome = true
  · simp only [List.filter_cons, h, if_true, List.filter_nil]
  · simp only [List.filter_cons, h, if_false, List.filter_nil]

theorem hsTo_mem {L : List Blk} {k j : Nat} : j ∈ hsTo L k ↔ (1 ≤ j ∧ j ≤ k) ∧ j ∈ L.map (·.h) := by
  unfold hsTo
  rw [List.mem_filter, List.mem_range'_1, getB_isSome]
  constructor
  · rintro ⟨h1, h2⟩; exact ⟨by omega, h2⟩
  · rintro ⟨h1, h2⟩; exact ⟨by omega, h2⟩

theorem hsTo_nodup (L : List Blk) (k : Nat) : (hsTo L k).Nodup := (List.nodup_range' ..).sublist List.filter_sublist

theorem hsTo_le (L : List Blk) (k : Nat) : (hsTo L k).length ≤ k := by
  have := List.length_filter_le (fun j => (getB (j : Nat) L).isSome) (List.range' 1 k)
  rw [List.length_range'] at this
  exact this

theorem hsTo_mono (L : List Blk) : ∀ (d k : Nat), hsTo L k <+: hsTo L (k + d) := by
  intro d
  induction d with
  | zero => intro k; exact List.prefix_refl _
  | succ d ih =>
    intro k
    refine (ih k).trans ?_
    rw [← Nat.add_assoc, hsTo_succ]
    exact List.prefix_append _ _

theorem hsTo_all {S : St} (h : Inv S) : (hsTo S.L 70000).Perm (S.L.map (·.h)) := by
  rw [List.perm_ext_iff_of_nodup (hsTo_nodup _ _) h.nodup]
  intro a
  rw [hsTo_mem]
  constructor
  · exact fun h => h.2
  · intro ha
    obtain ⟨b, hb, e⟩ := List.mem_map.1 ha
    have := h.mem hb
    exact ⟨by omega, ha⟩

theorem hsTo_len {S : St} (h : Inv S) : (hsTo S.L 70000).length = S.L.length := by
  have := (hsTo_all h).length_eq
  simpa using this

theorem hsTo_stop {S : St} (h : Inv S) {k : Nat} (hk : k ≤ 70000) (hl : S.L.length ≤ (hsTo S.L k).length) : hsTo S.L k = hsTo S.L 70000 := by
  obtain ⟨d, hd⟩ : ∃ d, k + d = 70000 := ⟨70000 - k, by omega⟩
  have hp := hsTo_mono S.L d k
  rw [hd] at hp
  have := hsTo_len h
  exact hp.eq_of_length (by have := hp.length_le; omega)

theorem hsTo_go {S : St} (h : Inv S) {k : Nat} (hk : k ≤ 70000) (hl : (hsTo S.L k).length < S.L.length) : k < 70000 := by
  apply Classical.byContradiction
  intro hn
  have : k = 70000 := by omega
  subst this
  have := hsTo_len h
  omega

theorem row_shape {w : World} {base : Nat} {e : TypeId} {size : Nat} {v : Value} {n : Nat} {xs : List Value} (h : w.ownsRow base e size v n xs) : ∃ a c, v = .slice a n c := by
  rcases h.2 with ⟨rfl, rfl⟩ | ⟨g, cap, cur, rfl, _⟩
  · exact ⟨_, _, rfl⟩
  · exact ⟨_, _, rfl⟩

def HandlesPost (w : World) (S : St) (e : Ending) (w' : World) : Prop :=
  ∃ v, e = .returned v ∧ w'.ownsRow w.heap.size 3 1 v S.L.length ((hsTo S.L 70000).map fun h : Nat => iv h) ∧ Below w.heap.size w w'

theorem Try.infoH3 : (Try.prog.info? 3).map (fun i => (i.zero, i.size, i.bytes)) = some (some (.int .i64 0), 1, 8) := by kernel_rfl

set_option maxHeartbeats 1000000 in
theorem handles_any {w : World} {A : AP} {S : St} (H : ArenaAt w A S) :
    Calls Try.prog 25 #[.pointer (some ⟨A.p, 0, none⟩)] w fun e w' => HandlesPost w S e w' := by
  obtain ⟨i0, hi0, hz0, hz1, hz2⟩ := info_parts Try.infoH3
  obtain ⟨ra, rc, hrv, hg⟩ := H.rv_eq
  have hsz := H.inv.size
  have hle := H.inv.length
  obtain ⟨N, hN⟩ : ∃ N, N = S.L.length := ⟨_, rfl⟩
  have hN1 : N ≤ 65536 := by omega
  have HN := Lib.hid hN
  have HRV := Lib.hid hrv
  clear hN hle hrv hg
  go_enter Try.func25, Try.ntmps25
  go_wp2_with fail
  go_loopw [3, 4] (fun out t4 wr => ∃ k : Nat, k ≤ 70000 ∧ t4 = .int .i64 (k + 1) ∧ wr.ownsRow w.heap.size 3 1 out (hsTo S.L k).length ((hsTo S.L k).map fun h : Nat => iv h) ∧ Below w.heap.size w wr) (fun _ t4 _ => 70001 - (intOf t4).toNat)
  case atStart => exact ⟨0, Nat.zero_le _, by go_num, World.ownsRow_nil _ _ _ _, Below.refl _ _⟩
  case round =>
    obtain ⟨k, hk, rfl, hown, hB⟩ := hrel
    obtain ⟨a0, cc, rfl⟩ := row_shape hown
    have H1 := H.below hB
    have c1 := H1.c1
    have c2 := H1.c2
    rw [HRV.out, ← HN.out] at c2
    have hmb := H1.mb_lt
    have hhl := hsTo_le S.L k
    by_cases hlt : (hsTo S.L k).length < N
    · have hk7 : k < 70000 := hsTo_go H1.inv hk (by have := HN.out; omega)
      obtain ⟨es, clock, hm, hlook⟩ := look_ok H1
      have hL := fun W hW => hlook W ((k : Int) + 1) true hW
      have hs := hsTo_succ S.L k
      have hcast : (((k + 1 : Nat)) : Int) = (k : Int) + 1 := by omega
      rw [hcast] at hs
      have HS := Lib.hid hs
      clear hs hcast hlook
      cases hgb : getB ((k : Int) + 1) S.L with
      | none =>
        simp only [mapOf, hgb, Option.map_none, Option.getD_none, Option.isSome_none, if_true] at hL
        have HGB := Lib.hid hgb
        have HOWN := Lib.hid hown
        clear hgb hown
        go_wp2_with fail
        go_roundw
        case rel =>
          have hh := HS.out
          rw [HGB.out] at hh
          simp at hh
          exact ⟨k + 1, by omega, by go_num, by rw [hh]; exact HOWN.out.alloc _, hB.alloc hB.size _⟩
        case measure => simp [intOf]; omega
      | some b =>
        simp only [mapOf, hgb, Option.map_some, Option.getD_some, Option.isSome_some, if_true, blkV] at hL
        have HGB := Lib.hid hgb
        clear hgb
        have hBs := hB.size
        go_wp2_with (at_builtin; refine wpList_append_own _ rfl _ _ 43 rfl w.heap.size 3 i0 (.int .i64 0) 1 8 Try.underlying43 hi0 hz0 hz1 hz2 rfl (by decide) _ _ _ rfl ((hown.alloc _).alloc _) _ _ _ [.int .i64 ((k : Int) + 1)] rfl rfl ?_ ?_ ?_ ?_ ?_ ?_)
        · have h := cell_new1 (wr.alloc (.cells #[.int .i64 b.a, .int .i64 b.n] 64)) (.int .i64 ((k : Int) + 1)) 3
          rw [size_alloc'] at h
          exact h
        · intro u hu; simp at hu; subst hu; rfl
        · unfold maxLen; omega
        · omega
        · simp; omega
        intro v' w2 hown2 hg2 _
        go_wp2_with fail
        go_roundw
        case rel =>
          have hh := HS.out
          rw [HGB.out] at hh
          simp only [Option.isSome_some, if_true] at hh
          refine ⟨k + 1, by omega, by go_num, ?_, ?_⟩
          · rw [hh]; simpa [iv] using hown2
          · refine ((hB.alloc hBs _).alloc (by simp; omega) _).grown hg2 (by simp; omega) ?_
            intro j hj
            exact (hown.lt j hj).1
        case measure => simp [intOf]; omega
    · have hs := hsTo_stop H1.inv hk (by have := HN.out; omega)
      have hl := hsTo_len H1.inv
      have HP : HandlesPost w S (.returned (.slice a0 (hsTo S.L k).length cc)) wr := ⟨_, rfl, by rw [← hl, ← hs]; exact hown, hB⟩
      have HP := Lib.hid HP
      clear hs hl hown
      go_wp2_with fail
      go_ret
      exact HP.out
end Go.Proofs.Ytpaopcnbgdlgnaa
