/- A store in memory: SetSlot, Resize, Hash, NewMem; through the interface. -/
import Derived.Test.YtpodgmajccmgkaaTabRep
import Derived.Laws.BitsLemmas
namespace Go.Proofs.Ytpodgmajccmgkaa
open Go.RowKit
set_option linter.unusedVariables false
set_option linter.unusedSimpArgs false

/-- All blocks outside B are as they were. -/
structure Keep (B : Nat → Prop) (w w' : World) : Prop where
  os : w'.os = w.os
  tape : w'.tape = w.tape
  output : w'.output = w.output
  size : w.heap.size ≤ w'.heap.size
  block : ∀ k, k < w.heap.size → ¬ B k → w'.heap[k]? = w.heap[k]?

theorem Keep.refl (B : Nat → Prop) (w : World) : Keep B w w := ⟨rfl, rfl, rfl, Nat.le_refl _, fun _ _ _ => rfl⟩
theorem Keep.trans' {B C : Nat → Prop} {a b c : World} (h : Keep B a b) (k : Keep C b c) (hc : ∀ i, i < a.heap.size → C i → B i) : Keep B a c :=
  ⟨k.os.trans h.os, k.tape.trans h.tape, k.output.trans h.output, Nat.le_trans h.size k.size, fun i hi hb => (k.block i (Nat.lt_of_lt_of_le hi h.size) (fun hci => hb (hc i hi hci))).trans (h.block i hi hb)⟩
theorem Keep.trans {B : Nat → Prop} {a b c : World} (h : Keep B a b) (k : Keep B b c) : Keep B a c := h.trans' k fun _ _ h => h
theorem Keep.of_below {B : Nat → Prop} {w w' : World} (h : Below w.heap.size w w') : Keep B w w' := ⟨h.os, h.tape, h.output, h.size, fun k hk _ => h.block k hk⟩
theorem Keep.below {n : Nat} {B : Nat → Prop} {w w' : World} (h : Keep B w w') (hn : n ≤ w.heap.size) (hB : ∀ k, k < n → ¬ B k) : Below n w w' := ⟨h.os, h.tape, h.output, h.size, fun k hk => h.block k (by omega) (hB k hk)⟩
theorem Keep.alloc {B : Nat → Prop} {a w : World} (h : Keep B a w) (o : Obj) : Keep B a (w.alloc o) :=
  h.trans ⟨rfl, rfl, rfl, by simp, fun k hk _ => Below.heap_alloc _ _ _ hk⟩
theorem Keep.drew {B : Nat → Prop} {a w : World} (h : Keep B a w) : Keep B a w.drew := ⟨h.os, h.tape, h.output, h.size, h.block⟩
theorem Keep.drewN {B : Nat → Prop} {a w : World} (h : Keep B a w) (n : Nat) : Keep B a (w.drewN n) := ⟨h.os, h.tape, h.output, h.size, h.block⟩
theorem Keep.setCell {B : Nat → Prop} {a w : World} (h : Keep B a w) {p : Addr} (hp : p.block < a.heap.size → B p.block) (u : Value) : Keep B a (w.setCell p u) :=
  h.trans' (C := fun k => k = p.block) ⟨rfl, rfl, rfl, by simp [World.setCell], fun k _ hk => Below.heap_setCell _ _ _ _ hk⟩ (fun i hi e => by subst e; exact hp hi)

/-- The store's own blocks. -/
def OwnS (p : Nat) (sv : Value) (k : Nat) : Prop := k = p ∨ sv.ownBlock = some k

/-- From one world to another the store alone was turned. -/
def Mv (p : Nat) (sv : Value) (w w' : World) (sv' : Value) : Prop := Keep (OwnS p sv) w w' ∧ ∀ k, OwnS p sv' k → OwnS p sv k ∨ w.heap.size ≤ k

theorem Mv.refl (p : Nat) (sv : Value) (w : World) : Mv p sv w w sv := ⟨Keep.refl _ _, fun _ h => .inl h⟩
theorem Mv.trans {p : Nat} {sv s1 s2 : Value} {a b c : World} (h : Mv p sv a b s1) (k : Mv p s1 b c s2) : Mv p sv a c s2 := by
  refine ⟨h.1.trans' k.1 fun i hi hc => ?_, fun i hi => ?_⟩
  · rcases h.2 i hc with h | h
    · exact h
    · omega
  · rcases k.2 i hi with h1 | h1
    · exact h.2 i h1
    · exact .inr (Nat.le_trans h.1.size h1)
theorem Mv.below {p : Nat} {sv : Value} {w w' : World} (h : Below w.heap.size w w') : Mv p sv w w' sv := ⟨Keep.of_below h, fun _ h => .inl h⟩

variable {w w' : World} {p : Nat} {sv sv' : Value} {T T' : Tb}

theorem MemAt.own_lt (H : MemAt w p sv T) {k : Nat} (hk : OwnS p sv k) : k < w.heap.size := by
  rcases hk with rfl | hk
  · exact H.lt.1
  · obtain ⟨A, rfl, _⟩ := H.shape
    cases A with
    | none => simp [Value.ownBlock] at hk
    | some ad =>
      rcases H.row with ⟨h, _⟩ | ⟨g, h, _⟩
      · simp at h
      · simp only [Value.slice.injEq, Option.some.injEq, and_true] at h
        subst h
        simp only [Value.ownBlock, Option.some.injEq] at hk
        subst hk
        exact H.lt.2 g _ _ rfl

theorem MemAt.keep {B : Nat → Prop} (H : MemAt w p sv T) (hk : Keep B w w') (hB : ∀ k, OwnS p sv k → ¬ B k) : MemAt w' p sv T := by
  refine ⟨(hk.block p H.lt.1 (hB p (.inl rfl))).trans H.head, ?_, H.le, H.small⟩
  rcases H.row with h | ⟨g, h, hg⟩
  · exact .inl h
  · exact .inr ⟨g, h, (hk.block g (H.lt.2 g _ _ h) (hB g (.inr (by rw [h]; rfl)))).trans hg⟩

theorem MemAt.set (H : MemAt w p sv T) {g n c : Nat} (hsv : sv = .slice (some ⟨g, 0, none⟩) n c) {i : Nat} (hi : i < T.sl.length) (v : V) :
    MemAt ((w.setCell ⟨g, i * 2, none⟩ (.int .i64 v.t)).setCell ⟨g, i * 2 + 1, none⟩ (.int .i64 v.n)) p sv (setT T i v) := by
  subst hsv
  have hg := H.at_
  have hgp : p ≠ g := by
    intro e
    have := H.head
    rw [e, hg] at this
    simp at this
  have e : setT T i v = { T with sl := T.sl.set i v } := by unfold setT; rw [if_pos (by omega), Int.toNat_natCast]
  rw [e]
  refine ⟨?_, .inr ⟨g, ?_, ?_⟩, by simpa using H.le, by simpa using H.small⟩
  · rw [Below.heap_setCell _ _ _ _ hgp, Below.heap_setCell _ _ _ _ hgp]; exact H.head
  · rcases H.row with ⟨h, _⟩ | ⟨g', h, _⟩
    · simp at h
    · simp only [Value.slice.injEq, Option.some.injEq, Addr.mk.injEq, and_true] at h
      obtain ⟨_, rfl, rfl⟩ := h
      simp
  · have h2 := setCell_list (i := i * 2 + 1) (setCell_list (i := i * 2) hg (.int .i64 v.t)) (.int .i64 v.n)
    rw [← flatV_set hi] at h2
    exact h2

set_option maxHeartbeats 1000000 in
theorem setslot_any (H : MemAt w p sv T) (i : Int) (v : V) : Calls Try.prog 26 #[.pointer (some ⟨p, 0, none⟩), .int .i64 i, v.val] w fun e w' => e = .returned (.tuple #[]) ∧ MemAt w' p sv (setT T i v) ∧ Mv p sv w w' sv := by
  obtain ⟨A, rfl, hA⟩ := H.shape
  have hb := below_alloc w (.cells #[.int .i64 v.t, .int .i64 v.n] 27)
  have H1 := H.below hb
  have c2 := H1.c2
  obtain ⟨M, hM⟩ : ∃ M, M = T.sl.length := ⟨_, rfl⟩
  have HM := Lib.hid hM
  have HB := Lib.hid hb
  have HH := Lib.hid H1
  by_cases hi : 0 ≤ i ∧ i < T.sl.length
  · obtain ⟨m, rfl⟩ := Int.eq_ofNat_of_zero_le hi.1
    have hml : m < T.sl.length := by omega
    obtain ⟨g, rfl⟩ := hA (fun e => by rw [e] at hml; simp at hml)
    obtain ⟨u, hu⟩ : ∃ u, T.sl[m]? = some u := ⟨T.sl[m], List.getElem?_eq_getElem _⟩
    obtain ⟨d0, d1⟩ := H1.cell hu
    have hgl : g < w.heap.size := H.lt.2 g _ _ rfl
    obtain ⟨d0', d1'⟩ := H.cell hu
    have hf : ∀ j, (w.alloc (.cells #[.int .i64 v.t, .int .i64 v.n] 27)).frozen? ⟨g, j, none⟩ = false := fun j => by simp [World.frozen?, H1.at_]
    have hf' : ∀ j, w.frozen? ⟨g, j, none⟩ = false := fun j => by simp [World.frozen?, H.at_]
    have f0 := hf (m * 2)
    have f1 := hf (m * 2 + 1)
    have f0' := hf' (m * 2)
    have f1' := hf' (m * 2 + 1)
    have HS := Lib.hid (H.set (i := m) rfl hml v)
    have HK := Lib.hid (((Keep.refl (OwnS p (.slice (some ⟨g, 0, none⟩) T.sl.length T.sl.length)) w).setCell (p := ⟨g, m * 2, none⟩) (fun _ => .inr rfl) (.int .i64 v.t)).setCell (p := ⟨g, m * 2 + 1, none⟩) (fun _ => .inr rfl) (.int .i64 v.n))
    rw [← hM] at c2 hml
    clear H H1 hb hu hi hM hA hf hf'
    unfold V.val
    go_enter Try.func26, Try.ntmps26
    go_wp2_with fail
    go_region
    all_goals go_wp2_with fail
    all_goals (
      go_end0
      exact ⟨rfl, HS.out.below (below_alloc _ _).drew, (HK.out.alloc _).drew, fun _ h => .inl h⟩)
  · have hi2 : i < 0 ∨ (¬ i < 0 ∧ (M : Int) ≤ i) := by omega
    have hs : setT T i v = T := by
      unfold setT
      split
      · rw [List.set_eq_of_length_le (by omega)]
      · rfl
    have HS := Lib.hid hs
    rw [← hM] at c2
    clear H H1 hb hi hM hA hs
    unfold V.val
    rcases hi2 with h0 | ⟨h0, h1⟩
    all_goals
      go_enter Try.func26, Try.ntmps26
      go_wp2_with fail
      go_end0
      exact ⟨rfl, by rw [HS.out]; exact HH.out, Mv.below HB.out⟩

/-! ### Resize -/
theorem Try.infoV27 : (Try.prog.info? 27).map (fun i => (i.zero, i.size, i.bytes)) = some (some (.agg #[.int .i64 0, .int .i64 0]), 2, 16) := by kernel_rfl

theorem made_two (n : Nat) : madeCells #[Value.int .i64 0, Value.int .i64 0] (n * 2) = (flatV (List.replicate n nilV)).toArray := by
  apply Array.toList_inj.1
  apply List.ext_getElem
  · simp [madeCells, flatV_length]
  · intro i h1 h2
    have e1 : (madeCells #[Value.int .i64 0, Value.int .i64 0] (n * 2)).toList[i] = .int .i64 0 := by
      simp only [madeCells, Array.toList_map, List.getElem_map]
      rcases Nat.mod_two_eq_zero_or_one i with h | h <;> simp [h]
    have hm : ∀ u ∈ flatV (List.replicate n nilV), u = .int .i64 0 := by
      intro u hu
      obtain ⟨b, hb, hub⟩ := List.mem_flatMap.1 hu
      obtain rfl := (List.mem_replicate.1 hb).2
      simp [V.cells, nilV] at hub
      exact hub
    rw [e1]
    exact (hm _ (List.getElem_mem _)).symm

theorem run_make2 (n : Nat) (hn : n ≤ 1000000) (w : World) :
    (Instr.makeSlice 25 (.int .i64 (n : Int)) (.int .i64 (n : Int))).run Try.prog w = .ok (.slice (some ⟨w.heap.size, 0, none⟩) n n) (w.alloc (.cells (flatV (List.replicate n nilV)).toArray 27)) := by
  obtain ⟨i, hi, hzz⟩ := Option.map_eq_some_iff.1 Try.infoV27
  simp only [Prod.mk.injEq] at hzz
  obtain ⟨hz, hs, hb⟩ := hzz
  have hr := run_make (P := Try.prog) w 25 27 i _ Try.underlying25 hi hz .i64 .i64 n n (by omega) (Int.le_refl _) (by rw [hb]; omega) (by omega)
  simp only [Int.toNat_natCast, hs] at hr
  rw [hr, ← made_two]; rfl

/-- A power of two, or 0. -/
def Pow2 (n : Nat) : Prop := n = 0 ∨ ∃ k, k ≤ 13 ∧ n = 2 ^ k

theorem mask {n : Nat} {k : Nat} (hk : k ≤ 13) (hn : n = 2 ^ k) (x : Nat) (hx : x < 2 ^ 62) : bits BinOp.and .i64 (x : Int) ((n : Int) - 1) = ((x % n : Nat) : Int) := by
  have hx2 : (x : Int) < 2 ^ 62 := by
    have : ((x : Nat) : Int) < ((2 ^ 62 : Nat) : Int) := by exact_mod_cast hx
    simpa using this
  have h := bits_mask .i64 62 (by decide) (fun m h0 h1 => IntWalk.i64_in _ (by omega)) k (by omega) (x : Int) (by omega) hx2
  have e : ((n : Nat) : Int) = 2 ^ k := by rw [hn]; simp
  rw [e, h, Int.natCast_emod, e]

theorem mask_self {n : Nat} (hn : Pow2 n) : bits BinOp.and .i64 (n : Int) ((n : Int) - 1) = 0 := by
  rcases hn with rfl | ⟨k, hk, rfl⟩
  · decide
  · rw [mask hk rfl _ (Nat.pow_lt_pow_right (by omega) (by omega)), Nat.mod_self]; rfl

def sizedT (T : Tb) (a n : Nat) : Tb := ⟨T.most, a, List.replicate (a + 2 * n) nilV⟩
def resizeR (T : Tb) (a n : Nat) : Int := if (a + 2 * n : Int) ≤ T.most then 0 else 8

theorem MemAt.sized (H : MemAt w p sv T) {a n t : Nat} (ht : t = a + 2 * n) (hs : t ≤ 1000000) :
    MemAt (((w.setCell ⟨p, 1, none⟩ (.int .i64 a)).setCell ⟨p, 2, none⟩ (.slice (some ⟨w.heap.size, 0, none⟩) t t)).alloc (.cells (flatV (List.replicate t nilV)).toArray 27)).drew p (.slice (some ⟨w.heap.size, 0, none⟩) t t) (sizedT T a n) ∧
      Mv p sv w (((w.setCell ⟨p, 1, none⟩ (.int .i64 a)).setCell ⟨p, 2, none⟩ (.slice (some ⟨w.heap.size, 0, none⟩) t t)).alloc (.cells (flatV (List.replicate t nilV)).toArray 27)).drew (.slice (some ⟨w.heap.size, 0, none⟩) t t) := by
  subst ht
  have hp := H.lt.1
  have hh : w.heap[p]? = some (.cells [.int .i64 T.most, .int .i64 T.a, sv].toArray 73 (0, 0)) := H.head
  obtain ⟨W, hW⟩ : ∃ W, W = (w.setCell ⟨p, 1, none⟩ (.int .i64 a)).setCell ⟨p, 2, none⟩ (.slice (some ⟨w.heap.size, 0, none⟩) (a + 2 * n) (a + 2 * n)) := ⟨_, rfl⟩
  have hsz : W.heap.size = w.heap.size := by rw [hW]; simp [World.setCell]
  have h1 : W.heap[p]? = some (.cells [.int .i64 T.most, .int .i64 a, .slice (some ⟨w.heap.size, 0, none⟩) (a + 2 * n) (a + 2 * n)].toArray 73 (0, 0)) := by
    rw [hW, setCell_list (i := 2) (setCell_list (i := 1) hh (.int .i64 a)) (.slice (some ⟨w.heap.size, 0, none⟩) (a + 2 * n) (a + 2 * n))]; rfl
  have hK : Keep (OwnS p sv) w W := by
    rw [hW]
    exact ((Keep.refl _ _).setCell (p := ⟨p, 1, none⟩) (fun _ => .inl rfl) _).setCell (p := ⟨p, 2, none⟩) (fun _ => .inl rfl) _
  rw [← hW]
  refine ⟨⟨?_, .inr ⟨w.heap.size, by simp [sizedT], ?_⟩, by simp [sizedT], by simp [sizedT]; omega⟩, (hK.alloc _).drew, ?_⟩
  · exact (Below.heap_alloc W _ p (by omega)).trans h1
  · have := heap_alloc_new W (.cells (flatV (List.replicate (a + 2 * n) nilV)).toArray 27)
    rw [hsz] at this
    exact this
  · rintro k (rfl | hk)
    · exact .inl (.inl rfl)
    · simp only [Value.ownBlock, Option.some.injEq] at hk
      exact .inr (by omega)

set_option maxHeartbeats 1000000 in
theorem resize_any (H : MemAt w p sv T) (a n : Nat) (ha : a ≤ 100000) (hn : Pow2 n) (hmost : T.most < 2 ^ 63 ∧ -(2 ^ 63) ≤ T.most) : Calls Try.prog 27 #[.pointer (some ⟨p, 0, none⟩), .int .i64 a, .int .i64 n] w fun e w' =>
    e = .returned (.int .i64 (resizeR T a n)) ∧ (((a + 2 * n : Int) ≤ T.most ∧ ∃ sv', MemAt w' p sv' (sizedT T a n) ∧ Mv p sv w w' sv') ∨ (¬ (a + 2 * n : Int) ≤ T.most ∧ w' = w)) := by
  have hn6 : n ≤ 8192 := by
    rcases hn with rfl | ⟨k, hk, rfl⟩
    · omega
    · exact Nat.le_trans (Nat.pow_le_pow_right (by omega) hk) (by decide)
  have hand := mask_self hn
  have c0 := H.c0
  have c1 := H.c1
  have c2 := H.c2
  have hp := H.lt.1
  obtain ⟨most, hm⟩ : ∃ most, most = T.most := ⟨_, rfl⟩
  have hm0 := hmost.1
  have hm1 := hmost.2
  clear hmost hn
  rw [← hm] at c0 hm0 hm1 ⊢
  have h0 : ¬ (a : Int) < 0 := by omega
  have h1 : ¬ (n : Int) < 0 := by omega
  have HM := Lib.hid hm
  by_cases hfit : (a + 2 * n : Int) ≤ most
  · have hw1 : IntKind.i64.wrap (most - n) = most - n := IntWalk.i64_in _ (by omega)
    have hw2 : IntKind.i64.wrap (most - n - a) = most - n - a := IntWalk.i64_in _ (by omega)
    have hw3 : IntKind.i64.wrap (2 * (n : Int)) = 2 * (n : Int) := IntWalk.i64_in _ (by omega)
    have hg1 : ¬ most < n := by omega
    have hg2 : ¬ most - n < a := by omega
    have hg3 : ¬ most - n - a < n := by omega
    have HR := Lib.hid (show resizeR T a n = 0 from by unfold resizeR; rw [← hm, if_pos hfit])
    have HH := Lib.hid H
    have HF := Lib.hid hfit
    obtain ⟨t, ht⟩ : ∃ t, t = a + 2 * n := ⟨_, rfl⟩
    have hw4 : IntKind.i64.wrap ((a : Int) + 2 * (n : Int)) = (t : Int) := by rw [IntWalk.i64_in _ (by omega)]; omega
    have hmk := run_make2 t (by omega)
    have f1 := H.frz 1
    have f2 := H.frz 2
    have HT := Lib.hid ht
    have hpn : ¬ p = w.heap.size := by omega
    clear H hm hfit ht
    go_enter Try.func27, Try.ntmps27
    go_wp2_with fail
    go_region
    all_goals (
      have HP := Lib.hid (HH.out.sized HT.out (by have := HT.out; omega))
      go_wp2_with fail
      go_ret
      exact ⟨by rw [HR.out]; rfl, .inl ⟨HF.out, _, HP.out⟩⟩)
  · have HR := Lib.hid (show resizeR T a n = 8 from by unfold resizeR; rw [← hm, if_neg hfit])
    have HF := Lib.hid hfit
    clear hm
    by_cases hg1 : most < n
    · clear hfit
      go_enter Try.func27, Try.ntmps27
      go_wp2_with fail
      go_ret
      exact ⟨by rw [HR.out]; rfl, .inr ⟨HF.out, rfl⟩⟩
    · have hw1 : IntKind.i64.wrap (most - n) = most - n := IntWalk.i64_in _ (by omega)
      by_cases hg2 : most - n < a
      · clear hfit
        go_enter Try.func27, Try.ntmps27
        go_wp2_with fail
        go_ret
        exact ⟨by rw [HR.out]; rfl, .inr ⟨HF.out, rfl⟩⟩
      · have hw2 : IntKind.i64.wrap (most - n - a) = most - n - a := IntWalk.i64_in _ (by omega)
        have hg3 : most - n - a < n := by omega
        clear hfit
        go_enter Try.func27, Try.ntmps27
        go_wp2_with fail
        go_ret
        exact ⟨by rw [HR.out]; rfl, .inr ⟨HF.out, rfl⟩⟩

/-! ### the hash, and a new store -/
def mixX (t n : Int) : Int := IntKind.u64.wrap (IntKind.u64.wrap (IntKind.u64.wrap n * 11400714819323198485) + IntKind.u64.wrap t)
def mixR (t n : Int) : Int := bits BinOp.xor .u32 (mixX t n / 4294967296 % 4294967296) (mixX t n % 4294967296)

theorem mixR_range (t n : Int) : 0 ≤ mixR t n ∧ mixR t n < 4294967296 := by
  unfold mixR bits
  simp only
  rw [IntKind.wrap_u32]
  omega

set_option maxHeartbeats 1000000 in
theorem mix_any (t n : Int) (w : World) : Calls Try.prog 43 #[.int .i64 t, .int .i64 n] w fun e w' => e = .returned (.int .u32 (mixR t n)) ∧ w' = w := by
  have HM := Lib.hid (show mixR t n = bits BinOp.xor .u32 (IntKind.u64.wrap (IntKind.u64.wrap (IntKind.u64.wrap n * 11400714819323198485) + IntKind.u64.wrap t) / 4294967296 % 4294967296) (IntKind.u64.wrap (IntKind.u64.wrap (IntKind.u64.wrap n * 11400714819323198485) + IntKind.u64.wrap t) % 4294967296) from rfl)
  go_enter Try.func43, Try.ntmps43
  go_wp2_with fail
  go_ret
  exact ⟨by rw [HM.out]; rfl, rfl⟩

set_option maxHeartbeats 1000000 in
theorem hash_any (v : V) (w : World) (p : Nat) : Calls Try.prog 28 #[.pointer (some ⟨p, 0, none⟩), v.val] w fun e w' => e = .returned (.int .u32 (mixR v.t v.n)) ∧ Below w.heap.size w w' := by
  have hb := below_alloc w (.cells #[.int .i64 v.t, .int .i64 v.n] 27)
  have HB := Lib.hid hb
  clear hb
  unfold V.val
  go_enter Try.func28, Try.ntmps28
  go_wp2_with fail
  refine (mix_any _ _ _).mono ?_
  rintro e w1 ⟨rfl, rfl⟩
  go_wp2_with fail
  go_ret
  exact ⟨rfl, HB.out⟩

set_option maxHeartbeats 1000000 in
theorem newmem_any (most : Int) (w : World) : Calls Try.prog 19 #[.int .i64 most] w fun e w' => ∃ p, e = .returned (.pointer (some ⟨p, 0, none⟩)) ∧ MemAt w' p (.slice none 0 0) ⟨most, 0, []⟩ ∧ w.heap.size ≤ p ∧ Below w.heap.size w w' := by
  have HM := Lib.hid (show MemAt (w.alloc (.cells #[.int .i64 most, .int .i64 0, .slice none 0 0] 73)) w.heap.size (.slice none 0 0) ⟨most, 0, []⟩ from ⟨heap_alloc_new w _, .inl ⟨rfl, rfl⟩, by simp, by simp⟩)
  go_enter Try.func19, Try.ntmps19
  go_wp2_with fail
  go_ret
  exact ⟨_, rfl, HM.out, Nat.le_refl _, below_alloc _ _⟩
end Go.Proofs.Ytpodgmajccmgkaa
