/- The document's table in memory; the hash, InArray. -/
import Derived.Test.YtpodgmajccmgkaaTabEm
import Derived.Test.YtpodgmajccmgkaaRefKey2
import Derived.Laws.BitsLemmas
namespace Go.Proofs.Ytpodgmajccmgkaa
open Go.RowKit Go.Shelf
set_option linter.unusedVariables false
set_option linter.unusedSimpArgs false
attribute [local go_sem] Oper.semAt_some

variable {w w' : World} {p : Nat} {A L : Value} {T T' : Tb}

/-- The document's table at p: an array part, and nodes. -/
structure RefAt (w : World) (p : Nat) (A L : Value) (T : Tb) : Prop where
  head : w.heap[p]? = some (.cells #[A, L, .int .i64 T.most] 49 (0, 0))
  arr : (A = .slice none 0 0 ∧ T.a = 0) ∨ ∃ g, A = .slice (some ⟨g, 0, none⟩) T.a T.a ∧ w.heap[g]? = some (.cells (flatV (T.sl.take T.a)).toArray 27 (0, 0))
  nod : (L = .slice none 0 0 ∧ T.nodes = 0) ∨ ∃ g, L = .slice (some ⟨g, 0, none⟩) T.nodes T.nodes ∧ w.heap[g]? = some (.cells (flatV (T.sl.drop T.a)).toArray 85 (0, 0))
  exact_ : T.sl.length = T.a + 2 * T.nodes
  small : T.sl.length ≤ 1000000

def OwnR (p : Nat) (A L : Value) (k : Nat) : Prop := k = p ∨ A.ownBlock = some k ∨ L.ownBlock = some k

theorem RefAt.lt (H : RefAt w p A L T) {k : Nat} (h : OwnR p A L k) : ∃ o, w.heap[k]? = some o := by
  rcases h with rfl | h | h
  · exact ⟨_, H.head⟩
  · rcases H.arr with ⟨h1, -⟩ | ⟨g, h1, h2⟩
    · rw [h1] at h; cases h
    · rw [h1] at h; cases h; exact ⟨_, h2⟩
  · rcases H.nod with ⟨h1, -⟩ | ⟨g, h1, h2⟩
    · rw [h1] at h; cases h
    · rw [h1] at h; cases h; exact ⟨_, h2⟩
theorem RefAt.own_lt (H : RefAt w p A L T) {k : Nat} (h : OwnR p A L k) : k < w.heap.size := by
  obtain ⟨o, ho⟩ := H.lt h
  exact (Array.getElem?_eq_some_iff.1 ho).1

theorem RefAt.keep {B : Nat → Prop} (H : RefAt w p A L T) (hk : Keep B w w') (hB : ∀ k, OwnR p A L k → ¬ B k) : RefAt w' p A L T := by
  refine ⟨(hk.block p (H.own_lt (.inl rfl)) (hB p (.inl rfl))).trans H.head, ?_, ?_, H.exact_, H.small⟩
  · rcases H.arr with h | ⟨g, h, hg⟩
    · exact .inl h
    · have ho : OwnR p A L g := .inr (.inl (by rw [h]; rfl))
      exact .inr ⟨g, h, (hk.block g (H.own_lt ho) (hB g ho)).trans hg⟩
  · rcases H.nod with h | ⟨g, h, hg⟩
    · exact .inl h
    · have ho : OwnR p A L g := .inr (.inr (by rw [h]; rfl))
      exact .inr ⟨g, h, (hk.block g (H.own_lt ho) (hB g ho)).trans hg⟩
theorem RefAt.below (H : RefAt w p A L T) (hb : Below w.heap.size w w') : RefAt w' p A L T := H.keep (B := fun _ => False) (Keep.of_below hb) (fun _ _ h => h)

theorem RefAt.c0 (H : RefAt w p A L T) : w.cell? ⟨p, 0, none⟩ = some A := by simp [World.cell?, H.head]
theorem RefAt.c1 (H : RefAt w p A L T) : w.cell? ⟨p, 1, none⟩ = some L := by simp [World.cell?, H.head]
theorem RefAt.c2 (H : RefAt w p A L T) : w.cell? ⟨p, 2, none⟩ = some (.int .i64 T.most) := by simp [World.cell?, H.head]
theorem RefAt.frz (H : RefAt w p A L T) (i : Nat) : w.frozen? ⟨p, i, none⟩ = false := by simp [World.frozen?, H.head]
theorem RefAt.shapeA (H : RefAt w p A L T) : ∃ g, A = .slice g T.a T.a ∧ (0 < T.a → ∃ b, g = some ⟨b, 0, none⟩) := by
  rcases H.arr with ⟨h, h0⟩ | ⟨g, h, -⟩
  · exact ⟨none, by rw [h, h0], fun h => by omega⟩
  · exact ⟨_, h, fun _ => ⟨g, rfl⟩⟩
theorem RefAt.shapeL (H : RefAt w p A L T) : ∃ g, L = .slice g T.nodes T.nodes ∧ (0 < T.nodes → ∃ b, g = some ⟨b, 0, none⟩) := by
  rcases H.nod with ⟨h, h0⟩ | ⟨g, h, -⟩
  · exact ⟨none, by rw [h, h0], fun h => by omega⟩
  · exact ⟨_, h, fun _ => ⟨g, rfl⟩⟩
theorem RefAt.arr_at {g n c : Nat} (H : RefAt w p (.slice (some ⟨g, 0, none⟩) n c) L T) : w.heap[g]? = some (.cells (flatV (T.sl.take T.a)).toArray 27 (0, 0)) := by
  rcases H.arr with ⟨h, _⟩ | ⟨g', h, hb⟩
  · simp at h
  · simp only [Value.slice.injEq, Option.some.injEq, Addr.mk.injEq, and_true] at h
    rw [h.1]; exact hb
theorem RefAt.nod_at {g n c : Nat} (H : RefAt w p A (.slice (some ⟨g, 0, none⟩) n c) T) : w.heap[g]? = some (.cells (flatV (T.sl.drop T.a)).toArray 85 (0, 0)) := by
  rcases H.nod with ⟨h, _⟩ | ⟨g', h, hb⟩
  · simp at h
  · simp only [Value.slice.injEq, Option.some.injEq, Addr.mk.injEq, and_true] at h
    rw [h.1]; exact hb
theorem slot_some {i : Nat} (h : i < T.sl.length) : T.sl[i]? = some (slotT T (i : Int)) := by
  obtain ⟨v, hv⟩ : ∃ v, T.sl[i]? = some v := ⟨_, List.getElem?_eq_getElem h⟩
  rw [hv, slotT_ok hv]
theorem RefAt.arrC {g n c : Nat} (H : RefAt w p (.slice (some ⟨g, 0, none⟩) n c) L T) {i : Nat} (hi : i < T.a) :
    w.cell? ⟨g, i * 2, none⟩ = some (.int .i64 (aN T i).t) ∧ w.cell? ⟨g, i * 2 + 1, none⟩ = some (.int .i64 (aN T i).n) := by
  have hs : (T.sl.take T.a)[i]? = some (aN T i) := by
    rw [List.getElem?_take_of_lt hi]
    exact slot_some (by have := H.exact_; omega)
  have h := cell_of_list H.arr_at
  exact ⟨(h (i * 2)).trans (by have := flatV_get (k := 0) hs (by omega); simpa [V.cells] using this), (h (i * 2 + 1)).trans (by have := flatV_get (k := 1) hs (by omega); simpa [V.cells] using this)⟩
theorem RefAt.nodC {g n c : Nat} (H : RefAt w p A (.slice (some ⟨g, 0, none⟩) n c) T) {i : Nat} (hi : i < T.nodes) :
    w.cell? ⟨g, i * 4, none⟩ = some (.int .i64 (kN T i).t) ∧ w.cell? ⟨g, i * 4 + 1, none⟩ = some (.int .i64 (kN T i).n) ∧
    w.cell? ⟨g, i * 4 + 2, none⟩ = some (.int .i64 (vN T i).t) ∧ w.cell? ⟨g, i * 4 + 2 + 1, none⟩ = some (.int .i64 (vN T i).n) := by
  have hs : (T.sl.drop T.a)[2 * i]? = some (kN T i) := by
    rw [List.getElem?_drop]
    exact slot_some (by have := H.exact_; omega)
  have hv : (T.sl.drop T.a)[2 * i + 1]? = some (vN T i) := by
    rw [List.getElem?_drop]
    exact slot_some (by have := H.exact_; omega)
  have h := cell_of_list H.nod_at
  refine ⟨(h _).trans ?_, (h _).trans ?_, (h _).trans ?_, (h _).trans ?_⟩
  · have := flatV_get (k := 0) hs (by omega); rw [show 2 * i * 2 + 0 = i * 4 by omega] at this; simpa [V.cells] using this
  · have := flatV_get (k := 1) hs (by omega); rw [show 2 * i * 2 + 1 = i * 4 + 1 by omega] at this; simpa [V.cells] using this
  · have := flatV_get (k := 0) hv (by omega); rw [show (2 * i + 1) * 2 + 0 = i * 4 + 2 by omega] at this; simpa [V.cells] using this
  · have := flatV_get (k := 1) hv (by omega); rw [show (2 * i + 1) * 2 + 1 = i * 4 + 2 + 1 by omega] at this; simpa [V.cells] using this

theorem below_drewN {B : Nat} {a w : World} (h : Below B a w) (n : Nat) : Below B a (w.drewN n) := ⟨h.os, h.tape, h.output, h.size, h.block⟩
def inAB (T : Tb) (k : V) : Bool := decide (k.t = 2 ∧ 1 ≤ k.n ∧ k.n ≤ T.a)
theorem inAB_iff {T : Tb} {k : V} : inAB T k = true ↔ inA T k := by unfold inAB inA; rw [decide_eq_true_iff]

/-! ### the hash -/
theorem wraps_u64 (n : Int) (h₀ : 0 ≤ n) (h₁ : n < 2 ^ 64) : IntKind.u64.wrap n = n := by
  have : IntKind.u64.wrap n = n % 18446744073709551616 := by simp [IntKind.wrap, IntKind.bits, IntKind.signed]
  rw [this]; omega
theorem u64_range (n : Int) : 0 ≤ IntKind.u64.wrap n ∧ IntKind.u64.wrap n < 2 ^ 64 := by
  have : IntKind.u64.wrap n = n % 18446744073709551616 := by simp [IntKind.wrap, IntKind.bits, IntKind.signed]
  rw [this]; omega
theorem and_low (n : Int) : bits .and .u64 (IntKind.u64.wrap n) 4294967295 = IntKind.u64.wrap n % 4294967296 :=
  bits_mask .u64 64 (by decide) wraps_u64 32 (by decide) _ (u64_range n).1 (u64_range n).2
theorem mixR_ref (t n : Int) : bits .xor .u32 (mixX t n / 4294967296 % 4294967296) (bits .and .u64 (mixX t n) 4294967295 % 4294967296) = mixR t n := by
  unfold mixR mixX
  rw [and_low, Int.emod_emod_of_dvd _ (by decide)]

def noH : Value := .agg #[.bool false, .slice none 0 0, .slice none 0 0]
set_option maxHeartbeats 1000000 in
theorem rmix_any (t n : Int) (w : World) : Calls Try.prog 69 #[.int .i64 t, .int .i64 n] w fun e w' => e = .returned (.int .u32 (mixR t n)) ∧ w' = w := by
  go_enter Try.func69, Try.ntmps69
  go_wp2_with fail
  go_ret
  exact ⟨by rw [← mixR_ref]; rfl, rfl⟩
set_option maxHeartbeats 1000000 in
theorem rhash_any (k : V) (w : World) : Calls Try.prog 67 #[noH, k.val] w fun e w' => e = .returned (.int .u32 (mixR k.t k.n)) ∧ Below w.heap.size w w' := by
  unfold noH V.val
  go_enter Try.func67, Try.ntmps67
  go_wp2_with fail
  go_quiet (fail)
  go_wp2_with fail
  refine (rmix_any _ _ _).mono ?_
  rintro e w1 ⟨rfl, rfl⟩
  go_wp2_with fail
  go_ret
  exact ⟨rfl, (by repeat (first | exact Below.refl _ _ | refine Below.alloc ?_ (by first | (simp; done) | (simp; omega)) _ | refine below_drewN ?_ _ | refine Below.drew ?_ | refine Below.setCell ?_ (by first | (simp; done) | (simp; omega)) _))⟩

/-! ### InArray -/
set_option maxHeartbeats 1000000 in
theorem rin_any (H : RefAt w p A L T) (k : V) : Calls Try.prog 56 #[.pointer (some ⟨p, 0, none⟩), k.val] w fun e w' => e = .returned (.bool (inAB T k)) ∧ Below w.heap.size w w' := by
  obtain ⟨gA, rfl, hA⟩ := H.shapeA
  obtain ⟨t, n⟩ := k
  have hb := below_alloc w (.cells #[.int .i64 t, .int .i64 n] 27)
  have c0 := (H.below hb).c0
  have hs := H.small
  have he := H.exact_
  obtain ⟨a, ha⟩ : ∃ a, a = T.a := ⟨_, rfl⟩
  obtain ⟨q, hq⟩ : ∃ q, q = inAB T ⟨t, n⟩ := ⟨_, rfl⟩
  have hq' : q = decide (t = 2 ∧ 1 ≤ n ∧ n ≤ (a : Int)) := by rw [hq, ha]; rfl
  rw [← ha] at c0 he
  rw [← hq]
  have HQ := Lib.hid hq'
  clear hA H hb ha hq hq'
  unfold V.val
  by_cases h2 : t = 2
  · subst h2
    by_cases h1 : 1 ≤ n
    · have g1 : decide ((1 : Int) ≤ n) = true := by simpa using h1
      by_cases h3 : n ≤ (a : Int)
      · have hq := HQ.out
        rw [decide_eq_true ⟨rfl, h1, h3⟩] at hq
        clear HQ
        have HQ := Lib.hid hq
        have g3 : decide (n ≤ (a : Int)) = true := by simpa using h3
        clear hq
        go_enter Try.func56, Try.ntmps56
        go_wp2_with fail
        go_quiet (fail)
        go_wp2_with fail
        go_ret
        exact ⟨by rw [HQ.out]; rfl, (by repeat (first | exact Below.refl _ _ | refine Below.alloc ?_ (by first | (simp; done) | (simp; omega)) _ | refine below_drewN ?_ _ | refine Below.drew ?_ | refine Below.setCell ?_ (by first | (simp; done) | (simp; omega)) _))⟩
      · have hq := HQ.out
        rw [decide_eq_false (fun h => h3 h.2.2)] at hq
        clear HQ
        have HQ := Lib.hid hq
        have g3 : decide (n ≤ (a : Int)) = false := by simpa using h3
        clear hq
        go_enter Try.func56, Try.ntmps56
        go_wp2_with fail
        go_quiet (fail)
        go_wp2_with fail
        go_ret
        exact ⟨by rw [HQ.out]; rfl, (by repeat (first | exact Below.refl _ _ | refine Below.alloc ?_ (by first | (simp; done) | (simp; omega)) _ | refine below_drewN ?_ _ | refine Below.drew ?_ | refine Below.setCell ?_ (by first | (simp; done) | (simp; omega)) _))⟩
    · have hq := HQ.out
      rw [decide_eq_false (fun h => h1 h.2.1)] at hq
      clear HQ
      have HQ := Lib.hid hq
      have g1 : decide ((1 : Int) ≤ n) = false := by simpa using h1
      clear hq
      go_enter Try.func56, Try.ntmps56
      go_wp2_with fail
      go_quiet (fail)
      go_wp2_with fail
      go_ret
      exact ⟨by rw [HQ.out]; rfl, (by repeat (first | exact Below.refl _ _ | refine Below.alloc ?_ (by first | (simp; done) | (simp; omega)) _ | refine below_drewN ?_ _ | refine Below.drew ?_ | refine Below.setCell ?_ (by first | (simp; done) | (simp; omega)) _))⟩
  · have hq := HQ.out
    rw [decide_eq_false (fun h => h2 h.1)] at hq
    clear HQ
    have HQ := Lib.hid hq
    have g1 : (t == 2) = false := by simp [h2]
    clear hq
    go_enter Try.func56, Try.ntmps56
    go_wp2_with fail
    go_quiet (fail)
    go_wp2_with fail
    go_ret
    exact ⟨by rw [HQ.out]; rfl, (by repeat (first | exact Below.refl _ _ | refine Below.alloc ?_ (by first | (simp; done) | (simp; omega)) _ | refine below_drewN ?_ _ | refine Below.drew ?_ | refine Below.setCell ?_ (by first | (simp; done) | (simp; omega)) _))⟩
end Go.Proofs.Ytpodgmajccmgkaa
