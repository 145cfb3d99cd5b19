/- New. -/
import Derived.Test.YtpaopcnbgdlgnaaACompact
import Derived.Carry
namespace Go.Proofs.Ytpaopcnbgdlgnaa
open Go.RowKit Go.MapKept
set_option linter.unusedVariables false
set_option linter.unusedSimpArgs false

def newS (n : Nat) : St := ⟨List.replicate n 0, []⟩

theorem newS_inv {n : Nat} (h1 : 1 ≤ n) (h2 : n ≤ 65536) : Inv (newS n) := by
  refine ⟨trivial, by simp [newS, topL], by simp [newS], by simp [newS]; omega, by simp [newS]; omega, by simp [newS]⟩

theorem own_full {w : World} {base g m : Nat} {e : TypeId} {xs : List Value} (h : w.ownsRow base e 1 (.slice (some ⟨g, 0, none⟩) m m) m xs) : w.heap[g]? = some (.cells xs.toArray e (0, 0)) := by
  rcases h.2 with ⟨h1, _⟩ | ⟨g', cap, cur, hv, _, hg, h1, h2, h3, h4⟩
  · simp at h1
  · simp at hv
    obtain ⟨rfl, rfl⟩ := hv
    rw [hg, ← h4, List.take_of_length_le (by simp; omega)]

theorem made_replicate (z : Value) (m : Nat) : (madeCells #[z] m).toList = List.replicate m z := by
  apply List.ext_getElem
  · simp [madeCells]
  · intro i h1 h2
    simp [madeCells, Nat.mod_one]

def NewPost (w : World) (n : Int) (e : Ending) (w' : World) : Prop :=
  (¬ (1 ≤ n ∧ n ≤ 65536) ∧ e = .returned (.tuple #[.pointer none, .int .i64 1]) ∧ w' = w) ∨
  ((1 ≤ n ∧ n ≤ 65536) ∧ ∃ A, e = .returned (.tuple #[.pointer (some ⟨A.p, 0, none⟩), .int .i64 0]) ∧ ArenaAt w' A (newS n.toNat) ∧ Below w.heap.size w w' ∧ ∀ k, A.owns k → w.heap.size ≤ k)

theorem Try.infoN2 : (Try.prog.info? 2).map (fun i => (i.zero, i.size, i.bytes)) = some (some (.int .i64 0), 1, 8) := by kernel_rfl

set_option maxHeartbeats 1000000 in
theorem new_any (n : Int) (w : World) :
    Calls Try.prog 32 #[.int .i64 n] w fun e w' => NewPost w n e w' := by
  by_cases h1 : n < 1
  · have HP := Lib.hid (show NewPost w n (.returned (.tuple #[.pointer none, .int .i64 1])) w from .inl ⟨by omega, rfl, rfl⟩)
    go_enter Try.func32, Try.ntmps32
    go_wp2_with fail
    go_ret2
    exact HP.out
  by_cases h2 : 65536 < n
  · have HP := Lib.hid (show NewPost w n (.returned (.tuple #[.pointer none, .int .i64 1])) w from .inl ⟨by omega, rfl, rfl⟩)
    go_enter Try.func32, Try.ntmps32
    go_wp2_with fail
    go_ret2
    exact HP.out
  obtain ⟨m, rfl⟩ := Int.eq_ofNat_of_zero_le (show 0 ≤ n by omega)
  obtain ⟨i0, hi0, hz0, hz1, hz2⟩ := info_parts Try.infoN2
  have hm1 : 1 ≤ m := by omega
  have hm2 : m ≤ 65536 := by omega
  have hmm := @run_makeMap Try.prog
  go_enter Try.func32, Try.ntmps32
  go_wp2_with (at_make; refine wpList_make_full w rfl (.tmp 10) (.tmp 10) 38 rfl w.heap.size 2 i0 (.int .i64 0) 1 Try.underlying38 hi0 hz0 hz1 .i64 .i64 m m m rfl rfl rfl rfl (by rw [hz2]; omega) (by unfold maxLen; omega) (Nat.le_refl _) ?_)
  intro w1 hown hg1
  have hz := hg1.size
  go_wp2_with fail
  go_ret2
  right
  refine ⟨by omega, ⟨w1.heap.size + 1, w.heap.size, w1.heap.size, .slice none 0 0⟩, rfl, ?_, ?_, ?_⟩
  · have hc := own_full hown
    rw [made_replicate] at hc
    have hlt : w.heap.size < w1.heap.size := (Array.getElem?_eq_some_iff.1 hc).1
    refine ⟨?_, ?_, ⟨#[], 0, ?_, by simp [IntKeys], by simp [NodupKeys], by simp [mapOf, newS, getB]⟩, World.ownsRow_nil _ _ _ _, newS_inv hm1 hm2⟩
    · have := World.alloc_heap_new (w1.alloc (.map #[] 0)) (.cells #[.slice (some ⟨w.heap.size, 0, none⟩) m m, .map (some w1.heap.size), .slice none 0 0, .int .i64 0] 60)
      rw [size_alloc'] at this
      rw [this]
      simp [newS, liveL]
    · rw [Below.heap_alloc _ _ _ (by simp; omega), Below.heap_alloc _ _ _ hlt, hc]
      simp [newS, iv]
    · rw [Below.heap_alloc _ _ _ (by simp)]
      exact World.alloc_heap_new w1 _
  · exact (((Below.refl _ w).grown hg1 (Nat.le_refl _) (by simp)).alloc hz _).alloc (by simp; omega) _
  · rintro k (rfl | rfl | rfl | hk)
    · show w.heap.size ≤ w1.heap.size + 1; omega
    · exact Nat.le_refl _
    · exact hz
    · simp [Value.ownBlock] at hk
end Go.Proofs.Ytpaopcnbgdlgnaa
