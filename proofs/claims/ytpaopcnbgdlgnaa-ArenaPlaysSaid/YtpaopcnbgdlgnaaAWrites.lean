/- The arena's calls that write: Store, Free, New. -/
import Derived.Test.YtpaopcnbgdlgnaaAReads
import Derived.Test.YtpaopcnbgdlgnaaAOps
import Derived.Test.YtpaopcnbgdlgnaaALay
import Derived.Test.YtpaopcnbgdlgnaaALift
namespace Go.Proofs.Ytpaopcnbgdlgnaa
open Go.RowKit Go.MapKept
set_option linter.unusedVariables false
set_option linter.unusedSimpArgs false
attribute [local go_sem] obj_alloc obj_drew obj_setCell

theorem ArenaAt.setCells {w w' : World} {A : AP} {S : St} (h : ArenaAt w A S) {cells : List Int} (hl : cells.length = S.cells.length) (hc : w'.heap[A.cb]? = some (.cells (cells.map iv).toArray 2 (0, 0)))
    (hb : ∀ k, k < w.heap.size → k ≠ A.cb → w'.heap[k]? = w.heap[k]?) : ArenaAt w' A { S with cells := cells } := by
  have R := h.raw.turnCells hl hc hb
  exact ⟨R.hs, R.hc, R.hm, by simpa using R.hr, ⟨h.inv.laid, by rw [hl]; exact h.inv.top, h.inv.nodup, by rw [hl]; exact h.inv.size, by rw [hl]; exact h.inv.pos, h.inv.small⟩⟩

theorem ArenaAt.store {w : World} {A : AP} {S : St} (h : ArenaAt w A S) (q : Nat) (x : Int) : ArenaAt (w.setCell ⟨A.cb, q, none⟩ (.int .i64 x)) A { S with cells := S.cells.set q x } := by
  refine h.setCells (by simp) ?_ (fun k _ hk => Below.heap_setCell _ _ _ _ hk)
  rw [setCell_list h.hc]
  rw [List.map_set]; rfl

def StorePost (w : World) (A : AP) (S : St) (h i x : Int) (e : Ending) (w' : World) : Prop := e = .returned (.int .i64 (cellR S.L h i).2) ∧ ArenaAt w' A (storeS S h i x) ∧ Step w w' A A

set_option maxHeartbeats 400000 in
theorem store_any {w : World} {A : AP} {S : St} (H : ArenaAt w A S) (h i x : Int) :
    Calls Try.prog 16 #[.pointer (some ⟨A.p, 0, none⟩), .int .i64 h, .int .i64 i, .int .i64 x] w fun e w' => StorePost w A S h i x e w' := by
  have F := fun (W : World) (hW : ArenaAt W A S) => cell_any hW h i
  have h05 := cellR_err (L := S.L) (h := h) (i := i)
  have hok := cellR_ok H.inv (h := h) (i := i)
  obtain ⟨S', hS'⟩ : ∃ S', S' = storeS S h i x := ⟨_, rfl⟩
  have hpost : ∀ e w', (e = .returned (.int .i64 (cellR S.L h i).2) ∧ ArenaAt w' A S' ∧ Step w w' A A) → StorePost w A S h i x e w' := by
    rw [hS']; exact fun _ _ h => h
  refine Calls.mono ?_ hpost
  unfold storeS at hS'
  generalize hr : cellR S.L h i = r at h05 hok F hS' ⊢
  clear hr hpost
  obtain ⟨r1, r2⟩ := r
  simp only at h05 hok F hS' ⊢
  rcases h05 with rfl | ⟨rfl, rfl | rfl⟩
  · obtain ⟨o1, o2⟩ := hok rfl
    obtain ⟨q, rfl⟩ := Int.eq_ofNat_of_zero_le o1
    have hsz := H.inv.size
    simp only [if_true, Int.toNat_natCast] at hS'
    subst hS'
    clear hok
    go_enter Try.func16, Try.ntmps16
    go_wp2_with fail
    refine (F _ H).mono ?_
    clear F
    rintro e w1 ⟨rfl, hb⟩
    have H1 := H.below hb
    have c0 := H1.c0
    have cq := H1.cc q (by omega)
    have fq := H1.cfrz q
    go_wp2_with fail
    go_ret
    refine ⟨rfl, H1.store q x, ⟨(Keep.of_below hb).setCell (fun _ => .inr (.inl rfl)) _, rfl, rfl, rfl, fun k hk => .inl hk⟩⟩
  all_goals
    simp at hS'
    subst hS'
    clear hok
    go_enter Try.func16, Try.ntmps16
    go_wp2_with fail
    refine (F _ H).mono ?_
    clear F
    rintro e w1 ⟨rfl, hb⟩
    go_wp2_with fail
    go_ret
    exact ⟨rfl, H.below hb, Step.of_below hb⟩

/-- lift, of a block that there is. -/
theorem lift_arena {w : World} {A : AP} {S : St} (H : ArenaAt w A S) {h : Int} {b : Blk} (hb : getB h S.L = some b) :
    Calls Try.prog 42 #[.pointer (some ⟨A.p, 0, none⟩), .int .i64 h] w fun e w' => e = .returned (.tuple #[]) ∧ ∃ A', ArenaAt w' A' (freeS S h) ∧ Step w w' A A' := by
  obtain ⟨pre, post, h1, h2, h3, h4⟩ := eraseB_split hb
  have R := H.raw
  have hl := H.inv.live
  have hsz := H.inv.size
  have hle := H.inv.length
  have he := live_erase hb
  have e1 : (S.L.map fun b => iv b.h) = ((pre.map fun b => (b.h : Int)) ++ h :: (post.map fun b => (b.h : Int))).map iv := by
    rw [h1]; simp [h4, Function.comp_def]
  rw [e1] at R
  refine (lift_any R ?_ ?_ b.a b.n ?_ (by omega) (by omega) (by omega)).mono ?_
  · intro hm
    obtain ⟨x, hx, e⟩ := List.mem_map.1 hm
    exact h3 x hx e
  · have : ((pre.map fun b => (b.h : Int)) ++ h :: (post.map fun b => (b.h : Int))).length = S.L.length := by rw [h1]; simp
    omega
  · simp [mapOf, hb, blkV]
  · rintro e w' ⟨rfl, rv', R', k', o'⟩
    refine ⟨rfl, ⟨A.p, A.cb, A.mb, rv'⟩, ?_, ⟨k', rfl, rfl, rfl, ?_⟩⟩
    · exact R'.arena (L := eraseB h S.L) (by omega) (mapOf_erase H.inv.nodup).symm (by rw [h2]; simp [Function.comp_def]) (H.inv.erase h)
    · rintro k (rfl | rfl | rfl | hk)
      · exact .inl (.inl rfl)
      · exact .inl (.inr (.inl rfl))
      · exact .inl (.inr (.inr (.inl rfl)))
      · exact .inl (.inr (.inr (.inr (by rw [← hk, o']))))

def freeR (S : St) (h : Int) : Int := (findR S.L h).2.2
def FreePost (w : World) (A : AP) (S : St) (h : Int) (e : Ending) (w' : World) : Prop := e = .returned (.int .i64 (freeR S h)) ∧ ∃ A', ArenaAt w' A' (freeS S h) ∧ Step w w' A A'

set_option maxHeartbeats 400000 in
theorem free_any {w : World} {A : AP} {S : St} (H : ArenaAt w A S) (h : Int) :
    Calls Try.prog 27 #[.pointer (some ⟨A.p, 0, none⟩), .int .i64 h] w fun e w' => FreePost w A S h e w' := by
  have F := fun (W : World) (hW : ArenaAt W A S) => find_any hW h
  have hR : freeR S h = (findR S.L h).2.2 := rfl
  unfold findR at F hR
  cases hf : getB h S.L with
  | none =>
    have hS : freeS S h = S := by unfold freeS; rw [eraseB_none hf]
    rw [hf] at F hR
    have HR := Lib.hid hR
    have HS := Lib.hid hS
    clear hf hR hS
    simp only at F
    go_enter Try.func27, Try.ntmps27
    go_wp2_with fail
    refine (F _ H).mono ?_
    clear F
    rintro e w1 ⟨rfl, hb⟩
    go_wp2_with fail
    go_ret
    have hb' := hb.alloc hb.size (.cells #[.int .i64 0, .int .i64 0] 64)
    exact ⟨by rw [HR.out]; rfl, A, by rw [HS.out]; exact H.below hb', Step.of_below hb'⟩
  | some b =>
    have L := fun (W : World) (hW : ArenaAt W A S) => lift_arena hW hf
    rw [hf] at F hR
    have HR := Lib.hid hR
    have HL := Lib.hid L
    clear hf hR L
    simp only at F
    go_enter Try.func27, Try.ntmps27
    go_wp2_with fail
    refine (F _ H).mono ?_
    clear F
    rintro e w1 ⟨rfl, hb⟩
    go_wp2_with fail
    have hb' := hb.alloc hb.size (.cells #[.int .i64 b.a, .int .i64 b.n] 64)
    refine (HL.out _ (H.below hb')).mono ?_
    rintro e w2 ⟨rfl, A', H2, S2⟩
    go_wp2_with fail
    go_ret
    exact ⟨by rw [HR.out]; rfl, A', H2, (Step.of_below hb').trans S2⟩
end Go.Proofs.Ytpaopcnbgdlgnaa
