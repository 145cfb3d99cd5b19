/- The reference's rows: a block less, a block more. -/
import Derived.Test.YtpaopcnbgdlgnaaRefRead2
import Derived.Laws.AppendOwnNone
namespace Go.Proofs.Ytpaopcnbgdlgnaa
open Go.RowKit Go.MapKept
set_option linter.unusedVariables false
set_option linter.unusedSimpArgs false

theorem Try.infoB84 : (Try.prog.info? 84).map (fun i => (i.zero, i.size, i.bytes)) = some (some (.agg #[.int .i64 0, .int .i64 0, .slice none 0 0]), 3, 40) := by kernel_rfl

variable {X : Nat → Prop} {w : World} {p N : Nat} {v : Value} {S : St} {T : List RBlk}

theorem flat_one : ∀ u ∈ flat T, u.oneCell' = true := by
  intro u hu
  obtain ⟨b, _, hb⟩ := List.mem_flatMap.1 hu
  simp only [RBlk.vals, List.mem_cons, List.not_mem_nil, or_false] at hb
  rcases hb with rfl | rfl | rfl <;> rfl

theorem cells_new (w : World) (l : List Value) (t : TypeId) : ∀ j u, l[j]? = some u → (w.alloc (.cells l.toArray t)).cell? ((⟨w.heap.size, 0, none⟩ : Addr).add j) = some u := by
  intro j u hu
  rw [addr_add, Nat.zero_add]
  exact (cell_of_list (heap_alloc_new w _) j).trans hu

theorem row_base {w : World} {b B n k : Nat} {e : TypeId} {v : Value} {xs : List Value} (h : w.ownsRow B e k v n xs) (hb : b ≤ B) : w.ownsRow b e k v n xs := by
  refine ⟨h.1, ?_⟩
  rcases h.2 with hn | ⟨g, cap, cur, hv, h1, h2⟩
  · exact .inl hn
  · exact .inr ⟨g, cap, cur, hv, by omega, h2⟩

def RowPost (w : World) (T : List RBlk) (e : Ending) (w' : World) : Prop :=
  ∃ v', e = .returned v' ∧ w'.ownsRow w.heap.size 84 3 v' T.length (flat T) ∧ Below w.heap.size w w'

set_option maxHeartbeats 1000000 in
theorem ref_cut {i base : Nat} (hrow : w.ownsRow base 84 3 v T.length (flat T)) (hi : i < T.length) (hlen : T.length ≤ 65536) :
    Calls Try.prog 59 #[v, .int .i64 i] w fun e w' => RowPost w (T.take i ++ T.drop (i + 1)) e w' := by
  obtain ⟨i0, hi0, hz0, hz1, hz2⟩ := info_parts Try.infoB84
  have hr0 := hrow
  rcases hrow.2 with ⟨-, h0⟩ | ⟨g, c, cur, rfl, hb, hg, hnc, hcm, hcs, htk⟩
  · omega
  obtain ⟨M, hM⟩ : ∃ M, M = T.length := ⟨_, rfl⟩
  have HR := Lib.hid hr0
  rw [← hM] at hi hlen hnc ⊢
  have HM := Lib.hid hM
  have hgl : g < w.heap.size := (Array.getElem?_eq_some_iff.1 hg).1
  have hic : i ≤ c := by omega
  have HL := Lib.hid (show (T.take i ++ T.drop (i + 1)).length = i + (M - (i + 1)) by rw [List.length_append, List.length_take, List.length_drop]; omega)
  clear hrow hr0 hM hg hcs htk hb
  go_enter Try.func59, Try.ntmps59
  go_wp2_with (at_builtin; refine wpList_append_own _ rfl _ _ 75 rfl w.heap.size 84 i0 (.agg #[.int .i64 0, .int .i64 0, .slice none 0 0]) 3 40 Try.underlying75 hi0 hz0 hz1 hz2 rfl (by decide) (.slice none 0 0) 0 [] rfl (World.ownsRow_nil _ _ _ _) ⟨g, 0, none⟩ i c (flat (T.take i)) rfl ?_ ?_ ?_ ?_ ?_ ?_ ?_)
  · rw [flat_length, List.length_take, Nat.min_eq_left (by have := HM.out; omega)]
  · intro j u hu
    refine HR.out.cells (g := g) rfl j u ?_
    rw [← flat_take] at hu
    have hj := (List.getElem?_eq_some_iff.1 hu).1
    rw [List.length_take] at hj
    rwa [List.getElem?_take_of_lt (by omega)] at hu
  · exact flat_one
  · unfold maxLen; omega
  · omega
  · exact Nat.le_refl _
  intro v1 w1 hown1 hg1 _
  have hb1 : Below w.heap.size w w1 := (Below.refl _ _).grown hg1 (Nat.le_refl _) (by simp [Value.ownBlock])
  have hr1 := ownsRow_of_block HR.out fun k hk => hb1.block k (HR.out.lt k hk).2
  have hs1 := hb1.size
  try simp only [Nat.zero_add, List.nil_append] at hown1
  have HR1 := Lib.hid hr1
  have HB1 := Lib.hid hb1
  have q1 : IntKind.i64.wrap ((i : Int) + 1) = (i : Int) + 1 := IntWalk.i64_in _ (by omega)
  have q2 : 0 ≤ (i : Int) + 1 := by omega
  have q3 : ((i : Int) + 1).toNat = i + 1 := by omega
  have q4 : i + 1 ≤ M := by omega
  have q6 : (i : Int) + 1 ≤ M := by omega
  obtain ⟨AD, hAD, HAD⟩ : ∃ AD : Addr, (if c = i + 1 then some (⟨g, 0, none⟩ : Addr) else some ⟨g, (i + 1) * 3, none⟩) = some AD ∧ Hid (∀ j u, (flat (T.drop (i + 1)))[j]? = some u → w1.cell? (AD.add j) = some u) := by
    refine ⟨if c = i + 1 then ⟨g, 0, none⟩ else ⟨g, (i + 1) * 3, none⟩, by split <;> rfl, ?_⟩
    intro j u hu
    have hj := (List.getElem?_eq_some_iff.1 hu).1
    rw [flat_length, List.length_drop] at hj
    have hM := HM.out
    rw [if_neg (by omega), addr_add]
    rw [← flat_drop, List.getElem?_drop] at hu
    have := HR1.out.cells (g := g) rfl _ u hu
    rw [addr_add, Nat.zero_add] at this
    exact this
  clear hr1 hg1 hb1
  go_wp2_with (at_builtin; refine wpList_append_own _ rfl _ _ 75 rfl w.heap.size 84 i0 (.agg #[.int .i64 0, .int .i64 0, .slice none 0 0]) 3 40 Try.underlying75 hi0 hz0 hz1 hz2 rfl (by decide) _ i (flat (T.take i)) rfl hown1 AD (M - (i + 1)) (c - (i + 1)) (flat (T.drop (i + 1))) rfl ?_ ?_ ?_ ?_ ?_ ?_ ?_)
  · rw [flat_length, List.length_drop, ← HM.out]
  · exact HAD.out
  · exact flat_one
  · unfold maxLen; omega
  · omega
  · exact hs1
  intro v2 w2 hown2 hg2 _
  have HP := Lib.hid (show RowPost w (T.take i ++ T.drop (i + 1)) (.returned v2) w2 from ⟨v2, rfl, by rw [HL.out, flat_app]; exact hown2, HB1.out.grown hg2 hs1 (fun k hk => (hown1.lt k hk).1)⟩)
  clear hown2 hg2
  go_wp2_with fail
  go_ret
  exact HP.out

set_option maxHeartbeats 1000000 in
theorem ref_put {i base : Nat} (b : RBlk) (hrow : w.ownsRow base 84 3 v T.length (flat T)) (hi : i ≤ T.length) (hlen : T.length ≤ 65536) :
    Calls Try.prog 58 #[v, .int .i64 i, .agg #[.int .i64 b.h, .int .i64 b.a, .slice (some ⟨b.d, 0, none⟩) b.xs.length b.xs.length]] w fun e w' => RowPost w (T.take i ++ b :: T.drop i) e w' := by
  obtain ⟨i0, hi0, hz0, hz1, hz2⟩ := info_parts Try.infoB84
  have hr0 := hrow
  have hbl := below_alloc w (.cells #[.int .i64 b.h, .int .i64 b.a, .slice (some ⟨b.d, 0, none⟩) b.xs.length b.xs.length] 84)
  have HBL := Lib.hid hbl
  have hbx : ∀ w1 : World, Below (w.heap.size + 1) (w.alloc (.cells #[.int .i64 b.h, .int .i64 b.a, .slice (some ⟨b.d, 0, none⟩) b.xs.length b.xs.length] 84)) w1 →
      w1.cell? ⟨w.heap.size, 0, none⟩ = some (.int .i64 b.h) ∧ w1.cell? ⟨w.heap.size, 1, none⟩ = some (.int .i64 b.a) ∧ w1.cell? ⟨w.heap.size, 2, none⟩ = some (.slice (some ⟨b.d, 0, none⟩) b.xs.length b.xs.length) := by
    intro w1 hw
    have hh := hw.block w.heap.size (by omega)
    have hn := heap_alloc_new w (.cells #[.int .i64 b.h, .int .i64 b.a, .slice (some ⟨b.d, 0, none⟩) b.xs.length b.xs.length] 84)
    rw [hn] at hh
    exact ⟨by simp [World.cell?, hh], by simp [World.cell?, hh], by simp [World.cell?, hh]⟩
  have HBX := Lib.hid hbx
  obtain ⟨M, hM⟩ : ∃ M, M = T.length := ⟨_, rfl⟩
  have HR := Lib.hid hr0
  have HM := Lib.hid hM
  have HL := Lib.hid (show (T.take i ++ b :: T.drop i).length = i + 1 + (M - i) by rw [List.length_append, List.length_cons, List.length_take, List.length_drop]; omega)
  have HF := Lib.hid (show flat (T.take i ++ b :: T.drop i) = flat (T.take i) ++ (b.vals ++ flat (T.drop i)) by rw [flat_app, flat_cons])
  rcases hrow.2 with ⟨rfl, h0⟩ | ⟨g, c, cur, rfl, hb, hg, hnc, hcm, hcs, htk⟩
  · obtain rfl : i = 0 := by omega
    obtain rfl : T = [] := List.eq_nil_of_length_eq_zero h0
    obtain rfl : M = 0 := hM
    have hb0 := hbx _ (Below.refl _ _)
    obtain ⟨e0, e1, e2⟩ := hb0
    clear hrow hr0 hbl hbx hi hlen h0
    go_enter Try.func58, Try.ntmps58
    go_wp2_with (at_builtin; first | refine wpList_append_own_none rfl _ _ 75 rfl 0 84 i0 3 Try.underlying75 hi0 (.slice none 0 0) 0 [] rfl (World.ownsRow_nil _ _ _ _) rfl ?_ | refine wpList_append_own _ rfl _ _ 75 rfl (w.heap.size + 1) 84 i0 (.agg #[.int .i64 0, .int .i64 0, .slice none 0 0]) 3 40 Try.underlying75 hi0 hz0 hz1 hz2 rfl (by decide) (.slice none 0 0) 0 [] rfl (World.ownsRow_nil _ _ _ _) _ _ _ b.vals rfl rfl ?_ ?_ ?_ ?_ ?_ ?_)
    · have h := cells_new (w.alloc (.cells #[.int .i64 b.h, .int .i64 b.a, .slice (some ⟨b.d, 0, none⟩) b.xs.length b.xs.length] 84)) b.vals 84
      rw [size_alloc'] at h
      exact h
    · intro u hu
      exact flat_one (T := [b]) u (by rw [flat_cons, flat_nil, List.append_nil]; exact hu)
    · unfold maxLen; omega
    · omega
    · simp
    intro v2 w2 hown2 hg2 _
    have hB2 : Below w.heap.size w w2 := (HBL.out.alloc HBL.out.size _).grown hg2 (by simp; omega) (by simp [Value.ownBlock])
    have HB2 := Lib.hid hB2
    try simp only [Nat.zero_add, List.nil_append] at hown2
    clear hg2 hB2 e0 e1 e2
    go_wp2_with (at_builtin; refine wpList_append_own_none rfl _ _ 75 rfl (w.heap.size + 1) 84 i0 3 Try.underlying75 hi0 v2 _ _ rfl hown2 rfl ?_)
    have HP := Lib.hid (show RowPost w (([] : List RBlk).take 0 ++ b :: ([] : List RBlk).drop 0) (.returned v2) w2 from ⟨v2, rfl, by have := row_base hown2 (Nat.le_succ _); simpa [flat] using this, HB2.out⟩)
    clear hown2
    go_wp2_with fail
    go_ret
    exact HP.out
  · rw [← hM] at hi hlen hnc ⊢
    have hgl : g < w.heap.size := (Array.getElem?_eq_some_iff.1 hg).1
    have hic : i ≤ c := by omega
    clear hrow hr0 hM hg hcs htk hb hbl hbx
    go_enter Try.func58, Try.ntmps58
    go_wp2_with (at_builtin; refine wpList_append_own _ rfl _ _ 75 rfl (w.heap.size + 1) 84 i0 (.agg #[.int .i64 0, .int .i64 0, .slice none 0 0]) 3 40 Try.underlying75 hi0 hz0 hz1 hz2 rfl (by decide) (.slice none 0 0) 0 [] rfl (World.ownsRow_nil _ _ _ _) ⟨g, 0, none⟩ i c (flat (T.take i)) rfl ?_ ?_ ?_ ?_ ?_ ?_ ?_)
    · rw [flat_length, List.length_take, Nat.min_eq_left (by have := HM.out; omega)]
    · intro j u hu
      rw [← flat_take] at hu
      have hj := (List.getElem?_eq_some_iff.1 hu).1
      rw [List.length_take] at hj
      rw [List.getElem?_take_of_lt (by omega)] at hu
      exact (HBL.out.cell (by rw [blk_add]; exact hgl)).trans (HR.out.cells (g := g) rfl j u hu)
    · exact flat_one
    · unfold maxLen; omega
    · omega
    · simp
    intro v1 w1 hown1 hg1 _
    have hb1 : Below (w.heap.size + 1) _ w1 := (Below.refl _ _).grown hg1 (by simp) (by simp [Value.ownBlock])
    try simp only [Nat.zero_add, List.nil_append] at hown1
    obtain ⟨e0, e1, e2⟩ := HBX.out w1 hb1
    have hs1 := hb1.size
    have hB1 := HBL.out.trans (hb1.mono (by omega))
    have HB1 := Lib.hid hB1
    clear hg1 hB1 hb1
    go_wp2_with (at_builtin; refine wpList_append_own _ rfl _ _ 75 rfl (w.heap.size + 1) 84 i0 (.agg #[.int .i64 0, .int .i64 0, .slice none 0 0]) 3 40 Try.underlying75 hi0 hz0 hz1 hz2 rfl (by decide) _ i (flat (T.take i)) rfl (hown1.alloc _) _ _ _ b.vals rfl rfl ?_ ?_ ?_ ?_ ?_ ?_)
    · exact cells_new w1 b.vals _
    · intro u hu
      exact flat_one (T := [b]) u (by rw [flat_cons, flat_nil, List.append_nil]; exact hu)
    · unfold maxLen; omega
    · omega
    · simp at hs1 ⊢; omega
    intro v2 w2 hown2 hg2 _
    have hsz1 : w.heap.size + 1 ≤ w1.heap.size := by simpa using hs1
    have hB2 : Below w.heap.size w w2 := (HB1.out.alloc (by omega) _).grown hg2 (by simp; omega) (fun k hk => by have := (hown1.lt k hk).1; omega)
    have hs2 : w.heap.size + 1 ≤ w2.heap.size := by have := hg2.size; simp at this; omega
    have HR2 := Lib.hid (ownsRow_of_block HR.out fun k hk => hB2.block k (HR.out.lt k hk).2)
    have HB2 := Lib.hid hB2
    have q1 : 0 ≤ (i : Int) := by omega
    obtain ⟨AD, hAD, HAD⟩ : ∃ AD : Addr, (if c = i then some (⟨g, 0, none⟩ : Addr) else some ⟨g, i * 3, none⟩) = some AD ∧ Hid (∀ j u, (flat (T.drop i))[j]? = some u → w2.cell? (AD.add j) = some u) := by
      refine ⟨if c = i then ⟨g, 0, none⟩ else ⟨g, i * 3, none⟩, by split <;> rfl, ?_⟩
      intro j u hu
      have hj := (List.getElem?_eq_some_iff.1 hu).1
      rw [flat_length, List.length_drop] at hj
      have hM := HM.out
      rw [if_neg (by omega), addr_add]
      rw [← flat_drop, List.getElem?_drop] at hu
      have := HR2.out.cells (g := g) rfl _ u hu
      rw [addr_add, Nat.zero_add] at this
      exact this
    clear hg2 hB2 hown1 e0 e1 e2
    go_wp2_with (at_builtin; refine wpList_append_own _ rfl _ _ 75 rfl (w.heap.size + 1) 84 i0 (.agg #[.int .i64 0, .int .i64 0, .slice none 0 0]) 3 40 Try.underlying75 hi0 hz0 hz1 hz2 rfl (by decide) _ (i + 1) (flat (T.take i) ++ b.vals) rfl hown2 AD (M - i) (c - i) (flat (T.drop i)) rfl ?_ ?_ ?_ ?_ ?_ ?_ ?_)
    · rw [flat_length, List.length_drop, ← HM.out]
    · exact HAD.out
    · exact flat_one
    · unfold maxLen; omega
    · omega
    · exact hs2
    intro v3 w3 hown3 hg3 _
    have HP := Lib.hid (show RowPost w (T.take i ++ b :: T.drop i) (.returned v3) w3 from ⟨v3, rfl, by rw [HL.out, HF.out]; exact row_base hown3 (Nat.le_succ _), HB2.out.grown hg3 (by omega) (fun k hk => by have := (hown2.lt k hk).1; omega)⟩)
    clear hown3 hg3
    go_wp2_with fail
    go_ret
    exact HP.out
end Go.Proofs.Ytpaopcnbgdlgnaa
