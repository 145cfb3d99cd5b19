/- A value as a key. -/
import Derived.Test.YtpodgmajccmgkaaTabFloat
import Derived.Laws.Externs
import Derived.Laws.Cover2
namespace Go.Proofs.Ytpodgmajccmgkaa
open Go.RowKit
set_option linter.unusedVariables false
set_option linter.unusedSimpArgs false

set_option maxHeartbeats 1000000 in
theorem int_any (n : Int) (w : World) : Calls Try.prog 18 #[.int .i64 n] w fun e w' => e = .returned (V.val ⟨2, n⟩) ∧ Below w.heap.size w w' := by
  go_enter Try.func18, Try.ntmps18
  go_wp2_with fail
  refine bodyPost_ret (v := V.val ⟨2, n⟩) (by simp [results, Try.results18, go_sem, V.val]) rfl ⟨rfl, (by repeat (first | exact Below.refl _ _ | refine Below.alloc ?_ (by first | (simp; done) | (simp; omega)) _ | refine Below.drew ?_ | refine Below.setCell ?_ (by first | (simp; done) | (simp; omega)) _))⟩

theorem from_bits (n : Int) (w : World) : (callFunc 63 #[.int .u64 n]).run Try.prog w = .ok (.value (.float .f64 n.toNat)) w := by
  rw [run_callFunc_extern (e := Extern.MathFloatBits.float64frombits) Try.func63 (by kernel_rfl) (by kernel_rfl) (by kernel_rfl) (by kernel_rfl)]; rfl
theorem to_bits (b : Nat) (w : World) : (callFunc 51 #[.float .f64 b]).run Try.prog w = .ok (.value (.int .u64 b)) w := by
  rw [run_callFunc_extern (e := Extern.MathFloatBits.float64bits) Try.func51 (by kernel_rfl) (by kernel_rfl) (by kernel_rfl) (by kernel_rfl)]; rfl

/-- The bits of a float's number. -/
def fbits (n : Int) : Nat := (IntKind.u64.wrap n).toNat
def nanB (b : Nat) : Bool := FloatKind.f64.format.order b b != some Ordering.eq
def theNaN : Int := 9221120237041090561

set_option maxHeartbeats 1000000 in
theorem real_any (v : V) (w : World) : Calls Try.prog 60 #[v.val] w fun e w' => e = .returned (.float .f64 (fbits v.n)) ∧ Below w.heap.size w w' := by
  unfold V.val fbits
  have hd := from_bits (IntKind.u64.wrap v.n)
  go_enter Try.func60, Try.ntmps60
  go_wp2_with fail
  go_ret
  exact ⟨rfl, (by repeat (first | exact Below.refl _ _ | refine Below.alloc ?_ (by first | (simp; done) | (simp; omega)) _ | refine Below.drew ?_ | refine Below.setCell ?_ (by first | (simp; done) | (simp; omega)) _))⟩

/-- Is a value a number? -/
def isR (v : V) : Bool := if v.t = 3 then (if nanB (fbits v.n) = true then v.n == theNaN else true) else v.t == 2

theorem box_v {w w1 : World} {t n : Int} {e : TypeId} (hb : Below (w.heap.size + 1) (w.alloc (.cells #[.int .i64 t, .int .i64 n] e)) w1) : w1.cell? ⟨w.heap.size, 0, none⟩ = some (.int .i64 t) ∧ w1.cell? ⟨w.heap.size, 1, none⟩ = some (.int .i64 n) := by
  have h1 : w1.heap[w.heap.size]? = some (.cells [.int .i64 t, .int .i64 n].toArray e (0, 0)) := (hb.block _ (by omega)).trans (heap_alloc_new w _)
  exact ⟨cell_of_list h1 0, cell_of_list h1 1⟩

theorem below_up {w w1 : World} {o : Obj} (hb : Below (w.alloc o).heap.size (w.alloc o) w1) : Below (w.heap.size + 1) (w.alloc o) w1 ∧ Below w.heap.size w w1 := by
  have : (w.alloc o).heap.size = w.heap.size + 1 := by simp
  exact ⟨by rw [← this]; exact hb, (below_alloc w o).trans (hb.mono (by omega))⟩

set_option maxHeartbeats 1000000 in
theorem is_any (v : V) (w : World) : Calls Try.prog 59 #[v.val] w fun e w' => e = .returned (.bool (isR v)) ∧ Below w.heap.size w w' := by
  have R := real_any v
  obtain ⟨t, n⟩ := v
  have HI := Lib.hid (show isR ⟨t, n⟩ = if t = 3 then (if nanB (fbits n) = true then n == theNaN else true) else t == 2 from rfl)
  obtain ⟨q, hq⟩ : ∃ q, q = isR ⟨t, n⟩ := ⟨_, rfl⟩
  rw [← hq] at HI ⊢
  clear hq
  unfold V.val at *
  simp only at *
  by_cases h3 : t = 3
  · subst h3
    have hi := HI.out
    rw [if_pos rfl] at hi
    clear HI
    go_enter Try.func59, Try.ntmps59
    have HI := Lib.hid hi
    clear hi
    go_wp2_with fail
    refine (R _).mono ?_
    clear R
    rintro e w1 ⟨rfl, hb⟩
    obtain ⟨b, hbb⟩ : ∃ b, b = fbits n := ⟨_, rfl⟩
    have hi := HI.out
    rw [← hbb] at hi ⊢
    obtain ⟨hb1, hb2⟩ := below_up hb
    obtain ⟨d0, d1⟩ := box_v hb1
    have HB := Lib.hid hb2
    clear hbb hb hb1 hb2 HI
    by_cases hn : nanB b = true
    · rw [if_pos hn] at hi
      have hn' : (FloatKind.f64.format.order b b != some Ordering.eq) = true := hn
      have HI := Lib.hid hi
      clear hn hi
      go_wp2_with fail
      go_ret
      exact ⟨by rw [HI.out]; rfl, HB.out⟩
    · rw [if_neg hn] at hi
      have hn' : (FloatKind.f64.format.order b b != some Ordering.eq) = false := by simpa [nanB] using hn
      have HI := Lib.hid hi
      clear hn hi
      go_wp2_with fail
      go_ret
      exact ⟨by rw [HI.out]; rfl, HB.out⟩
  · have hi := HI.out
    rw [if_neg h3] at hi
    clear HI R
    by_cases h2 : t = 2
    · subst h2
      have HI := Lib.hid hi
      clear hi
      go_enter Try.func59, Try.ntmps59
      go_wp2_with fail
      go_ret
      exact ⟨by rw [HI.out]; rfl, (by repeat (first | exact Below.refl _ _ | refine Below.alloc ?_ (by first | (simp; done) | (simp; omega)) _ | refine Below.drew ?_ | refine Below.setCell ?_ (by first | (simp; done) | (simp; omega)) _))⟩
    · have hi' : q = false := by rw [hi]; simpa using h2
      have HI := Lib.hid hi'
      clear hi hi'
      go_enter Try.func59, Try.ntmps59
      go_wp2_with fail
      go_ret
      exact ⟨by rw [HI.out]; rfl, (by repeat (first | exact Below.refl _ _ | refine Below.alloc ?_ (by first | (simp; done) | (simp; omega)) _ | refine Below.drew ?_ | refine Below.setCell ?_ (by first | (simp; done) | (simp; omega)) _))⟩

def ofB (v : V) : Nat := if isR v = true then (if v.t = 2 then floatOfInt .f64 v.n else fbits v.n) else 0

set_option maxHeartbeats 1000000 in
theorem of_any (v : V) (w : World) : Calls Try.prog 44 #[v.val] w fun e w' => e = .returned (.tuple #[.float .f64 (ofB v), .bool (isR v)]) ∧ Below w.heap.size w w' := by
  have I := is_any v
  have R := real_any v
  obtain ⟨t, n⟩ := v
  obtain ⟨q, hq⟩ : ∃ q, q = isR ⟨t, n⟩ := ⟨_, rfl⟩
  have HI := Lib.hid (show ofB ⟨t, n⟩ = if q = true then (if t = 2 then floatOfInt .f64 n else fbits n) else 0 by rw [hq]; rfl)
  obtain ⟨b, hb⟩ : ∃ b, b = ofB ⟨t, n⟩ := ⟨_, rfl⟩
  rw [← hq] at I
  rw [← hb] at HI
  rw [← hb, ← hq]
  clear hb hq
  unfold V.val at *
  simp only at *
  go_enter Try.func44, Try.ntmps44
  go_wp2_with fail
  refine (I _).mono ?_
  clear I
  rintro e w1 ⟨rfl, hb⟩
  obtain ⟨hb1, hb2⟩ := below_up hb
  obtain ⟨d0, d1⟩ := box_v hb1
  have HB := Lib.hid hb2
  have HB1 := Lib.hid hb1
  clear hb hb1 hb2
  have hi := HI.out
  clear HI
  cases q with
  | false =>
    rw [if_neg (by simp)] at hi
    have HI := Lib.hid hi
    clear hi
    go_wp2_with fail
    go_ret2
    exact ⟨by rw [HI.out]; rfl, HB.out⟩
  | true =>
    rw [if_pos rfl] at hi
    by_cases h2 : t = 2
    · rw [if_pos h2] at hi
      have HI := Lib.hid hi
      subst h2
      clear hi
      go_wp2_with fail
      go_ret2
      exact ⟨by rw [HI.out]; rfl, HB.out⟩
    · rw [if_neg h2] at hi
      have HI := Lib.hid hi
      clear hi
      go_wp2_with fail
      refine (R _).mono ?_
      clear R
      rintro e w2 ⟨rfl, hb2⟩
      have HB2 := Lib.hid (HB.out.trans (hb2.mono HB.out.size))
      clear hb2
      go_wp2_with fail
      go_ret2
      exact ⟨by rw [HI.out]; rfl, HB2.out⟩

/-- A number as an int. -/
def wholeR (v : V) : Option Int :=
  if isR v = true then
    if v.t = 2 then some v.n
    else match floatToIntVal .f64 (fbits v.n) .i64 with
      | some n => if (FloatKind.f64.format.order (fbits v.n) 14114281232179134464 = some .gt ∨ FloatKind.f64.format.order (fbits v.n) 14114281232179134464 = some .eq) ∧
          FloatKind.f64.format.order (fbits v.n) 4890909195324358656 = some .lt ∧ FloatKind.f64.format.order (floatOfInt .f64 n) (fbits v.n) = some .eq then some n else none
      | none => none
  else none

set_option maxRecDepth 100000 in
set_option maxHeartbeats 1000000 in
theorem whole_any (v : V) (w : World) : Calls Try.prog 61 #[v.val] w fun e w' => (match wholeR v with
    | some n => e = .returned (.tuple #[.int .i64 n, .int .i64 0])
    | none => ∃ k : Int, k ≠ 0 ∧ e = .returned (.tuple #[.int .i64 0, .int .i64 k])) ∧ Below w.heap.size w w' := by
  have O := of_any v
  obtain ⟨t, n⟩ := v
  obtain ⟨q, hq⟩ : ∃ q, q = isR ⟨t, n⟩ := ⟨_, rfl⟩
  obtain ⟨b, hb⟩ : ∃ b, b = ofB ⟨t, n⟩ := ⟨_, rfl⟩
  have hbv : b = if q = true then (if t = 2 then floatOfInt .f64 n else fbits n) else 0 := by rw [hb, hq]; rfl
  obtain ⟨r, hr⟩ : ∃ r, r = wholeR ⟨t, n⟩ := ⟨_, rfl⟩
  have hrv : r = if q = true then
    if t = 2 then some n
    else match floatToIntVal .f64 (fbits n) .i64 with
      | some n' => if (FloatKind.f64.format.order (fbits n) 14114281232179134464 = some .gt ∨ FloatKind.f64.format.order (fbits n) 14114281232179134464 = some .eq) ∧
          FloatKind.f64.format.order (fbits n) 4890909195324358656 = some .lt ∧ FloatKind.f64.format.order (floatOfInt .f64 n') (fbits n) = some .eq then some n' else none
      | none => none
    else none := by rw [hr, hq]; rfl
  rw [← hq, ← hb] at O
  rw [← hr]
  have HBV := Lib.hid hbv
  have HRV := Lib.hid hrv
  clear hb hq hr hbv hrv
  unfold V.val at *
  simp only at *
  go_enter Try.func61, Try.ntmps61
  go_wp2_with fail
  refine (O _).mono ?_
  clear O
  rintro e w1 ⟨rfl, hb⟩
  obtain ⟨hb1, hb2⟩ := below_up hb
  obtain ⟨d0, d1⟩ := box_v hb1
  have HB := Lib.hid hb2
  clear hb hb1 hb2
  cases q with
  | false =>
    have hr := HRV.out
    rw [if_neg (by simp)] at hr
    subst hr
    clear HRV HBV
    go_wp2_with fail
    go_ret2
    exact ⟨⟨10, by decide, rfl⟩, HB.out⟩
  | true =>
    have hr := HRV.out
    rw [if_pos rfl] at hr
    have hbv := HBV.out
    rw [if_pos rfl] at hbv
    clear HRV HBV
    by_cases h2 : t = 2
    · rw [if_pos h2] at hr
      subst hr h2
      clear hbv
      go_wp2_with fail
      go_ret2
      exact ⟨rfl, HB.out⟩
    · rw [if_neg h2] at hr hbv
      rw [← hbv] at hr
      have HR := Lib.hid hr
      clear hbv hr
      by_cases hlo : FloatKind.f64.format.order b 14114281232179134464 = some .gt ∨ FloatKind.f64.format.order b 14114281232179134464 = some .eq
      · by_cases hhi : FloatKind.f64.format.order b 4890909195324358656 = some .lt
        · obtain ⟨m, hm⟩ := range_some hlo hhi
          have hc := fun W => run_convert_float_int (P := Try.prog) W 70 2 .f64 .i64 b m (by kernel_rfl) (by kernel_rfl) hm
          by_cases heq : FloatKind.f64.format.order (floatOfInt .f64 m) b = some .eq
          · have hr := HR.out
            rw [hm] at hr
            simp only at hr
            rw [if_pos ⟨hlo, hhi, heq⟩] at hr
            subst hr
            clear HR hm
            rcases hlo with hlo | hlo
            all_goals
              go_wp2_with fail
              go_ret2
              exact ⟨rfl, HB.out⟩
          · have hr := HR.out
            rw [hm] at hr
            simp only at hr
            rw [if_neg (fun h => heq h.2.2)] at hr
            subst hr
            have heq' : (FloatKind.f64.format.order (floatOfInt .f64 m) b != some .eq) = true := by simp [heq]
            clear HR hm
            rcases hlo with hlo | hlo
            all_goals
              go_wp2_with fail
              go_ret2
              exact ⟨⟨12, by decide, rfl⟩, HB.out⟩
        · have hr : r = none := by
            have := HR.out
            rw [this]
            split
            · rw [if_neg (fun h => hhi h.2.1)]
            · rfl
          subst hr
          have hhi' : (FloatKind.f64.format.order b 4890909195324358656 == some .lt) = false := by simp [hhi]
          clear HR hhi
          rcases hlo with hlo | hlo
          all_goals
            go_wp2_with fail
            go_ret2
            exact ⟨⟨12, by decide, rfl⟩, HB.out⟩
      · have hr : r = none := by
          have := HR.out
          rw [this]
          split
          · rw [if_neg (fun h => hlo h.1)]
          · rfl
        subst hr
        clear HR
        have hg1 : (FloatKind.f64.format.order b 14114281232179134464 == some .gt) = false := by
          have : ¬ FloatKind.f64.format.order b 14114281232179134464 = some .gt := fun h => hlo (.inl h)
          simp [this]
        have hg2 : (FloatKind.f64.format.order b 14114281232179134464 == some .eq) = false := by
          have : ¬ FloatKind.f64.format.order b 14114281232179134464 = some .eq := fun h => hlo (.inr h)
          simp [this]
        clear hlo
        go_wp2_with fail
        go_ret2
        exact ⟨⟨12, by decide, rfl⟩, HB.out⟩
end Go.Proofs.Ytpodgmajccmgkaa
