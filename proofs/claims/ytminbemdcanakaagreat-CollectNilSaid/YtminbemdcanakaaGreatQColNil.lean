/- Objects and collectors that are none. -/
import Derived.Test.YtminbemdcanakaaGreatME
import Derived.Test.YtminbemdcanakaaGreatMN
namespace Go.Proofs.YtminbemdcanakaaGreat
open Go.RowKit Go.Shelf
set_option linter.unusedVariables false
set_option linter.unusedSimpArgs false
attribute [local go_sem high] run_tail

variable {w : World}
set_option maxHeartbeats 1000000 in
theorem at_nil (h : Int) : Calls Tryz.prog 77 #[.pointer none, .int .i64 h] w fun e w' => e = .returned (.pointer none) ∧ w' = w := by
  go_enter Tryz.func77, Tryz.ntmps77
  go_wp2_with fail
  go_ret
  exact ⟨rfl, rfl⟩
set_option maxHeartbeats 1000000 in
theorem setColour_nil (h n : Int) : Calls Tryz.prog 24 #[.pointer none, .int .i64 h, .int .i64 n] w fun e w' => e = .returned (.tuple #[]) ∧ Below w.heap.size w w' := by
  go_enter Tryz.func24, Tryz.ntmps24
  go_wp2_with fail
  refine (at_nil _).mono ?_
  rintro x0 w0 ⟨rfl, hww⟩
  have hww' := hww.symm
  subst hww'
  clear hww
  go_wp2_with fail
  first | go_ret | go_ret2 | go_end0 | refine bodyPost_ret (results_none rfl _ _ _) rfl ?_
  all_goals exact ⟨rfl, (by repeat (first | exact Below.refl _ _ | refine Below.alloc ?_ (by first | (simp; done) | (simp; omega)) _ | refine below_drewN ?_ _ | refine Below.drew ?_ | refine Below.setCell ?_ (by first | (simp; done) | (simp; omega)) _))⟩
set_option maxHeartbeats 1000000 in
theorem setAge_nil (h n : Int) : Calls Tryz.prog 25 #[.pointer none, .int .i64 h, .int .i64 n] w fun e w' => e = .returned (.tuple #[]) ∧ Below w.heap.size w w' := by
  go_enter Tryz.func25, Tryz.ntmps25
  go_wp2_with fail
  refine (at_nil _).mono ?_
  rintro x0 w0 ⟨rfl, hww⟩
  have hww' := hww.symm
  subst hww'
  clear hww
  go_wp2_with fail
  first | go_ret | go_ret2 | go_end0 | refine bodyPost_ret (results_none rfl _ _ _) rfl ?_
  all_goals exact ⟨rfl, (by repeat (first | exact Below.refl _ _ | refine Below.alloc ?_ (by first | (simp; done) | (simp; omega)) _ | refine below_drewN ?_ _ | refine Below.drew ?_ | refine Below.setCell ?_ (by first | (simp; done) | (simp; omega)) _))⟩
set_option maxHeartbeats 1000000 in
theorem setFin_nil (h n : Int) : Calls Tryz.prog 27 #[.pointer none, .int .i64 h, .int .i64 n] w fun e w' => e = .returned (.tuple #[]) ∧ Below w.heap.size w w' := by
  go_enter Tryz.func27, Tryz.ntmps27
  go_wp2_with fail
  refine (at_nil _).mono ?_
  rintro x0 w0 ⟨rfl, hww⟩
  have hww' := hww.symm
  subst hww'
  clear hww
  go_wp2_with fail
  first | go_ret | go_ret2 | go_end0 | refine bodyPost_ret (results_none rfl _ _ _) rfl ?_
  all_goals exact ⟨rfl, (by repeat (first | exact Below.refl _ _ | refine Below.alloc ?_ (by first | (simp; done) | (simp; omega)) _ | refine below_drewN ?_ _ | refine Below.drew ?_ | refine Below.setCell ?_ (by first | (simp; done) | (simp; omega)) _))⟩
set_option maxHeartbeats 1000000 in
theorem clear_nil (h n : Int) (b : Bool) : Calls Tryz.prog 29 #[.pointer none, .int .i64 h, .int .i64 n, .bool b] w fun e w' => e = .returned (.tuple #[]) ∧ Below w.heap.size w w' := by
  go_enter Tryz.func29, Tryz.ntmps29
  go_wp2_with fail
  refine (at_nil _).mono ?_
  rintro x0 w0 ⟨rfl, hww⟩
  have hww' := hww.symm
  subst hww'
  clear hww
  go_wp2_with fail
  first | go_ret | go_ret2 | go_end0 | refine bodyPost_ret (results_none rfl _ _ _) rfl ?_
  all_goals exact ⟨rfl, (by repeat (first | exact Below.refl _ _ | refine Below.alloc ?_ (by first | (simp; done) | (simp; omega)) _ | refine below_drewN ?_ _ | refine Below.drew ?_ | refine Below.setCell ?_ (by first | (simp; done) | (simp; omega)) _))⟩
set_option maxHeartbeats 1000000 in
theorem drop_nil (h : Int) : Calls Tryz.prog 31 #[.pointer none, .int .i64 h] w fun e w' => e = .returned (.tuple #[]) ∧ Below w.heap.size w w' := by
  go_enter Tryz.func31, Tryz.ntmps31
  go_wp2_with fail
  refine (at_nil _).mono ?_
  rintro x0 w0 ⟨rfl, hww⟩
  have hww' := hww.symm
  subst hww'
  clear hww
  go_wp2_with fail
  first | go_ret | go_ret2 | go_end0 | refine bodyPost_ret (results_none rfl _ _ _) rfl ?_
  all_goals exact ⟨rfl, (by repeat (first | exact Below.refl _ _ | refine Below.alloc ?_ (by first | (simp; done) | (simp; omega)) _ | refine below_drewN ?_ _ | refine Below.drew ?_ | refine Below.setCell ?_ (by first | (simp; done) | (simp; omega)) _))⟩
set_option maxHeartbeats 1000000 in
theorem kind_nil (h : Int) : Calls Tryz.prog 38 #[.pointer none, .int .i64 h] w fun e w' => e = .returned (.int .i64 0) ∧ Below w.heap.size w w' := by
  go_enter Tryz.func38, Tryz.ntmps38
  go_wp2_with fail
  refine (at_nil _).mono ?_
  rintro x0 w0 ⟨rfl, hww⟩
  have hww' := hww.symm
  subst hww'
  clear hww
  go_wp2_with fail
  first | go_ret | go_ret2 | go_end0 | refine bodyPost_ret (results_none rfl _ _ _) rfl ?_
  all_goals exact ⟨rfl, (by repeat (first | exact Below.refl _ _ | refine Below.alloc ?_ (by first | (simp; done) | (simp; omega)) _ | refine below_drewN ?_ _ | refine Below.drew ?_ | refine Below.setCell ?_ (by first | (simp; done) | (simp; omega)) _))⟩
set_option maxHeartbeats 1000000 in
theorem cells_nil (h : Int) : Calls Tryz.prog 64 #[.pointer none, .int .i64 h] w fun e w' => e = .returned (.int .i64 0) ∧ Below w.heap.size w w' := by
  go_enter Tryz.func64, Tryz.ntmps64
  go_wp2_with fail
  refine (at_nil _).mono ?_
  rintro x0 w0 ⟨rfl, hww⟩
  have hww' := hww.symm
  subst hww'
  clear hww
  go_wp2_with fail
  first | go_ret | go_ret2 | go_end0 | refine bodyPost_ret (results_none rfl _ _ _) rfl ?_
  all_goals exact ⟨rfl, (by repeat (first | exact Below.refl _ _ | refine Below.alloc ?_ (by first | (simp; done) | (simp; omega)) _ | refine below_drewN ?_ _ | refine Below.drew ?_ | refine Below.setCell ?_ (by first | (simp; done) | (simp; omega)) _))⟩
set_option maxHeartbeats 1000000 in
theorem colour_nil (h : Int) : Calls Tryz.prog 65 #[.pointer none, .int .i64 h] w fun e w' => e = .returned (.int .i64 0) ∧ Below w.heap.size w w' := by
  go_enter Tryz.func65, Tryz.ntmps65
  go_wp2_with fail
  refine (at_nil _).mono ?_
  rintro x0 w0 ⟨rfl, hww⟩
  have hww' := hww.symm
  subst hww'
  clear hww
  go_wp2_with fail
  first | go_ret | go_ret2 | go_end0 | refine bodyPost_ret (results_none rfl _ _ _) rfl ?_
  all_goals exact ⟨rfl, (by repeat (first | exact Below.refl _ _ | refine Below.alloc ?_ (by first | (simp; done) | (simp; omega)) _ | refine below_drewN ?_ _ | refine Below.drew ?_ | refine Below.setCell ?_ (by first | (simp; done) | (simp; omega)) _))⟩
set_option maxHeartbeats 1000000 in
theorem age_nil (h : Int) : Calls Tryz.prog 66 #[.pointer none, .int .i64 h] w fun e w' => e = .returned (.int .i64 0) ∧ Below w.heap.size w w' := by
  go_enter Tryz.func66, Tryz.ntmps66
  go_wp2_with fail
  refine (at_nil _).mono ?_
  rintro x0 w0 ⟨rfl, hww⟩
  have hww' := hww.symm
  subst hww'
  clear hww
  go_wp2_with fail
  first | go_ret | go_ret2 | go_end0 | refine bodyPost_ret (results_none rfl _ _ _) rfl ?_
  all_goals exact ⟨rfl, (by repeat (first | exact Below.refl _ _ | refine Below.alloc ?_ (by first | (simp; done) | (simp; omega)) _ | refine below_drewN ?_ _ | refine Below.drew ?_ | refine Below.setCell ?_ (by first | (simp; done) | (simp; omega)) _))⟩
set_option maxHeartbeats 1000000 in
theorem set_nil (h n : Int) (v : V) : Calls Tryz.prog 21 #[.pointer none, .int .i64 h, .int .i64 n, v.val] w fun e w' => e = .returned (.bool false) ∧ Below w.heap.size w w' := by
  go_enter Tryz.func21, Tryz.ntmps21
  go_wp2_with fail
  refine (at_nil _).mono ?_
  rintro x0 w0 ⟨rfl, hww⟩
  have hww' := hww.symm
  subst hww'
  clear hww
  go_wp2_with fail
  first | go_ret | go_ret2 | go_end0 | refine bodyPost_ret (results_none rfl _ _ _) rfl ?_
  all_goals exact ⟨rfl, (by repeat (first | exact Below.refl _ _ | refine Below.alloc ?_ (by first | (simp; done) | (simp; omega)) _ | refine below_drewN ?_ _ | refine Below.drew ?_ | refine Below.setCell ?_ (by first | (simp; done) | (simp; omega)) _))⟩
set_option maxHeartbeats 1000000 in
theorem order_nil  : Calls Tryz.prog 63 #[.pointer none] w fun e w' => e = .returned (.slice none 0 0) ∧ Below w.heap.size w w' := by
  go_enter Tryz.func63, Tryz.ntmps63
  go_wp2_with fail
  first | go_ret | go_ret2 | go_end0 | refine bodyPost_ret (results_none rfl _ _ _) rfl ?_
  all_goals exact ⟨rfl, (by repeat (first | exact Below.refl _ _ | refine Below.alloc ?_ (by first | (simp; done) | (simp; omega)) _ | refine below_drewN ?_ _ | refine Below.drew ?_ | refine Below.setCell ?_ (by first | (simp; done) | (simp; omega)) _))⟩
set_option maxHeartbeats 1000000 in
theorem roots_nil  : Calls Tryz.prog 53 #[.pointer none] w fun e w' => e = .returned (.slice none 0 0) ∧ Below w.heap.size w w' := by
  go_enter Tryz.func53, Tryz.ntmps53
  go_wp2_with fail
  first | go_ret | go_ret2 | go_end0 | refine bodyPost_ret (results_none rfl _ _ _) rfl ?_
  all_goals exact ⟨rfl, (by repeat (first | exact Below.refl _ _ | refine Below.alloc ?_ (by first | (simp; done) | (simp; omega)) _ | refine below_drewN ?_ _ | refine Below.drew ?_ | refine Below.setCell ?_ (by first | (simp; done) | (simp; omega)) _))⟩
set_option maxHeartbeats 1000000 in
theorem thing_nil (h : Int) : Calls Tryz.prog 39 #[.pointer none, .int .i64 h] w fun e w' => e = .returned (.agg #[.int .i64 0, .int .i64 0, .int .i64 0, .slice none 0 0, .int .i64 0]) ∧ Below w.heap.size w w' := by
  have HB := Lib.hid (show Box (w.alloc thingZ) w.heap.size [.int .i64 0, .int .i64 0, .int .i64 0, .slice none 0 0, .int .i64 0] 36 from Box.new _ _ _)
  go_enter Tryz.func39, Tryz.ntmps39
  go_wp2_with fail
  refine (at_nil _).mono ?_
  rintro x1 w1 ⟨rfl, rfl⟩
  go_wp2_with fail
  refine bodyPost_ret (res_thing rfl _ _ w.heap.size rfl HB.out) rfl ?_
  exact ⟨rfl, below_alloc _ _⟩
set_option maxHeartbeats 1000000 in
theorem setRoots_nil (v : Value) : Calls Tryz.prog 23 #[.pointer none, v] w fun e w' => e = .returned (.tuple #[]) ∧ Below w.heap.size w w' := by
  go_enter Tryz.func23, Tryz.ntmps23
  go_wp2_with fail
  first | go_ret | go_ret2 | go_end0 | refine bodyPost_ret (results_none rfl _ _ _) rfl ?_
  all_goals exact ⟨rfl, (by repeat (first | exact Below.refl _ _ | refine Below.alloc ?_ (by first | (simp; done) | (simp; omega)) _ | refine below_drewN ?_ _ | refine Below.drew ?_ | refine Below.setCell ?_ (by first | (simp; done) | (simp; omega)) _))⟩
set_option maxHeartbeats 1000000 in
theorem add_nil (a b c d e : Value) : Calls Tryz.prog 19 #[.pointer none, .agg #[a, b, c, d, e]] w fun e w' => e = .returned (.int .i64 0) ∧ Below w.heap.size w w' := by
  go_enter Tryz.func19, Tryz.ntmps19
  go_wp2_with fail
  first | go_ret | go_ret2 | go_end0 | refine bodyPost_ret (results_none rfl _ _ _) rfl ?_
  all_goals exact ⟨rfl, (by repeat (first | exact Below.refl _ _ | refine Below.alloc ?_ (by first | (simp; done) | (simp; omega)) _ | refine below_drewN ?_ _ | refine Below.drew ?_ | refine Below.setCell ?_ (by first | (simp; done) | (simp; omega)) _))⟩
set_option maxHeartbeats 1000000 in
theorem new_nil  : Calls Tryz.prog 42 #[.nilIface] w fun e w' => e = .returned (.pointer none) ∧ Below w.heap.size w w' := by
  go_enter Tryz.func42, Tryz.ntmps42
  go_wp2_with fail
  first | go_ret | go_ret2 | go_end0 | refine bodyPost_ret (results_none rfl _ _ _) rfl ?_
  all_goals exact ⟨rfl, (by repeat (first | exact Below.refl _ _ | refine Below.alloc ?_ (by first | (simp; done) | (simp; omega)) _ | refine below_drewN ?_ _ | refine Below.drew ?_ | refine Below.setCell ?_ (by first | (simp; done) | (simp; omega)) _))⟩
set_option maxHeartbeats 1000000 in
theorem birth_nil (h : Int) : Calls Tryz.prog 60 #[.pointer none, .int .i64 h] w fun e w' => e = .returned (.tuple #[]) ∧ Below w.heap.size w w' := by
  go_enter Tryz.func60, Tryz.ntmps60
  go_wp2_with fail
  refine (there_nil).mono ?_
  rintro x0 w0 ⟨rfl, hww⟩
  have hww' := hww.symm
  subst hww'
  clear hww
  go_wp2_with fail
  first | go_ret | go_ret2 | go_end0 | refine bodyPost_ret (results_none rfl _ _ _) rfl ?_
  all_goals exact ⟨rfl, (by repeat (first | exact Below.refl _ _ | refine Below.alloc ?_ (by first | (simp; done) | (simp; omega)) _ | refine below_drewN ?_ _ | refine Below.drew ?_ | refine Below.setCell ?_ (by first | (simp; done) | (simp; omega)) _))⟩
set_option maxHeartbeats 1000000 in
theorem write_nil (h : Int) (v : V) : Calls Tryz.prog 61 #[.pointer none, .int .i64 h, v.val] w fun e w' => e = .returned (.tuple #[]) ∧ Below w.heap.size w w' := by
  go_enter Tryz.func61, Tryz.ntmps61
  go_wp2_with fail
  refine (there_nil).mono ?_
  rintro x0 w0 ⟨rfl, hww⟩
  have hww' := hww.symm
  subst hww'
  clear hww
  go_wp2_with fail
  first | go_ret | go_ret2 | go_end0 | refine bodyPost_ret (results_none rfl _ _ _) rfl ?_
  all_goals exact ⟨rfl, (by repeat (first | exact Below.refl _ _ | refine Below.alloc ?_ (by first | (simp; done) | (simp; omega)) _ | refine below_drewN ?_ _ | refine Below.drew ?_ | refine Below.setCell ?_ (by first | (simp; done) | (simp; omega)) _))⟩
set_option maxHeartbeats 1000000 in
theorem major_nil  : Calls Tryz.prog 37 #[.pointer none] w fun e w' => e = .returned (.tuple #[]) ∧ Below w.heap.size w w' := by
  go_enter Tryz.func37, Tryz.ntmps37
  go_wp2_with fail
  refine (there_nil).mono ?_
  rintro x0 w0 ⟨rfl, hww⟩
  have hww' := hww.symm
  subst hww'
  clear hww
  go_wp2_with fail
  first | go_ret | go_ret2 | go_end0 | refine bodyPost_ret (results_none rfl _ _ _) rfl ?_
  all_goals exact ⟨rfl, (by repeat (first | exact Below.refl _ _ | refine Below.alloc ?_ (by first | (simp; done) | (simp; omega)) _ | refine below_drewN ?_ _ | refine Below.drew ?_ | refine Below.setCell ?_ (by first | (simp; done) | (simp; omega)) _))⟩
set_option maxHeartbeats 1000000 in
theorem setMode_nil (n : Int) : Calls Tryz.prog 36 #[.pointer none, .int .i64 n] w fun e w' => e = .returned (.tuple #[]) ∧ Below w.heap.size w w' := by
  go_enter Tryz.func36, Tryz.ntmps36
  go_wp2_with fail
  refine (there_nil).mono ?_
  rintro x0 w0 ⟨rfl, hww⟩
  have hww' := hww.symm
  subst hww'
  clear hww
  go_wp2_with fail
  first | go_ret | go_ret2 | go_end0 | refine bodyPost_ret (results_none rfl _ _ _) rfl ?_
  all_goals exact ⟨rfl, (by repeat (first | exact Below.refl _ _ | refine Below.alloc ?_ (by first | (simp; done) | (simp; omega)) _ | refine below_drewN ?_ _ | refine Below.drew ?_ | refine Below.setCell ?_ (by first | (simp; done) | (simp; omega)) _))⟩
set_option maxHeartbeats 1000000 in
theorem take_nil  : Calls Tryz.prog 62 #[.pointer none] w fun e w' => e = .returned (.tuple #[.int .i64 0, .bool false]) ∧ Below w.heap.size w w' := by
  go_enter Tryz.func62, Tryz.ntmps62
  go_wp2_with fail
  refine (there_nil).mono ?_
  rintro x0 w0 ⟨rfl, hww⟩
  have hww' := hww.symm
  subst hww'
  clear hww
  go_wp2_with fail
  first | go_ret | go_ret2 | go_end0 | refine bodyPost_ret (results_none rfl _ _ _) rfl ?_
  all_goals exact ⟨rfl, (by repeat (first | exact Below.refl _ _ | refine Below.alloc ?_ (by first | (simp; done) | (simp; omega)) _ | refine below_drewN ?_ _ | refine Below.drew ?_ | refine Below.setCell ?_ (by first | (simp; done) | (simp; omega)) _))⟩
set_option maxHeartbeats 1000000 in
theorem live_nil  : Calls Tryz.prog 46 #[.pointer none] w fun e w' => e = .returned (.int .i64 0) ∧ Below w.heap.size w w' := by
  go_enter Tryz.func46, Tryz.ntmps46
  go_wp2_with fail
  refine (there_nil).mono ?_
  rintro x0 w0 ⟨rfl, hww⟩
  have hww' := hww.symm
  subst hww'
  clear hww
  go_wp2_with fail
  first | go_ret | go_ret2 | go_end0 | refine bodyPost_ret (results_none rfl _ _ _) rfl ?_
  all_goals exact ⟨rfl, (by repeat (first | exact Below.refl _ _ | refine Below.alloc ?_ (by first | (simp; done) | (simp; omega)) _ | refine below_drewN ?_ _ | refine Below.drew ?_ | refine Below.setCell ?_ (by first | (simp; done) | (simp; omega)) _))⟩
set_option maxHeartbeats 1000000 in
theorem step_nil (n : Int) : Calls Tryz.prog 56 #[.pointer none, .int .i64 n] w fun e w' => e = .returned (.bool false) ∧ Below w.heap.size w w' := by
  go_enter Tryz.func56, Tryz.ntmps56
  go_wp2_with fail
  refine (there_nil).mono ?_
  rintro x0 w0 ⟨rfl, hww⟩
  have hww' := hww.symm
  subst hww'
  clear hww
  go_wp2_with fail
  first | go_ret | go_ret2 | go_end0 | refine bodyPost_ret (results_none rfl _ _ _) rfl ?_
  all_goals exact ⟨rfl, (by repeat (first | exact Below.refl _ _ | refine Below.alloc ?_ (by first | (simp; done) | (simp; omega)) _ | refine below_drewN ?_ _ | refine Below.drew ?_ | refine Below.setCell ?_ (by first | (simp; done) | (simp; omega)) _))⟩
set_option maxHeartbeats 1000000 in
theorem young_nil  : Calls Tryz.prog 58 #[.pointer none] w fun e w' => e = .returned (.bool false) ∧ Below w.heap.size w w' := by
  go_enter Tryz.func58, Tryz.ntmps58
  go_wp2_with fail
  refine (there_nil).mono ?_
  rintro x0 w0 ⟨rfl, hww⟩
  have hww' := hww.symm
  subst hww'
  clear hww
  go_wp2_with fail
  first | go_ret | go_ret2 | go_end0 | refine bodyPost_ret (results_none rfl _ _ _) rfl ?_
  all_goals exact ⟨rfl, (by repeat (first | exact Below.refl _ _ | refine Below.alloc ?_ (by first | (simp; done) | (simp; omega)) _ | refine below_drewN ?_ _ | refine Below.drew ?_ | refine Below.setCell ?_ (by first | (simp; done) | (simp; omega)) _))⟩
theorem infView : (Tryz.prog.info? 69).map (·.size) = some 7 := by kernel_rfl
theorem res_view {fn : Func} {p : Tmp} (h : fn.results = #[.cell p 69]) (tmps : Array Value) (W : World) (q : Nat) (hp : tmps.getD p undef = .pointer (some ⟨q, 0, none⟩)) {a b c d e f g : Value} (hb : Box W q [a, b, c, d, e, f, g] 69) : (results fn tmps).run Tryz.prog W = .ok (.agg #[a, b, c, d, e, f, g]) W := by
  refine results_cell_row h tmps W q 69 #[a, b, c, d, e, f, g] (0, 0) _ hp hb Tryz.underlying69 ?_ ?_
  · rfl
  · exact infView
set_option maxHeartbeats 1000000 in
theorem view_nil : Calls Tryz.prog 41 #[.pointer none] w fun e w' => e = .returned (.agg #[.int .i64 0, .int .i64 0, .int .i64 0, .slice none 0 0, .slice none 0 0, .slice none 0 0, .slice none 0 0]) ∧ Below w.heap.size w w' := by
  have HB := Lib.hid (Box.new w [.int .i64 0, .int .i64 0, .int .i64 0, .slice none 0 0, .slice none 0 0, .slice none 0 0, .slice none 0 0] 69)
  go_enter Tryz.func41, Tryz.ntmps41
  go_wp2_with fail
  refine there_nil.mono ?_
  rintro x1 w1 ⟨rfl, rfl⟩
  go_wp2_with fail
  refine bodyPost_ret (res_view rfl _ _ w.heap.size rfl HB.out) rfl ?_
  exact ⟨rfl, below_alloc _ _⟩
end Go.Proofs.YtminbemdcanakaaGreat
