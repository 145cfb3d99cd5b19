/- Within the wide fence: the rest of a region that draws its order, walked in the order of the text, in a class of worlds. -/
import Derived.Test.YtpodgmajccmgkaaInBase
import Derived.Deep.Quiet
import Derived.Deep.QuietTactic
import Derived.BigQuiet
namespace Go.Proofs.Ytpodgmajccmgkaa
open Go
set_option linter.unusedVariables false
set_option linter.unusedSimpArgs false

section
variable {F : Fence} {m : Nat} {P : Program} {ops : Array Oper} {md : Region.Mode} {C : World → Prop}

theorem stepsIn_all {P : Program} {F : Fence} (hF : ∀ f, F.fn f) (hal : F.alive = false) (hd : F.depth = none) (m m' : Machine) : StepsIn (Machine.fenced P F) P m m' ↔ Steps P m m' := by
  have hfen : ∀ mm : Machine, mm.fenced P F := by
    intro mm g _
    refine ⟨fun h => ?_, Or.inl (hF _), fun _ _ => hF _, fun d h => ?_⟩
    · rw [hal] at h; cases h
    · rw [hd] at h; cases h
  exact ⟨fun h => h.steps, fun h => (StepsIn.of_steps h).mono fun mm _ => hfen mm⟩

/-- Within a fence that bars nothing, and out of rounds, a walk is a walk. -/
theorem wpIn_of_wp {P : Program} {F : Fence} {n : Nat} (hF : ∀ f, F.fn f) (hal : F.alive = false) (hd : F.depth = none) (hro : F.round = none) {c : Code} {Q : Exit → Act → World → Prop} {a : Act} {w : World} (h : c.wp P Q a w) : c.wpIn F n P Q a w := by
  intro b k cs hrb _ _
  have hb : b.roundOf = none := hrb.trans hro
  obtain ⟨e, a', w', q, r⟩ := h b k cs
  rw [Frame.atR_of_none hb]
  exact ⟨e, a', w', q, (arrivesIn_iff (fun m m' => stepsIn_all hF hal hd m m') hb).2 r⟩

theorem wpIn_of_quiet (hF : ∀ f, F.fn f) (hal : F.alive = false) (hd : F.depth = none) (hro : F.round = none) {o : Oper} {a : Act} {K : Act → Prop} {K' : Act → World → Prop} {Q' : Exit → Act → World → Prop} {w : World} (hw : C w)
    (h : ∀ a w', C w' → K a → K' a w') (hh : o.quiet P a C K) : o.wpIn F m P a w K' Q' := by
  obtain ⟨v, h1, h2⟩ := hh
  have h3 := h1 w hw
  unfold Oper.quietAt at h3
  refine ⟨fun f _ => hF f, ?_⟩
  rw [hro, Oper.semAt_none]
  generalize (execOp a.eval o).run P w = r at *
  cases r with
  | ok nx w' =>
    cases nx <;> simp only [Oper.quietUpon] at h3 <;> simp only [Oper.uponIn]
    case value u =>
      obtain ⟨e1, e2⟩ := h3
      rw [e1, e2]
      exact h _ _ hw h2
    case skip =>
      obtain ⟨e1, e2⟩ := h3
      rw [e1, ← e2]
      exact h _ _ hw h2
    case enter f args =>
      obtain ⟨e1, hc⟩ := h3
      rw [e1]
      refine ⟨fun h => (by rw [hd] at h; cases h), ?_⟩
      refine calls_wide hF hal hd (hc.mono ?_)
      rintro e w'' ⟨rfl, hw''⟩
      exact h _ _ hw'' h2
  | halt x w' => simp only [Oper.quietUpon] at h3

theorem wpOpIn_of_qOp (hF : ∀ f, F.fn f) (hal : F.alive = false) (hd : F.depth = none) (hro : F.round = none) {i : Nat} {a : Act} {K : Act → Prop} {K' : Act → World → Prop} {Q' : Exit → Act → World → Prop} {w : World} (hC : C w)
    (h : ∀ a w', C w' → K a → K' a w') (hh : qOp P ops C i K a) : wpOpIn F m P ops Q' i K' a w := by
  unfold qOp at hh
  unfold wpOpIn
  cases ho : ops[i]? with
  | none => simp only [ho] at hh ⊢; exact h _ _ hC hh
  | some o =>
    simp only [ho] at hh ⊢
    by_cases hw : Region.wanted o (yielded ops a.tmps) = true
    · simp only [hw, if_true] at hh ⊢; exact wpIn_of_quiet hF hal hd hro hC h hh
    · simp only [hw] at hh ⊢; exact ⟨fun f _ => hF f, h _ _ hC hh⟩

theorem wpAnyIn_of_quiet (hF : ∀ f, F.fn f) (hal : F.alive = false) (hd : F.depth = none) (hro : F.round = none) {Q : Act → Prop} {Q' : Exit → Act → World → Prop} (hQ : ∀ a w, C w → Q a → Q' .normal a w) : ∀ (fuel : Nat) (listed : Array Bool) (a : Act) (w : World), C w →
    wpAnyQ P md ops C Q fuel listed a → wpAnyIn F m P md ops Q' fuel listed a w
  | 0, _, _, _, hw, h => ⟨h.1, hQ _ _ hw h.2⟩
  | fuel + 1, _, _, _, hw, h => ⟨fun h0 => hQ _ _ hw (h.1 h0), fun i hi => wpOpIn_of_qOp hF hal hd hro hw (fun a' w' hw' => wpAnyIn_of_quiet hF hal hd hro hQ fuel _ a' w' hw') (h.2 i hi)⟩

/-- From operation k on the rest is quiet in the class. -/
theorem wpAnyIn_rest (hF : ∀ f, F.fn f) (hal : F.alive = false) (hd : F.depth = none) (hro : F.round = none) (C : World → Prop) {Q' : Exit → Act → World → Prop} (k : Nat) {l : List Oper} {listed : Array Bool} {a : Act} {w : World} (hs : Region.noSelect ops = true)
    (hl : ∀ j, l[j]? = ops[k + j]?) (hB : Region.lexFrom md ops l.length k listed = true) (hC : C w) (h : wpQuiet P ops C (fun a' => ∀ w', C w' → Q' .normal a' w') l a) {fuel : Nat} (hf : fuel = l.length) : wpAnyIn F m P md ops Q' fuel listed a w := by
  subst hf
  exact wpAnyIn_of_quiet hF hal hd hro (Q := fun a' => ∀ w', C w' → Q' .normal a' w') (fun _ w' hw' h => h w' hw') _ _ _ _ hC (wpAnyQ_lex hs l k listed a hl hB h)

theorem wpAnyIn_drop (hF : ∀ f, F.fn f) (hal : F.alive = false) (hd : F.depth = none) (hro : F.round = none) (C : World → Prop) {Q' : Exit → Act → World → Prop} (k : Nat) {listed : Array Bool} {a : Act} {w : World} (hs : Region.noSelect ops = true)
    (hB : Region.lexFrom md ops (ops.toList.drop k).length k listed = true) (hC : C w) {fuel : Nat} (hf : fuel = (ops.toList.drop k).length) (h : wpQuiet P ops C (fun a' => ∀ w', C w' → Q' .normal a' w') (ops.toList.drop k) a) : wpAnyIn F m P md ops Q' fuel listed a w :=
  wpAnyIn_rest hF hal hd hro C k hs (fun j => by simp) hB hC h hf

theorem quiet_val {o : Oper} {a : Act} {K : Act → Prop} {v : Value} (h1 : ∀ w, C w → (execOp a.eval o).run P w = .ok (.value v) w) (hk : K (a.put o.dst v)) : o.quiet P a C K :=
  ⟨v, fun w hw => by unfold Oper.quietAt; rw [h1 w hw]; exact ⟨rfl, rfl⟩, hk⟩
theorem quiet_call {o : Oper} {a : Act} {K : Act → Prop} {v : Value} {f : FuncId} {args : Array Value} (h1 : ∀ w, C w → (execOp a.eval o).run P w = .ok (.enter f args) w) (hc : ∀ w, C w → Calls P f args w fun e w'' => e = .returned v ∧ C w'') (hk : K (a.put o.dst v)) : o.quiet P a C K :=
  ⟨v, fun w hw => by unfold Oper.quietAt; rw [h1 w hw]; exact ⟨rfl, hc w hw⟩, hk⟩
end
end Go.Proofs.Ytpodgmajccmgkaa
