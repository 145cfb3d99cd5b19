/- The collector in plain Lean: objects, marking, cycles. -/
namespace Go.Proofs.YtminbemdcanakaaGreat
set_option linter.unusedVariables false
set_option linter.unusedSimpArgs false

structure V where
  t : Int
  n : Int
deriving DecidableEq
def nilV : V := ⟨0, 0⟩
/-- An object. -/
structure Ob where
  kind : Int
  weak : Int
  array : Int
  slots : List V
  fin : Int
  col : Int
  age : Int
/-- Objects, by handle less 1; roots. -/
structure Mm where
  obs : List (Option Ob)
  roots : List V
def Mm.at (m : Mm) (h : Int) : Option Ob := if 1 ≤ h ∧ h ≤ m.obs.length then (m.obs[(h - 1).toNat]?).join else none
def Mm.upd (m : Mm) (h : Int) (f : Ob → Ob) : Mm := if 1 ≤ h ∧ h ≤ m.obs.length then { m with obs := m.obs.modify (h - 1).toNat (Option.map f) } else m
def Mm.kind (m : Mm) (h : Int) : Int := match m.at h with | none => 0 | some o => o.kind
def Mm.col (m : Mm) (h : Int) : Int := match m.at h with | none => 0 | some o => o.col
def Mm.age (m : Mm) (h : Int) : Int := match m.at h with | none => 0 | some o => o.age
def Mm.cells (m : Mm) (h : Int) : Int := match m.at h with | none => 0 | some o => 1 + o.slots.length
def Mm.setCol (m : Mm) (h c : Int) : Mm := m.upd h fun o => { o with col := c }
def Mm.setAge (m : Mm) (h a : Int) : Mm := m.upd h fun o => { o with age := a }
def Mm.setFin (m : Mm) (h n : Int) : Mm := m.upd h fun o => { o with fin := n }
def Mm.drop (m : Mm) (h : Int) : Mm := if 1 ≤ h ∧ h ≤ m.obs.length then { m with obs := m.obs.set (h - 1).toNat none } else m
def clearSlots (l : List V) (slot : Int) (key : Bool) : List V :=
  if slot < 0 ∨ (l.length : Int) ≤ slot ∨ (key = true ∧ slot < 1) then l
  else
    let l1 := l.set slot.toNat nilV
    if key = true then l1.modify (slot - 1).toNat (fun v => { v with t := 11 }) else l1
def Mm.clear (m : Mm) (h slot : Int) (key : Bool) : Mm := m.upd h fun o => { o with slots := clearSlots o.slots slot key }
/-- Those that are there, in order. -/
def orderF : Nat → List (Option Ob) → List Int
  | _, [] => []
  | i, none :: l => orderF (i + 1) l
  | i, some _ :: l => ((i : Int) + 1) :: orderF (i + 1) l
def Mm.order (m : Mm) : List Int := orderF 0 m.obs
def Mm.add (m : Mm) (o : Ob) : Mm := { m with obs := m.obs ++ [some o] }
def noOb : Ob := ⟨0, 0, 0, [], 0, 0, 0⟩
def Mm.get (m : Mm) (h : Int) : Ob := (m.at h).getD noOb

/-! ### a collector -/
structure Cs where
  m : Mm
  mode : Int
  phase : Int
  white : Int
  grey : List Int
  again : List Int
  pending : List Int
  sweep : List Int
  base : Int
def Cs.withM (c : Cs) (m : Mm) : Cs := { c with m := m }
def Cs.withPhase (c : Cs) (n : Int) : Cs := { c with phase := n }
def Cs.withWhite (c : Cs) (n : Int) : Cs := { c with white := n }
def Cs.withGrey (c : Cs) (l : List Int) : Cs := { c with grey := l }
def Cs.withAgain (c : Cs) (l : List Int) : Cs := { c with again := l }
def Cs.withPending (c : Cs) (l : List Int) : Cs := { c with pending := l }
def Cs.withSweep (c : Cs) (l : List Int) : Cs := { c with sweep := l }
def Cs.withMode (c : Cs) (n : Int) : Cs := { c with mode := n }
def Cs.withBase (c : Cs) (n : Int) : Cs := { c with base := n }
def leads (m : Mm) (v : V) : Int := if 4 ≤ v.t ∧ v.t ≤ 9 ∧ 1 ≤ v.n ∧ m.kind v.n = v.t then v.n else 0
def fresh (m : Mm) (w : Int) (v : V) : Bool := decide (0 < leads m v ∧ m.col v.n = w)
def mark (c : Cs) (v : V) : Cs :=
  if fresh c.m c.white v = true then
    (if v.t = 4 then c.withM (c.m.setCol v.n 3) else (c.withM (c.m.setCol v.n 2)).withGrey (c.grey ++ [v.n]))
  else c
def markFirst (c : Cs) (l : List V) : Cs := match l with
  | [] => c
  | s :: _ => mark c s
def weakB (o : Ob) : Bool := decide (o.kind = 5 ∧ o.weak ≠ 0)
def through (c : Cs) (h : Int) : Cs :=
  if (c.m.get h).kind = 0 then c
  else if weakB (c.m.get h) = true then
    (markFirst c (c.m.get h).slots).withAgain ((markFirst c (c.m.get h).slots).again ++ [h])
  else (c.m.get h).slots.foldl mark (c.withM (c.m.setCol h 3))
def next (c : Cs) : Cs := match c.grey.getLast? with
  | none => c
  | some h => through (c.withGrey c.grey.dropLast) h
/-- How many objects are of the current white. -/
def isW (w : Int) : Option Ob → Bool
  | none => false
  | some o => decide (o.col = w)
def whites (c : Cs) : Nat := c.m.obs.countP (isW c.white)
def gm (c : Cs) : Nat := 2 * whites c + c.grey.length
def dm (c : Cs) : Nat := 2 * whites c + c.grey.length + c.again.length
def goOn (c : Cs) : Cs := if h : c.grey ≠ [] ∧ gm (next c) < gm c then goOn (next c) else c
termination_by gm c
decreasing_by exact h.2
def valueOf (m : Mm) (h : Int) : V := ⟨m.kind h, h⟩
def begin_ (c : Cs) : Cs := (c.pending.foldl (fun c h => mark c (valueOf c.m h)) (c.m.roots.foldl mark c))

/-! ### the end of marking -/
structure En where
  c : Cs
  weak : List Int
def drain1 (e : En) : En := match e.c.again with
  | [] => e
  | h :: l =>
    if (e.c.m.get h).kind = 0 then { e with c := e.c.withAgain l }
    else if weakB (e.c.m.get h) = true then
      { e with c := e.c.withAgain l, weak := if h ∈ e.weak then e.weak else e.weak ++ [h] }
    else { e with c := goOn (through (e.c.withAgain l) h) }
def drain (e : En) : En := if h : e.c.again ≠ [] ∧ dm (drain1 e).c < dm e.c then drain (drain1 e) else e
termination_by dm e.c
decreasing_by exact h.2
def held (c : Cs) (v : V) : Bool := decide (v.t ≠ 4) && fresh c.m c.white v
/-- A value's slot: where its key stands (-1: it has none). -/
def keyAt (o : Ob) (i : Nat) : Option Int :=
  if (i : Int) - 1 - o.array < 0 ∨ (((i : Int) - 1 - o.array) % 2 = 0 ∧ i + 1 = o.slots.length) then some (-1)
  else if ((i : Int) - 1 - o.array) % 2 = 1 then some ((i : Int) - 1) else none
def slotAt (o : Ob) (i : Nat) : V := o.slots.getD i nilV
abbrev EachF := Cs → Ob → Int → Nat → Int → Cs
def eachAt (f : EachF) (o : Ob) (h : Int) (c : Cs) (i : Nat) : Cs := match keyAt o i with
  | none => c
  | some k => f c o h i k
def each1 (f : EachF) (c : Cs) (h : Int) : Cs := (List.range' 1 ((c.m.get h).slots.length - 1)).foldl (eachAt f (c.m.get h) h) c
def each (f : EachF) (weak : List Int) (c : Cs) : Cs := weak.foldl (each1 f) c
def clrV : EachF := fun c o h i k => if o.weak ≠ 1 ∧ held c (slotAt o i) = true then c.withM (c.m.clear h i false) else c
def deadK (c : Cs) (o : Ob) (k : Int) : Bool := decide (o.weak ≠ 2 ∧ 0 ≤ k) && held c (slotAt o k.toNat)
def clrE : EachF := fun c o h i k =>
  if deadK c o k = true ∨ (o.weak ≠ 1 ∧ held c (slotAt o i) = true) then c.withM (c.m.clear h i (deadK c o k)) else c
/-- Does a weak one lead to what is in a slot, by now? -/
def loneAt (o : Ob) (i : Nat) : Bool := decide (0 < i ∧ ((i : Int) - 1 - o.array < 0 ∨ (((i : Int) - 1 - o.array) % 2 = 0 ∧ i + 1 = o.slots.length)))
def isKeyAt (o : Ob) (i : Nat) : Bool := decide (0 < i ∧ 0 ≤ (i : Int) - 1 - o.array ∧ ((i : Int) - 1 - o.array) % 2 = 0) && !loneAt o i
def ephWants (c : Cs) (o : Ob) (i : Nat) : Bool :=
  if i = 0 ∨ ((slotAt o i).t = 4 ∧ o.weak ≠ 1) then true
  else if o.weak = 2 ∧ isKeyAt o i = true then true
  else if o.weak = 1 ∧ loneAt o i = true then true
  else if o.weak = 1 ∧ isKeyAt o i = true then !held c (slotAt o i)
  else if o.weak = 1 then !held c (slotAt o (i - 1))
  else false
def ephStep (o : Ob) (s : Cs × Bool) (i : Nat) : Cs × Bool :=
  if ephWants s.1 o i = true then (mark s.1 (slotAt o i), fresh s.1.m s.1.white (slotAt o i) || s.2) else s
def ephemeral (c : Cs) (h : Int) : Cs × Bool := (List.range (c.m.get h).slots.length).foldl (ephStep (c.m.get h)) (c, false)
def roundS (s : Cs × Bool) (h : Int) : Cs × Bool := ((ephemeral s.1 h).1, (ephemeral s.1 h).2 || s.2)
def round1 (weak : List Int) (c : Cs) : Cs × Bool := weak.foldl roundS (c, false)
def roundE (e : En) : En := drain ⟨goOn (round1 e.weak e.c).1, e.weak⟩
def rounds (e : En) : En :=
  if h : (round1 e.weak e.c).2 = true ∧ whites (roundE e).c < whites e.c then rounds (roundE e) else roundE e
termination_by whites e.c
decreasing_by exact h.2
def sepLe (m : Mm) (a b : Int) : Bool := decide ((m.get b).fin < (m.get a).fin ∨ ((m.get a).fin = (m.get b).fin ∧ b ≤ a))
def sepL (c : Cs) : List Int := (c.m.order.filter fun h => decide (0 < (c.m.get h).fin ∧ c.m.col h = c.white)).mergeSort (sepLe c.m)
def separate (c : Cs) : Cs := (sepL c).foldl (fun c h => mark c (valueOf c.m h)) ((c.withPending (c.pending ++ sepL c)).withM ((sepL c).foldl (fun m h => m.setFin h 0) c.m))
def endA (c : Cs) : En := rounds (drain ⟨goOn (begin_ c), []⟩)
def endB (e : En) : En := rounds (drain ⟨goOn (separate (each clrV e.weak e.c)), e.weak⟩)
def blacken (l : List Int) (m : Mm) : Mm := l.foldl (fun m h => m.setCol h 3) m
def endD (e : En) : Cs := (each clrE e.weak e.c).withM (blacken e.weak (each clrE e.weak e.c).m)
def endC (e : En) : Cs := (endD e).withWhite (1 - (endD e).white)
def end_ (c : Cs) : Cs := endC (endB (endA c))

/-! ### the calls -/
def other (c : Cs) : Int := 1 - c.white
def setCA (c : Cs) (h col age : Int) : Cs := c.withM ((c.m.setCol h col).setAge h age)
def live (m : Mm) : Int := m.order.foldl (fun n h => n + m.cells h) 0
def birth (c : Cs) (h : Int) : Cs := setCA c h c.white 0
def oldB (a : Int) : Bool := decide (2 ≤ a ∧ a ≤ 6)
def youngB (a : Int) : Bool := decide (a = 0 ∨ a = 1)
def backA (a : Int) : Int := if oldB a = true then 5 else a
def forwardA (o a : Int) : Int := if oldB o = true ∧ youngB a = true then 2 else a
def nextA (a : Int) : Int := if a = 0 then 1 else if a = 1 ∨ a = 2 then 3 else if a = 3 ∨ a = 4 ∨ a = 6 then 4 else if a = 5 then 6 else a
def write (c : Cs) (h : Int) (v : V) : Cs :=
  if c.m.col h ≠ 3 ∨ fresh c.m c.white v = false ∨ (c.phase ≠ 1 ∧ c.mode ≠ 1) then c
  else if c.m.kind h = 0 then c
  else if c.m.kind h = 5 ∨ c.m.kind h = 8 then (setCA c h 2 (backA (c.m.age h))).withAgain (c.again ++ [h])
  else (mark c v).withM ((mark c v).m.setAge v.n (forwardA ((mark c v).m.age h) ((mark c v).m.age v.n)))
def sweep1 (c : Cs) (h : Int) : Cs :=
  if c.m.kind h = 0 then c
  else if c.m.col h = other c then c.withM (c.m.drop h)
  else setCA c h c.white 0
def unit (c : Cs) : Cs :=
  if c.phase = 0 then (begin_ ((c.withGrey []).withAgain [])).withPhase 1
  else if c.phase = 1 ∧ c.grey ≠ [] then next c
  else if c.phase = 1 then ((end_ c).withPhase 2).withSweep (end_ c).m.order
  else match c.sweep with
    | [] => c.withPhase 0
    | h :: l => sweep1 (c.withSweep l) h
def steps : Nat → Cs → Cs × Bool
  | 0, c => (c, false)
  | k + 1, c => if (unit c).phase = 0 then (unit c, true) else steps k (unit c)
def step (c : Cs) (k : Int) : Cs × Bool := if c.mode ≠ 0 then (c, false) else steps k.toNat c
def allC (f : Cs → Int → Cs) (c : Cs) : Cs := c.m.order.foldl f c
def newAll (c : Cs) : Cs := allC (fun c h => setCA c h c.white 0) c
def majorEnd (c : Cs) (h : Int) : Cs :=
  if c.m.col h = other c then c.withM (c.m.drop h)
  else if c.mode = 1 then setCA c h 3 4
  else setCA c h c.white 0
def majorA (c : Cs) : Cs := goOn (begin_ ((((newAll c).withGrey []).withAgain []).withSweep []))
def majorB (c : Cs) : Cs := (allC majorEnd (end_ (majorA c))).withPhase 0
def major (c : Cs) : Cs := (majorB c).withBase (live (majorB c).m)
def youngBegin (c : Cs) (h : Int) : Cs :=
  if (c.m.age h = 3 ∨ c.m.age h = 6) ∧ c.m.kind h ≠ 4 then ((c.withM (c.m.setCol h 2)).withGrey (c.grey ++ [h])) else c
def youngEnd (c : Cs) (h : Int) : Cs :=
  if c.m.col h = other c then c.withM (c.m.drop h)
  else setCA c h (if nextA (c.m.age h) = 1 then c.white else 3) (nextA (c.m.age h))
def young (c : Cs) : Cs × Bool :=
  if c.mode ≠ 1 then (c, false)
  else if 0 < c.base ∧ 2 * c.base < live c.m then (major c, true)
  else (allC youngEnd (end_ (allC youngBegin c)), false)
def setMode (c : Cs) (mode : Int) : Cs :=
  if mode = c.mode ∨ (mode ≠ 0 ∧ mode ≠ 1) then c
  else if mode = 1 then major (c.withMode 1)
  else newAll (((((c.withMode 0).withPhase 0).withGrey []).withAgain []).withSweep [])
def take (c : Cs) : Cs × Option Int := match c.pending with
  | [] => (c, none)
  | h :: l => (c.withPending l, some h)
def first (m : Mm) : Cs := ⟨m, 0, 0, 0, [], [], [], [], 0⟩
end Go.Proofs.YtminbemdcanakaaGreat
/- Marking ends: what grows less. -/
namespace Go.Proofs.YtminbemdcanakaaGreat
set_option linter.unusedVariables false
set_option linter.unusedSimpArgs false

theorem modify_none {α : Type} (f : α → α) : ∀ (l : List (Option α)) (i : Nat), l[i]?.join = none → l.modify i (Option.map f) = l := by
  intro l
  induction l with
  | nil => intro i _; cases i <;> rfl
  | cons x l ih =>
    intro i hi
    cases i with
    | zero => cases x with
      | none => rfl
      | some x => simp at hi
    | succ i => rw [List.getElem?_cons_succ] at hi; rw [List.modify_succ_cons, ih i hi]
theorem modify_some {α : Type} (f : α → α) : ∀ (l : List (Option α)) (i : Nat) (x : α), l[i]? = some (some x) → l.modify i (Option.map f) = l.set i (some (f x)) := by
  intro l
  induction l with
  | nil => intro i x h; simp at h
  | cons y l ih =>
    intro i x h
    cases i with
    | zero => simp only [List.getElem?_cons_zero, Option.some.injEq] at h; subst h; rfl
    | succ i => rw [List.getElem?_cons_succ] at h; rw [List.modify_succ_cons, ih i x h, List.set_cons_succ]
theorem upd_none {M : Mm} {hd : Int} (ho : M.at hd = none) (f : Ob → Ob) : M.upd hd f = M := by
  unfold Mm.upd
  split
  · rename_i hr
    unfold Mm.at at ho
    rw [if_pos hr] at ho
    rw [modify_none f _ _ ho]
  · rfl
theorem upd_some {M : Mm} {i : Nat} {o : Ob} (ho : M.obs[i]? = some (some o)) (f : Ob → Ob) : M.upd ((i : Int) + 1) f = { M with obs := M.obs.set i (some (f o)) } := by
  have hlt := (List.getElem?_eq_some_iff.1 ho).1
  unfold Mm.upd
  rw [if_pos (by omega), show ((i : Int) + 1 - 1).toNat = i by omega, modify_some f _ _ _ ho]

/-! ### one object, by its handle -/
theorem at_spot {m : Mm} {h : Int} {o : Ob} (ha : m.at h = some o) : ∃ i : Nat, h = (i : Int) + 1 ∧ m.obs[i]? = some (some o) := by
  unfold Mm.at at ha
  split at ha
  · rename_i hr
    refine ⟨(h - 1).toNat, by omega, ?_⟩
    cases he : m.obs[(h - 1).toNat]? with
    | none => rw [he] at ha; cases ha
    | some x => rw [he] at ha; simp only [Option.join_some] at ha; rw [ha]
  · cases ha
theorem at_of_spot {m : Mm} {i : Nat} {o : Ob} (ho : m.obs[i]? = some (some o)) : m.at ((i : Int) + 1) = some o := by
  have hlt := (List.getElem?_eq_some_iff.1 ho).1
  unfold Mm.at
  rw [if_pos (by omega), show ((i : Int) + 1 - 1).toNat = i by omega, ho]
  rfl
theorem at_mem {m : Mm} {h : Int} {o : Ob} (ha : m.at h = some o) : some o ∈ m.obs := by
  obtain ⟨i, -, hi⟩ := at_spot ha
  exact List.mem_of_getElem? hi
theorem kind_get (m : Mm) (h : Int) : m.kind h = (m.get h).kind := by
  unfold Mm.kind Mm.get
  cases m.at h <;> rfl
theorem col_get (m : Mm) (h : Int) : m.col h = (m.get h).col := by
  unfold Mm.col Mm.get
  cases m.at h <;> rfl
theorem age_get (m : Mm) (h : Int) : m.age h = (m.get h).age := by
  unfold Mm.age Mm.get
  cases m.at h <;> rfl
theorem get_of_at {m : Mm} {h : Int} {o : Ob} (ha : m.at h = some o) : m.get h = o := by unfold Mm.get; rw [ha]; rfl
theorem get_of_none {m : Mm} {h : Int} (ha : m.at h = none) : m.get h = noOb := by unfold Mm.get; rw [ha]; rfl
theorem at_of_kind {m : Mm} {h : Int} (hk : (m.get h).kind ≠ 0) : m.at h = some (m.get h) := by
  cases ha : m.at h with
  | none => rw [get_of_none ha] at hk; exact absurd rfl hk
  | some o => rw [get_of_at ha]
theorem at_upd_same {m : Mm} {h : Int} (f : Ob → Ob) : (m.upd h f).at h = (m.at h).map f := by
  cases ha : m.at h with
  | none => rw [upd_none ha, ha]; rfl
  | some o =>
    obtain ⟨i, rfl, hi⟩ := at_spot ha
    rw [upd_some hi]
    have hlt := (List.getElem?_eq_some_iff.1 hi).1
    exact at_of_spot (by show (m.obs.set i _)[i]? = _; rw [List.getElem?_set_self hlt])
theorem at_upd_ne {m : Mm} {h k : Int} (hne : k ≠ h) (f : Ob → Ob) : (m.upd h f).at k = m.at k := by
  cases ha : m.at h with
  | none => rw [upd_none ha]
  | some o =>
    obtain ⟨i, rfl, hi⟩ := at_spot ha
    rw [upd_some hi]
    unfold Mm.at
    simp only [List.length_set]
    split
    · rename_i hr
      rw [List.getElem?_set_ne (by omega)]
    · rfl
theorem at_upd (m : Mm) (h k : Int) (f : Ob → Ob) : (m.upd h f).at k = if k = h then (m.at k).map f else m.at k := by
  split
  · rename_i e; subst e; exact at_upd_same f
  · rename_i e; exact at_upd_ne e f
theorem upd_roots (m : Mm) (h : Int) (f : Ob → Ob) : (m.upd h f).roots = m.roots := by unfold Mm.upd; split <;> rfl
theorem upd_len (m : Mm) (h : Int) (f : Ob → Ob) : (m.upd h f).obs.length = m.obs.length := by unfold Mm.upd; split <;> simp

/-! ### what stays -/
structure Sz (m : Mm) : Prop where
  n : m.obs.length ≤ 100000
  r : m.roots.length ≤ 100000
  s : ∀ o, some o ∈ m.obs → o.slots.length ≤ 100000 ∧ 0 ≤ o.array ∧ o.array ≤ 100000
def keyO (o : Ob) : Int × Int × Int × Nat := (o.kind, o.weak, o.array, o.slots.length)
/-- The same objects, as far as kinds and sizes go. -/
structure Lk (m m' : Mm) : Prop where
  roots : m'.roots = m.roots
  obs : m'.obs.map (Option.map keyO) = m.obs.map (Option.map keyO)
theorem Lk.refl (m : Mm) : Lk m m := ⟨rfl, rfl⟩
theorem Lk.trans {a b c : Mm} (h : Lk a b) (k : Lk b c) : Lk a c := ⟨k.roots.trans h.roots, k.obs.trans h.obs⟩
theorem map_modify_same {α β : Type} (g : α → β) (f : α → α) (hf : ∀ x, g (f x) = g x) : ∀ (l : List α) (i : Nat), (l.modify i f).map g = l.map g := by
  intro l
  induction l with
  | nil => intro i; cases i <;> rfl
  | cons x l ih =>
    intro i
    cases i with
    | zero => show g (f x) :: _ = _; rw [hf]; rfl
    | succ i => rw [List.modify_succ_cons, List.map_cons, ih i]; rfl
theorem Lk.upd (m : Mm) (h : Int) (f : Ob → Ob) (hf : ∀ o, keyO (f o) = keyO o) : Lk m (m.upd h f) := by
  refine ⟨upd_roots _ _ _, ?_⟩
  unfold Mm.upd
  split
  · exact map_modify_same _ _ (by intro x; cases x with | none => rfl | some x => show some _ = some _; rw [hf]) _ _
  · rfl
theorem Lk.len {m m' : Mm} (h : Lk m m') : m'.obs.length = m.obs.length := by
  have := congrArg List.length h.obs
  simpa using this
theorem Lk.at {m m' : Mm} (h : Lk m m') (k : Int) : (m'.at k).map keyO = (m.at k).map keyO := by
  unfold Mm.at
  rw [h.len]
  split
  · have := congrArg (fun l => l[(k - 1).toNat]?) h.obs
    simp only [List.getElem?_map] at this
    cases e1 : m'.obs[(k - 1).toNat]? with
    | none => cases e2 : m.obs[(k - 1).toNat]? with
      | none => rfl
      | some y => rw [e1, e2] at this; simp at this
    | some x => cases e2 : m.obs[(k - 1).toNat]? with
      | none => rw [e1, e2] at this; simp at this
      | some y => rw [e1, e2] at this; exact Option.some.inj this
  · rfl
theorem Lk.key {m m' : Mm} (h : Lk m m') (k : Int) : keyO (m'.get k) = keyO (m.get k) := by
  have := h.at k
  unfold Mm.get
  cases e1 : m'.at k with
  | none => cases e2 : m.at k with
    | none => rfl
    | some y => rw [e1, e2] at this; simp at this
  | some x => cases e2 : m.at k with
    | none => rw [e1, e2] at this; simp at this
    | some y => rw [e1, e2] at this; exact Option.some.inj this
theorem Lk.kind {m m' : Mm} (h : Lk m m') (k : Int) : m'.kind k = m.kind k := by
  rw [kind_get, kind_get]
  have := h.key k
  simp only [keyO, Prod.mk.injEq] at this
  exact this.1
theorem Lk.leads {m m' : Mm} (h : Lk m m') (v : V) : leads m' v = Proofs.YtminbemdcanakaaGreat.leads m v := by unfold Proofs.YtminbemdcanakaaGreat.leads; rw [h.kind]
theorem orderF_key {α : Type} (key : Ob → α) : ∀ (l l' : List (Option Ob)) (i : Nat), l'.map (Option.map key) = l.map (Option.map key) → orderF i l' = orderF i l := by
  intro l
  induction l with
  | nil => intro l' i h; cases l' with | nil => rfl | cons x l' => simp at h
  | cons x l ih =>
    intro l' i h
    cases l' with
    | nil => simp at h
    | cons y l' =>
      simp only [List.map_cons, List.cons.injEq] at h
      have := ih l' (i + 1) h.2
      cases x with
      | none => cases y with
        | none => exact this
        | some y => simp at h
      | some x => cases y with
        | none => simp at h
        | some y => show _ :: _ = _ :: _; rw [this]
theorem Lk.order {m m' : Mm} (h : Lk m m') : m'.order = m.order := orderF_key keyO _ _ 0 h.obs
theorem Lk.sz {m m' : Mm} (h : Lk m m') (s : Sz m) : Sz m' := by
  refine ⟨by rw [h.len]; exact s.n, by rw [h.roots]; exact s.r, fun o ho => ?_⟩
  have h1 : some (keyO o) ∈ m'.obs.map (Option.map keyO) := List.mem_map.2 ⟨some o, ho, rfl⟩
  rw [h.obs] at h1
  obtain ⟨x, hx, e⟩ := List.mem_map.1 h1
  cases x with
  | none => cases e
  | some x =>
    simp only [Option.map_some, Option.some.injEq, keyO, Prod.mk.injEq] at e
    have := s.s x hx
    rw [← e.2.2.1, ← e.2.2.2]; exact this

/-! ### how many are white -/
def W01 (c : Cs) : Prop := c.white = 0 ∨ c.white = 1
theorem countP_modify {α : Type} (p : α → Bool) (f : α → α) : ∀ (l : List α) (i : Nat) (x : α), l[i]? = some x → (l.modify i f).countP p + (if p x = true then 1 else 0) = l.countP p + (if p (f x) = true then 1 else 0) := by
  intro l
  induction l with
  | nil => intro i x h; simp at h
  | cons y l ih =>
    intro i x h
    cases i with
    | zero =>
      simp only [List.getElem?_cons_zero, Option.some.injEq] at h
      subst h
      show (f y :: l).countP p + _ = (y :: l).countP p + _
      rw [List.countP_cons, List.countP_cons]
      omega
    | succ i =>
      rw [List.getElem?_cons_succ] at h
      rw [List.modify_succ_cons, List.countP_cons, List.countP_cons]
      have := ih i x h
      omega
theorem countP_upd {m : Mm} {h : Int} {o : Ob} (ha : m.at h = some o) (p : Option Ob → Bool) (f : Ob → Ob) : (m.upd h f).obs.countP p + (if p (some o) = true then 1 else 0) = m.obs.countP p + (if p (some (f o)) = true then 1 else 0) := by
  obtain ⟨i, rfl, hi⟩ := at_spot ha
  have hlt := (List.getElem?_eq_some_iff.1 hi).1
  unfold Mm.upd
  rw [if_pos (by omega), show ((i : Int) + 1 - 1).toNat = i by omega]
  exact countP_modify p (Option.map f) _ _ _ hi
theorem whites_setCol {m : Mm} {w h k : Int} (hk : k ≠ w) : (m.setCol h k).obs.countP (isW w) + (if ∃ o, m.at h = some o ∧ o.col = w then 1 else 0) = m.obs.countP (isW w) := by
  unfold Mm.setCol
  cases ha : m.at h with
  | none => rw [upd_none ha]; simp
  | some o =>
    have := countP_upd ha (isW w) (fun o => { o with col := k })
    have e1 : isW w (some { o with col := k }) = false := decide_eq_false hk
    rw [e1] at this
    by_cases ho : o.col = w
    · have e2 : isW w (some o) = true := decide_eq_true ho
      rw [e2] at this
      rw [if_pos ⟨o, rfl, ho⟩]
      simpa using this
    · have e2 : isW w (some o) = false := decide_eq_false ho
      rw [e2] at this
      rw [if_neg (by rintro ⟨x, hx, hy⟩; cases hx; exact ho hy)]
      simpa using this
theorem whites_setCol_le {m : Mm} {w h k : Int} (hk : k ≠ w) : (m.setCol h k).obs.countP (isW w) ≤ m.obs.countP (isW w) := by
  have := whites_setCol (m := m) (h := h) hk
  omega
theorem fresh_at {m : Mm} {w : Int} {v : V} (h : fresh m w v = true) : ∃ o, m.at v.n = some o ∧ o.col = w ∧ o.kind = v.t ∧ 4 ≤ v.t ∧ v.t ≤ 9 ∧ 1 ≤ v.n := by
  unfold fresh at h
  obtain ⟨h1, h2⟩ := of_decide_eq_true h
  unfold leads at h1
  split at h1
  · rename_i hl
    obtain ⟨a, b, c, d⟩ := hl
    cases ha : m.at v.n with
    | none => unfold Mm.kind at d; rw [ha] at d; simp only at d; omega
    | some o =>
      unfold Mm.kind at d
      unfold Mm.col at h2
      rw [ha] at d h2
      exact ⟨o, rfl, h2, d, a, b, c⟩
  · omega

/-! ### marking turns colours alone -/
structure Mk (k : Nat) (c c' : Cs) : Prop where
  lk : Lk c.m c'.m
  mode : c'.mode = c.mode
  phase : c'.phase = c.phase
  white : c'.white = c.white
  pending : c'.pending = c.pending
  sweep : c'.sweep = c.sweep
  base : c'.base = c.base
  wh : whites c' ≤ whites c
  gm : gm c' ≤ gm c
  dm : dm c' ≤ dm c + k
theorem Mk.refl (c : Cs) : Mk 0 c c := ⟨Lk.refl _, rfl, rfl, rfl, rfl, rfl, rfl, Nat.le_refl _, Nat.le_refl _, Nat.le_refl _⟩
theorem Mk.trans {i j : Nat} {a b c : Cs} (h : Mk i a b) (k : Mk j b c) : Mk (i + j) a c :=
  ⟨h.lk.trans k.lk, k.mode.trans h.mode, k.phase.trans h.phase, k.white.trans h.white, k.pending.trans h.pending, k.sweep.trans h.sweep, k.base.trans h.base, Nat.le_trans k.wh h.wh, Nat.le_trans k.gm h.gm, by have := h.dm; have := k.dm; omega⟩
theorem Mk.trans0 {a b c : Cs} (h : Mk 0 a b) (k : Mk 0 b c) : Mk 0 a c := h.trans k
theorem Mk.mono {i j : Nat} {a b : Cs} (h : Mk i a b) (hij : i ≤ j) : Mk j a b := ⟨h.lk, h.mode, h.phase, h.white, h.pending, h.sweep, h.base, h.wh, h.gm, by have := h.dm; omega⟩
theorem Mk.w01 {i : Nat} {a b : Cs} (h : Mk i a b) (hw : W01 a) : W01 b := by unfold W01 at *; rw [h.white]; exact hw
theorem lk_setCol (m : Mm) (h k : Int) : Lk m (m.setCol h k) := Lk.upd _ _ _ fun _ => rfl
theorem lk_setAge (m : Mm) (h k : Int) : Lk m (m.setAge h k) := Lk.upd _ _ _ fun _ => rfl
theorem lk_setFin (m : Mm) (h k : Int) : Lk m (m.setFin h k) := Lk.upd _ _ _ fun _ => rfl
theorem clearSlots_len (l : List V) (slot : Int) (key : Bool) : (clearSlots l slot key).length = l.length := by
  unfold clearSlots
  split
  · rfl
  · cases key <;> simp
theorem lk_clear (m : Mm) (h slot : Int) (key : Bool) : Lk m (m.clear h slot key) := Lk.upd _ _ _ fun o => by show (_, _, _, _) = (_, _, _, _); rw [clearSlots_len]
theorem mark_whites {c : Cs} {v : V} (hw : W01 c) : whites (mark c v) + (if fresh c.m c.white v = true then 1 else 0) = whites c := by
  unfold mark
  split
  · rename_i hf
    obtain ⟨o, ho, hc, -⟩ := fresh_at hf
    have e : ∃ o, c.m.at v.n = some o ∧ o.col = c.white := ⟨o, ho, hc⟩
    unfold W01 at hw
    split
    · have := whites_setCol (m := c.m) (h := v.n) (k := 3) (w := c.white) (by omega)
      rw [if_pos e] at this
      exact this
    · have := whites_setCol (m := c.m) (h := v.n) (k := 2) (w := c.white) (by omega)
      rw [if_pos e] at this
      exact this
  · rfl
theorem mark_again (c : Cs) (v : V) : (mark c v).again = c.again := by unfold mark; split <;> (try split) <;> rfl
theorem mark_grey {c : Cs} {v : V} : (mark c v).grey.length ≤ c.grey.length + (if fresh c.m c.white v = true then 1 else 0) := by
  unfold mark
  split
  · split
    · show c.grey.length ≤ _; omega
    · show (c.grey ++ [v.n]).length ≤ _; rw [List.length_append]; exact Nat.le_refl _
  · exact Nat.le_refl _
theorem mark_mk {c : Cs} (hw : W01 c) (v : V) : Mk 0 c (mark c v) := by
  have h1 := mark_whites (v := v) hw
  have h2 := mark_grey (c := c) (v := v)
  have h3 := mark_again c v
  have h : ∀ {P : Cs → Prop}, P c → (P (c.withM (c.m.setCol v.n 3))) → (P ((c.withM (c.m.setCol v.n 2)).withGrey (c.grey ++ [v.n]))) → P (mark c v) := by
    intro P a b d
    unfold mark
    split
    · split
      · exact b
      · exact d
    · exact a
  refine ⟨h (P := fun c' => Lk c.m c'.m) (Lk.refl _) (lk_setCol _ _ _) (lk_setCol _ _ _), h (P := fun c' => c'.mode = c.mode) rfl rfl rfl, h (P := fun c' => c'.phase = c.phase) rfl rfl rfl, h (P := fun c' => c'.white = c.white) rfl rfl rfl, h (P := fun c' => c'.pending = c.pending) rfl rfl rfl, h (P := fun c' => c'.sweep = c.sweep) rfl rfl rfl, h (P := fun c' => c'.base = c.base) rfl rfl rfl, by omega, ?_, ?_⟩
  · unfold Proofs.YtminbemdcanakaaGreat.gm; omega
  · unfold Proofs.YtminbemdcanakaaGreat.dm; rw [h3]; omega
theorem marks_mk {α : Type} (f : Cs → α → Cs) (hf : ∀ c x, W01 c → Mk 0 c (f c x)) : ∀ (l : List α) (c : Cs), W01 c → Mk 0 c (l.foldl f c) := by
  intro l
  induction l with
  | nil => intro c _; exact Mk.refl c
  | cons x l ih => intro c hw; exact (hf c x hw).trans0 (ih _ ((hf c x hw).w01 hw))
theorem Mk.setCol3 (c : Cs) (h : Int) (hw : W01 c) : Mk 0 c (c.withM (c.m.setCol h 3)) := by
  have := whites_setCol_le (m := c.m) (h := h) (k := 3) (w := c.white) (by unfold W01 at hw; omega)
  refine ⟨lk_setCol _ _ _, rfl, rfl, rfl, rfl, rfl, rfl, this, ?_, ?_⟩
  · show 2 * (c.m.setCol h 3).obs.countP (isW c.white) + c.grey.length ≤ 2 * c.m.obs.countP (isW c.white) + c.grey.length; omega
  · show 2 * (c.m.setCol h 3).obs.countP (isW c.white) + c.grey.length + c.again.length ≤ 2 * c.m.obs.countP (isW c.white) + c.grey.length + c.again.length + 0; omega
theorem through_mk {c : Cs} (hw : W01 c) (h : Int) : Mk 1 c (through c h) := by
  unfold through
  split
  · exact (Mk.refl c).mono (by omega)
  · split
    · have key : ∀ c1 : Cs, Mk 0 c c1 → Mk 1 c (c1.withAgain (c1.again ++ [h])) := by
        intro c1 k
        refine ⟨k.lk, k.mode, k.phase, k.white, k.pending, k.sweep, k.base, k.wh, k.gm, ?_⟩
        have := k.dm
        show 2 * whites c1 + c1.grey.length + (c1.again ++ [h]).length ≤ _
        rw [List.length_append]
        show 2 * whites c1 + c1.grey.length + (c1.again.length + 1) ≤ _
        unfold Proofs.YtminbemdcanakaaGreat.dm at *
        omega
      apply key
      unfold markFirst
      split
      · exact Mk.refl c
      · exact mark_mk hw _
    · refine Mk.mono ?_ (Nat.zero_le 1)
      exact (Mk.setCol3 c h hw).trans0 (marks_mk mark (fun c v h => mark_mk h v) _ _ hw)
theorem next_mk {c : Cs} (hw : W01 c) : Mk 0 c (next c) ∧ (c.grey ≠ [] → gm (next c) < gm c) := by
  unfold next
  cases hg : c.grey.getLast? with
  | none => exact ⟨Mk.refl c, fun h => absurd (List.getLast?_eq_none_iff.1 hg) h⟩
  | some h =>
    have hne : c.grey ≠ [] := by intro e; rw [e] at hg; cases hg
    have hlen : c.grey.dropLast.length + 1 = c.grey.length := by
      rw [List.length_dropLast]
      have := List.length_pos_iff.2 hne
      omega
    have k := through_mk (c := (c.withGrey c.grey.dropLast)) hw h
    have e1 : whites (c.withGrey c.grey.dropLast) = whites c := rfl
    have e2 : gm (c.withGrey c.grey.dropLast) + 1 = gm c := by show 2 * whites c + c.grey.dropLast.length + 1 = 2 * whites c + c.grey.length; omega
    have e3 : dm (c.withGrey c.grey.dropLast) + 1 = dm c := by show 2 * whites c + c.grey.dropLast.length + c.again.length + 1 = 2 * whites c + c.grey.length + c.again.length; omega
    have g := k.gm
    have d := k.dm
    exact ⟨⟨k.lk, k.mode, k.phase, k.white, k.pending, k.sweep, k.base, k.wh, by show gm (through (c.withGrey c.grey.dropLast) h) ≤ _; omega, by show dm (through (c.withGrey c.grey.dropLast) h) ≤ _; omega⟩, fun _ => by show gm (through (c.withGrey c.grey.dropLast) h) < _; omega⟩
theorem goOn_mk (c : Cs) (hw : W01 c) : Mk 0 c (goOn c) ∧ (goOn c).grey = [] := by
  obtain ⟨n, hn⟩ : ∃ n, gm c = n := ⟨_, rfl⟩
  induction n using Nat.strongRecOn generalizing c with
  | _ n ih =>
    rw [goOn]
    split
    · rename_i h
      obtain ⟨k, -⟩ := next_mk hw
      obtain ⟨a, b⟩ := ih (gm (next c)) (by omega) (next c) (k.w01 hw) rfl
      exact ⟨k.trans0 a, b⟩
    · rename_i h
      refine ⟨Mk.refl c, ?_⟩
      by_cases hg : c.grey = []
      · exact hg
      · exact absurd ⟨hg, (next_mk hw).2 hg⟩ h
/-- One round of the loop. -/
theorem goOn_step {c : Cs} (hw : W01 c) (hg : c.grey ≠ []) : goOn c = goOn (next c) := by
  conv => lhs; rw [goOn]
  rw [dif_pos ⟨hg, (next_mk hw).2 hg⟩]
theorem goOn_done {c : Cs} (hg : c.grey = []) : goOn c = c := by
  rw [goOn, dif_neg (fun h => h.1 hg)]
theorem begin_mk {c : Cs} (hw : W01 c) : Mk 0 c (begin_ c) := by
  have k := marks_mk mark (fun c v h => mark_mk h v) c.m.roots c hw
  exact k.trans0 (marks_mk (fun c h => mark c (valueOf c.m h)) (fun c h hw => mark_mk hw _) _ _ (k.w01 hw))
end Go.Proofs.YtminbemdcanakaaGreat
/- The end of marking ends. -/
namespace Go.Proofs.YtminbemdcanakaaGreat
set_option linter.unusedVariables false
set_option linter.unusedSimpArgs false

theorem through_mk0 {c : Cs} (hw : W01 c) (h : Int) (hn : weakB (c.m.get h) = false) : Mk 0 c (through c h) := by
  unfold through
  split
  · exact Mk.refl c
  · rw [if_neg (by rw [hn]; decide)]
    exact (Mk.setCol3 c h hw).trans0 (marks_mk mark (fun c v h => mark_mk h v) _ _ hw)
theorem unagain_mk {c : Cs} {h : Int} {l : List Int} (ha : c.again = h :: l) : Mk 0 c (c.withAgain l) ∧ dm (c.withAgain l) + 1 = dm c := by
  have e : dm (c.withAgain l) + 1 = dm c := by
    show 2 * whites c + c.grey.length + l.length + 1 = 2 * whites c + c.grey.length + c.again.length
    rw [ha]; rfl
  exact ⟨⟨Lk.refl _, rfl, rfl, rfl, rfl, rfl, rfl, Nat.le_refl _, Nat.le_refl _, by omega⟩, e⟩
theorem drain1_mk {e : En} (hw : W01 e.c) (ha : e.c.again ≠ []) : Mk 0 e.c (drain1 e).c ∧ dm (drain1 e).c < dm e.c ∧ (e.c.grey = [] → (drain1 e).c.grey = []) ∧ (drain1 e).weak.length + dm (drain1 e).c ≤ e.weak.length + dm e.c := by
  unfold drain1
  split
  · rename_i h; exact absurd h ha
  · rename_i h l heq
    obtain ⟨k, d⟩ := unagain_mk heq
    split
    · exact ⟨k, by show dm (e.c.withAgain l) < _; omega, fun g => g, by show e.weak.length + dm (e.c.withAgain l) ≤ _; omega⟩
    · split
      · refine ⟨k, by show dm (e.c.withAgain l) < _; omega, fun g => g, ?_⟩
        show (if h ∈ e.weak then e.weak else e.weak ++ [h]).length + dm (e.c.withAgain l) ≤ _
        split
        · omega
        · rw [List.length_append]; show e.weak.length + 1 + dm (e.c.withAgain l) ≤ _; omega
      · rename_i hwk
        have hb : weakB (e.c.m.get h) = false := by simpa using hwk
        have k2 := through_mk0 (c := (e.c.withAgain l)) hw h hb
        obtain ⟨k3, g3⟩ := goOn_mk (through (e.c.withAgain l) h) (k2.w01 hw)
        have d2 := k2.dm
        have d3 := k3.dm
        refine ⟨k.trans0 (k2.trans0 k3), ?_, fun _ => g3, ?_⟩
        · show dm (goOn (through (e.c.withAgain l) h)) < _; omega
        · show e.weak.length + dm (goOn (through (e.c.withAgain l) h)) ≤ _; omega
theorem drain_mk (e : En) (hw : W01 e.c) : Mk 0 e.c (drain e).c ∧ (drain e).c.again = [] ∧ (e.c.grey = [] → (drain e).c.grey = []) ∧ (drain e).weak.length + dm (drain e).c ≤ e.weak.length + dm e.c := by
  obtain ⟨n, hn⟩ : ∃ n, dm e.c = n := ⟨_, rfl⟩
  induction n using Nat.strongRecOn generalizing e with
  | _ n ih =>
    rw [drain]
    split
    · rename_i h
      obtain ⟨k, d, g, l⟩ := drain1_mk hw h.1
      obtain ⟨a, b, c, f⟩ := ih _ (by omega) (drain1 e) (k.w01 hw) rfl
      exact ⟨k.trans0 a, b, fun x => c (g x), Nat.le_trans f l⟩
    · rename_i h
      refine ⟨Mk.refl _, ?_, fun g => g, Nat.le_refl _⟩
      by_cases ha : e.c.again = []
      · exact ha
      · exact absurd ⟨ha, (drain1_mk hw ha).2.1⟩ h
theorem drain_step {e : En} (hw : W01 e.c) (ha : e.c.again ≠ []) : drain e = drain (drain1 e) := by
  conv => lhs; rw [drain]
  rw [dif_pos ⟨ha, (drain1_mk hw ha).2.1⟩]
theorem drain_done {e : En} (ha : e.c.again = []) : drain e = e := by
  rw [drain, dif_neg (fun h => h.1 ha)]

/-! ### rounds -/
/-- Something marked: one white less. -/
structure Mf (c : Cs) (s : Cs × Bool) : Prop where
  is : Mk 0 c s.1
  less : s.2 = true → whites s.1 < whites c
  again : s.1.again = c.again
  same : s.2 = false → s.1 = c
theorem Mf.refl (c : Cs) : Mf c (c, false) := ⟨Mk.refl c, fun h => Bool.noConfusion h, rfl, fun _ => rfl⟩
theorem Mf.mark {c : Cs} {s : Cs × Bool} (h : Mf c s) (hw : W01 c) (v : V) : Mf c (Proofs.YtminbemdcanakaaGreat.mark s.1 v, fresh s.1.m s.1.white v || s.2) := by
  have hw1 := h.is.w01 hw
  have k := mark_whites (v := v) hw1
  have hwh := h.is.wh
  have hl := h.less
  refine ⟨h.is.trans0 (mark_mk hw1 v), fun e => ?_, (mark_again _ _).trans h.again, fun e => ?_⟩
  · show whites (Proofs.YtminbemdcanakaaGreat.mark s.1 v) < whites c
    cases hf : fresh s.1.m s.1.white v with
    | true => rw [hf] at k; simp at k; omega
    | false =>
      rw [hf] at k
      simp only [Bool.or_eq_true] at e
      rw [hf] at e
      have := hl (by simpa using e)
      simp at k
      omega
  · simp only [Bool.or_eq_false_iff] at e
    show Proofs.YtminbemdcanakaaGreat.mark s.1 v = c
    unfold Proofs.YtminbemdcanakaaGreat.mark
    rw [if_neg (by rw [e.1]; decide)]
    exact h.same e.2
theorem Mf.step {c : Cs} {s : Cs × Bool} (h : Mf c s) (hw : W01 c) (o : Ob) (i : Nat) : Mf c (ephStep o s i) := by
  unfold ephStep
  split
  · exact h.mark hw _
  · exact h
theorem Mf.fold {c : Cs} (hw : W01 c) (o : Ob) : ∀ (l : List Nat) (s : Cs × Bool), Mf c s → Mf c (l.foldl (ephStep o) s) := by
  intro l
  induction l with
  | nil => intro s h; exact h
  | cons x l ih => intro s h; exact ih _ (h.step hw o x)
theorem ephemeral_mf {c : Cs} (hw : W01 c) (h : Int) : Mf c (ephemeral c h) := Mf.fold hw _ _ _ (Mf.refl c)
theorem Mf.trans {c : Cs} {s t : Cs × Bool} (h : Mf c s) (k : Mf s.1 t) : Mf c (t.1, t.2 || s.2) := by
  refine ⟨h.is.trans0 k.is, fun e => ?_, k.again.trans h.again, fun e => ?_⟩
  · have h1 := h.is.wh
    have h2 := k.is.wh
    show whites t.1 < whites c
    simp only [Bool.or_eq_true] at e
    rcases e with e | e
    · have := k.less e; omega
    · have := h.less e; omega
  · simp only [Bool.or_eq_false_iff] at e
    exact (k.same e.1).trans (h.same e.2)
theorem roundS_mf {c : Cs} (hw : W01 c) {s : Cs × Bool} (hs : Mf c s) (h : Int) : Mf c (roundS s h) := hs.trans (ephemeral_mf (hs.is.w01 hw) h)
theorem round1_mf {c : Cs} (hw : W01 c) (weak : List Int) : Mf c (round1 weak c) := by
  have : ∀ (l : List Int) (s : Cs × Bool), Mf c s → Mf c (l.foldl roundS s) := by
    intro l
    induction l with
    | nil => intro s h; exact h
    | cons x l ih => intro s h; exact ih _ (roundS_mf hw h x)
  exact this _ _ (Mf.refl c)
theorem roundE_mk {e : En} (hw : W01 e.c) : Mk 0 e.c (roundE e).c ∧ (roundE e).c.again = [] ∧ (roundE e).c.grey = [] ∧ (roundE e).weak.length + dm (roundE e).c ≤ e.weak.length + dm e.c ∧ ((round1 e.weak e.c).2 = true → whites (roundE e).c < whites e.c) := by
  have f := round1_mf hw e.weak
  have hw1 := f.is.w01 hw
  obtain ⟨k, g⟩ := goOn_mk _ hw1
  obtain ⟨d, a, b, l⟩ := drain_mk ⟨goOn (round1 e.weak e.c).1, e.weak⟩ (k.w01 hw1)
  have d1 := f.is.dm
  have d2 := k.dm
  refine ⟨f.is.trans0 (k.trans0 d), a, b g, ?_, fun h => ?_⟩
  · unfold roundE
    refine Nat.le_trans l ?_
    show e.weak.length + dm (goOn (round1 e.weak e.c).1) ≤ _
    omega
  · have h1 := f.less h
    have h2 := k.wh
    have h3 := d.wh
    have h3' : whites (roundE e).c ≤ whites (goOn (round1 e.weak e.c).1) := h3
    omega
theorem rounds_mk (e : En) (hw : W01 e.c) : Mk 0 e.c (rounds e).c ∧ (rounds e).c.again = [] ∧ (rounds e).c.grey = [] ∧ (rounds e).weak.length + dm (rounds e).c ≤ e.weak.length + dm e.c := by
  obtain ⟨n, hn⟩ : ∃ n, whites e.c = n := ⟨_, rfl⟩
  induction n using Nat.strongRecOn generalizing e with
  | _ n ih =>
    obtain ⟨k, a, g, l, w⟩ := roundE_mk hw
    rw [rounds]
    split
    · rename_i h
      obtain ⟨x, y, z, u⟩ := ih _ (by rw [← hn]; exact h.2) (roundE e) (k.w01 hw) rfl
      exact ⟨k.trans0 x, y, z, Nat.le_trans u l⟩
    · exact ⟨k, a, g, l⟩
theorem rounds_step {e : En} (hw : W01 e.c) (h : (round1 e.weak e.c).2 = true) : rounds e = rounds (roundE e) := by
  conv => lhs; rw [rounds]
  rw [dif_pos ⟨h, (roundE_mk hw).2.2.2.2 h⟩]
theorem rounds_done {e : En} (h : (round1 e.weak e.c).2 = false) : rounds e = roundE e := by
  rw [rounds, dif_neg (by rw [h]; intro x; cases x.1)]
theorem roundE_same {e : En} (hw : W01 e.c) (h : (round1 e.weak e.c).2 = false) (hg : e.c.grey = []) (ha : e.c.again = []) : roundE e = e := by
  have f := round1_mf hw e.weak
  unfold roundE
  rw [f.same h, goOn_done hg]
  exact drain_done ha

/-! ### entries are cleared -/
theorem whites_clear (m : Mm) (w h i : Int) (k : Bool) : (m.clear h i k).obs.countP (isW w) = m.obs.countP (isW w) := by
  unfold Mm.clear
  cases ha : m.at h with
  | none => rw [upd_none ha]
  | some o =>
    have := countP_upd ha (isW w) (fun o => { o with slots := clearSlots o.slots i k })
    have e : isW w (some { o with slots := clearSlots o.slots i k }) = isW w (some o) := rfl
    rw [e] at this
    omega
theorem clear_mk (c : Cs) (h i : Int) (k : Bool) : Mk 0 c (c.withM (c.m.clear h i k)) := by
  have e : whites (c.withM (c.m.clear h i k)) = whites c := whites_clear _ _ _ _ _
  refine ⟨lk_clear _ _ _ _, rfl, rfl, rfl, rfl, rfl, rfl, by omega, ?_, ?_⟩
  · show 2 * whites (c.withM (c.m.clear h i k)) + c.grey.length ≤ 2 * whites c + c.grey.length; omega
  · show 2 * whites (c.withM (c.m.clear h i k)) + c.grey.length + c.again.length ≤ 2 * whites c + c.grey.length + c.again.length + 0; omega
/-- Clearing leaves the lists as they are. -/
structure Cl (c c' : Cs) : Prop where
  is : Mk 0 c c'
  grey : c'.grey = c.grey
  again : c'.again = c.again
theorem Cl.refl (c : Cs) : Cl c c := ⟨Mk.refl c, rfl, rfl⟩
theorem Cl.trans {a b c : Cs} (h : Cl a b) (k : Cl b c) : Cl a c := ⟨h.is.trans0 k.is, k.grey.trans h.grey, k.again.trans h.again⟩
theorem cls {α : Type} (f : Cs → α → Cs) (hf : ∀ c x, Cl c (f c x)) : ∀ (l : List α) (c : Cs), Cl c (l.foldl f c) := by
  intro l
  induction l with
  | nil => intro c; exact Cl.refl c
  | cons x l ih => intro c; exact (hf c x).trans (ih _)
def EachCl (f : EachF) : Prop := ∀ c o h i k, Cl c (f c o h i k)
theorem clrV_cl : EachCl clrV := by
  intro c o h i k
  unfold clrV
  split
  · exact ⟨clear_mk _ _ _ _, rfl, rfl⟩
  · exact Cl.refl c
theorem clrE_cl : EachCl clrE := by
  intro c o h i k
  unfold clrE
  split
  · exact ⟨clear_mk _ _ _ _, rfl, rfl⟩
  · exact Cl.refl c
theorem eachAt_cl {f : EachF} (hf : EachCl f) (o : Ob) (h : Int) (c : Cs) (i : Nat) : Cl c (eachAt f o h c i) := by
  unfold eachAt
  split
  · exact Cl.refl c
  · exact hf _ _ _ _ _
theorem each1_cl {f : EachF} (hf : EachCl f) (c : Cs) (h : Int) : Cl c (each1 f c h) := cls _ (fun c i => eachAt_cl hf _ _ c i) _ _
theorem each_cl {f : EachF} (hf : EachCl f) (weak : List Int) (c : Cs) : Cl c (each f weak c) := cls _ (fun c h => each1_cl hf c h) _ _

/-! ### the whole end -/
theorem whites_setFin (m : Mm) (w h n : Int) : (m.setFin h n).obs.countP (isW w) = m.obs.countP (isW w) := by
  unfold Mm.setFin
  cases ha : m.at h with
  | none => rw [upd_none ha]
  | some o =>
    have := countP_upd ha (isW w) (fun o => { o with fin := n })
    have e : isW w (some { o with fin := n }) = isW w (some o) := rfl
    rw [e] at this
    omega
theorem fins_all (w : Int) : ∀ (l : List Int) (m : Mm), Lk m (l.foldl (fun m h => m.setFin h 0) m) ∧ (l.foldl (fun m h => m.setFin h 0) m).obs.countP (isW w) = m.obs.countP (isW w) := by
  intro l
  induction l with
  | nil => intro m; exact ⟨Lk.refl m, rfl⟩
  | cons x l ih =>
    intro m
    obtain ⟨a, b⟩ := ih (m.setFin x 0)
    exact ⟨(lk_setFin m x 0).trans a, b.trans (whites_setFin m w x 0)⟩
theorem orderF_length : ∀ (l : List (Option Ob)) (k : Nat), (orderF k l).length ≤ l.length := by
  intro l
  induction l with
  | nil => intro k; exact Nat.le_refl _
  | cons y l ih =>
    intro k
    have := ih (k + 1)
    cases y with
    | none => show (orderF (k + 1) l).length ≤ _; simp; omega
    | some y => show (_ :: orderF (k + 1) l).length ≤ _; simp; omega
theorem sepL_len (c : Cs) : (sepL c).length ≤ c.m.obs.length := by
  unfold sepL
  rw [List.length_mergeSort]
  exact Nat.le_trans (List.length_filter_le _ _) (orderF_length _ _)
/-- What separating leaves. -/
structure Sp (c c' : Cs) : Prop where
  lk : Lk c.m c'.m
  mode : c'.mode = c.mode
  phase : c'.phase = c.phase
  white : c'.white = c.white
  sweep : c'.sweep = c.sweep
  base : c'.base = c.base
  pending : c'.pending.length ≤ c.pending.length + c.m.obs.length
  dm : dm c' ≤ dm c
theorem Mk.sp {c c' : Cs} (h : Mk 0 c c') : Sp c c' := ⟨h.lk, h.mode, h.phase, h.white, h.sweep, h.base, by rw [h.pending]; omega, h.dm⟩
theorem separate_sp {c : Cs} (hw : W01 c) : Sp c (separate c) := by
  obtain ⟨a, b⟩ := fins_all c.white (sepL c) c.m
  obtain ⟨c1, hc1⟩ : ∃ c1 : Cs, c1 = ((c.withPending (c.pending ++ sepL c)).withM ((sepL c).foldl (fun m h => m.setFin h 0) c.m)) := ⟨_, rfl⟩
  have e : separate c = (sepL c).foldl (fun c h => mark c (valueOf c.m h)) c1 := by rw [hc1]; rfl
  have hw1 : W01 c1 := by rw [hc1]; exact hw
  have k := marks_mk (fun c h => mark c (valueOf c.m h)) (fun c h hw => mark_mk hw _) (sepL c) c1 hw1
  rw [← e] at k
  have d1 : dm c1 = dm c := by
    rw [hc1]
    show 2 * (List.foldl (fun m h => m.setFin h 0) c.m (sepL c)).obs.countP (isW c.white) + c.grey.length + c.again.length = 2 * c.m.obs.countP (isW c.white) + c.grey.length + c.again.length
    rw [b]
  have hl := sepL_len c
  refine ⟨?_, k.mode.trans (by rw [hc1]; rfl), k.phase.trans (by rw [hc1]; rfl), k.white.trans (by rw [hc1]; rfl), k.sweep.trans (by rw [hc1]; rfl), k.base.trans (by rw [hc1]; rfl), ?_, ?_⟩
  · exact Lk.trans (b := c1.m) (by rw [hc1]; exact a) k.lk
  · rw [k.pending, hc1]; show (c.pending ++ sepL c).length ≤ _; rw [List.length_append]; omega
  · have := k.dm; omega
theorem endA_mk {c : Cs} (hw : W01 c) : Mk 0 c (endA c).c ∧ (endA c).c.again = [] ∧ (endA c).c.grey = [] ∧ (endA c).weak.length + dm (endA c).c ≤ dm c := by
  have k0 := begin_mk hw
  obtain ⟨k1, g1⟩ := goOn_mk (begin_ c) (k0.w01 hw)
  have w1 := k1.w01 (k0.w01 hw)
  obtain ⟨k2, a2, g2, l2⟩ := drain_mk ⟨goOn (begin_ c), []⟩ w1
  obtain ⟨k3, a3, g3, l3⟩ := rounds_mk (drain ⟨goOn (begin_ c), []⟩) (k2.w01 w1)
  have d0 := k0.dm
  have d1 := k1.dm
  refine ⟨k0.trans0 (k1.trans0 (k2.trans0 k3)), a3, g3, ?_⟩
  unfold endA
  refine Nat.le_trans l3 (Nat.le_trans l2 ?_)
  show 0 + dm (goOn (begin_ c)) ≤ dm c
  omega
theorem endB_sp {e : En} (hw : W01 e.c) : Sp e.c (endB e).c ∧ (endB e).c.again = [] ∧ (endB e).c.grey = [] ∧ (endB e).weak.length + dm (endB e).c ≤ e.weak.length + dm e.c := by
  have k0 := (each_cl clrV_cl e.weak e.c).is
  have w0 := k0.w01 hw
  have s := separate_sp w0
  have ws : W01 (separate (each clrV e.weak e.c)) := by unfold W01 at *; rw [s.white]; exact w0
  obtain ⟨k1, g1⟩ := goOn_mk (separate (each clrV e.weak e.c)) ws
  have w1 := k1.w01 ws
  obtain ⟨k2, a2, g2, l2⟩ := drain_mk ⟨goOn (separate (each clrV e.weak e.c)), e.weak⟩ w1
  obtain ⟨k3, a3, g3, l3⟩ := rounds_mk (drain ⟨goOn (separate (each clrV e.weak e.c)), e.weak⟩) (k2.w01 w1)
  have k := k1.trans0 (k2.trans0 k3)
  have d0 := k0.dm
  have d1 := s.dm
  have d2 := k1.dm
  refine ⟨⟨k0.lk.trans (s.lk.trans k.lk), k.mode.trans (s.mode.trans k0.mode), k.phase.trans (s.phase.trans k0.phase), k.white.trans (s.white.trans k0.white), k.sweep.trans (s.sweep.trans k0.sweep), k.base.trans (s.base.trans k0.base), ?_, ?_⟩, a3, g3, ?_⟩
  · have p1 := k.pending
    have p2 := s.pending
    rw [k0.pending, k0.lk.len] at p2
    have p1' : (endB e).c.pending = (separate (each clrV e.weak e.c)).pending := p1
    rw [p1']
    exact p2
  · have d3 := k.dm
    have d3' : dm (endB e).c ≤ dm (separate (each clrV e.weak e.c)) + 0 := d3
    omega
  · unfold endB
    refine Nat.le_trans l3 (Nat.le_trans l2 ?_)
    show e.weak.length + dm (goOn (separate (each clrV e.weak e.c))) ≤ _
    omega
theorem blacken_lk : ∀ (l : List Int) (m : Mm), Lk m (blacken l m) := by
  intro l
  induction l with
  | nil => intro m; exact Lk.refl m
  | cons x l ih => intro m; exact (lk_setCol m x 3).trans (ih _)
theorem endC_sp (e : En) : Lk e.c.m (endC e).m ∧ (endC e).mode = e.c.mode ∧ (endC e).phase = e.c.phase ∧ (endC e).white = 1 - e.c.white ∧ (endC e).grey = e.c.grey ∧ (endC e).again = e.c.again ∧ (endC e).pending = e.c.pending ∧ (endC e).sweep = e.c.sweep ∧ (endC e).base = e.c.base := by
  have k := each_cl clrE_cl e.weak e.c
  refine ⟨k.is.lk.trans (blacken_lk _ _), k.is.mode, k.is.phase, ?_, k.grey, k.again, k.is.pending, k.is.sweep, k.is.base⟩
  show 1 - (each clrE e.weak e.c).white = _
  rw [k.is.white]
theorem end_sp {c : Cs} (hw : W01 c) : Lk c.m (end_ c).m ∧ (end_ c).mode = c.mode ∧ (end_ c).phase = c.phase ∧ (end_ c).white = 1 - c.white ∧ (end_ c).grey = [] ∧ (end_ c).again = [] ∧ (end_ c).pending.length ≤ c.pending.length + c.m.obs.length ∧ (end_ c).sweep = c.sweep ∧ (end_ c).base = c.base := by
  obtain ⟨a, a1, a2, -⟩ := endA_mk hw
  obtain ⟨b, b1, b2, -⟩ := endB_sp (a.w01 hw)
  obtain ⟨x1, x2, x3, x4, x5, x6, x7, x8, x9⟩ := endC_sp (endB (endA c))
  unfold end_
  refine ⟨a.lk.trans (b.lk.trans x1), x2.trans (b.mode.trans a.mode), x3.trans (b.phase.trans a.phase), ?_, x5.trans b2, x6.trans b1, ?_, x8.trans (b.sweep.trans a.sweep), x9.trans (b.base.trans a.base)⟩
  · rw [x4, b.white, a.white]
  · rw [x7]
    have := b.pending
    rw [a.pending, a.lk.len] at this
    exact this
theorem whites_le (c : Cs) : whites c ≤ c.m.obs.length := List.countP_le_length
end Go.Proofs.YtminbemdcanakaaGreat
/- What one of a cycle leaves within its bounds. -/
namespace Go.Proofs.YtminbemdcanakaaGreat
set_option linter.unusedVariables false
set_option linter.unusedSimpArgs false

theorem countP_none {α : Type} (p : Option α → Bool) (hp : p none = false) : ∀ (l : List (Option α)) (i : Nat), (l.set i none).countP p ≤ l.countP p := by
  intro l
  induction l with
  | nil => intro i; simp
  | cons x l ih =>
    intro i
    cases i with
    | zero => rw [List.set_cons_zero, List.countP_cons, List.countP_cons, hp]; simp
    | succ i => rw [List.set_cons_succ, List.countP_cons, List.countP_cons]; have := ih i; omega
theorem drop_len (m : Mm) (h : Int) : (m.drop h).obs.length = m.obs.length := by unfold Mm.drop; split <;> simp
theorem drop_roots (m : Mm) (h : Int) : (m.drop h).roots = m.roots := by unfold Mm.drop; split <;> rfl
theorem drop_mem {m : Mm} {h : Int} {o : Ob} (ho : some o ∈ (m.drop h).obs) : some o ∈ m.obs := by
  unfold Mm.drop at ho
  split at ho
  · rcases List.mem_or_eq_of_mem_set ho with x | x
    · exact x
    · cases x
  · exact ho
theorem drop_sz {m : Mm} (s : Sz m) (h : Int) : Sz (m.drop h) := ⟨by rw [drop_len]; exact s.n, by rw [drop_roots]; exact s.r, fun o ho => s.s o (drop_mem ho)⟩
theorem drop_whites (m : Mm) (w h : Int) : (m.drop h).obs.countP (isW w) ≤ m.obs.countP (isW w) := by
  unfold Mm.drop
  split
  · exact countP_none _ rfl _ _
  · exact Nat.le_refl _
theorem setCol_whites (m : Mm) (w h k : Int) : (m.setCol h k).obs.countP (isW w) ≤ m.obs.countP (isW w) + 1 := by
  unfold Mm.setCol
  cases ha : m.at h with
  | none => rw [upd_none ha]; omega
  | some o =>
    have := countP_upd ha (isW w) (fun o => { o with col := k })
    split at this <;> split at this <;> omega
theorem setAge_whites (m : Mm) (w h k : Int) : (m.setAge h k).obs.countP (isW w) = m.obs.countP (isW w) := by
  unfold Mm.setAge
  cases ha : m.at h with
  | none => rw [upd_none ha]
  | some o =>
    have := countP_upd ha (isW w) (fun o => { o with age := k })
    have e : isW w (some { o with age := k }) = isW w (some o) := rfl
    rw [e] at this
    omega
theorem setCA_whites (c : Cs) (w h k a : Int) : (setCA c h k a).m.obs.countP (isW w) ≤ c.m.obs.countP (isW w) + 1 := by
  show ((c.m.setCol h k).setAge h a).obs.countP (isW w) ≤ _
  rw [setAge_whites]
  exact setCol_whites _ _ _ _
theorem setCA_lk' (c : Cs) (x col age : Int) : Lk c.m (setCA c x col age).m := (lk_setCol _ _ _).trans (lk_setAge _ _ _)
/-- What one of a cycle leaves within bounds. -/
structure Un (c c' : Cs) : Prop where
  sz : Sz c.m → Sz c'.m
  len : c'.m.obs.length = c.m.obs.length
  w01 : W01 c'
  dm : dm c' ≤ max (dm c + 2) (2 * c.m.obs.length)
  pend : c'.pending.length ≤ c.pending.length + c.m.obs.length
theorem Mk.un {c c' : Cs} (h : Mk 0 c c') (hw : W01 c) : Un c c' := ⟨h.lk.sz, h.lk.len, h.w01 hw, by have := h.dm; omega, by rw [h.pending]; omega⟩
theorem unit_un {c : Cs} (hw : W01 c) : Un c (unit c) := by
  unfold unit
  split
  · have k := begin_mk (c := (c.withGrey []).withAgain []) hw
    have u := k.un hw
    refine ⟨u.sz, u.len, u.w01, ?_, u.pend⟩
    have h1 : dm (begin_ ((c.withGrey []).withAgain [])) ≤ dm ((c.withGrey []).withAgain []) := k.dm
    have h2 : dm ((c.withGrey []).withAgain []) ≤ dm c := by
      show 2 * whites c + 0 + 0 ≤ 2 * whites c + c.grey.length + c.again.length
      omega
    show dm (begin_ ((c.withGrey []).withAgain [])) ≤ _
    omega
  split
  · exact (next_mk hw).1.un hw
  split
  · obtain ⟨a1, a2, a3, a4, a5, a6, a7, a8, a9⟩ := end_sp hw
    refine ⟨a1.sz, a1.len, ?_, ?_, a7⟩
    · have e : (end_ c).white = 1 - c.white := a4
      show (end_ c).white = 0 ∨ (end_ c).white = 1
      unfold W01 at hw
      omega
    · have h1 : whites (end_ c) ≤ (end_ c).m.obs.length := whites_le _
      rw [a1.len] at h1
      show 2 * whites (end_ c) + (end_ c).grey.length + (end_ c).again.length ≤ _
      rw [a5, a6]
      simp only [List.length_nil]
      omega
  split
  · exact ⟨fun s => s, rfl, hw, by show dm c ≤ _; omega, Nat.le_add_right _ _⟩
  · rename_i h l hs
    unfold sweep1
    split
    · exact ⟨fun s => s, rfl, hw, by show dm c ≤ _; omega, Nat.le_add_right _ _⟩
    split
    · refine ⟨fun s => drop_sz s _, drop_len _ _, hw, ?_, Nat.le_add_right _ _⟩
      have h1 := drop_whites c.m c.white h
      have e : dm c = 2 * c.m.obs.countP (isW c.white) + c.grey.length + c.again.length := rfl
      show 2 * (c.m.drop h).obs.countP (isW c.white) + c.grey.length + c.again.length ≤ _
      omega
    · have k := setCA_lk' (c.withSweep l) h (c.withSweep l).white 0
      refine ⟨k.sz, k.len, hw, ?_, Nat.le_add_right _ _⟩
      have h1 := setCA_whites (c.withSweep l) c.white h (c.withSweep l).white 0
      have h2 : (c.withSweep l).m.obs.countP (isW c.white) = c.m.obs.countP (isW c.white) := rfl
      have e : dm c = 2 * c.m.obs.countP (isW c.white) + c.grey.length + c.again.length := rfl
      show 2 * (setCA (c.withSweep l) h (c.withSweep l).white 0).m.obs.countP (isW c.white) + c.grey.length + c.again.length ≤ _
      omega
end Go.Proofs.YtminbemdcanakaaGreat
/- The collector with fuel in place of measures: so the kernel can run it. -/
namespace Go.Proofs.YtminbemdcanakaaGreat
set_option linter.unusedVariables false
set_option linter.unusedSimpArgs false

def goF : Nat → Cs → Cs
  | 0, c => c
  | n + 1, c => match c.grey with
    | [] => c
    | _ :: _ => goF n (next c)
theorem goF_eq : ∀ (n : Nat) (c : Cs), W01 c → gm c ≤ n → goF n c = goOn c := by
  intro n
  induction n with
  | zero =>
    intro c hw hn
    have hg : c.grey = [] := List.length_eq_zero_iff.1 (by have e : gm c = 2 * whites c + c.grey.length := rfl; omega)
    rw [goOn_done hg]
    rfl
  | succ n ih =>
    intro c hw hn
    unfold goF
    cases hg : c.grey with
    | nil => rw [goOn_done hg]
    | cons x l =>
      have hne : c.grey ≠ [] := by rw [hg]; exact fun y => nomatch y
      obtain ⟨a, b⟩ := next_mk hw
      have := b hne
      rw [goOn_step hw hne]
      exact ih _ (a.w01 hw) (by omega)
theorem gm_dm (c : Cs) : gm c ≤ dm c := by show 2 * whites c + c.grey.length ≤ 2 * whites c + c.grey.length + c.again.length; omega
def drain1F (k : Nat) (e : En) : En := match e.c.again with
  | [] => e
  | h :: l =>
    if (e.c.m.get h).kind = 0 then { e with c := e.c.withAgain l }
    else if weakB (e.c.m.get h) = true then
      { e with c := e.c.withAgain l, weak := if h ∈ e.weak then e.weak else e.weak ++ [h] }
    else { e with c := goF k (through (e.c.withAgain l) h) }
theorem drain1F_eq {k : Nat} {e : En} (hw : W01 e.c) (hk : dm e.c ≤ k) : drain1F k e = drain1 e := by
  unfold drain1F drain1
  cases ha : e.c.again with
  | nil => rfl
  | cons h l =>
    dsimp only
    have g := (through_mk (c := e.c.withAgain l) hw h)
    have h1 := g.gm
    have h2 : gm (e.c.withAgain l) = gm e.c := rfl
    have h3 := gm_dm e.c
    rw [goF_eq k _ (g.w01 hw) (by omega)]
def drF (k : Nat) : Nat → En → En
  | 0, e => e
  | n + 1, e => match e.c.again with
    | [] => e
    | _ :: _ => drF k n (drain1F k e)
theorem drF_eq {k : Nat} : ∀ (n : Nat) (e : En), W01 e.c → dm e.c ≤ k → dm e.c ≤ n → drF k n e = drain e := by
  intro n
  induction n with
  | zero =>
    intro e hw hk hn
    have hg : e.c.again = [] := List.length_eq_zero_iff.1 (by have e : dm e.c = 2 * whites e.c + e.c.grey.length + e.c.again.length := rfl; omega)
    rw [drain_done hg]
    rfl
  | succ n ih =>
    intro e hw hk hn
    unfold drF
    cases hg : e.c.again with
    | nil => rw [drain_done hg]
    | cons x l =>
      have hne : e.c.again ≠ [] := by rw [hg]; exact fun y => nomatch y
      obtain ⟨a, b, -⟩ := drain1_mk hw hne
      rw [drain_step hw hne]
      dsimp only
      rw [drain1F_eq hw hk]
      exact ih _ (a.w01 hw) (by omega) (by omega)
def roundEF (k : Nat) (e : En) : En := drF k k ⟨goF k (round1 e.weak e.c).1, e.weak⟩
theorem roundEF_eq {k : Nat} {e : En} (hw : W01 e.c) (hk : dm e.c ≤ k) : roundEF k e = roundE e := by
  unfold roundEF roundE
  have f := (round1_mf hw e.weak).is
  have d1 := f.dm
  have d2 := gm_dm (round1 e.weak e.c).1
  have g := (goOn_mk (round1 e.weak e.c).1 (f.w01 hw)).1
  have d3 := g.dm
  rw [goF_eq k _ (f.w01 hw) (by omega)]
  exact drF_eq k _ (g.w01 (f.w01 hw)) (by show dm (goOn (round1 e.weak e.c).1) ≤ k; omega) (by show dm (goOn (round1 e.weak e.c).1) ≤ k; omega)
def roF (k : Nat) : Nat → En → En
  | 0, e => roundEF k e
  | n + 1, e => if (round1 e.weak e.c).2 = true then roF k n (roundEF k e) else roundEF k e
theorem roF_eq {k : Nat} : ∀ (n : Nat) (e : En), W01 e.c → dm e.c ≤ k → whites e.c ≤ n → roF k n e = rounds e := by
  intro n
  induction n with
  | zero =>
    intro e hw hk hn
    have hf : (round1 e.weak e.c).2 = false := by
      cases hr : (round1 e.weak e.c).2 with
      | false => rfl
      | true => have := (roundE_mk hw).2.2.2.2 hr; omega
    rw [rounds_done hf]
    exact roundEF_eq hw hk
  | succ n ih =>
    intro e hw hk hn
    unfold roF
    have m := roundE_mk hw
    have d := m.1.dm
    split
    · rename_i hr
      have := m.2.2.2.2 hr
      rw [rounds_step hw hr, roundEF_eq hw hk]
      exact ih _ (m.1.w01 hw) (by omega) (by omega)
    · rename_i hr
      rw [rounds_done (by simpa using hr), roundEF_eq hw hk]
def sepX (m : Mm) (l : List Int) : List Int := match l with
  | [] => []
  | [x] => [x]
  | l => l.mergeSort (sepLe m)
theorem sepX_eq (m : Mm) (l : List Int) : sepX m l = l.mergeSort (sepLe m) := by
  unfold sepX
  split
  · rw [List.mergeSort_nil]
  · rw [List.mergeSort_singleton]
  · rfl
def sepF (c : Cs) : List Int := sepX c.m (c.m.order.filter fun h => decide (0 < (c.m.get h).fin ∧ c.m.col h = c.white))
theorem sepF_eq (c : Cs) : sepF c = sepL c := sepX_eq _ _
def separateF (c : Cs) : Cs := (sepF c).foldl (fun c h => mark c (valueOf c.m h)) ((c.withPending (c.pending ++ sepF c)).withM ((sepF c).foldl (fun m h => m.setFin h 0) c.m))
theorem separateF_eq (c : Cs) : separateF c = separate c := by unfold separateF separate; rw [sepF_eq]
def endAF (k : Nat) (c : Cs) : En := roF k k (drF k k ⟨goF k (begin_ c), []⟩)
def endBF (k : Nat) (e : En) : En := roF k k (drF k k ⟨goF k (separateF (each clrV e.weak e.c)), e.weak⟩)
def endF (k : Nat) (c : Cs) : Cs := endC (endBF k (endAF k c))
theorem w_dm (c : Cs) : whites c ≤ dm c := by show whites c ≤ 2 * whites c + c.grey.length + c.again.length; omega
theorem endAF_eq {k : Nat} {c : Cs} (hw : W01 c) (hk : dm c ≤ k) : endAF k c = endA c := by
  unfold endAF endA
  have b := begin_mk hw
  have d1 := b.dm
  have g := (goOn_mk (begin_ c) (b.w01 hw)).1
  have d2 := g.dm
  have d3 := gm_dm (begin_ c)
  have w2 := g.w01 (b.w01 hw)
  rw [goF_eq k _ (b.w01 hw) (by omega), drF_eq k _ w2 (by show dm (goOn (begin_ c)) ≤ k; omega) (by show dm (goOn (begin_ c)) ≤ k; omega)]
  have r := (drain_mk ⟨goOn (begin_ c), []⟩ w2).1
  have d4 := r.dm
  have e4 : dm (⟨goOn (begin_ c), []⟩ : En).c = dm (goOn (begin_ c)) := rfl
  have d5 := w_dm (drain ⟨goOn (begin_ c), []⟩).c
  exact roF_eq k _ (r.w01 w2) (by omega) (by omega)
theorem endBF_eq {k : Nat} {e : En} (hw : W01 e.c) (hk : dm e.c ≤ k) : endBF k e = endB e := by
  unfold endBF endB
  rw [separateF_eq]
  have a := (each_cl clrV_cl e.weak e.c).is
  have d0 := a.dm
  have s := separate_sp (a.w01 hw)
  have d1 := s.dm
  have w1 : W01 (separate (each clrV e.weak e.c)) := by have := a.w01 hw; unfold W01 at *; rw [s.white]; exact this
  have d3 := gm_dm (separate (each clrV e.weak e.c))
  have g := (goOn_mk (separate (each clrV e.weak e.c)) w1).1
  have d2 := g.dm
  have w2 := g.w01 w1
  rw [goF_eq k _ w1 (by omega), drF_eq k _ w2 (by show dm (goOn (separate (each clrV e.weak e.c))) ≤ k; omega) (by show dm (goOn (separate (each clrV e.weak e.c))) ≤ k; omega)]
  have r := (drain_mk ⟨goOn (separate (each clrV e.weak e.c)), e.weak⟩ w2).1
  have d4 := r.dm
  have e4 : dm (⟨goOn (separate (each clrV e.weak e.c)), e.weak⟩ : En).c = dm (goOn (separate (each clrV e.weak e.c))) := rfl
  have d5 := w_dm (drain ⟨goOn (separate (each clrV e.weak e.c)), e.weak⟩).c
  exact roF_eq k _ (r.w01 w2) (by omega) (by omega)
theorem endF_eq {k : Nat} {c : Cs} (hw : W01 c) (hk : dm c ≤ k) : endF k c = end_ c := by
  unfold endF end_
  have a := (endA_mk hw).1
  have d := a.dm
  rw [endAF_eq hw hk, endBF_eq (a.w01 hw) (by omega)]
def majorF (k : Nat) (c : Cs) : Cs :=
  let cB := (allC majorEnd (endF k (goF k (begin_ ((((newAll c).withGrey []).withAgain []).withSweep []))))).withPhase 0
  cB.withBase (live cB.m)
theorem majorF_eq {k : Nat} {c : Cs} (hw : W01 (newAll c)) (hk : 2 * (newAll c).m.obs.length ≤ k) : majorF k c = major c := by
  have w0 : W01 ((((newAll c).withGrey []).withAgain []).withSweep []) := hw
  have d0 : dm ((((newAll c).withGrey []).withAgain []).withSweep []) ≤ k := by
    have := whites_le (newAll c)
    show 2 * whites (newAll c) + 0 + 0 ≤ k
    omega
  have b := begin_mk w0
  have d1 := b.dm
  have w1 := b.w01 w0
  have g := (goOn_mk (begin_ ((((newAll c).withGrey []).withAgain []).withSweep [])) w1).1
  have d2 := g.dm
  have d3 := gm_dm (begin_ ((((newAll c).withGrey []).withAgain []).withSweep []))
  unfold majorF major majorB majorA
  rw [goF_eq k _ w1 (by omega), endF_eq (g.w01 w1) (by omega)]
def youngF (k : Nat) (c : Cs) : Cs × Bool :=
  if c.mode ≠ 1 then (c, false)
  else if 0 < c.base ∧ 2 * c.base < live c.m then (majorF k c, true)
  else (allC youngEnd (endF k (allC youngBegin c)), false)
theorem youngF_eq {k : Nat} {c : Cs} (hw : W01 (newAll c)) (hk : 2 * (newAll c).m.obs.length ≤ k) (hy : W01 (allC youngBegin c)) (hd : dm (allC youngBegin c) ≤ k) : youngF k c = young c := by
  unfold youngF young
  rw [majorF_eq hw hk, endF_eq hy hd]
end Go.Proofs.YtminbemdcanakaaGreat
/- The chapter's example, in plain Lean. -/
namespace Go.Proofs.YtminbemdcanakaaGreat
set_option linter.unusedVariables false
set_option linter.unusedSimpArgs false

def exM : Mm := ⟨[some ⟨5, 0, 0, [nilV, ⟨2, 1⟩], 0, 0, 0⟩, some ⟨5, 0, 0, [nilV], 0, 0, 0⟩], [⟨5, 1⟩]⟩
def ex1 : Cs := ⟨⟨[some ⟨5, 0, 0, [nilV, ⟨2, 1⟩], 0, 1, 0⟩, none], [⟨5, 1⟩]⟩, 0, 0, 1, [], [], [], [], 3⟩
def ex2 : Cs := ⟨⟨[some ⟨5, 0, 0, [nilV, ⟨2, 1⟩], 0, 3, 4⟩, none], [⟨5, 1⟩]⟩, 1, 0, 0, [], [], [], [], 3⟩
def ex3 : Cs := ⟨⟨[some ⟨5, 0, 0, [nilV, ⟨2, 1⟩], 0, 3, 4⟩, none, some ⟨5, 0, 0, [nilV], 0, 0, 0⟩], [⟨5, 1⟩]⟩, 1, 0, 0, [], [], [], [], 3⟩
def ex4 : Cs := ⟨⟨[some ⟨5, 0, 0, [nilV, ⟨5, 3⟩], 0, 3, 4⟩, none, some ⟨5, 0, 0, [nilV], 0, 0, 0⟩], [⟨5, 1⟩]⟩, 1, 0, 0, [], [], [], [], 3⟩
def ex5 : Cs := ⟨⟨[some ⟨5, 0, 0, [nilV, ⟨5, 3⟩], 0, 2, 5⟩, none, some ⟨5, 0, 0, [nilV], 0, 0, 0⟩], [⟨5, 1⟩]⟩, 1, 0, 0, [], [1], [], [], 3⟩
def ex6 : Cs := ⟨⟨[some ⟨5, 0, 0, [nilV, ⟨5, 3⟩], 0, 3, 6⟩, none, some ⟨5, 0, 0, [nilV], 0, 1, 1⟩], [⟨5, 1⟩]⟩, 1, 0, 1, [], [], [], [], 3⟩
def ex7 : Cs := ⟨⟨[some ⟨5, 0, 0, [nilV, ⟨5, 3⟩], 0, 3, 4⟩, none, some ⟨5, 0, 0, [nilV], 0, 3, 3⟩], [⟨5, 1⟩]⟩, 1, 0, 0, [], [], [], [], 3⟩
theorem ex_1 : major (first exM) = ex1 := (majorF_eq (k := 10) (.inl rfl) (by decide)).symm.trans rfl
theorem ex_2 : major (ex1.withMode 1) = ex2 := (majorF_eq (k := 10) (.inr rfl) (by decide)).symm.trans rfl
theorem ex_birth : birth ex3 3 = ex3 := rfl
theorem ex_write : write ex4 1 ⟨5, 3⟩ = ex5 := rfl
theorem ex_6 : young ex5 = (ex6, false) := (youngF_eq (k := 10) (.inl rfl) (by decide) (.inl rfl) (by decide)).symm.trans rfl
theorem ex_7 : young ex6 = (ex7, false) := (youngF_eq (k := 10) (.inr rfl) (by decide) (.inr rfl) (by decide)).symm.trans rfl
theorem ex_mode : setMode ex1 1 = ex2 := by
  rw [← ex_2]
  rfl
end Go.Proofs.YtminbemdcanakaaGreat
