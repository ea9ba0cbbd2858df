/-
  Loops by name: a function's body is run with each loop standing as one step, and each loop is run by its rounds.
-/
import Derived.Test.YtkcjffiflelocaaAbsS
namespace Go.Abs
open Go

/-- Calls, by a table of functions that were run before. -/
def callOf : List (Nat × (List D → Option D)) → FuncId → List D → Option D
  | [], _, _ => none
  | (g, F) :: r, f, ds => if f = g then F ds else callOf r f ds
def CallsOk (P : Program) : List (Nat × (List D → Option D)) → Prop
  | [] => True
  | (g, F) :: r => (∀ ds r, F ds = some r → Contract P g ds r) ∧ CallsOk P r
theorem callOf_ok {P : Program} : ∀ (l : List (Nat × (List D → Option D))), CallsOk P l → ∀ f ds r, callOf l f ds = some r → Contract P f ds r
  | [], _, f, ds, r, h => by cases h
  | (g, F) :: l, hl, f, ds, r, h => by
    unfold callOf at h
    split at h
    · rename_i e; subst e; exact hl.1 ds r h
    · exact callOf_ok l hl.2 f ds r h

def runS (P : Program) (call : FuncId → List D → Option D) (L : Nat → St → Option (E × St)) (an : Ann) (N : Nat) : Code → St → Option (E × St)
  | .skip, s => some (.norm, s)
  | .region _ ops draw, s => match runR P call an N ops draw s with
    | some s' => some (.norm, s')
    | none => none
  | .seq x y, s => match runS P call L an N x s with
    | some (.norm, s') => runS P call L an N y s'
    | r => r
  | .cond (.tmp t) x y, s => match getT s.t t with
    | .x (.bool b) => if b = true then runS P call L an N x (if an.cond.contains t = true then ⟨delT s.t t, s.h⟩ else s) else runS P call L an N y (if an.cond.contains t = true then ⟨delT s.t t, s.h⟩ else s)
    | _ => none
  | .block id c, s => match runS P call L an N c s with
    | some (.ex i, s') => if i = id then some (.norm, s') else some (.ex i, s')
    | r => r
  | .loop c, s => match rid c with
    | some i => L i s
    | none => none
  | .exit id, s => some (.ex id, headOf (an.exits.lookup id) s)
  | .ret, s => some (.ret, headOf an.rets s)
  | _, _ => none

def loopAt (body : Code) (i : Nat) : Code := ((loopsIn body).find? (fun c => rid c == some i)).getD .skip
def okLoops (body : Code) : Bool := (loopsIn body).all (fun c => (rid c).isSome) && ((loopsIn body).map rid).Nodup
/-- A loop of a body, so many rounds. -/
def atN (P : Program) (call : FuncId → List D → Option D) (an : Ann) (N : Nat) (body : Code) (i n : Nat) (s : St) : Option (E × St) := loopN (runC P call an N (loopAt body i)) (an.loops.lookup i) n s
/-- One round of a loop. -/
def stepL (P : Program) (call : FuncId → List D → Option D) (an : Ann) (N : Nat) (body : Code) (i : Nat) (s : St) : Option (E × St) :=
  runS P call (fun j s => atN P call an N body j bigL s) an N (loopAt body i) (headOf (an.loops.lookup i) s)

section
variable {P : Program} {call : FuncId → List D → Option D} {an : Ann} {N : Nat} {body : Code}

theorem find_rid {l : List Code} (hnd : (l.map rid).Nodup) {c : Code} (hc : c ∈ l) {i : Nat} (hi : rid c = some i) : l.find? (fun c => rid c == some i) = some c := by
  induction l with
  | nil => cases hc
  | cons x r ih =>
    simp only [List.map_cons, List.nodup_cons] at hnd
    rcases List.mem_cons.1 hc with rfl | hc
    · simp [List.find?, hi]
    · have hx : rid x ≠ some i := fun e => hnd.1 (by rw [e, ← hi]; exact List.mem_map_of_mem hc)
      have : (rid x == some i) = false := by simpa using hx
      rw [List.find?_cons, this]
      exact ih hnd.2 hc
theorem loopAt_of (hok : okLoops body = true) {c : Code} (hc : c ∈ loopsIn body) {i : Nat} (hi : rid c = some i) : loopAt body i = c := by
  simp only [okLoops, Bool.and_eq_true, decide_eq_true_eq] at hok
  rw [loopAt, find_rid hok.2 hc hi]
  rfl

theorem runS_eq (hok : okLoops body = true) : ∀ (c : Code), (∀ x ∈ loopsIn c, x ∈ loopsIn body) → ∀ s, runS P call (fun j s => atN P call an N body j bigL s) an N c s = runC P call an N c s := by
  intro c
  induction c with
  | seq x y ihx ihy =>
    intro hs s
    simp only [loopsIn, List.mem_append] at hs
    unfold runS runC
    have e1 := ihx (fun z hz => hs z (.inl hz))
    have e2 := ihy (fun z hz => hs z (.inr hz))
    simp only [e1, e2]
    rfl
  | cond c x y ihx ihy =>
    intro hs s
    simp only [loopsIn, List.mem_append] at hs
    cases c with
    | tmp t =>
      have e1 := ihx (fun z hz => hs z (.inl hz))
      have e2 := ihy (fun z hz => hs z (.inr hz))
      simp only [runS, runC, e1, e2]
      rfl
    | _ => simp [runS, runC]
  | block id c ih =>
    intro hs s
    have e1 := ih hs
    simp only [runS, runC, e1]
    rfl
  | loop c ih =>
    intro hs s
    simp only [loopsIn, List.mem_cons, forall_eq_or_imp] at hs
    unfold runS runC
    have h1 := hok
    simp only [okLoops, Bool.and_eq_true, List.all_eq_true] at h1
    have h2 := h1.1 c hs.1
    cases hr : rid c with
    | none => rw [hr] at h2; cases h2
    | some i =>
      simp only [atN, loopAt_of hok hs.1 hr, liveOf, hr]
  | region id ops draw => intro _ s; unfold runS runC; rfl
  | _ => intro _ s; simp [runS, runC]

theorem loopsIn_mem : ∀ (b c : Code), c ∈ loopsIn b → ∀ x ∈ loopsIn c, x ∈ loopsIn b := by
  intro b
  induction b with
  | seq x y ihx ihy =>
    intro c hc z hz
    simp only [loopsIn, List.mem_append] at hc ⊢
    exact hc.imp (fun h => ihx c h z hz) (fun h => ihy c h z hz)
  | cond _ x y ihx ihy =>
    intro c hc z hz
    simp only [loopsIn, List.mem_append] at hc ⊢
    exact hc.imp (fun h => ihx c h z hz) (fun h => ihy c h z hz)
  | block _ c ih => exact ih
  | loop b ih =>
    intro c hc z hz
    simp only [loopsIn, List.mem_cons] at hc ⊢
    rcases hc with rfl | hc
    · exact .inr hz
    · exact .inr (ih c hc z hz)
  | _ => intro c hc; simp [loopsIn] at hc

theorem loopAt_loops (i : Nat) : ∀ x ∈ loopsIn (loopAt body i), x ∈ loopsIn body := by
  unfold loopAt
  cases h : (loopsIn body).find? (fun c => rid c == some i) with
  | none => intro x hx; simp [loopsIn] at hx
  | some c => exact loopsIn_mem body c (List.mem_of_find?_eq_some h)

theorem atN_zero (i : Nat) (s : St) : atN P call an N body i 0 s = none := rfl
theorem atN_succ (hok : okLoops body = true) (i n : Nat) (s : St) : atN P call an N body i (n + 1) s = match stepL P call an N body i s with
    | some (.norm, s') => atN P call an N body i n s'
    | r => r := by
  unfold atN stepL
  rw [runS_eq hok _ (loopAt_loops i)]
  rfl

/-- A function's body with its loops standing as steps. -/
def runG (P : Program) (call : FuncId → List D → Option D) (L : Nat → St → Option (E × St)) (an : Ann) (N : Nat) (body : Code) (results : List ResultVar) (ds : List D) : Option D :=
  if ds.length ≤ N then
    match runS P call L an N body (init an ds) with
    | some (.norm, s) => resultD P s results
    | some (.ret, s) => resultD P s results
    | _ => none
  else none
theorem runG_eq (hok : okLoops body = true) (results : List ResultVar) (ds : List D) : runF P call an N body results ds = runG P call (fun j s => atN P call an N body j bigL s) an N body results ds := by
  unfold runF runG
  rw [runS_eq hok body (fun _ h => h)]
  rfl
end

/-- 'blocked', an operation at a time. -/
def aftB (o : Oper) (j : Nat) : Bool := (aft o).contains j
def blkL (id : Nat) (a : Oper) : Nat → Nat → List Oper → Bool
  | 0, _, _ => false
  | _ + 1, _, [] => false
  | m + 1, j, o :: r => if o.dst = some id then (!aftB a j || blkL id a m (j + 1) r) else blkL id a m (j + 1) r
theorem blkL_eq (id : Nat) (a : Oper) : ∀ (m j : Nat) (l : List Oper), blkL id a m j l = (List.range m).any fun k => match l[k]? with
    | some o => o.dst == some id && !aftB a (j + k)
    | none => false
  | 0, _, _ => rfl
  | m + 1, j, [] => by simp [blkL]
  | m + 1, j, o :: r => by
    rw [blkL, blkL_eq id a m (j + 1) r, List.range_succ_eq_map, List.any_cons, List.any_map]
    have e : (fun k => match r[k]? with
        | some o => o.dst == some id && !aftB a (j + 1 + k)
        | none => false) = ((fun k => match (o :: r)[k]? with
        | some o => o.dst == some id && !aftB a (j + k)
        | none => false) ∘ Nat.succ) := by
      funext k
      simp only [Function.comp, List.getElem?_cons_succ, Nat.succ_eq_add_one]
      rw [show j + 1 + k = j + (k + 1) by omega]
    rw [e]
    by_cases h : o.dst = some id <;> simp [h]
theorem blocked_eq (ops : Array Oper) (m : Nat) (o : Oper) (id : Nat) : blocked ops m o id = blkL id o m 0 ops.toList := by
  rw [blkL_eq]
  unfold blocked
  congr 1
  funext k
  simp [aftB]
  rfl
attribute [simp] blocked_eq blkL aftB aft Region.binds
attribute [simp] bodyOf callOf runG runS stepL loopAt loopsIn
attribute [-simp] runF runC
end Go.Abs
