/-
  Loops by name: a function's body is run with each loop standing as one step, and each loop is run by its rounds.
-/
import Derived.Test.YthgamgdcjgbmnaaGreatDoorAbsS
namespace Go.Abs
set_option linter.unusedSimpArgs false
set_option linter.unusedVariables false
open Go

/-- Calls, by a table of functions that were run before. -/
def callOf : List (Nat × (List D → Option D)) → FuncId → List D → Option D
  | [], _, _ => none
  | (g, F) :: r, f, ds => if f = g then F ds else callOf r f ds
def CallsOk (P : Program) (G : Nat → Option (List D)) : List (Nat × (List D → Option D)) → Prop
  | [] => True
  | (g, F) :: r => (∀ ds r, F ds = some r → Contract P G g ds r) ∧ CallsOk P G r
theorem callOf_ok {P : Program} {G : Nat → Option (List D)} : ∀ (l : List (Nat × (List D → Option D))), CallsOk P G l → ∀ f ds r, callOf l f ds = some r → Contract P G f ds r
  | [], _, f, ds, r, h => by cases h
  | (g, F) :: l, hl, f, ds, r, h => by
    unfold callOf at h
    split at h
    · rename_i e; subst e; exact hl.1 ds r h
    · exact callOf_ok l hl.2 f ds r h
/-- Calls that hand over objects. -/
def callOfE : List (Nat × (List (Nat × O) → List D → Option (D × List (Nat × O)))) → FuncId → List (Nat × O) → List D → Option (D × List (Nat × O))
  | [], _, _, _ => none
  | (g, F) :: r, f, hs, ds => if f = g then F hs ds else callOfE r f hs ds
def CallsOkE (P : Program) (G : Nat → Option (List D)) : List (Nat × (List (Nat × O) → List D → Option (D × List (Nat × O)))) → Prop
  | [] => True
  | (g, F) :: r => (∀ hs ds r hs', F hs ds = some (r, hs') → ContractE P G g hs ds r hs') ∧ CallsOkE P G r
theorem callOfE_ok {P : Program} {G : Nat → Option (List D)} : ∀ (l : List (Nat × (List (Nat × O) → List D → Option (D × List (Nat × O))))), CallsOkE P G l → ∀ f hs ds r hs', callOfE l f hs ds = some (r, hs') → ContractE P G f hs ds r hs'
  | [], _, f, hs, ds, r, hs', h => by cases h
  | (g, F) :: l, hl, f, hs, ds, r, hs', h => by
    unfold callOfE at h
    split at h
    · rename_i e; subst e; exact hl.1 hs ds r hs' h
    · exact callOfE_ok l hl.2 f hs ds r hs' h

/-- A function of one slice that answers the same on every empty slice, nil or not. -/
def nilF (F : List D → Option D) (r0 : D) : List D → Option D
  | [.sl es] => if es.length = 0 then some r0 else F [.sl es]
  | ds => F ds
theorem contract_nil {P : Program} {G : Nat → Option (List D)} {f : FuncId} {r : D} (h : ∀ A c, Contract P G f [.x (.slice A 0 c)] r) : Contract P G f [.sl []] r := by
  refine ⟨(h none 0).1, fun w ok args hg hr => ?_⟩
  obtain ⟨hl, hr'⟩ := hr
  have h1 : args.size = 1 := by simpa using hl
  have h0 := hr' 0 args[0] (.sl []) (by simp) (by simp)
  have key : ∃ A c, args[0] = .slice A 0 c := by
    generalize args[0] = v at h0
    cases h0 with
    | sl0 A c => exact ⟨A, c, rfl⟩
    | sl => exact ⟨_, _, rfl⟩
  obtain ⟨A, c, hv⟩ := key
  refine (h A c).2 w ok args hg ⟨by simpa using hl, fun i u d hu hd => ?_⟩
  match i, hd with
  | 0, hd =>
    simp at hd
    subst hd
    rw [Array.getElem?_eq_getElem (by omega)] at hu
    injection hu with hu
    rw [← hu, hv]
    exact .x _
theorem nilF_ok {P : Program} {G : Nat → Option (List D)} {f : FuncId} {F : List D → Option D} {r0 : D} (hF : ∀ ds r, F ds = some r → Contract P G f ds r) (h0 : ∀ A c, F [.x (.slice A 0 c)] = some r0) : ∀ ds r, nilF F r0 ds = some r → Contract P G f ds r := by
  intro ds r h
  unfold nilF at h
  split at h
  · rename_i es
    split at h
    · rename_i he
      injection h with h
      subst h
      rw [List.eq_nil_of_length_eq_zero he]
      exact contract_nil (fun A c => hF _ _ (h0 A c))
    · exact hF _ _ h
  · exact hF _ _ h

/-! ### Sequencing that goes through an 'if' -/
def andThen (r : Option (E × St)) (k : St → Option (E × St)) : Option (E × St) := match r with
  | some (.norm, s) => k s
  | r => r
def blockS (id : Nat) (r : Option (E × St)) : Option (E × St) := match r with
  | some (.ex i, s) => if i = id then some (.norm, s) else some (.ex i, s)
  | r => r
def normS (r : Option St) : Option (E × St) := match r with
  | some s => some (.norm, s)
  | none => none
def endS (P : Program) (results : List ResultVar) (r : Option (E × St)) : Option D := match r with
  | some (.norm, s) => resultD P s results
  | some (.ret, s) => resultD P s results
  | _ => none
def endE (P : Program) (rets : Option (List Nat)) (results : List ResultVar) (r : Option (E × St)) : Option (D × List (Nat × O)) := match r with
  | some (.norm, s) => resultE P (headOf rets s) results
  | some (.ret, s) => resultE P s results
  | _ => none
def bindS (r : Option St) (k : St → Option St) : Option St := match r with
  | some s => k s
  | none => none
def guardK (g : Option Bool) (a b : Option St) : Option St := match g with
  | some true => a
  | some false => b
  | none => none
def endK (an : Ann) (ops : List Oper) (s : St) : Option St := some (endR an s ops)
@[simp] theorem endK_eq (an : Ann) (ops : List Oper) (s : St) : endK an ops s = some (endR an s ops) := by cases s; rfl
section
variable {P : Program} {c : Prop} [Decidable c] {s : St} {i id : Nat}
@[congr] theorem andThen_congr {r r' : Option (E × St)} (h : r = r') (k : St → Option (E × St)) : andThen r k = andThen r' k := by rw [h]
@[congr] theorem bindS_congr {r r' : Option St} (h : r = r') (k : St → Option St) : bindS r k = bindS r' k := by rw [h]
@[simp] theorem andThen_norm (k : St → Option (E × St)) : andThen (some (.norm, s)) k = k s := by cases s; rfl
@[simp] theorem andThen_ex (k : St → Option (E × St)) : andThen (some (.ex i, s)) k = some (.ex i, s) := by cases s; rfl
@[simp] theorem andThen_ret (k : St → Option (E × St)) : andThen (some (.ret, s)) k = some (.ret, s) := by cases s; rfl
@[simp] theorem andThen_none (k : St → Option (E × St)) : andThen none k = none := Eq.trans (b := none) rfl rfl
@[simp] theorem andThen_ite (a b : Option (E × St)) (k : St → Option (E × St)) : andThen (if c then a else b) k = if c then andThen a k else andThen b k := by split <;> rfl
@[simp] theorem blockS_norm : blockS id (some (.norm, s)) = some (.norm, s) := by cases s; rfl
@[simp] theorem blockS_ex : blockS id (some (.ex i, s)) = if i = id then some (.norm, s) else some (.ex i, s) := by cases s; rfl
@[simp] theorem blockS_ret : blockS id (some (.ret, s)) = some (.ret, s) := by cases s; rfl
@[simp] theorem blockS_none : blockS id none = none := rfl
@[simp] theorem blockS_ite (a b : Option (E × St)) : blockS id (if c then a else b) = if c then blockS id a else blockS id b := by split <;> rfl
@[simp] theorem normS_some : normS (some s) = some (.norm, s) := by cases s; rfl
@[simp] theorem normS_none : normS none = none := rfl
@[simp] theorem normS_ite (a b : Option St) : normS (if c then a else b) = if c then normS a else normS b := by split <;> rfl
@[simp] theorem endS_norm (rs : List ResultVar) : endS P rs (some (.norm, s)) = resultD P s rs := by cases s; rfl
@[simp] theorem endS_ret (rs : List ResultVar) : endS P rs (some (.ret, s)) = resultD P s rs := by cases s; rfl
@[simp] theorem endS_none (rs : List ResultVar) : endS P rs none = none := rfl
@[simp] theorem endS_ite (rs : List ResultVar) (a b : Option (E × St)) : endS P rs (if c then a else b) = if c then endS P rs a else endS P rs b := by split <;> rfl
@[simp] theorem endE_norm (rt : Option (List Nat)) (rs : List ResultVar) : endE P rt rs (some (.norm, s)) = resultE P (headOf rt s) rs := by cases s; rfl
@[simp] theorem endE_ret (rt : Option (List Nat)) (rs : List ResultVar) : endE P rt rs (some (.ret, s)) = resultE P s rs := by cases s; rfl
@[simp] theorem endE_none (rt : Option (List Nat)) (rs : List ResultVar) : endE P rt rs none = none := rfl
@[simp] theorem endE_ite (rt : Option (List Nat)) (rs : List ResultVar) (a b : Option (E × St)) : endE P rt rs (if c then a else b) = if c then endE P rt rs a else endE P rt rs b := by split <;> rfl
@[simp] theorem eres_none (s0 : St) (dst : Option Nat) (σ : List (Nat × Nat)) : eres s0 dst σ none = none := rfl
@[simp] theorem eres_ite (s0 : St) (dst : Option Nat) (σ : List (Nat × Nat)) (a b : Option (D × List (Nat × O))) : eres s0 dst σ (if c then a else b) = if c then eres s0 dst σ a else eres s0 dst σ b := by split <;> rfl
@[simp] theorem eres_some (s0 : St) (dst : Option Nat) (σ : List (Nat × Nat)) (r : D) (hs' : List (Nat × O)) : eres s0 dst σ (some (r, hs')) = match backs σ (dst.getD 999) hs' with
    | τ => if nodupN τ = true ∧ nodupN (swp τ) = true ∧ freeN s0.h σ τ = true then
        match renT false τ r, renHs τ hs' with
        | some r', some hs'' => some (putD dst ⟨killTs (loose hs' σ) s0.t, setHs (clearH (loose hs' σ) (gone hs' σ) s0.h) hs''⟩ r')
        | _, _ => none
      else none := by cases s0; rfl
@[simp] theorem bindS_some (k : St → Option St) : bindS (some s) k = k s := by cases s; rfl
@[simp] theorem bindS_none (k : St → Option St) : bindS none k = none := Eq.trans (b := none) rfl rfl
@[simp] theorem bindS_ite (a b : Option St) (k : St → Option St) : bindS (if c then a else b) k = if c then bindS a k else bindS b k := by split <;> rfl
end
section
variable {P : Program} {call : CT} {an : Ann} {N : Nat} {ops : Array Oper}
/-- An operation that is left out. -/
def skipO (N : Nat) (o : Oper) (s : St) : Option St := match o.dst with
  | some t => if t < N then some (s.put t (.x undef)) else none
  | none => some s
def eopO (P : Program) (call : CT) (an : Ann) (N : Nat) (o : Oper) (s : St) : Option St := eop P call an N s o
/-- Behind a guard its slot holds what was found. -/
def guardC (s : St) (t : Nat) (want : Bool) (v : D) (a b : St → Option St) : Option St := match v with
  | .x (.bool p) => if p = want then a (s.put t (.x (.bool want))) else b (s.put t (.x (.bool !want)))
  | .x (.tuple _) => b s
  | _ => none
def guardG (ops : Array Oper) (s : St) (g : Option (Nat × Bool)) (a b : St → Option St) : Option St := match g with
  | none => a s
  | some (j, want) => match ops[j]? with
    | some oj => match oj.dst with
      | some t => guardC s t want (getT s.t t) a b
      | none => b s
    | none => b s
theorem setT_same {l : List (Nat × D)} {t : Nat} {v : Value} (h : getT l t = .x v) : setT l t (.x v) = l := by
  induction l with
  | nil => cases h
  | cons x r ih =>
    obtain ⟨k, d⟩ := x
    unfold getT at h
    unfold setT
    split at h
    · rename_i e; rw [if_pos e, h]
    · rename_i e; rw [if_neg e, ih h]
theorem guardG_eq (s : St) (g : Option (Nat × Bool)) (a b : St → Option St) : guardK (guardV ops (getT s.t) g) (a s) (b s) = guardG ops s g a b := by
  unfold guardG guardV
  rcases g with _ | ⟨j, want⟩
  · rfl
  · simp only []
    rcases ops[j]? with _ | oj
    · rfl
    · simp only []
      rcases oj.dst with _ | t
      · rfl
      · simp only []
        unfold guardC
        cases hv : getT s.t t with
        | x v =>
          cases v with
          | bool p =>
            simp only [St.put]
            by_cases hp : p = want
            · subst hp
              rw [setT_same hv, if_pos rfl, show (p == p) = true by simp]
              rfl
            · have e : p = !want := by cases p <;> cases want <;> simp_all
              rw [if_neg hp, ← e, setT_same hv, show (p == want) = false by simp [hp]]
              rfl
          | _ => rfl
        | _ => rfl
@[simp] theorem stepG_eq (s : St) (o : Oper) : stepG P call an N ops s o = guardG ops s o.guard (eopO P call an N o) (skipO N o) := by
  rw [← guardG_eq]
  unfold stepG guardK
  rcases guardV ops (getT s.t) o.guard with _ | (_ | _) <;> rfl
@[simp] theorem skipO_eq (o : Oper) (s : St) : skipO N o s = match o.dst with
  | some t => if t < N then some (s.put t (.x undef)) else none
  | none => some s := by cases s; rfl
@[simp] theorem eopO_eq (o : Oper) (s : St) : eopO P call an N o s = eop P call an N s o := by cases s; rfl
@[simp] theorem guardC_bool (s : St) (t : Nat) (want p : Bool) (a b : St → Option St) : guardC s t want (.x (.bool p)) a b = if p = want then a (s.put t (.x (.bool want))) else b (s.put t (.x (.bool !want))) := by cases s; rfl
@[simp] theorem guardC_tuple (s : St) (t : Nat) (want : Bool) (p : Array Value) (a b : St → Option St) : guardC s t want (.x (.tuple p)) a b = b s := by cases s; rfl
@[simp] theorem guardG_none (s : St) (a b : St → Option St) : guardG ops s none a b = a s := by cases s; rfl
@[simp] theorem guardG_some (s : St) (j : Nat) (want : Bool) (a b : St → Option St) : guardG ops s (some (j, want)) a b = match ops[j]? with
    | some oj => match oj.dst with
      | some t => guardC s t want (getT s.t t) a b
      | none => b s
    | none => b s := by cases s; rfl
@[simp] theorem runSeq_nil (s : St) : runSeq P call an N ops [] s = some s := by cases s; rfl
@[simp] theorem runSeq_cons (o : Oper) (r : List Oper) (s : St) : runSeq P call an N ops (o :: r) s = bindS (stepG P call an N ops s o) (runSeq P call an N ops r) := by
  rw [runSeq, bindS.eq_def]
  rcases stepG P call an N ops s o with _ | _ <;> rfl
def dopO (P : Program) (call : CT) (N : Nat) (ops : Array Oper) (m i : Nat) (o : Oper) (s : St) : Option St := match storeTgt o with
    | some t => dstore P s t o.op
    | none => match o.dst with
      | some t => if t < N then
          match aopF P call (getT s.t) (maskH ops m i o (getH s.h)) t o.op with
          | some (d, none) => some (s.put t d)
          | some (d, some ob) => match getH s.h t with
            | none => some (s.putO t d ob)
            | some _ => none
          | none => none
        else none
      | none => match aopF P call (getT s.t) (maskH ops m i o (getH s.h)) 0 o.op with
        | some (_, none) => some s
        | _ => none
@[simp] theorem dopO_eq (m i : Nat) (o : Oper) (s : St) : dopO P call N ops m i o s = match storeTgt o with
    | some t => dstore P s t o.op
    | none => match o.dst with
      | some t => if t < N then
          match aopF P call (getT s.t) (maskH ops m i o (getH s.h)) t o.op with
          | some (d, none) => some (s.put t d)
          | some (d, some ob) => match getH s.h t with
            | none => some (s.putO t d ob)
            | some _ => none
          | none => none
        else none
      | none => match aopF P call (getT s.t) (maskH ops m i o (getH s.h)) 0 o.op with
        | some (_, none) => some s
        | _ => none := by cases s; rfl
@[simp] theorem dstep_eq (m i : Nat) (s : St) (o : Oper) : dstep P call N ops m i s o = guardG ops s o.guard (dopO P call N ops m i o) (skipO N o) := by
  rw [← guardG_eq]
  unfold dstep guardK
  rcases guardV ops (getT s.t) o.guard with _ | (_ | _) <;> rfl
@[simp] theorem runDraw_nil (m k : Nat) (s : St) : runDraw P call an N ops m k [] s = some s := by cases s; rfl
@[simp] theorem runDraw_cons (m k : Nat) (o : Oper) (r : List Oper) (s : St) : runDraw P call an N ops m k (o :: r) s = if k < m then bindS (dstep P call N ops m k s o) (runDraw P call an N ops m (k + 1) r) else runSeq P call an N ops (o :: r) s := by
  rw [runDraw, bindS.eq_def]
  rcases dstep P call N ops m k s o with _ | _ <;> rfl
@[simp] theorem runR_eq (id : Nat) (draw : Bool) (s : St) : runR P call an N id ops draw s = bindS (if draw = true then runDraw P call an N ops (drawN an id) 0 ops.toList s else runSeq P call an N ops ops.toList s) (endK an ops.toList) := by
  unfold runR bindS
  rcases (if draw = true then runDraw P call an N ops (drawN an id) 0 ops.toList s else runSeq P call an N ops ops.toList s) with _ | _ <;> rfl
end

def runS (P : Program) (call : CT) (L : Nat → St → Option (E × St)) (an : Ann) (N : Nat) : Code → St → Option (E × St)
  | .skip, s => some (.norm, s)
  | .region id ops draw, s => normS (runR P call an N id ops draw s)
  | .seq x y, s => andThen (runS P call L an N x s) (runS P call L an N y)
  | .cond (.tmp t) x y, s => match getT s.t t with
    | .x (.bool b) => if b = true then runS P call L an N x (if an.cond.contains t = true then ⟨delT s.t t, s.h⟩ else s) else runS P call L an N y (if an.cond.contains t = true then ⟨delT s.t t, s.h⟩ else s)
    | _ => none
  | .block id c, s => blockS id (runS P call L an N c s)
  | .loop c, s => match rid c with
    | some i => L i s
    | none => none
  | .exit id, s => some (.ex id, headOf (an.exits.lookup id) s)
  | .ret, s => some (.ret, headOf an.rets s)
  | _, _ => none

def loopAt (body : Code) (i : Nat) : Code := ((loopsIn body).find? (fun c => rid c == some i)).getD .skip
def okLoops (body : Code) : Bool := (loopsIn body).all (fun c => (rid c).isSome) && ((loopsIn body).map rid).Nodup
/-- A loop of a body, so many rounds. -/
def atN (P : Program) (call : CT) (an : Ann) (N : Nat) (body : Code) (i n : Nat) (s : St) : Option (E × St) := loopN (runC P call an N (loopAt body i)) (an.loops.lookup i) n s
/-- A loop of a body, entered at a state of which what is dead is forgotten. -/
def atH (P : Program) (call : CT) (an : Ann) (N : Nat) (body : Code) (n i : Nat) (s : St) : Option (E × St) := atN P call an N body i n (headOf (an.loops.lookup i) s)
/-- One round of a loop. -/
def stepL (P : Program) (call : CT) (an : Ann) (N : Nat) (body : Code) (i : Nat) (s : St) : Option (E × St) :=
  runS P call (atH P call an N body bigL) an N (loopAt body i) s

section
variable {P : Program} {call : CT} {an : Ann} {N : Nat} {body : Code}

theorem find_rid {l : List Code} (hnd : (l.map rid).Nodup) {c : Code} (hc : c ∈ l) {i : Nat} (hi : rid c = some i) : l.find? (fun c => rid c == some i) = some c := by
  induction l with
  | nil => cases hc
  | cons x r ih =>
    simp only [List.map_cons, List.nodup_cons] at hnd
    rcases List.mem_cons.1 hc with rfl | hc
    · simp [List.find?, hi]
    · have hx : rid x ≠ some i := fun e => hnd.1 (by rw [e, ← hi]; exact List.mem_map_of_mem hc)
      have : (rid x == some i) = false := by simpa using hx
      rw [List.find?_cons, this]
      exact ih hnd.2 hc
theorem loopAt_of (hok : okLoops body = true) {c : Code} (hc : c ∈ loopsIn body) {i : Nat} (hi : rid c = some i) : loopAt body i = c := by
  simp only [okLoops, Bool.and_eq_true, decide_eq_true_eq] at hok
  rw [loopAt, find_rid hok.2 hc hi]
  rfl

theorem runS_eq (hok : okLoops body = true) : ∀ (c : Code), (∀ x ∈ loopsIn c, x ∈ loopsIn body) → ∀ s, runS P call (atH P call an N body bigL) an N c s = runC P call an N c s := by
  intro c
  induction c with
  | seq x y ihx ihy =>
    intro hs s
    simp only [loopsIn, List.mem_append] at hs
    unfold runS runC
    have e1 := ihx (fun z hz => hs z (.inl hz))
    have e2 : runS P call (atH P call an N body bigL) an N y = runC P call an N y := funext (ihy (fun z hz => hs z (.inr hz)))
    simp only [e1, e2]
    unfold andThen
    rcases runC P call an N x s with _ | ⟨_ | _ | _, _⟩ <;> rfl
  | cond c x y ihx ihy =>
    intro hs s
    simp only [loopsIn, List.mem_append] at hs
    cases c with
    | tmp t =>
      have e1 := ihx (fun z hz => hs z (.inl hz))
      have e2 := ihy (fun z hz => hs z (.inr hz))
      simp only [runS, runC, e1, e2]
      rfl
    | _ => simp [runS, runC]
  | block id c ih =>
    intro hs s
    have e1 := ih hs
    simp only [runS, runC, e1]
    unfold blockS
    rcases runC P call an N c s with _ | ⟨_ | _ | _, _⟩ <;> rfl
  | loop c ih =>
    intro hs s
    simp only [loopsIn, List.mem_cons, forall_eq_or_imp] at hs
    unfold runS runC
    have h1 := hok
    simp only [okLoops, Bool.and_eq_true, List.all_eq_true] at h1
    have h2 := h1.1 c hs.1
    cases hr : rid c with
    | none => rw [hr] at h2; cases h2
    | some i =>
      simp only [atH, atN, loopAt_of hok hs.1 hr, liveOf, hr]
  | region id ops draw =>
    intro _ s
    unfold runS runC normS
    rcases runR P call an N id ops draw s with _ | _ <;> rfl
  | _ => intro _ s; simp [runS, runC]

theorem loopsIn_mem : ∀ (b c : Code), c ∈ loopsIn b → ∀ x ∈ loopsIn c, x ∈ loopsIn b := by
  intro b
  induction b with
  | seq x y ihx ihy =>
    intro c hc z hz
    simp only [loopsIn, List.mem_append] at hc ⊢
    exact hc.imp (fun h => ihx c h z hz) (fun h => ihy c h z hz)
  | cond _ x y ihx ihy =>
    intro c hc z hz
    simp only [loopsIn, List.mem_append] at hc ⊢
    exact hc.imp (fun h => ihx c h z hz) (fun h => ihy c h z hz)
  | block _ c ih => exact ih
  | loop b ih =>
    intro c hc z hz
    simp only [loopsIn, List.mem_cons] at hc ⊢
    rcases hc with rfl | hc
    · exact .inr hz
    · exact .inr (ih c hc z hz)
  | _ => intro c hc; simp [loopsIn] at hc

theorem loopAt_loops (i : Nat) : ∀ x ∈ loopsIn (loopAt body i), x ∈ loopsIn body := by
  unfold loopAt
  cases h : (loopsIn body).find? (fun c => rid c == some i) with
  | none => intro x hx; simp [loopsIn] at hx
  | some c => exact loopsIn_mem body c (List.mem_of_find?_eq_some h)

theorem atN_zero (i : Nat) (s : St) : atN P call an N body i 0 s = none := rfl
theorem atN_succ (hok : okLoops body = true) (i n : Nat) (s : St) : atN P call an N body i (n + 1) s = andThen (stepL P call an N body i s) (atH P call an N body n i) := by
  unfold atN stepL andThen
  rw [runS_eq hok _ (loopAt_loops i), loopN]
  rcases runC P call an N (loopAt body i) s with _ | ⟨_ | _ | _, _⟩ <;> rfl

/-- A function's body with its loops standing as steps. -/
def runG (P : Program) (call : CT) (L : Nat → St → Option (E × St)) (an : Ann) (N : Nat) (body : Code) (results : List ResultVar) (ds : List D) : Option D :=
  if ds.length ≤ N then
    endS P results (runS P call L an N body (init an ds))
  else none
theorem runG_eq (hok : okLoops body = true) (results : List ResultVar) (ds : List D) : runF P call an N body results ds = runG P call (atH P call an N body bigL) an N body results ds := by
  unfold runF runG endS
  rw [runS_eq hok body (fun _ h => h)]
  split
  · rcases runC P call an N body (init an ds) with _ | ⟨_ | _ | _, _⟩ <;> rfl
  · rfl
def runGE (P : Program) (call : CT) (L : Nat → St → Option (E × St)) (an : Ann) (N : Nat) (body : Code) (results : List ResultVar) (hs : List (Nat × O)) (ds : List D) : Option (D × List (Nat × O)) :=
  if ds.length ≤ N then
    endE P an.rets results (runS P call L an N body (initE an hs ds))
  else none
theorem runGE_eq (hok : okLoops body = true) (results : List ResultVar) (hs : List (Nat × O)) (ds : List D) : runE P call an N body results hs ds = runGE P call (atH P call an N body bigL) an N body results hs ds := by
  unfold runE runGE endE
  rw [runS_eq hok body (fun _ h => h)]
  split
  · rcases runC P call an N body (initE an hs ds) with _ | ⟨_ | _ | _, _⟩ <;> rfl
  · rfl
end

/-- 'blocked', an operation at a time. -/
def aftB (o : Oper) (j : Nat) : Bool := (aft o).contains j
def blkL (id i : Nat) (a : Oper) : Nat → Nat → List Oper → Bool
  | 0, _, _ => false
  | _ + 1, _, [] => false
  | m + 1, j, o :: r => if o.dst = some id ∨ storeTgt o = some id then ((j != i && !(aftB a j || aftB o i)) || blkL id i a m (j + 1) r) else blkL id i a m (j + 1) r
theorem blkL_eq (id i : Nat) (a : Oper) : ∀ (m j : Nat) (l : List Oper), blkL id i a m j l = (List.range m).any fun k => match l[k]? with
    | some o => (j + k) != i && wrs o id && !ordered i (j + k) a o
    | none => false
  | 0, _, _ => rfl
  | m + 1, j, [] => by simp [blkL]
  | m + 1, j, o :: r => by
    rw [blkL, blkL_eq id i a m (j + 1) r, List.range_succ_eq_map, List.any_cons, List.any_map]
    have e : (fun k => match r[k]? with
        | some o => (j + 1 + k) != i && wrs o id && !ordered i (j + 1 + k) a o
        | none => false) = ((fun k => match (o :: r)[k]? with
        | some o => (j + k) != i && wrs o id && !ordered i (j + k) a o
        | none => false) ∘ Nat.succ) := by
      funext k
      simp only [Function.comp, List.getElem?_cons_succ, Nat.succ_eq_add_one]
      rw [show j + 1 + k = j + (k + 1) by omega]
    rw [e]
    have hw : wrs o id = decide (o.dst = some id ∨ storeTgt o = some id) := by
      rw [Bool.eq_iff_iff]
      simp only [wrs, Bool.or_eq_true, beq_iff_eq, decide_eq_true_eq]
    by_cases h : o.dst = some id ∨ storeTgt o = some id
    · simp only [h, if_true, List.getElem?_cons_zero, hw, decide_true, Nat.add_zero, Bool.and_true]
      rfl
    · simp only [h, if_false, List.getElem?_cons_zero, hw, decide_false, Nat.add_zero, Bool.and_false, Bool.false_and, Bool.false_or]
theorem blocked_eq (ops : Array Oper) (m i : Nat) (o : Oper) (id : Nat) : blocked ops m i o id = blkL id i o m 0 ops.toList := by
  rw [blkL_eq]
  unfold blocked
  congr 1
  funext k
  simp
  rfl
attribute [simp] blocked_eq blkL aftB aft Region.binds
section
variable (P : Program) (call : CT) (L : Nat → St → Option (E × St)) (an : Ann) (N : Nat) (s : St)
@[simp] theorem runS_skip : runS P call L an N .skip s = some (.norm, s) := by cases s; rfl
@[simp] theorem runS_region (id : Nat) (ops : Array Oper) (draw : Bool) : runS P call L an N (.region id ops draw) s = normS (runR P call an N id ops draw s) := by cases s; rfl
@[simp] theorem runS_seq (x y : Code) : runS P call L an N (.seq x y) s = andThen (runS P call L an N x s) (runS P call L an N y) := by cases s; rfl
@[simp] theorem runS_cond (t : Nat) (x y : Code) : runS P call L an N (.cond (.tmp t) x y) s = match getT s.t t with
    | .x (.bool b) => if b = true then runS P call L an N x (if an.cond.contains t = true then ⟨delT s.t t, s.h⟩ else s) else runS P call L an N y (if an.cond.contains t = true then ⟨delT s.t t, s.h⟩ else s)
    | _ => none := by cases s; rfl
@[simp] theorem runS_block (id : Nat) (c : Code) : runS P call L an N (.block id c) s = blockS id (runS P call L an N c s) := by cases s; rfl
@[simp] theorem runS_loop (c : Code) : runS P call L an N (.loop c) s = match rid c with
    | some i => L i s
    | none => none := by cases s; rfl
@[simp] theorem runS_exit (id : Nat) : runS P call L an N (.exit id) s = some (.ex id, headOf (an.exits.lookup id) s) := by cases s; rfl
@[simp] theorem runS_ret : runS P call L an N .ret s = some (.ret, headOf an.rets s) := by cases s; rfl
end
/-! ### Results of several ways, as one -/
section
variable {c : Prop} [Decidable c]
@[simp] theorem ite_int (k : IntKind) (a b : Int) : (if c then some (D.x (.int k a)) else some (D.x (.int k b))) = some (D.x (.int k (if c then a else b))) := by split <;> rfl
@[simp] theorem ite_bool (a b : Bool) : (if c then some (D.x (.bool a)) else some (D.x (.bool b))) = some (D.x (.bool (if c then a else b))) := by split <;> rfl
@[simp] theorem ite_string (a b : ByteArray) : (if c then some (D.x (.string a)) else some (D.x (.string b))) = some (D.x (.string (if c then a else b))) := by split <;> rfl
@[simp] theorem ite_tup (a b : List D) : (if c then some (D.tup a) else some (D.tup b)) = some (D.tup (if c then a else b)) := by split <;> rfl
@[simp] theorem ite_agg (a b : List D) : (if c then some (D.agg a) else some (D.agg b)) = some (D.agg (if c then a else b)) := by split <;> rfl
@[simp] theorem ite_own (f : Bool) (a b : List (List D)) : (if c then some (D.own f a) else some (D.own f b)) = some (D.own f (if c then a else b)) := by split <;> rfl
@[simp] theorem ite_cons (x y : D) (a b : List D) : (if c then x :: a else y :: b) = (if c then x else y) :: (if c then a else b) := by split <;> rfl
@[simp] theorem iteD_int (k : IntKind) (a b : Int) : (if c then D.x (.int k a) else D.x (.int k b)) = D.x (.int k (if c then a else b)) := by split <;> rfl
@[simp] theorem iteD_bool (a b : Bool) : (if c then D.x (.bool a) else D.x (.bool b)) = D.x (.bool (if c then a else b)) := by split <;> rfl
@[simp] theorem iteD_string (a b : ByteArray) : (if c then D.x (.string a) else D.x (.string b)) = D.x (.string (if c then a else b)) := by split <;> rfl
@[simp] theorem iteD_agg (a b : List D) : (if c then D.agg a else D.agg b) = D.agg (if c then a else b) := by split <;> rfl
@[simp] theorem iteD_own (f : Bool) (a b : List (List D)) : (if c then D.own f a else D.own f b) = D.own f (if c then a else b) := by split <;> rfl
end
attribute [simp] bodyOf callOf callOfE runG runGE stepL loopAt loopsIn
end Go.Abs
