/-
  The abstract interpreter over a function's code, and that it is sound: a function's contract out of one run of the interpreter.
-/
import Derived.Test.YthgamgdcjgbmnaaGreatDoorAbsN
import Derived.Deep.LoopGhost
namespace Go.Abs
set_option linter.unusedSimpArgs false
set_option linter.unusedVariables false
open Go Go.RowKit

inductive E where
  | norm
  | ex (id : Nat)
  | ret
def E.toExit : E → Exit
  | .norm => .normal
  | .ex id => .exit id
  | .ret => .ret

def clearT (lv : List Nat) : List (Nat × D) → List (Nat × D)
  | [] => []
  | (k, d) :: r => (k, if lv.contains k = true then d else .any) :: clearT lv r
/-- Whether a slot names an object. -/
def usedC (k : Nat) : List D → Bool
  | [] => false
  | d :: r => refsTo k d || usedC k r
def usedA (k : Nat) : D → Bool
  | .agg cs => usedC k cs
  | d => refsTo k d
def usedL (k : Nat) : List D → Bool
  | [] => false
  | d :: r => usedA k d || usedL k r
def usedD (k : Nat) : D → Bool
  | .tup ds => usedL k ds
  | d => usedA k d
def usedH (k : Nat) : List (Nat × O) → Bool
  | [] => false
  | (_, .box _ cs) :: r => usedC k cs || usedH k r
  | _ :: r => usedH k r
def usedT (k : Nat) : List (Nat × D) → Bool
  | [] => false
  | (_, d) :: r => usedD k d || usedT k r
def dropIds (lv : List Nat) (s : St) : List (Nat × O) → St
  | [] => s
  | (k, _) :: r => if (1000 ≤ k ∧ k < 10000) ∨ usedT k s.t = true ∨ usedH k s.h = true then dropIds lv s r else dropIds lv (s.drop k) r
/-- Only the slots and objects of a list are kept. -/
def clearTo (lv : List Nat) (s : St) : St := dropIds lv ⟨clearT lv s.t, s.h⟩ s.h
def headOf (lv : Option (List Nat)) (s : St) : St := match lv with
  | none => s
  | some l => clearTo l s

def endR (an : Ann) (s : St) : List Oper → St
  | [] => s
  | o :: r => match o.dst with
    | some t => if an.keep.contains t = true ∨ an.cond.contains t = true then endR an s r else
        match getH s.h t with
        | none => endR an ⟨delT s.t t, s.h⟩ r
        | some _ => if usedT t (delT s.t t) = true ∨ usedH t s.h = true then endR an ⟨delT s.t t, s.h⟩ r else endR an ⟨delT (s.dropB t).t t, (s.dropB t).h⟩ r
    | none => endR an s r

def rid : Code → Option Nat
  | .region id _ _ => some id
  | .seq a b => match rid a with
    | some i => some i
    | none => rid b
  | .cond _ a b => match rid a with
    | some i => some i
    | none => rid b
  | .block _ a => rid a
  | .loop a => rid a
  | _ => none
def liveOf (an : Ann) (c : Code) : Option (List Nat) := match rid c with
  | some i => an.loops.lookup i
  | none => none

def loopN (f : St → Option (E × St)) (lv : Option (List Nat)) : Nat → St → Option (E × St)
  | 0, _ => none
  | n + 1, s => match f s with
    | some (.norm, s') => loopN f lv n (headOf lv s')
    | r => r

/-- The rounds that a loop may take: more than any machine counts. -/
@[irreducible] def bigL : Nat := 2 ^ 70
theorem bigL_ge : 2 ^ 64 ≤ bigL := by unfold bigL; decide

def drawN (an : Ann) (id : Nat) : Nat := match an.draws.lookup id with
  | some m => m
  | none => 0
def runR (P : Program) (call : CT) (an : Ann) (N id : Nat) (ops : Array Oper) (draw : Bool) (s : St) : Option St :=
  match (if draw = true then runDraw P call an N ops (drawN an id) 0 ops.toList s else runSeq P call an N ops ops.toList s) with
  | some s' => some (endR an s' ops.toList)
  | none => none

def runC (P : Program) (call : CT) (an : Ann) (N : Nat) : Code → St → Option (E × St)
  | .skip, s => some (.norm, s)
  | .region id ops draw, s => match runR P call an N id ops draw s with
    | some s' => some (.norm, s')
    | none => none
  | .seq x y, s => match runC P call an N x s with
    | some (.norm, s') => runC P call an N y s'
    | r => r
  | .cond (.tmp t) x y, s => match getT s.t t with
    | .x (.bool b) => if b = true then runC P call an N x (if an.cond.contains t = true then ⟨delT s.t t, s.h⟩ else s) else runC P call an N y (if an.cond.contains t = true then ⟨delT s.t t, s.h⟩ else s)
    | _ => none
  | .block id c, s => match runC P call an N c s with
    | some (.ex i, s') => if i = id then some (.norm, s') else some (.ex i, s')
    | r => r
  | .loop c, s => loopN (runC P call an N c) (liveOf an c) bigL (headOf (liveOf an c) s)
  | .exit id, s => some (.ex id, headOf (an.exits.lookup id) s)
  | .ret, s => some (.ret, headOf an.rets s)
  | _, _ => none

/-- What is asked of the code's regions, once and closed. -/
def okCode (an : Ann) : Code → Bool
  | .region id ops draw => !draw || okDraw ops (drawN an id)
  | .seq a b => okCode an a && okCode an b
  | .cond _ a b => okCode an a && okCode an b
  | .block _ a => okCode an a
  | .loop a => okCode an a
  | _ => true

section
variable {P : Program} {B : Nat} {N : Nat} {w0 : Bs} {call : CT} {an : Ann}

theorem clearT_get (lv : List Nat) (l : List (Nat × D)) (t : Nat) : getT (clearT lv l) t = getT l t ∨ getT (clearT lv l) t = .any := by
  induction l with
  | nil => exact .inl rfl
  | cons p r ih =>
    obtain ⟨k, d⟩ := p
    simp only [clearT, getT]
    split
    · split
      · exact .inl rfl
      · exact .inr rfl
    · exact ih
theorem dropIds_sound {a : Act} {w : World} (lv : List Nat) : ∀ (l : List (Nat × O)) (s : St), SRel N B w0 s a w → SRel N B w0 (dropIds lv s l) a w
  | [], _, h => h
  | (k, o) :: r, s, h => by
    unfold dropIds
    split
    · exact dropIds_sound lv r s h
    · exact dropIds_sound lv r _ (h.drop k)
theorem headOf_sound {a : Act} {w : World} (lv : Option (List Nat)) {s : St} (h : SRel N B w0 s a w) : SRel N B w0 (headOf lv s) a w := by
  unfold headOf
  split
  · exact h
  · rename_i l
    refine dropIds_sound l s.h _ ?_
    obtain ⟨ι, hrel⟩ := h
    exact ⟨ι, hrel.weak (fun t => clearT_get l s.t t)⟩
theorem endR_sound {a : Act} {w : World} : ∀ (ops : List Oper) (s : St), SRel N B w0 s a w → SRel N B w0 (endR an s ops) a w
  | [], _, h => h
  | o :: r, s, h => by
    unfold endR
    split
    · rename_i t _
      split
      · exact endR_sound r s h
      · split
        · exact endR_sound r _ (h.del t)
        · split
          · exact endR_sound r _ (h.del t)
          · exact endR_sound r _ ((h.dropB t).del t)
    · exact endR_sound r s h

def PostC (N B : Nat) (w0 : Bs) (e : E) (s : St) : Exit → Act → World → Prop := fun x a w => x = e.toExit ∧ SRel N B w0 s a w

theorem loopN_sound {c : Code} {f : St → Option (E × St)} {lv : Option (List Nat)} {e : E} {s' : St} (hf : ∀ s e s' a w, f s = some (e, s') → SRel N B w0 s a w → c.wp P (PostC N B w0 e s') a w) (n : Nat) {s : St} {a : Act} {w : World}
    (h : loopN f lv n s = some (e, s')) (hrel : SRel N B w0 s a w) : (Code.loop c).wp P (PostC N B w0 e s') a w := by
  refine wp_loop_ghost (fun n a w => ∃ s, loopN f lv n s = some (e, s') ∧ SRel N B w0 s a w) n ⟨s, h, hrel⟩ ?_
  rintro n a w ⟨s, h, hrel⟩
  cases n with
  | zero => cases h
  | succ n =>
    unfold loopN at h
    split at h
    · rename_i s1 h1
      refine wp_mono (hf _ _ _ a w h1 hrel) ?_
      rintro x a' w' ⟨rfl, hr⟩
      exact ⟨n, by omega, _, h, headOf_sound lv hr⟩
    · rename_i hne
      rw [h] at hne
      refine wp_mono (hf _ _ _ a w h hrel) ?_
      rintro x a' w' ⟨rfl, hr⟩
      cases e with
      | norm => exact absurd rfl (hne s')
      | ex id => exact ⟨rfl, hr⟩
      | ret => exact ⟨rfl, hr⟩

theorem runC_sound (hmix : P.follows .mixedOrders = true) (hcall : CTok P call) (hG : w0.G = call.g) : ∀ (c : Code), okCode an c = true → ∀ (s : St) (e : E) (s' : St) (a : Act) (w : World), runC P call an N c s = some (e, s') → SRel N B w0 s a w →
    c.wp P (PostC N B w0 e s') a w := by
  intro c
  induction c with
  | skip =>
    intro _ s e s' a w h hrel
    cases h
    exact wp_skip ⟨rfl, hrel⟩
  | region id ops draw =>
    intro hok s e s' a w h hrel
    unfold runC at h
    split at h
    · rename_i s1 h1
      cases h
      unfold runR at h1
      split at h1
      · rename_i s2 h2
        cases h1
        cases draw with
        | true =>
          simp only [if_true] at h2
          exact draw_sound hmix (by simpa [okCode] using hok) hcall hG hrel h2 (fun a' w' hr => ⟨rfl, endR_sound _ _ hr⟩)
        | false =>
          simp only [Bool.false_eq_true, if_false] at h2
          exact region_sound hcall hG hrel h2 (fun a' w' hr => ⟨rfl, endR_sound _ _ hr⟩)
      · cases h1
    · cases h
  | seq x y ihx ihy =>
    intro hok s e s' a w h hrel
    simp only [okCode, Bool.and_eq_true] at hok
    unfold runC at h
    apply wp_seq
    split at h
    · rename_i s1 h1
      refine wp_mono (ihx hok.1 s _ _ a w h1 hrel) ?_
      rintro ex a' w' ⟨rfl, hr⟩
      exact ihy hok.2 s1 e s' a' w' h hr
    · rename_i hne
      rw [h] at hne
      refine wp_mono (ihx hok.1 s _ _ a w h hrel) ?_
      rintro ex a' w' ⟨rfl, hr⟩
      cases e with
      | norm => exact absurd rfl (hne s')
      | ex id => exact ⟨rfl, hr⟩
      | ret => exact ⟨rfl, hr⟩
  | cond c x y ihx ihy =>
    intro hok s e s' a w h hrel
    simp only [okCode, Bool.and_eq_true] at hok
    cases c with
    | tmp t =>
      simp only [runC] at h
      split at h
      · rename_i b hb
        have hc : a.eval (.tmp t) = .bool b := by
          obtain ⟨ι, hr⟩ := hrel
          have := hr.tmp t
          rw [hb] at this
          exact this.x_inv
        have hrel' : SRel N B w0 (if an.cond.contains t = true then ⟨delT s.t t, s.h⟩ else s) a w := by
          split
          · exact hrel.del t
          · exact hrel
        refine wp_cond hc ?_
        cases b
        · simp only [Bool.false_eq_true, if_false] at h ⊢
          exact ihy hok.2 _ e s' a w h hrel'
        · simp only [if_true] at h ⊢
          exact ihx hok.1 _ e s' a w h hrel'
      · cases h
    | const v => simp [runC] at h
    | global g => simp [runC] at h
    | func f => simp [runC] at h
  | block id c ih =>
    intro hok s e s' a w h hrel
    unfold runC at h
    apply wp_block
    split at h
    · rename_i i s1 h1
      refine wp_mono (ih hok s _ _ a w h1 hrel) ?_
      rintro ex a' w' ⟨rfl, hr⟩
      split at h
      · rename_i hi
        cases h
        simp only [E.toExit, Exit.inBlock, hi, if_true]
        exact ⟨rfl, hr⟩
      · rename_i hi
        cases h
        simp only [E.toExit, Exit.inBlock, hi, if_false]
        exact ⟨rfl, hr⟩
    · rename_i hne
      rw [h] at hne
      refine wp_mono (ih hok s _ _ a w h hrel) ?_
      rintro ex a' w' ⟨rfl, hr⟩
      cases e with
      | norm => exact ⟨rfl, hr⟩
      | ex id => exact absurd rfl (hne id s')
      | ret => exact ⟨rfl, hr⟩
  | loop c ih =>
    intro hok s e s' a w h hrel
    unfold runC at h
    exact loopN_sound (fun s e s' a w h hr => ih hok s e s' a w h hr) bigL h (headOf_sound _ hrel)
  | exit id =>
    intro _ s e s' a w h hrel
    cases h
    exact wp_exit ⟨rfl, headOf_sound _ hrel⟩
  | ret =>
    intro _ s e s' a w h hrel
    cases h
    exact wp_ret ⟨rfl, headOf_sound _ hrel⟩
  | rangeFunc f ps asg b _ _ => intro _ s e s' a w h hrel; simp [runC] at h
  | scope b _ => intro _ s e s' a w h hrel; simp [runC] at h
  | label l => intro _ s e s' a w h hrel; simp [runC] at h
  | goto l => intro _ s e s' a w h hrel; simp [runC] at h
  | refuse y => intro _ s e s' a w h hrel; simp [runC] at h

/-! ### Functions -/
def exp1 (η : Nat → Option O) : D → Option D
  | .row id => match η id with
    | some (.row _ _ fl es) => some (.own fl es)
    | _ => none
  | .emp => some (.own true [])
  | .own fl es => some (.own fl es)
  | .sl es => some (.sl es)
  | .x v => some (.x v)
  | .elt cs => some (.elt cs)
  | .any => some .any
  | _ => none
def expC (η : Nat → Option O) : List D → Option (List D)
  | [] => some []
  | d :: r => match exp1 η d, expC η r with
    | some d', some r' => some (d' :: r')
    | _, _ => none
def expD (η : Nat → Option O) : D → Option D
  | .agg cs => match expC η cs with
    | some cs' => some (.agg cs')
    | none => none
  | d => exp1 η d
def resV (P : Program) (s : St) : ResultVar → Option D
  | .tmp t => expD (getH s.h) (getT s.t t)
  | .cell p ty => match loadD P (getH s.h) ty (getT s.t p) with
    | some d => expD (getH s.h) d
    | none => none
def resVs (P : Program) (s : St) : List ResultVar → Option (List D)
  | [] => some []
  | v :: r => match resV P s v, resVs P s r with
    | some d, some ds => some (d :: ds)
    | _, _ => none
def resultD (P : Program) (s : St) (vs : List ResultVar) : Option D := match resVs P s vs with
  | some [d] => some d
  | some ds => some (.tup ds)
  | none => none

def argsT : Nat → List D → List (Nat × D)
  | _, [] => []
  | k, d :: r => (k, d) :: argsT (k + 1) r
def keepT (n : Nat) : List Nat → List (Nat × D)
  | [] => []
  | k :: r => if k < n then keepT n r else (k, .any) :: keepT n r
def init (an : Ann) (ds : List D) : St := ⟨argsT 0 ds ++ keepT ds.length an.keep, []⟩

/-- A function's body, run abstractly. -/
def runF (P : Program) (call : CT) (an : Ann) (N : Nat) (body : Code) (results : List ResultVar) (ds : List D) : Option D :=
  if ds.length ≤ N then
    match runC P call an N body (init an ds) with
    | some (.norm, s) => resultD P s results
    | some (.ret, s) => resultD P s results
    | _ => none
  else none

end
end Go.Abs
