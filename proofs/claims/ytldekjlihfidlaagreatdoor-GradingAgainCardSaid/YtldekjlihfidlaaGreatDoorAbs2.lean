/-
  One operation of a region as a step of the state; what a free operation looks at; both for regions that draw their order.
-/
import Derived.Test.YtldekjlihfidlaaGreatDoorAbs1
import Derived.Deep.LoopGhost
import Derived.Scope
import Derived.ProofKit
import Derived.OpenShut
import Derived.Carry
namespace Go.Abs
set_option linter.unusedSimpArgs false
set_option linter.unusedVariables false
open Go Go.RowKit

def creates : Op → Bool
  | .alloc _ => true
  | .box _ _ => true
  | .buildSlice _ _ _ => true
  | .makeSlice _ _ _ => true
  | _ => false

def fstep (P : Program) (call : CT) (N : Nat) (s : St) (o : Oper) : Option St :=
  match o.dst with
  | some t => if t < N then
      match (if creates o.op = true then s.dropB t else s) with
      | s0 => match aop P call (getT s0.t) (getH s0.h) t o.op with
        | some (d, none) => some (s0.put t d)
        | some (d, some ob) => match getH s0.h t with
          | none => some (s0.putO t d ob)
          | some _ => none
        | none => none
    else none
  | none => match aop P call (getT s.t) (getH s.h) 0 o.op with
    | some (_, none) => some s
    | _ => none

def moveRow (s : St) (id t : Nat) : Option St :=
  if t = id then some (s.put t (.row t))
  else match s.drop t with
    | s0 => match getH s0.h id with
      | some (.row e sz fl es) => some ⟨setT (killT id s0.t) t (.row t), setH (killL id s0.h) t (.row e sz fl es)⟩
      | _ => none
def assignD (P : Program) (an : Ann) (N : Nat) (s : St) (o : Oper) (x : Operand) : Option St :=
  match o.dst with
  | none => none
  | some t => if t < N then
      match ev (getT s.t) x with
      | .row id => if an.rows.contains t = true then moveRow s id t
          else match frz an.keep s x with
            | s1 => some (s1.put t (ev (getT s1.t) x))
      | .emp => if an.rows.contains t = true then
            match P.underlying o.type with
            | some (.slice e) => match szT P e with
              | some (n + 1) => match s.drop t with
                | s0 => some (s0.putO t (.row t) (.row e (n + 1) true []))
              | _ => none
            | _ => none
          else some (s.put t .emp)
      | _ => match frz an.keep s x with
        | s1 => some (s1.put t (ev (getT s1.t) x))
    else none
/-- A row goes to another name, under which slot q reads it. -/
def moveO (s : St) (id nm q : Nat) : St :=
  if nm = id then s
  else if nm < 1000 ∨ 10000 ≤ nm then
    match s.drop nm with
    | s0 => match getT s0.t q, getH s0.h id with
      | .row i, some (.row e sz fl es) => if i = id then ⟨setT (killT id s0.t) q (.row nm), setH (killL id s0.h) nm (.row e sz fl es)⟩ else s0
      | _, _ => s0
  else s
def cidOf (b off : Nat) : Nat := 10000 + 100 * b + off
/-- A cell of a box holds its row under its own name. -/
def crow1 (s : St) (b off e sz : Nat) : St :=
  match getH s.h b, getH s.h (cidOf b off) with
  | some (.box ty cs), none => match cs[off]? with
    | some .emp => if sz = 0 then s else ⟨s.t, setH (setH s.h (cidOf b off) (.row e sz true [])) b (.box ty (cs.set off (.row (cidOf b off))))⟩
    | some (.mp k) => if k = cidOf b off ∨ k = b then s else match getH s.h k with
      | some (.mp es) => ⟨killT k s.t, setH (setH (killL k s.h) (cidOf b off) (.mp es)) b (.box ty ((cs.map (kill1 k)).set off (.mp (cidOf b off))))⟩
      | _ => s
    | _ => s
  | _, _ => s
/-- A row that a cell held before, and no longer holds. -/
def crow0 (s : St) (b off : Nat) : St :=
  match getH s.h b with
  | some (.box _ cs) => match cs[off]? with
    | some .emp => s.drop (cidOf b off)
    | _ => s
  | _ => s
def crowsS (b bt : Nat) : List (Nat × Nat × Nat × Nat) → St → St
  | [], s => s
  | (t, off, e, sz) :: r, s => if t = bt then crowsS b bt r (crow1 (crow0 s b off) b off e sz) else crowsS b bt r s
def isCrow (bt off : Nat) : List (Nat × Nat × Nat × Nat) → Bool
  | [] => false
  | (t, o, _, _) :: r => if t = bt ∧ o = off then true else isCrow bt off r
/-- What is stored away is frozen, or goes to the cell's own name. -/
def preStore (an : Ann) (s : St) (ax x : Operand) : St :=
  match ev (getT s.t) ax, x with
  | .ptr id off, .tmp q => match getT s.t q, getH s.h id with
    | .row k, some (.box bt _) => if isCrow bt off an.crows = true then moveO s k (cidOf id off) q else frz an.keep s x
    | _, _ => frz an.keep s x
  | _, _ => frz an.keep s x
def storeS (P : Program) (an : Ann) (s : St) (ty : TypeId) (ax x : Operand) : Option St :=
  match preStore an s ax x with
  | s1 => match ev (getT s1.t) ax with
    | .ptr id off => match getH s1.h id with
      | some (.box bt cs) => match storeBox P ty cs off (ev (getT s1.t) x) with
        | some cs' => some (crowsS id bt an.crows ⟨s1.t, setH s1.h id (.box bt cs')⟩)
        | none => none
      | _ => none
    | .rel id sz i off => match getH s1.h id with
      | some (.row e sz' fl es) => if sz' = sz then
          match storeRow P ty sz es i off (ev (getT s1.t) x) with
          | some (es', fl') => some ⟨s1.t, setH s1.h id (.row e sz (fl && fl') es')⟩
          | none => none
        else none
      | _ => none
    | _ => none

/-- Whether a call hands over objects, of what function, and with which captured variables. -/
def eCallee (an : Ann) (ρ : Nat → D) (c : Go.Call) : Option (FuncId × Bool × List D) := match c.callee with
  | .value f => match ev ρ f with
    | .clo g ids => some (g, false, ids.map fun id => .ptr id 0)
    | .x (.func (.func g) first cap) => match an.ecalls.lookup g with
      | some b => if first.size = 0 ∧ cap.size = 0 then some (g, b, []) else none
      | none => none
    | _ => none
  | _ => none
def frzArgs : List Operand → St → St
  | [], s => s
  | x :: r, s => frzArgs r (frz [] s x)
def estep1 (an : Ann) (call : CT) (s0 : St) (dst : Option Nat) (c : Go.Call) : Option St := match eCallee an (getT s0.t) c with
  | some (g, _, more) => ecall call s0 dst g (c.args.toList.map (ev (getT s0.t)) ++ more)
  | none => none
def estep (an : Ann) (call : CT) (N : Nat) (s : St) (dst : Option Nat) (c : Go.Call) (b : Bool) : Option St :=
  match (if b = true then s else frzArgs c.args.toList s) with
  | s1 => match dst with
    | some t => if t < N then estep1 an call (s1.dropB t) (some t) c else none
    | none => estep1 an call s1 none c

def isAppend : Go.Call → Bool
  | ⟨.builtin .append, _, _⟩ => true
  | _ => false

def eop (P : Program) (call : CT) (an : Ann) (N : Nat) (s : St) (o : Oper) : Option St :=
  match o.op with
  | .assign x => assignD P an N s o x
  | .store ty ax x => match o.dst with
    | none => storeS P an s ty ax x
    | some _ => none
  | .box e x => match fstep P call N (frz an.keep s x) o, o.dst with
    | some s', some t => some (crowsS t e an.crows s')
    | _, _ => none
  | .alloc e => match fstep P call N s o, o.dst with
    | some s', some t => some (crowsS t e an.crows s')
    | _, _ => none
  | .buildSlice _ _ ps => fstep P call N (frzAll s ps.toList) o
  | .call c => if isAppend c = true then
      match o.dst, c.args, c.argTypes with
      | some t, ⟨[x, y]⟩, ⟨[ty, ty']⟩ => if t < N ∧ ty' = ty then appendD P (an.rows.contains t) s t ty x y else none
      | _, _, _ => none
    else match eCallee an (getT s.t) c with
      | some (_, b, _) => estep an call N s o.dst c b
      | none => fstep P call N s o
  | _ => fstep P call N s o

section
variable {P : Program} {w : World} {B : Nat} {N : Nat} {w0 : Bs} {a : Act} {call : CT}

theorem put_none (a : Act) (v : Value) : a.put none v = a := rfl

/-- What an outcome leaves for what follows. -/
theorem out_wp {ι : Inj} {t : Nat} {d : D} {oo : Option O} {o : Oper} {K : Act → World → Prop} {Q : Exit → Act → World → Prop} (h : Outcome P B ι t w d oo ((execOp a.eval o).run P w))
    (hk : ∀ v w', Good B ι t w w' v d oo → K (a.put o.dst v) w') : o.wp P a w K Q := by
  unfold Oper.wp
  rcases h with ⟨v, w', hr, hg⟩ | ⟨f, args, hr, hc⟩
  · rw [hr]; exact hk v w' hg
  · rw [hr, Oper.upon_enter]
    refine hc.mono fun e w' ⟨v, he, hg⟩ => ?_
    subst he
    exact hk v w' hg

theorem SRel.good_put {s : St} {ι : Inj} (hrel : Rel N B w0 ι (getT s.t) (getH s.h) a w) {t : Nat} (ht : t < N) {w' : World} {v : Value} {d : D} (hg : Good B ι t w w' v d none) : SRel N B w0 (s.put t d) (a.put (some t) v) w' := by
  obtain ⟨hx, hr⟩ := hg
  refine ⟨ι, ?_⟩
  simp only [St.put, getT_set]
  exact (hrel.ext hx).put ht hr
theorem SRel.good_new {s : St} {ι : Inj} (hrel : Rel N B w0 ι (getT s.t) (getH s.h) a w) {t : Nat} (ht : t < N) (hη : getH s.h t = none) {w' : World} {v : Value} {d : D} {ob : O} (hg : Good B ι t w w' v d (some ob)) :
    SRel N B w0 (s.putO t d ob) (a.put (some t) v) w' := by
  obtain ⟨vr, hx, hf, ho, hr⟩ := hg
  refine ⟨updI ι t (some vr), ?_⟩
  simp only [St.putO, getT_set, getH_set]
  exact hrel.new ht hη hx hf ho hr

theorem fstep_sound (hcall : CTok P call) (hG : w0.G = call.g) {s s' : St} {o : Oper} (h : SRel N B w0 s a w) (hs : fstep P call N s o = some s') {K : Act → World → Prop} {Q : Exit → Act → World → Prop}
    (hk : ∀ a' w', SRel N B w0 s' a' w' → K a' w') : o.wp P a w K Q := by
  unfold fstep at hs
  split at hs
  · rename_i t hdst
    split at hs
    · rename_i ht
      obtain ⟨s0, hs0⟩ : ∃ s0, s0 = (if creates o.op = true then s.dropB t else s) := ⟨_, rfl⟩
      simp only [← hs0] at hs
      have h0 : SRel N B w0 s0 a w := by
        rw [hs0]
        split
        · exact h.dropB t
        · exact h
      obtain ⟨ι, hrel⟩ := h0
      split at hs
      · rename_i d ha
        cases hs
        refine out_wp (aop_sound hrel hcall hG (fun h => by cases h) ha) (fun v w' hg => ?_)
        rw [hdst]
        exact hk _ _ (SRel.good_put hrel ht hg)
      · rename_i d ob ha
        split at hs
        · rename_i hη
          cases hs
          refine out_wp (aop_sound hrel hcall hG (fun _ => hη) ha) (fun v w' hg => ?_)
          rw [hdst]
          exact hk _ _ (SRel.good_new hrel ht hη hg)
        · cases hs
      · cases hs
    · cases hs
  · rename_i hdst
    obtain ⟨ι, hrel⟩ := h
    split at hs
    · rename_i d ha
      cases hs
      refine out_wp (aop_sound hrel hcall hG (fun h => by cases h) ha) (fun v w' hg => ?_)
      rw [hdst, put_none]
      exact hk _ _ ⟨ι, hrel.ext hg.1⟩
    · cases hs

theorem moveRow_sound {s s' : St} {id t : Nat} (ht : t < N) (h : SRel N B w0 s a w) {v : Value} {x : Operand} (hx : ev (getT s.t) x = .row id) (hv : a.eval x = v) (hs : moveRow s id t = some s') : SRel N B w0 s' (a.put (some t) v) w := by
  unfold moveRow at hs
  split at hs
  · rename_i hti
    cases hs
    obtain ⟨ι, hrel⟩ := h
    have hr := hrel.ev x
    rw [hx, hv] at hr
    exact SRel.good_put hrel ht ⟨Below.refl _ _, by rw [hti]; exact hr⟩
  · rename_i hti
    obtain ⟨s0, hs0⟩ : ∃ s0, s0 = s.drop t := ⟨_, rfl⟩
    simp only [← hs0] at hs
    split at hs
    · rename_i e sz fl es hη
      cases hs
      have hι : ∃ ι, Rel N B w0 ι (getT s0.t) (getH s0.h) a w ∧ ι id = some v := by
        have h0 := h.drop t
        rw [← hs0] at h0
        obtain ⟨ι, hrel⟩ := h0
        have e1 : ev (getT s0.t) x = .row id := by
          rw [hs0]
          unfold St.drop
          split
          · exact hx
          · cases x with
            | tmp q =>
              simp only [ev] at hx ⊢
              simp only [St.kill, getT_kill, hx]
              simp [killD, mapT, mapA, kill1, refsTo, Ne.symm hti]
            | const v => exact hx
            | global g => exact hx
            | func f => exact hx
        have hr := hrel.ev x
        rw [e1, hv] at hr
        exact ⟨ι, hrel, (row_inv hr).1⟩
      obtain ⟨ι, hrel, hid⟩ := hι
      have hnone : getH s0.h t = none := by rw [hs0]; exact getH_drop s t
      obtain ⟨v', hv', hobj⟩ := hrel.obj id _ hη
      rw [hid] at hv'
      cases hv'
      have hg : w.grownBy w (blk v) := World.grownBy.refl w _
      have hobj2 : ObjRel w B (moved ι id t v) v (.row e sz fl es) := by
        obtain ⟨xs, h1, h2, h3, h4, h5⟩ := hobj
        exact ⟨xs, h1, h2, h3, fun i x j d c he hd hc => moved_RepI hid (.inl rfl) hg (h4 i x j d c he hd hc), h5⟩
      have hr := hrel.move (t := t) hid (.inl (Nat.lt_of_lt_of_le ht hrel.nn)) (.inr hnone) (.inl rfl) hg hobj2
      refine ⟨moved ι id t v, ?_⟩
      simp only [getT_set, getH_set, getT_kill, getH_kill]
      refine hr.put ht (.inl (.inr ⟨by simp [moved], ?_⟩))
      obtain ⟨xs, _, ⟨hown, hwr⟩, _⟩ := hobj
      rcases hown.2 with ⟨rfl, _⟩ | ⟨g, cap, cur, rfl, _⟩
      · exact ⟨_, _, _, rfl⟩
      · exact ⟨_, _, _, rfl⟩
    · cases hs

theorem assign_exec {o : Oper} {x : Operand} (hop : o.op = .assign x) {K : Act → World → Prop} {Q : Exit → Act → World → Prop} (h : K (a.put o.dst (a.eval x)) w) : o.wp P a w K Q := by
  simp only [Oper.wp, execOp, hop]
  exact h

theorem assignD_sound {an : Ann} {s s' : St} {o : Oper} {x : Operand} (hop : o.op = .assign x) (h : SRel N B w0 s a w) (hs : assignD P an N s o x = some s') {K : Act → World → Prop} {Q : Exit → Act → World → Prop}
    (hk : ∀ a' w', SRel N B w0 s' a' w' → K a' w') : o.wp P a w K Q := by
  refine assign_exec hop ?_
  unfold assignD at hs
  split at hs
  · cases hs
  · rename_i t hdst
    rw [hdst]
    have plain : ∀ s1 : St, SRel N B w0 s1 a w → t < N → SRel N B w0 (s1.put t (ev (getT s1.t) x)) (a.put (some t) (a.eval x)) w := by
      rintro s1 ⟨ι, hrel⟩ ht
      exact SRel.good_put hrel ht ⟨Below.refl _ _, hrel.ev x⟩
    split at hs
    · rename_i ht
      split at hs
      · rename_i id hx
        split at hs
        · exact hk _ _ (moveRow_sound ht h hx rfl hs)
        · cases hs
          exact hk _ _ (plain _ (frz_sound _ x h) ht)
      · rename_i hx
        split at hs
        · split at hs
          · rename_i e hu
            split at hs
            · rename_i n hn
              cases hs
              have hvx : a.eval x = .slice none 0 0 := by
                obtain ⟨ι, hrel⟩ := h
                have := hrel.ev x
                rw [hx] at this
                have := (this.one_inv (fun _ e => by cases e)).resolve_right (fun h => h.elim)
                generalize a.eval x = v at this
                cases this
                rfl
              obtain ⟨ι, hrel⟩ := h.drop t
              rw [hvx]
              refine hk _ _ (SRel.good_new hrel ht (getH_drop s t) ⟨.slice none 0 0, Below.refl _ _, (fun b hb => by cases hb), row_nil_obj (by omega), .inl (.inr ⟨by simp, _, _, _, rfl⟩)⟩)
            · cases hs
          · cases hs
        · cases hs
          have := plain s h ht
          rw [hx] at this
          exact hk _ _ this
      · cases hs
        exact hk _ _ (plain _ (frz_sound _ x h) ht)
    · cases hs

theorem moveO_sound {s : St} (id nm q : Nat) (h : SRel N B w0 s a w) : SRel N B w0 (moveO s id nm q) a w := by
  unfold moveO
  split
  · exact h
  · rename_i hne
    split
    · rename_i hnm
      obtain ⟨s0, hs0⟩ : ∃ s0, s0 = s.drop nm := ⟨_, rfl⟩
      simp only [← hs0]
      have h0 : SRel N B w0 s0 a w := by rw [hs0]; exact h.drop nm
      split
      · rename_i i e sz fl es hT hη
        split
        · rename_i hi
          subst hi
          obtain ⟨ι, hrel⟩ := h0
          have hnone : getH s0.h nm = none := by rw [hs0]; exact getH_drop s nm
          have hr := hrel.tmp q
          rw [hT] at hr
          obtain ⟨hid, hsl⟩ := row_inv hr
          obtain ⟨v', hv', hobj⟩ := hrel.obj i _ hη
          rw [hid] at hv'
          cases hv'
          have hg : w.grownBy w (blk (a.tmps.getD q undef)) := World.grownBy.refl w _
          have hobj2 : ObjRel w B (moved ι i nm (a.tmps.getD q undef)) (a.tmps.getD q undef) (.row e sz fl es) := by
            obtain ⟨xs, h1, h2, h3, h4, h5⟩ := hobj
            exact ⟨xs, h1, h2, h3, fun i x j d c he hd hc => moved_RepI hid (.inl rfl) hg (h4 i x j d c he hd hc), h5⟩
          have hr := hrel.move (t := nm) hid hnm (.inr hnone) (.inl rfl) hg hobj2
          refine ⟨moved ι i nm (a.tmps.getD q undef), ?_⟩
          simp only [getT_set, getH_set, getT_kill, getH_kill]
          exact hr.re (.inl (.inr ⟨by simp [moved], hsl⟩))
        · exact h0
      · exact h0
    · exact h
/-- An object is read anew. -/
theorem Rel.reO {ι : Inj} {ρ : Nat → D} {η : Nat → Option O} (h : Rel N B w0 ι ρ η a w) {id : Nat} {v : Value} (hv : ι id = some v) {o : O} (ho : ObjRel w B ι v o) : Rel N B w0 ι ρ (upd η id (some o)) a w := h.set hv (World.grownBy.refl w _) ho
theorem crow1_sound {s : St} (b off e sz : Nat) (h : SRel N B w0 s a w) : SRel N B w0 (crow1 s b off e sz) a w := by
  unfold crow1
  split
  · rename_i ty cs hb hcid
    have hcd : 10000 ≤ cidOf b off := by unfold cidOf; omega
    have hne : cidOf b off ≠ b := by unfold cidOf; omega
    split
    · rename_i hc
      split
      · exact h
      · rename_i hsz
        obtain ⟨ι, hrel⟩ := h
        have hnew := hrel.newO (.inr hcd) hcid (Below.refl _ _) (vr := .slice none 0 0) (ob := .row e sz true []) (fun b hb => by cases hb) (row_nil_obj (by omega))
        obtain ⟨v, hv, hobj⟩ := hnew.obj b (.box ty cs) (by rw [upd_ne _ _ (Ne.symm hne)]; exact hb)
        refine ⟨updI ι (cidOf b off) (some (.slice none 0 0)), ?_⟩
        simp only [getH_set]
        refine hnew.reO hv ?_
        obtain ⟨b', cur, e1, h2, h3, h4, h5⟩ := hobj
        have hlt := (List.getElem?_eq_some_iff.1 hc).1
        refine ⟨b', cur, e1, h2, h3, by simpa using h4, fun j c d hj hd => ?_⟩
        by_cases hjo : j = off
        · subst hjo
          rw [List.getElem?_set_self hlt] at hd
          cases hd
          obtain ⟨g1, g2⟩ := h5 j c _ hj hc
          refine ⟨.inr ⟨?_, ?_⟩, g2⟩
          · have g1 := g1.resolve_right (fun h => h.elim)
            cases g1
            simp
          · have g1 := g1.resolve_right (fun h => h.elim)
            cases g1
            exact ⟨_, _, _, rfl⟩
        · rw [List.getElem?_set_ne (Ne.symm hjo)] at hd
          exact h5 j c d hj hd
    · rename_i k hc
      split
      · exact h
      · rename_i hk
        have hk1 : k ≠ cidOf b off := fun e => hk (.inl e)
        have hk2 : k ≠ b := fun e => hk (.inr e)
        split
        · rename_i es hη
          obtain ⟨ι, hrel⟩ := h
          obtain ⟨v, hv, hobj⟩ := hrel.obj k _ hη
          have hg : w.grownBy w (blk v) := World.grownBy.refl w _
          have hobj2 : ObjRel w B (moved ι k (cidOf b off) v) v (.mp es) := hobj
          have hr := hrel.move (t := cidOf b off) hv (.inr hcd) (.inr hcid) (.inl rfl) hg hobj2
          obtain ⟨vb, hvb, hob⟩ := hr.obj b (.box ty (cs.map (kill1 k))) (by rw [upd_ne _ _ (Ne.symm hne)]; simp [killH, Ne.symm hk2, hb, killO])
          refine ⟨moved ι k (cidOf b off) v, ?_⟩
          simp only [getH_set, getT_kill, getH_kill]
          refine hr.reO hvb ?_
          obtain ⟨b', cur, e1, h2, h3, h4, h5⟩ := hob
          obtain ⟨vb0, hvb0, b0, cur0, f1, f2, f3, f4, f5⟩ := hrel.obj b _ hb
          have hlt := (List.getElem?_eq_some_iff.1 hc).1
          refine ⟨b', cur, e1, h2, h3, by simpa using h4, fun j c d hj hd => ?_⟩
          by_cases hjo : j = off
          · subst hjo
            rw [List.getElem?_set_self (by simpa using hlt)] at hd
            cases hd
            have hbb : vb = vb0 := by
              rw [moved_ne (Ne.symm hne) (Ne.symm hk2)] at hvb
              rw [hvb] at hvb0
              exact Option.some.inj hvb0
            rw [e1, f1] at hbb
            injection hbb with hbb; injection hbb with hbb; injection hbb with hbb
            subst hbb
            rw [h3] at f3
            injection f3 with f3; injection f3 with f3
            subst f3
            obtain ⟨g1, g2⟩ := f5 j c _ hj hc
            refine ⟨.inr ?_, g2⟩
            rcases g1 with g1 | g1
            · cases g1
            · obtain ⟨m1, m2⟩ := g1
              rw [hv] at m1
              cases m1
              exact ⟨by simp [moved], m2⟩
          · rw [List.getElem?_set_ne (Ne.symm hjo)] at hd
            exact h5 j c d hj hd
        · exact h
    · exact h
  · exact h
theorem crow0_sound {s : St} (b off : Nat) (h : SRel N B w0 s a w) : SRel N B w0 (crow0 s b off) a w := by
  unfold crow0
  split
  · split
    · exact h.drop _
    · exact h
  · exact h
theorem crowsS_sound (b bt : Nat) : ∀ (l : List (Nat × Nat × Nat × Nat)) {s : St}, SRel N B w0 s a w → SRel N B w0 (crowsS b bt l s) a w
  | [], _, h => h
  | (t, off, e, sz) :: r, s, h => by
    unfold crowsS
    split
    · exact crowsS_sound b bt r (crow1_sound b off e sz (crow0_sound b off h))
    · exact crowsS_sound b bt r h
theorem preStore_sound (an : Ann) {s : St} (ax x : Operand) (h : SRel N B w0 s a w) : SRel N B w0 (preStore an s ax x) a w := by
  unfold preStore
  split
  · split
    · split
      · exact moveO_sound _ _ _ h
      · exact frz_sound _ _ h
    · exact frz_sound _ _ h
  · exact frz_sound _ _ h

theorem storeS_sound {an : Ann} {s s' : St} {o : Oper} {ty : TypeId} {ax x : Operand} (hop : o.op = .store ty ax x) (hdst : o.dst = none) (h : SRel N B w0 s a w) (hs : storeS P an s ty ax x = some s') {K : Act → World → Prop} {Q : Exit → Act → World → Prop}
    (hk : ∀ a' w', SRel N B w0 s' a' w' → K a' w') : o.wp P a w K Q := by
  unfold storeS at hs
  obtain ⟨s1, hs1⟩ : ∃ s1, s1 = preStore an s ax x := ⟨_, rfl⟩
  simp only [← hs1] at hs
  have h1 : SRel N B w0 s1 a w := by rw [hs1]; exact preStore_sound an ax x h
  have fin : (∃ w', (Instr.storeAt ty (a.eval ax) (a.eval x)).run P w = .ok () w' ∧ SRel N B w0 s' a w') → o.wp P a w K Q := by
    rintro ⟨w', hr, hrel⟩
    simp only [Oper.wp, execOp, hop, Sem.run_bind, hr, Result.andThen_ok, Sem.run_pure]
    rw [Oper.upon_skip, hdst, put_none]
    exact hk _ _ hrel
  obtain ⟨ι, hrel⟩ := h1
  split at hs
  · rename_i id off hax
    split at hs
    · rename_i bt cs hη
      split at hs
      · rename_i cs' hst
        cases hs
        have hr := hrel.ev ax
        rw [hax] at hr
        obtain ⟨w', hrun, hrel'⟩ := storeBox_sound hrel hr (hrel.ev x) hη hst
        exact fin ⟨w', hrun, crowsS_sound _ _ _ ⟨ι, by simpa only [getH_set] using hrel'⟩⟩
      · cases hs
    · cases hs
  · rename_i id sz i off hax
    split at hs
    · rename_i e sz' fl es hη
      split at hs
      · rename_i hsz
        subst hsz
        split at hs
        · rename_i es' fl' hst
          cases hs
          have hr := hrel.ev ax
          rw [hax] at hr
          obtain ⟨w', hrun, hrel'⟩ := storeRow_sound hrel hr (hrel.ev x) hη hst
          exact fin ⟨w', hrun, ι, by simpa only [getH_set] using hrel'⟩
        · cases hs
      · cases hs
    · cases hs
  · cases hs

theorem frzArgs_sound : ∀ (l : List Operand) {s : St}, SRel N B w0 s a w → SRel N B w0 (frzArgs l s) a w
  | [], _, h => h
  | x :: r, _, h => frzArgs_sound r (frz_sound [] x h)
theorem eCallee_sound {an : Ann} {ι : Inj} {ρ : Nat → D} {η : Nat → Option O} (hrel : Rel N B w0 ι ρ η a w) {c : Go.Call} {g : FuncId} {b : Bool} {more : List D} (h : eCallee an ρ c = some (g, b, more)) :
    ∃ f cap, c.callee = .value f ∧ a.eval f = .func (.func g) #[] cap ∧ CellsRel (Rep w B ι) cap more := by
  unfold eCallee at h
  split at h
  · rename_i f hf
    have hr := hrel.ev f
    split at h
    · rename_i g' ids hev
      cases h
      rw [hev] at hr
      obtain ⟨cap, hv, h1, h2⟩ : Ref ι (a.eval f) (.clo g ids) := by
        rcases hr.one_inv (fun _ e => by cases e) with h | h
        · generalize a.eval f = v at h
          cases h
        · exact h
      refine ⟨f, cap, hf, hv, by simpa using h1, fun i v d hi hd => ?_⟩
      rw [List.getElem?_map] at hd
      simp only [Option.map_eq_some_iff] at hd
      obtain ⟨id, hid, rfl⟩ := hd
      obtain ⟨g1, b, rfl⟩ := h2 i v id hi hid
      exact .inl (.inr ⟨b, g1, rfl⟩)
    · rename_i g' first cap hev
      split at h
      · split at h
        · rename_i h0
          cases h
          rw [hev] at hr
          have hv := hr.x_inv
          have e1 : first = #[] := Array.eq_empty_of_size_eq_zero h0.1
          have e2 : cap = #[] := Array.eq_empty_of_size_eq_zero h0.2
          subst e1 e2
          exact ⟨f, #[], hf, hv, rfl, fun i c d h => by simp at h⟩
        · cases h
      · cases h
    · cases h
  · cases h
theorem estep1_sound (hcall : CTok P call) (hG : w0.G = call.g) {an : Ann} {s0 s' : St} {o : Oper} {c : Go.Call} (hop : o.op = .call c) (h : SRel N B w0 s0 a w) (ht : ∀ t, o.dst = some t → t < N)
    (hs : estep1 an call s0 o.dst c = some s') {K : Act → World → Prop} {Q : Exit → Act → World → Prop} (hk : ∀ a' w', SRel N B w0 s' a' w' → K a' w') : o.wp P a w K Q := by
  unfold estep1 at hs
  split at hs
  · rename_i g b more he
    obtain ⟨ι0, hrel0⟩ := h
    obtain ⟨f, cap, hf, hv, _⟩ := eCallee_sound hrel0 he
    obtain ⟨r1, r2⟩ := ecall_sound (args := c.args.map a.eval ++ cap) hcall hG ht ⟨ι0, hrel0⟩ (fun ι hrel => by
      obtain ⟨f', cap', hf', hv', m1, m2⟩ := eCallee_sound hrel he
      rw [hf] at hf'
      cases hf'
      rw [hv] at hv'
      cases hv'
      refine ⟨by simp [m1], fun i v d hi hd => ?_⟩
      by_cases hlt : i < c.args.size
      · rw [Array.getElem?_append_left (by simpa using hlt)] at hi
        rw [List.getElem?_append_left (by simpa using hlt)] at hd
        exact args_rel hrel c.args i d v hd hi
      · rw [Array.getElem?_append_right (by simp; omega)] at hi
        rw [List.getElem?_append_right (by simp; omega)] at hd
        exact m2 _ v d (by simpa using hi) (by simpa using hd)) hs
    have hex : (execOp a.eval o).run P w = .ok (.enter g (c.args.map a.eval ++ cap)) w := by
      simp [execOp, hop, resolve, hf, hv, Deferred.ofValue, invoke, r1]
    simp only [Oper.wp, hex]
    rw [Oper.upon_enter]
    refine r2.mono fun e w' ⟨v, he, hg⟩ => ?_
    subst he
    exact hk _ _ hg
  · cases hs
theorem estep_sound (hcall : CTok P call) (hG : w0.G = call.g) {an : Ann} {s s' : St} {o : Oper} {c : Go.Call} (hop : o.op = .call c) (h : SRel N B w0 s a w) {b : Bool}
    (hs : estep an call N s o.dst c b = some s') {K : Act → World → Prop} {Q : Exit → Act → World → Prop} (hk : ∀ a' w', SRel N B w0 s' a' w' → K a' w') : o.wp P a w K Q := by
  unfold estep at hs
  obtain ⟨s1, hs1⟩ : ∃ s1, s1 = (if b = true then s else frzArgs c.args.toList s) := ⟨_, rfl⟩
  simp only [← hs1] at hs
  have h1 : SRel N B w0 s1 a w := by
    rw [hs1]
    split
    · exact h
    · exact frzArgs_sound _ h
  split at hs
  · rename_i t hdst
    split at hs
    · rename_i ht
      rw [← hdst] at hs
      exact estep1_sound hcall hG hop (h1.dropB t) (fun t' e => by rw [hdst] at e; cases e; exact ht) hs hk
    · cases hs
  · rename_i hdst
    rw [← hdst] at hs
    exact estep1_sound hcall hG hop h1 (fun t' e => by rw [hdst] at e; cases e) hs hk

theorem eop_sound (hcall : CTok P call) (hG : w0.G = call.g) {an : Ann} {s s' : St} {o : Oper} (h : SRel N B w0 s a w) (hs : eop P call an N s o = some s') {K : Act → World → Prop} {Q : Exit → Act → World → Prop}
    (hk : ∀ a' w', SRel N B w0 s' a' w' → K a' w') : o.wp P a w K Q := by
  unfold eop at hs
  split at hs
  · rename_i x hop
    exact assignD_sound hop h hs hk
  · rename_i ty ax x hop
    split at hs
    · rename_i hdst
      exact storeS_sound hop hdst h hs hk
    · cases hs
  · rename_i e x hop
    split at hs
    · rename_i s1 t h1 hdst
      cases hs
      exact fstep_sound hcall hG (frz_sound _ _ h) h1 (fun a' w' hr => hk _ _ (crowsS_sound _ _ _ hr))
    · cases hs
  · rename_i e hop
    split at hs
    · rename_i s1 t h1 hdst
      cases hs
      exact fstep_sound hcall hG h h1 (fun a' w' hr => hk _ _ (crowsS_sound _ _ _ hr))
    · cases hs
  · exact fstep_sound hcall hG (frzAll_sound _ h) hs hk
  · rename_i c hop
    split at hs
    · rename_i hap
      split at hs
      · rename_i t x y ty ty' hdst hargs htys
        split at hs
        · rename_i hb
          obtain ⟨ht, rfl⟩ := hb
          obtain ⟨v', w', hrun, hrel⟩ := append_sound (ty' := o.type) h ht hs
          have hc : c.callee = .builtin .append := by
            obtain ⟨callee, args, tys⟩ := c
            unfold isAppend at hap
            split at hap
            · rename_i e; cases e; rfl
            · cases hap
          have hex : (execOp a.eval o).run P w = .ok (.value v') w' := by
            simp only [execOp, hop, resolve, hc, hargs, htys, invoke, builtin]
            simp [hrun]
          simp only [Oper.wp, hex]
          rw [Oper.upon_value, hdst]
          exact hk _ _ hrel
        · cases hs
      · cases hs
    · split at hs
      · rename_i g b more he
        exact estep_sound hcall hG hop h hs hk
      · exact fstep_sound hcall hG h hs hk
  · exact fstep_sound hcall hG h hs hk

end
end Go.Abs
/-
  A free operation looks at its operands and at the objects that they refer to, and at nothing else; regions in their order, and regions that draw their order.
-/
namespace Go.Abs
set_option linter.unusedSimpArgs false
set_option linter.unusedVariables false
open Go Go.RowKit

section
variable {P : Program} {call : CT}

theorem partsD_congr {ρ ρ' : Nat → D} : ∀ (ps : List (Nat × Operand)), (∀ p ∈ ps, ev ρ p.2 = ev ρ' p.2) → partsD ρ ps = partsD ρ' ps
  | [], _ => rfl
  | (i, x) :: r, h => by
    unfold partsD
    rw [h (i, x) (by simp), partsD_congr r (fun p hp => h p (by simp [hp]))]
theorem partsI_congr {ρ ρ' : Nat → D} : ∀ (ps : List (Nat × Operand)), (∀ p ∈ ps, ev ρ p.2 = ev ρ' p.2) → partsI ρ ps = partsI ρ' ps
  | [], _ => rfl
  | (i, x) :: r, h => by
    unfold partsI
    rw [h (i, x) (by simp), partsI_congr r (fun p hp => h p (by simp [hp]))]

theorem evG_congr {ρ ρ' : Nat → D} {x : Operand} (h : ev ρ x = ev ρ' x) : evG call ρ x = evG call ρ' x := by
  unfold evG
  cases x with
  | global g => rfl
  | tmp t => exact h
  | const v => exact h
  | func f => exact h
theorem capD_congr {ρ ρ' : Nat → D} : ∀ (ps : List Operand), (∀ p ∈ ps, ev ρ p = ev ρ' p) → capD ρ ps = capD ρ' ps
  | [], _ => rfl
  | x :: r, h => by
    unfold capD
    rw [h x (by simp), capD_congr r (fun p hp => h p (by simp [hp]))]

theorem aop_congr {ρ ρ' : Nat → D} {η : Nat → Option O} {t : Nat} (op : Op) (h : ∀ x ∈ op.operands, ev ρ x = ev ρ' x) : aop P call ρ η t op = aop P call ρ' η t op := by
  cases op <;> simp only [aop]
  case move x => rw [h x (by simp [Op.operands])]
  case assign x => rw [h x (by simp [Op.operands])]
  case pick c x y => rw [h c (by simp [Op.operands]), h x (by simp [Op.operands]), h y (by simp [Op.operands])]
  case box e x => rw [h x (by simp [Op.operands])]
  case build ty ps =>
    have : buildD P ρ ty ps = buildD P ρ' ty ps := by
      unfold buildD
      rw [partsD_congr ps.toList (fun p hp => h p.2 (by simp [Op.operands]; exact ⟨p.1, by simpa using hp⟩))]
    rw [this]
  case buildSlice ty n ps =>
    have : buildSliceD P ρ ty n ps = buildSliceD P ρ' ty n ps := by
      unfold buildSliceD
      rw [partsI_congr ps.toList (fun p hp => h p.2 (by simp [Op.operands]; exact ⟨p.1, by simpa using hp⟩))]
    rw [this]
  case load ty x => rw [evG_congr (h x (by simp [Op.operands]))]
  case nilCheck x => rw [h x (by simp [Op.operands])]
  case binOp o ty x y ty' => rw [h x (by simp [Op.operands]), h y (by simp [Op.operands])]
  case unOp o ty x => rw [h x (by simp [Op.operands])]
  case convert s d x => rw [h x (by simp [Op.operands])]
  case slice ty x lo hi mx =>
    have e1 : lo.map (ev ρ) = lo.map (ev ρ') := by
      cases lo with
      | none => rfl
      | some y => simp [h y (by simp [Op.operands])]
    have e2 : hi.map (ev ρ) = hi.map (ev ρ') := by
      cases hi with
      | none => rfl
      | some y => simp [h y (by simp [Op.operands])]
    rw [h x (by simp [Op.operands]), e1, e2]
    cases mx with
    | none => rfl
    | some m => simp only; rw [h m (by simp [Op.operands])]
  case fieldAddr s x f => rw [evG_congr (h x (by simp [Op.operands]))]
  case field s x f => rw [h x (by simp [Op.operands])]
  case indexAddr s x f => rw [evG_congr (h x (by simp [Op.operands])), h f (by simp [Op.operands])]
  case makeFunc fn first cap =>
    have : makeFuncD ρ fn first cap = makeFuncD ρ' fn first cap := by
      unfold makeFuncD
      rw [capD_congr cap.toList (fun p hp => h p (by simp [Op.operands]; exact .inr (by simpa using hp)))]
    rw [this]
  case index s x f => rw [h x (by simp [Op.operands]), h f (by simp [Op.operands])]
  case extract x i => rw [h x (by simp [Op.operands])]
  case makeSlice ty l c => rw [h l (by simp [Op.operands]), h c (by simp [Op.operands])]
  case call c =>
    have e1 : c.args.toList.map (ev ρ) = c.args.toList.map (ev ρ') := List.map_congr_left (fun x hx => h x (by
      simp only [Op.operands, Call.operands, Array.mem_append]
      exact .inr (by simpa using hx)))
    have : callD call ρ η P c = callD call ρ' η P c := by
      unfold callD
      rw [e1]
      split
      · rename_i f hf
        rw [h f (by simp [Op.operands, Call.operands, hf])]
      · rfl
      · rfl
    rw [this]

/-! ### More objects do no harm -/
def Less (η η' : Nat → Option O) : Prop := ∀ id o, η id = some o → η' id = some o

theorem loadD_mono {η η' : Nat → Option O} (hη : Less η η') {t : TypeId} {x d : D} (h : loadD P η t x = some d) : loadD P η' t x = some d := by
  unfold loadD at h ⊢
  split at h
  · split at h
    · rename_i hh; rw [hη _ _ hh]; exact h
    · cases h
  · exact h
  · split at h
    · rename_i hh; rw [hη _ _ hh]; exact h
    · cases h
  · cases h
theorem indexAddrD_mono {η η' : Nat → Option O} (hη : Less η η') {t : TypeId} {x i d : D} (h : indexAddrD P η t x i = some d) : indexAddrD P η' t x i = some d := by
  unfold indexAddrD at h ⊢
  split at h
  · split at h
    · rename_i h0
      rw [if_pos h0]
      split at h
      · split at h
        · split at h
          · exact h
          · exact h
          · split at h
            · rename_i hh; rw [hη _ _ hh]; exact h
            · cases h
          · exact h
          · cases h
        · cases h
      · exact h
      · cases h
    · cases h
  · cases h
theorem lenD_mono {η η' : Nat → Option O} (hη : Less η η') {x : D} {n : Nat} (h : lenD η x = some n) : lenD η' x = some n := by
  unfold lenD at h ⊢
  split at h
  · exact h
  · exact h
  · exact h
  · split at h
    · rename_i hh; rw [hη _ _ hh]; exact h
    · cases h
  · exact h
  · cases h
theorem resA_mono {η η' : Nat → Option O} (hη : Less η η') {x : D} {r : D × Bool} (h : resA η x = some r) : resA η' x = some r := by
  unfold resA at h ⊢
  split at h
  · split at h
    · rename_i hh; rw [hη _ _ hh]; exact h
    · cases h
  · split at h
    · rename_i hh; rw [hη _ _ hh]; exact h
    · cases h
  · exact h
  · exact h
  · exact h
  · exact h
  · exact h
  · exact h
  · split at h
    · rename_i hh; rw [hη _ _ hh]; exact h
    · cases h
  · exact h
  · cases h
theorem resB_mono {η η' : Nat → Option O} (hη : Less η η') : ∀ (xs : List D) (r : List D), resB η xs = some r → resB η' xs = some r
  | [], _, h => h
  | x :: xs, r, h => by
    unfold resB at h ⊢
    split at h
    · rename_i d u ds h1 h2
      rw [resA_mono hη h1, resB_mono hη xs _ h2]
      exact h
    · cases h
theorem res1_mono {η η' : Nat → Option O} (hη : Less η η') {x : D} {r : D × Bool} (h : res1 η x = some r) : res1 η' x = some r := by
  unfold res1 at h ⊢
  split at h
  · split at h
    · rename_i h0
      simp only [h0, if_true]
      split at h
      · rename_i hh
        rw [hη _ _ hh]
        simp only
        split at h
        · rename_i cs hc
          rw [resB_mono hη _ _ hc]
          exact h
        · cases h
      · cases h
    · cases h
  · exact resA_mono hη h
theorem resC_mono {η η' : Nat → Option O} (hη : Less η η') : ∀ (xs : List D) (r : List D × Bool), resC η xs = some r → resC η' xs = some r
  | [], _, h => h
  | x :: xs, r, h => by
    unfold resC at h ⊢
    split at h
    · rename_i d u ds us h1 h2
      rw [res1_mono hη h1, resC_mono hη xs _ h2]
      exact h
    · cases h
theorem resD_mono {η η' : Nat → Option O} (hη : Less η η') {x : D} {r : D × Bool} (h : resD η x = some r) : resD η' x = some r := by
  by_cases ha : ∃ cs, x = .agg cs
  · obtain ⟨cs, rfl⟩ := ha
    unfold resD at h ⊢
    simp only at h ⊢
    split at h
    · rename_i cs' u hc
      rw [resC_mono hη cs _ hc]
      exact h
    · cases h
  · have e : ∀ η, resD η x = res1 η x := fun η => by cases x <;> first | rfl | exact absurd ⟨_, rfl⟩ ha
    rw [e] at h ⊢
    exact res1_mono hη h
theorem resL_mono {η η' : Nat → Option O} (hη : Less η η') : ∀ (xs : List D) (r : List D × Bool), resL η xs = some r → resL η' xs = some r
  | [], _, h => h
  | x :: xs, r, h => by
    unfold resL at h ⊢
    split at h
    · rename_i d u ds us h1 h2
      rw [resD_mono hη h1, resL_mono hη xs _ h2]
      exact h
    · cases h
theorem callD_mono {η η' : Nat → Option O} (hη : Less η η') {ρ : Nat → D} {c : Go.Call} {d : D} (h : callD call ρ η P c = some d) : callD call ρ η' P c = some d := by
  unfold callD at h ⊢
  split at h
  · split at h
    · split at h
      · rename_i h0
        rw [if_pos h0]
        split at h
        · rename_i ds u hr
          rw [resL_mono hη _ _ hr]
          exact h
        · cases h
      · cases h
    · cases h
  · split at h
    · split at h
      · unfold lenOp at h ⊢
        split at h
        · exact h
        · exact h
        · split at h
          · rename_i hn
            rw [lenD_mono hη hn]
            exact h
          · cases h
        · cases h
      · cases h
    · exact h
    · exact h
    · cases h
  · cases h
theorem noneOf_mono {x y : Option D} (h : ∀ d, x = some d → y = some d) {r : D × Option O} (hx : noneOf x = some r) : noneOf y = some r := by
  obtain ⟨d, oo⟩ := r
  obtain ⟨h1, rfl⟩ := noneOf_some hx
  rw [h d h1]
  rfl
theorem srcD_mono {η η' : Nat → Option O} (hη : Less η η') {x : D} {r : List (List D) × Bool} (h : srcD η x = some r) : srcD η' x = some r := by
  unfold srcD at h ⊢
  split at h
  · exact h
  · exact h
  · exact h
  · split at h
    · rename_i hh; rw [hη _ _ hh]; exact h
    · cases h
  · exact h
  · cases h
theorem convS_mono {η η' : Nat → Option O} (hη : Less η η') {s t : TypeId} {x d : D} (h : convS P η s t x = some d) : convS P η' s t x = some d := by
  unfold convS at h ⊢
  split at h
  · split at h
    · split at h
      · rename_i hh; rw [srcD_mono hη hh]; exact h
      · cases h
    · cases h
  · exact h
theorem aop_mono {η η' : Nat → Option O} (hη : Less η η') {ρ : Nat → D} {t : Nat} (op : Op) {r : D × Option O} (h : aop P call ρ η t op = some r) : aop P call ρ η' t op = some r := by
  cases op <;> simp only [aop] at h ⊢ <;> first
    | exact h
    | exact noneOf_mono (fun d hd => loadD_mono hη hd) h
    | exact noneOf_mono (fun d hd => indexAddrD_mono hη hd) h
    | exact noneOf_mono (fun d hd => callD_mono hη hd) h
    | exact noneOf_mono (fun d hd => convS_mono hη hd) h

end

/-! ### Guards -/
def guardV (ops : Array Oper) (ρ : Nat → D) : Option (Nat × Bool) → Option Bool
  | none => some true
  | some (j, want) => match ops[j]? with
    | some oj => match oj.dst with
      | some t => match ρ t with
        | .x (.bool b) => some (b == want)
        | .x (.tuple _) => some false
        | _ => none
      | none => some false
    | none => some false

section
variable {P : Program} {w : World} {B : Nat} {N : Nat} {w0 : Bs} {a : Act} {call : CT} {ι : Inj} {ρ : Nat → D} {η : Nat → Option O}

theorem guard_sound (hrel : Rel N B w0 ι ρ η a w) {ops : Array Oper} {o : Oper} {b : Bool} (h : guardV ops ρ o.guard = some b) : Region.wanted o (yielded ops a.tmps) = b := by
  unfold Region.wanted
  cases hg : o.guard with
  | none => rw [hg] at h; cases h; rfl
  | some jw =>
    obtain ⟨j, want⟩ := jw
    rw [hg] at h
    simp only [guardV] at h
    simp only [yielded]
    split at h
    · rename_i oj hj
      simp only [hj, Option.bind_some]
      split at h
      · rename_i t ht
        simp only [ht, Option.bind_some]
        have hr := hrel.tmp t
        split at h
        · rename_i c hc
          cases h
          rw [hc] at hr
          have hv := hr.x_inv
          have : a.tmps[t]? = some (.bool c) := by
            cases hq : a.tmps[t]? with
            | none => simp [hq, undef] at hv
            | some q => simp [hq] at hv; rw [hv]
          rw [this]
          cases c <;> cases want <;> rfl
        · rename_i vs hc
          cases h
          rw [hc] at hr
          have hv := hr.x_inv
          cases hq : a.tmps[t]? with
          | none => rfl
          | some q =>
            simp [hq] at hv
            rw [hv]
            rfl
        · cases h
      · rename_i ht
        cases h
        simp [ht]
    · rename_i hj
      cases h
      simp [hj]

/-! ### Regions in their order -/
def stepG (P : Program) (call : CT) (an : Ann) (N : Nat) (ops : Array Oper) (s : St) (o : Oper) : Option St :=
  match guardV ops (getT s.t) o.guard with
  | some true => eop P call an N s o
  | some false => match o.dst with
    | some t => if t < N then some (s.put t (.x undef)) else none
    | none => some s
  | none => none
def runSeq (P : Program) (call : CT) (an : Ann) (N : Nat) (ops : Array Oper) : List Oper → St → Option St
  | [], s => some s
  | o :: r, s => match stepG P call an N ops s o with
    | some s' => runSeq P call an N ops r s'
    | none => none

theorem stepG_sound (hcall : CTok P call) (hG : w0.G = call.g) {an : Ann} {ops : Array Oper} {s s' : St} {i : Nat} {o : Oper} (hi : ops[i]? = some o) (h : SRel N B w0 s a w) (hs : stepG P call an N ops s o = some s')
    {K : Act → World → Prop} {Q : Exit → Act → World → Prop} (hk : ∀ a' w', SRel N B w0 s' a' w' → K a' w') : wpOp P ops Q i K a w := by
  unfold wpOp
  simp only [hi]
  unfold stepG at hs
  obtain ⟨ι, hrel⟩ := h
  split at hs
  · rename_i hg
    rw [if_pos (guard_sound hrel hg)]
    exact .inl (eop_sound hcall hG ⟨ι, hrel⟩ hs hk)
  · rename_i hg
    rw [if_neg (by rw [guard_sound hrel hg]; simp)]
    split at hs
    · rename_i t hd
      split at hs
      · rename_i ht
        cases hs
        rw [hd]
        exact hk _ _ (SRel.good_put hrel ht ⟨Below.refl _ _, .inl (.inl (.x _))⟩)
      · cases hs
    · rename_i hd
      cases hs
      rw [hd, put_none]
      exact hk _ _ ⟨ι, hrel⟩
  · cases hs

theorem runSeq_sound (hcall : CTok P call) (hG : w0.G = call.g) {an : Ann} {ops : Array Oper} {Q : Exit → Act → World → Prop} {s' : St} (hk : ∀ a' w', SRel N B w0 s' a' w' → Q .normal a' w') :
    ∀ (l : List Oper) (k : Nat) (s : St) (a : Act) (w : World), (∀ j, l[j]? = ops[k + j]?) → SRel N B w0 s a w → runSeq P call an N ops l s = some s' → wpOps P ops Q (List.range' k l.length) a w
  | [], k, s, a, w, _, h, hs => by
    cases hs
    exact hk _ _ h
  | o :: l, k, s, a, w, hl, h, hs => by
    unfold runSeq at hs
    split at hs
    · rename_i s1 h1
      have h0 : ops[k]? = some o := by have := hl 0; simpa using this.symm
      rw [List.length_cons, List.range'_succ, wpOps_cons]
      refine stepG_sound hcall hG h0 h h1 (fun a' w' h' => ?_)
      exact runSeq_sound hcall hG hk l (k + 1) s1 a' w' (fun j => by have := hl (j + 1); simpa [Nat.add_assoc, Nat.add_comm 1 j] using this) h' hs
    · cases hs

theorem region_sound (hcall : CTok P call) (hG : w0.G = call.g) {an : Ann} {ops : Array Oper} {id : Nat} {Q : Exit → Act → World → Prop} {s s' : St} (h : SRel N B w0 s a w) (hs : runSeq P call an N ops ops.toList s = some s')
    (hk : ∀ a' w', SRel N B w0 s' a' w' → Q .normal a' w') : (Code.region id ops false).wp P Q a w := by
  apply wp_region
  rw [List.range_eq_range']
  exact runSeq_sound hcall hG hk ops.toList 0 s a w (fun j => by simp) h hs

end
end Go.Abs
/-
  Appends among operations whose order is drawn: onto nil, or onto a slice without room, an append makes new memory alone.
-/
namespace Go.Abs
set_option linter.unusedSimpArgs false
set_option linter.unusedVariables false
open Go Go.RowKit

def appF (P : Program) (ρ : Nat → D) (η : Nat → Option O) (c : Go.Call) : Option (D × Option O) :=
  match c.args, c.argTypes with
  | ⟨[x, y]⟩, ⟨[ty, ty']⟩ => if ty' = ty then
      match appT P ty with
      | some (_, sz, by_) => match srcD η (ev ρ y) with
        | some (es', fl') => if es'.all (fun c => c.length == sz) = true ∧ es'.length * (by_ + 1) ≤ 140737488355328 then
            match ev ρ x with
            | .emp => some (.own fl' es', none)
            | .cap0 => some (.own fl' es', none)
            | _ => none
          else none
        | none => none
      | none => none
    else none
  | _, _ => none
/-- A free operation: an empty slice literal has no room, and what is appended to it is new. -/
def aopF (P : Program) (call : CT) (ρ : Nat → D) (η : Nat → Option O) (t : Nat) (op : Op) : Option (D × Option O) :=
  match op with
  | .buildSlice ty n ps => if n = 0 ∧ ps.size = 0 then
      match mkT P ty with
      | some _ => some (.cap0, none)
      | none => none
    else aop P call ρ η t (.buildSlice ty n ps)
  | .call c => if isAppend c = true then appF P ρ η c else aop P call ρ η t (.call c)
  | op => aop P call ρ η t op

section
variable {P : Program} {call : CT}
theorem appF_congr {ρ ρ' : Nat → D} {η : Nat → Option O} (c : Go.Call) (h : ∀ x ∈ c.args.toList, ev ρ x = ev ρ' x) : appF P ρ η c = appF P ρ' η c := by
  unfold appF
  split
  · rename_i x y ty ty' h1 h2
    rw [h x (by simp [h1]), h y (by simp [h1])]
  · rfl
theorem aopF_congr {ρ ρ' : Nat → D} {η : Nat → Option O} {t : Nat} (op : Op) (h : ∀ x ∈ op.operands, ev ρ x = ev ρ' x) : aopF P call ρ η t op = aopF P call ρ' η t op := by
  have key := aop_congr (P := P) (call := call) (η := η) (t := t) op h
  cases op with
  | buildSlice ty n ps => simp only [aopF]; rw [key]
  | call c =>
    simp only [aopF]
    rw [key, appF_congr c (fun x hx => h x (by
      simp only [Op.operands, Call.operands, Array.mem_append]
      exact .inr (by simpa using hx)))]
  | _ => exact key
theorem appF_mono {η η' : Nat → Option O} (hη : Less η η') {ρ : Nat → D} {c : Go.Call} {r : D × Option O} (h : appF P ρ η c = some r) : appF P ρ η' c = some r := by
  unfold appF at h ⊢
  split at h
  · split at h
    · rename_i ht
      rw [if_pos ht]
      split at h
      · split at h
        · rename_i hs
          rw [srcD_mono hη hs]
          exact h
        · cases h
      · cases h
    · cases h
  · cases h
theorem aopF_mono {η η' : Nat → Option O} (hη : Less η η') {ρ : Nat → D} {t : Nat} (op : Op) {r : D × Option O} (h : aopF P call ρ η t op = some r) : aopF P call ρ η' t op = some r := by
  cases op with
  | buildSlice ty n ps =>
    simp only [aopF] at h ⊢
    split at h
    · rename_i h0
      rw [if_pos h0]
      exact h
    · rename_i h0
      rw [if_neg h0]
      exact aop_mono hη _ h
  | call c =>
    simp only [aopF] at h ⊢
    split at h
    · rename_i h0
      rw [if_pos h0]
      exact appF_mono hη h
    · rename_i h0
      rw [if_neg h0]
      exact aop_mono hη _ h
  | _ =>
    simp only [aopF] at h ⊢
    exact aop_mono hη _ h
end

section
variable {P : Program} {w : World} {B : Nat} {ι : Inj} {N : Nat} {w0 : Bs} {ρ : Nat → D} {η : Nat → Option O} {a : Act}
/-- An append onto a slice without room: what comes back is new, or empty. -/
theorem free_append (hrel : Rel N B w0 ι ρ η a w) {ty ty' e : TypeId} {sz by_ : Nat} (hT : appT P ty = some (e, sz, by_)) {y : Operand} {es' : List (List D)} {fl' : Bool}
    (hs : srcD η (ev ρ y) = some (es', fl')) (hl : es'.all (fun c => c.length == sz) = true) (hlim : es'.length * (by_ + 1) ≤ 140737488355328) (A : Option Addr) :
    ∃ v' w', (Builtin.append_ #[ty, ty] ty' #[.slice A 0 0, a.eval y]).run P w = .ok v' w' ∧ Ext w w' ∧ RepI w' (okB ι) (frB B ι) v' (.own fl' es') := by
  obtain ⟨hu, hsz, i, z, hi, hz, hzs, rfl, rfl⟩ := appT_some hT
  obtain ⟨⟨A', c, news, src⟩, hfl⟩ := src_sound hrel (hrel.ev y) hs hsz (all_len hl)
  have hb1 : es'.length ≤ 140737488355328 := Nat.le_trans (Nat.le_mul_of_pos_right _ (by omega)) hlim
  have hb2 : es'.length * i.bytes ≤ 140737488355328 := Nat.le_trans (Nat.mul_le_mul_left _ (by omega)) hlim
  by_cases hze : es'.length = 0
  · have he' : es' = [] := List.eq_nil_of_length_eq_zero hze
    refine ⟨.slice A 0 0, w, ?_, Below.refl _ _, by rw [he']; exact .own0 _ _ _⟩
    rw [src.val, hze]
    cases A' with
    | none => cases A <;> simp [Builtin.append_, run_underlying hu, Go.sizeOf, typeInfo, hi, Builtin.lenOf, Builtin.firstCells, storeCells]
    | some ad => cases A <;> simp [Builtin.append_, run_underlying hu, Go.sizeOf, typeInfo, hi, Builtin.lenOf, Builtin.firstCells, loadCells, loadCellsFrom, storeCells]
  · have same : (Builtin.append_ #[ty, ty] ty' #[.slice A 0 0, a.eval y]).run P w = (Builtin.append_ #[ty, ty] ty' #[.slice none 0 0, a.eval y]).run P w := by
      rw [src.val]
      cases A with
      | none => rfl
      | some b =>
        cases A' with
        | none => exact absurd (by rw [src.nil rfl]; rfl) hze
        | some ad =>
          rw [Go.run_append_nil (P := P) w ty ty' e i z hu hi hz ad es'.length c news src.len (src.cell ad rfl) (by omega) (by omega) (by omega)]
          have hns : Builtin.nextslicecap es'.length 0 = es'.length := by unfold Builtin.nextslicecap; rw [if_pos (by omega)]
          have := Go.run_append_grow (P := P) w ty ty' e i z hu hi hz b 0 0 [] (by simp) (by simp) ad es'.length c news src.len (src.cell ad rfl) (by omega) (by omega) (by rw [Nat.zero_add, hns]; omega)
          simpa using this
    rw [same]
    have hown : w.ownsRow 0 e i.size (.slice none 0 0) 0 [] := ⟨by simp, .inl ⟨rfl, rfl⟩⟩
    obtain ⟨v', w', hrun, hown', hg, hb⟩ := append_run (P := P) (ty := ty') (Nat.zero_le _) hu hi hz hzs hsz hown src (by unfold maxLen; omega) (by simpa using hb2)
    have hg' : w.grownBy w' none := hg
    have hx : Ext w w' := ⟨hg'.os, hg'.tape, hg'.output, hg'.size, fun k hk => hg'.block k hk (by simp)⟩
    refine ⟨v', w', hrun, hx, ?_⟩
    have hnew : ∀ b, blk v' = some b → w.heap.size ≤ b := by
      intro b hbb
      rw [← ownsRow_ownBlock hown'] at hbb
      rcases hb with hb | hb
      · rw [hbb] at hb; cases hb
      · rw [hbb] at hb; injection hb with hb; omega
    have hwr : ∀ b, blk v' = some b → wrB B ι b := fun b hbb => .inl (Nat.le_trans hrel.base (hnew b hbb))
    have hobj : ObjRel w' B ι v' (.row e i.size (true && fl') ([] ++ es')) :=
      append_obj (n := 0) (es := []) (xs := []) rfl hsz (by simp) hown' hwr (by simp) (all_len hl) (by simp)
        (fun k x j d u h1 h2 h3 => (src.rep k x j d u h1 h2 h3).mono hx.size (fun b hb ho => ⟨ho, hx.block b hb⟩) (fun b hb ho => ⟨ho, hx.block b hb⟩))
        (by simp) src.one (by simp) src.ic (by simp) hfl
    simp only [Bool.true_and, List.nil_append] at hobj
    have hobj' := hobj
    obtain ⟨xs, _, ⟨hown2, _⟩, hlen, hrep, hone, hic, hfl2⟩ := hobj
    rcases hown2.2 with ⟨rfl, h2⟩ | ⟨g, cap, cur, rfl, hB, hh, hle, hmx, hcs, hxs⟩
    · exact absurd h2 hze
    · have hcells := (row_cells hobj').2.2.2
      have hok : okB ι g := ⟨hrel.fresh g (hwr g rfl), fun id u hu hbb => by
        have h1 := (hrel.blk_lt hu hbb).2
        have h2 := hnew g rfl
        omega⟩
      refine .own (sz := i.size) ⟨hwr g rfl, hok⟩ (Array.getElem?_eq_some_iff.1 hh).1 hle hic hlen (fun k j hk hj => ?_) (fun k x j d u he hd hu => ?_) hfl2
      · have he : es'[k]? = some es'[k] := List.getElem?_eq_getElem hk
        have hel := hlen _ (List.getElem_mem hk)
        obtain ⟨u, hu, _, h1⟩ := hcells k _ j _ he (List.getElem?_eq_getElem (by omega : j < es'[k].length))
        rw [Addr.add_lit, Nat.zero_add]
        rw [hel] at hu
        exact ⟨u, hu, h1⟩
      · obtain ⟨u', hu', hr, _⟩ := hcells k x j d he hd
        rw [Addr.add_lit, Nat.zero_add] at hu
        rw [hlen x (List.mem_of_getElem? he), hu] at hu'
        cases hu'
        exact hr
theorem aopF_sound (hrel : Rel N B w0 ι ρ η a w) {call : CT} (hcall : CTok P call) (hG : w0.G = call.g) {t : Nat} {o : Oper} {d : D} {oo : Option O}
    (hη : oo.isSome = true → η t = none) (h : aopF P call ρ η t o.op = some (d, oo)) : Outcome P B ι t w d oo ((execOp a.eval o).run P w) := by
  unfold aopF at h
  split at h
  · rename_i ty n ps hop
    split at h
    · rename_i h0
      obtain ⟨rfl, hps⟩ := h0
      split at h
      · rename_i x hmk
        cases h
        obtain ⟨e, sz, by_, zs⟩ := x
        obtain ⟨hu, hz, hb0, hb1, hs, _⟩ := mkT_some hmk
        have hps' : ps = #[] := Array.eq_empty_of_size_eq_zero hps
        subst hps'
        have hrun : ∃ o', (execOp a.eval o).run P w = .ok (.value (.slice (some ⟨w.heap.size, 0, none⟩) 0 0)) (w.alloc o') := by
          simp only [execOp, hop, Instr.buildSlice, Sem.run_bind, run_underlying hu, Result.andThen_ok, run_sizeOf hs]
          rw [if_neg (by omega), if_pos (by simp)]
          simp [newRow]
          exact ⟨_, rfl⟩
        obtain ⟨o', hrun⟩ := hrun
        exact .inl ⟨_, _, hrun, ext_alloc w o', .inl (.inl (.cap0 _))⟩
      · cases h
    · exact aop_sound hrel hcall hG hη (by rw [hop]; exact h)
  · rename_i c hop
    split at h
    · rename_i hap
      have hc : c.callee = .builtin .append := by
        obtain ⟨callee, args, tys⟩ := c
        unfold isAppend at hap
        split at hap
        · rename_i e; cases e; rfl
        · cases hap
      unfold appF at h
      split at h
      · rename_i x y ty ty' hargs htys
        split at h
        · rename_i ht
          subst ht
          split at h
          · rename_i e sz by_ hT
            split at h
            · rename_i es' fl' hs
              split at h
              · rename_i hb
                have fin : ∀ A, a.eval x = .slice A 0 0 → Outcome P B ι t w (.own fl' es') none ((execOp a.eval o).run P w) := by
                  intro A hx
                  obtain ⟨v', w', hrun, hxt, hr⟩ := free_append (P := P) (ty' := o.type) hrel hT hs hb.1 hb.2 A
                  refine .inl ⟨v', w', ?_, hxt, .inl (.inl hr)⟩
                  simp only [execOp, hop, resolve, hc, hargs, htys, invoke, builtin]
                  simp [hrun, hx]
                split at h
                · rename_i hx
                  cases h
                  have := hrel.ev x
                  rw [hx] at this
                  exact fin none this.emp_inv
                · rename_i hx
                  cases h
                  have := hrel.ev x
                  rw [hx] at this
                  have := (this.one_inv (fun _ e => by cases e)).resolve_right (fun h => h.elim)
                  obtain ⟨A, hA⟩ : ∃ A, a.eval x = .slice A 0 0 := by
                    generalize a.eval x = v at this
                    cases this
                    exact ⟨_, rfl⟩
                  exact fin A hA
                · cases h
              · cases h
            · cases h
          · cases h
        · cases h
      · cases h
    · exact aop_sound hrel hcall hG hη (by rw [hop]; exact h)
  · exact aop_sound hrel hcall hG hη h
end
end Go.Abs
/-
  Regions that draw their order: whatever order is drawn, the state at the end is that of the order of the text.
-/
namespace Go.Abs
set_option linter.unusedSimpArgs false
set_option linter.unusedVariables false
open Go Go.RowKit

def aft (o : Oper) : List Nat := (o.after.toList.filter (Region.binds .any)).map (·.on)
/-- The variable whose field a slot points to, where an operation of the region says so. -/
def baseL : List Oper → Nat → Nat
  | [], t => t
  | o :: r, t => if o.dst = some t then (match o.op with
    | .fieldAddr _ (.tmp u) _ => u
    | _ => t) else baseL r t
/-- The variable into whose memory an operation stores. -/
def storeTgt (ops : Array Oper) (o : Oper) : Option Nat := match o.op, o.dst with
  | .store _ (.tmp t) _, none => some (baseL ops.toList (baseL ops.toList t))
  | _, _ => none
/-- The objects that an operation of the free part may make or write. -/
def wrs (ops : Array Oper) (o : Oper) (q : Nat) : Bool := o.dst == some q || storeTgt ops o == some q
def ordered (i j : Nat) (o oj : Oper) : Bool := (aft o).contains j || (aft oj).contains i
def okPair (ops : Array Oper) (i j : Nat) (o oj : Oper) : Bool :=
  (match oj.dst with
  | none => true
  | some t => o.dst != some t && (!(o.looksAt ops).contains t || ordered i j o oj)) &&
  (match o.dst with
  | none => true
  | some q => !wrs ops oj q || ordered i j o oj) &&
  (match storeTgt ops o with
  | none => true
  | some q => !wrs ops oj q || ordered i j o oj)
/-- What goes before each operation, through others too: a mask each. -/
def masks : List Oper → List Nat → List Nat
  | [], acc => acc
  | o :: r, acc => masks r (acc ++ [(aft o).foldl (fun s j => s ||| 2 ^ j ||| acc.getD j 0) 0])
/-- What is asked of a region that draws its order, of which the first m operations are free; closed, and asked once. -/
def okDraw (ops : Array Oper) (m : Nat) : Bool :=
  decide (m ≤ ops.size) && (match masks ops.toList [] with
  | ms => (List.range ops.size).all fun i => match ops[i]? with
    | none => false
    | some o => (aft o).all (fun j => decide (j < i)) &&
      (if i < m then
        (List.range m).all fun j => j == i || (match ops[j]? with
          | none => false
          | some oj => okPair ops i j o oj)
      else (List.range i).all fun j => (ms.getD i 0).testBit j))

def blocked (ops : Array Oper) (m i : Nat) (o : Oper) (id : Nat) : Bool := (List.range m).any fun j => match ops[j]? with
  | some oj => j != i && wrs ops oj id && !ordered i j o oj
  | none => false
def maskH (ops : Array Oper) (m i : Nat) (o : Oper) (η : Nat → Option O) : Nat → Option O := fun id => if blocked ops m i o id = true then none else η id
def dstore (P : Program) (s : St) (t : Nat) : Op → Option St
  | .store ty (.tmp a) x => match getT s.t a with
    | .ptr id off => if id = t then
        match getH s.h t with
        | some (.box bt cs) => match storeBox P ty cs off (ev (getT s.t) x) with
          | some cs' => some ⟨s.t, setH s.h t (.box bt cs')⟩
          | none => none
        | _ => none
      else none
    | _ => none
  | _ => none
def dstep (P : Program) (call : CT) (N : Nat) (ops : Array Oper) (m i : Nat) (s : St) (o : Oper) : Option St :=
  match guardV ops (getT s.t) o.guard with
  | some true => match storeTgt ops o with
    | some t => dstore P s t o.op
    | none => match o.dst with
      | some t => if t < N then
          match aopF P call (getT s.t) (maskH ops m i o (getH s.h)) t o.op with
          | some (d, none) => some (s.put t d)
          | some (d, some ob) => match getH s.h t with
            | none => some (s.putO t d ob)
            | some _ => none
          | none => none
        else none
      | none => match aopF P call (getT s.t) (maskH ops m i o (getH s.h)) 0 o.op with
        | some (_, none) => some s
        | _ => none
  | some false => match o.dst with
    | some t => if t < N then some (s.put t (.x undef)) else none
    | none => some s
  | none => none
def runDraw (P : Program) (call : CT) (an : Ann) (N : Nat) (ops : Array Oper) (m : Nat) : Nat → List Oper → St → Option St
  | _, [], s => some s
  | k, o :: r, s => if k < m then
      match dstep P call N ops m k s o with
      | some s' => runDraw P call an N ops m (k + 1) r s'
      | none => none
    else runSeq P call an N ops (o :: r) s

section
variable {P : Program} {B : Nat} {N : Nat} {w0 : Bs} {call : CT} {an : Ann} {ops : Array Oper}

theorem seq_states {s' : St} : ∀ (l : List Oper) (k : Nat) (s : St), runSeq P call an N ops l s = some s' → (∀ j, l[j]? = ops[k + j]?) →
    ∃ F : Nat → St, F k = s ∧ F (k + l.length) = s' ∧ ∀ i, k ≤ i → i < k + l.length → ∃ o, ops[i]? = some o ∧ stepG P call an N ops (F i) o = some (F (i + 1))
  | [], k, s, h, _ => by injection h with h; exact ⟨fun _ => s, rfl, h, fun i h1 h2 => by simp at h2; omega⟩
  | o :: l, k, s, h, hl => by
    unfold runSeq at h
    split at h
    · rename_i s1 h1
      obtain ⟨F, e1, e2, e3⟩ := seq_states l (k + 1) s1 h (fun j => by have := hl (j + 1); simpa [Nat.add_assoc, Nat.add_comm 1 j] using this)
      refine ⟨fun i => if i = k then s else F i, by simp, ?_, fun i hi1 hi2 => ?_⟩
      · show (if k + (o :: l).length = k then s else F (k + (o :: l).length)) = s'
        rw [List.length_cons, if_neg (by omega), ← e2]
        congr 1
        omega
      · by_cases hik : i = k
        · subst hik
          have h0 : ops[i]? = some o := by have := hl 0; simpa using this.symm
          refine ⟨o, h0, ?_⟩
          simp only [if_true]
          rw [if_neg (by omega), e1]
          exact h1
        · obtain ⟨o', ho', hs⟩ := e3 i (by omega) (by simp at hi2; omega)
          refine ⟨o', ho', ?_⟩
          simp only
          rw [if_neg hik, if_neg (by omega)]
          exact hs
    · cases h

theorem draw_states {m : Nat} {s' : St} : ∀ (l : List Oper) (k : Nat) (s : St), runDraw P call an N ops m k l s = some s' → (∀ j, l[j]? = ops[k + j]?) →
    ∃ F : Nat → St, F k = s ∧ F (k + l.length) = s' ∧ ∀ i, k ≤ i → i < k + l.length → ∃ o, ops[i]? = some o ∧
      ((i < m → dstep P call N ops m i (F i) o = some (F (i + 1))) ∧ (m ≤ i → stepG P call an N ops (F i) o = some (F (i + 1))))
  | [], k, s, h, _ => by injection h with h; exact ⟨fun _ => s, rfl, h, fun i h1 h2 => by simp at h2; omega⟩
  | o :: l, k, s, h, hl => by
    unfold runDraw at h
    split at h
    · rename_i hkm
      split at h
      · rename_i s1 h1
        obtain ⟨F, e1, e2, e3⟩ := draw_states l (k + 1) s1 h (fun j => by have := hl (j + 1); simpa [Nat.add_assoc, Nat.add_comm 1 j] using this)
        refine ⟨fun i => if i = k then s else F i, by simp, ?_, fun i hi1 hi2 => ?_⟩
        · show (if k + (o :: l).length = k then s else F (k + (o :: l).length)) = s'
          rw [List.length_cons, if_neg (by omega), ← e2]
          congr 1
          omega
        · by_cases hik : i = k
          · subst hik
            have h0 : ops[i]? = some o := by have := hl 0; simpa using this.symm
            refine ⟨o, h0, fun _ => ?_, fun hle => by omega⟩
            simp only [if_true]
            rw [if_neg (by omega), e1]
            exact h1
          · obtain ⟨o', ho', hs1, hs2⟩ := e3 i (by omega) (by simp at hi2; omega)
            refine ⟨o', ho', ?_⟩
            simp only
            rw [if_neg hik, if_neg (by omega)]
            exact ⟨hs1, hs2⟩
      · cases h
    · rename_i hkm
      obtain ⟨F, e1, e2, e3⟩ := seq_states (o :: l) k s h hl
      refine ⟨F, e1, e2, fun i hi1 hi2 => ?_⟩
      obtain ⟨o', ho', hs⟩ := e3 i hi1 hi2
      exact ⟨o', ho', fun hlt => by omega, fun _ => hs⟩

/-- What one step of the free part changes: its own slot alone, and the objects that it writes. -/
theorem dstep_other {m i : Nat} {s s' : St} {o : Oper} (h : dstep P call N ops m i s o = some s') {q : Nat} : (o.dst ≠ some q → getT s'.t q = getT s.t q) ∧ (wrs ops o q = false → getH s'.h q = getH s.h q) := by
  have nodst : wrs ops o q = false → o.dst ≠ some q ∧ storeTgt ops o ≠ some q := by
    intro hw
    simp only [wrs, Bool.or_eq_false_iff, beq_eq_false_iff_ne] at hw
    exact hw
  unfold dstep at h
  split at h
  · split at h
    · rename_i t ht
      unfold dstore at h
      split at h
      · split at h
        · split at h
          · split at h
            · split at h
              · cases h
                refine ⟨fun _ => rfl, fun hw => ?_⟩
                have hne : q ≠ t := fun e => (nodst hw).2 (by rw [ht, e])
                simp only [getH_set]
                exact upd_ne _ _ hne
              · cases h
            · cases h
          · cases h
        · cases h
      · cases h
    · split at h
      · rename_i t ht
        split at h
        · split at h
          · cases h
            exact ⟨fun hq => by simp only [St.put, getT_set]; exact upd_ne _ _ (fun e => hq (by rw [ht, e])), fun _ => rfl⟩
          · split at h
            · cases h
              exact ⟨fun hq => by simp only [St.putO, getT_set]; exact upd_ne _ _ (fun e => hq (by rw [ht, e])), fun hw => by simp only [St.putO, getH_set]; exact upd_ne _ _ (fun e => (nodst hw).1 (by rw [ht, e]))⟩
            · cases h
          · cases h
        · cases h
      · split at h
        · cases h; exact ⟨fun _ => rfl, fun _ => rfl⟩
        · cases h
  · split at h
    · rename_i t ht
      split at h
      · cases h
        exact ⟨fun hq => by simp only [St.put, getT_set]; exact upd_ne _ _ (fun e => hq (by rw [ht, e])), fun _ => rfl⟩
      · cases h
    · cases h; exact ⟨fun _ => rfl, fun _ => rfl⟩
  · cases h

theorem countP_lt {α : Type} (p q : α → Bool) : ∀ (l : List α), (∀ x ∈ l, q x = true → p x = true) → (∃ x ∈ l, p x = true ∧ q x = false) → l.countP q < l.countP p
  | [], _, h => by obtain ⟨x, hx, _⟩ := h; simp at hx
  | y :: l, hpq, h => by
    have hle : l.countP q ≤ l.countP p := List.countP_mono_left (fun x hx => hpq x (by simp [hx]))
    obtain ⟨x, hx, h1, h2⟩ := h
    simp only [List.countP_cons]
    rcases List.mem_cons.1 hx with rfl | hx
    · rw [h1, h2]; simp; omega
    · have ih := countP_lt p q l (fun x hx => hpq x (by simp [hx])) ⟨x, hx, h1, h2⟩
      have := hpq y (by simp)
      cases hy : q y <;> cases hy' : p y <;> simp_all <;> omega

section
variable (ops) (F : Nat → St) (m : Nat)
/-- Among the listed operations of the free part one writes slot q. -/
def Wrote (listed : Array Bool) (q : Nat) : Prop := ∃ j o, j < m ∧ listed.getD j false = true ∧ ops[j]? = some o ∧ o.dst = some q
/-- The last listed operation of the free part that writes object q. -/
def Last (listed : Array Bool) (q j : Nat) : Prop := j < m ∧ listed.getD j false = true ∧ (∃ o, ops[j]? = some o ∧ wrs ops o q = true) ∧ ∀ k o, j < k → k < m → ops[k]? = some o → wrs ops o q = true → listed.getD k false = false
open Classical in
noncomputable def rhoS (listed : Array Bool) (q : Nat) : D := if Wrote ops m listed q then getT (F m).t q else getT (F 0).t q
open Classical in
noncomputable def etaS (listed : Array Bool) (q : Nat) : Option O := if h : ∃ j, Last ops m listed q j then getH (F (Classical.choose h + 1)).h q else getH (F 0).h q
end

structure Free (P : Program) (call : CT) (N : Nat) (ops : Array Oper) (F : Nat → St) (m : Nat) : Prop where
  le : m ≤ ops.size
  step : ∀ i, i < m → ∃ o, ops[i]? = some o ∧ dstep P call N ops m i (F i) o = some (F (i + 1))
  apart : ∀ i j o oj, i < m → j < m → i ≠ j → ops[i]? = some o → ops[j]? = some oj → okPair ops i j o oj = true
  back : ∀ (i : Nat) (o : Oper), ops[i]? = some o → ∀ j ∈ aft o, j < i

variable {F : Nat → St} {m : Nat}

theorem eta_last {listed : Array Bool} {q j : Nat} (h : Last ops m listed q j) : etaS ops F m listed q = getH (F (j + 1)).h q := by
  unfold etaS
  rw [dif_pos ⟨j, h⟩]
  have hc := Classical.choose_spec (⟨j, h⟩ : ∃ j, Last ops m listed q j)
  generalize Classical.choose (⟨j, h⟩ : ∃ j, Last ops m listed q j) = k at hc
  obtain ⟨a1, a2, ⟨o, a3, a4⟩, a5⟩ := h
  obtain ⟨b1, b2, ⟨o', b3, b4⟩, b5⟩ := hc
  have : k = j := by
    rcases Nat.lt_trichotomy j k with hlt | heq | hlt
    · have := a5 k o' hlt b1 b3 b4
      rw [this] at b2; cases b2
    · exact heq.symm
    · have := b5 j o hlt a1 a3 a4
      rw [this] at a2; cases a2
  rw [this]
theorem eta_none {listed : Array Bool} {q : Nat} (h : ∀ j o, j < m → ops[j]? = some o → wrs ops o q = true → listed.getD j false = false) : etaS ops F m listed q = getH (F 0).h q := by
  unfold etaS
  rw [dif_neg]
  rintro ⟨j, h1, h2, ⟨o, h3, h4⟩, _⟩
  rw [h j o h1 h3 h4] at h2
  cases h2
theorem last_ex {listed : Array Bool} {q : Nat} : ∀ (d j : Nat) (o : Oper), m - j ≤ d → j < m → ops[j]? = some o → wrs ops o q = true → listed.getD j false = true → ∃ k, j ≤ k ∧ Last ops m listed q k
  | 0, j, o, hd, hj, _, _, _ => by omega
  | d + 1, j, o, hd, hj, ho, hw, hl => by
    by_cases h : ∃ k o', j < k ∧ k < m ∧ ops[k]? = some o' ∧ wrs ops o' q = true ∧ listed.getD k false = true
    · obtain ⟨k, o', h1, h2, h3, h4, h5⟩ := h
      obtain ⟨n, hn, hL⟩ := last_ex d k o' (by omega) h2 h3 h4 h5
      exact ⟨n, by omega, hL⟩
    · refine ⟨j, Nat.le_refl j, hj, hl, ⟨o, ho, hw⟩, fun k o' h1 h2 h3 h4 => ?_⟩
      cases hk : listed.getD k false with
      | false => rfl
      | true => exact absurd ⟨k, o', h1, h2, h3, h4, hk⟩ h

theorem Free.distinct (hF : Free P call N ops F m) {i j : Nat} {o oj : Oper} {q : Nat} (hi : i < m) (hj : j < m) (ho : ops[i]? = some o) (hoj : ops[j]? = some oj) (h1 : o.dst = some q) (h2 : oj.dst = some q) : i = j := by
  by_cases hij : i = j
  · exact hij
  · have := hF.apart i j o oj hi hj hij ho hoj
    simp [okPair, h2, h1] at this
theorem ordered_iff {i j : Nat} {o oj : Oper} : ordered i j o oj = true ↔ j ∈ aft o ∨ i ∈ aft oj := by
  simp [ordered]
/-- Two operations that write one object are ordered. -/
theorem Free.ord (hF : Free P call N ops F m) {i j : Nat} {o oj : Oper} {q : Nat} (hi : i < m) (hj : j < m) (hij : i ≠ j) (ho : ops[i]? = some o) (hoj : ops[j]? = some oj) (h1 : wrs ops o q = true) (h2 : wrs ops oj q = true) : j ∈ aft o ∨ i ∈ aft oj := by
  have := hF.apart i j o oj hi hj hij ho hoj
  rw [← ordered_iff]
  simp only [okPair, Bool.and_eq_true] at this
  obtain ⟨⟨_, h3⟩, h4⟩ := this
  simp only [wrs, Bool.or_eq_true, beq_iff_eq] at h1
  rcases h1 with h1 | h1
  · rw [h1] at h3
    simpa [h2] using h3
  · rw [h1] at h4
    simpa [h2] using h4

theorem Free.keepT (hF : Free P call N ops F m) (q : Nat) : ∀ (d i : Nat), i + d ≤ m → (∀ j o, i ≤ j → j < i + d → ops[j]? = some o → o.dst ≠ some q) → getT (F (i + d)).t q = getT (F i).t q
  | 0, i, _, _ => rfl
  | d + 1, i, hle, h => by
    have h1 := hF.keepT q d i (by omega) (fun j o a b c => h j o a (by omega) c)
    obtain ⟨o, ho, hs⟩ := hF.step (i + d) (by omega)
    have h3 := (dstep_other (q := q) hs).1 (h (i + d) o (by omega) (by omega) ho)
    rw [← Nat.add_assoc]
    exact h3.trans h1
theorem Free.keepH (hF : Free P call N ops F m) (q : Nat) : ∀ (d i : Nat), i + d ≤ m → (∀ j o, i ≤ j → j < i + d → ops[j]? = some o → wrs ops o q = false) → getH (F (i + d)).h q = getH (F i).h q
  | 0, i, _, _ => rfl
  | d + 1, i, hle, h => by
    have h1 := hF.keepH q d i (by omega) (fun j o a b c => h j o a (by omega) c)
    obtain ⟨o, ho, hs⟩ := hF.step (i + d) (by omega)
    have h3 := (dstep_other (q := q) hs).2 (h (i + d) o (by omega) (by omega) ho)
    rw [← Nat.add_assoc]
    exact h3.trans h1
/-- A slot that operation j writes: before it as at the beginning, behind it as at the end. -/
theorem Free.before (hF : Free P call N ops F m) {j : Nat} {oj : Oper} {q : Nat} (hj : j < m) (hoj : ops[j]? = some oj) (hq : oj.dst = some q) {i : Nat} (hi : i ≤ j) : getT (F i).t q = getT (F 0).t q := by
  have := hF.keepT q i 0 (by omega) (fun k o _ hk ho e => by have := hF.distinct (by omega) hj ho hoj e hq; omega)
  simpa using this
theorem Free.behind (hF : Free P call N ops F m) {j : Nat} {oj : Oper} {q : Nat} (hj : j < m) (hoj : ops[j]? = some oj) (hq : oj.dst = some q) {i : Nat} (hi : j < i) (him : i ≤ m) : getT (F m).t q = getT (F i).t q := by
  have := hF.keepT q (m - i) i (by omega) (fun k o hk1 hk2 ho e => by have := hF.distinct (by omega) hj ho hoj e hq; omega)
  rwa [show i + (m - i) = m by omega] at this
theorem Free.never (hF : Free P call N ops F m) {q : Nat} (h : ∀ j o, j < m → ops[j]? = some o → o.dst ≠ some q) {i : Nat} (hi : i ≤ m) : getT (F i).t q = getT (F 0).t q := by
  have := hF.keepT q i 0 (by omega) (fun k o _ hk ho => h k o (by omega) ho)
  simpa using this

/-- The listed operations are closed under what goes before them. -/
def Closed (ops : Array Oper) (listed : Array Bool) : Prop := ∀ (i : Nat) (o : Oper), ops[i]? = some o → listed.getD i false = true → ∀ j ∈ aft o, listed.getD j false = true

theorem mem_aft {o : Oper} {j : Nat} : j ∈ aft o ↔ ∃ e ∈ o.after, Region.binds .any e = true ∧ e.on = j := by
  simp [aft, and_assoc]

/-- The slots that an operation looks at read, at whatever moment it comes up, as in the order of the text. -/
theorem Free.looks (hF : Free P call N ops F m) {listed : Array Bool} (hc : Closed ops listed) {i : Nat} {o : Oper} (hi : i < m) (ho : ops[i]? = some o) (hl : listed.getD i false = false) (hr : ∀ j ∈ aft o, listed.getD j false = true)
    {q : Nat} (hq : q ∈ o.looksAt ops) : rhoS ops F m listed q = getT (F i).t q := by
  have hap : ∀ j oj, j < m → i ≠ j → ops[j]? = some oj → oj.dst = some q → j ∈ aft o ∨ i ∈ aft oj := by
    intro j oj hj hij hoj hd
    have hap := hF.apart i j o oj hi hj hij ho hoj
    simp only [okPair, Bool.and_eq_true] at hap
    have h1 := hap.1.1
    rw [hd] at h1
    simp only [Bool.and_eq_true, Bool.or_eq_true, Bool.not_eq_true', List.contains_eq_mem, decide_eq_false_iff_not] at h1
    rcases h1.2 with h | h
    · exact absurd hq h
    · exact ordered_iff.1 h
  unfold rhoS
  split
  · rename_i hw
    obtain ⟨j, oj, hj, hlj, hoj, hd⟩ := hw
    have hij : i ≠ j := by rintro rfl; rw [hl] at hlj; cases hlj
    rcases hap j oj hj hij hoj hd with h | h
    · exact hF.behind hj hoj hd (hF.back i o ho j h) (by omega)
    · have := hc j oj hoj hlj i h
      rw [hl] at this
      cases this
  · rename_i hw
    by_cases he : ∃ j oj, j < m ∧ ops[j]? = some oj ∧ oj.dst = some q
    · obtain ⟨j, oj, hj, hoj, hd⟩ := he
      by_cases hij : i ≤ j
      · exact (hF.before hj hoj hd hij).symm
      · have hne : i ≠ j := by omega
        rcases hap j oj hj hne hoj hd with h | h
        · exact absurd ⟨j, oj, hj, hr j h, hoj, hd⟩ hw
        · have := hF.back j oj hoj i h
          omega
    · exact (hF.never (fun j o hj ho e => he ⟨j, o, hj, ho, e⟩) (by omega)).symm

/-- Whatever writes object q is ordered with operation i. -/
def OrdW (ops : Array Oper) (m i : Nat) (o : Oper) (q : Nat) : Prop := ∀ j oj, j < m → j ≠ i → ops[j]? = some oj → wrs ops oj q = true → j ∈ aft o ∨ i ∈ aft oj

/-- The listed operations that write object q are those before operation i. -/
theorem Free.split (hF : Free P call N ops F m) {listed : Array Bool} (hc : Closed ops listed) {i : Nat} {o : Oper} (ho : ops[i]? = some o) (hl : listed.getD i false = false) (hr : ∀ j ∈ aft o, listed.getD j false = true) {q : Nat} (hq : OrdW ops m i o q) {j : Nat} {oj : Oper} (hj : j < m) (hij : j ≠ i) (hoj : ops[j]? = some oj) (hw : wrs ops oj q = true) : (j < i → listed.getD j false = true) ∧ (i < j → listed.getD j false = false) := by
  rcases hq j oj hj hij hoj hw with h | h
  · have := hF.back i o ho j h
    exact ⟨fun _ => hr j h, fun h' => by omega⟩
  · have hlt := hF.back j oj hoj i h
    refine ⟨fun h' => by omega, fun _ => ?_⟩
    cases hlj : listed.getD j false with
    | false => rfl
    | true =>
      have := hc j oj hoj hlj i h
      rw [hl] at this
      cases this
theorem eta_same {listed : Array Bool} {i : Nat} {o : Oper} (ho : ops[i]? = some o) {q : Nat} (hw : wrs ops o q = false) : etaS ops F m (listed.setIfInBounds i true) q = etaS ops F m listed q := by
  have hiff : ∀ j oj, ops[j]? = some oj → wrs ops oj q = true → (listed.setIfInBounds i true).getD j false = listed.getD j false := by
    intro j oj hoj hwj
    by_cases hij : i = j
    · subst hij
      rw [ho] at hoj
      cases hoj
      rw [hw] at hwj
      cases hwj
    · exact getD_set_ne false hij
  by_cases he : ∃ j oj, j < m ∧ ops[j]? = some oj ∧ wrs ops oj q = true ∧ listed.getD j false = true
  · obtain ⟨j, oj, hj, hoj, hwj, hlj⟩ := he
    obtain ⟨k, _, hL⟩ := last_ex (m := m) m j oj (by omega) hj hoj hwj hlj
    rw [eta_last hL]
    obtain ⟨h1, h2, ⟨ok, h3, h4⟩, h5⟩ := hL
    refine eta_last ⟨h1, by rw [hiff k ok h3 h4]; exact h2, ⟨ok, h3, h4⟩, fun n on a b c d => ?_⟩
    rw [hiff n on c d]
    exact h5 n on a b c d
  · have hn : ∀ j oj, j < m → ops[j]? = some oj → wrs ops oj q = true → listed.getD j false = false := by
      intro j oj hj hoj hwj
      cases hlj : listed.getD j false with
      | false => rfl
      | true => exact absurd ⟨j, oj, hj, hoj, hwj, hlj⟩ he
    rw [eta_none hn, eta_none (fun j oj hj hoj hwj => by rw [hiff j oj hoj hwj]; exact hn j oj hj hoj hwj)]
section
variable (hF : Free P call N ops F m) {listed : Array Bool} (hc : Closed ops listed) {i : Nat} {o : Oper} (hi : i < m) (ho : ops[i]? = some o) (hl : listed.getD i false = false) (hr : ∀ j ∈ aft o, listed.getD j false = true)
include hF hc hi ho hl hr
/-- At whatever moment operation i comes up, an object whose writers are ordered with it is as in the order of the text. -/
theorem Free.eta_at {q : Nat} (hq : OrdW ops m i o q) : etaS ops F m listed q = getH (F i).h q := by
  by_cases he : ∃ j oj, j < i ∧ ops[j]? = some oj ∧ wrs ops oj q = true
  · obtain ⟨j, oj, hji, hoj, hw⟩ := he
    have hlj := (hF.split hc ho hl hr hq (by omega) (by omega) hoj hw).1 hji
    obtain ⟨k, hjk, hL⟩ := last_ex (m := m) m j oj (by omega) (by omega) hoj hw hlj
    rw [eta_last hL]
    obtain ⟨h1, h2, ⟨ok, h3, h4⟩, h5⟩ := hL
    have hki : k < i := by
      rcases Nat.lt_trichotomy k i with h | h | h
      · exact h
      · rw [h, hl] at h2; cases h2
      · have := (hF.split hc ho hl hr hq h1 (by omega) h3 h4).2 h
        rw [this] at h2; cases h2
    have := hF.keepH q (i - (k + 1)) (k + 1) (by omega) (fun n on hn1 hn2 hon => by
      cases hwn : wrs ops on q with
      | false => rfl
      | true =>
        have e1 := h5 n on (by omega) (by omega) hon hwn
        have e2 := (hF.split hc ho hl hr hq (by omega) (by omega) hon hwn).1 (by omega)
        rw [e1] at e2; cases e2)
    rw [show k + 1 + (i - (k + 1)) = i by omega] at this
    exact this.symm
  · rw [eta_none (fun j oj hj hoj hw => ?_)]
    · have := hF.keepH q i 0 (by omega) (fun n on _ hn hon => by
        cases hwn : wrs ops on q with
        | false => rfl
        | true => exact absurd ⟨n, on, by omega, hon, hwn⟩ he)
      simpa using this.symm
    · rcases Nat.lt_trichotomy j i with h | h | h
      · exact absurd ⟨j, oj, h, hoj, hw⟩ he
      · rw [h]; exact hl
      · exact (hF.split hc ho hl hr hq hj (by omega) hoj hw).2 h
theorem Free.eta_next (hil : i < listed.size) {q : Nat} (hw : wrs ops o q = true) : etaS ops F m (listed.setIfInBounds i true) q = getH (F (i + 1)).h q := by
  have hq : OrdW ops m i o q := fun j oj hj hij hoj hwj => hF.ord hi hj (Ne.symm hij) ho hoj hw hwj
  refine eta_last ⟨hi, by simp [hil], ⟨o, ho, hw⟩, fun k ok h1 h2 h3 h4 => ?_⟩
  rw [getD_set_ne false (by omega)]
  exact (hF.split hc ho hl hr hq h2 (by omega) h3 h4).2 h1
theorem Free.less : Less (maskH ops m i o (getH (F i).h)) (etaS ops F m listed) := by
  intro q ob h
  unfold maskH at h
  split at h
  · cases h
  · rename_i hb
    rw [hF.eta_at hc hi ho hl hr (fun j oj hj hij hoj hw => ?_)]
    · exact h
    · rw [← ordered_iff]
      cases hor : ordered i j o oj with
      | true => rfl
      | false =>
        exfalso
        apply hb
        unfold blocked
        rw [List.any_eq_true]
        exact ⟨j, by simpa using hj, by simp [hoj, hw, hij, hor]⟩
end

theorem wrote_set {listed : Array Bool} {i : Nat} (hi : i < listed.size) {q : Nat} : Wrote ops m (listed.setIfInBounds i true) q ↔ Wrote ops m listed q ∨ (i < m ∧ ∃ o, ops[i]? = some o ∧ o.dst = some q) := by
  constructor
  · rintro ⟨j, o, hj, hl, ho, hd⟩
    by_cases hij : i = j
    · subst hij; exact .inr ⟨hj, o, ho, hd⟩
    · rw [getD_set_ne false hij] at hl
      exact .inl ⟨j, o, hj, hl, ho, hd⟩
  · rintro (⟨j, o, hj, hl, ho, hd⟩ | ⟨hm, o, ho, hd⟩)
    · exact ⟨j, o, hj, getD_set_true hl, ho, hd⟩
    · exact ⟨i, o, hm, by simp [hi], ho, hd⟩

end
end Go.Abs
/-
  Regions that draw their order are sound.
-/
namespace Go.Abs
set_option linter.unusedSimpArgs false
set_option linter.unusedVariables false
open Go Go.RowKit

section
variable {P : Program} {B : Nat} {N : Nat} {w0 : Bs} {call : CT} {an : Ann} {ops : Array Oper} {F : Nat → St} {m : Nat}

theorem rhoS_none {listed : Array Bool} (h : ∀ j, listed.getD j false = false) : rhoS ops F m listed = getT (F 0).t ∧ etaS ops F m listed = getH (F 0).h := by
  constructor
  · funext q
    unfold rhoS
    rw [if_neg]
    rintro ⟨j, o, _, hl, _⟩
    rw [h j] at hl
    cases hl
  · funext q
    exact eta_none (fun j _ _ _ _ => h j)
theorem Free.all (hF : Free P call N ops F m) {listed : Array Bool} (h : ∀ i, i < m → listed.getD i false = true) : rhoS ops F m listed = getT (F m).t ∧ etaS ops F m listed = getH (F m).h := by
  have key : ∀ q, ¬ Wrote ops m listed q → ∀ j o, j < m → ops[j]? = some o → o.dst ≠ some q := fun q hq j o hj ho e => hq ⟨j, o, hj, h j hj, ho, e⟩
  constructor
  · funext q
    unfold rhoS
    split
    · rfl
    · rename_i hq
      exact (hF.never (key q hq) (Nat.le_refl m)).symm
  · funext q
    by_cases he : ∃ j o, j < m ∧ ops[j]? = some o ∧ wrs ops o q = true
    · obtain ⟨j, o, hj, ho, hw⟩ := he
      obtain ⟨k, _, hL⟩ := last_ex (m := m) m j o (by omega) hj ho hw (h j hj)
      rw [eta_last hL]
      obtain ⟨h1, h2, h3, h5⟩ := hL
      have := hF.keepH q (m - (k + 1)) (k + 1) (by omega) (fun n on hn1 hn2 hon => by
        cases hwn : wrs ops on q with
        | false => rfl
        | true =>
          have e1 := h5 n on (by omega) (by omega) hon hwn
          rw [h n (by omega)] at e1
          cases e1)
      rw [show k + 1 + (m - (k + 1)) = m by omega] at this
      exact this.symm
    · rw [eta_none (fun j o hj ho hw => absurd ⟨j, o, hj, ho, hw⟩ he)]
      have := hF.keepH q m 0 (by omega) (fun n on _ hn hon => by
        cases hwn : wrs ops on q with
        | false => rfl
        | true => exact absurd ⟨n, on, by omega, hon, hwn⟩ he)
      simpa using this.symm

/-- One operation of the free part, at whatever moment it comes up. -/
theorem Free.stepAny (hF : Free P call N ops F m) (hcall : CTok P call) (hG : w0.G = call.g) {listed : Array Bool} (hsz : listed.size = ops.size) (hc : Closed ops listed) {i : Nat} {o : Oper} (hi : i < m) (ho : ops[i]? = some o) (hl : listed.getD i false = false) (hr : ∀ j ∈ aft o, listed.getD j false = true)
    {a : Act} {w : World} (h : ∃ ι, Rel N B w0 ι (rhoS ops F m listed) (etaS ops F m listed) a w) {K : Act → World → Prop} {Q : Exit → Act → World → Prop}
    (hk : ∀ a' w', (∃ ι, Rel N B w0 ι (rhoS ops F m (listed.setIfInBounds i true)) (etaS ops F m (listed.setIfInBounds i true)) a' w') → K a' w') : wpOp P ops Q i K a w := by
  obtain ⟨ι, hrel⟩ := h
  have hil : i < listed.size := by rw [hsz]; exact Nat.lt_of_lt_of_le hi hF.le
  obtain ⟨o', ho', hs⟩ := hF.step i hi
  rw [ho] at ho'
  cases ho'
  have hev : ∀ x ∈ o.op.operands, ev (getT (F i).t) x = ev (rhoS ops F m listed) x := by
    intro x hx
    cases x with
    | tmp t =>
      simp only [ev]
      refine (hF.looks hc hi ho hl hr ?_).symm
      unfold Oper.looksAt
      refine List.mem_append.2 (.inl ?_)
      rw [List.mem_filterMap]
      exact ⟨.tmp t, by simpa using hx, rfl⟩
    | const v => rfl
    | global g => rfl
    | func f => rfl
  have hguard : guardV ops (getT (F i).t) o.guard = guardV ops (rhoS ops F m listed) o.guard := by
    cases hg : o.guard with
    | none => rfl
    | some jw =>
      obtain ⟨j, want⟩ := jw
      simp only [guardV]
      split
      · rename_i oj hj
        split
        · rename_i t ht
          rw [hF.looks hc hi ho hl hr (q := t) (by
            unfold Oper.looksAt
            refine List.mem_append.2 (.inr ?_)
            simp [hg, hj, ht])]
        · rfl
      · rfl
  -- how the relation goes on where nothing but the slot has turned
  have wr : ∀ q, Wrote ops m (listed.setIfInBounds i true) q ↔ Wrote ops m listed q ∨ o.dst = some q := by
    intro q
    rw [wrote_set hil]
    constructor
    · rintro (h | ⟨_, o2, ho2, h⟩)
      · exact .inl h
      · rw [ho] at ho2; cases ho2; exact .inr h
    · rintro (h | h)
      · exact .inl h
      · exact .inr ⟨hi, o, ho, h⟩
  have notW : ∀ t, o.dst = some t → ¬ Wrote ops m listed t := by
    rintro t ht ⟨j, oj, hj, hlj, hoj, hd⟩
    have := hF.distinct hi hj ho hoj ht hd
    subst this
    rw [hl] at hlj
    cases hlj
  have rhoSame : o.dst = none → rhoS ops F m (listed.setIfInBounds i true) = rhoS ops F m listed := by
    intro hd
    have : ∀ q, Wrote ops m (listed.setIfInBounds i true) q ↔ Wrote ops m listed q := fun q => by rw [wr q, hd]; simp
    funext q
    unfold rhoS
    by_cases hq : Wrote ops m listed q
    · rw [if_pos hq, if_pos ((this q).2 hq)]
    · rw [if_neg hq, if_neg (fun h => hq ((this q).1 h))]
  have same : o.dst = none → storeTgt ops o = none → rhoS ops F m (listed.setIfInBounds i true) = rhoS ops F m listed ∧ etaS ops F m (listed.setIfInBounds i true) = etaS ops F m listed := by
    intro hd hst
    refine ⟨rhoSame hd, ?_⟩
    funext q
    exact eta_same ho (by simp [wrs, hd, hst])
  have next : ∀ t, o.dst = some t → rhoS ops F m (listed.setIfInBounds i true) = upd (rhoS ops F m listed) t (getT (F (i + 1)).t t) ∧
      etaS ops F m (listed.setIfInBounds i true) = upd (etaS ops F m listed) t (getH (F (i + 1)).h t) := by
    intro t ht
    have b1 := hF.behind hi ho ht (Nat.lt_succ_self i) hi
    have hst : storeTgt ops o = none := by
      unfold storeTgt
      rw [ht]
      split
      · rename_i e; cases e
      · rfl
    constructor
    · funext q
      unfold rhoS
      by_cases hq : q = t
      · subst hq
        rw [if_pos ((wr q).2 (.inr ht))]
        simp [b1]
      · rw [upd_ne _ _ hq]
        have : Wrote ops m (listed.setIfInBounds i true) q ↔ Wrote ops m listed q := by
          rw [wr q]
          constructor
          · rintro (h | h)
            · exact h
            · rw [ht] at h; cases h; exact absurd rfl hq
          · exact .inl
        by_cases hw : Wrote ops m listed q
        · rw [if_pos hw, if_pos (this.2 hw)]
        · rw [if_neg hw, if_neg (fun h => hw (this.1 h))]
    · funext q
      by_cases hq : q = t
      · subst hq
        rw [upd_same, hF.eta_next hc hi ho hl hr hil (by simp [wrs, ht])]
      · rw [upd_ne _ _ hq]
        exact eta_same ho (by simp [wrs, ht, hst, Ne.symm hq])
  have eta0 : ∀ t, wrs ops o t = true → etaS ops F m listed t = getH (F i).h t := by
    intro t ht
    exact hF.eta_at hc hi ho hl hr (fun j oj hj hij hoj hwj => hF.ord hi hj (Ne.symm hij) ho hoj ht hwj)
  unfold wpOp
  simp only [ho]
  unfold dstep at hs
  split at hs
  · rename_i hg
    rw [hguard] at hg
    rw [if_pos (guard_sound hrel hg)]
    left
    split at hs
    · rename_i t htgt
      have hdn : o.dst = none ∧ ∃ ty a x, o.op = .store ty (.tmp a) x := by
        unfold storeTgt at htgt
        split at htgt
        · rename_i ty t' x e1 e2
          exact ⟨e2, ty, t', x, e1⟩
        · cases htgt
      obtain ⟨hd, ty, ad, x, hop⟩ := hdn
      rw [hop] at hs hev
      simp only [dstore] at hs
      have hevt := hev (.tmp ad) (by simp [Op.operands])
      have hevx := hev x (by simp [Op.operands])
      simp only [ev] at hevt
      split at hs
      · rename_i id off hptr
        split at hs
        · rename_i hidt
          subst hidt
          split at hs
          · rename_i bt cs hbox
            split at hs
            · rename_i cs' hst
              injection hs with hs
              have hw : wrs ops o id = true := by simp [wrs, htgt]
              have hη : etaS ops F m listed id = some (.box bt cs) := by rw [eta0 id hw]; exact hbox
              rw [hevx] at hst
              have hr1 := hrel.ev (.tmp ad)
              simp only [ev] at hr1
              rw [← hevt, hptr] at hr1
              obtain ⟨w', hrun, hrel'⟩ := storeBox_sound hrel hr1 (hrel.ev x) hη hst
              simp only [Oper.wp, execOp, hop, Sem.run_bind, hrun, Result.andThen_ok, Sem.run_pure]
              rw [Oper.upon_skip, hd, put_none]
              refine hk _ _ ⟨ι, ?_⟩
              rw [rhoSame hd]
              have e2 : etaS ops F m (listed.setIfInBounds i true) = upd (etaS ops F m listed) id (some (.box bt cs')) := by
                funext q
                by_cases hq : q = id
                · subst hq
                  rw [upd_same, hF.eta_next hc hi ho hl hr hil hw, ← hs]
                  simp only [getH_set, upd_same]
                · rw [upd_ne _ _ hq]
                  exact eta_same ho (by simp [wrs, hd, htgt, Ne.symm hq])
              rw [e2]
              exact hrel'
            · cases hs
          · cases hs
        · cases hs
      · cases hs
    · rename_i htgt
      split at hs
      · rename_i t hd
        split at hs
        · rename_i ht
          split at hs
          · rename_i d ha
            injection hs with hs
            rw [aopF_congr o.op hev] at ha
            have ha := aopF_mono (hF.less hc hi ho hl hr) o.op ha
            refine out_wp (aopF_sound hrel hcall hG (fun h => by cases h) ha) (fun v w' hgd => ?_)
            rw [hd]
            obtain ⟨n1, n2⟩ := next t hd
            have e1 : getT (F (i + 1)).t t = d := by rw [← hs]; simp [St.put, getT_set]
            have e2 : upd (etaS ops F m listed) t (getH (F (i + 1)).h t) = etaS ops F m listed := by
              funext q
              by_cases hq : q = t
              · subst hq
                rw [upd_same, ← hs, eta0 q (by simp [wrs, hd])]
                rfl
              · rw [upd_ne _ _ hq]
            rw [n1, n2, e1, e2] at hk
            exact hk _ _ ⟨ι, (hrel.ext hgd.1).put ht hgd.2⟩
          · rename_i d ob ha
            split at hs
            · rename_i hη
              injection hs with hs
              rw [aopF_congr o.op hev] at ha
              have ha := aopF_mono (hF.less hc hi ho hl hr) o.op ha
              have hη' : etaS ops F m listed t = none := by rw [eta0 t (by simp [wrs, hd])]; exact hη
              refine out_wp (aopF_sound hrel hcall hG (fun _ => hη') ha) (fun v w' hgd => ?_)
              rw [hd]
              obtain ⟨n1, n2⟩ := next t hd
              have e1 : getT (F (i + 1)).t t = d := by rw [← hs]; simp [St.putO, getT_set]
              have e2 : getH (F (i + 1)).h t = some ob := by rw [← hs]; simp [St.putO, getH_set]
              rw [n1, n2, e1, e2] at hk
              obtain ⟨vr, hx, hf, hob, hrep⟩ := hgd
              exact hk _ _ ⟨_, hrel.new ht hη' hx hf hob hrep⟩
            · cases hs
          · cases hs
        · cases hs
      · rename_i hd
        split at hs
        · rename_i d ha
          rw [aopF_congr o.op hev] at ha
          have ha := aopF_mono (hF.less hc hi ho hl hr) o.op ha
          refine out_wp (aopF_sound hrel hcall hG (fun h => by cases h) ha) (fun v w' hgd => ?_)
          rw [hd, put_none]
          obtain ⟨n1, n2⟩ := same hd htgt
          rw [n1, n2] at hk
          exact hk _ _ ⟨ι, hrel.ext hgd.1⟩
        · cases hs
  · rename_i hg
    rw [hguard] at hg
    rw [if_neg (by rw [guard_sound hrel hg]; simp)]
    split at hs
    · rename_i t hd
      split at hs
      · rename_i ht
        injection hs with hs
        rw [hd]
        obtain ⟨n1, n2⟩ := next t hd
        have e1 : getT (F (i + 1)).t t = .x undef := by rw [← hs]; simp [St.put, getT_set]
        have e2 : upd (etaS ops F m listed) t (getH (F (i + 1)).h t) = etaS ops F m listed := by
          funext q
          by_cases hq : q = t
          · subst hq
            rw [upd_same, ← hs, eta0 q (by simp [wrs, hd])]
            rfl
          · rw [upd_ne _ _ hq]
        rw [n1, n2, e1, e2] at hk
        exact hk _ _ ⟨ι, hrel.put ht (.inl (.inl (.x _)))⟩
      · cases hs
    · rename_i hd
      rw [hd, put_none]
      cases htgt : storeTgt ops o with
      | none =>
        obtain ⟨n1, n2⟩ := same hd htgt
        rw [n1, n2] at hk
        exact hk _ _ ⟨ι, hrel⟩
      | some t =>
        injection hs with hs
        refine hk _ _ ⟨ι, ?_⟩
        rw [rhoSame hd]
        have e2 : etaS ops F m (listed.setIfInBounds i true) = etaS ops F m listed := by
          funext q
          by_cases hq : wrs ops o q = true
          · rw [hF.eta_next hc hi ho hl hr hil hq, eta0 q hq, hs]
          · exact eta_same ho (by simpa using hq)
        rw [e2]
        exact hrel
  · cases hs

/-- How far a run through the region has come. -/
def InvA (B N : Nat) (w0 : Bs) (ops : Array Oper) (F : Nat → St) (m : Nat) (listed : Array Bool) (a : Act) (w : World) : Prop :=
  (∃ ι, Rel N B w0 ι (rhoS ops F m listed) (etaS ops F m listed) a w) ∧ ∀ i, m ≤ i → listed.getD i false = false
def InvB (B N : Nat) (w0 : Bs) (n : Nat) (F : Nat → St) (m : Nat) (listed : Array Bool) (a : Act) (w : World) : Prop :=
  ∃ k, m ≤ k ∧ k ≤ n ∧ (∀ i, i < n → (listed.getD i false = true ↔ i < k)) ∧ SRel N B w0 (F k) a w

theorem draw_any (hF : Free P call N ops F m) (hcall : CTok P call) (hG : w0.G = call.g)
    (htail : ∀ i, m ≤ i → i < ops.size → ∃ o, ops[i]? = some o ∧ stepG P call an N ops (F i) o = some (F (i + 1)) ∧ ∀ listed : Array Bool, Closed ops listed → (∀ j ∈ aft o, listed.getD j false = true) → ∀ j, j < i → listed.getD j false = true)
    {Q : Exit → Act → World → Prop} (hk : ∀ a' w', SRel N B w0 (F ops.size) a' w' → Q .normal a' w') :
    ∀ (fuel : Nat) (listed : Array Bool) (a : Act) (w : World), listed.size = ops.size → Closed ops listed → (List.range ops.size).countP (fun i => !listed.getD i false) ≤ fuel →
      (InvA B N w0 ops F m listed a w ∨ InvB B N w0 ops.size F m listed a w) → wpAny P .any ops Q fuel listed a w := by
  -- where nothing is ready, all is listed
  have done : ∀ (listed : Array Bool), listed.size = ops.size → Region.ready .any ops listed = [] → ∀ i, i < ops.size → listed.getD i false = true := by
    intro listed hsz hr i
    induction i using Nat.strongRecOn with
    | _ i ih =>
      intro hi
      cases hli : listed.getD i false with
      | true => rfl
      | false =>
        exfalso
        have hmem : i ∈ Region.ready .any ops listed := by
          rw [mem_ready]
          have ho : ops[i]? = some ops[i] := Array.getElem?_eq_getElem hi
          refine ⟨?_, _, ho, fun e he hb => ?_⟩
          · have hil : i < listed.size := by omega
            simp [hil] at hli ⊢
            exact hli
          · have hj : e.on ∈ aft ops[i] := mem_aft.2 ⟨e, he, hb, rfl⟩
            have hlt := hF.back i _ ho _ hj
            exact ih _ hlt (by omega)
        rw [hr] at hmem
        cases hmem
  have final : ∀ (listed : Array Bool) (a : Act) (w : World), (∀ i, i < ops.size → listed.getD i false = true) → (InvA B N w0 ops F m listed a w ∨ InvB B N w0 ops.size F m listed a w) → Q .normal a w := by
    rintro listed a w hall (⟨⟨ι, hrel⟩, hno⟩ | ⟨k, hk1, hk2, hk3, hrel⟩)
    · have hm : m = ops.size := by
        rcases Nat.lt_or_ge m ops.size with h | h
        · have := hno m (Nat.le_refl m)
          rw [hall m h] at this
          cases this
        · exact Nat.le_antisymm hF.le h
      obtain ⟨e1, e2⟩ := hF.all (listed := listed) (fun i hi => hall i (by have := hF.le; omega))
      rw [e1, e2] at hrel
      rw [hm] at hrel
      exact hk _ _ ⟨ι, hrel⟩
    · have : k = ops.size := by
        rcases Nat.lt_or_ge k ops.size with h | h
        · have := (hk3 k h).1 (hall k h)
          omega
        · omega
      rw [this] at hrel
      exact hk _ _ hrel
  intro fuel
  induction fuel with
  | zero =>
    intro listed a w hsz hc hcount hinv
    have hall : ∀ i, i < ops.size → listed.getD i false = true := by
      intro i hi
      have h0 : (List.range ops.size).countP (fun i => !listed.getD i false) = 0 := by omega
      rw [List.countP_eq_zero] at h0
      have := h0 i (by simpa using hi)
      simpa using this
    refine ⟨?_, final listed a w hall hinv⟩
    rw [List.eq_nil_iff_forall_not_mem]
    intro i hi
    rw [mem_ready] at hi
    obtain ⟨h1, o, ho, _⟩ := hi
    have hlt := (Array.getElem?_eq_some_iff.1 ho).1
    have h2 := hall i hlt
    have hil : i < listed.size := by omega
    simp [hil] at h1 h2
    rw [h1] at h2
    cases h2
  | succ fuel ih =>
    intro listed a w hsz hc hcount hinv
    refine ⟨fun hr => final listed a w (done listed hsz hr) hinv, fun i hi => ?_⟩
    rw [mem_ready] at hi
    obtain ⟨h1, o, ho, hall⟩ := hi
    have hlt := (Array.getElem?_eq_some_iff.1 ho).1
    have hil : i < listed.size := by omega
    have hli : listed.getD i false = false := by
      simp [hil] at h1 ⊢
      exact h1
    have haft : ∀ j ∈ aft o, listed.getD j false = true := by
      intro j hj
      obtain ⟨e, he, hb, rfl⟩ := mem_aft.1 hj
      exact hall e he hb
    have hc' : Closed ops (listed.setIfInBounds i true) := by
      intro k ok hok hlk j hj
      by_cases hik : i = k
      · subst hik
        rw [ho] at hok
        cases hok
        exact getD_set_true (haft j hj)
      · rw [getD_set_ne false hik] at hlk
        exact getD_set_true (hc k ok hok hlk j hj)
    have hcount' : (List.range ops.size).countP (fun k => !(listed.setIfInBounds i true).getD k false) ≤ fuel := by
      have := countP_lt (fun k => !listed.getD k false) (fun k => !(listed.setIfInBounds i true).getD k false) (List.range ops.size)
        (fun k _ hq => by
          cases hlk : listed.getD k false with
          | false => simp
          | true =>
            simp only [getD_set_true hlk] at hq
            cases hq)
        ⟨i, by simpa using hlt, by simp only [hli]; rfl, by simp [hil]⟩
      omega
    have hsz' : (listed.setIfInBounds i true).size = ops.size := by simpa using hsz
    -- the tail's own step
    have tail : ∀ k, m ≤ k → (∀ i, i < ops.size → (listed.getD i false = true ↔ i < k)) → SRel N B w0 (F k) a w → wpOp P ops Q i (wpAny P .any ops Q fuel (listed.setIfInBounds i true)) a w := by
      intro k hmk hk3 hrel
      have hik : k ≤ i := by
        rcases Nat.lt_or_ge i k with h | h
        · have := (hk3 i hlt).2 h
          rw [hli] at this
          cases this
        · exact h
      obtain ⟨o', ho', hs, hb⟩ := htail i (by omega) hlt
      rw [ho] at ho'
      cases ho'
      have hki : i ≤ k := by
        rcases Nat.lt_or_ge k i with h | h
        · have := (hk3 k (by omega)).1 (hb listed hc haft k h)
          omega
        · exact h
      have hik : i = k := by omega
      subst hik
      refine stepG_sound hcall hG ho hrel hs (fun a' w' h' => ih _ a' w' hsz' hc' hcount' (.inr ⟨i + 1, by omega, by omega, fun q hq => ?_, h'⟩))
      by_cases hqi : i = q
      · subst hqi
        simp [hil]
      · rw [getD_set_ne false hqi, hk3 q hq]
        omega
    rcases hinv with ⟨hrel, hno⟩ | ⟨k, hk1, hk2, hk3, hrel⟩
    · by_cases him : i < m
      · refine hF.stepAny hcall hG hsz hc him ho hli haft hrel (fun a' w' h' => ih _ a' w' hsz' hc' hcount' (.inl ⟨h', fun q hq => ?_⟩))
        rw [getD_set_ne false (by omega)]
        exact hno q hq
      · obtain ⟨o', ho', hs, hb⟩ := htail i (by omega) hlt
        rw [ho] at ho'
        cases ho'
        have hpre : ∀ j, j < m → listed.getD j false = true := fun j hj => hb listed hc haft j (by omega)
        obtain ⟨ι, hrel⟩ := hrel
        obtain ⟨e1, e2⟩ := hF.all hpre
        rw [e1, e2] at hrel
        refine tail m (Nat.le_refl m) (fun q hq => ⟨fun h => ?_, fun h => hpre q h⟩) ⟨ι, hrel⟩
        rcases Nat.lt_or_ge q m with h' | h'
        · exact h'
        · rw [hno q h'] at h
          cases h
    · exact tail k hk1 hk3 hrel

/-- What goes before an operation, through others too, is listed where the listed ones are closed. -/
def Up (listed : Array Bool) (mask : Nat) : Prop := ∀ j, mask.testBit j = true → listed.getD j false = true
theorem up_fold {listed : Array Bool} {acc : List Nat} (hacc : ∀ k, listed.getD k false = true → Up listed (acc.getD k 0)) : ∀ (l : List Nat) (s : Nat), (∀ j ∈ l, listed.getD j false = true) → Up listed s → Up listed (l.foldl (fun s j => s ||| 2 ^ j ||| acc.getD j 0) s)
  | [], _, _, hs => hs
  | j :: l, s, hl, hs => by
    rw [List.foldl_cons]
    refine up_fold hacc l _ (fun k hk => hl k (by simp [hk])) (fun k hk => ?_)
    rw [Nat.testBit_or, Nat.testBit_or, Bool.or_eq_true, Bool.or_eq_true] at hk
    rcases hk with (hk | hk) | hk
    · exact hs k hk
    · rw [Nat.testBit_two_pow] at hk
      have : j = k := by simpa using hk
      rw [← this]
      exact hl j (by simp)
    · exact hacc j (hl j (by simp)) k hk
theorem up_masks {listed : Array Bool} (hc : Closed ops listed) : ∀ (l : List Oper) (acc : List Nat), (∀ j, l[j]? = ops[acc.length + j]?) →
    (∀ k, listed.getD k false = true → Up listed (acc.getD k 0)) → (∀ k o, k < acc.length → ops[k]? = some o → (∀ j ∈ aft o, listed.getD j false = true) → Up listed (acc.getD k 0)) →
    ∀ k o, ops[k]? = some o → (∀ j ∈ aft o, listed.getD j false = true) → Up listed ((masks l acc).getD k 0)
  | [], acc, hl, h1, h2, k, o, ho, hr => by
    rcases Nat.lt_or_ge k acc.length with h | h
    · exact h2 k o h ho hr
    · intro j hj
      rw [masks, List.getD_eq_getElem?_getD, List.getElem?_eq_none h] at hj
      simp at hj
  | x :: l, acc, hl, h1, h2, k, o, ho, hr => by
    have hx : ops[acc.length]? = some x := by have := hl 0; simpa using this.symm
    have new : (∀ j ∈ aft x, listed.getD j false = true) → Up listed ((aft x).foldl (fun s j => s ||| 2 ^ j ||| acc.getD j 0) 0) := fun h => up_fold h1 _ 0 h (fun j hj => by simp at hj)
    have at_ : ∀ k, (acc ++ [(aft x).foldl (fun s j => s ||| 2 ^ j ||| acc.getD j 0) 0]).getD k 0 = if k = acc.length then (aft x).foldl (fun s j => s ||| 2 ^ j ||| acc.getD j 0) 0 else acc.getD k 0 := by
      intro k
      rcases Nat.lt_trichotomy k acc.length with h | h | h
      · rw [if_neg (by omega), List.getD_eq_getElem?_getD, List.getElem?_append_left h, ← List.getD_eq_getElem?_getD]
      · subst h
        rw [if_pos rfl, List.getD_eq_getElem?_getD, List.getElem?_append_right (Nat.le_refl _)]
        simp
      · rw [if_neg (by omega), List.getD_eq_getElem?_getD, List.getElem?_eq_none (by simp; omega), List.getD_eq_getElem?_getD, List.getElem?_eq_none (by omega)]
    refine up_masks hc l _ (fun j => ?_) (fun k hk => ?_) (fun k o hk ho hr => ?_) k o ho hr
    · have := hl (j + 1)
      rw [List.length_append, List.length_singleton, Nat.add_assoc, Nat.add_comm 1 j]
      simpa using this
    · rw [at_]
      split
      · rename_i e
        subst e
        exact new (fun j hj => hc _ x hx hk j hj)
      · exact h1 k hk
    · rw [at_]
      split
      · rename_i e
        subst e
        rw [hx] at ho
        cases ho
        exact new hr
      · rename_i e
        rw [List.length_append, List.length_singleton] at hk
        exact h2 k o (by omega) ho hr

theorem draw_sound (hmix : P.follows .mixedOrders = true) {m : Nat} (hok : okDraw ops m = true) (hcall : CTok P call) (hG : w0.G = call.g) {id : Nat} {Q : Exit → Act → World → Prop} {s s' : St} {a : Act} {w : World} (h : SRel N B w0 s a w)
    (hs : runDraw P call an N ops m 0 ops.toList s = some s') (hk : ∀ a' w', SRel N B w0 s' a' w' → Q .normal a' w') : (Code.region id ops true).wp P Q a w := by
  obtain ⟨F, hF0, hFn, hst⟩ := draw_states ops.toList 0 s hs (fun j => by simp)
  simp only [Nat.zero_add, Array.length_toList] at hFn hst
  simp only [okDraw, Bool.and_eq_true, decide_eq_true_eq] at hok
  obtain ⟨hm, hok⟩ := hok
  have hcheck : ∀ (i : Nat) (o : Oper), ops[i]? = some o → ((∀ j ∈ aft o, j < i) ∧ (i < m → ∀ j oj, j < m → i ≠ j → ops[j]? = some oj → okPair ops i j o oj = true) ∧ (m ≤ i → ∀ j, j < i → ((masks ops.toList []).getD i 0).testBit j = true)) := by
    intro i o ho
    have hlt := (Array.getElem?_eq_some_iff.1 ho).1
    have := List.all_eq_true.1 hok i (by simpa using hlt)
    simp only [ho, Bool.and_eq_true] at this
    obtain ⟨h1, h2⟩ := this
    refine ⟨fun j hj => by simpa using List.all_eq_true.1 h1 j hj, fun him j oj hj hij hoj => ?_, fun him j hj => ?_⟩
    · rw [if_pos him] at h2
      have := List.all_eq_true.1 h2 j (by simpa using hj)
      simp only [hoj, Bool.or_eq_true, beq_iff_eq] at this
      rcases this with h | h
      · exact absurd h.symm hij
      · exact h
    · rw [if_neg (by omega)] at h2
      exact List.all_eq_true.1 h2 j (by simpa using hj)
  have hFree : Free P call N ops F m := {
    le := hm
    step := fun i hi => by
      obtain ⟨o, ho, h1, _⟩ := hst i (Nat.zero_le _) (by omega)
      exact ⟨o, ho, h1 hi⟩
    apart := fun i j o oj hi hj hij ho hoj => (hcheck i o ho).2.1 hi j oj hj hij hoj
    back := fun i o ho => (hcheck i o ho).1 }
  apply wp_region_any hmix
  have nothing : ∀ i, (Array.replicate ops.size false).getD i false = false := by
    intro i
    by_cases hi : i < ops.size <;> simp [hi]
  refine draw_any (an := an) hFree hcall hG (fun i hi1 hi2 => ?_) (fun a' w' h' => hk a' w' (by rw [← hFn]; exact h')) ops.size _ a _ (by simp) ?_ ?_ (.inl ⟨?_, fun i _ => nothing i⟩)
  · obtain ⟨o, ho, _, h2⟩ := hst i (Nat.zero_le _) hi2
    exact ⟨o, ho, h2 hi1, fun listed hc hr j hj => up_masks hc ops.toList [] (fun j => by simp) (fun k _ j hj => by simp at hj) (fun k o hk => by simp at hk) i o ho hr j ((hcheck i o ho).2.2 hi1 j hj)⟩
  · intro i o ho hl
    rw [nothing] at hl
    cases hl
  · exact Nat.le_trans List.countP_le_length (by simp)
  · obtain ⟨ι, hrel⟩ := h
    obtain ⟨e1, e2⟩ := rhoS_none (ops := ops) (F := F) (m := m) (listed := Array.replicate ops.size false) nothing
    rw [e1, e2, hF0]
    refine ⟨ι, hrel.ext ?_⟩
    exact ⟨rfl, rfl, rfl, Nat.le_refl _, fun _ _ => rfl⟩

end
end Go.Abs
/-
  Regions that draw their order, of which the operations behind a free beginning are tried in every order that may be drawn.
-/
namespace Go.Abs
set_option linter.unusedSimpArgs false
set_option linter.unusedVariables false
open Go Go.RowKit

def runFree (P : Program) (call : CT) (N : Nat) (ops : Array Oper) (m : Nat) : Nat → List Oper → St → Option St
  | _, [], s => some s
  | k, o :: r, s => match dstep P call N ops m k s o with
    | some s' => runFree P call N ops m (k + 1) r s'
    | none => none
def stepAt (P : Program) (call : CT) (an : Ann) (N : Nat) (ops : Array Oper) (i : Nat) (s : St) : Option St := match ops[i]? with
  | some o => stepG P call an N ops s o
  | none => none
def Tr.isLeaf : Tr → Bool
  | .leaf => true
  | .alt _ _ _ => false
def altOf : Tr → Nat → Option Tr
  | .leaf, _ => none
  | .alt i sub rest, j => if i = j then some sub else altOf rest j
open Classical in
noncomputable def runTr (P : Program) (call : CT) (an : Ann) (N : Nat) (ops : Array Oper) (fin : St → St) : Tr → St → Option St
  | .leaf, s => some (fin s)
  | .alt i sub rest, s => match stepAt P call an N ops i s with
    | none => none
    | some s1 => match runTr P call an N ops fin sub s1 with
      | none => none
      | some a => if rest.isLeaf = true then some a else match runTr P call an N ops fin rest s with
        | none => none
        | some b => if a = b then some a else none
def okTr (ops : Array Oper) : Bool → Tr → Array Bool → Bool
  | top, .leaf, listed => !top || (Region.ready .any ops listed).isEmpty
  | top, .alt i sub rest, listed => (!top || ((Region.ready .any ops listed).all (fun j => (altOf (.alt i sub rest) j).isSome) && !(Region.ready .any ops listed).isEmpty)) && (okTr ops true sub (listed.setIfInBounds i true) && okTr ops false rest listed)
def okDraw2 (ops : Array Oper) (m : Nat) (tr : Tr) : Bool :=
  (decide (m ≤ ops.size) && (match masks ops.toList [] with
  | ms => (List.range ops.size).all fun i => match ops[i]? with
    | none => false
    | some o => (aft o).all (fun j => decide (j < i)) &&
      (if i < m then
        (List.range m).all fun j => j == i || (match ops[j]? with
          | none => false
          | some oj => okPair ops i j o oj)
      else (List.range m).all fun j => (ms.getD i 0).testBit j))) &&
  okTr ops true tr ((List.range ops.size).map (fun i => decide (i < m))).toArray

section
variable {P : Program} {B : Nat} {N : Nat} {w0 : Bs} {call : CT} {an : Ann} {ops : Array Oper} {F : Nat → St} {m : Nat}

theorem okTr_alt {sub : Tr} {j : Nat} {listed : Array Bool} : ∀ {tr : Tr} {top : Bool}, okTr ops top tr listed = true → altOf tr j = some sub → okTr ops true sub (listed.setIfInBounds j true) = true
  | .leaf, _, _, h => by cases h
  | .alt i s r, top, hok, h => by
    simp only [okTr, Bool.and_eq_true] at hok
    unfold altOf at h
    split at h
    · rename_i e
      cases h
      subst e
      exact hok.2.1
    · exact okTr_alt hok.2.2 h
theorem runTr_alt {fin : St → St} {s s' : St} {sub : Tr} {j : Nat} : ∀ {tr : Tr}, runTr P call an N ops fin tr s = some s' → altOf tr j = some sub → ∃ s1, stepAt P call an N ops j s = some s1 ∧ runTr P call an N ops fin sub s1 = some s'
  | .leaf, _, h => by cases h
  | .alt i sb r, hr, h => by
    unfold runTr at hr
    unfold altOf at h
    split at hr
    · cases hr
    · rename_i s1 h1
      split at hr
      · cases hr
      · rename_i a h2
        by_cases hl : r.isLeaf = true
        · rw [if_pos hl] at hr
          cases hr
          split at h
          · rename_i e
            cases h
            subst e
            exact ⟨s1, h1, h2⟩
          · cases r with
            | leaf => cases h
            | alt _ _ _ => cases hl
        · rw [if_neg hl] at hr
          split at hr
          · cases hr
          · rename_i b h3
            split at hr
            · rename_i e
              cases hr
              subst e
              split at h
              · rename_i e
                cases h
                subst e
                exact ⟨s1, h1, h2⟩
              · exact runTr_alt h3 h
            · cases hr

theorem ready_all {listed : Array Bool} (h : ∀ i, i < ops.size → listed.getD i false = true) (hsz : listed.size = ops.size) : Region.ready .any ops listed = [] := by
  rw [List.eq_nil_iff_forall_not_mem]
  intro i hi
  rw [mem_ready] at hi
  obtain ⟨h1, o, ho, _⟩ := hi
  have hlt := (Array.getElem?_eq_some_iff.1 ho).1
  have h2 := h i hlt
  have hil : i < listed.size := by omega
  simp [hil] at h1 h2
  rw [h1] at h2
  cases h2
theorem all_of_count {listed : Array Bool} (h : (List.range ops.size).countP (fun i => !listed.getD i false) = 0) : ∀ i, i < ops.size → listed.getD i false = true := by
  intro i hi
  rw [List.countP_eq_zero] at h
  have := h i (by simpa using hi)
  simpa using this
theorem count_set {listed : Array Bool} {i fuel : Nat} (hlt : i < ops.size) (hsz : listed.size = ops.size) (hli : listed.getD i false = false) (hcount : (List.range ops.size).countP (fun i => !listed.getD i false) ≤ fuel + 1) :
    (List.range ops.size).countP (fun k => !(listed.setIfInBounds i true).getD k false) ≤ fuel := by
  have hil : i < listed.size := by omega
  have := countP_lt (fun k => !listed.getD k false) (fun k => !(listed.setIfInBounds i true).getD k false) (List.range ops.size)
    (fun k _ hq => by
      cases hlk : listed.getD k false with
      | false => simp
      | true =>
        simp only [getD_set_true hlk] at hq
        cases hq)
    ⟨i, by simpa using hlt, by simp only [hli]; rfl, by simp [hil]⟩
  omega

/-- From a moment on, all orders that may be drawn have been tried. -/
theorem tr_any (hcall : CTok P call) (hG : w0.G = call.g) {fin : St → St} (hfin : ∀ s a w, SRel N B w0 s a w → SRel N B w0 (fin s) a w) {s' : St} {Q : Exit → Act → World → Prop} (hk : ∀ a' w', SRel N B w0 s' a' w' → Q .normal a' w') :
    ∀ (fuel : Nat) (tr : Tr) (listed : Array Bool) (a : Act) (w : World) (s : St), okTr ops true tr listed = true → listed.size = ops.size → (List.range ops.size).countP (fun i => !listed.getD i false) ≤ fuel → SRel N B w0 s a w →
      runTr P call an N ops fin tr s = some s' → wpAny P .any ops Q fuel listed a w := by
  have leaf : ∀ (tr : Tr) (listed : Array Bool) (a : Act) (w : World) (s : St), okTr ops true tr listed = true → Region.ready .any ops listed = [] → SRel N B w0 s a w → runTr P call an N ops fin tr s = some s' → Q .normal a w := by
    intro tr listed a w s hok hr hrel hrun
    cases tr with
    | leaf =>
      simp only [runTr, Option.some.injEq] at hrun
      exact hk _ _ (hrun ▸ hfin _ _ _ hrel)
    | alt i sub rest =>
      simp only [okTr, hr] at hok
      simp at hok
  intro fuel
  induction fuel with
  | zero =>
    intro tr listed a w s hok hsz hcount hrel hrun
    have hr := ready_all (all_of_count (by omega)) hsz
    exact ⟨hr, leaf tr listed a w s hok hr hrel hrun⟩
  | succ fuel ih =>
    intro tr listed a w s hok hsz hcount hrel hrun
    refine ⟨fun hr => leaf tr listed a w s hok hr hrel hrun, fun i hi => ?_⟩
    have hi' := hi
    rw [mem_ready] at hi
    obtain ⟨h1, o, ho, hall⟩ := hi
    have hlt := (Array.getElem?_eq_some_iff.1 ho).1
    have hil : i < listed.size := by omega
    have hli : listed.getD i false = false := by
      simp [hil] at h1 ⊢
      exact h1
    obtain ⟨sub, hsub⟩ : ∃ sub, altOf tr i = some sub := by
      cases tr with
      | leaf =>
        simp [okTr] at hok
        rw [hok] at hi'
        cases hi'
      | alt j sb rest =>
        simp only [okTr, Bool.and_eq_true, Bool.not_true, Bool.false_or] at hok
        have := List.all_eq_true.1 hok.1.1 i hi'
        exact Option.isSome_iff_exists.1 this
    obtain ⟨s1, hs1, hrun1⟩ := runTr_alt hrun hsub
    simp only [stepAt, ho] at hs1
    exact stepG_sound hcall hG ho hrel hs1 (fun a' w' h' => ih sub _ a' w' s1 (okTr_alt hok hsub) (by simpa using hsz) (count_set hlt hsz hli hcount) h' hrun1)

theorem free_states {s' : St} : ∀ (l : List Oper) (k : Nat) (s : St), runFree P call N ops m k l s = some s' → (∀ j, j < l.length → l[j]? = ops[k + j]?) →
    ∃ F : Nat → St, F k = s ∧ F (k + l.length) = s' ∧ ∀ i, k ≤ i → i < k + l.length → ∃ o, ops[i]? = some o ∧ dstep P call N ops m i (F i) o = some (F (i + 1))
  | [], k, s, h, _ => by injection h with h; exact ⟨fun _ => s, rfl, h, fun i h1 h2 => by simp at h2; omega⟩
  | o :: l, k, s, h, hl => by
    unfold runFree at h
    split at h
    · rename_i s1 h1
      obtain ⟨F, e1, e2, e3⟩ := free_states l (k + 1) s1 h (fun j hj => by have := hl (j + 1) (by simp; omega); simpa [Nat.add_assoc, Nat.add_comm 1 j] using this)
      refine ⟨fun i => if i = k then s else F i, by simp, ?_, fun i hi1 hi2 => ?_⟩
      · show (if k + (o :: l).length = k then s else F (k + (o :: l).length)) = s'
        rw [List.length_cons, if_neg (by omega), ← e2]
        congr 1
        omega
      · by_cases hik : i = k
        · subst hik
          have h0 : ops[i]? = some o := by have := hl 0 (by simp); simpa using this.symm
          refine ⟨o, h0, ?_⟩
          simp only [if_true]
          rw [if_neg (by omega), e1]
          exact h1
        · obtain ⟨o', ho', hs⟩ := e3 i (by omega) (by simp at hi2; omega)
          refine ⟨o', ho', ?_⟩
          simp only
          rw [if_neg hik, if_neg (by omega)]
          exact hs
    · cases h

theorem draw2_any (hF : Free P call N ops F m) (hcall : CTok P call) (hG : w0.G = call.g)
    (htail : ∀ (i : Nat) (o : Oper), m ≤ i → ops[i]? = some o → ∀ listed : Array Bool, Closed ops listed → (∀ j ∈ aft o, listed.getD j false = true) → ∀ j, j < m → listed.getD j false = true)
    {fin : St → St} (hfin : ∀ s a w, SRel N B w0 s a w → SRel N B w0 (fin s) a w) {tr : Tr} (htr : okTr ops true tr ((List.range ops.size).map (fun i => decide (i < m))).toArray = true) {s' : St} (hrun : runTr P call an N ops fin tr (F m) = some s')
    {Q : Exit → Act → World → Prop} (hk : ∀ a' w', SRel N B w0 s' a' w' → Q .normal a' w') :
    ∀ (fuel : Nat) (listed : Array Bool) (a : Act) (w : World), listed.size = ops.size → Closed ops listed → (List.range ops.size).countP (fun i => !listed.getD i false) ≤ fuel → InvA B N w0 ops F m listed a w → wpAny P .any ops Q fuel listed a w := by
  intro fuel
  induction fuel with
  | zero =>
    intro listed a w hsz hc hcount hinv
    have hall := all_of_count (ops := ops) (listed := listed) (by omega)
    obtain ⟨⟨ι, hrel⟩, hno⟩ := hinv
    have hle := hF.le
    have hm : m = ops.size := by
      rcases Nat.lt_or_ge m ops.size with h | h
      · have := hno m (Nat.le_refl m)
        rw [hall m h] at this
        cases this
      · omega
    obtain ⟨e1, e2⟩ := hF.all (listed := listed) (fun i hi => hall i (by omega))
    rw [e1, e2] at hrel
    have el : listed = ((List.range ops.size).map (fun i => decide (i < m))).toArray := by
      apply Array.ext
      · simp [hsz]
      · intro i h1 h2
        have := hall i (by omega)
        simp [h1] at this
        simp [this]
        omega
    exact tr_any hcall hG hfin hk 0 tr listed a w (F m) (el ▸ htr) hsz hcount ⟨ι, hrel⟩ hrun
  | succ fuel ih =>
    intro listed a w hsz hc hcount hinv
    obtain ⟨hrel, hno⟩ := hinv
    by_cases hpre : ∀ j, j < m → listed.getD j false = true
    · obtain ⟨ι, hrel⟩ := hrel
      obtain ⟨e1, e2⟩ := hF.all hpre
      rw [e1, e2] at hrel
      have el : listed = ((List.range ops.size).map (fun i => decide (i < m))).toArray := by
        apply Array.ext
        · simp [hsz]
        · intro i h1 h2
          by_cases him : i < m
          · have := hpre i him
            simp [h1] at this
            simp [this, him]
          · have := hno i (by omega)
            simp [h1] at this
            simp [this]
            omega
      exact tr_any hcall hG hfin hk (fuel + 1) tr listed a w (F m) (el ▸ htr) hsz hcount ⟨ι, hrel⟩ hrun
    · refine ⟨fun hr => ?_, fun i hi => ?_⟩
      · exfalso
        apply hpre
        have key : ∀ i, i < ops.size → listed.getD i false = true := by
          intro i
          induction i using Nat.strongRecOn with
          | _ i ihi =>
            intro hi
            cases hli : listed.getD i false with
            | true => rfl
            | false =>
              exfalso
              have hmem : i ∈ Region.ready .any ops listed := by
                rw [mem_ready]
                have ho : ops[i]? = some ops[i] := Array.getElem?_eq_getElem hi
                refine ⟨?_, _, ho, fun e he hb => ?_⟩
                · have hil : i < listed.size := by omega
                  simp [hil] at hli ⊢
                  exact hli
                · have hj : e.on ∈ aft ops[i] := mem_aft.2 ⟨e, he, hb, rfl⟩
                  have hlt := hF.back i _ ho _ hj
                  exact ihi _ hlt (by omega)
              rw [hr] at hmem
              cases hmem
        exact fun j hj => key j (by have := hF.le; omega)
      · rw [mem_ready] at hi
        obtain ⟨h1, o, ho, hall⟩ := hi
        have hlt := (Array.getElem?_eq_some_iff.1 ho).1
        have hil : i < listed.size := by omega
        have hli : listed.getD i false = false := by
          simp [hil] at h1 ⊢
          exact h1
        have haft : ∀ j ∈ aft o, listed.getD j false = true := by
          intro j hj
          obtain ⟨e, he, hb, rfl⟩ := mem_aft.1 hj
          exact hall e he hb
        have him : i < m := by
          rcases Nat.lt_or_ge i m with h | h
          · exact h
          · exact absurd (htail i o h ho listed hc haft) hpre
        have hc' : Closed ops (listed.setIfInBounds i true) := by
          intro k ok hok hlk j hj
          by_cases hik : i = k
          · subst hik
            rw [ho] at hok
            cases hok
            exact getD_set_true (haft j hj)
          · rw [getD_set_ne false hik] at hlk
            exact getD_set_true (hc k ok hok hlk j hj)
        refine hF.stepAny hcall hG hsz hc him ho hli haft hrel (fun a' w' h' => ih _ a' w' (by simpa using hsz) hc' (count_set hlt hsz hli hcount) ⟨h', fun q hq => ?_⟩)
        rw [getD_set_ne false (by omega)]
        exact hno q hq

theorem draw2_sound (hmix : P.follows .mixedOrders = true) {m : Nat} {tr : Tr} (hok : okDraw2 ops m tr = true) (hcall : CTok P call) (hG : w0.G = call.g) {fin : St → St} (hfin : ∀ s a w, SRel N B w0 s a w → SRel N B w0 (fin s) a w) {id : Nat} {Q : Exit → Act → World → Prop} {s s1 s' : St} {a : Act} {w : World} (h : SRel N B w0 s a w)
    (hs : runFree P call N ops m 0 (ops.toList.take m) s = some s1) (hrun : runTr P call an N ops fin tr s1 = some s') (hk : ∀ a' w', SRel N B w0 s' a' w' → Q .normal a' w') : (Code.region id ops true).wp P Q a w := by
  simp only [okDraw2, Bool.and_eq_true, decide_eq_true_eq] at hok
  obtain ⟨⟨hm, hok⟩, htr⟩ := hok
  obtain ⟨F, hF0, hFn, hst⟩ := free_states (ops.toList.take m) 0 s hs (fun j hj => by
    simp only [List.length_take, Array.length_toList] at hj
    rw [List.getElem?_take, if_pos (by omega)]
    simp)
  have hlen : (ops.toList.take m).length = m := by simp; omega
  rw [hlen, Nat.zero_add] at hFn
  rw [hlen] at hst
  simp only [Nat.zero_add] at hst
  have hcheck : ∀ (i : Nat) (o : Oper), ops[i]? = some o → ((∀ j ∈ aft o, j < i) ∧ (i < m → ∀ j oj, j < m → i ≠ j → ops[j]? = some oj → okPair ops i j o oj = true) ∧ (m ≤ i → ∀ j, j < m → ((masks ops.toList []).getD i 0).testBit j = true)) := by
    intro i o ho
    have hlt := (Array.getElem?_eq_some_iff.1 ho).1
    have := List.all_eq_true.1 hok i (by simpa using hlt)
    simp only [ho, Bool.and_eq_true] at this
    obtain ⟨h1, h2⟩ := this
    refine ⟨fun j hj => by simpa using List.all_eq_true.1 h1 j hj, fun him j oj hj hij hoj => ?_, fun him j hj => ?_⟩
    · rw [if_pos him] at h2
      have := List.all_eq_true.1 h2 j (by simpa using hj)
      simp only [hoj, Bool.or_eq_true, beq_iff_eq] at this
      rcases this with h | h
      · exact absurd h.symm hij
      · exact h
    · rw [if_neg (by omega)] at h2
      exact List.all_eq_true.1 h2 j (by simpa using hj)
  have hFree : Free P call N ops F m := {
    le := hm
    step := fun i hi => hst i (Nat.zero_le _) hi
    apart := fun i j o oj hi hj hij ho hoj => (hcheck i o ho).2.1 hi j oj hj hij hoj
    back := fun i o ho => (hcheck i o ho).1 }
  apply wp_region_any hmix
  have nothing : ∀ i, (Array.replicate ops.size false).getD i false = false := by
    intro i
    by_cases hi : i < ops.size <;> simp [hi]
  refine draw2_any (an := an) hFree hcall hG (fun i o hi ho listed hc hr j hj => up_masks hc ops.toList [] (fun j => by simp) (fun k _ j hj => by simp at hj) (fun k o hk => by simp at hk) i o ho hr j ((hcheck i o ho).2.2 hi j hj)) hfin htr (by rw [hFn]; exact hrun) hk ops.size _ a _ (by simp) ?_ ?_ ⟨?_, fun i _ => nothing i⟩
  · intro i o ho hl
    rw [nothing] at hl
    cases hl
  · exact Nat.le_trans List.countP_le_length (by simp)
  · obtain ⟨ι, hrel⟩ := h
    obtain ⟨e1, e2⟩ := rhoS_none (ops := ops) (F := F) (m := m) (listed := Array.replicate ops.size false) nothing
    rw [e1, e2, hF0]
    refine ⟨ι, hrel.ext ?_⟩
    exact ⟨rfl, rfl, rfl, Nat.le_refl _, fun _ _ => rfl⟩
end
end Go.Abs
/-
  The abstract interpreter over a function's code, and that it is sound: a function's contract out of one run of the interpreter.
-/
namespace Go.Abs
set_option linter.unusedSimpArgs false
set_option linter.unusedVariables false
open Go Go.RowKit

inductive E where
  | norm
  | ex (id : Nat)
  | ret
def E.toExit : E → Exit
  | .norm => .normal
  | .ex id => .exit id
  | .ret => .ret

def clearT (lv : List Nat) : List (Nat × D) → List (Nat × D)
  | [] => []
  | (k, d) :: r => (k, if lv.contains k = true then d else .any) :: clearT lv r
/-- Whether a slot names an object. -/
def usedC (k : Nat) : List D → Bool
  | [] => false
  | d :: r => refsTo k d || usedC k r
def usedA (k : Nat) : D → Bool
  | .agg cs => usedC k cs
  | d => refsTo k d
def usedL (k : Nat) : List D → Bool
  | [] => false
  | d :: r => usedA k d || usedL k r
def usedD (k : Nat) : D → Bool
  | .tup ds => usedL k ds
  | d => usedA k d
def usedH (k : Nat) : List (Nat × O) → Bool
  | [] => false
  | (_, .box _ cs) :: r => usedC k cs || usedH k r
  | _ :: r => usedH k r
def usedT (k : Nat) : List (Nat × D) → Bool
  | [] => false
  | (_, d) :: r => usedD k d || usedT k r
def dropIds (lv : List Nat) (s : St) : List (Nat × O) → St
  | [] => s
  | (k, _) :: r => if (1000 ≤ k ∧ k < 10000) ∨ usedT k s.t = true ∨ usedH k s.h = true then dropIds lv s r else dropIds lv (s.drop k) r
/-- Only the slots and objects of a list are kept. -/
def clearTo (lv : List Nat) (s : St) : St := dropIds lv ⟨clearT lv s.t, s.h⟩ s.h
def headOf (lv : Option (List Nat)) (s : St) : St := match lv with
  | none => s
  | some l => clearTo l s

def endR (an : Ann) (s : St) : List Oper → St
  | [] => s
  | o :: r => match o.dst with
    | some t => if an.keep.contains t = true ∨ an.cond.contains t = true then endR an s r else
        match getH s.h t with
        | none => endR an ⟨delT s.t t, s.h⟩ r
        | some _ => if usedT t (delT s.t t) = true ∨ usedH t s.h = true then endR an ⟨delT s.t t, s.h⟩ r else endR an ⟨delT (s.dropB t).t t, (s.dropB t).h⟩ r
    | none => endR an s r

def rid : Code → Option Nat
  | .region id _ _ => some id
  | .seq a b => match rid a with
    | some i => some i
    | none => rid b
  | .cond _ a b => match rid a with
    | some i => some i
    | none => rid b
  | .block _ a => rid a
  | .scope a => rid a
  | .loop a => rid a
  | _ => none
def liveOf (an : Ann) (c : Code) : Option (List Nat) := match rid c with
  | some i => an.loops.lookup i
  | none => none

def loopN (f : St → Option (E × St)) (lv : Option (List Nat)) : Nat → St → Option (E × St)
  | 0, _ => none
  | n + 1, s => match f s with
    | some (.norm, s') => loopN f lv n (headOf lv s')
    | r => r

/-- The rounds that a loop may take: more than any machine counts. -/
@[irreducible] def bigL : Nat := 2 ^ 70
theorem bigL_ge : 2 ^ 64 ≤ bigL := by unfold bigL; decide

def drawN (an : Ann) (id : Nat) : Nat := match an.draws.lookup id with
  | some m => m
  | none => 0
def finE (an : Ann) (l : List Oper) (s : St) : St := endR an s l
def tailN (an : Ann) (draw : Bool) (id : Nat) : Option Tr := if draw = true then an.tails.lookup id else none
noncomputable def runR (P : Program) (call : CT) (an : Ann) (N id : Nat) (ops : Array Oper) (draw : Bool) (s : St) : Option St :=
  match tailN an draw id with
  | some tr => match runFree P call N ops (drawN an id) 0 (ops.toList.take (drawN an id)) s with
    | some s1 => runTr P call an N ops (finE an ops.toList) tr s1
    | none => none
  | none => match (if draw = true then runDraw P call an N ops (drawN an id) 0 ops.toList s else runSeq P call an N ops ops.toList s) with
    | some s' => some (endR an s' ops.toList)
    | none => none

noncomputable def runC (P : Program) (call : CT) (an : Ann) (N : Nat) : Code → St → Option (E × St)
  | .skip, s => some (.norm, s)
  | .region id ops draw, s => match runR P call an N id ops draw s with
    | some s' => some (.norm, s')
    | none => none
  | .seq x y, s => match runC P call an N x s with
    | some (.norm, s') => runC P call an N y s'
    | r => r
  | .cond (.tmp t) x y, s => match getT s.t t with
    | .x (.bool b) => if b = true then runC P call an N x (if an.cond.contains t = true then ⟨delT s.t t, s.h⟩ else s) else runC P call an N y (if an.cond.contains t = true then ⟨delT s.t t, s.h⟩ else s)
    | _ => none
  | .block id c, s => match runC P call an N c s with
    | some (.ex i, s') => if i = id then some (.norm, s') else some (.ex i, s')
    | r => r
  | .loop c, s => loopN (runC P call an N c) (liveOf an c) bigL (headOf (liveOf an c) s)
  | .exit id, s => some (.ex id, headOf (an.exits.lookup id) s)
  | .ret, s => some (.ret, headOf an.rets s)
  | .scope c, s => runC P call an N c s
  | .label _, s => some (.norm, s)
  | _, _ => none

/-- What is asked of the code's regions, once and closed. -/
def okCode (an : Ann) : Code → Bool
  | .region id ops draw => !draw || (match an.tails.lookup id with
    | some tr => okDraw2 ops (drawN an id) tr
    | none => okDraw ops (drawN an id))
  | .seq a b => okCode an a && okCode an b
  | .cond _ a b => okCode an a && okCode an b
  | .block _ a => okCode an a
  | .scope a => okCode an a
  | .loop a => okCode an a
  | _ => true

section
variable {P : Program} {B : Nat} {N : Nat} {w0 : Bs} {call : CT} {an : Ann}

theorem clearT_get (lv : List Nat) (l : List (Nat × D)) (t : Nat) : getT (clearT lv l) t = getT l t ∨ getT (clearT lv l) t = .any := by
  induction l with
  | nil => exact .inl rfl
  | cons p r ih =>
    obtain ⟨k, d⟩ := p
    simp only [clearT, getT]
    split
    · split
      · exact .inl rfl
      · exact .inr rfl
    · exact ih
theorem dropIds_sound {a : Act} {w : World} (lv : List Nat) : ∀ (l : List (Nat × O)) (s : St), SRel N B w0 s a w → SRel N B w0 (dropIds lv s l) a w
  | [], _, h => h
  | (k, o) :: r, s, h => by
    unfold dropIds
    split
    · exact dropIds_sound lv r s h
    · exact dropIds_sound lv r _ (h.drop k)
theorem headOf_sound {a : Act} {w : World} (lv : Option (List Nat)) {s : St} (h : SRel N B w0 s a w) : SRel N B w0 (headOf lv s) a w := by
  unfold headOf
  split
  · exact h
  · rename_i l
    refine dropIds_sound l s.h _ ?_
    obtain ⟨ι, hrel⟩ := h
    exact ⟨ι, hrel.weak (fun t => clearT_get l s.t t)⟩
theorem endR_sound {a : Act} {w : World} : ∀ (ops : List Oper) (s : St), SRel N B w0 s a w → SRel N B w0 (endR an s ops) a w
  | [], _, h => h
  | o :: r, s, h => by
    unfold endR
    split
    · rename_i t _
      split
      · exact endR_sound r s h
      · split
        · exact endR_sound r _ (h.del t)
        · split
          · exact endR_sound r _ (h.del t)
          · exact endR_sound r _ ((h.dropB t).del t)
    · exact endR_sound r s h

def PostC (N B : Nat) (w0 : Bs) (e : E) (s : St) : Exit → Act → World → Prop := fun x a w => x = e.toExit ∧ SRel N B w0 s a w

theorem loopN_sound {c : Code} {f : St → Option (E × St)} {lv : Option (List Nat)} {e : E} {s' : St} (hf : ∀ s e s' a w, f s = some (e, s') → SRel N B w0 s a w → c.wp P (PostC N B w0 e s') a w) (n : Nat) {s : St} {a : Act} {w : World}
    (h : loopN f lv n s = some (e, s')) (hrel : SRel N B w0 s a w) : (Code.loop c).wp P (PostC N B w0 e s') a w := by
  refine wp_loop_ghost (fun n a w => ∃ s, loopN f lv n s = some (e, s') ∧ SRel N B w0 s a w) n ⟨s, h, hrel⟩ ?_
  rintro n a w ⟨s, h, hrel⟩
  cases n with
  | zero => cases h
  | succ n =>
    unfold loopN at h
    split at h
    · rename_i s1 h1
      refine wp_mono (hf _ _ _ a w h1 hrel) ?_
      rintro x a' w' ⟨rfl, hr⟩
      exact ⟨n, by omega, _, h, headOf_sound lv hr⟩
    · rename_i hne
      rw [h] at hne
      refine wp_mono (hf _ _ _ a w h hrel) ?_
      rintro x a' w' ⟨rfl, hr⟩
      cases e with
      | norm => exact absurd rfl (hne s')
      | ex id => exact ⟨rfl, hr⟩
      | ret => exact ⟨rfl, hr⟩

theorem runC_sound (hmix : P.follows .mixedOrders = true) (hcall : CTok P call) (hG : w0.G = call.g) : ∀ (c : Code), okCode an c = true → ∀ (s : St) (e : E) (s' : St) (a : Act) (w : World), runC P call an N c s = some (e, s') → SRel N B w0 s a w →
    c.wp P (PostC N B w0 e s') a w := by
  intro c
  induction c with
  | skip =>
    intro _ s e s' a w h hrel
    cases h
    exact wp_skip ⟨rfl, hrel⟩
  | region id ops draw =>
    intro hok s e s' a w h hrel
    unfold runC at h
    split at h
    · rename_i s1 h1
      cases h
      unfold runR at h1
      split at h1
      · rename_i tr htr
        split at h1
        · rename_i s2 h2
          unfold tailN at htr
          cases draw with
          | true =>
            simp only [if_true] at htr
            refine draw2_sound hmix (tr := tr) (by simpa [okCode, htr] using hok) hcall hG (fun s a w hr => endR_sound _ _ hr) hrel h2 h1 (fun a' w' hr => ⟨rfl, hr⟩)
          | false => simp at htr
        · cases h1
      · rename_i htr
        split at h1
        · rename_i s2 h2
          cases h1
          cases draw with
          | true =>
            unfold tailN at htr
            simp only [if_true] at htr h2
            exact draw_sound hmix (by simpa [okCode, htr] using hok) hcall hG hrel h2 (fun a' w' hr => ⟨rfl, endR_sound _ _ hr⟩)
          | false =>
            simp only [Bool.false_eq_true, if_false] at h2
            exact region_sound hcall hG hrel h2 (fun a' w' hr => ⟨rfl, endR_sound _ _ hr⟩)
        · cases h1
    · cases h
  | seq x y ihx ihy =>
    intro hok s e s' a w h hrel
    simp only [okCode, Bool.and_eq_true] at hok
    unfold runC at h
    apply wp_seq
    split at h
    · rename_i s1 h1
      refine wp_mono (ihx hok.1 s _ _ a w h1 hrel) ?_
      rintro ex a' w' ⟨rfl, hr⟩
      exact ihy hok.2 s1 e s' a' w' h hr
    · rename_i hne
      rw [h] at hne
      refine wp_mono (ihx hok.1 s _ _ a w h hrel) ?_
      rintro ex a' w' ⟨rfl, hr⟩
      cases e with
      | norm => exact absurd rfl (hne s')
      | ex id => exact ⟨rfl, hr⟩
      | ret => exact ⟨rfl, hr⟩
  | cond c x y ihx ihy =>
    intro hok s e s' a w h hrel
    simp only [okCode, Bool.and_eq_true] at hok
    cases c with
    | tmp t =>
      simp only [runC] at h
      split at h
      · rename_i b hb
        have hc : a.eval (.tmp t) = .bool b := by
          obtain ⟨ι, hr⟩ := hrel
          have := hr.tmp t
          rw [hb] at this
          exact this.x_inv
        have hrel' : SRel N B w0 (if an.cond.contains t = true then ⟨delT s.t t, s.h⟩ else s) a w := by
          split
          · exact hrel.del t
          · exact hrel
        refine wp_cond hc ?_
        cases b
        · simp only [Bool.false_eq_true, if_false] at h ⊢
          exact ihy hok.2 _ e s' a w h hrel'
        · simp only [if_true] at h ⊢
          exact ihx hok.1 _ e s' a w h hrel'
      · cases h
    | const v => simp [runC] at h
    | global g => simp [runC] at h
    | func f => simp [runC] at h
  | block id c ih =>
    intro hok s e s' a w h hrel
    unfold runC at h
    apply wp_block
    split at h
    · rename_i i s1 h1
      refine wp_mono (ih hok s _ _ a w h1 hrel) ?_
      rintro ex a' w' ⟨rfl, hr⟩
      split at h
      · rename_i hi
        cases h
        simp only [E.toExit, Exit.inBlock, hi, if_true]
        exact ⟨rfl, hr⟩
      · rename_i hi
        cases h
        simp only [E.toExit, Exit.inBlock, hi, if_false]
        exact ⟨rfl, hr⟩
    · rename_i hne
      rw [h] at hne
      refine wp_mono (ih hok s _ _ a w h hrel) ?_
      rintro ex a' w' ⟨rfl, hr⟩
      cases e with
      | norm => exact ⟨rfl, hr⟩
      | ex id => exact absurd rfl (hne id s')
      | ret => exact ⟨rfl, hr⟩
  | loop c ih =>
    intro hok s e s' a w h hrel
    unfold runC at h
    exact loopN_sound (fun s e s' a w h hr => ih hok s e s' a w h hr) bigL h (headOf_sound _ hrel)
  | exit id =>
    intro _ s e s' a w h hrel
    cases h
    exact wp_exit ⟨rfl, headOf_sound _ hrel⟩
  | ret =>
    intro _ s e s' a w h hrel
    cases h
    exact wp_ret ⟨rfl, headOf_sound _ hrel⟩
  | rangeFunc f ps asg b _ _ => intro _ s e s' a w h hrel; simp [runC] at h
  | scope b ih =>
    intro hok s e s' a w h hrel
    unfold runC at h
    apply wp_scope_straight
    refine wp_mono (ih hok s e s' a w h hrel) ?_
    rintro x a' w' ⟨rfl, hr⟩
    cases e with
    | norm => exact ⟨rfl, hr⟩
    | ex id => exact ⟨rfl, hr⟩
    | ret => exact ⟨rfl, hr⟩
  | label l =>
    intro _ s e s' a w h hrel
    cases h
    exact wp_label ⟨rfl, hrel⟩
  | goto l => intro _ s e s' a w h hrel; simp [runC] at h
  | refuse y => intro _ s e s' a w h hrel; simp [runC] at h

/-! ### Functions -/
def exp1 (η : Nat → Option O) : D → Option D
  | .row id => match η id with
    | some (.row _ _ fl es) => some (.own fl es)
    | _ => none
  | .emp => some (.own true [])
  | .own fl es => some (.own fl es)
  | .sl es => some (.sl es)
  | .x v => some (.x v)
  | .elt cs => some (.elt cs)
  | .any => some .any
  | _ => none
def expC (η : Nat → Option O) : List D → Option (List D)
  | [] => some []
  | d :: r => match exp1 η d, expC η r with
    | some d', some r' => some (d' :: r')
    | _, _ => none
def expD (η : Nat → Option O) : D → Option D
  | .agg cs => match expC η cs with
    | some cs' => some (.agg cs')
    | none => none
  | d => exp1 η d
def resV (P : Program) (s : St) : ResultVar → Option D
  | .tmp t => expD (getH s.h) (getT s.t t)
  | .cell p ty => match loadD P (getH s.h) ty (getT s.t p) with
    | some d => expD (getH s.h) d
    | none => none
def resVs (P : Program) (s : St) : List ResultVar → Option (List D)
  | [] => some []
  | v :: r => match resV P s v, resVs P s r with
    | some d, some ds => some (d :: ds)
    | _, _ => none
def resultD (P : Program) (s : St) (vs : List ResultVar) : Option D := match resVs P s vs with
  | some [d] => some d
  | some ds => some (.tup ds)
  | none => none

def argsT : Nat → List D → List (Nat × D)
  | _, [] => []
  | k, d :: r => (k, d) :: argsT (k + 1) r
def keepT (n : Nat) : List Nat → List (Nat × D)
  | [] => []
  | k :: r => if k < n then keepT n r else (k, .any) :: keepT n r
def init (an : Ann) (ds : List D) : St := ⟨argsT 0 ds ++ keepT ds.length an.keep, []⟩

/-- A function's body, run abstractly. -/
noncomputable def runF (P : Program) (call : CT) (an : Ann) (N : Nat) (body : Code) (results : List ResultVar) (ds : List D) : Option D :=
  if ds.length ≤ N then
    match runC P call an N body (init an ds) with
    | some (.norm, s) => resultD P s results
    | some (.ret, s) => resultD P s results
    | _ => none
  else none

end
end Go.Abs
/-
  A function's contract out of one abstract run of its body.
-/
namespace Go.Abs
set_option linter.unusedSimpArgs false
set_option linter.unusedVariables false
open Go Go.RowKit

section
variable {P : Program} {B : Nat} {N : Nat} {w0 : Bs} {w : World} {call : CT} {an : Ann} {ι : Inj} {ρ : Nat → D} {η : Nat → Option O} {a : Act}

theorem exp_imm {v : Value} {d : D} (h : RepI w (okB ι) (frB B ι) v d) : RepI w ι.K (wrB B ι) v d :=
  h.mono (Nat.le_refl _) (fun _ _ ho => ⟨ho.1, rfl⟩) (fun _ _ ho => ⟨ho.1, rfl⟩)
theorem exp1_sound (hrel : Rel N B w0 ι ρ η a w) {v : Value} {d d' : D} (h : Rep1 w B ι v d) (hd : exp1 η d = some d') : RepI w ι.K (wrB B ι) v d' := by
  unfold exp1 at hd
  split at hd
  · rename_i id
    split at hd
    · rename_i e sz fl es hη
      cases hd
      obtain ⟨hι, _⟩ := row_inv (.inl h)
      have := hrel.freeze_rep hη hι
      exact this.mono (Nat.le_refl _) (fun _ _ ho => ⟨ho.1, rfl⟩) (fun _ _ ho => ⟨ho.1, rfl⟩)
    · cases hd
  · cases hd
    have h := h.resolve_right (fun h => h.elim)
    cases h
    exact .own0 _ _ _
  · cases hd; exact exp_imm (h.resolve_right (fun h => h.elim))
  · cases hd; exact exp_imm (h.resolve_right (fun h => h.elim))
  · cases hd; exact exp_imm (h.resolve_right (fun h => h.elim))
  · cases hd; exact exp_imm (h.resolve_right (fun h => h.elim))
  · cases hd; exact .any _
  · cases hd
theorem expC_sound (hrel : Rel N B w0 ι ρ η a w) : ∀ (ds ds' : List D), expC η ds = some ds' → ds'.length = ds.length ∧ ∀ (i : Nat) (d d' : D) (c : Value), ds[i]? = some d → ds'[i]? = some d' → Rep1 w B ι c d → RepI w ι.K (wrB B ι) c d'
  | [], ds', h => by cases h; exact ⟨rfl, fun i d d' c h => by simp at h⟩
  | d :: r, ds', h => by
    unfold expC at h
    split at h
    · rename_i x y hx hy
      cases h
      obtain ⟨h1, h2⟩ := expC_sound hrel r y hy
      refine ⟨by simp [h1], fun i e e' c hi hi' hc => ?_⟩
      cases i with
      | zero => simp at hi hi'; subst hi hi'; exact exp1_sound hrel hc hx
      | succ i => exact h2 i e e' c (by simpa using hi) (by simpa using hi') hc
    · cases h
theorem expD_sound (hrel : Rel N B w0 ι ρ η a w) {v : Value} {d d' : D} (h : Rep w B ι v d) (hd : expD η d = some d') : RepI w ι.K (wrB B ι) v d' := by
  by_cases ha : ∃ cs, d = .agg cs
  · obtain ⟨cs, rfl⟩ := ha
    unfold expD at hd
    simp only at hd
    split at hd
    · rename_i cs' hc
      cases hd
      obtain ⟨vs, rfl, hl, hcs⟩ := h.agg_inv
      obtain ⟨h1, h2⟩ := expC_sound hrel cs cs' hc
      refine .agg (by omega) (fun i c e hi he => ?_)
      have hlt := (List.getElem?_eq_some_iff.1 he).1
      have hcs' : cs[i]? = some (cs[i]'(by omega)) := List.getElem?_eq_getElem (by omega)
      exact h2 i _ e c hcs' he (hcs i c _ hi hcs')
    · cases hd
  · have e1 : expD η d = exp1 η d := by cases d <;> first | rfl | exact absurd ⟨_, rfl⟩ ha
    rw [e1] at hd
    exact exp1_sound hrel (h.one_inv (fun ds e => ha ⟨ds, e⟩) (by rintro ds rfl; cases hd)) hd

theorem load_ptr {t : TypeId} {x d : D} {v : Value} (h : loadD P η t x = some d) (hx : Rep w B ι v x) : ∃ A, v = .pointer (some A) := by
  unfold loadD at h
  split at h
  · obtain ⟨b, _, rfl⟩ := hx.ptr_inv; exact ⟨_, rfl⟩
  · obtain ⟨A, rfl, _⟩ := elt_cells hx; exact ⟨_, rfl⟩
  · obtain ⟨b, n, c, _, rfl⟩ := rel_inv hx; exact ⟨_, rfl⟩
  · cases h

def resultOf (tmps : Array Value) : ResultVar → Sem Value
  | .tmp t => pure (tmps.getD t undef)
  | .cell a t => do loadVar t (← asAddr (tmps.getD a undef))

theorem resV_sound {s : St} (hrel : Rel N B w0 ι (getT s.t) (getH s.h) a w) {rv : ResultVar} {d : D} (h : resV P s rv = some d) : ∃ v, (resultOf a.tmps rv).run P w = .ok v w ∧ RepI w ι.K (wrB B ι) v d := by
  cases rv with
  | tmp t => exact ⟨_, by simp [resultOf], expD_sound hrel (hrel.tmp t) h⟩
  | cell p ty =>
    simp only [resV] at h
    split at h
    · rename_i d0 hd0
      obtain ⟨A, hA⟩ := load_ptr hd0 (hrel.tmp p)
      obtain ⟨v, hv, hr⟩ := load_sound (P := P) hrel (hrel.tmp p) hd0
      rw [hA] at hv
      refine ⟨v, ?_, expD_sound hrel hr h⟩
      simp only [Instr.loadAt, Instr.sureAddr, Sem.run_bind, Sem.run_pure, Result.andThen_ok] at hv
      simp only [resultOf, hA, asAddr, Sem.run_bind, Sem.run_pure, Result.andThen_ok]
      exact hv
    · cases h
theorem resVs_sound {s : St} (hrel : Rel N B w0 ι (getT s.t) (getH s.h) a w) : ∀ (vs : List ResultVar) (ds : List D), resVs P s vs = some ds → ∃ us : List Value, (vs.mapM (resultOf a.tmps)).run P w = .ok us w ∧ us.length = ds.length ∧
    ∀ (i : Nat) (u : Value) (d : D), us[i]? = some u → ds[i]? = some d → RepI w ι.K (wrB B ι) u d
  | [], ds, h => by cases h; exact ⟨[], by simp, rfl, fun i u d h => by simp at h⟩
  | v :: r, ds, h => by
    unfold resVs at h
    split at h
    · rename_i d ds' hd hds
      cases h
      obtain ⟨u, hu, hr⟩ := resV_sound hrel hd
      obtain ⟨us, hus, hl, hrs⟩ := resVs_sound hrel r ds' hds
      refine ⟨u :: us, by simp [List.mapM_cons, hu, hus], by simp [hl], fun i x e hx he => ?_⟩
      cases i with
      | zero => simp at hx he; subst hx he; exact hr
      | succ i => exact hrs i x e (by simpa using hx) (by simpa using he)
    · cases h

theorem results_eq (fn : Func) (tmps : Array Value) : results fn tmps = (do
    let vs ← fn.results.mapM (resultOf tmps)
    pure (if h : vs.size = 1 then vs[0] else .tuple vs)) := by
  unfold results
  congr 1

theorem result_sound {fn : Func} {s : St} (hrel : Rel N B w0 ι (getT s.t) (getH s.h) a w) {d : D} (h : resultD P s fn.results.toList = some d) : ∃ v, (results fn a.tmps).run P w = .ok v w ∧ RepI w ι.K (wrB B ι) v d := by
  unfold resultD at h
  have key : ∀ ds, resVs P s fn.results.toList = some ds → ∃ us : List Value, (results fn a.tmps).run P w = .ok (if h : us.toArray.size = 1 then us.toArray[0] else .tuple us.toArray) w ∧ us.length = ds.length ∧
      ∀ (i : Nat) (u : Value) (d : D), us[i]? = some u → ds[i]? = some d → RepI w ι.K (wrB B ι) u d := by
    intro ds hds
    obtain ⟨us, h1, h2, h3⟩ := resVs_sound hrel _ _ hds
    refine ⟨us, ?_, h2, h3⟩
    rw [results_eq, Array.mapM_eq_mapM_toList]
    rw [Sem.run_bind, map_eq_pure_bind, Sem.run_bind, h1]
    rfl
  split at h
  · rename_i d0 hds
    cases h
    obtain ⟨us, h1, h2, h3⟩ := key _ hds
    match us, h2 with
    | [u], _ => exact ⟨u, by simpa using h1, h3 0 u d rfl rfl⟩
  · rename_i ds hne hds
    cases h
    obtain ⟨us, h1, h2, h3⟩ := key _ hds
    have hl : us.length ≠ 1 := by
      intro e
      rw [h2] at e
      match ds, e with
      | [d0], _ => exact hne d0 rfl
    refine ⟨.tuple us.toArray, by rw [h1, dif_neg (by simpa using hl)], .tup (by simpa using h2) (fun i c e hc he => h3 i c e (by simpa using hc) he)⟩
  · cases h

theorem argsT_get : ∀ (ds : List D) (k t : Nat) (r : List (Nat × D)), getT (argsT k ds ++ r) t = if k ≤ t ∧ t < k + ds.length then ds.getD (t - k) .any else getT r t
  | [], k, t, r => by simp [argsT]; intro h1 h2; omega
  | d :: ds, k, t, r => by
    simp only [argsT, List.cons_append, getT]
    by_cases h : k = t
    · subst h
      simp
    · rw [if_neg h, argsT_get ds (k + 1) t r]
      by_cases h2 : k + 1 ≤ t ∧ t < k + 1 + ds.length
      · rw [if_pos h2, if_pos (by simp; omega), show t - k = t - (k + 1) + 1 by omega]
        rfl
      · rw [if_neg h2, if_neg (by simp; omega)]
theorem keepT_get (n t : Nat) : ∀ ks : List Nat, getT (keepT n ks) t = .any
  | [] => rfl
  | k :: ks => by
    unfold keepT
    split
    · exact keepT_get n t ks
    · simp only [getT]
      split
      · rfl
      · exact keepT_get n t ks

/-- A FUNCTION's CONTRACT OUT OF ONE ABSTRACT RUN. -/
theorem contract_of (hmix : P.follows .mixedOrders = true) {f : FuncId} {fn : Func} {body : Code} (hf : P.funcs[f]? = some fn) (hb : fn.body = some body) (hname : (fn.name == "runtime.NumGoroutine") = false) (hok : okCode an body = true)
    (hN : fn.ntmps ≤ 1000) (hcall : CTok P call) {ds : List D} {r : D} (h : runF P call an fn.ntmps body fn.results.toList ds = some r) : Contract P call.g f ds r := by
  refine ⟨fun args w => ?_, fun w ok args hglob hargs => ?_⟩
  · have hn : ¬ fn.name = "runtime.NumGoroutine" := by simpa using hname
    simp [callFunc, hf, hn, hb]
  · unfold runF at h
    split at h
    · rename_i hle
      refine calls_of_wp hf hb ?_
      have imm : ∀ {v : Value} {d : D}, RepI w ok (fun _ => False) v d → RepI w (okB ⟨fun _ => none, fun b => ok b ∨ w.heap.size ≤ b, fun _ => False⟩) (frB w.heap.size ⟨fun _ => none, fun b => ok b ∨ w.heap.size ≤ b, fun _ => False⟩) v d :=
        fun hr => hr.mono (Nat.le_refl _) (fun b _ ho => ⟨⟨.inl ho, (fun id v hv => nomatch hv)⟩, rfl⟩) (fun b _ ho => ho.elim)
      have hrel : SRel fn.ntmps w.heap.size ⟨w, fun b => ok b ∨ w.heap.size ≤ b, fun _ => False, fun _ => none, call.g⟩ (init an ds) { tmps := args ++ Array.replicate (fn.ntmps - args.size) undef, defers := [] } w := by
        refine ⟨⟨fun _ => none, fun b => ok b ∨ w.heap.size ≤ b, fun _ => False⟩, {
          defers := rfl
          size := by have := hargs.1; simp; omega
          tmp := fun t => ?_
          obj := (fun id o ho => nomatch ho)
          dom := (fun id v hv => nomatch hv)
          inj := (fun id id' v v' b hv => nomatch hv)
          below := BelowZ.refl _ _ _
          base := Nat.le_refl _
          fresh := fun b hb => .inr (hb.elim id (fun h => h.elim))
          kk := rfl
          zz := rfl
          k0 := (fun id v hv => nomatch hv)
          nn := hN
          glob := fun g cs hg => (hglob g cs hg).to (imm (hglob g cs hg).rep) rfl }⟩
        simp only [init, argsT_get, keepT_get]
        split
        · rename_i ht
          have hlt : t < ds.length := by omega
          have hd : ds[t]? = some ds[t] := List.getElem?_eq_getElem hlt
          have hal : t < args.size := by rw [hargs.1]; exact hlt
          have hav : args[t]? = some args[t] := Array.getElem?_eq_getElem hal
          have hr := hargs.2 t _ _ hav hd
          have e1 : (args ++ Array.replicate (fn.ntmps - args.size) undef).getD t undef = args[t] := by
            simp [Array.getElem?_append_left hal, hav]
          rw [e1]
          simp only [Nat.sub_zero, List.getD, hd, Option.getD_some]
          exact .inl (.inl (imm hr))
        · exact .inl (.inl (.any _))
      have fin : ∀ e s, runC P call an fn.ntmps body (init an ds) = some (e, s) → (e = .norm ∨ e = .ret) → resultD P s fn.results.toList = some r →
          body.wp P (bodyPost P fn fun e w' => ∃ v, e = .returned v ∧ Ext w w' ∧ RepI w' (fun b => ok b ∨ w.heap.size ≤ b) (fun b => w.heap.size ≤ b) v r) { tmps := args ++ Array.replicate (fn.ntmps - args.size) undef, defers := [] } w := by
        intro e s hrun he hres
        refine wp_mono (runC_sound hmix hcall rfl body hok _ _ _ _ _ hrun hrel) ?_
        rintro x a' w' ⟨rfl, ι, hr⟩
        obtain ⟨v, hv, hrep⟩ := result_sound hr hres
        have hkk := hr.kk
        have hzz := hr.zz
        simp only at hkk hzz
        rw [hkk] at hrep
        have hrep : RepI w' (fun b => ok b ∨ w.heap.size ≤ b) (fun b => w.heap.size ≤ b) v r := hrep.mono (Nat.le_refl _) (fun b _ ho => ⟨ho, rfl⟩) (fun b _ ho => ⟨ho.elim id (fun h => by rw [hzz] at h; exact h.elim), rfl⟩)
        have hx : Ext w w' := ⟨hr.below.os, hr.below.tape, hr.below.output, hr.below.size, fun k hk => hr.below.block k hk (fun h => h)⟩
        rcases he with rfl | rfl
        · exact ⟨hr.defers, v, hv, v, rfl, hx, hrep⟩
        · exact ⟨hr.defers, v, hv, v, rfl, hx, hrep⟩
      split at h
      · rename_i s hs
        exact fin _ s hs (.inl rfl) h
      · rename_i s hs
        exact fin _ s hs (.inr rfl) h
      · cases h
    · cases h

/-! ### Functions that are handed objects -/
def resE (P : Program) (s : St) : ResultVar → Option D
  | .tmp t => some (getT s.t t)
  | .cell p ty => loadD P (getH s.h) ty (getT s.t p)
def noTup : D → Bool
  | .tup _ => false
  | _ => true
def resEs (P : Program) (s : St) : List ResultVar → Option (List D)
  | [] => some []
  | v :: r => match resE P s v, resEs P s r with
    | some d, some ds => if noTup d = true then some (d :: ds) else none
    | _, _ => none
def resultE (P : Program) (s : St) (vs : List ResultVar) : Option (D × List (Nat × O)) := match resEs P s vs with
  | some [d] => some (d, s.h)
  | some ds => some (.tup ds, s.h)
  | none => none
def initE (an : Ann) (hs : List (Nat × O)) (ds : List D) : St := ⟨argsT 0 ds ++ keepT ds.length an.keep, hs⟩
/-- A function's body, run abstractly, with objects. -/
noncomputable def runE (P : Program) (call : CT) (an : Ann) (N : Nat) (body : Code) (results : List ResultVar) (hs : List (Nat × O)) (ds : List D) : Option (D × List (Nat × O)) :=
  if ds.length ≤ N then
    match runC P call an N body (initE an hs ds) with
    | some (.norm, s) => resultE P (headOf an.rets s) results
    | some (.ret, s) => resultE P s results
    | _ => none
  else none

theorem noTup_rep {v : Value} {d : D} (h : Rep w B ι v d) (hd : noTup d = true) : Rep0 w B ι v d := by
  rcases h with h | h | ⟨_, rfl, _⟩
  · exact .inl h
  · exact .inr h
  · cases hd
theorem resE_sound {s : St} (hrel : Rel N B w0 ι (getT s.t) (getH s.h) a w) {rv : ResultVar} {d : D} (h : resE P s rv = some d) : ∃ v, (resultOf a.tmps rv).run P w = .ok v w ∧ Rep w B ι v d := by
  cases rv with
  | tmp t => cases h; exact ⟨_, by simp [resultOf], hrel.tmp t⟩
  | cell p ty =>
    simp only [resE] at h
    obtain ⟨A, hA⟩ := load_ptr h (hrel.tmp p)
    obtain ⟨v, hv, hr⟩ := load_sound (P := P) hrel (hrel.tmp p) h
    rw [hA] at hv
    refine ⟨v, ?_, hr⟩
    simp only [Instr.loadAt, Instr.sureAddr, Sem.run_bind, Sem.run_pure, Result.andThen_ok] at hv
    simp only [resultOf, hA, asAddr, Sem.run_bind, Sem.run_pure, Result.andThen_ok]
    exact hv
theorem resEs_sound {s : St} (hrel : Rel N B w0 ι (getT s.t) (getH s.h) a w) : ∀ (vs : List ResultVar) (ds : List D), resEs P s vs = some ds → ∃ us : List Value, (vs.mapM (resultOf a.tmps)).run P w = .ok us w ∧ us.length = ds.length ∧
    ∀ (i : Nat) (u : Value) (d : D), us[i]? = some u → ds[i]? = some d → Rep0 w B ι u d
  | [], ds, h => by cases h; exact ⟨[], by simp, rfl, fun i u d h => by simp at h⟩
  | v :: r, ds, h => by
    unfold resEs at h
    split at h
    · rename_i d ds' hd hds
      split at h
      · rename_i hn
        cases h
        obtain ⟨u, hu, hr⟩ := resE_sound hrel hd
        obtain ⟨us, hus, hl, hrs⟩ := resEs_sound hrel r ds' hds
        refine ⟨u :: us, by simp [List.mapM_cons, hu, hus], by simp [hl], fun i x e hx he => ?_⟩
        cases i with
        | zero => simp at hx he; subst hx he; exact noTup_rep hr hn
        | succ i => exact hrs i x e (by simpa using hx) (by simpa using he)
      · cases h
    · cases h
theorem resultE_sound {fn : Func} {s : St} (hrel : Rel N B w0 ι (getT s.t) (getH s.h) a w) {d : D} {hs' : List (Nat × O)} (h : resultE P s fn.results.toList = some (d, hs')) : hs' = s.h ∧ ∃ v, (results fn a.tmps).run P w = .ok v w ∧ Rep w B ι v d := by
  unfold resultE at h
  have key : ∀ ds, resEs P s fn.results.toList = some ds → ∃ us : List Value, (results fn a.tmps).run P w = .ok (if h : us.toArray.size = 1 then us.toArray[0] else .tuple us.toArray) w ∧ us.length = ds.length ∧
      ∀ (i : Nat) (u : Value) (d : D), us[i]? = some u → ds[i]? = some d → Rep0 w B ι u d := by
    intro ds hds
    obtain ⟨us, h1, h2, h3⟩ := resEs_sound hrel _ _ hds
    refine ⟨us, ?_, h2, h3⟩
    rw [results_eq, Array.mapM_eq_mapM_toList]
    rw [Sem.run_bind, map_eq_pure_bind, Sem.run_bind, h1]
    rfl
  split at h
  · rename_i d0 hds
    cases h
    obtain ⟨us, h1, h2, h3⟩ := key _ hds
    match us, h2 with
    | [u], _ => exact ⟨rfl, u, by simpa using h1, (h3 0 u d rfl rfl).of⟩
  · rename_i ds hne hds
    cases h
    obtain ⟨us, h1, h2, h3⟩ := key _ hds
    have hl : us.length ≠ 1 := by
      intro e
      rw [h2] at e
      match ds, e with
      | [d0], _ => exact hne d0 rfl
    refine ⟨rfl, .tuple us.toArray, by rw [h1, dif_neg (by simpa using hl)], .inr (.inr ⟨_, rfl, _, rfl, by simpa using h2, fun i c e hc he => h3 i c e (by simpa using hc) he⟩)⟩
  · cases h

/-- THE SAME OF A FUNCTION THAT IS HANDED OBJECTS, OR MAKES SOME. -/
theorem contractE_of (hmix : P.follows .mixedOrders = true) {f : FuncId} {fn : Func} {body : Code} (hf : P.funcs[f]? = some fn) (hb : fn.body = some body) (hname : (fn.name == "runtime.NumGoroutine") = false) (hok : okCode an body = true)
    (hN : fn.ntmps ≤ 1000) (hcall : CTok P call) {hs : List (Nat × O)} {ds : List D} {r : D} {hs' : List (Nat × O)} (h : runE P call an fn.ntmps body fn.results.toList hs ds = some (r, hs')) : ContractE P call.g f hs ds r hs' := by
  refine ⟨fun args w => ?_, fun w ι args hobjs hglob hargs => ?_⟩
  · have hn : ¬ fn.name = "runtime.NumGoroutine" := by simpa using hname
    simp [callFunc, hf, hn, hb]
  · unfold runE at h
    split at h
    · rename_i hle
      refine calls_of_wp hf hb ?_
      have hrel : SRel fn.ntmps w.heap.size ⟨w, ι.K, ι.Z, ι.f, call.g⟩ (initE an hs ds) { tmps := args ++ Array.replicate (fn.ntmps - args.size) undef, defers := [] } w := by
        refine ⟨ι, {
          defers := rfl
          size := by have := hargs.1; simp; omega
          tmp := fun t => ?_
          obj := hobjs.obj
          dom := hobjs.dom
          inj := hobjs.inj
          below := BelowZ.refl _ _ _
          base := Nat.le_refl _
          fresh := hobjs.fresh
          kk := rfl
          zz := rfl
          k0 := fun id v hv _ _ => .inr hv
          nn := hN
          glob := hglob }⟩
        simp only [initE, argsT_get, keepT_get]
        split
        · rename_i ht
          have hlt : t < ds.length := by omega
          have hd : ds[t]? = some ds[t] := List.getElem?_eq_getElem hlt
          have hal : t < args.size := by rw [hargs.1]; exact hlt
          have hav : args[t]? = some args[t] := Array.getElem?_eq_getElem hal
          have hr := hargs.2 t _ _ hav hd
          have e1 : (args ++ Array.replicate (fn.ntmps - args.size) undef).getD t undef = args[t] := by
            simp [Array.getElem?_append_left hal, hav]
          rw [e1]
          simp only [Nat.sub_zero, List.getD, hd, Option.getD_some]
          exact hr
        · exact .inl (.inl (.any _))
      have fin : ∀ e s s1, runC P call an fn.ntmps body (initE an hs ds) = some (e, s) → (e = .norm ∨ e = .ret) → (s1 = s ∨ s1 = headOf an.rets s) → resultE P s1 fn.results.toList = some (r, hs') →
          body.wp P (bodyPost P fn fun e w' => ∃ v ι', e = .returned v ∧ BelowZ w.heap.size ι.Z w w' ∧ ι'.K = ι.K ∧ ι'.Z = ι.Z ∧ Objs w' w.heap.size ι' hs' ∧ Rep w' w.heap.size ι' v r ∧
            ∀ id v, ι id = some v → 1000 ≤ id → id < 10000 → ι' id = none ∨ ι' id = some v) { tmps := args ++ Array.replicate (fn.ntmps - args.size) undef, defers := [] } w := by
        intro e s s1 hrun he hs1 hres
        refine wp_mono (runC_sound hmix hcall rfl body hok _ _ _ _ _ hrun hrel) ?_
        rintro x a' w' ⟨rfl, hr⟩
        have hr1 : SRel fn.ntmps w.heap.size ⟨w, ι.K, ι.Z, ι.f, call.g⟩ s1 a' w' := by
          rcases hs1 with rfl | rfl
          · exact hr
          · exact headOf_sound _ hr
        obtain ⟨ι', hr⟩ := hr1
        obtain ⟨rfl, v, hv, hrep⟩ := resultE_sound hr hres
        have fin : ∃ v' ι'', Ending.returned v = .returned v' ∧ BelowZ w.heap.size ι.Z w w' ∧ ι''.K = ι.K ∧ ι''.Z = ι.Z ∧ Objs w' w.heap.size ι'' s1.h ∧ Rep w' w.heap.size ι'' v' r ∧
            ∀ id v, ι id = some v → 1000 ≤ id → id < 10000 → ι'' id = none ∨ ι'' id = some v :=
          ⟨v, ι', rfl, hr.below, hr.kk, hr.zz, ⟨hr.obj, hr.dom, hr.inj, hr.fresh⟩, hrep, hr.k0⟩
        rcases he with rfl | rfl
        · exact ⟨hr.defers, v, hv, fin⟩
        · exact ⟨hr.defers, v, hv, fin⟩
      split at h
      · rename_i s hs
        exact fin _ s _ hs (.inl rfl) (.inr rfl) h
      · rename_i s hs
        exact fin _ s _ hs (.inr rfl) (.inl rfl) h
      · cases h
    · cases h

end
end Go.Abs
/-
  How the abstract interpreter is run by rewriting: which words unfold, and small laws.
-/
namespace Go.Abs
set_option linter.unusedSimpArgs false
set_option linter.unusedVariables false
open Go

attribute [simp] init argsT keepT eop assignD fstep aop aopF appF ev ofV ofV1 getT setT delT getH setH killT killL St.put St.putO St.drop St.kill endR creates binD intBin strBin unD convD convS bytesOf noneOf frz frzAgg frzAll
  killD mapT mapA kill1 killO refsTo isAppend storeS preStore moveO cidOf crow0 crow1 crowsS isCrow dropCells St.dropB newRowS slice3D evG capD makeFuncD eCallee frzArgs estep estep1 ecall lookN swp hasN nodupN lookAll ren1 renC renA renL renT renO refs1 refsC refsA addNew rootsE pairAll cellPairs rootPairs handed backN backs renHs gone loose hits kill1s killDs killOs killTs clearH setHs freeN emp0 putD resE noTup resEs resultE initE storeBox storeRow spliceD cellsD one shapeOk partsD partsI fillD buildD buildSliceD makeSliceD cellI cellsI rowsI chunk zrep flat isX loadD fieldAddrD fieldD indexAddrD indexD eltAt lenOp lenD min2D max2D foldD callD
  resL resD resC res1 resA resB isCell memfree mf2 mf1 appendD srcD moveRow maskH drawN dstore storeTgt baseL resultD resVs resV expD expC exp1 liveOf rid headOf clearTo clearT dropIds usedC usedA usedL usedD usedH usedT sliceD bnd cutD partD eqD eqFs eqIs guardT undef List.lookup Value.oneCell'

/-- The bodies of loops in a code, in the order of the text. -/
def loopsIn : Code → List Code
  | .loop c => c :: loopsIn c
  | .seq a b => loopsIn a ++ loopsIn b
  | .cond _ a b => loopsIn a ++ loopsIn b
  | .block _ a => loopsIn a
  | .scope a => loopsIn a
  | _ => []
def bodyOf (fn : Func) : Code := fn.body.getD .skip

theorem bigL_succ (k : Nat) (hk : k ≤ 1000) : ∃ m, bigL = m + k := by
  have h1 := bigL_ge
  have h2 : 1000 ≤ (2 : Nat) ^ 64 := by decide
  exact ⟨bigL - k, by omega⟩

theorem wrap64 {n : Int} (h1 : -9223372036854775808 ≤ n) (h2 : n ≤ 9223372036854775807) : IntKind.i64.wrap n = n := by
  rw [IntKind.wrap_i64]; omega
@[simp] theorem wrap_lit {n : Int} (h : (decide (-9223372036854775808 ≤ n) && decide (n ≤ 9223372036854775807)) = true) : IntKind.i64.wrap n = n := by
  simp at h
  exact wrap64 h.1 h.2

@[simp] theorem str_eq (a b : ByteArray) : (a.toList == b.toList) = decide (a = b) := by
  by_cases h : a = b
  · subst h; simp
  · have : a.toList ≠ b.toList := fun e => h (by
      rw [Go.ByteArray.toList_eq, Go.ByteArray.toList_eq] at e
      cases a
      cases b
      exact congrArg ByteArray.mk (Array.toList_inj.1 e))
    simp [h, this]
@[simp] theorem int_beq (a b : Int) : (a == b) = decide (a = b) := by by_cases h : a = b <;> simp [h]
@[simp] theorem int_bne (a b : Int) : (a != b) = !decide (a = b) := by by_cases h : a = b <;> simp [h, bne]
attribute [simp] List.range_succ
end Go.Abs
/-
  From a law's given row to the abstract interpreter: every input that reads as data is an abstract input of the same types; and a law that answers true on every such input meets its row.
-/
namespace Go.Abs
set_option linter.unusedSimpArgs false
set_option linter.unusedVariables false
open Go Go.RowKit Go.ChangeShapes Go.WideShapes Go.ChangeAt

/-- Abstract cells of a type. -/
def TyC (P : Program) : Nat → TypeId → List D → Prop
  | 0, _, _ => False
  | n + 1, t, cs => match P.underlying t with
    | some .bool => ∃ b, cs = [.x (.bool b)]
    | some (.int k) => ∃ v, cs = [.x (.int k v)] ∧ (Lit.int k v).wf = true
    | some .string => ∃ s, cs = [.x (.string s)] ∧ s.size ≤ maxLen
    | some (.slice e) => ∃ es : List (List D), cs = [.sl es] ∧ es.length ≤ maxLen ∧ ∀ x ∈ es, TyC P n e x
    | some (.struct fs) => cs.length = P.cellsOf t ∧ ∀ f ∈ fs.toList, TyC P n f.type ((cs.drop f.offset).take (P.cellsOf f.type))
    | some (.array m e) => cs.length = P.cellsOf t ∧ ∀ i, i < m → TyC P n e ((cs.drop (i * P.cellsOf e)).take (P.cellsOf e))
    | _ => False

/-- Fields that lie one behind the other. -/
def fieldsOk (P : Program) (S : List TypeId) (tot : Nat) : Nat → List Field → Bool
  | o, [] => o == tot
  | o, f :: r => f.offset == o && S.contains f.type && fieldsOk P S tot (o + P.cellsOf f.type) r
/-- A list of types, closed under what they are made of. -/
def okS (P : Program) (S : List TypeId) : Bool := S.all fun t => match P.underlying t with
  | some .bool => P.cellsOf t == 1
  | some (.int _) => P.cellsOf t == 1
  | some .string => P.cellsOf t == 1
  | some (.slice e) => P.cellsOf t == 1 && S.contains e && decide (0 < P.cellsOf e)
  | some (.struct fs) => fieldsOk P S (P.cellsOf t) 0 fs.toList
  | some (.array m e) => P.cellsOf t == m * P.cellsOf e && S.contains e
  | _ => false

section
variable {H : Type} {enc : TypeId × Value → H} {P : Program} {w : World} {base : Nat} {spare : Nat → Bool} {held : Bool}

def InC (w : World) (c : Value) (d : D) : Prop := RepI w (fun _ => True) (fun _ => False) c d ∧ c.oneCell' = true ∧ isCell d = true
def LRel (R : Value → D → Prop) (cs : List Value) (ds : List D) : Prop := cs.length = ds.length ∧ ∀ (i : Nat) (c : Value) (d : D), cs[i]? = some c → ds[i]? = some d → R c d

theorem LRel.one {R : Value → D → Prop} {c : Value} {d : D} (h : R c d) : LRel R [c] [d] := by
  refine ⟨rfl, fun i c' d' h1 h2 => ?_⟩
  cases i with
  | zero => simp at h1 h2; subst h1 h2; exact h
  | succ i => simp at h1
theorem LRel.append {R : Value → D → Prop} {a b : List Value} {x y : List D} (h : LRel R a x) (k : LRel R b y) : LRel R (a ++ b) (x ++ y) := by
  refine ⟨by simp [h.1, k.1], fun i c d h1 h2 => ?_⟩
  by_cases hi : i < a.length
  · rw [List.getElem?_append_left hi] at h1
    rw [List.getElem?_append_left (by rw [← h.1]; exact hi)] at h2
    exact h.2 i c d h1 h2
  · rw [List.getElem?_append_right (by omega)] at h1
    rw [List.getElem?_append_right (by rw [← h.1]; omega), ← h.1] at h2
    exact k.2 _ c d h1 h2

/-- The parts of a struct, one behind the other. -/
theorem struct_abs {n : Nat} {S : List TypeId} (cs : List Value) (tot : Nat) (hcs : cs.length = tot)
    (part : ∀ f : Field, f.type ∈ S → (∃ x, DataW.trod enc P w base spare held n f.type ((cs.drop f.offset).take (P.cellsOf f.type)) = some x) → ∃ ds, TyC P n f.type ds ∧ LRel (InC w) ((cs.drop f.offset).take (P.cellsOf f.type)) ds) :
    ∀ (fs : List Field) (o : Nat), o ≤ tot → fieldsOk P S tot o fs = true → (∀ f ∈ fs, ∃ x, DataW.trod enc P w base spare held n f.type ((cs.drop f.offset).take (P.cellsOf f.type)) = some x) →
      ∃ ds, LRel (InC w) (cs.drop o) ds ∧ ∀ f ∈ fs, o ≤ f.offset ∧ TyC P n f.type ((ds.drop (f.offset - o)).take (P.cellsOf f.type))
  | [], o, ho, hok, _ => by
    simp only [fieldsOk, beq_iff_eq] at hok
    refine ⟨[], ⟨by simp; omega, fun i c d h1 h2 => by simp at h2⟩, fun f hf => by simp at hf⟩
  | f :: fs, o, ho, hok, hx => by
    simp only [fieldsOk, Bool.and_eq_true, beq_iff_eq, List.contains_eq_mem, decide_eq_true_eq] at hok
    obtain ⟨⟨h1, h2⟩, h3⟩ := hok
    have hmono : ∀ (fs : List Field) (o : Nat), fieldsOk P S tot o fs = true → o ≤ tot := by
      intro fs
      induction fs with
      | nil => intro o h; simp only [fieldsOk, beq_iff_eq] at h; omega
      | cons g r ih =>
        intro o h
        simp only [fieldsOk, Bool.and_eq_true] at h
        have := ih _ h.2
        omega
    have hle := hmono fs _ h3
    obtain ⟨d0, t0, r0⟩ := part f h2 (hx f (by simp))
    obtain ⟨ds, hr, hf⟩ := struct_abs cs tot hcs part fs (o + P.cellsOf f.type) hle h3 (fun g hg => hx g (by simp [hg]))
    subst h1
    have hl0 : d0.length = P.cellsOf f.type := by
      rw [← r0.1]
      simp
      omega
    refine ⟨d0 ++ ds, ?_, fun g hg => ?_⟩
    · have := r0.append hr
      have e : (cs.drop f.offset).take (P.cellsOf f.type) ++ cs.drop (f.offset + P.cellsOf f.type) = cs.drop f.offset := by
        rw [← List.drop_drop, List.take_append_drop]
      rwa [e] at this
    · rcases List.mem_cons.1 hg with rfl | hg
      · refine ⟨Nat.le_refl _, ?_⟩
        rw [Nat.sub_self, List.drop_zero, List.take_append_of_le_length (by omega), List.take_of_length_le (by omega)]
        exact t0
      · obtain ⟨h4, h5⟩ := hf g hg
        refine ⟨by omega, ?_⟩
        rw [List.drop_append_of_le_length' d0 ds (by omega)]
        have : g.offset - f.offset - d0.length = g.offset - (f.offset + P.cellsOf f.type) := by omega
        rw [this]
        exact h5
where
  List.drop_append_of_le_length' {α : Type} (l₁ l₂ : List α) {n : Nat} (h : l₁.length ≤ n) : (l₁ ++ l₂).drop n = l₂.drop (n - l₁.length) := by
    rw [List.drop_append, List.drop_of_length_le h, List.nil_append]

theorem array_abs {n sz : Nat} {e : TypeId} (cs : List Value) (hsz : sz = P.cellsOf e) (part : ∀ i, (∃ x, DataW.trod enc P w base spare held n e ((cs.drop (i * sz)).take sz) = some x) → ∃ ds, TyC P n e ds ∧ LRel (InC w) ((cs.drop (i * sz)).take sz) ds) :
    ∀ (m k : Nat), cs.length = (k + m) * sz → (∀ i, i < m → ∃ x, DataW.trod enc P w base spare held n e ((cs.drop ((k + i) * sz)).take sz) = some x) →
      ∃ ds, LRel (InC w) (cs.drop (k * sz)) ds ∧ ∀ i, i < m → TyC P n e ((ds.drop (i * sz)).take sz)
  | 0, k, hcs, _ => ⟨[], ⟨by simp at hcs; simp [hcs], fun i c d h1 h2 => by simp at h2⟩, fun i hi => by omega⟩
  | m + 1, k, hcs, hx => by
    obtain ⟨d0, t0, r0⟩ := part k (by have := hx 0 (by omega); simpa using this)
    obtain ⟨ds, hr, hf⟩ := array_abs cs hsz part m (k + 1) (by rw [hcs]; congr 1; omega) (fun i hi => by have := hx (i + 1) (by omega); rwa [show k + (i + 1) = k + 1 + i by omega] at this)
    have hl0 : d0.length = sz := by
      rw [← r0.1]
      have : (k + 1) * sz ≤ (k + (m + 1)) * sz := Nat.mul_le_mul_right _ (by omega)
      rw [Nat.add_mul, Nat.one_mul] at this
      simp
      omega
    refine ⟨d0 ++ ds, ?_, fun i hi => ?_⟩
    · have := r0.append hr
      have e : (cs.drop (k * sz)).take sz ++ cs.drop ((k + 1) * sz) = cs.drop (k * sz) := by
        rw [Nat.add_mul, Nat.one_mul, ← List.drop_drop, List.take_append_drop]
      rwa [e] at this
    · cases i with
      | zero =>
        rw [Nat.zero_mul, List.drop_zero, List.take_append_of_le_length (by omega), List.take_of_length_le (by omega)]
        exact t0
      | succ i =>
        have hle : d0.length ≤ (i + 1) * sz := by rw [Nat.add_mul, Nat.one_mul]; omega
        rw [List.drop_append, List.drop_of_length_le hle, List.nil_append, hl0, Nat.add_mul, Nat.one_mul, Nat.add_sub_cancel]
        exact hf i (by omega)

/-- WHATEVER READS AS DATA IS AN ABSTRACT INPUT. -/
theorem trod_abs {S : List TypeId} (hS : okS P S = true) : ∀ (fuel : Nat) (t : TypeId) (cs : List Value) (x : DataW H × List MemPlace), t ∈ S → DataW.trod enc P w base spare held fuel t cs = some x →
    ∃ ds, TyC P fuel t ds ∧ LRel (InC w) cs ds
  | 0, _, _, _, _, h => by simp [DataW.trod] at h
  | fuel + 1, t, cs, x, ht, h => by
    have hok := List.all_eq_true.1 hS t ht
    have ih := fun t' cs' x' => trod_abs hS fuel t' cs' x'
    cases hu : P.underlying t with
    | none => rw [hu] at hok; cases hok
    | some td =>
      rw [hu] at hok
      cases td with
      | bool =>
        obtain ⟨b, rfl, _⟩ := DataW.trod_bool hu h
        exact ⟨[.x (.bool b)], by unfold TyC; rw [hu]; exact ⟨b, rfl⟩, LRel.one ⟨.x _, rfl, rfl⟩⟩
      | int k =>
        obtain ⟨n, rfl, _, wf⟩ := DataW.trod_int hu h
        exact ⟨[.x (.int k n)], by unfold TyC; rw [hu]; exact ⟨n, rfl, wf⟩, LRel.one ⟨.x _, rfl, rfl⟩⟩
      | string =>
        obtain ⟨s, rfl, _, hs⟩ := DataW.trod_string hu h
        exact ⟨[.x (.string s)], by unfold TyC; rw [hu]; exact ⟨s, rfl, hs⟩, LRel.one ⟨.x _, rfl, rfl⟩⟩
      | slice e =>
        simp only [Bool.and_eq_true, beq_iff_eq, List.contains_eq_mem, decide_eq_true_eq] at hok
        obtain ⟨⟨_, he⟩, hpos⟩ := hok
        rcases DataW.trod_slice hu h with ⟨rfl, _⟩ | ⟨a, len, cap, elems, rest, n, hn, rfl, _, hb, hl, hm, hlen, hel, _, _⟩
        · exact ⟨[.sl []], by unfold TyC; rw [hu]; exact ⟨[], rfl, by simp [maxLen], fun x hx => by simp at hx⟩, LRel.one ⟨.sl0 _ _, rfl, rfl⟩⟩
        · injection hn with hn
          subst hn
          have hex : ∀ i, i < len → ∃ cs' ds, w.cells? base (a.add (i * P.cellsOf e)) (P.cellsOf e) = some cs' ∧ TyC P fuel e ds ∧ LRel (InC w) cs' ds := by
            intro i hi
            have h1 := hel i hi
            have h2 : elems[i]? = some (elems[i]'(by omega)) := List.getElem?_eq_getElem (by omega)
            rw [h2] at h1
            simp only [Option.bind_eq_some_iff] at h1
            obtain ⟨cs', hc, ht'⟩ := h1
            obtain ⟨ds, h3, h4⟩ := ih e cs' _ he ht'
            exact ⟨cs', ds, hc, h3, h4⟩
          have hch : ∃ g : Nat → List D, ∀ i, i < len → ∃ cs', w.cells? base (a.add (i * P.cellsOf e)) (P.cellsOf e) = some cs' ∧ TyC P fuel e (g i) ∧ LRel (InC w) cs' (g i) := by
            classical
            refine ⟨fun i => if hi : i < len then Classical.choose (Classical.choose_spec (hex i hi)) else [], fun i hi => ?_⟩
            have := Classical.choose_spec (Classical.choose_spec (hex i hi))
            simp only [dif_pos hi]
            exact ⟨_, this⟩
          obtain ⟨g, hg⟩ := hch
          have hget : ∀ i x, ((List.range len).map g)[i]? = some x → i < len ∧ x = g i := by
            intro i x hx
            rw [List.getElem?_map] at hx
            simp only [Option.map_eq_some_iff] at hx
            obtain ⟨k, hk, rfl⟩ := hx
            obtain ⟨h1, h2⟩ := List.getElem?_eq_some_iff.1 hk
            simp at h1 h2
            subst h2
            exact ⟨h1, rfl⟩
          have hlenD : ((List.range len).map g).length = len := by simp
          refine ⟨[.sl ((List.range len).map g)], ?_, LRel.one ⟨?_, rfl, rfl⟩⟩
          · unfold TyC
            rw [hu]
            refine ⟨_, rfl, by omega, fun x hx => ?_⟩
            obtain ⟨i, hi⟩ := List.getElem?_of_mem hx
            obtain ⟨h1, rfl⟩ := hget i x hi
            obtain ⟨_, _, h2, _⟩ := hg i h1
            exact h2
          · have cell : ∀ i j, i < len → j < P.cellsOf e → ∃ u d, w.cell? (a.add (i * P.cellsOf e + j)) = some u ∧ (g i)[j]? = some d ∧ InC w u d := by
              intro i j hi hj
              obtain ⟨cs', hc, _, hr⟩ := hg i hi
              obtain ⟨_, hcl, hcs⟩ := World.cells?_some hc
              have h1 := hcs j hj
              have h2 : cs'[j]? = some (cs'[j]'(by omega)) := List.getElem?_eq_getElem (by omega)
              have hgl : j < (g i).length := by rw [← hr.1]; omega
              have h3 : (g i)[j]? = some (g i)[j] := List.getElem?_eq_getElem hgl
              rw [add_add', h2] at h1
              exact ⟨_, _, h1, h3, hr.2 j _ _ h2 h3⟩
            have glen : ∀ i, i < len → (g i).length = P.cellsOf e := by
              intro i hi
              obtain ⟨cs', hc, _, hr⟩ := hg i hi
              obtain ⟨_, hcl, _⟩ := World.cells?_some hc
              rw [← hr.1, hcl]
            by_cases hz : len = 0
            · subst hz
              exact .sl0 _ _
            · have hblk : a.block < w.heap.size := by
                obtain ⟨u, _, hu', _⟩ := cell 0 0 (by omega) hpos
                rcases Nat.lt_or_ge a.block w.heap.size with h' | h'
                · exact h'
                · unfold World.cell? at hu'
                  rw [add_block, Array.getElem?_eq_none h'] at hu'
                  cases hu'
              have := @RepI.sl w (fun _ => True) (fun _ => False) a cap (P.cellsOf e) ((List.range len).map g) trivial hblk (by omega) (fun x hx d hd => by
                  obtain ⟨i, hi⟩ := List.getElem?_of_mem hx
                  obtain ⟨h1, rfl⟩ := hget i x hi
                  obtain ⟨j, hj⟩ := List.getElem?_of_mem hd
                  have hjl := (List.getElem?_eq_some_iff.1 hj).1
                  obtain ⟨u, d', _, h2, h3⟩ := cell i j h1 (by rw [← glen i h1]; exact hjl)
                  rw [hj] at h2
                  cases h2
                  exact h3.2.2) (fun x hx => by
                  obtain ⟨i, hi⟩ := List.getElem?_of_mem hx
                  obtain ⟨h1, rfl⟩ := hget i x hi
                  exact glen i h1) (fun i j hi hj => by
                  obtain ⟨u, d, h1, _, h3⟩ := cell i j (by omega) hj
                  exact ⟨u, h1, h3.2.1⟩) (fun i x j d u hx hd hu' => by
                  obtain ⟨h1, rfl⟩ := hget i x hx
                  have hjl := (List.getElem?_eq_some_iff.1 hd).1
                  obtain ⟨u', d', h4, h5, h6⟩ := cell i j h1 (by rw [← glen i h1]; exact hjl)
                  rw [hu'] at h4
                  cases h4
                  rw [hd] at h5
                  cases h5
                  exact h6.1)
              rwa [hlenD] at this
      | struct fs =>
        obtain ⟨xs, n, hn, _, hcl, hxl, hf⟩ := DataW.trod_struct hu h
        injection hn with hn
        subst hn
        obtain ⟨ds, hr, hty⟩ := struct_abs (n := fuel) (S := S) cs (P.cellsOf t) hcl (fun f hfS ⟨x, hx⟩ => ih f.type _ x hfS hx) fs.toList 0 (Nat.zero_le _) hok (fun f hfm => by
          obtain ⟨i, hi⟩ := List.getElem?_of_mem hfm
          rw [Array.getElem?_toList] at hi
          have hil := (Array.getElem?_eq_some_iff.1 hi).1
          exact ⟨_, (hf i f hi).trans (List.getElem?_eq_getElem (by omega))⟩)
        refine ⟨ds, ?_, by simpa using hr⟩
        unfold TyC
        rw [hu]
        refine ⟨by rw [← hcl]; have := hr.1; simpa using this.symm, fun f hfm => ?_⟩
        have := (hty f hfm).2
        simpa using this
      | array m e =>
        simp only [Bool.and_eq_true, beq_iff_eq, List.contains_eq_mem, decide_eq_true_eq] at hok
        obtain ⟨xs, n, hn, _, hcl, hxl, hf⟩ := DataW.trod_array hu h
        injection hn with hn
        subst hn
        obtain ⟨ds, hr, hty⟩ := array_abs (n := fuel) (e := e) cs rfl (fun i ⟨x, hx⟩ => ih e _ x hok.2 hx) m 0 (by rw [hcl, hok.1]; simp) (fun i hi => by
          have h1 := hf i hi
          exact ⟨_, by rw [Nat.zero_add]; exact h1.trans (List.getElem?_eq_getElem (by omega))⟩)
        refine ⟨ds, ?_, by simpa using hr⟩
        unfold TyC
        rw [hu]
        exact ⟨by rw [← hcl]; have := hr.1; simpa using this.symm, hty⟩
      | _ => cases hok

end
end Go.Abs
/-
  A law that answers true on every abstract input of its types meets its given row: the inputs are read as abstract ones, the call returns true, and every argument reads behind the call as it read before.
-/
namespace Go.Abs
set_option linter.unusedSimpArgs false
set_option linter.unusedVariables false
open Go Go.RowKit Go.ChangeShapes Go.WideShapes Go.ChangeAt

/-- An abstract value of a type. -/
def TyV (P : Program) (t : TypeId) (d : D) : Prop := ∃ n cs, TyC P n t cs ∧ match P.underlying t with
  | some (.struct _) | some (.array _ _) => d = .agg cs
  | _ => cs = [d]
/-- Abstract values of the types, one each. -/
def TyArgs (P : Program) : List TypeId → List D → Prop
  | [], ds => ds = []
  | t :: ts, ds => ∃ d r, ds = d :: r ∧ TyV P t d ∧ TyArgs P ts r

section
variable {H : Type} {enc : TypeId × Value → H} {P : Program} {w : World} {base : Nat} {spare : Nat → Bool} {held : Bool}

theorem arg_abs {S : List TypeId} (hS : okS P S = true) {r : Reach} {b : Nat} {t : TypeId} {v : Value} {d : DataW H} {ps : List MemPlace} (ht : t ∈ S) (hv : Value.okWide P w r b t v)
    (h : DataW.Trod enc P w base spare held t v d ps) : ∃ x, TyV P t x ∧ RepI w (fun _ => True) (fun _ => False) v x := by
  obtain ⟨fuel, h⟩ := h
  obtain ⟨ds, h1, h2⟩ := trod_abs hS fuel t _ _ ht h
  have hok := List.all_eq_true.1 hS t ht
  have agg : ∀ cs : Array Value, v = .agg cs → RepI w (fun _ => True) (fun _ => False) v (.agg ds) := by
    rintro cs rfl
    have hl := h2.1
    simp only [Value.cells, Array.length_toList] at hl
    refine .agg hl fun i c d hc hd => (h2.2 i c d ?_ hd).1
    simpa [Value.cells] using hc
  have one : ∀ x : Value, v = x → x.cells = #[x] → ds.length = 1 → ∃ d, ds = [d] ∧ RepI w (fun _ => True) (fun _ => False) v d := by
    rintro x rfl hx hl
    match ds, hl with
    | [d], _ => exact ⟨d, rfl, (h2.2 0 v d (by simp [hx]) rfl).1⟩
  cases fuel with
  | zero => exact absurd h1 (by simp [TyC])
  | succ fuel =>
    have h1' := h1
    unfold TyC at h1
    cases hu : P.underlying t with
    | none => rw [hu] at hok; cases hok
    | some td =>
      rw [hu] at hok h1
      cases td with
      | bool =>
        obtain ⟨x, rfl⟩ := okWide_bool hu hv
        obtain ⟨b, rfl⟩ := h1
        obtain ⟨d, e, hr⟩ := one _ rfl rfl rfl
        exact ⟨d, ⟨_, _, h1', by rw [hu]; exact e⟩, hr⟩
      | int k =>
        obtain ⟨x, rfl⟩ := okWide_int hu hv
        obtain ⟨b, rfl, _⟩ := h1
        obtain ⟨d, e, hr⟩ := one _ rfl rfl rfl
        exact ⟨d, ⟨_, _, h1', by rw [hu]; exact e⟩, hr⟩
      | string =>
        obtain ⟨x, rfl⟩ := okWide_string hu hv
        obtain ⟨b, rfl, _⟩ := h1
        obtain ⟨d, e, hr⟩ := one _ rfl rfl rfl
        exact ⟨d, ⟨_, _, h1', by rw [hu]; exact e⟩, hr⟩
      | slice e =>
        obtain ⟨a, l, c, rfl⟩ := okWide_slice hu hv
        obtain ⟨es, rfl, _⟩ := h1
        obtain ⟨d, e, hr⟩ := one _ rfl rfl rfl
        exact ⟨d, ⟨_, _, h1', by rw [hu]; exact e⟩, hr⟩
      | struct fs =>
        obtain ⟨cs, rfl, _⟩ := okWide_struct hu hv
        exact ⟨_, ⟨_, _, h1', by rw [hu]⟩, agg cs rfl⟩
      | array m e =>
        simp only [Value.okWide, hu] at hv
        obtain ⟨cs, rfl, _⟩ := hv
        exact ⟨_, ⟨_, _, h1', by rw [hu]⟩, agg cs rfl⟩
      | _ => cases hok

theorem args_abs {S : List TypeId} (hS : okS P S = true) {r : Reach} {b : Nat} : ∀ (ts : List TypeId) (vs : List Value) (ds : List (DataW H)) (ps : List MemPlace), (∀ t ∈ ts, t ∈ S) →
    (∀ (j : Nat) t v, ts[j]? = some t → vs[j]? = some v → Value.okWide P w r b t v) → DataW.TrodAll enc P w base spare held ts vs ds ps →
    ∃ xs, TyArgs P ts xs ∧ LRel (RepI w (fun _ => True) (fun _ => False)) vs xs
  | [], [], [], _, _, _, _ => ⟨[], rfl, rfl, fun i c d h1 _ => by simp at h1⟩
  | t :: ts, v :: vs, d :: ds, ps, hts, hv, h => by
    obtain ⟨p, q, h1, h2, rfl⟩ := h
    obtain ⟨x, hx, hr⟩ := arg_abs hS (hts t (by simp)) (hv 0 t v rfl rfl) h1
    obtain ⟨xs, hxs, hrs⟩ := args_abs hS ts vs ds q (fun t' h' => hts t' (by simp [h'])) (fun j t' v' hj hv' => hv (j + 1) t' v' hj hv') h2
    exact ⟨x :: xs, ⟨x, xs, rfl, hx, hxs⟩, (LRel.one hr).append hrs⟩
  | [], _ :: _, _, _, _, _, h => by simp [DataW.TrodAll] at h
  | [], [], _ :: _, _, _, _, h => by simp [DataW.TrodAll] at h
  | _ :: _, [], _, _, _, _, h => by simp [DataW.TrodAll] at h
  | _ :: _, _ :: _, [], _, _, _, h => by simp [DataW.TrodAll] at h

theorem trodAll_below (hl : laidOutB P = true) {W W' : World} (hb : Below W.heap.size W W') : ∀ (ts : List TypeId) (vs : List Value) (ds : List (DataW H)) (ps : List MemPlace),
    (∀ t ∈ ts, P.readableRec t = true ∧ t < P.types.size) → (∀ x ∈ ps, x.block < W.heap.size) → DataW.TrodAll enc P W 0 (fun _ => true) true ts vs ds ps →
    DataW.TrodAll enc P W' 0 (fun b => decide (b < W.heap.size)) true ts vs ds ps
  | [], [], [], _, _, _, h => h
  | t :: ts, v :: vs, d :: ds, ps, hts, hlt, h => by
    obtain ⟨p, q, h1, h2, rfl⟩ := h
    exact ⟨p, q, Below.trod hl (hts t (by simp)).1 (hts t (by simp)).2 h1 hb (fun x hx => hlt x (by simp [hx])),
      trodAll_below hl hb ts vs ds q (fun t' h' => hts t' (by simp [h'])) (fun x hx => hlt x (by simp [hx])) h2, rfl⟩
  | [], _ :: _, _, _, _, _, h => by simp [DataW.TrodAll] at h
  | [], [], _ :: _, _, _, _, h => by simp [DataW.TrodAll] at h
  | _ :: _, [], _, _, _, _, h => by simp [DataW.TrodAll] at h
  | _ :: _, _ :: _, [], _, _, _, h => by simp [DataW.TrodAll] at h

theorem trodAll_len {spare : Nat → Bool} {held : Bool} {base : Nat} : ∀ (ts : List TypeId) (vs : List Value) (ds : List (DataW H)) (ps : List MemPlace), DataW.TrodAll enc P w base spare held ts vs ds ps → ds.length = ts.length
  | [], [], [], _, _ => rfl
  | _ :: ts, _ :: vs, _ :: ds, _, h => by
    obtain ⟨p, q, _, h2, _⟩ := h
    simp [trodAll_len ts vs ds q h2]
  | [], _ :: _, _, _, h => by simp [DataW.TrodAll] at h
  | [], [], _ :: _, _, h => by simp [DataW.TrodAll] at h
  | _ :: _, [], _, _, h => by simp [DataW.TrodAll] at h
  | _ :: _, _ :: _, [], _, h => by simp [DataW.TrodAll] at h

/-- A LAW THAT ANSWERS TRUE ON EVERY ABSTRACT INPUT MEETS ITS ROW, at a world and an input. -/
theorem law_calls {S : List TypeId} {f : FuncId} {fn : Func} {s : ChangeSpec} {tb : TypeId} {W : World} {base : Nat} {r : Reach} {args : Array Value} {ds gs : List (DataW H)} {before : List MemPlace}
    (hlaid : laidOutB P = true) (hS : okS P S = true) (hts : ∀ t ∈ fn.params.toList, t ∈ S ∧ P.readableRec t = true ∧ t < P.types.size)
    (htb : P.underlying tb = some .bool) (hres : fn.resultTypes = #[tb]) (hvars : s.vars = [])
    {G : Nat → Option (List D)} (hglob : Globs G W (fun _ => True) (fun _ => False))
    (hlaw : ∀ xs, TyArgs P fn.params.toList xs → Contract P G f xs (.x (.bool true)))
    (hval : ∀ (j : Nat) t v, fn.params[j]? = some t → args[j]? = some v → Value.okWide P W r base t v)
    (hW : DataW.Whole enc P fn.params.toList s.vars false W args.toList ds gs before)
    (hfn : ∀ l, l.length = fn.params.size → s.fn H l = { results := [.lit (.bool true)], args := l }) :
    Calls P f args W fun e W' => ∃ v, e = .returned v ∧ s.post enc P fn false true false false W args v W' := by
  have hlt := hW.lt
  have hW' := hW
  obtain ⟨p, q, hA, hV, rfl, hfz, hnd⟩ := hW
  obtain ⟨xs, hx, hr⟩ := args_abs hS fn.params.toList args.toList ds p (fun t ht => (hts t ht).1) (fun j t v hj hv => hval j t v (by simpa using hj) (by simpa using hv)) hA
  have hrel : CellsRel (RepI W (fun _ => True) (fun _ => False)) args xs := ⟨by have := hr.1; simpa using this, fun i c d hc hd => hr.2 i c d (by simpa using hc) hd⟩
  have hdl := trodAll_len _ _ _ _ hA
  rw [hvars] at hV
  obtain ⟨rfl, rfl⟩ := trodVars_none hV
  refine ((hlaw xs hx).2 W _ args hglob hrel).mono fun e W' ⟨v, he, hb, hv⟩ => ?_
  cases hv
  have hf := hfn (ds ++ []) (by simp [hdl])
  refine ⟨_, he, ds, [], p ++ [], [], p, [], hW', ?_, ?_, ?_, hb.frame _, fun h => nomatch h⟩
  · rw [hf, hres]
    exact trodAll_mk1 (shut_bool htb _)
  · rw [hf]
    simp only [List.append_nil]
    exact trodAll_below hlaid hb _ _ _ _ (fun t ht => (hts t ht).2) (fun x hx => hlt x (by simp [hx])) hA
  · rw [hf, hvars]
    rfl
end
end Go.Abs
/-
  Loops by name: a function's body is run with each loop standing as one step, and each loop is run by its rounds.
-/
namespace Go.Abs
set_option linter.unusedSimpArgs false
set_option linter.unusedVariables false
open Go

/-- Calls, by a table of functions that were run before. -/
def callOf : List (Nat × (List D → Option D)) → FuncId → List D → Option D
  | [], _, _ => none
  | (g, F) :: r, f, ds => if f = g then F ds else callOf r f ds
def CallsOk (P : Program) (G : Nat → Option (List D)) : List (Nat × (List D → Option D)) → Prop
  | [] => True
  | (g, F) :: r => (∀ ds r, F ds = some r → Contract P G g ds r) ∧ CallsOk P G r
theorem callOf_ok {P : Program} {G : Nat → Option (List D)} : ∀ (l : List (Nat × (List D → Option D))), CallsOk P G l → ∀ f ds r, callOf l f ds = some r → Contract P G f ds r
  | [], _, f, ds, r, h => by cases h
  | (g, F) :: l, hl, f, ds, r, h => by
    unfold callOf at h
    split at h
    · rename_i e; subst e; exact hl.1 ds r h
    · exact callOf_ok l hl.2 f ds r h
/-- Calls that hand over objects. -/
def callOfE : List (Nat × (List (Nat × O) → List D → Option (D × List (Nat × O)))) → FuncId → List (Nat × O) → List D → Option (D × List (Nat × O))
  | [], _, _, _ => none
  | (g, F) :: r, f, hs, ds => if f = g then F hs ds else callOfE r f hs ds
def CallsOkE (P : Program) (G : Nat → Option (List D)) : List (Nat × (List (Nat × O) → List D → Option (D × List (Nat × O)))) → Prop
  | [] => True
  | (g, F) :: r => (∀ hs ds r hs', F hs ds = some (r, hs') → ContractE P G g hs ds r hs') ∧ CallsOkE P G r
theorem callOfE_ok {P : Program} {G : Nat → Option (List D)} : ∀ (l : List (Nat × (List (Nat × O) → List D → Option (D × List (Nat × O))))), CallsOkE P G l → ∀ f hs ds r hs', callOfE l f hs ds = some (r, hs') → ContractE P G f hs ds r hs'
  | [], _, f, hs, ds, r, hs', h => by cases h
  | (g, F) :: l, hl, f, hs, ds, r, hs', h => by
    unfold callOfE at h
    split at h
    · rename_i e; subst e; exact hl.1 hs ds r hs' h
    · exact callOfE_ok l hl.2 f hs ds r hs' h

/-- A function of one slice that answers the same on every empty slice, nil or not. -/
def nilF (F : List D → Option D) (r0 : D) : List D → Option D
  | [.sl es] => if es.length = 0 then some r0 else F [.sl es]
  | ds => F ds
theorem contract_nil {P : Program} {G : Nat → Option (List D)} {f : FuncId} {r : D} (h : ∀ A c, Contract P G f [.x (.slice A 0 c)] r) : Contract P G f [.sl []] r := by
  refine ⟨(h none 0).1, fun w ok args hg hr => ?_⟩
  obtain ⟨hl, hr'⟩ := hr
  have h1 : args.size = 1 := by simpa using hl
  have h0 := hr' 0 args[0] (.sl []) (by simp) (by simp)
  have key : ∃ A c, args[0] = .slice A 0 c := by
    generalize args[0] = v at h0
    cases h0 with
    | sl0 A c => exact ⟨A, c, rfl⟩
    | sl => exact ⟨_, _, rfl⟩
  obtain ⟨A, c, hv⟩ := key
  refine (h A c).2 w ok args hg ⟨by simpa using hl, fun i u d hu hd => ?_⟩
  match i, hd with
  | 0, hd =>
    simp at hd
    subst hd
    rw [Array.getElem?_eq_getElem (by omega)] at hu
    injection hu with hu
    rw [← hu, hv]
    exact .x _
theorem nilF_ok {P : Program} {G : Nat → Option (List D)} {f : FuncId} {F : List D → Option D} {r0 : D} (hF : ∀ ds r, F ds = some r → Contract P G f ds r) (h0 : ∀ A c, F [.x (.slice A 0 c)] = some r0) : ∀ ds r, nilF F r0 ds = some r → Contract P G f ds r := by
  intro ds r h
  unfold nilF at h
  split at h
  · rename_i es
    split at h
    · rename_i he
      injection h with h
      subst h
      rw [List.eq_nil_of_length_eq_zero he]
      exact contract_nil (fun A c => hF _ _ (h0 A c))
    · exact hF _ _ h
  · exact hF _ _ h

/-! ### Sequencing that goes through an 'if' -/
def andThen (r : Option (E × St)) (k : St → Option (E × St)) : Option (E × St) := match r with
  | some (.norm, s) => k s
  | r => r
def blockS (id : Nat) (r : Option (E × St)) : Option (E × St) := match r with
  | some (.ex i, s) => if i = id then some (.norm, s) else some (.ex i, s)
  | r => r
def normS (r : Option St) : Option (E × St) := match r with
  | some s => some (.norm, s)
  | none => none
def endS (P : Program) (results : List ResultVar) (r : Option (E × St)) : Option D := match r with
  | some (.norm, s) => resultD P s results
  | some (.ret, s) => resultD P s results
  | _ => none
def endE (P : Program) (rets : Option (List Nat)) (results : List ResultVar) (r : Option (E × St)) : Option (D × List (Nat × O)) := match r with
  | some (.norm, s) => resultE P (headOf rets s) results
  | some (.ret, s) => resultE P s results
  | _ => none
def bindS (r : Option St) (k : St → Option St) : Option St := match r with
  | some s => k s
  | none => none
def guardK (g : Option Bool) (a b : Option St) : Option St := match g with
  | some true => a
  | some false => b
  | none => none
def endK (an : Ann) (ops : List Oper) (s : St) : Option St := some (endR an s ops)
@[simp] theorem endK_eq (an : Ann) (ops : List Oper) (s : St) : endK an ops s = some (endR an s ops) := by cases s; rfl
section
variable {P : Program} {c : Prop} [Decidable c] {s : St} {i id : Nat}
@[congr] theorem andThen_congr {r r' : Option (E × St)} (h : r = r') (k : St → Option (E × St)) : andThen r k = andThen r' k := by rw [h]
@[congr] theorem bindS_congr {r r' : Option St} (h : r = r') (k : St → Option St) : bindS r k = bindS r' k := by rw [h]
@[simp] theorem andThen_norm (k : St → Option (E × St)) : andThen (some (.norm, s)) k = k s := by cases s; rfl
@[simp] theorem andThen_ex (k : St → Option (E × St)) : andThen (some (.ex i, s)) k = some (.ex i, s) := by cases s; rfl
@[simp] theorem andThen_ret (k : St → Option (E × St)) : andThen (some (.ret, s)) k = some (.ret, s) := by cases s; rfl
@[simp] theorem andThen_none (k : St → Option (E × St)) : andThen none k = none := Eq.trans (b := none) rfl rfl
@[simp] theorem andThen_ite (a b : Option (E × St)) (k : St → Option (E × St)) : andThen (if c then a else b) k = if c then andThen a k else andThen b k := by split <;> rfl
@[simp] theorem blockS_norm : blockS id (some (.norm, s)) = some (.norm, s) := by cases s; rfl
@[simp] theorem blockS_ex : blockS id (some (.ex i, s)) = if i = id then some (.norm, s) else some (.ex i, s) := by cases s; rfl
@[simp] theorem blockS_ret : blockS id (some (.ret, s)) = some (.ret, s) := by cases s; rfl
@[simp] theorem blockS_none : blockS id none = none := rfl
@[simp] theorem blockS_ite (a b : Option (E × St)) : blockS id (if c then a else b) = if c then blockS id a else blockS id b := by split <;> rfl
@[simp] theorem normS_some : normS (some s) = some (.norm, s) := by cases s; rfl
@[simp] theorem normS_none : normS none = none := rfl
@[simp] theorem normS_ite (a b : Option St) : normS (if c then a else b) = if c then normS a else normS b := by split <;> rfl
@[simp] theorem endS_norm (rs : List ResultVar) : endS P rs (some (.norm, s)) = resultD P s rs := by cases s; rfl
@[simp] theorem endS_ret (rs : List ResultVar) : endS P rs (some (.ret, s)) = resultD P s rs := by cases s; rfl
@[simp] theorem endS_none (rs : List ResultVar) : endS P rs none = none := rfl
@[simp] theorem endS_ite (rs : List ResultVar) (a b : Option (E × St)) : endS P rs (if c then a else b) = if c then endS P rs a else endS P rs b := by split <;> rfl
@[simp] theorem endE_norm (rt : Option (List Nat)) (rs : List ResultVar) : endE P rt rs (some (.norm, s)) = resultE P (headOf rt s) rs := by cases s; rfl
@[simp] theorem endE_ret (rt : Option (List Nat)) (rs : List ResultVar) : endE P rt rs (some (.ret, s)) = resultE P s rs := by cases s; rfl
@[simp] theorem endE_none (rt : Option (List Nat)) (rs : List ResultVar) : endE P rt rs none = none := rfl
@[simp] theorem endE_ite (rt : Option (List Nat)) (rs : List ResultVar) (a b : Option (E × St)) : endE P rt rs (if c then a else b) = if c then endE P rt rs a else endE P rt rs b := by split <;> rfl
@[simp] theorem eres_none (s0 : St) (dst : Option Nat) (σ : List (Nat × Nat)) : eres s0 dst σ none = none := rfl
@[simp] theorem eres_ite (s0 : St) (dst : Option Nat) (σ : List (Nat × Nat)) (a b : Option (D × List (Nat × O))) : eres s0 dst σ (if c then a else b) = if c then eres s0 dst σ a else eres s0 dst σ b := by split <;> rfl
@[simp] theorem eres_some (s0 : St) (dst : Option Nat) (σ : List (Nat × Nat)) (r : D) (hs' : List (Nat × O)) : eres s0 dst σ (some (r, hs')) = match backs σ (dst.getD 999) hs' with
    | τ => if nodupN τ = true ∧ nodupN (swp τ) = true ∧ freeN s0.h σ τ = true then
        match renT false τ r, renHs τ hs' with
        | some r', some hs'' => some (putD dst ⟨killTs (loose hs' σ) s0.t, setHs (clearH (loose hs' σ) (gone hs' σ) s0.h) hs''⟩ r')
        | _, _ => none
      else none := by cases s0; rfl
@[simp] theorem bindS_some (k : St → Option St) : bindS (some s) k = k s := by cases s; rfl
@[simp] theorem bindS_none (k : St → Option St) : bindS none k = none := Eq.trans (b := none) rfl rfl
@[simp] theorem bindS_ite (a b : Option St) (k : St → Option St) : bindS (if c then a else b) k = if c then bindS a k else bindS b k := by split <;> rfl
end
section
variable {P : Program} {call : CT} {an : Ann} {N : Nat} {ops : Array Oper}
/-- An operation that is left out. -/
def skipO (N : Nat) (o : Oper) (s : St) : Option St := match o.dst with
  | some t => if t < N then some (s.put t (.x undef)) else none
  | none => some s
def eopO (P : Program) (call : CT) (an : Ann) (N : Nat) (o : Oper) (s : St) : Option St := eop P call an N s o
/-- Behind a guard its slot holds what was found. -/
def guardC (s : St) (t : Nat) (want : Bool) (v : D) (a b : St → Option St) : Option St := match v with
  | .x (.bool p) => if p = want then a (s.put t (.x (.bool want))) else b (s.put t (.x (.bool !want)))
  | .x (.tuple _) => b s
  | _ => none
def guardG (ops : Array Oper) (s : St) (g : Option (Nat × Bool)) (a b : St → Option St) : Option St := match g with
  | none => a s
  | some (j, want) => match ops[j]? with
    | some oj => match oj.dst with
      | some t => guardC s t want (getT s.t t) a b
      | none => b s
    | none => b s
theorem setT_same {l : List (Nat × D)} {t : Nat} {v : Value} (h : getT l t = .x v) : setT l t (.x v) = l := by
  induction l with
  | nil => cases h
  | cons x r ih =>
    obtain ⟨k, d⟩ := x
    unfold getT at h
    unfold setT
    split at h
    · rename_i e; rw [if_pos e, h]
    · rename_i e; rw [if_neg e, ih h]
theorem guardG_eq (s : St) (g : Option (Nat × Bool)) (a b : St → Option St) : guardK (guardV ops (getT s.t) g) (a s) (b s) = guardG ops s g a b := by
  unfold guardG guardV
  rcases g with _ | ⟨j, want⟩
  · rfl
  · simp only []
    rcases ops[j]? with _ | oj
    · rfl
    · simp only []
      rcases oj.dst with _ | t
      · rfl
      · simp only []
        unfold guardC
        cases hv : getT s.t t with
        | x v =>
          cases v with
          | bool p =>
            simp only [St.put]
            by_cases hp : p = want
            · subst hp
              rw [setT_same hv, if_pos rfl, show (p == p) = true by simp]
              rfl
            · have e : p = !want := by cases p <;> cases want <;> simp_all
              rw [if_neg hp, ← e, setT_same hv, show (p == want) = false by simp [hp]]
              rfl
          | _ => rfl
        | _ => rfl
@[simp] theorem stepG_eq (s : St) (o : Oper) : stepG P call an N ops s o = guardG ops s o.guard (eopO P call an N o) (skipO N o) := by
  rw [← guardG_eq]
  unfold stepG guardK
  rcases guardV ops (getT s.t) o.guard with _ | (_ | _) <;> rfl
@[simp] theorem skipO_eq (o : Oper) (s : St) : skipO N o s = match o.dst with
  | some t => if t < N then some (s.put t (.x undef)) else none
  | none => some s := by cases s; rfl
@[simp] theorem eopO_eq (o : Oper) (s : St) : eopO P call an N o s = eop P call an N s o := by cases s; rfl
@[simp] theorem guardC_bool (s : St) (t : Nat) (want p : Bool) (a b : St → Option St) : guardC s t want (.x (.bool p)) a b = if p = want then a (s.put t (.x (.bool want))) else b (s.put t (.x (.bool !want))) := by cases s; rfl
@[simp] theorem guardC_tuple (s : St) (t : Nat) (want : Bool) (p : Array Value) (a b : St → Option St) : guardC s t want (.x (.tuple p)) a b = b s := by cases s; rfl
@[simp] theorem guardG_none (s : St) (a b : St → Option St) : guardG ops s none a b = a s := by cases s; rfl
@[simp] theorem guardG_some (s : St) (j : Nat) (want : Bool) (a b : St → Option St) : guardG ops s (some (j, want)) a b = match ops[j]? with
    | some oj => match oj.dst with
      | some t => guardC s t want (getT s.t t) a b
      | none => b s
    | none => b s := by cases s; rfl
@[simp] theorem runSeq_nil (s : St) : runSeq P call an N ops [] s = some s := by cases s; rfl
@[simp] theorem runSeq_cons (o : Oper) (r : List Oper) (s : St) : runSeq P call an N ops (o :: r) s = bindS (stepG P call an N ops s o) (runSeq P call an N ops r) := by
  rw [runSeq, bindS.eq_def]
  all_goals rcases stepG P call an N ops s o with _ | _ <;> rfl
def dopO (P : Program) (call : CT) (N : Nat) (ops : Array Oper) (m i : Nat) (o : Oper) (s : St) : Option St := match storeTgt ops o with
    | some t => dstore P s t o.op
    | none => match o.dst with
      | some t => if t < N then
          match aopF P call (getT s.t) (maskH ops m i o (getH s.h)) t o.op with
          | some (d, none) => some (s.put t d)
          | some (d, some ob) => match getH s.h t with
            | none => some (s.putO t d ob)
            | some _ => none
          | none => none
        else none
      | none => match aopF P call (getT s.t) (maskH ops m i o (getH s.h)) 0 o.op with
        | some (_, none) => some s
        | _ => none
@[simp] theorem dopO_eq (m i : Nat) (o : Oper) (s : St) : dopO P call N ops m i o s = match storeTgt ops o with
    | some t => dstore P s t o.op
    | none => match o.dst with
      | some t => if t < N then
          match aopF P call (getT s.t) (maskH ops m i o (getH s.h)) t o.op with
          | some (d, none) => some (s.put t d)
          | some (d, some ob) => match getH s.h t with
            | none => some (s.putO t d ob)
            | some _ => none
          | none => none
        else none
      | none => match aopF P call (getT s.t) (maskH ops m i o (getH s.h)) 0 o.op with
        | some (_, none) => some s
        | _ => none := by cases s; rfl
@[simp] theorem dstep_eq (m i : Nat) (s : St) (o : Oper) : dstep P call N ops m i s o = guardG ops s o.guard (dopO P call N ops m i o) (skipO N o) := by
  rw [← guardG_eq]
  unfold dstep guardK
  rcases guardV ops (getT s.t) o.guard with _ | (_ | _) <;> rfl
@[simp] theorem runDraw_nil (m k : Nat) (s : St) : runDraw P call an N ops m k [] s = some s := by cases s; rfl
@[simp] theorem runDraw_cons (m k : Nat) (o : Oper) (r : List Oper) (s : St) : runDraw P call an N ops m k (o :: r) s = if k < m then bindS (dstep P call N ops m k s o) (runDraw P call an N ops m (k + 1) r) else runSeq P call an N ops (o :: r) s := by
  rw [runDraw, bindS.eq_def]
  all_goals rcases dstep P call N ops m k s o with _ | _ <;> rfl
@[simp] theorem runFree_nil (m k : Nat) (s : St) : runFree P call N ops m k [] s = some s := by cases s; rfl
@[simp] theorem runFree_cons (m k : Nat) (o : Oper) (r : List Oper) (s : St) : runFree P call N ops m k (o :: r) s = bindS (dstep P call N ops m k s o) (runFree P call N ops m (k + 1) r) := by
  rw [runFree, bindS.eq_def]
  all_goals rcases dstep P call N ops m k s o with _ | _ <;> rfl
/-- Two alternatives that come to the same. -/
noncomputable def joinT (lf : Bool) (x y : Option St) : Option St := if lf = true then x else match x, y with
  | some a, some b => open Classical in if a = b then some a else none
  | _, _ => none
@[simp] theorem joinT_true (x y : Option St) : joinT true x y = x := by cases x <;> rfl
@[simp] theorem joinT_same (x : Option St) : joinT false x x = x := by cases x <;> simp [joinT]
@[simp] theorem joinT_ite (lf : Bool) (c : Prop) [Decidable c] (a b x y : Option St) : joinT lf (if c then a else b) (if c then x else y) = if c then joinT lf a x else joinT lf b y := by split <;> rfl
@[simp] theorem finE_eq (l : List Oper) (s : St) : finE an l s = endR an s l := by cases s; rfl
@[simp] theorem isLeaf_leaf : Tr.isLeaf .leaf = true := by simp [Tr.isLeaf]
@[simp] theorem isLeaf_alt (i : Nat) (x y : Tr) : Tr.isLeaf (.alt i x y) = false := by simp [Tr.isLeaf]
@[simp] theorem stepAt_eq (i : Nat) (s : St) : stepAt P call an N ops i s = match ops[i]? with
  | some o => stepG P call an N ops s o
  | none => none := by cases s; rfl
@[simp] theorem runTr_leaf (fin : St → St) (s : St) : runTr P call an N ops fin .leaf s = some (fin s) := by cases s; rfl
@[simp] theorem runTr_alt_eq (fin : St → St) (i : Nat) (sub rest : Tr) (s : St) : runTr P call an N ops fin (.alt i sub rest) s = joinT rest.isLeaf (bindS (stepAt P call an N ops i s) (runTr P call an N ops fin sub)) (runTr P call an N ops fin rest s) := by
  rw [runTr, bindS.eq_def]
  unfold joinT
  rcases stepAt P call an N ops i s with _ | s1
  · cases rest <;> simp [Tr.isLeaf]
  · dsimp only
    rcases runTr P call an N ops fin sub s1 with _ | a
    · cases rest <;> simp [Tr.isLeaf]
    · dsimp only
      rcases runTr P call an N ops fin rest s with _ | b <;> cases rest <;> simp [Tr.isLeaf]
@[simp] theorem tailN_false (id : Nat) : tailN an false id = none := by simp [tailN]
@[simp] theorem tailN_true (id : Nat) : tailN an true id = an.tails.lookup id := by simp [tailN]
@[simp] theorem runR_eq (id : Nat) (draw : Bool) (s : St) : runR P call an N id ops draw s = match tailN an draw id with
  | some tr => bindS (runFree P call N ops (drawN an id) 0 (ops.toList.take (drawN an id)) s) (runTr P call an N ops (finE an ops.toList) tr)
  | none => bindS (if draw = true then runDraw P call an N ops (drawN an id) 0 ops.toList s else runSeq P call an N ops ops.toList s) (endK an ops.toList) := by
  unfold runR bindS
  rcases tailN an draw id with _ | tr
  · dsimp only
    rcases (if draw = true then runDraw P call an N ops (drawN an id) 0 ops.toList s else runSeq P call an N ops ops.toList s) with _ | _ <;> rfl
  · dsimp only
    all_goals rcases runFree P call N ops (drawN an id) 0 (ops.toList.take (drawN an id)) s with _ | _ <;> rfl
end

noncomputable def runS (P : Program) (call : CT) (L : Nat → St → Option (E × St)) (an : Ann) (N : Nat) : Code → St → Option (E × St)
  | .skip, s => some (.norm, s)
  | .region id ops draw, s => normS (runR P call an N id ops draw s)
  | .seq x y, s => andThen (runS P call L an N x s) (runS P call L an N y)
  | .cond (.tmp t) x y, s => match getT s.t t with
    | .x (.bool b) => if b = true then runS P call L an N x (if an.cond.contains t = true then ⟨delT s.t t, s.h⟩ else s) else runS P call L an N y (if an.cond.contains t = true then ⟨delT s.t t, s.h⟩ else s)
    | _ => none
  | .block id c, s => blockS id (runS P call L an N c s)
  | .loop c, s => match rid c with
    | some i => L i s
    | none => none
  | .exit id, s => some (.ex id, headOf (an.exits.lookup id) s)
  | .ret, s => some (.ret, headOf an.rets s)
  | .scope c, s => runS P call L an N c s
  | .label _, s => some (.norm, s)
  | _, _ => none

def loopAt (body : Code) (i : Nat) : Code := ((loopsIn body).find? (fun c => rid c == some i)).getD .skip
def okLoops (body : Code) : Bool := (loopsIn body).all (fun c => (rid c).isSome) && ((loopsIn body).map rid).Nodup
/-- A loop of a body, so many rounds. -/
noncomputable def atN (P : Program) (call : CT) (an : Ann) (N : Nat) (body : Code) (i n : Nat) (s : St) : Option (E × St) := loopN (runC P call an N (loopAt body i)) (an.loops.lookup i) n s
/-- A loop of a body, entered at a state of which what is dead is forgotten. -/
noncomputable def atH (P : Program) (call : CT) (an : Ann) (N : Nat) (body : Code) (n i : Nat) (s : St) : Option (E × St) := atN P call an N body i n (headOf (an.loops.lookup i) s)
/-- One round of a loop. -/
noncomputable def stepL (P : Program) (call : CT) (an : Ann) (N : Nat) (body : Code) (i : Nat) (s : St) : Option (E × St) :=
  runS P call (atH P call an N body bigL) an N (loopAt body i) s

section
variable {P : Program} {call : CT} {an : Ann} {N : Nat} {body : Code}

theorem find_rid {l : List Code} (hnd : (l.map rid).Nodup) {c : Code} (hc : c ∈ l) {i : Nat} (hi : rid c = some i) : l.find? (fun c => rid c == some i) = some c := by
  induction l with
  | nil => cases hc
  | cons x r ih =>
    simp only [List.map_cons, List.nodup_cons] at hnd
    rcases List.mem_cons.1 hc with rfl | hc
    · simp [List.find?, hi]
    · have hx : rid x ≠ some i := fun e => hnd.1 (by rw [e, ← hi]; exact List.mem_map_of_mem hc)
      have : (rid x == some i) = false := by simpa using hx
      rw [List.find?_cons, this]
      exact ih hnd.2 hc
theorem loopAt_of (hok : okLoops body = true) {c : Code} (hc : c ∈ loopsIn body) {i : Nat} (hi : rid c = some i) : loopAt body i = c := by
  simp only [okLoops, Bool.and_eq_true, decide_eq_true_eq] at hok
  rw [loopAt, find_rid hok.2 hc hi]
  rfl

theorem runS_eq (hok : okLoops body = true) : ∀ (c : Code), (∀ x ∈ loopsIn c, x ∈ loopsIn body) → ∀ s, runS P call (atH P call an N body bigL) an N c s = runC P call an N c s := by
  intro c
  induction c with
  | seq x y ihx ihy =>
    intro hs s
    simp only [loopsIn, List.mem_append] at hs
    unfold runS runC
    have e1 := ihx (fun z hz => hs z (.inl hz))
    have e2 : runS P call (atH P call an N body bigL) an N y = runC P call an N y := funext (ihy (fun z hz => hs z (.inr hz)))
    simp only [e1, e2]
    unfold andThen
    rcases runC P call an N x s with _ | ⟨_ | _ | _, _⟩ <;> rfl
  | cond c x y ihx ihy =>
    intro hs s
    simp only [loopsIn, List.mem_append] at hs
    cases c with
    | tmp t =>
      have e1 := ihx (fun z hz => hs z (.inl hz))
      have e2 := ihy (fun z hz => hs z (.inr hz))
      simp only [runS, runC, e1, e2]
      all_goals rfl
    | _ => simp [runS, runC]
  | scope c ih =>
    intro hs s
    have e1 := ih hs s
    simp only [runS, runC]
    exact e1
  | block id c ih =>
    intro hs s
    have e1 := ih hs
    simp only [runS, runC, e1]
    unfold blockS
    rcases runC P call an N c s with _ | ⟨_ | _ | _, _⟩ <;> rfl
  | loop c ih =>
    intro hs s
    simp only [loopsIn, List.mem_cons, forall_eq_or_imp] at hs
    unfold runS runC
    have h1 := hok
    simp only [okLoops, Bool.and_eq_true, List.all_eq_true] at h1
    have h2 := h1.1 c hs.1
    cases hr : rid c with
    | none => rw [hr] at h2; cases h2
    | some i =>
      simp only [atH, atN, loopAt_of hok hs.1 hr, liveOf, hr]
  | region id ops draw =>
    intro _ s
    unfold runS runC normS
    rcases runR P call an N id ops draw s with _ | _ <;> rfl
  | _ => intro _ s; simp [runS, runC]

theorem loopsIn_mem : ∀ (b c : Code), c ∈ loopsIn b → ∀ x ∈ loopsIn c, x ∈ loopsIn b := by
  intro b
  induction b with
  | seq x y ihx ihy =>
    intro c hc z hz
    simp only [loopsIn, List.mem_append] at hc ⊢
    exact hc.imp (fun h => ihx c h z hz) (fun h => ihy c h z hz)
  | cond _ x y ihx ihy =>
    intro c hc z hz
    simp only [loopsIn, List.mem_append] at hc ⊢
    exact hc.imp (fun h => ihx c h z hz) (fun h => ihy c h z hz)
  | block _ c ih => exact ih
  | scope c ih => exact ih
  | loop b ih =>
    intro c hc z hz
    simp only [loopsIn, List.mem_cons] at hc ⊢
    rcases hc with rfl | hc
    · exact .inr hz
    · exact .inr (ih c hc z hz)
  | _ => intro c hc; simp [loopsIn] at hc

theorem loopAt_loops (i : Nat) : ∀ x ∈ loopsIn (loopAt body i), x ∈ loopsIn body := by
  unfold loopAt
  cases h : (loopsIn body).find? (fun c => rid c == some i) with
  | none => intro x hx; simp [loopsIn] at hx
  | some c => exact loopsIn_mem body c (List.mem_of_find?_eq_some h)

theorem atN_zero (i : Nat) (s : St) : atN P call an N body i 0 s = none := rfl
theorem atN_succ (hok : okLoops body = true) (i n : Nat) (s : St) : atN P call an N body i (n + 1) s = andThen (stepL P call an N body i s) (atH P call an N body n i) := by
  unfold atN stepL andThen
  rw [runS_eq hok _ (loopAt_loops i), loopN]
  rcases runC P call an N (loopAt body i) s with _ | ⟨_ | _ | _, _⟩ <;> rfl

/-- A function's body with its loops standing as steps. -/
noncomputable def runG (P : Program) (call : CT) (L : Nat → St → Option (E × St)) (an : Ann) (N : Nat) (body : Code) (results : List ResultVar) (ds : List D) : Option D :=
  if ds.length ≤ N then
    endS P results (runS P call L an N body (init an ds))
  else none
theorem runG_eq (hok : okLoops body = true) (results : List ResultVar) (ds : List D) : runF P call an N body results ds = runG P call (atH P call an N body bigL) an N body results ds := by
  unfold runF runG endS
  rw [runS_eq hok body (fun _ h => h)]
  all_goals split <;> first | rfl | (rcases runC P call an N body (init an ds) with _ | ⟨_ | _ | _, _⟩ <;> rfl)
noncomputable def runGE (P : Program) (call : CT) (L : Nat → St → Option (E × St)) (an : Ann) (N : Nat) (body : Code) (results : List ResultVar) (hs : List (Nat × O)) (ds : List D) : Option (D × List (Nat × O)) :=
  if ds.length ≤ N then
    endE P an.rets results (runS P call L an N body (initE an hs ds))
  else none
theorem runGE_eq (hok : okLoops body = true) (results : List ResultVar) (hs : List (Nat × O)) (ds : List D) : runE P call an N body results hs ds = runGE P call (atH P call an N body bigL) an N body results hs ds := by
  unfold runE runGE endE
  rw [runS_eq hok body (fun _ h => h)]
  all_goals split <;> first | rfl | (rcases runC P call an N body (initE an hs ds) with _ | ⟨_ | _ | _, _⟩ <;> rfl)
end

/-- 'blocked', an operation at a time. -/
def aftB (o : Oper) (j : Nat) : Bool := (aft o).contains j
def blkL (ops : Array Oper) (id i : Nat) (a : Oper) : Nat → Nat → List Oper → Bool
  | 0, _, _ => false
  | _ + 1, _, [] => false
  | m + 1, j, o :: r => if o.dst = some id ∨ storeTgt ops o = some id then ((j != i && !(aftB a j || aftB o i)) || blkL ops id i a m (j + 1) r) else blkL ops id i a m (j + 1) r
theorem blkL_eq (ops : Array Oper) (id i : Nat) (a : Oper) : ∀ (m j : Nat) (l : List Oper), blkL ops id i a m j l = (List.range m).any fun k => match l[k]? with
    | some o => (j + k) != i && wrs ops o id && !ordered i (j + k) a o
    | none => false
  | 0, _, _ => rfl
  | m + 1, j, [] => by simp [blkL]
  | m + 1, j, o :: r => by
    rw [blkL, blkL_eq ops id i a m (j + 1) r, List.range_succ_eq_map, List.any_cons, List.any_map]
    have e : (fun k => match r[k]? with
        | some o => (j + 1 + k) != i && wrs ops o id && !ordered i (j + 1 + k) a o
        | none => false) = ((fun k => match (o :: r)[k]? with
        | some o => (j + k) != i && wrs ops o id && !ordered i (j + k) a o
        | none => false) ∘ Nat.succ) := by
      funext k
      simp only [Function.comp, List.getElem?_cons_succ, Nat.succ_eq_add_one]
      rw [show j + 1 + k = j + (k + 1) by omega]
    rw [e]
    have hw : wrs ops o id = decide (o.dst = some id ∨ storeTgt ops o = some id) := by
      rw [Bool.eq_iff_iff]
      simp only [wrs, Bool.or_eq_true, beq_iff_eq, decide_eq_true_eq]
    by_cases h : o.dst = some id ∨ storeTgt ops o = some id
    · simp only [h, if_true, List.getElem?_cons_zero, hw, decide_true, Nat.add_zero, Bool.and_true]
      rfl
    · simp only [h, if_false, List.getElem?_cons_zero, hw, decide_false, Nat.add_zero, Bool.and_false, Bool.false_and, Bool.false_or]
theorem blocked_eq (ops : Array Oper) (m i : Nat) (o : Oper) (id : Nat) : blocked ops m i o id = blkL ops id i o m 0 ops.toList := by
  rw [blkL_eq]
  unfold blocked
  congr 1
  funext k
  simp
  all_goals rfl
attribute [simp] blocked_eq blkL aftB aft Region.binds
section
variable (P : Program) (call : CT) (L : Nat → St → Option (E × St)) (an : Ann) (N : Nat) (s : St)
@[simp] theorem runS_skip : runS P call L an N .skip s = some (.norm, s) := by cases s; rfl
@[simp] theorem runS_region (id : Nat) (ops : Array Oper) (draw : Bool) : runS P call L an N (.region id ops draw) s = normS (runR P call an N id ops draw s) := by cases s; rfl
@[simp] theorem runS_seq (x y : Code) : runS P call L an N (.seq x y) s = andThen (runS P call L an N x s) (runS P call L an N y) := by cases s; rfl
@[simp] theorem runS_cond (t : Nat) (x y : Code) : runS P call L an N (.cond (.tmp t) x y) s = match getT s.t t with
    | .x (.bool b) => if b = true then runS P call L an N x (if an.cond.contains t = true then ⟨delT s.t t, s.h⟩ else s) else runS P call L an N y (if an.cond.contains t = true then ⟨delT s.t t, s.h⟩ else s)
    | _ => none := by cases s; rfl
@[simp] theorem runS_scope (c : Code) : runS P call L an N (.scope c) s = runS P call L an N c s := by cases s; rfl
@[simp] theorem runS_label (l : Nat) : runS P call L an N (.label l) s = some (.norm, s) := by cases s; rfl
@[simp] theorem runS_block (id : Nat) (c : Code) : runS P call L an N (.block id c) s = blockS id (runS P call L an N c s) := by cases s; rfl
@[simp] theorem runS_loop (c : Code) : runS P call L an N (.loop c) s = match rid c with
    | some i => L i s
    | none => none := by cases s; rfl
@[simp] theorem runS_exit (id : Nat) : runS P call L an N (.exit id) s = some (.ex id, headOf (an.exits.lookup id) s) := by cases s; rfl
@[simp] theorem runS_ret : runS P call L an N .ret s = some (.ret, headOf an.rets s) := by cases s; rfl
end
/-! ### Results of several ways, as one -/
section
variable {c : Prop} [Decidable c]
@[simp] theorem ite_int (k : IntKind) (a b : Int) : (if c then some (D.x (.int k a)) else some (D.x (.int k b))) = some (D.x (.int k (if c then a else b))) := by split <;> rfl
@[simp] theorem ite_bool (a b : Bool) : (if c then some (D.x (.bool a)) else some (D.x (.bool b))) = some (D.x (.bool (if c then a else b))) := by split <;> rfl
@[simp] theorem ite_string (a b : ByteArray) : (if c then some (D.x (.string a)) else some (D.x (.string b))) = some (D.x (.string (if c then a else b))) := by split <;> rfl
@[simp] theorem ite_tup (a b : List D) : (if c then some (D.tup a) else some (D.tup b)) = some (D.tup (if c then a else b)) := by split <;> rfl
@[simp] theorem ite_agg (a b : List D) : (if c then some (D.agg a) else some (D.agg b)) = some (D.agg (if c then a else b)) := by split <;> rfl
@[simp] theorem ite_own (f : Bool) (a b : List (List D)) : (if c then some (D.own f a) else some (D.own f b)) = some (D.own f (if c then a else b)) := by split <;> rfl
@[simp] theorem ite_cons (x y : D) (a b : List D) : (if c then x :: a else y :: b) = (if c then x else y) :: (if c then a else b) := by split <;> rfl
@[simp] theorem iteD_int (k : IntKind) (a b : Int) : (if c then D.x (.int k a) else D.x (.int k b)) = D.x (.int k (if c then a else b)) := by split <;> rfl
@[simp] theorem iteD_bool (a b : Bool) : (if c then D.x (.bool a) else D.x (.bool b)) = D.x (.bool (if c then a else b)) := by split <;> rfl
@[simp] theorem iteD_string (a b : ByteArray) : (if c then D.x (.string a) else D.x (.string b)) = D.x (.string (if c then a else b)) := by split <;> rfl
@[simp] theorem iteD_agg (a b : List D) : (if c then D.agg a else D.agg b) = D.agg (if c then a else b) := by split <;> rfl
@[simp] theorem iteD_own (f : Bool) (a b : List (List D)) : (if c then D.own f a else D.own f b) = D.own f (if c then a else b) := by split <;> rfl
end
attribute [simp] bodyOf callOf callOfE runG runGE stepL loopAt loopsIn
end Go.Abs
/-
  What an abstract input of a type looks like, type by type.
-/
namespace Go.Abs
set_option linter.unusedSimpArgs false
set_option linter.unusedVariables false
open Go
section
variable {P : Program} {n : Nat} {t e : TypeId} {cs : List D}
theorem TyC.int {k : IntKind} (hu : P.underlying t = some (.int k)) (h : TyC P n t cs) : ∃ v, cs = [.x (.int k v)] ∧ (Lit.int k v).wf = true := by
  cases n with
  | zero => exact absurd h (by simp [TyC])
  | succ n => unfold TyC at h; rw [hu] at h; exact h
theorem TyC.i64 (hu : P.underlying t = some (.int .i64)) (h : TyC P n t cs) : ∃ v : Int, cs = [.x (.int .i64 v)] ∧ -9223372036854775808 ≤ v ∧ v ≤ 9223372036854775807 := by
  obtain ⟨v, h1, h2⟩ := TyC.int hu h
  simp [Lit.wf, IntKind.min, IntKind.max, IntKind.signed, IntKind.bits] at h2
  exact ⟨v, h1, by omega, by omega⟩
theorem TyC.bool (hu : P.underlying t = some .bool) (h : TyC P n t cs) : ∃ b, cs = [.x (.bool b)] := by
  cases n with
  | zero => exact absurd h (by simp [TyC])
  | succ n => unfold TyC at h; rw [hu] at h; exact h
theorem TyC.string (hu : P.underlying t = some .string) (h : TyC P n t cs) : ∃ s : ByteArray, cs = [.x (.string s)] ∧ s.size ≤ 9223372036854775807 := by
  cases n with
  | zero => exact absurd h (by simp [TyC])
  | succ n => unfold TyC at h; rw [hu] at h; exact h
theorem TyC.slice (hu : P.underlying t = some (.slice e)) (h : TyC P n t cs) : ∃ (es : List (List D)) (m : Nat), cs = [.sl es] ∧ es.length ≤ 9223372036854775807 ∧ ∀ x ∈ es, TyC P m e x := by
  cases n with
  | zero => exact absurd h (by simp [TyC])
  | succ n =>
    unfold TyC at h
    rw [hu] at h
    obtain ⟨es, h1, h2, h3⟩ := h
    exact ⟨es, n, h1, h2, h3⟩
theorem TyC.struct {fs : Array Field} (hu : P.underlying t = some (.struct fs)) (h : TyC P n t cs) : cs.length = P.cellsOf t ∧ ∃ m, ∀ f ∈ fs.toList, TyC P m f.type ((cs.drop f.offset).take (P.cellsOf f.type)) := by
  cases n with
  | zero => exact absurd h (by simp [TyC])
  | succ n => unfold TyC at h; rw [hu] at h; exact ⟨h.1, n, h.2⟩
theorem TyC.array {m : Nat} (hu : P.underlying t = some (.array m e)) (h : TyC P n t cs) : cs.length = P.cellsOf t ∧ ∃ k, ∀ i, i < m → TyC P k e ((cs.drop (i * P.cellsOf e)).take (P.cellsOf e)) := by
  cases n with
  | zero => exact absurd h (by simp [TyC])
  | succ n => unfold TyC at h; rw [hu] at h; exact ⟨h.1, n, h.2⟩
/-- A value that is no struct and no array. -/
theorem TyV.cell {d : D} (ha : aggT P t = some false) (h : TyV P t d) : ∃ n, TyC P n t [d] := by
  obtain ⟨n, cs, h1, h2⟩ := h
  unfold aggT at ha
  split at ha
  · cases ha
  · cases ha
  · rename_i d' h3 h4 h5
    rw [h5] at h2
    split at h2
    · rename_i fs he
      injection he with he
      exact absurd he (h3 fs)
    · rename_i m e he
      injection he with he
      exact absurd he (h4 m e)
    · subst h2; exact ⟨n, h1⟩
  · cases ha
theorem TyV.agg {d : D} (ha : aggT P t = some true) (h : TyV P t d) : ∃ n cs, d = .agg cs ∧ TyC P n t cs := by
  obtain ⟨n, cs, h1, h2⟩ := h
  unfold aggT at ha
  split at ha
  · rename_i h3; rw [h3] at h2; exact ⟨n, cs, h2, h1⟩
  · rename_i h3; rw [h3] at h2; exact ⟨n, cs, h2, h1⟩
  · cases ha
  · cases ha
end
end Go.Abs
