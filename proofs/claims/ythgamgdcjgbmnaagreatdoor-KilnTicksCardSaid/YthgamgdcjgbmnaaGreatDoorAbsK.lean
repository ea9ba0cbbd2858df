/-
  One operation of a region as a step of the state; what a free operation looks at; both for regions that draw their order.
-/
import Derived.Test.YthgamgdcjgbmnaaGreatDoorAbsW
namespace Go.Abs
set_option linter.unusedSimpArgs false
set_option linter.unusedVariables false
open Go Go.RowKit

def creates : Op → Bool
  | .alloc _ => true
  | .box _ _ => true
  | .buildSlice _ _ _ => true
  | .makeSlice _ _ _ => true
  | _ => false

def fstep (P : Program) (call : CT) (N : Nat) (s : St) (o : Oper) : Option St :=
  match o.dst with
  | some t => if t < N then
      match (if creates o.op = true then s.dropB t else s) with
      | s0 => match aop P call (getT s0.t) (getH s0.h) t o.op with
        | some (d, none) => some (s0.put t d)
        | some (d, some ob) => match getH s0.h t with
          | none => some (s0.putO t d ob)
          | some _ => none
        | none => none
    else none
  | none => match aop P call (getT s.t) (getH s.h) 0 o.op with
    | some (_, none) => some s
    | _ => none

def moveRow (s : St) (id t : Nat) : Option St :=
  if t = id then some (s.put t (.row t))
  else match s.drop t with
    | s0 => match getH s0.h id with
      | some (.row e sz fl es) => some ⟨setT (killT id s0.t) t (.row t), setH (killL id s0.h) t (.row e sz fl es)⟩
      | _ => none
def assignD (P : Program) (an : Ann) (N : Nat) (s : St) (o : Oper) (x : Operand) : Option St :=
  match o.dst with
  | none => none
  | some t => if t < N then
      match ev (getT s.t) x with
      | .row id => if an.rows.contains t = true then moveRow s id t
          else match frz an.keep s x with
            | s1 => some (s1.put t (ev (getT s1.t) x))
      | .emp => if an.rows.contains t = true then
            match P.underlying o.type with
            | some (.slice e) => match szT P e with
              | some (n + 1) => match s.drop t with
                | s0 => some (s0.putO t (.row t) (.row e (n + 1) true []))
              | _ => none
            | _ => none
          else some (s.put t .emp)
      | _ => match frz an.keep s x with
        | s1 => some (s1.put t (ev (getT s1.t) x))
    else none
/-- A row goes to another name, under which slot q reads it. -/
def moveO (s : St) (id nm q : Nat) : St :=
  if nm = id then s
  else if nm < 1000 ∨ 10000 ≤ nm then
    match s.drop nm with
    | s0 => match getT s0.t q, getH s0.h id with
      | .row i, some (.row e sz fl es) => if i = id then ⟨setT (killT id s0.t) q (.row nm), setH (killL id s0.h) nm (.row e sz fl es)⟩ else s0
      | _, _ => s0
  else s
def cidOf (b off : Nat) : Nat := 10000 + 100 * b + off
/-- A cell of a box holds its row under its own name. -/
def crow1 (s : St) (b off e sz : Nat) : St :=
  match getH s.h b, getH s.h (cidOf b off) with
  | some (.box ty cs), none => match cs[off]? with
    | some .emp => if sz = 0 then s else ⟨s.t, setH (setH s.h (cidOf b off) (.row e sz true [])) b (.box ty (cs.set off (.row (cidOf b off))))⟩
    | some (.mp k) => if k = cidOf b off ∨ k = b then s else match getH s.h k with
      | some (.mp es) => ⟨killT k s.t, setH (setH (killL k s.h) (cidOf b off) (.mp es)) b (.box ty ((cs.map (kill1 k)).set off (.mp (cidOf b off))))⟩
      | _ => s
    | _ => s
  | _, _ => s
def crowsS (b bt : Nat) : List (Nat × Nat × Nat × Nat) → St → St
  | [], s => s
  | (t, off, e, sz) :: r, s => if t = bt then crowsS b bt r (crow1 s b off e sz) else crowsS b bt r s
def isCrow (bt off : Nat) : List (Nat × Nat × Nat × Nat) → Bool
  | [] => false
  | (t, o, _, _) :: r => if t = bt ∧ o = off then true else isCrow bt off r
/-- What is stored away is frozen, or goes to the cell's own name. -/
def preStore (an : Ann) (s : St) (ax x : Operand) : St :=
  match ev (getT s.t) ax, x with
  | .ptr id off, .tmp q => match getT s.t q, getH s.h id with
    | .row k, some (.box bt _) => if isCrow bt off an.crows = true then moveO s k (cidOf id off) q else frz an.keep s x
    | _, _ => frz an.keep s x
  | _, _ => frz an.keep s x
def storeS (P : Program) (an : Ann) (s : St) (ty : TypeId) (ax x : Operand) : Option St :=
  match preStore an s ax x with
  | s1 => match ev (getT s1.t) ax with
    | .ptr id off => match getH s1.h id with
      | some (.box bt cs) => match storeBox P ty cs off (ev (getT s1.t) x) with
        | some cs' => some (crowsS id bt an.crows ⟨s1.t, setH s1.h id (.box bt cs')⟩)
        | none => none
      | _ => none
    | .rel id sz i off => match getH s1.h id with
      | some (.row e sz' fl es) => if sz' = sz then
          match storeRow P ty sz es i off (ev (getT s1.t) x) with
          | some (es', fl') => some ⟨s1.t, setH s1.h id (.row e sz (fl && fl') es')⟩
          | none => none
        else none
      | _ => none
    | _ => none

/-- Whether a call hands over objects, of what function, and with which captured variables. -/
def eCallee (an : Ann) (ρ : Nat → D) (c : Go.Call) : Option (FuncId × Bool × List D) := match c.callee with
  | .value f => match ev ρ f with
    | .clo g ids => some (g, false, ids.map fun id => .ptr id 0)
    | .x (.func (.func g) first cap) => match an.ecalls.lookup g with
      | some b => if first.size = 0 ∧ cap.size = 0 then some (g, b, []) else none
      | none => none
    | _ => none
  | _ => none
def frzArgs : List Operand → St → St
  | [], s => s
  | x :: r, s => frzArgs r (frz [] s x)
def estep1 (an : Ann) (call : CT) (s0 : St) (dst : Option Nat) (c : Go.Call) : Option St := match eCallee an (getT s0.t) c with
  | some (g, _, more) => ecall call s0 dst g (c.args.toList.map (ev (getT s0.t)) ++ more)
  | none => none
def estep (an : Ann) (call : CT) (N : Nat) (s : St) (dst : Option Nat) (c : Go.Call) (b : Bool) : Option St :=
  match (if b = true then s else frzArgs c.args.toList s) with
  | s1 => match dst with
    | some t => if t < N then estep1 an call (s1.dropB t) (some t) c else none
    | none => estep1 an call s1 none c

def isAppend : Go.Call → Bool
  | ⟨.builtin .append, _, _⟩ => true
  | _ => false

def eop (P : Program) (call : CT) (an : Ann) (N : Nat) (s : St) (o : Oper) : Option St :=
  match o.op with
  | .assign x => assignD P an N s o x
  | .store ty ax x => match o.dst with
    | none => storeS P an s ty ax x
    | some _ => none
  | .box e x => match fstep P call N (frz an.keep s x) o, o.dst with
    | some s', some t => some (crowsS t e an.crows s')
    | _, _ => none
  | .alloc e => match fstep P call N s o, o.dst with
    | some s', some t => some (crowsS t e an.crows s')
    | _, _ => none
  | .buildSlice _ _ ps => fstep P call N (frzAll s ps.toList) o
  | .call c => if isAppend c = true then
      match o.dst, c.args, c.argTypes with
      | some t, ⟨[x, y]⟩, ⟨[ty, ty']⟩ => if t < N ∧ ty' = ty then appendD P (an.rows.contains t) s t ty x y else none
      | _, _, _ => none
    else match eCallee an (getT s.t) c with
      | some (_, b, _) => estep an call N s o.dst c b
      | none => fstep P call N s o
  | _ => fstep P call N s o

section
variable {P : Program} {w : World} {B : Nat} {N : Nat} {w0 : Bs} {a : Act} {call : CT}

theorem put_none (a : Act) (v : Value) : a.put none v = a := rfl

/-- What an outcome leaves for what follows. -/
theorem out_wp {ι : Inj} {t : Nat} {d : D} {oo : Option O} {o : Oper} {K : Act → World → Prop} {Q : Exit → Act → World → Prop} (h : Outcome P B ι t w d oo ((execOp a.eval o).run P w))
    (hk : ∀ v w', Good B ι t w w' v d oo → K (a.put o.dst v) w') : o.wp P a w K Q := by
  unfold Oper.wp
  rcases h with ⟨v, w', hr, hg⟩ | ⟨f, args, hr, hc⟩
  · rw [hr]; exact hk v w' hg
  · rw [hr, Oper.upon_enter]
    refine hc.mono fun e w' ⟨v, he, hg⟩ => ?_
    subst he
    exact hk v w' hg

theorem SRel.good_put {s : St} {ι : Inj} (hrel : Rel N B w0 ι (getT s.t) (getH s.h) a w) {t : Nat} (ht : t < N) {w' : World} {v : Value} {d : D} (hg : Good B ι t w w' v d none) : SRel N B w0 (s.put t d) (a.put (some t) v) w' := by
  obtain ⟨hx, hr⟩ := hg
  refine ⟨ι, ?_⟩
  simp only [St.put, getT_set]
  exact (hrel.ext hx).put ht hr
theorem SRel.good_new {s : St} {ι : Inj} (hrel : Rel N B w0 ι (getT s.t) (getH s.h) a w) {t : Nat} (ht : t < N) (hη : getH s.h t = none) {w' : World} {v : Value} {d : D} {ob : O} (hg : Good B ι t w w' v d (some ob)) :
    SRel N B w0 (s.putO t d ob) (a.put (some t) v) w' := by
  obtain ⟨vr, hx, hf, ho, hr⟩ := hg
  refine ⟨updI ι t (some vr), ?_⟩
  simp only [St.putO, getT_set, getH_set]
  exact hrel.new ht hη hx hf ho hr

theorem fstep_sound (hcall : CTok P call) (hG : w0.G = call.g) {s s' : St} {o : Oper} (h : SRel N B w0 s a w) (hs : fstep P call N s o = some s') {K : Act → World → Prop} {Q : Exit → Act → World → Prop}
    (hk : ∀ a' w', SRel N B w0 s' a' w' → K a' w') : o.wp P a w K Q := by
  unfold fstep at hs
  split at hs
  · rename_i t hdst
    split at hs
    · rename_i ht
      obtain ⟨s0, hs0⟩ : ∃ s0, s0 = (if creates o.op = true then s.dropB t else s) := ⟨_, rfl⟩
      simp only [← hs0] at hs
      have h0 : SRel N B w0 s0 a w := by
        rw [hs0]
        split
        · exact h.dropB t
        · exact h
      obtain ⟨ι, hrel⟩ := h0
      split at hs
      · rename_i d ha
        cases hs
        refine out_wp (aop_sound hrel hcall hG (fun h => by cases h) ha) (fun v w' hg => ?_)
        rw [hdst]
        exact hk _ _ (SRel.good_put hrel ht hg)
      · rename_i d ob ha
        split at hs
        · rename_i hη
          cases hs
          refine out_wp (aop_sound hrel hcall hG (fun _ => hη) ha) (fun v w' hg => ?_)
          rw [hdst]
          exact hk _ _ (SRel.good_new hrel ht hη hg)
        · cases hs
      · cases hs
    · cases hs
  · rename_i hdst
    obtain ⟨ι, hrel⟩ := h
    split at hs
    · rename_i d ha
      cases hs
      refine out_wp (aop_sound hrel hcall hG (fun h => by cases h) ha) (fun v w' hg => ?_)
      rw [hdst, put_none]
      exact hk _ _ ⟨ι, hrel.ext hg.1⟩
    · cases hs

theorem moveRow_sound {s s' : St} {id t : Nat} (ht : t < N) (h : SRel N B w0 s a w) {v : Value} {x : Operand} (hx : ev (getT s.t) x = .row id) (hv : a.eval x = v) (hs : moveRow s id t = some s') : SRel N B w0 s' (a.put (some t) v) w := by
  unfold moveRow at hs
  split at hs
  · rename_i hti
    cases hs
    obtain ⟨ι, hrel⟩ := h
    have hr := hrel.ev x
    rw [hx, hv] at hr
    exact SRel.good_put hrel ht ⟨Below.refl _ _, by rw [hti]; exact hr⟩
  · rename_i hti
    obtain ⟨s0, hs0⟩ : ∃ s0, s0 = s.drop t := ⟨_, rfl⟩
    simp only [← hs0] at hs
    split at hs
    · rename_i e sz fl es hη
      cases hs
      have hι : ∃ ι, Rel N B w0 ι (getT s0.t) (getH s0.h) a w ∧ ι id = some v := by
        have h0 := h.drop t
        rw [← hs0] at h0
        obtain ⟨ι, hrel⟩ := h0
        have e1 : ev (getT s0.t) x = .row id := by
          rw [hs0]
          unfold St.drop
          split
          · exact hx
          · cases x with
            | tmp q =>
              simp only [ev] at hx ⊢
              simp only [St.kill, getT_kill, hx]
              simp [killD, mapT, mapA, kill1, refsTo, Ne.symm hti]
            | const v => exact hx
            | global g => exact hx
            | func f => exact hx
        have hr := hrel.ev x
        rw [e1, hv] at hr
        exact ⟨ι, hrel, (row_inv hr).1⟩
      obtain ⟨ι, hrel, hid⟩ := hι
      have hnone : getH s0.h t = none := by rw [hs0]; exact getH_drop s t
      obtain ⟨v', hv', hobj⟩ := hrel.obj id _ hη
      rw [hid] at hv'
      cases hv'
      have hg : w.grownBy w (blk v) := World.grownBy.refl w _
      have hobj2 : ObjRel w B (moved ι id t v) v (.row e sz fl es) := by
        obtain ⟨xs, h1, h2, h3, h4, h5⟩ := hobj
        exact ⟨xs, h1, h2, h3, fun i x j d c he hd hc => moved_RepI hid (.inl rfl) hg (h4 i x j d c he hd hc), h5⟩
      have hr := hrel.move (t := t) hid (.inl (Nat.lt_of_lt_of_le ht hrel.nn)) (.inr hnone) (.inl rfl) hg hobj2
      refine ⟨moved ι id t v, ?_⟩
      simp only [getT_set, getH_set, getT_kill, getH_kill]
      refine hr.put ht (.inl (.inr ⟨by simp [moved], ?_⟩))
      obtain ⟨xs, _, ⟨hown, hwr⟩, _⟩ := hobj
      rcases hown.2 with ⟨rfl, _⟩ | ⟨g, cap, cur, rfl, _⟩
      · exact ⟨_, _, _, rfl⟩
      · exact ⟨_, _, _, rfl⟩
    · cases hs

theorem assign_exec {o : Oper} {x : Operand} (hop : o.op = .assign x) {K : Act → World → Prop} {Q : Exit → Act → World → Prop} (h : K (a.put o.dst (a.eval x)) w) : o.wp P a w K Q := by
  simp only [Oper.wp, execOp, hop]
  exact h

theorem assignD_sound {an : Ann} {s s' : St} {o : Oper} {x : Operand} (hop : o.op = .assign x) (h : SRel N B w0 s a w) (hs : assignD P an N s o x = some s') {K : Act → World → Prop} {Q : Exit → Act → World → Prop}
    (hk : ∀ a' w', SRel N B w0 s' a' w' → K a' w') : o.wp P a w K Q := by
  refine assign_exec hop ?_
  unfold assignD at hs
  split at hs
  · cases hs
  · rename_i t hdst
    rw [hdst]
    have plain : ∀ s1 : St, SRel N B w0 s1 a w → t < N → SRel N B w0 (s1.put t (ev (getT s1.t) x)) (a.put (some t) (a.eval x)) w := by
      rintro s1 ⟨ι, hrel⟩ ht
      exact SRel.good_put hrel ht ⟨Below.refl _ _, hrel.ev x⟩
    split at hs
    · rename_i ht
      split at hs
      · rename_i id hx
        split at hs
        · exact hk _ _ (moveRow_sound ht h hx rfl hs)
        · cases hs
          exact hk _ _ (plain _ (frz_sound _ x h) ht)
      · rename_i hx
        split at hs
        · split at hs
          · rename_i e hu
            split at hs
            · rename_i n hn
              cases hs
              have hvx : a.eval x = .slice none 0 0 := by
                obtain ⟨ι, hrel⟩ := h
                have := hrel.ev x
                rw [hx] at this
                have := (this.one_inv (fun _ e => by cases e)).resolve_right (fun h => h.elim)
                generalize a.eval x = v at this
                cases this
                rfl
              obtain ⟨ι, hrel⟩ := h.drop t
              rw [hvx]
              refine hk _ _ (SRel.good_new hrel ht (getH_drop s t) ⟨.slice none 0 0, Below.refl _ _, (fun b hb => by cases hb), row_nil_obj (by omega), .inl (.inr ⟨by simp, _, _, _, rfl⟩)⟩)
            · cases hs
          · cases hs
        · cases hs
          have := plain s h ht
          rw [hx] at this
          exact hk _ _ this
      · cases hs
        exact hk _ _ (plain _ (frz_sound _ x h) ht)
    · cases hs

theorem moveO_sound {s : St} (id nm q : Nat) (h : SRel N B w0 s a w) : SRel N B w0 (moveO s id nm q) a w := by
  unfold moveO
  split
  · exact h
  · rename_i hne
    split
    · rename_i hnm
      obtain ⟨s0, hs0⟩ : ∃ s0, s0 = s.drop nm := ⟨_, rfl⟩
      simp only [← hs0]
      have h0 : SRel N B w0 s0 a w := by rw [hs0]; exact h.drop nm
      split
      · rename_i i e sz fl es hT hη
        split
        · rename_i hi
          subst hi
          obtain ⟨ι, hrel⟩ := h0
          have hnone : getH s0.h nm = none := by rw [hs0]; exact getH_drop s nm
          have hr := hrel.tmp q
          rw [hT] at hr
          obtain ⟨hid, hsl⟩ := row_inv hr
          obtain ⟨v', hv', hobj⟩ := hrel.obj i _ hη
          rw [hid] at hv'
          cases hv'
          have hg : w.grownBy w (blk (a.tmps.getD q undef)) := World.grownBy.refl w _
          have hobj2 : ObjRel w B (moved ι i nm (a.tmps.getD q undef)) (a.tmps.getD q undef) (.row e sz fl es) := by
            obtain ⟨xs, h1, h2, h3, h4, h5⟩ := hobj
            exact ⟨xs, h1, h2, h3, fun i x j d c he hd hc => moved_RepI hid (.inl rfl) hg (h4 i x j d c he hd hc), h5⟩
          have hr := hrel.move (t := nm) hid hnm (.inr hnone) (.inl rfl) hg hobj2
          refine ⟨moved ι i nm (a.tmps.getD q undef), ?_⟩
          simp only [getT_set, getH_set, getT_kill, getH_kill]
          exact hr.re (.inl (.inr ⟨by simp [moved], hsl⟩))
        · exact h0
      · exact h0
    · exact h
/-- An object is read anew. -/
theorem Rel.reO {ι : Inj} {ρ : Nat → D} {η : Nat → Option O} (h : Rel N B w0 ι ρ η a w) {id : Nat} {v : Value} (hv : ι id = some v) {o : O} (ho : ObjRel w B ι v o) : Rel N B w0 ι ρ (upd η id (some o)) a w := h.set hv (World.grownBy.refl w _) ho
theorem crow1_sound {s : St} (b off e sz : Nat) (h : SRel N B w0 s a w) : SRel N B w0 (crow1 s b off e sz) a w := by
  unfold crow1
  split
  · rename_i ty cs hb hcid
    have hcd : 10000 ≤ cidOf b off := by unfold cidOf; omega
    have hne : cidOf b off ≠ b := by unfold cidOf; omega
    split
    · rename_i hc
      split
      · exact h
      · rename_i hsz
        obtain ⟨ι, hrel⟩ := h
        have hnew := hrel.newO (.inr hcd) hcid (Below.refl _ _) (vr := .slice none 0 0) (ob := .row e sz true []) (fun b hb => by cases hb) (row_nil_obj (by omega))
        obtain ⟨v, hv, hobj⟩ := hnew.obj b (.box ty cs) (by rw [upd_ne _ _ (Ne.symm hne)]; exact hb)
        refine ⟨updI ι (cidOf b off) (some (.slice none 0 0)), ?_⟩
        simp only [getH_set]
        refine hnew.reO hv ?_
        obtain ⟨b', cur, e1, h2, h3, h4, h5⟩ := hobj
        have hlt := (List.getElem?_eq_some_iff.1 hc).1
        refine ⟨b', cur, e1, h2, h3, by simpa using h4, fun j c d hj hd => ?_⟩
        by_cases hjo : j = off
        · subst hjo
          rw [List.getElem?_set_self hlt] at hd
          cases hd
          obtain ⟨g1, g2⟩ := h5 j c _ hj hc
          refine ⟨.inr ⟨?_, ?_⟩, g2⟩
          · have g1 := g1.resolve_right (fun h => h.elim)
            cases g1
            simp
          · have g1 := g1.resolve_right (fun h => h.elim)
            cases g1
            exact ⟨_, _, _, rfl⟩
        · rw [List.getElem?_set_ne (Ne.symm hjo)] at hd
          exact h5 j c d hj hd
    · rename_i k hc
      split
      · exact h
      · rename_i hk
        have hk1 : k ≠ cidOf b off := fun e => hk (.inl e)
        have hk2 : k ≠ b := fun e => hk (.inr e)
        split
        · rename_i es hη
          obtain ⟨ι, hrel⟩ := h
          obtain ⟨v, hv, hobj⟩ := hrel.obj k _ hη
          have hg : w.grownBy w (blk v) := World.grownBy.refl w _
          have hobj2 : ObjRel w B (moved ι k (cidOf b off) v) v (.mp es) := hobj
          have hr := hrel.move (t := cidOf b off) hv (.inr hcd) (.inr hcid) (.inl rfl) hg hobj2
          obtain ⟨vb, hvb, hob⟩ := hr.obj b (.box ty (cs.map (kill1 k))) (by rw [upd_ne _ _ (Ne.symm hne)]; simp [killH, Ne.symm hk2, hb, killO])
          refine ⟨moved ι k (cidOf b off) v, ?_⟩
          simp only [getH_set, getT_kill, getH_kill]
          refine hr.reO hvb ?_
          obtain ⟨b', cur, e1, h2, h3, h4, h5⟩ := hob
          obtain ⟨vb0, hvb0, b0, cur0, f1, f2, f3, f4, f5⟩ := hrel.obj b _ hb
          have hlt := (List.getElem?_eq_some_iff.1 hc).1
          refine ⟨b', cur, e1, h2, h3, by simpa using h4, fun j c d hj hd => ?_⟩
          by_cases hjo : j = off
          · subst hjo
            rw [List.getElem?_set_self (by simpa using hlt)] at hd
            cases hd
            have hbb : vb = vb0 := by
              rw [moved_ne (Ne.symm hne) (Ne.symm hk2)] at hvb
              rw [hvb] at hvb0
              exact Option.some.inj hvb0
            rw [e1, f1] at hbb
            injection hbb with hbb; injection hbb with hbb; injection hbb with hbb
            subst hbb
            rw [h3] at f3
            injection f3 with f3; injection f3 with f3
            subst f3
            obtain ⟨g1, g2⟩ := f5 j c _ hj hc
            refine ⟨.inr ?_, g2⟩
            rcases g1 with g1 | g1
            · cases g1
            · obtain ⟨m1, m2⟩ := g1
              rw [hv] at m1
              cases m1
              exact ⟨by simp [moved], m2⟩
          · rw [List.getElem?_set_ne (Ne.symm hjo)] at hd
            exact h5 j c d hj hd
        · exact h
    · exact h
  · exact h
theorem crowsS_sound (b bt : Nat) : ∀ (l : List (Nat × Nat × Nat × Nat)) {s : St}, SRel N B w0 s a w → SRel N B w0 (crowsS b bt l s) a w
  | [], _, h => h
  | (t, off, e, sz) :: r, s, h => by
    unfold crowsS
    split
    · exact crowsS_sound b bt r (crow1_sound b off e sz h)
    · exact crowsS_sound b bt r h
theorem preStore_sound (an : Ann) {s : St} (ax x : Operand) (h : SRel N B w0 s a w) : SRel N B w0 (preStore an s ax x) a w := by
  unfold preStore
  split
  · split
    · split
      · exact moveO_sound _ _ _ h
      · exact frz_sound _ _ h
    · exact frz_sound _ _ h
  · exact frz_sound _ _ h

theorem storeS_sound {an : Ann} {s s' : St} {o : Oper} {ty : TypeId} {ax x : Operand} (hop : o.op = .store ty ax x) (hdst : o.dst = none) (h : SRel N B w0 s a w) (hs : storeS P an s ty ax x = some s') {K : Act → World → Prop} {Q : Exit → Act → World → Prop}
    (hk : ∀ a' w', SRel N B w0 s' a' w' → K a' w') : o.wp P a w K Q := by
  unfold storeS at hs
  obtain ⟨s1, hs1⟩ : ∃ s1, s1 = preStore an s ax x := ⟨_, rfl⟩
  simp only [← hs1] at hs
  have h1 : SRel N B w0 s1 a w := by rw [hs1]; exact preStore_sound an ax x h
  have fin : (∃ w', (Instr.storeAt ty (a.eval ax) (a.eval x)).run P w = .ok () w' ∧ SRel N B w0 s' a w') → o.wp P a w K Q := by
    rintro ⟨w', hr, hrel⟩
    simp only [Oper.wp, execOp, hop, Sem.run_bind, hr, Result.andThen_ok, Sem.run_pure]
    rw [Oper.upon_skip, hdst, put_none]
    exact hk _ _ hrel
  obtain ⟨ι, hrel⟩ := h1
  split at hs
  · rename_i id off hax
    split at hs
    · rename_i bt cs hη
      split at hs
      · rename_i cs' hst
        cases hs
        have hr := hrel.ev ax
        rw [hax] at hr
        obtain ⟨w', hrun, hrel'⟩ := storeBox_sound hrel hr (hrel.ev x) hη hst
        exact fin ⟨w', hrun, crowsS_sound _ _ _ ⟨ι, by simpa only [getH_set] using hrel'⟩⟩
      · cases hs
    · cases hs
  · rename_i id sz i off hax
    split at hs
    · rename_i e sz' fl es hη
      split at hs
      · rename_i hsz
        subst hsz
        split at hs
        · rename_i es' fl' hst
          cases hs
          have hr := hrel.ev ax
          rw [hax] at hr
          obtain ⟨w', hrun, hrel'⟩ := storeRow_sound hrel hr (hrel.ev x) hη hst
          exact fin ⟨w', hrun, ι, by simpa only [getH_set] using hrel'⟩
        · cases hs
      · cases hs
    · cases hs
  · cases hs

theorem frzArgs_sound : ∀ (l : List Operand) {s : St}, SRel N B w0 s a w → SRel N B w0 (frzArgs l s) a w
  | [], _, h => h
  | x :: r, _, h => frzArgs_sound r (frz_sound [] x h)
theorem eCallee_sound {an : Ann} {ι : Inj} {ρ : Nat → D} {η : Nat → Option O} (hrel : Rel N B w0 ι ρ η a w) {c : Go.Call} {g : FuncId} {b : Bool} {more : List D} (h : eCallee an ρ c = some (g, b, more)) :
    ∃ f cap, c.callee = .value f ∧ a.eval f = .func (.func g) #[] cap ∧ CellsRel (Rep w B ι) cap more := by
  unfold eCallee at h
  split at h
  · rename_i f hf
    have hr := hrel.ev f
    split at h
    · rename_i g' ids hev
      cases h
      rw [hev] at hr
      obtain ⟨cap, hv, h1, h2⟩ : Ref ι (a.eval f) (.clo g ids) := by
        rcases hr.one_inv (fun _ e => by cases e) with h | h
        · generalize a.eval f = v at h
          cases h
        · exact h
      refine ⟨f, cap, hf, hv, by simpa using h1, fun i v d hi hd => ?_⟩
      rw [List.getElem?_map] at hd
      simp only [Option.map_eq_some_iff] at hd
      obtain ⟨id, hid, rfl⟩ := hd
      obtain ⟨g1, b, rfl⟩ := h2 i v id hi hid
      exact .inl (.inr ⟨b, g1, rfl⟩)
    · rename_i g' first cap hev
      split at h
      · split at h
        · rename_i h0
          cases h
          rw [hev] at hr
          have hv := hr.x_inv
          have e1 : first = #[] := Array.eq_empty_of_size_eq_zero h0.1
          have e2 : cap = #[] := Array.eq_empty_of_size_eq_zero h0.2
          subst e1 e2
          exact ⟨f, #[], hf, hv, rfl, fun i c d h => by simp at h⟩
        · cases h
      · cases h
    · cases h
  · cases h
theorem estep1_sound (hcall : CTok P call) (hG : w0.G = call.g) {an : Ann} {s0 s' : St} {o : Oper} {c : Go.Call} (hop : o.op = .call c) (h : SRel N B w0 s0 a w) (ht : ∀ t, o.dst = some t → t < N)
    (hs : estep1 an call s0 o.dst c = some s') {K : Act → World → Prop} {Q : Exit → Act → World → Prop} (hk : ∀ a' w', SRel N B w0 s' a' w' → K a' w') : o.wp P a w K Q := by
  unfold estep1 at hs
  split at hs
  · rename_i g b more he
    obtain ⟨ι0, hrel0⟩ := h
    obtain ⟨f, cap, hf, hv, _⟩ := eCallee_sound hrel0 he
    obtain ⟨r1, r2⟩ := ecall_sound (args := c.args.map a.eval ++ cap) hcall hG ht ⟨ι0, hrel0⟩ (fun ι hrel => by
      obtain ⟨f', cap', hf', hv', m1, m2⟩ := eCallee_sound hrel he
      rw [hf] at hf'
      cases hf'
      rw [hv] at hv'
      cases hv'
      refine ⟨by simp [m1], fun i v d hi hd => ?_⟩
      by_cases hlt : i < c.args.size
      · rw [Array.getElem?_append_left (by simpa using hlt)] at hi
        rw [List.getElem?_append_left (by simpa using hlt)] at hd
        exact args_rel hrel c.args i d v hd hi
      · rw [Array.getElem?_append_right (by simp; omega)] at hi
        rw [List.getElem?_append_right (by simp; omega)] at hd
        exact m2 _ v d (by simpa using hi) (by simpa using hd)) hs
    have hex : (execOp a.eval o).run P w = .ok (.enter g (c.args.map a.eval ++ cap)) w := by
      simp [execOp, hop, resolve, hf, hv, Deferred.ofValue, invoke, r1]
    simp only [Oper.wp, hex]
    rw [Oper.upon_enter]
    refine r2.mono fun e w' ⟨v, he, hg⟩ => ?_
    subst he
    exact hk _ _ hg
  · cases hs
theorem estep_sound (hcall : CTok P call) (hG : w0.G = call.g) {an : Ann} {s s' : St} {o : Oper} {c : Go.Call} (hop : o.op = .call c) (h : SRel N B w0 s a w) {b : Bool}
    (hs : estep an call N s o.dst c b = some s') {K : Act → World → Prop} {Q : Exit → Act → World → Prop} (hk : ∀ a' w', SRel N B w0 s' a' w' → K a' w') : o.wp P a w K Q := by
  unfold estep at hs
  obtain ⟨s1, hs1⟩ : ∃ s1, s1 = (if b = true then s else frzArgs c.args.toList s) := ⟨_, rfl⟩
  simp only [← hs1] at hs
  have h1 : SRel N B w0 s1 a w := by
    rw [hs1]
    split
    · exact h
    · exact frzArgs_sound _ h
  split at hs
  · rename_i t hdst
    split at hs
    · rename_i ht
      rw [← hdst] at hs
      exact estep1_sound hcall hG hop (h1.dropB t) (fun t' e => by rw [hdst] at e; cases e; exact ht) hs hk
    · cases hs
  · rename_i hdst
    rw [← hdst] at hs
    exact estep1_sound hcall hG hop h1 (fun t' e => by rw [hdst] at e; cases e) hs hk

theorem eop_sound (hcall : CTok P call) (hG : w0.G = call.g) {an : Ann} {s s' : St} {o : Oper} (h : SRel N B w0 s a w) (hs : eop P call an N s o = some s') {K : Act → World → Prop} {Q : Exit → Act → World → Prop}
    (hk : ∀ a' w', SRel N B w0 s' a' w' → K a' w') : o.wp P a w K Q := by
  unfold eop at hs
  split at hs
  · rename_i x hop
    exact assignD_sound hop h hs hk
  · rename_i ty ax x hop
    split at hs
    · rename_i hdst
      exact storeS_sound hop hdst h hs hk
    · cases hs
  · rename_i e x hop
    split at hs
    · rename_i s1 t h1 hdst
      cases hs
      exact fstep_sound hcall hG (frz_sound _ _ h) h1 (fun a' w' hr => hk _ _ (crowsS_sound _ _ _ hr))
    · cases hs
  · rename_i e hop
    split at hs
    · rename_i s1 t h1 hdst
      cases hs
      exact fstep_sound hcall hG h h1 (fun a' w' hr => hk _ _ (crowsS_sound _ _ _ hr))
    · cases hs
  · exact fstep_sound hcall hG (frzAll_sound _ h) hs hk
  · rename_i c hop
    split at hs
    · rename_i hap
      split at hs
      · rename_i t x y ty ty' hdst hargs htys
        split at hs
        · rename_i hb
          obtain ⟨ht, rfl⟩ := hb
          obtain ⟨v', w', hrun, hrel⟩ := append_sound (ty' := o.type) h ht hs
          have hc : c.callee = .builtin .append := by
            obtain ⟨callee, args, tys⟩ := c
            unfold isAppend at hap
            split at hap
            · rename_i e; cases e; rfl
            · cases hap
          have hex : (execOp a.eval o).run P w = .ok (.value v') w' := by
            simp only [execOp, hop, resolve, hc, hargs, htys, invoke, builtin]
            simp [hrun]
          simp only [Oper.wp, hex]
          rw [Oper.upon_value, hdst]
          exact hk _ _ hrel
        · cases hs
      · cases hs
    · split at hs
      · rename_i g b more he
        exact estep_sound hcall hG hop h hs hk
      · exact fstep_sound hcall hG h hs hk
  · exact fstep_sound hcall hG h hs hk

end
end Go.Abs
