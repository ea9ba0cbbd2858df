/-
  One operation of a region as a step of the state; what a free operation looks at; both for regions that draw their order.
-/
import Derived.Test.YtmnipfincjpofaaAbsJ
namespace Go.Abs
set_option linter.unusedSimpArgs false
set_option linter.unusedVariables false
open Go Go.RowKit

def creates : Op → Bool
  | .alloc _ => true
  | .box _ _ => true
  | .buildSlice _ _ _ => true
  | .makeSlice _ _ _ => true
  | _ => false

def fstep (P : Program) (call : FuncId → List D → Option D) (N : Nat) (s : St) (o : Oper) : Option St :=
  match o.dst with
  | some t => if t < N then
      match (if creates o.op = true then s.drop t else s) with
      | s0 => match aop P call (getT s0.t) (getH s0.h) t o.op with
        | some (d, none) => some (s0.put t d)
        | some (d, some ob) => match getH s0.h t with
          | none => some (s0.putO t d ob)
          | some _ => none
        | none => none
    else none
  | none => match aop P call (getT s.t) (getH s.h) 0 o.op with
    | some (_, none) => some s
    | _ => none

def moveRow (s : St) (id t : Nat) : Option St :=
  if t = id then some (s.put t (.row t))
  else match s.drop t with
    | s0 => match getH s0.h id with
      | some (.row e sz fl es) => some ⟨setT (killT id s0.t) t (.row t), setH (killL id s0.h) t (.row e sz fl es)⟩
      | _ => none
def assignD (P : Program) (an : Ann) (N : Nat) (s : St) (o : Oper) (x : Operand) : Option St :=
  match o.dst with
  | none => none
  | some t => if t < N then
      match ev (getT s.t) x with
      | .row id => if an.rows.contains t = true then moveRow s id t
          else match frz an.keep s x with
            | s1 => some (s1.put t (ev (getT s1.t) x))
      | .emp => if an.rows.contains t = true then
            match P.underlying o.type with
            | some (.slice e) => match szT P e with
              | some (n + 1) => match s.drop t with
                | s0 => some (s0.putO t (.row t) (.row e (n + 1) true []))
              | _ => none
            | _ => none
          else some (s.put t .emp)
      | _ => match frz an.keep s x with
        | s1 => some (s1.put t (ev (getT s1.t) x))
    else none
def storeS (P : Program) (an : Ann) (s : St) (ty : TypeId) (ax x : Operand) : Option St :=
  match frz an.keep s x with
  | s1 => match ev (getT s1.t) ax with
    | .ptr id off => match getH s1.h id with
      | some (.box bt cs) => match storeBox P ty cs off (ev (getT s1.t) x) with
        | some cs' => some ⟨s1.t, setH s1.h id (.box bt cs')⟩
        | none => none
      | _ => none
    | .rel id sz i off => match getH s1.h id with
      | some (.row e sz' fl es) => if sz' = sz then
          match storeRow P ty sz es i off (ev (getT s1.t) x) with
          | some (es', fl') => some ⟨s1.t, setH s1.h id (.row e sz (fl && fl') es')⟩
          | none => none
        else none
      | _ => none
    | _ => none

def isAppend : Go.Call → Bool
  | ⟨.builtin .append, _, _⟩ => true
  | _ => false

def eop (P : Program) (call : FuncId → List D → Option D) (an : Ann) (N : Nat) (s : St) (o : Oper) : Option St :=
  match o.op with
  | .assign x => assignD P an N s o x
  | .store ty ax x => match o.dst with
    | none => storeS P an s ty ax x
    | some _ => none
  | .box _ x => fstep P call N (frz an.keep s x) o
  | .buildSlice _ _ ps => fstep P call N (frzAll s ps.toList) o
  | .call c => if isAppend c = true then
      match o.dst, c.args, c.argTypes with
      | some t, ⟨[x, y]⟩, ⟨[ty, ty']⟩ => if t < N ∧ ty' = ty then appendD P s t ty x y else none
      | _, _, _ => none
    else fstep P call N s o
  | _ => fstep P call N s o

section
variable {P : Program} {w : World} {B : Nat} {N : Nat} {w0 : Bs} {a : Act} {call : FuncId → List D → Option D}

theorem put_none (a : Act) (v : Value) : a.put none v = a := rfl

/-- What an outcome leaves for what follows. -/
theorem out_wp {ι : Inj} {t : Nat} {d : D} {oo : Option O} {o : Oper} {K : Act → World → Prop} {Q : Exit → Act → World → Prop} (h : Outcome P B ι t w d oo ((execOp a.eval o).run P w))
    (hk : ∀ v w', Good B ι t w w' v d oo → K (a.put o.dst v) w') : o.wp P a w K Q := by
  unfold Oper.wp
  rcases h with ⟨v, w', hr, hg⟩ | ⟨f, args, hr, hc⟩
  · rw [hr]; exact hk v w' hg
  · rw [hr, Oper.upon_enter]
    refine hc.mono fun e w' ⟨v, he, hg⟩ => ?_
    subst he
    exact hk v w' hg

theorem SRel.good_put {s : St} {ι : Inj} (hrel : Rel N B w0 ι (getT s.t) (getH s.h) a w) {t : Nat} (ht : t < N) {w' : World} {v : Value} {d : D} (hg : Good B ι t w w' v d none) : SRel N B w0 (s.put t d) (a.put (some t) v) w' := by
  obtain ⟨hx, hr⟩ := hg
  refine ⟨ι, ?_⟩
  simp only [St.put, getT_set]
  exact (hrel.ext hx).put ht hr
theorem SRel.good_new {s : St} {ι : Inj} (hrel : Rel N B w0 ι (getT s.t) (getH s.h) a w) {t : Nat} (ht : t < N) (hη : getH s.h t = none) {w' : World} {v : Value} {d : D} {ob : O} (hg : Good B ι t w w' v d (some ob)) :
    SRel N B w0 (s.putO t d ob) (a.put (some t) v) w' := by
  obtain ⟨vr, hx, hf, ho, hr⟩ := hg
  refine ⟨updI ι t (some vr), ?_⟩
  simp only [St.putO, getT_set, getH_set]
  exact hrel.new ht hη hx hf ho hr

theorem fstep_sound (hcall : ∀ f ds r, call f ds = some r → Contract P f ds r) {s s' : St} {o : Oper} (h : SRel N B w0 s a w) (hs : fstep P call N s o = some s') {K : Act → World → Prop} {Q : Exit → Act → World → Prop}
    (hk : ∀ a' w', SRel N B w0 s' a' w' → K a' w') : o.wp P a w K Q := by
  unfold fstep at hs
  split at hs
  · rename_i t hdst
    split at hs
    · rename_i ht
      obtain ⟨s0, hs0⟩ : ∃ s0, s0 = (if creates o.op = true then s.drop t else s) := ⟨_, rfl⟩
      simp only [← hs0] at hs
      have h0 : SRel N B w0 s0 a w := by
        rw [hs0]
        split
        · exact h.drop t
        · exact h
      obtain ⟨ι, hrel⟩ := h0
      split at hs
      · rename_i d ha
        cases hs
        refine out_wp (aop_sound hrel hcall (fun h => by cases h) ha) (fun v w' hg => ?_)
        rw [hdst]
        exact hk _ _ (SRel.good_put hrel ht hg)
      · rename_i d ob ha
        split at hs
        · rename_i hη
          cases hs
          refine out_wp (aop_sound hrel hcall (fun _ => hη) ha) (fun v w' hg => ?_)
          rw [hdst]
          exact hk _ _ (SRel.good_new hrel ht hη hg)
        · cases hs
      · cases hs
    · cases hs
  · rename_i hdst
    obtain ⟨ι, hrel⟩ := h
    split at hs
    · rename_i d ha
      cases hs
      refine out_wp (aop_sound hrel hcall (fun h => by cases h) ha) (fun v w' hg => ?_)
      rw [hdst, put_none]
      exact hk _ _ ⟨ι, hrel.ext hg.1⟩
    · cases hs

theorem moveRow_sound {s s' : St} {id t : Nat} (ht : t < N) (h : SRel N B w0 s a w) {v : Value} {x : Operand} (hx : ev (getT s.t) x = .row id) (hv : a.eval x = v) (hs : moveRow s id t = some s') : SRel N B w0 s' (a.put (some t) v) w := by
  unfold moveRow at hs
  split at hs
  · rename_i hti
    cases hs
    obtain ⟨ι, hrel⟩ := h
    have hr := hrel.ev x
    rw [hx, hv] at hr
    exact SRel.good_put hrel ht ⟨Below.refl _ _, by rw [hti]; exact hr⟩
  · rename_i hti
    obtain ⟨s0, hs0⟩ : ∃ s0, s0 = s.drop t := ⟨_, rfl⟩
    simp only [← hs0] at hs
    split at hs
    · rename_i e sz fl es hη
      cases hs
      have hι : ∃ ι, Rel N B w0 ι (getT s0.t) (getH s0.h) a w ∧ ι id = some v := by
        have h0 := h.drop t
        rw [← hs0] at h0
        obtain ⟨ι, hrel⟩ := h0
        have e1 : ev (getT s0.t) x = .row id := by
          rw [hs0]
          unfold St.drop
          split
          · exact hx
          · cases x with
            | tmp q =>
              simp only [ev] at hx ⊢
              simp only [St.kill, getT_kill, hx]
              simp [killD, kill1, refsTo, Ne.symm hti]
            | const v => exact hx
            | global g => exact hx
            | func f => exact hx
        have hr := hrel.ev x
        rw [e1, hv] at hr
        exact ⟨ι, hrel, (row_inv hr).1⟩
      obtain ⟨ι, hrel, hid⟩ := hι
      have hnone : getH s0.h t = none := by rw [hs0]; exact getH_drop s t
      obtain ⟨v', hv', hobj⟩ := hrel.obj id _ hη
      rw [hid] at hv'
      cases hv'
      have hg : w.grownBy w (blk v) := World.grownBy.refl w _
      have hobj2 : ObjRel w B (moved ι id t v) v (.row e sz fl es) := by
        obtain ⟨xs, h1, h2, h3, h4, h5⟩ := hobj
        exact ⟨xs, h1, h2, h3, fun i x j d c he hd hc => moved_RepI hid (.inl rfl) hg (h4 i x j d c he hd hc), h5⟩
      have hr := hrel.move (t := t) hid (.inr hnone) (.inl rfl) hg hobj2
      refine ⟨moved ι id t v, ?_⟩
      simp only [getT_set, getH_set, getT_kill, getH_kill]
      refine hr.put ht (.inl (.inr ⟨by simp [moved], ?_⟩))
      obtain ⟨xs, _, hown, _⟩ := hobj
      rcases hown.2 with ⟨rfl, _⟩ | ⟨g, cap, cur, rfl, _⟩
      · exact ⟨_, _, _, rfl⟩
      · exact ⟨_, _, _, rfl⟩
    · cases hs

theorem assign_exec {o : Oper} {x : Operand} (hop : o.op = .assign x) {K : Act → World → Prop} {Q : Exit → Act → World → Prop} (h : K (a.put o.dst (a.eval x)) w) : o.wp P a w K Q := by
  simp only [Oper.wp, execOp, hop]
  exact h

theorem assignD_sound {an : Ann} {s s' : St} {o : Oper} {x : Operand} (hop : o.op = .assign x) (h : SRel N B w0 s a w) (hs : assignD P an N s o x = some s') {K : Act → World → Prop} {Q : Exit → Act → World → Prop}
    (hk : ∀ a' w', SRel N B w0 s' a' w' → K a' w') : o.wp P a w K Q := by
  refine assign_exec hop ?_
  unfold assignD at hs
  split at hs
  · cases hs
  · rename_i t hdst
    rw [hdst]
    have plain : ∀ s1 : St, SRel N B w0 s1 a w → t < N → SRel N B w0 (s1.put t (ev (getT s1.t) x)) (a.put (some t) (a.eval x)) w := by
      rintro s1 ⟨ι, hrel⟩ ht
      exact SRel.good_put hrel ht ⟨Below.refl _ _, hrel.ev x⟩
    split at hs
    · rename_i ht
      split at hs
      · rename_i id hx
        split at hs
        · exact hk _ _ (moveRow_sound ht h hx rfl hs)
        · cases hs
          exact hk _ _ (plain _ (frz_sound _ x h) ht)
      · rename_i hx
        split at hs
        · split at hs
          · rename_i e hu
            split at hs
            · rename_i n hn
              cases hs
              have hvx : a.eval x = .slice none 0 0 := by
                obtain ⟨ι, hrel⟩ := h
                have := hrel.ev x
                rw [hx] at this
                have := (this.one_inv (fun _ e => by cases e)).resolve_right (fun h => h.elim)
                generalize a.eval x = v at this
                cases this
                rfl
              obtain ⟨ι, hrel⟩ := h.drop t
              rw [hvx]
              refine hk _ _ (SRel.good_new hrel ht (getH_drop s t) ⟨.slice none 0 0, Below.refl _ _, (fun b hb => by cases hb), row_nil_obj (by omega), .inl (.inr ⟨by simp, _, _, _, rfl⟩)⟩)
            · cases hs
          · cases hs
        · cases hs
          have := plain s h ht
          rw [hx] at this
          exact hk _ _ this
      · cases hs
        exact hk _ _ (plain _ (frz_sound _ x h) ht)
    · cases hs

theorem storeS_sound {an : Ann} {s s' : St} {o : Oper} {ty : TypeId} {ax x : Operand} (hop : o.op = .store ty ax x) (hdst : o.dst = none) (h : SRel N B w0 s a w) (hs : storeS P an s ty ax x = some s') {K : Act → World → Prop} {Q : Exit → Act → World → Prop}
    (hk : ∀ a' w', SRel N B w0 s' a' w' → K a' w') : o.wp P a w K Q := by
  unfold storeS at hs
  obtain ⟨s1, hs1⟩ : ∃ s1, s1 = frz an.keep s x := ⟨_, rfl⟩
  simp only [← hs1] at hs
  have h1 : SRel N B w0 s1 a w := by rw [hs1]; exact frz_sound _ x h
  have fin : (∃ w', (Instr.storeAt ty (a.eval ax) (a.eval x)).run P w = .ok () w' ∧ SRel N B w0 s' a w') → o.wp P a w K Q := by
    rintro ⟨w', hr, hrel⟩
    simp only [Oper.wp, execOp, hop, Sem.run_bind, hr, Result.andThen_ok, Sem.run_pure]
    rw [Oper.upon_skip, hdst, put_none]
    exact hk _ _ hrel
  obtain ⟨ι, hrel⟩ := h1
  split at hs
  · rename_i id off hax
    split at hs
    · rename_i bt cs hη
      split at hs
      · rename_i cs' hst
        cases hs
        have hr := hrel.ev ax
        rw [hax] at hr
        obtain ⟨w', hrun, hrel'⟩ := storeBox_sound hrel hr (hrel.ev x) hη hst
        exact fin ⟨w', hrun, ι, by simpa only [getH_set] using hrel'⟩
      · cases hs
    · cases hs
  · rename_i id sz i off hax
    split at hs
    · rename_i e sz' fl es hη
      split at hs
      · rename_i hsz
        subst hsz
        split at hs
        · rename_i es' fl' hst
          cases hs
          have hr := hrel.ev ax
          rw [hax] at hr
          obtain ⟨w', hrun, hrel'⟩ := storeRow_sound hrel hr (hrel.ev x) hη hst
          exact fin ⟨w', hrun, ι, by simpa only [getH_set] using hrel'⟩
        · cases hs
      · cases hs
    · cases hs
  · cases hs

theorem eop_sound (hcall : ∀ f ds r, call f ds = some r → Contract P f ds r) {an : Ann} {s s' : St} {o : Oper} (h : SRel N B w0 s a w) (hs : eop P call an N s o = some s') {K : Act → World → Prop} {Q : Exit → Act → World → Prop}
    (hk : ∀ a' w', SRel N B w0 s' a' w' → K a' w') : o.wp P a w K Q := by
  unfold eop at hs
  split at hs
  · rename_i x hop
    exact assignD_sound hop h hs hk
  · rename_i ty ax x hop
    split at hs
    · rename_i hdst
      exact storeS_sound hop hdst h hs hk
    · cases hs
  · exact fstep_sound hcall (frz_sound _ _ h) hs hk
  · exact fstep_sound hcall (frzAll_sound _ h) hs hk
  · rename_i c hop
    split at hs
    · rename_i hap
      split at hs
      · rename_i t x y ty ty' hdst hargs htys
        split at hs
        · rename_i hb
          obtain ⟨ht, rfl⟩ := hb
          obtain ⟨v', w', hrun, hrel⟩ := append_sound (ty' := o.type) h ht hs
          have hc : c.callee = .builtin .append := by
            obtain ⟨callee, args, tys⟩ := c
            unfold isAppend at hap
            split at hap
            · rename_i e; cases e; rfl
            · cases hap
          have hex : (execOp a.eval o).run P w = .ok (.value v') w' := by
            simp only [execOp, hop, resolve, hc, hargs, htys, invoke, builtin]
            simp [hrun]
          simp only [Oper.wp, hex]
          rw [Oper.upon_value, hdst]
          exact hk _ _ hrel
        · cases hs
      · cases hs
    · exact fstep_sound hcall h hs hk
  · exact fstep_sound hcall h hs hk

end
end Go.Abs
