/-
  The state as lists; every operation as one step of the state, and that it is sound.
-/
import Derived.Test.YthgamgdcjgbmnaaGreatDoorAbsI
namespace Go.Abs
set_option linter.unusedSimpArgs false
set_option linter.unusedVariables false
open Go Go.RowKit

structure St where
  t : List (Nat × D)
  h : List (Nat × O)

/-- What is kept behind a region ('keep'), what a test reads ('cond'), the variables that hold rows of their own ('rows'), and for each loop what is alive at its head, for each block what is alive behind it, what the results read, for each region that draws its order how many of its operations are free; which functions are called with their objects ('ecalls'; whether rows are handed over as objects), and which cells of which boxes hold rows of their own ('crows': the box's type, the offset, the element's type and size). Nothing here is trusted. -/
structure Ann where
  keep : List Nat
  cond : List Nat
  rows : List Nat
  loops : List (Nat × List Nat)
  exits : List (Nat × List Nat)
  rets : Option (List Nat)
  draws : List (Nat × Nat)
  ecalls : List (Nat × Bool) := []
  crows : List (Nat × Nat × Nat × Nat) := []

def getT : List (Nat × D) → Nat → D
  | [], _ => .any
  | (k, d) :: r, t => if k = t then d else getT r t
def setT : List (Nat × D) → Nat → D → List (Nat × D)
  | [], t, d => [(t, d)]
  | (k, e) :: r, t, d => if k = t then (k, d) :: r else (k, e) :: setT r t d
def delT : List (Nat × D) → Nat → List (Nat × D)
  | [], _ => []
  | (k, e) :: r, t => if k = t then delT r t else (k, e) :: delT r t
def setH : List (Nat × O) → Nat → O → List (Nat × O)
  | [], t, d => [(t, d)]
  | (k, e) :: r, t, d => if k = t then (k, d) :: r else (k, e) :: setH r t d
def killT (id : Nat) : List (Nat × D) → List (Nat × D)
  | [] => []
  | (k, e) :: r => (k, killD id e) :: killT id r
def killL (id : Nat) : List (Nat × O) → List (Nat × O)
  | [] => []
  | (k, e) :: r => if k = id then killL id r else (k, killO id e) :: killL id r

theorem getT_set (l : List (Nat × D)) (t : Nat) (d : D) : getT (setT l t d) = upd (getT l) t d := by
  funext i
  induction l with
  | nil => simp [setT, getT, upd, eq_comm]
  | cons p r ih =>
    obtain ⟨k, e⟩ := p
    simp only [setT]
    split
    · rename_i hk
      subst hk
      simp only [getT, upd]
      by_cases h : k = i
      · subst h; simp
      · rw [if_neg h, if_neg (Ne.symm h), if_neg h]
    · rename_i hk
      simp only [getT, ih, upd]
      by_cases h : k = i
      · subst h; simp [hk]
      · simp [h]
theorem getT_del (l : List (Nat × D)) (t : Nat) : getT (delT l t) = upd (getT l) t .any := by
  funext i
  induction l with
  | nil => simp [delT, getT, upd]
  | cons p r ih =>
    obtain ⟨k, e⟩ := p
    simp only [delT]
    split
    · rename_i hk
      subst hk
      rw [ih]
      simp only [getT, upd]
      by_cases h : k = i
      · subst h; simp
      · rw [if_neg (Ne.symm h), if_neg (Ne.symm h), if_neg h]
    · rename_i hk
      simp only [getT, ih, upd]
      by_cases h : k = i
      · subst h; simp [hk]
      · simp [h]
theorem getH_set (l : List (Nat × O)) (t : Nat) (d : O) : getH (setH l t d) = upd (getH l) t (some d) := by
  funext i
  induction l with
  | nil => simp [setH, getH, upd, eq_comm]
  | cons p r ih =>
    obtain ⟨k, e⟩ := p
    simp only [setH]
    split
    · rename_i hk
      subst hk
      simp only [getH, upd]
      by_cases h : k = i
      · subst h; simp
      · rw [if_neg h, if_neg (Ne.symm h), if_neg h]
    · rename_i hk
      simp only [getH, ih, upd]
      by_cases h : k = i
      · subst h; simp [hk]
      · simp [h]
theorem getT_kill (id : Nat) (l : List (Nat × D)) : getT (killT id l) = fun t => killD id (getT l t) := by
  funext i
  induction l with
  | nil => rfl
  | cons p r ih =>
    obtain ⟨k, e⟩ := p
    simp only [killT, getT]
    split
    · rfl
    · exact ih
theorem getH_kill (id : Nat) (l : List (Nat × O)) : getH (killL id l) = killH id (getH l) := by
  funext i
  induction l with
  | nil => simp [killL, getH, killH]
  | cons p r ih =>
    obtain ⟨k, e⟩ := p
    simp only [killL]
    split
    · rename_i hk
      subst hk
      rw [ih]
      simp only [killH, getH]
      by_cases h : i = k
      · simp [h]
      · rw [if_neg h, if_neg h, if_neg (Ne.symm h)]
    · rename_i hk
      simp only [getH, ih, killH]
      by_cases h : k = i
      · subst h; simp [hk]
      · simp [h]

def St.kill (s : St) (id : Nat) : St := ⟨killT id s.t, killL id s.h⟩
/-- The object of a name, if there is one, is forgotten. -/
def St.drop (s : St) (id : Nat) : St := match getH s.h id with
  | none => s
  | some _ => s.kill id
def dropCells (t : Nat) : List (Nat × O) → St → St
  | [], s => s
  | (k, _) :: r, s => if 10000 ≤ k ∧ (k - 10000) / 100 = t then dropCells t r (s.drop k) else dropCells t r s
/-- .. and the rows in its cells. -/
def St.dropB (s : St) (t : Nat) : St := dropCells t s.h (s.drop t)
def St.put (s : St) (t : Nat) (d : D) : St := ⟨setT s.t t d, s.h⟩
def St.putO (s : St) (t : Nat) (d : D) (o : O) : St := ⟨setT s.t t d, setH s.h t o⟩

section
variable {P : Program} {w : World} {B : Nat} {N : Nat} {w0 : Bs} {a : Act}

/-- The relation of a state. -/
def SRel (N B : Nat) (w0 : Bs) (s : St) (a : Act) (w : World) : Prop := ∃ ι, Rel N B w0 ι (getT s.t) (getH s.h) a w

theorem SRel.kill {s : St} (h : SRel N B w0 s a w) (id : Nat) : SRel N B w0 (s.kill id) a w := by
  obtain ⟨ι, h⟩ := h
  refine ⟨Abs.del ι id, ?_⟩
  rw [St.kill, getT_kill, getH_kill]
  exact h.kill id
theorem SRel.drop {s : St} (h : SRel N B w0 s a w) (id : Nat) : SRel N B w0 (s.drop id) a w := by
  unfold St.drop
  split
  · exact h
  · exact h.kill id
theorem dropCells_sound (t : Nat) : ∀ (l : List (Nat × O)) (s : St), SRel N B w0 s a w → SRel N B w0 (dropCells t l s) a w
  | [], _, h => h
  | (k, o) :: r, s, h => by
    unfold dropCells
    split
    · exact dropCells_sound t r _ (h.drop k)
    · exact dropCells_sound t r _ h
theorem SRel.dropB {s : St} (h : SRel N B w0 s a w) (id : Nat) : SRel N B w0 (s.dropB id) a w := dropCells_sound id _ _ (h.drop id)
theorem getH_drop (s : St) (id : Nat) : getH (s.drop id).h id = none := by
  unfold St.drop
  split
  · assumption
  · simp [St.kill, getH_kill, killH]
theorem getH_drop_row {s : St} {id t : Nat} (hne : t ≠ id) {e : TypeId} {sz : Nat} {fl : Bool} {es : List (List D)} (h : getH s.h id = some (.row e sz fl es)) : getH (s.drop t).h id = some (.row e sz fl es) := by
  unfold St.drop
  split
  · exact h
  · simp [St.kill, getH_kill, killH, Ne.symm hne, h, killO]

theorem SRel.del {s : St} (h : SRel N B w0 s a w) (t : Nat) : SRel N B w0 ⟨delT s.t t, s.h⟩ a w := by
  obtain ⟨ι, h⟩ := h
  refine ⟨ι, ?_⟩
  simp only [getT_del]
  exact h.weak (fun i => by
    by_cases hi : i = t
    · subst hi; right; simp
    · left; rw [upd_ne _ _ hi])

/-- A slot is read anew. -/
theorem Rel.re {ι : Inj} {ρ : Nat → D} {η : Nat → Option O} (h : Rel N B w0 ι ρ η a w) {t : Nat} {d : D} (hd : Rep w B ι (a.tmps.getD t undef) d) : Rel N B w0 ι (upd ρ t d) η a w where
  defers := h.defers
  size := h.size
  tmp i := by
    by_cases hi : i = t
    · subst hi; simpa using hd
    · rw [upd_ne _ _ hi]; exact h.tmp i
  obj := h.obj
  dom := h.dom
  inj := h.inj
  below := h.below
  base := h.base
  fresh := h.fresh
  kk := h.kk
  zz := h.zz
  k0 := h.k0
  nn := h.nn
  glob := h.glob

/-! ### Rows are frozen where they are stored away -/
def frzAgg (keep : List Nat) (t : Nat) : List D → Nat → St → St
  | [], _, s => s
  | .row id :: r, k, s => if keep.contains id then frzAgg keep t r (k + 1) s else
      match getH s.h id, getT s.t t with
      | some (.row _ _ fl es), .agg cs => match cs[k]? with
        | some (.row id') => if id' = id then frzAgg keep t r (k + 1) ⟨setT (killT id s.t) t (killD id (.agg (cs.set k (.own fl es)))), killL id s.h⟩ else s
        | _ => s
      | _, _ => s
  | _ :: r, k, s => frzAgg keep t r (k + 1) s
def frz (keep : List Nat) (s : St) (x : Operand) : St :=
  match x with
  | .tmp t => match getT s.t t with
    | .row id => if keep.contains id then s else
        match getH s.h id with
        | some (.row _ _ fl es) => ⟨setT (killT id s.t) t (.own fl es), killL id s.h⟩
        | _ => s
    | .agg cs => frzAgg keep t cs 0 s
    | _ => s
  | _ => s

theorem frzAgg_sound (keep : List Nat) (t : Nat) : ∀ (ds : List D) (k : Nat) (s : St), SRel N B w0 s a w → SRel N B w0 (frzAgg keep t ds k s) a w
  | [], _, _, h => h
  | d :: r, k, s, h => by
    cases d <;> simp only [frzAgg] <;> first
      | exact frzAgg_sound keep t _ _ _ h
      | skip
    · rename_i id
      split
      · exact frzAgg_sound keep t _ _ _ h
      · split
        · rename_i e sz fl es cs hη hT
          split
          · rename_i id' hk
            split
            · rename_i hid
              subst hid
              refine frzAgg_sound keep t _ _ _ ?_
              obtain ⟨ι, hr⟩ := h
              have ht := hr.tmp t
              rw [hT] at ht
              obtain ⟨vs, hv, hl, hc⟩ := ht.agg_inv
              have hkl := (List.getElem?_eq_some_iff.1 hk).1
              have hvk : vs[k]? = some (vs[k]'(by omega)) := Array.getElem?_eq_getElem (by omega)
              obtain ⟨hι, _⟩ := row_inv (.inl (hc k _ _ hvk hk))
              refine ⟨Abs.del ι id', ?_⟩
              simp only [getT_set, getT_kill, getH_kill]
              refine (hr.kill id').re ?_
              rw [hv]
              refine .inr (.inl ⟨_, rfl, vs, rfl, by simp [hl], fun i c d h1 h2 => ?_⟩)
              rw [List.getElem?_map] at h2
              simp only [Option.map_eq_some_iff] at h2
              obtain ⟨d0, h2, rfl⟩ := h2
              by_cases hik : i = k
              · subst hik
                rw [List.getElem?_set_self hkl] at h2
                cases h2
                rw [hvk] at h1
                cases h1
                exact .inl (hr.freeze_rep hη hι)
              · rw [List.getElem?_set_ne (Ne.symm hik)] at h2
                exact (hc i c d0 h1 h2).kill id'
            · exact h
          · exact h
        · exact h
theorem frz_sound (keep : List Nat) {s : St} (x : Operand) (h : SRel N B w0 s a w) : SRel N B w0 (frz keep s x) a w := by
  unfold frz
  split
  · rename_i t
    split
    · rename_i id hT
      split
      · exact h
      · split
        · rename_i e sz fl es hη
          obtain ⟨ι, hr⟩ := h
          have ht := hr.tmp t
          rw [hT] at ht
          obtain ⟨hι, _⟩ := row_inv ht
          refine ⟨Abs.del ι id, ?_⟩
          simp only [getT_set, getT_kill, getH_kill]
          exact (hr.kill id).re (.inl (.inl (hr.freeze_rep hη hι)))
        · exact h
    · exact frzAgg_sound keep t _ _ _ h
    · exact h
  · exact h
def frzAll (s : St) : List (Nat × Operand) → St
  | [] => s
  | (_, x) :: r => frzAll (frz [] s x) r
theorem frzAll_sound : ∀ (ps : List (Nat × Operand)) {s : St}, SRel N B w0 s a w → SRel N B w0 (frzAll s ps) a w
  | [], _, h => h
  | (_, x) :: r, _, h => frzAll_sound r (frz_sound [] x h)

/-! ### Appends, moves -/
def appT (P : Program) (t : TypeId) : Option (TypeId × Nat × Nat) :=
  match P.underlying t with
  | some (.slice e) => match P.info? e with
    | some i => match i.zero with
      | some z => if z.cells.size = i.size ∧ 0 < i.size then some (e, i.size, i.bytes) else none
      | none => none
    | none => none
  | _ => none
theorem appT_some {t e : TypeId} {sz by_ : Nat} (h : appT P t = some (e, sz, by_)) : P.underlying t = some (.slice e) ∧ 0 < sz ∧ ∃ i z, P.info? e = some i ∧ i.zero = some z ∧ z.cells.size = i.size ∧ i.size = sz ∧ i.bytes = by_ := by
  unfold appT at h
  split at h
  · rename_i e' hu
    split at h
    · rename_i i hi
      split at h
      · rename_i z hz
        split at h
        · rename_i hb
          cases h
          exact ⟨hu, hb.2, i, z, hi, hz, hb.1, rfl, rfl⟩
        · cases h
      · cases h
    · cases h
  · cases h

/-- A new row in slot t. -/
def newRowS (s0 : St) (t : Nat) (e : TypeId) (sz : Nat) (fl : Bool) (es : List (List D)) : St := ⟨setT (killT t s0.t) t (.row t), setH (killL t s0.h) t (.row e sz fl es)⟩
/-- 'append(x, y...)' at slot t; where x has no room ('cap0') what is made is a row of its own if 'asRow', else it is frozen. -/
def appendD (P : Program) (asRow : Bool) (s : St) (t : Nat) (ty : TypeId) (x y : Operand) : Option St :=
  match appT P ty with
  | some (e, sz, by_) =>
    match ev (getT s.t) x with
    | .row id =>
      match (if t = id then s else s.drop t) with
      | s0 => match getH s0.h id, srcD (getH s0.h) (ev (getT s0.t) y) with
        | some (.row e' sz' fl es), some (es', fl') =>
          if e' = e ∧ sz' = sz ∧ es'.all (fun c => c.length == sz) = true ∧ (es.length + es'.length) * (by_ + 1) ≤ 140737488355328 then
            some ⟨setT (killT id s0.t) t (.row t), setH (killL id s0.h) t (.row e sz (fl && fl') (es ++ es'))⟩
          else none
        | _, _ => none
    | .emp =>
      match s.drop t with
      | s0 => match srcD (getH s0.h) (ev (getT s0.t) y) with
        | some (es', fl') =>
          if es'.all (fun c => c.length == sz) = true ∧ es'.length * (by_ + 1) ≤ 140737488355328 then
            some (newRowS s0 t e sz fl' es')
          else none
        | none => none
    | .cap0 =>
      match s.drop t with
      | s0 => match srcD (getH s0.h) (ev (getT s0.t) y) with
        | some (es', fl') =>
          if es'.all (fun c => c.length == sz) = true ∧ es'.length * (by_ + 1) ≤ 140737488355328 then
            if asRow = true then
              if es'.length = 0 then none else some (newRowS s0 t e sz fl' es')
            else some (frz [] (newRowS s0 t e sz fl' es') (.tmp t))
          else none
        | none => none
    | _ => none
  | none => none

theorem all_len {es : List (List D)} {sz : Nat} (h : es.all (fun c => c.length == sz) = true) : ∀ e ∈ es, e.length = sz := by
  intro e he
  have := List.all_eq_true.1 h e he
  simpa using this

theorem append_core {ι : Inj} {ρ : Nat → D} {η : Nat → Option O} (hrel : Rel N B w0 ι ρ η a w) {id t : Nat} (ht : t < N) (hti : t = id ∨ η t = none) {ty ty' e : TypeId} {sz by_ : Nat} (hT : appT P ty = some (e, sz, by_)) {fl fl' : Bool} {es es' : List (List D)} {vx vy : Value} {dy : D}
    (hη : η id = some (.row e sz fl es)) (hι : ι id = some vx) (hy : Rep w B ι vy dy) (hs : srcD η dy = some (es', fl')) (hl : es'.all (fun c => c.length == sz) = true) (hb : (es.length + es'.length) * (by_ + 1) ≤ 140737488355328) :
    ∃ v' w', (Builtin.append_ #[ty, ty] ty' #[vx, vy]).run P w = .ok v' w' ∧ ∃ ι', Rel N B w0 ι' (upd (fun s => killD id (ρ s)) t (.row t)) (upd (killH id η) t (some (.row e sz (fl && fl') (es ++ es')))) (a.put (some t) v') w' := by
  obtain ⟨hu, hsz, i, z, hi, hz, hzs, rfl, rfl⟩ := appT_some hT
  obtain ⟨v0, hv0, hobj⟩ := hrel.obj id _ hη
  rw [hι] at hv0
  cases hv0
  obtain ⟨xs, _, ⟨hown, hwr⟩, hlen, hrep, hone, hic, hfl⟩ := hobj
  obtain ⟨⟨A, c, news, src⟩, hfl2⟩ := src_sound hrel hy hs hsz (all_len hl)
  have hb1 : es.length + es'.length ≤ 140737488355328 := Nat.le_trans (Nat.le_mul_of_pos_right _ (by omega)) hb
  have hb2 : (es.length + es'.length) * i.bytes ≤ 140737488355328 := Nat.le_trans (Nat.mul_le_mul_left _ (by omega)) hb
  obtain ⟨v', w', hrun, hown', hg, hblk⟩ := append_run (P := P) (ty := ty') (Nat.zero_le _) hu hi hz hzs hsz hown src (by unfold maxLen; omega) hb2
  rw [ownsRow_ownBlock hown] at hg
  have hn : blk v' = blk vx ∨ ∀ b, blk v' = some b → w.heap.size ≤ b := by
    rw [ownsRow_ownBlock hown, ownsRow_ownBlock hown'] at hblk
    rcases hblk with h | h
    · exact .inl h
    · exact .inr (fun b hb => by rw [h] at hb; cases hb; exact Nat.le_refl _)
  have hobj' : ObjRel w' B (moved ι id t v') v' (.row e i.size (fl && fl') (es ++ es')) :=
    append_obj rfl hsz hown.1 hown' (fun b hb => hn.elim (fun e => hwr b (by rw [← e]; exact hb)) (fun e => .inl (Nat.le_trans hrel.base (e b hb)))) hlen (all_len hl)
      (fun k x j d u h1 h2 h3 => moved_RepI hι hn hg (hrep k x j d u h1 h2 h3))
      (fun k x j d u h1 h2 h3 => moved_RepI hι hn hg (src.rep k x j d u h1 h2 h3)) hone src.one hic src.ic hfl hfl2
  have hr := hrel.move hι (.inl (Nat.lt_of_lt_of_le ht hrel.nn)) hti hn hg hobj'
  refine ⟨v', w', hrun, _, hr.put ht (.inl (.inr ⟨by simp [moved], ?_⟩))⟩
  rcases hown'.2 with ⟨rfl, _⟩ | ⟨g, cap, cur, rfl, _⟩
  · exact ⟨_, _, _, rfl⟩
  · exact ⟨_, _, _, rfl⟩

theorem row_nil_obj {w : World} {ι : Inj} {e : TypeId} {sz : Nat} (hsz : 0 < sz) : ObjRel w B ι (.slice none 0 0) (.row e sz true []) :=
  ⟨[], hsz, ⟨⟨by simp, .inl ⟨rfl, rfl⟩⟩, fun b hb => by cases hb⟩, by simp, by simp, by simp, by simp, by simp⟩

/-- An append onto nil: a new row. -/
theorem append_new {s0 : St} (h0 : SRel N B w0 s0 a w) {t : Nat} (ht : t < N) (hnone : getH s0.h t = none) {ty ty' e : TypeId} {sz by_ : Nat} (hT : appT P ty = some (e, sz, by_)) {y : Operand} {es' : List (List D)} {fl' : Bool}
    (hs : srcD (getH s0.h) (ev (getT s0.t) y) = some (es', fl')) (hl : es'.all (fun c => c.length == sz) = true) (hlim : es'.length * (by_ + 1) ≤ 140737488355328) :
    ∃ v' w', (Builtin.append_ #[ty, ty] ty' #[.slice none 0 0, a.eval y]).run P w = .ok v' w' ∧ SRel N B w0 (newRowS s0 t e sz fl' es') (a.put (some t) v') w' := by
  obtain ⟨ι, hrel⟩ := h0
  have hsz := (appT_some hT).2.1
  -- a row without a block, under the name t
  have hnew : Rel N B w0 (updI ι t (some (.slice none 0 0))) (getT s0.t) (upd (getH s0.h) t (some (.row e sz true []))) a w :=
    hrel.newO (.inl (Nat.lt_of_lt_of_le ht hrel.nn)) hnone (Below.refl _ _) (fun b hb => by cases hb) (row_nil_obj hsz)
  have hs' : srcD (upd (getH s0.h) t (some (.row e sz true []))) (ev (getT s0.t) y) = some (es', fl') := by
    unfold srcD at hs ⊢
    split at hs <;> first | exact hs | skip
    rename_i id hid
    by_cases hit : id = t
    · subst hit; rw [hnone] at hs; cases hs
    · rw [upd_ne _ _ hit]; exact hs
  obtain ⟨v', w', hrun, ι', hr⟩ := append_core (ty' := ty') (fl := true) (es := []) hnew ht (.inl rfl) hT (by simp) (vx := .slice none 0 0) (by simp) (hnew.ev y) hs' hl (by simpa using hlim)
  refine ⟨v', w', hrun, ι', ?_⟩
  have e1 : killH t (upd (getH s0.h) t (some (.row e sz true []))) = killH t (getH s0.h) := by
    funext i
    unfold killH
    by_cases hit : i = t
    · rw [if_pos hit, if_pos hit]
    · rw [if_neg hit, if_neg hit, upd_ne _ _ hit]
  rw [e1] at hr
  simpa only [newRowS, getT_set, getH_set, getT_kill, getH_kill, Bool.true_and, List.nil_append] using hr

/-- An append is sound. -/
theorem append_sound {s s' : St} (h : SRel N B w0 s a w) {t : Nat} (ht : t < N) {ty ty' : TypeId} {x y : Operand} {asRow : Bool} (he : appendD P asRow s t ty x y = some s') :
    ∃ v' w', (Builtin.append_ #[ty, ty] ty' #[a.eval x, a.eval y]).run P w = .ok v' w' ∧ SRel N B w0 s' (a.put (some t) v') w' := by
  unfold appendD at he
  split at he
  · rename_i e sz by_ hT
    split at he
    · rename_i id hx
      obtain ⟨s0, hs0⟩ : ∃ s0, s0 = (if t = id then s else s.drop t) := ⟨_, rfl⟩
      simp only [← hs0] at he
      split at he
      · rename_i e' sz' fl es es' fl' hη hs
        split at he
        · rename_i hb
          obtain ⟨rfl, rfl, hl, hlim⟩ := hb
          cases he
          -- the value of x, in the state before the drop
          have hx0 : ∃ vx, a.eval x = vx := ⟨_, rfl⟩
          by_cases hti : t = id
          · rw [if_pos hti] at hs0
            subst hs0
            obtain ⟨ι, hrel⟩ := h
            have hrx := hrel.ev x
            rw [hx] at hrx
            obtain ⟨hι, _⟩ := row_inv hrx
            obtain ⟨v', w', hrun, ι', hr⟩ := append_core (ty' := ty') hrel ht (.inl hti) hT hη hι (hrel.ev y) hs hl hlim
            refine ⟨v', w', hrun, ι', ?_⟩
            simpa only [getT_set, getH_set, getT_kill, getH_kill] using hr
          · rw [if_neg hti] at hs0
            have h0 := h.drop t
            rw [← hs0] at h0
            obtain ⟨ι, hrel⟩ := h0
            have hnone : getH s0.h t = none := by rw [hs0]; exact getH_drop s t
            have hrx : Rep w B ι (a.eval x) (.row id) := by
              have := hrel.ev x
              have e1 : ev (getT s0.t) x = .row id := by
                rw [hs0]
                unfold St.drop
                split
                · exact hx
                · cases x with
                  | tmp q =>
                    simp only [ev] at hx ⊢
                    simp only [St.kill, getT_kill, hx]
                    simp [killD, mapT, mapA, kill1, refsTo, Ne.symm hti]
                  | const v => exact hx
                  | global g => exact hx
                  | func f => exact hx
              rw [e1] at this
              exact this
            obtain ⟨hι, _⟩ := row_inv hrx
            obtain ⟨v', w', hrun, ι', hr⟩ := append_core (ty' := ty') hrel ht (.inr hnone) hT hη hι (hrel.ev y) hs hl hlim
            refine ⟨v', w', hrun, ι', ?_⟩
            simpa only [getT_set, getH_set, getT_kill, getH_kill] using hr
        · cases he
      · cases he
    · rename_i hx
      obtain ⟨s0, hs0⟩ : ∃ s0, s0 = s.drop t := ⟨_, rfl⟩
      simp only [← hs0] at he
      split at he
      · rename_i es' fl' hs
        split at he
        · rename_i hb
          obtain ⟨hl, hlim⟩ := hb
          cases he
          have hvx : a.eval x = .slice none 0 0 := by
            obtain ⟨ι, hrel⟩ := h
            have := hrel.ev x
            rw [hx] at this
            have := (this.one_inv (fun _ e => by cases e)).resolve_right (fun h => h.elim)
            generalize a.eval x = v at this
            cases this
            rfl
          have h0 := h.drop t
          rw [← hs0] at h0
          obtain ⟨v', w', hrun, hr⟩ := append_new (ty' := ty') h0 ht (by rw [hs0]; exact getH_drop s t) hT hs hl hlim
          exact ⟨v', w', by rw [hvx]; exact hrun, hr⟩
        · cases he
      · cases he
    · rename_i hx
      obtain ⟨s0, hs0⟩ : ∃ s0, s0 = s.drop t := ⟨_, rfl⟩
      simp only [← hs0] at he
      split at he
      · rename_i es' fl' hs
        split at he
        · rename_i hb
          obtain ⟨hl, hlim⟩ := hb
          obtain ⟨A, hvx⟩ : ∃ A, a.eval x = .slice A 0 0 := by
            obtain ⟨ι, hrel⟩ := h
            have := hrel.ev x
            rw [hx] at this
            have := (this.one_inv (fun _ e => by cases e)).resolve_right (fun h => h.elim)
            generalize a.eval x = v at this
            cases this
            exact ⟨_, rfl⟩
          have h0 := h.drop t
          rw [← hs0] at h0
          have hnone : getH s0.h t = none := by rw [hs0]; exact getH_drop s t
          obtain ⟨hu, hsz, i, z, hi, hz, hzs, rfl, rfl⟩ := appT_some hT
          have hb1 : es'.length ≤ 140737488355328 := Nat.le_trans (Nat.le_mul_of_pos_right _ (by omega)) hlim
          have hb2 : es'.length * i.bytes ≤ 140737488355328 := Nat.le_trans (Nat.mul_le_mul_left _ (by omega)) hlim
          have hsrc : ∃ ι, Rel N B w0 ι (getT s0.t) (getH s0.h) a w := h0
          obtain ⟨ι, hrel⟩ := hsrc
          obtain ⟨⟨A', c, news, src⟩, _⟩ := src_sound hrel (hrel.ev y) hs hsz (all_len hl)
          have same : es'.length ≠ 0 → (Builtin.append_ #[ty, ty] ty' #[a.eval x, a.eval y]).run P w = (Builtin.append_ #[ty, ty] ty' #[.slice none 0 0, a.eval y]).run P w := by
            intro hne
            rw [hvx, src.val]
            cases A with
            | none => rfl
            | some b =>
              cases A' with
              | none => exact absurd (by rw [src.nil rfl]; rfl) hne
              | some ad =>
                rw [Go.run_append_nil (P := P) w ty ty' e i z hu hi hz ad es'.length c news src.len (src.cell ad rfl) (by omega) (by omega) (by omega)]
                have hns : Builtin.nextslicecap es'.length 0 = es'.length := by unfold Builtin.nextslicecap; rw [if_pos (by omega)]
                have := Go.run_append_grow (P := P) w ty ty' e i z hu hi hz b 0 0 [] (by simp) (by simp) ad es'.length c news src.len (src.cell ad rfl) (by omega) (by omega) (by rw [Nat.zero_add, hns]; omega)
                simpa using this
          have zero : es'.length = 0 → (Builtin.append_ #[ty, ty] ty' #[a.eval x, a.eval y]).run P w = .ok (.slice A 0 0) w := by
            intro hze
            rw [hvx, src.val, hze]
            have hn : news = [] := List.eq_nil_of_length_eq_zero (by rw [src.len, hze]; simp)
            cases A' with
            | none => cases A <;> simp [Builtin.append_, run_underlying hu, Go.sizeOf, typeInfo, hi, Builtin.lenOf, Builtin.firstCells, storeCells]
            | some ad => cases A <;> simp [Builtin.append_, run_underlying hu, Go.sizeOf, typeInfo, hi, Builtin.lenOf, Builtin.firstCells, loadCells, loadCellsFrom, storeCells]
          split at he
          · split at he
            · cases he
            · rename_i hne
              cases he
              obtain ⟨v', w', hrun, hr⟩ := append_new (ty' := ty') h0 ht hnone hT hs hl hlim
              exact ⟨v', w', by rw [same hne]; exact hrun, hr⟩
          · cases he
            by_cases hze : es'.length = 0
            · refine ⟨_, w, zero hze, ?_⟩
              have he' : es' = [] := List.eq_nil_of_length_eq_zero hze
              subst he'
              have e1 : frz [] (newRowS s0 t e i.size fl' []) (.tmp t) = ⟨setT (killT t (newRowS s0 t e i.size fl' []).t) t (.own fl' []), killL t (newRowS s0 t e i.size fl' []).h⟩ := by
                simp [frz, newRowS, getT_set, getH_set]
              rw [e1]
              refine ⟨Abs.del (Abs.del ι t) t, ?_⟩
              have hk := ((hrel.kill t).kill t).put ht (v := .slice A 0 0) (d := .own fl' []) (.inl (.inl (.own0 _ _ _)))
              have e2 : getT (setT (killT t (newRowS s0 t e i.size fl' []).t) t (.own fl' [])) = upd (fun q => killD t (killD t (getT s0.t q))) t (.own fl' []) := by
                simp only [newRowS, getT_set, getT_kill]
                funext q
                unfold upd
                by_cases hq : q = t <;> simp [hq]
              have e3 : getH (killL t (newRowS s0 t e i.size fl' []).h) = killH t (killH t (getH s0.h)) := by
                simp only [newRowS, getH_kill, getH_set]
                funext q
                unfold killH upd
                by_cases hq : q = t <;> simp [hq]
              rw [e2, e3]
              exact hk
            · obtain ⟨v', w', hrun, hr⟩ := append_new (ty' := ty') h0 ht hnone hT hs hl hlim
              exact ⟨v', w', by rw [same hze]; exact hrun, frz_sound [] _ hr⟩
        · cases he
      · cases he
    · cases he
  · cases he

end
end Go.Abs
