/-
  Calls by contract; the free operations as one function, and that it is sound.
-/
import Derived.Test.YthgamgdcjgbmnaaGreatDoorAbsF
namespace Go.Abs
set_option linter.unusedSimpArgs false
set_option linter.unusedVariables false
open Go Go.RowKit

/-- Package variables that nobody writes. -/
def Globs (G : Nat → Option (List D)) (w : World) (ok fr : Nat → Prop) : Prop := ∀ g cs, G g = some cs → RepI w ok fr (.pointer (some ⟨g, 0, none⟩)) (.elt cs)

/-- What a call of function f at abstract arguments hands back: no memory that was there has changed; the result reads as r. -/
def Contract (P : Program) (G : Nat → Option (List D)) (f : FuncId) (ds : List D) (r : D) : Prop :=
  (∀ (args : Array Value) (w : World), (callFunc f args).run P w = .ok (.enter f args) w) ∧
  ∀ (w : World) (ok : Nat → Prop) (args : Array Value), Globs G w ok (fun _ => False) → CellsRel (RepI w ok (fun _ => False)) args ds →
    Calls P f args w fun e w' => ∃ v, e = .returned v ∧ Ext w w' ∧ RepI w' (fun b => ok b ∨ w.heap.size ≤ b) (fun b => w.heap.size ≤ b) v r

/-- Objects, each in memory of its own that may be written. -/
structure Objs (w : World) (B : Nat) (ι : Inj) (hs : List (Nat × O)) : Prop where
  obj : ∀ id o, getH hs id = some o → ∃ v, ι id = some v ∧ ObjRel w B ι v o
  dom : ∀ id v, ι id = some v → ∃ o, getH hs id = some o
  inj : ∀ id id' v v' b, ι id = some v → ι id' = some v' → blk v = some b → blk v' = some b → id = id'
  fresh : ∀ b, wrB B ι b → ι.K b

/-- What a call of function f at abstract arguments and objects hands back: no memory that was there has changed but that of the objects; these, and those that are new, are as told. -/
def ContractE (P : Program) (G : Nat → Option (List D)) (f : FuncId) (hs : List (Nat × O)) (ds : List D) (r : D) (hs' : List (Nat × O)) : Prop :=
  (∀ (args : Array Value) (w : World), (callFunc f args).run P w = .ok (.enter f args) w) ∧
  ∀ (w : World) (ι : Inj) (args : Array Value), Objs w w.heap.size ι hs → Globs G w (okB ι) (frB w.heap.size ι) → CellsRel (Rep w w.heap.size ι) args ds →
    Calls P f args w fun e w' => ∃ v ι', e = .returned v ∧ BelowZ w.heap.size ι.Z w w' ∧ ι'.K = ι.K ∧ ι'.Z = ι.Z ∧ Objs w' w.heap.size ι' hs' ∧ Rep w' w.heap.size ι' v r ∧
      ∀ id v, ι id = some v → 1000 ≤ id → id < 10000 → ι' id = none ∨ ι' id = some v

/-- What is known of the functions that a function calls, and of the package variables. -/
structure CT where
  p : FuncId → List D → Option D
  e : FuncId → List (Nat × O) → List D → Option (D × List (Nat × O))
  g : Nat → Option (List D)
def CTok (P : Program) (call : CT) : Prop :=
  (∀ f ds r, call.p f ds = some r → Contract P call.g f ds r) ∧ ∀ f hs ds r hs', call.e f hs ds = some (r, hs') → ContractE P call.g f hs ds r hs'

section
variable {P : Program} {w : World} {B : Nat} {ι : Inj}

def resA (η : Nat → Option O) : D → Option (D × Bool)
  | .row id => match η id with
    | some (.row _ _ _ es) => some (.sl es, true)
    | _ => none
  | .bsl id off n sz => match η id with
    | some (.box _ cs) => if off + n * sz ≤ cs.length then
        match rowsI (chunk sz n (cs.drop off)) with
        | some es => some (.sl es, true)
        | none => none
      else none
    | _ => none
  | .emp => some (.sl [], false)
  | .own _ es => some (.sl es, false)
  | .x v => some (.x v, false)
  | .sl es => some (.sl es, false)
  | .any => some (.any, false)
  | .elt cs => some (.elt cs, false)
  | .mp id => match η id with
    | some (.mp es) => some (.mpv es, true)
    | _ => none
  | .mpv es => some (.mpv es, false)
  | _ => none
/-- The cells of an object that is only looked at. -/
def resB (η : Nat → Option O) : List D → Option (List D)
  | [] => some []
  | d :: r => match resA η d, resB η r with
    | some (d', _), some r' => if isCell d' = true then some (d' :: r') else none
    | _, _ => none
def res1 (η : Nat → Option O) : D → Option (D × Bool)
  | .ptr id off => if off = 0 then
      match η id with
      | some (.box _ cs) => match resB η cs with
        | some cs' => some (.elt cs', true)
        | none => none
      | _ => none
    else none
  | d => resA η d
def resC (η : Nat → Option O) : List D → Option (List D × Bool)
  | [] => some ([], false)
  | d :: r => match res1 η d, resC η r with
    | some (d', u), some (r', u') => some (d' :: r', u || u')
    | _, _ => none
def resD (η : Nat → Option O) : D → Option (D × Bool)
  | .agg cs => match resC η cs with
    | some (cs', u) => some (.agg cs', u)
    | none => none
  | d => res1 η d
def resL (η : Nat → Option O) : List D → Option (List D × Bool)
  | [] => some ([], false)
  | d :: r => match resD η d, resL η r with
    | some (d', u), some (r', u') => some (d' :: r', u || u')
    | _, _ => none

def okU (ι : Inj) (u : Bool) (b : Nat) : Prop := u = true ∨ okB ι b

theorem rep_okU {v : Value} {d : D} {fr : Nat → Prop} (u : Bool) (h : RepI w (okB ι) fr v d) : RepI w (okU ι u) fr v d :=
  h.mono (Nat.le_refl _) (fun _ _ ho => ⟨.inr ho, rfl⟩) (fun _ _ ho => ⟨ho, rfl⟩)
theorem okU_or {v : Value} {d : D} {fr : Nat → Prop} {u u' : Bool} (h : RepI w (okU ι u) fr v d) (hu : u = true → u' = true) : RepI w (okU ι u') fr v d :=
  h.mono (Nat.le_refl _) (fun _ _ ho => ⟨ho.imp hu id, rfl⟩) (fun _ _ ho => ⟨ho, rfl⟩)

theorem rowsI_get : ∀ (es es' : List (List D)), rowsI es = some es' → es'.length = es.length ∧ ∀ (i : Nat) (e' : List D), es'[i]? = some e' → ∃ e, es[i]? = some e ∧ cellsI e = some e'
  | [], es', h => by cases h; exact ⟨rfl, fun i d' h => by simp at h⟩
  | d :: r, es', h => by
    unfold rowsI at h
    split at h
    · rename_i x y hx hy
      cases h
      obtain ⟨h1, h2⟩ := rowsI_get r y hy
      refine ⟨by simp [h1], fun i d' hi => ?_⟩
      cases i with
      | zero => simp at hi; subst hi; exact ⟨d, rfl, hx⟩
      | succ i => simpa using h2 i d' (by simpa using hi)
    · cases h

theorem resA_sound {N : Nat} {w0 : Bs} {ρ : Nat → D} {η : Nat → Option O} {a : Act} (hrel : Rel N B w0 ι ρ η a w) {v : Value} {d d' : D} {u : Bool} (h : Rep1 w B ι v d) (hd : resA η d = some (d', u)) :
    RepI w (okU ι u) (fun _ => False) v d' := by
  have imm : ∀ {v : Value} {e : D}, RepI w (okB ι) (frB B ι) v e → isCell e = true → RepI w (okU ι u) (fun _ => False) v e := fun h hc => rep_okU u ((h.cell _).1 hc)
  unfold resA at hd
  split at hd
  · rename_i id
    split at hd
    · rename_i ety sz fl es hη
      cases hd
      obtain ⟨hι, A, n, c, rfl⟩ := row_inv (.inl h)
      obtain ⟨v, hv, hobj⟩ := hrel.obj id _ hη
      rw [hι] at hv
      cases hv
      have hobj' := hobj
      obtain ⟨xs, hsz, ⟨hown, hwr⟩, hlen, hrep, hone, hic, hfl⟩ := hobj
      rcases hown.2 with ⟨h1, h2⟩ | ⟨g, cap, cur, hv, hB, hh, hle, hmx, hcs, hxs⟩
      · cases h1
        have : es = [] := List.eq_nil_of_length_eq_zero h2
        subst this
        exact .sl0 _ _
      · injection hv with h1 h2 h3
        subst h1 h2 h3
        have hcells := (row_cells hobj').2.2.2
        refine .sl (sz := sz) (.inl rfl) (Array.getElem?_eq_some_iff.1 hh).1 hle hic hlen (fun i j hi hj => ?_) (fun i e j d u he hd hu => ?_)
        · have he : es[i]? = some es[i] := List.getElem?_eq_getElem hi
          have hel := hlen _ (List.getElem_mem hi)
          obtain ⟨u, hu, _, h1⟩ := hcells i _ j _ he (List.getElem?_eq_getElem (by omega : j < es[i].length))
          rw [Addr.add_lit, Nat.zero_add]
          rw [hel] at hu
          exact ⟨u, hu, h1⟩
        · obtain ⟨u', hu', hr, _⟩ := hcells i e j d he hd
          rw [Addr.add_lit, Nat.zero_add] at hu
          rw [hlen e (List.mem_of_getElem? he), hu] at hu'
          cases hu'
          exact imm hr (hic e (List.mem_of_getElem? he) d (List.mem_of_getElem? hd))
    · cases hd
  · rename_i id off n sz
    split at hd
    · rename_i ty cs hη
      split at hd
      · rename_i hle
        split at hd
        · rename_i es hes
          cases hd
          obtain ⟨b, c, hι, rfl, hnc⟩ := bsl_inv (.inl h)
          obtain ⟨v, hv, hobj⟩ := hrel.obj id _ hη
          rw [hι] at hv
          cases hv
          obtain ⟨b', cur, e, hB, hh, hsz, hcells⟩ := hobj
          injection e with e; injection e with e; injection e with e
          subst e
          obtain ⟨hl, hg⟩ := rowsI_get _ _ hes
          rw [chunk_length] at hl
          subst hl
          have cell : ∀ (i : Nat) (e : List D) (j : Nat) (d : D), es[i]? = some e → e[j]? = some d → e.length = sz ∧ ∃ u, cur[off + (i * sz + j)]? = some u ∧ RowCell w B ι u d := by
            intro i e j d he hd
            obtain ⟨e0, he0, hce⟩ := hg i e he
            obtain ⟨hlt, rfl⟩ := chunk_get he0
            obtain ⟨hl2, hg2⟩ := cellsI_get _ _ hce
            have : (i + 1) * sz ≤ es.length * sz := Nat.mul_le_mul_right _ hlt
            rw [Nat.add_mul, Nat.one_mul] at this
            have hel : e.length = sz := by rw [hl2]; simp; omega
            obtain ⟨d0, hd0, hci⟩ := hg2 j d hd
            have hj := (List.getElem?_eq_some_iff.1 hd).1
            rw [List.getElem?_take_of_lt (by omega), List.getElem?_drop, List.getElem?_drop] at hd0
            have hlt2 := (List.getElem?_eq_some_iff.1 hd0).1
            have hcur : cur[off + (i * sz + j)]? = some (cur[off + (i * sz + j)]'(by omega)) := Array.getElem?_eq_getElem (by omega)
            exact ⟨hel, _, hcur, cellI_sound (hcells _ _ d0 hcur hd0).1 hci⟩
          have len : ∀ e ∈ es, e.length = sz := by
            intro e he
            obtain ⟨i, hi⟩ := List.getElem?_of_mem he
            obtain ⟨e0, he0, hce⟩ := hg i e hi
            obtain ⟨hlt, rfl⟩ := chunk_get he0
            have := (cellsI_get _ _ hce).1
            have : (i + 1) * sz ≤ es.length * sz := Nat.mul_le_mul_right _ hlt
            rw [Nat.add_mul, Nat.one_mul] at this
            simp at *
            omega
          refine .sl (sz := sz) (.inl rfl) (Array.getElem?_eq_some_iff.1 hh).1 hnc (fun e he d hd => ?_) len (fun i j hi hj => ?_) (fun i e j d u he hd hu => ?_)
          · obtain ⟨i, hi⟩ := List.getElem?_of_mem he
            obtain ⟨j, hj⟩ := List.getElem?_of_mem hd
            obtain ⟨_, u, _, hr⟩ := cell i e j d hi hj
            exact hr.2.2
          · have he : es[i]? = some es[i] := List.getElem?_eq_getElem hi
            have hel := len _ (List.getElem_mem hi)
            obtain ⟨_, u, hu, hr⟩ := cell i _ j _ he (List.getElem?_eq_getElem (by omega : j < es[i].length))
            refine ⟨u, ?_, hr.2.1⟩
            rw [Addr.add_lit]
            simp [World.cell?, hh, hu]
          · obtain ⟨_, u', hu', hr⟩ := cell i e j d he hd
            rw [Addr.add_lit] at hu
            simp [World.cell?, hh, hu'] at hu
            subst hu
            exact imm hr.1 hr.2.2
        · cases hd
      · cases hd
    · cases hd
  · cases hd
    have h := h.resolve_right (fun h => h.elim)
    cases h
    exact .sl0 _ _
  · cases hd
    have := ((h.resolve_right (fun h => h.elim)).cell (fun _ => False)).2.2 _ _ rfl
    exact this.mono (Nat.le_refl _) (fun b _ ho => ⟨.inr (ho.elim id (·.2)), rfl⟩) (fun b _ ho => ⟨ho, rfl⟩)
  · cases hd; exact imm (h.resolve_right (fun h => h.elim)) rfl
  · cases hd; exact imm (h.resolve_right (fun h => h.elim)) rfl
  · cases hd; exact .any _
  · cases hd
    exact rep_okU false (((h.resolve_right (fun h => h.elim)).cell _).2.1 _ rfl)
  · rename_i id
    split at hd
    · rename_i es hη
      cases hd
      rcases h with h | h
      · cases h
      · obtain ⟨hι, r, rfl⟩ := h
        obtain ⟨v, hv, hobj⟩ := hrel.obj id _ hη
        rw [hι] at hv
        cases hv
        obtain ⟨r', ms, ck, e, hB, hh, he, _⟩ := hobj
        injection e with e; injection e with e
        subst e he
        exact .mpv (.inl rfl) hh
    · cases hd
  · cases hd; exact imm (h.resolve_right (fun h => h.elim)) rfl
  · cases hd

theorem resB_sound {N : Nat} {w0 : Bs} {ρ : Nat → D} {η : Nat → Option O} {a : Act} (hrel : Rel N B w0 ι ρ η a w) : ∀ (ds ds' : List D), resB η ds = some ds' →
    ds'.length = ds.length ∧ (∀ d ∈ ds', isCell d = true) ∧ ∀ (i : Nat) (d : D) (d' : D) (c : Value), ds[i]? = some d → ds'[i]? = some d' → Rep1 w B ι c d → RepI w (okU ι true) (fun _ => False) c d'
  | [], ds', h => by cases h; exact ⟨rfl, fun d h => by simp at h, fun i d d' c h => by simp at h⟩
  | d :: r, ds', h => by
    unfold resB at h
    split at h
    · rename_i x ux y hx hy
      split at h
      · rename_i hi
        cases h
        obtain ⟨h1, h2, h3⟩ := resB_sound hrel r y hy
        refine ⟨by simp [h1], fun d hd => ?_, fun i e e' c hi hi' hc => ?_⟩
        · rcases List.mem_cons.1 hd with rfl | hd
          · exact hi
          · exact h2 d hd
        · cases i with
          | zero => simp at hi hi'; subst hi hi'; exact okU_or (resA_sound hrel hc hx) (fun _ => rfl)
          | succ i => exact h3 i e e' c (by simpa using hi) (by simpa using hi') hc
      · cases h
    · cases h
theorem res1_sound {N : Nat} {w0 : Bs} {ρ : Nat → D} {η : Nat → Option O} {a : Act} (hrel : Rel N B w0 ι ρ η a w) {v : Value} {d d' : D} {u : Bool} (h : Rep1 w B ι v d) (hd : res1 η d = some (d', u)) :
    RepI w (okU ι u) (fun _ => False) v d' := by
  unfold res1 at hd
  split at hd
  · rename_i id off
    split at hd
    · rename_i h0
      subst h0
      split at hd
      · rename_i ty cs hη
        split at hd
        · rename_i cs' hcs
          cases hd
          obtain ⟨b, hι, rfl⟩ := Rep.ptr_inv (.inl h)
          obtain ⟨v, hv, hobj⟩ := hrel.obj id _ hη
          rw [hι] at hv
          cases hv
          obtain ⟨b', cur, e, hB, hh, hsz, hcells⟩ := hobj
          injection e with e; injection e with e; injection e with e
          subst e
          obtain ⟨h1, h2, h3⟩ := resB_sound hrel cs cs' hcs
          refine .elt (.inl rfl) (Array.getElem?_eq_some_iff.1 hh).1 h2 (fun j hj => ?_) (fun j d u hd hu => ?_)
          · have hcur : cur[j]? = some (cur[j]'(by omega)) := Array.getElem?_eq_getElem (by omega)
            refine ⟨_, by rw [Addr.add_lit, Nat.zero_add]; simp only [World.cell?, hh]; exact hcur, (hcells j _ _ hcur (List.getElem?_eq_getElem (by omega))).2⟩
          · have hjl := (List.getElem?_eq_some_iff.1 hd).1
            have hcs0 : cs[j]? = some (cs[j]'(by omega)) := List.getElem?_eq_getElem (by omega)
            rw [Addr.add_lit, Nat.zero_add] at hu
            simp only [World.cell?, hh] at hu
            exact h3 j _ d u hcs0 hd (hcells j u _ hu hcs0).1
        · cases hd
      · cases hd
    · cases hd
  · exact resA_sound hrel h hd

theorem resC_sound {N : Nat} {w0 : Bs} {ρ : Nat → D} {η : Nat → Option O} {a : Act} (hrel : Rel N B w0 ι ρ η a w) : ∀ (ds ds' : List D) (u : Bool), resC η ds = some (ds', u) →
    ds'.length = ds.length ∧ ∀ (i : Nat) (d : D) (d' : D) (c : Value), ds[i]? = some d → ds'[i]? = some d' → Rep1 w B ι c d → RepI w (okU ι u) (fun _ => False) c d'
  | [], ds', u, h => by cases h; exact ⟨rfl, fun i d d' c h => by simp at h⟩
  | d :: r, ds', u, h => by
    unfold resC at h
    split at h
    · rename_i x ux y uy hx hy
      cases h
      obtain ⟨h1, h2⟩ := resC_sound hrel r y uy hy
      refine ⟨by simp [h1], fun i e e' c hi hi' hc => ?_⟩
      cases i with
      | zero => simp at hi hi'; subst hi hi'; exact okU_or (res1_sound hrel hc hx) (fun h => by simp [h])
      | succ i => exact okU_or (h2 i e e' c (by simpa using hi) (by simpa using hi') hc) (fun h => by simp [h])
    · cases h
theorem resD_sound {N : Nat} {w0 : Bs} {ρ : Nat → D} {η : Nat → Option O} {a : Act} (hrel : Rel N B w0 ι ρ η a w) {v : Value} {d d' : D} {u : Bool} (h : Rep w B ι v d) (hd : resD η d = some (d', u)) :
    RepI w (okU ι u) (fun _ => False) v d' := by
  by_cases ha : ∃ cs, d = .agg cs
  · obtain ⟨cs, rfl⟩ := ha
    unfold resD at hd
    simp only at hd
    split at hd
    · rename_i cs' u' hc
      cases hd
      obtain ⟨vs, rfl, hl, hcs⟩ := h.agg_inv
      obtain ⟨h1, h2⟩ := resC_sound hrel cs cs' u hc
      refine .agg (by omega) (fun i c e hi he => ?_)
      have hlt := (List.getElem?_eq_some_iff.1 he).1
      have hcs' : cs[i]? = some (cs[i]'(by omega)) := List.getElem?_eq_getElem (by omega)
      exact h2 i _ e c hcs' he (hcs i c _ hi hcs')
    · cases hd
  · have e1 : resD η d = res1 η d := by cases d <;> first | rfl | exact absurd ⟨_, rfl⟩ ha
    rw [e1] at hd
    exact res1_sound hrel (h.one_inv (fun ds e => ha ⟨ds, e⟩) (by rintro ds rfl; simp [res1, resA] at hd)) hd
theorem resL_sound {N : Nat} {w0 : Bs} {ρ : Nat → D} {η : Nat → Option O} {a : Act} (hrel : Rel N B w0 ι ρ η a w) : ∀ (ds ds' : List D) (u : Bool), resL η ds = some (ds', u) →
    ds'.length = ds.length ∧ ∀ (i : Nat) (d : D) (d' : D) (c : Value), ds[i]? = some d → ds'[i]? = some d' → Rep w B ι c d → RepI w (okU ι u) (fun _ => False) c d'
  | [], ds', u, h => by cases h; exact ⟨rfl, fun i d d' c h => by simp at h⟩
  | d :: r, ds', u, h => by
    unfold resL at h
    split at h
    · rename_i x ux y uy hx hy
      cases h
      obtain ⟨h1, h2⟩ := resL_sound hrel r y uy hy
      refine ⟨by simp [h1], fun i e e' c hi hi' hc => ?_⟩
      cases i with
      | zero => simp at hi hi'; subst hi hi'; exact okU_or (resD_sound hrel hc hx) (fun h => by simp [h])
      | succ i => exact okU_or (h2 i e e' c (by simpa using hi) (by simpa using hi') hc) (fun h => by simp [h])
    · cases h

def mf1 : D → Bool
  | .x _ => true
  | .own fl _ => fl
  | .any => true
  | _ => false
def mf2 : D → Bool
  | .agg cs => cs.all mf1
  | d => mf1 d
def memfree : D → Bool
  | .tup ds => ds.all mf2
  | d => mf2 d

theorem RepI.mf1 {ok fr ok' fr' : Nat → Prop} {v : Value} {d : D} (h : RepI w ok fr v d) (hm : Abs.mf1 d = true) (hfr : ∀ b, fr b → fr' b) : RepI w ok' fr' v d := by
  cases h with
  | any => exact .any _
  | x => exact .x _
  | own0 => exact .own0 _ _ _
  | own hb hlt hcap hic hsz hcell hrep hfl =>
    refine .own (hfr _ hb) hlt hcap hic hsz hcell (fun i e j d u he hd hu => ?_) hfl
    obtain ⟨v, rfl⟩ := hfl hm e (List.mem_of_getElem? he) d (List.mem_of_getElem? hd)
    have := hrep i e j _ u he hd hu
    cases this
    exact .x _
  | _ => cases hm
theorem RepI.mf2 {ok fr ok' fr' : Nat → Prop} {v : Value} {d : D} (h : RepI w ok fr v d) (hm : Abs.mf2 d = true) (hfr : ∀ b, fr b → fr' b) : RepI w ok' fr' v d := by
  by_cases ha : ∃ cs, d = .agg cs
  · obtain ⟨cs, rfl⟩ := ha
    cases h with
    | agg hl hc => exact .agg hl (fun i c e hi he => (hc i c e hi he).mf1 (List.all_eq_true.1 hm e (List.mem_of_getElem? he)) hfr)
  · exact h.mf1 (by cases d <;> first | exact hm | exact absurd ⟨_, rfl⟩ ha) hfr
theorem RepI.mf {ok fr ok' fr' : Nat → Prop} {v : Value} {d : D} (h : RepI w ok fr v d) (hm : memfree d = true) (hfr : ∀ b, fr b → fr' b) : RepI w ok' fr' v d := by
  by_cases ha : ∃ ds, d = .tup ds
  · obtain ⟨cs, rfl⟩ := ha
    cases h with
    | tup hl hc => exact .tup hl (fun i c e hi he => (hc i c e hi he).mf2 (List.all_eq_true.1 hm e (List.mem_of_getElem? he)) hfr)
  · exact h.mf2 (by cases d <;> first | exact hm | exact absurd ⟨_, rfl⟩ ha) hfr

/-! ### The free operations -/
def callD (call : CT) (ρ : Nat → D) (η : Nat → Option O) (P : Program) (c : Go.Call) : Option D :=
  match c.callee with
  | .value f => match ev ρ f with
    | .x (.func (.func g) first cap) => if first.size = 0 ∧ cap.size = 0 then
        match resL η (c.args.toList.map (ev ρ)) with
        | some (ds, u) => match call.p g ds with
          | some r => if u = true ∧ memfree r = false then none else some r
          | none => none
        | none => none
      else none
    | _ => none
  | .builtin b => match b, c.args.toList.map (ev ρ) with
    | .len, [x] => match c.argTypes[0]? with
      | some t => lenOp P η t x
      | none => none
    | .min, x :: r => foldD min2D x r
    | .max, x :: r => foldD max2D x r
    | _, _ => none
  | _ => none

/-- An operand as an address: package variables that nobody writes are known. -/
def evG (call : CT) (ρ : Nat → D) (x : Operand) : D := match x with
  | .global g => match call.g g with
    | some cs => .elt cs
    | none => ev ρ x
  | _ => ev ρ x
def capD (ρ : Nat → D) : List Operand → Option (List Nat)
  | [] => some []
  | x :: r => match ev ρ x, capD ρ r with
    | .ptr id off, some ids => if off = 0 then some (id :: ids) else none
    | _, _ => none
def makeFuncD (ρ : Nat → D) (fn : Fn) (first captured : Array Operand) : Option D := match fn with
  | .func f => if first.size = 0 then
      match capD ρ captured.toList with
      | some ids => some (.clo f ids)
      | none => none
    else none
  | _ => none

def noneOf (d : Option D) : Option (D × Option O) := match d with
  | some d => some (d, none)
  | none => none

def aop (P : Program) (call : CT) (ρ : Nat → D) (η : Nat → Option O) (t : Nat) (op : Op) : Option (D × Option O) :=
  match op with
  | .move x => some (ev ρ x, none)
  | .assign x => match ev ρ x with
    | .row _ => none
    | d => some (d, none)
  | .pick c a b => match ev ρ c with
    | .x (.bool p) => some (if p = true then ev ρ a else ev ρ b, none)
    | _ => none
  | .alloc e => match zeroD P e with
    | some cs => if cs.all one = true then some (.ptr t 0, some (.box e cs)) else none
    | none => none
  | .box e x => if shapeOk (ev ρ x) = true ∧ (cellsD (ev ρ x)).all one = true then some (.ptr t 0, some (.box e (cellsD (ev ρ x)))) else none
  | .build ty parts => noneOf (buildD P ρ ty parts)
  | .buildSlice ty len parts => match buildSliceD P ρ ty len parts with
    | some (e, sz, es) => some (.row t, some (.row e sz (flat es) es))
    | none => none
  | .load ty x => noneOf (loadD P η ty (evG call ρ x))
  | .nilCheck x => match ev ρ x with
    | .ptr i off => some (.ptr i off, none)
    | .elt cs => some (.elt cs, none)
    | .rel i sz k off => some (.rel i sz k off, none)
    | .clo f ids => some (.clo f ids, none)
    | .x (.func (.func f) first cap) => some (.x (.func (.func f) first cap), none)
    | _ => none
  | .makeFunc fn first captured => noneOf (makeFuncD ρ fn first captured)
  | .binOp o ty x y _ => noneOf (binD P o ty (ev ρ x) (ev ρ y))
  | .unOp o _ x => noneOf (unD o (ev ρ x))
  | .convert s d x => noneOf (convD P s d (ev ρ x))
  | .slice ty x lo hi mx => match mx with
    | none => noneOf (sliceD P ty (ev ρ x) (lo.map (ev ρ)) (hi.map (ev ρ)))
    | some m => noneOf (slice3D P ty (ev ρ x) (lo.map (ev ρ)) (hi.map (ev ρ)) (ev ρ m))
  | .fieldAddr s x f => noneOf (fieldAddrD P s f (evG call ρ x))
  | .field s x f => noneOf (fieldD P s f (ev ρ x))
  | .indexAddr ty x i => noneOf (indexAddrD P η ty (evG call ρ x) (ev ρ i))
  | .index ty x i => noneOf (indexD P ty (ev ρ x) (ev ρ i))
  | .extract x i => match ev ρ x with
    | .tup ds => noneOf ds[i]?
    | _ => none
  | .makeSlice ty l c => match makeSliceD P ty (ev ρ l) (ev ρ c) with
    | some (e, sz, es) => some (.row t, some (.row e sz (flat es) es))
    | none => none
  | .call c => noneOf (callD call ρ η P c)
  | _ => none

def Outcome (P : Program) (B : Nat) (ι : Inj) (t : Nat) (w : World) (d : D) (oo : Option O) (r : Result Next) : Prop :=
  (∃ v w', r = .ok (.value v) w' ∧ Good B ι t w w' v d oo) ∨
  ∃ f args, r = .ok (.enter f args) w ∧ Calls P f args w fun e w' => ∃ v, e = .returned v ∧ Good B ι t w w' v d oo

theorem out_value {t : Nat} {d : D} {s : Sem Value} (h : ∃ v, s.run P w = .ok v w ∧ Rep w B ι v d) :
    Outcome P B ι t w d none ((do pure (Next.value (← s)) : Sem Next).run P w) := by
  obtain ⟨v, hv, hr⟩ := h
  exact .inl ⟨v, w, by simp [hv], good_same hr⟩
theorem out_new {t : Nat} {d : D} {oo : Option O} {s : Sem Value} (h : ∃ v w', s.run P w = .ok v w' ∧ Good B ι t w w' v d oo) :
    Outcome P B ι t w d oo ((do pure (Next.value (← s)) : Sem Next).run P w) := by
  obtain ⟨v, w', hv, hr⟩ := h
  exact .inl ⟨v, w', by simp [hv], hr⟩

theorem noneOf_some {x : Option D} {d : D} {oo : Option O} (h : noneOf x = some (d, oo)) : x = some d ∧ oo = none := by
  unfold noneOf at h
  split at h
  · cases h; exact ⟨rfl, rfl⟩
  · cases h

theorem bnd_rel {N : Nat} {w0 : Bs} {ρ : Nat → D} {η : Nat → Option O} {a : Act} (hrel : Rel N B w0 ι ρ η a w) (x : Option Operand) : BndRel w B ι (x.map a.eval) (x.map (ev ρ)) := by
  cases x with
  | none => trivial
  | some x => exact hrel.ev x

theorem args_rel {N : Nat} {w0 : Bs} {ρ : Nat → D} {η : Nat → Option O} {a : Act} (hrel : Rel N B w0 ι ρ η a w) (xs : Array Operand) (i : Nat) (e : D) (u : Value) (he : (xs.toList.map (ev ρ))[i]? = some e) (hu : (xs.map a.eval)[i]? = some u) : Rep w B ι u e := by
  rw [List.getElem?_map] at he
  rw [Array.getElem?_map] at hu
  simp only [Option.map_eq_some_iff] at he hu
  obtain ⟨x, hx, rfl⟩ := he
  obtain ⟨y, hy, rfl⟩ := hu
  rw [Array.getElem?_toList, hy] at hx
  cases hx
  exact hrel.ev _

theorem args_cons {ρ : Nat → D} {a : Act} (xs : Array Operand) {x : D} {r : List D} (hx : xs.toList.map (ev ρ) = x :: r) : ∃ v0 vs, (xs.map a.eval).toList = v0 :: vs ∧ r.length = vs.length := by
  have hl : (xs.map a.eval).toList.length = (xs.toList.map (ev ρ)).length := by simp
  cases hc : (xs.map a.eval).toList with
  | nil => rw [hc, hx] at hl; simp at hl
  | cons v0 vs => rw [hc, hx] at hl; simp at hl; exact ⟨v0, vs, rfl, hl.symm⟩

theorem call_sound {N : Nat} {w0 : Bs} {ρ : Nat → D} {η : Nat → Option O} {a : Act} (hrel : Rel N B w0 ι ρ η a w) {call : CT} (hcall : CTok P call) (hG : w0.G = call.g) {t : Nat} {c : Go.Call} {d : D} {ty : TypeId}
    (h : callD call ρ η P c = some d) : Outcome P B ι t w d none ((do let x ← resolve a.eval c ty; invoke x.target x.args : Sem Next).run P w) := by
  unfold callD at h
  split at h
  · rename_i f hf
    split at h
    · rename_i g first cap hg
      split at h
      · rename_i h0
        split at h
        · rename_i ds u hres
          split at h
          · rename_i r hr
            split at h
            · cases h
            · rename_i hu
              cases h
              have he : a.eval f = .func (.func g) first cap := by
                have := hrel.ev f
                rw [hg] at this
                exact this.x_inv
              have e1 : first = #[] := Array.eq_empty_of_size_eq_zero h0.1
              have e2 : cap = #[] := Array.eq_empty_of_size_eq_zero h0.2
              subst e1 e2
              obtain ⟨c1, c2⟩ := hcall.1 g ds d hr
              refine .inr ⟨g, c.args.map a.eval, ?_, ?_⟩
              · simp [resolve, hf, he, Deferred.ofValue, invoke, c1]
              · obtain ⟨hl, hrs⟩ := resL_sound hrel _ _ _ hres
                have hcells : CellsRel (RepI w (okU ι u) (fun _ => False)) (c.args.map a.eval) ds := by
                  refine ⟨by rw [hl]; simp, fun i v e hi he => ?_⟩
                  have hlt := (List.getElem?_eq_some_iff.1 he).1
                  have hds : (c.args.toList.map (ev ρ))[i]? = some _ := List.getElem?_eq_getElem (by omega)
                  exact hrs i _ e v hds he (args_rel hrel c.args i _ v hds hi)
                refine (c2 w (okU ι u) _ (fun g cs hg => rep_okU u (((hrel.glob g cs (by rw [hG]; exact hg)).cell _).2.1 _ rfl)) hcells).mono fun e w' ⟨v, hv, hx, hrep⟩ => ⟨v, hv, hx, ?_⟩
                have fresh : ∀ b, w.heap.size ≤ b → frB B ι b := fun b hb => ⟨.inl (Nat.le_trans hrel.base hb), hrel.fresh b (.inl (Nat.le_trans hrel.base hb)), fun id vv hvv hbb => by
                  have := (hrel.blk_lt hvv hbb).2
                  omega⟩
                by_cases huu : u = true
                · have hm : memfree d = true := by
                    cases hmm : memfree d with
                    | true => rfl
                    | false => exact absurd ⟨huu, hmm⟩ hu
                  exact .inl (.inl (hrep.mf hm fresh))
                · exact .inl (.inl (hrep.mono (Nat.le_refl _) (fun b _ ho => ⟨by
                    rcases ho with (ho | ho) | ho
                    · exact absurd ho huu
                    · exact ho
                    · exact (fresh b ho).2, rfl⟩) (fun b _ ho => ⟨fresh b ho, rfl⟩)))
          · cases h
        · cases h
      · cases h
    · cases h
  · rename_i b hb
    have hrun : ∀ bb, b = bb → (do let x ← resolve a.eval c ty; invoke x.target x.args : Sem Next).run P w = (builtin bb c.argTypes ty (c.args.map fun | .const _ => true | _ => false) (c.args.map a.eval)).run P w := by
      rintro bb rfl
      simp [resolve, hb, invoke]
      rfl
    have hargs := fun i e u => args_rel hrel c.args i e u
    split at h
    · rename_i x hx
      split at h
      · rename_i t' ht
        rw [hrun _ rfl]
        obtain ⟨v0, hv0⟩ : ∃ v0, c.args.map a.eval = #[v0] := by
          obtain ⟨v0, vs, hv0, hl⟩ := args_cons (a := a) c.args hx
          have : vs = [] := List.eq_nil_of_length_eq_zero (by rw [← hl]; rfl)
          subst this
          exact ⟨v0, Array.ext' (by rw [hv0])⟩
        have hr0 := hargs 0 x v0 (by rw [hx]; rfl) (by rw [hv0]; rfl)
        rw [hv0]
        exact out_value (len_sound hrel hr0 h c.argTypes ht ty)
      · cases h
    · rename_i x r hx
      rw [hrun _ rfl]
      obtain ⟨v0, vs, hv0, hl⟩ := args_cons (a := a) c.args hx
      have := fold_sound (P := P) (w := w) (B := B) (ι := ι) min2_sound r vs x v0 d hl (fun i e u h1 h2 => hargs (i + 1) e u (by rw [hx]; exact h1) (by rw [← Array.getElem?_toList, hv0]; exact h2)) (hargs 0 x v0 (by rw [hx]; rfl) (by rw [← Array.getElem?_toList, hv0]; rfl)) h
      refine out_value ?_
      obtain ⟨u, hu, hr⟩ := this
      exact ⟨u, by simp only [Builtin.min_, hv0]; exact hu, hr⟩
    · rename_i x r hx
      rw [hrun _ rfl]
      obtain ⟨v0, vs, hv0, hl⟩ := args_cons (a := a) c.args hx
      have := fold_sound (P := P) (w := w) (B := B) (ι := ι) max2_sound r vs x v0 d hl (fun i e u h1 h2 => hargs (i + 1) e u (by rw [hx]; exact h1) (by rw [← Array.getElem?_toList, hv0]; exact h2)) (hargs 0 x v0 (by rw [hx]; rfl) (by rw [← Array.getElem?_toList, hv0]; rfl)) h
      refine out_value ?_
      obtain ⟨u, hu, hr⟩ := this
      exact ⟨u, by simp only [Builtin.max_, hv0]; exact hu, hr⟩
    · cases h
  · cases h

theorem evG_rep {N : Nat} {w0 : Bs} {ρ : Nat → D} {η : Nat → Option O} {a : Act} (hrel : Rel N B w0 ι ρ η a w) {call : CT} (hG : w0.G = call.g) (x : Operand) : Rep w B ι (a.eval x) (evG call ρ x) := by
  unfold evG
  split
  · rename_i g
    split
    · rename_i cs hg
      exact .inl (.inl (hrel.glob g cs (by rw [hG]; exact hg)))
    · exact hrel.ev _
  · exact hrel.ev x
theorem capD_rel {N : Nat} {w0 : Bs} {ρ : Nat → D} {η : Nat → Option O} {a : Act} (hrel : Rel N B w0 ι ρ η a w) : ∀ (xs : List Operand) (ids : List Nat), capD ρ xs = some ids →
    (xs.map a.eval).length = ids.length ∧ ∀ (i : Nat) (c : Value) (id : Nat), (xs.map a.eval)[i]? = some c → ids[i]? = some id → ι id = some c ∧ ∃ b, c = .pointer (some ⟨b, 0, none⟩)
  | [], ids, h => by cases h; exact ⟨rfl, fun i c id h => by simp at h⟩
  | x :: r, ids, h => by
    unfold capD at h
    split at h
    · rename_i id off ids' hx hr
      split at h
      · rename_i h0
        subst h0
        cases h
        obtain ⟨h1, h2⟩ := capD_rel hrel r ids' hr
        refine ⟨by simpa using h1, fun i c k hc hk => ?_⟩
        cases i with
        | zero =>
          simp at hc hk
          subst hc hk
          have := hrel.ev x
          rw [hx] at this
          obtain ⟨b, hb, hv⟩ := this.ptr_inv
          rw [hv]
          exact ⟨hb, b, rfl⟩
        | succ i => exact h2 i c k (by simpa using hc) (by simpa using hk)
      · cases h
    · cases h

theorem aop_sound {N : Nat} {w0 : Bs} {ρ : Nat → D} {η : Nat → Option O} {a : Act} (hrel : Rel N B w0 ι ρ η a w) {call : CT} (hcall : CTok P call) (hG : w0.G = call.g) {t : Nat} {o : Oper} {d : D} {oo : Option O}
    (hη : oo.isSome = true → η t = none) (h : aop P call ρ η t o.op = some (d, oo)) : Outcome P B ι t w d oo ((execOp a.eval o).run P w) := by
  unfold aop at h
  split at h
  · rename_i x hop
    cases h
    exact .inl ⟨_, w, by simp [execOp, hop], good_same (hrel.ev x)⟩
  · rename_i x hop
    split at h
    · cases h
    · cases h
      exact .inl ⟨_, w, by simp [execOp, hop], good_same (hrel.ev x)⟩
  · rename_i c x y hop
    split at h
    · rename_i p hp
      cases h
      have hc := hrel.ev c
      rw [hp] at hc
      have hc := hc.x_inv
      refine .inl ⟨if p = true then a.eval x else a.eval y, w, by simp [execOp, hop, hc, asBool], good_same ?_⟩
      cases p
      · exact hrel.ev y
      · exact hrel.ev x
    · cases h
  · rename_i e hop
    split at h
    · rename_i cs hz
      split at h
      · rename_i h1
        cases h
        obtain ⟨z, hzr, rfl⟩ := zero_run (w := w) hz
        have := box_good hrel (t := t) (hη rfl) e (zero_cells z) h1
        exact .inl ⟨_, _, by simp [execOp, hop, Instr.alloc, hzr, newVar, newRow], this⟩
      · cases h
    · cases h
  · rename_i e x hop
    split at h
    · rename_i h1
      cases h
      have := box_good hrel (t := t) (hη rfl) e (cells_rel (hrel.ev x) h1.1) h1.2
      exact .inl ⟨_, _, by simp [execOp, hop, Instr.box, newVar, newRow], this⟩
    · cases h
  · rename_i ty parts hop
    obtain ⟨h', rfl⟩ := noneOf_some h
    simp only [execOp, hop]
    exact out_value (build_sound hrel h')
  · rename_i ty len parts hop
    split at h
    · rename_i e sz es hb
      cases h
      simp only [execOp, hop]
      exact out_new (buildSlice_sound hrel hb)
    · cases h
  · rename_i ty x hop
    obtain ⟨h', rfl⟩ := noneOf_some h
    simp only [execOp, hop]
    exact out_value (load_sound hrel (evG_rep hrel hG x) h')
  · rename_i x hop
    have hx := hrel.ev x
    split at h
    · rename_i i off hi
      cases h
      rw [hi] at hx
      obtain ⟨b, _, hv⟩ := hx.ptr_inv
      exact .inl ⟨a.eval x, w, by simp [execOp, hop, hv], good_same (hi ▸ hrel.ev x)⟩
    · rename_i cs hi
      cases h
      rw [hi] at hx
      obtain ⟨A, hv, _⟩ := elt_cells hx
      exact .inl ⟨a.eval x, w, by simp [execOp, hop, hv], good_same (hi ▸ hrel.ev x)⟩
    · rename_i i sz k off hi
      cases h
      rw [hi] at hx
      obtain ⟨b, n, c, _, hv⟩ := rel_inv hx
      exact .inl ⟨a.eval x, w, by simp [execOp, hop, hv], good_same (hi ▸ hrel.ev x)⟩
    · rename_i f ids hi
      cases h
      rw [hi] at hx
      obtain ⟨cap, hv, _⟩ : Ref ι (a.eval x) (.clo f ids) := by
        rcases hx.one_inv (fun _ e => by cases e) with h | h
        · generalize a.eval x = v at h
          cases h
        · exact h
      exact .inl ⟨a.eval x, w, by simp [execOp, hop, hv], good_same (hi ▸ hrel.ev x)⟩
    · rename_i f first cap hi
      cases h
      rw [hi] at hx
      have hv := hx.x_inv
      exact .inl ⟨a.eval x, w, by simp [execOp, hop, hv], good_same (hi ▸ hrel.ev x)⟩
    · cases h
  · rename_i fn first captured hop
    obtain ⟨h', rfl⟩ := noneOf_some h
    unfold makeFuncD at h'
    split at h'
    · rename_i f
      split at h'
      · rename_i h0
        split at h'
        · rename_i ids hc
          cases h'
          have e1 : first = #[] := Array.eq_empty_of_size_eq_zero h0
          subst e1
          obtain ⟨h1, h2⟩ := capD_rel hrel _ _ hc
          refine .inl ⟨.func (.func f) #[] (captured.map a.eval), w, by simp [execOp, hop, Instr.makeFunc], good_same (.inl (.inr ⟨_, rfl, by simpa using h1, fun i c id hi hid => h2 i c id ?_ hid⟩))⟩
          rw [← hi, ← Array.getElem?_toList, Array.toList_map]
        · cases h'
      · cases h'
    · cases h'
  · rename_i op ty x y ty' hop
    obtain ⟨h', rfl⟩ := noneOf_some h
    simp only [execOp, hop]
    exact out_value (bin_sound h' (hrel.ev x) (hrel.ev y) x y)
  · rename_i op ty x hop
    obtain ⟨h', rfl⟩ := noneOf_some h
    simp only [execOp, hop]
    exact out_value (un_sound h' (hrel.ev x))
  · rename_i s dd x hop
    obtain ⟨h', rfl⟩ := noneOf_some h
    simp only [execOp, hop]
    exact out_value (conv_sound h' (hrel.ev x))
  · rename_i ty x lo hi mx hop
    split at h
    · obtain ⟨h', rfl⟩ := noneOf_some h
      simp only [execOp, hop]
      exact out_value (slice_sound (hrel.ev x) (bnd_rel hrel lo) (bnd_rel hrel hi) h')
    · rename_i m
      obtain ⟨h', rfl⟩ := noneOf_some h
      simp only [execOp, hop]
      exact out_value (slice3_sound (hrel.ev x) (bnd_rel hrel lo) (bnd_rel hrel hi) (hrel.ev m) h')
  · rename_i s x f hop
    obtain ⟨h', rfl⟩ := noneOf_some h
    simp only [execOp, hop]
    exact out_value (fieldAddr_sound (evG_rep hrel hG x) h')
  · rename_i s x f hop
    obtain ⟨h', rfl⟩ := noneOf_some h
    simp only [execOp, hop]
    exact out_value (field_sound (hrel.ev x) h')
  · rename_i ty x i hop
    obtain ⟨h', rfl⟩ := noneOf_some h
    simp only [execOp, hop]
    exact out_value (indexAddr_sound hrel (evG_rep hrel hG x) (hrel.ev i) h')
  · rename_i ty x i hop
    obtain ⟨h', rfl⟩ := noneOf_some h
    simp only [execOp, hop]
    exact out_value (index_sound (hrel.ev x) (hrel.ev i) h')
  · rename_i x i hop
    split at h
    · rename_i ds hi
      obtain ⟨h', rfl⟩ := noneOf_some h
      have hx := hrel.ev x
      rw [hi] at hx
      obtain ⟨cs, hv, hl, hc⟩ := hx.tup_inv
      have hlt := (List.getElem?_eq_some_iff.1 h').1
      have hget : cs[i]? = some (cs[i]'(by omega)) := Array.getElem?_eq_getElem (by omega)
      exact .inl ⟨_, w, by simp [execOp, hop, hv, Instr.extract, hget], good_same (hc i _ d hget h').of⟩
    · cases h
  · rename_i ty l c hop
    split at h
    · rename_i e sz es hb
      cases h
      simp only [execOp, hop]
      exact out_new (makeSlice_sound hrel (hrel.ev l) (hrel.ev c) hb)
    · cases h
  · rename_i c hop
    obtain ⟨h', rfl⟩ := noneOf_some h
    simp only [execOp, hop]
    exact call_sound hrel hcall hG h'
  · cases h

end
end Go.Abs
