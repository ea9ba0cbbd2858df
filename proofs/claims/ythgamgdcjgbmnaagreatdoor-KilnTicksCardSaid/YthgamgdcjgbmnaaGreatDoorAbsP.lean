/-
  A function's contract out of one abstract run of its body.
-/
import Derived.Test.YthgamgdcjgbmnaaGreatDoorAbsO
namespace Go.Abs
set_option linter.unusedSimpArgs false
set_option linter.unusedVariables false
open Go Go.RowKit

section
variable {P : Program} {B : Nat} {N : Nat} {w0 : Bs} {w : World} {call : CT} {an : Ann} {ι : Inj} {ρ : Nat → D} {η : Nat → Option O} {a : Act}

theorem exp_imm {v : Value} {d : D} (h : RepI w (okB ι) (frB B ι) v d) : RepI w ι.K (wrB B ι) v d :=
  h.mono (Nat.le_refl _) (fun _ _ ho => ⟨ho.1, rfl⟩) (fun _ _ ho => ⟨ho.1, rfl⟩)
theorem exp1_sound (hrel : Rel N B w0 ι ρ η a w) {v : Value} {d d' : D} (h : Rep1 w B ι v d) (hd : exp1 η d = some d') : RepI w ι.K (wrB B ι) v d' := by
  unfold exp1 at hd
  split at hd
  · rename_i id
    split at hd
    · rename_i e sz fl es hη
      cases hd
      obtain ⟨hι, _⟩ := row_inv (.inl h)
      have := hrel.freeze_rep hη hι
      exact this.mono (Nat.le_refl _) (fun _ _ ho => ⟨ho.1, rfl⟩) (fun _ _ ho => ⟨ho.1, rfl⟩)
    · cases hd
  · cases hd
    have h := h.resolve_right (fun h => h.elim)
    cases h
    exact .own0 _ _ _
  · cases hd; exact exp_imm (h.resolve_right (fun h => h.elim))
  · cases hd; exact exp_imm (h.resolve_right (fun h => h.elim))
  · cases hd; exact exp_imm (h.resolve_right (fun h => h.elim))
  · cases hd; exact exp_imm (h.resolve_right (fun h => h.elim))
  · cases hd; exact .any _
  · cases hd
theorem expC_sound (hrel : Rel N B w0 ι ρ η a w) : ∀ (ds ds' : List D), expC η ds = some ds' → ds'.length = ds.length ∧ ∀ (i : Nat) (d d' : D) (c : Value), ds[i]? = some d → ds'[i]? = some d' → Rep1 w B ι c d → RepI w ι.K (wrB B ι) c d'
  | [], ds', h => by cases h; exact ⟨rfl, fun i d d' c h => by simp at h⟩
  | d :: r, ds', h => by
    unfold expC at h
    split at h
    · rename_i x y hx hy
      cases h
      obtain ⟨h1, h2⟩ := expC_sound hrel r y hy
      refine ⟨by simp [h1], fun i e e' c hi hi' hc => ?_⟩
      cases i with
      | zero => simp at hi hi'; subst hi hi'; exact exp1_sound hrel hc hx
      | succ i => exact h2 i e e' c (by simpa using hi) (by simpa using hi') hc
    · cases h
theorem expD_sound (hrel : Rel N B w0 ι ρ η a w) {v : Value} {d d' : D} (h : Rep w B ι v d) (hd : expD η d = some d') : RepI w ι.K (wrB B ι) v d' := by
  by_cases ha : ∃ cs, d = .agg cs
  · obtain ⟨cs, rfl⟩ := ha
    unfold expD at hd
    simp only at hd
    split at hd
    · rename_i cs' hc
      cases hd
      obtain ⟨vs, rfl, hl, hcs⟩ := h.agg_inv
      obtain ⟨h1, h2⟩ := expC_sound hrel cs cs' hc
      refine .agg (by omega) (fun i c e hi he => ?_)
      have hlt := (List.getElem?_eq_some_iff.1 he).1
      have hcs' : cs[i]? = some (cs[i]'(by omega)) := List.getElem?_eq_getElem (by omega)
      exact h2 i _ e c hcs' he (hcs i c _ hi hcs')
    · cases hd
  · have e1 : expD η d = exp1 η d := by cases d <;> first | rfl | exact absurd ⟨_, rfl⟩ ha
    rw [e1] at hd
    exact exp1_sound hrel (h.one_inv (fun ds e => ha ⟨ds, e⟩) (by rintro ds rfl; cases hd)) hd

theorem load_ptr {t : TypeId} {x d : D} {v : Value} (h : loadD P η t x = some d) (hx : Rep w B ι v x) : ∃ A, v = .pointer (some A) := by
  unfold loadD at h
  split at h
  · obtain ⟨b, _, rfl⟩ := hx.ptr_inv; exact ⟨_, rfl⟩
  · obtain ⟨A, rfl, _⟩ := elt_cells hx; exact ⟨_, rfl⟩
  · obtain ⟨b, n, c, _, rfl⟩ := rel_inv hx; exact ⟨_, rfl⟩
  · cases h

def resultOf (tmps : Array Value) : ResultVar → Sem Value
  | .tmp t => pure (tmps.getD t undef)
  | .cell a t => do loadVar t (← asAddr (tmps.getD a undef))

theorem resV_sound {s : St} (hrel : Rel N B w0 ι (getT s.t) (getH s.h) a w) {rv : ResultVar} {d : D} (h : resV P s rv = some d) : ∃ v, (resultOf a.tmps rv).run P w = .ok v w ∧ RepI w ι.K (wrB B ι) v d := by
  cases rv with
  | tmp t => exact ⟨_, by simp [resultOf], expD_sound hrel (hrel.tmp t) h⟩
  | cell p ty =>
    simp only [resV] at h
    split at h
    · rename_i d0 hd0
      obtain ⟨A, hA⟩ := load_ptr hd0 (hrel.tmp p)
      obtain ⟨v, hv, hr⟩ := load_sound (P := P) hrel (hrel.tmp p) hd0
      rw [hA] at hv
      refine ⟨v, ?_, expD_sound hrel hr h⟩
      simp only [Instr.loadAt, Instr.sureAddr, Sem.run_bind, Sem.run_pure, Result.andThen_ok] at hv
      simp only [resultOf, hA, asAddr, Sem.run_bind, Sem.run_pure, Result.andThen_ok]
      exact hv
    · cases h
theorem resVs_sound {s : St} (hrel : Rel N B w0 ι (getT s.t) (getH s.h) a w) : ∀ (vs : List ResultVar) (ds : List D), resVs P s vs = some ds → ∃ us : List Value, (vs.mapM (resultOf a.tmps)).run P w = .ok us w ∧ us.length = ds.length ∧
    ∀ (i : Nat) (u : Value) (d : D), us[i]? = some u → ds[i]? = some d → RepI w ι.K (wrB B ι) u d
  | [], ds, h => by cases h; exact ⟨[], by simp, rfl, fun i u d h => by simp at h⟩
  | v :: r, ds, h => by
    unfold resVs at h
    split at h
    · rename_i d ds' hd hds
      cases h
      obtain ⟨u, hu, hr⟩ := resV_sound hrel hd
      obtain ⟨us, hus, hl, hrs⟩ := resVs_sound hrel r ds' hds
      refine ⟨u :: us, by simp [List.mapM_cons, hu, hus], by simp [hl], fun i x e hx he => ?_⟩
      cases i with
      | zero => simp at hx he; subst hx he; exact hr
      | succ i => exact hrs i x e (by simpa using hx) (by simpa using he)
    · cases h

theorem results_eq (fn : Func) (tmps : Array Value) : results fn tmps = (do
    let vs ← fn.results.mapM (resultOf tmps)
    pure (if h : vs.size = 1 then vs[0] else .tuple vs)) := by
  unfold results
  congr 1

theorem result_sound {fn : Func} {s : St} (hrel : Rel N B w0 ι (getT s.t) (getH s.h) a w) {d : D} (h : resultD P s fn.results.toList = some d) : ∃ v, (results fn a.tmps).run P w = .ok v w ∧ RepI w ι.K (wrB B ι) v d := by
  unfold resultD at h
  have key : ∀ ds, resVs P s fn.results.toList = some ds → ∃ us : List Value, (results fn a.tmps).run P w = .ok (if h : us.toArray.size = 1 then us.toArray[0] else .tuple us.toArray) w ∧ us.length = ds.length ∧
      ∀ (i : Nat) (u : Value) (d : D), us[i]? = some u → ds[i]? = some d → RepI w ι.K (wrB B ι) u d := by
    intro ds hds
    obtain ⟨us, h1, h2, h3⟩ := resVs_sound hrel _ _ hds
    refine ⟨us, ?_, h2, h3⟩
    rw [results_eq, Array.mapM_eq_mapM_toList]
    rw [Sem.run_bind, map_eq_pure_bind, Sem.run_bind, h1]
    rfl
  split at h
  · rename_i d0 hds
    cases h
    obtain ⟨us, h1, h2, h3⟩ := key _ hds
    match us, h2 with
    | [u], _ => exact ⟨u, by simpa using h1, h3 0 u d rfl rfl⟩
  · rename_i ds hne hds
    cases h
    obtain ⟨us, h1, h2, h3⟩ := key _ hds
    have hl : us.length ≠ 1 := by
      intro e
      rw [h2] at e
      match ds, e with
      | [d0], _ => exact hne d0 rfl
    refine ⟨.tuple us.toArray, by rw [h1, dif_neg (by simpa using hl)], .tup (by simpa using h2) (fun i c e hc he => h3 i c e (by simpa using hc) he)⟩
  · cases h

theorem argsT_get : ∀ (ds : List D) (k t : Nat) (r : List (Nat × D)), getT (argsT k ds ++ r) t = if k ≤ t ∧ t < k + ds.length then ds.getD (t - k) .any else getT r t
  | [], k, t, r => by simp [argsT]; intro h1 h2; omega
  | d :: ds, k, t, r => by
    simp only [argsT, List.cons_append, getT]
    by_cases h : k = t
    · subst h
      simp
    · rw [if_neg h, argsT_get ds (k + 1) t r]
      by_cases h2 : k + 1 ≤ t ∧ t < k + 1 + ds.length
      · rw [if_pos h2, if_pos (by simp; omega), show t - k = t - (k + 1) + 1 by omega]
        rfl
      · rw [if_neg h2, if_neg (by simp; omega)]
theorem keepT_get (n t : Nat) : ∀ ks : List Nat, getT (keepT n ks) t = .any
  | [] => rfl
  | k :: ks => by
    unfold keepT
    split
    · exact keepT_get n t ks
    · simp only [getT]
      split
      · rfl
      · exact keepT_get n t ks

/-- A FUNCTION's CONTRACT OUT OF ONE ABSTRACT RUN. -/
theorem contract_of (hmix : P.follows .mixedOrders = true) {f : FuncId} {fn : Func} {body : Code} (hf : P.funcs[f]? = some fn) (hb : fn.body = some body) (hname : (fn.name == "runtime.NumGoroutine") = false) (hok : okCode an body = true)
    (hN : fn.ntmps ≤ 1000) (hcall : CTok P call) {ds : List D} {r : D} (h : runF P call an fn.ntmps body fn.results.toList ds = some r) : Contract P call.g f ds r := by
  refine ⟨fun args w => ?_, fun w ok args hglob hargs => ?_⟩
  · have hn : ¬ fn.name = "runtime.NumGoroutine" := by simpa using hname
    simp [callFunc, hf, hn, hb]
  · unfold runF at h
    split at h
    · rename_i hle
      refine calls_of_wp hf hb ?_
      have imm : ∀ {v : Value} {d : D}, RepI w ok (fun _ => False) v d → RepI w (okB ⟨fun _ => none, fun b => ok b ∨ w.heap.size ≤ b, fun _ => False⟩) (frB w.heap.size ⟨fun _ => none, fun b => ok b ∨ w.heap.size ≤ b, fun _ => False⟩) v d :=
        fun hr => hr.mono (Nat.le_refl _) (fun b _ ho => ⟨⟨.inl ho, (fun id v hv => nomatch hv)⟩, rfl⟩) (fun b _ ho => ho.elim)
      have hrel : SRel fn.ntmps w.heap.size ⟨w, fun b => ok b ∨ w.heap.size ≤ b, fun _ => False, fun _ => none, call.g⟩ (init an ds) { tmps := args ++ Array.replicate (fn.ntmps - args.size) undef, defers := [] } w := by
        refine ⟨⟨fun _ => none, fun b => ok b ∨ w.heap.size ≤ b, fun _ => False⟩, {
          defers := rfl
          size := by have := hargs.1; simp; omega
          tmp := fun t => ?_
          obj := (fun id o ho => nomatch ho)
          dom := (fun id v hv => nomatch hv)
          inj := (fun id id' v v' b hv => nomatch hv)
          below := BelowZ.refl _ _ _
          base := Nat.le_refl _
          fresh := fun b hb => .inr (hb.elim id (fun h => h.elim))
          kk := rfl
          zz := rfl
          k0 := (fun id v hv => nomatch hv)
          nn := hN
          glob := fun g cs hg => imm (hglob g cs hg) }⟩
        simp only [init, argsT_get, keepT_get]
        split
        · rename_i ht
          have hlt : t < ds.length := by omega
          have hd : ds[t]? = some ds[t] := List.getElem?_eq_getElem hlt
          have hal : t < args.size := by rw [hargs.1]; exact hlt
          have hav : args[t]? = some args[t] := Array.getElem?_eq_getElem hal
          have hr := hargs.2 t _ _ hav hd
          have e1 : (args ++ Array.replicate (fn.ntmps - args.size) undef).getD t undef = args[t] := by
            simp [Array.getElem?_append_left hal, hav]
          rw [e1]
          simp only [Nat.sub_zero, List.getD, hd, Option.getD_some]
          exact .inl (.inl (imm hr))
        · exact .inl (.inl (.any _))
      have fin : ∀ e s, runC P call an fn.ntmps body (init an ds) = some (e, s) → (e = .norm ∨ e = .ret) → resultD P s fn.results.toList = some r →
          body.wp P (bodyPost P fn fun e w' => ∃ v, e = .returned v ∧ Ext w w' ∧ RepI w' (fun b => ok b ∨ w.heap.size ≤ b) (fun b => w.heap.size ≤ b) v r) { tmps := args ++ Array.replicate (fn.ntmps - args.size) undef, defers := [] } w := by
        intro e s hrun he hres
        refine wp_mono (runC_sound hmix hcall rfl body hok _ _ _ _ _ hrun hrel) ?_
        rintro x a' w' ⟨rfl, ι, hr⟩
        obtain ⟨v, hv, hrep⟩ := result_sound hr hres
        have hkk := hr.kk
        have hzz := hr.zz
        simp only at hkk hzz
        rw [hkk] at hrep
        have hrep : RepI w' (fun b => ok b ∨ w.heap.size ≤ b) (fun b => w.heap.size ≤ b) v r := hrep.mono (Nat.le_refl _) (fun b _ ho => ⟨ho, rfl⟩) (fun b _ ho => ⟨ho.elim id (fun h => by rw [hzz] at h; exact h.elim), rfl⟩)
        have hx : Ext w w' := ⟨hr.below.os, hr.below.tape, hr.below.output, hr.below.size, fun k hk => hr.below.block k hk (fun h => h)⟩
        rcases he with rfl | rfl
        · exact ⟨hr.defers, v, hv, v, rfl, hx, hrep⟩
        · exact ⟨hr.defers, v, hv, v, rfl, hx, hrep⟩
      split at h
      · rename_i s hs
        exact fin _ s hs (.inl rfl) h
      · rename_i s hs
        exact fin _ s hs (.inr rfl) h
      · cases h
    · cases h

/-! ### Functions that are handed objects -/
def resE (P : Program) (s : St) : ResultVar → Option D
  | .tmp t => some (getT s.t t)
  | .cell p ty => loadD P (getH s.h) ty (getT s.t p)
def noTup : D → Bool
  | .tup _ => false
  | _ => true
def resEs (P : Program) (s : St) : List ResultVar → Option (List D)
  | [] => some []
  | v :: r => match resE P s v, resEs P s r with
    | some d, some ds => if noTup d = true then some (d :: ds) else none
    | _, _ => none
def resultE (P : Program) (s : St) (vs : List ResultVar) : Option (D × List (Nat × O)) := match resEs P s vs with
  | some [d] => some (d, s.h)
  | some ds => some (.tup ds, s.h)
  | none => none
def initE (an : Ann) (hs : List (Nat × O)) (ds : List D) : St := ⟨argsT 0 ds ++ keepT ds.length an.keep, hs⟩
/-- A function's body, run abstractly, with objects. -/
def runE (P : Program) (call : CT) (an : Ann) (N : Nat) (body : Code) (results : List ResultVar) (hs : List (Nat × O)) (ds : List D) : Option (D × List (Nat × O)) :=
  if ds.length ≤ N then
    match runC P call an N body (initE an hs ds) with
    | some (.norm, s) => resultE P (headOf an.rets s) results
    | some (.ret, s) => resultE P s results
    | _ => none
  else none

theorem noTup_rep {v : Value} {d : D} (h : Rep w B ι v d) (hd : noTup d = true) : Rep0 w B ι v d := by
  rcases h with h | h | ⟨_, rfl, _⟩
  · exact .inl h
  · exact .inr h
  · cases hd
theorem resE_sound {s : St} (hrel : Rel N B w0 ι (getT s.t) (getH s.h) a w) {rv : ResultVar} {d : D} (h : resE P s rv = some d) : ∃ v, (resultOf a.tmps rv).run P w = .ok v w ∧ Rep w B ι v d := by
  cases rv with
  | tmp t => cases h; exact ⟨_, by simp [resultOf], hrel.tmp t⟩
  | cell p ty =>
    simp only [resE] at h
    obtain ⟨A, hA⟩ := load_ptr h (hrel.tmp p)
    obtain ⟨v, hv, hr⟩ := load_sound (P := P) hrel (hrel.tmp p) h
    rw [hA] at hv
    refine ⟨v, ?_, hr⟩
    simp only [Instr.loadAt, Instr.sureAddr, Sem.run_bind, Sem.run_pure, Result.andThen_ok] at hv
    simp only [resultOf, hA, asAddr, Sem.run_bind, Sem.run_pure, Result.andThen_ok]
    exact hv
theorem resEs_sound {s : St} (hrel : Rel N B w0 ι (getT s.t) (getH s.h) a w) : ∀ (vs : List ResultVar) (ds : List D), resEs P s vs = some ds → ∃ us : List Value, (vs.mapM (resultOf a.tmps)).run P w = .ok us w ∧ us.length = ds.length ∧
    ∀ (i : Nat) (u : Value) (d : D), us[i]? = some u → ds[i]? = some d → Rep0 w B ι u d
  | [], ds, h => by cases h; exact ⟨[], by simp, rfl, fun i u d h => by simp at h⟩
  | v :: r, ds, h => by
    unfold resEs at h
    split at h
    · rename_i d ds' hd hds
      split at h
      · rename_i hn
        cases h
        obtain ⟨u, hu, hr⟩ := resE_sound hrel hd
        obtain ⟨us, hus, hl, hrs⟩ := resEs_sound hrel r ds' hds
        refine ⟨u :: us, by simp [List.mapM_cons, hu, hus], by simp [hl], fun i x e hx he => ?_⟩
        cases i with
        | zero => simp at hx he; subst hx he; exact noTup_rep hr hn
        | succ i => exact hrs i x e (by simpa using hx) (by simpa using he)
      · cases h
    · cases h
theorem resultE_sound {fn : Func} {s : St} (hrel : Rel N B w0 ι (getT s.t) (getH s.h) a w) {d : D} {hs' : List (Nat × O)} (h : resultE P s fn.results.toList = some (d, hs')) : hs' = s.h ∧ ∃ v, (results fn a.tmps).run P w = .ok v w ∧ Rep w B ι v d := by
  unfold resultE at h
  have key : ∀ ds, resEs P s fn.results.toList = some ds → ∃ us : List Value, (results fn a.tmps).run P w = .ok (if h : us.toArray.size = 1 then us.toArray[0] else .tuple us.toArray) w ∧ us.length = ds.length ∧
      ∀ (i : Nat) (u : Value) (d : D), us[i]? = some u → ds[i]? = some d → Rep0 w B ι u d := by
    intro ds hds
    obtain ⟨us, h1, h2, h3⟩ := resEs_sound hrel _ _ hds
    refine ⟨us, ?_, h2, h3⟩
    rw [results_eq, Array.mapM_eq_mapM_toList]
    rw [Sem.run_bind, map_eq_pure_bind, Sem.run_bind, h1]
    rfl
  split at h
  · rename_i d0 hds
    cases h
    obtain ⟨us, h1, h2, h3⟩ := key _ hds
    match us, h2 with
    | [u], _ => exact ⟨rfl, u, by simpa using h1, (h3 0 u d rfl rfl).of⟩
  · rename_i ds hne hds
    cases h
    obtain ⟨us, h1, h2, h3⟩ := key _ hds
    have hl : us.length ≠ 1 := by
      intro e
      rw [h2] at e
      match ds, e with
      | [d0], _ => exact hne d0 rfl
    refine ⟨rfl, .tuple us.toArray, by rw [h1, dif_neg (by simpa using hl)], .inr (.inr ⟨_, rfl, _, rfl, by simpa using h2, fun i c e hc he => h3 i c e (by simpa using hc) he⟩)⟩
  · cases h

/-- THE SAME OF A FUNCTION THAT IS HANDED OBJECTS, OR MAKES SOME. -/
theorem contractE_of (hmix : P.follows .mixedOrders = true) {f : FuncId} {fn : Func} {body : Code} (hf : P.funcs[f]? = some fn) (hb : fn.body = some body) (hname : (fn.name == "runtime.NumGoroutine") = false) (hok : okCode an body = true)
    (hN : fn.ntmps ≤ 1000) (hcall : CTok P call) {hs : List (Nat × O)} {ds : List D} {r : D} {hs' : List (Nat × O)} (h : runE P call an fn.ntmps body fn.results.toList hs ds = some (r, hs')) : ContractE P call.g f hs ds r hs' := by
  refine ⟨fun args w => ?_, fun w ι args hobjs hglob hargs => ?_⟩
  · have hn : ¬ fn.name = "runtime.NumGoroutine" := by simpa using hname
    simp [callFunc, hf, hn, hb]
  · unfold runE at h
    split at h
    · rename_i hle
      refine calls_of_wp hf hb ?_
      have hrel : SRel fn.ntmps w.heap.size ⟨w, ι.K, ι.Z, ι.f, call.g⟩ (initE an hs ds) { tmps := args ++ Array.replicate (fn.ntmps - args.size) undef, defers := [] } w := by
        refine ⟨ι, {
          defers := rfl
          size := by have := hargs.1; simp; omega
          tmp := fun t => ?_
          obj := hobjs.obj
          dom := hobjs.dom
          inj := hobjs.inj
          below := BelowZ.refl _ _ _
          base := Nat.le_refl _
          fresh := hobjs.fresh
          kk := rfl
          zz := rfl
          k0 := fun id v hv _ _ => .inr hv
          nn := hN
          glob := hglob }⟩
        simp only [initE, argsT_get, keepT_get]
        split
        · rename_i ht
          have hlt : t < ds.length := by omega
          have hd : ds[t]? = some ds[t] := List.getElem?_eq_getElem hlt
          have hal : t < args.size := by rw [hargs.1]; exact hlt
          have hav : args[t]? = some args[t] := Array.getElem?_eq_getElem hal
          have hr := hargs.2 t _ _ hav hd
          have e1 : (args ++ Array.replicate (fn.ntmps - args.size) undef).getD t undef = args[t] := by
            simp [Array.getElem?_append_left hal, hav]
          rw [e1]
          simp only [Nat.sub_zero, List.getD, hd, Option.getD_some]
          exact hr
        · exact .inl (.inl (.any _))
      have fin : ∀ e s s1, runC P call an fn.ntmps body (initE an hs ds) = some (e, s) → (e = .norm ∨ e = .ret) → (s1 = s ∨ s1 = headOf an.rets s) → resultE P s1 fn.results.toList = some (r, hs') →
          body.wp P (bodyPost P fn fun e w' => ∃ v ι', e = .returned v ∧ BelowZ w.heap.size ι.Z w w' ∧ ι'.K = ι.K ∧ ι'.Z = ι.Z ∧ Objs w' w.heap.size ι' hs' ∧ Rep w' w.heap.size ι' v r ∧
            ∀ id v, ι id = some v → 1000 ≤ id → id < 10000 → ι' id = none ∨ ι' id = some v) { tmps := args ++ Array.replicate (fn.ntmps - args.size) undef, defers := [] } w := by
        intro e s s1 hrun he hs1 hres
        refine wp_mono (runC_sound hmix hcall rfl body hok _ _ _ _ _ hrun hrel) ?_
        rintro x a' w' ⟨rfl, hr⟩
        have hr1 : SRel fn.ntmps w.heap.size ⟨w, ι.K, ι.Z, ι.f, call.g⟩ s1 a' w' := by
          rcases hs1 with rfl | rfl
          · exact hr
          · exact headOf_sound _ hr
        obtain ⟨ι', hr⟩ := hr1
        obtain ⟨rfl, v, hv, hrep⟩ := resultE_sound hr hres
        have fin : ∃ v' ι'', Ending.returned v = .returned v' ∧ BelowZ w.heap.size ι.Z w w' ∧ ι''.K = ι.K ∧ ι''.Z = ι.Z ∧ Objs w' w.heap.size ι'' s1.h ∧ Rep w' w.heap.size ι'' v' r ∧
            ∀ id v, ι id = some v → 1000 ≤ id → id < 10000 → ι'' id = none ∨ ι'' id = some v :=
          ⟨v, ι', rfl, hr.below, hr.kk, hr.zz, ⟨hr.obj, hr.dom, hr.inj, hr.fresh⟩, hrep, hr.k0⟩
        rcases he with rfl | rfl
        · exact ⟨hr.defers, v, hv, fin⟩
        · exact ⟨hr.defers, v, hv, fin⟩
      split at h
      · rename_i s hs
        exact fin _ s _ hs (.inl rfl) (.inr rfl) h
      · rename_i s hs
        exact fin _ s _ hs (.inr rfl) (.inl rfl) h
      · cases h
    · cases h

end
end Go.Abs
