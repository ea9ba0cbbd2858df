/-
  A law that answers true on every abstract input of its types meets its given row: the inputs are read as abstract ones, the call returns true, and every argument reads behind the call as it read before.
-/
import Derived.Test.YthgamgdcjgbmnaaGreatDoorAbsR
namespace Go.Abs
set_option linter.unusedSimpArgs false
set_option linter.unusedVariables false
open Go Go.RowKit Go.ChangeShapes Go.WideShapes Go.ChangeAt

/-- An abstract value of a type. -/
def TyV (P : Program) (t : TypeId) (d : D) : Prop := ∃ n cs, TyC P n t cs ∧ match P.underlying t with
  | some (.struct _) | some (.array _ _) => d = .agg cs
  | _ => cs = [d]
/-- Abstract values of the types, one each. -/
def TyArgs (P : Program) : List TypeId → List D → Prop
  | [], ds => ds = []
  | t :: ts, ds => ∃ d r, ds = d :: r ∧ TyV P t d ∧ TyArgs P ts r

section
variable {H : Type} {enc : TypeId × Value → H} {P : Program} {w : World} {base : Nat} {spare : Nat → Bool} {held : Bool}

theorem arg_abs {S : List TypeId} (hS : okS P S = true) {r : Reach} {b : Nat} {t : TypeId} {v : Value} {d : DataW H} {ps : List MemPlace} (ht : t ∈ S) (hv : Value.okWide P w r b t v)
    (h : DataW.Trod enc P w base spare held t v d ps) : ∃ x, TyV P t x ∧ RepI w (fun _ => True) (fun _ => False) v x := by
  obtain ⟨fuel, h⟩ := h
  obtain ⟨ds, h1, h2⟩ := trod_abs hS fuel t _ _ ht h
  have hok := List.all_eq_true.1 hS t ht
  have agg : ∀ cs : Array Value, v = .agg cs → RepI w (fun _ => True) (fun _ => False) v (.agg ds) := by
    rintro cs rfl
    have hl := h2.1
    simp only [Value.cells, Array.length_toList] at hl
    refine .agg hl fun i c d hc hd => (h2.2 i c d ?_ hd).1
    simpa [Value.cells] using hc
  have one : ∀ x : Value, v = x → x.cells = #[x] → ds.length = 1 → ∃ d, ds = [d] ∧ RepI w (fun _ => True) (fun _ => False) v d := by
    rintro x rfl hx hl
    match ds, hl with
    | [d], _ => exact ⟨d, rfl, (h2.2 0 v d (by simp [hx]) rfl).1⟩
  cases fuel with
  | zero => exact absurd h1 (by simp [TyC])
  | succ fuel =>
    have h1' := h1
    unfold TyC at h1
    cases hu : P.underlying t with
    | none => rw [hu] at hok; cases hok
    | some td =>
      rw [hu] at hok h1
      cases td with
      | bool =>
        obtain ⟨x, rfl⟩ := okWide_bool hu hv
        obtain ⟨b, rfl⟩ := h1
        obtain ⟨d, e, hr⟩ := one _ rfl rfl rfl
        exact ⟨d, ⟨_, _, h1', by rw [hu]; exact e⟩, hr⟩
      | int k =>
        obtain ⟨x, rfl⟩ := okWide_int hu hv
        obtain ⟨b, rfl, _⟩ := h1
        obtain ⟨d, e, hr⟩ := one _ rfl rfl rfl
        exact ⟨d, ⟨_, _, h1', by rw [hu]; exact e⟩, hr⟩
      | string =>
        obtain ⟨x, rfl⟩ := okWide_string hu hv
        obtain ⟨b, rfl, _⟩ := h1
        obtain ⟨d, e, hr⟩ := one _ rfl rfl rfl
        exact ⟨d, ⟨_, _, h1', by rw [hu]; exact e⟩, hr⟩
      | slice e =>
        obtain ⟨a, l, c, rfl⟩ := okWide_slice hu hv
        obtain ⟨es, rfl, _⟩ := h1
        obtain ⟨d, e, hr⟩ := one _ rfl rfl rfl
        exact ⟨d, ⟨_, _, h1', by rw [hu]; exact e⟩, hr⟩
      | struct fs =>
        obtain ⟨cs, rfl, _⟩ := okWide_struct hu hv
        exact ⟨_, ⟨_, _, h1', by rw [hu]⟩, agg cs rfl⟩
      | array m e =>
        simp only [Value.okWide, hu] at hv
        obtain ⟨cs, rfl, _⟩ := hv
        exact ⟨_, ⟨_, _, h1', by rw [hu]⟩, agg cs rfl⟩
      | _ => cases hok

theorem args_abs {S : List TypeId} (hS : okS P S = true) {r : Reach} {b : Nat} : ∀ (ts : List TypeId) (vs : List Value) (ds : List (DataW H)) (ps : List MemPlace), (∀ t ∈ ts, t ∈ S) →
    (∀ (j : Nat) t v, ts[j]? = some t → vs[j]? = some v → Value.okWide P w r b t v) → DataW.TrodAll enc P w base spare held ts vs ds ps →
    ∃ xs, TyArgs P ts xs ∧ LRel (RepI w (fun _ => True) (fun _ => False)) vs xs
  | [], [], [], _, _, _, _ => ⟨[], rfl, rfl, fun i c d h1 _ => by simp at h1⟩
  | t :: ts, v :: vs, d :: ds, ps, hts, hv, h => by
    obtain ⟨p, q, h1, h2, rfl⟩ := h
    obtain ⟨x, hx, hr⟩ := arg_abs hS (hts t (by simp)) (hv 0 t v rfl rfl) h1
    obtain ⟨xs, hxs, hrs⟩ := args_abs hS ts vs ds q (fun t' h' => hts t' (by simp [h'])) (fun j t' v' hj hv' => hv (j + 1) t' v' hj hv') h2
    exact ⟨x :: xs, ⟨x, xs, rfl, hx, hxs⟩, (LRel.one hr).append hrs⟩
  | [], _ :: _, _, _, _, _, h => by simp [DataW.TrodAll] at h
  | [], [], _ :: _, _, _, _, h => by simp [DataW.TrodAll] at h
  | _ :: _, [], _, _, _, _, h => by simp [DataW.TrodAll] at h
  | _ :: _, _ :: _, [], _, _, _, h => by simp [DataW.TrodAll] at h

theorem trodAll_below (hl : laidOutB P = true) {W W' : World} (hb : Below W.heap.size W W') : ∀ (ts : List TypeId) (vs : List Value) (ds : List (DataW H)) (ps : List MemPlace),
    (∀ t ∈ ts, P.readableRec t = true ∧ t < P.types.size) → (∀ x ∈ ps, x.block < W.heap.size) → DataW.TrodAll enc P W 0 (fun _ => true) true ts vs ds ps →
    DataW.TrodAll enc P W' 0 (fun b => decide (b < W.heap.size)) true ts vs ds ps
  | [], [], [], _, _, _, h => h
  | t :: ts, v :: vs, d :: ds, ps, hts, hlt, h => by
    obtain ⟨p, q, h1, h2, rfl⟩ := h
    exact ⟨p, q, Below.trod hl (hts t (by simp)).1 (hts t (by simp)).2 h1 hb (fun x hx => hlt x (by simp [hx])),
      trodAll_below hl hb ts vs ds q (fun t' h' => hts t' (by simp [h'])) (fun x hx => hlt x (by simp [hx])) h2, rfl⟩
  | [], _ :: _, _, _, _, _, h => by simp [DataW.TrodAll] at h
  | [], [], _ :: _, _, _, _, h => by simp [DataW.TrodAll] at h
  | _ :: _, [], _, _, _, _, h => by simp [DataW.TrodAll] at h
  | _ :: _, _ :: _, [], _, _, _, h => by simp [DataW.TrodAll] at h

theorem trodAll_len {spare : Nat → Bool} {held : Bool} {base : Nat} : ∀ (ts : List TypeId) (vs : List Value) (ds : List (DataW H)) (ps : List MemPlace), DataW.TrodAll enc P w base spare held ts vs ds ps → ds.length = ts.length
  | [], [], [], _, _ => rfl
  | _ :: ts, _ :: vs, _ :: ds, _, h => by
    obtain ⟨p, q, _, h2, _⟩ := h
    simp [trodAll_len ts vs ds q h2]
  | [], _ :: _, _, _, h => by simp [DataW.TrodAll] at h
  | [], [], _ :: _, _, h => by simp [DataW.TrodAll] at h
  | _ :: _, [], _, _, h => by simp [DataW.TrodAll] at h
  | _ :: _, _ :: _, [], _, h => by simp [DataW.TrodAll] at h

/-- A LAW THAT ANSWERS TRUE ON EVERY ABSTRACT INPUT MEETS ITS ROW, at a world and an input. -/
theorem law_calls {S : List TypeId} {f : FuncId} {fn : Func} {s : ChangeSpec} {tb : TypeId} {W : World} {base : Nat} {r : Reach} {args : Array Value} {ds gs : List (DataW H)} {before : List MemPlace}
    (hlaid : laidOutB P = true) (hS : okS P S = true) (hts : ∀ t ∈ fn.params.toList, t ∈ S ∧ P.readableRec t = true ∧ t < P.types.size)
    (htb : P.underlying tb = some .bool) (hres : fn.resultTypes = #[tb]) (hvars : s.vars = [])
    {G : Nat → Option (List D)} (hglob : Globs G W (fun _ => True) (fun _ => False))
    (hlaw : ∀ xs, TyArgs P fn.params.toList xs → Contract P G f xs (.x (.bool true)))
    (hval : ∀ (j : Nat) t v, fn.params[j]? = some t → args[j]? = some v → Value.okWide P W r base t v)
    (hW : DataW.Whole enc P fn.params.toList s.vars false W args.toList ds gs before)
    (hfn : ∀ l, l.length = fn.params.size → s.fn H l = { results := [.lit (.bool true)], args := l }) :
    Calls P f args W fun e W' => ∃ v, e = .returned v ∧ s.post enc P fn false true false false W args v W' := by
  have hlt := hW.lt
  have hW' := hW
  obtain ⟨p, q, hA, hV, rfl, hfz, hnd⟩ := hW
  obtain ⟨xs, hx, hr⟩ := args_abs hS fn.params.toList args.toList ds p (fun t ht => (hts t ht).1) (fun j t v hj hv => hval j t v (by simpa using hj) (by simpa using hv)) hA
  have hrel : CellsRel (RepI W (fun _ => True) (fun _ => False)) args xs := ⟨by have := hr.1; simpa using this, fun i c d hc hd => hr.2 i c d (by simpa using hc) hd⟩
  have hdl := trodAll_len _ _ _ _ hA
  rw [hvars] at hV
  obtain ⟨rfl, rfl⟩ := trodVars_none hV
  refine ((hlaw xs hx).2 W _ args hglob hrel).mono fun e W' ⟨v, he, hb, hv⟩ => ?_
  cases hv
  have hf := hfn (ds ++ []) (by simp [hdl])
  refine ⟨_, he, ds, [], p ++ [], [], p, [], hW', ?_, ?_, ?_, hb.frame _, fun h => nomatch h⟩
  · rw [hf, hres]
    exact trodAll_mk1 (shut_bool htb _)
  · rw [hf]
    simp only [List.append_nil]
    exact trodAll_below hlaid hb _ _ _ _ (fun t ht => (hts t ht).2) (fun x hx => hlt x (by simp [hx])) hA
  · rw [hf, hvars]
    rfl
end
end Go.Abs
