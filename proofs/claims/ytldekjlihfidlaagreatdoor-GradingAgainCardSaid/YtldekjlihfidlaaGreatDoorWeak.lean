/-
  Results in which nil slices within rows are read as empty slices.
-/
import Derived.Test.YtldekjlihfidlaaGreatDoorAbs2
namespace Go.Abs
set_option linter.unusedSimpArgs false
set_option linter.unusedVariables false
open Go Go.RowKit
def weakC : D → D
  | .emp => .sl []
  | d => d
def weak1 : D → D
  | .sl es => .sl (es.map (fun e => e.map weakC))
  | .own fl es => .own fl (es.map (fun e => e.map weakC))
  | d => d
def weakD : D → D
  | .agg cs => .agg (cs.map weak1)
  | d => weak1 d
section
variable {w : World} {ok fr : Nat → Prop} {v : Value} {d : D}
theorem RepI.weakC (h : RepI w ok fr v d) : RepI w ok fr v (Abs.weakC d) := by
  cases d <;> first | exact h | (cases h; exact .sl0 none 0)
theorem weakC_cell {d : D} (h : isCell d = true) : isCell (Abs.weakC d) = true := by
  cases d <;> first | exact h | rfl
theorem RepI.weak1 (h : RepI w ok fr v d) : RepI w ok fr v (Abs.weak1 d) := by
  have get : ∀ {es : List (List D)} {i : Nat} {e' : List D}, (es.map (fun e => e.map Abs.weakC))[i]? = some e' → ∃ e, es[i]? = some e ∧ e' = e.map Abs.weakC := by
    intro es i e' h
    rw [List.getElem?_map, Option.map_eq_some_iff] at h
    obtain ⟨e, h1, h2⟩ := h
    exact ⟨e, h1, h2.symm⟩
  have get1 : ∀ {e : List D} {j : Nat} {d' : D}, (e.map Abs.weakC)[j]? = some d' → ∃ d, e[j]? = some d ∧ d' = Abs.weakC d := by
    intro e j d' h
    rw [List.getElem?_map, Option.map_eq_some_iff] at h
    obtain ⟨d, h1, h2⟩ := h
    exact ⟨d, h1, h2.symm⟩
  cases h with
  | sl0 A c => exact .sl0 A c
  | own0 A c fl => exact .own0 A c fl
  | @sl a c sz es hb hlt hcap hic hsz hcell hrep =>
    have := RepI.sl (w := w) (ok := ok) (fr := fr) (a := a) (c := c) (sz := sz) (es := es.map (fun e => e.map Abs.weakC)) hb hlt (by simpa using hcap)
      (fun e' he' d' hd' => by
        simp only [List.mem_map] at he'
        obtain ⟨e, he, rfl⟩ := he'
        obtain ⟨d, hd, rfl⟩ := List.mem_map.1 hd'
        exact weakC_cell (hic e he d hd))
      (fun e' he' => by
        simp only [List.mem_map] at he'
        obtain ⟨e, he, rfl⟩ := he'
        simpa using hsz e he)
      (fun i j hi hj => hcell i j (by simpa using hi) hj)
      (fun i e' j d' u he' hd' hu => by
        obtain ⟨e, he, rfl⟩ := get he'
        obtain ⟨d, hd, rfl⟩ := get1 hd'
        exact (hrep i e j d u he hd hu).weakC)
    simpa [Abs.weak1] using this
  | @own a c sz fl es hb hlt hcap hic hsz hcell hrep hfl =>
    have := RepI.own (w := w) (ok := ok) (fr := fr) (a := a) (c := c) (sz := sz) (fl := fl) (es := es.map (fun e => e.map Abs.weakC)) hb hlt (by simpa using hcap)
      (fun e' he' d' hd' => by
        simp only [List.mem_map] at he'
        obtain ⟨e, he, rfl⟩ := he'
        obtain ⟨d, hd, rfl⟩ := List.mem_map.1 hd'
        exact weakC_cell (hic e he d hd))
      (fun e' he' => by
        simp only [List.mem_map] at he'
        obtain ⟨e, he, rfl⟩ := he'
        simpa using hsz e he)
      (fun i j hi hj => hcell i j (by simpa using hi) hj)
      (fun i e' j d' u he' hd' hu => by
        obtain ⟨e, he, rfl⟩ := get he'
        obtain ⟨d, hd, rfl⟩ := get1 hd'
        exact (hrep i e j d u he hd hu).weakC)
      (fun hf e' he' d' hd' => by
        simp only [List.mem_map] at he'
        obtain ⟨e, he, rfl⟩ := he'
        obtain ⟨d, hd, rfl⟩ := List.mem_map.1 hd'
        obtain ⟨v, rfl⟩ := hfl hf e he d hd
        exact ⟨v, rfl⟩)
    simpa [Abs.weak1] using this
  | any v => exact .any v
  | x v => exact .x v
  | agg hl h => exact .agg hl h
  | tup hl h => exact .tup hl h
  | emp => exact .emp
  | elt hb hlt hic hcell hrep => exact .elt hb hlt hic hcell hrep
  | mpv hb hh => exact .mpv hb hh
  | cap0 A => exact .cap0 A
theorem RepI.weakD (h : RepI w ok fr v d) : RepI w ok fr v (Abs.weakD d) := by
  cases d with
  | agg cs =>
    cases h with
    | agg hl hc =>
      refine .agg (by simpa using hl) (fun i c d h1 h2 => ?_)
      rw [List.getElem?_map, Option.map_eq_some_iff] at h2
      obtain ⟨d', h2, rfl⟩ := h2
      exact (hc i c d' h1 h2).weak1
  | _ => exact h.weak1
theorem contract_weak {P : Program} {G : Nat → Option (List D)} {f : FuncId} {ds : List D} {r : D} (h : Contract P G f ds r) : Contract P G f ds (Abs.weakD r) := by
  refine ⟨h.1, fun w ok args hg hr => (h.2 w ok args hg hr).mono ?_⟩
  rintro e w' ⟨v, h1, h2, h3⟩
  exact ⟨v, h1, h2, h3.weakD⟩
def weakF (F : List D → Option D) (ds : List D) : Option D := (F ds).map Abs.weakD
theorem weakF_ok {P : Program} {G : Nat → Option (List D)} {f : FuncId} {F : List D → Option D} (hF : ∀ ds r, F ds = some r → Contract P G f ds r) (ds : List D) (r : D) (h : weakF F ds = some r) : Contract P G f ds r := by
  unfold weakF at h
  rw [Option.map_eq_some_iff] at h
  obtain ⟨r0, h1, rfl⟩ := h
  exact contract_weak (hF _ _ h1)
end
end Go.Abs
