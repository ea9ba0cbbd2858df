/-
  A function's contract without objects, used in a call that freezes what it hands over.
-/
import Derived.Test.YtdefohgkniglpaaGreatDoorAbs2
namespace Go.Abs
set_option linter.unusedSimpArgs false
set_option linter.unusedVariables false
open Go Go.RowKit
def okA : D → Bool
  | .agg cs => cs.all isCell
  | d => isCell d
section
variable {P : Program} {G : Nat → Option (List D)} {f : FuncId}
theorem contractE_pure {ds : List D} {r : D} (h : Contract P G f ds r) (hd : ds.all okA = true) : ContractE P G f [] ds r [] := by
  refine ⟨h.1, fun w ι args hobjs hglob hargs => ?_⟩
  have hn : ∀ id, ι id = none := by
    intro id
    cases hv : ι id with
    | none => rfl
    | some v =>
      obtain ⟨o, ho⟩ := hobjs.dom id v hv
      simp [getH] at ho
  have one : ∀ {v : Value} {d : D}, Rep1 w w.heap.size ι v d → isCell d = true → RepI w (okB ι) (fun _ => False) v d := by
    intro v d h1 hc
    rcases h1 with h1 | h1
    · exact (h1.cell _).1 hc
    · cases d <;> simp [isCell] at hc <;> exact h1.elim
  have hr : CellsRel (RepI w (okB ι) (fun _ => False)) args ds := by
    obtain ⟨hl, hc⟩ := hargs
    refine ⟨hl, fun i c d h1 h2 => ?_⟩
    have hrep := hc i c d h1 h2
    have hok := List.all_eq_true.1 hd d (List.mem_of_getElem? h2)
    by_cases ha : ∃ cs, d = .agg cs
    · obtain ⟨cs, rfl⟩ := ha
      have hcs : ∀ x ∈ cs, isCell x = true := fun x hx => List.all_eq_true.1 hok x hx
      rcases hrep with hrep | ⟨ds', e, arr, rfl, hl', hc'⟩ | ⟨ds', e, _⟩
      · rcases hrep with hrep | hrep
        · cases hrep with
          | agg hl' hc' => exact .agg hl' (fun j u e h3 h4 => one (.inl (hc' j u e h3 h4)) (hcs e (List.mem_of_getElem? h4)))
        · exact hrep.elim
      · cases e
        exact .agg hl' (fun j u e h3 h4 => one (hc' j u e h3 h4) (hcs e (List.mem_of_getElem? h4)))
      · cases e
    · have hcell : isCell d = true := by
        cases d <;> first | exact hok | exact absurd ⟨_, rfl⟩ ha
      rcases hrep with hrep | ⟨ds', e, _⟩ | ⟨ds', e, _⟩
      · exact one hrep hcell
      · exact absurd ⟨_, e⟩ ha
      · subst e; cases hcell
  refine (h.2 w (okB ι) args (fun g cs hg => ((hglob g cs hg).cell _).2.1 cs rfl) hr).mono ?_
  rintro e w' ⟨v, h1, h2, h3⟩
  have okF : ∀ b, w.heap.size ≤ b → okB ι b := fun b hb => ⟨hobjs.fresh b (.inl hb), fun id u hu => (by rw [hn] at hu; cases hu)⟩
  refine ⟨v, ι, h1, ⟨h2.os, h2.tape, h2.output, h2.size, fun k hk _ => h2.block k hk⟩, rfl, rfl, ⟨fun id o ho => (by simp [getH] at ho), fun id u hu => (by rw [hn] at hu; cases hu), fun id id' u u' b hu => (by rw [hn] at hu; cases hu), hobjs.fresh⟩,
    .inl (.inl (h3.mono (Nat.le_refl _) (fun b _ ho => ⟨ho.elim id (okF b), rfl⟩) (fun b _ ho => ⟨⟨.inl ho, okF b ho⟩, rfl⟩))), fun id u hu => by rw [hn] at hu; cases hu⟩
noncomputable def pureE (F : List D → Option D) (hs : List (Nat × O)) (ds : List D) : Option (D × List (Nat × O)) := match hs with
  | [] => if ds.all okA = true then (F ds).map (fun r => (r, [])) else none
  | _ => none
theorem pureE_ok {F : List D → Option D} (hF : ∀ ds r, F ds = some r → Contract P G f ds r) (hs : List (Nat × O)) (ds : List D) (r : D) (hs' : List (Nat × O)) (h : pureE F hs ds = some (r, hs')) : ContractE P G f hs ds r hs' := by
  unfold pureE at h
  split at h
  · split at h
    · rename_i hd
      rw [Option.map_eq_some_iff] at h
      obtain ⟨r0, h1, h2⟩ := h
      cases h2
      exact contractE_pure (hF _ _ h1) hd
    · cases h
  · cases h
end
end Go.Abs
