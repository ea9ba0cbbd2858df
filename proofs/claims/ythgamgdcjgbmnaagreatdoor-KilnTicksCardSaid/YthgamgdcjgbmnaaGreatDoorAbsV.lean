/-
  Appends among operations whose order is drawn: onto nil, or onto a slice without room, an append makes new memory alone.
-/
import Derived.Test.YthgamgdcjgbmnaaGreatDoorAbsL
namespace Go.Abs
set_option linter.unusedSimpArgs false
set_option linter.unusedVariables false
open Go Go.RowKit

def appF (P : Program) (ρ : Nat → D) (η : Nat → Option O) (c : Go.Call) : Option (D × Option O) :=
  match c.args, c.argTypes with
  | ⟨[x, y]⟩, ⟨[ty, ty']⟩ => if ty' = ty then
      match appT P ty with
      | some (_, sz, by_) => match srcD η (ev ρ y) with
        | some (es', fl') => if es'.all (fun c => c.length == sz) = true ∧ es'.length * (by_ + 1) ≤ 140737488355328 then
            match ev ρ x with
            | .emp => some (.own fl' es', none)
            | .cap0 => some (.own fl' es', none)
            | _ => none
          else none
        | none => none
      | none => none
    else none
  | _, _ => none
/-- A free operation: an empty slice literal has no room, and what is appended to it is new. -/
def aopF (P : Program) (call : CT) (ρ : Nat → D) (η : Nat → Option O) (t : Nat) (op : Op) : Option (D × Option O) :=
  match op with
  | .buildSlice ty n ps => if n = 0 ∧ ps.size = 0 then
      match mkT P ty with
      | some _ => some (.cap0, none)
      | none => none
    else aop P call ρ η t (.buildSlice ty n ps)
  | .call c => if isAppend c = true then appF P ρ η c else aop P call ρ η t (.call c)
  | op => aop P call ρ η t op

section
variable {P : Program} {call : CT}
theorem appF_congr {ρ ρ' : Nat → D} {η : Nat → Option O} (c : Go.Call) (h : ∀ x ∈ c.args.toList, ev ρ x = ev ρ' x) : appF P ρ η c = appF P ρ' η c := by
  unfold appF
  split
  · rename_i x y ty ty' h1 h2
    rw [h x (by simp [h1]), h y (by simp [h1])]
  · rfl
theorem aopF_congr {ρ ρ' : Nat → D} {η : Nat → Option O} {t : Nat} (op : Op) (h : ∀ x ∈ op.operands, ev ρ x = ev ρ' x) : aopF P call ρ η t op = aopF P call ρ' η t op := by
  have key := aop_congr (P := P) (call := call) (η := η) (t := t) op h
  cases op with
  | buildSlice ty n ps => simp only [aopF]; rw [key]
  | call c =>
    simp only [aopF]
    rw [key, appF_congr c (fun x hx => h x (by
      simp only [Op.operands, Call.operands, Array.mem_append]
      exact .inr (by simpa using hx)))]
  | _ => exact key
theorem srcD_mono {η η' : Nat → Option O} (hη : Less η η') {x : D} {r : List (List D) × Bool} (h : srcD η x = some r) : srcD η' x = some r := by
  unfold srcD at h ⊢
  split at h <;> first | exact h | skip
  split at h
  · rename_i hh
    rw [hη _ _ hh]
    exact h
  · cases h
theorem appF_mono {η η' : Nat → Option O} (hη : Less η η') {ρ : Nat → D} {c : Go.Call} {r : D × Option O} (h : appF P ρ η c = some r) : appF P ρ η' c = some r := by
  unfold appF at h ⊢
  split at h
  · split at h
    · rename_i ht
      rw [if_pos ht]
      split at h
      · split at h
        · rename_i hs
          rw [srcD_mono hη hs]
          exact h
        · cases h
      · cases h
    · cases h
  · cases h
theorem aopF_mono {η η' : Nat → Option O} (hη : Less η η') {ρ : Nat → D} {t : Nat} (op : Op) {r : D × Option O} (h : aopF P call ρ η t op = some r) : aopF P call ρ η' t op = some r := by
  cases op with
  | buildSlice ty n ps =>
    simp only [aopF] at h ⊢
    split at h
    · rename_i h0
      rw [if_pos h0]
      exact h
    · rename_i h0
      rw [if_neg h0]
      exact aop_mono hη _ h
  | call c =>
    simp only [aopF] at h ⊢
    split at h
    · rename_i h0
      rw [if_pos h0]
      exact appF_mono hη h
    · rename_i h0
      rw [if_neg h0]
      exact aop_mono hη _ h
  | _ =>
    simp only [aopF] at h ⊢
    exact aop_mono hη _ h
end

section
variable {P : Program} {w : World} {B : Nat} {ι : Inj} {N : Nat} {w0 : Bs} {ρ : Nat → D} {η : Nat → Option O} {a : Act}
/-- An append onto a slice without room: what comes back is new, or empty. -/
theorem free_append (hrel : Rel N B w0 ι ρ η a w) {ty ty' e : TypeId} {sz by_ : Nat} (hT : appT P ty = some (e, sz, by_)) {y : Operand} {es' : List (List D)} {fl' : Bool}
    (hs : srcD η (ev ρ y) = some (es', fl')) (hl : es'.all (fun c => c.length == sz) = true) (hlim : es'.length * (by_ + 1) ≤ 140737488355328) (A : Option Addr) :
    ∃ v' w', (Builtin.append_ #[ty, ty] ty' #[.slice A 0 0, a.eval y]).run P w = .ok v' w' ∧ Ext w w' ∧ RepI w' (okB ι) (frB B ι) v' (.own fl' es') := by
  obtain ⟨hu, hsz, i, z, hi, hz, hzs, rfl, rfl⟩ := appT_some hT
  obtain ⟨⟨A', c, news, src⟩, hfl⟩ := src_sound hrel (hrel.ev y) hs hsz (all_len hl)
  have hb1 : es'.length ≤ 140737488355328 := Nat.le_trans (Nat.le_mul_of_pos_right _ (by omega)) hlim
  have hb2 : es'.length * i.bytes ≤ 140737488355328 := Nat.le_trans (Nat.mul_le_mul_left _ (by omega)) hlim
  by_cases hze : es'.length = 0
  · have he' : es' = [] := List.eq_nil_of_length_eq_zero hze
    refine ⟨.slice A 0 0, w, ?_, Below.refl _ _, by rw [he']; exact .own0 _ _ _⟩
    rw [src.val, hze]
    cases A' with
    | none => cases A <;> simp [Builtin.append_, run_underlying hu, Go.sizeOf, typeInfo, hi, Builtin.lenOf, Builtin.firstCells, storeCells]
    | some ad => cases A <;> simp [Builtin.append_, run_underlying hu, Go.sizeOf, typeInfo, hi, Builtin.lenOf, Builtin.firstCells, loadCells, loadCellsFrom, storeCells]
  · have same : (Builtin.append_ #[ty, ty] ty' #[.slice A 0 0, a.eval y]).run P w = (Builtin.append_ #[ty, ty] ty' #[.slice none 0 0, a.eval y]).run P w := by
      rw [src.val]
      cases A with
      | none => rfl
      | some b =>
        cases A' with
        | none => exact absurd (by rw [src.nil rfl]; rfl) hze
        | some ad =>
          rw [Go.run_append_nil (P := P) w ty ty' e i z hu hi hz ad es'.length c news src.len (src.cell ad rfl) (by omega) (by omega) (by omega)]
          have hns : Builtin.nextslicecap es'.length 0 = es'.length := by unfold Builtin.nextslicecap; rw [if_pos (by omega)]
          have := Go.run_append_grow (P := P) w ty ty' e i z hu hi hz b 0 0 [] (by simp) (by simp) ad es'.length c news src.len (src.cell ad rfl) (by omega) (by omega) (by rw [Nat.zero_add, hns]; omega)
          simpa using this
    rw [same]
    have hown : w.ownsRow 0 e i.size (.slice none 0 0) 0 [] := ⟨by simp, .inl ⟨rfl, rfl⟩⟩
    obtain ⟨v', w', hrun, hown', hg, hb⟩ := append_run (P := P) (ty := ty') (Nat.zero_le _) hu hi hz hzs hsz hown src (by unfold maxLen; omega) (by simpa using hb2)
    have hg' : w.grownBy w' none := hg
    have hx : Ext w w' := ⟨hg'.os, hg'.tape, hg'.output, hg'.size, fun k hk => hg'.block k hk (by simp)⟩
    refine ⟨v', w', hrun, hx, ?_⟩
    have hnew : ∀ b, blk v' = some b → w.heap.size ≤ b := by
      intro b hbb
      rw [← ownsRow_ownBlock hown'] at hbb
      rcases hb with hb | hb
      · rw [hbb] at hb; cases hb
      · rw [hbb] at hb; injection hb with hb; omega
    have hwr : ∀ b, blk v' = some b → wrB B ι b := fun b hbb => .inl (Nat.le_trans hrel.base (hnew b hbb))
    have hobj : ObjRel w' B ι v' (.row e i.size (true && fl') ([] ++ es')) :=
      append_obj (n := 0) (es := []) (xs := []) rfl hsz (by simp) hown' hwr (by simp) (all_len hl) (by simp)
        (fun k x j d u h1 h2 h3 => (src.rep k x j d u h1 h2 h3).mono hx.size (fun b hb ho => ⟨ho, hx.block b hb⟩) (fun b hb ho => ⟨ho, hx.block b hb⟩))
        (by simp) src.one (by simp) src.ic (by simp) hfl
    simp only [Bool.true_and, List.nil_append] at hobj
    have hobj' := hobj
    obtain ⟨xs, _, ⟨hown2, _⟩, hlen, hrep, hone, hic, hfl2⟩ := hobj
    rcases hown2.2 with ⟨rfl, h2⟩ | ⟨g, cap, cur, rfl, hB, hh, hle, hmx, hcs, hxs⟩
    · exact absurd h2 hze
    · have hcells := (row_cells hobj').2.2.2
      have hok : okB ι g := ⟨hrel.fresh g (hwr g rfl), fun id u hu hbb => by
        have h1 := (hrel.blk_lt hu hbb).2
        have h2 := hnew g rfl
        omega⟩
      refine .own (sz := i.size) ⟨hwr g rfl, hok⟩ (Array.getElem?_eq_some_iff.1 hh).1 hle hic hlen (fun k j hk hj => ?_) (fun k x j d u he hd hu => ?_) hfl2
      · have he : es'[k]? = some es'[k] := List.getElem?_eq_getElem hk
        have hel := hlen _ (List.getElem_mem hk)
        obtain ⟨u, hu, _, h1⟩ := hcells k _ j _ he (List.getElem?_eq_getElem (by omega : j < es'[k].length))
        rw [Addr.add_lit, Nat.zero_add]
        rw [hel] at hu
        exact ⟨u, hu, h1⟩
      · obtain ⟨u', hu', hr, _⟩ := hcells k x j d he hd
        rw [Addr.add_lit, Nat.zero_add] at hu
        rw [hlen x (List.mem_of_getElem? he), hu] at hu'
        cases hu'
        exact hr
theorem aopF_sound (hrel : Rel N B w0 ι ρ η a w) {call : CT} (hcall : CTok P call) (hG : w0.G = call.g) {t : Nat} {o : Oper} {d : D} {oo : Option O}
    (hη : oo.isSome = true → η t = none) (h : aopF P call ρ η t o.op = some (d, oo)) : Outcome P B ι t w d oo ((execOp a.eval o).run P w) := by
  unfold aopF at h
  split at h
  · rename_i ty n ps hop
    split at h
    · rename_i h0
      obtain ⟨rfl, hps⟩ := h0
      split at h
      · rename_i x hmk
        cases h
        obtain ⟨e, sz, by_, zs⟩ := x
        obtain ⟨hu, hz, hb0, hb1, hs, _⟩ := mkT_some hmk
        have hps' : ps = #[] := Array.eq_empty_of_size_eq_zero hps
        subst hps'
        have hrun : ∃ o', (execOp a.eval o).run P w = .ok (.value (.slice (some ⟨w.heap.size, 0, none⟩) 0 0)) (w.alloc o') := by
          simp only [execOp, hop, Instr.buildSlice, Sem.run_bind, run_underlying hu, Result.andThen_ok, run_sizeOf hs]
          rw [if_neg (by omega), if_pos (by simp)]
          simp [newRow]
          exact ⟨_, rfl⟩
        obtain ⟨o', hrun⟩ := hrun
        exact .inl ⟨_, _, hrun, ext_alloc w o', .inl (.inl (.cap0 _))⟩
      · cases h
    · exact aop_sound hrel hcall hG hη (by rw [hop]; exact h)
  · rename_i c hop
    split at h
    · rename_i hap
      have hc : c.callee = .builtin .append := by
        obtain ⟨callee, args, tys⟩ := c
        unfold isAppend at hap
        split at hap
        · rename_i e; cases e; rfl
        · cases hap
      unfold appF at h
      split at h
      · rename_i x y ty ty' hargs htys
        split at h
        · rename_i ht
          subst ht
          split at h
          · rename_i e sz by_ hT
            split at h
            · rename_i es' fl' hs
              split at h
              · rename_i hb
                have fin : ∀ A, a.eval x = .slice A 0 0 → Outcome P B ι t w (.own fl' es') none ((execOp a.eval o).run P w) := by
                  intro A hx
                  obtain ⟨v', w', hrun, hxt, hr⟩ := free_append (P := P) (ty' := o.type) hrel hT hs hb.1 hb.2 A
                  refine .inl ⟨v', w', ?_, hxt, .inl (.inl hr)⟩
                  simp only [execOp, hop, resolve, hc, hargs, htys, invoke, builtin]
                  simp [hrun, hx]
                split at h
                · rename_i hx
                  cases h
                  have := hrel.ev x
                  rw [hx] at this
                  exact fin none this.emp_inv
                · rename_i hx
                  cases h
                  have := hrel.ev x
                  rw [hx] at this
                  have := (this.one_inv (fun _ e => by cases e)).resolve_right (fun h => h.elim)
                  obtain ⟨A, hA⟩ : ∃ A, a.eval x = .slice A 0 0 := by
                    generalize a.eval x = v at this
                    cases this
                    exact ⟨_, rfl⟩
                  exact fin A hA
                · cases h
              · cases h
            · cases h
          · cases h
        · cases h
      · cases h
    · exact aop_sound hrel hcall hG hη (by rw [hop]; exact h)
  · exact aop_sound hrel hcall hG hη h
end
end Go.Abs
