/-
  A free operation looks at its operands and at the objects that they refer to, and at nothing else; regions in their order, and regions that draw their order.
-/
import Derived.Test.YthgamgdcjgbmnaaGreatDoorAbsK
namespace Go.Abs
set_option linter.unusedSimpArgs false
set_option linter.unusedVariables false
open Go Go.RowKit

section
variable {P : Program} {call : CT}

theorem partsD_congr {ρ ρ' : Nat → D} : ∀ (ps : List (Nat × Operand)), (∀ p ∈ ps, ev ρ p.2 = ev ρ' p.2) → partsD ρ ps = partsD ρ' ps
  | [], _ => rfl
  | (i, x) :: r, h => by
    unfold partsD
    rw [h (i, x) (by simp), partsD_congr r (fun p hp => h p (by simp [hp]))]
theorem partsI_congr {ρ ρ' : Nat → D} : ∀ (ps : List (Nat × Operand)), (∀ p ∈ ps, ev ρ p.2 = ev ρ' p.2) → partsI ρ ps = partsI ρ' ps
  | [], _ => rfl
  | (i, x) :: r, h => by
    unfold partsI
    rw [h (i, x) (by simp), partsI_congr r (fun p hp => h p (by simp [hp]))]

theorem evG_congr {ρ ρ' : Nat → D} {x : Operand} (h : ev ρ x = ev ρ' x) : evG call ρ x = evG call ρ' x := by
  unfold evG
  cases x with
  | global g => rfl
  | tmp t => exact h
  | const v => exact h
  | func f => exact h
theorem capD_congr {ρ ρ' : Nat → D} : ∀ (ps : List Operand), (∀ p ∈ ps, ev ρ p = ev ρ' p) → capD ρ ps = capD ρ' ps
  | [], _ => rfl
  | x :: r, h => by
    unfold capD
    rw [h x (by simp), capD_congr r (fun p hp => h p (by simp [hp]))]

theorem aop_congr {ρ ρ' : Nat → D} {η : Nat → Option O} {t : Nat} (op : Op) (h : ∀ x ∈ op.operands, ev ρ x = ev ρ' x) : aop P call ρ η t op = aop P call ρ' η t op := by
  cases op <;> simp only [aop]
  case move x => rw [h x (by simp [Op.operands])]
  case assign x => rw [h x (by simp [Op.operands])]
  case pick c x y => rw [h c (by simp [Op.operands]), h x (by simp [Op.operands]), h y (by simp [Op.operands])]
  case box e x => rw [h x (by simp [Op.operands])]
  case build ty ps =>
    have : buildD P ρ ty ps = buildD P ρ' ty ps := by
      unfold buildD
      rw [partsD_congr ps.toList (fun p hp => h p.2 (by simp [Op.operands]; exact ⟨p.1, by simpa using hp⟩))]
    rw [this]
  case buildSlice ty n ps =>
    have : buildSliceD P ρ ty n ps = buildSliceD P ρ' ty n ps := by
      unfold buildSliceD
      rw [partsI_congr ps.toList (fun p hp => h p.2 (by simp [Op.operands]; exact ⟨p.1, by simpa using hp⟩))]
    rw [this]
  case load ty x => rw [evG_congr (h x (by simp [Op.operands]))]
  case nilCheck x => rw [h x (by simp [Op.operands])]
  case binOp o ty x y ty' => rw [h x (by simp [Op.operands]), h y (by simp [Op.operands])]
  case unOp o ty x => rw [h x (by simp [Op.operands])]
  case convert s d x => rw [h x (by simp [Op.operands])]
  case slice ty x lo hi mx =>
    have e1 : lo.map (ev ρ) = lo.map (ev ρ') := by
      cases lo with
      | none => rfl
      | some y => simp [h y (by simp [Op.operands])]
    have e2 : hi.map (ev ρ) = hi.map (ev ρ') := by
      cases hi with
      | none => rfl
      | some y => simp [h y (by simp [Op.operands])]
    rw [h x (by simp [Op.operands]), e1, e2]
    cases mx with
    | none => rfl
    | some m => simp only; rw [h m (by simp [Op.operands])]
  case fieldAddr s x f => rw [evG_congr (h x (by simp [Op.operands]))]
  case field s x f => rw [h x (by simp [Op.operands])]
  case indexAddr s x f => rw [evG_congr (h x (by simp [Op.operands])), h f (by simp [Op.operands])]
  case makeFunc fn first cap =>
    have : makeFuncD ρ fn first cap = makeFuncD ρ' fn first cap := by
      unfold makeFuncD
      rw [capD_congr cap.toList (fun p hp => h p (by simp [Op.operands]; exact .inr (by simpa using hp)))]
    rw [this]
  case index s x f => rw [h x (by simp [Op.operands]), h f (by simp [Op.operands])]
  case extract x i => rw [h x (by simp [Op.operands])]
  case makeSlice ty l c => rw [h l (by simp [Op.operands]), h c (by simp [Op.operands])]
  case call c =>
    have e1 : c.args.toList.map (ev ρ) = c.args.toList.map (ev ρ') := List.map_congr_left (fun x hx => h x (by
      simp only [Op.operands, Call.operands, Array.mem_append]
      exact .inr (by simpa using hx)))
    have : callD call ρ η P c = callD call ρ' η P c := by
      unfold callD
      rw [e1]
      split
      · rename_i f hf
        rw [h f (by simp [Op.operands, Call.operands, hf])]
      · rfl
      · rfl
    rw [this]

/-! ### More objects do no harm -/
def Less (η η' : Nat → Option O) : Prop := ∀ id o, η id = some o → η' id = some o

theorem loadD_mono {η η' : Nat → Option O} (hη : Less η η') {t : TypeId} {x d : D} (h : loadD P η t x = some d) : loadD P η' t x = some d := by
  unfold loadD at h ⊢
  split at h
  · split at h
    · rename_i hh; rw [hη _ _ hh]; exact h
    · cases h
  · exact h
  · split at h
    · rename_i hh; rw [hη _ _ hh]; exact h
    · cases h
  · cases h
theorem indexAddrD_mono {η η' : Nat → Option O} (hη : Less η η') {t : TypeId} {x i d : D} (h : indexAddrD P η t x i = some d) : indexAddrD P η' t x i = some d := by
  unfold indexAddrD at h ⊢
  split at h
  · split at h
    · rename_i h0
      rw [if_pos h0]
      split at h
      · split at h
        · split at h
          · exact h
          · exact h
          · split at h
            · rename_i hh; rw [hη _ _ hh]; exact h
            · cases h
          · exact h
          · cases h
        · cases h
      · exact h
      · cases h
    · cases h
  · cases h
theorem lenD_mono {η η' : Nat → Option O} (hη : Less η η') {x : D} {n : Nat} (h : lenD η x = some n) : lenD η' x = some n := by
  unfold lenD at h ⊢
  split at h
  · exact h
  · exact h
  · exact h
  · split at h
    · rename_i hh; rw [hη _ _ hh]; exact h
    · cases h
  · exact h
  · cases h
theorem resA_mono {η η' : Nat → Option O} (hη : Less η η') {x : D} {r : D × Bool} (h : resA η x = some r) : resA η' x = some r := by
  unfold resA at h ⊢
  split at h
  · split at h
    · rename_i hh; rw [hη _ _ hh]; exact h
    · cases h
  · split at h
    · rename_i hh; rw [hη _ _ hh]; exact h
    · cases h
  · exact h
  · exact h
  · exact h
  · exact h
  · exact h
  · exact h
  · split at h
    · rename_i hh; rw [hη _ _ hh]; exact h
    · cases h
  · exact h
  · cases h
theorem resB_mono {η η' : Nat → Option O} (hη : Less η η') : ∀ (xs : List D) (r : List D), resB η xs = some r → resB η' xs = some r
  | [], _, h => h
  | x :: xs, r, h => by
    unfold resB at h ⊢
    split at h
    · rename_i d u ds h1 h2
      rw [resA_mono hη h1, resB_mono hη xs _ h2]
      exact h
    · cases h
theorem res1_mono {η η' : Nat → Option O} (hη : Less η η') {x : D} {r : D × Bool} (h : res1 η x = some r) : res1 η' x = some r := by
  unfold res1 at h ⊢
  split at h
  · split at h
    · rename_i h0
      simp only [h0, if_true]
      split at h
      · rename_i hh
        rw [hη _ _ hh]
        simp only
        split at h
        · rename_i cs hc
          rw [resB_mono hη _ _ hc]
          exact h
        · cases h
      · cases h
    · cases h
  · exact resA_mono hη h
theorem resC_mono {η η' : Nat → Option O} (hη : Less η η') : ∀ (xs : List D) (r : List D × Bool), resC η xs = some r → resC η' xs = some r
  | [], _, h => h
  | x :: xs, r, h => by
    unfold resC at h ⊢
    split at h
    · rename_i d u ds us h1 h2
      rw [res1_mono hη h1, resC_mono hη xs _ h2]
      exact h
    · cases h
theorem resD_mono {η η' : Nat → Option O} (hη : Less η η') {x : D} {r : D × Bool} (h : resD η x = some r) : resD η' x = some r := by
  by_cases ha : ∃ cs, x = .agg cs
  · obtain ⟨cs, rfl⟩ := ha
    unfold resD at h ⊢
    simp only at h ⊢
    split at h
    · rename_i cs' u hc
      rw [resC_mono hη cs _ hc]
      exact h
    · cases h
  · have e : ∀ η, resD η x = res1 η x := fun η => by cases x <;> first | rfl | exact absurd ⟨_, rfl⟩ ha
    rw [e] at h ⊢
    exact res1_mono hη h
theorem resL_mono {η η' : Nat → Option O} (hη : Less η η') : ∀ (xs : List D) (r : List D × Bool), resL η xs = some r → resL η' xs = some r
  | [], _, h => h
  | x :: xs, r, h => by
    unfold resL at h ⊢
    split at h
    · rename_i d u ds us h1 h2
      rw [resD_mono hη h1, resL_mono hη xs _ h2]
      exact h
    · cases h
theorem callD_mono {η η' : Nat → Option O} (hη : Less η η') {ρ : Nat → D} {c : Go.Call} {d : D} (h : callD call ρ η P c = some d) : callD call ρ η' P c = some d := by
  unfold callD at h ⊢
  split at h
  · split at h
    · split at h
      · rename_i h0
        rw [if_pos h0]
        split at h
        · rename_i ds u hr
          rw [resL_mono hη _ _ hr]
          exact h
        · cases h
      · cases h
    · cases h
  · split at h
    · split at h
      · unfold lenOp at h ⊢
        split at h
        · exact h
        · exact h
        · split at h
          · rename_i hn
            rw [lenD_mono hη hn]
            exact h
          · cases h
        · cases h
      · cases h
    · exact h
    · exact h
    · cases h
  · cases h
theorem noneOf_mono {x y : Option D} (h : ∀ d, x = some d → y = some d) {r : D × Option O} (hx : noneOf x = some r) : noneOf y = some r := by
  obtain ⟨d, oo⟩ := r
  obtain ⟨h1, rfl⟩ := noneOf_some hx
  rw [h d h1]
  rfl
theorem aop_mono {η η' : Nat → Option O} (hη : Less η η') {ρ : Nat → D} {t : Nat} (op : Op) {r : D × Option O} (h : aop P call ρ η t op = some r) : aop P call ρ η' t op = some r := by
  cases op <;> simp only [aop] at h ⊢ <;> first
    | exact h
    | exact noneOf_mono (fun d hd => loadD_mono hη hd) h
    | exact noneOf_mono (fun d hd => indexAddrD_mono hη hd) h
    | exact noneOf_mono (fun d hd => callD_mono hη hd) h

end

/-! ### Guards -/
def guardV (ops : Array Oper) (ρ : Nat → D) : Option (Nat × Bool) → Option Bool
  | none => some true
  | some (j, want) => match ops[j]? with
    | some oj => match oj.dst with
      | some t => match ρ t with
        | .x (.bool b) => some (b == want)
        | .x (.tuple _) => some false
        | _ => none
      | none => some false
    | none => some false

section
variable {P : Program} {w : World} {B : Nat} {N : Nat} {w0 : Bs} {a : Act} {call : CT} {ι : Inj} {ρ : Nat → D} {η : Nat → Option O}

theorem guard_sound (hrel : Rel N B w0 ι ρ η a w) {ops : Array Oper} {o : Oper} {b : Bool} (h : guardV ops ρ o.guard = some b) : Region.wanted o (yielded ops a.tmps) = b := by
  unfold Region.wanted
  cases hg : o.guard with
  | none => rw [hg] at h; cases h; rfl
  | some jw =>
    obtain ⟨j, want⟩ := jw
    rw [hg] at h
    simp only [guardV] at h
    simp only [yielded]
    split at h
    · rename_i oj hj
      simp only [hj, Option.bind_some]
      split at h
      · rename_i t ht
        simp only [ht, Option.bind_some]
        have hr := hrel.tmp t
        split at h
        · rename_i c hc
          cases h
          rw [hc] at hr
          have hv := hr.x_inv
          have : a.tmps[t]? = some (.bool c) := by
            cases hq : a.tmps[t]? with
            | none => simp [hq, undef] at hv
            | some q => simp [hq] at hv; rw [hv]
          rw [this]
          cases c <;> cases want <;> rfl
        · rename_i vs hc
          cases h
          rw [hc] at hr
          have hv := hr.x_inv
          cases hq : a.tmps[t]? with
          | none => rfl
          | some q =>
            simp [hq] at hv
            rw [hv]
            rfl
        · cases h
      · rename_i ht
        cases h
        simp [ht]
    · rename_i hj
      cases h
      simp [hj]

/-! ### Regions in their order -/
def stepG (P : Program) (call : CT) (an : Ann) (N : Nat) (ops : Array Oper) (s : St) (o : Oper) : Option St :=
  match guardV ops (getT s.t) o.guard with
  | some true => eop P call an N s o
  | some false => match o.dst with
    | some t => if t < N then some (s.put t (.x undef)) else none
    | none => some s
  | none => none
def runSeq (P : Program) (call : CT) (an : Ann) (N : Nat) (ops : Array Oper) : List Oper → St → Option St
  | [], s => some s
  | o :: r, s => match stepG P call an N ops s o with
    | some s' => runSeq P call an N ops r s'
    | none => none

theorem stepG_sound (hcall : CTok P call) (hG : w0.G = call.g) {an : Ann} {ops : Array Oper} {s s' : St} {i : Nat} {o : Oper} (hi : ops[i]? = some o) (h : SRel N B w0 s a w) (hs : stepG P call an N ops s o = some s')
    {K : Act → World → Prop} {Q : Exit → Act → World → Prop} (hk : ∀ a' w', SRel N B w0 s' a' w' → K a' w') : wpOp P ops Q i K a w := by
  unfold wpOp
  simp only [hi]
  unfold stepG at hs
  obtain ⟨ι, hrel⟩ := h
  split at hs
  · rename_i hg
    rw [if_pos (guard_sound hrel hg)]
    exact .inl (eop_sound hcall hG ⟨ι, hrel⟩ hs hk)
  · rename_i hg
    rw [if_neg (by rw [guard_sound hrel hg]; simp)]
    split at hs
    · rename_i t hd
      split at hs
      · rename_i ht
        cases hs
        rw [hd]
        exact hk _ _ (SRel.good_put hrel ht ⟨Below.refl _ _, .inl (.inl (.x _))⟩)
      · cases hs
    · rename_i hd
      cases hs
      rw [hd, put_none]
      exact hk _ _ ⟨ι, hrel⟩
  · cases hs

theorem runSeq_sound (hcall : CTok P call) (hG : w0.G = call.g) {an : Ann} {ops : Array Oper} {Q : Exit → Act → World → Prop} {s' : St} (hk : ∀ a' w', SRel N B w0 s' a' w' → Q .normal a' w') :
    ∀ (l : List Oper) (k : Nat) (s : St) (a : Act) (w : World), (∀ j, l[j]? = ops[k + j]?) → SRel N B w0 s a w → runSeq P call an N ops l s = some s' → wpOps P ops Q (List.range' k l.length) a w
  | [], k, s, a, w, _, h, hs => by
    cases hs
    exact hk _ _ h
  | o :: l, k, s, a, w, hl, h, hs => by
    unfold runSeq at hs
    split at hs
    · rename_i s1 h1
      have h0 : ops[k]? = some o := by have := hl 0; simpa using this.symm
      rw [List.length_cons, List.range'_succ, wpOps_cons]
      refine stepG_sound hcall hG h0 h h1 (fun a' w' h' => ?_)
      exact runSeq_sound hcall hG hk l (k + 1) s1 a' w' (fun j => by have := hl (j + 1); simpa [Nat.add_assoc, Nat.add_comm 1 j] using this) h' hs
    · cases hs

theorem region_sound (hcall : CTok P call) (hG : w0.G = call.g) {an : Ann} {ops : Array Oper} {id : Nat} {Q : Exit → Act → World → Prop} {s s' : St} (h : SRel N B w0 s a w) (hs : runSeq P call an N ops ops.toList s = some s')
    (hk : ∀ a' w', SRel N B w0 s' a' w' → Q .normal a' w') : (Code.region id ops false).wp P Q a w := by
  apply wp_region
  rw [List.range_eq_range']
  exact runSeq_sound hcall hG hk ops.toList 0 s a w (fun j => by simp) h hs

end
end Go.Abs
