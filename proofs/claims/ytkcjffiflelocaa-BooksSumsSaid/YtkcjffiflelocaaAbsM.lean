/-
  Regions that draw their order: whatever order is drawn, the state at the end is that of the order of the text.
-/
import Derived.Test.YtkcjffiflelocaaAbsL
namespace Go.Abs
open Go Go.RowKit

def aft (o : Oper) : List Nat := (o.after.toList.filter (Region.binds .any)).map (·.on)
def isTail : Op → Bool
  | .assign _ => true
  | .store _ _ _ => true
  | .call c => isAppend c
  | _ => false
def prefLen : List Oper → Nat
  | [] => 0
  | o :: r => if isTail o.op = true then 0 else prefLen r + 1
def okPair (ops : Array Oper) (i j : Nat) (o oj : Oper) : Bool :=
  match oj.dst with
  | none => true
  | some t => o.dst != some t && (!(o.looksAt ops).contains t || (aft o).contains j || (aft oj).contains i)
/-- What is asked of a region that draws its order; closed, and asked once. -/
def okDraw (ops : Array Oper) : Bool :=
  (List.range ops.size).all fun i => match ops[i]? with
    | none => false
    | some o => (aft o).all (fun j => decide (j < i)) &&
      (if i < prefLen ops.toList then
        (List.range (prefLen ops.toList)).all fun j => j == i || (match ops[j]? with
          | none => false
          | some oj => okPair ops i j o oj)
      else (List.range i).all fun j => (aft o).contains j)

def blocked (ops : Array Oper) (m : Nat) (o : Oper) (id : Nat) : Bool := (List.range m).any fun j => match ops[j]? with
  | some oj => oj.dst == some id && !(aft o).contains j
  | none => false
def maskH (ops : Array Oper) (m : Nat) (o : Oper) (η : Nat → Option O) : Nat → Option O := fun id => if blocked ops m o id = true then none else η id
def dstep (P : Program) (call : FuncId → List D → Option D) (N : Nat) (ops : Array Oper) (m : Nat) (s : St) (o : Oper) : Option St :=
  match guardV ops (getT s.t) o.guard with
  | some true => match o.dst with
    | some t => if t < N then
        match aop P call (getT s.t) (maskH ops m o (getH s.h)) t o.op with
        | some (d, none) => some (s.put t d)
        | some (d, some ob) => match getH s.h t with
          | none => some (s.putO t d ob)
          | some _ => none
        | none => none
      else none
    | none => match aop P call (getT s.t) (maskH ops m o (getH s.h)) 0 o.op with
      | some (_, none) => some s
      | _ => none
  | some false => match o.dst with
    | some t => if t < N then some (s.put t (.x undef)) else none
    | none => some s
  | none => none
def runDraw (P : Program) (call : FuncId → List D → Option D) (an : Ann) (N : Nat) (ops : Array Oper) (m : Nat) : List Oper → St → Option St
  | [], s => some s
  | o :: r, s => if isTail o.op = true then runSeq P call an N ops (o :: r) s
    else match dstep P call N ops m s o with
      | some s' => runDraw P call an N ops m r s'
      | none => none

section
variable {P : Program} {B : Nat} {N : Nat} {w0 : Bs} {call : FuncId → List D → Option D} {an : Ann} {ops : Array Oper}

theorem seq_states {s' : St} : ∀ (l : List Oper) (k : Nat) (s : St), runSeq P call an N ops l s = some s' → (∀ j, l[j]? = ops[k + j]?) →
    ∃ F : Nat → St, F k = s ∧ F (k + l.length) = s' ∧ ∀ i, k ≤ i → i < k + l.length → ∃ o, ops[i]? = some o ∧ stepG P call an N ops (F i) o = some (F (i + 1))
  | [], k, s, h, _ => by injection h with h; exact ⟨fun _ => s, rfl, h, fun i h1 h2 => by simp at h2; omega⟩
  | o :: l, k, s, h, hl => by
    unfold runSeq at h
    split at h
    · rename_i s1 h1
      obtain ⟨F, e1, e2, e3⟩ := seq_states l (k + 1) s1 h (fun j => by have := hl (j + 1); simpa [Nat.add_assoc, Nat.add_comm 1 j] using this)
      refine ⟨fun i => if i = k then s else F i, by simp, ?_, fun i hi1 hi2 => ?_⟩
      · show (if k + (o :: l).length = k then s else F (k + (o :: l).length)) = s'
        rw [List.length_cons, if_neg (by omega), ← e2]
        congr 1
        omega
      · by_cases hik : i = k
        · subst hik
          have h0 : ops[i]? = some o := by have := hl 0; simpa using this.symm
          refine ⟨o, h0, ?_⟩
          simp only [if_true]
          rw [if_neg (by omega), e1]
          exact h1
        · obtain ⟨o', ho', hs⟩ := e3 i (by omega) (by simp at hi2; omega)
          refine ⟨o', ho', ?_⟩
          simp only
          rw [if_neg hik, if_neg (by omega)]
          exact hs
    · cases h

theorem draw_states {m : Nat} {s' : St} : ∀ (l : List Oper) (k : Nat) (s : St), runDraw P call an N ops m l s = some s' → (∀ j, l[j]? = ops[k + j]?) →
    ∃ F : Nat → St, F k = s ∧ F (k + l.length) = s' ∧ ∀ i, k ≤ i → i < k + l.length → ∃ o, ops[i]? = some o ∧
      ((i < k + prefLen l → dstep P call N ops m (F i) o = some (F (i + 1))) ∧ (k + prefLen l ≤ i → stepG P call an N ops (F i) o = some (F (i + 1))))
  | [], k, s, h, _ => by injection h with h; exact ⟨fun _ => s, rfl, h, fun i h1 h2 => by simp at h2; omega⟩
  | o :: l, k, s, h, hl => by
    unfold runDraw at h
    split at h
    · rename_i ht
      obtain ⟨F, e1, e2, e3⟩ := seq_states (o :: l) k s h hl
      refine ⟨F, e1, e2, fun i hi1 hi2 => ?_⟩
      obtain ⟨o', ho', hs⟩ := e3 i hi1 hi2
      have hp : prefLen (o :: l) = 0 := by simp [prefLen, ht]
      exact ⟨o', ho', fun hlt => by rw [hp] at hlt; omega, fun _ => hs⟩
    · rename_i ht
      split at h
      · rename_i s1 h1
        obtain ⟨F, e1, e2, e3⟩ := draw_states l (k + 1) s1 h (fun j => by have := hl (j + 1); simpa [Nat.add_assoc, Nat.add_comm 1 j] using this)
        have hp : prefLen (o :: l) = prefLen l + 1 := by simp [prefLen, ht]
        refine ⟨fun i => if i = k then s else F i, by simp, ?_, fun i hi1 hi2 => ?_⟩
        · show (if k + (o :: l).length = k then s else F (k + (o :: l).length)) = s'
          rw [List.length_cons, if_neg (by omega), ← e2]
          congr 1
          omega
        · by_cases hik : i = k
          · subst hik
            have h0 : ops[i]? = some o := by have := hl 0; simpa using this.symm
            refine ⟨o, h0, fun _ => ?_, fun hle => by rw [hp] at hle; omega⟩
            simp only [if_true]
            rw [if_neg (by omega), e1]
            exact h1
          · obtain ⟨o', ho', hs1, hs2⟩ := e3 i (by omega) (by simp at hi2; omega)
            refine ⟨o', ho', ?_⟩
            simp only
            rw [if_neg hik, if_neg (by omega), hp]
            exact ⟨fun hlt => hs1 (by omega), fun hle => hs2 (by omega)⟩
      · cases h

/-- What one step of the free part changes: its own slot alone. -/
theorem dstep_other {m : Nat} {s s' : St} {o : Oper} (h : dstep P call N ops m s o = some s') {q : Nat} (hq : o.dst ≠ some q) : getT s'.t q = getT s.t q ∧ getH s'.h q = getH s.h q := by
  unfold dstep at h
  split at h
  · split at h
    · rename_i t ht
      have hne : q ≠ t := fun e => hq (by rw [ht, e])
      split at h
      · split at h
        · cases h; exact ⟨by simp only [St.put, getT_set]; exact upd_ne _ _ hne, rfl⟩
        · split at h
          · cases h; exact ⟨by simp only [St.putO, getT_set]; exact upd_ne _ _ hne, by simp only [St.putO, getH_set]; exact upd_ne _ _ hne⟩
          · cases h
        · cases h
      · cases h
    · split at h
      · cases h; exact ⟨rfl, rfl⟩
      · cases h
  · split at h
    · rename_i t ht
      have hne : q ≠ t := fun e => hq (by rw [ht, e])
      split at h
      · cases h; exact ⟨by simp only [St.put, getT_set]; exact upd_ne _ _ hne, rfl⟩
      · cases h
    · cases h; exact ⟨rfl, rfl⟩
  · cases h

theorem countP_lt {α : Type} (p q : α → Bool) : ∀ (l : List α), (∀ x ∈ l, q x = true → p x = true) → (∃ x ∈ l, p x = true ∧ q x = false) → l.countP q < l.countP p
  | [], _, h => by obtain ⟨x, hx, _⟩ := h; simp at hx
  | y :: l, hpq, h => by
    have hle : l.countP q ≤ l.countP p := List.countP_mono_left (fun x hx => hpq x (by simp [hx]))
    obtain ⟨x, hx, h1, h2⟩ := h
    simp only [List.countP_cons]
    rcases List.mem_cons.1 hx with rfl | hx
    · rw [h1, h2]; simp; omega
    · have ih := countP_lt p q l (fun x hx => hpq x (by simp [hx])) ⟨x, hx, h1, h2⟩
      have := hpq y (by simp)
      cases hy : q y <;> cases hy' : p y <;> simp_all <;> omega

section
variable (ops) (F : Nat → St) (m : Nat)
/-- Among the listed operations of the free part one writes slot q. -/
def Wrote (listed : Array Bool) (q : Nat) : Prop := ∃ j o, j < m ∧ listed.getD j false = true ∧ ops[j]? = some o ∧ o.dst = some q
open Classical in
noncomputable def rhoS (listed : Array Bool) (q : Nat) : D := if Wrote ops m listed q then getT (F m).t q else getT (F 0).t q
open Classical in
noncomputable def etaS (listed : Array Bool) (q : Nat) : Option O := if Wrote ops m listed q then getH (F m).h q else getH (F 0).h q
end

structure Free (P : Program) (call : FuncId → List D → Option D) (N : Nat) (ops : Array Oper) (F : Nat → St) (m : Nat) : Prop where
  le : m ≤ ops.size
  step : ∀ i, i < m → ∃ o, ops[i]? = some o ∧ dstep P call N ops m (F i) o = some (F (i + 1))
  apart : ∀ i j o oj, i < m → j < m → i ≠ j → ops[i]? = some o → ops[j]? = some oj → okPair ops i j o oj = true
  back : ∀ (i : Nat) (o : Oper), ops[i]? = some o → ∀ j ∈ aft o, j < i

variable {F : Nat → St} {m : Nat}

theorem Free.distinct (hF : Free P call N ops F m) {i j : Nat} {o oj : Oper} {q : Nat} (hi : i < m) (hj : j < m) (ho : ops[i]? = some o) (hoj : ops[j]? = some oj) (h1 : o.dst = some q) (h2 : oj.dst = some q) : i = j := by
  by_cases hij : i = j
  · exact hij
  · have := hF.apart i j o oj hi hj hij ho hoj
    simp [okPair, h2, h1] at this

theorem Free.keep (hF : Free P call N ops F m) (q : Nat) : ∀ (d i : Nat), i + d ≤ m → (∀ j o, i ≤ j → j < i + d → ops[j]? = some o → o.dst ≠ some q) → getT (F (i + d)).t q = getT (F i).t q ∧ getH (F (i + d)).h q = getH (F i).h q
  | 0, i, _, _ => ⟨rfl, rfl⟩
  | d + 1, i, hle, h => by
    obtain ⟨h1, h2⟩ := hF.keep q d i (by omega) (fun j o a b c => h j o a (by omega) c)
    obtain ⟨o, ho, hs⟩ := hF.step (i + d) (by omega)
    obtain ⟨h3, h4⟩ := dstep_other hs (h (i + d) o (by omega) (by omega) ho)
    rw [← Nat.add_assoc]
    exact ⟨h3.trans h1, h4.trans h2⟩
/-- A slot that operation j writes: before it as at the beginning, behind it as at the end. -/
theorem Free.before (hF : Free P call N ops F m) {j : Nat} {oj : Oper} {q : Nat} (hj : j < m) (hoj : ops[j]? = some oj) (hq : oj.dst = some q) {i : Nat} (hi : i ≤ j) : getT (F i).t q = getT (F 0).t q ∧ getH (F i).h q = getH (F 0).h q := by
  have := hF.keep q i 0 (by omega) (fun k o _ hk ho e => by have := hF.distinct (by omega) hj ho hoj e hq; omega)
  simpa using this
theorem Free.behind (hF : Free P call N ops F m) {j : Nat} {oj : Oper} {q : Nat} (hj : j < m) (hoj : ops[j]? = some oj) (hq : oj.dst = some q) {i : Nat} (hi : j < i) (him : i ≤ m) : getT (F m).t q = getT (F i).t q ∧ getH (F m).h q = getH (F i).h q := by
  have := hF.keep q (m - i) i (by omega) (fun k o hk1 hk2 ho e => by have := hF.distinct (by omega) hj ho hoj e hq; omega)
  rwa [show i + (m - i) = m by omega] at this
theorem Free.never (hF : Free P call N ops F m) {q : Nat} (h : ∀ j o, j < m → ops[j]? = some o → o.dst ≠ some q) {i : Nat} (hi : i ≤ m) : getT (F i).t q = getT (F 0).t q ∧ getH (F i).h q = getH (F 0).h q := by
  have := hF.keep q i 0 (by omega) (fun k o _ hk ho => h k o (by omega) ho)
  simpa using this

/-- The listed operations are closed under what goes before them. -/
def Closed (ops : Array Oper) (listed : Array Bool) : Prop := ∀ (i : Nat) (o : Oper), ops[i]? = some o → listed.getD i false = true → ∀ j ∈ aft o, listed.getD j false = true

theorem mem_aft {o : Oper} {j : Nat} : j ∈ aft o ↔ ∃ e ∈ o.after, Region.binds .any e = true ∧ e.on = j := by
  simp [aft, and_assoc]

/-- The slots that an operation looks at read, at whatever moment it comes up, as in the order of the text. -/
theorem Free.looks (hF : Free P call N ops F m) {listed : Array Bool} (hc : Closed ops listed) {i : Nat} {o : Oper} (hi : i < m) (ho : ops[i]? = some o) (hl : listed.getD i false = false) (hr : ∀ j ∈ aft o, listed.getD j false = true)
    {q : Nat} (hq : q ∈ o.looksAt ops) : rhoS ops F m listed q = getT (F i).t q := by
  unfold rhoS
  split
  · rename_i hw
    obtain ⟨j, oj, hj, hlj, hoj, hd⟩ := hw
    have hij : i ≠ j := by rintro rfl; rw [hl] at hlj; cases hlj
    have hap := hF.apart i j o oj hi hj hij ho hoj
    simp only [okPair, hd, Bool.and_eq_true, Bool.or_eq_true, Bool.not_eq_true', List.contains_eq_mem, decide_eq_false_iff_not, decide_eq_true_eq] at hap
    rcases hap.2 with (h | h) | h
    · exact absurd hq h
    · exact (hF.behind hj hoj hd (hF.back i o ho j h) (by omega)).1
    · have := hc j oj hoj hlj i h
      rw [hl] at this
      cases this
  · rename_i hw
    by_cases he : ∃ j oj, j < m ∧ ops[j]? = some oj ∧ oj.dst = some q
    · obtain ⟨j, oj, hj, hoj, hd⟩ := he
      by_cases hij : i ≤ j
      · exact (hF.before hj hoj hd hij).1.symm
      · have hne : i ≠ j := by omega
        have hap := hF.apart i j o oj hi hj hne ho hoj
        simp only [okPair, hd, Bool.and_eq_true, Bool.or_eq_true, Bool.not_eq_true', List.contains_eq_mem, decide_eq_false_iff_not, decide_eq_true_eq] at hap
        rcases hap.2 with (h | h) | h
        · exact absurd hq h
        · exact absurd ⟨j, oj, hj, hr j h, hoj, hd⟩ hw
        · have := hF.back j oj hoj i h
          omega
    · exact (hF.never (fun j o hj ho e => he ⟨j, o, hj, ho, e⟩) (by omega)).1.symm

theorem Free.less (hF : Free P call N ops F m) {listed : Array Bool} {i : Nat} {o : Oper} (hi : i < m) (ho : ops[i]? = some o) (hr : ∀ j ∈ aft o, listed.getD j false = true) : Less (maskH ops m o (getH (F i).h)) (etaS ops F m listed) := by
  intro q ob h
  unfold maskH at h
  split at h
  · cases h
  · rename_i hb
    unfold etaS
    split
    · rename_i hw
      obtain ⟨j, oj, hj, hlj, hoj, hd⟩ := hw
      have hja : j ∈ aft o := by
        by_cases hja : j ∈ aft o
        · exact hja
        · exfalso
          apply hb
          unfold blocked
          rw [List.any_eq_true]
          exact ⟨j, by simpa using hj, by simp [hoj, hd, hja]⟩
      rw [(hF.behind hj hoj hd (hF.back i o ho j hja) (by omega)).2]
      exact h
    · rename_i hw
      by_cases he : ∃ j oj, j < m ∧ ops[j]? = some oj ∧ oj.dst = some q
      · obtain ⟨j, oj, hj, hoj, hd⟩ := he
        have hja : j ∈ aft o := by
          by_cases hja : j ∈ aft o
          · exact hja
          · exfalso
            apply hb
            unfold blocked
            rw [List.any_eq_true]
            exact ⟨j, by simpa using hj, by simp [hoj, hd, hja]⟩
        exact absurd ⟨j, oj, hj, hr j hja, hoj, hd⟩ hw
      · rw [← (hF.never (fun j o hj ho e => he ⟨j, o, hj, ho, e⟩) (by omega : i ≤ m)).2]
        exact h

theorem wrote_set {listed : Array Bool} {i : Nat} (hi : i < listed.size) {q : Nat} : Wrote ops m (listed.setIfInBounds i true) q ↔ Wrote ops m listed q ∨ (i < m ∧ ∃ o, ops[i]? = some o ∧ o.dst = some q) := by
  constructor
  · rintro ⟨j, o, hj, hl, ho, hd⟩
    by_cases hij : i = j
    · subst hij; exact .inr ⟨hj, o, ho, hd⟩
    · rw [getD_set_ne false hij] at hl
      exact .inl ⟨j, o, hj, hl, ho, hd⟩
  · rintro (⟨j, o, hj, hl, ho, hd⟩ | ⟨hm, o, ho, hd⟩)
    · exact ⟨j, o, hj, getD_set_true hl, ho, hd⟩
    · exact ⟨i, o, hm, by simp [hi], ho, hd⟩

end
end Go.Abs
