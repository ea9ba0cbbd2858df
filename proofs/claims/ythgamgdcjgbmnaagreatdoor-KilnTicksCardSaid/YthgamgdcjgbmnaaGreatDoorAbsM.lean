/-
  Regions that draw their order: whatever order is drawn, the state at the end is that of the order of the text.
-/
import Derived.Test.YthgamgdcjgbmnaaGreatDoorAbsV
namespace Go.Abs
set_option linter.unusedSimpArgs false
set_option linter.unusedVariables false
open Go Go.RowKit

def aft (o : Oper) : List Nat := (o.after.toList.filter (Region.binds .any)).map (·.on)
/-- The variable into whose memory an operation stores whole. -/
def storeTgt (o : Oper) : Option Nat := match o.op, o.dst with
  | .store _ (.tmp t) _, none => some t
  | _, _ => none
/-- The objects that an operation of the free part may make or write. -/
def wrs (o : Oper) (q : Nat) : Bool := o.dst == some q || storeTgt o == some q
def ordered (i j : Nat) (o oj : Oper) : Bool := (aft o).contains j || (aft oj).contains i
def okPair (ops : Array Oper) (i j : Nat) (o oj : Oper) : Bool :=
  (match oj.dst with
  | none => true
  | some t => o.dst != some t && (!(o.looksAt ops).contains t || ordered i j o oj)) &&
  (match o.dst with
  | none => true
  | some q => !wrs oj q || ordered i j o oj) &&
  (match storeTgt o with
  | none => true
  | some q => !wrs oj q || ordered i j o oj)
/-- What goes before each operation, through others too: a mask each. -/
def masks : List Oper → List Nat → List Nat
  | [], acc => acc
  | o :: r, acc => masks r (acc ++ [(aft o).foldl (fun s j => s ||| 2 ^ j ||| acc.getD j 0) 0])
/-- What is asked of a region that draws its order, of which the first m operations are free; closed, and asked once. -/
def okDraw (ops : Array Oper) (m : Nat) : Bool :=
  decide (m ≤ ops.size) && (match masks ops.toList [] with
  | ms => (List.range ops.size).all fun i => match ops[i]? with
    | none => false
    | some o => (aft o).all (fun j => decide (j < i)) &&
      (if i < m then
        (List.range m).all fun j => j == i || (match ops[j]? with
          | none => false
          | some oj => okPair ops i j o oj)
      else (List.range i).all fun j => (ms.getD i 0).testBit j))

def blocked (ops : Array Oper) (m i : Nat) (o : Oper) (id : Nat) : Bool := (List.range m).any fun j => match ops[j]? with
  | some oj => j != i && wrs oj id && !ordered i j o oj
  | none => false
def maskH (ops : Array Oper) (m i : Nat) (o : Oper) (η : Nat → Option O) : Nat → Option O := fun id => if blocked ops m i o id = true then none else η id
def dstore (P : Program) (s : St) (t : Nat) : Op → Option St
  | .store ty _ x => match getT s.t t with
    | .ptr id off => if id = t then
        match getH s.h t with
        | some (.box bt cs) => match storeBox P ty cs off (ev (getT s.t) x) with
          | some cs' => some ⟨s.t, setH s.h t (.box bt cs')⟩
          | none => none
        | _ => none
      else none
    | _ => none
  | _ => none
def dstep (P : Program) (call : CT) (N : Nat) (ops : Array Oper) (m i : Nat) (s : St) (o : Oper) : Option St :=
  match guardV ops (getT s.t) o.guard with
  | some true => match storeTgt o with
    | some t => dstore P s t o.op
    | none => match o.dst with
      | some t => if t < N then
          match aopF P call (getT s.t) (maskH ops m i o (getH s.h)) t o.op with
          | some (d, none) => some (s.put t d)
          | some (d, some ob) => match getH s.h t with
            | none => some (s.putO t d ob)
            | some _ => none
          | none => none
        else none
      | none => match aopF P call (getT s.t) (maskH ops m i o (getH s.h)) 0 o.op with
        | some (_, none) => some s
        | _ => none
  | some false => match o.dst with
    | some t => if t < N then some (s.put t (.x undef)) else none
    | none => some s
  | none => none
def runDraw (P : Program) (call : CT) (an : Ann) (N : Nat) (ops : Array Oper) (m : Nat) : Nat → List Oper → St → Option St
  | _, [], s => some s
  | k, o :: r, s => if k < m then
      match dstep P call N ops m k s o with
      | some s' => runDraw P call an N ops m (k + 1) r s'
      | none => none
    else runSeq P call an N ops (o :: r) s

section
variable {P : Program} {B : Nat} {N : Nat} {w0 : Bs} {call : CT} {an : Ann} {ops : Array Oper}

theorem seq_states {s' : St} : ∀ (l : List Oper) (k : Nat) (s : St), runSeq P call an N ops l s = some s' → (∀ j, l[j]? = ops[k + j]?) →
    ∃ F : Nat → St, F k = s ∧ F (k + l.length) = s' ∧ ∀ i, k ≤ i → i < k + l.length → ∃ o, ops[i]? = some o ∧ stepG P call an N ops (F i) o = some (F (i + 1))
  | [], k, s, h, _ => by injection h with h; exact ⟨fun _ => s, rfl, h, fun i h1 h2 => by simp at h2; omega⟩
  | o :: l, k, s, h, hl => by
    unfold runSeq at h
    split at h
    · rename_i s1 h1
      obtain ⟨F, e1, e2, e3⟩ := seq_states l (k + 1) s1 h (fun j => by have := hl (j + 1); simpa [Nat.add_assoc, Nat.add_comm 1 j] using this)
      refine ⟨fun i => if i = k then s else F i, by simp, ?_, fun i hi1 hi2 => ?_⟩
      · show (if k + (o :: l).length = k then s else F (k + (o :: l).length)) = s'
        rw [List.length_cons, if_neg (by omega), ← e2]
        congr 1
        omega
      · by_cases hik : i = k
        · subst hik
          have h0 : ops[i]? = some o := by have := hl 0; simpa using this.symm
          refine ⟨o, h0, ?_⟩
          simp only [if_true]
          rw [if_neg (by omega), e1]
          exact h1
        · obtain ⟨o', ho', hs⟩ := e3 i (by omega) (by simp at hi2; omega)
          refine ⟨o', ho', ?_⟩
          simp only
          rw [if_neg hik, if_neg (by omega)]
          exact hs
    · cases h

theorem draw_states {m : Nat} {s' : St} : ∀ (l : List Oper) (k : Nat) (s : St), runDraw P call an N ops m k l s = some s' → (∀ j, l[j]? = ops[k + j]?) →
    ∃ F : Nat → St, F k = s ∧ F (k + l.length) = s' ∧ ∀ i, k ≤ i → i < k + l.length → ∃ o, ops[i]? = some o ∧
      ((i < m → dstep P call N ops m i (F i) o = some (F (i + 1))) ∧ (m ≤ i → stepG P call an N ops (F i) o = some (F (i + 1))))
  | [], k, s, h, _ => by injection h with h; exact ⟨fun _ => s, rfl, h, fun i h1 h2 => by simp at h2; omega⟩
  | o :: l, k, s, h, hl => by
    unfold runDraw at h
    split at h
    · rename_i hkm
      split at h
      · rename_i s1 h1
        obtain ⟨F, e1, e2, e3⟩ := draw_states l (k + 1) s1 h (fun j => by have := hl (j + 1); simpa [Nat.add_assoc, Nat.add_comm 1 j] using this)
        refine ⟨fun i => if i = k then s else F i, by simp, ?_, fun i hi1 hi2 => ?_⟩
        · show (if k + (o :: l).length = k then s else F (k + (o :: l).length)) = s'
          rw [List.length_cons, if_neg (by omega), ← e2]
          congr 1
          omega
        · by_cases hik : i = k
          · subst hik
            have h0 : ops[i]? = some o := by have := hl 0; simpa using this.symm
            refine ⟨o, h0, fun _ => ?_, fun hle => by omega⟩
            simp only [if_true]
            rw [if_neg (by omega), e1]
            exact h1
          · obtain ⟨o', ho', hs1, hs2⟩ := e3 i (by omega) (by simp at hi2; omega)
            refine ⟨o', ho', ?_⟩
            simp only
            rw [if_neg hik, if_neg (by omega)]
            exact ⟨hs1, hs2⟩
      · cases h
    · rename_i hkm
      obtain ⟨F, e1, e2, e3⟩ := seq_states (o :: l) k s h hl
      refine ⟨F, e1, e2, fun i hi1 hi2 => ?_⟩
      obtain ⟨o', ho', hs⟩ := e3 i hi1 hi2
      exact ⟨o', ho', fun hlt => by omega, fun _ => hs⟩

/-- What one step of the free part changes: its own slot alone, and the objects that it writes. -/
theorem dstep_other {m i : Nat} {s s' : St} {o : Oper} (h : dstep P call N ops m i s o = some s') {q : Nat} : (o.dst ≠ some q → getT s'.t q = getT s.t q) ∧ (wrs o q = false → getH s'.h q = getH s.h q) := by
  have nodst : wrs o q = false → o.dst ≠ some q ∧ storeTgt o ≠ some q := by
    intro hw
    simp only [wrs, Bool.or_eq_false_iff, beq_eq_false_iff_ne] at hw
    exact hw
  unfold dstep at h
  split at h
  · split at h
    · rename_i t ht
      unfold dstore at h
      split at h
      · split at h
        · split at h
          · split at h
            · split at h
              · cases h
                refine ⟨fun _ => rfl, fun hw => ?_⟩
                have hne : q ≠ t := fun e => (nodst hw).2 (by rw [ht, e])
                simp only [getH_set]
                exact upd_ne _ _ hne
              · cases h
            · cases h
          · cases h
        · cases h
      · cases h
    · split at h
      · rename_i t ht
        split at h
        · split at h
          · cases h
            exact ⟨fun hq => by simp only [St.put, getT_set]; exact upd_ne _ _ (fun e => hq (by rw [ht, e])), fun _ => rfl⟩
          · split at h
            · cases h
              exact ⟨fun hq => by simp only [St.putO, getT_set]; exact upd_ne _ _ (fun e => hq (by rw [ht, e])), fun hw => by simp only [St.putO, getH_set]; exact upd_ne _ _ (fun e => (nodst hw).1 (by rw [ht, e]))⟩
            · cases h
          · cases h
        · cases h
      · split at h
        · cases h; exact ⟨fun _ => rfl, fun _ => rfl⟩
        · cases h
  · split at h
    · rename_i t ht
      split at h
      · cases h
        exact ⟨fun hq => by simp only [St.put, getT_set]; exact upd_ne _ _ (fun e => hq (by rw [ht, e])), fun _ => rfl⟩
      · cases h
    · cases h; exact ⟨fun _ => rfl, fun _ => rfl⟩
  · cases h

theorem countP_lt {α : Type} (p q : α → Bool) : ∀ (l : List α), (∀ x ∈ l, q x = true → p x = true) → (∃ x ∈ l, p x = true ∧ q x = false) → l.countP q < l.countP p
  | [], _, h => by obtain ⟨x, hx, _⟩ := h; simp at hx
  | y :: l, hpq, h => by
    have hle : l.countP q ≤ l.countP p := List.countP_mono_left (fun x hx => hpq x (by simp [hx]))
    obtain ⟨x, hx, h1, h2⟩ := h
    simp only [List.countP_cons]
    rcases List.mem_cons.1 hx with rfl | hx
    · rw [h1, h2]; simp; omega
    · have ih := countP_lt p q l (fun x hx => hpq x (by simp [hx])) ⟨x, hx, h1, h2⟩
      have := hpq y (by simp)
      cases hy : q y <;> cases hy' : p y <;> simp_all <;> omega

section
variable (ops) (F : Nat → St) (m : Nat)
/-- Among the listed operations of the free part one writes slot q. -/
def Wrote (listed : Array Bool) (q : Nat) : Prop := ∃ j o, j < m ∧ listed.getD j false = true ∧ ops[j]? = some o ∧ o.dst = some q
/-- The last listed operation of the free part that writes object q. -/
def Last (listed : Array Bool) (q j : Nat) : Prop := j < m ∧ listed.getD j false = true ∧ (∃ o, ops[j]? = some o ∧ wrs o q = true) ∧ ∀ k o, j < k → k < m → ops[k]? = some o → wrs o q = true → listed.getD k false = false
open Classical in
noncomputable def rhoS (listed : Array Bool) (q : Nat) : D := if Wrote ops m listed q then getT (F m).t q else getT (F 0).t q
open Classical in
noncomputable def etaS (listed : Array Bool) (q : Nat) : Option O := if h : ∃ j, Last ops m listed q j then getH (F (Classical.choose h + 1)).h q else getH (F 0).h q
end

structure Free (P : Program) (call : CT) (N : Nat) (ops : Array Oper) (F : Nat → St) (m : Nat) : Prop where
  le : m ≤ ops.size
  step : ∀ i, i < m → ∃ o, ops[i]? = some o ∧ dstep P call N ops m i (F i) o = some (F (i + 1))
  apart : ∀ i j o oj, i < m → j < m → i ≠ j → ops[i]? = some o → ops[j]? = some oj → okPair ops i j o oj = true
  back : ∀ (i : Nat) (o : Oper), ops[i]? = some o → ∀ j ∈ aft o, j < i

variable {F : Nat → St} {m : Nat}

theorem eta_last {listed : Array Bool} {q j : Nat} (h : Last ops m listed q j) : etaS ops F m listed q = getH (F (j + 1)).h q := by
  unfold etaS
  rw [dif_pos ⟨j, h⟩]
  have hc := Classical.choose_spec (⟨j, h⟩ : ∃ j, Last ops m listed q j)
  generalize Classical.choose (⟨j, h⟩ : ∃ j, Last ops m listed q j) = k at hc
  obtain ⟨a1, a2, ⟨o, a3, a4⟩, a5⟩ := h
  obtain ⟨b1, b2, ⟨o', b3, b4⟩, b5⟩ := hc
  have : k = j := by
    rcases Nat.lt_trichotomy j k with hlt | heq | hlt
    · have := a5 k o' hlt b1 b3 b4
      rw [this] at b2; cases b2
    · exact heq.symm
    · have := b5 j o hlt a1 a3 a4
      rw [this] at a2; cases a2
  rw [this]
theorem eta_none {listed : Array Bool} {q : Nat} (h : ∀ j o, j < m → ops[j]? = some o → wrs o q = true → listed.getD j false = false) : etaS ops F m listed q = getH (F 0).h q := by
  unfold etaS
  rw [dif_neg]
  rintro ⟨j, h1, h2, ⟨o, h3, h4⟩, _⟩
  rw [h j o h1 h3 h4] at h2
  cases h2
theorem last_ex {listed : Array Bool} {q : Nat} : ∀ (d j : Nat) (o : Oper), m - j ≤ d → j < m → ops[j]? = some o → wrs o q = true → listed.getD j false = true → ∃ k, j ≤ k ∧ Last ops m listed q k
  | 0, j, o, hd, hj, _, _, _ => by omega
  | d + 1, j, o, hd, hj, ho, hw, hl => by
    by_cases h : ∃ k o', j < k ∧ k < m ∧ ops[k]? = some o' ∧ wrs o' q = true ∧ listed.getD k false = true
    · obtain ⟨k, o', h1, h2, h3, h4, h5⟩ := h
      obtain ⟨n, hn, hL⟩ := last_ex d k o' (by omega) h2 h3 h4 h5
      exact ⟨n, by omega, hL⟩
    · refine ⟨j, Nat.le_refl j, hj, hl, ⟨o, ho, hw⟩, fun k o' h1 h2 h3 h4 => ?_⟩
      cases hk : listed.getD k false with
      | false => rfl
      | true => exact absurd ⟨k, o', h1, h2, h3, h4, hk⟩ h

theorem Free.distinct (hF : Free P call N ops F m) {i j : Nat} {o oj : Oper} {q : Nat} (hi : i < m) (hj : j < m) (ho : ops[i]? = some o) (hoj : ops[j]? = some oj) (h1 : o.dst = some q) (h2 : oj.dst = some q) : i = j := by
  by_cases hij : i = j
  · exact hij
  · have := hF.apart i j o oj hi hj hij ho hoj
    simp [okPair, h2, h1] at this
theorem ordered_iff {i j : Nat} {o oj : Oper} : ordered i j o oj = true ↔ j ∈ aft o ∨ i ∈ aft oj := by
  simp [ordered]
/-- Two operations that write one object are ordered. -/
theorem Free.ord (hF : Free P call N ops F m) {i j : Nat} {o oj : Oper} {q : Nat} (hi : i < m) (hj : j < m) (hij : i ≠ j) (ho : ops[i]? = some o) (hoj : ops[j]? = some oj) (h1 : wrs o q = true) (h2 : wrs oj q = true) : j ∈ aft o ∨ i ∈ aft oj := by
  have := hF.apart i j o oj hi hj hij ho hoj
  rw [← ordered_iff]
  simp only [okPair, Bool.and_eq_true] at this
  obtain ⟨⟨_, h3⟩, h4⟩ := this
  simp only [wrs, Bool.or_eq_true, beq_iff_eq] at h1
  rcases h1 with h1 | h1
  · rw [h1] at h3
    simpa [h2] using h3
  · rw [h1] at h4
    simpa [h2] using h4

theorem Free.keepT (hF : Free P call N ops F m) (q : Nat) : ∀ (d i : Nat), i + d ≤ m → (∀ j o, i ≤ j → j < i + d → ops[j]? = some o → o.dst ≠ some q) → getT (F (i + d)).t q = getT (F i).t q
  | 0, i, _, _ => rfl
  | d + 1, i, hle, h => by
    have h1 := hF.keepT q d i (by omega) (fun j o a b c => h j o a (by omega) c)
    obtain ⟨o, ho, hs⟩ := hF.step (i + d) (by omega)
    have h3 := (dstep_other (q := q) hs).1 (h (i + d) o (by omega) (by omega) ho)
    rw [← Nat.add_assoc]
    exact h3.trans h1
theorem Free.keepH (hF : Free P call N ops F m) (q : Nat) : ∀ (d i : Nat), i + d ≤ m → (∀ j o, i ≤ j → j < i + d → ops[j]? = some o → wrs o q = false) → getH (F (i + d)).h q = getH (F i).h q
  | 0, i, _, _ => rfl
  | d + 1, i, hle, h => by
    have h1 := hF.keepH q d i (by omega) (fun j o a b c => h j o a (by omega) c)
    obtain ⟨o, ho, hs⟩ := hF.step (i + d) (by omega)
    have h3 := (dstep_other (q := q) hs).2 (h (i + d) o (by omega) (by omega) ho)
    rw [← Nat.add_assoc]
    exact h3.trans h1
/-- A slot that operation j writes: before it as at the beginning, behind it as at the end. -/
theorem Free.before (hF : Free P call N ops F m) {j : Nat} {oj : Oper} {q : Nat} (hj : j < m) (hoj : ops[j]? = some oj) (hq : oj.dst = some q) {i : Nat} (hi : i ≤ j) : getT (F i).t q = getT (F 0).t q := by
  have := hF.keepT q i 0 (by omega) (fun k o _ hk ho e => by have := hF.distinct (by omega) hj ho hoj e hq; omega)
  simpa using this
theorem Free.behind (hF : Free P call N ops F m) {j : Nat} {oj : Oper} {q : Nat} (hj : j < m) (hoj : ops[j]? = some oj) (hq : oj.dst = some q) {i : Nat} (hi : j < i) (him : i ≤ m) : getT (F m).t q = getT (F i).t q := by
  have := hF.keepT q (m - i) i (by omega) (fun k o hk1 hk2 ho e => by have := hF.distinct (by omega) hj ho hoj e hq; omega)
  rwa [show i + (m - i) = m by omega] at this
theorem Free.never (hF : Free P call N ops F m) {q : Nat} (h : ∀ j o, j < m → ops[j]? = some o → o.dst ≠ some q) {i : Nat} (hi : i ≤ m) : getT (F i).t q = getT (F 0).t q := by
  have := hF.keepT q i 0 (by omega) (fun k o _ hk ho => h k o (by omega) ho)
  simpa using this

/-- The listed operations are closed under what goes before them. -/
def Closed (ops : Array Oper) (listed : Array Bool) : Prop := ∀ (i : Nat) (o : Oper), ops[i]? = some o → listed.getD i false = true → ∀ j ∈ aft o, listed.getD j false = true

theorem mem_aft {o : Oper} {j : Nat} : j ∈ aft o ↔ ∃ e ∈ o.after, Region.binds .any e = true ∧ e.on = j := by
  simp [aft, and_assoc]

/-- The slots that an operation looks at read, at whatever moment it comes up, as in the order of the text. -/
theorem Free.looks (hF : Free P call N ops F m) {listed : Array Bool} (hc : Closed ops listed) {i : Nat} {o : Oper} (hi : i < m) (ho : ops[i]? = some o) (hl : listed.getD i false = false) (hr : ∀ j ∈ aft o, listed.getD j false = true)
    {q : Nat} (hq : q ∈ o.looksAt ops) : rhoS ops F m listed q = getT (F i).t q := by
  have hap : ∀ j oj, j < m → i ≠ j → ops[j]? = some oj → oj.dst = some q → j ∈ aft o ∨ i ∈ aft oj := by
    intro j oj hj hij hoj hd
    have hap := hF.apart i j o oj hi hj hij ho hoj
    simp only [okPair, Bool.and_eq_true] at hap
    have h1 := hap.1.1
    rw [hd] at h1
    simp only [Bool.and_eq_true, Bool.or_eq_true, Bool.not_eq_true', List.contains_eq_mem, decide_eq_false_iff_not] at h1
    rcases h1.2 with h | h
    · exact absurd hq h
    · exact ordered_iff.1 h
  unfold rhoS
  split
  · rename_i hw
    obtain ⟨j, oj, hj, hlj, hoj, hd⟩ := hw
    have hij : i ≠ j := by rintro rfl; rw [hl] at hlj; cases hlj
    rcases hap j oj hj hij hoj hd with h | h
    · exact hF.behind hj hoj hd (hF.back i o ho j h) (by omega)
    · have := hc j oj hoj hlj i h
      rw [hl] at this
      cases this
  · rename_i hw
    by_cases he : ∃ j oj, j < m ∧ ops[j]? = some oj ∧ oj.dst = some q
    · obtain ⟨j, oj, hj, hoj, hd⟩ := he
      by_cases hij : i ≤ j
      · exact (hF.before hj hoj hd hij).symm
      · have hne : i ≠ j := by omega
        rcases hap j oj hj hne hoj hd with h | h
        · exact absurd ⟨j, oj, hj, hr j h, hoj, hd⟩ hw
        · have := hF.back j oj hoj i h
          omega
    · exact (hF.never (fun j o hj ho e => he ⟨j, o, hj, ho, e⟩) (by omega)).symm

/-- Whatever writes object q is ordered with operation i. -/
def OrdW (ops : Array Oper) (m i : Nat) (o : Oper) (q : Nat) : Prop := ∀ j oj, j < m → j ≠ i → ops[j]? = some oj → wrs oj q = true → j ∈ aft o ∨ i ∈ aft oj

/-- The listed operations that write object q are those before operation i. -/
theorem Free.split (hF : Free P call N ops F m) {listed : Array Bool} (hc : Closed ops listed) {i : Nat} {o : Oper} (ho : ops[i]? = some o) (hl : listed.getD i false = false) (hr : ∀ j ∈ aft o, listed.getD j false = true) {q : Nat} (hq : OrdW ops m i o q) {j : Nat} {oj : Oper} (hj : j < m) (hij : j ≠ i) (hoj : ops[j]? = some oj) (hw : wrs oj q = true) : (j < i → listed.getD j false = true) ∧ (i < j → listed.getD j false = false) := by
  rcases hq j oj hj hij hoj hw with h | h
  · have := hF.back i o ho j h
    exact ⟨fun _ => hr j h, fun h' => by omega⟩
  · have hlt := hF.back j oj hoj i h
    refine ⟨fun h' => by omega, fun _ => ?_⟩
    cases hlj : listed.getD j false with
    | false => rfl
    | true =>
      have := hc j oj hoj hlj i h
      rw [hl] at this
      cases this
theorem eta_same {listed : Array Bool} {i : Nat} {o : Oper} (ho : ops[i]? = some o) {q : Nat} (hw : wrs o q = false) : etaS ops F m (listed.setIfInBounds i true) q = etaS ops F m listed q := by
  have hiff : ∀ j oj, ops[j]? = some oj → wrs oj q = true → (listed.setIfInBounds i true).getD j false = listed.getD j false := by
    intro j oj hoj hwj
    by_cases hij : i = j
    · subst hij
      rw [ho] at hoj
      cases hoj
      rw [hw] at hwj
      cases hwj
    · exact getD_set_ne false hij
  by_cases he : ∃ j oj, j < m ∧ ops[j]? = some oj ∧ wrs oj q = true ∧ listed.getD j false = true
  · obtain ⟨j, oj, hj, hoj, hwj, hlj⟩ := he
    obtain ⟨k, _, hL⟩ := last_ex (m := m) m j oj (by omega) hj hoj hwj hlj
    rw [eta_last hL]
    obtain ⟨h1, h2, ⟨ok, h3, h4⟩, h5⟩ := hL
    refine eta_last ⟨h1, by rw [hiff k ok h3 h4]; exact h2, ⟨ok, h3, h4⟩, fun n on a b c d => ?_⟩
    rw [hiff n on c d]
    exact h5 n on a b c d
  · have hn : ∀ j oj, j < m → ops[j]? = some oj → wrs oj q = true → listed.getD j false = false := by
      intro j oj hj hoj hwj
      cases hlj : listed.getD j false with
      | false => rfl
      | true => exact absurd ⟨j, oj, hj, hoj, hwj, hlj⟩ he
    rw [eta_none hn, eta_none (fun j oj hj hoj hwj => by rw [hiff j oj hoj hwj]; exact hn j oj hj hoj hwj)]
section
variable (hF : Free P call N ops F m) {listed : Array Bool} (hc : Closed ops listed) {i : Nat} {o : Oper} (hi : i < m) (ho : ops[i]? = some o) (hl : listed.getD i false = false) (hr : ∀ j ∈ aft o, listed.getD j false = true)
include hF hc hi ho hl hr
/-- At whatever moment operation i comes up, an object whose writers are ordered with it is as in the order of the text. -/
theorem Free.eta_at {q : Nat} (hq : OrdW ops m i o q) : etaS ops F m listed q = getH (F i).h q := by
  by_cases he : ∃ j oj, j < i ∧ ops[j]? = some oj ∧ wrs oj q = true
  · obtain ⟨j, oj, hji, hoj, hw⟩ := he
    have hlj := (hF.split hc ho hl hr hq (by omega) (by omega) hoj hw).1 hji
    obtain ⟨k, hjk, hL⟩ := last_ex (m := m) m j oj (by omega) (by omega) hoj hw hlj
    rw [eta_last hL]
    obtain ⟨h1, h2, ⟨ok, h3, h4⟩, h5⟩ := hL
    have hki : k < i := by
      rcases Nat.lt_trichotomy k i with h | h | h
      · exact h
      · rw [h, hl] at h2; cases h2
      · have := (hF.split hc ho hl hr hq h1 (by omega) h3 h4).2 h
        rw [this] at h2; cases h2
    have := hF.keepH q (i - (k + 1)) (k + 1) (by omega) (fun n on hn1 hn2 hon => by
      cases hwn : wrs on q with
      | false => rfl
      | true =>
        have e1 := h5 n on (by omega) (by omega) hon hwn
        have e2 := (hF.split hc ho hl hr hq (by omega) (by omega) hon hwn).1 (by omega)
        rw [e1] at e2; cases e2)
    rw [show k + 1 + (i - (k + 1)) = i by omega] at this
    exact this.symm
  · rw [eta_none (fun j oj hj hoj hw => ?_)]
    · have := hF.keepH q i 0 (by omega) (fun n on _ hn hon => by
        cases hwn : wrs on q with
        | false => rfl
        | true => exact absurd ⟨n, on, by omega, hon, hwn⟩ he)
      simpa using this.symm
    · rcases Nat.lt_trichotomy j i with h | h | h
      · exact absurd ⟨j, oj, h, hoj, hw⟩ he
      · rw [h]; exact hl
      · exact (hF.split hc ho hl hr hq hj (by omega) hoj hw).2 h
theorem Free.eta_next (hil : i < listed.size) {q : Nat} (hw : wrs o q = true) : etaS ops F m (listed.setIfInBounds i true) q = getH (F (i + 1)).h q := by
  have hq : OrdW ops m i o q := fun j oj hj hij hoj hwj => hF.ord hi hj (Ne.symm hij) ho hoj hw hwj
  refine eta_last ⟨hi, by simp [hil], ⟨o, ho, hw⟩, fun k ok h1 h2 h3 h4 => ?_⟩
  rw [getD_set_ne false (by omega)]
  exact (hF.split hc ho hl hr hq h2 (by omega) h3 h4).2 h1
theorem Free.less : Less (maskH ops m i o (getH (F i).h)) (etaS ops F m listed) := by
  intro q ob h
  unfold maskH at h
  split at h
  · cases h
  · rename_i hb
    rw [hF.eta_at hc hi ho hl hr (fun j oj hj hij hoj hw => ?_)]
    · exact h
    · rw [← ordered_iff]
      cases hor : ordered i j o oj with
      | true => rfl
      | false =>
        exfalso
        apply hb
        unfold blocked
        rw [List.any_eq_true]
        exact ⟨j, by simpa using hj, by simp [hoj, hw, hij, hor]⟩
end

theorem wrote_set {listed : Array Bool} {i : Nat} (hi : i < listed.size) {q : Nat} : Wrote ops m (listed.setIfInBounds i true) q ↔ Wrote ops m listed q ∨ (i < m ∧ ∃ o, ops[i]? = some o ∧ o.dst = some q) := by
  constructor
  · rintro ⟨j, o, hj, hl, ho, hd⟩
    by_cases hij : i = j
    · subst hij; exact .inr ⟨hj, o, ho, hd⟩
    · rw [getD_set_ne false hij] at hl
      exact .inl ⟨j, o, hj, hl, ho, hd⟩
  · rintro (⟨j, o, hj, hl, ho, hd⟩ | ⟨hm, o, ho, hd⟩)
    · exact ⟨j, o, hj, getD_set_true hl, ho, hd⟩
    · exact ⟨i, o, hm, by simp [hi], ho, hd⟩

end
end Go.Abs
