/-
  Functions of the library that work on one row in place, as contracts: slices.Sort, slices.Compact at strings and at numbers.
-/
import Derived.Test.YtgngoijehjphoaaAbs3
import Derived.Sort.OwnSorted
import Derived.Sort.EncStr
import Derived.Lib.OwnBridge
import Derived.Lib.RowBridge
namespace Go.Abs
set_option linter.unusedSimpArgs false
set_option linter.unusedVariables false
open Go Go.RowKit

/-- A row of whole values. -/
def eV (v : Value) : List D := [.x v]
theorem cells_of_row {w : World} {B : Nat} {ι : Inj} {v : Value} {e : TypeId} {fl : Bool} {vals : List Value} (h : ObjRel w B ι v (.row e 1 fl (vals.map eV))) : w.ownsRow 0 e 1 v vals.length vals ∧ (∀ b, blk v = some b → wrB B ι b) ∧ ∀ c ∈ vals, c.oneCell' = true := by
  obtain ⟨xs, _, ⟨h1, h2⟩, _, h4, h5, _⟩ := h
  have e1 : xs = vals := by
    apply List.ext_getElem?
    intro i
    have hl : xs.length = vals.length := by have := h1.1; simpa using this
    by_cases hi : i < vals.length
    · have hx : xs[i]? = some (xs[i]'(by omega)) := List.getElem?_eq_getElem (by omega)
      have := h4 i (eV vals[i]) 0 (.x vals[i]) (xs[i]'(by omega)) (by simp [hi]) rfl (by rw [Nat.mul_one, Nat.add_zero]; exact hx)
      rw [hx, List.getElem?_eq_getElem hi]
      generalize xs[i]'(by omega) = u at this
      cases this
      rfl
    · rw [List.getElem?_eq_none (by omega), List.getElem?_eq_none (by omega)]
  subst e1
  exact ⟨by simpa using h1, h2, h5⟩
theorem row_of_cells {w : World} {B : Nat} {ι : Inj} {v : Value} {e : TypeId} {fl : Bool} {vals : List Value} (h1 : w.ownsRow 0 e 1 v vals.length vals) (h2 : ∀ b, blk v = some b → wrB B ι b) (h3 : ∀ c ∈ vals, c.oneCell' = true) : ObjRel w B ι v (.row e 1 fl (vals.map eV)) := by
  refine ⟨vals, by omega, ⟨by simpa using h1, h2⟩, by simp [eV], fun i x j d c hx hd hc => ?_, h3, ?_, ?_⟩
  · rw [List.getElem?_map] at hx
    simp only [Option.map_eq_some_iff] at hx
    obtain ⟨u, hu, rfl⟩ := hx
    cases j with
    | zero =>
      simp [eV] at hd
      subst hd
      rw [Nat.mul_one, Nat.add_zero, hu] at hc
      cases hc
      exact .x _
    | succ j => simp [eV] at hd
  · intro x hx d hd
    simp only [List.mem_map] at hx
    obtain ⟨u, _, rfl⟩ := hx
    simp [eV] at hd
    subst hd
    rfl
  · intro _ x hx d hd
    simp only [List.mem_map] at hx
    obtain ⟨u, _, rfl⟩ := hx
    simp [eV] at hd
    exact ⟨u, hd⟩

section
variable {P : Program} {G : Nat → Option (List D)} {f : FuncId}
/-- A function that works on a row in place: the row stays where it is. -/
theorem rowE_same (hent : ∀ (args : Array Value) (w : World), (callFunc f args).run P w = .ok (.enter f args) w) {e : TypeId} {fl : Bool} {vals vals' : List Value} (h1' : (∀ c ∈ vals, c.oneCell' = true) → ∀ c ∈ vals', c.oneCell' = true)
    (hrun : ∀ (w : World) (v : Value), w.ownsRow 0 e 1 v vals.length vals → Calls P f #[v] w fun en w' => en = .returned (.tuple #[]) ∧ w.grownBy w' (blk v) ∧ w'.ownsRow 0 e 1 v vals'.length vals') :
    ContractE P G f [(1000, .row e 1 fl (vals.map eV))] [.row 1000] (.tup []) [(1000, .row e 1 fl (vals'.map eV))] := by
  refine ⟨hent, fun w ι args hobjs hglob hargs => ?_⟩
  obtain ⟨v, hv, hobj⟩ := hobjs.obj 1000 _ rfl
  obtain ⟨g1, g2, g3⟩ := cells_of_row hobj
  have ha : args = #[v] := by
    obtain ⟨hl, hc⟩ := hargs
    match args, hl with
    | ⟨[u]⟩, _ =>
      have := (row_inv (hc 0 u _ rfl rfl)).1
      rw [hv] at this
      cases this
      rfl
  subst ha
  refine (hrun w v g1).mono ?_
  rintro en w' ⟨he, hg, ho⟩
  refine ⟨_, ι, he, (BelowZ.refl _ _ w).grown hg (Nat.le_refl _) (fun k hk => g2 k hk), rfl, rfl, ⟨fun id o ho' => ?_, fun id u hu => ?_, hobjs.inj, hobjs.fresh⟩, .inr (.inr ⟨_, rfl, #[], rfl, rfl, fun i c d h => by simp at h⟩), fun id u hu _ _ => .inr hu⟩
  · simp only [getH] at ho'
    split at ho'
    · rename_i e; subst e; cases ho'
      exact ⟨v, hv, row_of_cells ho g2 (h1' g3)⟩
    · cases ho'
  · obtain ⟨o, ho'⟩ := hobjs.dom id u hu
    simp only [getH] at ho' ⊢
    split at ho'
    · rename_i e; subst e; exact ⟨_, if_pos rfl⟩
    · cases ho'
/-- .. and hands it back, shorter. -/
theorem rowE_back (hent : ∀ (args : Array Value) (w : World), (callFunc f args).run P w = .ok (.enter f args) w) {e : TypeId} {fl : Bool} {vals vals' : List Value} (h1' : (∀ c ∈ vals, c.oneCell' = true) → ∀ c ∈ vals', c.oneCell' = true)
    (hrun : ∀ (w : World) (v : Value), w.ownsRow 0 e 1 v vals.length vals → Calls P f #[v] w fun en w' => ∃ v', en = .returned v' ∧ w.grownBy w' (blk v) ∧ w'.ownsRow 0 e 1 v' vals'.length vals' ∧ blk v' = blk v) :
    ContractE P G f [(1000, .row e 1 fl (vals.map eV))] [.row 1000] (.row 0) [(0, .row e 1 fl (vals'.map eV))] := by
  refine ⟨hent, fun w ι args hobjs hglob hargs => ?_⟩
  obtain ⟨v, hv, hobj⟩ := hobjs.obj 1000 _ rfl
  obtain ⟨g1, g2, g3⟩ := cells_of_row hobj
  have ha : args = #[v] := by
    obtain ⟨hl, hc⟩ := hargs
    match args, hl with
    | ⟨[u]⟩, _ =>
      have := (row_inv (hc 0 u _ rfl rfl)).1
      rw [hv] at this
      cases this
      rfl
  subst ha
  refine (hrun w v g1).mono ?_
  rintro en w' ⟨v', he, hg, ho, hb⟩
  refine ⟨v', ⟨fun k => if k = 0 then some v' else none, ι.K, ι.Z⟩, he, (BelowZ.refl _ _ w).grown hg (Nat.le_refl _) (fun k hk => g2 k hk), rfl, rfl, ⟨fun id o ho' => ?_, fun id u hu => ?_, fun id id' u u' b h1 h2 _ _ => ?_, hobjs.fresh⟩, .inl (.inr ⟨by simp, ?_⟩), fun id u hu h1 _ => .inl ?_⟩
  · simp only [getH] at ho'
    split at ho'
    · rename_i e; subst e; cases ho'
      exact ⟨v', by simp, row_of_cells ho (fun b hb' => g2 b (by rw [← hb]; exact hb')) (h1' g3)⟩
    · cases ho'
  · simp only [] at hu
    split at hu
    · rename_i e; subst e; exact ⟨_, if_pos rfl⟩
    · cases hu
  · simp only [] at h1 h2
    split at h1
    · split at h2
      · omega
      · cases h2
    · cases h1
  · rcases ho.2 with ⟨rfl, _⟩ | ⟨g, cap, cur, rfl, _⟩ <;> exact ⟨_, _, _, rfl⟩
  · simp only []
    rw [if_neg (by omega)]
end

/-! ### Strings -/
def eS (s : ByteArray) : List D := [.x (.string s)]
@[simp] theorem eS_eq (s : ByteArray) : eS s = [.x (.string s)] := rfl
def strsOf : List (List D) → Option (List ByteArray)
  | [] => some []
  | [.x (.string s)] :: r => match strsOf r with
    | some l => some (s :: l)
    | none => none
  | _ => none
@[simp] theorem strsOf_map (l : List ByteArray) : strsOf (l.map eS) = some l := by
  induction l with
  | nil => rfl
  | cons s r ih => simp [strsOf, eS] at ih ⊢; simp [ih]
theorem strsOf_some : ∀ {es : List (List D)} {l : List ByteArray}, strsOf es = some l → es = l.map eS
  | [], l, h => by cases h; rfl
  | x :: r, l, h => by
    unfold strsOf at h
    split at h
    · rename_i e; cases e
    · rename_i s r' e
      cases e
      split at h
      · rename_i l' hl
        cases h
        rw [strsOf_some hl]
        rfl
      · cases h
    · cases h
def bytesL (s : ByteArray) : List UInt8 := s.data.toList
def ofBytesL (l : List UInt8) : ByteArray := ⟨l.toArray⟩
@[simp] theorem ofBytesL_bytesL (s : ByteArray) : ofBytesL (bytesL s) = s := rfl
@[simp] theorem bytesL_ofBytesL (l : List UInt8) : bytesL (ofBytesL l) = l := rfl
/-- Strings, ascending. -/
def sortS (l : List ByteArray) : List ByteArray := ((l.map bytesL).mergeSort (fun x y => decide (x ≤ y))).map ofBytesL
/-- Of equal neighbours one. -/
def compactS (l : List ByteArray) : List ByteArray := (Lib.compact (l.map bytesL)).map ofBytesL
theorem sortS_length (l : List ByteArray) : (sortS l).length = l.length := by simp [sortS]
theorem compactS_length (l : List ByteArray) : (compactS l).length ≤ l.length := by
  have := Lib.compact_length_le (l.map bytesL)
  simpa [compactS] using this

noncomputable def E_sortS (hs : List (Nat × O)) (ds : List D) : Option (D × List (Nat × O)) := match hs, ds with
  | [(1000, .row e 1 fl es)], [.row 1000] => match strsOf es with
    | some l => if l.length < 4611686018427387904 then some (.tup [], [(1000, .row e 1 fl ((sortS l).map eS))]) else none
    | none => none
  | _, _ => none
noncomputable def E_compactS (hs : List (Nat × O)) (ds : List D) : Option (D × List (Nat × O)) := match hs, ds with
  | [(1000, .row e 1 fl es)], [.row 1000] => match strsOf es with
    | some l => if l.length < 4611686018427387904 then some (.row 0, [(0, .row e 1 fl ((compactS l).map eS))]) else none
    | none => none
  | _, _ => none
theorem E_sortS_eq (e : TypeId) (fl : Bool) (l : List ByteArray) (h : l.length < 4611686018427387904) : E_sortS [(1000, .row e 1 fl (l.map eS))] [.row 1000] = some (.tup [], [(1000, .row e 1 fl ((sortS l).map eS))]) := by
  simp only [E_sortS, strsOf_map, h, if_true]
theorem E_compactS_eq (e : TypeId) (fl : Bool) (l : List ByteArray) (h : l.length < 4611686018427387904) : E_compactS [(1000, .row e 1 fl (l.map eS))] [.row 1000] = some (.row 0, [(0, .row e 1 fl ((compactS l).map eS))]) := by
  simp only [E_compactS, strsOf_map, h, if_true]

open Go.Proofs Go.Sort in
theorem holds_own {α : Type} {enc : α → Value} [Inhabited α] {w : World} {e : TypeId} {g n cap : Nat} {zs : List α} (h : w.ownsRow 0 e 1 (.slice (some ⟨g, 0, none⟩) n cap) n (zs.map enc)) : Holds enc w g 0 zs.toArray := by
  rcases h.2 with ⟨e0, _⟩ | ⟨g', cap', cur, e0, hb, hg, hn, hm, hs, ht⟩
  · cases e0
  · injection e0 with e1 _ e3
    injection e1 with e1
    injection e1 with e1
    subst e1 e3
    have hl : zs.length = n := by have := h.1; simpa using this
    intro j hj
    simp only [List.size_toArray] at hj
    have hc := h.cells (g := g) rfl j (enc zs[j]) (by simp [hj])
    rw [Addr.add_lit] at hc
    refine ⟨by rw [hc]; simp [hj], ?_⟩
    simp [World.frozen?, hg]

section
variable {P : Program} {G : Nat → Option (List D)} {f : FuncId}
open Go.Proofs Go.Sort

theorem CE_sortS_of (hent : ∀ (args : Array Value) (w : World), (callFunc f args).run P w = .ok (.enter f args) w)
    (hsort : ∀ (blk off cap : Nat) (ss : List (List UInt8)) (w : World), Holds encStr w blk off ss.toArray → blk < w.heap.size → ss.length < 4611686018427387904 →
      Calls P f #[.slice (some ⟨blk, off, none⟩) ss.length cap] w fun e w' => e = .returned (.tuple #[]) ∧ ∃ n os, w' = grow (putRow encStr (Sort.ahead w n) blk off (ss.mergeSort fun x y => decide (x ≤ y)).toArray) os)
    (hnone : ∀ (p : Option Addr) (cap : Nat) (w : World), Calls P f #[.slice p 0 cap] w fun e w' => e = .returned (.tuple #[]) ∧ w' = w)
    (hs : List (Nat × O)) (ds : List D) (r : D) (hs' : List (Nat × O)) (h : E_sortS hs ds = some (r, hs')) : ContractE P G f hs ds r hs' := by
  unfold E_sortS at h
  split at h
  · rename_i e fl es
    split at h
    · rename_i l hl
      split at h
      · rename_i hlen
        cases h
        rw [strsOf_some hl]
        have e1 : ∀ l : List ByteArray, l.map eS = (l.map Value.string).map eV := fun l => by simp [eV, Function.comp_def]
        rw [e1, e1]
        refine rowE_same hent (fun _ c hc => by simp only [List.mem_map] at hc; obtain ⟨s, _, rfl⟩ := hc; rfl) (fun w v ho => ?_)
        rcases ho.2 with ⟨rfl, h0⟩ | ⟨g, cap, cur, rfl, hb, hg, hn, hm, hcs, ht⟩
        · refine (hnone none 0 w).mono ?_
          rintro en w' ⟨he, rfl⟩
          have : l = [] := List.eq_nil_of_length_eq_zero (by simpa using h0)
          subst this
          exact ⟨he, World.grownBy.refl _ _, by simpa [sortS] using ho⟩
        · simp only [List.length_map] at ho hn ⊢
          have e2 : l.map Value.string = (l.map bytesL).map encStr := by
            rw [List.map_map]
            rfl
          have e3 : (sortS l).map Value.string = ((l.map bytesL).mergeSort (fun x y => decide (x ≤ y))).map encStr := by
            rw [sortS, List.map_map]
            rfl
          rw [e2] at ho
          have hH := holds_own ho
          have hlt := (Array.getElem?_eq_some_iff.1 hg).1
          have := hsort g 0 cap (l.map bytesL) w hH hlt (by simpa using hlen)
          rw [List.length_map] at this
          refine this.mono ?_
          rintro en w' ⟨he, n, os, rfl⟩
          refine ⟨he, grownBy_sorted _, ?_⟩
          rw [e3, sortS_length]
          have := ownsRow_sorted (w := w) (n := n) (os := os) (ss := l.map bytesL) (ts := (l.map bytesL).mergeSort (fun x y => decide (x ≤ y))) (by simp) hb hg (by simpa using hn) hm hcs
          rwa [List.length_map] at this
      · cases h
    · cases h
  · cases h
theorem CE_compactS_of (hent : ∀ (args : Array Value) (w : World), (callFunc f args).run P w = .ok (.enter f args) w)
    (hcomp : ∀ (blk off cap : Nat) (zs : List (List UInt8)) (w : World), Holds encStr w blk off zs.toArray → zs.length ≤ 9223372036854775807 → zs.length ≤ cap →
      Calls P f #[.slice (some ⟨blk, off, none⟩) zs.length cap] w fun e w' => e = .returned (.slice (some ⟨blk, off, none⟩) (Lib.compact zs).length cap) ∧ ∃ q, w' = putRow encStr (Sort.ahead w q) blk off (Lib.compact zs ++ List.replicate (zs.length - (Lib.compact zs).length) []).toArray)
    (hnone : ∀ (a : Option Addr) (cap : Nat) (w : World), Calls P f #[.slice a 0 cap] w fun e w' => e = .returned (.slice a 0 cap) ∧ w' = w)
    (hs : List (Nat × O)) (ds : List D) (r : D) (hs' : List (Nat × O)) (h : E_compactS hs ds = some (r, hs')) : ContractE P G f hs ds r hs' := by
  unfold E_compactS at h
  split at h
  · rename_i e fl es
    split at h
    · rename_i l hl
      split at h
      · rename_i hlen
        cases h
        rw [strsOf_some hl]
        have e1 : ∀ l : List ByteArray, l.map eS = (l.map Value.string).map eV := fun l => by simp [eV, Function.comp_def]
        rw [e1, e1]
        refine rowE_back hent (fun _ c hc => by simp only [List.mem_map] at hc; obtain ⟨s, _, rfl⟩ := hc; rfl) (fun w v ho => ?_)
        rcases ho.2 with ⟨rfl, h0⟩ | ⟨g, cap, cur, rfl, hb, hg, hn, hm, hcs, ht⟩
        · refine (hnone none 0 w).mono ?_
          rintro en w' ⟨he, rfl⟩
          have : l = [] := List.eq_nil_of_length_eq_zero (by simpa using h0)
          subst this
          exact ⟨_, he, World.grownBy.refl _ _, by simpa [compactS, Lib.compact, Lib.compactUpTo] using ho, rfl⟩
        · simp only [List.length_map] at ho hn ⊢
          have e2 : l.map Value.string = (l.map bytesL).map encStr := by
            rw [List.map_map]
            rfl
          have e3 : (compactS l).map Value.string = (Lib.compact (l.map bytesL)).map encStr := by
            rw [compactS, List.map_map]
            rfl
          rw [e2] at ho
          have hH := holds_own ho
          have hle := Lib.compact_length_le (l.map bytesL)
          have := hcomp g 0 cap (l.map bytesL) w hH (by simp; omega) (by simpa using hn)
          rw [List.length_map] at this
          refine this.mono ?_
          rintro en w' ⟨he, q, rfl⟩
          have hk : (Lib.compact (l.map bytesL)).length ≤ l.length := by simpa using hle
          refine ⟨_, he, ⟨rfl, rfl, rfl, by simp [putRow, mapBlock, Sort.ahead], fun k hk' hne => ?_⟩, ?_, rfl⟩
          · have : g ≠ k := fun e => hne (by rw [e]; rfl)
            simp [putRow, mapBlock, Sort.ahead, Array.getElem?_modify, this]
          · rw [e3]
            have := Lib.ownsRow_putRow (q := q) (k := (Lib.compact (l.map bytesL)).length) (ys := Lib.compact (l.map bytesL) ++ List.replicate (l.length - (Lib.compact (l.map bytesL)).length) []) ho (by simp; omega) hk
            rw [List.take_left] at this
            simpa [compactS] using this
      · cases h
    · cases h
  · cases h
end
end Go.Abs
/-
  slices.Sort and slices.Compact at numbers, as contracts.
-/
namespace Go.Abs
set_option linter.unusedSimpArgs false
set_option linter.unusedVariables false
open Go Go.RowKit
def eJ (n : Int) : List D := [.x (.int .i64 n)]
@[simp] theorem eJ_eq (n : Int) : eJ n = [.x (.int .i64 n)] := rfl
def intsOf : List (List D) → Option (List Int)
  | [] => some []
  | [.x (.int .i64 s)] :: r => match intsOf r with
    | some l => some (s :: l)
    | none => none
  | _ => none
@[simp] theorem intsOf_map (l : List Int) : intsOf (l.map eJ) = some l := by
  induction l with
  | nil => rfl
  | cons s r ih => simp [intsOf, eJ] at ih ⊢; simp [ih]
theorem intsOf_some : ∀ {es : List (List D)} {l : List Int}, intsOf es = some l → es = l.map eJ
  | [], l, h => by cases h; rfl
  | x :: r, l, h => by
    unfold intsOf at h
    split at h
    · rename_i e; cases e
    · rename_i s r' e
      cases e
      split at h
      · rename_i l' hl
        cases h
        rw [intsOf_some hl]
        rfl
      · cases h
    · cases h
/-- Numbers, ascending. -/
def sortI (l : List Int) : List Int := l.mergeSort (fun x y => decide (x ≤ y))
/-- Of equal neighbours one. -/
def compactI (l : List Int) : List Int := Lib.compact l
theorem sortI_length (l : List Int) : (sortI l).length = l.length := by simp [sortI]
theorem compactI_length (l : List Int) : (compactI l).length ≤ l.length := Lib.compact_length_le l
noncomputable def E_sortI (hs : List (Nat × O)) (ds : List D) : Option (D × List (Nat × O)) := match hs, ds with
  | [(1000, .row e 1 fl es)], [.row 1000] => match intsOf es with
    | some l => if l.length < 4611686018427387904 then some (.tup [], [(1000, .row e 1 fl ((sortI l).map eJ))]) else none
    | none => none
  | _, _ => none
noncomputable def E_compactI (hs : List (Nat × O)) (ds : List D) : Option (D × List (Nat × O)) := match hs, ds with
  | [(1000, .row e 1 fl es)], [.row 1000] => match intsOf es with
    | some l => if l.length < 4611686018427387904 then some (.row 0, [(0, .row e 1 fl ((compactI l).map eJ))]) else none
    | none => none
  | _, _ => none
theorem E_sortI_eq (e : TypeId) (fl : Bool) (l : List Int) (h : l.length < 4611686018427387904) : E_sortI [(1000, .row e 1 fl (l.map eJ))] [.row 1000] = some (.tup [], [(1000, .row e 1 fl ((sortI l).map eJ))]) := by
  simp only [E_sortI, intsOf_map, h, if_true]
theorem E_compactI_eq (e : TypeId) (fl : Bool) (l : List Int) (h : l.length < 4611686018427387904) : E_compactI [(1000, .row e 1 fl (l.map eJ))] [.row 1000] = some (.row 0, [(0, .row e 1 fl ((compactI l).map eJ))]) := by
  simp only [E_compactI, intsOf_map, h, if_true]
section
variable {P : Program} {G : Nat → Option (List D)} {f : FuncId}
open Go.Proofs Go.Sort

theorem CE_sortI_of (hent : ∀ (args : Array Value) (w : World), (callFunc f args).run P w = .ok (.enter f args) w)
    (hsort : ∀ (blk off cap : Nat) (ss : List Int) (w : World), Holds (Value.int .i64) w blk off ss.toArray → blk < w.heap.size → ss.length < 4611686018427387904 →
      Calls P f #[.slice (some ⟨blk, off, none⟩) ss.length cap] w fun e w' => e = .returned (.tuple #[]) ∧ ∃ n os, w' = grow (putRow (Value.int .i64) (Sort.ahead w n) blk off (ss.mergeSort fun x y => decide (x ≤ y)).toArray) os)
    (hnone : ∀ (p : Option Addr) (cap : Nat) (w : World), Calls P f #[.slice p 0 cap] w fun e w' => e = .returned (.tuple #[]) ∧ w' = w)
    (hs : List (Nat × O)) (ds : List D) (r : D) (hs' : List (Nat × O)) (h : E_sortI hs ds = some (r, hs')) : ContractE P G f hs ds r hs' := by
  unfold E_sortI at h
  split at h
  · rename_i e fl es
    split at h
    · rename_i l hl
      split at h
      · rename_i hlen
        cases h
        rw [intsOf_some hl]
        have e1 : ∀ l : List Int, l.map eJ = (l.map (Value.int .i64)).map eV := fun l => by simp [eV, Function.comp_def]
        rw [e1, e1]
        refine rowE_same hent (fun _ c hc => by simp only [List.mem_map] at hc; obtain ⟨s, _, rfl⟩ := hc; rfl) (fun w v ho => ?_)
        rcases ho.2 with ⟨rfl, h0⟩ | ⟨g, cap, cur, rfl, hb, hg, hn, hm, hcs, ht⟩
        · refine (hnone none 0 w).mono ?_
          rintro en w' ⟨he, rfl⟩
          have : l = [] := List.eq_nil_of_length_eq_zero (by simpa using h0)
          subst this
          exact ⟨he, World.grownBy.refl _ _, by simpa [sortI] using ho⟩
        · simp only [List.length_map] at ho hn ⊢
          have hH := holds_own ho
          have hlt := (Array.getElem?_eq_some_iff.1 hg).1
          have := hsort g 0 cap l w hH hlt hlen
          refine this.mono ?_
          rintro en w' ⟨he, n, os, rfl⟩
          refine ⟨he, ⟨rfl, rfl, rfl, by simp [grow, putRow, mapBlock, Sort.ahead], fun k hk' hne => ?_⟩, ?_⟩
          · have hk2 : g ≠ k := fun e => hne (by rw [e]; rfl)
            rw [heap_grow_old _ _ (by simpa [putRow, mapBlock, Sort.ahead] using hk')]
            simp [putRow, mapBlock, Sort.ahead, Array.getElem?_modify, hk2]
          · rw [sortI_length]
            have h2 := Lib.ownsRow_putRow (q := n) (k := l.length) (ys := l.mergeSort (fun x y => decide (x ≤ y))) ho (by simp) (Nat.le_refl _)
            have h3 : (l.mergeSort (fun x y => decide (x ≤ y))).take l.length = sortI l := by
              rw [List.take_of_length_le (by simp)]
              rfl
            rw [h3] at h2
            exact ownsRow_ext h2 ⟨rfl, rfl, rfl, by simp [grow], fun k hk => heap_grow_old _ _ hk⟩
      · cases h
    · cases h
  · cases h
theorem CE_compactI_of (hent : ∀ (args : Array Value) (w : World), (callFunc f args).run P w = .ok (.enter f args) w)
    (hcomp : ∀ (blk off cap : Nat) (zs : List Int) (w : World), Holds (Value.int .i64) w blk off zs.toArray → zs.length ≤ 9223372036854775807 → zs.length ≤ cap →
      Calls P f #[.slice (some ⟨blk, off, none⟩) zs.length cap] w fun e w' => e = .returned (.slice (some ⟨blk, off, none⟩) (Lib.compact zs).length cap) ∧ ∃ q, w' = putRow (Value.int .i64) (Sort.ahead w q) blk off (Lib.compact zs ++ List.replicate (zs.length - (Lib.compact zs).length) 0).toArray)
    (hnone : ∀ (a : Option Addr) (cap : Nat) (w : World), Calls P f #[.slice a 0 cap] w fun e w' => e = .returned (.slice a 0 cap) ∧ w' = w)
    (hs : List (Nat × O)) (ds : List D) (r : D) (hs' : List (Nat × O)) (h : E_compactI hs ds = some (r, hs')) : ContractE P G f hs ds r hs' := by
  unfold E_compactI at h
  split at h
  · rename_i e fl es
    split at h
    · rename_i l hl
      split at h
      · rename_i hlen
        cases h
        rw [intsOf_some hl]
        have e1 : ∀ l : List Int, l.map eJ = (l.map (Value.int .i64)).map eV := fun l => by simp [eV, Function.comp_def]
        rw [e1, e1]
        refine rowE_back hent (fun _ c hc => by simp only [List.mem_map] at hc; obtain ⟨s, _, rfl⟩ := hc; rfl) (fun w v ho => ?_)
        rcases ho.2 with ⟨rfl, h0⟩ | ⟨g, cap, cur, rfl, hb, hg, hn, hm, hcs, ht⟩
        · refine (hnone none 0 w).mono ?_
          rintro en w' ⟨he, rfl⟩
          have : l = [] := List.eq_nil_of_length_eq_zero (by simpa using h0)
          subst this
          exact ⟨_, he, World.grownBy.refl _ _, by simpa [compactI, Lib.compact, Lib.compactUpTo] using ho, rfl⟩
        · simp only [List.length_map] at ho hn ⊢
          have hH := holds_own ho
          have hle := Lib.compact_length_le l
          have := hcomp g 0 cap l w hH (by omega) hn
          refine this.mono ?_
          rintro en w' ⟨he, q, rfl⟩
          have hk : (Lib.compact l).length ≤ l.length := hle
          refine ⟨_, he, ⟨rfl, rfl, rfl, by simp [putRow, mapBlock, Sort.ahead], fun k hk' hne => ?_⟩, ?_, rfl⟩
          · have : g ≠ k := fun e => hne (by rw [e]; rfl)
            simp [putRow, mapBlock, Sort.ahead, Array.getElem?_modify, this]
          · have := Lib.ownsRow_putRow (q := q) (k := (Lib.compact l).length) (ys := Lib.compact l ++ List.replicate (l.length - (Lib.compact l).length) 0) ho (by simp; omega) hk
            rw [List.take_left] at this
            simpa [compactI] using this
      · cases h
    · cases h
  · cases h
end
end Go.Abs
