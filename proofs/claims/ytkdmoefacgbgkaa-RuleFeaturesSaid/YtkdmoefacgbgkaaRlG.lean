/-
  Plain: names that are sorted, of equal ones one, are those that are put into their places one by one.
-/
import Derived.Test.YtkdmoefacgbgkaaRlF
import Derived.Sort.Walk0
namespace Go.Proofs.Ytkdmoefacgbgkaa
set_option linter.unusedSimpArgs false
set_option linter.unusedVariables false
open Go Go.Abs
set_option maxHeartbeats 1000000
/-! ### The order of strings -/
abbrev Ls := List UInt8
theorem ls_irrefl (a : Ls) : ¬ a < a := List.lt_irrefl a
theorem ls_trans {a b c : Ls} (h : a < b) (k : b < c) : a < c := List.lt_trans h k
theorem ls_le {a b : Ls} : a ≤ b ↔ ¬ b < a := List.not_lt.symm
theorem ls_tri {a b : Ls} (h : ¬ a < b) (k : ¬ b < a) : a = b := List.le_antisymm (ls_le.2 k) (ls_le.2 h)
theorem ls_lt_of_le {a b : Ls} (h : a ≤ b) (k : a ≠ b) : a < b := by
  by_cases g : a < b
  · exact g
  · exact absurd (ls_tri g (ls_le.1 h)) k
theorem ls_le_lt {a b c : Ls} (h : a ≤ b) (k : b < c) : a < c := by
  by_cases e : a = b
  · rw [e]; exact k
  · exact ls_trans (ls_lt_of_le h e) k
theorem bytesL_inj {a b : ByteArray} (h : bytesL a = bytesL b) : a = b := by
  have := congrArg ofBytesL h
  simpa using this
theorem toList_bytes (a : ByteArray) : a.toList = bytesL a := ByteArray.toList_eq a
theorem gtS_iff (a b : ByteArray) : gtS a b = true ↔ bytesL b < bytesL a := by
  simp only [gtS, decide_eq_true_eq, toList_bytes, Go.Proofs.bytesLess_eq, decide_eq_false_iff_not]
  constructor
  · rintro ⟨h1, h2⟩
    by_cases g : bytesL b < bytesL a
    · exact g
    · exact absurd (bytesL_inj (ls_tri h1 g)) h2
  · intro h
    exact ⟨fun k => ls_irrefl _ (ls_trans h k), fun e => by rw [e] at h; exact ls_irrefl _ h⟩
/-- Ascending, each once. -/
def Asc (l : List ByteArray) : Prop := l.Pairwise (fun a b => bytesL a < bytesL b)
theorem asc_eq : ∀ {a b : List ByteArray}, Asc a → Asc b → (∀ x, x ∈ a ↔ x ∈ b) → a = b
  | [], [], _, _, _ => rfl
  | [], y :: b, _, _, h => by have := (h y).2 (by simp); simp at this
  | x :: a, [], _, _, h => by have := (h x).1 (by simp); simp at this
  | x :: a, y :: b, ha, hb, h => by
    obtain ⟨a1, a2⟩ := List.pairwise_cons.1 ha
    obtain ⟨b1, b2⟩ := List.pairwise_cons.1 hb
    have e : x = y := by
      have hx := (h x).1 (by simp)
      have hy := (h y).2 (by simp)
      rcases List.mem_cons.1 hx with e | hx
      · exact e
      · rcases List.mem_cons.1 hy with e | hy
        · exact e.symm
        · exact absurd (ls_trans (a1 y hy) (b1 x hx)) (ls_irrefl _)
    subst e
    rw [asc_eq a2 b2]
    intro z
    have := h z
    simp only [List.mem_cons] at this
    constructor
    · intro hz
      rcases this.1 (.inr hz) with e | g
      · subst e; exact absurd (a1 z hz) (ls_irrefl _)
      · exact g
    · intro hz
      rcases this.2 (.inr hz) with e | g
      · subst e; exact absurd (b1 z hz) (ls_irrefl _)
      · exact g
theorem hasS_iff (x : ByteArray) : ∀ l : List ByteArray, hasS l x = true ↔ x ∈ l
  | [] => by simp [hasS]
  | s :: r => by
    unfold hasS
    split
    · rename_i e; simp [e]
    · rename_i e; rw [hasS_iff x r]; simp [Ne.symm e]
theorem addL_true (x : ByteArray) : ∀ l : List ByteArray, addL x true l = l
  | [] => rfl
  | s :: r => by simp [addL, addL_true x r]
theorem addL_asc (x : ByteArray) : ∀ l : List ByteArray, Asc l → x ∉ l → Asc (addL x false l) ∧ ∀ z, z ∈ addL x false l ↔ z ∈ l ∨ z = x
  | [], _, _ => by simp [addL, Asc]
  | s :: r, ha, hx => by
    obtain ⟨a1, a2⟩ := List.pairwise_cons.1 ha
    simp only [List.mem_cons, not_or] at hx
    simp only [addL, Bool.false_eq_true, if_false, addL_true]
    split
    · rename_i hg
      rw [gtS_iff] at hg
      refine ⟨List.pairwise_cons.2 ⟨fun z hz => ?_, ha⟩, fun z => by simp [or_comm]⟩
      rcases List.mem_cons.1 hz with rfl | hz
      · exact hg
      · exact ls_trans hg (a1 z hz)
    · rename_i hg
      obtain ⟨i1, i2⟩ := addL_asc x r a2 hx.2
      have hs : bytesL s < bytesL x := by
        by_cases g : bytesL s < bytesL x
        · exact g
        · have : ¬ bytesL x < bytesL s := fun h => hg ((gtS_iff s x).2 h)
          exact absurd (bytesL_inj (ls_tri g this)) (Ne.symm hx.1)
      refine ⟨List.pairwise_cons.2 ⟨fun z hz => ?_, i1⟩, fun z => by simp [i2, or_assoc]⟩
      rcases (i2 z).1 hz with hz | rfl
      · exact a1 z hz
      · exact hs
theorem addS_asc (l : List ByteArray) (x : ByteArray) (h : Asc l) : Asc (addS l x) ∧ ∀ z, z ∈ addS l x ↔ z ∈ l ∨ z = x := by
  unfold addS
  cases hh : hasS l x with
  | true =>
    rw [addL_true]
    refine ⟨h, fun z => ⟨.inl, fun hz => hz.elim id (fun e => ?_)⟩⟩
    rw [e]
    exact (hasS_iff x l).1 hh
  | false => exact addL_asc x l h (fun hx => by rw [(hasS_iff x l).2 hx] at hh; cases hh)
theorem addAll_asc : ∀ (a l : List ByteArray), Asc l → Asc (addAll l a) ∧ ∀ z, z ∈ addAll l a ↔ z ∈ l ∨ z ∈ a
  | [], l, h => ⟨h, fun z => by simp [addAll]⟩
  | x :: a, l, h => by
    obtain ⟨h1, h2⟩ := addS_asc l x h
    obtain ⟨h3, h4⟩ := addAll_asc a (addS l x) h1
    exact ⟨h3, fun z => by simp [addAll, h4, h2, or_assoc]⟩
/-! ### Sorted, of equal ones one -/
open Go.Lib in
theorem compact_up (d : Array Ls) (hd : ∀ i j, i ≤ j → j < d.size → d[i]! ≤ d[j]!) : ∀ m, m ≤ d.size →
    (∀ x, x ∈ compactUpTo d m ↔ ∃ j, j < m ∧ d[j]! = x) ∧ (compactUpTo d m).Pairwise (· < ·)
  | 0, _ => by simp [compactUpTo]
  | m + 1, hm => by
    obtain ⟨h1, h2⟩ := compact_up d hd m (by omega)
    rw [compactUpTo_succ]
    by_cases hk : keeps d m = true
    · rw [if_pos hk]
      refine ⟨fun x => ?_, List.pairwise_append.2 ⟨h2, by simp, fun a ha b hb => ?_⟩⟩
      · rw [List.mem_append, h1]
        constructor
        · rintro (⟨j, hj, e⟩ | e)
          · exact ⟨j, by omega, e⟩
          · simp at e; exact ⟨m, by omega, e.symm⟩
        · rintro ⟨j, hj, e⟩
          by_cases hjm : j = m
          · subst hjm; right; simp [e]
          · exact .inl ⟨j, by omega, e⟩
      · simp at hb
        subst hb
        obtain ⟨j, hj, rfl⟩ := (h1 a).1 ha
        simp only [keeps, decide_eq_true_eq] at hk
        have hm0 : m ≠ 0 := by omega
        have hk := hk.resolve_left hm0
        exact ls_le_lt (hd j (m - 1) (by omega) (by omega)) (ls_lt_of_le (hd (m - 1) m (by omega) (by omega)) (fun e => hk e.symm))
    · rw [if_neg hk, List.append_nil]
      refine ⟨fun x => ?_, h2⟩
      rw [h1]
      constructor
      · rintro ⟨j, hj, e⟩; exact ⟨j, by omega, e⟩
      · rintro ⟨j, hj, e⟩
        by_cases hjm : j = m
        · subst hjm
          simp only [keeps, decide_eq_true_eq, not_or, Decidable.not_not] at hk
          exact ⟨j - 1, by omega, by rw [← hk.2]; exact e⟩
        · exact ⟨j, by omega, e⟩
theorem uses_asc (l : List ByteArray) : Asc (compactS (sortS l)) ∧ ∀ z, z ∈ compactS (sortS l) ↔ z ∈ l := by
  have hsl : (sortS l).map bytesL = (l.map bytesL).mergeSort (fun x y => decide (x ≤ y)) := by
    simp [sortS, Function.comp_def]
  have hp : ((l.map bytesL).mergeSort (fun x y => decide (x ≤ y))).Pairwise (fun a b => decide (a ≤ b) = true) := by
    refine List.pairwise_mergeSort (fun a b c h1 h2 => ?_) (fun a b => ?_) _
    · simp only [decide_eq_true_eq] at *
      exact List.le_trans h1 h2
    · simp only [Bool.or_eq_true, decide_eq_true_eq]
      exact List.le_total a b
  have gb : ∀ (t : List Ls) (j : Nat) (h : j < t.length), t.toArray[j]! = t[j] := fun t j h => by
    rw [getElem!_pos t.toArray j (by simpa using h)]
    exact List.getElem_toArray _
  unfold compactS
  rw [hsl]
  obtain ⟨c1, c2⟩ := compact_up ((l.map bytesL).mergeSort (fun x y => decide (x ≤ y))).toArray (fun i j hij hj => by
    simp only [List.size_toArray] at hj
    by_cases e : i = j
    · subst e; exact ls_le.2 (ls_irrefl _)
    · have := List.pairwise_iff_getElem.1 hp i j (by omega) hj (by omega)
      simp only [decide_eq_true_eq] at this
      rw [gb _ i (by omega), gb _ j hj]
      exact this) _ (Nat.le_refl _)
  have e : Lib.compact ((l.map bytesL).mergeSort (fun x y => decide (x ≤ y))) = Lib.compactUpTo ((l.map bytesL).mergeSort (fun x y => decide (x ≤ y))).toArray ((l.map bytesL).mergeSort (fun x y => decide (x ≤ y))).toArray.size := by
    simp [Lib.compact]
  rw [e]
  refine ⟨?_, fun z => ?_⟩
  · unfold Asc
    rw [List.pairwise_map]
    simpa using c2
  · rw [List.mem_map]
    constructor
    · rintro ⟨b, hb, rfl⟩
      obtain ⟨j, hj, rfl⟩ := (c1 b).1 hb
      simp only [List.size_toArray] at hj
      have hm : ((l.map bytesL).mergeSort (fun x y => decide (x ≤ y)))[j] ∈ l.map bytesL := List.mem_mergeSort.1 (List.getElem_mem hj)
      obtain ⟨s, hs, es⟩ := List.mem_map.1 hm
      rw [gb _ j hj, ← es, ofBytesL_bytesL]
      exact hs
    · intro hz
      have hm : bytesL z ∈ (l.map bytesL).mergeSort (fun x y => decide (x ≤ y)) := List.mem_mergeSort.2 (List.mem_map_of_mem hz)
      obtain ⟨j, hj, ej⟩ := List.mem_iff_getElem.1 hm
      exact ⟨bytesL z, (c1 _).2 ⟨j, by simpa using hj, by rw [gb _ j hj, ej]⟩, by simp⟩
/-- BOTH WAYS GIVE ONE LIST. -/
theorem uses_eq (l : List ByteArray) : compactS (sortS l) = addAll [] l := by
  obtain ⟨a1, a2⟩ := uses_asc l
  obtain ⟨b1, b2⟩ := addAll_asc l [] List.Pairwise.nil
  exact asc_eq a1 b1 (fun z => by rw [a2, b2]; simp)
end Go.Proofs.Ytkdmoefacgbgkaa
