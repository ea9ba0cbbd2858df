/-
  The accounts of a trial balance, in order: by insertion, and sorted.
-/
import Derived.Test.YtgngoijehjphoaaDoorAbs4
import Derived.Sort.KeysCollected
namespace Go.Proofs.YtgngoijehjphoaaDoor
set_option linter.unusedSimpArgs false
set_option linter.unusedVariables false
open Go Go.Abs
set_option maxHeartbeats 2000000
def ltS (a b : ByteArray) : Bool := Op.bytesLess a.toList b.toList
theorem bytesLess_lt : ∀ x y : List UInt8, Op.bytesLess x y = decide (x < y)
  | _, [] => by simp [Op.bytesLess]
  | [], _ :: _ => by simp [Op.bytesLess]
  | a :: x, b :: y => by
    have ih := bytesLess_lt x y
    simp only [Op.bytesLess, ih]
    rw [Bool.eq_iff_iff]
    simp [List.cons_lt_cons_iff]
theorem ltS_iff {a b : ByteArray} : ltS a b = true ↔ bytesL a < bytesL b := by
  unfold ltS
  rw [bytesLess_lt, decide_eq_true_iff, Go.ByteArray.toList_eq, Go.ByteArray.toList_eq]
  rfl
def insL (x : ByteArray) : List ByteArray → List ByteArray
  | [] => [x]
  | y :: r => if ltS y x = true then y :: insL x r else x :: y :: r
def foldT (f : ByteArray → Int) (out : List ByteArray) : List ByteArray → List ByteArray
  | [] => out
  | a :: r => foldT f (if f a = 0 then out else insL a out) r
def SortedL (l : List ByteArray) : Prop := l.Pairwise fun a b => bytesL a ≤ bytesL b
theorem insL_perm (x : ByteArray) : ∀ l, (insL x l).Perm (x :: l)
  | [] => .refl _
  | y :: r => by
    simp only [insL]
    split
    · exact ((insL_perm x r).cons y).trans (.swap _ _ _)
    · exact .refl _
theorem insL_sorted (x : ByteArray) : ∀ {l}, SortedL l → SortedL (insL x l)
  | [], _ => by simp [insL, SortedL]
  | y :: r, h => by
    obtain ⟨h1, h2⟩ := List.pairwise_cons.1 h
    simp only [insL]
    split
    · rename_i hlt
      rw [ltS_iff] at hlt
      refine List.pairwise_cons.2 ⟨fun z hz => ?_, insL_sorted x h2⟩
      rcases List.mem_cons.1 ((insL_perm x r).mem_iff.1 hz) with rfl | hz
      · exact List.le_of_lt hlt
      · exact h1 z hz
    · rename_i hlt
      rw [ltS_iff] at hlt
      have hle : bytesL x ≤ bytesL y := List.not_lt.1 hlt
      refine List.pairwise_cons.2 ⟨fun z hz => ?_, h⟩
      rcases List.mem_cons.1 hz with rfl | hz
      · exact hle
      · exact List.le_trans hle (h1 z hz)
theorem foldT_spec (f : ByteArray → Int) : ∀ {accs out : List ByteArray}, SortedL out → SortedL (foldT f out accs) ∧ (foldT f out accs).Perm (accs.filter (fun a => f a ≠ 0) ++ out)
  | [], out, h => ⟨h, .refl _⟩
  | a :: r, out, h => by
    simp only [foldT]
    by_cases h0 : f a = 0
    · rw [if_pos h0]
      obtain ⟨h1, h2⟩ := foldT_spec f (accs := r) h
      exact ⟨h1, by rw [List.filter_cons_of_neg (by simp [h0])]; exact h2⟩
    · rw [if_neg h0]
      obtain ⟨h1, h2⟩ := foldT_spec f (accs := r) (insL_sorted a h)
      refine ⟨h1, h2.trans ?_⟩
      rw [List.filter_cons_of_pos (by simp [h0])]
      exact ((insL_perm a out).append_left _).trans List.perm_middle
theorem sortS_perm (l : List ByteArray) : (sortS l).Perm l := by
  have h := (List.mergeSort_perm (l.map bytesL) (fun x y => decide (x ≤ y))).map ofBytesL
  rw [List.map_map] at h
  have e : l.map (ofBytesL ∘ bytesL) = l := by
    conv => rhs; rw [← List.map_id l]
    exact List.map_congr_left fun a _ => rfl
  rw [e] at h
  exact h
theorem sortS_sorted (l : List ByteArray) : SortedL (sortS l) := by
  unfold SortedL sortS
  rw [List.pairwise_map]
  have := List.pairwise_mergeSort (le := fun x y : List UInt8 => decide (x ≤ y)) (fun a b c h1 h2 => by simp only [decide_eq_true_eq] at *; exact List.le_trans h1 h2) (fun a b => by simp only [Bool.or_eq_true, decide_eq_true_eq]; exact List.le_total a b) (l.map bytesL)
  exact this.imp (fun h => by simpa using h)
theorem bytesL_inj {a b : ByteArray} (h : bytesL a = bytesL b) : a = b := by
  have := congrArg ofBytesL h
  simpa using this
theorem sorted_eq {l l' : List ByteArray} (h : SortedL l) (h' : SortedL l') (hp : l.Perm l') : l = l' :=
  List.Perm.eq_of_pairwise (le := fun a b => bytesL a ≤ bytesL b) (fun a b _ _ h1 h2 => bytesL_inj (List.le_antisymm h1 h2)) h h' hp
theorem foldT_sort (f : ByteArray → Int) (accs : List ByteArray) : foldT f [] accs = (sortS accs).filter fun a => f a ≠ 0 := by
  obtain ⟨h1, h2⟩ := foldT_spec f (accs := accs) (out := []) .nil
  rw [List.append_nil] at h2
  refine sorted_eq h1 (List.Pairwise.filter _ (sortS_sorted accs)) (h2.trans ((sortS_perm accs).symm.filter _))
end Go.Proofs.YtgngoijehjphoaaDoor
