/-
  The chapter's examples, run abstractly.
-/
import Derived.Test.YtkdmoefacgbgkaaRlG
namespace Go.Proofs.Ytkdmoefacgbgkaa
set_option linter.unusedSimpArgs false
set_option linter.unusedVariables false
open Go Go.Abs
set_option maxHeartbeats 4000000
set_option maxRecDepth 100000
abbrev sKnots : ByteArray := ⟨#[107, 110, 111, 116, 115]⟩
abbrev sWane : ByteArray := ⟨#[119, 97, 110, 101]⟩
abbrev sWidth : ByteArray := ⟨#[119, 105, 100, 116, 104]⟩
abbrev sDead : ByteArray := ⟨#[100, 101, 97, 100]⟩
abbrev xNum (n : Int) : Ex := .mk 1 n ByteArray.empty []
abbrev xName (s : ByteArray) : Ex := .mk 2 0 s []
abbrev xTwo (op : Int) (a b : Ex) : Ex := .mk op 0 ByteArray.empty [a, b]
abbrev xNot (a : Ex) : Ex := .mk 9 0 ByteArray.empty [a]
theorem fits_num {n : Int} (h : -9223372036854775808 ≤ n ∧ n ≤ 9223372036854775807) : Fits (xNum n) := .mk (by simp [Ex.op]) h (by simp [Ex.name]) (by simp [Ex.args]) (by simp [Ex.args])
theorem fits_name {s : ByteArray} (h : s.size ≤ 9223372036854775807) : Fits (xName s) := .mk (by simp [Ex.op]) (by simp [Ex.n]) h (by simp [Ex.args]) (by simp [Ex.args])
theorem fits_two {op : Int} {a b : Ex} (h : -9223372036854775808 ≤ op ∧ op ≤ 9223372036854775807) (ha : Fits a) (hb : Fits b) : Fits (xTwo op a b) := .mk h (by simp [Ex.n]) (by simp [Ex.name]) (by simp [Ex.args]) (by simp [Ex.args, ha, hb])
theorem fits_not {a : Ex} (ha : Fits a) : Fits (xNot a) := .mk (by simp [Ex.op]) (by simp [Ex.n]) (by simp [Ex.name]) (by simp [Ex.args]) (by simp [Ex.args, ha])
abbrev aF : List (ByteArray × Int) := [(sKnots, 2), (sWane, 0), (sWidth, 100)]
abbrev aFew : Ex := xTwo 8 (xName sKnots) (xNum 2)
abbrev aFewer : Ex := xTwo 7 (xName sKnots) (xNum 2)
abbrev aGreat : Ex := xTwo 7 (xTwo 5 (xName sWidth) (xNum 1099511627776)) (xNum 0)
abbrev aWane : Ex := xTwo 6 (xName sWane) (xNum 0)
theorem fFew : Fits aFew := fits_two (by omega) (fits_name (by decide)) (fits_num (by omega))
theorem fFewer : Fits aFewer := fits_two (by omega) (fits_name (by decide)) (fits_num (by omega))
theorem fGreat : Fits aGreat := fits_two (by omega) (fits_two (by omega) (fits_name (by decide)) (fits_num (by omega))) (fits_num (by omega))
theorem fWane : Fits aWane := fits_two (by omega) (fits_name (by decide)) (fits_num (by omega))
theorem aw1 : evalM aF aFew = (1, 0) := by decide
theorem aw2 : evalM aF aFewer = (0, 0) := by decide
theorem aw3 : evalM aF (xTwo 11 aFew aGreat) = (1, 0) := by decide
theorem aw4 : evalM aF (xTwo 10 aFew aGreat) = (0, 9) := by decide
theorem aw5 : gradeM [(3, aFewer), (2, aWane), (1, aFew)] aF = (2, 1, 0) := by decide
theorem aw6 : addAll [] (ment 8 (xTwo 7 (xName sWidth) (xTwo 3 (xName sKnots) (xName sWidth)))) = [sKnots, sWidth] := by decide +kernel
theorem aw7 : checkM [sKnots, sWane, sWidth] (xName sKnots) = 27 := by decide
theorem aw8 : checkM [sKnots, sWane, sWidth] (xTwo 8 (xName sDead) (xNum 2)) = 8 := by decide
theorem aw9 : checkM [sKnots, sWane, sWidth] aFew = 0 := by decide
theorem awake_run : F_law43_awake [] = some (B true) := by
  rw [F_law43_awake_eq]
  have e1 := Eval_run aF (by decide) aFew fFew
  have e2 := Eval_run aF (by decide) aFewer fFewer
  have e3 := Eval_run aF (by decide) (xTwo 11 aFew aGreat) (fits_two (by omega) fFew fGreat)
  have e4 := Eval_run aF (by decide) (xTwo 10 aFew aGreat) (fits_two (by omega) fFew fGreat)
  have e5 := Grade_run aF (by decide) [(3, aFewer), (2, aWane), (1, aFew)] (by simp) (by simp [fFewer, fWane, fFew])
  have e6 := Uses_run (xTwo 7 (xName sWidth) (xTwo 3 (xName sKnots) (xName sWidth))) (fits_two (by omega) (fits_name (by decide)) (fits_two (by omega) (fits_name (by decide)) (fits_name (by decide)))) (by decide)
  have e7 := Check_run [sKnots, sWane, sWidth] (by simp) (xName sKnots) (fits_name (by decide))
  have e8 := Check_run [sKnots, sWane, sWidth] (by simp) (xTwo 8 (xName sDead) (xNum 2)) (fits_two (by omega) (fits_name (by decide)) (fits_num (by omega)))
  have e9 := Check_run [sKnots, sWane, sWidth] (by simp) aFew fFew
  have e10 := Same_run [sKnots, sWidth] [sKnots, sWidth] (by simp)
  rw [aw1] at e1
  rw [aw2] at e2
  rw [aw3] at e3
  rw [aw4] at e4
  rw [aw5] at e5
  rw [uses_eq, aw6] at e6
  rw [aw7] at e7
  rw [aw8] at e8
  rw [aw9] at e9
  rw [sameS_refl] at e10
  simp at e1 e2 e3 e4 e5 e6 e7 e8 e9 e10
  simp [num_run, name_run, two_run, fold0, fold1, fold2, List.take_append, List.drop_append, List.take_of_length_le, List.drop_of_length_le, e1, e2, e3, e4, e5, e6, e7, e8, e9, e10]
end Go.Proofs.Ytkdmoefacgbgkaa
