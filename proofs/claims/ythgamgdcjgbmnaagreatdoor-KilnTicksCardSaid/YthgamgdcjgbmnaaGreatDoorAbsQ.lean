/-
  How the abstract interpreter is run by rewriting: which words unfold, and small laws.
-/
import Derived.Test.YthgamgdcjgbmnaaGreatDoorAbsP
namespace Go.Abs
set_option linter.unusedSimpArgs false
set_option linter.unusedVariables false
open Go

attribute [simp] init argsT keepT eop assignD fstep aop aopF appF ev ofV ofV1 getT setT delT getH setH killT killL St.put St.putO St.drop St.kill endR creates binD intBin strBin unD convD noneOf frz frzAgg frzAll
  killD mapT mapA kill1 killO refsTo isAppend storeS preStore moveO cidOf crow1 crowsS isCrow dropCells St.dropB newRowS slice3D evG capD makeFuncD eCallee frzArgs estep estep1 ecall lookN swp hasN nodupN lookAll ren1 renC renA renL renT renO refs1 refsC refsA addNew rootsE pairAll cellPairs rootPairs handed backN backs renHs gone loose hits kill1s killDs killOs killTs clearH setHs freeN emp0 putD resE noTup resEs resultE initE storeBox storeRow spliceD cellsD one shapeOk partsD partsI fillD buildD buildSliceD makeSliceD cellI cellsI rowsI chunk zrep flat isX loadD fieldAddrD fieldD indexAddrD indexD eltAt lenOp lenD min2D max2D foldD callD
  resL resD resC res1 resA resB isCell memfree mf2 mf1 appendD srcD moveRow maskH drawN dstore storeTgt resultD resVs resV expD expC exp1 liveOf rid headOf clearTo clearT dropIds usedC usedA usedL usedD usedH usedT sliceD bnd cutD partD eqD eqFs guardT undef List.lookup Value.oneCell'

/-- The bodies of loops in a code, in the order of the text. -/
def loopsIn : Code → List Code
  | .loop c => c :: loopsIn c
  | .seq a b => loopsIn a ++ loopsIn b
  | .cond _ a b => loopsIn a ++ loopsIn b
  | .block _ a => loopsIn a
  | _ => []
def bodyOf (fn : Func) : Code := fn.body.getD .skip

theorem bigL_succ (k : Nat) (hk : k ≤ 1000) : ∃ m, bigL = m + k := by
  have h1 := bigL_ge
  have h2 : 1000 ≤ (2 : Nat) ^ 64 := by decide
  exact ⟨bigL - k, by omega⟩

theorem wrap64 {n : Int} (h1 : -9223372036854775808 ≤ n) (h2 : n ≤ 9223372036854775807) : IntKind.i64.wrap n = n := by
  rw [IntKind.wrap_i64]; omega
@[simp] theorem wrap_lit {n : Int} (h : (decide (-9223372036854775808 ≤ n) && decide (n ≤ 9223372036854775807)) = true) : IntKind.i64.wrap n = n := by
  simp at h
  exact wrap64 h.1 h.2

@[simp] theorem str_eq (a b : ByteArray) : (a.toList == b.toList) = decide (a = b) := by
  by_cases h : a = b
  · subst h; simp
  · have : a.toList ≠ b.toList := fun e => h (by
      rw [Go.ByteArray.toList_eq, Go.ByteArray.toList_eq] at e
      cases a
      cases b
      exact congrArg ByteArray.mk (Array.toList_inj.1 e))
    simp [h, this]
@[simp] theorem int_beq (a b : Int) : (a == b) = decide (a = b) := by by_cases h : a = b <;> simp [h]
@[simp] theorem int_bne (a b : Int) : (a != b) = !decide (a = b) := by by_cases h : a = b <;> simp [h, bne]
attribute [simp] List.range_succ
end Go.Abs
