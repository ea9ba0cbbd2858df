/-
  Printed by gen.py for this seat: more of the functions.
-/
import Derived.Test.YtjhlidaikegelaaGreatGen1
namespace Go.Proofs.YtjhlidaikegelaaGreat
open Go Go.Abs
set_option maxRecDepth 100000
set_option linter.unusedSimpArgs false
set_option linter.unusedVariables false
-- sawmill/sawmillref19.sized: loops []; state: params 0..0, then [1, 2]
attribute [simp] Tryz.f105
noncomputable def an_ref19_sized : Ann := ⟨[1, 2], [], [], [], [], some [2], [], [], [(39, 0, 51, 2)], []⟩
@[simp] theorem an_ref19_sized_draws : an_ref19_sized.draws = [] := rfl
@[simp] theorem an_ref19_sized_exits : an_ref19_sized.exits = [] := rfl
@[simp] theorem an_ref19_sized_rets : an_ref19_sized.rets = some [2] := rfl
@[simp] theorem an_ref19_sized_keep : an_ref19_sized.keep = [1, 2] := rfl
@[simp] theorem an_ref19_sized_cond : an_ref19_sized.cond = [] := rfl
@[simp] theorem an_ref19_sized_rows : an_ref19_sized.rows = [] := rfl
@[simp] theorem an_ref19_sized_loops : an_ref19_sized.loops = [] := rfl
@[simp] theorem an_ref19_sized_ecalls : an_ref19_sized.ecalls = [] := rfl
@[simp] theorem an_ref19_sized_crows : an_ref19_sized.crows = [(39, 0, 51, 2)] := rfl
@[simp] theorem an_ref19_sized_tails : an_ref19_sized.tails = [] := rfl
@[simp] noncomputable def cl_ref19_sized : List (Nat × (List D → Option D)) := []
@[simp] noncomputable def ce_ref19_sized : List (Nat × (List (Nat × O) → List D → Option (D × List (Nat × O)))) := []
noncomputable def c_ref19_sized : CT := ⟨callOf (cl_ref19_sized ), callOfE ce_ref19_sized, gl⟩
@[simp] theorem c_ref19_sized_p (f : FuncId) (ds : List D) : c_ref19_sized.p f ds = callOf (cl_ref19_sized ) f ds := Eq.trans rfl rfl
@[simp] theorem c_ref19_sized_e (f : FuncId) (hs : List (Nat × O)) (ds : List D) : c_ref19_sized.e f hs ds = callOfE ce_ref19_sized f hs ds := Eq.trans rfl rfl
@[simp] theorem c_ref19_sized_g (g : Nat) : c_ref19_sized.g g = gl g := Eq.trans rfl rfl
noncomputable def L_ref19_sized (i n : Nat) (s : St) : Option (E × St) := atN Tryz.prog c_ref19_sized an_ref19_sized 21 (bodyOf Tryz.f105) i n s
noncomputable def H_ref19_sized (n i : Nat) (s : St) : Option (E × St) := atH Tryz.prog c_ref19_sized an_ref19_sized 21 (bodyOf Tryz.f105) n i s
@[simp] theorem H_ref19_sized_eq (n i : Nat) (s : St) : H_ref19_sized n i s = L_ref19_sized i n (headOf (an_ref19_sized.loops.lookup i) s) := rfl
noncomputable def R_ref19_sized (i : Nat) (s : St) : Option (E × St) := stepL Tryz.prog c_ref19_sized an_ref19_sized 21 (bodyOf Tryz.f105) i s
theorem lok_ref19_sized : okLoops (bodyOf Tryz.f105) = true := by kernel_rfl
noncomputable def F_ref19_sized (ds : List D) : Option D := runF Tryz.prog c_ref19_sized an_ref19_sized 21 (bodyOf Tryz.f105) [.tmp 2] ds
theorem F_ref19_sized_eq (ds : List D) : F_ref19_sized ds = runG Tryz.prog c_ref19_sized (H_ref19_sized bigL) an_ref19_sized 21 (bodyOf Tryz.f105) [.tmp 2] ds := runG_eq lok_ref19_sized _ ds
theorem C_ref19_sized (ds : List D) (r : D) (h : F_ref19_sized ds = some r) : Contract Tryz.prog gl 105 ds r := contract_of mix Tryz.func105 rfl (by kernel_rfl) (by kernel_rfl) (by decide) (call := c_ref19_sized) ⟨callOf_ok cl_ref19_sized trivial, callOfE_ok ce_ref19_sized trivial⟩ h
-- sawmill/sawmillref19.Green: loops []; state: params 0..0, then [1, 2, 3]
attribute [simp] Tryz.f79
noncomputable def an_ref19_Green : Ann := ⟨[1, 2, 3], [16], [], [], [], some [2, 3], [(3, 17)], [], [(39, 0, 51, 2)], []⟩
@[simp] theorem an_ref19_Green_draws : an_ref19_Green.draws = [(3, 17)] := rfl
@[simp] theorem an_ref19_Green_exits : an_ref19_Green.exits = [] := rfl
@[simp] theorem an_ref19_Green_rets : an_ref19_Green.rets = some [2, 3] := rfl
@[simp] theorem an_ref19_Green_keep : an_ref19_Green.keep = [1, 2, 3] := rfl
@[simp] theorem an_ref19_Green_cond : an_ref19_Green.cond = [16] := rfl
@[simp] theorem an_ref19_Green_rows : an_ref19_Green.rows = [] := rfl
@[simp] theorem an_ref19_Green_loops : an_ref19_Green.loops = [] := rfl
@[simp] theorem an_ref19_Green_ecalls : an_ref19_Green.ecalls = [] := rfl
@[simp] theorem an_ref19_Green_crows : an_ref19_Green.crows = [(39, 0, 51, 2)] := rfl
@[simp] theorem an_ref19_Green_tails : an_ref19_Green.tails = [] := rfl
@[simp] noncomputable def cl_ref19_Green : List (Nat × (List D → Option D)) := [(105, F_ref19_sized)]
@[simp] noncomputable def ce_ref19_Green : List (Nat × (List (Nat × O) → List D → Option (D × List (Nat × O)))) := []
noncomputable def c_ref19_Green : CT := ⟨callOf (cl_ref19_Green ), callOfE ce_ref19_Green, gl⟩
@[simp] theorem c_ref19_Green_p (f : FuncId) (ds : List D) : c_ref19_Green.p f ds = callOf (cl_ref19_Green ) f ds := Eq.trans rfl rfl
@[simp] theorem c_ref19_Green_e (f : FuncId) (hs : List (Nat × O)) (ds : List D) : c_ref19_Green.e f hs ds = callOfE ce_ref19_Green f hs ds := Eq.trans rfl rfl
@[simp] theorem c_ref19_Green_g (g : Nat) : c_ref19_Green.g g = gl g := Eq.trans rfl rfl
noncomputable def L_ref19_Green (i n : Nat) (s : St) : Option (E × St) := atN Tryz.prog c_ref19_Green an_ref19_Green 33 (bodyOf Tryz.f79) i n s
noncomputable def H_ref19_Green (n i : Nat) (s : St) : Option (E × St) := atH Tryz.prog c_ref19_Green an_ref19_Green 33 (bodyOf Tryz.f79) n i s
@[simp] theorem H_ref19_Green_eq (n i : Nat) (s : St) : H_ref19_Green n i s = L_ref19_Green i n (headOf (an_ref19_Green.loops.lookup i) s) := rfl
noncomputable def R_ref19_Green (i : Nat) (s : St) : Option (E × St) := stepL Tryz.prog c_ref19_Green an_ref19_Green 33 (bodyOf Tryz.f79) i s
theorem lok_ref19_Green : okLoops (bodyOf Tryz.f79) = true := by kernel_rfl
noncomputable def F_ref19_Green (ds : List D) : Option D := runF Tryz.prog c_ref19_Green an_ref19_Green 33 (bodyOf Tryz.f79) [.tmp 2, .tmp 3] ds
theorem F_ref19_Green_eq (ds : List D) : F_ref19_Green ds = runG Tryz.prog c_ref19_Green (H_ref19_Green bigL) an_ref19_Green 33 (bodyOf Tryz.f79) [.tmp 2, .tmp 3] ds := runG_eq lok_ref19_Green _ ds
theorem C_ref19_Green (ds : List D) (r : D) (h : F_ref19_Green ds = some r) : Contract Tryz.prog gl 79 ds r := contract_of mix Tryz.func79 rfl (by kernel_rfl) (by kernel_rfl) (by decide) (call := c_ref19_Green) ⟨callOf_ok cl_ref19_Green ⟨C_ref19_sized, trivial⟩, callOfE_ok ce_ref19_Green trivial⟩ h
-- sawmill/sawmillref19.checkLengths: loops [8, 15]; state: params 0..0, then [1, 2, 3, 4]
attribute [simp] Tryz.f80
noncomputable def an_ref19_checkLengths : Ann := ⟨[1, 2, 3, 4], [8, 12, 19, 24, 40, 56, 61, 77], [], [(8, [1, 3]), (15, [1, 4])], [(0, [1]), (1, [1, 3]), (2, []), (3, [1, 4])], some [2], [(12, 14)], [], [(39, 0, 51, 2)], []⟩
@[simp] theorem an_ref19_checkLengths_draws : an_ref19_checkLengths.draws = [(12, 14)] := rfl
@[simp] theorem an_ref19_checkLengths_exits : an_ref19_checkLengths.exits = [(0, [1]), (1, [1, 3]), (2, []), (3, [1, 4])] := rfl
@[simp] theorem an_ref19_checkLengths_rets : an_ref19_checkLengths.rets = some [2] := rfl
@[simp] theorem an_ref19_checkLengths_keep : an_ref19_checkLengths.keep = [1, 2, 3, 4] := rfl
@[simp] theorem an_ref19_checkLengths_cond : an_ref19_checkLengths.cond = [8, 12, 19, 24, 40, 56, 61, 77] := rfl
@[simp] theorem an_ref19_checkLengths_rows : an_ref19_checkLengths.rows = [] := rfl
@[simp] theorem an_ref19_checkLengths_loops : an_ref19_checkLengths.loops = [(8, [1, 3]), (15, [1, 4])] := rfl
@[simp] theorem an_ref19_checkLengths_ecalls : an_ref19_checkLengths.ecalls = [] := rfl
@[simp] theorem an_ref19_checkLengths_crows : an_ref19_checkLengths.crows = [(39, 0, 51, 2)] := rfl
@[simp] theorem an_ref19_checkLengths_tails : an_ref19_checkLengths.tails = [] := rfl
@[simp] noncomputable def cl_ref19_checkLengths : List (Nat × (List D → Option D)) := []
@[simp] noncomputable def ce_ref19_checkLengths : List (Nat × (List (Nat × O) → List D → Option (D × List (Nat × O)))) := []
noncomputable def c_ref19_checkLengths : CT := ⟨callOf (cl_ref19_checkLengths ), callOfE ce_ref19_checkLengths, gl⟩
@[simp] theorem c_ref19_checkLengths_p (f : FuncId) (ds : List D) : c_ref19_checkLengths.p f ds = callOf (cl_ref19_checkLengths ) f ds := Eq.trans rfl rfl
@[simp] theorem c_ref19_checkLengths_e (f : FuncId) (hs : List (Nat × O)) (ds : List D) : c_ref19_checkLengths.e f hs ds = callOfE ce_ref19_checkLengths f hs ds := Eq.trans rfl rfl
@[simp] theorem c_ref19_checkLengths_g (g : Nat) : c_ref19_checkLengths.g g = gl g := Eq.trans rfl rfl
noncomputable def L_ref19_checkLengths (i n : Nat) (s : St) : Option (E × St) := atN Tryz.prog c_ref19_checkLengths an_ref19_checkLengths 78 (bodyOf Tryz.f80) i n s
noncomputable def H_ref19_checkLengths (n i : Nat) (s : St) : Option (E × St) := atH Tryz.prog c_ref19_checkLengths an_ref19_checkLengths 78 (bodyOf Tryz.f80) n i s
@[simp] theorem H_ref19_checkLengths_eq (n i : Nat) (s : St) : H_ref19_checkLengths n i s = L_ref19_checkLengths i n (headOf (an_ref19_checkLengths.loops.lookup i) s) := rfl
noncomputable def R_ref19_checkLengths (i : Nat) (s : St) : Option (E × St) := stepL Tryz.prog c_ref19_checkLengths an_ref19_checkLengths 78 (bodyOf Tryz.f80) i s
theorem lok_ref19_checkLengths : okLoops (bodyOf Tryz.f80) = true := by kernel_rfl
theorem L_ref19_checkLengths_zero (i : Nat) (s : St) : L_ref19_checkLengths i 0 s = none := rfl
theorem L_ref19_checkLengths_succ (i n : Nat) (s : St) : L_ref19_checkLengths i (n + 1) s = andThen (R_ref19_checkLengths i s) (H_ref19_checkLengths n i) := atN_succ lok_ref19_checkLengths i n s
theorem R_ref19_checkLengths_eq (i : Nat) (s : St) : R_ref19_checkLengths i s = runS Tryz.prog c_ref19_checkLengths (H_ref19_checkLengths bigL) an_ref19_checkLengths 78 (loopAt (bodyOf Tryz.f80) i) s := rfl
noncomputable def F_ref19_checkLengths (ds : List D) : Option D := runF Tryz.prog c_ref19_checkLengths an_ref19_checkLengths 78 (bodyOf Tryz.f80) [.tmp 2] ds
theorem F_ref19_checkLengths_eq (ds : List D) : F_ref19_checkLengths ds = runG Tryz.prog c_ref19_checkLengths (H_ref19_checkLengths bigL) an_ref19_checkLengths 78 (bodyOf Tryz.f80) [.tmp 2] ds := runG_eq lok_ref19_checkLengths _ ds
theorem C_ref19_checkLengths (ds : List D) (r : D) (h : F_ref19_checkLengths ds = some r) : Contract Tryz.prog gl 80 ds r := contract_of mix Tryz.func80 rfl (by kernel_rfl) (by kernel_rfl) (by decide) (call := c_ref19_checkLengths) ⟨callOf_ok cl_ref19_checkLengths trivial, callOfE_ok ce_ref19_checkLengths trivial⟩ h
-- sawmill/sawmillref19.Check: loops [4, 10]; state: params 0..0, then [2, 3, 4, 5, 7, 8]
attribute [simp] Tryz.f42
noncomputable def an_ref19_Check : Ann := ⟨[0, 2, 3, 4, 5, 7, 8], [11, 15, 25, 28, 38, 78, 85, 89], [], [(4, [0, 3]), (10, [0, 3, 4, 5])], [(0, []), (1, [0, 3]), (2, [0, 3, 4]), (3, [0, 3, 4, 5])], some [2], [(12, 7)], [], [(39, 0, 51, 2)], []⟩
@[simp] theorem an_ref19_Check_draws : an_ref19_Check.draws = [(12, 7)] := rfl
@[simp] theorem an_ref19_Check_exits : an_ref19_Check.exits = [(0, []), (1, [0, 3]), (2, [0, 3, 4]), (3, [0, 3, 4, 5])] := rfl
@[simp] theorem an_ref19_Check_rets : an_ref19_Check.rets = some [2] := rfl
@[simp] theorem an_ref19_Check_keep : an_ref19_Check.keep = [0, 2, 3, 4, 5, 7, 8] := rfl
@[simp] theorem an_ref19_Check_cond : an_ref19_Check.cond = [11, 15, 25, 28, 38, 78, 85, 89] := rfl
@[simp] theorem an_ref19_Check_rows : an_ref19_Check.rows = [] := rfl
@[simp] theorem an_ref19_Check_loops : an_ref19_Check.loops = [(4, [0, 3]), (10, [0, 3, 4, 5])] := rfl
@[simp] theorem an_ref19_Check_ecalls : an_ref19_Check.ecalls = [] := rfl
@[simp] theorem an_ref19_Check_crows : an_ref19_Check.crows = [(39, 0, 51, 2)] := rfl
@[simp] theorem an_ref19_Check_tails : an_ref19_Check.tails = [] := rfl
@[simp] noncomputable def cl_ref19_Check : List (Nat × (List D → Option D)) := [(44, F_ref02_IsName), (79, F_ref19_Green), (80, F_ref19_checkLengths)]
@[simp] noncomputable def ce_ref19_Check : List (Nat × (List (Nat × O) → List D → Option (D × List (Nat × O)))) := []
noncomputable def c_ref19_Check : CT := ⟨callOf (cl_ref19_Check ), callOfE ce_ref19_Check, gl⟩
@[simp] theorem c_ref19_Check_p (f : FuncId) (ds : List D) : c_ref19_Check.p f ds = callOf (cl_ref19_Check ) f ds := Eq.trans rfl rfl
@[simp] theorem c_ref19_Check_e (f : FuncId) (hs : List (Nat × O)) (ds : List D) : c_ref19_Check.e f hs ds = callOfE ce_ref19_Check f hs ds := Eq.trans rfl rfl
@[simp] theorem c_ref19_Check_g (g : Nat) : c_ref19_Check.g g = gl g := Eq.trans rfl rfl
noncomputable def L_ref19_Check (i n : Nat) (s : St) : Option (E × St) := atN Tryz.prog c_ref19_Check an_ref19_Check 91 (bodyOf Tryz.f42) i n s
noncomputable def H_ref19_Check (n i : Nat) (s : St) : Option (E × St) := atH Tryz.prog c_ref19_Check an_ref19_Check 91 (bodyOf Tryz.f42) n i s
@[simp] theorem H_ref19_Check_eq (n i : Nat) (s : St) : H_ref19_Check n i s = L_ref19_Check i n (headOf (an_ref19_Check.loops.lookup i) s) := rfl
noncomputable def R_ref19_Check (i : Nat) (s : St) : Option (E × St) := stepL Tryz.prog c_ref19_Check an_ref19_Check 91 (bodyOf Tryz.f42) i s
theorem lok_ref19_Check : okLoops (bodyOf Tryz.f42) = true := by kernel_rfl
theorem L_ref19_Check_zero (i : Nat) (s : St) : L_ref19_Check i 0 s = none := rfl
theorem L_ref19_Check_succ (i n : Nat) (s : St) : L_ref19_Check i (n + 1) s = andThen (R_ref19_Check i s) (H_ref19_Check n i) := atN_succ lok_ref19_Check i n s
theorem R_ref19_Check_eq (i : Nat) (s : St) : R_ref19_Check i s = runS Tryz.prog c_ref19_Check (H_ref19_Check bigL) an_ref19_Check 91 (loopAt (bodyOf Tryz.f42) i) s := rfl
noncomputable def F_ref19_Check (ds : List D) : Option D := runF Tryz.prog c_ref19_Check an_ref19_Check 91 (bodyOf Tryz.f42) [.tmp 2] ds
theorem F_ref19_Check_eq (ds : List D) : F_ref19_Check ds = runG Tryz.prog c_ref19_Check (H_ref19_Check bigL) an_ref19_Check 91 (bodyOf Tryz.f42) [.tmp 2] ds := runG_eq lok_ref19_Check _ ds
theorem C_ref19_Check (ds : List D) (r : D) (h : F_ref19_Check ds = some r) : Contract Tryz.prog gl 42 ds r := contract_of mix Tryz.func42 rfl (by kernel_rfl) (by kernel_rfl) (by decide) (call := c_ref19_Check) ⟨callOf_ok cl_ref19_Check ⟨C_ref02_IsName, C_ref19_Green, C_ref19_checkLengths, trivial⟩, callOfE_ok ce_ref19_Check trivial⟩ h
-- sawmill/sawmillref02.capital: loops []; state: params 0..0, then [2]
attribute [simp] Tryz.f106
noncomputable def an_ref02_capital : Ann := ⟨[2], [], [], [], [], some [2], [], [], [(39, 0, 51, 2)], []⟩
@[simp] theorem an_ref02_capital_draws : an_ref02_capital.draws = [] := rfl
@[simp] theorem an_ref02_capital_exits : an_ref02_capital.exits = [] := rfl
@[simp] theorem an_ref02_capital_rets : an_ref02_capital.rets = some [2] := rfl
@[simp] theorem an_ref02_capital_keep : an_ref02_capital.keep = [2] := rfl
@[simp] theorem an_ref02_capital_cond : an_ref02_capital.cond = [] := rfl
@[simp] theorem an_ref02_capital_rows : an_ref02_capital.rows = [] := rfl
@[simp] theorem an_ref02_capital_loops : an_ref02_capital.loops = [] := rfl
@[simp] theorem an_ref02_capital_ecalls : an_ref02_capital.ecalls = [] := rfl
@[simp] theorem an_ref02_capital_crows : an_ref02_capital.crows = [(39, 0, 51, 2)] := rfl
@[simp] theorem an_ref02_capital_tails : an_ref02_capital.tails = [] := rfl
@[simp] noncomputable def cl_ref02_capital : List (Nat × (List D → Option D)) := []
@[simp] noncomputable def ce_ref02_capital : List (Nat × (List (Nat × O) → List D → Option (D × List (Nat × O)))) := []
noncomputable def c_ref02_capital : CT := ⟨callOf (cl_ref02_capital ), callOfE ce_ref02_capital, gl⟩
@[simp] theorem c_ref02_capital_p (f : FuncId) (ds : List D) : c_ref02_capital.p f ds = callOf (cl_ref02_capital ) f ds := Eq.trans rfl rfl
@[simp] theorem c_ref02_capital_e (f : FuncId) (hs : List (Nat × O)) (ds : List D) : c_ref02_capital.e f hs ds = callOfE ce_ref02_capital f hs ds := Eq.trans rfl rfl
@[simp] theorem c_ref02_capital_g (g : Nat) : c_ref02_capital.g g = gl g := Eq.trans rfl rfl
noncomputable def L_ref02_capital (i n : Nat) (s : St) : Option (E × St) := atN Tryz.prog c_ref02_capital an_ref02_capital 9 (bodyOf Tryz.f106) i n s
noncomputable def H_ref02_capital (n i : Nat) (s : St) : Option (E × St) := atH Tryz.prog c_ref02_capital an_ref02_capital 9 (bodyOf Tryz.f106) n i s
@[simp] theorem H_ref02_capital_eq (n i : Nat) (s : St) : H_ref02_capital n i s = L_ref02_capital i n (headOf (an_ref02_capital.loops.lookup i) s) := rfl
noncomputable def R_ref02_capital (i : Nat) (s : St) : Option (E × St) := stepL Tryz.prog c_ref02_capital an_ref02_capital 9 (bodyOf Tryz.f106) i s
theorem lok_ref02_capital : okLoops (bodyOf Tryz.f106) = true := by kernel_rfl
noncomputable def F_ref02_capital (ds : List D) : Option D := runF Tryz.prog c_ref02_capital an_ref02_capital 9 (bodyOf Tryz.f106) [.tmp 2] ds
theorem F_ref02_capital_eq (ds : List D) : F_ref02_capital ds = runG Tryz.prog c_ref02_capital (H_ref02_capital bigL) an_ref02_capital 9 (bodyOf Tryz.f106) [.tmp 2] ds := runG_eq lok_ref02_capital _ ds
theorem C_ref02_capital (ds : List D) (r : D) (h : F_ref02_capital ds = some r) : Contract Tryz.prog gl 106 ds r := contract_of mix Tryz.func106 rfl (by kernel_rfl) (by kernel_rfl) (by decide) (call := c_ref02_capital) ⟨callOf_ok cl_ref02_capital trivial, callOfE_ok ce_ref02_capital trivial⟩ h
-- sawmill/sawmillref02.Letter: loops [3]; state: params 0..0, then [2, 3, 4]
attribute [simp] Tryz.f107
noncomputable def an_ref02_Letter : Ann := ⟨[0, 2, 3, 4], [8], [], [(3, [0, 3, 4])], [(0, [3]), (1, [0, 3, 4])], some [2], [], [], [(39, 0, 51, 2)], []⟩
@[simp] theorem an_ref02_Letter_draws : an_ref02_Letter.draws = [] := rfl
@[simp] theorem an_ref02_Letter_exits : an_ref02_Letter.exits = [(0, [3]), (1, [0, 3, 4])] := rfl
@[simp] theorem an_ref02_Letter_rets : an_ref02_Letter.rets = some [2] := rfl
@[simp] theorem an_ref02_Letter_keep : an_ref02_Letter.keep = [0, 2, 3, 4] := rfl
@[simp] theorem an_ref02_Letter_cond : an_ref02_Letter.cond = [8] := rfl
@[simp] theorem an_ref02_Letter_rows : an_ref02_Letter.rows = [] := rfl
@[simp] theorem an_ref02_Letter_loops : an_ref02_Letter.loops = [(3, [0, 3, 4])] := rfl
@[simp] theorem an_ref02_Letter_ecalls : an_ref02_Letter.ecalls = [] := rfl
@[simp] theorem an_ref02_Letter_crows : an_ref02_Letter.crows = [(39, 0, 51, 2)] := rfl
@[simp] theorem an_ref02_Letter_tails : an_ref02_Letter.tails = [] := rfl
@[simp] noncomputable def cl_ref02_Letter : List (Nat × (List D → Option D)) := []
@[simp] noncomputable def ce_ref02_Letter : List (Nat × (List (Nat × O) → List D → Option (D × List (Nat × O)))) := []
noncomputable def c_ref02_Letter : CT := ⟨callOf (cl_ref02_Letter ), callOfE ce_ref02_Letter, gl⟩
@[simp] theorem c_ref02_Letter_p (f : FuncId) (ds : List D) : c_ref02_Letter.p f ds = callOf (cl_ref02_Letter ) f ds := Eq.trans rfl rfl
@[simp] theorem c_ref02_Letter_e (f : FuncId) (hs : List (Nat × O)) (ds : List D) : c_ref02_Letter.e f hs ds = callOfE ce_ref02_Letter f hs ds := Eq.trans rfl rfl
@[simp] theorem c_ref02_Letter_g (g : Nat) : c_ref02_Letter.g g = gl g := Eq.trans rfl rfl
noncomputable def L_ref02_Letter (i n : Nat) (s : St) : Option (E × St) := atN Tryz.prog c_ref02_Letter an_ref02_Letter 25 (bodyOf Tryz.f107) i n s
noncomputable def H_ref02_Letter (n i : Nat) (s : St) : Option (E × St) := atH Tryz.prog c_ref02_Letter an_ref02_Letter 25 (bodyOf Tryz.f107) n i s
@[simp] theorem H_ref02_Letter_eq (n i : Nat) (s : St) : H_ref02_Letter n i s = L_ref02_Letter i n (headOf (an_ref02_Letter.loops.lookup i) s) := rfl
noncomputable def R_ref02_Letter (i : Nat) (s : St) : Option (E × St) := stepL Tryz.prog c_ref02_Letter an_ref02_Letter 25 (bodyOf Tryz.f107) i s
theorem lok_ref02_Letter : okLoops (bodyOf Tryz.f107) = true := by kernel_rfl
theorem L_ref02_Letter_zero (i : Nat) (s : St) : L_ref02_Letter i 0 s = none := rfl
theorem L_ref02_Letter_succ (i n : Nat) (s : St) : L_ref02_Letter i (n + 1) s = andThen (R_ref02_Letter i s) (H_ref02_Letter n i) := atN_succ lok_ref02_Letter i n s
theorem R_ref02_Letter_eq (i : Nat) (s : St) : R_ref02_Letter i s = runS Tryz.prog c_ref02_Letter (H_ref02_Letter bigL) an_ref02_Letter 25 (loopAt (bodyOf Tryz.f107) i) s := rfl
noncomputable def F_ref02_Letter (ds : List D) : Option D := runF Tryz.prog c_ref02_Letter an_ref02_Letter 25 (bodyOf Tryz.f107) [.tmp 2] ds
theorem F_ref02_Letter_eq (ds : List D) : F_ref02_Letter ds = runG Tryz.prog c_ref02_Letter (H_ref02_Letter bigL) an_ref02_Letter 25 (bodyOf Tryz.f107) [.tmp 2] ds := runG_eq lok_ref02_Letter _ ds
theorem C_ref02_Letter (ds : List D) (r : D) (h : F_ref02_Letter ds = some r) : Contract Tryz.prog gl 107 ds r := contract_of mix Tryz.func107 rfl (by kernel_rfl) (by kernel_rfl) (by decide) (call := c_ref02_Letter) ⟨callOf_ok cl_ref02_Letter trivial, callOfE_ok ce_ref02_Letter trivial⟩ h
-- sawmill/sawmillref02.Split: loops [7]; state: params 0..0, then [2, 3, 4, 5, 6]
attribute [simp] Tryz.f81
noncomputable def an_ref02_Split : Ann := ⟨[0, 2, 3, 4, 5, 6], [9, 13, 15, 22, 36], [], [(7, [0, 5, 6])], [(0, [0, 5]), (1, [0, 5, 6])], some [2, 3, 4], [(12, 5)], [], [(39, 0, 51, 2)], []⟩
@[simp] theorem an_ref02_Split_draws : an_ref02_Split.draws = [(12, 5)] := rfl
@[simp] theorem an_ref02_Split_exits : an_ref02_Split.exits = [(0, [0, 5]), (1, [0, 5, 6])] := rfl
@[simp] theorem an_ref02_Split_rets : an_ref02_Split.rets = some [2, 3, 4] := rfl
@[simp] theorem an_ref02_Split_keep : an_ref02_Split.keep = [0, 2, 3, 4, 5, 6] := rfl
@[simp] theorem an_ref02_Split_cond : an_ref02_Split.cond = [9, 13, 15, 22, 36] := rfl
@[simp] theorem an_ref02_Split_rows : an_ref02_Split.rows = [] := rfl
@[simp] theorem an_ref02_Split_loops : an_ref02_Split.loops = [(7, [0, 5, 6])] := rfl
@[simp] theorem an_ref02_Split_ecalls : an_ref02_Split.ecalls = [] := rfl
@[simp] theorem an_ref02_Split_crows : an_ref02_Split.crows = [(39, 0, 51, 2)] := rfl
@[simp] theorem an_ref02_Split_tails : an_ref02_Split.tails = [] := rfl
@[simp] noncomputable def cl_ref02_Split : List (Nat × (List D → Option D)) := [(82, F_ref02_digit), (106, F_ref02_capital), (107, F_ref02_Letter)]
@[simp] noncomputable def ce_ref02_Split : List (Nat × (List (Nat × O) → List D → Option (D × List (Nat × O)))) := []
noncomputable def c_ref02_Split : CT := ⟨callOf (cl_ref02_Split ), callOfE ce_ref02_Split, gl⟩
@[simp] theorem c_ref02_Split_p (f : FuncId) (ds : List D) : c_ref02_Split.p f ds = callOf (cl_ref02_Split ) f ds := Eq.trans rfl rfl
@[simp] theorem c_ref02_Split_e (f : FuncId) (hs : List (Nat × O)) (ds : List D) : c_ref02_Split.e f hs ds = callOfE ce_ref02_Split f hs ds := Eq.trans rfl rfl
@[simp] theorem c_ref02_Split_g (g : Nat) : c_ref02_Split.g g = gl g := Eq.trans rfl rfl
noncomputable def L_ref02_Split (i n : Nat) (s : St) : Option (E × St) := atN Tryz.prog c_ref02_Split an_ref02_Split 40 (bodyOf Tryz.f81) i n s
noncomputable def H_ref02_Split (n i : Nat) (s : St) : Option (E × St) := atH Tryz.prog c_ref02_Split an_ref02_Split 40 (bodyOf Tryz.f81) n i s
@[simp] theorem H_ref02_Split_eq (n i : Nat) (s : St) : H_ref02_Split n i s = L_ref02_Split i n (headOf (an_ref02_Split.loops.lookup i) s) := rfl
noncomputable def R_ref02_Split (i : Nat) (s : St) : Option (E × St) := stepL Tryz.prog c_ref02_Split an_ref02_Split 40 (bodyOf Tryz.f81) i s
theorem lok_ref02_Split : okLoops (bodyOf Tryz.f81) = true := by kernel_rfl
theorem L_ref02_Split_zero (i : Nat) (s : St) : L_ref02_Split i 0 s = none := rfl
theorem L_ref02_Split_succ (i n : Nat) (s : St) : L_ref02_Split i (n + 1) s = andThen (R_ref02_Split i s) (H_ref02_Split n i) := atN_succ lok_ref02_Split i n s
theorem R_ref02_Split_eq (i : Nat) (s : St) : R_ref02_Split i s = runS Tryz.prog c_ref02_Split (H_ref02_Split bigL) an_ref02_Split 40 (loopAt (bodyOf Tryz.f81) i) s := rfl
noncomputable def F_ref02_Split (ds : List D) : Option D := runF Tryz.prog c_ref02_Split an_ref02_Split 40 (bodyOf Tryz.f81) [.tmp 2, .tmp 3, .tmp 4] ds
theorem F_ref02_Split_eq (ds : List D) : F_ref02_Split ds = runG Tryz.prog c_ref02_Split (H_ref02_Split bigL) an_ref02_Split 40 (bodyOf Tryz.f81) [.tmp 2, .tmp 3, .tmp 4] ds := runG_eq lok_ref02_Split _ ds
theorem C_ref02_Split (ds : List D) (r : D) (h : F_ref02_Split ds = some r) : Contract Tryz.prog gl 81 ds r := contract_of mix Tryz.func81 rfl (by kernel_rfl) (by kernel_rfl) (by decide) (call := c_ref02_Split) ⟨callOf_ok cl_ref02_Split ⟨C_ref02_digit, C_ref02_capital, C_ref02_Letter, trivial⟩, callOfE_ok ce_ref02_Split trivial⟩ h
-- sawmill/sawmillref02.Is: loops []; state: params 0..1, then [4, 5, 7]
attribute [simp] Tryz.f43
noncomputable def an_ref02_Is : Ann := ⟨[4, 5, 7], [], [], [], [], some [4], [], [], [(39, 0, 51, 2)], []⟩
@[simp] theorem an_ref02_Is_draws : an_ref02_Is.draws = [] := rfl
@[simp] theorem an_ref02_Is_exits : an_ref02_Is.exits = [] := rfl
@[simp] theorem an_ref02_Is_rets : an_ref02_Is.rets = some [4] := rfl
@[simp] theorem an_ref02_Is_keep : an_ref02_Is.keep = [4, 5, 7] := rfl
@[simp] theorem an_ref02_Is_cond : an_ref02_Is.cond = [] := rfl
@[simp] theorem an_ref02_Is_rows : an_ref02_Is.rows = [] := rfl
@[simp] theorem an_ref02_Is_loops : an_ref02_Is.loops = [] := rfl
@[simp] theorem an_ref02_Is_ecalls : an_ref02_Is.ecalls = [] := rfl
@[simp] theorem an_ref02_Is_crows : an_ref02_Is.crows = [(39, 0, 51, 2)] := rfl
@[simp] theorem an_ref02_Is_tails : an_ref02_Is.tails = [] := rfl
@[simp] noncomputable def cl_ref02_Is : List (Nat × (List D → Option D)) := [(81, F_ref02_Split)]
@[simp] noncomputable def ce_ref02_Is : List (Nat × (List (Nat × O) → List D → Option (D × List (Nat × O)))) := []
noncomputable def c_ref02_Is : CT := ⟨callOf (cl_ref02_Is ), callOfE ce_ref02_Is, gl⟩
@[simp] theorem c_ref02_Is_p (f : FuncId) (ds : List D) : c_ref02_Is.p f ds = callOf (cl_ref02_Is ) f ds := Eq.trans rfl rfl
@[simp] theorem c_ref02_Is_e (f : FuncId) (hs : List (Nat × O)) (ds : List D) : c_ref02_Is.e f hs ds = callOfE ce_ref02_Is f hs ds := Eq.trans rfl rfl
@[simp] theorem c_ref02_Is_g (g : Nat) : c_ref02_Is.g g = gl g := Eq.trans rfl rfl
noncomputable def L_ref02_Is (i n : Nat) (s : St) : Option (E × St) := atN Tryz.prog c_ref02_Is an_ref02_Is 21 (bodyOf Tryz.f43) i n s
noncomputable def H_ref02_Is (n i : Nat) (s : St) : Option (E × St) := atH Tryz.prog c_ref02_Is an_ref02_Is 21 (bodyOf Tryz.f43) n i s
@[simp] theorem H_ref02_Is_eq (n i : Nat) (s : St) : H_ref02_Is n i s = L_ref02_Is i n (headOf (an_ref02_Is.loops.lookup i) s) := rfl
noncomputable def R_ref02_Is (i : Nat) (s : St) : Option (E × St) := stepL Tryz.prog c_ref02_Is an_ref02_Is 21 (bodyOf Tryz.f43) i s
theorem lok_ref02_Is : okLoops (bodyOf Tryz.f43) = true := by kernel_rfl
noncomputable def F_ref02_Is (ds : List D) : Option D := runF Tryz.prog c_ref02_Is an_ref02_Is 21 (bodyOf Tryz.f43) [.tmp 4] ds
theorem F_ref02_Is_eq (ds : List D) : F_ref02_Is ds = runG Tryz.prog c_ref02_Is (H_ref02_Is bigL) an_ref02_Is 21 (bodyOf Tryz.f43) [.tmp 4] ds := runG_eq lok_ref02_Is _ ds
theorem C_ref02_Is (ds : List D) (r : D) (h : F_ref02_Is ds = some r) : Contract Tryz.prog gl 43 ds r := contract_of mix Tryz.func43 rfl (by kernel_rfl) (by kernel_rfl) (by decide) (call := c_ref02_Is) ⟨callOf_ok cl_ref02_Is ⟨C_ref02_Split, trivial⟩, callOfE_ok ce_ref02_Is trivial⟩ h
-- sawmill/sawmillref13.Empty: loops []; state: params 0..0, then [1, 2]
attribute [simp] Tryz.f83
noncomputable def an_ref13_Empty : Ann := ⟨[1, 2], [], [], [], [], some [2], [], [], [(39, 0, 51, 2)], []⟩
@[simp] theorem an_ref13_Empty_draws : an_ref13_Empty.draws = [] := rfl
@[simp] theorem an_ref13_Empty_exits : an_ref13_Empty.exits = [] := rfl
@[simp] theorem an_ref13_Empty_rets : an_ref13_Empty.rets = some [2] := rfl
@[simp] theorem an_ref13_Empty_keep : an_ref13_Empty.keep = [1, 2] := rfl
@[simp] theorem an_ref13_Empty_cond : an_ref13_Empty.cond = [] := rfl
@[simp] theorem an_ref13_Empty_rows : an_ref13_Empty.rows = [] := rfl
@[simp] theorem an_ref13_Empty_loops : an_ref13_Empty.loops = [] := rfl
@[simp] theorem an_ref13_Empty_ecalls : an_ref13_Empty.ecalls = [] := rfl
@[simp] theorem an_ref13_Empty_crows : an_ref13_Empty.crows = [(39, 0, 51, 2)] := rfl
@[simp] theorem an_ref13_Empty_tails : an_ref13_Empty.tails = [] := rfl
@[simp] noncomputable def cl_ref13_Empty : List (Nat × (List D → Option D)) := []
@[simp] noncomputable def ce_ref13_Empty : List (Nat × (List (Nat × O) → List D → Option (D × List (Nat × O)))) := []
noncomputable def c_ref13_Empty : CT := ⟨callOf (cl_ref13_Empty ), callOfE ce_ref13_Empty, gl⟩
@[simp] theorem c_ref13_Empty_p (f : FuncId) (ds : List D) : c_ref13_Empty.p f ds = callOf (cl_ref13_Empty ) f ds := Eq.trans rfl rfl
@[simp] theorem c_ref13_Empty_e (f : FuncId) (hs : List (Nat × O)) (ds : List D) : c_ref13_Empty.e f hs ds = callOfE ce_ref13_Empty f hs ds := Eq.trans rfl rfl
@[simp] theorem c_ref13_Empty_g (g : Nat) : c_ref13_Empty.g g = gl g := Eq.trans rfl rfl
noncomputable def L_ref13_Empty (i n : Nat) (s : St) : Option (E × St) := atN Tryz.prog c_ref13_Empty an_ref13_Empty 28 (bodyOf Tryz.f83) i n s
noncomputable def H_ref13_Empty (n i : Nat) (s : St) : Option (E × St) := atH Tryz.prog c_ref13_Empty an_ref13_Empty 28 (bodyOf Tryz.f83) n i s
@[simp] theorem H_ref13_Empty_eq (n i : Nat) (s : St) : H_ref13_Empty n i s = L_ref13_Empty i n (headOf (an_ref13_Empty.loops.lookup i) s) := rfl
noncomputable def R_ref13_Empty (i : Nat) (s : St) : Option (E × St) := stepL Tryz.prog c_ref13_Empty an_ref13_Empty 28 (bodyOf Tryz.f83) i s
theorem lok_ref13_Empty : okLoops (bodyOf Tryz.f83) = true := by kernel_rfl
noncomputable def F_ref13_Empty (ds : List D) : Option D := runF Tryz.prog c_ref13_Empty an_ref13_Empty 28 (bodyOf Tryz.f83) [.tmp 2] ds
theorem F_ref13_Empty_eq (ds : List D) : F_ref13_Empty ds = runG Tryz.prog c_ref13_Empty (H_ref13_Empty bigL) an_ref13_Empty 28 (bodyOf Tryz.f83) [.tmp 2] ds := runG_eq lok_ref13_Empty _ ds
theorem C_ref13_Empty (ds : List D) (r : D) (h : F_ref13_Empty ds = some r) : Contract Tryz.prog gl 83 ds r := contract_of mix Tryz.func83 rfl (by kernel_rfl) (by kernel_rfl) (by decide) (call := c_ref13_Empty) ⟨callOf_ok cl_ref13_Empty trivial, callOfE_ok ce_ref13_Empty trivial⟩ h
-- sawmill/sawmillref30.within: loops []; state: params 0..2, then [3, 6]
attribute [simp] Tryz.f50
noncomputable def an_ref30_within : Ann := ⟨[3, 6], [], [], [], [], some [6], [], [], [(39, 0, 51, 2)], []⟩
@[simp] theorem an_ref30_within_draws : an_ref30_within.draws = [] := rfl
@[simp] theorem an_ref30_within_exits : an_ref30_within.exits = [] := rfl
@[simp] theorem an_ref30_within_rets : an_ref30_within.rets = some [6] := rfl
@[simp] theorem an_ref30_within_keep : an_ref30_within.keep = [3, 6] := rfl
@[simp] theorem an_ref30_within_cond : an_ref30_within.cond = [] := rfl
@[simp] theorem an_ref30_within_rows : an_ref30_within.rows = [] := rfl
@[simp] theorem an_ref30_within_loops : an_ref30_within.loops = [] := rfl
@[simp] theorem an_ref30_within_ecalls : an_ref30_within.ecalls = [] := rfl
@[simp] theorem an_ref30_within_crows : an_ref30_within.crows = [(39, 0, 51, 2)] := rfl
@[simp] theorem an_ref30_within_tails : an_ref30_within.tails = [] := rfl
@[simp] noncomputable def cl_ref30_within : List (Nat × (List D → Option D)) := []
@[simp] noncomputable def ce_ref30_within : List (Nat × (List (Nat × O) → List D → Option (D × List (Nat × O)))) := []
noncomputable def c_ref30_within : CT := ⟨callOf (cl_ref30_within ), callOfE ce_ref30_within, gl⟩
@[simp] theorem c_ref30_within_p (f : FuncId) (ds : List D) : c_ref30_within.p f ds = callOf (cl_ref30_within ) f ds := Eq.trans rfl rfl
@[simp] theorem c_ref30_within_e (f : FuncId) (hs : List (Nat × O)) (ds : List D) : c_ref30_within.e f hs ds = callOfE ce_ref30_within f hs ds := Eq.trans rfl rfl
@[simp] theorem c_ref30_within_g (g : Nat) : c_ref30_within.g g = gl g := Eq.trans rfl rfl
noncomputable def L_ref30_within (i n : Nat) (s : St) : Option (E × St) := atN Tryz.prog c_ref30_within an_ref30_within 29 (bodyOf Tryz.f50) i n s
noncomputable def H_ref30_within (n i : Nat) (s : St) : Option (E × St) := atH Tryz.prog c_ref30_within an_ref30_within 29 (bodyOf Tryz.f50) n i s
@[simp] theorem H_ref30_within_eq (n i : Nat) (s : St) : H_ref30_within n i s = L_ref30_within i n (headOf (an_ref30_within.loops.lookup i) s) := rfl
noncomputable def R_ref30_within (i : Nat) (s : St) : Option (E × St) := stepL Tryz.prog c_ref30_within an_ref30_within 29 (bodyOf Tryz.f50) i s
theorem lok_ref30_within : okLoops (bodyOf Tryz.f50) = true := by kernel_rfl
noncomputable def F_ref30_within (ds : List D) : Option D := runF Tryz.prog c_ref30_within an_ref30_within 29 (bodyOf Tryz.f50) [.tmp 6] ds
theorem F_ref30_within_eq (ds : List D) : F_ref30_within ds = runG Tryz.prog c_ref30_within (H_ref30_within bigL) an_ref30_within 29 (bodyOf Tryz.f50) [.tmp 6] ds := runG_eq lok_ref30_within _ ds
theorem C_ref30_within (ds : List D) (r : D) (h : F_ref30_within ds = some r) : Contract Tryz.prog gl 50 ds r := contract_of mix Tryz.func50 rfl (by kernel_rfl) (by kernel_rfl) (by decide) (call := c_ref30_within) ⟨callOf_ok cl_ref30_within trivial, callOfE_ok ce_ref30_within trivial⟩ h
-- sawmill/sawmillref30.Placed: loops []; state: params 0..0, then [1, 2]
attribute [simp] Tryz.f45
noncomputable def an_ref30_Placed : Ann := ⟨[1, 2], [], [], [], [], some [2], [], [], [(39, 0, 51, 2)], []⟩
@[simp] theorem an_ref30_Placed_draws : an_ref30_Placed.draws = [] := rfl
@[simp] theorem an_ref30_Placed_exits : an_ref30_Placed.exits = [] := rfl
@[simp] theorem an_ref30_Placed_rets : an_ref30_Placed.rets = some [2] := rfl
@[simp] theorem an_ref30_Placed_keep : an_ref30_Placed.keep = [1, 2] := rfl
@[simp] theorem an_ref30_Placed_cond : an_ref30_Placed.cond = [] := rfl
@[simp] theorem an_ref30_Placed_rows : an_ref30_Placed.rows = [] := rfl
@[simp] theorem an_ref30_Placed_loops : an_ref30_Placed.loops = [] := rfl
@[simp] theorem an_ref30_Placed_ecalls : an_ref30_Placed.ecalls = [] := rfl
@[simp] theorem an_ref30_Placed_crows : an_ref30_Placed.crows = [(39, 0, 51, 2)] := rfl
@[simp] theorem an_ref30_Placed_tails : an_ref30_Placed.tails = [] := rfl
@[simp] noncomputable def cl_ref30_Placed : List (Nat × (List D → Option D)) := [(50, F_ref30_within), (83, F_ref13_Empty)]
@[simp] noncomputable def ce_ref30_Placed : List (Nat × (List (Nat × O) → List D → Option (D × List (Nat × O)))) := []
noncomputable def c_ref30_Placed : CT := ⟨callOf (cl_ref30_Placed ), callOfE ce_ref30_Placed, gl⟩
@[simp] theorem c_ref30_Placed_p (f : FuncId) (ds : List D) : c_ref30_Placed.p f ds = callOf (cl_ref30_Placed ) f ds := Eq.trans rfl rfl
@[simp] theorem c_ref30_Placed_e (f : FuncId) (hs : List (Nat × O)) (ds : List D) : c_ref30_Placed.e f hs ds = callOfE ce_ref30_Placed f hs ds := Eq.trans rfl rfl
@[simp] theorem c_ref30_Placed_g (g : Nat) : c_ref30_Placed.g g = gl g := Eq.trans rfl rfl
noncomputable def L_ref30_Placed (i n : Nat) (s : St) : Option (E × St) := atN Tryz.prog c_ref30_Placed an_ref30_Placed 21 (bodyOf Tryz.f45) i n s
noncomputable def H_ref30_Placed (n i : Nat) (s : St) : Option (E × St) := atH Tryz.prog c_ref30_Placed an_ref30_Placed 21 (bodyOf Tryz.f45) n i s
@[simp] theorem H_ref30_Placed_eq (n i : Nat) (s : St) : H_ref30_Placed n i s = L_ref30_Placed i n (headOf (an_ref30_Placed.loops.lookup i) s) := rfl
noncomputable def R_ref30_Placed (i : Nat) (s : St) : Option (E × St) := stepL Tryz.prog c_ref30_Placed an_ref30_Placed 21 (bodyOf Tryz.f45) i s
theorem lok_ref30_Placed : okLoops (bodyOf Tryz.f45) = true := by kernel_rfl
noncomputable def F_ref30_Placed (ds : List D) : Option D := runF Tryz.prog c_ref30_Placed an_ref30_Placed 21 (bodyOf Tryz.f45) [.tmp 2] ds
theorem F_ref30_Placed_eq (ds : List D) : F_ref30_Placed ds = runG Tryz.prog c_ref30_Placed (H_ref30_Placed bigL) an_ref30_Placed 21 (bodyOf Tryz.f45) [.tmp 2] ds := runG_eq lok_ref30_Placed _ ds
theorem C_ref30_Placed (ds : List D) (r : D) (h : F_ref30_Placed ds = some r) : Contract Tryz.prog gl 45 ds r := contract_of mix Tryz.func45 rfl (by kernel_rfl) (by kernel_rfl) (by decide) (call := c_ref30_Placed) ⟨callOf_ok cl_ref30_Placed ⟨C_ref30_within, C_ref13_Empty, trivial⟩, callOfE_ok ce_ref30_Placed trivial⟩ h
-- sawmill/sawmillref26.Green: loops []; state: params 0..1, then [2, 3, 4, 5, 6, 7, 8]
attribute [simp] Tryz.f46
noncomputable def an_ref26_Green : Ann := ⟨[2, 3, 4, 5, 6, 7, 8], [], [], [], [], some [4], [(2, 15)], [], [(39, 0, 51, 2)], []⟩
@[simp] theorem an_ref26_Green_draws : an_ref26_Green.draws = [(2, 15)] := rfl
@[simp] theorem an_ref26_Green_exits : an_ref26_Green.exits = [] := rfl
@[simp] theorem an_ref26_Green_rets : an_ref26_Green.rets = some [4] := rfl
@[simp] theorem an_ref26_Green_keep : an_ref26_Green.keep = [2, 3, 4, 5, 6, 7, 8] := rfl
@[simp] theorem an_ref26_Green_cond : an_ref26_Green.cond = [] := rfl
@[simp] theorem an_ref26_Green_rows : an_ref26_Green.rows = [] := rfl
@[simp] theorem an_ref26_Green_loops : an_ref26_Green.loops = [] := rfl
@[simp] theorem an_ref26_Green_ecalls : an_ref26_Green.ecalls = [] := rfl
@[simp] theorem an_ref26_Green_crows : an_ref26_Green.crows = [(39, 0, 51, 2)] := rfl
@[simp] theorem an_ref26_Green_tails : an_ref26_Green.tails = [] := rfl
@[simp] noncomputable def cl_ref26_Green : List (Nat × (List D → Option D)) := [(79, F_ref19_Green)]
@[simp] noncomputable def ce_ref26_Green : List (Nat × (List (Nat × O) → List D → Option (D × List (Nat × O)))) := []
noncomputable def c_ref26_Green : CT := ⟨callOf (cl_ref26_Green ), callOfE ce_ref26_Green, gl⟩
@[simp] theorem c_ref26_Green_p (f : FuncId) (ds : List D) : c_ref26_Green.p f ds = callOf (cl_ref26_Green ) f ds := Eq.trans rfl rfl
@[simp] theorem c_ref26_Green_e (f : FuncId) (hs : List (Nat × O)) (ds : List D) : c_ref26_Green.e f hs ds = callOfE ce_ref26_Green f hs ds := Eq.trans rfl rfl
@[simp] theorem c_ref26_Green_g (g : Nat) : c_ref26_Green.g g = gl g := Eq.trans rfl rfl
noncomputable def L_ref26_Green (i n : Nat) (s : St) : Option (E × St) := atN Tryz.prog c_ref26_Green an_ref26_Green 46 (bodyOf Tryz.f46) i n s
noncomputable def H_ref26_Green (n i : Nat) (s : St) : Option (E × St) := atH Tryz.prog c_ref26_Green an_ref26_Green 46 (bodyOf Tryz.f46) n i s
@[simp] theorem H_ref26_Green_eq (n i : Nat) (s : St) : H_ref26_Green n i s = L_ref26_Green i n (headOf (an_ref26_Green.loops.lookup i) s) := rfl
noncomputable def R_ref26_Green (i : Nat) (s : St) : Option (E × St) := stepL Tryz.prog c_ref26_Green an_ref26_Green 46 (bodyOf Tryz.f46) i s
theorem lok_ref26_Green : okLoops (bodyOf Tryz.f46) = true := by kernel_rfl
noncomputable def F_ref26_Green (ds : List D) : Option D := runF Tryz.prog c_ref26_Green an_ref26_Green 46 (bodyOf Tryz.f46) [.tmp 4] ds
theorem F_ref26_Green_eq (ds : List D) : F_ref26_Green ds = runG Tryz.prog c_ref26_Green (H_ref26_Green bigL) an_ref26_Green 46 (bodyOf Tryz.f46) [.tmp 4] ds := runG_eq lok_ref26_Green _ ds
theorem C_ref26_Green (ds : List D) (r : D) (h : F_ref26_Green ds = some r) : Contract Tryz.prog gl 46 ds r := contract_of mix Tryz.func46 rfl (by kernel_rfl) (by kernel_rfl) (by decide) (call := c_ref26_Green) ⟨callOf_ok cl_ref26_Green ⟨C_ref19_Green, trivial⟩, callOfE_ok ce_ref26_Green trivial⟩ h
-- sawmill/sawmillref30.length: loops []; state: params 0..0, then [1, 2]
attribute [simp] Tryz.f48
noncomputable def an_ref30_length : Ann := ⟨[1, 2], [], [], [], [], some [2], [], [], [(39, 0, 51, 2)], []⟩
@[simp] theorem an_ref30_length_draws : an_ref30_length.draws = [] := rfl
@[simp] theorem an_ref30_length_exits : an_ref30_length.exits = [] := rfl
@[simp] theorem an_ref30_length_rets : an_ref30_length.rets = some [2] := rfl
@[simp] theorem an_ref30_length_keep : an_ref30_length.keep = [1, 2] := rfl
@[simp] theorem an_ref30_length_cond : an_ref30_length.cond = [] := rfl
@[simp] theorem an_ref30_length_rows : an_ref30_length.rows = [] := rfl
@[simp] theorem an_ref30_length_loops : an_ref30_length.loops = [] := rfl
@[simp] theorem an_ref30_length_ecalls : an_ref30_length.ecalls = [] := rfl
@[simp] theorem an_ref30_length_crows : an_ref30_length.crows = [(39, 0, 51, 2)] := rfl
@[simp] theorem an_ref30_length_tails : an_ref30_length.tails = [] := rfl
@[simp] noncomputable def cl_ref30_length : List (Nat × (List D → Option D)) := []
@[simp] noncomputable def ce_ref30_length : List (Nat × (List (Nat × O) → List D → Option (D × List (Nat × O)))) := []
noncomputable def c_ref30_length : CT := ⟨callOf (cl_ref30_length ), callOfE ce_ref30_length, gl⟩
@[simp] theorem c_ref30_length_p (f : FuncId) (ds : List D) : c_ref30_length.p f ds = callOf (cl_ref30_length ) f ds := Eq.trans rfl rfl
@[simp] theorem c_ref30_length_e (f : FuncId) (hs : List (Nat × O)) (ds : List D) : c_ref30_length.e f hs ds = callOfE ce_ref30_length f hs ds := Eq.trans rfl rfl
@[simp] theorem c_ref30_length_g (g : Nat) : c_ref30_length.g g = gl g := Eq.trans rfl rfl
noncomputable def L_ref30_length (i n : Nat) (s : St) : Option (E × St) := atN Tryz.prog c_ref30_length an_ref30_length 8 (bodyOf Tryz.f48) i n s
noncomputable def H_ref30_length (n i : Nat) (s : St) : Option (E × St) := atH Tryz.prog c_ref30_length an_ref30_length 8 (bodyOf Tryz.f48) n i s
@[simp] theorem H_ref30_length_eq (n i : Nat) (s : St) : H_ref30_length n i s = L_ref30_length i n (headOf (an_ref30_length.loops.lookup i) s) := rfl
noncomputable def R_ref30_length (i : Nat) (s : St) : Option (E × St) := stepL Tryz.prog c_ref30_length an_ref30_length 8 (bodyOf Tryz.f48) i s
theorem lok_ref30_length : okLoops (bodyOf Tryz.f48) = true := by kernel_rfl
noncomputable def F_ref30_length (ds : List D) : Option D := runF Tryz.prog c_ref30_length an_ref30_length 8 (bodyOf Tryz.f48) [.tmp 2] ds
theorem F_ref30_length_eq (ds : List D) : F_ref30_length ds = runG Tryz.prog c_ref30_length (H_ref30_length bigL) an_ref30_length 8 (bodyOf Tryz.f48) [.tmp 2] ds := runG_eq lok_ref30_length _ ds
theorem C_ref30_length (ds : List D) (r : D) (h : F_ref30_length ds = some r) : Contract Tryz.prog gl 48 ds r := contract_of mix Tryz.func48 rfl (by kernel_rfl) (by kernel_rfl) (by decide) (call := c_ref30_length) ⟨callOf_ok cl_ref30_length trivial, callOfE_ok ce_ref30_length trivial⟩ h
-- sawmill/sawmillref30.has: loops [2]; state: params 0..1, then [4, 5]
attribute [simp] Tryz.f47
noncomputable def an_ref30_has : Ann := ⟨[0, 4, 5], [9, 17], [], [(2, [0, 1, 5])], [(0, []), (1, [0, 1, 5])], some [4], [], [], [(39, 0, 51, 2)], []⟩
@[simp] theorem an_ref30_has_draws : an_ref30_has.draws = [] := rfl
@[simp] theorem an_ref30_has_exits : an_ref30_has.exits = [(0, []), (1, [0, 1, 5])] := rfl
@[simp] theorem an_ref30_has_rets : an_ref30_has.rets = some [4] := rfl
@[simp] theorem an_ref30_has_keep : an_ref30_has.keep = [0, 4, 5] := rfl
@[simp] theorem an_ref30_has_cond : an_ref30_has.cond = [9, 17] := rfl
@[simp] theorem an_ref30_has_rows : an_ref30_has.rows = [] := rfl
@[simp] theorem an_ref30_has_loops : an_ref30_has.loops = [(2, [0, 1, 5])] := rfl
@[simp] theorem an_ref30_has_ecalls : an_ref30_has.ecalls = [] := rfl
@[simp] theorem an_ref30_has_crows : an_ref30_has.crows = [(39, 0, 51, 2)] := rfl
@[simp] theorem an_ref30_has_tails : an_ref30_has.tails = [] := rfl
@[simp] noncomputable def cl_ref30_has : List (Nat × (List D → Option D)) := []
@[simp] noncomputable def ce_ref30_has : List (Nat × (List (Nat × O) → List D → Option (D × List (Nat × O)))) := []
noncomputable def c_ref30_has : CT := ⟨callOf (cl_ref30_has ), callOfE ce_ref30_has, gl⟩
@[simp] theorem c_ref30_has_p (f : FuncId) (ds : List D) : c_ref30_has.p f ds = callOf (cl_ref30_has ) f ds := Eq.trans rfl rfl
@[simp] theorem c_ref30_has_e (f : FuncId) (hs : List (Nat × O)) (ds : List D) : c_ref30_has.e f hs ds = callOfE ce_ref30_has f hs ds := Eq.trans rfl rfl
@[simp] theorem c_ref30_has_g (g : Nat) : c_ref30_has.g g = gl g := Eq.trans rfl rfl
noncomputable def L_ref30_has (i n : Nat) (s : St) : Option (E × St) := atN Tryz.prog c_ref30_has an_ref30_has 18 (bodyOf Tryz.f47) i n s
noncomputable def H_ref30_has (n i : Nat) (s : St) : Option (E × St) := atH Tryz.prog c_ref30_has an_ref30_has 18 (bodyOf Tryz.f47) n i s
@[simp] theorem H_ref30_has_eq (n i : Nat) (s : St) : H_ref30_has n i s = L_ref30_has i n (headOf (an_ref30_has.loops.lookup i) s) := rfl
noncomputable def R_ref30_has (i : Nat) (s : St) : Option (E × St) := stepL Tryz.prog c_ref30_has an_ref30_has 18 (bodyOf Tryz.f47) i s
theorem lok_ref30_has : okLoops (bodyOf Tryz.f47) = true := by kernel_rfl
theorem L_ref30_has_zero (i : Nat) (s : St) : L_ref30_has i 0 s = none := rfl
theorem L_ref30_has_succ (i n : Nat) (s : St) : L_ref30_has i (n + 1) s = andThen (R_ref30_has i s) (H_ref30_has n i) := atN_succ lok_ref30_has i n s
theorem R_ref30_has_eq (i : Nat) (s : St) : R_ref30_has i s = runS Tryz.prog c_ref30_has (H_ref30_has bigL) an_ref30_has 18 (loopAt (bodyOf Tryz.f47) i) s := rfl
noncomputable def F_ref30_has (ds : List D) : Option D := runF Tryz.prog c_ref30_has an_ref30_has 18 (bodyOf Tryz.f47) [.tmp 4] ds
theorem F_ref30_has_eq (ds : List D) : F_ref30_has ds = runG Tryz.prog c_ref30_has (H_ref30_has bigL) an_ref30_has 18 (bodyOf Tryz.f47) [.tmp 4] ds := runG_eq lok_ref30_has _ ds
theorem C_ref30_has (ds : List D) (r : D) (h : F_ref30_has ds = some r) : Contract Tryz.prog gl 47 ds r := contract_of mix Tryz.func47 rfl (by kernel_rfl) (by kernel_rfl) (by decide) (call := c_ref30_has) ⟨callOf_ok cl_ref30_has trivial, callOfE_ok ce_ref30_has trivial⟩ h
-- sawmill/sawmillref13.in: loops []; state: params 0..2, then [3, 6]
attribute [simp] Tryz.f108
noncomputable def an_ref13_in : Ann := ⟨[3, 6], [], [], [], [], some [6], [], [], [(39, 0, 51, 2)], []⟩
@[simp] theorem an_ref13_in_draws : an_ref13_in.draws = [] := rfl
@[simp] theorem an_ref13_in_exits : an_ref13_in.exits = [] := rfl
@[simp] theorem an_ref13_in_rets : an_ref13_in.rets = some [6] := rfl
@[simp] theorem an_ref13_in_keep : an_ref13_in.keep = [3, 6] := rfl
@[simp] theorem an_ref13_in_cond : an_ref13_in.cond = [] := rfl
@[simp] theorem an_ref13_in_rows : an_ref13_in.rows = [] := rfl
@[simp] theorem an_ref13_in_loops : an_ref13_in.loops = [] := rfl
@[simp] theorem an_ref13_in_ecalls : an_ref13_in.ecalls = [] := rfl
@[simp] theorem an_ref13_in_crows : an_ref13_in.crows = [(39, 0, 51, 2)] := rfl
@[simp] theorem an_ref13_in_tails : an_ref13_in.tails = [] := rfl
@[simp] noncomputable def cl_ref13_in : List (Nat × (List D → Option D)) := []
@[simp] noncomputable def ce_ref13_in : List (Nat × (List (Nat × O) → List D → Option (D × List (Nat × O)))) := []
noncomputable def c_ref13_in : CT := ⟨callOf (cl_ref13_in ), callOfE ce_ref13_in, gl⟩
@[simp] theorem c_ref13_in_p (f : FuncId) (ds : List D) : c_ref13_in.p f ds = callOf (cl_ref13_in ) f ds := Eq.trans rfl rfl
@[simp] theorem c_ref13_in_e (f : FuncId) (hs : List (Nat × O)) (ds : List D) : c_ref13_in.e f hs ds = callOfE ce_ref13_in f hs ds := Eq.trans rfl rfl
@[simp] theorem c_ref13_in_g (g : Nat) : c_ref13_in.g g = gl g := Eq.trans rfl rfl
noncomputable def L_ref13_in (i n : Nat) (s : St) : Option (E × St) := atN Tryz.prog c_ref13_in an_ref13_in 17 (bodyOf Tryz.f108) i n s
noncomputable def H_ref13_in (n i : Nat) (s : St) : Option (E × St) := atH Tryz.prog c_ref13_in an_ref13_in 17 (bodyOf Tryz.f108) n i s
@[simp] theorem H_ref13_in_eq (n i : Nat) (s : St) : H_ref13_in n i s = L_ref13_in i n (headOf (an_ref13_in.loops.lookup i) s) := rfl
noncomputable def R_ref13_in (i : Nat) (s : St) : Option (E × St) := stepL Tryz.prog c_ref13_in an_ref13_in 17 (bodyOf Tryz.f108) i s
theorem lok_ref13_in : okLoops (bodyOf Tryz.f108) = true := by kernel_rfl
noncomputable def F_ref13_in (ds : List D) : Option D := runF Tryz.prog c_ref13_in an_ref13_in 17 (bodyOf Tryz.f108) [.tmp 6] ds
theorem F_ref13_in_eq (ds : List D) : F_ref13_in ds = runG Tryz.prog c_ref13_in (H_ref13_in bigL) an_ref13_in 17 (bodyOf Tryz.f108) [.tmp 6] ds := runG_eq lok_ref13_in _ ds
theorem C_ref13_in (ds : List D) (r : D) (h : F_ref13_in ds = some r) : Contract Tryz.prog gl 108 ds r := contract_of mix Tryz.func108 rfl (by kernel_rfl) (by kernel_rfl) (by decide) (call := c_ref13_in) ⟨callOf_ok cl_ref13_in trivial, callOfE_ok ce_ref13_in trivial⟩ h
-- sawmill/sawmillref13.Ranged: loops []; state: params 0..0, then [1, 2]
attribute [simp] Tryz.f84
noncomputable def an_ref13_Ranged : Ann := ⟨[1, 2], [], [], [], [], some [2], [], [], [(39, 0, 51, 2)], []⟩
@[simp] theorem an_ref13_Ranged_draws : an_ref13_Ranged.draws = [] := rfl
@[simp] theorem an_ref13_Ranged_exits : an_ref13_Ranged.exits = [] := rfl
@[simp] theorem an_ref13_Ranged_rets : an_ref13_Ranged.rets = some [2] := rfl
@[simp] theorem an_ref13_Ranged_keep : an_ref13_Ranged.keep = [1, 2] := rfl
@[simp] theorem an_ref13_Ranged_cond : an_ref13_Ranged.cond = [] := rfl
@[simp] theorem an_ref13_Ranged_rows : an_ref13_Ranged.rows = [] := rfl
@[simp] theorem an_ref13_Ranged_loops : an_ref13_Ranged.loops = [] := rfl
@[simp] theorem an_ref13_Ranged_ecalls : an_ref13_Ranged.ecalls = [] := rfl
@[simp] theorem an_ref13_Ranged_crows : an_ref13_Ranged.crows = [(39, 0, 51, 2)] := rfl
@[simp] theorem an_ref13_Ranged_tails : an_ref13_Ranged.tails = [] := rfl
@[simp] noncomputable def cl_ref13_Ranged : List (Nat × (List D → Option D)) := [(108, F_ref13_in)]
@[simp] noncomputable def ce_ref13_Ranged : List (Nat × (List (Nat × O) → List D → Option (D × List (Nat × O)))) := []
noncomputable def c_ref13_Ranged : CT := ⟨callOf (cl_ref13_Ranged ), callOfE ce_ref13_Ranged, gl⟩
@[simp] theorem c_ref13_Ranged_p (f : FuncId) (ds : List D) : c_ref13_Ranged.p f ds = callOf (cl_ref13_Ranged ) f ds := Eq.trans rfl rfl
@[simp] theorem c_ref13_Ranged_e (f : FuncId) (hs : List (Nat × O)) (ds : List D) : c_ref13_Ranged.e f hs ds = callOfE ce_ref13_Ranged f hs ds := Eq.trans rfl rfl
@[simp] theorem c_ref13_Ranged_g (g : Nat) : c_ref13_Ranged.g g = gl g := Eq.trans rfl rfl
noncomputable def L_ref13_Ranged (i n : Nat) (s : St) : Option (E × St) := atN Tryz.prog c_ref13_Ranged an_ref13_Ranged 16 (bodyOf Tryz.f84) i n s
noncomputable def H_ref13_Ranged (n i : Nat) (s : St) : Option (E × St) := atH Tryz.prog c_ref13_Ranged an_ref13_Ranged 16 (bodyOf Tryz.f84) n i s
@[simp] theorem H_ref13_Ranged_eq (n i : Nat) (s : St) : H_ref13_Ranged n i s = L_ref13_Ranged i n (headOf (an_ref13_Ranged.loops.lookup i) s) := rfl
noncomputable def R_ref13_Ranged (i : Nat) (s : St) : Option (E × St) := stepL Tryz.prog c_ref13_Ranged an_ref13_Ranged 16 (bodyOf Tryz.f84) i s
theorem lok_ref13_Ranged : okLoops (bodyOf Tryz.f84) = true := by kernel_rfl
noncomputable def F_ref13_Ranged (ds : List D) : Option D := runF Tryz.prog c_ref13_Ranged an_ref13_Ranged 16 (bodyOf Tryz.f84) [.tmp 2] ds
theorem F_ref13_Ranged_eq (ds : List D) : F_ref13_Ranged ds = runG Tryz.prog c_ref13_Ranged (H_ref13_Ranged bigL) an_ref13_Ranged 16 (bodyOf Tryz.f84) [.tmp 2] ds := runG_eq lok_ref13_Ranged _ ds
theorem C_ref13_Ranged (ds : List D) (r : D) (h : F_ref13_Ranged ds = some r) : Contract Tryz.prog gl 84 ds r := contract_of mix Tryz.func84 rfl (by kernel_rfl) (by kernel_rfl) (by decide) (call := c_ref13_Ranged) ⟨callOf_ok cl_ref13_Ranged ⟨C_ref13_in, trivial⟩, callOfE_ok ce_ref13_Ranged trivial⟩ h
-- sawmill/sawmillref13.Check: loops [4]; state: params 0..0, then [2, 3]
attribute [simp] Tryz.f49
noncomputable def an_ref13_Check : Ann := ⟨[0, 2, 3], [6, 10, 13, 28, 35], [], [(4, [0, 3])], [(0, []), (1, [0, 3]), (2, [0, 3])], some [2], [], [], [(39, 0, 51, 2)], []⟩
@[simp] theorem an_ref13_Check_draws : an_ref13_Check.draws = [] := rfl
@[simp] theorem an_ref13_Check_exits : an_ref13_Check.exits = [(0, []), (1, [0, 3]), (2, [0, 3])] := rfl
@[simp] theorem an_ref13_Check_rets : an_ref13_Check.rets = some [2] := rfl
@[simp] theorem an_ref13_Check_keep : an_ref13_Check.keep = [0, 2, 3] := rfl
@[simp] theorem an_ref13_Check_cond : an_ref13_Check.cond = [6, 10, 13, 28, 35] := rfl
@[simp] theorem an_ref13_Check_rows : an_ref13_Check.rows = [] := rfl
@[simp] theorem an_ref13_Check_loops : an_ref13_Check.loops = [(4, [0, 3])] := rfl
@[simp] theorem an_ref13_Check_ecalls : an_ref13_Check.ecalls = [] := rfl
@[simp] theorem an_ref13_Check_crows : an_ref13_Check.crows = [(39, 0, 51, 2)] := rfl
@[simp] theorem an_ref13_Check_tails : an_ref13_Check.tails = [] := rfl
@[simp] noncomputable def cl_ref13_Check : List (Nat × (List D → Option D)) := [(83, F_ref13_Empty), (84, F_ref13_Ranged)]
@[simp] noncomputable def ce_ref13_Check : List (Nat × (List (Nat × O) → List D → Option (D × List (Nat × O)))) := []
noncomputable def c_ref13_Check : CT := ⟨callOf (cl_ref13_Check ), callOfE ce_ref13_Check, gl⟩
@[simp] theorem c_ref13_Check_p (f : FuncId) (ds : List D) : c_ref13_Check.p f ds = callOf (cl_ref13_Check ) f ds := Eq.trans rfl rfl
@[simp] theorem c_ref13_Check_e (f : FuncId) (hs : List (Nat × O)) (ds : List D) : c_ref13_Check.e f hs ds = callOfE ce_ref13_Check f hs ds := Eq.trans rfl rfl
@[simp] theorem c_ref13_Check_g (g : Nat) : c_ref13_Check.g g = gl g := Eq.trans rfl rfl
noncomputable def L_ref13_Check (i n : Nat) (s : St) : Option (E × St) := atN Tryz.prog c_ref13_Check an_ref13_Check 43 (bodyOf Tryz.f49) i n s
noncomputable def H_ref13_Check (n i : Nat) (s : St) : Option (E × St) := atH Tryz.prog c_ref13_Check an_ref13_Check 43 (bodyOf Tryz.f49) n i s
@[simp] theorem H_ref13_Check_eq (n i : Nat) (s : St) : H_ref13_Check n i s = L_ref13_Check i n (headOf (an_ref13_Check.loops.lookup i) s) := rfl
noncomputable def R_ref13_Check (i : Nat) (s : St) : Option (E × St) := stepL Tryz.prog c_ref13_Check an_ref13_Check 43 (bodyOf Tryz.f49) i s
theorem lok_ref13_Check : okLoops (bodyOf Tryz.f49) = true := by kernel_rfl
theorem L_ref13_Check_zero (i : Nat) (s : St) : L_ref13_Check i 0 s = none := rfl
theorem L_ref13_Check_succ (i n : Nat) (s : St) : L_ref13_Check i (n + 1) s = andThen (R_ref13_Check i s) (H_ref13_Check n i) := atN_succ lok_ref13_Check i n s
theorem R_ref13_Check_eq (i : Nat) (s : St) : R_ref13_Check i s = runS Tryz.prog c_ref13_Check (H_ref13_Check bigL) an_ref13_Check 43 (loopAt (bodyOf Tryz.f49) i) s := rfl
noncomputable def F_ref13_Check (ds : List D) : Option D := runF Tryz.prog c_ref13_Check an_ref13_Check 43 (bodyOf Tryz.f49) [.tmp 2] ds
theorem F_ref13_Check_eq (ds : List D) : F_ref13_Check ds = runG Tryz.prog c_ref13_Check (H_ref13_Check bigL) an_ref13_Check 43 (bodyOf Tryz.f49) [.tmp 2] ds := runG_eq lok_ref13_Check _ ds
theorem C_ref13_Check (ds : List D) (r : D) (h : F_ref13_Check ds = some r) : Contract Tryz.prog gl 49 ds r := contract_of mix Tryz.func49 rfl (by kernel_rfl) (by kernel_rfl) (by decide) (call := c_ref13_Check) ⟨callOf_ok cl_ref13_Check ⟨C_ref13_Empty, C_ref13_Ranged, trivial⟩, callOfE_ok ce_ref13_Check trivial⟩ h
-- sawmill/sawmillref30.Volume: loops []; state: params 0..0, then [1, 2]
attribute [simp] Tryz.f51
noncomputable def an_ref30_Volume : Ann := ⟨[1, 2], [6], [], [], [], some [2], [(3, 13)], [], [(39, 0, 51, 2)], []⟩
@[simp] theorem an_ref30_Volume_draws : an_ref30_Volume.draws = [(3, 13)] := rfl
@[simp] theorem an_ref30_Volume_exits : an_ref30_Volume.exits = [] := rfl
@[simp] theorem an_ref30_Volume_rets : an_ref30_Volume.rets = some [2] := rfl
@[simp] theorem an_ref30_Volume_keep : an_ref30_Volume.keep = [1, 2] := rfl
@[simp] theorem an_ref30_Volume_cond : an_ref30_Volume.cond = [6] := rfl
@[simp] theorem an_ref30_Volume_rows : an_ref30_Volume.rows = [] := rfl
@[simp] theorem an_ref30_Volume_loops : an_ref30_Volume.loops = [] := rfl
@[simp] theorem an_ref30_Volume_ecalls : an_ref30_Volume.ecalls = [] := rfl
@[simp] theorem an_ref30_Volume_crows : an_ref30_Volume.crows = [(39, 0, 51, 2)] := rfl
@[simp] theorem an_ref30_Volume_tails : an_ref30_Volume.tails = [] := rfl
@[simp] noncomputable def cl_ref30_Volume : List (Nat × (List D → Option D)) := [(45, F_ref30_Placed), (48, F_ref30_length)]
@[simp] noncomputable def ce_ref30_Volume : List (Nat × (List (Nat × O) → List D → Option (D × List (Nat × O)))) := []
noncomputable def c_ref30_Volume : CT := ⟨callOf (cl_ref30_Volume ), callOfE ce_ref30_Volume, gl⟩
@[simp] theorem c_ref30_Volume_p (f : FuncId) (ds : List D) : c_ref30_Volume.p f ds = callOf (cl_ref30_Volume ) f ds := Eq.trans rfl rfl
@[simp] theorem c_ref30_Volume_e (f : FuncId) (hs : List (Nat × O)) (ds : List D) : c_ref30_Volume.e f hs ds = callOfE ce_ref30_Volume f hs ds := Eq.trans rfl rfl
@[simp] theorem c_ref30_Volume_g (g : Nat) : c_ref30_Volume.g g = gl g := Eq.trans rfl rfl
noncomputable def L_ref30_Volume (i n : Nat) (s : St) : Option (E × St) := atN Tryz.prog c_ref30_Volume an_ref30_Volume 21 (bodyOf Tryz.f51) i n s
noncomputable def H_ref30_Volume (n i : Nat) (s : St) : Option (E × St) := atH Tryz.prog c_ref30_Volume an_ref30_Volume 21 (bodyOf Tryz.f51) n i s
@[simp] theorem H_ref30_Volume_eq (n i : Nat) (s : St) : H_ref30_Volume n i s = L_ref30_Volume i n (headOf (an_ref30_Volume.loops.lookup i) s) := rfl
noncomputable def R_ref30_Volume (i : Nat) (s : St) : Option (E × St) := stepL Tryz.prog c_ref30_Volume an_ref30_Volume 21 (bodyOf Tryz.f51) i s
theorem lok_ref30_Volume : okLoops (bodyOf Tryz.f51) = true := by kernel_rfl
noncomputable def F_ref30_Volume (ds : List D) : Option D := runF Tryz.prog c_ref30_Volume an_ref30_Volume 21 (bodyOf Tryz.f51) [.tmp 2] ds
theorem F_ref30_Volume_eq (ds : List D) : F_ref30_Volume ds = runG Tryz.prog c_ref30_Volume (H_ref30_Volume bigL) an_ref30_Volume 21 (bodyOf Tryz.f51) [.tmp 2] ds := runG_eq lok_ref30_Volume _ ds
theorem C_ref30_Volume (ds : List D) (r : D) (h : F_ref30_Volume ds = some r) : Contract Tryz.prog gl 51 ds r := contract_of mix Tryz.func51 rfl (by kernel_rfl) (by kernel_rfl) (by decide) (call := c_ref30_Volume) ⟨callOf_ok cl_ref30_Volume ⟨C_ref30_Placed, C_ref30_length, trivial⟩, callOfE_ok ce_ref30_Volume trivial⟩ h
-- sawmill/sawmillref30.Check: loops [16]; state: params 0..1, then [2, 4, 5, 6, 7, 8]
attribute [simp] Tryz.f16
noncomputable def an_ref30_Check : Ann := ⟨[1, 2, 4, 5, 6, 7, 8], [12, 29, 39, 54, 66, 71, 77, 113, 133, 167, 175], [], [(16, [2, 7])], [(0, [2]), (1, [2, 7])], some [4], [(8, 12), (10, 10), (19, 25), (21, 8)], [], [(39, 0, 51, 2)], []⟩
@[simp] theorem an_ref30_Check_draws : an_ref30_Check.draws = [(8, 12), (10, 10), (19, 25), (21, 8)] := rfl
@[simp] theorem an_ref30_Check_exits : an_ref30_Check.exits = [(0, [2]), (1, [2, 7])] := rfl
@[simp] theorem an_ref30_Check_rets : an_ref30_Check.rets = some [4] := rfl
@[simp] theorem an_ref30_Check_keep : an_ref30_Check.keep = [1, 2, 4, 5, 6, 7, 8] := rfl
@[simp] theorem an_ref30_Check_cond : an_ref30_Check.cond = [12, 29, 39, 54, 66, 71, 77, 113, 133, 167, 175] := rfl
@[simp] theorem an_ref30_Check_rows : an_ref30_Check.rows = [] := rfl
@[simp] theorem an_ref30_Check_loops : an_ref30_Check.loops = [(16, [2, 7])] := rfl
@[simp] theorem an_ref30_Check_ecalls : an_ref30_Check.ecalls = [] := rfl
@[simp] theorem an_ref30_Check_crows : an_ref30_Check.crows = [(39, 0, 51, 2)] := rfl
@[simp] theorem an_ref30_Check_tails : an_ref30_Check.tails = [] := rfl
@[simp] noncomputable def cl_ref30_Check : List (Nat × (List D → Option D)) := [(42, F_ref19_Check), (43, F_ref02_Is), (44, F_ref02_IsName), (45, F_ref30_Placed), (46, F_ref26_Green), (47, F_ref30_has), (48, F_ref30_length), (49, F_ref13_Check), (50, F_ref30_within), (51, F_ref30_Volume)]
@[simp] noncomputable def ce_ref30_Check : List (Nat × (List (Nat × O) → List D → Option (D × List (Nat × O)))) := []
noncomputable def c_ref30_Check : CT := ⟨callOf (cl_ref30_Check ), callOfE ce_ref30_Check, gl⟩
@[simp] theorem c_ref30_Check_p (f : FuncId) (ds : List D) : c_ref30_Check.p f ds = callOf (cl_ref30_Check ) f ds := Eq.trans rfl rfl
@[simp] theorem c_ref30_Check_e (f : FuncId) (hs : List (Nat × O)) (ds : List D) : c_ref30_Check.e f hs ds = callOfE ce_ref30_Check f hs ds := Eq.trans rfl rfl
@[simp] theorem c_ref30_Check_g (g : Nat) : c_ref30_Check.g g = gl g := Eq.trans rfl rfl
noncomputable def L_ref30_Check (i n : Nat) (s : St) : Option (E × St) := atN Tryz.prog c_ref30_Check an_ref30_Check 176 (bodyOf Tryz.f16) i n s
noncomputable def H_ref30_Check (n i : Nat) (s : St) : Option (E × St) := atH Tryz.prog c_ref30_Check an_ref30_Check 176 (bodyOf Tryz.f16) n i s
@[simp] theorem H_ref30_Check_eq (n i : Nat) (s : St) : H_ref30_Check n i s = L_ref30_Check i n (headOf (an_ref30_Check.loops.lookup i) s) := rfl
noncomputable def R_ref30_Check (i : Nat) (s : St) : Option (E × St) := stepL Tryz.prog c_ref30_Check an_ref30_Check 176 (bodyOf Tryz.f16) i s
theorem lok_ref30_Check : okLoops (bodyOf Tryz.f16) = true := by kernel_rfl
theorem L_ref30_Check_zero (i : Nat) (s : St) : L_ref30_Check i 0 s = none := rfl
theorem L_ref30_Check_succ (i n : Nat) (s : St) : L_ref30_Check i (n + 1) s = andThen (R_ref30_Check i s) (H_ref30_Check n i) := atN_succ lok_ref30_Check i n s
theorem R_ref30_Check_eq (i : Nat) (s : St) : R_ref30_Check i s = runS Tryz.prog c_ref30_Check (H_ref30_Check bigL) an_ref30_Check 176 (loopAt (bodyOf Tryz.f16) i) s := rfl
noncomputable def F_ref30_Check (ds : List D) : Option D := runF Tryz.prog c_ref30_Check an_ref30_Check 176 (bodyOf Tryz.f16) [.tmp 4] ds
theorem F_ref30_Check_eq (ds : List D) : F_ref30_Check ds = runG Tryz.prog c_ref30_Check (H_ref30_Check bigL) an_ref30_Check 176 (bodyOf Tryz.f16) [.tmp 4] ds := runG_eq lok_ref30_Check _ ds
theorem C_ref30_Check (ds : List D) (r : D) (h : F_ref30_Check ds = some r) : Contract Tryz.prog gl 16 ds r := contract_of mix Tryz.func16 rfl (by kernel_rfl) (by kernel_rfl) (by decide) (call := c_ref30_Check) ⟨callOf_ok cl_ref30_Check ⟨C_ref19_Check, C_ref02_Is, C_ref02_IsName, C_ref30_Placed, C_ref26_Green, C_ref30_has, C_ref30_length, C_ref13_Check, C_ref30_within, C_ref30_Volume, trivial⟩, callOfE_ok ce_ref30_Check trivial⟩ h
-- sawmill/sawmillref34.from: loops []; state: params 0..2, then [6]
attribute [simp] Tryz.f85
noncomputable def an_ref34_from : Ann := ⟨[6], [], [], [], [], some [6], [], [], [(39, 0, 51, 2)], []⟩
@[simp] theorem an_ref34_from_draws : an_ref34_from.draws = [] := rfl
@[simp] theorem an_ref34_from_exits : an_ref34_from.exits = [] := rfl
@[simp] theorem an_ref34_from_rets : an_ref34_from.rets = some [6] := rfl
@[simp] theorem an_ref34_from_keep : an_ref34_from.keep = [6] := rfl
@[simp] theorem an_ref34_from_cond : an_ref34_from.cond = [] := rfl
@[simp] theorem an_ref34_from_rows : an_ref34_from.rows = [] := rfl
@[simp] theorem an_ref34_from_loops : an_ref34_from.loops = [] := rfl
@[simp] theorem an_ref34_from_ecalls : an_ref34_from.ecalls = [] := rfl
@[simp] theorem an_ref34_from_crows : an_ref34_from.crows = [(39, 0, 51, 2)] := rfl
@[simp] theorem an_ref34_from_tails : an_ref34_from.tails = [] := rfl
@[simp] noncomputable def cl_ref34_from : List (Nat × (List D → Option D)) := []
@[simp] noncomputable def ce_ref34_from : List (Nat × (List (Nat × O) → List D → Option (D × List (Nat × O)))) := []
noncomputable def c_ref34_from : CT := ⟨callOf (cl_ref34_from ), callOfE ce_ref34_from, gl⟩
@[simp] theorem c_ref34_from_p (f : FuncId) (ds : List D) : c_ref34_from.p f ds = callOf (cl_ref34_from ) f ds := Eq.trans rfl rfl
@[simp] theorem c_ref34_from_e (f : FuncId) (hs : List (Nat × O)) (ds : List D) : c_ref34_from.e f hs ds = callOfE ce_ref34_from f hs ds := Eq.trans rfl rfl
@[simp] theorem c_ref34_from_g (g : Nat) : c_ref34_from.g g = gl g := Eq.trans rfl rfl
noncomputable def L_ref34_from (i n : Nat) (s : St) : Option (E × St) := atN Tryz.prog c_ref34_from an_ref34_from 15 (bodyOf Tryz.f85) i n s
noncomputable def H_ref34_from (n i : Nat) (s : St) : Option (E × St) := atH Tryz.prog c_ref34_from an_ref34_from 15 (bodyOf Tryz.f85) n i s
@[simp] theorem H_ref34_from_eq (n i : Nat) (s : St) : H_ref34_from n i s = L_ref34_from i n (headOf (an_ref34_from.loops.lookup i) s) := rfl
noncomputable def R_ref34_from (i : Nat) (s : St) : Option (E × St) := stepL Tryz.prog c_ref34_from an_ref34_from 15 (bodyOf Tryz.f85) i s
theorem lok_ref34_from : okLoops (bodyOf Tryz.f85) = true := by kernel_rfl
noncomputable def F_ref34_from (ds : List D) : Option D := runF Tryz.prog c_ref34_from an_ref34_from 15 (bodyOf Tryz.f85) [.tmp 6] ds
theorem F_ref34_from_eq (ds : List D) : F_ref34_from ds = runG Tryz.prog c_ref34_from (H_ref34_from bigL) an_ref34_from 15 (bodyOf Tryz.f85) [.tmp 6] ds := runG_eq lok_ref34_from _ ds
theorem C_ref34_from (ds : List D) (r : D) (h : F_ref34_from ds = some r) : Contract Tryz.prog gl 85 ds r := contract_of mix Tryz.func85 rfl (by kernel_rfl) (by kernel_rfl) (by decide) (call := c_ref34_from) ⟨callOf_ok cl_ref34_from trivial, callOfE_ok ce_ref34_from trivial⟩ h
-- sawmill/sawmillref34.valid: loops []; state: params 0..0, then [1, 2]
attribute [simp] Tryz.f52
noncomputable def an_ref34_valid : Ann := ⟨[1, 2], [40, 50], [], [], [], some [2], [], [], [(39, 0, 51, 2)], []⟩
@[simp] theorem an_ref34_valid_draws : an_ref34_valid.draws = [] := rfl
@[simp] theorem an_ref34_valid_exits : an_ref34_valid.exits = [] := rfl
@[simp] theorem an_ref34_valid_rets : an_ref34_valid.rets = some [2] := rfl
@[simp] theorem an_ref34_valid_keep : an_ref34_valid.keep = [1, 2] := rfl
@[simp] theorem an_ref34_valid_cond : an_ref34_valid.cond = [40, 50] := rfl
@[simp] theorem an_ref34_valid_rows : an_ref34_valid.rows = [] := rfl
@[simp] theorem an_ref34_valid_loops : an_ref34_valid.loops = [] := rfl
@[simp] theorem an_ref34_valid_ecalls : an_ref34_valid.ecalls = [] := rfl
@[simp] theorem an_ref34_valid_crows : an_ref34_valid.crows = [(39, 0, 51, 2)] := rfl
@[simp] theorem an_ref34_valid_tails : an_ref34_valid.tails = [] := rfl
@[simp] noncomputable def cl_ref34_valid : List (Nat × (List D → Option D)) := [(85, F_ref34_from)]
@[simp] noncomputable def ce_ref34_valid : List (Nat × (List (Nat × O) → List D → Option (D × List (Nat × O)))) := []
noncomputable def c_ref34_valid : CT := ⟨callOf (cl_ref34_valid ), callOfE ce_ref34_valid, gl⟩
@[simp] theorem c_ref34_valid_p (f : FuncId) (ds : List D) : c_ref34_valid.p f ds = callOf (cl_ref34_valid ) f ds := Eq.trans rfl rfl
@[simp] theorem c_ref34_valid_e (f : FuncId) (hs : List (Nat × O)) (ds : List D) : c_ref34_valid.e f hs ds = callOfE ce_ref34_valid f hs ds := Eq.trans rfl rfl
@[simp] theorem c_ref34_valid_g (g : Nat) : c_ref34_valid.g g = gl g := Eq.trans rfl rfl
noncomputable def L_ref34_valid (i n : Nat) (s : St) : Option (E × St) := atN Tryz.prog c_ref34_valid an_ref34_valid 69 (bodyOf Tryz.f52) i n s
noncomputable def H_ref34_valid (n i : Nat) (s : St) : Option (E × St) := atH Tryz.prog c_ref34_valid an_ref34_valid 69 (bodyOf Tryz.f52) n i s
@[simp] theorem H_ref34_valid_eq (n i : Nat) (s : St) : H_ref34_valid n i s = L_ref34_valid i n (headOf (an_ref34_valid.loops.lookup i) s) := rfl
noncomputable def R_ref34_valid (i : Nat) (s : St) : Option (E × St) := stepL Tryz.prog c_ref34_valid an_ref34_valid 69 (bodyOf Tryz.f52) i s
theorem lok_ref34_valid : okLoops (bodyOf Tryz.f52) = true := by kernel_rfl
noncomputable def F_ref34_valid (ds : List D) : Option D := runF Tryz.prog c_ref34_valid an_ref34_valid 69 (bodyOf Tryz.f52) [.tmp 2] ds
theorem F_ref34_valid_eq (ds : List D) : F_ref34_valid ds = runG Tryz.prog c_ref34_valid (H_ref34_valid bigL) an_ref34_valid 69 (bodyOf Tryz.f52) [.tmp 2] ds := runG_eq lok_ref34_valid _ ds
theorem C_ref34_valid (ds : List D) (r : D) (h : F_ref34_valid ds = some r) : Contract Tryz.prog gl 52 ds r := contract_of mix Tryz.func52 rfl (by kernel_rfl) (by kernel_rfl) (by decide) (call := c_ref34_valid) ⟨callOf_ok cl_ref34_valid ⟨C_ref34_from, trivial⟩, callOfE_ok ce_ref34_valid trivial⟩ h
-- sawmill/sawmillref34.Check: loops [4, 9]; state: params 0..0, then [2, 3, 4]
attribute [simp] Tryz.f17
noncomputable def an_ref34_Check : Ann := ⟨[0, 2, 3, 4], [7, 11, 20, 23, 36, 42], [], [(4, [0, 3]), (9, [0, 3, 4])], [(0, []), (1, [0, 3]), (2, [0, 3]), (3, [0, 3, 4])], some [2], [(11, 10)], [], [(39, 0, 51, 2)], []⟩
@[simp] theorem an_ref34_Check_draws : an_ref34_Check.draws = [(11, 10)] := rfl
@[simp] theorem an_ref34_Check_exits : an_ref34_Check.exits = [(0, []), (1, [0, 3]), (2, [0, 3]), (3, [0, 3, 4])] := rfl
@[simp] theorem an_ref34_Check_rets : an_ref34_Check.rets = some [2] := rfl
@[simp] theorem an_ref34_Check_keep : an_ref34_Check.keep = [0, 2, 3, 4] := rfl
@[simp] theorem an_ref34_Check_cond : an_ref34_Check.cond = [7, 11, 20, 23, 36, 42] := rfl
@[simp] theorem an_ref34_Check_rows : an_ref34_Check.rows = [] := rfl
@[simp] theorem an_ref34_Check_loops : an_ref34_Check.loops = [(4, [0, 3]), (9, [0, 3, 4])] := rfl
@[simp] theorem an_ref34_Check_ecalls : an_ref34_Check.ecalls = [] := rfl
@[simp] theorem an_ref34_Check_crows : an_ref34_Check.crows = [(39, 0, 51, 2)] := rfl
@[simp] theorem an_ref34_Check_tails : an_ref34_Check.tails = [] := rfl
@[simp] noncomputable def cl_ref34_Check : List (Nat × (List D → Option D)) := [(44, F_ref02_IsName), (52, F_ref34_valid)]
@[simp] noncomputable def ce_ref34_Check : List (Nat × (List (Nat × O) → List D → Option (D × List (Nat × O)))) := []
noncomputable def c_ref34_Check : CT := ⟨callOf (cl_ref34_Check ), callOfE ce_ref34_Check, gl⟩
@[simp] theorem c_ref34_Check_p (f : FuncId) (ds : List D) : c_ref34_Check.p f ds = callOf (cl_ref34_Check ) f ds := Eq.trans rfl rfl
@[simp] theorem c_ref34_Check_e (f : FuncId) (hs : List (Nat × O)) (ds : List D) : c_ref34_Check.e f hs ds = callOfE ce_ref34_Check f hs ds := Eq.trans rfl rfl
@[simp] theorem c_ref34_Check_g (g : Nat) : c_ref34_Check.g g = gl g := Eq.trans rfl rfl
noncomputable def L_ref34_Check (i n : Nat) (s : St) : Option (E × St) := atN Tryz.prog c_ref34_Check an_ref34_Check 43 (bodyOf Tryz.f17) i n s
noncomputable def H_ref34_Check (n i : Nat) (s : St) : Option (E × St) := atH Tryz.prog c_ref34_Check an_ref34_Check 43 (bodyOf Tryz.f17) n i s
@[simp] theorem H_ref34_Check_eq (n i : Nat) (s : St) : H_ref34_Check n i s = L_ref34_Check i n (headOf (an_ref34_Check.loops.lookup i) s) := rfl
noncomputable def R_ref34_Check (i : Nat) (s : St) : Option (E × St) := stepL Tryz.prog c_ref34_Check an_ref34_Check 43 (bodyOf Tryz.f17) i s
theorem lok_ref34_Check : okLoops (bodyOf Tryz.f17) = true := by kernel_rfl
theorem L_ref34_Check_zero (i : Nat) (s : St) : L_ref34_Check i 0 s = none := rfl
theorem L_ref34_Check_succ (i n : Nat) (s : St) : L_ref34_Check i (n + 1) s = andThen (R_ref34_Check i s) (H_ref34_Check n i) := atN_succ lok_ref34_Check i n s
theorem R_ref34_Check_eq (i : Nat) (s : St) : R_ref34_Check i s = runS Tryz.prog c_ref34_Check (H_ref34_Check bigL) an_ref34_Check 43 (loopAt (bodyOf Tryz.f17) i) s := rfl
noncomputable def F_ref34_Check (ds : List D) : Option D := runF Tryz.prog c_ref34_Check an_ref34_Check 43 (bodyOf Tryz.f17) [.tmp 2] ds
theorem F_ref34_Check_eq (ds : List D) : F_ref34_Check ds = runG Tryz.prog c_ref34_Check (H_ref34_Check bigL) an_ref34_Check 43 (bodyOf Tryz.f17) [.tmp 2] ds := runG_eq lok_ref34_Check _ ds
theorem C_ref34_Check (ds : List D) (r : D) (h : F_ref34_Check ds = some r) : Contract Tryz.prog gl 17 ds r := contract_of mix Tryz.func17 rfl (by kernel_rfl) (by kernel_rfl) (by decide) (call := c_ref34_Check) ⟨callOf_ok cl_ref34_Check ⟨C_ref02_IsName, C_ref34_valid, trivial⟩, callOfE_ok ce_ref34_Check trivial⟩ h
-- sawmill/sawmillref39.placed: loops []; state: params 0..0, then [1, 2]
attribute [simp] Tryz.f109
noncomputable def an_ref39_placed : Ann := ⟨[1, 2], [], [], [], [], some [2], [], [], [(39, 0, 51, 2)], []⟩
@[simp] theorem an_ref39_placed_draws : an_ref39_placed.draws = [] := rfl
@[simp] theorem an_ref39_placed_exits : an_ref39_placed.exits = [] := rfl
@[simp] theorem an_ref39_placed_rets : an_ref39_placed.rets = some [2] := rfl
@[simp] theorem an_ref39_placed_keep : an_ref39_placed.keep = [1, 2] := rfl
@[simp] theorem an_ref39_placed_cond : an_ref39_placed.cond = [] := rfl
@[simp] theorem an_ref39_placed_rows : an_ref39_placed.rows = [] := rfl
@[simp] theorem an_ref39_placed_loops : an_ref39_placed.loops = [] := rfl
@[simp] theorem an_ref39_placed_ecalls : an_ref39_placed.ecalls = [] := rfl
@[simp] theorem an_ref39_placed_crows : an_ref39_placed.crows = [(39, 0, 51, 2)] := rfl
@[simp] theorem an_ref39_placed_tails : an_ref39_placed.tails = [] := rfl
@[simp] noncomputable def cl_ref39_placed : List (Nat × (List D → Option D)) := []
@[simp] noncomputable def ce_ref39_placed : List (Nat × (List (Nat × O) → List D → Option (D × List (Nat × O)))) := []
noncomputable def c_ref39_placed : CT := ⟨callOf (cl_ref39_placed ), callOfE ce_ref39_placed, gl⟩
@[simp] theorem c_ref39_placed_p (f : FuncId) (ds : List D) : c_ref39_placed.p f ds = callOf (cl_ref39_placed ) f ds := Eq.trans rfl rfl
@[simp] theorem c_ref39_placed_e (f : FuncId) (hs : List (Nat × O)) (ds : List D) : c_ref39_placed.e f hs ds = callOfE ce_ref39_placed f hs ds := Eq.trans rfl rfl
@[simp] theorem c_ref39_placed_g (g : Nat) : c_ref39_placed.g g = gl g := Eq.trans rfl rfl
noncomputable def L_ref39_placed (i n : Nat) (s : St) : Option (E × St) := atN Tryz.prog c_ref39_placed an_ref39_placed 18 (bodyOf Tryz.f109) i n s
noncomputable def H_ref39_placed (n i : Nat) (s : St) : Option (E × St) := atH Tryz.prog c_ref39_placed an_ref39_placed 18 (bodyOf Tryz.f109) n i s
@[simp] theorem H_ref39_placed_eq (n i : Nat) (s : St) : H_ref39_placed n i s = L_ref39_placed i n (headOf (an_ref39_placed.loops.lookup i) s) := rfl
noncomputable def R_ref39_placed (i : Nat) (s : St) : Option (E × St) := stepL Tryz.prog c_ref39_placed an_ref39_placed 18 (bodyOf Tryz.f109) i s
theorem lok_ref39_placed : okLoops (bodyOf Tryz.f109) = true := by kernel_rfl
noncomputable def F_ref39_placed (ds : List D) : Option D := runF Tryz.prog c_ref39_placed an_ref39_placed 18 (bodyOf Tryz.f109) [.tmp 2] ds
theorem F_ref39_placed_eq (ds : List D) : F_ref39_placed ds = runG Tryz.prog c_ref39_placed (H_ref39_placed bigL) an_ref39_placed 18 (bodyOf Tryz.f109) [.tmp 2] ds := runG_eq lok_ref39_placed _ ds
theorem C_ref39_placed (ds : List D) (r : D) (h : F_ref39_placed ds = some r) : Contract Tryz.prog gl 109 ds r := contract_of mix Tryz.func109 rfl (by kernel_rfl) (by kernel_rfl) (by decide) (call := c_ref39_placed) ⟨callOf_ok cl_ref39_placed trivial, callOfE_ok ce_ref39_placed trivial⟩ h
-- sawmill/sawmillref39.Sizes: loops []; state: params 0..0, then [1, 2, 3, 4, 5]
attribute [simp] Tryz.f86
noncomputable def an_ref39_Sizes : Ann := ⟨[1, 2, 3, 4, 5], [15], [], [], [], some [2, 3], [(3, 15)], [], [(39, 0, 51, 2)], []⟩
@[simp] theorem an_ref39_Sizes_draws : an_ref39_Sizes.draws = [(3, 15)] := rfl
@[simp] theorem an_ref39_Sizes_exits : an_ref39_Sizes.exits = [] := rfl
@[simp] theorem an_ref39_Sizes_rets : an_ref39_Sizes.rets = some [2, 3] := rfl
@[simp] theorem an_ref39_Sizes_keep : an_ref39_Sizes.keep = [1, 2, 3, 4, 5] := rfl
@[simp] theorem an_ref39_Sizes_cond : an_ref39_Sizes.cond = [15] := rfl
@[simp] theorem an_ref39_Sizes_rows : an_ref39_Sizes.rows = [] := rfl
@[simp] theorem an_ref39_Sizes_loops : an_ref39_Sizes.loops = [] := rfl
@[simp] theorem an_ref39_Sizes_ecalls : an_ref39_Sizes.ecalls = [] := rfl
@[simp] theorem an_ref39_Sizes_crows : an_ref39_Sizes.crows = [(39, 0, 51, 2)] := rfl
@[simp] theorem an_ref39_Sizes_tails : an_ref39_Sizes.tails = [] := rfl
@[simp] noncomputable def cl_ref39_Sizes : List (Nat × (List D → Option D)) := [(109, F_ref39_placed)]
@[simp] noncomputable def ce_ref39_Sizes : List (Nat × (List (Nat × O) → List D → Option (D × List (Nat × O)))) := []
noncomputable def c_ref39_Sizes : CT := ⟨callOf (cl_ref39_Sizes ), callOfE ce_ref39_Sizes, gl⟩
@[simp] theorem c_ref39_Sizes_p (f : FuncId) (ds : List D) : c_ref39_Sizes.p f ds = callOf (cl_ref39_Sizes ) f ds := Eq.trans rfl rfl
@[simp] theorem c_ref39_Sizes_e (f : FuncId) (hs : List (Nat × O)) (ds : List D) : c_ref39_Sizes.e f hs ds = callOfE ce_ref39_Sizes f hs ds := Eq.trans rfl rfl
@[simp] theorem c_ref39_Sizes_g (g : Nat) : c_ref39_Sizes.g g = gl g := Eq.trans rfl rfl
noncomputable def L_ref39_Sizes (i n : Nat) (s : St) : Option (E × St) := atN Tryz.prog c_ref39_Sizes an_ref39_Sizes 36 (bodyOf Tryz.f86) i n s
noncomputable def H_ref39_Sizes (n i : Nat) (s : St) : Option (E × St) := atH Tryz.prog c_ref39_Sizes an_ref39_Sizes 36 (bodyOf Tryz.f86) n i s
@[simp] theorem H_ref39_Sizes_eq (n i : Nat) (s : St) : H_ref39_Sizes n i s = L_ref39_Sizes i n (headOf (an_ref39_Sizes.loops.lookup i) s) := rfl
noncomputable def R_ref39_Sizes (i : Nat) (s : St) : Option (E × St) := stepL Tryz.prog c_ref39_Sizes an_ref39_Sizes 36 (bodyOf Tryz.f86) i s
theorem lok_ref39_Sizes : okLoops (bodyOf Tryz.f86) = true := by kernel_rfl
noncomputable def F_ref39_Sizes (ds : List D) : Option D := runF Tryz.prog c_ref39_Sizes an_ref39_Sizes 36 (bodyOf Tryz.f86) [.tmp 2, .tmp 3] ds
theorem F_ref39_Sizes_eq (ds : List D) : F_ref39_Sizes ds = runG Tryz.prog c_ref39_Sizes (H_ref39_Sizes bigL) an_ref39_Sizes 36 (bodyOf Tryz.f86) [.tmp 2, .tmp 3] ds := runG_eq lok_ref39_Sizes _ ds
theorem C_ref39_Sizes (ds : List D) (r : D) (h : F_ref39_Sizes ds = some r) : Contract Tryz.prog gl 86 ds r := contract_of mix Tryz.func86 rfl (by kernel_rfl) (by kernel_rfl) (by decide) (call := c_ref39_Sizes) ⟨callOf_ok cl_ref39_Sizes ⟨C_ref39_placed, trivial⟩, callOfE_ok ce_ref39_Sizes trivial⟩ h
-- sawmill/sawmillref36.Check: loops []; state: params 0..0, then [1, 2]
attribute [simp] Tryz.f56
noncomputable def an_ref36_Check : Ann := ⟨[1, 2], [20, 28], [], [], [], some [2], [], [], [(39, 0, 51, 2)], []⟩
@[simp] theorem an_ref36_Check_draws : an_ref36_Check.draws = [] := rfl
@[simp] theorem an_ref36_Check_exits : an_ref36_Check.exits = [] := rfl
@[simp] theorem an_ref36_Check_rets : an_ref36_Check.rets = some [2] := rfl
@[simp] theorem an_ref36_Check_keep : an_ref36_Check.keep = [1, 2] := rfl
@[simp] theorem an_ref36_Check_cond : an_ref36_Check.cond = [20, 28] := rfl
@[simp] theorem an_ref36_Check_rows : an_ref36_Check.rows = [] := rfl
@[simp] theorem an_ref36_Check_loops : an_ref36_Check.loops = [] := rfl
@[simp] theorem an_ref36_Check_ecalls : an_ref36_Check.ecalls = [] := rfl
@[simp] theorem an_ref36_Check_crows : an_ref36_Check.crows = [(39, 0, 51, 2)] := rfl
@[simp] theorem an_ref36_Check_tails : an_ref36_Check.tails = [] := rfl
@[simp] noncomputable def cl_ref36_Check : List (Nat × (List D → Option D)) := []
@[simp] noncomputable def ce_ref36_Check : List (Nat × (List (Nat × O) → List D → Option (D × List (Nat × O)))) := []
noncomputable def c_ref36_Check : CT := ⟨callOf (cl_ref36_Check ), callOfE ce_ref36_Check, gl⟩
@[simp] theorem c_ref36_Check_p (f : FuncId) (ds : List D) : c_ref36_Check.p f ds = callOf (cl_ref36_Check ) f ds := Eq.trans rfl rfl
@[simp] theorem c_ref36_Check_e (f : FuncId) (hs : List (Nat × O)) (ds : List D) : c_ref36_Check.e f hs ds = callOfE ce_ref36_Check f hs ds := Eq.trans rfl rfl
@[simp] theorem c_ref36_Check_g (g : Nat) : c_ref36_Check.g g = gl g := Eq.trans rfl rfl
noncomputable def L_ref36_Check (i n : Nat) (s : St) : Option (E × St) := atN Tryz.prog c_ref36_Check an_ref36_Check 29 (bodyOf Tryz.f56) i n s
noncomputable def H_ref36_Check (n i : Nat) (s : St) : Option (E × St) := atH Tryz.prog c_ref36_Check an_ref36_Check 29 (bodyOf Tryz.f56) n i s
@[simp] theorem H_ref36_Check_eq (n i : Nat) (s : St) : H_ref36_Check n i s = L_ref36_Check i n (headOf (an_ref36_Check.loops.lookup i) s) := rfl
noncomputable def R_ref36_Check (i : Nat) (s : St) : Option (E × St) := stepL Tryz.prog c_ref36_Check an_ref36_Check 29 (bodyOf Tryz.f56) i s
theorem lok_ref36_Check : okLoops (bodyOf Tryz.f56) = true := by kernel_rfl
noncomputable def F_ref36_Check (ds : List D) : Option D := runF Tryz.prog c_ref36_Check an_ref36_Check 29 (bodyOf Tryz.f56) [.tmp 2] ds
theorem F_ref36_Check_eq (ds : List D) : F_ref36_Check ds = runG Tryz.prog c_ref36_Check (H_ref36_Check bigL) an_ref36_Check 29 (bodyOf Tryz.f56) [.tmp 2] ds := runG_eq lok_ref36_Check _ ds
theorem C_ref36_Check (ds : List D) (r : D) (h : F_ref36_Check ds = some r) : Contract Tryz.prog gl 56 ds r := contract_of mix Tryz.func56 rfl (by kernel_rfl) (by kernel_rfl) (by decide) (call := c_ref36_Check) ⟨callOf_ok cl_ref36_Check trivial, callOfE_ok ce_ref36_Check trivial⟩ h
-- sawmill/sawmillref36.Mean: loops []; state: params 0..0, then [1, 2]
attribute [simp] Tryz.f24
noncomputable def an_ref36_Mean : Ann := ⟨[1, 2], [5], [], [], [], some [2], [], [], [(39, 0, 51, 2)], []⟩
@[simp] theorem an_ref36_Mean_draws : an_ref36_Mean.draws = [] := rfl
@[simp] theorem an_ref36_Mean_exits : an_ref36_Mean.exits = [] := rfl
@[simp] theorem an_ref36_Mean_rets : an_ref36_Mean.rets = some [2] := rfl
@[simp] theorem an_ref36_Mean_keep : an_ref36_Mean.keep = [1, 2] := rfl
@[simp] theorem an_ref36_Mean_cond : an_ref36_Mean.cond = [5] := rfl
@[simp] theorem an_ref36_Mean_rows : an_ref36_Mean.rows = [] := rfl
@[simp] theorem an_ref36_Mean_loops : an_ref36_Mean.loops = [] := rfl
@[simp] theorem an_ref36_Mean_ecalls : an_ref36_Mean.ecalls = [] := rfl
@[simp] theorem an_ref36_Mean_crows : an_ref36_Mean.crows = [(39, 0, 51, 2)] := rfl
@[simp] theorem an_ref36_Mean_tails : an_ref36_Mean.tails = [] := rfl
@[simp] noncomputable def cl_ref36_Mean : List (Nat × (List D → Option D)) := [(56, F_ref36_Check)]
@[simp] noncomputable def ce_ref36_Mean : List (Nat × (List (Nat × O) → List D → Option (D × List (Nat × O)))) := []
noncomputable def c_ref36_Mean : CT := ⟨callOf (cl_ref36_Mean ), callOfE ce_ref36_Mean, gl⟩
@[simp] theorem c_ref36_Mean_p (f : FuncId) (ds : List D) : c_ref36_Mean.p f ds = callOf (cl_ref36_Mean ) f ds := Eq.trans rfl rfl
@[simp] theorem c_ref36_Mean_e (f : FuncId) (hs : List (Nat × O)) (ds : List D) : c_ref36_Mean.e f hs ds = callOfE ce_ref36_Mean f hs ds := Eq.trans rfl rfl
@[simp] theorem c_ref36_Mean_g (g : Nat) : c_ref36_Mean.g g = gl g := Eq.trans rfl rfl
noncomputable def L_ref36_Mean (i n : Nat) (s : St) : Option (E × St) := atN Tryz.prog c_ref36_Mean an_ref36_Mean 13 (bodyOf Tryz.f24) i n s
noncomputable def H_ref36_Mean (n i : Nat) (s : St) : Option (E × St) := atH Tryz.prog c_ref36_Mean an_ref36_Mean 13 (bodyOf Tryz.f24) n i s
@[simp] theorem H_ref36_Mean_eq (n i : Nat) (s : St) : H_ref36_Mean n i s = L_ref36_Mean i n (headOf (an_ref36_Mean.loops.lookup i) s) := rfl
noncomputable def R_ref36_Mean (i : Nat) (s : St) : Option (E × St) := stepL Tryz.prog c_ref36_Mean an_ref36_Mean 13 (bodyOf Tryz.f24) i s
theorem lok_ref36_Mean : okLoops (bodyOf Tryz.f24) = true := by kernel_rfl
noncomputable def F_ref36_Mean (ds : List D) : Option D := runF Tryz.prog c_ref36_Mean an_ref36_Mean 13 (bodyOf Tryz.f24) [.tmp 2] ds
theorem F_ref36_Mean_eq (ds : List D) : F_ref36_Mean ds = runG Tryz.prog c_ref36_Mean (H_ref36_Mean bigL) an_ref36_Mean 13 (bodyOf Tryz.f24) [.tmp 2] ds := runG_eq lok_ref36_Mean _ ds
theorem C_ref36_Mean (ds : List D) (r : D) (h : F_ref36_Mean ds = some r) : Contract Tryz.prog gl 24 ds r := contract_of mix Tryz.func24 rfl (by kernel_rfl) (by kernel_rfl) (by decide) (call := c_ref36_Mean) ⟨callOf_ok cl_ref36_Mean ⟨C_ref36_Check, trivial⟩, callOfE_ok ce_ref36_Mean trivial⟩ h
-- sawmill/sawmillref34.Shrunk: loops []; state: params 0..2, then [3, 6, 7]
attribute [simp] Tryz.f87
noncomputable def an_ref34_Shrunk : Ann := ⟨[1, 3, 6, 7], [16], [], [], [], some [6], [], [], [(39, 0, 51, 2)], []⟩
@[simp] theorem an_ref34_Shrunk_draws : an_ref34_Shrunk.draws = [] := rfl
@[simp] theorem an_ref34_Shrunk_exits : an_ref34_Shrunk.exits = [] := rfl
@[simp] theorem an_ref34_Shrunk_rets : an_ref34_Shrunk.rets = some [6] := rfl
@[simp] theorem an_ref34_Shrunk_keep : an_ref34_Shrunk.keep = [1, 3, 6, 7] := rfl
@[simp] theorem an_ref34_Shrunk_cond : an_ref34_Shrunk.cond = [16] := rfl
@[simp] theorem an_ref34_Shrunk_rows : an_ref34_Shrunk.rows = [] := rfl
@[simp] theorem an_ref34_Shrunk_loops : an_ref34_Shrunk.loops = [] := rfl
@[simp] theorem an_ref34_Shrunk_ecalls : an_ref34_Shrunk.ecalls = [] := rfl
@[simp] theorem an_ref34_Shrunk_crows : an_ref34_Shrunk.crows = [(39, 0, 51, 2)] := rfl
@[simp] theorem an_ref34_Shrunk_tails : an_ref34_Shrunk.tails = [] := rfl
@[simp] noncomputable def cl_ref34_Shrunk : List (Nat × (List D → Option D)) := [(85, F_ref34_from)]
@[simp] noncomputable def ce_ref34_Shrunk : List (Nat × (List (Nat × O) → List D → Option (D × List (Nat × O)))) := []
noncomputable def c_ref34_Shrunk : CT := ⟨callOf (cl_ref34_Shrunk ), callOfE ce_ref34_Shrunk, gl⟩
@[simp] theorem c_ref34_Shrunk_p (f : FuncId) (ds : List D) : c_ref34_Shrunk.p f ds = callOf (cl_ref34_Shrunk ) f ds := Eq.trans rfl rfl
@[simp] theorem c_ref34_Shrunk_e (f : FuncId) (hs : List (Nat × O)) (ds : List D) : c_ref34_Shrunk.e f hs ds = callOfE ce_ref34_Shrunk f hs ds := Eq.trans rfl rfl
@[simp] theorem c_ref34_Shrunk_g (g : Nat) : c_ref34_Shrunk.g g = gl g := Eq.trans rfl rfl
noncomputable def L_ref34_Shrunk (i n : Nat) (s : St) : Option (E × St) := atN Tryz.prog c_ref34_Shrunk an_ref34_Shrunk 31 (bodyOf Tryz.f87) i n s
noncomputable def H_ref34_Shrunk (n i : Nat) (s : St) : Option (E × St) := atH Tryz.prog c_ref34_Shrunk an_ref34_Shrunk 31 (bodyOf Tryz.f87) n i s
@[simp] theorem H_ref34_Shrunk_eq (n i : Nat) (s : St) : H_ref34_Shrunk n i s = L_ref34_Shrunk i n (headOf (an_ref34_Shrunk.loops.lookup i) s) := rfl
noncomputable def R_ref34_Shrunk (i : Nat) (s : St) : Option (E × St) := stepL Tryz.prog c_ref34_Shrunk an_ref34_Shrunk 31 (bodyOf Tryz.f87) i s
theorem lok_ref34_Shrunk : okLoops (bodyOf Tryz.f87) = true := by kernel_rfl
noncomputable def F_ref34_Shrunk (ds : List D) : Option D := runF Tryz.prog c_ref34_Shrunk an_ref34_Shrunk 31 (bodyOf Tryz.f87) [.tmp 6] ds
theorem F_ref34_Shrunk_eq (ds : List D) : F_ref34_Shrunk ds = runG Tryz.prog c_ref34_Shrunk (H_ref34_Shrunk bigL) an_ref34_Shrunk 31 (bodyOf Tryz.f87) [.tmp 6] ds := runG_eq lok_ref34_Shrunk _ ds
theorem C_ref34_Shrunk (ds : List D) (r : D) (h : F_ref34_Shrunk ds = some r) : Contract Tryz.prog gl 87 ds r := contract_of mix Tryz.func87 rfl (by kernel_rfl) (by kernel_rfl) (by decide) (call := c_ref34_Shrunk) ⟨callOf_ok cl_ref34_Shrunk ⟨C_ref34_from, trivial⟩, callOfE_ok ce_ref34_Shrunk trivial⟩ h
-- sawmill/sawmillref39.Dried: loops []; state: params 0..1, then [2, 3, 4, 5, 6, 7, 8]
attribute [simp] Tryz.f53
noncomputable def an_ref39_Dried : Ann := ⟨[2, 3, 4, 5, 6, 7, 8], [19], [], [], [], some [4, 5], [(5, 7)], [], [(39, 0, 51, 2)], []⟩
@[simp] theorem an_ref39_Dried_draws : an_ref39_Dried.draws = [(5, 7)] := rfl
@[simp] theorem an_ref39_Dried_exits : an_ref39_Dried.exits = [] := rfl
@[simp] theorem an_ref39_Dried_rets : an_ref39_Dried.rets = some [4, 5] := rfl
@[simp] theorem an_ref39_Dried_keep : an_ref39_Dried.keep = [2, 3, 4, 5, 6, 7, 8] := rfl
@[simp] theorem an_ref39_Dried_cond : an_ref39_Dried.cond = [19] := rfl
@[simp] theorem an_ref39_Dried_rows : an_ref39_Dried.rows = [] := rfl
@[simp] theorem an_ref39_Dried_loops : an_ref39_Dried.loops = [] := rfl
@[simp] theorem an_ref39_Dried_ecalls : an_ref39_Dried.ecalls = [] := rfl
@[simp] theorem an_ref39_Dried_crows : an_ref39_Dried.crows = [(39, 0, 51, 2)] := rfl
@[simp] theorem an_ref39_Dried_tails : an_ref39_Dried.tails = [] := rfl
@[simp] noncomputable def cl_ref39_Dried : List (Nat × (List D → Option D)) := [(24, F_ref36_Mean), (86, F_ref39_Sizes), (87, F_ref34_Shrunk)]
@[simp] noncomputable def ce_ref39_Dried : List (Nat × (List (Nat × O) → List D → Option (D × List (Nat × O)))) := []
noncomputable def c_ref39_Dried : CT := ⟨callOf (cl_ref39_Dried ), callOfE ce_ref39_Dried, gl⟩
@[simp] theorem c_ref39_Dried_p (f : FuncId) (ds : List D) : c_ref39_Dried.p f ds = callOf (cl_ref39_Dried ) f ds := Eq.trans rfl rfl
@[simp] theorem c_ref39_Dried_e (f : FuncId) (hs : List (Nat × O)) (ds : List D) : c_ref39_Dried.e f hs ds = callOfE ce_ref39_Dried f hs ds := Eq.trans rfl rfl
@[simp] theorem c_ref39_Dried_g (g : Nat) : c_ref39_Dried.g g = gl g := Eq.trans rfl rfl
noncomputable def L_ref39_Dried (i n : Nat) (s : St) : Option (E × St) := atN Tryz.prog c_ref39_Dried an_ref39_Dried 28 (bodyOf Tryz.f53) i n s
noncomputable def H_ref39_Dried (n i : Nat) (s : St) : Option (E × St) := atH Tryz.prog c_ref39_Dried an_ref39_Dried 28 (bodyOf Tryz.f53) n i s
@[simp] theorem H_ref39_Dried_eq (n i : Nat) (s : St) : H_ref39_Dried n i s = L_ref39_Dried i n (headOf (an_ref39_Dried.loops.lookup i) s) := rfl
noncomputable def R_ref39_Dried (i : Nat) (s : St) : Option (E × St) := stepL Tryz.prog c_ref39_Dried an_ref39_Dried 28 (bodyOf Tryz.f53) i s
theorem lok_ref39_Dried : okLoops (bodyOf Tryz.f53) = true := by kernel_rfl
noncomputable def F_ref39_Dried (ds : List D) : Option D := runF Tryz.prog c_ref39_Dried an_ref39_Dried 28 (bodyOf Tryz.f53) [.tmp 4, .tmp 5] ds
theorem F_ref39_Dried_eq (ds : List D) : F_ref39_Dried ds = runG Tryz.prog c_ref39_Dried (H_ref39_Dried bigL) an_ref39_Dried 28 (bodyOf Tryz.f53) [.tmp 4, .tmp 5] ds := runG_eq lok_ref39_Dried _ ds
theorem C_ref39_Dried (ds : List D) (r : D) (h : F_ref39_Dried ds = some r) : Contract Tryz.prog gl 53 ds r := contract_of mix Tryz.func53 rfl (by kernel_rfl) (by kernel_rfl) (by decide) (call := c_ref39_Dried) ⟨callOf_ok cl_ref39_Dried ⟨C_ref36_Mean, C_ref39_Sizes, C_ref34_Shrunk, trivial⟩, callOfE_ok ce_ref39_Dried trivial⟩ h
-- sawmill/sawmillref39.Under: loops []; state: params 0..2, then [3, 4, 5, 6, 7, 8]
attribute [simp] Tryz.f18
noncomputable def an_ref39_Under : Ann := ⟨[3, 4, 5, 6, 7, 8], [], [], [], [], some [6], [], [], [(39, 0, 51, 2)], []⟩
@[simp] theorem an_ref39_Under_draws : an_ref39_Under.draws = [] := rfl
@[simp] theorem an_ref39_Under_exits : an_ref39_Under.exits = [] := rfl
@[simp] theorem an_ref39_Under_rets : an_ref39_Under.rets = some [6] := rfl
@[simp] theorem an_ref39_Under_keep : an_ref39_Under.keep = [3, 4, 5, 6, 7, 8] := rfl
@[simp] theorem an_ref39_Under_cond : an_ref39_Under.cond = [] := rfl
@[simp] theorem an_ref39_Under_rows : an_ref39_Under.rows = [] := rfl
@[simp] theorem an_ref39_Under_loops : an_ref39_Under.loops = [] := rfl
@[simp] theorem an_ref39_Under_ecalls : an_ref39_Under.ecalls = [] := rfl
@[simp] theorem an_ref39_Under_crows : an_ref39_Under.crows = [(39, 0, 51, 2)] := rfl
@[simp] theorem an_ref39_Under_tails : an_ref39_Under.tails = [] := rfl
@[simp] noncomputable def cl_ref39_Under : List (Nat × (List D → Option D)) := [(53, F_ref39_Dried)]
@[simp] noncomputable def ce_ref39_Under : List (Nat × (List (Nat × O) → List D → Option (D × List (Nat × O)))) := []
noncomputable def c_ref39_Under : CT := ⟨callOf (cl_ref39_Under ), callOfE ce_ref39_Under, gl⟩
@[simp] theorem c_ref39_Under_p (f : FuncId) (ds : List D) : c_ref39_Under.p f ds = callOf (cl_ref39_Under ) f ds := Eq.trans rfl rfl
@[simp] theorem c_ref39_Under_e (f : FuncId) (hs : List (Nat × O)) (ds : List D) : c_ref39_Under.e f hs ds = callOfE ce_ref39_Under f hs ds := Eq.trans rfl rfl
@[simp] theorem c_ref39_Under_g (g : Nat) : c_ref39_Under.g g = gl g := Eq.trans rfl rfl
noncomputable def L_ref39_Under (i n : Nat) (s : St) : Option (E × St) := atN Tryz.prog c_ref39_Under an_ref39_Under 25 (bodyOf Tryz.f18) i n s
noncomputable def H_ref39_Under (n i : Nat) (s : St) : Option (E × St) := atH Tryz.prog c_ref39_Under an_ref39_Under 25 (bodyOf Tryz.f18) n i s
@[simp] theorem H_ref39_Under_eq (n i : Nat) (s : St) : H_ref39_Under n i s = L_ref39_Under i n (headOf (an_ref39_Under.loops.lookup i) s) := rfl
noncomputable def R_ref39_Under (i : Nat) (s : St) : Option (E × St) := stepL Tryz.prog c_ref39_Under an_ref39_Under 25 (bodyOf Tryz.f18) i s
theorem lok_ref39_Under : okLoops (bodyOf Tryz.f18) = true := by kernel_rfl
noncomputable def F_ref39_Under (ds : List D) : Option D := runF Tryz.prog c_ref39_Under an_ref39_Under 25 (bodyOf Tryz.f18) [.tmp 6] ds
theorem F_ref39_Under_eq (ds : List D) : F_ref39_Under ds = runG Tryz.prog c_ref39_Under (H_ref39_Under bigL) an_ref39_Under 25 (bodyOf Tryz.f18) [.tmp 6] ds := runG_eq lok_ref39_Under _ ds
theorem C_ref39_Under (ds : List D) (r : D) (h : F_ref39_Under ds = some r) : Contract Tryz.prog gl 18 ds r := contract_of mix Tryz.func18 rfl (by kernel_rfl) (by kernel_rfl) (by decide) (call := c_ref39_Under) ⟨callOf_ok cl_ref39_Under ⟨C_ref39_Dried, trivial⟩, callOfE_ok ce_ref39_Under trivial⟩ h
-- sawmill/sawmillref30.Length: loops []; state: params 0..0, then [1, 2]
attribute [simp] Tryz.f19
noncomputable def an_ref30_Length : Ann := ⟨[1, 2], [7], [], [], [], some [2], [], [], [(39, 0, 51, 2)], []⟩
@[simp] theorem an_ref30_Length_draws : an_ref30_Length.draws = [] := rfl
@[simp] theorem an_ref30_Length_exits : an_ref30_Length.exits = [] := rfl
@[simp] theorem an_ref30_Length_rets : an_ref30_Length.rets = some [2] := rfl
@[simp] theorem an_ref30_Length_keep : an_ref30_Length.keep = [1, 2] := rfl
@[simp] theorem an_ref30_Length_cond : an_ref30_Length.cond = [7] := rfl
@[simp] theorem an_ref30_Length_rows : an_ref30_Length.rows = [] := rfl
@[simp] theorem an_ref30_Length_loops : an_ref30_Length.loops = [] := rfl
@[simp] theorem an_ref30_Length_ecalls : an_ref30_Length.ecalls = [] := rfl
@[simp] theorem an_ref30_Length_crows : an_ref30_Length.crows = [(39, 0, 51, 2)] := rfl
@[simp] theorem an_ref30_Length_tails : an_ref30_Length.tails = [] := rfl
@[simp] noncomputable def cl_ref30_Length : List (Nat × (List D → Option D)) := [(48, F_ref30_length), (50, F_ref30_within)]
@[simp] noncomputable def ce_ref30_Length : List (Nat × (List (Nat × O) → List D → Option (D × List (Nat × O)))) := []
noncomputable def c_ref30_Length : CT := ⟨callOf (cl_ref30_Length ), callOfE ce_ref30_Length, gl⟩
@[simp] theorem c_ref30_Length_p (f : FuncId) (ds : List D) : c_ref30_Length.p f ds = callOf (cl_ref30_Length ) f ds := Eq.trans rfl rfl
@[simp] theorem c_ref30_Length_e (f : FuncId) (hs : List (Nat × O)) (ds : List D) : c_ref30_Length.e f hs ds = callOfE ce_ref30_Length f hs ds := Eq.trans rfl rfl
@[simp] theorem c_ref30_Length_g (g : Nat) : c_ref30_Length.g g = gl g := Eq.trans rfl rfl
noncomputable def L_ref30_Length (i n : Nat) (s : St) : Option (E × St) := atN Tryz.prog c_ref30_Length an_ref30_Length 13 (bodyOf Tryz.f19) i n s
noncomputable def H_ref30_Length (n i : Nat) (s : St) : Option (E × St) := atH Tryz.prog c_ref30_Length an_ref30_Length 13 (bodyOf Tryz.f19) n i s
@[simp] theorem H_ref30_Length_eq (n i : Nat) (s : St) : H_ref30_Length n i s = L_ref30_Length i n (headOf (an_ref30_Length.loops.lookup i) s) := rfl
noncomputable def R_ref30_Length (i : Nat) (s : St) : Option (E × St) := stepL Tryz.prog c_ref30_Length an_ref30_Length 13 (bodyOf Tryz.f19) i s
theorem lok_ref30_Length : okLoops (bodyOf Tryz.f19) = true := by kernel_rfl
noncomputable def F_ref30_Length (ds : List D) : Option D := runF Tryz.prog c_ref30_Length an_ref30_Length 13 (bodyOf Tryz.f19) [.tmp 2] ds
theorem F_ref30_Length_eq (ds : List D) : F_ref30_Length ds = runG Tryz.prog c_ref30_Length (H_ref30_Length bigL) an_ref30_Length 13 (bodyOf Tryz.f19) [.tmp 2] ds := runG_eq lok_ref30_Length _ ds
theorem C_ref30_Length (ds : List D) (r : D) (h : F_ref30_Length ds = some r) : Contract Tryz.prog gl 19 ds r := contract_of mix Tryz.func19 rfl (by kernel_rfl) (by kernel_rfl) (by decide) (call := c_ref30_Length) ⟨callOf_ok cl_ref30_Length ⟨C_ref30_length, C_ref30_within, trivial⟩, callOfE_ok ce_ref30_Length trivial⟩ h
-- sawmill/sawmillref13.Count: loops [3]; state: params 0..1, then [4, 5, 6]
attribute [simp] Tryz.f20
noncomputable def an_ref13_Count : Ann := ⟨[0, 4, 5, 6], [10, 19], [], [(3, [0, 1, 5, 6])], [(0, [5]), (1, [0, 1, 5, 6])], some [4], [], [], [(39, 0, 51, 2)], []⟩
@[simp] theorem an_ref13_Count_draws : an_ref13_Count.draws = [] := rfl
@[simp] theorem an_ref13_Count_exits : an_ref13_Count.exits = [(0, [5]), (1, [0, 1, 5, 6])] := rfl
@[simp] theorem an_ref13_Count_rets : an_ref13_Count.rets = some [4] := rfl
@[simp] theorem an_ref13_Count_keep : an_ref13_Count.keep = [0, 4, 5, 6] := rfl
@[simp] theorem an_ref13_Count_cond : an_ref13_Count.cond = [10, 19] := rfl
@[simp] theorem an_ref13_Count_rows : an_ref13_Count.rows = [] := rfl
@[simp] theorem an_ref13_Count_loops : an_ref13_Count.loops = [(3, [0, 1, 5, 6])] := rfl
@[simp] theorem an_ref13_Count_ecalls : an_ref13_Count.ecalls = [] := rfl
@[simp] theorem an_ref13_Count_crows : an_ref13_Count.crows = [(39, 0, 51, 2)] := rfl
@[simp] theorem an_ref13_Count_tails : an_ref13_Count.tails = [] := rfl
@[simp] noncomputable def cl_ref13_Count : List (Nat × (List D → Option D)) := []
@[simp] noncomputable def ce_ref13_Count : List (Nat × (List (Nat × O) → List D → Option (D × List (Nat × O)))) := []
noncomputable def c_ref13_Count : CT := ⟨callOf (cl_ref13_Count ), callOfE ce_ref13_Count, gl⟩
@[simp] theorem c_ref13_Count_p (f : FuncId) (ds : List D) : c_ref13_Count.p f ds = callOf (cl_ref13_Count ) f ds := Eq.trans rfl rfl
@[simp] theorem c_ref13_Count_e (f : FuncId) (hs : List (Nat × O)) (ds : List D) : c_ref13_Count.e f hs ds = callOfE ce_ref13_Count f hs ds := Eq.trans rfl rfl
@[simp] theorem c_ref13_Count_g (g : Nat) : c_ref13_Count.g g = gl g := Eq.trans rfl rfl
noncomputable def L_ref13_Count (i n : Nat) (s : St) : Option (E × St) := atN Tryz.prog c_ref13_Count an_ref13_Count 23 (bodyOf Tryz.f20) i n s
noncomputable def H_ref13_Count (n i : Nat) (s : St) : Option (E × St) := atH Tryz.prog c_ref13_Count an_ref13_Count 23 (bodyOf Tryz.f20) n i s
@[simp] theorem H_ref13_Count_eq (n i : Nat) (s : St) : H_ref13_Count n i s = L_ref13_Count i n (headOf (an_ref13_Count.loops.lookup i) s) := rfl
noncomputable def R_ref13_Count (i : Nat) (s : St) : Option (E × St) := stepL Tryz.prog c_ref13_Count an_ref13_Count 23 (bodyOf Tryz.f20) i s
theorem lok_ref13_Count : okLoops (bodyOf Tryz.f20) = true := by kernel_rfl
theorem L_ref13_Count_zero (i : Nat) (s : St) : L_ref13_Count i 0 s = none := rfl
theorem L_ref13_Count_succ (i n : Nat) (s : St) : L_ref13_Count i (n + 1) s = andThen (R_ref13_Count i s) (H_ref13_Count n i) := atN_succ lok_ref13_Count i n s
theorem R_ref13_Count_eq (i : Nat) (s : St) : R_ref13_Count i s = runS Tryz.prog c_ref13_Count (H_ref13_Count bigL) an_ref13_Count 23 (loopAt (bodyOf Tryz.f20) i) s := rfl
noncomputable def F_ref13_Count (ds : List D) : Option D := runF Tryz.prog c_ref13_Count an_ref13_Count 23 (bodyOf Tryz.f20) [.tmp 4] ds
theorem F_ref13_Count_eq (ds : List D) : F_ref13_Count ds = runG Tryz.prog c_ref13_Count (H_ref13_Count bigL) an_ref13_Count 23 (bodyOf Tryz.f20) [.tmp 4] ds := runG_eq lok_ref13_Count _ ds
theorem C_ref13_Count (ds : List D) (r : D) (h : F_ref13_Count ds = some r) : Contract Tryz.prog gl 20 ds r := contract_of mix Tryz.func20 rfl (by kernel_rfl) (by kernel_rfl) (by decide) (call := c_ref13_Count) ⟨callOf_ok cl_ref13_Count trivial, callOfE_ok ce_ref13_Count trivial⟩ h
-- sawmill/sawmillref03.Len: loops []; state: params 0..0, then [1, 2]
attribute [simp] Tryz.f88
noncomputable def an_ref03_Len : Ann := ⟨[1, 2], [7, 18], [], [], [], some [2], [], [], [(39, 0, 51, 2)], []⟩
@[simp] theorem an_ref03_Len_draws : an_ref03_Len.draws = [] := rfl
@[simp] theorem an_ref03_Len_exits : an_ref03_Len.exits = [] := rfl
@[simp] theorem an_ref03_Len_rets : an_ref03_Len.rets = some [2] := rfl
@[simp] theorem an_ref03_Len_keep : an_ref03_Len.keep = [1, 2] := rfl
@[simp] theorem an_ref03_Len_cond : an_ref03_Len.cond = [7, 18] := rfl
@[simp] theorem an_ref03_Len_rows : an_ref03_Len.rows = [] := rfl
@[simp] theorem an_ref03_Len_loops : an_ref03_Len.loops = [] := rfl
@[simp] theorem an_ref03_Len_ecalls : an_ref03_Len.ecalls = [] := rfl
@[simp] theorem an_ref03_Len_crows : an_ref03_Len.crows = [(39, 0, 51, 2)] := rfl
@[simp] theorem an_ref03_Len_tails : an_ref03_Len.tails = [] := rfl
@[simp] noncomputable def cl_ref03_Len : List (Nat × (List D → Option D)) := []
@[simp] noncomputable def ce_ref03_Len : List (Nat × (List (Nat × O) → List D → Option (D × List (Nat × O)))) := []
noncomputable def c_ref03_Len : CT := ⟨callOf (cl_ref03_Len ), callOfE ce_ref03_Len, gl⟩
@[simp] theorem c_ref03_Len_p (f : FuncId) (ds : List D) : c_ref03_Len.p f ds = callOf (cl_ref03_Len ) f ds := Eq.trans rfl rfl
@[simp] theorem c_ref03_Len_e (f : FuncId) (hs : List (Nat × O)) (ds : List D) : c_ref03_Len.e f hs ds = callOfE ce_ref03_Len f hs ds := Eq.trans rfl rfl
@[simp] theorem c_ref03_Len_g (g : Nat) : c_ref03_Len.g g = gl g := Eq.trans rfl rfl
noncomputable def L_ref03_Len (i n : Nat) (s : St) : Option (E × St) := atN Tryz.prog c_ref03_Len an_ref03_Len 24 (bodyOf Tryz.f88) i n s
noncomputable def H_ref03_Len (n i : Nat) (s : St) : Option (E × St) := atH Tryz.prog c_ref03_Len an_ref03_Len 24 (bodyOf Tryz.f88) n i s
@[simp] theorem H_ref03_Len_eq (n i : Nat) (s : St) : H_ref03_Len n i s = L_ref03_Len i n (headOf (an_ref03_Len.loops.lookup i) s) := rfl
noncomputable def R_ref03_Len (i : Nat) (s : St) : Option (E × St) := stepL Tryz.prog c_ref03_Len an_ref03_Len 24 (bodyOf Tryz.f88) i s
theorem lok_ref03_Len : okLoops (bodyOf Tryz.f88) = true := by kernel_rfl
noncomputable def F_ref03_Len (ds : List D) : Option D := runF Tryz.prog c_ref03_Len an_ref03_Len 24 (bodyOf Tryz.f88) [.tmp 2] ds
theorem F_ref03_Len_eq (ds : List D) : F_ref03_Len ds = runG Tryz.prog c_ref03_Len (H_ref03_Len bigL) an_ref03_Len 24 (bodyOf Tryz.f88) [.tmp 2] ds := runG_eq lok_ref03_Len _ ds
theorem C_ref03_Len (ds : List D) (r : D) (h : F_ref03_Len ds = some r) : Contract Tryz.prog gl 88 ds r := contract_of mix Tryz.func88 rfl (by kernel_rfl) (by kernel_rfl) (by decide) (call := c_ref03_Len) ⟨callOf_ok cl_ref03_Len trivial, callOfE_ok ce_ref03_Len trivial⟩ h
-- sawmill/sawmillref13.Size: loops []; state: params 0..0, then [1, 2]
attribute [simp] Tryz.f54
noncomputable def an_ref13_Size : Ann := ⟨[1, 2], [], [], [], [], some [2], [(1, 7)], [], [(39, 0, 51, 2)], []⟩
@[simp] theorem an_ref13_Size_draws : an_ref13_Size.draws = [(1, 7)] := rfl
@[simp] theorem an_ref13_Size_exits : an_ref13_Size.exits = [] := rfl
@[simp] theorem an_ref13_Size_rets : an_ref13_Size.rets = some [2] := rfl
@[simp] theorem an_ref13_Size_keep : an_ref13_Size.keep = [1, 2] := rfl
@[simp] theorem an_ref13_Size_cond : an_ref13_Size.cond = [] := rfl
@[simp] theorem an_ref13_Size_rows : an_ref13_Size.rows = [] := rfl
@[simp] theorem an_ref13_Size_loops : an_ref13_Size.loops = [] := rfl
@[simp] theorem an_ref13_Size_ecalls : an_ref13_Size.ecalls = [] := rfl
@[simp] theorem an_ref13_Size_crows : an_ref13_Size.crows = [(39, 0, 51, 2)] := rfl
@[simp] theorem an_ref13_Size_tails : an_ref13_Size.tails = [] := rfl
@[simp] noncomputable def cl_ref13_Size : List (Nat × (List D → Option D)) := [(88, F_ref03_Len)]
@[simp] noncomputable def ce_ref13_Size : List (Nat × (List (Nat × O) → List D → Option (D × List (Nat × O)))) := []
noncomputable def c_ref13_Size : CT := ⟨callOf (cl_ref13_Size ), callOfE ce_ref13_Size, gl⟩
@[simp] theorem c_ref13_Size_p (f : FuncId) (ds : List D) : c_ref13_Size.p f ds = callOf (cl_ref13_Size ) f ds := Eq.trans rfl rfl
@[simp] theorem c_ref13_Size_e (f : FuncId) (hs : List (Nat × O)) (ds : List D) : c_ref13_Size.e f hs ds = callOfE ce_ref13_Size f hs ds := Eq.trans rfl rfl
@[simp] theorem c_ref13_Size_g (g : Nat) : c_ref13_Size.g g = gl g := Eq.trans rfl rfl
noncomputable def L_ref13_Size (i n : Nat) (s : St) : Option (E × St) := atN Tryz.prog c_ref13_Size an_ref13_Size 12 (bodyOf Tryz.f54) i n s
noncomputable def H_ref13_Size (n i : Nat) (s : St) : Option (E × St) := atH Tryz.prog c_ref13_Size an_ref13_Size 12 (bodyOf Tryz.f54) n i s
@[simp] theorem H_ref13_Size_eq (n i : Nat) (s : St) : H_ref13_Size n i s = L_ref13_Size i n (headOf (an_ref13_Size.loops.lookup i) s) := rfl
noncomputable def R_ref13_Size (i : Nat) (s : St) : Option (E × St) := stepL Tryz.prog c_ref13_Size an_ref13_Size 12 (bodyOf Tryz.f54) i s
theorem lok_ref13_Size : okLoops (bodyOf Tryz.f54) = true := by kernel_rfl
noncomputable def F_ref13_Size (ds : List D) : Option D := runF Tryz.prog c_ref13_Size an_ref13_Size 12 (bodyOf Tryz.f54) [.tmp 2] ds
theorem F_ref13_Size_eq (ds : List D) : F_ref13_Size ds = runG Tryz.prog c_ref13_Size (H_ref13_Size bigL) an_ref13_Size 12 (bodyOf Tryz.f54) [.tmp 2] ds := runG_eq lok_ref13_Size _ ds
theorem C_ref13_Size (ds : List D) (r : D) (h : F_ref13_Size ds = some r) : Contract Tryz.prog gl 54 ds r := contract_of mix Tryz.func54 rfl (by kernel_rfl) (by kernel_rfl) (by decide) (call := c_ref13_Size) ⟨callOf_ok cl_ref13_Size ⟨C_ref03_Len, trivial⟩, callOfE_ok ce_ref13_Size trivial⟩ h
-- sawmill/sawmillref13.Largest: loops [3]; state: params 0..1, then [4, 5, 6]
attribute [simp] Tryz.f21
noncomputable def an_ref13_Largest : Ann := ⟨[0, 4, 5, 6], [10, 19], [], [(3, [0, 1, 5, 6])], [(0, [5]), (1, [0, 1, 5, 6])], some [4], [], [], [(39, 0, 51, 2)], []⟩
@[simp] theorem an_ref13_Largest_draws : an_ref13_Largest.draws = [] := rfl
@[simp] theorem an_ref13_Largest_exits : an_ref13_Largest.exits = [(0, [5]), (1, [0, 1, 5, 6])] := rfl
@[simp] theorem an_ref13_Largest_rets : an_ref13_Largest.rets = some [4] := rfl
@[simp] theorem an_ref13_Largest_keep : an_ref13_Largest.keep = [0, 4, 5, 6] := rfl
@[simp] theorem an_ref13_Largest_cond : an_ref13_Largest.cond = [10, 19] := rfl
@[simp] theorem an_ref13_Largest_rows : an_ref13_Largest.rows = [] := rfl
@[simp] theorem an_ref13_Largest_loops : an_ref13_Largest.loops = [(3, [0, 1, 5, 6])] := rfl
@[simp] theorem an_ref13_Largest_ecalls : an_ref13_Largest.ecalls = [] := rfl
@[simp] theorem an_ref13_Largest_crows : an_ref13_Largest.crows = [(39, 0, 51, 2)] := rfl
@[simp] theorem an_ref13_Largest_tails : an_ref13_Largest.tails = [] := rfl
@[simp] noncomputable def cl_ref13_Largest : List (Nat × (List D → Option D)) := [(54, F_ref13_Size)]
@[simp] noncomputable def ce_ref13_Largest : List (Nat × (List (Nat × O) → List D → Option (D × List (Nat × O)))) := []
noncomputable def c_ref13_Largest : CT := ⟨callOf (cl_ref13_Largest ), callOfE ce_ref13_Largest, gl⟩
@[simp] theorem c_ref13_Largest_p (f : FuncId) (ds : List D) : c_ref13_Largest.p f ds = callOf (cl_ref13_Largest ) f ds := Eq.trans rfl rfl
@[simp] theorem c_ref13_Largest_e (f : FuncId) (hs : List (Nat × O)) (ds : List D) : c_ref13_Largest.e f hs ds = callOfE ce_ref13_Largest f hs ds := Eq.trans rfl rfl
@[simp] theorem c_ref13_Largest_g (g : Nat) : c_ref13_Largest.g g = gl g := Eq.trans rfl rfl
noncomputable def L_ref13_Largest (i n : Nat) (s : St) : Option (E × St) := atN Tryz.prog c_ref13_Largest an_ref13_Largest 28 (bodyOf Tryz.f21) i n s
noncomputable def H_ref13_Largest (n i : Nat) (s : St) : Option (E × St) := atH Tryz.prog c_ref13_Largest an_ref13_Largest 28 (bodyOf Tryz.f21) n i s
@[simp] theorem H_ref13_Largest_eq (n i : Nat) (s : St) : H_ref13_Largest n i s = L_ref13_Largest i n (headOf (an_ref13_Largest.loops.lookup i) s) := rfl
noncomputable def R_ref13_Largest (i : Nat) (s : St) : Option (E × St) := stepL Tryz.prog c_ref13_Largest an_ref13_Largest 28 (bodyOf Tryz.f21) i s
theorem lok_ref13_Largest : okLoops (bodyOf Tryz.f21) = true := by kernel_rfl
theorem L_ref13_Largest_zero (i : Nat) (s : St) : L_ref13_Largest i 0 s = none := rfl
theorem L_ref13_Largest_succ (i n : Nat) (s : St) : L_ref13_Largest i (n + 1) s = andThen (R_ref13_Largest i s) (H_ref13_Largest n i) := atN_succ lok_ref13_Largest i n s
theorem R_ref13_Largest_eq (i : Nat) (s : St) : R_ref13_Largest i s = runS Tryz.prog c_ref13_Largest (H_ref13_Largest bigL) an_ref13_Largest 28 (loopAt (bodyOf Tryz.f21) i) s := rfl
noncomputable def F_ref13_Largest (ds : List D) : Option D := runF Tryz.prog c_ref13_Largest an_ref13_Largest 28 (bodyOf Tryz.f21) [.tmp 4] ds
theorem F_ref13_Largest_eq (ds : List D) : F_ref13_Largest ds = runG Tryz.prog c_ref13_Largest (H_ref13_Largest bigL) an_ref13_Largest 28 (bodyOf Tryz.f21) [.tmp 4] ds := runG_eq lok_ref13_Largest _ ds
theorem C_ref13_Largest (ds : List D) (r : D) (h : F_ref13_Largest ds = some r) : Contract Tryz.prog gl 21 ds r := contract_of mix Tryz.func21 rfl (by kernel_rfl) (by kernel_rfl) (by decide) (call := c_ref13_Largest) ⟨callOf_ok cl_ref13_Largest ⟨C_ref13_Size, trivial⟩, callOfE_ok ce_ref13_Largest trivial⟩ h
-- sawmill/sawmillref03.Meet: loops []; state: params 0..1, then [2, 3, 4, 5]
attribute [simp] Tryz.f89
noncomputable def an_ref03_Meet : Ann := ⟨[2, 3, 4, 5], [21], [], [], [], some [4], [], [], [(39, 0, 51, 2)], []⟩
@[simp] theorem an_ref03_Meet_draws : an_ref03_Meet.draws = [] := rfl
@[simp] theorem an_ref03_Meet_exits : an_ref03_Meet.exits = [] := rfl
@[simp] theorem an_ref03_Meet_rets : an_ref03_Meet.rets = some [4] := rfl
@[simp] theorem an_ref03_Meet_keep : an_ref03_Meet.keep = [2, 3, 4, 5] := rfl
@[simp] theorem an_ref03_Meet_cond : an_ref03_Meet.cond = [21] := rfl
@[simp] theorem an_ref03_Meet_rows : an_ref03_Meet.rows = [] := rfl
@[simp] theorem an_ref03_Meet_loops : an_ref03_Meet.loops = [] := rfl
@[simp] theorem an_ref03_Meet_ecalls : an_ref03_Meet.ecalls = [] := rfl
@[simp] theorem an_ref03_Meet_crows : an_ref03_Meet.crows = [(39, 0, 51, 2)] := rfl
@[simp] theorem an_ref03_Meet_tails : an_ref03_Meet.tails = [] := rfl
@[simp] noncomputable def cl_ref03_Meet : List (Nat × (List D → Option D)) := []
@[simp] noncomputable def ce_ref03_Meet : List (Nat × (List (Nat × O) → List D → Option (D × List (Nat × O)))) := []
noncomputable def c_ref03_Meet : CT := ⟨callOf (cl_ref03_Meet ), callOfE ce_ref03_Meet, gl⟩
@[simp] theorem c_ref03_Meet_p (f : FuncId) (ds : List D) : c_ref03_Meet.p f ds = callOf (cl_ref03_Meet ) f ds := Eq.trans rfl rfl
@[simp] theorem c_ref03_Meet_e (f : FuncId) (hs : List (Nat × O)) (ds : List D) : c_ref03_Meet.e f hs ds = callOfE ce_ref03_Meet f hs ds := Eq.trans rfl rfl
@[simp] theorem c_ref03_Meet_g (g : Nat) : c_ref03_Meet.g g = gl g := Eq.trans rfl rfl
noncomputable def L_ref03_Meet (i n : Nat) (s : St) : Option (E × St) := atN Tryz.prog c_ref03_Meet an_ref03_Meet 24 (bodyOf Tryz.f89) i n s
noncomputable def H_ref03_Meet (n i : Nat) (s : St) : Option (E × St) := atH Tryz.prog c_ref03_Meet an_ref03_Meet 24 (bodyOf Tryz.f89) n i s
@[simp] theorem H_ref03_Meet_eq (n i : Nat) (s : St) : H_ref03_Meet n i s = L_ref03_Meet i n (headOf (an_ref03_Meet.loops.lookup i) s) := rfl
noncomputable def R_ref03_Meet (i : Nat) (s : St) : Option (E × St) := stepL Tryz.prog c_ref03_Meet an_ref03_Meet 24 (bodyOf Tryz.f89) i s
theorem lok_ref03_Meet : okLoops (bodyOf Tryz.f89) = true := by kernel_rfl
noncomputable def F_ref03_Meet (ds : List D) : Option D := runF Tryz.prog c_ref03_Meet an_ref03_Meet 24 (bodyOf Tryz.f89) [.cell 4 23] ds
theorem F_ref03_Meet_eq (ds : List D) : F_ref03_Meet ds = runG Tryz.prog c_ref03_Meet (H_ref03_Meet bigL) an_ref03_Meet 24 (bodyOf Tryz.f89) [.cell 4 23] ds := runG_eq lok_ref03_Meet _ ds
theorem C_ref03_Meet (ds : List D) (r : D) (h : F_ref03_Meet ds = some r) : Contract Tryz.prog gl 89 ds r := contract_of mix Tryz.func89 rfl (by kernel_rfl) (by kernel_rfl) (by decide) (call := c_ref03_Meet) ⟨callOf_ok cl_ref03_Meet trivial, callOfE_ok ce_ref03_Meet trivial⟩ h
-- sawmill/sawmillref13.Knot: loops []; state: params 0..0, then [1, 2]
attribute [simp] Tryz.f90
noncomputable def an_ref13_Knot : Ann := ⟨[1, 2], [], [], [], [], some [2], [], [], [(39, 0, 51, 2)], []⟩
@[simp] theorem an_ref13_Knot_draws : an_ref13_Knot.draws = [] := rfl
@[simp] theorem an_ref13_Knot_exits : an_ref13_Knot.exits = [] := rfl
@[simp] theorem an_ref13_Knot_rets : an_ref13_Knot.rets = some [2] := rfl
@[simp] theorem an_ref13_Knot_keep : an_ref13_Knot.keep = [1, 2] := rfl
@[simp] theorem an_ref13_Knot_cond : an_ref13_Knot.cond = [] := rfl
@[simp] theorem an_ref13_Knot_rows : an_ref13_Knot.rows = [] := rfl
@[simp] theorem an_ref13_Knot_loops : an_ref13_Knot.loops = [] := rfl
@[simp] theorem an_ref13_Knot_ecalls : an_ref13_Knot.ecalls = [] := rfl
@[simp] theorem an_ref13_Knot_crows : an_ref13_Knot.crows = [(39, 0, 51, 2)] := rfl
@[simp] theorem an_ref13_Knot_tails : an_ref13_Knot.tails = [] := rfl
@[simp] noncomputable def cl_ref13_Knot : List (Nat × (List D → Option D)) := []
@[simp] noncomputable def ce_ref13_Knot : List (Nat × (List (Nat × O) → List D → Option (D × List (Nat × O)))) := []
noncomputable def c_ref13_Knot : CT := ⟨callOf (cl_ref13_Knot ), callOfE ce_ref13_Knot, gl⟩
@[simp] theorem c_ref13_Knot_p (f : FuncId) (ds : List D) : c_ref13_Knot.p f ds = callOf (cl_ref13_Knot ) f ds := Eq.trans rfl rfl
@[simp] theorem c_ref13_Knot_e (f : FuncId) (hs : List (Nat × O)) (ds : List D) : c_ref13_Knot.e f hs ds = callOfE ce_ref13_Knot f hs ds := Eq.trans rfl rfl
@[simp] theorem c_ref13_Knot_g (g : Nat) : c_ref13_Knot.g g = gl g := Eq.trans rfl rfl
noncomputable def L_ref13_Knot (i n : Nat) (s : St) : Option (E × St) := atN Tryz.prog c_ref13_Knot an_ref13_Knot 11 (bodyOf Tryz.f90) i n s
noncomputable def H_ref13_Knot (n i : Nat) (s : St) : Option (E × St) := atH Tryz.prog c_ref13_Knot an_ref13_Knot 11 (bodyOf Tryz.f90) n i s
@[simp] theorem H_ref13_Knot_eq (n i : Nat) (s : St) : H_ref13_Knot n i s = L_ref13_Knot i n (headOf (an_ref13_Knot.loops.lookup i) s) := rfl
noncomputable def R_ref13_Knot (i : Nat) (s : St) : Option (E × St) := stepL Tryz.prog c_ref13_Knot an_ref13_Knot 11 (bodyOf Tryz.f90) i s
theorem lok_ref13_Knot : okLoops (bodyOf Tryz.f90) = true := by kernel_rfl
noncomputable def F_ref13_Knot (ds : List D) : Option D := runF Tryz.prog c_ref13_Knot an_ref13_Knot 11 (bodyOf Tryz.f90) [.tmp 2] ds
theorem F_ref13_Knot_eq (ds : List D) : F_ref13_Knot ds = runG Tryz.prog c_ref13_Knot (H_ref13_Knot bigL) an_ref13_Knot 11 (bodyOf Tryz.f90) [.tmp 2] ds := runG_eq lok_ref13_Knot _ ds
theorem C_ref13_Knot (ds : List D) (r : D) (h : F_ref13_Knot ds = some r) : Contract Tryz.prog gl 90 ds r := contract_of mix Tryz.func90 rfl (by kernel_rfl) (by kernel_rfl) (by decide) (call := c_ref13_Knot) ⟨callOf_ok cl_ref13_Knot trivial, callOfE_ok ce_ref13_Knot trivial⟩ h
-- sawmill/sawmillref13.window: loops [3]; state: params 0..1, then [3, 4, 5, 6, 7]
attribute [simp] Tryz.f55
noncomputable def an_ref13_window : Ann := ⟨[0, 3, 4, 5, 6, 7], [11, 33], [], [(3, [0, 3, 5, 6])], [(0, [5]), (1, [0, 3, 5, 6])], some [4], [(5, 9)], [], [(39, 0, 51, 2)], []⟩
@[simp] theorem an_ref13_window_draws : an_ref13_window.draws = [(5, 9)] := rfl
@[simp] theorem an_ref13_window_exits : an_ref13_window.exits = [(0, [5]), (1, [0, 3, 5, 6])] := rfl
@[simp] theorem an_ref13_window_rets : an_ref13_window.rets = some [4] := rfl
@[simp] theorem an_ref13_window_keep : an_ref13_window.keep = [0, 3, 4, 5, 6, 7] := rfl
@[simp] theorem an_ref13_window_cond : an_ref13_window.cond = [11, 33] := rfl
@[simp] theorem an_ref13_window_rows : an_ref13_window.rows = [] := rfl
@[simp] theorem an_ref13_window_loops : an_ref13_window.loops = [(3, [0, 3, 5, 6])] := rfl
@[simp] theorem an_ref13_window_ecalls : an_ref13_window.ecalls = [] := rfl
@[simp] theorem an_ref13_window_crows : an_ref13_window.crows = [(39, 0, 51, 2)] := rfl
@[simp] theorem an_ref13_window_tails : an_ref13_window.tails = [] := rfl
@[simp] noncomputable def cl_ref13_window : List (Nat × (List D → Option D)) := [(54, F_ref13_Size), (89, F_ref03_Meet), (90, F_ref13_Knot)]
@[simp] noncomputable def ce_ref13_window : List (Nat × (List (Nat × O) → List D → Option (D × List (Nat × O)))) := []
noncomputable def c_ref13_window : CT := ⟨callOf (cl_ref13_window ), callOfE ce_ref13_window, gl⟩
@[simp] theorem c_ref13_window_p (f : FuncId) (ds : List D) : c_ref13_window.p f ds = callOf (cl_ref13_window ) f ds := Eq.trans rfl rfl
@[simp] theorem c_ref13_window_e (f : FuncId) (hs : List (Nat × O)) (ds : List D) : c_ref13_window.e f hs ds = callOfE ce_ref13_window f hs ds := Eq.trans rfl rfl
@[simp] theorem c_ref13_window_g (g : Nat) : c_ref13_window.g g = gl g := Eq.trans rfl rfl
noncomputable def L_ref13_window (i n : Nat) (s : St) : Option (E × St) := atN Tryz.prog c_ref13_window an_ref13_window 42 (bodyOf Tryz.f55) i n s
noncomputable def H_ref13_window (n i : Nat) (s : St) : Option (E × St) := atH Tryz.prog c_ref13_window an_ref13_window 42 (bodyOf Tryz.f55) n i s
@[simp] theorem H_ref13_window_eq (n i : Nat) (s : St) : H_ref13_window n i s = L_ref13_window i n (headOf (an_ref13_window.loops.lookup i) s) := rfl
noncomputable def R_ref13_window (i : Nat) (s : St) : Option (E × St) := stepL Tryz.prog c_ref13_window an_ref13_window 42 (bodyOf Tryz.f55) i s
theorem lok_ref13_window : okLoops (bodyOf Tryz.f55) = true := by kernel_rfl
theorem L_ref13_window_zero (i : Nat) (s : St) : L_ref13_window i 0 s = none := rfl
theorem L_ref13_window_succ (i n : Nat) (s : St) : L_ref13_window i (n + 1) s = andThen (R_ref13_window i s) (H_ref13_window n i) := atN_succ lok_ref13_window i n s
theorem R_ref13_window_eq (i : Nat) (s : St) : R_ref13_window i s = runS Tryz.prog c_ref13_window (H_ref13_window bigL) an_ref13_window 42 (loopAt (bodyOf Tryz.f55) i) s := rfl
noncomputable def F_ref13_window (ds : List D) : Option D := runF Tryz.prog c_ref13_window an_ref13_window 42 (bodyOf Tryz.f55) [.tmp 4] ds
theorem F_ref13_window_eq (ds : List D) : F_ref13_window ds = runG Tryz.prog c_ref13_window (H_ref13_window bigL) an_ref13_window 42 (bodyOf Tryz.f55) [.tmp 4] ds := runG_eq lok_ref13_window _ ds
theorem C_ref13_window (ds : List D) (r : D) (h : F_ref13_window ds = some r) : Contract Tryz.prog gl 55 ds r := contract_of mix Tryz.func55 rfl (by kernel_rfl) (by kernel_rfl) (by decide) (call := c_ref13_window) ⟨callOf_ok cl_ref13_window ⟨C_ref13_Size, C_ref03_Meet, C_ref13_Knot, trivial⟩, callOfE_ok ce_ref13_window trivial⟩ h
-- sawmill/sawmillref13.Worst: loops [5]; state: params 0..1, then [4, 5, 6, 7]
attribute [simp] Tryz.f22
noncomputable def an_ref13_Worst : Ann := ⟨[0, 1, 4, 5, 6, 7], [18, 22], [], [(5, [0, 1, 5, 6])], [(0, [5]), (1, [0, 1, 5, 6])], some [4], [], [], [(39, 0, 51, 2)], []⟩
@[simp] theorem an_ref13_Worst_draws : an_ref13_Worst.draws = [] := rfl
@[simp] theorem an_ref13_Worst_exits : an_ref13_Worst.exits = [(0, [5]), (1, [0, 1, 5, 6])] := rfl
@[simp] theorem an_ref13_Worst_rets : an_ref13_Worst.rets = some [4] := rfl
@[simp] theorem an_ref13_Worst_keep : an_ref13_Worst.keep = [0, 1, 4, 5, 6, 7] := rfl
@[simp] theorem an_ref13_Worst_cond : an_ref13_Worst.cond = [18, 22] := rfl
@[simp] theorem an_ref13_Worst_rows : an_ref13_Worst.rows = [] := rfl
@[simp] theorem an_ref13_Worst_loops : an_ref13_Worst.loops = [(5, [0, 1, 5, 6])] := rfl
@[simp] theorem an_ref13_Worst_ecalls : an_ref13_Worst.ecalls = [] := rfl
@[simp] theorem an_ref13_Worst_crows : an_ref13_Worst.crows = [(39, 0, 51, 2)] := rfl
@[simp] theorem an_ref13_Worst_tails : an_ref13_Worst.tails = [] := rfl
@[simp] noncomputable def cl_ref13_Worst : List (Nat × (List D → Option D)) := [(49, F_ref13_Check), (55, F_ref13_window)]
@[simp] noncomputable def ce_ref13_Worst : List (Nat × (List (Nat × O) → List D → Option (D × List (Nat × O)))) := []
noncomputable def c_ref13_Worst : CT := ⟨callOf (cl_ref13_Worst ), callOfE ce_ref13_Worst, gl⟩
@[simp] theorem c_ref13_Worst_p (f : FuncId) (ds : List D) : c_ref13_Worst.p f ds = callOf (cl_ref13_Worst ) f ds := Eq.trans rfl rfl
@[simp] theorem c_ref13_Worst_e (f : FuncId) (hs : List (Nat × O)) (ds : List D) : c_ref13_Worst.e f hs ds = callOfE ce_ref13_Worst f hs ds := Eq.trans rfl rfl
@[simp] theorem c_ref13_Worst_g (g : Nat) : c_ref13_Worst.g g = gl g := Eq.trans rfl rfl
noncomputable def L_ref13_Worst (i n : Nat) (s : St) : Option (E × St) := atN Tryz.prog c_ref13_Worst an_ref13_Worst 45 (bodyOf Tryz.f22) i n s
noncomputable def H_ref13_Worst (n i : Nat) (s : St) : Option (E × St) := atH Tryz.prog c_ref13_Worst an_ref13_Worst 45 (bodyOf Tryz.f22) n i s
@[simp] theorem H_ref13_Worst_eq (n i : Nat) (s : St) : H_ref13_Worst n i s = L_ref13_Worst i n (headOf (an_ref13_Worst.loops.lookup i) s) := rfl
noncomputable def R_ref13_Worst (i : Nat) (s : St) : Option (E × St) := stepL Tryz.prog c_ref13_Worst an_ref13_Worst 45 (bodyOf Tryz.f22) i s
theorem lok_ref13_Worst : okLoops (bodyOf Tryz.f22) = true := by kernel_rfl
theorem L_ref13_Worst_zero (i : Nat) (s : St) : L_ref13_Worst i 0 s = none := rfl
theorem L_ref13_Worst_succ (i n : Nat) (s : St) : L_ref13_Worst i (n + 1) s = andThen (R_ref13_Worst i s) (H_ref13_Worst n i) := atN_succ lok_ref13_Worst i n s
theorem R_ref13_Worst_eq (i : Nat) (s : St) : R_ref13_Worst i s = runS Tryz.prog c_ref13_Worst (H_ref13_Worst bigL) an_ref13_Worst 45 (loopAt (bodyOf Tryz.f22) i) s := rfl
noncomputable def F_ref13_Worst (ds : List D) : Option D := runF Tryz.prog c_ref13_Worst an_ref13_Worst 45 (bodyOf Tryz.f22) [.tmp 4] ds
theorem F_ref13_Worst_eq (ds : List D) : F_ref13_Worst ds = runG Tryz.prog c_ref13_Worst (H_ref13_Worst bigL) an_ref13_Worst 45 (bodyOf Tryz.f22) [.tmp 4] ds := runG_eq lok_ref13_Worst _ ds
theorem C_ref13_Worst (ds : List D) (r : D) (h : F_ref13_Worst ds = some r) : Contract Tryz.prog gl 22 ds r := contract_of mix Tryz.func22 rfl (by kernel_rfl) (by kernel_rfl) (by decide) (call := c_ref13_Worst) ⟨callOf_ok cl_ref13_Worst ⟨C_ref13_Check, C_ref13_window, trivial⟩, callOfE_ok ce_ref13_Worst trivial⟩ h
-- sawmill/sawmillref36.Checks: loops []; state: params 0..1, then [2, 3, 4]
attribute [simp] Tryz.f23
noncomputable def an_ref36_Checks : Ann := ⟨[2, 3, 4], [12], [], [], [], some [4], [], [], [(39, 0, 51, 2)], []⟩
@[simp] theorem an_ref36_Checks_draws : an_ref36_Checks.draws = [] := rfl
@[simp] theorem an_ref36_Checks_exits : an_ref36_Checks.exits = [] := rfl
@[simp] theorem an_ref36_Checks_rets : an_ref36_Checks.rets = some [4] := rfl
@[simp] theorem an_ref36_Checks_keep : an_ref36_Checks.keep = [2, 3, 4] := rfl
@[simp] theorem an_ref36_Checks_cond : an_ref36_Checks.cond = [12] := rfl
@[simp] theorem an_ref36_Checks_rows : an_ref36_Checks.rows = [] := rfl
@[simp] theorem an_ref36_Checks_loops : an_ref36_Checks.loops = [] := rfl
@[simp] theorem an_ref36_Checks_ecalls : an_ref36_Checks.ecalls = [] := rfl
@[simp] theorem an_ref36_Checks_crows : an_ref36_Checks.crows = [(39, 0, 51, 2)] := rfl
@[simp] theorem an_ref36_Checks_tails : an_ref36_Checks.tails = [] := rfl
@[simp] noncomputable def cl_ref36_Checks : List (Nat × (List D → Option D)) := [(56, F_ref36_Check)]
@[simp] noncomputable def ce_ref36_Checks : List (Nat × (List (Nat × O) → List D → Option (D × List (Nat × O)))) := []
noncomputable def c_ref36_Checks : CT := ⟨callOf (cl_ref36_Checks ), callOfE ce_ref36_Checks, gl⟩
@[simp] theorem c_ref36_Checks_p (f : FuncId) (ds : List D) : c_ref36_Checks.p f ds = callOf (cl_ref36_Checks ) f ds := Eq.trans rfl rfl
@[simp] theorem c_ref36_Checks_e (f : FuncId) (hs : List (Nat × O)) (ds : List D) : c_ref36_Checks.e f hs ds = callOfE ce_ref36_Checks f hs ds := Eq.trans rfl rfl
@[simp] theorem c_ref36_Checks_g (g : Nat) : c_ref36_Checks.g g = gl g := Eq.trans rfl rfl
noncomputable def L_ref36_Checks (i n : Nat) (s : St) : Option (E × St) := atN Tryz.prog c_ref36_Checks an_ref36_Checks 18 (bodyOf Tryz.f23) i n s
noncomputable def H_ref36_Checks (n i : Nat) (s : St) : Option (E × St) := atH Tryz.prog c_ref36_Checks an_ref36_Checks 18 (bodyOf Tryz.f23) n i s
@[simp] theorem H_ref36_Checks_eq (n i : Nat) (s : St) : H_ref36_Checks n i s = L_ref36_Checks i n (headOf (an_ref36_Checks.loops.lookup i) s) := rfl
noncomputable def R_ref36_Checks (i : Nat) (s : St) : Option (E × St) := stepL Tryz.prog c_ref36_Checks an_ref36_Checks 18 (bodyOf Tryz.f23) i s
theorem lok_ref36_Checks : okLoops (bodyOf Tryz.f23) = true := by kernel_rfl
noncomputable def F_ref36_Checks (ds : List D) : Option D := runF Tryz.prog c_ref36_Checks an_ref36_Checks 18 (bodyOf Tryz.f23) [.tmp 4] ds
theorem F_ref36_Checks_eq (ds : List D) : F_ref36_Checks ds = runG Tryz.prog c_ref36_Checks (H_ref36_Checks bigL) an_ref36_Checks 18 (bodyOf Tryz.f23) [.tmp 4] ds := runG_eq lok_ref36_Checks _ ds
theorem C_ref36_Checks (ds : List D) (r : D) (h : F_ref36_Checks ds = some r) : Contract Tryz.prog gl 23 ds r := contract_of mix Tryz.func23 rfl (by kernel_rfl) (by kernel_rfl) (by decide) (call := c_ref36_Checks) ⟨callOf_ok cl_ref36_Checks ⟨C_ref36_Check, trivial⟩, callOfE_ok ce_ref36_Checks trivial⟩ h
-- sawmill/sawmillref36.Gradient: loops []; state: params 0..0, then [1, 2]
attribute [simp] Tryz.f25
noncomputable def an_ref36_Gradient : Ann := ⟨[1, 2], [5], [], [], [], some [2], [], [], [(39, 0, 51, 2)], []⟩
@[simp] theorem an_ref36_Gradient_draws : an_ref36_Gradient.draws = [] := rfl
@[simp] theorem an_ref36_Gradient_exits : an_ref36_Gradient.exits = [] := rfl
@[simp] theorem an_ref36_Gradient_rets : an_ref36_Gradient.rets = some [2] := rfl
@[simp] theorem an_ref36_Gradient_keep : an_ref36_Gradient.keep = [1, 2] := rfl
@[simp] theorem an_ref36_Gradient_cond : an_ref36_Gradient.cond = [5] := rfl
@[simp] theorem an_ref36_Gradient_rows : an_ref36_Gradient.rows = [] := rfl
@[simp] theorem an_ref36_Gradient_loops : an_ref36_Gradient.loops = [] := rfl
@[simp] theorem an_ref36_Gradient_ecalls : an_ref36_Gradient.ecalls = [] := rfl
@[simp] theorem an_ref36_Gradient_crows : an_ref36_Gradient.crows = [(39, 0, 51, 2)] := rfl
@[simp] theorem an_ref36_Gradient_tails : an_ref36_Gradient.tails = [] := rfl
@[simp] noncomputable def cl_ref36_Gradient : List (Nat × (List D → Option D)) := [(56, F_ref36_Check)]
@[simp] noncomputable def ce_ref36_Gradient : List (Nat × (List (Nat × O) → List D → Option (D × List (Nat × O)))) := []
noncomputable def c_ref36_Gradient : CT := ⟨callOf (cl_ref36_Gradient ), callOfE ce_ref36_Gradient, gl⟩
@[simp] theorem c_ref36_Gradient_p (f : FuncId) (ds : List D) : c_ref36_Gradient.p f ds = callOf (cl_ref36_Gradient ) f ds := Eq.trans rfl rfl
@[simp] theorem c_ref36_Gradient_e (f : FuncId) (hs : List (Nat × O)) (ds : List D) : c_ref36_Gradient.e f hs ds = callOfE ce_ref36_Gradient f hs ds := Eq.trans rfl rfl
@[simp] theorem c_ref36_Gradient_g (g : Nat) : c_ref36_Gradient.g g = gl g := Eq.trans rfl rfl
noncomputable def L_ref36_Gradient (i n : Nat) (s : St) : Option (E × St) := atN Tryz.prog c_ref36_Gradient an_ref36_Gradient 11 (bodyOf Tryz.f25) i n s
noncomputable def H_ref36_Gradient (n i : Nat) (s : St) : Option (E × St) := atH Tryz.prog c_ref36_Gradient an_ref36_Gradient 11 (bodyOf Tryz.f25) n i s
@[simp] theorem H_ref36_Gradient_eq (n i : Nat) (s : St) : H_ref36_Gradient n i s = L_ref36_Gradient i n (headOf (an_ref36_Gradient.loops.lookup i) s) := rfl
noncomputable def R_ref36_Gradient (i : Nat) (s : St) : Option (E × St) := stepL Tryz.prog c_ref36_Gradient an_ref36_Gradient 11 (bodyOf Tryz.f25) i s
theorem lok_ref36_Gradient : okLoops (bodyOf Tryz.f25) = true := by kernel_rfl
noncomputable def F_ref36_Gradient (ds : List D) : Option D := runF Tryz.prog c_ref36_Gradient an_ref36_Gradient 11 (bodyOf Tryz.f25) [.tmp 2] ds
theorem F_ref36_Gradient_eq (ds : List D) : F_ref36_Gradient ds = runG Tryz.prog c_ref36_Gradient (H_ref36_Gradient bigL) an_ref36_Gradient 11 (bodyOf Tryz.f25) [.tmp 2] ds := runG_eq lok_ref36_Gradient _ ds
theorem C_ref36_Gradient (ds : List D) (r : D) (h : F_ref36_Gradient ds = some r) : Contract Tryz.prog gl 25 ds r := contract_of mix Tryz.func25 rfl (by kernel_rfl) (by kernel_rfl) (by decide) (call := c_ref36_Gradient) ⟨callOf_ok cl_ref36_Gradient ⟨C_ref36_Check, trivial⟩, callOfE_ok ce_ref36_Gradient trivial⟩ h
-- sawmill/sawmillref41.Width: loops []; state: params 0..0, then [1, 2]
attribute [simp] Tryz.f91
noncomputable def an_ref41_Width : Ann := ⟨[1, 2], [], [], [], [], some [2], [(1, 7)], [], [(39, 0, 51, 2)], []⟩
@[simp] theorem an_ref41_Width_draws : an_ref41_Width.draws = [(1, 7)] := rfl
@[simp] theorem an_ref41_Width_exits : an_ref41_Width.exits = [] := rfl
@[simp] theorem an_ref41_Width_rets : an_ref41_Width.rets = some [2] := rfl
@[simp] theorem an_ref41_Width_keep : an_ref41_Width.keep = [1, 2] := rfl
@[simp] theorem an_ref41_Width_cond : an_ref41_Width.cond = [] := rfl
@[simp] theorem an_ref41_Width_rows : an_ref41_Width.rows = [] := rfl
@[simp] theorem an_ref41_Width_loops : an_ref41_Width.loops = [] := rfl
@[simp] theorem an_ref41_Width_ecalls : an_ref41_Width.ecalls = [] := rfl
@[simp] theorem an_ref41_Width_crows : an_ref41_Width.crows = [(39, 0, 51, 2)] := rfl
@[simp] theorem an_ref41_Width_tails : an_ref41_Width.tails = [] := rfl
@[simp] noncomputable def cl_ref41_Width : List (Nat × (List D → Option D)) := [(88, F_ref03_Len)]
@[simp] noncomputable def ce_ref41_Width : List (Nat × (List (Nat × O) → List D → Option (D × List (Nat × O)))) := []
noncomputable def c_ref41_Width : CT := ⟨callOf (cl_ref41_Width ), callOfE ce_ref41_Width, gl⟩
@[simp] theorem c_ref41_Width_p (f : FuncId) (ds : List D) : c_ref41_Width.p f ds = callOf (cl_ref41_Width ) f ds := Eq.trans rfl rfl
@[simp] theorem c_ref41_Width_e (f : FuncId) (hs : List (Nat × O)) (ds : List D) : c_ref41_Width.e f hs ds = callOfE ce_ref41_Width f hs ds := Eq.trans rfl rfl
@[simp] theorem c_ref41_Width_g (g : Nat) : c_ref41_Width.g g = gl g := Eq.trans rfl rfl
noncomputable def L_ref41_Width (i n : Nat) (s : St) : Option (E × St) := atN Tryz.prog c_ref41_Width an_ref41_Width 12 (bodyOf Tryz.f91) i n s
noncomputable def H_ref41_Width (n i : Nat) (s : St) : Option (E × St) := atH Tryz.prog c_ref41_Width an_ref41_Width 12 (bodyOf Tryz.f91) n i s
@[simp] theorem H_ref41_Width_eq (n i : Nat) (s : St) : H_ref41_Width n i s = L_ref41_Width i n (headOf (an_ref41_Width.loops.lookup i) s) := rfl
noncomputable def R_ref41_Width (i : Nat) (s : St) : Option (E × St) := stepL Tryz.prog c_ref41_Width an_ref41_Width 12 (bodyOf Tryz.f91) i s
theorem lok_ref41_Width : okLoops (bodyOf Tryz.f91) = true := by kernel_rfl
noncomputable def F_ref41_Width (ds : List D) : Option D := runF Tryz.prog c_ref41_Width an_ref41_Width 12 (bodyOf Tryz.f91) [.tmp 2] ds
theorem F_ref41_Width_eq (ds : List D) : F_ref41_Width ds = runG Tryz.prog c_ref41_Width (H_ref41_Width bigL) an_ref41_Width 12 (bodyOf Tryz.f91) [.tmp 2] ds := runG_eq lok_ref41_Width _ ds
theorem C_ref41_Width (ds : List D) (r : D) (h : F_ref41_Width ds = some r) : Contract Tryz.prog gl 91 ds r := contract_of mix Tryz.func91 rfl (by kernel_rfl) (by kernel_rfl) (by decide) (call := c_ref41_Width) ⟨callOf_ok cl_ref41_Width ⟨C_ref03_Len, trivial⟩, callOfE_ok ce_ref41_Width trivial⟩ h
-- sawmill/sawmillref41.Knots: loops []; state: params 0..0, then [1, 2]
attribute [simp] Tryz.f57
noncomputable def an_ref41_Knots : Ann := ⟨[1, 2], [5], [], [], [], some [2], [(3, 6)], [], [(39, 0, 51, 2)], []⟩
@[simp] theorem an_ref41_Knots_draws : an_ref41_Knots.draws = [(3, 6)] := rfl
@[simp] theorem an_ref41_Knots_exits : an_ref41_Knots.exits = [] := rfl
@[simp] theorem an_ref41_Knots_rets : an_ref41_Knots.rets = some [2] := rfl
@[simp] theorem an_ref41_Knots_keep : an_ref41_Knots.keep = [1, 2] := rfl
@[simp] theorem an_ref41_Knots_cond : an_ref41_Knots.cond = [5] := rfl
@[simp] theorem an_ref41_Knots_rows : an_ref41_Knots.rows = [] := rfl
@[simp] theorem an_ref41_Knots_loops : an_ref41_Knots.loops = [] := rfl
@[simp] theorem an_ref41_Knots_ecalls : an_ref41_Knots.ecalls = [] := rfl
@[simp] theorem an_ref41_Knots_crows : an_ref41_Knots.crows = [(39, 0, 51, 2)] := rfl
@[simp] theorem an_ref41_Knots_tails : an_ref41_Knots.tails = [] := rfl
@[simp] noncomputable def cl_ref41_Knots : List (Nat × (List D → Option D)) := [(22, F_ref13_Worst), (91, F_ref41_Width)]
@[simp] noncomputable def ce_ref41_Knots : List (Nat × (List (Nat × O) → List D → Option (D × List (Nat × O)))) := []
noncomputable def c_ref41_Knots : CT := ⟨callOf (cl_ref41_Knots ), callOfE ce_ref41_Knots, gl⟩
@[simp] theorem c_ref41_Knots_p (f : FuncId) (ds : List D) : c_ref41_Knots.p f ds = callOf (cl_ref41_Knots ) f ds := Eq.trans rfl rfl
@[simp] theorem c_ref41_Knots_e (f : FuncId) (hs : List (Nat × O)) (ds : List D) : c_ref41_Knots.e f hs ds = callOfE ce_ref41_Knots f hs ds := Eq.trans rfl rfl
@[simp] theorem c_ref41_Knots_g (g : Nat) : c_ref41_Knots.g g = gl g := Eq.trans rfl rfl
noncomputable def L_ref41_Knots (i n : Nat) (s : St) : Option (E × St) := atN Tryz.prog c_ref41_Knots an_ref41_Knots 14 (bodyOf Tryz.f57) i n s
noncomputable def H_ref41_Knots (n i : Nat) (s : St) : Option (E × St) := atH Tryz.prog c_ref41_Knots an_ref41_Knots 14 (bodyOf Tryz.f57) n i s
@[simp] theorem H_ref41_Knots_eq (n i : Nat) (s : St) : H_ref41_Knots n i s = L_ref41_Knots i n (headOf (an_ref41_Knots.loops.lookup i) s) := rfl
noncomputable def R_ref41_Knots (i : Nat) (s : St) : Option (E × St) := stepL Tryz.prog c_ref41_Knots an_ref41_Knots 14 (bodyOf Tryz.f57) i s
theorem lok_ref41_Knots : okLoops (bodyOf Tryz.f57) = true := by kernel_rfl
noncomputable def F_ref41_Knots (ds : List D) : Option D := runF Tryz.prog c_ref41_Knots an_ref41_Knots 14 (bodyOf Tryz.f57) [.tmp 2] ds
theorem F_ref41_Knots_eq (ds : List D) : F_ref41_Knots ds = runG Tryz.prog c_ref41_Knots (H_ref41_Knots bigL) an_ref41_Knots 14 (bodyOf Tryz.f57) [.tmp 2] ds := runG_eq lok_ref41_Knots _ ds
theorem C_ref41_Knots (ds : List D) (r : D) (h : F_ref41_Knots ds = some r) : Contract Tryz.prog gl 57 ds r := contract_of mix Tryz.func57 rfl (by kernel_rfl) (by kernel_rfl) (by decide) (call := c_ref41_Knots) ⟨callOf_ok cl_ref41_Knots ⟨C_ref13_Worst, C_ref41_Width, trivial⟩, callOfE_ok ce_ref41_Knots trivial⟩ h
-- sawmill/sawmillref41.Stiffness: loops []; state: params 0..1, then [2, 3, 4, 5, 6, 7]
attribute [simp] Tryz.f26
noncomputable def an_ref41_Stiffness : Ann := ⟨[2, 3, 4, 5, 6, 7], [], [], [], [], some [4], [(1, 4)], [], [(39, 0, 51, 2)], []⟩
@[simp] theorem an_ref41_Stiffness_draws : an_ref41_Stiffness.draws = [(1, 4)] := rfl
@[simp] theorem an_ref41_Stiffness_exits : an_ref41_Stiffness.exits = [] := rfl
@[simp] theorem an_ref41_Stiffness_rets : an_ref41_Stiffness.rets = some [4] := rfl
@[simp] theorem an_ref41_Stiffness_keep : an_ref41_Stiffness.keep = [2, 3, 4, 5, 6, 7] := rfl
@[simp] theorem an_ref41_Stiffness_cond : an_ref41_Stiffness.cond = [] := rfl
@[simp] theorem an_ref41_Stiffness_rows : an_ref41_Stiffness.rows = [] := rfl
@[simp] theorem an_ref41_Stiffness_loops : an_ref41_Stiffness.loops = [] := rfl
@[simp] theorem an_ref41_Stiffness_ecalls : an_ref41_Stiffness.ecalls = [] := rfl
@[simp] theorem an_ref41_Stiffness_crows : an_ref41_Stiffness.crows = [(39, 0, 51, 2)] := rfl
@[simp] theorem an_ref41_Stiffness_tails : an_ref41_Stiffness.tails = [] := rfl
@[simp] noncomputable def cl_ref41_Stiffness : List (Nat × (List D → Option D)) := [(24, F_ref36_Mean), (57, F_ref41_Knots)]
@[simp] noncomputable def ce_ref41_Stiffness : List (Nat × (List (Nat × O) → List D → Option (D × List (Nat × O)))) := []
noncomputable def c_ref41_Stiffness : CT := ⟨callOf (cl_ref41_Stiffness ), callOfE ce_ref41_Stiffness, gl⟩
@[simp] theorem c_ref41_Stiffness_p (f : FuncId) (ds : List D) : c_ref41_Stiffness.p f ds = callOf (cl_ref41_Stiffness ) f ds := Eq.trans rfl rfl
@[simp] theorem c_ref41_Stiffness_e (f : FuncId) (hs : List (Nat × O)) (ds : List D) : c_ref41_Stiffness.e f hs ds = callOfE ce_ref41_Stiffness f hs ds := Eq.trans rfl rfl
@[simp] theorem c_ref41_Stiffness_g (g : Nat) : c_ref41_Stiffness.g g = gl g := Eq.trans rfl rfl
noncomputable def L_ref41_Stiffness (i n : Nat) (s : St) : Option (E × St) := atN Tryz.prog c_ref41_Stiffness an_ref41_Stiffness 31 (bodyOf Tryz.f26) i n s
noncomputable def H_ref41_Stiffness (n i : Nat) (s : St) : Option (E × St) := atH Tryz.prog c_ref41_Stiffness an_ref41_Stiffness 31 (bodyOf Tryz.f26) n i s
@[simp] theorem H_ref41_Stiffness_eq (n i : Nat) (s : St) : H_ref41_Stiffness n i s = L_ref41_Stiffness i n (headOf (an_ref41_Stiffness.loops.lookup i) s) := rfl
noncomputable def R_ref41_Stiffness (i : Nat) (s : St) : Option (E × St) := stepL Tryz.prog c_ref41_Stiffness an_ref41_Stiffness 31 (bodyOf Tryz.f26) i s
theorem lok_ref41_Stiffness : okLoops (bodyOf Tryz.f26) = true := by kernel_rfl
noncomputable def F_ref41_Stiffness (ds : List D) : Option D := runF Tryz.prog c_ref41_Stiffness an_ref41_Stiffness 31 (bodyOf Tryz.f26) [.tmp 4] ds
theorem F_ref41_Stiffness_eq (ds : List D) : F_ref41_Stiffness ds = runG Tryz.prog c_ref41_Stiffness (H_ref41_Stiffness bigL) an_ref41_Stiffness 31 (bodyOf Tryz.f26) [.tmp 4] ds := runG_eq lok_ref41_Stiffness _ ds
theorem C_ref41_Stiffness (ds : List D) (r : D) (h : F_ref41_Stiffness ds = some r) : Contract Tryz.prog gl 26 ds r := contract_of mix Tryz.func26 rfl (by kernel_rfl) (by kernel_rfl) (by decide) (call := c_ref41_Stiffness) ⟨callOf_ok cl_ref41_Stiffness ⟨C_ref36_Mean, C_ref41_Knots, trivial⟩, callOfE_ok ce_ref41_Stiffness trivial⟩ h
-- sawmill/sawmillref42.Names: loops []; state: params 0..-1, then [0]
attribute [simp] Tryz.f27
noncomputable def an_ref42_Names : Ann := ⟨[0], [], [], [], [], some [0], [], [], [(39, 0, 51, 2)], []⟩
@[simp] theorem an_ref42_Names_draws : an_ref42_Names.draws = [] := rfl
@[simp] theorem an_ref42_Names_exits : an_ref42_Names.exits = [] := rfl
@[simp] theorem an_ref42_Names_rets : an_ref42_Names.rets = some [0] := rfl
@[simp] theorem an_ref42_Names_keep : an_ref42_Names.keep = [0] := rfl
@[simp] theorem an_ref42_Names_cond : an_ref42_Names.cond = [] := rfl
@[simp] theorem an_ref42_Names_rows : an_ref42_Names.rows = [] := rfl
@[simp] theorem an_ref42_Names_loops : an_ref42_Names.loops = [] := rfl
@[simp] theorem an_ref42_Names_ecalls : an_ref42_Names.ecalls = [] := rfl
@[simp] theorem an_ref42_Names_crows : an_ref42_Names.crows = [(39, 0, 51, 2)] := rfl
@[simp] theorem an_ref42_Names_tails : an_ref42_Names.tails = [] := rfl
@[simp] noncomputable def cl_ref42_Names : List (Nat × (List D → Option D)) := []
@[simp] noncomputable def ce_ref42_Names : List (Nat × (List (Nat × O) → List D → Option (D × List (Nat × O)))) := []
noncomputable def c_ref42_Names : CT := ⟨callOf (cl_ref42_Names ), callOfE ce_ref42_Names, gl⟩
@[simp] theorem c_ref42_Names_p (f : FuncId) (ds : List D) : c_ref42_Names.p f ds = callOf (cl_ref42_Names ) f ds := Eq.trans rfl rfl
@[simp] theorem c_ref42_Names_e (f : FuncId) (hs : List (Nat × O)) (ds : List D) : c_ref42_Names.e f hs ds = callOfE ce_ref42_Names f hs ds := Eq.trans rfl rfl
@[simp] theorem c_ref42_Names_g (g : Nat) : c_ref42_Names.g g = gl g := Eq.trans rfl rfl
noncomputable def L_ref42_Names (i n : Nat) (s : St) : Option (E × St) := atN Tryz.prog c_ref42_Names an_ref42_Names 2 (bodyOf Tryz.f27) i n s
noncomputable def H_ref42_Names (n i : Nat) (s : St) : Option (E × St) := atH Tryz.prog c_ref42_Names an_ref42_Names 2 (bodyOf Tryz.f27) n i s
@[simp] theorem H_ref42_Names_eq (n i : Nat) (s : St) : H_ref42_Names n i s = L_ref42_Names i n (headOf (an_ref42_Names.loops.lookup i) s) := rfl
noncomputable def R_ref42_Names (i : Nat) (s : St) : Option (E × St) := stepL Tryz.prog c_ref42_Names an_ref42_Names 2 (bodyOf Tryz.f27) i s
theorem lok_ref42_Names : okLoops (bodyOf Tryz.f27) = true := by kernel_rfl
noncomputable def F_ref42_Names (ds : List D) : Option D := runF Tryz.prog c_ref42_Names an_ref42_Names 2 (bodyOf Tryz.f27) [.tmp 0] ds
theorem F_ref42_Names_eq (ds : List D) : F_ref42_Names ds = runG Tryz.prog c_ref42_Names (H_ref42_Names bigL) an_ref42_Names 2 (bodyOf Tryz.f27) [.tmp 0] ds := runG_eq lok_ref42_Names _ ds
theorem C_ref42_Names (ds : List D) (r : D) (h : F_ref42_Names ds = some r) : Contract Tryz.prog gl 27 ds r := contract_of mix Tryz.func27 rfl (by kernel_rfl) (by kernel_rfl) (by decide) (call := c_ref42_Names) ⟨callOf_ok cl_ref42_Names trivial, callOfE_ok ce_ref42_Names trivial⟩ h
-- sawmill/sawmillref42.Of: loops [11]; state: params 0..2, then [3, 5, 6, 7, 8, 9, 10, 11, 12, 13]
attribute [simp] Tryz.f8
noncomputable def an_ref42_Of : Ann := ⟨[1, 3, 5, 6, 7, 8, 9, 10, 11, 12, 13], [23, 34, 80], [12], [(11, [10, 11, 12, 13])], [(0, [12]), (1, [10, 11, 12, 13])], some [6], [(3, 9), (7, 40), (13, 11)], [], [(39, 0, 51, 2)], []⟩
@[simp] theorem an_ref42_Of_draws : an_ref42_Of.draws = [(3, 9), (7, 40), (13, 11)] := rfl
@[simp] theorem an_ref42_Of_exits : an_ref42_Of.exits = [(0, [12]), (1, [10, 11, 12, 13])] := rfl
@[simp] theorem an_ref42_Of_rets : an_ref42_Of.rets = some [6] := rfl
@[simp] theorem an_ref42_Of_keep : an_ref42_Of.keep = [1, 3, 5, 6, 7, 8, 9, 10, 11, 12, 13] := rfl
@[simp] theorem an_ref42_Of_cond : an_ref42_Of.cond = [23, 34, 80] := rfl
@[simp] theorem an_ref42_Of_rows : an_ref42_Of.rows = [12] := rfl
@[simp] theorem an_ref42_Of_loops : an_ref42_Of.loops = [(11, [10, 11, 12, 13])] := rfl
@[simp] theorem an_ref42_Of_ecalls : an_ref42_Of.ecalls = [] := rfl
@[simp] theorem an_ref42_Of_crows : an_ref42_Of.crows = [(39, 0, 51, 2)] := rfl
@[simp] theorem an_ref42_Of_tails : an_ref42_Of.tails = [] := rfl
@[simp] noncomputable def cl_ref42_Of : List (Nat × (List D → Option D)) := [(16, F_ref30_Check), (17, F_ref34_Check), (18, F_ref39_Under), (19, F_ref30_Length), (20, F_ref13_Count), (21, F_ref13_Largest), (22, F_ref13_Worst), (23, F_ref36_Checks), (24, F_ref36_Mean), (25, F_ref36_Gradient), (26, F_ref41_Stiffness), (27, F_ref42_Names)]
@[simp] noncomputable def ce_ref42_Of : List (Nat × (List (Nat × O) → List D → Option (D × List (Nat × O)))) := []
noncomputable def c_ref42_Of : CT := ⟨callOf (cl_ref42_Of ), callOfE ce_ref42_Of, gl⟩
@[simp] theorem c_ref42_Of_p (f : FuncId) (ds : List D) : c_ref42_Of.p f ds = callOf (cl_ref42_Of ) f ds := Eq.trans rfl rfl
@[simp] theorem c_ref42_Of_e (f : FuncId) (hs : List (Nat × O)) (ds : List D) : c_ref42_Of.e f hs ds = callOfE ce_ref42_Of f hs ds := Eq.trans rfl rfl
@[simp] theorem c_ref42_Of_g (g : Nat) : c_ref42_Of.g g = gl g := Eq.trans rfl rfl
noncomputable def L_ref42_Of (i n : Nat) (s : St) : Option (E × St) := atN Tryz.prog c_ref42_Of an_ref42_Of 96 (bodyOf Tryz.f8) i n s
noncomputable def H_ref42_Of (n i : Nat) (s : St) : Option (E × St) := atH Tryz.prog c_ref42_Of an_ref42_Of 96 (bodyOf Tryz.f8) n i s
@[simp] theorem H_ref42_Of_eq (n i : Nat) (s : St) : H_ref42_Of n i s = L_ref42_Of i n (headOf (an_ref42_Of.loops.lookup i) s) := rfl
noncomputable def R_ref42_Of (i : Nat) (s : St) : Option (E × St) := stepL Tryz.prog c_ref42_Of an_ref42_Of 96 (bodyOf Tryz.f8) i s
theorem lok_ref42_Of : okLoops (bodyOf Tryz.f8) = true := by kernel_rfl
theorem L_ref42_Of_zero (i : Nat) (s : St) : L_ref42_Of i 0 s = none := rfl
theorem L_ref42_Of_succ (i n : Nat) (s : St) : L_ref42_Of i (n + 1) s = andThen (R_ref42_Of i s) (H_ref42_Of n i) := atN_succ lok_ref42_Of i n s
theorem R_ref42_Of_eq (i : Nat) (s : St) : R_ref42_Of i s = runS Tryz.prog c_ref42_Of (H_ref42_Of bigL) an_ref42_Of 96 (loopAt (bodyOf Tryz.f8) i) s := rfl
noncomputable def F_ref42_Of (ds : List D) : Option D := runF Tryz.prog c_ref42_Of an_ref42_Of 96 (bodyOf Tryz.f8) [.tmp 6] ds
theorem F_ref42_Of_eq (ds : List D) : F_ref42_Of ds = runG Tryz.prog c_ref42_Of (H_ref42_Of bigL) an_ref42_Of 96 (bodyOf Tryz.f8) [.tmp 6] ds := runG_eq lok_ref42_Of _ ds
theorem C_ref42_Of (ds : List D) (r : D) (h : F_ref42_Of ds = some r) : Contract Tryz.prog gl 8 ds r := contract_of mix Tryz.func8 rfl (by kernel_rfl) (by kernel_rfl) (by decide) (call := c_ref42_Of) ⟨callOf_ok cl_ref42_Of ⟨C_ref30_Check, C_ref34_Check, C_ref39_Under, C_ref30_Length, C_ref13_Count, C_ref13_Largest, C_ref13_Worst, C_ref36_Checks, C_ref36_Mean, C_ref36_Gradient, C_ref41_Stiffness, C_ref42_Names, trivial⟩, callOfE_ok ce_ref42_Of trivial⟩ h
-- sawmill/sawmillref42.Same: loops [4]; state: params 0..1, then [4, 5]
attribute [simp] Tryz.f6
noncomputable def an_ref42_Same : Ann := ⟨[0, 1, 4, 5], [10, 14, 25], [], [(4, [0, 1, 5])], [(0, []), (1, [0, 1, 5])], some [4], [(6, 8)], [], [(39, 0, 51, 2)], []⟩
@[simp] theorem an_ref42_Same_draws : an_ref42_Same.draws = [(6, 8)] := rfl
@[simp] theorem an_ref42_Same_exits : an_ref42_Same.exits = [(0, []), (1, [0, 1, 5])] := rfl
@[simp] theorem an_ref42_Same_rets : an_ref42_Same.rets = some [4] := rfl
@[simp] theorem an_ref42_Same_keep : an_ref42_Same.keep = [0, 1, 4, 5] := rfl
@[simp] theorem an_ref42_Same_cond : an_ref42_Same.cond = [10, 14, 25] := rfl
@[simp] theorem an_ref42_Same_rows : an_ref42_Same.rows = [] := rfl
@[simp] theorem an_ref42_Same_loops : an_ref42_Same.loops = [(4, [0, 1, 5])] := rfl
@[simp] theorem an_ref42_Same_ecalls : an_ref42_Same.ecalls = [] := rfl
@[simp] theorem an_ref42_Same_crows : an_ref42_Same.crows = [(39, 0, 51, 2)] := rfl
@[simp] theorem an_ref42_Same_tails : an_ref42_Same.tails = [] := rfl
@[simp] noncomputable def cl_ref42_Same : List (Nat × (List D → Option D)) := []
@[simp] noncomputable def ce_ref42_Same : List (Nat × (List (Nat × O) → List D → Option (D × List (Nat × O)))) := []
noncomputable def c_ref42_Same : CT := ⟨callOf (cl_ref42_Same ), callOfE ce_ref42_Same, gl⟩
@[simp] theorem c_ref42_Same_p (f : FuncId) (ds : List D) : c_ref42_Same.p f ds = callOf (cl_ref42_Same ) f ds := Eq.trans rfl rfl
@[simp] theorem c_ref42_Same_e (f : FuncId) (hs : List (Nat × O)) (ds : List D) : c_ref42_Same.e f hs ds = callOfE ce_ref42_Same f hs ds := Eq.trans rfl rfl
@[simp] theorem c_ref42_Same_g (g : Nat) : c_ref42_Same.g g = gl g := Eq.trans rfl rfl
noncomputable def L_ref42_Same (i n : Nat) (s : St) : Option (E × St) := atN Tryz.prog c_ref42_Same an_ref42_Same 26 (bodyOf Tryz.f6) i n s
noncomputable def H_ref42_Same (n i : Nat) (s : St) : Option (E × St) := atH Tryz.prog c_ref42_Same an_ref42_Same 26 (bodyOf Tryz.f6) n i s
@[simp] theorem H_ref42_Same_eq (n i : Nat) (s : St) : H_ref42_Same n i s = L_ref42_Same i n (headOf (an_ref42_Same.loops.lookup i) s) := rfl
noncomputable def R_ref42_Same (i : Nat) (s : St) : Option (E × St) := stepL Tryz.prog c_ref42_Same an_ref42_Same 26 (bodyOf Tryz.f6) i s
theorem lok_ref42_Same : okLoops (bodyOf Tryz.f6) = true := by kernel_rfl
theorem L_ref42_Same_zero (i : Nat) (s : St) : L_ref42_Same i 0 s = none := rfl
theorem L_ref42_Same_succ (i n : Nat) (s : St) : L_ref42_Same i (n + 1) s = andThen (R_ref42_Same i s) (H_ref42_Same n i) := atN_succ lok_ref42_Same i n s
theorem R_ref42_Same_eq (i : Nat) (s : St) : R_ref42_Same i s = runS Tryz.prog c_ref42_Same (H_ref42_Same bigL) an_ref42_Same 26 (loopAt (bodyOf Tryz.f6) i) s := rfl
noncomputable def F_ref42_Same (ds : List D) : Option D := runF Tryz.prog c_ref42_Same an_ref42_Same 26 (bodyOf Tryz.f6) [.tmp 4] ds
theorem F_ref42_Same_eq (ds : List D) : F_ref42_Same ds = runG Tryz.prog c_ref42_Same (H_ref42_Same bigL) an_ref42_Same 26 (bodyOf Tryz.f6) [.tmp 4] ds := runG_eq lok_ref42_Same _ ds
theorem C_ref42_Same (ds : List D) (r : D) (h : F_ref42_Same ds = some r) : Contract Tryz.prog gl 6 ds r := contract_of mix Tryz.func6 rfl (by kernel_rfl) (by kernel_rfl) (by decide) (call := c_ref42_Same) ⟨callOf_ok cl_ref42_Same trivial, callOfE_ok ce_ref42_Same trivial⟩ h
-- sawmill/sawmilllaw42.FeatureOfs: loops []; state: params 0..0, then [1, 2]
attribute [simp] Tryz.f3
noncomputable def an_law42_FeatureOfs : Ann := ⟨[1, 2], [5], [], [], [], some [2], [(3, 8)], [], [(39, 0, 51, 2)], []⟩
@[simp] theorem an_law42_FeatureOfs_draws : an_law42_FeatureOfs.draws = [(3, 8)] := rfl
@[simp] theorem an_law42_FeatureOfs_exits : an_law42_FeatureOfs.exits = [] := rfl
@[simp] theorem an_law42_FeatureOfs_rets : an_law42_FeatureOfs.rets = some [2] := rfl
@[simp] theorem an_law42_FeatureOfs_keep : an_law42_FeatureOfs.keep = [1, 2] := rfl
@[simp] theorem an_law42_FeatureOfs_cond : an_law42_FeatureOfs.cond = [5] := rfl
@[simp] theorem an_law42_FeatureOfs_rows : an_law42_FeatureOfs.rows = [] := rfl
@[simp] theorem an_law42_FeatureOfs_loops : an_law42_FeatureOfs.loops = [] := rfl
@[simp] theorem an_law42_FeatureOfs_ecalls : an_law42_FeatureOfs.ecalls = [] := rfl
@[simp] theorem an_law42_FeatureOfs_crows : an_law42_FeatureOfs.crows = [(39, 0, 51, 2)] := rfl
@[simp] theorem an_law42_FeatureOfs_tails : an_law42_FeatureOfs.tails = [] := rfl
@[simp] noncomputable def cl_law42_FeatureOfs : List (Nat × (List D → Option D)) := [(4, F_law42_short), (5, F_law42_awake), (6, F_ref42_Same), (7, F_law42_of), (8, F_ref42_Of)]
@[simp] noncomputable def ce_law42_FeatureOfs : List (Nat × (List (Nat × O) → List D → Option (D × List (Nat × O)))) := []
noncomputable def c_law42_FeatureOfs : CT := ⟨callOf (cl_law42_FeatureOfs ), callOfE ce_law42_FeatureOfs, gl⟩
@[simp] theorem c_law42_FeatureOfs_p (f : FuncId) (ds : List D) : c_law42_FeatureOfs.p f ds = callOf (cl_law42_FeatureOfs ) f ds := Eq.trans rfl rfl
@[simp] theorem c_law42_FeatureOfs_e (f : FuncId) (hs : List (Nat × O)) (ds : List D) : c_law42_FeatureOfs.e f hs ds = callOfE ce_law42_FeatureOfs f hs ds := Eq.trans rfl rfl
@[simp] theorem c_law42_FeatureOfs_g (g : Nat) : c_law42_FeatureOfs.g g = gl g := Eq.trans rfl rfl
noncomputable def L_law42_FeatureOfs (i n : Nat) (s : St) : Option (E × St) := atN Tryz.prog c_law42_FeatureOfs an_law42_FeatureOfs 20 (bodyOf Tryz.f3) i n s
noncomputable def H_law42_FeatureOfs (n i : Nat) (s : St) : Option (E × St) := atH Tryz.prog c_law42_FeatureOfs an_law42_FeatureOfs 20 (bodyOf Tryz.f3) n i s
@[simp] theorem H_law42_FeatureOfs_eq (n i : Nat) (s : St) : H_law42_FeatureOfs n i s = L_law42_FeatureOfs i n (headOf (an_law42_FeatureOfs.loops.lookup i) s) := rfl
noncomputable def R_law42_FeatureOfs (i : Nat) (s : St) : Option (E × St) := stepL Tryz.prog c_law42_FeatureOfs an_law42_FeatureOfs 20 (bodyOf Tryz.f3) i s
theorem lok_law42_FeatureOfs : okLoops (bodyOf Tryz.f3) = true := by kernel_rfl
noncomputable def F_law42_FeatureOfs (ds : List D) : Option D := runF Tryz.prog c_law42_FeatureOfs an_law42_FeatureOfs 20 (bodyOf Tryz.f3) [.tmp 2] ds
theorem F_law42_FeatureOfs_eq (ds : List D) : F_law42_FeatureOfs ds = runG Tryz.prog c_law42_FeatureOfs (H_law42_FeatureOfs bigL) an_law42_FeatureOfs 20 (bodyOf Tryz.f3) [.tmp 2] ds := runG_eq lok_law42_FeatureOfs _ ds
theorem C_law42_FeatureOfs (ds : List D) (r : D) (h : F_law42_FeatureOfs ds = some r) : Contract Tryz.prog gl 3 ds r := contract_of mix Tryz.func3 rfl (by kernel_rfl) (by kernel_rfl) (by decide) (call := c_law42_FeatureOfs) ⟨callOf_ok cl_law42_FeatureOfs ⟨C_law42_short, C_law42_awake, C_ref42_Same, C_law42_of, C_ref42_Of, trivial⟩, callOfE_ok ce_law42_FeatureOfs trivial⟩ h
end Go.Proofs.YtjhlidaikegelaaGreat

