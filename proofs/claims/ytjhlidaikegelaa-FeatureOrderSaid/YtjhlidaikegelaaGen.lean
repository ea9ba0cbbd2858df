/-
  Printed by gen.py for this seat: more of the functions.
-/
import Derived.Test.YtjhlidaikegelaaGen1
namespace Go.Proofs.Ytjhlidaikegelaa
open Go Go.Abs
set_option maxRecDepth 100000
set_option linter.unusedSimpArgs false
set_option linter.unusedVariables false
-- sawmill/sawmilllaw42.short: loops []; state: params 0..0, then [1, 2]
attribute [simp] Try.f13
noncomputable def an_law42_short : Ann := ⟨[1, 2], [], [], [], [], some [2], [], [], [(22, 0, 59, 2)], []⟩
@[simp] theorem an_law42_short_draws : an_law42_short.draws = [] := rfl
@[simp] theorem an_law42_short_exits : an_law42_short.exits = [] := rfl
@[simp] theorem an_law42_short_rets : an_law42_short.rets = some [2] := rfl
@[simp] theorem an_law42_short_keep : an_law42_short.keep = [1, 2] := rfl
@[simp] theorem an_law42_short_cond : an_law42_short.cond = [] := rfl
@[simp] theorem an_law42_short_rows : an_law42_short.rows = [] := rfl
@[simp] theorem an_law42_short_loops : an_law42_short.loops = [] := rfl
@[simp] theorem an_law42_short_ecalls : an_law42_short.ecalls = [] := rfl
@[simp] theorem an_law42_short_crows : an_law42_short.crows = [(22, 0, 59, 2)] := rfl
@[simp] theorem an_law42_short_tails : an_law42_short.tails = [] := rfl
@[simp] noncomputable def cl_law42_short : List (Nat × (List D → Option D)) := [(26, F_law19_Short)]
@[simp] noncomputable def ce_law42_short : List (Nat × (List (Nat × O) → List D → Option (D × List (Nat × O)))) := []
noncomputable def c_law42_short : CT := ⟨callOf (cl_law42_short ), callOfE ce_law42_short, gl⟩
@[simp] theorem c_law42_short_p (f : FuncId) (ds : List D) : c_law42_short.p f ds = callOf (cl_law42_short ) f ds := Eq.trans rfl rfl
@[simp] theorem c_law42_short_e (f : FuncId) (hs : List (Nat × O)) (ds : List D) : c_law42_short.e f hs ds = callOfE ce_law42_short f hs ds := Eq.trans rfl rfl
@[simp] theorem c_law42_short_g (g : Nat) : c_law42_short.g g = gl g := Eq.trans rfl rfl
noncomputable def L_law42_short (i n : Nat) (s : St) : Option (E × St) := atN Try.prog c_law42_short an_law42_short 41 (bodyOf Try.f13) i n s
noncomputable def H_law42_short (n i : Nat) (s : St) : Option (E × St) := atH Try.prog c_law42_short an_law42_short 41 (bodyOf Try.f13) n i s
@[simp] theorem H_law42_short_eq (n i : Nat) (s : St) : H_law42_short n i s = L_law42_short i n (headOf (an_law42_short.loops.lookup i) s) := rfl
noncomputable def R_law42_short (i : Nat) (s : St) : Option (E × St) := stepL Try.prog c_law42_short an_law42_short 41 (bodyOf Try.f13) i s
theorem lok_law42_short : okLoops (bodyOf Try.f13) = true := by kernel_rfl
noncomputable def F_law42_short (ds : List D) : Option D := runF Try.prog c_law42_short an_law42_short 41 (bodyOf Try.f13) [.tmp 2] ds
theorem F_law42_short_eq (ds : List D) : F_law42_short ds = runG Try.prog c_law42_short (H_law42_short bigL) an_law42_short 41 (bodyOf Try.f13) [.tmp 2] ds := runG_eq lok_law42_short _ ds
theorem C_law42_short (ds : List D) (r : D) (h : F_law42_short ds = some r) : Contract Try.prog gl 13 ds r := contract_of mix Try.func13 rfl (by kernel_rfl) (by kernel_rfl) (by decide) (call := c_law42_short) ⟨callOf_ok cl_law42_short ⟨C_law19_Short, trivial⟩, callOfE_ok ce_law42_short trivial⟩ h
-- sawmill/sawmillref02.digit: loops []; state: params 0..0, then [2]
attribute [simp] Try.f78
noncomputable def an_ref02_digit : Ann := ⟨[2], [], [], [], [], some [2], [], [], [(22, 0, 59, 2)], []⟩
@[simp] theorem an_ref02_digit_draws : an_ref02_digit.draws = [] := rfl
@[simp] theorem an_ref02_digit_exits : an_ref02_digit.exits = [] := rfl
@[simp] theorem an_ref02_digit_rets : an_ref02_digit.rets = some [2] := rfl
@[simp] theorem an_ref02_digit_keep : an_ref02_digit.keep = [2] := rfl
@[simp] theorem an_ref02_digit_cond : an_ref02_digit.cond = [] := rfl
@[simp] theorem an_ref02_digit_rows : an_ref02_digit.rows = [] := rfl
@[simp] theorem an_ref02_digit_loops : an_ref02_digit.loops = [] := rfl
@[simp] theorem an_ref02_digit_ecalls : an_ref02_digit.ecalls = [] := rfl
@[simp] theorem an_ref02_digit_crows : an_ref02_digit.crows = [(22, 0, 59, 2)] := rfl
@[simp] theorem an_ref02_digit_tails : an_ref02_digit.tails = [] := rfl
@[simp] noncomputable def cl_ref02_digit : List (Nat × (List D → Option D)) := []
@[simp] noncomputable def ce_ref02_digit : List (Nat × (List (Nat × O) → List D → Option (D × List (Nat × O)))) := []
noncomputable def c_ref02_digit : CT := ⟨callOf (cl_ref02_digit ), callOfE ce_ref02_digit, gl⟩
@[simp] theorem c_ref02_digit_p (f : FuncId) (ds : List D) : c_ref02_digit.p f ds = callOf (cl_ref02_digit ) f ds := Eq.trans rfl rfl
@[simp] theorem c_ref02_digit_e (f : FuncId) (hs : List (Nat × O)) (ds : List D) : c_ref02_digit.e f hs ds = callOfE ce_ref02_digit f hs ds := Eq.trans rfl rfl
@[simp] theorem c_ref02_digit_g (g : Nat) : c_ref02_digit.g g = gl g := Eq.trans rfl rfl
noncomputable def L_ref02_digit (i n : Nat) (s : St) : Option (E × St) := atN Try.prog c_ref02_digit an_ref02_digit 9 (bodyOf Try.f78) i n s
noncomputable def H_ref02_digit (n i : Nat) (s : St) : Option (E × St) := atH Try.prog c_ref02_digit an_ref02_digit 9 (bodyOf Try.f78) n i s
@[simp] theorem H_ref02_digit_eq (n i : Nat) (s : St) : H_ref02_digit n i s = L_ref02_digit i n (headOf (an_ref02_digit.loops.lookup i) s) := rfl
noncomputable def R_ref02_digit (i : Nat) (s : St) : Option (E × St) := stepL Try.prog c_ref02_digit an_ref02_digit 9 (bodyOf Try.f78) i s
theorem lok_ref02_digit : okLoops (bodyOf Try.f78) = true := by kernel_rfl
noncomputable def F_ref02_digit (ds : List D) : Option D := runF Try.prog c_ref02_digit an_ref02_digit 9 (bodyOf Try.f78) [.tmp 2] ds
theorem F_ref02_digit_eq (ds : List D) : F_ref02_digit ds = runG Try.prog c_ref02_digit (H_ref02_digit bigL) an_ref02_digit 9 (bodyOf Try.f78) [.tmp 2] ds := runG_eq lok_ref02_digit _ ds
theorem C_ref02_digit (ds : List D) (r : D) (h : F_ref02_digit ds = some r) : Contract Try.prog gl 78 ds r := contract_of mix Try.func78 rfl (by kernel_rfl) (by kernel_rfl) (by decide) (call := c_ref02_digit) ⟨callOf_ok cl_ref02_digit trivial, callOfE_ok ce_ref02_digit trivial⟩ h
-- sawmill/sawmillref02.IsName: loops [4]; state: params 0..0, then [2, 3, 4]
attribute [simp] Try.f45
noncomputable def an_ref02_IsName : Ann := ⟨[0, 2, 3, 4], [12, 16, 47], [], [(4, [0, 3])], [(0, []), (1, [0, 3])], some [2], [], [], [(22, 0, 59, 2)], []⟩
@[simp] theorem an_ref02_IsName_draws : an_ref02_IsName.draws = [] := rfl
@[simp] theorem an_ref02_IsName_exits : an_ref02_IsName.exits = [(0, []), (1, [0, 3])] := rfl
@[simp] theorem an_ref02_IsName_rets : an_ref02_IsName.rets = some [2] := rfl
@[simp] theorem an_ref02_IsName_keep : an_ref02_IsName.keep = [0, 2, 3, 4] := rfl
@[simp] theorem an_ref02_IsName_cond : an_ref02_IsName.cond = [12, 16, 47] := rfl
@[simp] theorem an_ref02_IsName_rows : an_ref02_IsName.rows = [] := rfl
@[simp] theorem an_ref02_IsName_loops : an_ref02_IsName.loops = [(4, [0, 3])] := rfl
@[simp] theorem an_ref02_IsName_ecalls : an_ref02_IsName.ecalls = [] := rfl
@[simp] theorem an_ref02_IsName_crows : an_ref02_IsName.crows = [(22, 0, 59, 2)] := rfl
@[simp] theorem an_ref02_IsName_tails : an_ref02_IsName.tails = [] := rfl
@[simp] noncomputable def cl_ref02_IsName : List (Nat × (List D → Option D)) := [(78, F_ref02_digit)]
@[simp] noncomputable def ce_ref02_IsName : List (Nat × (List (Nat × O) → List D → Option (D × List (Nat × O)))) := []
noncomputable def c_ref02_IsName : CT := ⟨callOf (cl_ref02_IsName ), callOfE ce_ref02_IsName, gl⟩
@[simp] theorem c_ref02_IsName_p (f : FuncId) (ds : List D) : c_ref02_IsName.p f ds = callOf (cl_ref02_IsName ) f ds := Eq.trans rfl rfl
@[simp] theorem c_ref02_IsName_e (f : FuncId) (hs : List (Nat × O)) (ds : List D) : c_ref02_IsName.e f hs ds = callOfE ce_ref02_IsName f hs ds := Eq.trans rfl rfl
@[simp] theorem c_ref02_IsName_g (g : Nat) : c_ref02_IsName.g g = gl g := Eq.trans rfl rfl
noncomputable def L_ref02_IsName (i n : Nat) (s : St) : Option (E × St) := atN Try.prog c_ref02_IsName an_ref02_IsName 48 (bodyOf Try.f45) i n s
noncomputable def H_ref02_IsName (n i : Nat) (s : St) : Option (E × St) := atH Try.prog c_ref02_IsName an_ref02_IsName 48 (bodyOf Try.f45) n i s
@[simp] theorem H_ref02_IsName_eq (n i : Nat) (s : St) : H_ref02_IsName n i s = L_ref02_IsName i n (headOf (an_ref02_IsName.loops.lookup i) s) := rfl
noncomputable def R_ref02_IsName (i : Nat) (s : St) : Option (E × St) := stepL Try.prog c_ref02_IsName an_ref02_IsName 48 (bodyOf Try.f45) i s
theorem lok_ref02_IsName : okLoops (bodyOf Try.f45) = true := by kernel_rfl
theorem L_ref02_IsName_zero (i : Nat) (s : St) : L_ref02_IsName i 0 s = none := rfl
theorem L_ref02_IsName_succ (i n : Nat) (s : St) : L_ref02_IsName i (n + 1) s = andThen (R_ref02_IsName i s) (H_ref02_IsName n i) := atN_succ lok_ref02_IsName i n s
theorem R_ref02_IsName_eq (i : Nat) (s : St) : R_ref02_IsName i s = runS Try.prog c_ref02_IsName (H_ref02_IsName bigL) an_ref02_IsName 48 (loopAt (bodyOf Try.f45) i) s := rfl
noncomputable def F_ref02_IsName (ds : List D) : Option D := runF Try.prog c_ref02_IsName an_ref02_IsName 48 (bodyOf Try.f45) [.tmp 2] ds
theorem F_ref02_IsName_eq (ds : List D) : F_ref02_IsName ds = runG Try.prog c_ref02_IsName (H_ref02_IsName bigL) an_ref02_IsName 48 (bodyOf Try.f45) [.tmp 2] ds := runG_eq lok_ref02_IsName _ ds
theorem C_ref02_IsName (ds : List D) (r : D) (h : F_ref02_IsName ds = some r) : Contract Try.prog gl 45 ds r := contract_of mix Try.func45 rfl (by kernel_rfl) (by kernel_rfl) (by decide) (call := c_ref02_IsName) ⟨callOf_ok cl_ref02_IsName ⟨C_ref02_digit, trivial⟩, callOfE_ok ce_ref02_IsName trivial⟩ h
-- sawmill/sawmillref19.sized: loops []; state: params 0..0, then [1, 2]
attribute [simp] Try.f93
noncomputable def an_ref19_sized : Ann := ⟨[1, 2], [], [], [], [], some [2], [], [], [(22, 0, 59, 2)], []⟩
@[simp] theorem an_ref19_sized_draws : an_ref19_sized.draws = [] := rfl
@[simp] theorem an_ref19_sized_exits : an_ref19_sized.exits = [] := rfl
@[simp] theorem an_ref19_sized_rets : an_ref19_sized.rets = some [2] := rfl
@[simp] theorem an_ref19_sized_keep : an_ref19_sized.keep = [1, 2] := rfl
@[simp] theorem an_ref19_sized_cond : an_ref19_sized.cond = [] := rfl
@[simp] theorem an_ref19_sized_rows : an_ref19_sized.rows = [] := rfl
@[simp] theorem an_ref19_sized_loops : an_ref19_sized.loops = [] := rfl
@[simp] theorem an_ref19_sized_ecalls : an_ref19_sized.ecalls = [] := rfl
@[simp] theorem an_ref19_sized_crows : an_ref19_sized.crows = [(22, 0, 59, 2)] := rfl
@[simp] theorem an_ref19_sized_tails : an_ref19_sized.tails = [] := rfl
@[simp] noncomputable def cl_ref19_sized : List (Nat × (List D → Option D)) := []
@[simp] noncomputable def ce_ref19_sized : List (Nat × (List (Nat × O) → List D → Option (D × List (Nat × O)))) := []
noncomputable def c_ref19_sized : CT := ⟨callOf (cl_ref19_sized ), callOfE ce_ref19_sized, gl⟩
@[simp] theorem c_ref19_sized_p (f : FuncId) (ds : List D) : c_ref19_sized.p f ds = callOf (cl_ref19_sized ) f ds := Eq.trans rfl rfl
@[simp] theorem c_ref19_sized_e (f : FuncId) (hs : List (Nat × O)) (ds : List D) : c_ref19_sized.e f hs ds = callOfE ce_ref19_sized f hs ds := Eq.trans rfl rfl
@[simp] theorem c_ref19_sized_g (g : Nat) : c_ref19_sized.g g = gl g := Eq.trans rfl rfl
noncomputable def L_ref19_sized (i n : Nat) (s : St) : Option (E × St) := atN Try.prog c_ref19_sized an_ref19_sized 21 (bodyOf Try.f93) i n s
noncomputable def H_ref19_sized (n i : Nat) (s : St) : Option (E × St) := atH Try.prog c_ref19_sized an_ref19_sized 21 (bodyOf Try.f93) n i s
@[simp] theorem H_ref19_sized_eq (n i : Nat) (s : St) : H_ref19_sized n i s = L_ref19_sized i n (headOf (an_ref19_sized.loops.lookup i) s) := rfl
noncomputable def R_ref19_sized (i : Nat) (s : St) : Option (E × St) := stepL Try.prog c_ref19_sized an_ref19_sized 21 (bodyOf Try.f93) i s
theorem lok_ref19_sized : okLoops (bodyOf Try.f93) = true := by kernel_rfl
noncomputable def F_ref19_sized (ds : List D) : Option D := runF Try.prog c_ref19_sized an_ref19_sized 21 (bodyOf Try.f93) [.tmp 2] ds
theorem F_ref19_sized_eq (ds : List D) : F_ref19_sized ds = runG Try.prog c_ref19_sized (H_ref19_sized bigL) an_ref19_sized 21 (bodyOf Try.f93) [.tmp 2] ds := runG_eq lok_ref19_sized _ ds
theorem C_ref19_sized (ds : List D) (r : D) (h : F_ref19_sized ds = some r) : Contract Try.prog gl 93 ds r := contract_of mix Try.func93 rfl (by kernel_rfl) (by kernel_rfl) (by decide) (call := c_ref19_sized) ⟨callOf_ok cl_ref19_sized trivial, callOfE_ok ce_ref19_sized trivial⟩ h
-- sawmill/sawmillref19.Green: loops []; state: params 0..0, then [1, 2, 3]
attribute [simp] Try.f75
noncomputable def an_ref19_Green : Ann := ⟨[1, 2, 3], [16], [], [], [], some [2, 3], [(3, 17)], [], [(22, 0, 59, 2)], []⟩
@[simp] theorem an_ref19_Green_draws : an_ref19_Green.draws = [(3, 17)] := rfl
@[simp] theorem an_ref19_Green_exits : an_ref19_Green.exits = [] := rfl
@[simp] theorem an_ref19_Green_rets : an_ref19_Green.rets = some [2, 3] := rfl
@[simp] theorem an_ref19_Green_keep : an_ref19_Green.keep = [1, 2, 3] := rfl
@[simp] theorem an_ref19_Green_cond : an_ref19_Green.cond = [16] := rfl
@[simp] theorem an_ref19_Green_rows : an_ref19_Green.rows = [] := rfl
@[simp] theorem an_ref19_Green_loops : an_ref19_Green.loops = [] := rfl
@[simp] theorem an_ref19_Green_ecalls : an_ref19_Green.ecalls = [] := rfl
@[simp] theorem an_ref19_Green_crows : an_ref19_Green.crows = [(22, 0, 59, 2)] := rfl
@[simp] theorem an_ref19_Green_tails : an_ref19_Green.tails = [] := rfl
@[simp] noncomputable def cl_ref19_Green : List (Nat × (List D → Option D)) := [(93, F_ref19_sized)]
@[simp] noncomputable def ce_ref19_Green : List (Nat × (List (Nat × O) → List D → Option (D × List (Nat × O)))) := []
noncomputable def c_ref19_Green : CT := ⟨callOf (cl_ref19_Green ), callOfE ce_ref19_Green, gl⟩
@[simp] theorem c_ref19_Green_p (f : FuncId) (ds : List D) : c_ref19_Green.p f ds = callOf (cl_ref19_Green ) f ds := Eq.trans rfl rfl
@[simp] theorem c_ref19_Green_e (f : FuncId) (hs : List (Nat × O)) (ds : List D) : c_ref19_Green.e f hs ds = callOfE ce_ref19_Green f hs ds := Eq.trans rfl rfl
@[simp] theorem c_ref19_Green_g (g : Nat) : c_ref19_Green.g g = gl g := Eq.trans rfl rfl
noncomputable def L_ref19_Green (i n : Nat) (s : St) : Option (E × St) := atN Try.prog c_ref19_Green an_ref19_Green 33 (bodyOf Try.f75) i n s
noncomputable def H_ref19_Green (n i : Nat) (s : St) : Option (E × St) := atH Try.prog c_ref19_Green an_ref19_Green 33 (bodyOf Try.f75) n i s
@[simp] theorem H_ref19_Green_eq (n i : Nat) (s : St) : H_ref19_Green n i s = L_ref19_Green i n (headOf (an_ref19_Green.loops.lookup i) s) := rfl
noncomputable def R_ref19_Green (i : Nat) (s : St) : Option (E × St) := stepL Try.prog c_ref19_Green an_ref19_Green 33 (bodyOf Try.f75) i s
theorem lok_ref19_Green : okLoops (bodyOf Try.f75) = true := by kernel_rfl
noncomputable def F_ref19_Green (ds : List D) : Option D := runF Try.prog c_ref19_Green an_ref19_Green 33 (bodyOf Try.f75) [.tmp 2, .tmp 3] ds
theorem F_ref19_Green_eq (ds : List D) : F_ref19_Green ds = runG Try.prog c_ref19_Green (H_ref19_Green bigL) an_ref19_Green 33 (bodyOf Try.f75) [.tmp 2, .tmp 3] ds := runG_eq lok_ref19_Green _ ds
theorem C_ref19_Green (ds : List D) (r : D) (h : F_ref19_Green ds = some r) : Contract Try.prog gl 75 ds r := contract_of mix Try.func75 rfl (by kernel_rfl) (by kernel_rfl) (by decide) (call := c_ref19_Green) ⟨callOf_ok cl_ref19_Green ⟨C_ref19_sized, trivial⟩, callOfE_ok ce_ref19_Green trivial⟩ h
-- sawmill/sawmillref19.checkLengths: loops [8, 15]; state: params 0..0, then [1, 2, 3, 4]
attribute [simp] Try.f76
noncomputable def an_ref19_checkLengths : Ann := ⟨[1, 2, 3, 4], [8, 12, 19, 24, 40, 56, 61, 77], [], [(8, [1, 3]), (15, [1, 4])], [(0, [1]), (1, [1, 3]), (2, []), (3, [1, 4])], some [2], [(12, 14)], [], [(22, 0, 59, 2)], []⟩
@[simp] theorem an_ref19_checkLengths_draws : an_ref19_checkLengths.draws = [(12, 14)] := rfl
@[simp] theorem an_ref19_checkLengths_exits : an_ref19_checkLengths.exits = [(0, [1]), (1, [1, 3]), (2, []), (3, [1, 4])] := rfl
@[simp] theorem an_ref19_checkLengths_rets : an_ref19_checkLengths.rets = some [2] := rfl
@[simp] theorem an_ref19_checkLengths_keep : an_ref19_checkLengths.keep = [1, 2, 3, 4] := rfl
@[simp] theorem an_ref19_checkLengths_cond : an_ref19_checkLengths.cond = [8, 12, 19, 24, 40, 56, 61, 77] := rfl
@[simp] theorem an_ref19_checkLengths_rows : an_ref19_checkLengths.rows = [] := rfl
@[simp] theorem an_ref19_checkLengths_loops : an_ref19_checkLengths.loops = [(8, [1, 3]), (15, [1, 4])] := rfl
@[simp] theorem an_ref19_checkLengths_ecalls : an_ref19_checkLengths.ecalls = [] := rfl
@[simp] theorem an_ref19_checkLengths_crows : an_ref19_checkLengths.crows = [(22, 0, 59, 2)] := rfl
@[simp] theorem an_ref19_checkLengths_tails : an_ref19_checkLengths.tails = [] := rfl
@[simp] noncomputable def cl_ref19_checkLengths : List (Nat × (List D → Option D)) := []
@[simp] noncomputable def ce_ref19_checkLengths : List (Nat × (List (Nat × O) → List D → Option (D × List (Nat × O)))) := []
noncomputable def c_ref19_checkLengths : CT := ⟨callOf (cl_ref19_checkLengths ), callOfE ce_ref19_checkLengths, gl⟩
@[simp] theorem c_ref19_checkLengths_p (f : FuncId) (ds : List D) : c_ref19_checkLengths.p f ds = callOf (cl_ref19_checkLengths ) f ds := Eq.trans rfl rfl
@[simp] theorem c_ref19_checkLengths_e (f : FuncId) (hs : List (Nat × O)) (ds : List D) : c_ref19_checkLengths.e f hs ds = callOfE ce_ref19_checkLengths f hs ds := Eq.trans rfl rfl
@[simp] theorem c_ref19_checkLengths_g (g : Nat) : c_ref19_checkLengths.g g = gl g := Eq.trans rfl rfl
noncomputable def L_ref19_checkLengths (i n : Nat) (s : St) : Option (E × St) := atN Try.prog c_ref19_checkLengths an_ref19_checkLengths 78 (bodyOf Try.f76) i n s
noncomputable def H_ref19_checkLengths (n i : Nat) (s : St) : Option (E × St) := atH Try.prog c_ref19_checkLengths an_ref19_checkLengths 78 (bodyOf Try.f76) n i s
@[simp] theorem H_ref19_checkLengths_eq (n i : Nat) (s : St) : H_ref19_checkLengths n i s = L_ref19_checkLengths i n (headOf (an_ref19_checkLengths.loops.lookup i) s) := rfl
noncomputable def R_ref19_checkLengths (i : Nat) (s : St) : Option (E × St) := stepL Try.prog c_ref19_checkLengths an_ref19_checkLengths 78 (bodyOf Try.f76) i s
theorem lok_ref19_checkLengths : okLoops (bodyOf Try.f76) = true := by kernel_rfl
theorem L_ref19_checkLengths_zero (i : Nat) (s : St) : L_ref19_checkLengths i 0 s = none := rfl
theorem L_ref19_checkLengths_succ (i n : Nat) (s : St) : L_ref19_checkLengths i (n + 1) s = andThen (R_ref19_checkLengths i s) (H_ref19_checkLengths n i) := atN_succ lok_ref19_checkLengths i n s
theorem R_ref19_checkLengths_eq (i : Nat) (s : St) : R_ref19_checkLengths i s = runS Try.prog c_ref19_checkLengths (H_ref19_checkLengths bigL) an_ref19_checkLengths 78 (loopAt (bodyOf Try.f76) i) s := rfl
noncomputable def F_ref19_checkLengths (ds : List D) : Option D := runF Try.prog c_ref19_checkLengths an_ref19_checkLengths 78 (bodyOf Try.f76) [.tmp 2] ds
theorem F_ref19_checkLengths_eq (ds : List D) : F_ref19_checkLengths ds = runG Try.prog c_ref19_checkLengths (H_ref19_checkLengths bigL) an_ref19_checkLengths 78 (bodyOf Try.f76) [.tmp 2] ds := runG_eq lok_ref19_checkLengths _ ds
theorem C_ref19_checkLengths (ds : List D) (r : D) (h : F_ref19_checkLengths ds = some r) : Contract Try.prog gl 76 ds r := contract_of mix Try.func76 rfl (by kernel_rfl) (by kernel_rfl) (by decide) (call := c_ref19_checkLengths) ⟨callOf_ok cl_ref19_checkLengths trivial, callOfE_ok ce_ref19_checkLengths trivial⟩ h
-- sawmill/sawmillref19.Check: loops [4, 10]; state: params 0..0, then [2, 3, 4, 5, 7, 8]
attribute [simp] Try.f43
noncomputable def an_ref19_Check : Ann := ⟨[0, 2, 3, 4, 5, 7, 8], [11, 15, 25, 28, 38, 78, 85, 89], [], [(4, [0, 3]), (10, [0, 3, 4, 5])], [(0, []), (1, [0, 3]), (2, [0, 3, 4]), (3, [0, 3, 4, 5])], some [2], [(12, 7)], [], [(22, 0, 59, 2)], []⟩
@[simp] theorem an_ref19_Check_draws : an_ref19_Check.draws = [(12, 7)] := rfl
@[simp] theorem an_ref19_Check_exits : an_ref19_Check.exits = [(0, []), (1, [0, 3]), (2, [0, 3, 4]), (3, [0, 3, 4, 5])] := rfl
@[simp] theorem an_ref19_Check_rets : an_ref19_Check.rets = some [2] := rfl
@[simp] theorem an_ref19_Check_keep : an_ref19_Check.keep = [0, 2, 3, 4, 5, 7, 8] := rfl
@[simp] theorem an_ref19_Check_cond : an_ref19_Check.cond = [11, 15, 25, 28, 38, 78, 85, 89] := rfl
@[simp] theorem an_ref19_Check_rows : an_ref19_Check.rows = [] := rfl
@[simp] theorem an_ref19_Check_loops : an_ref19_Check.loops = [(4, [0, 3]), (10, [0, 3, 4, 5])] := rfl
@[simp] theorem an_ref19_Check_ecalls : an_ref19_Check.ecalls = [] := rfl
@[simp] theorem an_ref19_Check_crows : an_ref19_Check.crows = [(22, 0, 59, 2)] := rfl
@[simp] theorem an_ref19_Check_tails : an_ref19_Check.tails = [] := rfl
@[simp] noncomputable def cl_ref19_Check : List (Nat × (List D → Option D)) := [(45, F_ref02_IsName), (75, F_ref19_Green), (76, F_ref19_checkLengths)]
@[simp] noncomputable def ce_ref19_Check : List (Nat × (List (Nat × O) → List D → Option (D × List (Nat × O)))) := []
noncomputable def c_ref19_Check : CT := ⟨callOf (cl_ref19_Check ), callOfE ce_ref19_Check, gl⟩
@[simp] theorem c_ref19_Check_p (f : FuncId) (ds : List D) : c_ref19_Check.p f ds = callOf (cl_ref19_Check ) f ds := Eq.trans rfl rfl
@[simp] theorem c_ref19_Check_e (f : FuncId) (hs : List (Nat × O)) (ds : List D) : c_ref19_Check.e f hs ds = callOfE ce_ref19_Check f hs ds := Eq.trans rfl rfl
@[simp] theorem c_ref19_Check_g (g : Nat) : c_ref19_Check.g g = gl g := Eq.trans rfl rfl
noncomputable def L_ref19_Check (i n : Nat) (s : St) : Option (E × St) := atN Try.prog c_ref19_Check an_ref19_Check 91 (bodyOf Try.f43) i n s
noncomputable def H_ref19_Check (n i : Nat) (s : St) : Option (E × St) := atH Try.prog c_ref19_Check an_ref19_Check 91 (bodyOf Try.f43) n i s
@[simp] theorem H_ref19_Check_eq (n i : Nat) (s : St) : H_ref19_Check n i s = L_ref19_Check i n (headOf (an_ref19_Check.loops.lookup i) s) := rfl
noncomputable def R_ref19_Check (i : Nat) (s : St) : Option (E × St) := stepL Try.prog c_ref19_Check an_ref19_Check 91 (bodyOf Try.f43) i s
theorem lok_ref19_Check : okLoops (bodyOf Try.f43) = true := by kernel_rfl
theorem L_ref19_Check_zero (i : Nat) (s : St) : L_ref19_Check i 0 s = none := rfl
theorem L_ref19_Check_succ (i n : Nat) (s : St) : L_ref19_Check i (n + 1) s = andThen (R_ref19_Check i s) (H_ref19_Check n i) := atN_succ lok_ref19_Check i n s
theorem R_ref19_Check_eq (i : Nat) (s : St) : R_ref19_Check i s = runS Try.prog c_ref19_Check (H_ref19_Check bigL) an_ref19_Check 91 (loopAt (bodyOf Try.f43) i) s := rfl
noncomputable def F_ref19_Check (ds : List D) : Option D := runF Try.prog c_ref19_Check an_ref19_Check 91 (bodyOf Try.f43) [.tmp 2] ds
theorem F_ref19_Check_eq (ds : List D) : F_ref19_Check ds = runG Try.prog c_ref19_Check (H_ref19_Check bigL) an_ref19_Check 91 (bodyOf Try.f43) [.tmp 2] ds := runG_eq lok_ref19_Check _ ds
theorem C_ref19_Check (ds : List D) (r : D) (h : F_ref19_Check ds = some r) : Contract Try.prog gl 43 ds r := contract_of mix Try.func43 rfl (by kernel_rfl) (by kernel_rfl) (by decide) (call := c_ref19_Check) ⟨callOf_ok cl_ref19_Check ⟨C_ref02_IsName, C_ref19_Green, C_ref19_checkLengths, trivial⟩, callOfE_ok ce_ref19_Check trivial⟩ h
-- sawmill/sawmillref02.capital: loops []; state: params 0..0, then [2]
attribute [simp] Try.f94
noncomputable def an_ref02_capital : Ann := ⟨[2], [], [], [], [], some [2], [], [], [(22, 0, 59, 2)], []⟩
@[simp] theorem an_ref02_capital_draws : an_ref02_capital.draws = [] := rfl
@[simp] theorem an_ref02_capital_exits : an_ref02_capital.exits = [] := rfl
@[simp] theorem an_ref02_capital_rets : an_ref02_capital.rets = some [2] := rfl
@[simp] theorem an_ref02_capital_keep : an_ref02_capital.keep = [2] := rfl
@[simp] theorem an_ref02_capital_cond : an_ref02_capital.cond = [] := rfl
@[simp] theorem an_ref02_capital_rows : an_ref02_capital.rows = [] := rfl
@[simp] theorem an_ref02_capital_loops : an_ref02_capital.loops = [] := rfl
@[simp] theorem an_ref02_capital_ecalls : an_ref02_capital.ecalls = [] := rfl
@[simp] theorem an_ref02_capital_crows : an_ref02_capital.crows = [(22, 0, 59, 2)] := rfl
@[simp] theorem an_ref02_capital_tails : an_ref02_capital.tails = [] := rfl
@[simp] noncomputable def cl_ref02_capital : List (Nat × (List D → Option D)) := []
@[simp] noncomputable def ce_ref02_capital : List (Nat × (List (Nat × O) → List D → Option (D × List (Nat × O)))) := []
noncomputable def c_ref02_capital : CT := ⟨callOf (cl_ref02_capital ), callOfE ce_ref02_capital, gl⟩
@[simp] theorem c_ref02_capital_p (f : FuncId) (ds : List D) : c_ref02_capital.p f ds = callOf (cl_ref02_capital ) f ds := Eq.trans rfl rfl
@[simp] theorem c_ref02_capital_e (f : FuncId) (hs : List (Nat × O)) (ds : List D) : c_ref02_capital.e f hs ds = callOfE ce_ref02_capital f hs ds := Eq.trans rfl rfl
@[simp] theorem c_ref02_capital_g (g : Nat) : c_ref02_capital.g g = gl g := Eq.trans rfl rfl
noncomputable def L_ref02_capital (i n : Nat) (s : St) : Option (E × St) := atN Try.prog c_ref02_capital an_ref02_capital 9 (bodyOf Try.f94) i n s
noncomputable def H_ref02_capital (n i : Nat) (s : St) : Option (E × St) := atH Try.prog c_ref02_capital an_ref02_capital 9 (bodyOf Try.f94) n i s
@[simp] theorem H_ref02_capital_eq (n i : Nat) (s : St) : H_ref02_capital n i s = L_ref02_capital i n (headOf (an_ref02_capital.loops.lookup i) s) := rfl
noncomputable def R_ref02_capital (i : Nat) (s : St) : Option (E × St) := stepL Try.prog c_ref02_capital an_ref02_capital 9 (bodyOf Try.f94) i s
theorem lok_ref02_capital : okLoops (bodyOf Try.f94) = true := by kernel_rfl
noncomputable def F_ref02_capital (ds : List D) : Option D := runF Try.prog c_ref02_capital an_ref02_capital 9 (bodyOf Try.f94) [.tmp 2] ds
theorem F_ref02_capital_eq (ds : List D) : F_ref02_capital ds = runG Try.prog c_ref02_capital (H_ref02_capital bigL) an_ref02_capital 9 (bodyOf Try.f94) [.tmp 2] ds := runG_eq lok_ref02_capital _ ds
theorem C_ref02_capital (ds : List D) (r : D) (h : F_ref02_capital ds = some r) : Contract Try.prog gl 94 ds r := contract_of mix Try.func94 rfl (by kernel_rfl) (by kernel_rfl) (by decide) (call := c_ref02_capital) ⟨callOf_ok cl_ref02_capital trivial, callOfE_ok ce_ref02_capital trivial⟩ h
-- sawmill/sawmillref02.Letter: loops [3]; state: params 0..0, then [2, 3, 4]
attribute [simp] Try.f95
noncomputable def an_ref02_Letter : Ann := ⟨[0, 2, 3, 4], [8], [], [(3, [0, 3, 4])], [(0, [3]), (1, [0, 3, 4])], some [2], [], [], [(22, 0, 59, 2)], []⟩
@[simp] theorem an_ref02_Letter_draws : an_ref02_Letter.draws = [] := rfl
@[simp] theorem an_ref02_Letter_exits : an_ref02_Letter.exits = [(0, [3]), (1, [0, 3, 4])] := rfl
@[simp] theorem an_ref02_Letter_rets : an_ref02_Letter.rets = some [2] := rfl
@[simp] theorem an_ref02_Letter_keep : an_ref02_Letter.keep = [0, 2, 3, 4] := rfl
@[simp] theorem an_ref02_Letter_cond : an_ref02_Letter.cond = [8] := rfl
@[simp] theorem an_ref02_Letter_rows : an_ref02_Letter.rows = [] := rfl
@[simp] theorem an_ref02_Letter_loops : an_ref02_Letter.loops = [(3, [0, 3, 4])] := rfl
@[simp] theorem an_ref02_Letter_ecalls : an_ref02_Letter.ecalls = [] := rfl
@[simp] theorem an_ref02_Letter_crows : an_ref02_Letter.crows = [(22, 0, 59, 2)] := rfl
@[simp] theorem an_ref02_Letter_tails : an_ref02_Letter.tails = [] := rfl
@[simp] noncomputable def cl_ref02_Letter : List (Nat × (List D → Option D)) := []
@[simp] noncomputable def ce_ref02_Letter : List (Nat × (List (Nat × O) → List D → Option (D × List (Nat × O)))) := []
noncomputable def c_ref02_Letter : CT := ⟨callOf (cl_ref02_Letter ), callOfE ce_ref02_Letter, gl⟩
@[simp] theorem c_ref02_Letter_p (f : FuncId) (ds : List D) : c_ref02_Letter.p f ds = callOf (cl_ref02_Letter ) f ds := Eq.trans rfl rfl
@[simp] theorem c_ref02_Letter_e (f : FuncId) (hs : List (Nat × O)) (ds : List D) : c_ref02_Letter.e f hs ds = callOfE ce_ref02_Letter f hs ds := Eq.trans rfl rfl
@[simp] theorem c_ref02_Letter_g (g : Nat) : c_ref02_Letter.g g = gl g := Eq.trans rfl rfl
noncomputable def L_ref02_Letter (i n : Nat) (s : St) : Option (E × St) := atN Try.prog c_ref02_Letter an_ref02_Letter 25 (bodyOf Try.f95) i n s
noncomputable def H_ref02_Letter (n i : Nat) (s : St) : Option (E × St) := atH Try.prog c_ref02_Letter an_ref02_Letter 25 (bodyOf Try.f95) n i s
@[simp] theorem H_ref02_Letter_eq (n i : Nat) (s : St) : H_ref02_Letter n i s = L_ref02_Letter i n (headOf (an_ref02_Letter.loops.lookup i) s) := rfl
noncomputable def R_ref02_Letter (i : Nat) (s : St) : Option (E × St) := stepL Try.prog c_ref02_Letter an_ref02_Letter 25 (bodyOf Try.f95) i s
theorem lok_ref02_Letter : okLoops (bodyOf Try.f95) = true := by kernel_rfl
theorem L_ref02_Letter_zero (i : Nat) (s : St) : L_ref02_Letter i 0 s = none := rfl
theorem L_ref02_Letter_succ (i n : Nat) (s : St) : L_ref02_Letter i (n + 1) s = andThen (R_ref02_Letter i s) (H_ref02_Letter n i) := atN_succ lok_ref02_Letter i n s
theorem R_ref02_Letter_eq (i : Nat) (s : St) : R_ref02_Letter i s = runS Try.prog c_ref02_Letter (H_ref02_Letter bigL) an_ref02_Letter 25 (loopAt (bodyOf Try.f95) i) s := rfl
noncomputable def F_ref02_Letter (ds : List D) : Option D := runF Try.prog c_ref02_Letter an_ref02_Letter 25 (bodyOf Try.f95) [.tmp 2] ds
theorem F_ref02_Letter_eq (ds : List D) : F_ref02_Letter ds = runG Try.prog c_ref02_Letter (H_ref02_Letter bigL) an_ref02_Letter 25 (bodyOf Try.f95) [.tmp 2] ds := runG_eq lok_ref02_Letter _ ds
theorem C_ref02_Letter (ds : List D) (r : D) (h : F_ref02_Letter ds = some r) : Contract Try.prog gl 95 ds r := contract_of mix Try.func95 rfl (by kernel_rfl) (by kernel_rfl) (by decide) (call := c_ref02_Letter) ⟨callOf_ok cl_ref02_Letter trivial, callOfE_ok ce_ref02_Letter trivial⟩ h
-- sawmill/sawmillref02.Split: loops [7]; state: params 0..0, then [2, 3, 4, 5, 6]
attribute [simp] Try.f77
noncomputable def an_ref02_Split : Ann := ⟨[0, 2, 3, 4, 5, 6], [9, 13, 15, 22, 36], [], [(7, [0, 5, 6])], [(0, [0, 5]), (1, [0, 5, 6])], some [2, 3, 4], [(12, 5)], [], [(22, 0, 59, 2)], []⟩
@[simp] theorem an_ref02_Split_draws : an_ref02_Split.draws = [(12, 5)] := rfl
@[simp] theorem an_ref02_Split_exits : an_ref02_Split.exits = [(0, [0, 5]), (1, [0, 5, 6])] := rfl
@[simp] theorem an_ref02_Split_rets : an_ref02_Split.rets = some [2, 3, 4] := rfl
@[simp] theorem an_ref02_Split_keep : an_ref02_Split.keep = [0, 2, 3, 4, 5, 6] := rfl
@[simp] theorem an_ref02_Split_cond : an_ref02_Split.cond = [9, 13, 15, 22, 36] := rfl
@[simp] theorem an_ref02_Split_rows : an_ref02_Split.rows = [] := rfl
@[simp] theorem an_ref02_Split_loops : an_ref02_Split.loops = [(7, [0, 5, 6])] := rfl
@[simp] theorem an_ref02_Split_ecalls : an_ref02_Split.ecalls = [] := rfl
@[simp] theorem an_ref02_Split_crows : an_ref02_Split.crows = [(22, 0, 59, 2)] := rfl
@[simp] theorem an_ref02_Split_tails : an_ref02_Split.tails = [] := rfl
@[simp] noncomputable def cl_ref02_Split : List (Nat × (List D → Option D)) := [(78, F_ref02_digit), (94, F_ref02_capital), (95, F_ref02_Letter)]
@[simp] noncomputable def ce_ref02_Split : List (Nat × (List (Nat × O) → List D → Option (D × List (Nat × O)))) := []
noncomputable def c_ref02_Split : CT := ⟨callOf (cl_ref02_Split ), callOfE ce_ref02_Split, gl⟩
@[simp] theorem c_ref02_Split_p (f : FuncId) (ds : List D) : c_ref02_Split.p f ds = callOf (cl_ref02_Split ) f ds := Eq.trans rfl rfl
@[simp] theorem c_ref02_Split_e (f : FuncId) (hs : List (Nat × O)) (ds : List D) : c_ref02_Split.e f hs ds = callOfE ce_ref02_Split f hs ds := Eq.trans rfl rfl
@[simp] theorem c_ref02_Split_g (g : Nat) : c_ref02_Split.g g = gl g := Eq.trans rfl rfl
noncomputable def L_ref02_Split (i n : Nat) (s : St) : Option (E × St) := atN Try.prog c_ref02_Split an_ref02_Split 40 (bodyOf Try.f77) i n s
noncomputable def H_ref02_Split (n i : Nat) (s : St) : Option (E × St) := atH Try.prog c_ref02_Split an_ref02_Split 40 (bodyOf Try.f77) n i s
@[simp] theorem H_ref02_Split_eq (n i : Nat) (s : St) : H_ref02_Split n i s = L_ref02_Split i n (headOf (an_ref02_Split.loops.lookup i) s) := rfl
noncomputable def R_ref02_Split (i : Nat) (s : St) : Option (E × St) := stepL Try.prog c_ref02_Split an_ref02_Split 40 (bodyOf Try.f77) i s
theorem lok_ref02_Split : okLoops (bodyOf Try.f77) = true := by kernel_rfl
theorem L_ref02_Split_zero (i : Nat) (s : St) : L_ref02_Split i 0 s = none := rfl
theorem L_ref02_Split_succ (i n : Nat) (s : St) : L_ref02_Split i (n + 1) s = andThen (R_ref02_Split i s) (H_ref02_Split n i) := atN_succ lok_ref02_Split i n s
theorem R_ref02_Split_eq (i : Nat) (s : St) : R_ref02_Split i s = runS Try.prog c_ref02_Split (H_ref02_Split bigL) an_ref02_Split 40 (loopAt (bodyOf Try.f77) i) s := rfl
noncomputable def F_ref02_Split (ds : List D) : Option D := runF Try.prog c_ref02_Split an_ref02_Split 40 (bodyOf Try.f77) [.tmp 2, .tmp 3, .tmp 4] ds
theorem F_ref02_Split_eq (ds : List D) : F_ref02_Split ds = runG Try.prog c_ref02_Split (H_ref02_Split bigL) an_ref02_Split 40 (bodyOf Try.f77) [.tmp 2, .tmp 3, .tmp 4] ds := runG_eq lok_ref02_Split _ ds
theorem C_ref02_Split (ds : List D) (r : D) (h : F_ref02_Split ds = some r) : Contract Try.prog gl 77 ds r := contract_of mix Try.func77 rfl (by kernel_rfl) (by kernel_rfl) (by decide) (call := c_ref02_Split) ⟨callOf_ok cl_ref02_Split ⟨C_ref02_digit, C_ref02_capital, C_ref02_Letter, trivial⟩, callOfE_ok ce_ref02_Split trivial⟩ h
-- sawmill/sawmillref02.Is: loops []; state: params 0..1, then [4, 5, 7]
attribute [simp] Try.f44
noncomputable def an_ref02_Is : Ann := ⟨[4, 5, 7], [], [], [], [], some [4], [], [], [(22, 0, 59, 2)], []⟩
@[simp] theorem an_ref02_Is_draws : an_ref02_Is.draws = [] := rfl
@[simp] theorem an_ref02_Is_exits : an_ref02_Is.exits = [] := rfl
@[simp] theorem an_ref02_Is_rets : an_ref02_Is.rets = some [4] := rfl
@[simp] theorem an_ref02_Is_keep : an_ref02_Is.keep = [4, 5, 7] := rfl
@[simp] theorem an_ref02_Is_cond : an_ref02_Is.cond = [] := rfl
@[simp] theorem an_ref02_Is_rows : an_ref02_Is.rows = [] := rfl
@[simp] theorem an_ref02_Is_loops : an_ref02_Is.loops = [] := rfl
@[simp] theorem an_ref02_Is_ecalls : an_ref02_Is.ecalls = [] := rfl
@[simp] theorem an_ref02_Is_crows : an_ref02_Is.crows = [(22, 0, 59, 2)] := rfl
@[simp] theorem an_ref02_Is_tails : an_ref02_Is.tails = [] := rfl
@[simp] noncomputable def cl_ref02_Is : List (Nat × (List D → Option D)) := [(77, F_ref02_Split)]
@[simp] noncomputable def ce_ref02_Is : List (Nat × (List (Nat × O) → List D → Option (D × List (Nat × O)))) := []
noncomputable def c_ref02_Is : CT := ⟨callOf (cl_ref02_Is ), callOfE ce_ref02_Is, gl⟩
@[simp] theorem c_ref02_Is_p (f : FuncId) (ds : List D) : c_ref02_Is.p f ds = callOf (cl_ref02_Is ) f ds := Eq.trans rfl rfl
@[simp] theorem c_ref02_Is_e (f : FuncId) (hs : List (Nat × O)) (ds : List D) : c_ref02_Is.e f hs ds = callOfE ce_ref02_Is f hs ds := Eq.trans rfl rfl
@[simp] theorem c_ref02_Is_g (g : Nat) : c_ref02_Is.g g = gl g := Eq.trans rfl rfl
noncomputable def L_ref02_Is (i n : Nat) (s : St) : Option (E × St) := atN Try.prog c_ref02_Is an_ref02_Is 21 (bodyOf Try.f44) i n s
noncomputable def H_ref02_Is (n i : Nat) (s : St) : Option (E × St) := atH Try.prog c_ref02_Is an_ref02_Is 21 (bodyOf Try.f44) n i s
@[simp] theorem H_ref02_Is_eq (n i : Nat) (s : St) : H_ref02_Is n i s = L_ref02_Is i n (headOf (an_ref02_Is.loops.lookup i) s) := rfl
noncomputable def R_ref02_Is (i : Nat) (s : St) : Option (E × St) := stepL Try.prog c_ref02_Is an_ref02_Is 21 (bodyOf Try.f44) i s
theorem lok_ref02_Is : okLoops (bodyOf Try.f44) = true := by kernel_rfl
noncomputable def F_ref02_Is (ds : List D) : Option D := runF Try.prog c_ref02_Is an_ref02_Is 21 (bodyOf Try.f44) [.tmp 4] ds
theorem F_ref02_Is_eq (ds : List D) : F_ref02_Is ds = runG Try.prog c_ref02_Is (H_ref02_Is bigL) an_ref02_Is 21 (bodyOf Try.f44) [.tmp 4] ds := runG_eq lok_ref02_Is _ ds
theorem C_ref02_Is (ds : List D) (r : D) (h : F_ref02_Is ds = some r) : Contract Try.prog gl 44 ds r := contract_of mix Try.func44 rfl (by kernel_rfl) (by kernel_rfl) (by decide) (call := c_ref02_Is) ⟨callOf_ok cl_ref02_Is ⟨C_ref02_Split, trivial⟩, callOfE_ok ce_ref02_Is trivial⟩ h
-- sawmill/sawmillref13.Empty: loops []; state: params 0..0, then [1, 2]
attribute [simp] Try.f79
noncomputable def an_ref13_Empty : Ann := ⟨[1, 2], [], [], [], [], some [2], [], [], [(22, 0, 59, 2)], []⟩
@[simp] theorem an_ref13_Empty_draws : an_ref13_Empty.draws = [] := rfl
@[simp] theorem an_ref13_Empty_exits : an_ref13_Empty.exits = [] := rfl
@[simp] theorem an_ref13_Empty_rets : an_ref13_Empty.rets = some [2] := rfl
@[simp] theorem an_ref13_Empty_keep : an_ref13_Empty.keep = [1, 2] := rfl
@[simp] theorem an_ref13_Empty_cond : an_ref13_Empty.cond = [] := rfl
@[simp] theorem an_ref13_Empty_rows : an_ref13_Empty.rows = [] := rfl
@[simp] theorem an_ref13_Empty_loops : an_ref13_Empty.loops = [] := rfl
@[simp] theorem an_ref13_Empty_ecalls : an_ref13_Empty.ecalls = [] := rfl
@[simp] theorem an_ref13_Empty_crows : an_ref13_Empty.crows = [(22, 0, 59, 2)] := rfl
@[simp] theorem an_ref13_Empty_tails : an_ref13_Empty.tails = [] := rfl
@[simp] noncomputable def cl_ref13_Empty : List (Nat × (List D → Option D)) := []
@[simp] noncomputable def ce_ref13_Empty : List (Nat × (List (Nat × O) → List D → Option (D × List (Nat × O)))) := []
noncomputable def c_ref13_Empty : CT := ⟨callOf (cl_ref13_Empty ), callOfE ce_ref13_Empty, gl⟩
@[simp] theorem c_ref13_Empty_p (f : FuncId) (ds : List D) : c_ref13_Empty.p f ds = callOf (cl_ref13_Empty ) f ds := Eq.trans rfl rfl
@[simp] theorem c_ref13_Empty_e (f : FuncId) (hs : List (Nat × O)) (ds : List D) : c_ref13_Empty.e f hs ds = callOfE ce_ref13_Empty f hs ds := Eq.trans rfl rfl
@[simp] theorem c_ref13_Empty_g (g : Nat) : c_ref13_Empty.g g = gl g := Eq.trans rfl rfl
noncomputable def L_ref13_Empty (i n : Nat) (s : St) : Option (E × St) := atN Try.prog c_ref13_Empty an_ref13_Empty 28 (bodyOf Try.f79) i n s
noncomputable def H_ref13_Empty (n i : Nat) (s : St) : Option (E × St) := atH Try.prog c_ref13_Empty an_ref13_Empty 28 (bodyOf Try.f79) n i s
@[simp] theorem H_ref13_Empty_eq (n i : Nat) (s : St) : H_ref13_Empty n i s = L_ref13_Empty i n (headOf (an_ref13_Empty.loops.lookup i) s) := rfl
noncomputable def R_ref13_Empty (i : Nat) (s : St) : Option (E × St) := stepL Try.prog c_ref13_Empty an_ref13_Empty 28 (bodyOf Try.f79) i s
theorem lok_ref13_Empty : okLoops (bodyOf Try.f79) = true := by kernel_rfl
noncomputable def F_ref13_Empty (ds : List D) : Option D := runF Try.prog c_ref13_Empty an_ref13_Empty 28 (bodyOf Try.f79) [.tmp 2] ds
theorem F_ref13_Empty_eq (ds : List D) : F_ref13_Empty ds = runG Try.prog c_ref13_Empty (H_ref13_Empty bigL) an_ref13_Empty 28 (bodyOf Try.f79) [.tmp 2] ds := runG_eq lok_ref13_Empty _ ds
theorem C_ref13_Empty (ds : List D) (r : D) (h : F_ref13_Empty ds = some r) : Contract Try.prog gl 79 ds r := contract_of mix Try.func79 rfl (by kernel_rfl) (by kernel_rfl) (by decide) (call := c_ref13_Empty) ⟨callOf_ok cl_ref13_Empty trivial, callOfE_ok ce_ref13_Empty trivial⟩ h
-- sawmill/sawmillref30.within: loops []; state: params 0..2, then [3, 6]
attribute [simp] Try.f51
noncomputable def an_ref30_within : Ann := ⟨[3, 6], [], [], [], [], some [6], [], [], [(22, 0, 59, 2)], []⟩
@[simp] theorem an_ref30_within_draws : an_ref30_within.draws = [] := rfl
@[simp] theorem an_ref30_within_exits : an_ref30_within.exits = [] := rfl
@[simp] theorem an_ref30_within_rets : an_ref30_within.rets = some [6] := rfl
@[simp] theorem an_ref30_within_keep : an_ref30_within.keep = [3, 6] := rfl
@[simp] theorem an_ref30_within_cond : an_ref30_within.cond = [] := rfl
@[simp] theorem an_ref30_within_rows : an_ref30_within.rows = [] := rfl
@[simp] theorem an_ref30_within_loops : an_ref30_within.loops = [] := rfl
@[simp] theorem an_ref30_within_ecalls : an_ref30_within.ecalls = [] := rfl
@[simp] theorem an_ref30_within_crows : an_ref30_within.crows = [(22, 0, 59, 2)] := rfl
@[simp] theorem an_ref30_within_tails : an_ref30_within.tails = [] := rfl
@[simp] noncomputable def cl_ref30_within : List (Nat × (List D → Option D)) := []
@[simp] noncomputable def ce_ref30_within : List (Nat × (List (Nat × O) → List D → Option (D × List (Nat × O)))) := []
noncomputable def c_ref30_within : CT := ⟨callOf (cl_ref30_within ), callOfE ce_ref30_within, gl⟩
@[simp] theorem c_ref30_within_p (f : FuncId) (ds : List D) : c_ref30_within.p f ds = callOf (cl_ref30_within ) f ds := Eq.trans rfl rfl
@[simp] theorem c_ref30_within_e (f : FuncId) (hs : List (Nat × O)) (ds : List D) : c_ref30_within.e f hs ds = callOfE ce_ref30_within f hs ds := Eq.trans rfl rfl
@[simp] theorem c_ref30_within_g (g : Nat) : c_ref30_within.g g = gl g := Eq.trans rfl rfl
noncomputable def L_ref30_within (i n : Nat) (s : St) : Option (E × St) := atN Try.prog c_ref30_within an_ref30_within 29 (bodyOf Try.f51) i n s
noncomputable def H_ref30_within (n i : Nat) (s : St) : Option (E × St) := atH Try.prog c_ref30_within an_ref30_within 29 (bodyOf Try.f51) n i s
@[simp] theorem H_ref30_within_eq (n i : Nat) (s : St) : H_ref30_within n i s = L_ref30_within i n (headOf (an_ref30_within.loops.lookup i) s) := rfl
noncomputable def R_ref30_within (i : Nat) (s : St) : Option (E × St) := stepL Try.prog c_ref30_within an_ref30_within 29 (bodyOf Try.f51) i s
theorem lok_ref30_within : okLoops (bodyOf Try.f51) = true := by kernel_rfl
noncomputable def F_ref30_within (ds : List D) : Option D := runF Try.prog c_ref30_within an_ref30_within 29 (bodyOf Try.f51) [.tmp 6] ds
theorem F_ref30_within_eq (ds : List D) : F_ref30_within ds = runG Try.prog c_ref30_within (H_ref30_within bigL) an_ref30_within 29 (bodyOf Try.f51) [.tmp 6] ds := runG_eq lok_ref30_within _ ds
theorem C_ref30_within (ds : List D) (r : D) (h : F_ref30_within ds = some r) : Contract Try.prog gl 51 ds r := contract_of mix Try.func51 rfl (by kernel_rfl) (by kernel_rfl) (by decide) (call := c_ref30_within) ⟨callOf_ok cl_ref30_within trivial, callOfE_ok ce_ref30_within trivial⟩ h
-- sawmill/sawmillref30.Placed: loops []; state: params 0..0, then [1, 2]
attribute [simp] Try.f46
noncomputable def an_ref30_Placed : Ann := ⟨[1, 2], [], [], [], [], some [2], [], [], [(22, 0, 59, 2)], []⟩
@[simp] theorem an_ref30_Placed_draws : an_ref30_Placed.draws = [] := rfl
@[simp] theorem an_ref30_Placed_exits : an_ref30_Placed.exits = [] := rfl
@[simp] theorem an_ref30_Placed_rets : an_ref30_Placed.rets = some [2] := rfl
@[simp] theorem an_ref30_Placed_keep : an_ref30_Placed.keep = [1, 2] := rfl
@[simp] theorem an_ref30_Placed_cond : an_ref30_Placed.cond = [] := rfl
@[simp] theorem an_ref30_Placed_rows : an_ref30_Placed.rows = [] := rfl
@[simp] theorem an_ref30_Placed_loops : an_ref30_Placed.loops = [] := rfl
@[simp] theorem an_ref30_Placed_ecalls : an_ref30_Placed.ecalls = [] := rfl
@[simp] theorem an_ref30_Placed_crows : an_ref30_Placed.crows = [(22, 0, 59, 2)] := rfl
@[simp] theorem an_ref30_Placed_tails : an_ref30_Placed.tails = [] := rfl
@[simp] noncomputable def cl_ref30_Placed : List (Nat × (List D → Option D)) := [(51, F_ref30_within), (79, F_ref13_Empty)]
@[simp] noncomputable def ce_ref30_Placed : List (Nat × (List (Nat × O) → List D → Option (D × List (Nat × O)))) := []
noncomputable def c_ref30_Placed : CT := ⟨callOf (cl_ref30_Placed ), callOfE ce_ref30_Placed, gl⟩
@[simp] theorem c_ref30_Placed_p (f : FuncId) (ds : List D) : c_ref30_Placed.p f ds = callOf (cl_ref30_Placed ) f ds := Eq.trans rfl rfl
@[simp] theorem c_ref30_Placed_e (f : FuncId) (hs : List (Nat × O)) (ds : List D) : c_ref30_Placed.e f hs ds = callOfE ce_ref30_Placed f hs ds := Eq.trans rfl rfl
@[simp] theorem c_ref30_Placed_g (g : Nat) : c_ref30_Placed.g g = gl g := Eq.trans rfl rfl
noncomputable def L_ref30_Placed (i n : Nat) (s : St) : Option (E × St) := atN Try.prog c_ref30_Placed an_ref30_Placed 21 (bodyOf Try.f46) i n s
noncomputable def H_ref30_Placed (n i : Nat) (s : St) : Option (E × St) := atH Try.prog c_ref30_Placed an_ref30_Placed 21 (bodyOf Try.f46) n i s
@[simp] theorem H_ref30_Placed_eq (n i : Nat) (s : St) : H_ref30_Placed n i s = L_ref30_Placed i n (headOf (an_ref30_Placed.loops.lookup i) s) := rfl
noncomputable def R_ref30_Placed (i : Nat) (s : St) : Option (E × St) := stepL Try.prog c_ref30_Placed an_ref30_Placed 21 (bodyOf Try.f46) i s
theorem lok_ref30_Placed : okLoops (bodyOf Try.f46) = true := by kernel_rfl
noncomputable def F_ref30_Placed (ds : List D) : Option D := runF Try.prog c_ref30_Placed an_ref30_Placed 21 (bodyOf Try.f46) [.tmp 2] ds
theorem F_ref30_Placed_eq (ds : List D) : F_ref30_Placed ds = runG Try.prog c_ref30_Placed (H_ref30_Placed bigL) an_ref30_Placed 21 (bodyOf Try.f46) [.tmp 2] ds := runG_eq lok_ref30_Placed _ ds
theorem C_ref30_Placed (ds : List D) (r : D) (h : F_ref30_Placed ds = some r) : Contract Try.prog gl 46 ds r := contract_of mix Try.func46 rfl (by kernel_rfl) (by kernel_rfl) (by decide) (call := c_ref30_Placed) ⟨callOf_ok cl_ref30_Placed ⟨C_ref30_within, C_ref13_Empty, trivial⟩, callOfE_ok ce_ref30_Placed trivial⟩ h
-- sawmill/sawmillref26.Green: loops []; state: params 0..1, then [2, 3, 4, 5, 6, 7, 8]
attribute [simp] Try.f47
noncomputable def an_ref26_Green : Ann := ⟨[2, 3, 4, 5, 6, 7, 8], [], [], [], [], some [4], [(2, 15)], [], [(22, 0, 59, 2)], []⟩
@[simp] theorem an_ref26_Green_draws : an_ref26_Green.draws = [(2, 15)] := rfl
@[simp] theorem an_ref26_Green_exits : an_ref26_Green.exits = [] := rfl
@[simp] theorem an_ref26_Green_rets : an_ref26_Green.rets = some [4] := rfl
@[simp] theorem an_ref26_Green_keep : an_ref26_Green.keep = [2, 3, 4, 5, 6, 7, 8] := rfl
@[simp] theorem an_ref26_Green_cond : an_ref26_Green.cond = [] := rfl
@[simp] theorem an_ref26_Green_rows : an_ref26_Green.rows = [] := rfl
@[simp] theorem an_ref26_Green_loops : an_ref26_Green.loops = [] := rfl
@[simp] theorem an_ref26_Green_ecalls : an_ref26_Green.ecalls = [] := rfl
@[simp] theorem an_ref26_Green_crows : an_ref26_Green.crows = [(22, 0, 59, 2)] := rfl
@[simp] theorem an_ref26_Green_tails : an_ref26_Green.tails = [] := rfl
@[simp] noncomputable def cl_ref26_Green : List (Nat × (List D → Option D)) := [(75, F_ref19_Green)]
@[simp] noncomputable def ce_ref26_Green : List (Nat × (List (Nat × O) → List D → Option (D × List (Nat × O)))) := []
noncomputable def c_ref26_Green : CT := ⟨callOf (cl_ref26_Green ), callOfE ce_ref26_Green, gl⟩
@[simp] theorem c_ref26_Green_p (f : FuncId) (ds : List D) : c_ref26_Green.p f ds = callOf (cl_ref26_Green ) f ds := Eq.trans rfl rfl
@[simp] theorem c_ref26_Green_e (f : FuncId) (hs : List (Nat × O)) (ds : List D) : c_ref26_Green.e f hs ds = callOfE ce_ref26_Green f hs ds := Eq.trans rfl rfl
@[simp] theorem c_ref26_Green_g (g : Nat) : c_ref26_Green.g g = gl g := Eq.trans rfl rfl
noncomputable def L_ref26_Green (i n : Nat) (s : St) : Option (E × St) := atN Try.prog c_ref26_Green an_ref26_Green 46 (bodyOf Try.f47) i n s
noncomputable def H_ref26_Green (n i : Nat) (s : St) : Option (E × St) := atH Try.prog c_ref26_Green an_ref26_Green 46 (bodyOf Try.f47) n i s
@[simp] theorem H_ref26_Green_eq (n i : Nat) (s : St) : H_ref26_Green n i s = L_ref26_Green i n (headOf (an_ref26_Green.loops.lookup i) s) := rfl
noncomputable def R_ref26_Green (i : Nat) (s : St) : Option (E × St) := stepL Try.prog c_ref26_Green an_ref26_Green 46 (bodyOf Try.f47) i s
theorem lok_ref26_Green : okLoops (bodyOf Try.f47) = true := by kernel_rfl
noncomputable def F_ref26_Green (ds : List D) : Option D := runF Try.prog c_ref26_Green an_ref26_Green 46 (bodyOf Try.f47) [.tmp 4] ds
theorem F_ref26_Green_eq (ds : List D) : F_ref26_Green ds = runG Try.prog c_ref26_Green (H_ref26_Green bigL) an_ref26_Green 46 (bodyOf Try.f47) [.tmp 4] ds := runG_eq lok_ref26_Green _ ds
theorem C_ref26_Green (ds : List D) (r : D) (h : F_ref26_Green ds = some r) : Contract Try.prog gl 47 ds r := contract_of mix Try.func47 rfl (by kernel_rfl) (by kernel_rfl) (by decide) (call := c_ref26_Green) ⟨callOf_ok cl_ref26_Green ⟨C_ref19_Green, trivial⟩, callOfE_ok ce_ref26_Green trivial⟩ h
-- sawmill/sawmillref30.length: loops []; state: params 0..0, then [1, 2]
attribute [simp] Try.f49
noncomputable def an_ref30_length : Ann := ⟨[1, 2], [], [], [], [], some [2], [], [], [(22, 0, 59, 2)], []⟩
@[simp] theorem an_ref30_length_draws : an_ref30_length.draws = [] := rfl
@[simp] theorem an_ref30_length_exits : an_ref30_length.exits = [] := rfl
@[simp] theorem an_ref30_length_rets : an_ref30_length.rets = some [2] := rfl
@[simp] theorem an_ref30_length_keep : an_ref30_length.keep = [1, 2] := rfl
@[simp] theorem an_ref30_length_cond : an_ref30_length.cond = [] := rfl
@[simp] theorem an_ref30_length_rows : an_ref30_length.rows = [] := rfl
@[simp] theorem an_ref30_length_loops : an_ref30_length.loops = [] := rfl
@[simp] theorem an_ref30_length_ecalls : an_ref30_length.ecalls = [] := rfl
@[simp] theorem an_ref30_length_crows : an_ref30_length.crows = [(22, 0, 59, 2)] := rfl
@[simp] theorem an_ref30_length_tails : an_ref30_length.tails = [] := rfl
@[simp] noncomputable def cl_ref30_length : List (Nat × (List D → Option D)) := []
@[simp] noncomputable def ce_ref30_length : List (Nat × (List (Nat × O) → List D → Option (D × List (Nat × O)))) := []
noncomputable def c_ref30_length : CT := ⟨callOf (cl_ref30_length ), callOfE ce_ref30_length, gl⟩
@[simp] theorem c_ref30_length_p (f : FuncId) (ds : List D) : c_ref30_length.p f ds = callOf (cl_ref30_length ) f ds := Eq.trans rfl rfl
@[simp] theorem c_ref30_length_e (f : FuncId) (hs : List (Nat × O)) (ds : List D) : c_ref30_length.e f hs ds = callOfE ce_ref30_length f hs ds := Eq.trans rfl rfl
@[simp] theorem c_ref30_length_g (g : Nat) : c_ref30_length.g g = gl g := Eq.trans rfl rfl
noncomputable def L_ref30_length (i n : Nat) (s : St) : Option (E × St) := atN Try.prog c_ref30_length an_ref30_length 8 (bodyOf Try.f49) i n s
noncomputable def H_ref30_length (n i : Nat) (s : St) : Option (E × St) := atH Try.prog c_ref30_length an_ref30_length 8 (bodyOf Try.f49) n i s
@[simp] theorem H_ref30_length_eq (n i : Nat) (s : St) : H_ref30_length n i s = L_ref30_length i n (headOf (an_ref30_length.loops.lookup i) s) := rfl
noncomputable def R_ref30_length (i : Nat) (s : St) : Option (E × St) := stepL Try.prog c_ref30_length an_ref30_length 8 (bodyOf Try.f49) i s
theorem lok_ref30_length : okLoops (bodyOf Try.f49) = true := by kernel_rfl
noncomputable def F_ref30_length (ds : List D) : Option D := runF Try.prog c_ref30_length an_ref30_length 8 (bodyOf Try.f49) [.tmp 2] ds
theorem F_ref30_length_eq (ds : List D) : F_ref30_length ds = runG Try.prog c_ref30_length (H_ref30_length bigL) an_ref30_length 8 (bodyOf Try.f49) [.tmp 2] ds := runG_eq lok_ref30_length _ ds
theorem C_ref30_length (ds : List D) (r : D) (h : F_ref30_length ds = some r) : Contract Try.prog gl 49 ds r := contract_of mix Try.func49 rfl (by kernel_rfl) (by kernel_rfl) (by decide) (call := c_ref30_length) ⟨callOf_ok cl_ref30_length trivial, callOfE_ok ce_ref30_length trivial⟩ h
-- sawmill/sawmillref30.has: loops [2]; state: params 0..1, then [4, 5]
attribute [simp] Try.f48
noncomputable def an_ref30_has : Ann := ⟨[0, 4, 5], [9, 17], [], [(2, [0, 1, 5])], [(0, []), (1, [0, 1, 5])], some [4], [], [], [(22, 0, 59, 2)], []⟩
@[simp] theorem an_ref30_has_draws : an_ref30_has.draws = [] := rfl
@[simp] theorem an_ref30_has_exits : an_ref30_has.exits = [(0, []), (1, [0, 1, 5])] := rfl
@[simp] theorem an_ref30_has_rets : an_ref30_has.rets = some [4] := rfl
@[simp] theorem an_ref30_has_keep : an_ref30_has.keep = [0, 4, 5] := rfl
@[simp] theorem an_ref30_has_cond : an_ref30_has.cond = [9, 17] := rfl
@[simp] theorem an_ref30_has_rows : an_ref30_has.rows = [] := rfl
@[simp] theorem an_ref30_has_loops : an_ref30_has.loops = [(2, [0, 1, 5])] := rfl
@[simp] theorem an_ref30_has_ecalls : an_ref30_has.ecalls = [] := rfl
@[simp] theorem an_ref30_has_crows : an_ref30_has.crows = [(22, 0, 59, 2)] := rfl
@[simp] theorem an_ref30_has_tails : an_ref30_has.tails = [] := rfl
@[simp] noncomputable def cl_ref30_has : List (Nat × (List D → Option D)) := []
@[simp] noncomputable def ce_ref30_has : List (Nat × (List (Nat × O) → List D → Option (D × List (Nat × O)))) := []
noncomputable def c_ref30_has : CT := ⟨callOf (cl_ref30_has ), callOfE ce_ref30_has, gl⟩
@[simp] theorem c_ref30_has_p (f : FuncId) (ds : List D) : c_ref30_has.p f ds = callOf (cl_ref30_has ) f ds := Eq.trans rfl rfl
@[simp] theorem c_ref30_has_e (f : FuncId) (hs : List (Nat × O)) (ds : List D) : c_ref30_has.e f hs ds = callOfE ce_ref30_has f hs ds := Eq.trans rfl rfl
@[simp] theorem c_ref30_has_g (g : Nat) : c_ref30_has.g g = gl g := Eq.trans rfl rfl
noncomputable def L_ref30_has (i n : Nat) (s : St) : Option (E × St) := atN Try.prog c_ref30_has an_ref30_has 18 (bodyOf Try.f48) i n s
noncomputable def H_ref30_has (n i : Nat) (s : St) : Option (E × St) := atH Try.prog c_ref30_has an_ref30_has 18 (bodyOf Try.f48) n i s
@[simp] theorem H_ref30_has_eq (n i : Nat) (s : St) : H_ref30_has n i s = L_ref30_has i n (headOf (an_ref30_has.loops.lookup i) s) := rfl
noncomputable def R_ref30_has (i : Nat) (s : St) : Option (E × St) := stepL Try.prog c_ref30_has an_ref30_has 18 (bodyOf Try.f48) i s
theorem lok_ref30_has : okLoops (bodyOf Try.f48) = true := by kernel_rfl
theorem L_ref30_has_zero (i : Nat) (s : St) : L_ref30_has i 0 s = none := rfl
theorem L_ref30_has_succ (i n : Nat) (s : St) : L_ref30_has i (n + 1) s = andThen (R_ref30_has i s) (H_ref30_has n i) := atN_succ lok_ref30_has i n s
theorem R_ref30_has_eq (i : Nat) (s : St) : R_ref30_has i s = runS Try.prog c_ref30_has (H_ref30_has bigL) an_ref30_has 18 (loopAt (bodyOf Try.f48) i) s := rfl
noncomputable def F_ref30_has (ds : List D) : Option D := runF Try.prog c_ref30_has an_ref30_has 18 (bodyOf Try.f48) [.tmp 4] ds
theorem F_ref30_has_eq (ds : List D) : F_ref30_has ds = runG Try.prog c_ref30_has (H_ref30_has bigL) an_ref30_has 18 (bodyOf Try.f48) [.tmp 4] ds := runG_eq lok_ref30_has _ ds
theorem C_ref30_has (ds : List D) (r : D) (h : F_ref30_has ds = some r) : Contract Try.prog gl 48 ds r := contract_of mix Try.func48 rfl (by kernel_rfl) (by kernel_rfl) (by decide) (call := c_ref30_has) ⟨callOf_ok cl_ref30_has trivial, callOfE_ok ce_ref30_has trivial⟩ h
-- sawmill/sawmillref13.in: loops []; state: params 0..2, then [3, 6]
attribute [simp] Try.f96
noncomputable def an_ref13_in : Ann := ⟨[3, 6], [], [], [], [], some [6], [], [], [(22, 0, 59, 2)], []⟩
@[simp] theorem an_ref13_in_draws : an_ref13_in.draws = [] := rfl
@[simp] theorem an_ref13_in_exits : an_ref13_in.exits = [] := rfl
@[simp] theorem an_ref13_in_rets : an_ref13_in.rets = some [6] := rfl
@[simp] theorem an_ref13_in_keep : an_ref13_in.keep = [3, 6] := rfl
@[simp] theorem an_ref13_in_cond : an_ref13_in.cond = [] := rfl
@[simp] theorem an_ref13_in_rows : an_ref13_in.rows = [] := rfl
@[simp] theorem an_ref13_in_loops : an_ref13_in.loops = [] := rfl
@[simp] theorem an_ref13_in_ecalls : an_ref13_in.ecalls = [] := rfl
@[simp] theorem an_ref13_in_crows : an_ref13_in.crows = [(22, 0, 59, 2)] := rfl
@[simp] theorem an_ref13_in_tails : an_ref13_in.tails = [] := rfl
@[simp] noncomputable def cl_ref13_in : List (Nat × (List D → Option D)) := []
@[simp] noncomputable def ce_ref13_in : List (Nat × (List (Nat × O) → List D → Option (D × List (Nat × O)))) := []
noncomputable def c_ref13_in : CT := ⟨callOf (cl_ref13_in ), callOfE ce_ref13_in, gl⟩
@[simp] theorem c_ref13_in_p (f : FuncId) (ds : List D) : c_ref13_in.p f ds = callOf (cl_ref13_in ) f ds := Eq.trans rfl rfl
@[simp] theorem c_ref13_in_e (f : FuncId) (hs : List (Nat × O)) (ds : List D) : c_ref13_in.e f hs ds = callOfE ce_ref13_in f hs ds := Eq.trans rfl rfl
@[simp] theorem c_ref13_in_g (g : Nat) : c_ref13_in.g g = gl g := Eq.trans rfl rfl
noncomputable def L_ref13_in (i n : Nat) (s : St) : Option (E × St) := atN Try.prog c_ref13_in an_ref13_in 17 (bodyOf Try.f96) i n s
noncomputable def H_ref13_in (n i : Nat) (s : St) : Option (E × St) := atH Try.prog c_ref13_in an_ref13_in 17 (bodyOf Try.f96) n i s
@[simp] theorem H_ref13_in_eq (n i : Nat) (s : St) : H_ref13_in n i s = L_ref13_in i n (headOf (an_ref13_in.loops.lookup i) s) := rfl
noncomputable def R_ref13_in (i : Nat) (s : St) : Option (E × St) := stepL Try.prog c_ref13_in an_ref13_in 17 (bodyOf Try.f96) i s
theorem lok_ref13_in : okLoops (bodyOf Try.f96) = true := by kernel_rfl
noncomputable def F_ref13_in (ds : List D) : Option D := runF Try.prog c_ref13_in an_ref13_in 17 (bodyOf Try.f96) [.tmp 6] ds
theorem F_ref13_in_eq (ds : List D) : F_ref13_in ds = runG Try.prog c_ref13_in (H_ref13_in bigL) an_ref13_in 17 (bodyOf Try.f96) [.tmp 6] ds := runG_eq lok_ref13_in _ ds
theorem C_ref13_in (ds : List D) (r : D) (h : F_ref13_in ds = some r) : Contract Try.prog gl 96 ds r := contract_of mix Try.func96 rfl (by kernel_rfl) (by kernel_rfl) (by decide) (call := c_ref13_in) ⟨callOf_ok cl_ref13_in trivial, callOfE_ok ce_ref13_in trivial⟩ h
-- sawmill/sawmillref13.Ranged: loops []; state: params 0..0, then [1, 2]
attribute [simp] Try.f80
noncomputable def an_ref13_Ranged : Ann := ⟨[1, 2], [], [], [], [], some [2], [], [], [(22, 0, 59, 2)], []⟩
@[simp] theorem an_ref13_Ranged_draws : an_ref13_Ranged.draws = [] := rfl
@[simp] theorem an_ref13_Ranged_exits : an_ref13_Ranged.exits = [] := rfl
@[simp] theorem an_ref13_Ranged_rets : an_ref13_Ranged.rets = some [2] := rfl
@[simp] theorem an_ref13_Ranged_keep : an_ref13_Ranged.keep = [1, 2] := rfl
@[simp] theorem an_ref13_Ranged_cond : an_ref13_Ranged.cond = [] := rfl
@[simp] theorem an_ref13_Ranged_rows : an_ref13_Ranged.rows = [] := rfl
@[simp] theorem an_ref13_Ranged_loops : an_ref13_Ranged.loops = [] := rfl
@[simp] theorem an_ref13_Ranged_ecalls : an_ref13_Ranged.ecalls = [] := rfl
@[simp] theorem an_ref13_Ranged_crows : an_ref13_Ranged.crows = [(22, 0, 59, 2)] := rfl
@[simp] theorem an_ref13_Ranged_tails : an_ref13_Ranged.tails = [] := rfl
@[simp] noncomputable def cl_ref13_Ranged : List (Nat × (List D → Option D)) := [(96, F_ref13_in)]
@[simp] noncomputable def ce_ref13_Ranged : List (Nat × (List (Nat × O) → List D → Option (D × List (Nat × O)))) := []
noncomputable def c_ref13_Ranged : CT := ⟨callOf (cl_ref13_Ranged ), callOfE ce_ref13_Ranged, gl⟩
@[simp] theorem c_ref13_Ranged_p (f : FuncId) (ds : List D) : c_ref13_Ranged.p f ds = callOf (cl_ref13_Ranged ) f ds := Eq.trans rfl rfl
@[simp] theorem c_ref13_Ranged_e (f : FuncId) (hs : List (Nat × O)) (ds : List D) : c_ref13_Ranged.e f hs ds = callOfE ce_ref13_Ranged f hs ds := Eq.trans rfl rfl
@[simp] theorem c_ref13_Ranged_g (g : Nat) : c_ref13_Ranged.g g = gl g := Eq.trans rfl rfl
noncomputable def L_ref13_Ranged (i n : Nat) (s : St) : Option (E × St) := atN Try.prog c_ref13_Ranged an_ref13_Ranged 16 (bodyOf Try.f80) i n s
noncomputable def H_ref13_Ranged (n i : Nat) (s : St) : Option (E × St) := atH Try.prog c_ref13_Ranged an_ref13_Ranged 16 (bodyOf Try.f80) n i s
@[simp] theorem H_ref13_Ranged_eq (n i : Nat) (s : St) : H_ref13_Ranged n i s = L_ref13_Ranged i n (headOf (an_ref13_Ranged.loops.lookup i) s) := rfl
noncomputable def R_ref13_Ranged (i : Nat) (s : St) : Option (E × St) := stepL Try.prog c_ref13_Ranged an_ref13_Ranged 16 (bodyOf Try.f80) i s
theorem lok_ref13_Ranged : okLoops (bodyOf Try.f80) = true := by kernel_rfl
noncomputable def F_ref13_Ranged (ds : List D) : Option D := runF Try.prog c_ref13_Ranged an_ref13_Ranged 16 (bodyOf Try.f80) [.tmp 2] ds
theorem F_ref13_Ranged_eq (ds : List D) : F_ref13_Ranged ds = runG Try.prog c_ref13_Ranged (H_ref13_Ranged bigL) an_ref13_Ranged 16 (bodyOf Try.f80) [.tmp 2] ds := runG_eq lok_ref13_Ranged _ ds
theorem C_ref13_Ranged (ds : List D) (r : D) (h : F_ref13_Ranged ds = some r) : Contract Try.prog gl 80 ds r := contract_of mix Try.func80 rfl (by kernel_rfl) (by kernel_rfl) (by decide) (call := c_ref13_Ranged) ⟨callOf_ok cl_ref13_Ranged ⟨C_ref13_in, trivial⟩, callOfE_ok ce_ref13_Ranged trivial⟩ h
-- sawmill/sawmillref13.Check: loops [4]; state: params 0..0, then [2, 3]
attribute [simp] Try.f50
noncomputable def an_ref13_Check : Ann := ⟨[0, 2, 3], [6, 10, 13, 28, 35], [], [(4, [0, 3])], [(0, []), (1, [0, 3]), (2, [0, 3])], some [2], [], [], [(22, 0, 59, 2)], []⟩
@[simp] theorem an_ref13_Check_draws : an_ref13_Check.draws = [] := rfl
@[simp] theorem an_ref13_Check_exits : an_ref13_Check.exits = [(0, []), (1, [0, 3]), (2, [0, 3])] := rfl
@[simp] theorem an_ref13_Check_rets : an_ref13_Check.rets = some [2] := rfl
@[simp] theorem an_ref13_Check_keep : an_ref13_Check.keep = [0, 2, 3] := rfl
@[simp] theorem an_ref13_Check_cond : an_ref13_Check.cond = [6, 10, 13, 28, 35] := rfl
@[simp] theorem an_ref13_Check_rows : an_ref13_Check.rows = [] := rfl
@[simp] theorem an_ref13_Check_loops : an_ref13_Check.loops = [(4, [0, 3])] := rfl
@[simp] theorem an_ref13_Check_ecalls : an_ref13_Check.ecalls = [] := rfl
@[simp] theorem an_ref13_Check_crows : an_ref13_Check.crows = [(22, 0, 59, 2)] := rfl
@[simp] theorem an_ref13_Check_tails : an_ref13_Check.tails = [] := rfl
@[simp] noncomputable def cl_ref13_Check : List (Nat × (List D → Option D)) := [(79, F_ref13_Empty), (80, F_ref13_Ranged)]
@[simp] noncomputable def ce_ref13_Check : List (Nat × (List (Nat × O) → List D → Option (D × List (Nat × O)))) := []
noncomputable def c_ref13_Check : CT := ⟨callOf (cl_ref13_Check ), callOfE ce_ref13_Check, gl⟩
@[simp] theorem c_ref13_Check_p (f : FuncId) (ds : List D) : c_ref13_Check.p f ds = callOf (cl_ref13_Check ) f ds := Eq.trans rfl rfl
@[simp] theorem c_ref13_Check_e (f : FuncId) (hs : List (Nat × O)) (ds : List D) : c_ref13_Check.e f hs ds = callOfE ce_ref13_Check f hs ds := Eq.trans rfl rfl
@[simp] theorem c_ref13_Check_g (g : Nat) : c_ref13_Check.g g = gl g := Eq.trans rfl rfl
noncomputable def L_ref13_Check (i n : Nat) (s : St) : Option (E × St) := atN Try.prog c_ref13_Check an_ref13_Check 43 (bodyOf Try.f50) i n s
noncomputable def H_ref13_Check (n i : Nat) (s : St) : Option (E × St) := atH Try.prog c_ref13_Check an_ref13_Check 43 (bodyOf Try.f50) n i s
@[simp] theorem H_ref13_Check_eq (n i : Nat) (s : St) : H_ref13_Check n i s = L_ref13_Check i n (headOf (an_ref13_Check.loops.lookup i) s) := rfl
noncomputable def R_ref13_Check (i : Nat) (s : St) : Option (E × St) := stepL Try.prog c_ref13_Check an_ref13_Check 43 (bodyOf Try.f50) i s
theorem lok_ref13_Check : okLoops (bodyOf Try.f50) = true := by kernel_rfl
theorem L_ref13_Check_zero (i : Nat) (s : St) : L_ref13_Check i 0 s = none := rfl
theorem L_ref13_Check_succ (i n : Nat) (s : St) : L_ref13_Check i (n + 1) s = andThen (R_ref13_Check i s) (H_ref13_Check n i) := atN_succ lok_ref13_Check i n s
theorem R_ref13_Check_eq (i : Nat) (s : St) : R_ref13_Check i s = runS Try.prog c_ref13_Check (H_ref13_Check bigL) an_ref13_Check 43 (loopAt (bodyOf Try.f50) i) s := rfl
noncomputable def F_ref13_Check (ds : List D) : Option D := runF Try.prog c_ref13_Check an_ref13_Check 43 (bodyOf Try.f50) [.tmp 2] ds
theorem F_ref13_Check_eq (ds : List D) : F_ref13_Check ds = runG Try.prog c_ref13_Check (H_ref13_Check bigL) an_ref13_Check 43 (bodyOf Try.f50) [.tmp 2] ds := runG_eq lok_ref13_Check _ ds
theorem C_ref13_Check (ds : List D) (r : D) (h : F_ref13_Check ds = some r) : Contract Try.prog gl 50 ds r := contract_of mix Try.func50 rfl (by kernel_rfl) (by kernel_rfl) (by decide) (call := c_ref13_Check) ⟨callOf_ok cl_ref13_Check ⟨C_ref13_Empty, C_ref13_Ranged, trivial⟩, callOfE_ok ce_ref13_Check trivial⟩ h
-- sawmill/sawmillref30.Volume: loops []; state: params 0..0, then [1, 2]
attribute [simp] Try.f52
noncomputable def an_ref30_Volume : Ann := ⟨[1, 2], [6], [], [], [], some [2], [(3, 13)], [], [(22, 0, 59, 2)], []⟩
@[simp] theorem an_ref30_Volume_draws : an_ref30_Volume.draws = [(3, 13)] := rfl
@[simp] theorem an_ref30_Volume_exits : an_ref30_Volume.exits = [] := rfl
@[simp] theorem an_ref30_Volume_rets : an_ref30_Volume.rets = some [2] := rfl
@[simp] theorem an_ref30_Volume_keep : an_ref30_Volume.keep = [1, 2] := rfl
@[simp] theorem an_ref30_Volume_cond : an_ref30_Volume.cond = [6] := rfl
@[simp] theorem an_ref30_Volume_rows : an_ref30_Volume.rows = [] := rfl
@[simp] theorem an_ref30_Volume_loops : an_ref30_Volume.loops = [] := rfl
@[simp] theorem an_ref30_Volume_ecalls : an_ref30_Volume.ecalls = [] := rfl
@[simp] theorem an_ref30_Volume_crows : an_ref30_Volume.crows = [(22, 0, 59, 2)] := rfl
@[simp] theorem an_ref30_Volume_tails : an_ref30_Volume.tails = [] := rfl
@[simp] noncomputable def cl_ref30_Volume : List (Nat × (List D → Option D)) := [(46, F_ref30_Placed), (49, F_ref30_length)]
@[simp] noncomputable def ce_ref30_Volume : List (Nat × (List (Nat × O) → List D → Option (D × List (Nat × O)))) := []
noncomputable def c_ref30_Volume : CT := ⟨callOf (cl_ref30_Volume ), callOfE ce_ref30_Volume, gl⟩
@[simp] theorem c_ref30_Volume_p (f : FuncId) (ds : List D) : c_ref30_Volume.p f ds = callOf (cl_ref30_Volume ) f ds := Eq.trans rfl rfl
@[simp] theorem c_ref30_Volume_e (f : FuncId) (hs : List (Nat × O)) (ds : List D) : c_ref30_Volume.e f hs ds = callOfE ce_ref30_Volume f hs ds := Eq.trans rfl rfl
@[simp] theorem c_ref30_Volume_g (g : Nat) : c_ref30_Volume.g g = gl g := Eq.trans rfl rfl
noncomputable def L_ref30_Volume (i n : Nat) (s : St) : Option (E × St) := atN Try.prog c_ref30_Volume an_ref30_Volume 21 (bodyOf Try.f52) i n s
noncomputable def H_ref30_Volume (n i : Nat) (s : St) : Option (E × St) := atH Try.prog c_ref30_Volume an_ref30_Volume 21 (bodyOf Try.f52) n i s
@[simp] theorem H_ref30_Volume_eq (n i : Nat) (s : St) : H_ref30_Volume n i s = L_ref30_Volume i n (headOf (an_ref30_Volume.loops.lookup i) s) := rfl
noncomputable def R_ref30_Volume (i : Nat) (s : St) : Option (E × St) := stepL Try.prog c_ref30_Volume an_ref30_Volume 21 (bodyOf Try.f52) i s
theorem lok_ref30_Volume : okLoops (bodyOf Try.f52) = true := by kernel_rfl
noncomputable def F_ref30_Volume (ds : List D) : Option D := runF Try.prog c_ref30_Volume an_ref30_Volume 21 (bodyOf Try.f52) [.tmp 2] ds
theorem F_ref30_Volume_eq (ds : List D) : F_ref30_Volume ds = runG Try.prog c_ref30_Volume (H_ref30_Volume bigL) an_ref30_Volume 21 (bodyOf Try.f52) [.tmp 2] ds := runG_eq lok_ref30_Volume _ ds
theorem C_ref30_Volume (ds : List D) (r : D) (h : F_ref30_Volume ds = some r) : Contract Try.prog gl 52 ds r := contract_of mix Try.func52 rfl (by kernel_rfl) (by kernel_rfl) (by decide) (call := c_ref30_Volume) ⟨callOf_ok cl_ref30_Volume ⟨C_ref30_Placed, C_ref30_length, trivial⟩, callOfE_ok ce_ref30_Volume trivial⟩ h
-- sawmill/sawmillref30.Check: loops [16]; state: params 0..1, then [2, 4, 5, 6, 7, 8]
attribute [simp] Try.f28
noncomputable def an_ref30_Check : Ann := ⟨[1, 2, 4, 5, 6, 7, 8], [12, 29, 39, 54, 66, 71, 77, 113, 133, 167, 175], [], [(16, [2, 7])], [(0, [2]), (1, [2, 7])], some [4], [(8, 12), (10, 10), (19, 25), (21, 8)], [], [(22, 0, 59, 2)], []⟩
@[simp] theorem an_ref30_Check_draws : an_ref30_Check.draws = [(8, 12), (10, 10), (19, 25), (21, 8)] := rfl
@[simp] theorem an_ref30_Check_exits : an_ref30_Check.exits = [(0, [2]), (1, [2, 7])] := rfl
@[simp] theorem an_ref30_Check_rets : an_ref30_Check.rets = some [4] := rfl
@[simp] theorem an_ref30_Check_keep : an_ref30_Check.keep = [1, 2, 4, 5, 6, 7, 8] := rfl
@[simp] theorem an_ref30_Check_cond : an_ref30_Check.cond = [12, 29, 39, 54, 66, 71, 77, 113, 133, 167, 175] := rfl
@[simp] theorem an_ref30_Check_rows : an_ref30_Check.rows = [] := rfl
@[simp] theorem an_ref30_Check_loops : an_ref30_Check.loops = [(16, [2, 7])] := rfl
@[simp] theorem an_ref30_Check_ecalls : an_ref30_Check.ecalls = [] := rfl
@[simp] theorem an_ref30_Check_crows : an_ref30_Check.crows = [(22, 0, 59, 2)] := rfl
@[simp] theorem an_ref30_Check_tails : an_ref30_Check.tails = [] := rfl
@[simp] noncomputable def cl_ref30_Check : List (Nat × (List D → Option D)) := [(43, F_ref19_Check), (44, F_ref02_Is), (45, F_ref02_IsName), (46, F_ref30_Placed), (47, F_ref26_Green), (48, F_ref30_has), (49, F_ref30_length), (50, F_ref13_Check), (51, F_ref30_within), (52, F_ref30_Volume)]
@[simp] noncomputable def ce_ref30_Check : List (Nat × (List (Nat × O) → List D → Option (D × List (Nat × O)))) := []
noncomputable def c_ref30_Check : CT := ⟨callOf (cl_ref30_Check ), callOfE ce_ref30_Check, gl⟩
@[simp] theorem c_ref30_Check_p (f : FuncId) (ds : List D) : c_ref30_Check.p f ds = callOf (cl_ref30_Check ) f ds := Eq.trans rfl rfl
@[simp] theorem c_ref30_Check_e (f : FuncId) (hs : List (Nat × O)) (ds : List D) : c_ref30_Check.e f hs ds = callOfE ce_ref30_Check f hs ds := Eq.trans rfl rfl
@[simp] theorem c_ref30_Check_g (g : Nat) : c_ref30_Check.g g = gl g := Eq.trans rfl rfl
noncomputable def L_ref30_Check (i n : Nat) (s : St) : Option (E × St) := atN Try.prog c_ref30_Check an_ref30_Check 176 (bodyOf Try.f28) i n s
noncomputable def H_ref30_Check (n i : Nat) (s : St) : Option (E × St) := atH Try.prog c_ref30_Check an_ref30_Check 176 (bodyOf Try.f28) n i s
@[simp] theorem H_ref30_Check_eq (n i : Nat) (s : St) : H_ref30_Check n i s = L_ref30_Check i n (headOf (an_ref30_Check.loops.lookup i) s) := rfl
noncomputable def R_ref30_Check (i : Nat) (s : St) : Option (E × St) := stepL Try.prog c_ref30_Check an_ref30_Check 176 (bodyOf Try.f28) i s
theorem lok_ref30_Check : okLoops (bodyOf Try.f28) = true := by kernel_rfl
theorem L_ref30_Check_zero (i : Nat) (s : St) : L_ref30_Check i 0 s = none := rfl
theorem L_ref30_Check_succ (i n : Nat) (s : St) : L_ref30_Check i (n + 1) s = andThen (R_ref30_Check i s) (H_ref30_Check n i) := atN_succ lok_ref30_Check i n s
theorem R_ref30_Check_eq (i : Nat) (s : St) : R_ref30_Check i s = runS Try.prog c_ref30_Check (H_ref30_Check bigL) an_ref30_Check 176 (loopAt (bodyOf Try.f28) i) s := rfl
noncomputable def F_ref30_Check (ds : List D) : Option D := runF Try.prog c_ref30_Check an_ref30_Check 176 (bodyOf Try.f28) [.tmp 4] ds
theorem F_ref30_Check_eq (ds : List D) : F_ref30_Check ds = runG Try.prog c_ref30_Check (H_ref30_Check bigL) an_ref30_Check 176 (bodyOf Try.f28) [.tmp 4] ds := runG_eq lok_ref30_Check _ ds
theorem C_ref30_Check (ds : List D) (r : D) (h : F_ref30_Check ds = some r) : Contract Try.prog gl 28 ds r := contract_of mix Try.func28 rfl (by kernel_rfl) (by kernel_rfl) (by decide) (call := c_ref30_Check) ⟨callOf_ok cl_ref30_Check ⟨C_ref19_Check, C_ref02_Is, C_ref02_IsName, C_ref30_Placed, C_ref26_Green, C_ref30_has, C_ref30_length, C_ref13_Check, C_ref30_within, C_ref30_Volume, trivial⟩, callOfE_ok ce_ref30_Check trivial⟩ h
-- sawmill/sawmillref34.from: loops []; state: params 0..2, then [6]
attribute [simp] Try.f81
noncomputable def an_ref34_from : Ann := ⟨[6], [], [], [], [], some [6], [], [], [(22, 0, 59, 2)], []⟩
@[simp] theorem an_ref34_from_draws : an_ref34_from.draws = [] := rfl
@[simp] theorem an_ref34_from_exits : an_ref34_from.exits = [] := rfl
@[simp] theorem an_ref34_from_rets : an_ref34_from.rets = some [6] := rfl
@[simp] theorem an_ref34_from_keep : an_ref34_from.keep = [6] := rfl
@[simp] theorem an_ref34_from_cond : an_ref34_from.cond = [] := rfl
@[simp] theorem an_ref34_from_rows : an_ref34_from.rows = [] := rfl
@[simp] theorem an_ref34_from_loops : an_ref34_from.loops = [] := rfl
@[simp] theorem an_ref34_from_ecalls : an_ref34_from.ecalls = [] := rfl
@[simp] theorem an_ref34_from_crows : an_ref34_from.crows = [(22, 0, 59, 2)] := rfl
@[simp] theorem an_ref34_from_tails : an_ref34_from.tails = [] := rfl
@[simp] noncomputable def cl_ref34_from : List (Nat × (List D → Option D)) := []
@[simp] noncomputable def ce_ref34_from : List (Nat × (List (Nat × O) → List D → Option (D × List (Nat × O)))) := []
noncomputable def c_ref34_from : CT := ⟨callOf (cl_ref34_from ), callOfE ce_ref34_from, gl⟩
@[simp] theorem c_ref34_from_p (f : FuncId) (ds : List D) : c_ref34_from.p f ds = callOf (cl_ref34_from ) f ds := Eq.trans rfl rfl
@[simp] theorem c_ref34_from_e (f : FuncId) (hs : List (Nat × O)) (ds : List D) : c_ref34_from.e f hs ds = callOfE ce_ref34_from f hs ds := Eq.trans rfl rfl
@[simp] theorem c_ref34_from_g (g : Nat) : c_ref34_from.g g = gl g := Eq.trans rfl rfl
noncomputable def L_ref34_from (i n : Nat) (s : St) : Option (E × St) := atN Try.prog c_ref34_from an_ref34_from 15 (bodyOf Try.f81) i n s
noncomputable def H_ref34_from (n i : Nat) (s : St) : Option (E × St) := atH Try.prog c_ref34_from an_ref34_from 15 (bodyOf Try.f81) n i s
@[simp] theorem H_ref34_from_eq (n i : Nat) (s : St) : H_ref34_from n i s = L_ref34_from i n (headOf (an_ref34_from.loops.lookup i) s) := rfl
noncomputable def R_ref34_from (i : Nat) (s : St) : Option (E × St) := stepL Try.prog c_ref34_from an_ref34_from 15 (bodyOf Try.f81) i s
theorem lok_ref34_from : okLoops (bodyOf Try.f81) = true := by kernel_rfl
noncomputable def F_ref34_from (ds : List D) : Option D := runF Try.prog c_ref34_from an_ref34_from 15 (bodyOf Try.f81) [.tmp 6] ds
theorem F_ref34_from_eq (ds : List D) : F_ref34_from ds = runG Try.prog c_ref34_from (H_ref34_from bigL) an_ref34_from 15 (bodyOf Try.f81) [.tmp 6] ds := runG_eq lok_ref34_from _ ds
theorem C_ref34_from (ds : List D) (r : D) (h : F_ref34_from ds = some r) : Contract Try.prog gl 81 ds r := contract_of mix Try.func81 rfl (by kernel_rfl) (by kernel_rfl) (by decide) (call := c_ref34_from) ⟨callOf_ok cl_ref34_from trivial, callOfE_ok ce_ref34_from trivial⟩ h
-- sawmill/sawmillref34.valid: loops []; state: params 0..0, then [1, 2]
attribute [simp] Try.f53
noncomputable def an_ref34_valid : Ann := ⟨[1, 2], [40, 50], [], [], [], some [2], [], [], [(22, 0, 59, 2)], []⟩
@[simp] theorem an_ref34_valid_draws : an_ref34_valid.draws = [] := rfl
@[simp] theorem an_ref34_valid_exits : an_ref34_valid.exits = [] := rfl
@[simp] theorem an_ref34_valid_rets : an_ref34_valid.rets = some [2] := rfl
@[simp] theorem an_ref34_valid_keep : an_ref34_valid.keep = [1, 2] := rfl
@[simp] theorem an_ref34_valid_cond : an_ref34_valid.cond = [40, 50] := rfl
@[simp] theorem an_ref34_valid_rows : an_ref34_valid.rows = [] := rfl
@[simp] theorem an_ref34_valid_loops : an_ref34_valid.loops = [] := rfl
@[simp] theorem an_ref34_valid_ecalls : an_ref34_valid.ecalls = [] := rfl
@[simp] theorem an_ref34_valid_crows : an_ref34_valid.crows = [(22, 0, 59, 2)] := rfl
@[simp] theorem an_ref34_valid_tails : an_ref34_valid.tails = [] := rfl
@[simp] noncomputable def cl_ref34_valid : List (Nat × (List D → Option D)) := [(81, F_ref34_from)]
@[simp] noncomputable def ce_ref34_valid : List (Nat × (List (Nat × O) → List D → Option (D × List (Nat × O)))) := []
noncomputable def c_ref34_valid : CT := ⟨callOf (cl_ref34_valid ), callOfE ce_ref34_valid, gl⟩
@[simp] theorem c_ref34_valid_p (f : FuncId) (ds : List D) : c_ref34_valid.p f ds = callOf (cl_ref34_valid ) f ds := Eq.trans rfl rfl
@[simp] theorem c_ref34_valid_e (f : FuncId) (hs : List (Nat × O)) (ds : List D) : c_ref34_valid.e f hs ds = callOfE ce_ref34_valid f hs ds := Eq.trans rfl rfl
@[simp] theorem c_ref34_valid_g (g : Nat) : c_ref34_valid.g g = gl g := Eq.trans rfl rfl
noncomputable def L_ref34_valid (i n : Nat) (s : St) : Option (E × St) := atN Try.prog c_ref34_valid an_ref34_valid 69 (bodyOf Try.f53) i n s
noncomputable def H_ref34_valid (n i : Nat) (s : St) : Option (E × St) := atH Try.prog c_ref34_valid an_ref34_valid 69 (bodyOf Try.f53) n i s
@[simp] theorem H_ref34_valid_eq (n i : Nat) (s : St) : H_ref34_valid n i s = L_ref34_valid i n (headOf (an_ref34_valid.loops.lookup i) s) := rfl
noncomputable def R_ref34_valid (i : Nat) (s : St) : Option (E × St) := stepL Try.prog c_ref34_valid an_ref34_valid 69 (bodyOf Try.f53) i s
theorem lok_ref34_valid : okLoops (bodyOf Try.f53) = true := by kernel_rfl
noncomputable def F_ref34_valid (ds : List D) : Option D := runF Try.prog c_ref34_valid an_ref34_valid 69 (bodyOf Try.f53) [.tmp 2] ds
theorem F_ref34_valid_eq (ds : List D) : F_ref34_valid ds = runG Try.prog c_ref34_valid (H_ref34_valid bigL) an_ref34_valid 69 (bodyOf Try.f53) [.tmp 2] ds := runG_eq lok_ref34_valid _ ds
theorem C_ref34_valid (ds : List D) (r : D) (h : F_ref34_valid ds = some r) : Contract Try.prog gl 53 ds r := contract_of mix Try.func53 rfl (by kernel_rfl) (by kernel_rfl) (by decide) (call := c_ref34_valid) ⟨callOf_ok cl_ref34_valid ⟨C_ref34_from, trivial⟩, callOfE_ok ce_ref34_valid trivial⟩ h
-- sawmill/sawmillref34.Check: loops [4, 9]; state: params 0..0, then [2, 3, 4]
attribute [simp] Try.f29
noncomputable def an_ref34_Check : Ann := ⟨[0, 2, 3, 4], [7, 11, 20, 23, 36, 42], [], [(4, [0, 3]), (9, [0, 3, 4])], [(0, []), (1, [0, 3]), (2, [0, 3]), (3, [0, 3, 4])], some [2], [(11, 10)], [], [(22, 0, 59, 2)], []⟩
@[simp] theorem an_ref34_Check_draws : an_ref34_Check.draws = [(11, 10)] := rfl
@[simp] theorem an_ref34_Check_exits : an_ref34_Check.exits = [(0, []), (1, [0, 3]), (2, [0, 3]), (3, [0, 3, 4])] := rfl
@[simp] theorem an_ref34_Check_rets : an_ref34_Check.rets = some [2] := rfl
@[simp] theorem an_ref34_Check_keep : an_ref34_Check.keep = [0, 2, 3, 4] := rfl
@[simp] theorem an_ref34_Check_cond : an_ref34_Check.cond = [7, 11, 20, 23, 36, 42] := rfl
@[simp] theorem an_ref34_Check_rows : an_ref34_Check.rows = [] := rfl
@[simp] theorem an_ref34_Check_loops : an_ref34_Check.loops = [(4, [0, 3]), (9, [0, 3, 4])] := rfl
@[simp] theorem an_ref34_Check_ecalls : an_ref34_Check.ecalls = [] := rfl
@[simp] theorem an_ref34_Check_crows : an_ref34_Check.crows = [(22, 0, 59, 2)] := rfl
@[simp] theorem an_ref34_Check_tails : an_ref34_Check.tails = [] := rfl
@[simp] noncomputable def cl_ref34_Check : List (Nat × (List D → Option D)) := [(45, F_ref02_IsName), (53, F_ref34_valid)]
@[simp] noncomputable def ce_ref34_Check : List (Nat × (List (Nat × O) → List D → Option (D × List (Nat × O)))) := []
noncomputable def c_ref34_Check : CT := ⟨callOf (cl_ref34_Check ), callOfE ce_ref34_Check, gl⟩
@[simp] theorem c_ref34_Check_p (f : FuncId) (ds : List D) : c_ref34_Check.p f ds = callOf (cl_ref34_Check ) f ds := Eq.trans rfl rfl
@[simp] theorem c_ref34_Check_e (f : FuncId) (hs : List (Nat × O)) (ds : List D) : c_ref34_Check.e f hs ds = callOfE ce_ref34_Check f hs ds := Eq.trans rfl rfl
@[simp] theorem c_ref34_Check_g (g : Nat) : c_ref34_Check.g g = gl g := Eq.trans rfl rfl
noncomputable def L_ref34_Check (i n : Nat) (s : St) : Option (E × St) := atN Try.prog c_ref34_Check an_ref34_Check 43 (bodyOf Try.f29) i n s
noncomputable def H_ref34_Check (n i : Nat) (s : St) : Option (E × St) := atH Try.prog c_ref34_Check an_ref34_Check 43 (bodyOf Try.f29) n i s
@[simp] theorem H_ref34_Check_eq (n i : Nat) (s : St) : H_ref34_Check n i s = L_ref34_Check i n (headOf (an_ref34_Check.loops.lookup i) s) := rfl
noncomputable def R_ref34_Check (i : Nat) (s : St) : Option (E × St) := stepL Try.prog c_ref34_Check an_ref34_Check 43 (bodyOf Try.f29) i s
theorem lok_ref34_Check : okLoops (bodyOf Try.f29) = true := by kernel_rfl
theorem L_ref34_Check_zero (i : Nat) (s : St) : L_ref34_Check i 0 s = none := rfl
theorem L_ref34_Check_succ (i n : Nat) (s : St) : L_ref34_Check i (n + 1) s = andThen (R_ref34_Check i s) (H_ref34_Check n i) := atN_succ lok_ref34_Check i n s
theorem R_ref34_Check_eq (i : Nat) (s : St) : R_ref34_Check i s = runS Try.prog c_ref34_Check (H_ref34_Check bigL) an_ref34_Check 43 (loopAt (bodyOf Try.f29) i) s := rfl
noncomputable def F_ref34_Check (ds : List D) : Option D := runF Try.prog c_ref34_Check an_ref34_Check 43 (bodyOf Try.f29) [.tmp 2] ds
theorem F_ref34_Check_eq (ds : List D) : F_ref34_Check ds = runG Try.prog c_ref34_Check (H_ref34_Check bigL) an_ref34_Check 43 (bodyOf Try.f29) [.tmp 2] ds := runG_eq lok_ref34_Check _ ds
theorem C_ref34_Check (ds : List D) (r : D) (h : F_ref34_Check ds = some r) : Contract Try.prog gl 29 ds r := contract_of mix Try.func29 rfl (by kernel_rfl) (by kernel_rfl) (by decide) (call := c_ref34_Check) ⟨callOf_ok cl_ref34_Check ⟨C_ref02_IsName, C_ref34_valid, trivial⟩, callOfE_ok ce_ref34_Check trivial⟩ h
-- sawmill/sawmilllaw42.valid: loops []; state: params 0..0, then [1, 2]
attribute [simp] Try.f15
noncomputable def an_law42_valid : Ann := ⟨[1, 2], [], [], [], [], some [2], [], [], [(22, 0, 59, 2)], []⟩
@[simp] theorem an_law42_valid_draws : an_law42_valid.draws = [] := rfl
@[simp] theorem an_law42_valid_exits : an_law42_valid.exits = [] := rfl
@[simp] theorem an_law42_valid_rets : an_law42_valid.rets = some [2] := rfl
@[simp] theorem an_law42_valid_keep : an_law42_valid.keep = [1, 2] := rfl
@[simp] theorem an_law42_valid_cond : an_law42_valid.cond = [] := rfl
@[simp] theorem an_law42_valid_rows : an_law42_valid.rows = [] := rfl
@[simp] theorem an_law42_valid_loops : an_law42_valid.loops = [] := rfl
@[simp] theorem an_law42_valid_ecalls : an_law42_valid.ecalls = [] := rfl
@[simp] theorem an_law42_valid_crows : an_law42_valid.crows = [(22, 0, 59, 2)] := rfl
@[simp] theorem an_law42_valid_tails : an_law42_valid.tails = [] := rfl
@[simp] noncomputable def cl_law42_valid : List (Nat × (List D → Option D)) := [(28, F_ref30_Check), (29, F_ref34_Check)]
@[simp] noncomputable def ce_law42_valid : List (Nat × (List (Nat × O) → List D → Option (D × List (Nat × O)))) := []
noncomputable def c_law42_valid : CT := ⟨callOf (cl_law42_valid ), callOfE ce_law42_valid, gl⟩
@[simp] theorem c_law42_valid_p (f : FuncId) (ds : List D) : c_law42_valid.p f ds = callOf (cl_law42_valid ) f ds := Eq.trans rfl rfl
@[simp] theorem c_law42_valid_e (f : FuncId) (hs : List (Nat × O)) (ds : List D) : c_law42_valid.e f hs ds = callOfE ce_law42_valid f hs ds := Eq.trans rfl rfl
@[simp] theorem c_law42_valid_g (g : Nat) : c_law42_valid.g g = gl g := Eq.trans rfl rfl
noncomputable def L_law42_valid (i n : Nat) (s : St) : Option (E × St) := atN Try.prog c_law42_valid an_law42_valid 16 (bodyOf Try.f15) i n s
noncomputable def H_law42_valid (n i : Nat) (s : St) : Option (E × St) := atH Try.prog c_law42_valid an_law42_valid 16 (bodyOf Try.f15) n i s
@[simp] theorem H_law42_valid_eq (n i : Nat) (s : St) : H_law42_valid n i s = L_law42_valid i n (headOf (an_law42_valid.loops.lookup i) s) := rfl
noncomputable def R_law42_valid (i : Nat) (s : St) : Option (E × St) := stepL Try.prog c_law42_valid an_law42_valid 16 (bodyOf Try.f15) i s
theorem lok_law42_valid : okLoops (bodyOf Try.f15) = true := by kernel_rfl
noncomputable def F_law42_valid (ds : List D) : Option D := runF Try.prog c_law42_valid an_law42_valid 16 (bodyOf Try.f15) [.tmp 2] ds
theorem F_law42_valid_eq (ds : List D) : F_law42_valid ds = runG Try.prog c_law42_valid (H_law42_valid bigL) an_law42_valid 16 (bodyOf Try.f15) [.tmp 2] ds := runG_eq lok_law42_valid _ ds
theorem C_law42_valid (ds : List D) (r : D) (h : F_law42_valid ds = some r) : Contract Try.prog gl 15 ds r := contract_of mix Try.func15 rfl (by kernel_rfl) (by kernel_rfl) (by decide) (call := c_law42_valid) ⟨callOf_ok cl_law42_valid ⟨C_ref30_Check, C_ref34_Check, trivial⟩, callOfE_ok ce_law42_valid trivial⟩ h
-- sawmill/sawmilllaw42.FeatureCounts: loops [8]; state: params 0..0, then [1, 2, 3, 4, 5, 6]
attribute [simp] Try.f4
noncomputable def an_law42_FeatureCounts : Ann := ⟨[1, 2, 3, 4, 5, 6], [9, 15, 27, 42, 73], [], [(8, [1, 3, 4, 5])], [(0, [1, 3, 4]), (1, [1, 3, 4, 5])], some [2], [(13, 21)], [], [(22, 0, 59, 2)], []⟩
@[simp] theorem an_law42_FeatureCounts_draws : an_law42_FeatureCounts.draws = [(13, 21)] := rfl
@[simp] theorem an_law42_FeatureCounts_exits : an_law42_FeatureCounts.exits = [(0, [1, 3, 4]), (1, [1, 3, 4, 5])] := rfl
@[simp] theorem an_law42_FeatureCounts_rets : an_law42_FeatureCounts.rets = some [2] := rfl
@[simp] theorem an_law42_FeatureCounts_keep : an_law42_FeatureCounts.keep = [1, 2, 3, 4, 5, 6] := rfl
@[simp] theorem an_law42_FeatureCounts_cond : an_law42_FeatureCounts.cond = [9, 15, 27, 42, 73] := rfl
@[simp] theorem an_law42_FeatureCounts_rows : an_law42_FeatureCounts.rows = [] := rfl
@[simp] theorem an_law42_FeatureCounts_loops : an_law42_FeatureCounts.loops = [(8, [1, 3, 4, 5])] := rfl
@[simp] theorem an_law42_FeatureCounts_ecalls : an_law42_FeatureCounts.ecalls = [] := rfl
@[simp] theorem an_law42_FeatureCounts_crows : an_law42_FeatureCounts.crows = [(22, 0, 59, 2)] := rfl
@[simp] theorem an_law42_FeatureCounts_tails : an_law42_FeatureCounts.tails = [] := rfl
@[simp] noncomputable def cl_law42_FeatureCounts : List (Nat × (List D → Option D)) := [(8, F_law42_awake), (13, F_law42_short), (14, F_law42_of), (15, F_law42_valid), (16, F_defect_Size), (17, F_law42_get)]
@[simp] noncomputable def ce_law42_FeatureCounts : List (Nat × (List (Nat × O) → List D → Option (D × List (Nat × O)))) := []
noncomputable def c_law42_FeatureCounts : CT := ⟨callOf (cl_law42_FeatureCounts ), callOfE ce_law42_FeatureCounts, gl⟩
@[simp] theorem c_law42_FeatureCounts_p (f : FuncId) (ds : List D) : c_law42_FeatureCounts.p f ds = callOf (cl_law42_FeatureCounts ) f ds := Eq.trans rfl rfl
@[simp] theorem c_law42_FeatureCounts_e (f : FuncId) (hs : List (Nat × O)) (ds : List D) : c_law42_FeatureCounts.e f hs ds = callOfE ce_law42_FeatureCounts f hs ds := Eq.trans rfl rfl
@[simp] theorem c_law42_FeatureCounts_g (g : Nat) : c_law42_FeatureCounts.g g = gl g := Eq.trans rfl rfl
noncomputable def L_law42_FeatureCounts (i n : Nat) (s : St) : Option (E × St) := atN Try.prog c_law42_FeatureCounts an_law42_FeatureCounts 91 (bodyOf Try.f4) i n s
noncomputable def H_law42_FeatureCounts (n i : Nat) (s : St) : Option (E × St) := atH Try.prog c_law42_FeatureCounts an_law42_FeatureCounts 91 (bodyOf Try.f4) n i s
@[simp] theorem H_law42_FeatureCounts_eq (n i : Nat) (s : St) : H_law42_FeatureCounts n i s = L_law42_FeatureCounts i n (headOf (an_law42_FeatureCounts.loops.lookup i) s) := rfl
noncomputable def R_law42_FeatureCounts (i : Nat) (s : St) : Option (E × St) := stepL Try.prog c_law42_FeatureCounts an_law42_FeatureCounts 91 (bodyOf Try.f4) i s
theorem lok_law42_FeatureCounts : okLoops (bodyOf Try.f4) = true := by kernel_rfl
theorem L_law42_FeatureCounts_zero (i : Nat) (s : St) : L_law42_FeatureCounts i 0 s = none := rfl
theorem L_law42_FeatureCounts_succ (i n : Nat) (s : St) : L_law42_FeatureCounts i (n + 1) s = andThen (R_law42_FeatureCounts i s) (H_law42_FeatureCounts n i) := atN_succ lok_law42_FeatureCounts i n s
theorem R_law42_FeatureCounts_eq (i : Nat) (s : St) : R_law42_FeatureCounts i s = runS Try.prog c_law42_FeatureCounts (H_law42_FeatureCounts bigL) an_law42_FeatureCounts 91 (loopAt (bodyOf Try.f4) i) s := rfl
noncomputable def F_law42_FeatureCounts (ds : List D) : Option D := runF Try.prog c_law42_FeatureCounts an_law42_FeatureCounts 91 (bodyOf Try.f4) [.tmp 2] ds
theorem F_law42_FeatureCounts_eq (ds : List D) : F_law42_FeatureCounts ds = runG Try.prog c_law42_FeatureCounts (H_law42_FeatureCounts bigL) an_law42_FeatureCounts 91 (bodyOf Try.f4) [.tmp 2] ds := runG_eq lok_law42_FeatureCounts _ ds
theorem C_law42_FeatureCounts (ds : List D) (r : D) (h : F_law42_FeatureCounts ds = some r) : Contract Try.prog gl 4 ds r := contract_of mix Try.func4 rfl (by kernel_rfl) (by kernel_rfl) (by decide) (call := c_law42_FeatureCounts) ⟨callOf_ok cl_law42_FeatureCounts ⟨C_law42_awake, C_law42_short, C_law42_of, C_law42_valid, C_defect_Size, C_law42_get, trivial⟩, callOfE_ok ce_law42_FeatureCounts trivial⟩ h
-- sawmill/sawmilllaw42.FeatureAgrees: loops []; state: params 0..0, then [1, 2, 3, 4]
attribute [simp] Try.f5
noncomputable def an_law42_FeatureAgrees : Ann := ⟨[1, 2, 3, 4], [12, 18, 57], [], [], [], some [2], [(7, 30), (9, 34)], [], [(22, 0, 59, 2)], []⟩
@[simp] theorem an_law42_FeatureAgrees_draws : an_law42_FeatureAgrees.draws = [(7, 30), (9, 34)] := rfl
@[simp] theorem an_law42_FeatureAgrees_exits : an_law42_FeatureAgrees.exits = [] := rfl
@[simp] theorem an_law42_FeatureAgrees_rets : an_law42_FeatureAgrees.rets = some [2] := rfl
@[simp] theorem an_law42_FeatureAgrees_keep : an_law42_FeatureAgrees.keep = [1, 2, 3, 4] := rfl
@[simp] theorem an_law42_FeatureAgrees_cond : an_law42_FeatureAgrees.cond = [12, 18, 57] := rfl
@[simp] theorem an_law42_FeatureAgrees_rows : an_law42_FeatureAgrees.rows = [] := rfl
@[simp] theorem an_law42_FeatureAgrees_loops : an_law42_FeatureAgrees.loops = [] := rfl
@[simp] theorem an_law42_FeatureAgrees_ecalls : an_law42_FeatureAgrees.ecalls = [] := rfl
@[simp] theorem an_law42_FeatureAgrees_crows : an_law42_FeatureAgrees.crows = [(22, 0, 59, 2)] := rfl
@[simp] theorem an_law42_FeatureAgrees_tails : an_law42_FeatureAgrees.tails = [] := rfl
@[simp] noncomputable def cl_law42_FeatureAgrees : List (Nat × (List D → Option D)) := [(8, F_law42_awake), (13, F_law42_short), (14, F_law42_of), (15, F_law42_valid), (17, F_law42_get), (18, F_sizing_Under), (19, F_moist_Mean), (20, F_moist_Gradient), (21, F_moist_Checks), (22, F_strength_Stiffness)]
@[simp] noncomputable def ce_law42_FeatureAgrees : List (Nat × (List (Nat × O) → List D → Option (D × List (Nat × O)))) := []
noncomputable def c_law42_FeatureAgrees : CT := ⟨callOf (cl_law42_FeatureAgrees ), callOfE ce_law42_FeatureAgrees, gl⟩
@[simp] theorem c_law42_FeatureAgrees_p (f : FuncId) (ds : List D) : c_law42_FeatureAgrees.p f ds = callOf (cl_law42_FeatureAgrees ) f ds := Eq.trans rfl rfl
@[simp] theorem c_law42_FeatureAgrees_e (f : FuncId) (hs : List (Nat × O)) (ds : List D) : c_law42_FeatureAgrees.e f hs ds = callOfE ce_law42_FeatureAgrees f hs ds := Eq.trans rfl rfl
@[simp] theorem c_law42_FeatureAgrees_g (g : Nat) : c_law42_FeatureAgrees.g g = gl g := Eq.trans rfl rfl
noncomputable def L_law42_FeatureAgrees (i n : Nat) (s : St) : Option (E × St) := atN Try.prog c_law42_FeatureAgrees an_law42_FeatureAgrees 98 (bodyOf Try.f5) i n s
noncomputable def H_law42_FeatureAgrees (n i : Nat) (s : St) : Option (E × St) := atH Try.prog c_law42_FeatureAgrees an_law42_FeatureAgrees 98 (bodyOf Try.f5) n i s
@[simp] theorem H_law42_FeatureAgrees_eq (n i : Nat) (s : St) : H_law42_FeatureAgrees n i s = L_law42_FeatureAgrees i n (headOf (an_law42_FeatureAgrees.loops.lookup i) s) := rfl
noncomputable def R_law42_FeatureAgrees (i : Nat) (s : St) : Option (E × St) := stepL Try.prog c_law42_FeatureAgrees an_law42_FeatureAgrees 98 (bodyOf Try.f5) i s
theorem lok_law42_FeatureAgrees : okLoops (bodyOf Try.f5) = true := by kernel_rfl
noncomputable def F_law42_FeatureAgrees (ds : List D) : Option D := runF Try.prog c_law42_FeatureAgrees an_law42_FeatureAgrees 98 (bodyOf Try.f5) [.tmp 2] ds
theorem F_law42_FeatureAgrees_eq (ds : List D) : F_law42_FeatureAgrees ds = runG Try.prog c_law42_FeatureAgrees (H_law42_FeatureAgrees bigL) an_law42_FeatureAgrees 98 (bodyOf Try.f5) [.tmp 2] ds := runG_eq lok_law42_FeatureAgrees _ ds
theorem C_law42_FeatureAgrees (ds : List D) (r : D) (h : F_law42_FeatureAgrees ds = some r) : Contract Try.prog gl 5 ds r := contract_of mix Try.func5 rfl (by kernel_rfl) (by kernel_rfl) (by decide) (call := c_law42_FeatureAgrees) ⟨callOf_ok cl_law42_FeatureAgrees ⟨C_law42_awake, C_law42_short, C_law42_of, C_law42_valid, C_law42_get, C_sizing_Under, C_moist_Mean, C_moist_Gradient, C_moist_Checks, C_strength_Stiffness, trivial⟩, callOfE_ok ce_law42_FeatureAgrees trivial⟩ h
-- sawmill/sawmillref42.Same: loops [4]; state: params 0..1, then [4, 5]
attribute [simp] Try.f23
noncomputable def an_ref42_Same : Ann := ⟨[0, 1, 4, 5], [10, 14, 25], [], [(4, [0, 1, 5])], [(0, []), (1, [0, 1, 5])], some [4], [(6, 8)], [], [(22, 0, 59, 2)], []⟩
@[simp] theorem an_ref42_Same_draws : an_ref42_Same.draws = [(6, 8)] := rfl
@[simp] theorem an_ref42_Same_exits : an_ref42_Same.exits = [(0, []), (1, [0, 1, 5])] := rfl
@[simp] theorem an_ref42_Same_rets : an_ref42_Same.rets = some [4] := rfl
@[simp] theorem an_ref42_Same_keep : an_ref42_Same.keep = [0, 1, 4, 5] := rfl
@[simp] theorem an_ref42_Same_cond : an_ref42_Same.cond = [10, 14, 25] := rfl
@[simp] theorem an_ref42_Same_rows : an_ref42_Same.rows = [] := rfl
@[simp] theorem an_ref42_Same_loops : an_ref42_Same.loops = [(4, [0, 1, 5])] := rfl
@[simp] theorem an_ref42_Same_ecalls : an_ref42_Same.ecalls = [] := rfl
@[simp] theorem an_ref42_Same_crows : an_ref42_Same.crows = [(22, 0, 59, 2)] := rfl
@[simp] theorem an_ref42_Same_tails : an_ref42_Same.tails = [] := rfl
@[simp] noncomputable def cl_ref42_Same : List (Nat × (List D → Option D)) := []
@[simp] noncomputable def ce_ref42_Same : List (Nat × (List (Nat × O) → List D → Option (D × List (Nat × O)))) := []
noncomputable def c_ref42_Same : CT := ⟨callOf (cl_ref42_Same ), callOfE ce_ref42_Same, gl⟩
@[simp] theorem c_ref42_Same_p (f : FuncId) (ds : List D) : c_ref42_Same.p f ds = callOf (cl_ref42_Same ) f ds := Eq.trans rfl rfl
@[simp] theorem c_ref42_Same_e (f : FuncId) (hs : List (Nat × O)) (ds : List D) : c_ref42_Same.e f hs ds = callOfE ce_ref42_Same f hs ds := Eq.trans rfl rfl
@[simp] theorem c_ref42_Same_g (g : Nat) : c_ref42_Same.g g = gl g := Eq.trans rfl rfl
noncomputable def L_ref42_Same (i n : Nat) (s : St) : Option (E × St) := atN Try.prog c_ref42_Same an_ref42_Same 26 (bodyOf Try.f23) i n s
noncomputable def H_ref42_Same (n i : Nat) (s : St) : Option (E × St) := atH Try.prog c_ref42_Same an_ref42_Same 26 (bodyOf Try.f23) n i s
@[simp] theorem H_ref42_Same_eq (n i : Nat) (s : St) : H_ref42_Same n i s = L_ref42_Same i n (headOf (an_ref42_Same.loops.lookup i) s) := rfl
noncomputable def R_ref42_Same (i : Nat) (s : St) : Option (E × St) := stepL Try.prog c_ref42_Same an_ref42_Same 26 (bodyOf Try.f23) i s
theorem lok_ref42_Same : okLoops (bodyOf Try.f23) = true := by kernel_rfl
theorem L_ref42_Same_zero (i : Nat) (s : St) : L_ref42_Same i 0 s = none := rfl
theorem L_ref42_Same_succ (i n : Nat) (s : St) : L_ref42_Same i (n + 1) s = andThen (R_ref42_Same i s) (H_ref42_Same n i) := atN_succ lok_ref42_Same i n s
theorem R_ref42_Same_eq (i : Nat) (s : St) : R_ref42_Same i s = runS Try.prog c_ref42_Same (H_ref42_Same bigL) an_ref42_Same 26 (loopAt (bodyOf Try.f23) i) s := rfl
noncomputable def F_ref42_Same (ds : List D) : Option D := runF Try.prog c_ref42_Same an_ref42_Same 26 (bodyOf Try.f23) [.tmp 4] ds
theorem F_ref42_Same_eq (ds : List D) : F_ref42_Same ds = runG Try.prog c_ref42_Same (H_ref42_Same bigL) an_ref42_Same 26 (bodyOf Try.f23) [.tmp 4] ds := runG_eq lok_ref42_Same _ ds
theorem C_ref42_Same (ds : List D) (r : D) (h : F_ref42_Same ds = some r) : Contract Try.prog gl 23 ds r := contract_of mix Try.func23 rfl (by kernel_rfl) (by kernel_rfl) (by decide) (call := c_ref42_Same) ⟨callOf_ok cl_ref42_Same trivial, callOfE_ok ce_ref42_Same trivial⟩ h
-- sawmill/sawmilllaw42.FeatureOrder: loops [7]; state: params 0..1, then [2, 4, 5, 6, 7]
attribute [simp] Try.f6
noncomputable def an_law42_FeatureOrder : Ann := ⟨[1, 2, 4, 5, 6, 7], [23, 30], [35], [(7, [1, 2, 5, 6, 7])], [(0, [2, 6]), (1, [1, 2, 5, 6, 7])], some [4], [(9, 14), (10, 3)], [], [(22, 0, 59, 2), (42, 11, 46, 7)], []⟩
@[simp] theorem an_law42_FeatureOrder_draws : an_law42_FeatureOrder.draws = [(9, 14), (10, 3)] := rfl
@[simp] theorem an_law42_FeatureOrder_exits : an_law42_FeatureOrder.exits = [(0, [2, 6]), (1, [1, 2, 5, 6, 7])] := rfl
@[simp] theorem an_law42_FeatureOrder_rets : an_law42_FeatureOrder.rets = some [4] := rfl
@[simp] theorem an_law42_FeatureOrder_keep : an_law42_FeatureOrder.keep = [1, 2, 4, 5, 6, 7] := rfl
@[simp] theorem an_law42_FeatureOrder_cond : an_law42_FeatureOrder.cond = [23, 30] := rfl
@[simp] theorem an_law42_FeatureOrder_rows : an_law42_FeatureOrder.rows = [35] := rfl
@[simp] theorem an_law42_FeatureOrder_loops : an_law42_FeatureOrder.loops = [(7, [1, 2, 5, 6, 7])] := rfl
@[simp] theorem an_law42_FeatureOrder_ecalls : an_law42_FeatureOrder.ecalls = [] := rfl
@[simp] theorem an_law42_FeatureOrder_crows : an_law42_FeatureOrder.crows = [(22, 0, 59, 2), (42, 11, 46, 7)] := rfl
@[simp] theorem an_law42_FeatureOrder_tails : an_law42_FeatureOrder.tails = [] := rfl
@[simp] noncomputable def cl_law42_FeatureOrder : List (Nat × (List D → Option D)) := [(8, F_law42_awake), (13, F_law42_short), (14, F_law42_of), (23, F_ref42_Same)]
@[simp] noncomputable def ce_law42_FeatureOrder : List (Nat × (List (Nat × O) → List D → Option (D × List (Nat × O)))) := []
noncomputable def c_law42_FeatureOrder : CT := ⟨callOf (cl_law42_FeatureOrder ), callOfE ce_law42_FeatureOrder, gl⟩
@[simp] theorem c_law42_FeatureOrder_p (f : FuncId) (ds : List D) : c_law42_FeatureOrder.p f ds = callOf (cl_law42_FeatureOrder ) f ds := Eq.trans rfl rfl
@[simp] theorem c_law42_FeatureOrder_e (f : FuncId) (hs : List (Nat × O)) (ds : List D) : c_law42_FeatureOrder.e f hs ds = callOfE ce_law42_FeatureOrder f hs ds := Eq.trans rfl rfl
@[simp] theorem c_law42_FeatureOrder_g (g : Nat) : c_law42_FeatureOrder.g g = gl g := Eq.trans rfl rfl
noncomputable def L_law42_FeatureOrder (i n : Nat) (s : St) : Option (E × St) := atN Try.prog c_law42_FeatureOrder an_law42_FeatureOrder 58 (bodyOf Try.f6) i n s
noncomputable def H_law42_FeatureOrder (n i : Nat) (s : St) : Option (E × St) := atH Try.prog c_law42_FeatureOrder an_law42_FeatureOrder 58 (bodyOf Try.f6) n i s
@[simp] theorem H_law42_FeatureOrder_eq (n i : Nat) (s : St) : H_law42_FeatureOrder n i s = L_law42_FeatureOrder i n (headOf (an_law42_FeatureOrder.loops.lookup i) s) := rfl
noncomputable def R_law42_FeatureOrder (i : Nat) (s : St) : Option (E × St) := stepL Try.prog c_law42_FeatureOrder an_law42_FeatureOrder 58 (bodyOf Try.f6) i s
theorem lok_law42_FeatureOrder : okLoops (bodyOf Try.f6) = true := by kernel_rfl
theorem L_law42_FeatureOrder_zero (i : Nat) (s : St) : L_law42_FeatureOrder i 0 s = none := rfl
theorem L_law42_FeatureOrder_succ (i n : Nat) (s : St) : L_law42_FeatureOrder i (n + 1) s = andThen (R_law42_FeatureOrder i s) (H_law42_FeatureOrder n i) := atN_succ lok_law42_FeatureOrder i n s
theorem R_law42_FeatureOrder_eq (i : Nat) (s : St) : R_law42_FeatureOrder i s = runS Try.prog c_law42_FeatureOrder (H_law42_FeatureOrder bigL) an_law42_FeatureOrder 58 (loopAt (bodyOf Try.f6) i) s := rfl
noncomputable def F_law42_FeatureOrder (ds : List D) : Option D := runF Try.prog c_law42_FeatureOrder an_law42_FeatureOrder 58 (bodyOf Try.f6) [.tmp 4] ds
theorem F_law42_FeatureOrder_eq (ds : List D) : F_law42_FeatureOrder ds = runG Try.prog c_law42_FeatureOrder (H_law42_FeatureOrder bigL) an_law42_FeatureOrder 58 (bodyOf Try.f6) [.tmp 4] ds := runG_eq lok_law42_FeatureOrder _ ds
theorem C_law42_FeatureOrder (ds : List D) (r : D) (h : F_law42_FeatureOrder ds = some r) : Contract Try.prog gl 6 ds r := contract_of mix Try.func6 rfl (by kernel_rfl) (by kernel_rfl) (by decide) (call := c_law42_FeatureOrder) ⟨callOf_ok cl_law42_FeatureOrder ⟨C_law42_awake, C_law42_short, C_law42_of, C_ref42_Same, trivial⟩, callOfE_ok ce_law42_FeatureOrder trivial⟩ h
-- sawmill/sawmilllaw42.FeatureNamed: loops [9]; state: params 0..0, then [1, 2, 3, 4, 5, 6, 7]
attribute [simp] Try.f7
noncomputable def an_law42_FeatureNamed : Ann := ⟨[1, 2, 3, 4, 5, 6, 7], [10, 17, 28, 32, 66], [], [(9, [3, 4, 5])], [(0, []), (1, [3, 4, 5])], some [2], [(12, 21)], [], [(22, 0, 59, 2)], []⟩
@[simp] theorem an_law42_FeatureNamed_draws : an_law42_FeatureNamed.draws = [(12, 21)] := rfl
@[simp] theorem an_law42_FeatureNamed_exits : an_law42_FeatureNamed.exits = [(0, []), (1, [3, 4, 5])] := rfl
@[simp] theorem an_law42_FeatureNamed_rets : an_law42_FeatureNamed.rets = some [2] := rfl
@[simp] theorem an_law42_FeatureNamed_keep : an_law42_FeatureNamed.keep = [1, 2, 3, 4, 5, 6, 7] := rfl
@[simp] theorem an_law42_FeatureNamed_cond : an_law42_FeatureNamed.cond = [10, 17, 28, 32, 66] := rfl
@[simp] theorem an_law42_FeatureNamed_rows : an_law42_FeatureNamed.rows = [] := rfl
@[simp] theorem an_law42_FeatureNamed_loops : an_law42_FeatureNamed.loops = [(9, [3, 4, 5])] := rfl
@[simp] theorem an_law42_FeatureNamed_ecalls : an_law42_FeatureNamed.ecalls = [] := rfl
@[simp] theorem an_law42_FeatureNamed_crows : an_law42_FeatureNamed.crows = [(22, 0, 59, 2)] := rfl
@[simp] theorem an_law42_FeatureNamed_tails : an_law42_FeatureNamed.tails = [] := rfl
@[simp] noncomputable def cl_law42_FeatureNamed : List (Nat × (List D → Option D)) := [(8, F_law42_awake), (9, F_feature_Names), (11, F_feature_Get), (13, F_law42_short), (14, F_law42_of), (15, F_law42_valid)]
@[simp] noncomputable def ce_law42_FeatureNamed : List (Nat × (List (Nat × O) → List D → Option (D × List (Nat × O)))) := []
noncomputable def c_law42_FeatureNamed : CT := ⟨callOf (cl_law42_FeatureNamed ), callOfE ce_law42_FeatureNamed, gl⟩
@[simp] theorem c_law42_FeatureNamed_p (f : FuncId) (ds : List D) : c_law42_FeatureNamed.p f ds = callOf (cl_law42_FeatureNamed ) f ds := Eq.trans rfl rfl
@[simp] theorem c_law42_FeatureNamed_e (f : FuncId) (hs : List (Nat × O)) (ds : List D) : c_law42_FeatureNamed.e f hs ds = callOfE ce_law42_FeatureNamed f hs ds := Eq.trans rfl rfl
@[simp] theorem c_law42_FeatureNamed_g (g : Nat) : c_law42_FeatureNamed.g g = gl g := Eq.trans rfl rfl
noncomputable def L_law42_FeatureNamed (i n : Nat) (s : St) : Option (E × St) := atN Try.prog c_law42_FeatureNamed an_law42_FeatureNamed 68 (bodyOf Try.f7) i n s
noncomputable def H_law42_FeatureNamed (n i : Nat) (s : St) : Option (E × St) := atH Try.prog c_law42_FeatureNamed an_law42_FeatureNamed 68 (bodyOf Try.f7) n i s
@[simp] theorem H_law42_FeatureNamed_eq (n i : Nat) (s : St) : H_law42_FeatureNamed n i s = L_law42_FeatureNamed i n (headOf (an_law42_FeatureNamed.loops.lookup i) s) := rfl
noncomputable def R_law42_FeatureNamed (i : Nat) (s : St) : Option (E × St) := stepL Try.prog c_law42_FeatureNamed an_law42_FeatureNamed 68 (bodyOf Try.f7) i s
theorem lok_law42_FeatureNamed : okLoops (bodyOf Try.f7) = true := by kernel_rfl
theorem L_law42_FeatureNamed_zero (i : Nat) (s : St) : L_law42_FeatureNamed i 0 s = none := rfl
theorem L_law42_FeatureNamed_succ (i n : Nat) (s : St) : L_law42_FeatureNamed i (n + 1) s = andThen (R_law42_FeatureNamed i s) (H_law42_FeatureNamed n i) := atN_succ lok_law42_FeatureNamed i n s
theorem R_law42_FeatureNamed_eq (i : Nat) (s : St) : R_law42_FeatureNamed i s = runS Try.prog c_law42_FeatureNamed (H_law42_FeatureNamed bigL) an_law42_FeatureNamed 68 (loopAt (bodyOf Try.f7) i) s := rfl
noncomputable def F_law42_FeatureNamed (ds : List D) : Option D := runF Try.prog c_law42_FeatureNamed an_law42_FeatureNamed 68 (bodyOf Try.f7) [.tmp 2] ds
theorem F_law42_FeatureNamed_eq (ds : List D) : F_law42_FeatureNamed ds = runG Try.prog c_law42_FeatureNamed (H_law42_FeatureNamed bigL) an_law42_FeatureNamed 68 (bodyOf Try.f7) [.tmp 2] ds := runG_eq lok_law42_FeatureNamed _ ds
theorem C_law42_FeatureNamed (ds : List D) (r : D) (h : F_law42_FeatureNamed ds = some r) : Contract Try.prog gl 7 ds r := contract_of mix Try.func7 rfl (by kernel_rfl) (by kernel_rfl) (by decide) (call := c_law42_FeatureNamed) ⟨callOf_ok cl_law42_FeatureNamed ⟨C_law42_awake, C_feature_Names, C_feature_Get, C_law42_short, C_law42_of, C_law42_valid, trivial⟩, callOfE_ok ce_law42_FeatureNamed trivial⟩ h
end Go.Proofs.Ytjhlidaikegelaa

