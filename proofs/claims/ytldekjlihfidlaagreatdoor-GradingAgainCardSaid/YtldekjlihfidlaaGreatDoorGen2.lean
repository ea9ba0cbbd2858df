/-
  Printed by gen.py for this seat: more of the functions.
-/
import Derived.Test.YtldekjlihfidlaaGreatDoorGen1
import Derived.Test.YtldekjlihfidlaaGreatDoorWeak
namespace Go.Proofs.YtldekjlihfidlaaGreatDoor
open Go Go.Abs
set_option maxRecDepth 100000
set_option linter.unusedSimpArgs false
set_option linter.unusedVariables false
noncomputable section
attribute [simp] Tryz.f54
def z63a : Ann := ⟨[2, 3, 4], [12], [], [], [], some [4], [], [], [(64, 0, 92, 2)], []⟩
@[simp] theorem z63a_draws : z63a.draws = [] := rfl
@[simp] theorem z63a_exits : z63a.exits = [] := rfl
@[simp] theorem z63a_rets : z63a.rets = some [4] := rfl
@[simp] theorem z63a_keep : z63a.keep = [2, 3, 4] := rfl
@[simp] theorem z63a_cond : z63a.cond = [12] := rfl
@[simp] theorem z63a_rows : z63a.rows = [] := rfl
@[simp] theorem z63a_loops : z63a.loops = [] := rfl
@[simp] theorem z63a_ecalls : z63a.ecalls = [] := rfl
@[simp] theorem z63a_crows : z63a.crows = [(64, 0, 92, 2)] := rfl
@[simp] theorem z63a_tails : z63a.tails = [] := rfl
@[simp] def z63b : PL := [(106, F_moist_Check)]
def z63c : CT := ⟨callOf (z63b ), callOfE noE, gl⟩
@[simp] theorem z63c_p (f : FuncId) (ds : List D) : z63c.p f ds = callOf (z63b ) f ds := Eq.trans rfl rfl
@[simp] theorem z63c_e (f : FuncId) (hs : List (Nat × O)) (ds : List D) : z63c.e f hs ds = callOfE noE f hs ds := Eq.trans rfl rfl
@[simp] theorem z63c_g (g : Nat) : z63c.g g = gl g := Eq.trans rfl rfl
def L_moist_Checks (i n : Nat) (s : St) : OS := atN Tryz.prog z63c z63a 18 (bodyOf Tryz.f54) i n s
def z63h (n i : Nat) (s : St) : OS := atH Tryz.prog z63c z63a 18 (bodyOf Tryz.f54) n i s
@[simp] theorem z63h_eq (n i : Nat) (s : St) : z63h n i s = L_moist_Checks i n (headOf (z63a.loops.lookup i) s) := rfl
def R_moist_Checks (i : Nat) (s : St) : OS := stepL Tryz.prog z63c z63a 18 (bodyOf Tryz.f54) i s
theorem z63k : okLoops (bodyOf Tryz.f54) = true := by kernel_rfl
def F_moist_Checks (ds : List D) : Option D := runF Tryz.prog z63c z63a 18 (bodyOf Tryz.f54) [.tmp 4] ds
theorem F_moist_Checks_eq (ds : List D) : F_moist_Checks ds = runG Tryz.prog z63c (z63h bigL) z63a 18 (bodyOf Tryz.f54) [.tmp 4] ds := runG_eq z63k _ ds
theorem C_moist_Checks (ds : List D) (r : D) (h : F_moist_Checks ds = some r) : Contract Tryz.prog gl 54 ds r := contract_of mix Tryz.func54 rfl (by kernel_rfl) (by kernel_rfl) (by decide) (call := z63c) ⟨callOf_ok z63b ⟨C_moist_Check, trivial⟩, callOfE_ok noE trivial⟩ h
attribute [simp] Tryz.f55
def z64a : Ann := ⟨[1, 2], [5], [], [], [], some [2], [], [], [(64, 0, 92, 2)], []⟩
@[simp] theorem z64a_draws : z64a.draws = [] := rfl
@[simp] theorem z64a_exits : z64a.exits = [] := rfl
@[simp] theorem z64a_rets : z64a.rets = some [2] := rfl
@[simp] theorem z64a_keep : z64a.keep = [1, 2] := rfl
@[simp] theorem z64a_cond : z64a.cond = [5] := rfl
@[simp] theorem z64a_rows : z64a.rows = [] := rfl
@[simp] theorem z64a_loops : z64a.loops = [] := rfl
@[simp] theorem z64a_ecalls : z64a.ecalls = [] := rfl
@[simp] theorem z64a_crows : z64a.crows = [(64, 0, 92, 2)] := rfl
@[simp] theorem z64a_tails : z64a.tails = [] := rfl
@[simp] def z64b : PL := [(106, F_moist_Check)]
def z64c : CT := ⟨callOf (z64b ), callOfE noE, gl⟩
@[simp] theorem z64c_p (f : FuncId) (ds : List D) : z64c.p f ds = callOf (z64b ) f ds := Eq.trans rfl rfl
@[simp] theorem z64c_e (f : FuncId) (hs : List (Nat × O)) (ds : List D) : z64c.e f hs ds = callOfE noE f hs ds := Eq.trans rfl rfl
@[simp] theorem z64c_g (g : Nat) : z64c.g g = gl g := Eq.trans rfl rfl
def L_moist_Mean (i n : Nat) (s : St) : OS := atN Tryz.prog z64c z64a 13 (bodyOf Tryz.f55) i n s
def z64h (n i : Nat) (s : St) : OS := atH Tryz.prog z64c z64a 13 (bodyOf Tryz.f55) n i s
@[simp] theorem z64h_eq (n i : Nat) (s : St) : z64h n i s = L_moist_Mean i n (headOf (z64a.loops.lookup i) s) := rfl
def R_moist_Mean (i : Nat) (s : St) : OS := stepL Tryz.prog z64c z64a 13 (bodyOf Tryz.f55) i s
theorem z64k : okLoops (bodyOf Tryz.f55) = true := by kernel_rfl
def F_moist_Mean (ds : List D) : Option D := runF Tryz.prog z64c z64a 13 (bodyOf Tryz.f55) [.tmp 2] ds
theorem F_moist_Mean_eq (ds : List D) : F_moist_Mean ds = runG Tryz.prog z64c (z64h bigL) z64a 13 (bodyOf Tryz.f55) [.tmp 2] ds := runG_eq z64k _ ds
theorem C_moist_Mean (ds : List D) (r : D) (h : F_moist_Mean ds = some r) : Contract Tryz.prog gl 55 ds r := contract_of mix Tryz.func55 rfl (by kernel_rfl) (by kernel_rfl) (by decide) (call := z64c) ⟨callOf_ok z64b ⟨C_moist_Check, trivial⟩, callOfE_ok noE trivial⟩ h
attribute [simp] Tryz.f56
def z65a : Ann := ⟨[1, 2], [5], [], [], [], some [2], [], [], [(64, 0, 92, 2)], []⟩
@[simp] theorem z65a_draws : z65a.draws = [] := rfl
@[simp] theorem z65a_exits : z65a.exits = [] := rfl
@[simp] theorem z65a_rets : z65a.rets = some [2] := rfl
@[simp] theorem z65a_keep : z65a.keep = [1, 2] := rfl
@[simp] theorem z65a_cond : z65a.cond = [5] := rfl
@[simp] theorem z65a_rows : z65a.rows = [] := rfl
@[simp] theorem z65a_loops : z65a.loops = [] := rfl
@[simp] theorem z65a_ecalls : z65a.ecalls = [] := rfl
@[simp] theorem z65a_crows : z65a.crows = [(64, 0, 92, 2)] := rfl
@[simp] theorem z65a_tails : z65a.tails = [] := rfl
@[simp] def z65b : PL := [(106, F_moist_Check)]
def z65c : CT := ⟨callOf (z65b ), callOfE noE, gl⟩
@[simp] theorem z65c_p (f : FuncId) (ds : List D) : z65c.p f ds = callOf (z65b ) f ds := Eq.trans rfl rfl
@[simp] theorem z65c_e (f : FuncId) (hs : List (Nat × O)) (ds : List D) : z65c.e f hs ds = callOfE noE f hs ds := Eq.trans rfl rfl
@[simp] theorem z65c_g (g : Nat) : z65c.g g = gl g := Eq.trans rfl rfl
def L_moist_Gradient (i n : Nat) (s : St) : OS := atN Tryz.prog z65c z65a 11 (bodyOf Tryz.f56) i n s
def z65h (n i : Nat) (s : St) : OS := atH Tryz.prog z65c z65a 11 (bodyOf Tryz.f56) n i s
@[simp] theorem z65h_eq (n i : Nat) (s : St) : z65h n i s = L_moist_Gradient i n (headOf (z65a.loops.lookup i) s) := rfl
def R_moist_Gradient (i : Nat) (s : St) : OS := stepL Tryz.prog z65c z65a 11 (bodyOf Tryz.f56) i s
theorem z65k : okLoops (bodyOf Tryz.f56) = true := by kernel_rfl
def F_moist_Gradient (ds : List D) : Option D := runF Tryz.prog z65c z65a 11 (bodyOf Tryz.f56) [.tmp 2] ds
theorem F_moist_Gradient_eq (ds : List D) : F_moist_Gradient ds = runG Tryz.prog z65c (z65h bigL) z65a 11 (bodyOf Tryz.f56) [.tmp 2] ds := runG_eq z65k _ ds
theorem C_moist_Gradient (ds : List D) (r : D) (h : F_moist_Gradient ds = some r) : Contract Tryz.prog gl 56 ds r := contract_of mix Tryz.func56 rfl (by kernel_rfl) (by kernel_rfl) (by decide) (call := z65c) ⟨callOf_ok z65b ⟨C_moist_Check, trivial⟩, callOfE_ok noE trivial⟩ h
attribute [simp] Tryz.f159
def z66a : Ann := ⟨[1, 2], [], [], [], [], some [2], [], [], [(64, 0, 92, 2)], []⟩
@[simp] theorem z66a_draws : z66a.draws = [] := rfl
@[simp] theorem z66a_exits : z66a.exits = [] := rfl
@[simp] theorem z66a_rets : z66a.rets = some [2] := rfl
@[simp] theorem z66a_keep : z66a.keep = [1, 2] := rfl
@[simp] theorem z66a_cond : z66a.cond = [] := rfl
@[simp] theorem z66a_rows : z66a.rows = [] := rfl
@[simp] theorem z66a_loops : z66a.loops = [] := rfl
@[simp] theorem z66a_ecalls : z66a.ecalls = [] := rfl
@[simp] theorem z66a_crows : z66a.crows = [(64, 0, 92, 2)] := rfl
@[simp] theorem z66a_tails : z66a.tails = [] := rfl
@[simp] def z66b : PL := []
def z66c : CT := ⟨callOf (z66b ), callOfE noE, gl⟩
@[simp] theorem z66c_p (f : FuncId) (ds : List D) : z66c.p f ds = callOf (z66b ) f ds := Eq.trans rfl rfl
@[simp] theorem z66c_e (f : FuncId) (hs : List (Nat × O)) (ds : List D) : z66c.e f hs ds = callOfE noE f hs ds := Eq.trans rfl rfl
@[simp] theorem z66c_g (g : Nat) : z66c.g g = gl g := Eq.trans rfl rfl
def L_sizing_across (i n : Nat) (s : St) : OS := atN Tryz.prog z66c z66a 18 (bodyOf Tryz.f159) i n s
def z66h (n i : Nat) (s : St) : OS := atH Tryz.prog z66c z66a 18 (bodyOf Tryz.f159) n i s
@[simp] theorem z66h_eq (n i : Nat) (s : St) : z66h n i s = L_sizing_across i n (headOf (z66a.loops.lookup i) s) := rfl
def R_sizing_across (i : Nat) (s : St) : OS := stepL Tryz.prog z66c z66a 18 (bodyOf Tryz.f159) i s
theorem z66k : okLoops (bodyOf Tryz.f159) = true := by kernel_rfl
def F_sizing_across (ds : List D) : Option D := runF Tryz.prog z66c z66a 18 (bodyOf Tryz.f159) [.tmp 2] ds
theorem F_sizing_across_eq (ds : List D) : F_sizing_across ds = runG Tryz.prog z66c (z66h bigL) z66a 18 (bodyOf Tryz.f159) [.tmp 2] ds := runG_eq z66k _ ds
theorem C_sizing_across (ds : List D) (r : D) (h : F_sizing_across ds = some r) : Contract Tryz.prog gl 159 ds r := contract_of mix Tryz.func159 rfl (by kernel_rfl) (by kernel_rfl) (by decide) (call := z66c) ⟨callOf_ok z66b trivial, callOfE_ok noE trivial⟩ h
attribute [simp] Tryz.f200
def z67a : Ann := ⟨[0, 1, 2, 6], [7, 17], [], [], [(0, [0])], some [6], [], [], [(64, 0, 92, 2)], []⟩
@[simp] theorem z67a_draws : z67a.draws = [] := rfl
@[simp] theorem z67a_exits : z67a.exits = [(0, [0])] := rfl
@[simp] theorem z67a_rets : z67a.rets = some [6] := rfl
@[simp] theorem z67a_keep : z67a.keep = [0, 1, 2, 6] := rfl
@[simp] theorem z67a_cond : z67a.cond = [7, 17] := rfl
@[simp] theorem z67a_rows : z67a.rows = [] := rfl
@[simp] theorem z67a_loops : z67a.loops = [] := rfl
@[simp] theorem z67a_ecalls : z67a.ecalls = [] := rfl
@[simp] theorem z67a_crows : z67a.crows = [(64, 0, 92, 2)] := rfl
@[simp] theorem z67a_tails : z67a.tails = [] := rfl
@[simp] def z67b : PL := []
def z67c : CT := ⟨callOf (z67b ), callOfE noE, gl⟩
@[simp] theorem z67c_p (f : FuncId) (ds : List D) : z67c.p f ds = callOf (z67b ) f ds := Eq.trans rfl rfl
@[simp] theorem z67c_e (f : FuncId) (hs : List (Nat × O)) (ds : List D) : z67c.e f hs ds = callOfE noE f hs ds := Eq.trans rfl rfl
@[simp] theorem z67c_g (g : Nat) : z67c.g g = gl g := Eq.trans rfl rfl
def L_units_Clamp (i n : Nat) (s : St) : OS := atN Tryz.prog z67c z67a 23 (bodyOf Tryz.f200) i n s
def z67h (n i : Nat) (s : St) : OS := atH Tryz.prog z67c z67a 23 (bodyOf Tryz.f200) n i s
@[simp] theorem z67h_eq (n i : Nat) (s : St) : z67h n i s = L_units_Clamp i n (headOf (z67a.loops.lookup i) s) := rfl
def R_units_Clamp (i : Nat) (s : St) : OS := stepL Tryz.prog z67c z67a 23 (bodyOf Tryz.f200) i s
theorem z67k : okLoops (bodyOf Tryz.f200) = true := by kernel_rfl
def F_units_Clamp (ds : List D) : Option D := runF Tryz.prog z67c z67a 23 (bodyOf Tryz.f200) [.tmp 6] ds
theorem F_units_Clamp_eq (ds : List D) : F_units_Clamp ds = runG Tryz.prog z67c (z67h bigL) z67a 23 (bodyOf Tryz.f200) [.tmp 6] ds := runG_eq z67k _ ds
theorem C_units_Clamp (ds : List D) (r : D) (h : F_units_Clamp ds = some r) : Contract Tryz.prog gl 200 ds r := contract_of mix Tryz.func200 rfl (by kernel_rfl) (by kernel_rfl) (by decide) (call := z67c) ⟨callOf_ok z67b trivial, callOfE_ok noE trivial⟩ h
attribute [simp] Tryz.f160
def z68a : Ann := ⟨[1, 3, 6, 7], [23], [], [], [], some [6], [], [], [(64, 0, 92, 2)], []⟩
@[simp] theorem z68a_draws : z68a.draws = [] := rfl
@[simp] theorem z68a_exits : z68a.exits = [] := rfl
@[simp] theorem z68a_rets : z68a.rets = some [6] := rfl
@[simp] theorem z68a_keep : z68a.keep = [1, 3, 6, 7] := rfl
@[simp] theorem z68a_cond : z68a.cond = [23] := rfl
@[simp] theorem z68a_rows : z68a.rows = [] := rfl
@[simp] theorem z68a_loops : z68a.loops = [] := rfl
@[simp] theorem z68a_ecalls : z68a.ecalls = [] := rfl
@[simp] theorem z68a_crows : z68a.crows = [(64, 0, 92, 2)] := rfl
@[simp] theorem z68a_tails : z68a.tails = [] := rfl
@[simp] def z68b : PL := [(200, F_units_Clamp)]
def z68c : CT := ⟨callOf (z68b ), callOfE noE, gl⟩
@[simp] theorem z68c_p (f : FuncId) (ds : List D) : z68c.p f ds = callOf (z68b ) f ds := Eq.trans rfl rfl
@[simp] theorem z68c_e (f : FuncId) (hs : List (Nat × O)) (ds : List D) : z68c.e f hs ds = callOfE noE f hs ds := Eq.trans rfl rfl
@[simp] theorem z68c_g (g : Nat) : z68c.g g = gl g := Eq.trans rfl rfl
def L_wood_Shrunk (i n : Nat) (s : St) : OS := atN Tryz.prog z68c z68a 37 (bodyOf Tryz.f160) i n s
def z68h (n i : Nat) (s : St) : OS := atH Tryz.prog z68c z68a 37 (bodyOf Tryz.f160) n i s
@[simp] theorem z68h_eq (n i : Nat) (s : St) : z68h n i s = L_wood_Shrunk i n (headOf (z68a.loops.lookup i) s) := rfl
def R_wood_Shrunk (i : Nat) (s : St) : OS := stepL Tryz.prog z68c z68a 37 (bodyOf Tryz.f160) i s
theorem z68k : okLoops (bodyOf Tryz.f160) = true := by kernel_rfl
def F_wood_Shrunk (ds : List D) : Option D := runF Tryz.prog z68c z68a 37 (bodyOf Tryz.f160) [.tmp 6] ds
theorem F_wood_Shrunk_eq (ds : List D) : F_wood_Shrunk ds = runG Tryz.prog z68c (z68h bigL) z68a 37 (bodyOf Tryz.f160) [.tmp 6] ds := runG_eq z68k _ ds
theorem C_wood_Shrunk (ds : List D) (r : D) (h : F_wood_Shrunk ds = some r) : Contract Tryz.prog gl 160 ds r := contract_of mix Tryz.func160 rfl (by kernel_rfl) (by kernel_rfl) (by decide) (call := z68c) ⟨callOf_ok z68b ⟨C_units_Clamp, trivial⟩, callOfE_ok noE trivial⟩ h
attribute [simp] Tryz.f107
def z69a : Ann := ⟨[2, 3, 4, 5, 6, 7, 8], [20], [], [], [], some [4, 5], [(3, 19), (5, 11)], [], [(64, 0, 92, 2)], []⟩
@[simp] theorem z69a_draws : z69a.draws = [(3, 19), (5, 11)] := rfl
@[simp] theorem z69a_exits : z69a.exits = [] := rfl
@[simp] theorem z69a_rets : z69a.rets = some [4, 5] := rfl
@[simp] theorem z69a_keep : z69a.keep = [2, 3, 4, 5, 6, 7, 8] := rfl
@[simp] theorem z69a_cond : z69a.cond = [20] := rfl
@[simp] theorem z69a_rows : z69a.rows = [] := rfl
@[simp] theorem z69a_loops : z69a.loops = [] := rfl
@[simp] theorem z69a_ecalls : z69a.ecalls = [] := rfl
@[simp] theorem z69a_crows : z69a.crows = [(64, 0, 92, 2)] := rfl
@[simp] theorem z69a_tails : z69a.tails = [] := rfl
@[simp] def z69b : PL := [(55, F_moist_Mean), (159, F_sizing_across), (160, F_wood_Shrunk)]
def z69c : CT := ⟨callOf (z69b ), callOfE noE, gl⟩
@[simp] theorem z69c_p (f : FuncId) (ds : List D) : z69c.p f ds = callOf (z69b ) f ds := Eq.trans rfl rfl
@[simp] theorem z69c_e (f : FuncId) (hs : List (Nat × O)) (ds : List D) : z69c.e f hs ds = callOfE noE f hs ds := Eq.trans rfl rfl
@[simp] theorem z69c_g (g : Nat) : z69c.g g = gl g := Eq.trans rfl rfl
def L_sizing_Dried (i n : Nat) (s : St) : OS := atN Tryz.prog z69c z69a 54 (bodyOf Tryz.f107) i n s
def z69h (n i : Nat) (s : St) : OS := atH Tryz.prog z69c z69a 54 (bodyOf Tryz.f107) n i s
@[simp] theorem z69h_eq (n i : Nat) (s : St) : z69h n i s = L_sizing_Dried i n (headOf (z69a.loops.lookup i) s) := rfl
def R_sizing_Dried (i : Nat) (s : St) : OS := stepL Tryz.prog z69c z69a 54 (bodyOf Tryz.f107) i s
theorem z69k : okLoops (bodyOf Tryz.f107) = true := by kernel_rfl
def F_sizing_Dried (ds : List D) : Option D := runF Tryz.prog z69c z69a 54 (bodyOf Tryz.f107) [.tmp 4, .tmp 5] ds
theorem F_sizing_Dried_eq (ds : List D) : F_sizing_Dried ds = runG Tryz.prog z69c (z69h bigL) z69a 54 (bodyOf Tryz.f107) [.tmp 4, .tmp 5] ds := runG_eq z69k _ ds
theorem C_sizing_Dried (ds : List D) (r : D) (h : F_sizing_Dried ds = some r) : Contract Tryz.prog gl 107 ds r := contract_of mix Tryz.func107 rfl (by kernel_rfl) (by kernel_rfl) (by decide) (call := z69c) ⟨callOf_ok z69b ⟨C_moist_Mean, C_sizing_across, C_wood_Shrunk, trivial⟩, callOfE_ok noE trivial⟩ h
attribute [simp] Tryz.f57
def z70a : Ann := ⟨[3, 4, 5, 6, 7, 8], [], [], [], [], some [6], [], [], [(64, 0, 92, 2)], []⟩
@[simp] theorem z70a_draws : z70a.draws = [] := rfl
@[simp] theorem z70a_exits : z70a.exits = [] := rfl
@[simp] theorem z70a_rets : z70a.rets = some [6] := rfl
@[simp] theorem z70a_keep : z70a.keep = [3, 4, 5, 6, 7, 8] := rfl
@[simp] theorem z70a_cond : z70a.cond = [] := rfl
@[simp] theorem z70a_rows : z70a.rows = [] := rfl
@[simp] theorem z70a_loops : z70a.loops = [] := rfl
@[simp] theorem z70a_ecalls : z70a.ecalls = [] := rfl
@[simp] theorem z70a_crows : z70a.crows = [(64, 0, 92, 2)] := rfl
@[simp] theorem z70a_tails : z70a.tails = [] := rfl
@[simp] def z70b : PL := [(107, F_sizing_Dried)]
def z70c : CT := ⟨callOf (z70b ), callOfE noE, gl⟩
@[simp] theorem z70c_p (f : FuncId) (ds : List D) : z70c.p f ds = callOf (z70b ) f ds := Eq.trans rfl rfl
@[simp] theorem z70c_e (f : FuncId) (hs : List (Nat × O)) (ds : List D) : z70c.e f hs ds = callOfE noE f hs ds := Eq.trans rfl rfl
@[simp] theorem z70c_g (g : Nat) : z70c.g g = gl g := Eq.trans rfl rfl
def L_sizing_Under (i n : Nat) (s : St) : OS := atN Tryz.prog z70c z70a 25 (bodyOf Tryz.f57) i n s
def z70h (n i : Nat) (s : St) : OS := atH Tryz.prog z70c z70a 25 (bodyOf Tryz.f57) n i s
@[simp] theorem z70h_eq (n i : Nat) (s : St) : z70h n i s = L_sizing_Under i n (headOf (z70a.loops.lookup i) s) := rfl
def R_sizing_Under (i : Nat) (s : St) : OS := stepL Tryz.prog z70c z70a 25 (bodyOf Tryz.f57) i s
theorem z70k : okLoops (bodyOf Tryz.f57) = true := by kernel_rfl
def F_sizing_Under (ds : List D) : Option D := runF Tryz.prog z70c z70a 25 (bodyOf Tryz.f57) [.tmp 6] ds
theorem F_sizing_Under_eq (ds : List D) : F_sizing_Under ds = runG Tryz.prog z70c (z70h bigL) z70a 25 (bodyOf Tryz.f57) [.tmp 6] ds := runG_eq z70k _ ds
theorem C_sizing_Under (ds : List D) (r : D) (h : F_sizing_Under ds = some r) : Contract Tryz.prog gl 57 ds r := contract_of mix Tryz.func57 rfl (by kernel_rfl) (by kernel_rfl) (by decide) (call := z70c) ⟨callOf_ok z70b ⟨C_sizing_Dried, trivial⟩, callOfE_ok noE trivial⟩ h
attribute [simp] Tryz.f108
def z71a : Ann := ⟨[1, 2, 3], [14], [], [], [], some [2], [(1, 7)], [], [(64, 0, 92, 2)], []⟩
@[simp] theorem z71a_draws : z71a.draws = [(1, 7)] := rfl
@[simp] theorem z71a_exits : z71a.exits = [] := rfl
@[simp] theorem z71a_rets : z71a.rets = some [2] := rfl
@[simp] theorem z71a_keep : z71a.keep = [1, 2, 3] := rfl
@[simp] theorem z71a_cond : z71a.cond = [14] := rfl
@[simp] theorem z71a_rows : z71a.rows = [] := rfl
@[simp] theorem z71a_loops : z71a.loops = [] := rfl
@[simp] theorem z71a_ecalls : z71a.ecalls = [] := rfl
@[simp] theorem z71a_crows : z71a.crows = [(64, 0, 92, 2)] := rfl
@[simp] theorem z71a_tails : z71a.tails = [] := rfl
@[simp] def z71b : PL := [(53, F_defect_Worst), (158, F_span_Len)]
def z71c : CT := ⟨callOf (z71b ), callOfE noE, gl⟩
@[simp] theorem z71c_p (f : FuncId) (ds : List D) : z71c.p f ds = callOf (z71b ) f ds := Eq.trans rfl rfl
@[simp] theorem z71c_e (f : FuncId) (hs : List (Nat × O)) (ds : List D) : z71c.e f hs ds = callOfE noE f hs ds := Eq.trans rfl rfl
@[simp] theorem z71c_g (g : Nat) : z71c.g g = gl g := Eq.trans rfl rfl
def L_strength_Knots (i n : Nat) (s : St) : OS := atN Tryz.prog z71c z71a 22 (bodyOf Tryz.f108) i n s
def z71h (n i : Nat) (s : St) : OS := atH Tryz.prog z71c z71a 22 (bodyOf Tryz.f108) n i s
@[simp] theorem z71h_eq (n i : Nat) (s : St) : z71h n i s = L_strength_Knots i n (headOf (z71a.loops.lookup i) s) := rfl
def R_strength_Knots (i : Nat) (s : St) : OS := stepL Tryz.prog z71c z71a 22 (bodyOf Tryz.f108) i s
theorem z71k : okLoops (bodyOf Tryz.f108) = true := by kernel_rfl
def F_strength_Knots (ds : List D) : Option D := runF Tryz.prog z71c z71a 22 (bodyOf Tryz.f108) [.tmp 2] ds
theorem F_strength_Knots_eq (ds : List D) : F_strength_Knots ds = runG Tryz.prog z71c (z71h bigL) z71a 22 (bodyOf Tryz.f108) [.tmp 2] ds := runG_eq z71k _ ds
theorem C_strength_Knots (ds : List D) (r : D) (h : F_strength_Knots ds = some r) : Contract Tryz.prog gl 108 ds r := contract_of mix Tryz.func108 rfl (by kernel_rfl) (by kernel_rfl) (by decide) (call := z71c) ⟨callOf_ok z71b ⟨C_defect_Worst, C_span_Len, trivial⟩, callOfE_ok noE trivial⟩ h
attribute [simp] Tryz.f58
def z72a : Ann := ⟨[2, 3, 4, 5, 6, 7], [], [], [], [], some [4], [(1, 4)], [], [(64, 0, 92, 2)], []⟩
@[simp] theorem z72a_draws : z72a.draws = [(1, 4)] := rfl
@[simp] theorem z72a_exits : z72a.exits = [] := rfl
@[simp] theorem z72a_rets : z72a.rets = some [4] := rfl
@[simp] theorem z72a_keep : z72a.keep = [2, 3, 4, 5, 6, 7] := rfl
@[simp] theorem z72a_cond : z72a.cond = [] := rfl
@[simp] theorem z72a_rows : z72a.rows = [] := rfl
@[simp] theorem z72a_loops : z72a.loops = [] := rfl
@[simp] theorem z72a_ecalls : z72a.ecalls = [] := rfl
@[simp] theorem z72a_crows : z72a.crows = [(64, 0, 92, 2)] := rfl
@[simp] theorem z72a_tails : z72a.tails = [] := rfl
@[simp] def z72b : PL := [(55, F_moist_Mean), (108, F_strength_Knots)]
def z72c : CT := ⟨callOf (z72b ), callOfE noE, gl⟩
@[simp] theorem z72c_p (f : FuncId) (ds : List D) : z72c.p f ds = callOf (z72b ) f ds := Eq.trans rfl rfl
@[simp] theorem z72c_e (f : FuncId) (hs : List (Nat × O)) (ds : List D) : z72c.e f hs ds = callOfE noE f hs ds := Eq.trans rfl rfl
@[simp] theorem z72c_g (g : Nat) : z72c.g g = gl g := Eq.trans rfl rfl
def L_strength_Stiffness (i n : Nat) (s : St) : OS := atN Tryz.prog z72c z72a 31 (bodyOf Tryz.f58) i n s
def z72h (n i : Nat) (s : St) : OS := atH Tryz.prog z72c z72a 31 (bodyOf Tryz.f58) n i s
@[simp] theorem z72h_eq (n i : Nat) (s : St) : z72h n i s = L_strength_Stiffness i n (headOf (z72a.loops.lookup i) s) := rfl
def R_strength_Stiffness (i : Nat) (s : St) : OS := stepL Tryz.prog z72c z72a 31 (bodyOf Tryz.f58) i s
theorem z72k : okLoops (bodyOf Tryz.f58) = true := by kernel_rfl
def F_strength_Stiffness (ds : List D) : Option D := runF Tryz.prog z72c z72a 31 (bodyOf Tryz.f58) [.tmp 4] ds
theorem F_strength_Stiffness_eq (ds : List D) : F_strength_Stiffness ds = runG Tryz.prog z72c (z72h bigL) z72a 31 (bodyOf Tryz.f58) [.tmp 4] ds := runG_eq z72k _ ds
theorem C_strength_Stiffness (ds : List D) (r : D) (h : F_strength_Stiffness ds = some r) : Contract Tryz.prog gl 58 ds r := contract_of mix Tryz.func58 rfl (by kernel_rfl) (by kernel_rfl) (by decide) (call := z72c) ⟨callOf_ok z72b ⟨C_moist_Mean, C_strength_Knots, trivial⟩, callOfE_ok noE trivial⟩ h
attribute [simp] Tryz.f22
def z73a : Ann := ⟨[1, 3, 5, 6, 7, 8, 9, 10, 12, 42, 43, 44], [22, 45, 93], [], [(11, [3, 5, 7, 9, 10, 42, 43, 44])], [(0, [3, 5, 7, 9, 10]), (1, [3, 5, 7, 9, 10, 42, 43, 44])], some [6], [], [(49, false)], [(64, 0, 92, 2)], []⟩
@[simp] theorem z73a_draws : z73a.draws = [] := rfl
@[simp] theorem z73a_exits : z73a.exits = [(0, [3, 5, 7, 9, 10]), (1, [3, 5, 7, 9, 10, 42, 43, 44])] := rfl
@[simp] theorem z73a_rets : z73a.rets = some [6] := rfl
@[simp] theorem z73a_keep : z73a.keep = [1, 3, 5, 6, 7, 8, 9, 10, 12, 42, 43, 44] := rfl
@[simp] theorem z73a_cond : z73a.cond = [22, 45, 93] := rfl
@[simp] theorem z73a_rows : z73a.rows = [] := rfl
@[simp] theorem z73a_loops : z73a.loops = [(11, [3, 5, 7, 9, 10, 42, 43, 44])] := rfl
@[simp] theorem z73a_ecalls : z73a.ecalls = [(49, false)] := rfl
@[simp] theorem z73a_crows : z73a.crows = [(64, 0, 92, 2)] := rfl
@[simp] theorem z73a_tails : z73a.tails = [] := rfl
@[simp] def z73b : PL := [(45, F_board_Check), (46, F_wood_Check), (48, F_feature_Names), (50, F_board_Length), (51, F_defect_Count), (52, F_defect_Largest), (53, F_defect_Worst), (54, F_moist_Checks), (55, F_moist_Mean), (56, F_moist_Gradient), (57, F_sizing_Under), (58, F_strength_Stiffness)]
@[simp] def z73d : EL := [(49, E_feature_Of_1)]
def z73c : CT := ⟨callOf (z73b ), callOfE z73d, gl⟩
@[simp] theorem z73c_p (f : FuncId) (ds : List D) : z73c.p f ds = callOf (z73b ) f ds := Eq.trans rfl rfl
@[simp] theorem z73c_e (f : FuncId) (hs : List (Nat × O)) (ds : List D) : z73c.e f hs ds = callOfE z73d f hs ds := Eq.trans rfl rfl
@[simp] theorem z73c_g (g : Nat) : z73c.g g = gl g := Eq.trans rfl rfl
def L_feature_Of (i n : Nat) (s : St) : OS := atN Tryz.prog z73c z73a 104 (bodyOf Tryz.f22) i n s
def z73h (n i : Nat) (s : St) : OS := atH Tryz.prog z73c z73a 104 (bodyOf Tryz.f22) n i s
@[simp] theorem z73h_eq (n i : Nat) (s : St) : z73h n i s = L_feature_Of i n (headOf (z73a.loops.lookup i) s) := rfl
def R_feature_Of (i : Nat) (s : St) : OS := stepL Tryz.prog z73c z73a 104 (bodyOf Tryz.f22) i s
theorem z73k : okLoops (bodyOf Tryz.f22) = true := by kernel_rfl
theorem L_feature_Of_zero (i : Nat) (s : St) : L_feature_Of i 0 s = none := rfl
theorem L_feature_Of_succ (i n : Nat) (s : St) : L_feature_Of i (n + 1) s = andThen (R_feature_Of i s) (z73h n i) := atN_succ z73k i n s
theorem R_feature_Of_eq (i : Nat) (s : St) : R_feature_Of i s = runS Tryz.prog z73c (z73h bigL) z73a 104 (loopAt (bodyOf Tryz.f22) i) s := rfl
def F_feature_Of (ds : List D) : Option D := runF Tryz.prog z73c z73a 104 (bodyOf Tryz.f22) [.tmp 6] ds
theorem F_feature_Of_eq (ds : List D) : F_feature_Of ds = runG Tryz.prog z73c (z73h bigL) z73a 104 (bodyOf Tryz.f22) [.tmp 6] ds := runG_eq z73k _ ds
theorem C_feature_Of (ds : List D) (r : D) (h : F_feature_Of ds = some r) : Contract Tryz.prog gl 22 ds r := contract_of mix Tryz.func22 rfl (by kernel_rfl) (by kernel_rfl) (by decide) (call := z73c) ⟨callOf_ok z73b ⟨C_board_Check, C_wood_Check, C_feature_Names, C_board_Length, C_defect_Count, C_defect_Largest, C_defect_Worst, C_moist_Checks, C_moist_Mean, C_moist_Gradient, C_sizing_Under, C_strength_Stiffness, trivial⟩, callOfE_ok z73d ⟨CE_feature_Of_1, trivial⟩⟩ h
attribute [simp] Tryz.f59
def z74a : Ann := ⟨[2, 3, 5, 6, 7, 8], [9], [3], [(3, [3, 6, 7, 8])], [(0, [3]), (1, [3, 6, 7, 8])], some [2], [], [], [(64, 0, 92, 2)], []⟩
@[simp] theorem z74a_draws : z74a.draws = [] := rfl
@[simp] theorem z74a_exits : z74a.exits = [(0, [3]), (1, [3, 6, 7, 8])] := rfl
@[simp] theorem z74a_rets : z74a.rets = some [2] := rfl
@[simp] theorem z74a_keep : z74a.keep = [2, 3, 5, 6, 7, 8] := rfl
@[simp] theorem z74a_cond : z74a.cond = [9] := rfl
@[simp] theorem z74a_rows : z74a.rows = [3] := rfl
@[simp] theorem z74a_loops : z74a.loops = [(3, [3, 6, 7, 8])] := rfl
@[simp] theorem z74a_ecalls : z74a.ecalls = [] := rfl
@[simp] theorem z74a_crows : z74a.crows = [(64, 0, 92, 2)] := rfl
@[simp] theorem z74a_tails : z74a.tails = [] := rfl
@[simp] def z74b : PL := []
def z74c : CT := ⟨callOf (z74b ), callOfE noE, gl⟩
@[simp] theorem z74c_p (f : FuncId) (ds : List D) : z74c.p f ds = callOf (z74b ) f ds := Eq.trans rfl rfl
@[simp] theorem z74c_e (f : FuncId) (hs : List (Nat × O)) (ds : List D) : z74c.e f hs ds = callOfE noE f hs ds := Eq.trans rfl rfl
@[simp] theorem z74c_g (g : Nat) : z74c.g g = gl g := Eq.trans rfl rfl
def L_rule_names (i n : Nat) (s : St) : OS := atN Tryz.prog z74c z74a 19 (bodyOf Tryz.f59) i n s
def z74h (n i : Nat) (s : St) : OS := atH Tryz.prog z74c z74a 19 (bodyOf Tryz.f59) n i s
@[simp] theorem z74h_eq (n i : Nat) (s : St) : z74h n i s = L_rule_names i n (headOf (z74a.loops.lookup i) s) := rfl
def R_rule_names (i : Nat) (s : St) : OS := stepL Tryz.prog z74c z74a 19 (bodyOf Tryz.f59) i s
theorem z74k : okLoops (bodyOf Tryz.f59) = true := by kernel_rfl
theorem L_rule_names_zero (i : Nat) (s : St) : L_rule_names i 0 s = none := rfl
theorem L_rule_names_succ (i n : Nat) (s : St) : L_rule_names i (n + 1) s = andThen (R_rule_names i s) (z74h n i) := atN_succ z74k i n s
theorem R_rule_names_eq (i : Nat) (s : St) : R_rule_names i s = runS Tryz.prog z74c (z74h bigL) z74a 19 (loopAt (bodyOf Tryz.f59) i) s := rfl
def F_rule_names (ds : List D) : Option D := runF Tryz.prog z74c z74a 19 (bodyOf Tryz.f59) [.tmp 2] ds
theorem F_rule_names_eq (ds : List D) : F_rule_names ds = runG Tryz.prog z74c (z74h bigL) z74a 19 (bodyOf Tryz.f59) [.tmp 2] ds := runG_eq z74k _ ds
theorem C_rule_names (ds : List D) (r : D) (h : F_rule_names ds = some r) : Contract Tryz.prog gl 59 ds r := contract_of mix Tryz.func59 rfl (by kernel_rfl) (by kernel_rfl) (by decide) (call := z74c) ⟨callOf_ok z74b trivial, callOfE_ok noE trivial⟩ h
attribute [simp] Tryz.f109
def z75a : Ann := ⟨[0, 2, 3], [6], [], [], [], some [2, 3], [], [], [(64, 0, 92, 2)], []⟩
@[simp] theorem z75a_draws : z75a.draws = [] := rfl
@[simp] theorem z75a_exits : z75a.exits = [] := rfl
@[simp] theorem z75a_rets : z75a.rets = some [2, 3] := rfl
@[simp] theorem z75a_keep : z75a.keep = [0, 2, 3] := rfl
@[simp] theorem z75a_cond : z75a.cond = [6] := rfl
@[simp] theorem z75a_rows : z75a.rows = [] := rfl
@[simp] theorem z75a_loops : z75a.loops = [] := rfl
@[simp] theorem z75a_ecalls : z75a.ecalls = [] := rfl
@[simp] theorem z75a_crows : z75a.crows = [(64, 0, 92, 2)] := rfl
@[simp] theorem z75a_tails : z75a.tails = [] := rfl
@[simp] def z75b : PL := [(161, F_rule_bounded)]
def z75c : CT := ⟨callOf (z75b ), callOfE noE, gl⟩
@[simp] theorem z75c_p (f : FuncId) (ds : List D) : z75c.p f ds = callOf (z75b ) f ds := Eq.trans rfl rfl
@[simp] theorem z75c_e (f : FuncId) (hs : List (Nat × O)) (ds : List D) : z75c.e f hs ds = callOfE noE f hs ds := Eq.trans rfl rfl
@[simp] theorem z75c_g (g : Nat) : z75c.g g = gl g := Eq.trans rfl rfl
def L_rule_limited (i n : Nat) (s : St) : OS := atN Tryz.prog z75c z75a 8 (bodyOf Tryz.f109) i n s
def z75h (n i : Nat) (s : St) : OS := atH Tryz.prog z75c z75a 8 (bodyOf Tryz.f109) n i s
@[simp] theorem z75h_eq (n i : Nat) (s : St) : z75h n i s = L_rule_limited i n (headOf (z75a.loops.lookup i) s) := rfl
def R_rule_limited (i : Nat) (s : St) : OS := stepL Tryz.prog z75c z75a 8 (bodyOf Tryz.f109) i s
theorem z75k : okLoops (bodyOf Tryz.f109) = true := by kernel_rfl
def F_rule_limited (ds : List D) : Option D := runF Tryz.prog z75c z75a 8 (bodyOf Tryz.f109) [.tmp 2, .tmp 3] ds
theorem F_rule_limited_eq (ds : List D) : F_rule_limited ds = runG Tryz.prog z75c (z75h bigL) z75a 8 (bodyOf Tryz.f109) [.tmp 2, .tmp 3] ds := runG_eq z75k _ ds
theorem C_rule_limited (ds : List D) (r : D) (h : F_rule_limited ds = some r) : Contract Tryz.prog gl 109 ds r := contract_of mix Tryz.func109 rfl (by kernel_rfl) (by kernel_rfl) (by decide) (call := z75c) ⟨callOf_ok z75b ⟨C_rule_bounded, trivial⟩, callOfE_ok noE trivial⟩ h
attribute [simp] Tryz.f31
def z76a : Ann := ⟨[4, 5, 7, 8, 9, 10], [11, 17], [], [(2, [1, 8, 9, 10])], [(0, []), (1, [1, 8, 9, 10])], some [4, 5], [], [], [(64, 0, 92, 2)], []⟩
@[simp] theorem z76a_draws : z76a.draws = [] := rfl
@[simp] theorem z76a_exits : z76a.exits = [(0, []), (1, [1, 8, 9, 10])] := rfl
@[simp] theorem z76a_rets : z76a.rets = some [4, 5] := rfl
@[simp] theorem z76a_keep : z76a.keep = [4, 5, 7, 8, 9, 10] := rfl
@[simp] theorem z76a_cond : z76a.cond = [11, 17] := rfl
@[simp] theorem z76a_rows : z76a.rows = [] := rfl
@[simp] theorem z76a_loops : z76a.loops = [(2, [1, 8, 9, 10])] := rfl
@[simp] theorem z76a_ecalls : z76a.ecalls = [] := rfl
@[simp] theorem z76a_crows : z76a.crows = [(64, 0, 92, 2)] := rfl
@[simp] theorem z76a_tails : z76a.tails = [] := rfl
@[simp] def z76b : PL := []
def z76c : CT := ⟨callOf (z76b ), callOfE noE, gl⟩
@[simp] theorem z76c_p (f : FuncId) (ds : List D) : z76c.p f ds = callOf (z76b ) f ds := Eq.trans rfl rfl
@[simp] theorem z76c_e (f : FuncId) (hs : List (Nat × O)) (ds : List D) : z76c.e f hs ds = callOfE noE f hs ds := Eq.trans rfl rfl
@[simp] theorem z76c_g (g : Nat) : z76c.g g = gl g := Eq.trans rfl rfl
def L_feature_Get (i n : Nat) (s : St) : OS := atN Tryz.prog z76c z76a 21 (bodyOf Tryz.f31) i n s
def z76h (n i : Nat) (s : St) : OS := atH Tryz.prog z76c z76a 21 (bodyOf Tryz.f31) n i s
@[simp] theorem z76h_eq (n i : Nat) (s : St) : z76h n i s = L_feature_Get i n (headOf (z76a.loops.lookup i) s) := rfl
def R_feature_Get (i : Nat) (s : St) : OS := stepL Tryz.prog z76c z76a 21 (bodyOf Tryz.f31) i s
theorem z76k : okLoops (bodyOf Tryz.f31) = true := by kernel_rfl
theorem L_feature_Get_zero (i : Nat) (s : St) : L_feature_Get i 0 s = none := rfl
theorem L_feature_Get_succ (i n : Nat) (s : St) : L_feature_Get i (n + 1) s = andThen (R_feature_Get i s) (z76h n i) := atN_succ z76k i n s
theorem R_feature_Get_eq (i : Nat) (s : St) : R_feature_Get i s = runS Tryz.prog z76c (z76h bigL) z76a 21 (loopAt (bodyOf Tryz.f31) i) s := rfl
def F_feature_Get (ds : List D) : Option D := runF Tryz.prog z76c z76a 21 (bodyOf Tryz.f31) [.tmp 4, .tmp 5] ds
theorem F_feature_Get_eq (ds : List D) : F_feature_Get ds = runG Tryz.prog z76c (z76h bigL) z76a 21 (bodyOf Tryz.f31) [.tmp 4, .tmp 5] ds := runG_eq z76k _ ds
theorem C_feature_Get (ds : List D) (r : D) (h : F_feature_Get ds = some r) : Contract Tryz.prog gl 31 ds r := contract_of mix Tryz.func31 rfl (by kernel_rfl) (by kernel_rfl) (by decide) (call := z76c) ⟨callOf_ok z76b trivial, callOfE_ok noE trivial⟩ h
attribute [simp] Tryz.f162
def z77a : Ann := ⟨[2], [], [], [], [], some [2], [], [], [(64, 0, 92, 2)], []⟩
@[simp] theorem z77a_draws : z77a.draws = [] := rfl
@[simp] theorem z77a_exits : z77a.exits = [] := rfl
@[simp] theorem z77a_rets : z77a.rets = some [2] := rfl
@[simp] theorem z77a_keep : z77a.keep = [2] := rfl
@[simp] theorem z77a_cond : z77a.cond = [] := rfl
@[simp] theorem z77a_rows : z77a.rows = [] := rfl
@[simp] theorem z77a_loops : z77a.loops = [] := rfl
@[simp] theorem z77a_ecalls : z77a.ecalls = [] := rfl
@[simp] theorem z77a_crows : z77a.crows = [(64, 0, 92, 2)] := rfl
@[simp] theorem z77a_tails : z77a.tails = [] := rfl
@[simp] def z77b : PL := []
def z77c : CT := ⟨callOf (z77b ), callOfE noE, gl⟩
@[simp] theorem z77c_p (f : FuncId) (ds : List D) : z77c.p f ds = callOf (z77b ) f ds := Eq.trans rfl rfl
@[simp] theorem z77c_e (f : FuncId) (hs : List (Nat × O)) (ds : List D) : z77c.e f hs ds = callOfE noE f hs ds := Eq.trans rfl rfl
@[simp] theorem z77c_g (g : Nat) : z77c.g g = gl g := Eq.trans rfl rfl
def L_rule_magnitude (i n : Nat) (s : St) : OS := atN Tryz.prog z77c z77a 7 (bodyOf Tryz.f162) i n s
def z77h (n i : Nat) (s : St) : OS := atH Tryz.prog z77c z77a 7 (bodyOf Tryz.f162) n i s
@[simp] theorem z77h_eq (n i : Nat) (s : St) : z77h n i s = L_rule_magnitude i n (headOf (z77a.loops.lookup i) s) := rfl
def R_rule_magnitude (i : Nat) (s : St) : OS := stepL Tryz.prog z77c z77a 7 (bodyOf Tryz.f162) i s
theorem z77k : okLoops (bodyOf Tryz.f162) = true := by kernel_rfl
def F_rule_magnitude (ds : List D) : Option D := runF Tryz.prog z77c z77a 7 (bodyOf Tryz.f162) [.tmp 2] ds
theorem F_rule_magnitude_eq (ds : List D) : F_rule_magnitude ds = runG Tryz.prog z77c (z77h bigL) z77a 7 (bodyOf Tryz.f162) [.tmp 2] ds := runG_eq z77k _ ds
theorem C_rule_magnitude (ds : List D) (r : D) (h : F_rule_magnitude ds = some r) : Contract Tryz.prog gl 162 ds r := contract_of mix Tryz.func162 rfl (by kernel_rfl) (by kernel_rfl) (by decide) (call := z77c) ⟨callOf_ok z77b trivial, callOfE_ok noE trivial⟩ h
attribute [simp] Tryz.f163
def z78a : Ann := ⟨[2], [3], [], [], [], some [2], [], [], [(64, 0, 92, 2)], []⟩
@[simp] theorem z78a_draws : z78a.draws = [] := rfl
@[simp] theorem z78a_exits : z78a.exits = [] := rfl
@[simp] theorem z78a_rets : z78a.rets = some [2] := rfl
@[simp] theorem z78a_keep : z78a.keep = [2] := rfl
@[simp] theorem z78a_cond : z78a.cond = [3] := rfl
@[simp] theorem z78a_rows : z78a.rows = [] := rfl
@[simp] theorem z78a_loops : z78a.loops = [] := rfl
@[simp] theorem z78a_ecalls : z78a.ecalls = [] := rfl
@[simp] theorem z78a_crows : z78a.crows = [(64, 0, 92, 2)] := rfl
@[simp] theorem z78a_tails : z78a.tails = [] := rfl
@[simp] def z78b : PL := []
def z78c : CT := ⟨callOf (z78b ), callOfE noE, gl⟩
@[simp] theorem z78c_p (f : FuncId) (ds : List D) : z78c.p f ds = callOf (z78b ) f ds := Eq.trans rfl rfl
@[simp] theorem z78c_e (f : FuncId) (hs : List (Nat × O)) (ds : List D) : z78c.e f hs ds = callOfE noE f hs ds := Eq.trans rfl rfl
@[simp] theorem z78c_g (g : Nat) : z78c.g g = gl g := Eq.trans rfl rfl
def L_rule_truth (i n : Nat) (s : St) : OS := atN Tryz.prog z78c z78a 4 (bodyOf Tryz.f163) i n s
def z78h (n i : Nat) (s : St) : OS := atH Tryz.prog z78c z78a 4 (bodyOf Tryz.f163) n i s
@[simp] theorem z78h_eq (n i : Nat) (s : St) : z78h n i s = L_rule_truth i n (headOf (z78a.loops.lookup i) s) := rfl
def R_rule_truth (i : Nat) (s : St) : OS := stepL Tryz.prog z78c z78a 4 (bodyOf Tryz.f163) i s
theorem z78k : okLoops (bodyOf Tryz.f163) = true := by kernel_rfl
def F_rule_truth (ds : List D) : Option D := runF Tryz.prog z78c z78a 4 (bodyOf Tryz.f163) [.tmp 2] ds
theorem F_rule_truth_eq (ds : List D) : F_rule_truth ds = runG Tryz.prog z78c (z78h bigL) z78a 4 (bodyOf Tryz.f163) [.tmp 2] ds := runG_eq z78k _ ds
theorem C_rule_truth (ds : List D) (r : D) (h : F_rule_truth ds = some r) : Contract Tryz.prog gl 163 ds r := contract_of mix Tryz.func163 rfl (by kernel_rfl) (by kernel_rfl) (by decide) (call := z78c) ⟨callOf_ok z78b trivial, callOfE_ok noE trivial⟩ h
attribute [simp] Tryz.f110
def z79a : Ann := ⟨[1, 2, 6, 7, 8], [9, 17, 25, 36, 40, 46], [], [], [(0, [1, 2])], some [6, 7], [], [], [(64, 0, 92, 2)], []⟩
@[simp] theorem z79a_draws : z79a.draws = [] := rfl
@[simp] theorem z79a_exits : z79a.exits = [(0, [1, 2])] := rfl
@[simp] theorem z79a_rets : z79a.rets = some [6, 7] := rfl
@[simp] theorem z79a_keep : z79a.keep = [1, 2, 6, 7, 8] := rfl
@[simp] theorem z79a_cond : z79a.cond = [9, 17, 25, 36, 40, 46] := rfl
@[simp] theorem z79a_rows : z79a.rows = [] := rfl
@[simp] theorem z79a_loops : z79a.loops = [] := rfl
@[simp] theorem z79a_ecalls : z79a.ecalls = [] := rfl
@[simp] theorem z79a_crows : z79a.crows = [(64, 0, 92, 2)] := rfl
@[simp] theorem z79a_tails : z79a.tails = [] := rfl
@[simp] def z79b : PL := [(109, F_rule_limited), (162, F_rule_magnitude), (163, F_rule_truth)]
def z79c : CT := ⟨callOf (z79b ), callOfE noE, gl⟩
@[simp] theorem z79c_p (f : FuncId) (ds : List D) : z79c.p f ds = callOf (z79b ) f ds := Eq.trans rfl rfl
@[simp] theorem z79c_e (f : FuncId) (hs : List (Nat × O)) (ds : List D) : z79c.e f hs ds = callOfE noE f hs ds := Eq.trans rfl rfl
@[simp] theorem z79c_g (g : Nat) : z79c.g g = gl g := Eq.trans rfl rfl
def L_rule_combine (i n : Nat) (s : St) : OS := atN Tryz.prog z79c z79a 56 (bodyOf Tryz.f110) i n s
def z79h (n i : Nat) (s : St) : OS := atH Tryz.prog z79c z79a 56 (bodyOf Tryz.f110) n i s
@[simp] theorem z79h_eq (n i : Nat) (s : St) : z79h n i s = L_rule_combine i n (headOf (z79a.loops.lookup i) s) := rfl
def R_rule_combine (i : Nat) (s : St) : OS := stepL Tryz.prog z79c z79a 56 (bodyOf Tryz.f110) i s
theorem z79k : okLoops (bodyOf Tryz.f110) = true := by kernel_rfl
def F_rule_combine (ds : List D) : Option D := runF Tryz.prog z79c z79a 56 (bodyOf Tryz.f110) [.tmp 6, .tmp 7] ds
theorem F_rule_combine_eq (ds : List D) : F_rule_combine ds = runG Tryz.prog z79c (z79h bigL) z79a 56 (bodyOf Tryz.f110) [.tmp 6, .tmp 7] ds := runG_eq z79k _ ds
theorem C_rule_combine (ds : List D) (r : D) (h : F_rule_combine ds = some r) : Contract Tryz.prog gl 110 ds r := contract_of mix Tryz.func110 rfl (by kernel_rfl) (by kernel_rfl) (by decide) (call := z79c) ⟨callOf_ok z79b ⟨C_rule_limited, C_rule_magnitude, C_rule_truth, trivial⟩, callOfE_ok noE trivial⟩ h
attribute [simp] Tryz.f60
def z80a : Ann := ⟨[1, 2, 4, 5, 6, 8, 9, 10, 12, 46], [13, 20, 43, 47, 51, 54, 64, 67, 87], [], [], [(0, [1, 2]), (1, [1, 2, 8])], some [4, 5], [], [], [(64, 0, 92, 2)], []⟩
@[simp] theorem z80a_draws : z80a.draws = [] := rfl
@[simp] theorem z80a_exits : z80a.exits = [(0, [1, 2]), (1, [1, 2, 8])] := rfl
@[simp] theorem z80a_rets : z80a.rets = some [4, 5] := rfl
@[simp] theorem z80a_keep : z80a.keep = [1, 2, 4, 5, 6, 8, 9, 10, 12, 46] := rfl
@[simp] theorem z80a_cond : z80a.cond = [13, 20, 43, 47, 51, 54, 64, 67, 87] := rfl
@[simp] theorem z80a_rows : z80a.rows = [] := rfl
@[simp] theorem z80a_loops : z80a.loops = [] := rfl
@[simp] theorem z80a_ecalls : z80a.ecalls = [] := rfl
@[simp] theorem z80a_crows : z80a.crows = [(64, 0, 92, 2)] := rfl
@[simp] theorem z80a_tails : z80a.tails = [] := rfl
@[simp] def z80b (self : List D → Option D) : PL := [(60, self), (31, F_feature_Get), (109, F_rule_limited), (110, F_rule_combine)]
def z80c (self : List D → Option D) : CT := ⟨callOf (z80b self ), callOfE noE, gl⟩
@[simp] theorem z80c_p (self : List D → Option D) (f : FuncId) (ds : List D) : (z80c self).p f ds = callOf (z80b self ) f ds := Eq.trans rfl rfl
@[simp] theorem z80c_e (self : List D → Option D) (f : FuncId) (hs : List (Nat × O)) (ds : List D) : (z80c self).e f hs ds = callOfE noE f hs ds := Eq.trans rfl rfl
@[simp] theorem z80c_g (self : List D → Option D) (g : Nat) : (z80c self).g g = gl g := Eq.trans rfl rfl
def L_rule_value (self : List D → Option D) (i n : Nat) (s : St) : OS := atN Tryz.prog (z80c self) z80a 96 (bodyOf Tryz.f60) i n s
def z80h (self : List D → Option D) (n i : Nat) (s : St) : OS := atH Tryz.prog (z80c self) z80a 96 (bodyOf Tryz.f60) n i s
@[simp] theorem z80h_eq (self : List D → Option D) (n i : Nat) (s : St) : z80h self n i s = L_rule_value self i n (headOf (z80a.loops.lookup i) s) := rfl
def R_rule_value (self : List D → Option D) (i : Nat) (s : St) : OS := stepL Tryz.prog (z80c self) z80a 96 (bodyOf Tryz.f60) i s
theorem z80k : okLoops (bodyOf Tryz.f60) = true := by kernel_rfl
def FN_rule_value : Nat → List D → Option D
  | 0 => fun _ => none
  | n + 1 => fun ds => runF Tryz.prog (z80c (FN_rule_value n)) z80a 96 (bodyOf Tryz.f60) [.tmp 4, .tmp 5] ds
theorem FN_rule_value_eq (n : Nat) (ds : List D) : FN_rule_value (n + 1) ds = runG Tryz.prog (z80c (FN_rule_value n)) (z80h (FN_rule_value n) bigL) z80a 96 (bodyOf Tryz.f60) [.tmp 4, .tmp 5] ds := runG_eq z80k _ ds
theorem CN_rule_value : ∀ (n : Nat) (ds : List D) (r : D), FN_rule_value n ds = some r → Contract Tryz.prog gl 60 ds r
  | 0, _, _, h => by cases h
  | n + 1, ds, r, h => by
    have ih := CN_rule_value n
    exact contract_of mix Tryz.func60 rfl (by kernel_rfl) (by kernel_rfl) (by decide) (call := z80c (FN_rule_value n)) ⟨callOf_ok (z80b (FN_rule_value n)) ⟨ih, C_feature_Get, C_rule_limited, C_rule_combine, trivial⟩, callOfE_ok noE trivial⟩ h
def F_rule_value (ds : List D) : Option D := FN_rule_value 1000 ds
theorem C_rule_value (ds : List D) (r : D) (h : F_rule_value ds = some r) : Contract Tryz.prog gl 60 ds r := CN_rule_value 1000 ds r h
attribute [simp] Tryz.f24
def z81a : Ann := ⟨[0, 1, 4, 5, 6, 7, 8, 9, 10, 11, 19, 20, 21], [17, 22, 34, 37], [], [(5, [1, 19, 20, 21])], [(0, []), (1, [1, 19, 20, 21])], some [4, 5, 6], [], [], [(64, 0, 92, 2)], []⟩
@[simp] theorem z81a_draws : z81a.draws = [] := rfl
@[simp] theorem z81a_exits : z81a.exits = [(0, []), (1, [1, 19, 20, 21])] := rfl
@[simp] theorem z81a_rets : z81a.rets = some [4, 5, 6] := rfl
@[simp] theorem z81a_keep : z81a.keep = [0, 1, 4, 5, 6, 7, 8, 9, 10, 11, 19, 20, 21] := rfl
@[simp] theorem z81a_cond : z81a.cond = [17, 22, 34, 37] := rfl
@[simp] theorem z81a_rows : z81a.rows = [] := rfl
@[simp] theorem z81a_loops : z81a.loops = [(5, [1, 19, 20, 21])] := rfl
@[simp] theorem z81a_ecalls : z81a.ecalls = [] := rfl
@[simp] theorem z81a_crows : z81a.crows = [(64, 0, 92, 2)] := rfl
@[simp] theorem z81a_tails : z81a.tails = [] := rfl
@[simp] def z81b : PL := [(47, F_rule_CheckRules), (59, F_rule_names), (60, F_rule_value)]
def z81c : CT := ⟨callOf (z81b ), callOfE noE, gl⟩
@[simp] theorem z81c_p (f : FuncId) (ds : List D) : z81c.p f ds = callOf (z81b ) f ds := Eq.trans rfl rfl
@[simp] theorem z81c_e (f : FuncId) (hs : List (Nat × O)) (ds : List D) : z81c.e f hs ds = callOfE noE f hs ds := Eq.trans rfl rfl
@[simp] theorem z81c_g (g : Nat) : z81c.g g = gl g := Eq.trans rfl rfl
def L_rule_Grade (i n : Nat) (s : St) : OS := atN Tryz.prog z81c z81a 42 (bodyOf Tryz.f24) i n s
def z81h (n i : Nat) (s : St) : OS := atH Tryz.prog z81c z81a 42 (bodyOf Tryz.f24) n i s
@[simp] theorem z81h_eq (n i : Nat) (s : St) : z81h n i s = L_rule_Grade i n (headOf (z81a.loops.lookup i) s) := rfl
def R_rule_Grade (i : Nat) (s : St) : OS := stepL Tryz.prog z81c z81a 42 (bodyOf Tryz.f24) i s
theorem z81k : okLoops (bodyOf Tryz.f24) = true := by kernel_rfl
theorem L_rule_Grade_zero (i : Nat) (s : St) : L_rule_Grade i 0 s = none := rfl
theorem L_rule_Grade_succ (i n : Nat) (s : St) : L_rule_Grade i (n + 1) s = andThen (R_rule_Grade i s) (z81h n i) := atN_succ z81k i n s
theorem R_rule_Grade_eq (i : Nat) (s : St) : R_rule_Grade i s = runS Tryz.prog z81c (z81h bigL) z81a 42 (loopAt (bodyOf Tryz.f24) i) s := rfl
def F_rule_Grade (ds : List D) : Option D := runF Tryz.prog z81c z81a 42 (bodyOf Tryz.f24) [.tmp 4, .tmp 5, .tmp 6] ds
theorem F_rule_Grade_eq (ds : List D) : F_rule_Grade ds = runG Tryz.prog z81c (z81h bigL) z81a 42 (bodyOf Tryz.f24) [.tmp 4, .tmp 5, .tmp 6] ds := runG_eq z81k _ ds
theorem C_rule_Grade (ds : List D) (r : D) (h : F_rule_Grade ds = some r) : Contract Tryz.prog gl 24 ds r := contract_of mix Tryz.func24 rfl (by kernel_rfl) (by kernel_rfl) (by decide) (call := z81c) ⟨callOf_ok z81b ⟨C_rule_CheckRules, C_rule_names, C_rule_value, trivial⟩, callOfE_ok noE trivial⟩ h
attribute [simp] Tryz.f23
def z82a : Ann := ⟨[3, 4, 5], [], [], [], [], some [3, 4, 5], [], [], [(64, 0, 92, 2)], []⟩
@[simp] theorem z82a_draws : z82a.draws = [] := rfl
@[simp] theorem z82a_exits : z82a.exits = [] := rfl
@[simp] theorem z82a_rets : z82a.rets = some [3, 4, 5] := rfl
@[simp] theorem z82a_keep : z82a.keep = [3, 4, 5] := rfl
@[simp] theorem z82a_cond : z82a.cond = [] := rfl
@[simp] theorem z82a_rows : z82a.rows = [] := rfl
@[simp] theorem z82a_loops : z82a.loops = [] := rfl
@[simp] theorem z82a_ecalls : z82a.ecalls = [] := rfl
@[simp] theorem z82a_crows : z82a.crows = [(64, 0, 92, 2)] := rfl
@[simp] theorem z82a_tails : z82a.tails = [] := rfl
@[simp] def z82b : PL := [(24, F_rule_Grade)]
def z82c : CT := ⟨callOf (z82b ), callOfE noE, gl⟩
@[simp] theorem z82c_p (f : FuncId) (ds : List D) : z82c.p f ds = callOf (z82b ) f ds := Eq.trans rfl rfl
@[simp] theorem z82c_e (f : FuncId) (hs : List (Nat × O)) (ds : List D) : z82c.e f hs ds = callOfE noE f hs ds := Eq.trans rfl rfl
@[simp] theorem z82c_g (g : Nat) : z82c.g g = gl g := Eq.trans rfl rfl
def L_grading_Of_1 (i n : Nat) (s : St) : OS := atN Tryz.prog z82c z82a 12 (bodyOf Tryz.f23) i n s
def z82h (n i : Nat) (s : St) : OS := atH Tryz.prog z82c z82a 12 (bodyOf Tryz.f23) n i s
@[simp] theorem z82h_eq (n i : Nat) (s : St) : z82h n i s = L_grading_Of_1 i n (headOf (z82a.loops.lookup i) s) := rfl
def R_grading_Of_1 (i : Nat) (s : St) : OS := stepL Tryz.prog z82c z82a 12 (bodyOf Tryz.f23) i s
theorem z82k : okLoops (bodyOf Tryz.f23) = true := by kernel_rfl
def E_grading_Of_1 (hs : List (Nat × O)) (ds : List D) : Option (D × List (Nat × O)) := runE Tryz.prog z82c z82a 12 (bodyOf Tryz.f23) [.tmp 3, .tmp 4, .tmp 5] hs ds
theorem E_grading_Of_1_eq (hs : List (Nat × O)) (ds : List D) : E_grading_Of_1 hs ds = runGE Tryz.prog z82c (z82h bigL) z82a 12 (bodyOf Tryz.f23) [.tmp 3, .tmp 4, .tmp 5] hs ds := runGE_eq z82k _ hs ds
theorem CE_grading_Of_1 (hs : List (Nat × O)) (ds : List D) (r : D) (hs' : List (Nat × O)) (h : E_grading_Of_1 hs ds = some (r, hs')) : ContractE Tryz.prog gl 23 hs ds r hs' := contractE_of mix Tryz.func23 rfl (by kernel_rfl) (by kernel_rfl) (by decide) (call := z82c) ⟨callOf_ok z82b ⟨C_rule_Grade, trivial⟩, callOfE_ok noE trivial⟩ h
attribute [simp] Tryz.f8
def z83a : Ann := ⟨[1, 3, 4, 6, 8, 9, 10, 11, 12, 13], [20], [], [], [], some [8, 9, 10], [], [(23, false)], [(64, 0, 92, 2)], []⟩
@[simp] theorem z83a_draws : z83a.draws = [] := rfl
@[simp] theorem z83a_exits : z83a.exits = [] := rfl
@[simp] theorem z83a_rets : z83a.rets = some [8, 9, 10] := rfl
@[simp] theorem z83a_keep : z83a.keep = [1, 3, 4, 6, 8, 9, 10, 11, 12, 13] := rfl
@[simp] theorem z83a_cond : z83a.cond = [20] := rfl
@[simp] theorem z83a_rows : z83a.rows = [] := rfl
@[simp] theorem z83a_loops : z83a.loops = [] := rfl
@[simp] theorem z83a_ecalls : z83a.ecalls = [(23, false)] := rfl
@[simp] theorem z83a_crows : z83a.crows = [(64, 0, 92, 2)] := rfl
@[simp] theorem z83a_tails : z83a.tails = [] := rfl
@[simp] def z83b : PL := [(21, F_grading_check), (22, F_feature_Of)]
@[simp] def z83d : EL := [(23, E_grading_Of_1)]
def z83c : CT := ⟨callOf (z83b ), callOfE z83d, gl⟩
@[simp] theorem z83c_p (f : FuncId) (ds : List D) : z83c.p f ds = callOf (z83b ) f ds := Eq.trans rfl rfl
@[simp] theorem z83c_e (f : FuncId) (hs : List (Nat × O)) (ds : List D) : z83c.e f hs ds = callOfE z83d f hs ds := Eq.trans rfl rfl
@[simp] theorem z83c_g (g : Nat) : z83c.g g = gl g := Eq.trans rfl rfl
def L_grading_Of (i n : Nat) (s : St) : OS := atN Tryz.prog z83c z83a 33 (bodyOf Tryz.f8) i n s
def z83h (n i : Nat) (s : St) : OS := atH Tryz.prog z83c z83a 33 (bodyOf Tryz.f8) n i s
@[simp] theorem z83h_eq (n i : Nat) (s : St) : z83h n i s = L_grading_Of i n (headOf (z83a.loops.lookup i) s) := rfl
def R_grading_Of (i : Nat) (s : St) : OS := stepL Tryz.prog z83c z83a 33 (bodyOf Tryz.f8) i s
theorem z83k : okLoops (bodyOf Tryz.f8) = true := by kernel_rfl
def F_grading_Of (ds : List D) : Option D := runF Tryz.prog z83c z83a 33 (bodyOf Tryz.f8) [.tmp 8, .tmp 9, .tmp 10] ds
theorem F_grading_Of_eq (ds : List D) : F_grading_Of ds = runG Tryz.prog z83c (z83h bigL) z83a 33 (bodyOf Tryz.f8) [.tmp 8, .tmp 9, .tmp 10] ds := runG_eq z83k _ ds
theorem C_grading_Of (ds : List D) (r : D) (h : F_grading_Of ds = some r) : Contract Tryz.prog gl 8 ds r := contract_of mix Tryz.func8 rfl (by kernel_rfl) (by kernel_rfl) (by decide) (call := z83c) ⟨callOf_ok z83b ⟨C_grading_check, C_feature_Of, trivial⟩, callOfE_ok z83d ⟨CE_grading_Of_1, trivial⟩⟩ h
attribute [simp] Tryz.f76
def z84a : Ann := ⟨[1, 2, 4, 5, 7, 19, 20, 21], [9, 12, 22], [5], [(7, [1, 5, 19, 20, 21])], [(0, [5]), (1, [1, 5, 19, 20, 21])], some [4], [], [], [(64, 0, 92, 2)], []⟩
@[simp] theorem z84a_draws : z84a.draws = [] := rfl
@[simp] theorem z84a_exits : z84a.exits = [(0, [5]), (1, [1, 5, 19, 20, 21])] := rfl
@[simp] theorem z84a_rets : z84a.rets = some [4] := rfl
@[simp] theorem z84a_keep : z84a.keep = [1, 2, 4, 5, 7, 19, 20, 21] := rfl
@[simp] theorem z84a_cond : z84a.cond = [9, 12, 22] := rfl
@[simp] theorem z84a_rows : z84a.rows = [5] := rfl
@[simp] theorem z84a_loops : z84a.loops = [(7, [1, 5, 19, 20, 21])] := rfl
@[simp] theorem z84a_ecalls : z84a.ecalls = [] := rfl
@[simp] theorem z84a_crows : z84a.crows = [(64, 0, 92, 2)] := rfl
@[simp] theorem z84a_tails : z84a.tails = [] := rfl
@[simp] def z84b (self : List D → Option D) : PL := [(76, self)]
def z84c (self : List D → Option D) : CT := ⟨callOf (z84b self ), callOfE noE, gl⟩
@[simp] theorem z84c_p (self : List D → Option D) (f : FuncId) (ds : List D) : (z84c self).p f ds = callOf (z84b self ) f ds := Eq.trans rfl rfl
@[simp] theorem z84c_e (self : List D → Option D) (f : FuncId) (hs : List (Nat × O)) (ds : List D) : (z84c self).e f hs ds = callOfE noE f hs ds := Eq.trans rfl rfl
@[simp] theorem z84c_g (self : List D → Option D) (g : Nat) : (z84c self).g g = gl g := Eq.trans rfl rfl
def L_rule_mentioned (self : List D → Option D) (i n : Nat) (s : St) : OS := atN Tryz.prog (z84c self) z84a 33 (bodyOf Tryz.f76) i n s
def z84h (self : List D → Option D) (n i : Nat) (s : St) : OS := atH Tryz.prog (z84c self) z84a 33 (bodyOf Tryz.f76) n i s
@[simp] theorem z84h_eq (self : List D → Option D) (n i : Nat) (s : St) : z84h self n i s = L_rule_mentioned self i n (headOf (z84a.loops.lookup i) s) := rfl
def R_rule_mentioned (self : List D → Option D) (i : Nat) (s : St) : OS := stepL Tryz.prog (z84c self) z84a 33 (bodyOf Tryz.f76) i s
theorem z84k : okLoops (bodyOf Tryz.f76) = true := by kernel_rfl
theorem L_rule_mentioned_zero (self : List D → Option D) (i : Nat) (s : St) : L_rule_mentioned self i 0 s = none := rfl
theorem L_rule_mentioned_succ (self : List D → Option D) (i n : Nat) (s : St) : L_rule_mentioned self i (n + 1) s = andThen (R_rule_mentioned self i s) (z84h self n i) := atN_succ z84k i n s
theorem R_rule_mentioned_eq (self : List D → Option D) (i : Nat) (s : St) : R_rule_mentioned self i s = runS Tryz.prog (z84c self) (z84h self bigL) z84a 33 (loopAt (bodyOf Tryz.f76) i) s := rfl
def FN_rule_mentioned : Nat → List D → Option D
  | 0 => fun _ => none
  | n + 1 => fun ds => runF Tryz.prog (z84c (FN_rule_mentioned n)) z84a 33 (bodyOf Tryz.f76) [.tmp 4] ds
theorem FN_rule_mentioned_eq (n : Nat) (ds : List D) : FN_rule_mentioned (n + 1) ds = runG Tryz.prog (z84c (FN_rule_mentioned n)) (z84h (FN_rule_mentioned n) bigL) z84a 33 (bodyOf Tryz.f76) [.tmp 4] ds := runG_eq z84k _ ds
theorem CN_rule_mentioned : ∀ (n : Nat) (ds : List D) (r : D), FN_rule_mentioned n ds = some r → Contract Tryz.prog gl 76 ds r
  | 0, _, _, h => by cases h
  | n + 1, ds, r, h => by
    have ih := CN_rule_mentioned n
    exact contract_of mix Tryz.func76 rfl (by kernel_rfl) (by kernel_rfl) (by decide) (call := z84c (FN_rule_mentioned n)) ⟨callOf_ok (z84b (FN_rule_mentioned n)) ⟨ih, trivial⟩, callOfE_ok noE trivial⟩ h
def F_rule_mentioned (ds : List D) : Option D := FN_rule_mentioned 1000 ds
theorem C_rule_mentioned (ds : List D) (r : D) (h : F_rule_mentioned ds = some r) : Contract Tryz.prog gl 76 ds r := CN_rule_mentioned 1000 ds r h
attribute [simp] Tryz.f76
def z85a : Ann := ⟨[1, 2, 4, 5, 7, 19, 20, 21], [9, 12, 22], [5], [(7, [1, 5, 19, 20, 21])], [(0, [5]), (1, [1, 5, 19, 20, 21])], some [4], [], [], [(64, 0, 92, 2)], []⟩
@[simp] theorem z85a_draws : z85a.draws = [] := rfl
@[simp] theorem z85a_exits : z85a.exits = [(0, [5]), (1, [1, 5, 19, 20, 21])] := rfl
@[simp] theorem z85a_rets : z85a.rets = some [4] := rfl
@[simp] theorem z85a_keep : z85a.keep = [1, 2, 4, 5, 7, 19, 20, 21] := rfl
@[simp] theorem z85a_cond : z85a.cond = [9, 12, 22] := rfl
@[simp] theorem z85a_rows : z85a.rows = [5] := rfl
@[simp] theorem z85a_loops : z85a.loops = [(7, [1, 5, 19, 20, 21])] := rfl
@[simp] theorem z85a_ecalls : z85a.ecalls = [] := rfl
@[simp] theorem z85a_crows : z85a.crows = [(64, 0, 92, 2)] := rfl
@[simp] theorem z85a_tails : z85a.tails = [] := rfl
@[simp] def z85b : PL := [(76, F_rule_mentioned)]
def z85c : CT := ⟨callOf (z85b ), callOfE noE, gl⟩
@[simp] theorem z85c_p (f : FuncId) (ds : List D) : z85c.p f ds = callOf (z85b ) f ds := Eq.trans rfl rfl
@[simp] theorem z85c_e (f : FuncId) (hs : List (Nat × O)) (ds : List D) : z85c.e f hs ds = callOfE noE f hs ds := Eq.trans rfl rfl
@[simp] theorem z85c_g (g : Nat) : z85c.g g = gl g := Eq.trans rfl rfl
def L_rule_mentioned_obj (i n : Nat) (s : St) : OS := atN Tryz.prog z85c z85a 33 (bodyOf Tryz.f76) i n s
def z85h (n i : Nat) (s : St) : OS := atH Tryz.prog z85c z85a 33 (bodyOf Tryz.f76) n i s
@[simp] theorem z85h_eq (n i : Nat) (s : St) : z85h n i s = L_rule_mentioned_obj i n (headOf (z85a.loops.lookup i) s) := rfl
def R_rule_mentioned_obj (i : Nat) (s : St) : OS := stepL Tryz.prog z85c z85a 33 (bodyOf Tryz.f76) i s
theorem z85k : okLoops (bodyOf Tryz.f76) = true := by kernel_rfl
theorem L_rule_mentioned_obj_zero (i : Nat) (s : St) : L_rule_mentioned_obj i 0 s = none := rfl
theorem L_rule_mentioned_obj_succ (i n : Nat) (s : St) : L_rule_mentioned_obj i (n + 1) s = andThen (R_rule_mentioned_obj i s) (z85h n i) := atN_succ z85k i n s
theorem R_rule_mentioned_obj_eq (i : Nat) (s : St) : R_rule_mentioned_obj i s = runS Tryz.prog z85c (z85h bigL) z85a 33 (loopAt (bodyOf Tryz.f76) i) s := rfl
def E_rule_mentioned_obj (hs : List (Nat × O)) (ds : List D) : Option (D × List (Nat × O)) := runE Tryz.prog z85c z85a 33 (bodyOf Tryz.f76) [.tmp 4] hs ds
theorem E_rule_mentioned_obj_eq (hs : List (Nat × O)) (ds : List D) : E_rule_mentioned_obj hs ds = runGE Tryz.prog z85c (z85h bigL) z85a 33 (bodyOf Tryz.f76) [.tmp 4] hs ds := runGE_eq z85k _ hs ds
theorem CE_rule_mentioned_obj (hs : List (Nat × O)) (ds : List D) (r : D) (hs' : List (Nat × O)) (h : E_rule_mentioned_obj hs ds = some (r, hs')) : ContractE Tryz.prog gl 76 hs ds r hs' := contractE_of mix Tryz.func76 rfl (by kernel_rfl) (by kernel_rfl) (by decide) (call := z85c) ⟨callOf_ok z85b ⟨C_rule_mentioned, trivial⟩, callOfE_ok noE trivial⟩ h
attribute [simp] Tryz.f28
def z86a : Ann := ⟨[1, 2, 3], [], [3], [], [], some [2], [], [(29, true), (30, true), (76, false)], [(64, 0, 92, 2)], []⟩
@[simp] theorem z86a_draws : z86a.draws = [] := rfl
@[simp] theorem z86a_exits : z86a.exits = [] := rfl
@[simp] theorem z86a_rets : z86a.rets = some [2] := rfl
@[simp] theorem z86a_keep : z86a.keep = [1, 2, 3] := rfl
@[simp] theorem z86a_cond : z86a.cond = [] := rfl
@[simp] theorem z86a_rows : z86a.rows = [3] := rfl
@[simp] theorem z86a_loops : z86a.loops = [] := rfl
@[simp] theorem z86a_ecalls : z86a.ecalls = [(29, true), (30, true), (76, false)] := rfl
@[simp] theorem z86a_crows : z86a.crows = [(64, 0, 92, 2)] := rfl
@[simp] theorem z86a_tails : z86a.tails = [] := rfl
@[simp] def z86b : PL := []
@[simp] def z86d : EL := [(29, E_sortS), (30, E_compactS), (76, E_rule_mentioned_obj)]
def z86c : CT := ⟨callOf (z86b ), callOfE z86d, gl⟩
@[simp] theorem z86c_p (f : FuncId) (ds : List D) : z86c.p f ds = callOf (z86b ) f ds := Eq.trans rfl rfl
@[simp] theorem z86c_e (f : FuncId) (hs : List (Nat × O)) (ds : List D) : z86c.e f hs ds = callOfE z86d f hs ds := Eq.trans rfl rfl
@[simp] theorem z86c_g (g : Nat) : z86c.g g = gl g := Eq.trans rfl rfl
def L_rule_Uses (i n : Nat) (s : St) : OS := atN Tryz.prog z86c z86a 10 (bodyOf Tryz.f28) i n s
def z86h (n i : Nat) (s : St) : OS := atH Tryz.prog z86c z86a 10 (bodyOf Tryz.f28) n i s
@[simp] theorem z86h_eq (n i : Nat) (s : St) : z86h n i s = L_rule_Uses i n (headOf (z86a.loops.lookup i) s) := rfl
def R_rule_Uses (i : Nat) (s : St) : OS := stepL Tryz.prog z86c z86a 10 (bodyOf Tryz.f28) i s
theorem z86k : okLoops (bodyOf Tryz.f28) = true := by kernel_rfl
def F_rule_Uses (ds : List D) : Option D := runF Tryz.prog z86c z86a 10 (bodyOf Tryz.f28) [.tmp 2] ds
theorem F_rule_Uses_eq (ds : List D) : F_rule_Uses ds = runG Tryz.prog z86c (z86h bigL) z86a 10 (bodyOf Tryz.f28) [.tmp 2] ds := runG_eq z86k _ ds
theorem C_rule_Uses (ds : List D) (r : D) (h : F_rule_Uses ds = some r) : Contract Tryz.prog gl 28 ds r := contract_of mix Tryz.func28 rfl (by kernel_rfl) (by kernel_rfl) (by decide) (call := z86c) ⟨callOf_ok z86b trivial, callOfE_ok z86d ⟨CE_sortS, CE_compactS, CE_rule_mentioned_obj, trivial⟩⟩ h
attribute [simp] Tryz.f10
def z87a : Ann := ⟨[1, 3, 4, 6, 8, 9, 11, 12, 13, 15, 16, 17, 19, 20, 40, 41, 42, 59, 60, 61], [32, 35, 43, 62], [13, 17], [(8, [1, 4, 6, 13, 40, 41, 42]), (16, [16, 17, 59, 60, 61])], [(0, [1, 4, 6, 13]), (1, [1, 4, 6, 13, 40, 41, 42]), (2, [17]), (3, [16, 17, 59, 60, 61])], some [8, 9], [], [(29, true), (30, true)], [(64, 0, 92, 2)], []⟩
@[simp] theorem z87a_draws : z87a.draws = [] := rfl
@[simp] theorem z87a_exits : z87a.exits = [(0, [1, 4, 6, 13]), (1, [1, 4, 6, 13, 40, 41, 42]), (2, [17]), (3, [16, 17, 59, 60, 61])] := rfl
@[simp] theorem z87a_rets : z87a.rets = some [8, 9] := rfl
@[simp] theorem z87a_keep : z87a.keep = [1, 3, 4, 6, 8, 9, 11, 12, 13, 15, 16, 17, 19, 20, 40, 41, 42, 59, 60, 61] := rfl
@[simp] theorem z87a_cond : z87a.cond = [32, 35, 43, 62] := rfl
@[simp] theorem z87a_rows : z87a.rows = [13, 17] := rfl
@[simp] theorem z87a_loops : z87a.loops = [(8, [1, 4, 6, 13, 40, 41, 42]), (16, [16, 17, 59, 60, 61])] := rfl
@[simp] theorem z87a_ecalls : z87a.ecalls = [(29, true), (30, true)] := rfl
@[simp] theorem z87a_crows : z87a.crows = [(64, 0, 92, 2)] := rfl
@[simp] theorem z87a_tails : z87a.tails = [] := rfl
@[simp] def z87b : PL := [(8, F_grading_Of), (22, F_feature_Of), (28, F_rule_Uses), (31, F_feature_Get), (32, F_itoa), (33, F_join)]
@[simp] def z87d : EL := [(29, E_sortS), (30, E_compactS)]
def z87c : CT := ⟨callOf (z87b ), callOfE z87d, gl⟩
@[simp] theorem z87c_p (f : FuncId) (ds : List D) : z87c.p f ds = callOf (z87b ) f ds := Eq.trans rfl rfl
@[simp] theorem z87c_e (f : FuncId) (hs : List (Nat × O)) (ds : List D) : z87c.e f hs ds = callOfE z87d f hs ds := Eq.trans rfl rfl
@[simp] theorem z87c_g (g : Nat) : z87c.g g = gl g := Eq.trans rfl rfl
def L_grading_Explain (i n : Nat) (s : St) : OS := atN Tryz.prog z87c z87a 82 (bodyOf Tryz.f10) i n s
def z87h (n i : Nat) (s : St) : OS := atH Tryz.prog z87c z87a 82 (bodyOf Tryz.f10) n i s
@[simp] theorem z87h_eq (n i : Nat) (s : St) : z87h n i s = L_grading_Explain i n (headOf (z87a.loops.lookup i) s) := rfl
def R_grading_Explain (i : Nat) (s : St) : OS := stepL Tryz.prog z87c z87a 82 (bodyOf Tryz.f10) i s
theorem z87k : okLoops (bodyOf Tryz.f10) = true := by kernel_rfl
theorem L_grading_Explain_zero (i : Nat) (s : St) : L_grading_Explain i 0 s = none := rfl
theorem L_grading_Explain_succ (i n : Nat) (s : St) : L_grading_Explain i (n + 1) s = andThen (R_grading_Explain i s) (z87h n i) := atN_succ z87k i n s
theorem R_grading_Explain_eq (i : Nat) (s : St) : R_grading_Explain i s = runS Tryz.prog z87c (z87h bigL) z87a 82 (loopAt (bodyOf Tryz.f10) i) s := rfl
def F_grading_Explain (ds : List D) : Option D := runF Tryz.prog z87c z87a 82 (bodyOf Tryz.f10) [.tmp 8, .tmp 9] ds
theorem F_grading_Explain_eq (ds : List D) : F_grading_Explain ds = runG Tryz.prog z87c (z87h bigL) z87a 82 (bodyOf Tryz.f10) [.tmp 8, .tmp 9] ds := runG_eq z87k _ ds
theorem C_grading_Explain (ds : List D) (r : D) (h : F_grading_Explain ds = some r) : Contract Tryz.prog gl 10 ds r := contract_of mix Tryz.func10 rfl (by kernel_rfl) (by kernel_rfl) (by decide) (call := z87c) ⟨callOf_ok z87b ⟨C_grading_Of, C_feature_Of, C_rule_Uses, C_feature_Get, C_itoa, C_join, trivial⟩, callOfE_ok z87d ⟨CE_sortS, CE_compactS, trivial⟩⟩ h
attribute [simp] Tryz.f39
def z88a : Ann := ⟨[4], [], [], [], [], some [4], [], [], [(64, 0, 92, 2)], []⟩
@[simp] theorem z88a_draws : z88a.draws = [] := rfl
@[simp] theorem z88a_exits : z88a.exits = [] := rfl
@[simp] theorem z88a_rets : z88a.rets = some [4] := rfl
@[simp] theorem z88a_keep : z88a.keep = [4] := rfl
@[simp] theorem z88a_cond : z88a.cond = [] := rfl
@[simp] theorem z88a_rows : z88a.rows = [] := rfl
@[simp] theorem z88a_loops : z88a.loops = [] := rfl
@[simp] theorem z88a_ecalls : z88a.ecalls = [] := rfl
@[simp] theorem z88a_crows : z88a.crows = [(64, 0, 92, 2)] := rfl
@[simp] theorem z88a_tails : z88a.tails = [] := rfl
@[simp] def z88b : PL := []
def z88c : CT := ⟨callOf (z88b ), callOfE noE, gl⟩
@[simp] theorem z88c_p (f : FuncId) (ds : List D) : z88c.p f ds = callOf (z88b ) f ds := Eq.trans rfl rfl
@[simp] theorem z88c_e (f : FuncId) (hs : List (Nat × O)) (ds : List D) : z88c.e f hs ds = callOfE noE f hs ds := Eq.trans rfl rfl
@[simp] theorem z88c_g (g : Nat) : z88c.g g = gl g := Eq.trans rfl rfl
def L_grading_better (i n : Nat) (s : St) : OS := atN Tryz.prog z88c z88a 16 (bodyOf Tryz.f39) i n s
def z88h (n i : Nat) (s : St) : OS := atH Tryz.prog z88c z88a 16 (bodyOf Tryz.f39) n i s
@[simp] theorem z88h_eq (n i : Nat) (s : St) : z88h n i s = L_grading_better i n (headOf (z88a.loops.lookup i) s) := rfl
def R_grading_better (i : Nat) (s : St) : OS := stepL Tryz.prog z88c z88a 16 (bodyOf Tryz.f39) i s
theorem z88k : okLoops (bodyOf Tryz.f39) = true := by kernel_rfl
def F_grading_better (ds : List D) : Option D := runF Tryz.prog z88c z88a 16 (bodyOf Tryz.f39) [.tmp 4] ds
theorem F_grading_better_eq (ds : List D) : F_grading_better ds = runG Tryz.prog z88c (z88h bigL) z88a 16 (bodyOf Tryz.f39) [.tmp 4] ds := runG_eq z88k _ ds
theorem C_grading_better (ds : List D) (r : D) (h : F_grading_better ds = some r) : Contract Tryz.prog gl 39 ds r := contract_of mix Tryz.func39 rfl (by kernel_rfl) (by kernel_rfl) (by decide) (call := z88c) ⟨callOf_ok z88b trivial, callOfE_ok noE trivial⟩ h
attribute [simp] Tryz.f12
def z89a : Ann := ⟨[0, 1, 4, 5], [19, 22], [], [], [], some [4, 5], [], [], [(64, 0, 92, 2)], []⟩
@[simp] theorem z89a_draws : z89a.draws = [] := rfl
@[simp] theorem z89a_exits : z89a.exits = [] := rfl
@[simp] theorem z89a_rets : z89a.rets = some [4, 5] := rfl
@[simp] theorem z89a_keep : z89a.keep = [0, 1, 4, 5] := rfl
@[simp] theorem z89a_cond : z89a.cond = [19, 22] := rfl
@[simp] theorem z89a_rows : z89a.rows = [] := rfl
@[simp] theorem z89a_loops : z89a.loops = [] := rfl
@[simp] theorem z89a_ecalls : z89a.ecalls = [] := rfl
@[simp] theorem z89a_crows : z89a.crows = [(64, 0, 92, 2)] := rfl
@[simp] theorem z89a_tails : z89a.tails = [] := rfl
@[simp] def z89b : PL := [(39, F_grading_better)]
def z89c : CT := ⟨callOf (z89b ), callOfE noE, gl⟩
@[simp] theorem z89c_p (f : FuncId) (ds : List D) : z89c.p f ds = callOf (z89b ) f ds := Eq.trans rfl rfl
@[simp] theorem z89c_e (f : FuncId) (hs : List (Nat × O)) (ds : List D) : z89c.e f hs ds = callOfE noE f hs ds := Eq.trans rfl rfl
@[simp] theorem z89c_g (g : Nat) : z89c.g g = gl g := Eq.trans rfl rfl
def L_grading_Again (i n : Nat) (s : St) : OS := atN Tryz.prog z89c z89a 24 (bodyOf Tryz.f12) i n s
def z89h (n i : Nat) (s : St) : OS := atH Tryz.prog z89c z89a 24 (bodyOf Tryz.f12) n i s
@[simp] theorem z89h_eq (n i : Nat) (s : St) : z89h n i s = L_grading_Again i n (headOf (z89a.loops.lookup i) s) := rfl
def R_grading_Again (i : Nat) (s : St) : OS := stepL Tryz.prog z89c z89a 24 (bodyOf Tryz.f12) i s
theorem z89k : okLoops (bodyOf Tryz.f12) = true := by kernel_rfl
def F_grading_Again (ds : List D) : Option D := runF Tryz.prog z89c z89a 24 (bodyOf Tryz.f12) [.tmp 4, .tmp 5] ds
theorem F_grading_Again_eq (ds : List D) : F_grading_Again ds = runG Tryz.prog z89c (z89h bigL) z89a 24 (bodyOf Tryz.f12) [.tmp 4, .tmp 5] ds := runG_eq z89k _ ds
theorem C_grading_Again (ds : List D) (r : D) (h : F_grading_Again ds = some r) : Contract Tryz.prog gl 12 ds r := contract_of mix Tryz.func12 rfl (by kernel_rfl) (by kernel_rfl) (by decide) (call := z89c) ⟨callOf_ok z89b ⟨C_grading_better, trivial⟩, callOfE_ok noE trivial⟩ h
attribute [simp] Tryz.f164
def z90a : Ann := ⟨[2], [], [], [], [], some [2], [], [], [(64, 0, 92, 2)], []⟩
@[simp] theorem z90a_draws : z90a.draws = [] := rfl
@[simp] theorem z90a_exits : z90a.exits = [] := rfl
@[simp] theorem z90a_rets : z90a.rets = some [2] := rfl
@[simp] theorem z90a_keep : z90a.keep = [2] := rfl
@[simp] theorem z90a_cond : z90a.cond = [] := rfl
@[simp] theorem z90a_rows : z90a.rows = [] := rfl
@[simp] theorem z90a_loops : z90a.loops = [] := rfl
@[simp] theorem z90a_ecalls : z90a.ecalls = [] := rfl
@[simp] theorem z90a_crows : z90a.crows = [(64, 0, 92, 2)] := rfl
@[simp] theorem z90a_tails : z90a.tails = [] := rfl
@[simp] def z90b : PL := []
def z90c : CT := ⟨callOf (z90b ), callOfE noE, gl⟩
@[simp] theorem z90c_p (f : FuncId) (ds : List D) : z90c.p f ds = callOf (z90b ) f ds := Eq.trans rfl rfl
@[simp] theorem z90c_e (f : FuncId) (hs : List (Nat × O)) (ds : List D) : z90c.e f hs ds = callOfE noE f hs ds := Eq.trans rfl rfl
@[simp] theorem z90c_g (g : Nat) : z90c.g g = gl g := Eq.trans rfl rfl
def L_ref02_digit (i n : Nat) (s : St) : OS := atN Tryz.prog z90c z90a 9 (bodyOf Tryz.f164) i n s
def z90h (n i : Nat) (s : St) : OS := atH Tryz.prog z90c z90a 9 (bodyOf Tryz.f164) n i s
@[simp] theorem z90h_eq (n i : Nat) (s : St) : z90h n i s = L_ref02_digit i n (headOf (z90a.loops.lookup i) s) := rfl
def R_ref02_digit (i : Nat) (s : St) : OS := stepL Tryz.prog z90c z90a 9 (bodyOf Tryz.f164) i s
theorem z90k : okLoops (bodyOf Tryz.f164) = true := by kernel_rfl
def F_ref02_digit (ds : List D) : Option D := runF Tryz.prog z90c z90a 9 (bodyOf Tryz.f164) [.tmp 2] ds
theorem F_ref02_digit_eq (ds : List D) : F_ref02_digit ds = runG Tryz.prog z90c (z90h bigL) z90a 9 (bodyOf Tryz.f164) [.tmp 2] ds := runG_eq z90k _ ds
theorem C_ref02_digit (ds : List D) (r : D) (h : F_ref02_digit ds = some r) : Contract Tryz.prog gl 164 ds r := contract_of mix Tryz.func164 rfl (by kernel_rfl) (by kernel_rfl) (by decide) (call := z90c) ⟨callOf_ok z90b trivial, callOfE_ok noE trivial⟩ h
attribute [simp] Tryz.f111
def z91a : Ann := ⟨[0, 2, 3, 4], [12, 16, 47], [], [(4, [0, 3])], [(0, []), (1, [0, 3])], some [2], [], [], [(64, 0, 92, 2)], []⟩
@[simp] theorem z91a_draws : z91a.draws = [] := rfl
@[simp] theorem z91a_exits : z91a.exits = [(0, []), (1, [0, 3])] := rfl
@[simp] theorem z91a_rets : z91a.rets = some [2] := rfl
@[simp] theorem z91a_keep : z91a.keep = [0, 2, 3, 4] := rfl
@[simp] theorem z91a_cond : z91a.cond = [12, 16, 47] := rfl
@[simp] theorem z91a_rows : z91a.rows = [] := rfl
@[simp] theorem z91a_loops : z91a.loops = [(4, [0, 3])] := rfl
@[simp] theorem z91a_ecalls : z91a.ecalls = [] := rfl
@[simp] theorem z91a_crows : z91a.crows = [(64, 0, 92, 2)] := rfl
@[simp] theorem z91a_tails : z91a.tails = [] := rfl
@[simp] def z91b : PL := [(164, F_ref02_digit)]
def z91c : CT := ⟨callOf (z91b ), callOfE noE, gl⟩
@[simp] theorem z91c_p (f : FuncId) (ds : List D) : z91c.p f ds = callOf (z91b ) f ds := Eq.trans rfl rfl
@[simp] theorem z91c_e (f : FuncId) (hs : List (Nat × O)) (ds : List D) : z91c.e f hs ds = callOfE noE f hs ds := Eq.trans rfl rfl
@[simp] theorem z91c_g (g : Nat) : z91c.g g = gl g := Eq.trans rfl rfl
def L_ref02_IsName (i n : Nat) (s : St) : OS := atN Tryz.prog z91c z91a 48 (bodyOf Tryz.f111) i n s
def z91h (n i : Nat) (s : St) : OS := atH Tryz.prog z91c z91a 48 (bodyOf Tryz.f111) n i s
@[simp] theorem z91h_eq (n i : Nat) (s : St) : z91h n i s = L_ref02_IsName i n (headOf (z91a.loops.lookup i) s) := rfl
def R_ref02_IsName (i : Nat) (s : St) : OS := stepL Tryz.prog z91c z91a 48 (bodyOf Tryz.f111) i s
theorem z91k : okLoops (bodyOf Tryz.f111) = true := by kernel_rfl
theorem L_ref02_IsName_zero (i : Nat) (s : St) : L_ref02_IsName i 0 s = none := rfl
theorem L_ref02_IsName_succ (i n : Nat) (s : St) : L_ref02_IsName i (n + 1) s = andThen (R_ref02_IsName i s) (z91h n i) := atN_succ z91k i n s
theorem R_ref02_IsName_eq (i : Nat) (s : St) : R_ref02_IsName i s = runS Tryz.prog z91c (z91h bigL) z91a 48 (loopAt (bodyOf Tryz.f111) i) s := rfl
def F_ref02_IsName (ds : List D) : Option D := runF Tryz.prog z91c z91a 48 (bodyOf Tryz.f111) [.tmp 2] ds
theorem F_ref02_IsName_eq (ds : List D) : F_ref02_IsName ds = runG Tryz.prog z91c (z91h bigL) z91a 48 (bodyOf Tryz.f111) [.tmp 2] ds := runG_eq z91k _ ds
theorem C_ref02_IsName (ds : List D) (r : D) (h : F_ref02_IsName ds = some r) : Contract Tryz.prog gl 111 ds r := contract_of mix Tryz.func111 rfl (by kernel_rfl) (by kernel_rfl) (by decide) (call := z91c) ⟨callOf_ok z91b ⟨C_ref02_digit, trivial⟩, callOfE_ok noE trivial⟩ h
attribute [simp] Tryz.f165
def z92a : Ann := ⟨[1, 2], [], [], [], [], some [2], [], [], [(64, 0, 92, 2)], []⟩
@[simp] theorem z92a_draws : z92a.draws = [] := rfl
@[simp] theorem z92a_exits : z92a.exits = [] := rfl
@[simp] theorem z92a_rets : z92a.rets = some [2] := rfl
@[simp] theorem z92a_keep : z92a.keep = [1, 2] := rfl
@[simp] theorem z92a_cond : z92a.cond = [] := rfl
@[simp] theorem z92a_rows : z92a.rows = [] := rfl
@[simp] theorem z92a_loops : z92a.loops = [] := rfl
@[simp] theorem z92a_ecalls : z92a.ecalls = [] := rfl
@[simp] theorem z92a_crows : z92a.crows = [(64, 0, 92, 2)] := rfl
@[simp] theorem z92a_tails : z92a.tails = [] := rfl
@[simp] def z92b : PL := []
def z92c : CT := ⟨callOf (z92b ), callOfE noE, gl⟩
@[simp] theorem z92c_p (f : FuncId) (ds : List D) : z92c.p f ds = callOf (z92b ) f ds := Eq.trans rfl rfl
@[simp] theorem z92c_e (f : FuncId) (hs : List (Nat × O)) (ds : List D) : z92c.e f hs ds = callOfE noE f hs ds := Eq.trans rfl rfl
@[simp] theorem z92c_g (g : Nat) : z92c.g g = gl g := Eq.trans rfl rfl
def L_ref19_sized (i n : Nat) (s : St) : OS := atN Tryz.prog z92c z92a 21 (bodyOf Tryz.f165) i n s
def z92h (n i : Nat) (s : St) : OS := atH Tryz.prog z92c z92a 21 (bodyOf Tryz.f165) n i s
@[simp] theorem z92h_eq (n i : Nat) (s : St) : z92h n i s = L_ref19_sized i n (headOf (z92a.loops.lookup i) s) := rfl
def R_ref19_sized (i : Nat) (s : St) : OS := stepL Tryz.prog z92c z92a 21 (bodyOf Tryz.f165) i s
theorem z92k : okLoops (bodyOf Tryz.f165) = true := by kernel_rfl
def F_ref19_sized (ds : List D) : Option D := runF Tryz.prog z92c z92a 21 (bodyOf Tryz.f165) [.tmp 2] ds
theorem F_ref19_sized_eq (ds : List D) : F_ref19_sized ds = runG Tryz.prog z92c (z92h bigL) z92a 21 (bodyOf Tryz.f165) [.tmp 2] ds := runG_eq z92k _ ds
theorem C_ref19_sized (ds : List D) (r : D) (h : F_ref19_sized ds = some r) : Contract Tryz.prog gl 165 ds r := contract_of mix Tryz.func165 rfl (by kernel_rfl) (by kernel_rfl) (by decide) (call := z92c) ⟨callOf_ok z92b trivial, callOfE_ok noE trivial⟩ h
attribute [simp] Tryz.f112
def z93a : Ann := ⟨[1, 2, 3], [16], [], [], [], some [2, 3], [(3, 17)], [], [(64, 0, 92, 2)], []⟩
@[simp] theorem z93a_draws : z93a.draws = [(3, 17)] := rfl
@[simp] theorem z93a_exits : z93a.exits = [] := rfl
@[simp] theorem z93a_rets : z93a.rets = some [2, 3] := rfl
@[simp] theorem z93a_keep : z93a.keep = [1, 2, 3] := rfl
@[simp] theorem z93a_cond : z93a.cond = [16] := rfl
@[simp] theorem z93a_rows : z93a.rows = [] := rfl
@[simp] theorem z93a_loops : z93a.loops = [] := rfl
@[simp] theorem z93a_ecalls : z93a.ecalls = [] := rfl
@[simp] theorem z93a_crows : z93a.crows = [(64, 0, 92, 2)] := rfl
@[simp] theorem z93a_tails : z93a.tails = [] := rfl
@[simp] def z93b : PL := [(165, F_ref19_sized)]
def z93c : CT := ⟨callOf (z93b ), callOfE noE, gl⟩
@[simp] theorem z93c_p (f : FuncId) (ds : List D) : z93c.p f ds = callOf (z93b ) f ds := Eq.trans rfl rfl
@[simp] theorem z93c_e (f : FuncId) (hs : List (Nat × O)) (ds : List D) : z93c.e f hs ds = callOfE noE f hs ds := Eq.trans rfl rfl
@[simp] theorem z93c_g (g : Nat) : z93c.g g = gl g := Eq.trans rfl rfl
def L_ref19_Green (i n : Nat) (s : St) : OS := atN Tryz.prog z93c z93a 33 (bodyOf Tryz.f112) i n s
def z93h (n i : Nat) (s : St) : OS := atH Tryz.prog z93c z93a 33 (bodyOf Tryz.f112) n i s
@[simp] theorem z93h_eq (n i : Nat) (s : St) : z93h n i s = L_ref19_Green i n (headOf (z93a.loops.lookup i) s) := rfl
def R_ref19_Green (i : Nat) (s : St) : OS := stepL Tryz.prog z93c z93a 33 (bodyOf Tryz.f112) i s
theorem z93k : okLoops (bodyOf Tryz.f112) = true := by kernel_rfl
def F_ref19_Green (ds : List D) : Option D := runF Tryz.prog z93c z93a 33 (bodyOf Tryz.f112) [.tmp 2, .tmp 3] ds
theorem F_ref19_Green_eq (ds : List D) : F_ref19_Green ds = runG Tryz.prog z93c (z93h bigL) z93a 33 (bodyOf Tryz.f112) [.tmp 2, .tmp 3] ds := runG_eq z93k _ ds
theorem C_ref19_Green (ds : List D) (r : D) (h : F_ref19_Green ds = some r) : Contract Tryz.prog gl 112 ds r := contract_of mix Tryz.func112 rfl (by kernel_rfl) (by kernel_rfl) (by decide) (call := z93c) ⟨callOf_ok z93b ⟨C_ref19_sized, trivial⟩, callOfE_ok noE trivial⟩ h
attribute [simp] Tryz.f113
def z94a : Ann := ⟨[1, 2, 3, 4], [8, 12, 19, 24, 40, 56, 61, 77], [], [(8, [1, 3]), (15, [1, 4])], [(0, [1]), (1, [1, 3]), (2, []), (3, [1, 4])], some [2], [(12, 14)], [], [(64, 0, 92, 2)], []⟩
@[simp] theorem z94a_draws : z94a.draws = [(12, 14)] := rfl
@[simp] theorem z94a_exits : z94a.exits = [(0, [1]), (1, [1, 3]), (2, []), (3, [1, 4])] := rfl
@[simp] theorem z94a_rets : z94a.rets = some [2] := rfl
@[simp] theorem z94a_keep : z94a.keep = [1, 2, 3, 4] := rfl
@[simp] theorem z94a_cond : z94a.cond = [8, 12, 19, 24, 40, 56, 61, 77] := rfl
@[simp] theorem z94a_rows : z94a.rows = [] := rfl
@[simp] theorem z94a_loops : z94a.loops = [(8, [1, 3]), (15, [1, 4])] := rfl
@[simp] theorem z94a_ecalls : z94a.ecalls = [] := rfl
@[simp] theorem z94a_crows : z94a.crows = [(64, 0, 92, 2)] := rfl
@[simp] theorem z94a_tails : z94a.tails = [] := rfl
@[simp] def z94b : PL := []
def z94c : CT := ⟨callOf (z94b ), callOfE noE, gl⟩
@[simp] theorem z94c_p (f : FuncId) (ds : List D) : z94c.p f ds = callOf (z94b ) f ds := Eq.trans rfl rfl
@[simp] theorem z94c_e (f : FuncId) (hs : List (Nat × O)) (ds : List D) : z94c.e f hs ds = callOfE noE f hs ds := Eq.trans rfl rfl
@[simp] theorem z94c_g (g : Nat) : z94c.g g = gl g := Eq.trans rfl rfl
def L_ref19_checkLengths (i n : Nat) (s : St) : OS := atN Tryz.prog z94c z94a 78 (bodyOf Tryz.f113) i n s
def z94h (n i : Nat) (s : St) : OS := atH Tryz.prog z94c z94a 78 (bodyOf Tryz.f113) n i s
@[simp] theorem z94h_eq (n i : Nat) (s : St) : z94h n i s = L_ref19_checkLengths i n (headOf (z94a.loops.lookup i) s) := rfl
def R_ref19_checkLengths (i : Nat) (s : St) : OS := stepL Tryz.prog z94c z94a 78 (bodyOf Tryz.f113) i s
theorem z94k : okLoops (bodyOf Tryz.f113) = true := by kernel_rfl
theorem L_ref19_checkLengths_zero (i : Nat) (s : St) : L_ref19_checkLengths i 0 s = none := rfl
theorem L_ref19_checkLengths_succ (i n : Nat) (s : St) : L_ref19_checkLengths i (n + 1) s = andThen (R_ref19_checkLengths i s) (z94h n i) := atN_succ z94k i n s
theorem R_ref19_checkLengths_eq (i : Nat) (s : St) : R_ref19_checkLengths i s = runS Tryz.prog z94c (z94h bigL) z94a 78 (loopAt (bodyOf Tryz.f113) i) s := rfl
def F_ref19_checkLengths (ds : List D) : Option D := runF Tryz.prog z94c z94a 78 (bodyOf Tryz.f113) [.tmp 2] ds
theorem F_ref19_checkLengths_eq (ds : List D) : F_ref19_checkLengths ds = runG Tryz.prog z94c (z94h bigL) z94a 78 (bodyOf Tryz.f113) [.tmp 2] ds := runG_eq z94k _ ds
theorem C_ref19_checkLengths (ds : List D) (r : D) (h : F_ref19_checkLengths ds = some r) : Contract Tryz.prog gl 113 ds r := contract_of mix Tryz.func113 rfl (by kernel_rfl) (by kernel_rfl) (by decide) (call := z94c) ⟨callOf_ok z94b trivial, callOfE_ok noE trivial⟩ h
attribute [simp] Tryz.f61
def z95a : Ann := ⟨[0, 2, 3, 4, 5, 7, 8], [11, 15, 25, 28, 38, 78, 85, 89], [], [(4, [0, 3]), (10, [0, 3, 4, 5])], [(0, []), (1, [0, 3]), (2, [0, 3, 4]), (3, [0, 3, 4, 5])], some [2], [(12, 7)], [], [(64, 0, 92, 2)], []⟩
@[simp] theorem z95a_draws : z95a.draws = [(12, 7)] := rfl
@[simp] theorem z95a_exits : z95a.exits = [(0, []), (1, [0, 3]), (2, [0, 3, 4]), (3, [0, 3, 4, 5])] := rfl
@[simp] theorem z95a_rets : z95a.rets = some [2] := rfl
@[simp] theorem z95a_keep : z95a.keep = [0, 2, 3, 4, 5, 7, 8] := rfl
@[simp] theorem z95a_cond : z95a.cond = [11, 15, 25, 28, 38, 78, 85, 89] := rfl
@[simp] theorem z95a_rows : z95a.rows = [] := rfl
@[simp] theorem z95a_loops : z95a.loops = [(4, [0, 3]), (10, [0, 3, 4, 5])] := rfl
@[simp] theorem z95a_ecalls : z95a.ecalls = [] := rfl
@[simp] theorem z95a_crows : z95a.crows = [(64, 0, 92, 2)] := rfl
@[simp] theorem z95a_tails : z95a.tails = [] := rfl
@[simp] def z95b : PL := [(111, F_ref02_IsName), (112, F_ref19_Green), (113, F_ref19_checkLengths)]
def z95c : CT := ⟨callOf (z95b ), callOfE noE, gl⟩
@[simp] theorem z95c_p (f : FuncId) (ds : List D) : z95c.p f ds = callOf (z95b ) f ds := Eq.trans rfl rfl
@[simp] theorem z95c_e (f : FuncId) (hs : List (Nat × O)) (ds : List D) : z95c.e f hs ds = callOfE noE f hs ds := Eq.trans rfl rfl
@[simp] theorem z95c_g (g : Nat) : z95c.g g = gl g := Eq.trans rfl rfl
def L_ref19_Check (i n : Nat) (s : St) : OS := atN Tryz.prog z95c z95a 91 (bodyOf Tryz.f61) i n s
def z95h (n i : Nat) (s : St) : OS := atH Tryz.prog z95c z95a 91 (bodyOf Tryz.f61) n i s
@[simp] theorem z95h_eq (n i : Nat) (s : St) : z95h n i s = L_ref19_Check i n (headOf (z95a.loops.lookup i) s) := rfl
def R_ref19_Check (i : Nat) (s : St) : OS := stepL Tryz.prog z95c z95a 91 (bodyOf Tryz.f61) i s
theorem z95k : okLoops (bodyOf Tryz.f61) = true := by kernel_rfl
theorem L_ref19_Check_zero (i : Nat) (s : St) : L_ref19_Check i 0 s = none := rfl
theorem L_ref19_Check_succ (i n : Nat) (s : St) : L_ref19_Check i (n + 1) s = andThen (R_ref19_Check i s) (z95h n i) := atN_succ z95k i n s
theorem R_ref19_Check_eq (i : Nat) (s : St) : R_ref19_Check i s = runS Tryz.prog z95c (z95h bigL) z95a 91 (loopAt (bodyOf Tryz.f61) i) s := rfl
def F_ref19_Check (ds : List D) : Option D := runF Tryz.prog z95c z95a 91 (bodyOf Tryz.f61) [.tmp 2] ds
theorem F_ref19_Check_eq (ds : List D) : F_ref19_Check ds = runG Tryz.prog z95c (z95h bigL) z95a 91 (bodyOf Tryz.f61) [.tmp 2] ds := runG_eq z95k _ ds
theorem C_ref19_Check (ds : List D) (r : D) (h : F_ref19_Check ds = some r) : Contract Tryz.prog gl 61 ds r := contract_of mix Tryz.func61 rfl (by kernel_rfl) (by kernel_rfl) (by decide) (call := z95c) ⟨callOf_ok z95b ⟨C_ref02_IsName, C_ref19_Green, C_ref19_checkLengths, trivial⟩, callOfE_ok noE trivial⟩ h
attribute [simp] Tryz.f201
def z96a : Ann := ⟨[2], [], [], [], [], some [2], [], [], [(64, 0, 92, 2)], []⟩
@[simp] theorem z96a_draws : z96a.draws = [] := rfl
@[simp] theorem z96a_exits : z96a.exits = [] := rfl
@[simp] theorem z96a_rets : z96a.rets = some [2] := rfl
@[simp] theorem z96a_keep : z96a.keep = [2] := rfl
@[simp] theorem z96a_cond : z96a.cond = [] := rfl
@[simp] theorem z96a_rows : z96a.rows = [] := rfl
@[simp] theorem z96a_loops : z96a.loops = [] := rfl
@[simp] theorem z96a_ecalls : z96a.ecalls = [] := rfl
@[simp] theorem z96a_crows : z96a.crows = [(64, 0, 92, 2)] := rfl
@[simp] theorem z96a_tails : z96a.tails = [] := rfl
@[simp] def z96b : PL := []
def z96c : CT := ⟨callOf (z96b ), callOfE noE, gl⟩
@[simp] theorem z96c_p (f : FuncId) (ds : List D) : z96c.p f ds = callOf (z96b ) f ds := Eq.trans rfl rfl
@[simp] theorem z96c_e (f : FuncId) (hs : List (Nat × O)) (ds : List D) : z96c.e f hs ds = callOfE noE f hs ds := Eq.trans rfl rfl
@[simp] theorem z96c_g (g : Nat) : z96c.g g = gl g := Eq.trans rfl rfl
def L_ref02_capital (i n : Nat) (s : St) : OS := atN Tryz.prog z96c z96a 9 (bodyOf Tryz.f201) i n s
def z96h (n i : Nat) (s : St) : OS := atH Tryz.prog z96c z96a 9 (bodyOf Tryz.f201) n i s
@[simp] theorem z96h_eq (n i : Nat) (s : St) : z96h n i s = L_ref02_capital i n (headOf (z96a.loops.lookup i) s) := rfl
def R_ref02_capital (i : Nat) (s : St) : OS := stepL Tryz.prog z96c z96a 9 (bodyOf Tryz.f201) i s
theorem z96k : okLoops (bodyOf Tryz.f201) = true := by kernel_rfl
def F_ref02_capital (ds : List D) : Option D := runF Tryz.prog z96c z96a 9 (bodyOf Tryz.f201) [.tmp 2] ds
theorem F_ref02_capital_eq (ds : List D) : F_ref02_capital ds = runG Tryz.prog z96c (z96h bigL) z96a 9 (bodyOf Tryz.f201) [.tmp 2] ds := runG_eq z96k _ ds
theorem C_ref02_capital (ds : List D) (r : D) (h : F_ref02_capital ds = some r) : Contract Tryz.prog gl 201 ds r := contract_of mix Tryz.func201 rfl (by kernel_rfl) (by kernel_rfl) (by decide) (call := z96c) ⟨callOf_ok z96b trivial, callOfE_ok noE trivial⟩ h
attribute [simp] Tryz.f202
def z97a : Ann := ⟨[0, 2, 3, 4], [8], [], [(3, [0, 3, 4])], [(0, [3]), (1, [0, 3, 4])], some [2], [], [], [(64, 0, 92, 2)], []⟩
@[simp] theorem z97a_draws : z97a.draws = [] := rfl
@[simp] theorem z97a_exits : z97a.exits = [(0, [3]), (1, [0, 3, 4])] := rfl
@[simp] theorem z97a_rets : z97a.rets = some [2] := rfl
@[simp] theorem z97a_keep : z97a.keep = [0, 2, 3, 4] := rfl
@[simp] theorem z97a_cond : z97a.cond = [8] := rfl
@[simp] theorem z97a_rows : z97a.rows = [] := rfl
@[simp] theorem z97a_loops : z97a.loops = [(3, [0, 3, 4])] := rfl
@[simp] theorem z97a_ecalls : z97a.ecalls = [] := rfl
@[simp] theorem z97a_crows : z97a.crows = [(64, 0, 92, 2)] := rfl
@[simp] theorem z97a_tails : z97a.tails = [] := rfl
@[simp] def z97b : PL := []
def z97c : CT := ⟨callOf (z97b ), callOfE noE, gl⟩
@[simp] theorem z97c_p (f : FuncId) (ds : List D) : z97c.p f ds = callOf (z97b ) f ds := Eq.trans rfl rfl
@[simp] theorem z97c_e (f : FuncId) (hs : List (Nat × O)) (ds : List D) : z97c.e f hs ds = callOfE noE f hs ds := Eq.trans rfl rfl
@[simp] theorem z97c_g (g : Nat) : z97c.g g = gl g := Eq.trans rfl rfl
def L_ref02_Letter (i n : Nat) (s : St) : OS := atN Tryz.prog z97c z97a 25 (bodyOf Tryz.f202) i n s
def z97h (n i : Nat) (s : St) : OS := atH Tryz.prog z97c z97a 25 (bodyOf Tryz.f202) n i s
@[simp] theorem z97h_eq (n i : Nat) (s : St) : z97h n i s = L_ref02_Letter i n (headOf (z97a.loops.lookup i) s) := rfl
def R_ref02_Letter (i : Nat) (s : St) : OS := stepL Tryz.prog z97c z97a 25 (bodyOf Tryz.f202) i s
theorem z97k : okLoops (bodyOf Tryz.f202) = true := by kernel_rfl
theorem L_ref02_Letter_zero (i : Nat) (s : St) : L_ref02_Letter i 0 s = none := rfl
theorem L_ref02_Letter_succ (i n : Nat) (s : St) : L_ref02_Letter i (n + 1) s = andThen (R_ref02_Letter i s) (z97h n i) := atN_succ z97k i n s
theorem R_ref02_Letter_eq (i : Nat) (s : St) : R_ref02_Letter i s = runS Tryz.prog z97c (z97h bigL) z97a 25 (loopAt (bodyOf Tryz.f202) i) s := rfl
def F_ref02_Letter (ds : List D) : Option D := runF Tryz.prog z97c z97a 25 (bodyOf Tryz.f202) [.tmp 2] ds
theorem F_ref02_Letter_eq (ds : List D) : F_ref02_Letter ds = runG Tryz.prog z97c (z97h bigL) z97a 25 (bodyOf Tryz.f202) [.tmp 2] ds := runG_eq z97k _ ds
theorem C_ref02_Letter (ds : List D) (r : D) (h : F_ref02_Letter ds = some r) : Contract Tryz.prog gl 202 ds r := contract_of mix Tryz.func202 rfl (by kernel_rfl) (by kernel_rfl) (by decide) (call := z97c) ⟨callOf_ok z97b trivial, callOfE_ok noE trivial⟩ h
attribute [simp] Tryz.f166
def z98a : Ann := ⟨[0, 2, 3, 4, 5, 6], [9, 13, 15, 22, 36], [], [(7, [0, 5, 6])], [(0, [0, 5]), (1, [0, 5, 6])], some [2, 3, 4], [(12, 5)], [], [(64, 0, 92, 2)], []⟩
@[simp] theorem z98a_draws : z98a.draws = [(12, 5)] := rfl
@[simp] theorem z98a_exits : z98a.exits = [(0, [0, 5]), (1, [0, 5, 6])] := rfl
@[simp] theorem z98a_rets : z98a.rets = some [2, 3, 4] := rfl
@[simp] theorem z98a_keep : z98a.keep = [0, 2, 3, 4, 5, 6] := rfl
@[simp] theorem z98a_cond : z98a.cond = [9, 13, 15, 22, 36] := rfl
@[simp] theorem z98a_rows : z98a.rows = [] := rfl
@[simp] theorem z98a_loops : z98a.loops = [(7, [0, 5, 6])] := rfl
@[simp] theorem z98a_ecalls : z98a.ecalls = [] := rfl
@[simp] theorem z98a_crows : z98a.crows = [(64, 0, 92, 2)] := rfl
@[simp] theorem z98a_tails : z98a.tails = [] := rfl
@[simp] def z98b : PL := [(164, F_ref02_digit), (201, F_ref02_capital), (202, F_ref02_Letter)]
def z98c : CT := ⟨callOf (z98b ), callOfE noE, gl⟩
@[simp] theorem z98c_p (f : FuncId) (ds : List D) : z98c.p f ds = callOf (z98b ) f ds := Eq.trans rfl rfl
@[simp] theorem z98c_e (f : FuncId) (hs : List (Nat × O)) (ds : List D) : z98c.e f hs ds = callOfE noE f hs ds := Eq.trans rfl rfl
@[simp] theorem z98c_g (g : Nat) : z98c.g g = gl g := Eq.trans rfl rfl
def L_ref02_Split (i n : Nat) (s : St) : OS := atN Tryz.prog z98c z98a 40 (bodyOf Tryz.f166) i n s
def z98h (n i : Nat) (s : St) : OS := atH Tryz.prog z98c z98a 40 (bodyOf Tryz.f166) n i s
@[simp] theorem z98h_eq (n i : Nat) (s : St) : z98h n i s = L_ref02_Split i n (headOf (z98a.loops.lookup i) s) := rfl
def R_ref02_Split (i : Nat) (s : St) : OS := stepL Tryz.prog z98c z98a 40 (bodyOf Tryz.f166) i s
theorem z98k : okLoops (bodyOf Tryz.f166) = true := by kernel_rfl
theorem L_ref02_Split_zero (i : Nat) (s : St) : L_ref02_Split i 0 s = none := rfl
theorem L_ref02_Split_succ (i n : Nat) (s : St) : L_ref02_Split i (n + 1) s = andThen (R_ref02_Split i s) (z98h n i) := atN_succ z98k i n s
theorem R_ref02_Split_eq (i : Nat) (s : St) : R_ref02_Split i s = runS Tryz.prog z98c (z98h bigL) z98a 40 (loopAt (bodyOf Tryz.f166) i) s := rfl
def F_ref02_Split (ds : List D) : Option D := runF Tryz.prog z98c z98a 40 (bodyOf Tryz.f166) [.tmp 2, .tmp 3, .tmp 4] ds
theorem F_ref02_Split_eq (ds : List D) : F_ref02_Split ds = runG Tryz.prog z98c (z98h bigL) z98a 40 (bodyOf Tryz.f166) [.tmp 2, .tmp 3, .tmp 4] ds := runG_eq z98k _ ds
theorem C_ref02_Split (ds : List D) (r : D) (h : F_ref02_Split ds = some r) : Contract Tryz.prog gl 166 ds r := contract_of mix Tryz.func166 rfl (by kernel_rfl) (by kernel_rfl) (by decide) (call := z98c) ⟨callOf_ok z98b ⟨C_ref02_digit, C_ref02_capital, C_ref02_Letter, trivial⟩, callOfE_ok noE trivial⟩ h
attribute [simp] Tryz.f114
def z99a : Ann := ⟨[4, 5, 7], [], [], [], [], some [4], [], [], [(64, 0, 92, 2)], []⟩
@[simp] theorem z99a_draws : z99a.draws = [] := rfl
@[simp] theorem z99a_exits : z99a.exits = [] := rfl
@[simp] theorem z99a_rets : z99a.rets = some [4] := rfl
@[simp] theorem z99a_keep : z99a.keep = [4, 5, 7] := rfl
@[simp] theorem z99a_cond : z99a.cond = [] := rfl
@[simp] theorem z99a_rows : z99a.rows = [] := rfl
@[simp] theorem z99a_loops : z99a.loops = [] := rfl
@[simp] theorem z99a_ecalls : z99a.ecalls = [] := rfl
@[simp] theorem z99a_crows : z99a.crows = [(64, 0, 92, 2)] := rfl
@[simp] theorem z99a_tails : z99a.tails = [] := rfl
@[simp] def z99b : PL := [(166, F_ref02_Split)]
def z99c : CT := ⟨callOf (z99b ), callOfE noE, gl⟩
@[simp] theorem z99c_p (f : FuncId) (ds : List D) : z99c.p f ds = callOf (z99b ) f ds := Eq.trans rfl rfl
@[simp] theorem z99c_e (f : FuncId) (hs : List (Nat × O)) (ds : List D) : z99c.e f hs ds = callOfE noE f hs ds := Eq.trans rfl rfl
@[simp] theorem z99c_g (g : Nat) : z99c.g g = gl g := Eq.trans rfl rfl
def L_ref02_Is (i n : Nat) (s : St) : OS := atN Tryz.prog z99c z99a 21 (bodyOf Tryz.f114) i n s
def z99h (n i : Nat) (s : St) : OS := atH Tryz.prog z99c z99a 21 (bodyOf Tryz.f114) n i s
@[simp] theorem z99h_eq (n i : Nat) (s : St) : z99h n i s = L_ref02_Is i n (headOf (z99a.loops.lookup i) s) := rfl
def R_ref02_Is (i : Nat) (s : St) : OS := stepL Tryz.prog z99c z99a 21 (bodyOf Tryz.f114) i s
theorem z99k : okLoops (bodyOf Tryz.f114) = true := by kernel_rfl
def F_ref02_Is (ds : List D) : Option D := runF Tryz.prog z99c z99a 21 (bodyOf Tryz.f114) [.tmp 4] ds
theorem F_ref02_Is_eq (ds : List D) : F_ref02_Is ds = runG Tryz.prog z99c (z99h bigL) z99a 21 (bodyOf Tryz.f114) [.tmp 4] ds := runG_eq z99k _ ds
theorem C_ref02_Is (ds : List D) (r : D) (h : F_ref02_Is ds = some r) : Contract Tryz.prog gl 114 ds r := contract_of mix Tryz.func114 rfl (by kernel_rfl) (by kernel_rfl) (by decide) (call := z99c) ⟨callOf_ok z99b ⟨C_ref02_Split, trivial⟩, callOfE_ok noE trivial⟩ h
attribute [simp] Tryz.f167
def z100a : Ann := ⟨[1, 2], [], [], [], [], some [2], [], [], [(64, 0, 92, 2)], []⟩
@[simp] theorem z100a_draws : z100a.draws = [] := rfl
@[simp] theorem z100a_exits : z100a.exits = [] := rfl
@[simp] theorem z100a_rets : z100a.rets = some [2] := rfl
@[simp] theorem z100a_keep : z100a.keep = [1, 2] := rfl
@[simp] theorem z100a_cond : z100a.cond = [] := rfl
@[simp] theorem z100a_rows : z100a.rows = [] := rfl
@[simp] theorem z100a_loops : z100a.loops = [] := rfl
@[simp] theorem z100a_ecalls : z100a.ecalls = [] := rfl
@[simp] theorem z100a_crows : z100a.crows = [(64, 0, 92, 2)] := rfl
@[simp] theorem z100a_tails : z100a.tails = [] := rfl
@[simp] def z100b : PL := []
def z100c : CT := ⟨callOf (z100b ), callOfE noE, gl⟩
@[simp] theorem z100c_p (f : FuncId) (ds : List D) : z100c.p f ds = callOf (z100b ) f ds := Eq.trans rfl rfl
@[simp] theorem z100c_e (f : FuncId) (hs : List (Nat × O)) (ds : List D) : z100c.e f hs ds = callOfE noE f hs ds := Eq.trans rfl rfl
@[simp] theorem z100c_g (g : Nat) : z100c.g g = gl g := Eq.trans rfl rfl
def L_ref13_Empty (i n : Nat) (s : St) : OS := atN Tryz.prog z100c z100a 28 (bodyOf Tryz.f167) i n s
def z100h (n i : Nat) (s : St) : OS := atH Tryz.prog z100c z100a 28 (bodyOf Tryz.f167) n i s
@[simp] theorem z100h_eq (n i : Nat) (s : St) : z100h n i s = L_ref13_Empty i n (headOf (z100a.loops.lookup i) s) := rfl
def R_ref13_Empty (i : Nat) (s : St) : OS := stepL Tryz.prog z100c z100a 28 (bodyOf Tryz.f167) i s
theorem z100k : okLoops (bodyOf Tryz.f167) = true := by kernel_rfl
def F_ref13_Empty (ds : List D) : Option D := runF Tryz.prog z100c z100a 28 (bodyOf Tryz.f167) [.tmp 2] ds
theorem F_ref13_Empty_eq (ds : List D) : F_ref13_Empty ds = runG Tryz.prog z100c (z100h bigL) z100a 28 (bodyOf Tryz.f167) [.tmp 2] ds := runG_eq z100k _ ds
theorem C_ref13_Empty (ds : List D) (r : D) (h : F_ref13_Empty ds = some r) : Contract Tryz.prog gl 167 ds r := contract_of mix Tryz.func167 rfl (by kernel_rfl) (by kernel_rfl) (by decide) (call := z100c) ⟨callOf_ok z100b trivial, callOfE_ok noE trivial⟩ h
attribute [simp] Tryz.f120
def z101a : Ann := ⟨[3, 6], [], [], [], [], some [6], [], [], [(64, 0, 92, 2)], []⟩
@[simp] theorem z101a_draws : z101a.draws = [] := rfl
@[simp] theorem z101a_exits : z101a.exits = [] := rfl
@[simp] theorem z101a_rets : z101a.rets = some [6] := rfl
@[simp] theorem z101a_keep : z101a.keep = [3, 6] := rfl
@[simp] theorem z101a_cond : z101a.cond = [] := rfl
@[simp] theorem z101a_rows : z101a.rows = [] := rfl
@[simp] theorem z101a_loops : z101a.loops = [] := rfl
@[simp] theorem z101a_ecalls : z101a.ecalls = [] := rfl
@[simp] theorem z101a_crows : z101a.crows = [(64, 0, 92, 2)] := rfl
@[simp] theorem z101a_tails : z101a.tails = [] := rfl
@[simp] def z101b : PL := []
def z101c : CT := ⟨callOf (z101b ), callOfE noE, gl⟩
@[simp] theorem z101c_p (f : FuncId) (ds : List D) : z101c.p f ds = callOf (z101b ) f ds := Eq.trans rfl rfl
@[simp] theorem z101c_e (f : FuncId) (hs : List (Nat × O)) (ds : List D) : z101c.e f hs ds = callOfE noE f hs ds := Eq.trans rfl rfl
@[simp] theorem z101c_g (g : Nat) : z101c.g g = gl g := Eq.trans rfl rfl
def L_ref30_within (i n : Nat) (s : St) : OS := atN Tryz.prog z101c z101a 29 (bodyOf Tryz.f120) i n s
def z101h (n i : Nat) (s : St) : OS := atH Tryz.prog z101c z101a 29 (bodyOf Tryz.f120) n i s
@[simp] theorem z101h_eq (n i : Nat) (s : St) : z101h n i s = L_ref30_within i n (headOf (z101a.loops.lookup i) s) := rfl
def R_ref30_within (i : Nat) (s : St) : OS := stepL Tryz.prog z101c z101a 29 (bodyOf Tryz.f120) i s
theorem z101k : okLoops (bodyOf Tryz.f120) = true := by kernel_rfl
def F_ref30_within (ds : List D) : Option D := runF Tryz.prog z101c z101a 29 (bodyOf Tryz.f120) [.tmp 6] ds
theorem F_ref30_within_eq (ds : List D) : F_ref30_within ds = runG Tryz.prog z101c (z101h bigL) z101a 29 (bodyOf Tryz.f120) [.tmp 6] ds := runG_eq z101k _ ds
theorem C_ref30_within (ds : List D) (r : D) (h : F_ref30_within ds = some r) : Contract Tryz.prog gl 120 ds r := contract_of mix Tryz.func120 rfl (by kernel_rfl) (by kernel_rfl) (by decide) (call := z101c) ⟨callOf_ok z101b trivial, callOfE_ok noE trivial⟩ h
attribute [simp] Tryz.f115
def z102a : Ann := ⟨[1, 2], [], [], [], [], some [2], [], [], [(64, 0, 92, 2)], []⟩
@[simp] theorem z102a_draws : z102a.draws = [] := rfl
@[simp] theorem z102a_exits : z102a.exits = [] := rfl
@[simp] theorem z102a_rets : z102a.rets = some [2] := rfl
@[simp] theorem z102a_keep : z102a.keep = [1, 2] := rfl
@[simp] theorem z102a_cond : z102a.cond = [] := rfl
@[simp] theorem z102a_rows : z102a.rows = [] := rfl
@[simp] theorem z102a_loops : z102a.loops = [] := rfl
@[simp] theorem z102a_ecalls : z102a.ecalls = [] := rfl
@[simp] theorem z102a_crows : z102a.crows = [(64, 0, 92, 2)] := rfl
@[simp] theorem z102a_tails : z102a.tails = [] := rfl
@[simp] def z102b : PL := [(120, F_ref30_within), (167, F_ref13_Empty)]
def z102c : CT := ⟨callOf (z102b ), callOfE noE, gl⟩
@[simp] theorem z102c_p (f : FuncId) (ds : List D) : z102c.p f ds = callOf (z102b ) f ds := Eq.trans rfl rfl
@[simp] theorem z102c_e (f : FuncId) (hs : List (Nat × O)) (ds : List D) : z102c.e f hs ds = callOfE noE f hs ds := Eq.trans rfl rfl
@[simp] theorem z102c_g (g : Nat) : z102c.g g = gl g := Eq.trans rfl rfl
def L_ref30_Placed (i n : Nat) (s : St) : OS := atN Tryz.prog z102c z102a 21 (bodyOf Tryz.f115) i n s
def z102h (n i : Nat) (s : St) : OS := atH Tryz.prog z102c z102a 21 (bodyOf Tryz.f115) n i s
@[simp] theorem z102h_eq (n i : Nat) (s : St) : z102h n i s = L_ref30_Placed i n (headOf (z102a.loops.lookup i) s) := rfl
def R_ref30_Placed (i : Nat) (s : St) : OS := stepL Tryz.prog z102c z102a 21 (bodyOf Tryz.f115) i s
theorem z102k : okLoops (bodyOf Tryz.f115) = true := by kernel_rfl
def F_ref30_Placed (ds : List D) : Option D := runF Tryz.prog z102c z102a 21 (bodyOf Tryz.f115) [.tmp 2] ds
theorem F_ref30_Placed_eq (ds : List D) : F_ref30_Placed ds = runG Tryz.prog z102c (z102h bigL) z102a 21 (bodyOf Tryz.f115) [.tmp 2] ds := runG_eq z102k _ ds
theorem C_ref30_Placed (ds : List D) (r : D) (h : F_ref30_Placed ds = some r) : Contract Tryz.prog gl 115 ds r := contract_of mix Tryz.func115 rfl (by kernel_rfl) (by kernel_rfl) (by decide) (call := z102c) ⟨callOf_ok z102b ⟨C_ref30_within, C_ref13_Empty, trivial⟩, callOfE_ok noE trivial⟩ h
attribute [simp] Tryz.f116
def z103a : Ann := ⟨[2, 3, 4, 5, 6, 7, 8], [], [], [], [], some [4], [(2, 15)], [], [(64, 0, 92, 2)], []⟩
@[simp] theorem z103a_draws : z103a.draws = [(2, 15)] := rfl
@[simp] theorem z103a_exits : z103a.exits = [] := rfl
@[simp] theorem z103a_rets : z103a.rets = some [4] := rfl
@[simp] theorem z103a_keep : z103a.keep = [2, 3, 4, 5, 6, 7, 8] := rfl
@[simp] theorem z103a_cond : z103a.cond = [] := rfl
@[simp] theorem z103a_rows : z103a.rows = [] := rfl
@[simp] theorem z103a_loops : z103a.loops = [] := rfl
@[simp] theorem z103a_ecalls : z103a.ecalls = [] := rfl
@[simp] theorem z103a_crows : z103a.crows = [(64, 0, 92, 2)] := rfl
@[simp] theorem z103a_tails : z103a.tails = [] := rfl
@[simp] def z103b : PL := [(112, F_ref19_Green)]
def z103c : CT := ⟨callOf (z103b ), callOfE noE, gl⟩
@[simp] theorem z103c_p (f : FuncId) (ds : List D) : z103c.p f ds = callOf (z103b ) f ds := Eq.trans rfl rfl
@[simp] theorem z103c_e (f : FuncId) (hs : List (Nat × O)) (ds : List D) : z103c.e f hs ds = callOfE noE f hs ds := Eq.trans rfl rfl
@[simp] theorem z103c_g (g : Nat) : z103c.g g = gl g := Eq.trans rfl rfl
def L_ref26_Green (i n : Nat) (s : St) : OS := atN Tryz.prog z103c z103a 46 (bodyOf Tryz.f116) i n s
def z103h (n i : Nat) (s : St) : OS := atH Tryz.prog z103c z103a 46 (bodyOf Tryz.f116) n i s
@[simp] theorem z103h_eq (n i : Nat) (s : St) : z103h n i s = L_ref26_Green i n (headOf (z103a.loops.lookup i) s) := rfl
def R_ref26_Green (i : Nat) (s : St) : OS := stepL Tryz.prog z103c z103a 46 (bodyOf Tryz.f116) i s
theorem z103k : okLoops (bodyOf Tryz.f116) = true := by kernel_rfl
def F_ref26_Green (ds : List D) : Option D := runF Tryz.prog z103c z103a 46 (bodyOf Tryz.f116) [.tmp 4] ds
theorem F_ref26_Green_eq (ds : List D) : F_ref26_Green ds = runG Tryz.prog z103c (z103h bigL) z103a 46 (bodyOf Tryz.f116) [.tmp 4] ds := runG_eq z103k _ ds
theorem C_ref26_Green (ds : List D) (r : D) (h : F_ref26_Green ds = some r) : Contract Tryz.prog gl 116 ds r := contract_of mix Tryz.func116 rfl (by kernel_rfl) (by kernel_rfl) (by decide) (call := z103c) ⟨callOf_ok z103b ⟨C_ref19_Green, trivial⟩, callOfE_ok noE trivial⟩ h
attribute [simp] Tryz.f118
def z104a : Ann := ⟨[1, 2], [], [], [], [], some [2], [], [], [(64, 0, 92, 2)], []⟩
@[simp] theorem z104a_draws : z104a.draws = [] := rfl
@[simp] theorem z104a_exits : z104a.exits = [] := rfl
@[simp] theorem z104a_rets : z104a.rets = some [2] := rfl
@[simp] theorem z104a_keep : z104a.keep = [1, 2] := rfl
@[simp] theorem z104a_cond : z104a.cond = [] := rfl
@[simp] theorem z104a_rows : z104a.rows = [] := rfl
@[simp] theorem z104a_loops : z104a.loops = [] := rfl
@[simp] theorem z104a_ecalls : z104a.ecalls = [] := rfl
@[simp] theorem z104a_crows : z104a.crows = [(64, 0, 92, 2)] := rfl
@[simp] theorem z104a_tails : z104a.tails = [] := rfl
@[simp] def z104b : PL := []
def z104c : CT := ⟨callOf (z104b ), callOfE noE, gl⟩
@[simp] theorem z104c_p (f : FuncId) (ds : List D) : z104c.p f ds = callOf (z104b ) f ds := Eq.trans rfl rfl
@[simp] theorem z104c_e (f : FuncId) (hs : List (Nat × O)) (ds : List D) : z104c.e f hs ds = callOfE noE f hs ds := Eq.trans rfl rfl
@[simp] theorem z104c_g (g : Nat) : z104c.g g = gl g := Eq.trans rfl rfl
def L_ref30_length (i n : Nat) (s : St) : OS := atN Tryz.prog z104c z104a 8 (bodyOf Tryz.f118) i n s
def z104h (n i : Nat) (s : St) : OS := atH Tryz.prog z104c z104a 8 (bodyOf Tryz.f118) n i s
@[simp] theorem z104h_eq (n i : Nat) (s : St) : z104h n i s = L_ref30_length i n (headOf (z104a.loops.lookup i) s) := rfl
def R_ref30_length (i : Nat) (s : St) : OS := stepL Tryz.prog z104c z104a 8 (bodyOf Tryz.f118) i s
theorem z104k : okLoops (bodyOf Tryz.f118) = true := by kernel_rfl
def F_ref30_length (ds : List D) : Option D := runF Tryz.prog z104c z104a 8 (bodyOf Tryz.f118) [.tmp 2] ds
theorem F_ref30_length_eq (ds : List D) : F_ref30_length ds = runG Tryz.prog z104c (z104h bigL) z104a 8 (bodyOf Tryz.f118) [.tmp 2] ds := runG_eq z104k _ ds
theorem C_ref30_length (ds : List D) (r : D) (h : F_ref30_length ds = some r) : Contract Tryz.prog gl 118 ds r := contract_of mix Tryz.func118 rfl (by kernel_rfl) (by kernel_rfl) (by decide) (call := z104c) ⟨callOf_ok z104b trivial, callOfE_ok noE trivial⟩ h
attribute [simp] Tryz.f117
def z105a : Ann := ⟨[0, 4, 5], [9, 17], [], [(2, [0, 1, 5])], [(0, []), (1, [0, 1, 5])], some [4], [], [], [(64, 0, 92, 2)], []⟩
@[simp] theorem z105a_draws : z105a.draws = [] := rfl
@[simp] theorem z105a_exits : z105a.exits = [(0, []), (1, [0, 1, 5])] := rfl
@[simp] theorem z105a_rets : z105a.rets = some [4] := rfl
@[simp] theorem z105a_keep : z105a.keep = [0, 4, 5] := rfl
@[simp] theorem z105a_cond : z105a.cond = [9, 17] := rfl
@[simp] theorem z105a_rows : z105a.rows = [] := rfl
@[simp] theorem z105a_loops : z105a.loops = [(2, [0, 1, 5])] := rfl
@[simp] theorem z105a_ecalls : z105a.ecalls = [] := rfl
@[simp] theorem z105a_crows : z105a.crows = [(64, 0, 92, 2)] := rfl
@[simp] theorem z105a_tails : z105a.tails = [] := rfl
@[simp] def z105b : PL := []
def z105c : CT := ⟨callOf (z105b ), callOfE noE, gl⟩
@[simp] theorem z105c_p (f : FuncId) (ds : List D) : z105c.p f ds = callOf (z105b ) f ds := Eq.trans rfl rfl
@[simp] theorem z105c_e (f : FuncId) (hs : List (Nat × O)) (ds : List D) : z105c.e f hs ds = callOfE noE f hs ds := Eq.trans rfl rfl
@[simp] theorem z105c_g (g : Nat) : z105c.g g = gl g := Eq.trans rfl rfl
def L_ref30_has (i n : Nat) (s : St) : OS := atN Tryz.prog z105c z105a 18 (bodyOf Tryz.f117) i n s
def z105h (n i : Nat) (s : St) : OS := atH Tryz.prog z105c z105a 18 (bodyOf Tryz.f117) n i s
@[simp] theorem z105h_eq (n i : Nat) (s : St) : z105h n i s = L_ref30_has i n (headOf (z105a.loops.lookup i) s) := rfl
def R_ref30_has (i : Nat) (s : St) : OS := stepL Tryz.prog z105c z105a 18 (bodyOf Tryz.f117) i s
theorem z105k : okLoops (bodyOf Tryz.f117) = true := by kernel_rfl
theorem L_ref30_has_zero (i : Nat) (s : St) : L_ref30_has i 0 s = none := rfl
theorem L_ref30_has_succ (i n : Nat) (s : St) : L_ref30_has i (n + 1) s = andThen (R_ref30_has i s) (z105h n i) := atN_succ z105k i n s
theorem R_ref30_has_eq (i : Nat) (s : St) : R_ref30_has i s = runS Tryz.prog z105c (z105h bigL) z105a 18 (loopAt (bodyOf Tryz.f117) i) s := rfl
def F_ref30_has (ds : List D) : Option D := runF Tryz.prog z105c z105a 18 (bodyOf Tryz.f117) [.tmp 4] ds
theorem F_ref30_has_eq (ds : List D) : F_ref30_has ds = runG Tryz.prog z105c (z105h bigL) z105a 18 (bodyOf Tryz.f117) [.tmp 4] ds := runG_eq z105k _ ds
theorem C_ref30_has (ds : List D) (r : D) (h : F_ref30_has ds = some r) : Contract Tryz.prog gl 117 ds r := contract_of mix Tryz.func117 rfl (by kernel_rfl) (by kernel_rfl) (by decide) (call := z105c) ⟨callOf_ok z105b trivial, callOfE_ok noE trivial⟩ h
attribute [simp] Tryz.f203
def z106a : Ann := ⟨[3, 6], [], [], [], [], some [6], [], [], [(64, 0, 92, 2)], []⟩
@[simp] theorem z106a_draws : z106a.draws = [] := rfl
@[simp] theorem z106a_exits : z106a.exits = [] := rfl
@[simp] theorem z106a_rets : z106a.rets = some [6] := rfl
@[simp] theorem z106a_keep : z106a.keep = [3, 6] := rfl
@[simp] theorem z106a_cond : z106a.cond = [] := rfl
@[simp] theorem z106a_rows : z106a.rows = [] := rfl
@[simp] theorem z106a_loops : z106a.loops = [] := rfl
@[simp] theorem z106a_ecalls : z106a.ecalls = [] := rfl
@[simp] theorem z106a_crows : z106a.crows = [(64, 0, 92, 2)] := rfl
@[simp] theorem z106a_tails : z106a.tails = [] := rfl
@[simp] def z106b : PL := []
def z106c : CT := ⟨callOf (z106b ), callOfE noE, gl⟩
@[simp] theorem z106c_p (f : FuncId) (ds : List D) : z106c.p f ds = callOf (z106b ) f ds := Eq.trans rfl rfl
@[simp] theorem z106c_e (f : FuncId) (hs : List (Nat × O)) (ds : List D) : z106c.e f hs ds = callOfE noE f hs ds := Eq.trans rfl rfl
@[simp] theorem z106c_g (g : Nat) : z106c.g g = gl g := Eq.trans rfl rfl
def L_ref13_in (i n : Nat) (s : St) : OS := atN Tryz.prog z106c z106a 17 (bodyOf Tryz.f203) i n s
def z106h (n i : Nat) (s : St) : OS := atH Tryz.prog z106c z106a 17 (bodyOf Tryz.f203) n i s
@[simp] theorem z106h_eq (n i : Nat) (s : St) : z106h n i s = L_ref13_in i n (headOf (z106a.loops.lookup i) s) := rfl
def R_ref13_in (i : Nat) (s : St) : OS := stepL Tryz.prog z106c z106a 17 (bodyOf Tryz.f203) i s
theorem z106k : okLoops (bodyOf Tryz.f203) = true := by kernel_rfl
def F_ref13_in (ds : List D) : Option D := runF Tryz.prog z106c z106a 17 (bodyOf Tryz.f203) [.tmp 6] ds
theorem F_ref13_in_eq (ds : List D) : F_ref13_in ds = runG Tryz.prog z106c (z106h bigL) z106a 17 (bodyOf Tryz.f203) [.tmp 6] ds := runG_eq z106k _ ds
theorem C_ref13_in (ds : List D) (r : D) (h : F_ref13_in ds = some r) : Contract Tryz.prog gl 203 ds r := contract_of mix Tryz.func203 rfl (by kernel_rfl) (by kernel_rfl) (by decide) (call := z106c) ⟨callOf_ok z106b trivial, callOfE_ok noE trivial⟩ h
attribute [simp] Tryz.f168
def z107a : Ann := ⟨[1, 2], [], [], [], [], some [2], [], [], [(64, 0, 92, 2)], []⟩
@[simp] theorem z107a_draws : z107a.draws = [] := rfl
@[simp] theorem z107a_exits : z107a.exits = [] := rfl
@[simp] theorem z107a_rets : z107a.rets = some [2] := rfl
@[simp] theorem z107a_keep : z107a.keep = [1, 2] := rfl
@[simp] theorem z107a_cond : z107a.cond = [] := rfl
@[simp] theorem z107a_rows : z107a.rows = [] := rfl
@[simp] theorem z107a_loops : z107a.loops = [] := rfl
@[simp] theorem z107a_ecalls : z107a.ecalls = [] := rfl
@[simp] theorem z107a_crows : z107a.crows = [(64, 0, 92, 2)] := rfl
@[simp] theorem z107a_tails : z107a.tails = [] := rfl
@[simp] def z107b : PL := [(203, F_ref13_in)]
def z107c : CT := ⟨callOf (z107b ), callOfE noE, gl⟩
@[simp] theorem z107c_p (f : FuncId) (ds : List D) : z107c.p f ds = callOf (z107b ) f ds := Eq.trans rfl rfl
@[simp] theorem z107c_e (f : FuncId) (hs : List (Nat × O)) (ds : List D) : z107c.e f hs ds = callOfE noE f hs ds := Eq.trans rfl rfl
@[simp] theorem z107c_g (g : Nat) : z107c.g g = gl g := Eq.trans rfl rfl
def L_ref13_Ranged (i n : Nat) (s : St) : OS := atN Tryz.prog z107c z107a 16 (bodyOf Tryz.f168) i n s
def z107h (n i : Nat) (s : St) : OS := atH Tryz.prog z107c z107a 16 (bodyOf Tryz.f168) n i s
@[simp] theorem z107h_eq (n i : Nat) (s : St) : z107h n i s = L_ref13_Ranged i n (headOf (z107a.loops.lookup i) s) := rfl
def R_ref13_Ranged (i : Nat) (s : St) : OS := stepL Tryz.prog z107c z107a 16 (bodyOf Tryz.f168) i s
theorem z107k : okLoops (bodyOf Tryz.f168) = true := by kernel_rfl
def F_ref13_Ranged (ds : List D) : Option D := runF Tryz.prog z107c z107a 16 (bodyOf Tryz.f168) [.tmp 2] ds
theorem F_ref13_Ranged_eq (ds : List D) : F_ref13_Ranged ds = runG Tryz.prog z107c (z107h bigL) z107a 16 (bodyOf Tryz.f168) [.tmp 2] ds := runG_eq z107k _ ds
theorem C_ref13_Ranged (ds : List D) (r : D) (h : F_ref13_Ranged ds = some r) : Contract Tryz.prog gl 168 ds r := contract_of mix Tryz.func168 rfl (by kernel_rfl) (by kernel_rfl) (by decide) (call := z107c) ⟨callOf_ok z107b ⟨C_ref13_in, trivial⟩, callOfE_ok noE trivial⟩ h
attribute [simp] Tryz.f119
def z108a : Ann := ⟨[0, 2, 3], [6, 10, 13, 28, 35], [], [(4, [0, 3])], [(0, []), (1, [0, 3]), (2, [0, 3])], some [2], [], [], [(64, 0, 92, 2)], []⟩
@[simp] theorem z108a_draws : z108a.draws = [] := rfl
@[simp] theorem z108a_exits : z108a.exits = [(0, []), (1, [0, 3]), (2, [0, 3])] := rfl
@[simp] theorem z108a_rets : z108a.rets = some [2] := rfl
@[simp] theorem z108a_keep : z108a.keep = [0, 2, 3] := rfl
@[simp] theorem z108a_cond : z108a.cond = [6, 10, 13, 28, 35] := rfl
@[simp] theorem z108a_rows : z108a.rows = [] := rfl
@[simp] theorem z108a_loops : z108a.loops = [(4, [0, 3])] := rfl
@[simp] theorem z108a_ecalls : z108a.ecalls = [] := rfl
@[simp] theorem z108a_crows : z108a.crows = [(64, 0, 92, 2)] := rfl
@[simp] theorem z108a_tails : z108a.tails = [] := rfl
@[simp] def z108b : PL := [(167, F_ref13_Empty), (168, F_ref13_Ranged)]
def z108c : CT := ⟨callOf (z108b ), callOfE noE, gl⟩
@[simp] theorem z108c_p (f : FuncId) (ds : List D) : z108c.p f ds = callOf (z108b ) f ds := Eq.trans rfl rfl
@[simp] theorem z108c_e (f : FuncId) (hs : List (Nat × O)) (ds : List D) : z108c.e f hs ds = callOfE noE f hs ds := Eq.trans rfl rfl
@[simp] theorem z108c_g (g : Nat) : z108c.g g = gl g := Eq.trans rfl rfl
def L_ref13_Check (i n : Nat) (s : St) : OS := atN Tryz.prog z108c z108a 43 (bodyOf Tryz.f119) i n s
def z108h (n i : Nat) (s : St) : OS := atH Tryz.prog z108c z108a 43 (bodyOf Tryz.f119) n i s
@[simp] theorem z108h_eq (n i : Nat) (s : St) : z108h n i s = L_ref13_Check i n (headOf (z108a.loops.lookup i) s) := rfl
def R_ref13_Check (i : Nat) (s : St) : OS := stepL Tryz.prog z108c z108a 43 (bodyOf Tryz.f119) i s
theorem z108k : okLoops (bodyOf Tryz.f119) = true := by kernel_rfl
theorem L_ref13_Check_zero (i : Nat) (s : St) : L_ref13_Check i 0 s = none := rfl
theorem L_ref13_Check_succ (i n : Nat) (s : St) : L_ref13_Check i (n + 1) s = andThen (R_ref13_Check i s) (z108h n i) := atN_succ z108k i n s
theorem R_ref13_Check_eq (i : Nat) (s : St) : R_ref13_Check i s = runS Tryz.prog z108c (z108h bigL) z108a 43 (loopAt (bodyOf Tryz.f119) i) s := rfl
def F_ref13_Check (ds : List D) : Option D := runF Tryz.prog z108c z108a 43 (bodyOf Tryz.f119) [.tmp 2] ds
theorem F_ref13_Check_eq (ds : List D) : F_ref13_Check ds = runG Tryz.prog z108c (z108h bigL) z108a 43 (bodyOf Tryz.f119) [.tmp 2] ds := runG_eq z108k _ ds
theorem C_ref13_Check (ds : List D) (r : D) (h : F_ref13_Check ds = some r) : Contract Tryz.prog gl 119 ds r := contract_of mix Tryz.func119 rfl (by kernel_rfl) (by kernel_rfl) (by decide) (call := z108c) ⟨callOf_ok z108b ⟨C_ref13_Empty, C_ref13_Ranged, trivial⟩, callOfE_ok noE trivial⟩ h
attribute [simp] Tryz.f121
def z109a : Ann := ⟨[1, 2], [6], [], [], [], some [2], [(3, 13)], [], [(64, 0, 92, 2)], []⟩
@[simp] theorem z109a_draws : z109a.draws = [(3, 13)] := rfl
@[simp] theorem z109a_exits : z109a.exits = [] := rfl
@[simp] theorem z109a_rets : z109a.rets = some [2] := rfl
@[simp] theorem z109a_keep : z109a.keep = [1, 2] := rfl
@[simp] theorem z109a_cond : z109a.cond = [6] := rfl
@[simp] theorem z109a_rows : z109a.rows = [] := rfl
@[simp] theorem z109a_loops : z109a.loops = [] := rfl
@[simp] theorem z109a_ecalls : z109a.ecalls = [] := rfl
@[simp] theorem z109a_crows : z109a.crows = [(64, 0, 92, 2)] := rfl
@[simp] theorem z109a_tails : z109a.tails = [] := rfl
@[simp] def z109b : PL := [(115, F_ref30_Placed), (118, F_ref30_length)]
def z109c : CT := ⟨callOf (z109b ), callOfE noE, gl⟩
@[simp] theorem z109c_p (f : FuncId) (ds : List D) : z109c.p f ds = callOf (z109b ) f ds := Eq.trans rfl rfl
@[simp] theorem z109c_e (f : FuncId) (hs : List (Nat × O)) (ds : List D) : z109c.e f hs ds = callOfE noE f hs ds := Eq.trans rfl rfl
@[simp] theorem z109c_g (g : Nat) : z109c.g g = gl g := Eq.trans rfl rfl
def L_ref30_Volume (i n : Nat) (s : St) : OS := atN Tryz.prog z109c z109a 21 (bodyOf Tryz.f121) i n s
def z109h (n i : Nat) (s : St) : OS := atH Tryz.prog z109c z109a 21 (bodyOf Tryz.f121) n i s
@[simp] theorem z109h_eq (n i : Nat) (s : St) : z109h n i s = L_ref30_Volume i n (headOf (z109a.loops.lookup i) s) := rfl
def R_ref30_Volume (i : Nat) (s : St) : OS := stepL Tryz.prog z109c z109a 21 (bodyOf Tryz.f121) i s
theorem z109k : okLoops (bodyOf Tryz.f121) = true := by kernel_rfl
def F_ref30_Volume (ds : List D) : Option D := runF Tryz.prog z109c z109a 21 (bodyOf Tryz.f121) [.tmp 2] ds
theorem F_ref30_Volume_eq (ds : List D) : F_ref30_Volume ds = runG Tryz.prog z109c (z109h bigL) z109a 21 (bodyOf Tryz.f121) [.tmp 2] ds := runG_eq z109k _ ds
theorem C_ref30_Volume (ds : List D) (r : D) (h : F_ref30_Volume ds = some r) : Contract Tryz.prog gl 121 ds r := contract_of mix Tryz.func121 rfl (by kernel_rfl) (by kernel_rfl) (by decide) (call := z109c) ⟨callOf_ok z109b ⟨C_ref30_Placed, C_ref30_length, trivial⟩, callOfE_ok noE trivial⟩ h
attribute [simp] Tryz.f62
def z110a : Ann := ⟨[1, 2, 4, 5, 6, 7, 8], [12, 29, 39, 54, 66, 71, 77, 113, 133, 167, 175], [], [(16, [2, 7])], [(0, [2]), (1, [2, 7])], some [4], [(8, 12), (10, 10), (19, 25), (21, 8)], [], [(64, 0, 92, 2)], []⟩
@[simp] theorem z110a_draws : z110a.draws = [(8, 12), (10, 10), (19, 25), (21, 8)] := rfl
@[simp] theorem z110a_exits : z110a.exits = [(0, [2]), (1, [2, 7])] := rfl
@[simp] theorem z110a_rets : z110a.rets = some [4] := rfl
@[simp] theorem z110a_keep : z110a.keep = [1, 2, 4, 5, 6, 7, 8] := rfl
@[simp] theorem z110a_cond : z110a.cond = [12, 29, 39, 54, 66, 71, 77, 113, 133, 167, 175] := rfl
@[simp] theorem z110a_rows : z110a.rows = [] := rfl
@[simp] theorem z110a_loops : z110a.loops = [(16, [2, 7])] := rfl
@[simp] theorem z110a_ecalls : z110a.ecalls = [] := rfl
@[simp] theorem z110a_crows : z110a.crows = [(64, 0, 92, 2)] := rfl
@[simp] theorem z110a_tails : z110a.tails = [] := rfl
@[simp] def z110b : PL := [(61, F_ref19_Check), (111, F_ref02_IsName), (114, F_ref02_Is), (115, F_ref30_Placed), (116, F_ref26_Green), (117, F_ref30_has), (118, F_ref30_length), (119, F_ref13_Check), (120, F_ref30_within), (121, F_ref30_Volume)]
def z110c : CT := ⟨callOf (z110b ), callOfE noE, gl⟩
@[simp] theorem z110c_p (f : FuncId) (ds : List D) : z110c.p f ds = callOf (z110b ) f ds := Eq.trans rfl rfl
@[simp] theorem z110c_e (f : FuncId) (hs : List (Nat × O)) (ds : List D) : z110c.e f hs ds = callOfE noE f hs ds := Eq.trans rfl rfl
@[simp] theorem z110c_g (g : Nat) : z110c.g g = gl g := Eq.trans rfl rfl
def L_ref30_Check (i n : Nat) (s : St) : OS := atN Tryz.prog z110c z110a 176 (bodyOf Tryz.f62) i n s
def z110h (n i : Nat) (s : St) : OS := atH Tryz.prog z110c z110a 176 (bodyOf Tryz.f62) n i s
@[simp] theorem z110h_eq (n i : Nat) (s : St) : z110h n i s = L_ref30_Check i n (headOf (z110a.loops.lookup i) s) := rfl
def R_ref30_Check (i : Nat) (s : St) : OS := stepL Tryz.prog z110c z110a 176 (bodyOf Tryz.f62) i s
theorem z110k : okLoops (bodyOf Tryz.f62) = true := by kernel_rfl
theorem L_ref30_Check_zero (i : Nat) (s : St) : L_ref30_Check i 0 s = none := rfl
theorem L_ref30_Check_succ (i n : Nat) (s : St) : L_ref30_Check i (n + 1) s = andThen (R_ref30_Check i s) (z110h n i) := atN_succ z110k i n s
theorem R_ref30_Check_eq (i : Nat) (s : St) : R_ref30_Check i s = runS Tryz.prog z110c (z110h bigL) z110a 176 (loopAt (bodyOf Tryz.f62) i) s := rfl
def F_ref30_Check (ds : List D) : Option D := runF Tryz.prog z110c z110a 176 (bodyOf Tryz.f62) [.tmp 4] ds
theorem F_ref30_Check_eq (ds : List D) : F_ref30_Check ds = runG Tryz.prog z110c (z110h bigL) z110a 176 (bodyOf Tryz.f62) [.tmp 4] ds := runG_eq z110k _ ds
theorem C_ref30_Check (ds : List D) (r : D) (h : F_ref30_Check ds = some r) : Contract Tryz.prog gl 62 ds r := contract_of mix Tryz.func62 rfl (by kernel_rfl) (by kernel_rfl) (by decide) (call := z110c) ⟨callOf_ok z110b ⟨C_ref19_Check, C_ref02_IsName, C_ref02_Is, C_ref30_Placed, C_ref26_Green, C_ref30_has, C_ref30_length, C_ref13_Check, C_ref30_within, C_ref30_Volume, trivial⟩, callOfE_ok noE trivial⟩ h
attribute [simp] Tryz.f169
def z111a : Ann := ⟨[6], [], [], [], [], some [6], [], [], [(64, 0, 92, 2)], []⟩
@[simp] theorem z111a_draws : z111a.draws = [] := rfl
@[simp] theorem z111a_exits : z111a.exits = [] := rfl
@[simp] theorem z111a_rets : z111a.rets = some [6] := rfl
@[simp] theorem z111a_keep : z111a.keep = [6] := rfl
@[simp] theorem z111a_cond : z111a.cond = [] := rfl
@[simp] theorem z111a_rows : z111a.rows = [] := rfl
@[simp] theorem z111a_loops : z111a.loops = [] := rfl
@[simp] theorem z111a_ecalls : z111a.ecalls = [] := rfl
@[simp] theorem z111a_crows : z111a.crows = [(64, 0, 92, 2)] := rfl
@[simp] theorem z111a_tails : z111a.tails = [] := rfl
@[simp] def z111b : PL := []
def z111c : CT := ⟨callOf (z111b ), callOfE noE, gl⟩
@[simp] theorem z111c_p (f : FuncId) (ds : List D) : z111c.p f ds = callOf (z111b ) f ds := Eq.trans rfl rfl
@[simp] theorem z111c_e (f : FuncId) (hs : List (Nat × O)) (ds : List D) : z111c.e f hs ds = callOfE noE f hs ds := Eq.trans rfl rfl
@[simp] theorem z111c_g (g : Nat) : z111c.g g = gl g := Eq.trans rfl rfl
def L_ref34_from (i n : Nat) (s : St) : OS := atN Tryz.prog z111c z111a 15 (bodyOf Tryz.f169) i n s
def z111h (n i : Nat) (s : St) : OS := atH Tryz.prog z111c z111a 15 (bodyOf Tryz.f169) n i s
@[simp] theorem z111h_eq (n i : Nat) (s : St) : z111h n i s = L_ref34_from i n (headOf (z111a.loops.lookup i) s) := rfl
def R_ref34_from (i : Nat) (s : St) : OS := stepL Tryz.prog z111c z111a 15 (bodyOf Tryz.f169) i s
theorem z111k : okLoops (bodyOf Tryz.f169) = true := by kernel_rfl
def F_ref34_from (ds : List D) : Option D := runF Tryz.prog z111c z111a 15 (bodyOf Tryz.f169) [.tmp 6] ds
theorem F_ref34_from_eq (ds : List D) : F_ref34_from ds = runG Tryz.prog z111c (z111h bigL) z111a 15 (bodyOf Tryz.f169) [.tmp 6] ds := runG_eq z111k _ ds
theorem C_ref34_from (ds : List D) (r : D) (h : F_ref34_from ds = some r) : Contract Tryz.prog gl 169 ds r := contract_of mix Tryz.func169 rfl (by kernel_rfl) (by kernel_rfl) (by decide) (call := z111c) ⟨callOf_ok z111b trivial, callOfE_ok noE trivial⟩ h
attribute [simp] Tryz.f122
def z112a : Ann := ⟨[1, 2], [40, 50], [], [], [], some [2], [], [], [(64, 0, 92, 2)], []⟩
@[simp] theorem z112a_draws : z112a.draws = [] := rfl
@[simp] theorem z112a_exits : z112a.exits = [] := rfl
@[simp] theorem z112a_rets : z112a.rets = some [2] := rfl
@[simp] theorem z112a_keep : z112a.keep = [1, 2] := rfl
@[simp] theorem z112a_cond : z112a.cond = [40, 50] := rfl
@[simp] theorem z112a_rows : z112a.rows = [] := rfl
@[simp] theorem z112a_loops : z112a.loops = [] := rfl
@[simp] theorem z112a_ecalls : z112a.ecalls = [] := rfl
@[simp] theorem z112a_crows : z112a.crows = [(64, 0, 92, 2)] := rfl
@[simp] theorem z112a_tails : z112a.tails = [] := rfl
@[simp] def z112b : PL := [(169, F_ref34_from)]
def z112c : CT := ⟨callOf (z112b ), callOfE noE, gl⟩
@[simp] theorem z112c_p (f : FuncId) (ds : List D) : z112c.p f ds = callOf (z112b ) f ds := Eq.trans rfl rfl
@[simp] theorem z112c_e (f : FuncId) (hs : List (Nat × O)) (ds : List D) : z112c.e f hs ds = callOfE noE f hs ds := Eq.trans rfl rfl
@[simp] theorem z112c_g (g : Nat) : z112c.g g = gl g := Eq.trans rfl rfl
def L_ref34_valid (i n : Nat) (s : St) : OS := atN Tryz.prog z112c z112a 69 (bodyOf Tryz.f122) i n s
def z112h (n i : Nat) (s : St) : OS := atH Tryz.prog z112c z112a 69 (bodyOf Tryz.f122) n i s
@[simp] theorem z112h_eq (n i : Nat) (s : St) : z112h n i s = L_ref34_valid i n (headOf (z112a.loops.lookup i) s) := rfl
def R_ref34_valid (i : Nat) (s : St) : OS := stepL Tryz.prog z112c z112a 69 (bodyOf Tryz.f122) i s
theorem z112k : okLoops (bodyOf Tryz.f122) = true := by kernel_rfl
def F_ref34_valid (ds : List D) : Option D := runF Tryz.prog z112c z112a 69 (bodyOf Tryz.f122) [.tmp 2] ds
theorem F_ref34_valid_eq (ds : List D) : F_ref34_valid ds = runG Tryz.prog z112c (z112h bigL) z112a 69 (bodyOf Tryz.f122) [.tmp 2] ds := runG_eq z112k _ ds
theorem C_ref34_valid (ds : List D) (r : D) (h : F_ref34_valid ds = some r) : Contract Tryz.prog gl 122 ds r := contract_of mix Tryz.func122 rfl (by kernel_rfl) (by kernel_rfl) (by decide) (call := z112c) ⟨callOf_ok z112b ⟨C_ref34_from, trivial⟩, callOfE_ok noE trivial⟩ h
attribute [simp] Tryz.f63
def z113a : Ann := ⟨[0, 2, 3, 4], [7, 11, 20, 23, 36, 42], [], [(4, [0, 3]), (9, [0, 3, 4])], [(0, []), (1, [0, 3]), (2, [0, 3]), (3, [0, 3, 4])], some [2], [(11, 10)], [], [(64, 0, 92, 2)], []⟩
@[simp] theorem z113a_draws : z113a.draws = [(11, 10)] := rfl
@[simp] theorem z113a_exits : z113a.exits = [(0, []), (1, [0, 3]), (2, [0, 3]), (3, [0, 3, 4])] := rfl
@[simp] theorem z113a_rets : z113a.rets = some [2] := rfl
@[simp] theorem z113a_keep : z113a.keep = [0, 2, 3, 4] := rfl
@[simp] theorem z113a_cond : z113a.cond = [7, 11, 20, 23, 36, 42] := rfl
@[simp] theorem z113a_rows : z113a.rows = [] := rfl
@[simp] theorem z113a_loops : z113a.loops = [(4, [0, 3]), (9, [0, 3, 4])] := rfl
@[simp] theorem z113a_ecalls : z113a.ecalls = [] := rfl
@[simp] theorem z113a_crows : z113a.crows = [(64, 0, 92, 2)] := rfl
@[simp] theorem z113a_tails : z113a.tails = [] := rfl
@[simp] def z113b : PL := [(111, F_ref02_IsName), (122, F_ref34_valid)]
def z113c : CT := ⟨callOf (z113b ), callOfE noE, gl⟩
@[simp] theorem z113c_p (f : FuncId) (ds : List D) : z113c.p f ds = callOf (z113b ) f ds := Eq.trans rfl rfl
@[simp] theorem z113c_e (f : FuncId) (hs : List (Nat × O)) (ds : List D) : z113c.e f hs ds = callOfE noE f hs ds := Eq.trans rfl rfl
@[simp] theorem z113c_g (g : Nat) : z113c.g g = gl g := Eq.trans rfl rfl
def L_ref34_Check (i n : Nat) (s : St) : OS := atN Tryz.prog z113c z113a 43 (bodyOf Tryz.f63) i n s
def z113h (n i : Nat) (s : St) : OS := atH Tryz.prog z113c z113a 43 (bodyOf Tryz.f63) n i s
@[simp] theorem z113h_eq (n i : Nat) (s : St) : z113h n i s = L_ref34_Check i n (headOf (z113a.loops.lookup i) s) := rfl
def R_ref34_Check (i : Nat) (s : St) : OS := stepL Tryz.prog z113c z113a 43 (bodyOf Tryz.f63) i s
theorem z113k : okLoops (bodyOf Tryz.f63) = true := by kernel_rfl
theorem L_ref34_Check_zero (i : Nat) (s : St) : L_ref34_Check i 0 s = none := rfl
theorem L_ref34_Check_succ (i n : Nat) (s : St) : L_ref34_Check i (n + 1) s = andThen (R_ref34_Check i s) (z113h n i) := atN_succ z113k i n s
theorem R_ref34_Check_eq (i : Nat) (s : St) : R_ref34_Check i s = runS Tryz.prog z113c (z113h bigL) z113a 43 (loopAt (bodyOf Tryz.f63) i) s := rfl
def F_ref34_Check (ds : List D) : Option D := runF Tryz.prog z113c z113a 43 (bodyOf Tryz.f63) [.tmp 2] ds
theorem F_ref34_Check_eq (ds : List D) : F_ref34_Check ds = runG Tryz.prog z113c (z113h bigL) z113a 43 (bodyOf Tryz.f63) [.tmp 2] ds := runG_eq z113k _ ds
theorem C_ref34_Check (ds : List D) (r : D) (h : F_ref34_Check ds = some r) : Contract Tryz.prog gl 63 ds r := contract_of mix Tryz.func63 rfl (by kernel_rfl) (by kernel_rfl) (by decide) (call := z113c) ⟨callOf_ok z113b ⟨C_ref02_IsName, C_ref34_valid, trivial⟩, callOfE_ok noE trivial⟩ h
attribute [simp] Tryz.f35
def z114a : Ann := ⟨[0], [], [], [], [], some [0], [], [], [(64, 0, 92, 2)], []⟩
@[simp] theorem z114a_draws : z114a.draws = [] := rfl
@[simp] theorem z114a_exits : z114a.exits = [] := rfl
@[simp] theorem z114a_rets : z114a.rets = some [0] := rfl
@[simp] theorem z114a_keep : z114a.keep = [0] := rfl
@[simp] theorem z114a_cond : z114a.cond = [] := rfl
@[simp] theorem z114a_rows : z114a.rows = [] := rfl
@[simp] theorem z114a_loops : z114a.loops = [] := rfl
@[simp] theorem z114a_ecalls : z114a.ecalls = [] := rfl
@[simp] theorem z114a_crows : z114a.crows = [(64, 0, 92, 2)] := rfl
@[simp] theorem z114a_tails : z114a.tails = [] := rfl
@[simp] def z114b : PL := []
def z114c : CT := ⟨callOf (z114b ), callOfE noE, gl⟩
@[simp] theorem z114c_p (f : FuncId) (ds : List D) : z114c.p f ds = callOf (z114b ) f ds := Eq.trans rfl rfl
@[simp] theorem z114c_e (f : FuncId) (hs : List (Nat × O)) (ds : List D) : z114c.e f hs ds = callOfE noE f hs ds := Eq.trans rfl rfl
@[simp] theorem z114c_g (g : Nat) : z114c.g g = gl g := Eq.trans rfl rfl
def L_ref42_Names (i n : Nat) (s : St) : OS := atN Tryz.prog z114c z114a 2 (bodyOf Tryz.f35) i n s
def z114h (n i : Nat) (s : St) : OS := atH Tryz.prog z114c z114a 2 (bodyOf Tryz.f35) n i s
@[simp] theorem z114h_eq (n i : Nat) (s : St) : z114h n i s = L_ref42_Names i n (headOf (z114a.loops.lookup i) s) := rfl
def R_ref42_Names (i : Nat) (s : St) : OS := stepL Tryz.prog z114c z114a 2 (bodyOf Tryz.f35) i s
theorem z114k : okLoops (bodyOf Tryz.f35) = true := by kernel_rfl
def F_ref42_Names (ds : List D) : Option D := runF Tryz.prog z114c z114a 2 (bodyOf Tryz.f35) [.tmp 0] ds
theorem F_ref42_Names_eq (ds : List D) : F_ref42_Names ds = runG Tryz.prog z114c (z114h bigL) z114a 2 (bodyOf Tryz.f35) [.tmp 0] ds := runG_eq z114k _ ds
theorem C_ref42_Names (ds : List D) (r : D) (h : F_ref42_Names ds = some r) : Contract Tryz.prog gl 35 ds r := contract_of mix Tryz.func35 rfl (by kernel_rfl) (by kernel_rfl) (by decide) (call := z114c) ⟨callOf_ok z114b trivial, callOfE_ok noE trivial⟩ h
attribute [simp] Tryz.f204
def z115a : Ann := ⟨[0, 2], [8, 10, 12], [], [], [], some [2], [], [], [(64, 0, 92, 2)], []⟩
@[simp] theorem z115a_draws : z115a.draws = [] := rfl
@[simp] theorem z115a_exits : z115a.exits = [] := rfl
@[simp] theorem z115a_rets : z115a.rets = some [2] := rfl
@[simp] theorem z115a_keep : z115a.keep = [0, 2] := rfl
@[simp] theorem z115a_cond : z115a.cond = [8, 10, 12] := rfl
@[simp] theorem z115a_rows : z115a.rows = [] := rfl
@[simp] theorem z115a_loops : z115a.loops = [] := rfl
@[simp] theorem z115a_ecalls : z115a.ecalls = [] := rfl
@[simp] theorem z115a_crows : z115a.crows = [(64, 0, 92, 2)] := rfl
@[simp] theorem z115a_tails : z115a.tails = [] := rfl
@[simp] def z115b : PL := []
def z115c : CT := ⟨callOf (z115b ), callOfE noE, gl⟩
@[simp] theorem z115c_p (f : FuncId) (ds : List D) : z115c.p f ds = callOf (z115b ) f ds := Eq.trans rfl rfl
@[simp] theorem z115c_e (f : FuncId) (hs : List (Nat × O)) (ds : List D) : z115c.e f hs ds = callOfE noE f hs ds := Eq.trans rfl rfl
@[simp] theorem z115c_g (g : Nat) : z115c.g g = gl g := Eq.trans rfl rfl
def L_ref43_takes (i n : Nat) (s : St) : OS := atN Tryz.prog z115c z115a 13 (bodyOf Tryz.f204) i n s
def z115h (n i : Nat) (s : St) : OS := atH Tryz.prog z115c z115a 13 (bodyOf Tryz.f204) n i s
@[simp] theorem z115h_eq (n i : Nat) (s : St) : z115h n i s = L_ref43_takes i n (headOf (z115a.loops.lookup i) s) := rfl
def R_ref43_takes (i : Nat) (s : St) : OS := stepL Tryz.prog z115c z115a 13 (bodyOf Tryz.f204) i s
theorem z115k : okLoops (bodyOf Tryz.f204) = true := by kernel_rfl
def F_ref43_takes (ds : List D) : Option D := runF Tryz.prog z115c z115a 13 (bodyOf Tryz.f204) [.tmp 2] ds
theorem F_ref43_takes_eq (ds : List D) : F_ref43_takes ds = runG Tryz.prog z115c (z115h bigL) z115a 13 (bodyOf Tryz.f204) [.tmp 2] ds := runG_eq z115k _ ds
theorem C_ref43_takes (ds : List D) (r : D) (h : F_ref43_takes ds = some r) : Contract Tryz.prog gl 204 ds r := contract_of mix Tryz.func204 rfl (by kernel_rfl) (by kernel_rfl) (by decide) (call := z115c) ⟨callOf_ok z115b trivial, callOfE_ok noE trivial⟩ h
attribute [simp] Tryz.f191
def z116a : Ann := ⟨[0, 4, 5], [9, 17], [], [(2, [0, 1, 5])], [(0, []), (1, [0, 1, 5])], some [4], [], [], [(64, 0, 92, 2)], []⟩
@[simp] theorem z116a_draws : z116a.draws = [] := rfl
@[simp] theorem z116a_exits : z116a.exits = [(0, []), (1, [0, 1, 5])] := rfl
@[simp] theorem z116a_rets : z116a.rets = some [4] := rfl
@[simp] theorem z116a_keep : z116a.keep = [0, 4, 5] := rfl
@[simp] theorem z116a_cond : z116a.cond = [9, 17] := rfl
@[simp] theorem z116a_rows : z116a.rows = [] := rfl
@[simp] theorem z116a_loops : z116a.loops = [(2, [0, 1, 5])] := rfl
@[simp] theorem z116a_ecalls : z116a.ecalls = [] := rfl
@[simp] theorem z116a_crows : z116a.crows = [(64, 0, 92, 2)] := rfl
@[simp] theorem z116a_tails : z116a.tails = [] := rfl
@[simp] def z116b : PL := []
def z116c : CT := ⟨callOf (z116b ), callOfE noE, gl⟩
@[simp] theorem z116c_p (f : FuncId) (ds : List D) : z116c.p f ds = callOf (z116b ) f ds := Eq.trans rfl rfl
@[simp] theorem z116c_e (f : FuncId) (hs : List (Nat × O)) (ds : List D) : z116c.e f hs ds = callOfE noE f hs ds := Eq.trans rfl rfl
@[simp] theorem z116c_g (g : Nat) : z116c.g g = gl g := Eq.trans rfl rfl
def L_ref43_in (i n : Nat) (s : St) : OS := atN Tryz.prog z116c z116a 18 (bodyOf Tryz.f191) i n s
def z116h (n i : Nat) (s : St) : OS := atH Tryz.prog z116c z116a 18 (bodyOf Tryz.f191) n i s
@[simp] theorem z116h_eq (n i : Nat) (s : St) : z116h n i s = L_ref43_in i n (headOf (z116a.loops.lookup i) s) := rfl
def R_ref43_in (i : Nat) (s : St) : OS := stepL Tryz.prog z116c z116a 18 (bodyOf Tryz.f191) i s
theorem z116k : okLoops (bodyOf Tryz.f191) = true := by kernel_rfl
theorem L_ref43_in_zero (i : Nat) (s : St) : L_ref43_in i 0 s = none := rfl
theorem L_ref43_in_succ (i n : Nat) (s : St) : L_ref43_in i (n + 1) s = andThen (R_ref43_in i s) (z116h n i) := atN_succ z116k i n s
theorem R_ref43_in_eq (i : Nat) (s : St) : R_ref43_in i s = runS Tryz.prog z116c (z116h bigL) z116a 18 (loopAt (bodyOf Tryz.f191) i) s := rfl
def F_ref43_in (ds : List D) : Option D := runF Tryz.prog z116c z116a 18 (bodyOf Tryz.f191) [.tmp 4] ds
theorem F_ref43_in_eq (ds : List D) : F_ref43_in ds = runG Tryz.prog z116c (z116h bigL) z116a 18 (bodyOf Tryz.f191) [.tmp 4] ds := runG_eq z116k _ ds
theorem C_ref43_in (ds : List D) (r : D) (h : F_ref43_in ds = some r) : Contract Tryz.prog gl 191 ds r := contract_of mix Tryz.func191 rfl (by kernel_rfl) (by kernel_rfl) (by decide) (call := z116c) ⟨callOf_ok z116b trivial, callOfE_ok noE trivial⟩ h
attribute [simp] Tryz.f172
def z117a : Ann := ⟨[2], [], [], [], [], some [2], [], [], [(64, 0, 92, 2)], []⟩
@[simp] theorem z117a_draws : z117a.draws = [] := rfl
@[simp] theorem z117a_exits : z117a.exits = [] := rfl
@[simp] theorem z117a_rets : z117a.rets = some [2] := rfl
@[simp] theorem z117a_keep : z117a.keep = [2] := rfl
@[simp] theorem z117a_cond : z117a.cond = [] := rfl
@[simp] theorem z117a_rows : z117a.rows = [] := rfl
@[simp] theorem z117a_loops : z117a.loops = [] := rfl
@[simp] theorem z117a_ecalls : z117a.ecalls = [] := rfl
@[simp] theorem z117a_crows : z117a.crows = [(64, 0, 92, 2)] := rfl
@[simp] theorem z117a_tails : z117a.tails = [] := rfl
@[simp] def z117b : PL := []
def z117c : CT := ⟨callOf (z117b ), callOfE noE, gl⟩
@[simp] theorem z117c_p (f : FuncId) (ds : List D) : z117c.p f ds = callOf (z117b ) f ds := Eq.trans rfl rfl
@[simp] theorem z117c_e (f : FuncId) (hs : List (Nat × O)) (ds : List D) : z117c.e f hs ds = callOfE noE f hs ds := Eq.trans rfl rfl
@[simp] theorem z117c_g (g : Nat) : z117c.g g = gl g := Eq.trans rfl rfl
def L_ref43_big (i n : Nat) (s : St) : OS := atN Tryz.prog z117c z117a 9 (bodyOf Tryz.f172) i n s
def z117h (n i : Nat) (s : St) : OS := atH Tryz.prog z117c z117a 9 (bodyOf Tryz.f172) n i s
@[simp] theorem z117h_eq (n i : Nat) (s : St) : z117h n i s = L_ref43_big i n (headOf (z117a.loops.lookup i) s) := rfl
def R_ref43_big (i : Nat) (s : St) : OS := stepL Tryz.prog z117c z117a 9 (bodyOf Tryz.f172) i s
theorem z117k : okLoops (bodyOf Tryz.f172) = true := by kernel_rfl
def F_ref43_big (ds : List D) : Option D := runF Tryz.prog z117c z117a 9 (bodyOf Tryz.f172) [.tmp 2] ds
theorem F_ref43_big_eq (ds : List D) : F_ref43_big ds = runG Tryz.prog z117c (z117h bigL) z117a 9 (bodyOf Tryz.f172) [.tmp 2] ds := runG_eq z117k _ ds
theorem C_ref43_big (ds : List D) (r : D) (h : F_ref43_big ds = some r) : Contract Tryz.prog gl 172 ds r := contract_of mix Tryz.func172 rfl (by kernel_rfl) (by kernel_rfl) (by decide) (call := z117c) ⟨callOf_ok z117b trivial, callOfE_ok noE trivial⟩ h
attribute [simp] Tryz.f171
def z118a : Ann := ⟨[2], [], [], [], [], some [2], [], [], [(64, 0, 92, 2)], []⟩
@[simp] theorem z118a_draws : z118a.draws = [] := rfl
@[simp] theorem z118a_exits : z118a.exits = [] := rfl
@[simp] theorem z118a_rets : z118a.rets = some [2] := rfl
@[simp] theorem z118a_keep : z118a.keep = [2] := rfl
@[simp] theorem z118a_cond : z118a.cond = [] := rfl
@[simp] theorem z118a_rows : z118a.rows = [] := rfl
@[simp] theorem z118a_loops : z118a.loops = [] := rfl
@[simp] theorem z118a_ecalls : z118a.ecalls = [] := rfl
@[simp] theorem z118a_crows : z118a.crows = [(64, 0, 92, 2)] := rfl
@[simp] theorem z118a_tails : z118a.tails = [] := rfl
@[simp] def z118b : PL := []
def z118c : CT := ⟨callOf (z118b ), callOfE noE, gl⟩
@[simp] theorem z118c_p (f : FuncId) (ds : List D) : z118c.p f ds = callOf (z118b ) f ds := Eq.trans rfl rfl
@[simp] theorem z118c_e (f : FuncId) (hs : List (Nat × O)) (ds : List D) : z118c.e f hs ds = callOfE noE f hs ds := Eq.trans rfl rfl
@[simp] theorem z118c_g (g : Nat) : z118c.g g = gl g := Eq.trans rfl rfl
def L_ref43_condition (i n : Nat) (s : St) : OS := atN Tryz.prog z118c z118a 9 (bodyOf Tryz.f171) i n s
def z118h (n i : Nat) (s : St) : OS := atH Tryz.prog z118c z118a 9 (bodyOf Tryz.f171) n i s
@[simp] theorem z118h_eq (n i : Nat) (s : St) : z118h n i s = L_ref43_condition i n (headOf (z118a.loops.lookup i) s) := rfl
def R_ref43_condition (i : Nat) (s : St) : OS := stepL Tryz.prog z118c z118a 9 (bodyOf Tryz.f171) i s
theorem z118k : okLoops (bodyOf Tryz.f171) = true := by kernel_rfl
def F_ref43_condition (ds : List D) : Option D := runF Tryz.prog z118c z118a 9 (bodyOf Tryz.f171) [.tmp 2] ds
theorem F_ref43_condition_eq (ds : List D) : F_ref43_condition ds = runG Tryz.prog z118c (z118h bigL) z118a 9 (bodyOf Tryz.f171) [.tmp 2] ds := runG_eq z118k _ ds
theorem C_ref43_condition (ds : List D) (r : D) (h : F_ref43_condition ds = some r) : Contract Tryz.prog gl 171 ds r := contract_of mix Tryz.func171 rfl (by kernel_rfl) (by kernel_rfl) (by decide) (call := z118c) ⟨callOf_ok z118b trivial, callOfE_ok noE trivial⟩ h
attribute [simp] Tryz.f205
def z119a : Ann := ⟨[2], [], [], [], [], some [2], [], [], [(64, 0, 92, 2)], []⟩
@[simp] theorem z119a_draws : z119a.draws = [] := rfl
@[simp] theorem z119a_exits : z119a.exits = [] := rfl
@[simp] theorem z119a_rets : z119a.rets = some [2] := rfl
@[simp] theorem z119a_keep : z119a.keep = [2] := rfl
@[simp] theorem z119a_cond : z119a.cond = [] := rfl
@[simp] theorem z119a_rows : z119a.rows = [] := rfl
@[simp] theorem z119a_loops : z119a.loops = [] := rfl
@[simp] theorem z119a_ecalls : z119a.ecalls = [] := rfl
@[simp] theorem z119a_crows : z119a.crows = [(64, 0, 92, 2)] := rfl
@[simp] theorem z119a_tails : z119a.tails = [] := rfl
@[simp] def z119b : PL := []
def z119c : CT := ⟨callOf (z119b ), callOfE noE, gl⟩
@[simp] theorem z119c_p (f : FuncId) (ds : List D) : z119c.p f ds = callOf (z119b ) f ds := Eq.trans rfl rfl
@[simp] theorem z119c_e (f : FuncId) (hs : List (Nat × O)) (ds : List D) : z119c.e f hs ds = callOfE noE f hs ds := Eq.trans rfl rfl
@[simp] theorem z119c_g (g : Nat) : z119c.g g = gl g := Eq.trans rfl rfl
def L_ref43_wants (i n : Nat) (s : St) : OS := atN Tryz.prog z119c z119a 13 (bodyOf Tryz.f205) i n s
def z119h (n i : Nat) (s : St) : OS := atH Tryz.prog z119c z119a 13 (bodyOf Tryz.f205) n i s
@[simp] theorem z119h_eq (n i : Nat) (s : St) : z119h n i s = L_ref43_wants i n (headOf (z119a.loops.lookup i) s) := rfl
def R_ref43_wants (i : Nat) (s : St) : OS := stepL Tryz.prog z119c z119a 13 (bodyOf Tryz.f205) i s
theorem z119k : okLoops (bodyOf Tryz.f205) = true := by kernel_rfl
def F_ref43_wants (ds : List D) : Option D := runF Tryz.prog z119c z119a 13 (bodyOf Tryz.f205) [.tmp 2] ds
theorem F_ref43_wants_eq (ds : List D) : F_ref43_wants ds = runG Tryz.prog z119c (z119h bigL) z119a 13 (bodyOf Tryz.f205) [.tmp 2] ds := runG_eq z119k _ ds
theorem C_ref43_wants (ds : List D) (r : D) (h : F_ref43_wants ds = some r) : Contract Tryz.prog gl 205 ds r := contract_of mix Tryz.func205 rfl (by kernel_rfl) (by kernel_rfl) (by decide) (call := z119c) ⟨callOf_ok z119b trivial, callOfE_ok noE trivial⟩ h
attribute [simp] Tryz.f170
def z120a : Ann := ⟨[1, 2, 3, 6, 7, 8, 9, 10], [12, 17, 30, 36, 61, 71, 79, 84, 97], [], [(4, [1, 2, 3, 7]), (19, [3, 10])], [(0, [1, 3]), (1, [1, 2, 3, 7]), (2, []), (3, [3, 10])], some [6], [(21, 9)], [], [(64, 0, 92, 2)], []⟩
@[simp] theorem z120a_draws : z120a.draws = [(21, 9)] := rfl
@[simp] theorem z120a_exits : z120a.exits = [(0, [1, 3]), (1, [1, 2, 3, 7]), (2, []), (3, [3, 10])] := rfl
@[simp] theorem z120a_rets : z120a.rets = some [6] := rfl
@[simp] theorem z120a_keep : z120a.keep = [1, 2, 3, 6, 7, 8, 9, 10] := rfl
@[simp] theorem z120a_cond : z120a.cond = [12, 17, 30, 36, 61, 71, 79, 84, 97] := rfl
@[simp] theorem z120a_rows : z120a.rows = [] := rfl
@[simp] theorem z120a_loops : z120a.loops = [(4, [1, 2, 3, 7]), (19, [3, 10])] := rfl
@[simp] theorem z120a_ecalls : z120a.ecalls = [] := rfl
@[simp] theorem z120a_crows : z120a.crows = [(64, 0, 92, 2)] := rfl
@[simp] theorem z120a_tails : z120a.tails = [] := rfl
@[simp] def z120b (self : List D → Option D) : PL := [(170, self), (171, F_ref43_condition), (172, F_ref43_big), (191, F_ref43_in), (204, F_ref43_takes), (205, F_ref43_wants)]
def z120c (self : List D → Option D) : CT := ⟨callOf (z120b self ), callOfE noE, gl⟩
@[simp] theorem z120c_p (self : List D → Option D) (f : FuncId) (ds : List D) : (z120c self).p f ds = callOf (z120b self ) f ds := Eq.trans rfl rfl
@[simp] theorem z120c_e (self : List D → Option D) (f : FuncId) (hs : List (Nat × O)) (ds : List D) : (z120c self).e f hs ds = callOfE noE f hs ds := Eq.trans rfl rfl
@[simp] theorem z120c_g (self : List D → Option D) (g : Nat) : (z120c self).g g = gl g := Eq.trans rfl rfl
def L_ref43_check (self : List D → Option D) (i n : Nat) (s : St) : OS := atN Tryz.prog (z120c self) z120a 98 (bodyOf Tryz.f170) i n s
def z120h (self : List D → Option D) (n i : Nat) (s : St) : OS := atH Tryz.prog (z120c self) z120a 98 (bodyOf Tryz.f170) n i s
@[simp] theorem z120h_eq (self : List D → Option D) (n i : Nat) (s : St) : z120h self n i s = L_ref43_check self i n (headOf (z120a.loops.lookup i) s) := rfl
def R_ref43_check (self : List D → Option D) (i : Nat) (s : St) : OS := stepL Tryz.prog (z120c self) z120a 98 (bodyOf Tryz.f170) i s
theorem z120k : okLoops (bodyOf Tryz.f170) = true := by kernel_rfl
theorem L_ref43_check_zero (self : List D → Option D) (i : Nat) (s : St) : L_ref43_check self i 0 s = none := rfl
theorem L_ref43_check_succ (self : List D → Option D) (i n : Nat) (s : St) : L_ref43_check self i (n + 1) s = andThen (R_ref43_check self i s) (z120h self n i) := atN_succ z120k i n s
theorem R_ref43_check_eq (self : List D → Option D) (i : Nat) (s : St) : R_ref43_check self i s = runS Tryz.prog (z120c self) (z120h self bigL) z120a 98 (loopAt (bodyOf Tryz.f170) i) s := rfl
def FN_ref43_check : Nat → List D → Option D
  | 0 => fun _ => none
  | n + 1 => fun ds => runF Tryz.prog (z120c (FN_ref43_check n)) z120a 98 (bodyOf Tryz.f170) [.tmp 6] ds
theorem FN_ref43_check_eq (n : Nat) (ds : List D) : FN_ref43_check (n + 1) ds = runG Tryz.prog (z120c (FN_ref43_check n)) (z120h (FN_ref43_check n) bigL) z120a 98 (bodyOf Tryz.f170) [.tmp 6] ds := runG_eq z120k _ ds
theorem CN_ref43_check : ∀ (n : Nat) (ds : List D) (r : D), FN_ref43_check n ds = some r → Contract Tryz.prog gl 170 ds r
  | 0, _, _, h => by cases h
  | n + 1, ds, r, h => by
    have ih := CN_ref43_check n
    exact contract_of mix Tryz.func170 rfl (by kernel_rfl) (by kernel_rfl) (by decide) (call := z120c (FN_ref43_check n)) ⟨callOf_ok (z120b (FN_ref43_check n)) ⟨ih, C_ref43_condition, C_ref43_big, C_ref43_in, C_ref43_takes, C_ref43_wants, trivial⟩, callOfE_ok noE trivial⟩ h
def F_ref43_check (ds : List D) : Option D := FN_ref43_check 1000 ds
theorem C_ref43_check (ds : List D) (r : D) (h : F_ref43_check ds = some r) : Contract Tryz.prog gl 170 ds r := CN_ref43_check 1000 ds r h
attribute [simp] Tryz.f123
def z121a : Ann := ⟨[2, 4, 5], [10, 15], [], [], [], some [4], [], [], [(64, 0, 92, 2)], []⟩
@[simp] theorem z121a_draws : z121a.draws = [] := rfl
@[simp] theorem z121a_exits : z121a.exits = [] := rfl
@[simp] theorem z121a_rets : z121a.rets = some [4] := rfl
@[simp] theorem z121a_keep : z121a.keep = [2, 4, 5] := rfl
@[simp] theorem z121a_cond : z121a.cond = [10, 15] := rfl
@[simp] theorem z121a_rows : z121a.rows = [] := rfl
@[simp] theorem z121a_loops : z121a.loops = [] := rfl
@[simp] theorem z121a_ecalls : z121a.ecalls = [] := rfl
@[simp] theorem z121a_crows : z121a.crows = [(64, 0, 92, 2)] := rfl
@[simp] theorem z121a_tails : z121a.tails = [] := rfl
@[simp] def z121b : PL := [(170, F_ref43_check), (171, F_ref43_condition)]
def z121c : CT := ⟨callOf (z121b ), callOfE noE, gl⟩
@[simp] theorem z121c_p (f : FuncId) (ds : List D) : z121c.p f ds = callOf (z121b ) f ds := Eq.trans rfl rfl
@[simp] theorem z121c_e (f : FuncId) (hs : List (Nat × O)) (ds : List D) : z121c.e f hs ds = callOfE noE f hs ds := Eq.trans rfl rfl
@[simp] theorem z121c_g (g : Nat) : z121c.g g = gl g := Eq.trans rfl rfl
def L_ref43_Check (i n : Nat) (s : St) : OS := atN Tryz.prog z121c z121a 16 (bodyOf Tryz.f123) i n s
def z121h (n i : Nat) (s : St) : OS := atH Tryz.prog z121c z121a 16 (bodyOf Tryz.f123) n i s
@[simp] theorem z121h_eq (n i : Nat) (s : St) : z121h n i s = L_ref43_Check i n (headOf (z121a.loops.lookup i) s) := rfl
def R_ref43_Check (i : Nat) (s : St) : OS := stepL Tryz.prog z121c z121a 16 (bodyOf Tryz.f123) i s
theorem z121k : okLoops (bodyOf Tryz.f123) = true := by kernel_rfl
def F_ref43_Check (ds : List D) : Option D := runF Tryz.prog z121c z121a 16 (bodyOf Tryz.f123) [.tmp 4] ds
theorem F_ref43_Check_eq (ds : List D) : F_ref43_Check ds = runG Tryz.prog z121c (z121h bigL) z121a 16 (bodyOf Tryz.f123) [.tmp 4] ds := runG_eq z121k _ ds
theorem C_ref43_Check (ds : List D) (r : D) (h : F_ref43_Check ds = some r) : Contract Tryz.prog gl 123 ds r := contract_of mix Tryz.func123 rfl (by kernel_rfl) (by kernel_rfl) (by decide) (call := z121c) ⟨callOf_ok z121b ⟨C_ref43_check, C_ref43_condition, trivial⟩, callOfE_ok noE trivial⟩ h
attribute [simp] Tryz.f64
def z122a : Ann := ⟨[0, 4, 5, 6], [9, 13, 29, 38], [], [(4, [0, 1, 5])], [(0, []), (1, [0, 1, 5])], some [4], [], [], [(64, 0, 92, 2)], []⟩
@[simp] theorem z122a_draws : z122a.draws = [] := rfl
@[simp] theorem z122a_exits : z122a.exits = [(0, []), (1, [0, 1, 5])] := rfl
@[simp] theorem z122a_rets : z122a.rets = some [4] := rfl
@[simp] theorem z122a_keep : z122a.keep = [0, 4, 5, 6] := rfl
@[simp] theorem z122a_cond : z122a.cond = [9, 13, 29, 38] := rfl
@[simp] theorem z122a_rows : z122a.rows = [] := rfl
@[simp] theorem z122a_loops : z122a.loops = [(4, [0, 1, 5])] := rfl
@[simp] theorem z122a_ecalls : z122a.ecalls = [] := rfl
@[simp] theorem z122a_crows : z122a.crows = [(64, 0, 92, 2)] := rfl
@[simp] theorem z122a_tails : z122a.tails = [] := rfl
@[simp] def z122b : PL := [(123, F_ref43_Check)]
def z122c : CT := ⟨callOf (z122b ), callOfE noE, gl⟩
@[simp] theorem z122c_p (f : FuncId) (ds : List D) : z122c.p f ds = callOf (z122b ) f ds := Eq.trans rfl rfl
@[simp] theorem z122c_e (f : FuncId) (hs : List (Nat × O)) (ds : List D) : z122c.e f hs ds = callOfE noE f hs ds := Eq.trans rfl rfl
@[simp] theorem z122c_g (g : Nat) : z122c.g g = gl g := Eq.trans rfl rfl
def L_ref43_CheckRules (i n : Nat) (s : St) : OS := atN Tryz.prog z122c z122a 40 (bodyOf Tryz.f64) i n s
def z122h (n i : Nat) (s : St) : OS := atH Tryz.prog z122c z122a 40 (bodyOf Tryz.f64) n i s
@[simp] theorem z122h_eq (n i : Nat) (s : St) : z122h n i s = L_ref43_CheckRules i n (headOf (z122a.loops.lookup i) s) := rfl
def R_ref43_CheckRules (i : Nat) (s : St) : OS := stepL Tryz.prog z122c z122a 40 (bodyOf Tryz.f64) i s
theorem z122k : okLoops (bodyOf Tryz.f64) = true := by kernel_rfl
theorem L_ref43_CheckRules_zero (i : Nat) (s : St) : L_ref43_CheckRules i 0 s = none := rfl
theorem L_ref43_CheckRules_succ (i n : Nat) (s : St) : L_ref43_CheckRules i (n + 1) s = andThen (R_ref43_CheckRules i s) (z122h n i) := atN_succ z122k i n s
theorem R_ref43_CheckRules_eq (i : Nat) (s : St) : R_ref43_CheckRules i s = runS Tryz.prog z122c (z122h bigL) z122a 40 (loopAt (bodyOf Tryz.f64) i) s := rfl
def F_ref43_CheckRules (ds : List D) : Option D := runF Tryz.prog z122c z122a 40 (bodyOf Tryz.f64) [.tmp 4] ds
theorem F_ref43_CheckRules_eq (ds : List D) : F_ref43_CheckRules ds = runG Tryz.prog z122c (z122h bigL) z122a 40 (bodyOf Tryz.f64) [.tmp 4] ds := runG_eq z122k _ ds
theorem C_ref43_CheckRules (ds : List D) (r : D) (h : F_ref43_CheckRules ds = some r) : Contract Tryz.prog gl 64 ds r := contract_of mix Tryz.func64 rfl (by kernel_rfl) (by kernel_rfl) (by decide) (call := z122c) ⟨callOf_ok z122b ⟨C_ref43_Check, trivial⟩, callOfE_ok noE trivial⟩ h
attribute [simp] Tryz.f25
def z123a : Ann := ⟨[1, 4, 6, 8, 9, 10, 11], [15, 21, 27, 32], [], [], [], some [8], [], [], [(64, 0, 92, 2)], []⟩
@[simp] theorem z123a_draws : z123a.draws = [] := rfl
@[simp] theorem z123a_exits : z123a.exits = [] := rfl
@[simp] theorem z123a_rets : z123a.rets = some [8] := rfl
@[simp] theorem z123a_keep : z123a.keep = [1, 4, 6, 8, 9, 10, 11] := rfl
@[simp] theorem z123a_cond : z123a.cond = [15, 21, 27, 32] := rfl
@[simp] theorem z123a_rows : z123a.rows = [] := rfl
@[simp] theorem z123a_loops : z123a.loops = [] := rfl
@[simp] theorem z123a_ecalls : z123a.ecalls = [] := rfl
@[simp] theorem z123a_crows : z123a.crows = [(64, 0, 92, 2)] := rfl
@[simp] theorem z123a_tails : z123a.tails = [] := rfl
@[simp] def z123b : PL := [(35, F_ref42_Names), (61, F_ref19_Check), (62, F_ref30_Check), (63, F_ref34_Check), (64, F_ref43_CheckRules)]
def z123c : CT := ⟨callOf (z123b ), callOfE noE, gl⟩
@[simp] theorem z123c_p (f : FuncId) (ds : List D) : z123c.p f ds = callOf (z123b ) f ds := Eq.trans rfl rfl
@[simp] theorem z123c_e (f : FuncId) (hs : List (Nat × O)) (ds : List D) : z123c.e f hs ds = callOfE noE f hs ds := Eq.trans rfl rfl
@[simp] theorem z123c_g (g : Nat) : z123c.g g = gl g := Eq.trans rfl rfl
def L_ref45_check (i n : Nat) (s : St) : OS := atN Tryz.prog z123c z123a 37 (bodyOf Tryz.f25) i n s
def z123h (n i : Nat) (s : St) : OS := atH Tryz.prog z123c z123a 37 (bodyOf Tryz.f25) n i s
@[simp] theorem z123h_eq (n i : Nat) (s : St) : z123h n i s = L_ref45_check i n (headOf (z123a.loops.lookup i) s) := rfl
def R_ref45_check (i : Nat) (s : St) : OS := stepL Tryz.prog z123c z123a 37 (bodyOf Tryz.f25) i s
theorem z123k : okLoops (bodyOf Tryz.f25) = true := by kernel_rfl
def F_ref45_check (ds : List D) : Option D := runF Tryz.prog z123c z123a 37 (bodyOf Tryz.f25) [.tmp 8] ds
theorem F_ref45_check_eq (ds : List D) : F_ref45_check ds = runG Tryz.prog z123c (z123h bigL) z123a 37 (bodyOf Tryz.f25) [.tmp 8] ds := runG_eq z123k _ ds
theorem C_ref45_check (ds : List D) (r : D) (h : F_ref45_check ds = some r) : Contract Tryz.prog gl 25 ds r := contract_of mix Tryz.func25 rfl (by kernel_rfl) (by kernel_rfl) (by decide) (call := z123c) ⟨callOf_ok z123b ⟨C_ref42_Names, C_ref19_Check, C_ref30_Check, C_ref34_Check, C_ref43_CheckRules, trivial⟩, callOfE_ok noE trivial⟩ h
attribute [simp] Tryz.f206
def z124a : Ann := ⟨[1, 2], [], [], [], [], some [2], [], [], [(64, 0, 92, 2)], []⟩
@[simp] theorem z124a_draws : z124a.draws = [] := rfl
@[simp] theorem z124a_exits : z124a.exits = [] := rfl
@[simp] theorem z124a_rets : z124a.rets = some [2] := rfl
@[simp] theorem z124a_keep : z124a.keep = [1, 2] := rfl
@[simp] theorem z124a_cond : z124a.cond = [] := rfl
@[simp] theorem z124a_rows : z124a.rows = [] := rfl
@[simp] theorem z124a_loops : z124a.loops = [] := rfl
@[simp] theorem z124a_ecalls : z124a.ecalls = [] := rfl
@[simp] theorem z124a_crows : z124a.crows = [(64, 0, 92, 2)] := rfl
@[simp] theorem z124a_tails : z124a.tails = [] := rfl
@[simp] def z124b : PL := []
def z124c : CT := ⟨callOf (z124b ), callOfE noE, gl⟩
@[simp] theorem z124c_p (f : FuncId) (ds : List D) : z124c.p f ds = callOf (z124b ) f ds := Eq.trans rfl rfl
@[simp] theorem z124c_e (f : FuncId) (hs : List (Nat × O)) (ds : List D) : z124c.e f hs ds = callOfE noE f hs ds := Eq.trans rfl rfl
@[simp] theorem z124c_g (g : Nat) : z124c.g g = gl g := Eq.trans rfl rfl
def L_ref39_placed (i n : Nat) (s : St) : OS := atN Tryz.prog z124c z124a 18 (bodyOf Tryz.f206) i n s
def z124h (n i : Nat) (s : St) : OS := atH Tryz.prog z124c z124a 18 (bodyOf Tryz.f206) n i s
@[simp] theorem z124h_eq (n i : Nat) (s : St) : z124h n i s = L_ref39_placed i n (headOf (z124a.loops.lookup i) s) := rfl
def R_ref39_placed (i : Nat) (s : St) : OS := stepL Tryz.prog z124c z124a 18 (bodyOf Tryz.f206) i s
theorem z124k : okLoops (bodyOf Tryz.f206) = true := by kernel_rfl
def F_ref39_placed (ds : List D) : Option D := runF Tryz.prog z124c z124a 18 (bodyOf Tryz.f206) [.tmp 2] ds
theorem F_ref39_placed_eq (ds : List D) : F_ref39_placed ds = runG Tryz.prog z124c (z124h bigL) z124a 18 (bodyOf Tryz.f206) [.tmp 2] ds := runG_eq z124k _ ds
theorem C_ref39_placed (ds : List D) (r : D) (h : F_ref39_placed ds = some r) : Contract Tryz.prog gl 206 ds r := contract_of mix Tryz.func206 rfl (by kernel_rfl) (by kernel_rfl) (by decide) (call := z124c) ⟨callOf_ok z124b trivial, callOfE_ok noE trivial⟩ h
attribute [simp] Tryz.f173
def z125a : Ann := ⟨[1, 2, 3, 4, 5], [15], [], [], [], some [2, 3], [(3, 15)], [], [(64, 0, 92, 2)], []⟩
@[simp] theorem z125a_draws : z125a.draws = [(3, 15)] := rfl
@[simp] theorem z125a_exits : z125a.exits = [] := rfl
@[simp] theorem z125a_rets : z125a.rets = some [2, 3] := rfl
@[simp] theorem z125a_keep : z125a.keep = [1, 2, 3, 4, 5] := rfl
@[simp] theorem z125a_cond : z125a.cond = [15] := rfl
@[simp] theorem z125a_rows : z125a.rows = [] := rfl
@[simp] theorem z125a_loops : z125a.loops = [] := rfl
@[simp] theorem z125a_ecalls : z125a.ecalls = [] := rfl
@[simp] theorem z125a_crows : z125a.crows = [(64, 0, 92, 2)] := rfl
@[simp] theorem z125a_tails : z125a.tails = [] := rfl
@[simp] def z125b : PL := [(206, F_ref39_placed)]
def z125c : CT := ⟨callOf (z125b ), callOfE noE, gl⟩
@[simp] theorem z125c_p (f : FuncId) (ds : List D) : z125c.p f ds = callOf (z125b ) f ds := Eq.trans rfl rfl
@[simp] theorem z125c_e (f : FuncId) (hs : List (Nat × O)) (ds : List D) : z125c.e f hs ds = callOfE noE f hs ds := Eq.trans rfl rfl
@[simp] theorem z125c_g (g : Nat) : z125c.g g = gl g := Eq.trans rfl rfl
def L_ref39_Sizes (i n : Nat) (s : St) : OS := atN Tryz.prog z125c z125a 36 (bodyOf Tryz.f173) i n s
def z125h (n i : Nat) (s : St) : OS := atH Tryz.prog z125c z125a 36 (bodyOf Tryz.f173) n i s
@[simp] theorem z125h_eq (n i : Nat) (s : St) : z125h n i s = L_ref39_Sizes i n (headOf (z125a.loops.lookup i) s) := rfl
def R_ref39_Sizes (i : Nat) (s : St) : OS := stepL Tryz.prog z125c z125a 36 (bodyOf Tryz.f173) i s
theorem z125k : okLoops (bodyOf Tryz.f173) = true := by kernel_rfl
def F_ref39_Sizes (ds : List D) : Option D := runF Tryz.prog z125c z125a 36 (bodyOf Tryz.f173) [.tmp 2, .tmp 3] ds
theorem F_ref39_Sizes_eq (ds : List D) : F_ref39_Sizes ds = runG Tryz.prog z125c (z125h bigL) z125a 36 (bodyOf Tryz.f173) [.tmp 2, .tmp 3] ds := runG_eq z125k _ ds
theorem C_ref39_Sizes (ds : List D) (r : D) (h : F_ref39_Sizes ds = some r) : Contract Tryz.prog gl 173 ds r := contract_of mix Tryz.func173 rfl (by kernel_rfl) (by kernel_rfl) (by decide) (call := z125c) ⟨callOf_ok z125b ⟨C_ref39_placed, trivial⟩, callOfE_ok noE trivial⟩ h
attribute [simp] Tryz.f131
def z126a : Ann := ⟨[1, 2], [20, 28], [], [], [], some [2], [], [], [(64, 0, 92, 2)], []⟩
@[simp] theorem z126a_draws : z126a.draws = [] := rfl
@[simp] theorem z126a_exits : z126a.exits = [] := rfl
@[simp] theorem z126a_rets : z126a.rets = some [2] := rfl
@[simp] theorem z126a_keep : z126a.keep = [1, 2] := rfl
@[simp] theorem z126a_cond : z126a.cond = [20, 28] := rfl
@[simp] theorem z126a_rows : z126a.rows = [] := rfl
@[simp] theorem z126a_loops : z126a.loops = [] := rfl
@[simp] theorem z126a_ecalls : z126a.ecalls = [] := rfl
@[simp] theorem z126a_crows : z126a.crows = [(64, 0, 92, 2)] := rfl
@[simp] theorem z126a_tails : z126a.tails = [] := rfl
@[simp] def z126b : PL := []
def z126c : CT := ⟨callOf (z126b ), callOfE noE, gl⟩
@[simp] theorem z126c_p (f : FuncId) (ds : List D) : z126c.p f ds = callOf (z126b ) f ds := Eq.trans rfl rfl
@[simp] theorem z126c_e (f : FuncId) (hs : List (Nat × O)) (ds : List D) : z126c.e f hs ds = callOfE noE f hs ds := Eq.trans rfl rfl
@[simp] theorem z126c_g (g : Nat) : z126c.g g = gl g := Eq.trans rfl rfl
def L_ref36_Check (i n : Nat) (s : St) : OS := atN Tryz.prog z126c z126a 29 (bodyOf Tryz.f131) i n s
def z126h (n i : Nat) (s : St) : OS := atH Tryz.prog z126c z126a 29 (bodyOf Tryz.f131) n i s
@[simp] theorem z126h_eq (n i : Nat) (s : St) : z126h n i s = L_ref36_Check i n (headOf (z126a.loops.lookup i) s) := rfl
def R_ref36_Check (i : Nat) (s : St) : OS := stepL Tryz.prog z126c z126a 29 (bodyOf Tryz.f131) i s
theorem z126k : okLoops (bodyOf Tryz.f131) = true := by kernel_rfl
def F_ref36_Check (ds : List D) : Option D := runF Tryz.prog z126c z126a 29 (bodyOf Tryz.f131) [.tmp 2] ds
theorem F_ref36_Check_eq (ds : List D) : F_ref36_Check ds = runG Tryz.prog z126c (z126h bigL) z126a 29 (bodyOf Tryz.f131) [.tmp 2] ds := runG_eq z126k _ ds
theorem C_ref36_Check (ds : List D) (r : D) (h : F_ref36_Check ds = some r) : Contract Tryz.prog gl 131 ds r := contract_of mix Tryz.func131 rfl (by kernel_rfl) (by kernel_rfl) (by decide) (call := z126c) ⟨callOf_ok z126b trivial, callOfE_ok noE trivial⟩ h
attribute [simp] Tryz.f73
def z127a : Ann := ⟨[1, 2], [5], [], [], [], some [2], [], [], [(64, 0, 92, 2)], []⟩
@[simp] theorem z127a_draws : z127a.draws = [] := rfl
@[simp] theorem z127a_exits : z127a.exits = [] := rfl
@[simp] theorem z127a_rets : z127a.rets = some [2] := rfl
@[simp] theorem z127a_keep : z127a.keep = [1, 2] := rfl
@[simp] theorem z127a_cond : z127a.cond = [5] := rfl
@[simp] theorem z127a_rows : z127a.rows = [] := rfl
@[simp] theorem z127a_loops : z127a.loops = [] := rfl
@[simp] theorem z127a_ecalls : z127a.ecalls = [] := rfl
@[simp] theorem z127a_crows : z127a.crows = [(64, 0, 92, 2)] := rfl
@[simp] theorem z127a_tails : z127a.tails = [] := rfl
@[simp] def z127b : PL := [(131, F_ref36_Check)]
def z127c : CT := ⟨callOf (z127b ), callOfE noE, gl⟩
@[simp] theorem z127c_p (f : FuncId) (ds : List D) : z127c.p f ds = callOf (z127b ) f ds := Eq.trans rfl rfl
@[simp] theorem z127c_e (f : FuncId) (hs : List (Nat × O)) (ds : List D) : z127c.e f hs ds = callOfE noE f hs ds := Eq.trans rfl rfl
@[simp] theorem z127c_g (g : Nat) : z127c.g g = gl g := Eq.trans rfl rfl
def L_ref36_Mean (i n : Nat) (s : St) : OS := atN Tryz.prog z127c z127a 13 (bodyOf Tryz.f73) i n s
def z127h (n i : Nat) (s : St) : OS := atH Tryz.prog z127c z127a 13 (bodyOf Tryz.f73) n i s
@[simp] theorem z127h_eq (n i : Nat) (s : St) : z127h n i s = L_ref36_Mean i n (headOf (z127a.loops.lookup i) s) := rfl
def R_ref36_Mean (i : Nat) (s : St) : OS := stepL Tryz.prog z127c z127a 13 (bodyOf Tryz.f73) i s
theorem z127k : okLoops (bodyOf Tryz.f73) = true := by kernel_rfl
def F_ref36_Mean (ds : List D) : Option D := runF Tryz.prog z127c z127a 13 (bodyOf Tryz.f73) [.tmp 2] ds
theorem F_ref36_Mean_eq (ds : List D) : F_ref36_Mean ds = runG Tryz.prog z127c (z127h bigL) z127a 13 (bodyOf Tryz.f73) [.tmp 2] ds := runG_eq z127k _ ds
theorem C_ref36_Mean (ds : List D) (r : D) (h : F_ref36_Mean ds = some r) : Contract Tryz.prog gl 73 ds r := contract_of mix Tryz.func73 rfl (by kernel_rfl) (by kernel_rfl) (by decide) (call := z127c) ⟨callOf_ok z127b ⟨C_ref36_Check, trivial⟩, callOfE_ok noE trivial⟩ h
attribute [simp] Tryz.f174
def z128a : Ann := ⟨[1, 3, 6, 7], [16], [], [], [], some [6], [], [], [(64, 0, 92, 2)], []⟩
@[simp] theorem z128a_draws : z128a.draws = [] := rfl
@[simp] theorem z128a_exits : z128a.exits = [] := rfl
@[simp] theorem z128a_rets : z128a.rets = some [6] := rfl
@[simp] theorem z128a_keep : z128a.keep = [1, 3, 6, 7] := rfl
@[simp] theorem z128a_cond : z128a.cond = [16] := rfl
@[simp] theorem z128a_rows : z128a.rows = [] := rfl
@[simp] theorem z128a_loops : z128a.loops = [] := rfl
@[simp] theorem z128a_ecalls : z128a.ecalls = [] := rfl
@[simp] theorem z128a_crows : z128a.crows = [(64, 0, 92, 2)] := rfl
@[simp] theorem z128a_tails : z128a.tails = [] := rfl
@[simp] def z128b : PL := [(169, F_ref34_from)]
def z128c : CT := ⟨callOf (z128b ), callOfE noE, gl⟩
@[simp] theorem z128c_p (f : FuncId) (ds : List D) : z128c.p f ds = callOf (z128b ) f ds := Eq.trans rfl rfl
@[simp] theorem z128c_e (f : FuncId) (hs : List (Nat × O)) (ds : List D) : z128c.e f hs ds = callOfE noE f hs ds := Eq.trans rfl rfl
@[simp] theorem z128c_g (g : Nat) : z128c.g g = gl g := Eq.trans rfl rfl
def L_ref34_Shrunk (i n : Nat) (s : St) : OS := atN Tryz.prog z128c z128a 31 (bodyOf Tryz.f174) i n s
def z128h (n i : Nat) (s : St) : OS := atH Tryz.prog z128c z128a 31 (bodyOf Tryz.f174) n i s
@[simp] theorem z128h_eq (n i : Nat) (s : St) : z128h n i s = L_ref34_Shrunk i n (headOf (z128a.loops.lookup i) s) := rfl
def R_ref34_Shrunk (i : Nat) (s : St) : OS := stepL Tryz.prog z128c z128a 31 (bodyOf Tryz.f174) i s
theorem z128k : okLoops (bodyOf Tryz.f174) = true := by kernel_rfl
def F_ref34_Shrunk (ds : List D) : Option D := runF Tryz.prog z128c z128a 31 (bodyOf Tryz.f174) [.tmp 6] ds
theorem F_ref34_Shrunk_eq (ds : List D) : F_ref34_Shrunk ds = runG Tryz.prog z128c (z128h bigL) z128a 31 (bodyOf Tryz.f174) [.tmp 6] ds := runG_eq z128k _ ds
theorem C_ref34_Shrunk (ds : List D) (r : D) (h : F_ref34_Shrunk ds = some r) : Contract Tryz.prog gl 174 ds r := contract_of mix Tryz.func174 rfl (by kernel_rfl) (by kernel_rfl) (by decide) (call := z128c) ⟨callOf_ok z128b ⟨C_ref34_from, trivial⟩, callOfE_ok noE trivial⟩ h
attribute [simp] Tryz.f128
def z129a : Ann := ⟨[2, 3, 4, 5, 6, 7, 8], [19], [], [], [], some [4, 5], [(5, 7)], [], [(64, 0, 92, 2)], []⟩
@[simp] theorem z129a_draws : z129a.draws = [(5, 7)] := rfl
@[simp] theorem z129a_exits : z129a.exits = [] := rfl
@[simp] theorem z129a_rets : z129a.rets = some [4, 5] := rfl
@[simp] theorem z129a_keep : z129a.keep = [2, 3, 4, 5, 6, 7, 8] := rfl
@[simp] theorem z129a_cond : z129a.cond = [19] := rfl
@[simp] theorem z129a_rows : z129a.rows = [] := rfl
@[simp] theorem z129a_loops : z129a.loops = [] := rfl
@[simp] theorem z129a_ecalls : z129a.ecalls = [] := rfl
@[simp] theorem z129a_crows : z129a.crows = [(64, 0, 92, 2)] := rfl
@[simp] theorem z129a_tails : z129a.tails = [] := rfl
@[simp] def z129b : PL := [(73, F_ref36_Mean), (173, F_ref39_Sizes), (174, F_ref34_Shrunk)]
def z129c : CT := ⟨callOf (z129b ), callOfE noE, gl⟩
@[simp] theorem z129c_p (f : FuncId) (ds : List D) : z129c.p f ds = callOf (z129b ) f ds := Eq.trans rfl rfl
@[simp] theorem z129c_e (f : FuncId) (hs : List (Nat × O)) (ds : List D) : z129c.e f hs ds = callOfE noE f hs ds := Eq.trans rfl rfl
@[simp] theorem z129c_g (g : Nat) : z129c.g g = gl g := Eq.trans rfl rfl
def L_ref39_Dried (i n : Nat) (s : St) : OS := atN Tryz.prog z129c z129a 28 (bodyOf Tryz.f128) i n s
def z129h (n i : Nat) (s : St) : OS := atH Tryz.prog z129c z129a 28 (bodyOf Tryz.f128) n i s
@[simp] theorem z129h_eq (n i : Nat) (s : St) : z129h n i s = L_ref39_Dried i n (headOf (z129a.loops.lookup i) s) := rfl
def R_ref39_Dried (i : Nat) (s : St) : OS := stepL Tryz.prog z129c z129a 28 (bodyOf Tryz.f128) i s
theorem z129k : okLoops (bodyOf Tryz.f128) = true := by kernel_rfl
def F_ref39_Dried (ds : List D) : Option D := runF Tryz.prog z129c z129a 28 (bodyOf Tryz.f128) [.tmp 4, .tmp 5] ds
theorem F_ref39_Dried_eq (ds : List D) : F_ref39_Dried ds = runG Tryz.prog z129c (z129h bigL) z129a 28 (bodyOf Tryz.f128) [.tmp 4, .tmp 5] ds := runG_eq z129k _ ds
theorem C_ref39_Dried (ds : List D) (r : D) (h : F_ref39_Dried ds = some r) : Contract Tryz.prog gl 128 ds r := contract_of mix Tryz.func128 rfl (by kernel_rfl) (by kernel_rfl) (by decide) (call := z129c) ⟨callOf_ok z129b ⟨C_ref36_Mean, C_ref39_Sizes, C_ref34_Shrunk, trivial⟩, callOfE_ok noE trivial⟩ h
attribute [simp] Tryz.f67
def z130a : Ann := ⟨[3, 4, 5, 6, 7, 8], [], [], [], [], some [6], [], [], [(64, 0, 92, 2)], []⟩
@[simp] theorem z130a_draws : z130a.draws = [] := rfl
@[simp] theorem z130a_exits : z130a.exits = [] := rfl
@[simp] theorem z130a_rets : z130a.rets = some [6] := rfl
@[simp] theorem z130a_keep : z130a.keep = [3, 4, 5, 6, 7, 8] := rfl
@[simp] theorem z130a_cond : z130a.cond = [] := rfl
@[simp] theorem z130a_rows : z130a.rows = [] := rfl
@[simp] theorem z130a_loops : z130a.loops = [] := rfl
@[simp] theorem z130a_ecalls : z130a.ecalls = [] := rfl
@[simp] theorem z130a_crows : z130a.crows = [(64, 0, 92, 2)] := rfl
@[simp] theorem z130a_tails : z130a.tails = [] := rfl
@[simp] def z130b : PL := [(128, F_ref39_Dried)]
def z130c : CT := ⟨callOf (z130b ), callOfE noE, gl⟩
@[simp] theorem z130c_p (f : FuncId) (ds : List D) : z130c.p f ds = callOf (z130b ) f ds := Eq.trans rfl rfl
@[simp] theorem z130c_e (f : FuncId) (hs : List (Nat × O)) (ds : List D) : z130c.e f hs ds = callOfE noE f hs ds := Eq.trans rfl rfl
@[simp] theorem z130c_g (g : Nat) : z130c.g g = gl g := Eq.trans rfl rfl
def L_ref39_Under (i n : Nat) (s : St) : OS := atN Tryz.prog z130c z130a 25 (bodyOf Tryz.f67) i n s
def z130h (n i : Nat) (s : St) : OS := atH Tryz.prog z130c z130a 25 (bodyOf Tryz.f67) n i s
@[simp] theorem z130h_eq (n i : Nat) (s : St) : z130h n i s = L_ref39_Under i n (headOf (z130a.loops.lookup i) s) := rfl
def R_ref39_Under (i : Nat) (s : St) : OS := stepL Tryz.prog z130c z130a 25 (bodyOf Tryz.f67) i s
theorem z130k : okLoops (bodyOf Tryz.f67) = true := by kernel_rfl
def F_ref39_Under (ds : List D) : Option D := runF Tryz.prog z130c z130a 25 (bodyOf Tryz.f67) [.tmp 6] ds
theorem F_ref39_Under_eq (ds : List D) : F_ref39_Under ds = runG Tryz.prog z130c (z130h bigL) z130a 25 (bodyOf Tryz.f67) [.tmp 6] ds := runG_eq z130k _ ds
theorem C_ref39_Under (ds : List D) (r : D) (h : F_ref39_Under ds = some r) : Contract Tryz.prog gl 67 ds r := contract_of mix Tryz.func67 rfl (by kernel_rfl) (by kernel_rfl) (by decide) (call := z130c) ⟨callOf_ok z130b ⟨C_ref39_Dried, trivial⟩, callOfE_ok noE trivial⟩ h
attribute [simp] Tryz.f68
def z131a : Ann := ⟨[1, 2], [7], [], [], [], some [2], [], [], [(64, 0, 92, 2)], []⟩
@[simp] theorem z131a_draws : z131a.draws = [] := rfl
@[simp] theorem z131a_exits : z131a.exits = [] := rfl
@[simp] theorem z131a_rets : z131a.rets = some [2] := rfl
@[simp] theorem z131a_keep : z131a.keep = [1, 2] := rfl
@[simp] theorem z131a_cond : z131a.cond = [7] := rfl
@[simp] theorem z131a_rows : z131a.rows = [] := rfl
@[simp] theorem z131a_loops : z131a.loops = [] := rfl
@[simp] theorem z131a_ecalls : z131a.ecalls = [] := rfl
@[simp] theorem z131a_crows : z131a.crows = [(64, 0, 92, 2)] := rfl
@[simp] theorem z131a_tails : z131a.tails = [] := rfl
@[simp] def z131b : PL := [(118, F_ref30_length), (120, F_ref30_within)]
def z131c : CT := ⟨callOf (z131b ), callOfE noE, gl⟩
@[simp] theorem z131c_p (f : FuncId) (ds : List D) : z131c.p f ds = callOf (z131b ) f ds := Eq.trans rfl rfl
@[simp] theorem z131c_e (f : FuncId) (hs : List (Nat × O)) (ds : List D) : z131c.e f hs ds = callOfE noE f hs ds := Eq.trans rfl rfl
@[simp] theorem z131c_g (g : Nat) : z131c.g g = gl g := Eq.trans rfl rfl
def L_ref30_Length (i n : Nat) (s : St) : OS := atN Tryz.prog z131c z131a 13 (bodyOf Tryz.f68) i n s
def z131h (n i : Nat) (s : St) : OS := atH Tryz.prog z131c z131a 13 (bodyOf Tryz.f68) n i s
@[simp] theorem z131h_eq (n i : Nat) (s : St) : z131h n i s = L_ref30_Length i n (headOf (z131a.loops.lookup i) s) := rfl
def R_ref30_Length (i : Nat) (s : St) : OS := stepL Tryz.prog z131c z131a 13 (bodyOf Tryz.f68) i s
theorem z131k : okLoops (bodyOf Tryz.f68) = true := by kernel_rfl
def F_ref30_Length (ds : List D) : Option D := runF Tryz.prog z131c z131a 13 (bodyOf Tryz.f68) [.tmp 2] ds
theorem F_ref30_Length_eq (ds : List D) : F_ref30_Length ds = runG Tryz.prog z131c (z131h bigL) z131a 13 (bodyOf Tryz.f68) [.tmp 2] ds := runG_eq z131k _ ds
theorem C_ref30_Length (ds : List D) (r : D) (h : F_ref30_Length ds = some r) : Contract Tryz.prog gl 68 ds r := contract_of mix Tryz.func68 rfl (by kernel_rfl) (by kernel_rfl) (by decide) (call := z131c) ⟨callOf_ok z131b ⟨C_ref30_length, C_ref30_within, trivial⟩, callOfE_ok noE trivial⟩ h
attribute [simp] Tryz.f69
def z132a : Ann := ⟨[0, 4, 5, 6], [10, 19], [], [(3, [0, 1, 5, 6])], [(0, [5]), (1, [0, 1, 5, 6])], some [4], [], [], [(64, 0, 92, 2)], []⟩
@[simp] theorem z132a_draws : z132a.draws = [] := rfl
@[simp] theorem z132a_exits : z132a.exits = [(0, [5]), (1, [0, 1, 5, 6])] := rfl
@[simp] theorem z132a_rets : z132a.rets = some [4] := rfl
@[simp] theorem z132a_keep : z132a.keep = [0, 4, 5, 6] := rfl
@[simp] theorem z132a_cond : z132a.cond = [10, 19] := rfl
@[simp] theorem z132a_rows : z132a.rows = [] := rfl
@[simp] theorem z132a_loops : z132a.loops = [(3, [0, 1, 5, 6])] := rfl
@[simp] theorem z132a_ecalls : z132a.ecalls = [] := rfl
@[simp] theorem z132a_crows : z132a.crows = [(64, 0, 92, 2)] := rfl
@[simp] theorem z132a_tails : z132a.tails = [] := rfl
@[simp] def z132b : PL := []
def z132c : CT := ⟨callOf (z132b ), callOfE noE, gl⟩
@[simp] theorem z132c_p (f : FuncId) (ds : List D) : z132c.p f ds = callOf (z132b ) f ds := Eq.trans rfl rfl
@[simp] theorem z132c_e (f : FuncId) (hs : List (Nat × O)) (ds : List D) : z132c.e f hs ds = callOfE noE f hs ds := Eq.trans rfl rfl
@[simp] theorem z132c_g (g : Nat) : z132c.g g = gl g := Eq.trans rfl rfl
def L_ref13_Count (i n : Nat) (s : St) : OS := atN Tryz.prog z132c z132a 23 (bodyOf Tryz.f69) i n s
def z132h (n i : Nat) (s : St) : OS := atH Tryz.prog z132c z132a 23 (bodyOf Tryz.f69) n i s
@[simp] theorem z132h_eq (n i : Nat) (s : St) : z132h n i s = L_ref13_Count i n (headOf (z132a.loops.lookup i) s) := rfl
def R_ref13_Count (i : Nat) (s : St) : OS := stepL Tryz.prog z132c z132a 23 (bodyOf Tryz.f69) i s
theorem z132k : okLoops (bodyOf Tryz.f69) = true := by kernel_rfl
theorem L_ref13_Count_zero (i : Nat) (s : St) : L_ref13_Count i 0 s = none := rfl
theorem L_ref13_Count_succ (i n : Nat) (s : St) : L_ref13_Count i (n + 1) s = andThen (R_ref13_Count i s) (z132h n i) := atN_succ z132k i n s
theorem R_ref13_Count_eq (i : Nat) (s : St) : R_ref13_Count i s = runS Tryz.prog z132c (z132h bigL) z132a 23 (loopAt (bodyOf Tryz.f69) i) s := rfl
def F_ref13_Count (ds : List D) : Option D := runF Tryz.prog z132c z132a 23 (bodyOf Tryz.f69) [.tmp 4] ds
theorem F_ref13_Count_eq (ds : List D) : F_ref13_Count ds = runG Tryz.prog z132c (z132h bigL) z132a 23 (bodyOf Tryz.f69) [.tmp 4] ds := runG_eq z132k _ ds
theorem C_ref13_Count (ds : List D) (r : D) (h : F_ref13_Count ds = some r) : Contract Tryz.prog gl 69 ds r := contract_of mix Tryz.func69 rfl (by kernel_rfl) (by kernel_rfl) (by decide) (call := z132c) ⟨callOf_ok z132b trivial, callOfE_ok noE trivial⟩ h
attribute [simp] Tryz.f175
def z133a : Ann := ⟨[1, 2], [7, 18], [], [], [], some [2], [], [], [(64, 0, 92, 2)], []⟩
@[simp] theorem z133a_draws : z133a.draws = [] := rfl
@[simp] theorem z133a_exits : z133a.exits = [] := rfl
@[simp] theorem z133a_rets : z133a.rets = some [2] := rfl
@[simp] theorem z133a_keep : z133a.keep = [1, 2] := rfl
@[simp] theorem z133a_cond : z133a.cond = [7, 18] := rfl
@[simp] theorem z133a_rows : z133a.rows = [] := rfl
@[simp] theorem z133a_loops : z133a.loops = [] := rfl
@[simp] theorem z133a_ecalls : z133a.ecalls = [] := rfl
@[simp] theorem z133a_crows : z133a.crows = [(64, 0, 92, 2)] := rfl
@[simp] theorem z133a_tails : z133a.tails = [] := rfl
@[simp] def z133b : PL := []
def z133c : CT := ⟨callOf (z133b ), callOfE noE, gl⟩
@[simp] theorem z133c_p (f : FuncId) (ds : List D) : z133c.p f ds = callOf (z133b ) f ds := Eq.trans rfl rfl
@[simp] theorem z133c_e (f : FuncId) (hs : List (Nat × O)) (ds : List D) : z133c.e f hs ds = callOfE noE f hs ds := Eq.trans rfl rfl
@[simp] theorem z133c_g (g : Nat) : z133c.g g = gl g := Eq.trans rfl rfl
def L_ref03_Len (i n : Nat) (s : St) : OS := atN Tryz.prog z133c z133a 24 (bodyOf Tryz.f175) i n s
def z133h (n i : Nat) (s : St) : OS := atH Tryz.prog z133c z133a 24 (bodyOf Tryz.f175) n i s
@[simp] theorem z133h_eq (n i : Nat) (s : St) : z133h n i s = L_ref03_Len i n (headOf (z133a.loops.lookup i) s) := rfl
def R_ref03_Len (i : Nat) (s : St) : OS := stepL Tryz.prog z133c z133a 24 (bodyOf Tryz.f175) i s
theorem z133k : okLoops (bodyOf Tryz.f175) = true := by kernel_rfl
def F_ref03_Len (ds : List D) : Option D := runF Tryz.prog z133c z133a 24 (bodyOf Tryz.f175) [.tmp 2] ds
theorem F_ref03_Len_eq (ds : List D) : F_ref03_Len ds = runG Tryz.prog z133c (z133h bigL) z133a 24 (bodyOf Tryz.f175) [.tmp 2] ds := runG_eq z133k _ ds
theorem C_ref03_Len (ds : List D) (r : D) (h : F_ref03_Len ds = some r) : Contract Tryz.prog gl 175 ds r := contract_of mix Tryz.func175 rfl (by kernel_rfl) (by kernel_rfl) (by decide) (call := z133c) ⟨callOf_ok z133b trivial, callOfE_ok noE trivial⟩ h
attribute [simp] Tryz.f129
def z134a : Ann := ⟨[1, 2], [], [], [], [], some [2], [(1, 7)], [], [(64, 0, 92, 2)], []⟩
@[simp] theorem z134a_draws : z134a.draws = [(1, 7)] := rfl
@[simp] theorem z134a_exits : z134a.exits = [] := rfl
@[simp] theorem z134a_rets : z134a.rets = some [2] := rfl
@[simp] theorem z134a_keep : z134a.keep = [1, 2] := rfl
@[simp] theorem z134a_cond : z134a.cond = [] := rfl
@[simp] theorem z134a_rows : z134a.rows = [] := rfl
@[simp] theorem z134a_loops : z134a.loops = [] := rfl
@[simp] theorem z134a_ecalls : z134a.ecalls = [] := rfl
@[simp] theorem z134a_crows : z134a.crows = [(64, 0, 92, 2)] := rfl
@[simp] theorem z134a_tails : z134a.tails = [] := rfl
@[simp] def z134b : PL := [(175, F_ref03_Len)]
def z134c : CT := ⟨callOf (z134b ), callOfE noE, gl⟩
@[simp] theorem z134c_p (f : FuncId) (ds : List D) : z134c.p f ds = callOf (z134b ) f ds := Eq.trans rfl rfl
@[simp] theorem z134c_e (f : FuncId) (hs : List (Nat × O)) (ds : List D) : z134c.e f hs ds = callOfE noE f hs ds := Eq.trans rfl rfl
@[simp] theorem z134c_g (g : Nat) : z134c.g g = gl g := Eq.trans rfl rfl
def L_ref13_Size (i n : Nat) (s : St) : OS := atN Tryz.prog z134c z134a 12 (bodyOf Tryz.f129) i n s
def z134h (n i : Nat) (s : St) : OS := atH Tryz.prog z134c z134a 12 (bodyOf Tryz.f129) n i s
@[simp] theorem z134h_eq (n i : Nat) (s : St) : z134h n i s = L_ref13_Size i n (headOf (z134a.loops.lookup i) s) := rfl
def R_ref13_Size (i : Nat) (s : St) : OS := stepL Tryz.prog z134c z134a 12 (bodyOf Tryz.f129) i s
theorem z134k : okLoops (bodyOf Tryz.f129) = true := by kernel_rfl
def F_ref13_Size (ds : List D) : Option D := runF Tryz.prog z134c z134a 12 (bodyOf Tryz.f129) [.tmp 2] ds
theorem F_ref13_Size_eq (ds : List D) : F_ref13_Size ds = runG Tryz.prog z134c (z134h bigL) z134a 12 (bodyOf Tryz.f129) [.tmp 2] ds := runG_eq z134k _ ds
theorem C_ref13_Size (ds : List D) (r : D) (h : F_ref13_Size ds = some r) : Contract Tryz.prog gl 129 ds r := contract_of mix Tryz.func129 rfl (by kernel_rfl) (by kernel_rfl) (by decide) (call := z134c) ⟨callOf_ok z134b ⟨C_ref03_Len, trivial⟩, callOfE_ok noE trivial⟩ h
attribute [simp] Tryz.f70
def z135a : Ann := ⟨[0, 4, 5, 6], [10, 19], [], [(3, [0, 1, 5, 6])], [(0, [5]), (1, [0, 1, 5, 6])], some [4], [], [], [(64, 0, 92, 2)], []⟩
@[simp] theorem z135a_draws : z135a.draws = [] := rfl
@[simp] theorem z135a_exits : z135a.exits = [(0, [5]), (1, [0, 1, 5, 6])] := rfl
@[simp] theorem z135a_rets : z135a.rets = some [4] := rfl
@[simp] theorem z135a_keep : z135a.keep = [0, 4, 5, 6] := rfl
@[simp] theorem z135a_cond : z135a.cond = [10, 19] := rfl
@[simp] theorem z135a_rows : z135a.rows = [] := rfl
@[simp] theorem z135a_loops : z135a.loops = [(3, [0, 1, 5, 6])] := rfl
@[simp] theorem z135a_ecalls : z135a.ecalls = [] := rfl
@[simp] theorem z135a_crows : z135a.crows = [(64, 0, 92, 2)] := rfl
@[simp] theorem z135a_tails : z135a.tails = [] := rfl
@[simp] def z135b : PL := [(129, F_ref13_Size)]
def z135c : CT := ⟨callOf (z135b ), callOfE noE, gl⟩
@[simp] theorem z135c_p (f : FuncId) (ds : List D) : z135c.p f ds = callOf (z135b ) f ds := Eq.trans rfl rfl
@[simp] theorem z135c_e (f : FuncId) (hs : List (Nat × O)) (ds : List D) : z135c.e f hs ds = callOfE noE f hs ds := Eq.trans rfl rfl
@[simp] theorem z135c_g (g : Nat) : z135c.g g = gl g := Eq.trans rfl rfl
def L_ref13_Largest (i n : Nat) (s : St) : OS := atN Tryz.prog z135c z135a 28 (bodyOf Tryz.f70) i n s
def z135h (n i : Nat) (s : St) : OS := atH Tryz.prog z135c z135a 28 (bodyOf Tryz.f70) n i s
@[simp] theorem z135h_eq (n i : Nat) (s : St) : z135h n i s = L_ref13_Largest i n (headOf (z135a.loops.lookup i) s) := rfl
def R_ref13_Largest (i : Nat) (s : St) : OS := stepL Tryz.prog z135c z135a 28 (bodyOf Tryz.f70) i s
theorem z135k : okLoops (bodyOf Tryz.f70) = true := by kernel_rfl
theorem L_ref13_Largest_zero (i : Nat) (s : St) : L_ref13_Largest i 0 s = none := rfl
theorem L_ref13_Largest_succ (i n : Nat) (s : St) : L_ref13_Largest i (n + 1) s = andThen (R_ref13_Largest i s) (z135h n i) := atN_succ z135k i n s
theorem R_ref13_Largest_eq (i : Nat) (s : St) : R_ref13_Largest i s = runS Tryz.prog z135c (z135h bigL) z135a 28 (loopAt (bodyOf Tryz.f70) i) s := rfl
def F_ref13_Largest (ds : List D) : Option D := runF Tryz.prog z135c z135a 28 (bodyOf Tryz.f70) [.tmp 4] ds
theorem F_ref13_Largest_eq (ds : List D) : F_ref13_Largest ds = runG Tryz.prog z135c (z135h bigL) z135a 28 (bodyOf Tryz.f70) [.tmp 4] ds := runG_eq z135k _ ds
theorem C_ref13_Largest (ds : List D) (r : D) (h : F_ref13_Largest ds = some r) : Contract Tryz.prog gl 70 ds r := contract_of mix Tryz.func70 rfl (by kernel_rfl) (by kernel_rfl) (by decide) (call := z135c) ⟨callOf_ok z135b ⟨C_ref13_Size, trivial⟩, callOfE_ok noE trivial⟩ h
end
end Go.Proofs.YtldekjlihfidlaaGreatDoor
