/-
  Printed by gen.py for this seat: more of the functions.
-/
import Derived.Test.YtldekjlihfidlaaGreatDoorGen2
namespace Go.Proofs.YtldekjlihfidlaaGreatDoor
open Go Go.Abs
set_option maxRecDepth 100000
set_option linter.unusedSimpArgs false
set_option linter.unusedVariables false
noncomputable section
attribute [simp] Tryz.f176
def z136a : Ann := ⟨[2, 3, 4, 5], [21], [], [], [], some [4], [], [], [(64, 0, 92, 2)], []⟩
@[simp] theorem z136a_draws : z136a.draws = [] := rfl
@[simp] theorem z136a_exits : z136a.exits = [] := rfl
@[simp] theorem z136a_rets : z136a.rets = some [4] := rfl
@[simp] theorem z136a_keep : z136a.keep = [2, 3, 4, 5] := rfl
@[simp] theorem z136a_cond : z136a.cond = [21] := rfl
@[simp] theorem z136a_rows : z136a.rows = [] := rfl
@[simp] theorem z136a_loops : z136a.loops = [] := rfl
@[simp] theorem z136a_ecalls : z136a.ecalls = [] := rfl
@[simp] theorem z136a_crows : z136a.crows = [(64, 0, 92, 2)] := rfl
@[simp] theorem z136a_tails : z136a.tails = [] := rfl
@[simp] def z136b : PL := []
def z136c : CT := ⟨callOf (z136b ), callOfE noE, gl⟩
@[simp] theorem z136c_p (f : FuncId) (ds : List D) : z136c.p f ds = callOf (z136b ) f ds := Eq.trans rfl rfl
@[simp] theorem z136c_e (f : FuncId) (hs : List (Nat × O)) (ds : List D) : z136c.e f hs ds = callOfE noE f hs ds := Eq.trans rfl rfl
@[simp] theorem z136c_g (g : Nat) : z136c.g g = gl g := Eq.trans rfl rfl
def L_ref03_Meet (i n : Nat) (s : St) : OS := atN Tryz.prog z136c z136a 24 (bodyOf Tryz.f176) i n s
def z136h (n i : Nat) (s : St) : OS := atH Tryz.prog z136c z136a 24 (bodyOf Tryz.f176) n i s
@[simp] theorem z136h_eq (n i : Nat) (s : St) : z136h n i s = L_ref03_Meet i n (headOf (z136a.loops.lookup i) s) := rfl
def R_ref03_Meet (i : Nat) (s : St) : OS := stepL Tryz.prog z136c z136a 24 (bodyOf Tryz.f176) i s
theorem z136k : okLoops (bodyOf Tryz.f176) = true := by kernel_rfl
def F_ref03_Meet (ds : List D) : Option D := runF Tryz.prog z136c z136a 24 (bodyOf Tryz.f176) [.cell 4 23] ds
theorem F_ref03_Meet_eq (ds : List D) : F_ref03_Meet ds = runG Tryz.prog z136c (z136h bigL) z136a 24 (bodyOf Tryz.f176) [.cell 4 23] ds := runG_eq z136k _ ds
theorem C_ref03_Meet (ds : List D) (r : D) (h : F_ref03_Meet ds = some r) : Contract Tryz.prog gl 176 ds r := contract_of mix Tryz.func176 rfl (by kernel_rfl) (by kernel_rfl) (by decide) (call := z136c) ⟨callOf_ok z136b trivial, callOfE_ok noE trivial⟩ h
attribute [simp] Tryz.f177
def z137a : Ann := ⟨[1, 2], [], [], [], [], some [2], [], [], [(64, 0, 92, 2)], []⟩
@[simp] theorem z137a_draws : z137a.draws = [] := rfl
@[simp] theorem z137a_exits : z137a.exits = [] := rfl
@[simp] theorem z137a_rets : z137a.rets = some [2] := rfl
@[simp] theorem z137a_keep : z137a.keep = [1, 2] := rfl
@[simp] theorem z137a_cond : z137a.cond = [] := rfl
@[simp] theorem z137a_rows : z137a.rows = [] := rfl
@[simp] theorem z137a_loops : z137a.loops = [] := rfl
@[simp] theorem z137a_ecalls : z137a.ecalls = [] := rfl
@[simp] theorem z137a_crows : z137a.crows = [(64, 0, 92, 2)] := rfl
@[simp] theorem z137a_tails : z137a.tails = [] := rfl
@[simp] def z137b : PL := []
def z137c : CT := ⟨callOf (z137b ), callOfE noE, gl⟩
@[simp] theorem z137c_p (f : FuncId) (ds : List D) : z137c.p f ds = callOf (z137b ) f ds := Eq.trans rfl rfl
@[simp] theorem z137c_e (f : FuncId) (hs : List (Nat × O)) (ds : List D) : z137c.e f hs ds = callOfE noE f hs ds := Eq.trans rfl rfl
@[simp] theorem z137c_g (g : Nat) : z137c.g g = gl g := Eq.trans rfl rfl
def L_ref13_Knot (i n : Nat) (s : St) : OS := atN Tryz.prog z137c z137a 11 (bodyOf Tryz.f177) i n s
def z137h (n i : Nat) (s : St) : OS := atH Tryz.prog z137c z137a 11 (bodyOf Tryz.f177) n i s
@[simp] theorem z137h_eq (n i : Nat) (s : St) : z137h n i s = L_ref13_Knot i n (headOf (z137a.loops.lookup i) s) := rfl
def R_ref13_Knot (i : Nat) (s : St) : OS := stepL Tryz.prog z137c z137a 11 (bodyOf Tryz.f177) i s
theorem z137k : okLoops (bodyOf Tryz.f177) = true := by kernel_rfl
def F_ref13_Knot (ds : List D) : Option D := runF Tryz.prog z137c z137a 11 (bodyOf Tryz.f177) [.tmp 2] ds
theorem F_ref13_Knot_eq (ds : List D) : F_ref13_Knot ds = runG Tryz.prog z137c (z137h bigL) z137a 11 (bodyOf Tryz.f177) [.tmp 2] ds := runG_eq z137k _ ds
theorem C_ref13_Knot (ds : List D) (r : D) (h : F_ref13_Knot ds = some r) : Contract Tryz.prog gl 177 ds r := contract_of mix Tryz.func177 rfl (by kernel_rfl) (by kernel_rfl) (by decide) (call := z137c) ⟨callOf_ok z137b trivial, callOfE_ok noE trivial⟩ h
attribute [simp] Tryz.f130
def z138a : Ann := ⟨[0, 3, 4, 5, 6, 7], [11, 33], [], [(3, [0, 3, 5, 6])], [(0, [5]), (1, [0, 3, 5, 6])], some [4], [(5, 9)], [], [(64, 0, 92, 2)], []⟩
@[simp] theorem z138a_draws : z138a.draws = [(5, 9)] := rfl
@[simp] theorem z138a_exits : z138a.exits = [(0, [5]), (1, [0, 3, 5, 6])] := rfl
@[simp] theorem z138a_rets : z138a.rets = some [4] := rfl
@[simp] theorem z138a_keep : z138a.keep = [0, 3, 4, 5, 6, 7] := rfl
@[simp] theorem z138a_cond : z138a.cond = [11, 33] := rfl
@[simp] theorem z138a_rows : z138a.rows = [] := rfl
@[simp] theorem z138a_loops : z138a.loops = [(3, [0, 3, 5, 6])] := rfl
@[simp] theorem z138a_ecalls : z138a.ecalls = [] := rfl
@[simp] theorem z138a_crows : z138a.crows = [(64, 0, 92, 2)] := rfl
@[simp] theorem z138a_tails : z138a.tails = [] := rfl
@[simp] def z138b : PL := [(129, F_ref13_Size), (176, F_ref03_Meet), (177, F_ref13_Knot)]
def z138c : CT := ⟨callOf (z138b ), callOfE noE, gl⟩
@[simp] theorem z138c_p (f : FuncId) (ds : List D) : z138c.p f ds = callOf (z138b ) f ds := Eq.trans rfl rfl
@[simp] theorem z138c_e (f : FuncId) (hs : List (Nat × O)) (ds : List D) : z138c.e f hs ds = callOfE noE f hs ds := Eq.trans rfl rfl
@[simp] theorem z138c_g (g : Nat) : z138c.g g = gl g := Eq.trans rfl rfl
def L_ref13_window (i n : Nat) (s : St) : OS := atN Tryz.prog z138c z138a 42 (bodyOf Tryz.f130) i n s
def z138h (n i : Nat) (s : St) : OS := atH Tryz.prog z138c z138a 42 (bodyOf Tryz.f130) n i s
@[simp] theorem z138h_eq (n i : Nat) (s : St) : z138h n i s = L_ref13_window i n (headOf (z138a.loops.lookup i) s) := rfl
def R_ref13_window (i : Nat) (s : St) : OS := stepL Tryz.prog z138c z138a 42 (bodyOf Tryz.f130) i s
theorem z138k : okLoops (bodyOf Tryz.f130) = true := by kernel_rfl
theorem L_ref13_window_zero (i : Nat) (s : St) : L_ref13_window i 0 s = none := rfl
theorem L_ref13_window_succ (i n : Nat) (s : St) : L_ref13_window i (n + 1) s = andThen (R_ref13_window i s) (z138h n i) := atN_succ z138k i n s
theorem R_ref13_window_eq (i : Nat) (s : St) : R_ref13_window i s = runS Tryz.prog z138c (z138h bigL) z138a 42 (loopAt (bodyOf Tryz.f130) i) s := rfl
def F_ref13_window (ds : List D) : Option D := runF Tryz.prog z138c z138a 42 (bodyOf Tryz.f130) [.tmp 4] ds
theorem F_ref13_window_eq (ds : List D) : F_ref13_window ds = runG Tryz.prog z138c (z138h bigL) z138a 42 (bodyOf Tryz.f130) [.tmp 4] ds := runG_eq z138k _ ds
theorem C_ref13_window (ds : List D) (r : D) (h : F_ref13_window ds = some r) : Contract Tryz.prog gl 130 ds r := contract_of mix Tryz.func130 rfl (by kernel_rfl) (by kernel_rfl) (by decide) (call := z138c) ⟨callOf_ok z138b ⟨C_ref13_Size, C_ref03_Meet, C_ref13_Knot, trivial⟩, callOfE_ok noE trivial⟩ h
attribute [simp] Tryz.f71
def z139a : Ann := ⟨[0, 1, 4, 5, 6, 7], [18, 22], [], [(5, [0, 1, 5, 6])], [(0, [5]), (1, [0, 1, 5, 6])], some [4], [], [], [(64, 0, 92, 2)], []⟩
@[simp] theorem z139a_draws : z139a.draws = [] := rfl
@[simp] theorem z139a_exits : z139a.exits = [(0, [5]), (1, [0, 1, 5, 6])] := rfl
@[simp] theorem z139a_rets : z139a.rets = some [4] := rfl
@[simp] theorem z139a_keep : z139a.keep = [0, 1, 4, 5, 6, 7] := rfl
@[simp] theorem z139a_cond : z139a.cond = [18, 22] := rfl
@[simp] theorem z139a_rows : z139a.rows = [] := rfl
@[simp] theorem z139a_loops : z139a.loops = [(5, [0, 1, 5, 6])] := rfl
@[simp] theorem z139a_ecalls : z139a.ecalls = [] := rfl
@[simp] theorem z139a_crows : z139a.crows = [(64, 0, 92, 2)] := rfl
@[simp] theorem z139a_tails : z139a.tails = [] := rfl
@[simp] def z139b : PL := [(119, F_ref13_Check), (130, F_ref13_window)]
def z139c : CT := ⟨callOf (z139b ), callOfE noE, gl⟩
@[simp] theorem z139c_p (f : FuncId) (ds : List D) : z139c.p f ds = callOf (z139b ) f ds := Eq.trans rfl rfl
@[simp] theorem z139c_e (f : FuncId) (hs : List (Nat × O)) (ds : List D) : z139c.e f hs ds = callOfE noE f hs ds := Eq.trans rfl rfl
@[simp] theorem z139c_g (g : Nat) : z139c.g g = gl g := Eq.trans rfl rfl
def L_ref13_Worst (i n : Nat) (s : St) : OS := atN Tryz.prog z139c z139a 45 (bodyOf Tryz.f71) i n s
def z139h (n i : Nat) (s : St) : OS := atH Tryz.prog z139c z139a 45 (bodyOf Tryz.f71) n i s
@[simp] theorem z139h_eq (n i : Nat) (s : St) : z139h n i s = L_ref13_Worst i n (headOf (z139a.loops.lookup i) s) := rfl
def R_ref13_Worst (i : Nat) (s : St) : OS := stepL Tryz.prog z139c z139a 45 (bodyOf Tryz.f71) i s
theorem z139k : okLoops (bodyOf Tryz.f71) = true := by kernel_rfl
theorem L_ref13_Worst_zero (i : Nat) (s : St) : L_ref13_Worst i 0 s = none := rfl
theorem L_ref13_Worst_succ (i n : Nat) (s : St) : L_ref13_Worst i (n + 1) s = andThen (R_ref13_Worst i s) (z139h n i) := atN_succ z139k i n s
theorem R_ref13_Worst_eq (i : Nat) (s : St) : R_ref13_Worst i s = runS Tryz.prog z139c (z139h bigL) z139a 45 (loopAt (bodyOf Tryz.f71) i) s := rfl
def F_ref13_Worst (ds : List D) : Option D := runF Tryz.prog z139c z139a 45 (bodyOf Tryz.f71) [.tmp 4] ds
theorem F_ref13_Worst_eq (ds : List D) : F_ref13_Worst ds = runG Tryz.prog z139c (z139h bigL) z139a 45 (bodyOf Tryz.f71) [.tmp 4] ds := runG_eq z139k _ ds
theorem C_ref13_Worst (ds : List D) (r : D) (h : F_ref13_Worst ds = some r) : Contract Tryz.prog gl 71 ds r := contract_of mix Tryz.func71 rfl (by kernel_rfl) (by kernel_rfl) (by decide) (call := z139c) ⟨callOf_ok z139b ⟨C_ref13_Check, C_ref13_window, trivial⟩, callOfE_ok noE trivial⟩ h
attribute [simp] Tryz.f72
def z140a : Ann := ⟨[2, 3, 4], [12], [], [], [], some [4], [], [], [(64, 0, 92, 2)], []⟩
@[simp] theorem z140a_draws : z140a.draws = [] := rfl
@[simp] theorem z140a_exits : z140a.exits = [] := rfl
@[simp] theorem z140a_rets : z140a.rets = some [4] := rfl
@[simp] theorem z140a_keep : z140a.keep = [2, 3, 4] := rfl
@[simp] theorem z140a_cond : z140a.cond = [12] := rfl
@[simp] theorem z140a_rows : z140a.rows = [] := rfl
@[simp] theorem z140a_loops : z140a.loops = [] := rfl
@[simp] theorem z140a_ecalls : z140a.ecalls = [] := rfl
@[simp] theorem z140a_crows : z140a.crows = [(64, 0, 92, 2)] := rfl
@[simp] theorem z140a_tails : z140a.tails = [] := rfl
@[simp] def z140b : PL := [(131, F_ref36_Check)]
def z140c : CT := ⟨callOf (z140b ), callOfE noE, gl⟩
@[simp] theorem z140c_p (f : FuncId) (ds : List D) : z140c.p f ds = callOf (z140b ) f ds := Eq.trans rfl rfl
@[simp] theorem z140c_e (f : FuncId) (hs : List (Nat × O)) (ds : List D) : z140c.e f hs ds = callOfE noE f hs ds := Eq.trans rfl rfl
@[simp] theorem z140c_g (g : Nat) : z140c.g g = gl g := Eq.trans rfl rfl
def L_ref36_Checks (i n : Nat) (s : St) : OS := atN Tryz.prog z140c z140a 18 (bodyOf Tryz.f72) i n s
def z140h (n i : Nat) (s : St) : OS := atH Tryz.prog z140c z140a 18 (bodyOf Tryz.f72) n i s
@[simp] theorem z140h_eq (n i : Nat) (s : St) : z140h n i s = L_ref36_Checks i n (headOf (z140a.loops.lookup i) s) := rfl
def R_ref36_Checks (i : Nat) (s : St) : OS := stepL Tryz.prog z140c z140a 18 (bodyOf Tryz.f72) i s
theorem z140k : okLoops (bodyOf Tryz.f72) = true := by kernel_rfl
def F_ref36_Checks (ds : List D) : Option D := runF Tryz.prog z140c z140a 18 (bodyOf Tryz.f72) [.tmp 4] ds
theorem F_ref36_Checks_eq (ds : List D) : F_ref36_Checks ds = runG Tryz.prog z140c (z140h bigL) z140a 18 (bodyOf Tryz.f72) [.tmp 4] ds := runG_eq z140k _ ds
theorem C_ref36_Checks (ds : List D) (r : D) (h : F_ref36_Checks ds = some r) : Contract Tryz.prog gl 72 ds r := contract_of mix Tryz.func72 rfl (by kernel_rfl) (by kernel_rfl) (by decide) (call := z140c) ⟨callOf_ok z140b ⟨C_ref36_Check, trivial⟩, callOfE_ok noE trivial⟩ h
attribute [simp] Tryz.f74
def z141a : Ann := ⟨[1, 2], [5], [], [], [], some [2], [], [], [(64, 0, 92, 2)], []⟩
@[simp] theorem z141a_draws : z141a.draws = [] := rfl
@[simp] theorem z141a_exits : z141a.exits = [] := rfl
@[simp] theorem z141a_rets : z141a.rets = some [2] := rfl
@[simp] theorem z141a_keep : z141a.keep = [1, 2] := rfl
@[simp] theorem z141a_cond : z141a.cond = [5] := rfl
@[simp] theorem z141a_rows : z141a.rows = [] := rfl
@[simp] theorem z141a_loops : z141a.loops = [] := rfl
@[simp] theorem z141a_ecalls : z141a.ecalls = [] := rfl
@[simp] theorem z141a_crows : z141a.crows = [(64, 0, 92, 2)] := rfl
@[simp] theorem z141a_tails : z141a.tails = [] := rfl
@[simp] def z141b : PL := [(131, F_ref36_Check)]
def z141c : CT := ⟨callOf (z141b ), callOfE noE, gl⟩
@[simp] theorem z141c_p (f : FuncId) (ds : List D) : z141c.p f ds = callOf (z141b ) f ds := Eq.trans rfl rfl
@[simp] theorem z141c_e (f : FuncId) (hs : List (Nat × O)) (ds : List D) : z141c.e f hs ds = callOfE noE f hs ds := Eq.trans rfl rfl
@[simp] theorem z141c_g (g : Nat) : z141c.g g = gl g := Eq.trans rfl rfl
def L_ref36_Gradient (i n : Nat) (s : St) : OS := atN Tryz.prog z141c z141a 11 (bodyOf Tryz.f74) i n s
def z141h (n i : Nat) (s : St) : OS := atH Tryz.prog z141c z141a 11 (bodyOf Tryz.f74) n i s
@[simp] theorem z141h_eq (n i : Nat) (s : St) : z141h n i s = L_ref36_Gradient i n (headOf (z141a.loops.lookup i) s) := rfl
def R_ref36_Gradient (i : Nat) (s : St) : OS := stepL Tryz.prog z141c z141a 11 (bodyOf Tryz.f74) i s
theorem z141k : okLoops (bodyOf Tryz.f74) = true := by kernel_rfl
def F_ref36_Gradient (ds : List D) : Option D := runF Tryz.prog z141c z141a 11 (bodyOf Tryz.f74) [.tmp 2] ds
theorem F_ref36_Gradient_eq (ds : List D) : F_ref36_Gradient ds = runG Tryz.prog z141c (z141h bigL) z141a 11 (bodyOf Tryz.f74) [.tmp 2] ds := runG_eq z141k _ ds
theorem C_ref36_Gradient (ds : List D) (r : D) (h : F_ref36_Gradient ds = some r) : Contract Tryz.prog gl 74 ds r := contract_of mix Tryz.func74 rfl (by kernel_rfl) (by kernel_rfl) (by decide) (call := z141c) ⟨callOf_ok z141b ⟨C_ref36_Check, trivial⟩, callOfE_ok noE trivial⟩ h
attribute [simp] Tryz.f178
def z142a : Ann := ⟨[1, 2], [], [], [], [], some [2], [(1, 7)], [], [(64, 0, 92, 2)], []⟩
@[simp] theorem z142a_draws : z142a.draws = [(1, 7)] := rfl
@[simp] theorem z142a_exits : z142a.exits = [] := rfl
@[simp] theorem z142a_rets : z142a.rets = some [2] := rfl
@[simp] theorem z142a_keep : z142a.keep = [1, 2] := rfl
@[simp] theorem z142a_cond : z142a.cond = [] := rfl
@[simp] theorem z142a_rows : z142a.rows = [] := rfl
@[simp] theorem z142a_loops : z142a.loops = [] := rfl
@[simp] theorem z142a_ecalls : z142a.ecalls = [] := rfl
@[simp] theorem z142a_crows : z142a.crows = [(64, 0, 92, 2)] := rfl
@[simp] theorem z142a_tails : z142a.tails = [] := rfl
@[simp] def z142b : PL := [(175, F_ref03_Len)]
def z142c : CT := ⟨callOf (z142b ), callOfE noE, gl⟩
@[simp] theorem z142c_p (f : FuncId) (ds : List D) : z142c.p f ds = callOf (z142b ) f ds := Eq.trans rfl rfl
@[simp] theorem z142c_e (f : FuncId) (hs : List (Nat × O)) (ds : List D) : z142c.e f hs ds = callOfE noE f hs ds := Eq.trans rfl rfl
@[simp] theorem z142c_g (g : Nat) : z142c.g g = gl g := Eq.trans rfl rfl
def L_ref41_Width (i n : Nat) (s : St) : OS := atN Tryz.prog z142c z142a 12 (bodyOf Tryz.f178) i n s
def z142h (n i : Nat) (s : St) : OS := atH Tryz.prog z142c z142a 12 (bodyOf Tryz.f178) n i s
@[simp] theorem z142h_eq (n i : Nat) (s : St) : z142h n i s = L_ref41_Width i n (headOf (z142a.loops.lookup i) s) := rfl
def R_ref41_Width (i : Nat) (s : St) : OS := stepL Tryz.prog z142c z142a 12 (bodyOf Tryz.f178) i s
theorem z142k : okLoops (bodyOf Tryz.f178) = true := by kernel_rfl
def F_ref41_Width (ds : List D) : Option D := runF Tryz.prog z142c z142a 12 (bodyOf Tryz.f178) [.tmp 2] ds
theorem F_ref41_Width_eq (ds : List D) : F_ref41_Width ds = runG Tryz.prog z142c (z142h bigL) z142a 12 (bodyOf Tryz.f178) [.tmp 2] ds := runG_eq z142k _ ds
theorem C_ref41_Width (ds : List D) (r : D) (h : F_ref41_Width ds = some r) : Contract Tryz.prog gl 178 ds r := contract_of mix Tryz.func178 rfl (by kernel_rfl) (by kernel_rfl) (by decide) (call := z142c) ⟨callOf_ok z142b ⟨C_ref03_Len, trivial⟩, callOfE_ok noE trivial⟩ h
attribute [simp] Tryz.f132
def z143a : Ann := ⟨[1, 2], [5], [], [], [], some [2], [(3, 6)], [], [(64, 0, 92, 2)], []⟩
@[simp] theorem z143a_draws : z143a.draws = [(3, 6)] := rfl
@[simp] theorem z143a_exits : z143a.exits = [] := rfl
@[simp] theorem z143a_rets : z143a.rets = some [2] := rfl
@[simp] theorem z143a_keep : z143a.keep = [1, 2] := rfl
@[simp] theorem z143a_cond : z143a.cond = [5] := rfl
@[simp] theorem z143a_rows : z143a.rows = [] := rfl
@[simp] theorem z143a_loops : z143a.loops = [] := rfl
@[simp] theorem z143a_ecalls : z143a.ecalls = [] := rfl
@[simp] theorem z143a_crows : z143a.crows = [(64, 0, 92, 2)] := rfl
@[simp] theorem z143a_tails : z143a.tails = [] := rfl
@[simp] def z143b : PL := [(71, F_ref13_Worst), (178, F_ref41_Width)]
def z143c : CT := ⟨callOf (z143b ), callOfE noE, gl⟩
@[simp] theorem z143c_p (f : FuncId) (ds : List D) : z143c.p f ds = callOf (z143b ) f ds := Eq.trans rfl rfl
@[simp] theorem z143c_e (f : FuncId) (hs : List (Nat × O)) (ds : List D) : z143c.e f hs ds = callOfE noE f hs ds := Eq.trans rfl rfl
@[simp] theorem z143c_g (g : Nat) : z143c.g g = gl g := Eq.trans rfl rfl
def L_ref41_Knots (i n : Nat) (s : St) : OS := atN Tryz.prog z143c z143a 14 (bodyOf Tryz.f132) i n s
def z143h (n i : Nat) (s : St) : OS := atH Tryz.prog z143c z143a 14 (bodyOf Tryz.f132) n i s
@[simp] theorem z143h_eq (n i : Nat) (s : St) : z143h n i s = L_ref41_Knots i n (headOf (z143a.loops.lookup i) s) := rfl
def R_ref41_Knots (i : Nat) (s : St) : OS := stepL Tryz.prog z143c z143a 14 (bodyOf Tryz.f132) i s
theorem z143k : okLoops (bodyOf Tryz.f132) = true := by kernel_rfl
def F_ref41_Knots (ds : List D) : Option D := runF Tryz.prog z143c z143a 14 (bodyOf Tryz.f132) [.tmp 2] ds
theorem F_ref41_Knots_eq (ds : List D) : F_ref41_Knots ds = runG Tryz.prog z143c (z143h bigL) z143a 14 (bodyOf Tryz.f132) [.tmp 2] ds := runG_eq z143k _ ds
theorem C_ref41_Knots (ds : List D) (r : D) (h : F_ref41_Knots ds = some r) : Contract Tryz.prog gl 132 ds r := contract_of mix Tryz.func132 rfl (by kernel_rfl) (by kernel_rfl) (by decide) (call := z143c) ⟨callOf_ok z143b ⟨C_ref13_Worst, C_ref41_Width, trivial⟩, callOfE_ok noE trivial⟩ h
attribute [simp] Tryz.f75
def z144a : Ann := ⟨[2, 3, 4, 5, 6, 7], [], [], [], [], some [4], [(1, 4)], [], [(64, 0, 92, 2)], []⟩
@[simp] theorem z144a_draws : z144a.draws = [(1, 4)] := rfl
@[simp] theorem z144a_exits : z144a.exits = [] := rfl
@[simp] theorem z144a_rets : z144a.rets = some [4] := rfl
@[simp] theorem z144a_keep : z144a.keep = [2, 3, 4, 5, 6, 7] := rfl
@[simp] theorem z144a_cond : z144a.cond = [] := rfl
@[simp] theorem z144a_rows : z144a.rows = [] := rfl
@[simp] theorem z144a_loops : z144a.loops = [] := rfl
@[simp] theorem z144a_ecalls : z144a.ecalls = [] := rfl
@[simp] theorem z144a_crows : z144a.crows = [(64, 0, 92, 2)] := rfl
@[simp] theorem z144a_tails : z144a.tails = [] := rfl
@[simp] def z144b : PL := [(73, F_ref36_Mean), (132, F_ref41_Knots)]
def z144c : CT := ⟨callOf (z144b ), callOfE noE, gl⟩
@[simp] theorem z144c_p (f : FuncId) (ds : List D) : z144c.p f ds = callOf (z144b ) f ds := Eq.trans rfl rfl
@[simp] theorem z144c_e (f : FuncId) (hs : List (Nat × O)) (ds : List D) : z144c.e f hs ds = callOfE noE f hs ds := Eq.trans rfl rfl
@[simp] theorem z144c_g (g : Nat) : z144c.g g = gl g := Eq.trans rfl rfl
def L_ref41_Stiffness (i n : Nat) (s : St) : OS := atN Tryz.prog z144c z144a 31 (bodyOf Tryz.f75) i n s
def z144h (n i : Nat) (s : St) : OS := atH Tryz.prog z144c z144a 31 (bodyOf Tryz.f75) n i s
@[simp] theorem z144h_eq (n i : Nat) (s : St) : z144h n i s = L_ref41_Stiffness i n (headOf (z144a.loops.lookup i) s) := rfl
def R_ref41_Stiffness (i : Nat) (s : St) : OS := stepL Tryz.prog z144c z144a 31 (bodyOf Tryz.f75) i s
theorem z144k : okLoops (bodyOf Tryz.f75) = true := by kernel_rfl
def F_ref41_Stiffness (ds : List D) : Option D := runF Tryz.prog z144c z144a 31 (bodyOf Tryz.f75) [.tmp 4] ds
theorem F_ref41_Stiffness_eq (ds : List D) : F_ref41_Stiffness ds = runG Tryz.prog z144c (z144h bigL) z144a 31 (bodyOf Tryz.f75) [.tmp 4] ds := runG_eq z144k _ ds
theorem C_ref41_Stiffness (ds : List D) (r : D) (h : F_ref41_Stiffness ds = some r) : Contract Tryz.prog gl 75 ds r := contract_of mix Tryz.func75 rfl (by kernel_rfl) (by kernel_rfl) (by decide) (call := z144c) ⟨callOf_ok z144b ⟨C_ref36_Mean, C_ref41_Knots, trivial⟩, callOfE_ok noE trivial⟩ h
attribute [simp] Tryz.f27
def z145a : Ann := ⟨[1, 3, 5, 6, 7, 8, 9, 10, 11, 12, 13], [23, 34, 80], [12], [(11, [10, 11, 12, 13])], [(0, [12]), (1, [10, 11, 12, 13])], some [6], [(3, 9), (7, 40), (13, 11)], [], [(64, 0, 92, 2)], []⟩
@[simp] theorem z145a_draws : z145a.draws = [(3, 9), (7, 40), (13, 11)] := rfl
@[simp] theorem z145a_exits : z145a.exits = [(0, [12]), (1, [10, 11, 12, 13])] := rfl
@[simp] theorem z145a_rets : z145a.rets = some [6] := rfl
@[simp] theorem z145a_keep : z145a.keep = [1, 3, 5, 6, 7, 8, 9, 10, 11, 12, 13] := rfl
@[simp] theorem z145a_cond : z145a.cond = [23, 34, 80] := rfl
@[simp] theorem z145a_rows : z145a.rows = [12] := rfl
@[simp] theorem z145a_loops : z145a.loops = [(11, [10, 11, 12, 13])] := rfl
@[simp] theorem z145a_ecalls : z145a.ecalls = [] := rfl
@[simp] theorem z145a_crows : z145a.crows = [(64, 0, 92, 2)] := rfl
@[simp] theorem z145a_tails : z145a.tails = [] := rfl
@[simp] def z145b : PL := [(35, F_ref42_Names), (62, F_ref30_Check), (63, F_ref34_Check), (67, F_ref39_Under), (68, F_ref30_Length), (69, F_ref13_Count), (70, F_ref13_Largest), (71, F_ref13_Worst), (72, F_ref36_Checks), (73, F_ref36_Mean), (74, F_ref36_Gradient), (75, F_ref41_Stiffness)]
def z145c : CT := ⟨callOf (z145b ), callOfE noE, gl⟩
@[simp] theorem z145c_p (f : FuncId) (ds : List D) : z145c.p f ds = callOf (z145b ) f ds := Eq.trans rfl rfl
@[simp] theorem z145c_e (f : FuncId) (hs : List (Nat × O)) (ds : List D) : z145c.e f hs ds = callOfE noE f hs ds := Eq.trans rfl rfl
@[simp] theorem z145c_g (g : Nat) : z145c.g g = gl g := Eq.trans rfl rfl
def L_ref42_Of (i n : Nat) (s : St) : OS := atN Tryz.prog z145c z145a 96 (bodyOf Tryz.f27) i n s
def z145h (n i : Nat) (s : St) : OS := atH Tryz.prog z145c z145a 96 (bodyOf Tryz.f27) n i s
@[simp] theorem z145h_eq (n i : Nat) (s : St) : z145h n i s = L_ref42_Of i n (headOf (z145a.loops.lookup i) s) := rfl
def R_ref42_Of (i : Nat) (s : St) : OS := stepL Tryz.prog z145c z145a 96 (bodyOf Tryz.f27) i s
theorem z145k : okLoops (bodyOf Tryz.f27) = true := by kernel_rfl
theorem L_ref42_Of_zero (i : Nat) (s : St) : L_ref42_Of i 0 s = none := rfl
theorem L_ref42_Of_succ (i n : Nat) (s : St) : L_ref42_Of i (n + 1) s = andThen (R_ref42_Of i s) (z145h n i) := atN_succ z145k i n s
theorem R_ref42_Of_eq (i : Nat) (s : St) : R_ref42_Of i s = runS Tryz.prog z145c (z145h bigL) z145a 96 (loopAt (bodyOf Tryz.f27) i) s := rfl
def F_ref42_Of (ds : List D) : Option D := runF Tryz.prog z145c z145a 96 (bodyOf Tryz.f27) [.tmp 6] ds
theorem F_ref42_Of_eq (ds : List D) : F_ref42_Of ds = runG Tryz.prog z145c (z145h bigL) z145a 96 (bodyOf Tryz.f27) [.tmp 6] ds := runG_eq z145k _ ds
theorem C_ref42_Of (ds : List D) (r : D) (h : F_ref42_Of ds = some r) : Contract Tryz.prog gl 27 ds r := contract_of mix Tryz.func27 rfl (by kernel_rfl) (by kernel_rfl) (by decide) (call := z145c) ⟨callOf_ok z145b ⟨C_ref42_Names, C_ref30_Check, C_ref34_Check, C_ref39_Under, C_ref30_Length, C_ref13_Count, C_ref13_Largest, C_ref13_Worst, C_ref36_Checks, C_ref36_Mean, C_ref36_Gradient, C_ref41_Stiffness, trivial⟩, callOfE_ok noE trivial⟩ h
attribute [simp] Tryz.f65
def z146a : Ann := ⟨[0, 2, 3, 4], [8], [3], [(3, [0, 3, 4])], [(0, [3]), (1, [0, 3, 4])], some [2], [], [], [(64, 0, 92, 2)], []⟩
@[simp] theorem z146a_draws : z146a.draws = [] := rfl
@[simp] theorem z146a_exits : z146a.exits = [(0, [3]), (1, [0, 3, 4])] := rfl
@[simp] theorem z146a_rets : z146a.rets = some [2] := rfl
@[simp] theorem z146a_keep : z146a.keep = [0, 2, 3, 4] := rfl
@[simp] theorem z146a_cond : z146a.cond = [8] := rfl
@[simp] theorem z146a_rows : z146a.rows = [3] := rfl
@[simp] theorem z146a_loops : z146a.loops = [(3, [0, 3, 4])] := rfl
@[simp] theorem z146a_ecalls : z146a.ecalls = [] := rfl
@[simp] theorem z146a_crows : z146a.crows = [(64, 0, 92, 2)] := rfl
@[simp] theorem z146a_tails : z146a.tails = [] := rfl
@[simp] def z146b : PL := []
def z146c : CT := ⟨callOf (z146b ), callOfE noE, gl⟩
@[simp] theorem z146c_p (f : FuncId) (ds : List D) : z146c.p f ds = callOf (z146b ) f ds := Eq.trans rfl rfl
@[simp] theorem z146c_e (f : FuncId) (hs : List (Nat × O)) (ds : List D) : z146c.e f hs ds = callOfE noE f hs ds := Eq.trans rfl rfl
@[simp] theorem z146c_g (g : Nat) : z146c.g g = gl g := Eq.trans rfl rfl
def L_ref43_Names (i n : Nat) (s : St) : OS := atN Tryz.prog z146c z146a 20 (bodyOf Tryz.f65) i n s
def z146h (n i : Nat) (s : St) : OS := atH Tryz.prog z146c z146a 20 (bodyOf Tryz.f65) n i s
@[simp] theorem z146h_eq (n i : Nat) (s : St) : z146h n i s = L_ref43_Names i n (headOf (z146a.loops.lookup i) s) := rfl
def R_ref43_Names (i : Nat) (s : St) : OS := stepL Tryz.prog z146c z146a 20 (bodyOf Tryz.f65) i s
theorem z146k : okLoops (bodyOf Tryz.f65) = true := by kernel_rfl
theorem L_ref43_Names_zero (i : Nat) (s : St) : L_ref43_Names i 0 s = none := rfl
theorem L_ref43_Names_succ (i n : Nat) (s : St) : L_ref43_Names i (n + 1) s = andThen (R_ref43_Names i s) (z146h n i) := atN_succ z146k i n s
theorem R_ref43_Names_eq (i : Nat) (s : St) : R_ref43_Names i s = runS Tryz.prog z146c (z146h bigL) z146a 20 (loopAt (bodyOf Tryz.f65) i) s := rfl
def F_ref43_Names (ds : List D) : Option D := runF Tryz.prog z146c z146a 20 (bodyOf Tryz.f65) [.tmp 2] ds
theorem F_ref43_Names_eq (ds : List D) : F_ref43_Names ds = runG Tryz.prog z146c (z146h bigL) z146a 20 (bodyOf Tryz.f65) [.tmp 2] ds := runG_eq z146k _ ds
theorem C_ref43_Names (ds : List D) (r : D) (h : F_ref43_Names ds = some r) : Contract Tryz.prog gl 65 ds r := contract_of mix Tryz.func65 rfl (by kernel_rfl) (by kernel_rfl) (by decide) (call := z146c) ⟨callOf_ok z146b trivial, callOfE_ok noE trivial⟩ h
attribute [simp] Tryz.f125
def z147a : Ann := ⟨[0, 4, 5], [9, 18], [], [(2, [0, 1, 5])], [(0, []), (1, [0, 1, 5])], some [4], [], [], [(64, 0, 92, 2)], []⟩
@[simp] theorem z147a_draws : z147a.draws = [] := rfl
@[simp] theorem z147a_exits : z147a.exits = [(0, []), (1, [0, 1, 5])] := rfl
@[simp] theorem z147a_rets : z147a.rets = some [4] := rfl
@[simp] theorem z147a_keep : z147a.keep = [0, 4, 5] := rfl
@[simp] theorem z147a_cond : z147a.cond = [9, 18] := rfl
@[simp] theorem z147a_rows : z147a.rows = [] := rfl
@[simp] theorem z147a_loops : z147a.loops = [(2, [0, 1, 5])] := rfl
@[simp] theorem z147a_ecalls : z147a.ecalls = [] := rfl
@[simp] theorem z147a_crows : z147a.crows = [(64, 0, 92, 2)] := rfl
@[simp] theorem z147a_tails : z147a.tails = [] := rfl
@[simp] def z147b : PL := []
def z147c : CT := ⟨callOf (z147b ), callOfE noE, gl⟩
@[simp] theorem z147c_p (f : FuncId) (ds : List D) : z147c.p f ds = callOf (z147b ) f ds := Eq.trans rfl rfl
@[simp] theorem z147c_e (f : FuncId) (hs : List (Nat × O)) (ds : List D) : z147c.e f hs ds = callOfE noE f hs ds := Eq.trans rfl rfl
@[simp] theorem z147c_g (g : Nat) : z147c.g g = gl g := Eq.trans rfl rfl
def L_ref43_get (i n : Nat) (s : St) : OS := atN Tryz.prog z147c z147a 24 (bodyOf Tryz.f125) i n s
def z147h (n i : Nat) (s : St) : OS := atH Tryz.prog z147c z147a 24 (bodyOf Tryz.f125) n i s
@[simp] theorem z147h_eq (n i : Nat) (s : St) : z147h n i s = L_ref43_get i n (headOf (z147a.loops.lookup i) s) := rfl
def R_ref43_get (i : Nat) (s : St) : OS := stepL Tryz.prog z147c z147a 24 (bodyOf Tryz.f125) i s
theorem z147k : okLoops (bodyOf Tryz.f125) = true := by kernel_rfl
theorem L_ref43_get_zero (i : Nat) (s : St) : L_ref43_get i 0 s = none := rfl
theorem L_ref43_get_succ (i n : Nat) (s : St) : L_ref43_get i (n + 1) s = andThen (R_ref43_get i s) (z147h n i) := atN_succ z147k i n s
theorem R_ref43_get_eq (i : Nat) (s : St) : R_ref43_get i s = runS Tryz.prog z147c (z147h bigL) z147a 24 (loopAt (bodyOf Tryz.f125) i) s := rfl
def F_ref43_get (ds : List D) : Option D := runF Tryz.prog z147c z147a 24 (bodyOf Tryz.f125) [.tmp 4] ds
theorem F_ref43_get_eq (ds : List D) : F_ref43_get ds = runG Tryz.prog z147c (z147h bigL) z147a 24 (bodyOf Tryz.f125) [.tmp 4] ds := runG_eq z147k _ ds
theorem C_ref43_get (ds : List D) (r : D) (h : F_ref43_get ds = some r) : Contract Tryz.prog gl 125 ds r := contract_of mix Tryz.func125 rfl (by kernel_rfl) (by kernel_rfl) (by decide) (call := z147c) ⟨callOf_ok z147b trivial, callOfE_ok noE trivial⟩ h
attribute [simp] Tryz.f124
def z148a : Ann := ⟨[0, 2, 3], [5], [], [], [], some [2, 3], [], [], [(64, 0, 92, 2)], []⟩
@[simp] theorem z148a_draws : z148a.draws = [] := rfl
@[simp] theorem z148a_exits : z148a.exits = [] := rfl
@[simp] theorem z148a_rets : z148a.rets = some [2, 3] := rfl
@[simp] theorem z148a_keep : z148a.keep = [0, 2, 3] := rfl
@[simp] theorem z148a_cond : z148a.cond = [5] := rfl
@[simp] theorem z148a_rows : z148a.rows = [] := rfl
@[simp] theorem z148a_loops : z148a.loops = [] := rfl
@[simp] theorem z148a_ecalls : z148a.ecalls = [] := rfl
@[simp] theorem z148a_crows : z148a.crows = [(64, 0, 92, 2)] := rfl
@[simp] theorem z148a_tails : z148a.tails = [] := rfl
@[simp] def z148b : PL := [(172, F_ref43_big)]
def z148c : CT := ⟨callOf (z148b ), callOfE noE, gl⟩
@[simp] theorem z148c_p (f : FuncId) (ds : List D) : z148c.p f ds = callOf (z148b ) f ds := Eq.trans rfl rfl
@[simp] theorem z148c_e (f : FuncId) (hs : List (Nat × O)) (ds : List D) : z148c.e f hs ds = callOfE noE f hs ds := Eq.trans rfl rfl
@[simp] theorem z148c_g (g : Nat) : z148c.g g = gl g := Eq.trans rfl rfl
def L_ref43_number (i n : Nat) (s : St) : OS := atN Tryz.prog z148c z148a 7 (bodyOf Tryz.f124) i n s
def z148h (n i : Nat) (s : St) : OS := atH Tryz.prog z148c z148a 7 (bodyOf Tryz.f124) n i s
@[simp] theorem z148h_eq (n i : Nat) (s : St) : z148h n i s = L_ref43_number i n (headOf (z148a.loops.lookup i) s) := rfl
def R_ref43_number (i : Nat) (s : St) : OS := stepL Tryz.prog z148c z148a 7 (bodyOf Tryz.f124) i s
theorem z148k : okLoops (bodyOf Tryz.f124) = true := by kernel_rfl
def F_ref43_number (ds : List D) : Option D := runF Tryz.prog z148c z148a 7 (bodyOf Tryz.f124) [.tmp 2, .tmp 3] ds
theorem F_ref43_number_eq (ds : List D) : F_ref43_number ds = runG Tryz.prog z148c (z148h bigL) z148a 7 (bodyOf Tryz.f124) [.tmp 2, .tmp 3] ds := runG_eq z148k _ ds
theorem C_ref43_number (ds : List D) (r : D) (h : F_ref43_number ds = some r) : Contract Tryz.prog gl 124 ds r := contract_of mix Tryz.func124 rfl (by kernel_rfl) (by kernel_rfl) (by decide) (call := z148c) ⟨callOf_ok z148b ⟨C_ref43_big, trivial⟩, callOfE_ok noE trivial⟩ h
attribute [simp] Tryz.f126
def z149a : Ann := ⟨[0, 1, 4, 5], [11, 21], [], [], [], some [4, 5], [], [], [(64, 0, 92, 2)], []⟩
@[simp] theorem z149a_draws : z149a.draws = [] := rfl
@[simp] theorem z149a_exits : z149a.exits = [] := rfl
@[simp] theorem z149a_rets : z149a.rets = some [4, 5] := rfl
@[simp] theorem z149a_keep : z149a.keep = [0, 1, 4, 5] := rfl
@[simp] theorem z149a_cond : z149a.cond = [11, 21] := rfl
@[simp] theorem z149a_rows : z149a.rows = [] := rfl
@[simp] theorem z149a_loops : z149a.loops = [] := rfl
@[simp] theorem z149a_ecalls : z149a.ecalls = [] := rfl
@[simp] theorem z149a_crows : z149a.crows = [(64, 0, 92, 2)] := rfl
@[simp] theorem z149a_tails : z149a.tails = [] := rfl
@[simp] def z149b : PL := []
def z149c : CT := ⟨callOf (z149b ), callOfE noE, gl⟩
@[simp] theorem z149c_p (f : FuncId) (ds : List D) : z149c.p f ds = callOf (z149b ) f ds := Eq.trans rfl rfl
@[simp] theorem z149c_e (f : FuncId) (hs : List (Nat × O)) (ds : List D) : z149c.e f hs ds = callOfE noE f hs ds := Eq.trans rfl rfl
@[simp] theorem z149c_g (g : Nat) : z149c.g g = gl g := Eq.trans rfl rfl
def L_ref43_product (i n : Nat) (s : St) : OS := atN Tryz.prog z149c z149a 25 (bodyOf Tryz.f126) i n s
def z149h (n i : Nat) (s : St) : OS := atH Tryz.prog z149c z149a 25 (bodyOf Tryz.f126) n i s
@[simp] theorem z149h_eq (n i : Nat) (s : St) : z149h n i s = L_ref43_product i n (headOf (z149a.loops.lookup i) s) := rfl
def R_ref43_product (i : Nat) (s : St) : OS := stepL Tryz.prog z149c z149a 25 (bodyOf Tryz.f126) i s
theorem z149k : okLoops (bodyOf Tryz.f126) = true := by kernel_rfl
def F_ref43_product (ds : List D) : Option D := runF Tryz.prog z149c z149a 25 (bodyOf Tryz.f126) [.tmp 4, .tmp 5] ds
theorem F_ref43_product_eq (ds : List D) : F_ref43_product ds = runG Tryz.prog z149c (z149h bigL) z149a 25 (bodyOf Tryz.f126) [.tmp 4, .tmp 5] ds := runG_eq z149k _ ds
theorem C_ref43_product (ds : List D) (r : D) (h : F_ref43_product ds = some r) : Contract Tryz.prog gl 126 ds r := contract_of mix Tryz.func126 rfl (by kernel_rfl) (by kernel_rfl) (by decide) (call := z149c) ⟨callOf_ok z149b trivial, callOfE_ok noE trivial⟩ h
attribute [simp] Tryz.f127
def z150a : Ann := ⟨[2], [3], [], [], [], some [2], [], [], [(64, 0, 92, 2)], []⟩
@[simp] theorem z150a_draws : z150a.draws = [] := rfl
@[simp] theorem z150a_exits : z150a.exits = [] := rfl
@[simp] theorem z150a_rets : z150a.rets = some [2] := rfl
@[simp] theorem z150a_keep : z150a.keep = [2] := rfl
@[simp] theorem z150a_cond : z150a.cond = [3] := rfl
@[simp] theorem z150a_rows : z150a.rows = [] := rfl
@[simp] theorem z150a_loops : z150a.loops = [] := rfl
@[simp] theorem z150a_ecalls : z150a.ecalls = [] := rfl
@[simp] theorem z150a_crows : z150a.crows = [(64, 0, 92, 2)] := rfl
@[simp] theorem z150a_tails : z150a.tails = [] := rfl
@[simp] def z150b : PL := []
def z150c : CT := ⟨callOf (z150b ), callOfE noE, gl⟩
@[simp] theorem z150c_p (f : FuncId) (ds : List D) : z150c.p f ds = callOf (z150b ) f ds := Eq.trans rfl rfl
@[simp] theorem z150c_e (f : FuncId) (hs : List (Nat × O)) (ds : List D) : z150c.e f hs ds = callOfE noE f hs ds := Eq.trans rfl rfl
@[simp] theorem z150c_g (g : Nat) : z150c.g g = gl g := Eq.trans rfl rfl
def L_ref43_bit (i n : Nat) (s : St) : OS := atN Tryz.prog z150c z150a 4 (bodyOf Tryz.f127) i n s
def z150h (n i : Nat) (s : St) : OS := atH Tryz.prog z150c z150a 4 (bodyOf Tryz.f127) n i s
@[simp] theorem z150h_eq (n i : Nat) (s : St) : z150h n i s = L_ref43_bit i n (headOf (z150a.loops.lookup i) s) := rfl
def R_ref43_bit (i : Nat) (s : St) : OS := stepL Tryz.prog z150c z150a 4 (bodyOf Tryz.f127) i s
theorem z150k : okLoops (bodyOf Tryz.f127) = true := by kernel_rfl
def F_ref43_bit (ds : List D) : Option D := runF Tryz.prog z150c z150a 4 (bodyOf Tryz.f127) [.tmp 2] ds
theorem F_ref43_bit_eq (ds : List D) : F_ref43_bit ds = runG Tryz.prog z150c (z150h bigL) z150a 4 (bodyOf Tryz.f127) [.tmp 2] ds := runG_eq z150k _ ds
theorem C_ref43_bit (ds : List D) (r : D) (h : F_ref43_bit ds = some r) : Contract Tryz.prog gl 127 ds r := contract_of mix Tryz.func127 rfl (by kernel_rfl) (by kernel_rfl) (by decide) (call := z150c) ⟨callOf_ok z150b trivial, callOfE_ok noE trivial⟩ h
attribute [simp] Tryz.f66
def z151a : Ann := ⟨[1, 2, 4, 5, 6, 7, 8, 9, 10, 12, 73], [13, 17, 36, 40, 58, 70, 74, 82, 90, 99, 101, 107, 113], [], [], [(0, [1, 2]), (1, [8])], some [4, 5], [], [], [(64, 0, 92, 2)], []⟩
@[simp] theorem z151a_draws : z151a.draws = [] := rfl
@[simp] theorem z151a_exits : z151a.exits = [(0, [1, 2]), (1, [8])] := rfl
@[simp] theorem z151a_rets : z151a.rets = some [4, 5] := rfl
@[simp] theorem z151a_keep : z151a.keep = [1, 2, 4, 5, 6, 7, 8, 9, 10, 12, 73] := rfl
@[simp] theorem z151a_cond : z151a.cond = [13, 17, 36, 40, 58, 70, 74, 82, 90, 99, 101, 107, 113] := rfl
@[simp] theorem z151a_rows : z151a.rows = [] := rfl
@[simp] theorem z151a_loops : z151a.loops = [] := rfl
@[simp] theorem z151a_ecalls : z151a.ecalls = [] := rfl
@[simp] theorem z151a_crows : z151a.crows = [(64, 0, 92, 2)] := rfl
@[simp] theorem z151a_tails : z151a.tails = [] := rfl
@[simp] def z151b (self : List D → Option D) : PL := [(66, self), (124, F_ref43_number), (125, F_ref43_get), (126, F_ref43_product), (127, F_ref43_bit)]
def z151c (self : List D → Option D) : CT := ⟨callOf (z151b self ), callOfE noE, gl⟩
@[simp] theorem z151c_p (self : List D → Option D) (f : FuncId) (ds : List D) : (z151c self).p f ds = callOf (z151b self ) f ds := Eq.trans rfl rfl
@[simp] theorem z151c_e (self : List D → Option D) (f : FuncId) (hs : List (Nat × O)) (ds : List D) : (z151c self).e f hs ds = callOfE noE f hs ds := Eq.trans rfl rfl
@[simp] theorem z151c_g (self : List D → Option D) (g : Nat) : (z151c self).g g = gl g := Eq.trans rfl rfl
def L_ref43_value (self : List D → Option D) (i n : Nat) (s : St) : OS := atN Tryz.prog (z151c self) z151a 120 (bodyOf Tryz.f66) i n s
def z151h (self : List D → Option D) (n i : Nat) (s : St) : OS := atH Tryz.prog (z151c self) z151a 120 (bodyOf Tryz.f66) n i s
@[simp] theorem z151h_eq (self : List D → Option D) (n i : Nat) (s : St) : z151h self n i s = L_ref43_value self i n (headOf (z151a.loops.lookup i) s) := rfl
def R_ref43_value (self : List D → Option D) (i : Nat) (s : St) : OS := stepL Tryz.prog (z151c self) z151a 120 (bodyOf Tryz.f66) i s
theorem z151k : okLoops (bodyOf Tryz.f66) = true := by kernel_rfl
def FN_ref43_value : Nat → List D → Option D
  | 0 => fun _ => none
  | n + 1 => fun ds => runF Tryz.prog (z151c (FN_ref43_value n)) z151a 120 (bodyOf Tryz.f66) [.tmp 4, .tmp 5] ds
theorem FN_ref43_value_eq (n : Nat) (ds : List D) : FN_ref43_value (n + 1) ds = runG Tryz.prog (z151c (FN_ref43_value n)) (z151h (FN_ref43_value n) bigL) z151a 120 (bodyOf Tryz.f66) [.tmp 4, .tmp 5] ds := runG_eq z151k _ ds
theorem CN_ref43_value : ∀ (n : Nat) (ds : List D) (r : D), FN_ref43_value n ds = some r → Contract Tryz.prog gl 66 ds r
  | 0, _, _, h => by cases h
  | n + 1, ds, r, h => by
    have ih := CN_ref43_value n
    exact contract_of mix Tryz.func66 rfl (by kernel_rfl) (by kernel_rfl) (by decide) (call := z151c (FN_ref43_value n)) ⟨callOf_ok (z151b (FN_ref43_value n)) ⟨ih, C_ref43_number, C_ref43_get, C_ref43_product, C_ref43_bit, trivial⟩, callOfE_ok noE trivial⟩ h
def F_ref43_value (ds : List D) : Option D := FN_ref43_value 1000 ds
theorem C_ref43_value (ds : List D) (r : D) (h : F_ref43_value ds = some r) : Contract Tryz.prog gl 66 ds r := CN_ref43_value 1000 ds r h
attribute [simp] Tryz.f26
def z152a : Ann := ⟨[0, 1, 4, 5, 6, 7, 8, 9, 10], [16, 21, 35, 38], [], [(5, [0, 1, 8])], [(0, []), (1, [0, 1, 8])], some [4, 5, 6], [], [], [(64, 0, 92, 2)], []⟩
@[simp] theorem z152a_draws : z152a.draws = [] := rfl
@[simp] theorem z152a_exits : z152a.exits = [(0, []), (1, [0, 1, 8])] := rfl
@[simp] theorem z152a_rets : z152a.rets = some [4, 5, 6] := rfl
@[simp] theorem z152a_keep : z152a.keep = [0, 1, 4, 5, 6, 7, 8, 9, 10] := rfl
@[simp] theorem z152a_cond : z152a.cond = [16, 21, 35, 38] := rfl
@[simp] theorem z152a_rows : z152a.rows = [] := rfl
@[simp] theorem z152a_loops : z152a.loops = [(5, [0, 1, 8])] := rfl
@[simp] theorem z152a_ecalls : z152a.ecalls = [] := rfl
@[simp] theorem z152a_crows : z152a.crows = [(64, 0, 92, 2)] := rfl
@[simp] theorem z152a_tails : z152a.tails = [] := rfl
@[simp] def z152b : PL := [(64, F_ref43_CheckRules), (65, F_ref43_Names), (66, F_ref43_value)]
def z152c : CT := ⟨callOf (z152b ), callOfE noE, gl⟩
@[simp] theorem z152c_p (f : FuncId) (ds : List D) : z152c.p f ds = callOf (z152b ) f ds := Eq.trans rfl rfl
@[simp] theorem z152c_e (f : FuncId) (hs : List (Nat × O)) (ds : List D) : z152c.e f hs ds = callOfE noE f hs ds := Eq.trans rfl rfl
@[simp] theorem z152c_g (g : Nat) : z152c.g g = gl g := Eq.trans rfl rfl
def L_ref43_Grade (i n : Nat) (s : St) : OS := atN Tryz.prog z152c z152a 45 (bodyOf Tryz.f26) i n s
def z152h (n i : Nat) (s : St) : OS := atH Tryz.prog z152c z152a 45 (bodyOf Tryz.f26) n i s
@[simp] theorem z152h_eq (n i : Nat) (s : St) : z152h n i s = L_ref43_Grade i n (headOf (z152a.loops.lookup i) s) := rfl
def R_ref43_Grade (i : Nat) (s : St) : OS := stepL Tryz.prog z152c z152a 45 (bodyOf Tryz.f26) i s
theorem z152k : okLoops (bodyOf Tryz.f26) = true := by kernel_rfl
theorem L_ref43_Grade_zero (i : Nat) (s : St) : L_ref43_Grade i 0 s = none := rfl
theorem L_ref43_Grade_succ (i n : Nat) (s : St) : L_ref43_Grade i (n + 1) s = andThen (R_ref43_Grade i s) (z152h n i) := atN_succ z152k i n s
theorem R_ref43_Grade_eq (i : Nat) (s : St) : R_ref43_Grade i s = runS Tryz.prog z152c (z152h bigL) z152a 45 (loopAt (bodyOf Tryz.f26) i) s := rfl
def F_ref43_Grade (ds : List D) : Option D := runF Tryz.prog z152c z152a 45 (bodyOf Tryz.f26) [.tmp 4, .tmp 5, .tmp 6] ds
theorem F_ref43_Grade_eq (ds : List D) : F_ref43_Grade ds = runG Tryz.prog z152c (z152h bigL) z152a 45 (bodyOf Tryz.f26) [.tmp 4, .tmp 5, .tmp 6] ds := runG_eq z152k _ ds
theorem C_ref43_Grade (ds : List D) (r : D) (h : F_ref43_Grade ds = some r) : Contract Tryz.prog gl 26 ds r := contract_of mix Tryz.func26 rfl (by kernel_rfl) (by kernel_rfl) (by decide) (call := z152c) ⟨callOf_ok z152b ⟨C_ref43_CheckRules, C_ref43_Names, C_ref43_value, trivial⟩, callOfE_ok noE trivial⟩ h
attribute [simp] Tryz.f9
def z153a : Ann := ⟨[1, 3, 4, 6, 8, 9, 10, 11], [18], [], [], [], some [8, 9, 10], [], [], [(64, 0, 92, 2)], []⟩
@[simp] theorem z153a_draws : z153a.draws = [] := rfl
@[simp] theorem z153a_exits : z153a.exits = [] := rfl
@[simp] theorem z153a_rets : z153a.rets = some [8, 9, 10] := rfl
@[simp] theorem z153a_keep : z153a.keep = [1, 3, 4, 6, 8, 9, 10, 11] := rfl
@[simp] theorem z153a_cond : z153a.cond = [18] := rfl
@[simp] theorem z153a_rows : z153a.rows = [] := rfl
@[simp] theorem z153a_loops : z153a.loops = [] := rfl
@[simp] theorem z153a_ecalls : z153a.ecalls = [] := rfl
@[simp] theorem z153a_crows : z153a.crows = [(64, 0, 92, 2)] := rfl
@[simp] theorem z153a_tails : z153a.tails = [] := rfl
@[simp] def z153b : PL := [(25, F_ref45_check), (26, F_ref43_Grade), (27, F_ref42_Of)]
def z153c : CT := ⟨callOf (z153b ), callOfE noE, gl⟩
@[simp] theorem z153c_p (f : FuncId) (ds : List D) : z153c.p f ds = callOf (z153b ) f ds := Eq.trans rfl rfl
@[simp] theorem z153c_e (f : FuncId) (hs : List (Nat × O)) (ds : List D) : z153c.e f hs ds = callOfE noE f hs ds := Eq.trans rfl rfl
@[simp] theorem z153c_g (g : Nat) : z153c.g g = gl g := Eq.trans rfl rfl
def L_ref45_Of (i n : Nat) (s : St) : OS := atN Tryz.prog z153c z153a 29 (bodyOf Tryz.f9) i n s
def z153h (n i : Nat) (s : St) : OS := atH Tryz.prog z153c z153a 29 (bodyOf Tryz.f9) n i s
@[simp] theorem z153h_eq (n i : Nat) (s : St) : z153h n i s = L_ref45_Of i n (headOf (z153a.loops.lookup i) s) := rfl
def R_ref45_Of (i : Nat) (s : St) : OS := stepL Tryz.prog z153c z153a 29 (bodyOf Tryz.f9) i s
theorem z153k : okLoops (bodyOf Tryz.f9) = true := by kernel_rfl
def F_ref45_Of (ds : List D) : Option D := runF Tryz.prog z153c z153a 29 (bodyOf Tryz.f9) [.tmp 8, .tmp 9, .tmp 10] ds
theorem F_ref45_Of_eq (ds : List D) : F_ref45_Of ds = runG Tryz.prog z153c (z153h bigL) z153a 29 (bodyOf Tryz.f9) [.tmp 8, .tmp 9, .tmp 10] ds := runG_eq z153k _ ds
theorem C_ref45_Of (ds : List D) (r : D) (h : F_ref45_Of ds = some r) : Contract Tryz.prog gl 9 ds r := contract_of mix Tryz.func9 rfl (by kernel_rfl) (by kernel_rfl) (by decide) (call := z153c) ⟨callOf_ok z153b ⟨C_ref45_check, C_ref43_Grade, C_ref42_Of, trivial⟩, callOfE_ok noE trivial⟩ h
attribute [simp] Tryz.f147
def z154a : Ann := ⟨[0, 1, 4, 5, 6, 7], [14, 26, 39], [5], [(4, [0, 1, 5, 6, 7])], [(0, [1, 5, 6]), (1, [0, 1, 5, 6, 7])], some [4], [], [], [(64, 0, 92, 2)], []⟩
@[simp] theorem z154a_draws : z154a.draws = [] := rfl
@[simp] theorem z154a_exits : z154a.exits = [(0, [1, 5, 6]), (1, [0, 1, 5, 6, 7])] := rfl
@[simp] theorem z154a_rets : z154a.rets = some [4] := rfl
@[simp] theorem z154a_keep : z154a.keep = [0, 1, 4, 5, 6, 7] := rfl
@[simp] theorem z154a_cond : z154a.cond = [14, 26, 39] := rfl
@[simp] theorem z154a_rows : z154a.rows = [5] := rfl
@[simp] theorem z154a_loops : z154a.loops = [(4, [0, 1, 5, 6, 7])] := rfl
@[simp] theorem z154a_ecalls : z154a.ecalls = [] := rfl
@[simp] theorem z154a_crows : z154a.crows = [(64, 0, 92, 2)] := rfl
@[simp] theorem z154a_tails : z154a.tails = [] := rfl
@[simp] def z154b : PL := [(191, F_ref43_in)]
def z154c : CT := ⟨callOf (z154b ), callOfE noE, gl⟩
@[simp] theorem z154c_p (f : FuncId) (ds : List D) : z154c.p f ds = callOf (z154b ) f ds := Eq.trans rfl rfl
@[simp] theorem z154c_e (f : FuncId) (hs : List (Nat × O)) (ds : List D) : z154c.e f hs ds = callOfE noE f hs ds := Eq.trans rfl rfl
@[simp] theorem z154c_g (g : Nat) : z154c.g g = gl g := Eq.trans rfl rfl
def L_ref43_add (i n : Nat) (s : St) : OS := atN Tryz.prog z154c z154a 45 (bodyOf Tryz.f147) i n s
def z154h (n i : Nat) (s : St) : OS := atH Tryz.prog z154c z154a 45 (bodyOf Tryz.f147) n i s
@[simp] theorem z154h_eq (n i : Nat) (s : St) : z154h n i s = L_ref43_add i n (headOf (z154a.loops.lookup i) s) := rfl
def R_ref43_add (i : Nat) (s : St) : OS := stepL Tryz.prog z154c z154a 45 (bodyOf Tryz.f147) i s
theorem z154k : okLoops (bodyOf Tryz.f147) = true := by kernel_rfl
theorem L_ref43_add_zero (i : Nat) (s : St) : L_ref43_add i 0 s = none := rfl
theorem L_ref43_add_succ (i n : Nat) (s : St) : L_ref43_add i (n + 1) s = andThen (R_ref43_add i s) (z154h n i) := atN_succ z154k i n s
theorem R_ref43_add_eq (i : Nat) (s : St) : R_ref43_add i s = runS Tryz.prog z154c (z154h bigL) z154a 45 (loopAt (bodyOf Tryz.f147) i) s := rfl
def F_ref43_add (ds : List D) : Option D := runF Tryz.prog z154c z154a 45 (bodyOf Tryz.f147) [.tmp 4] ds
theorem F_ref43_add_eq (ds : List D) : F_ref43_add ds = runG Tryz.prog z154c (z154h bigL) z154a 45 (bodyOf Tryz.f147) [.tmp 4] ds := runG_eq z154k _ ds
theorem C_ref43_add (ds : List D) (r : D) (h : F_ref43_add ds = some r) : Contract Tryz.prog gl 147 ds r := contract_of mix Tryz.func147 rfl (by kernel_rfl) (by kernel_rfl) (by decide) (call := z154c) ⟨callOf_ok z154b ⟨C_ref43_in, trivial⟩, callOfE_ok noE trivial⟩ h
attribute [simp] Tryz.f83
def z155a : Ann := ⟨[1, 2, 3, 6, 7], [9, 13, 22], [], [(6, [1, 2, 3, 7])], [(0, [2]), (1, [1, 2, 3, 7])], some [6], [], [], [(64, 0, 92, 2)], []⟩
@[simp] theorem z155a_draws : z155a.draws = [] := rfl
@[simp] theorem z155a_exits : z155a.exits = [(0, [2]), (1, [1, 2, 3, 7])] := rfl
@[simp] theorem z155a_rets : z155a.rets = some [6] := rfl
@[simp] theorem z155a_keep : z155a.keep = [1, 2, 3, 6, 7] := rfl
@[simp] theorem z155a_cond : z155a.cond = [9, 13, 22] := rfl
@[simp] theorem z155a_rows : z155a.rows = [] := rfl
@[simp] theorem z155a_loops : z155a.loops = [(6, [1, 2, 3, 7])] := rfl
@[simp] theorem z155a_ecalls : z155a.ecalls = [] := rfl
@[simp] theorem z155a_crows : z155a.crows = [(64, 0, 92, 2)] := rfl
@[simp] theorem z155a_tails : z155a.tails = [] := rfl
@[simp] def z155b (self : List D → Option D) : PL := [(83, self), (147, F_ref43_add)]
def z155c (self : List D → Option D) : CT := ⟨callOf (z155b self ), callOfE noE, gl⟩
@[simp] theorem z155c_p (self : List D → Option D) (f : FuncId) (ds : List D) : (z155c self).p f ds = callOf (z155b self ) f ds := Eq.trans rfl rfl
@[simp] theorem z155c_e (self : List D → Option D) (f : FuncId) (hs : List (Nat × O)) (ds : List D) : (z155c self).e f hs ds = callOfE noE f hs ds := Eq.trans rfl rfl
@[simp] theorem z155c_g (self : List D → Option D) (g : Nat) : (z155c self).g g = gl g := Eq.trans rfl rfl
def L_ref43_uses (self : List D → Option D) (i n : Nat) (s : St) : OS := atN Tryz.prog (z155c self) z155a 35 (bodyOf Tryz.f83) i n s
def z155h (self : List D → Option D) (n i : Nat) (s : St) : OS := atH Tryz.prog (z155c self) z155a 35 (bodyOf Tryz.f83) n i s
@[simp] theorem z155h_eq (self : List D → Option D) (n i : Nat) (s : St) : z155h self n i s = L_ref43_uses self i n (headOf (z155a.loops.lookup i) s) := rfl
def R_ref43_uses (self : List D → Option D) (i : Nat) (s : St) : OS := stepL Tryz.prog (z155c self) z155a 35 (bodyOf Tryz.f83) i s
theorem z155k : okLoops (bodyOf Tryz.f83) = true := by kernel_rfl
theorem L_ref43_uses_zero (self : List D → Option D) (i : Nat) (s : St) : L_ref43_uses self i 0 s = none := rfl
theorem L_ref43_uses_succ (self : List D → Option D) (i n : Nat) (s : St) : L_ref43_uses self i (n + 1) s = andThen (R_ref43_uses self i s) (z155h self n i) := atN_succ z155k i n s
theorem R_ref43_uses_eq (self : List D → Option D) (i : Nat) (s : St) : R_ref43_uses self i s = runS Tryz.prog (z155c self) (z155h self bigL) z155a 35 (loopAt (bodyOf Tryz.f83) i) s := rfl
def FN_ref43_uses : Nat → List D → Option D
  | 0 => fun _ => none
  | n + 1 => fun ds => runF Tryz.prog (z155c (FN_ref43_uses n)) z155a 35 (bodyOf Tryz.f83) [.tmp 6] ds
theorem FN_ref43_uses_eq (n : Nat) (ds : List D) : FN_ref43_uses (n + 1) ds = runG Tryz.prog (z155c (FN_ref43_uses n)) (z155h (FN_ref43_uses n) bigL) z155a 35 (bodyOf Tryz.f83) [.tmp 6] ds := runG_eq z155k _ ds
theorem CN_ref43_uses : ∀ (n : Nat) (ds : List D) (r : D), FN_ref43_uses n ds = some r → Contract Tryz.prog gl 83 ds r
  | 0, _, _, h => by cases h
  | n + 1, ds, r, h => by
    have ih := CN_ref43_uses n
    exact contract_of mix Tryz.func83 rfl (by kernel_rfl) (by kernel_rfl) (by decide) (call := z155c (FN_ref43_uses n)) ⟨callOf_ok (z155b (FN_ref43_uses n)) ⟨ih, C_ref43_add, trivial⟩, callOfE_ok noE trivial⟩ h
def F_ref43_uses (ds : List D) : Option D := FN_ref43_uses 1000 ds
theorem C_ref43_uses (ds : List D) (r : D) (h : F_ref43_uses ds = some r) : Contract Tryz.prog gl 83 ds r := CN_ref43_uses 1000 ds r h
attribute [simp] Tryz.f34
def z156a : Ann := ⟨[1, 2], [], [], [], [], some [2], [], [], [(64, 0, 92, 2)], []⟩
@[simp] theorem z156a_draws : z156a.draws = [] := rfl
@[simp] theorem z156a_exits : z156a.exits = [] := rfl
@[simp] theorem z156a_rets : z156a.rets = some [2] := rfl
@[simp] theorem z156a_keep : z156a.keep = [1, 2] := rfl
@[simp] theorem z156a_cond : z156a.cond = [] := rfl
@[simp] theorem z156a_rows : z156a.rows = [] := rfl
@[simp] theorem z156a_loops : z156a.loops = [] := rfl
@[simp] theorem z156a_ecalls : z156a.ecalls = [] := rfl
@[simp] theorem z156a_crows : z156a.crows = [(64, 0, 92, 2)] := rfl
@[simp] theorem z156a_tails : z156a.tails = [] := rfl
@[simp] def z156b : PL := [(83, F_ref43_uses)]
def z156c : CT := ⟨callOf (z156b ), callOfE noE, gl⟩
@[simp] theorem z156c_p (f : FuncId) (ds : List D) : z156c.p f ds = callOf (z156b ) f ds := Eq.trans rfl rfl
@[simp] theorem z156c_e (f : FuncId) (hs : List (Nat × O)) (ds : List D) : z156c.e f hs ds = callOfE noE f hs ds := Eq.trans rfl rfl
@[simp] theorem z156c_g (g : Nat) : z156c.g g = gl g := Eq.trans rfl rfl
def L_ref43_Uses (i n : Nat) (s : St) : OS := atN Tryz.prog z156c z156a 5 (bodyOf Tryz.f34) i n s
def z156h (n i : Nat) (s : St) : OS := atH Tryz.prog z156c z156a 5 (bodyOf Tryz.f34) n i s
@[simp] theorem z156h_eq (n i : Nat) (s : St) : z156h n i s = L_ref43_Uses i n (headOf (z156a.loops.lookup i) s) := rfl
def R_ref43_Uses (i : Nat) (s : St) : OS := stepL Tryz.prog z156c z156a 5 (bodyOf Tryz.f34) i s
theorem z156k : okLoops (bodyOf Tryz.f34) = true := by kernel_rfl
def F_ref43_Uses (ds : List D) : Option D := runF Tryz.prog z156c z156a 5 (bodyOf Tryz.f34) [.tmp 2] ds
theorem F_ref43_Uses_eq (ds : List D) : F_ref43_Uses ds = runG Tryz.prog z156c (z156h bigL) z156a 5 (bodyOf Tryz.f34) [.tmp 2] ds := runG_eq z156k _ ds
theorem C_ref43_Uses (ds : List D) (r : D) (h : F_ref43_Uses ds = some r) : Contract Tryz.prog gl 34 ds r := contract_of mix Tryz.func34 rfl (by kernel_rfl) (by kernel_rfl) (by decide) (call := z156c) ⟨callOf_ok z156b ⟨C_ref43_uses, trivial⟩, callOfE_ok noE trivial⟩ h
attribute [simp] Tryz.f36
def z157a : Ann := ⟨[0, 4, 5], [9, 17], [], [(2, [0, 1, 5])], [(0, []), (1, [0, 1, 5])], some [4], [], [], [(64, 0, 92, 2)], []⟩
@[simp] theorem z157a_draws : z157a.draws = [] := rfl
@[simp] theorem z157a_exits : z157a.exits = [(0, []), (1, [0, 1, 5])] := rfl
@[simp] theorem z157a_rets : z157a.rets = some [4] := rfl
@[simp] theorem z157a_keep : z157a.keep = [0, 4, 5] := rfl
@[simp] theorem z157a_cond : z157a.cond = [9, 17] := rfl
@[simp] theorem z157a_rows : z157a.rows = [] := rfl
@[simp] theorem z157a_loops : z157a.loops = [(2, [0, 1, 5])] := rfl
@[simp] theorem z157a_ecalls : z157a.ecalls = [] := rfl
@[simp] theorem z157a_crows : z157a.crows = [(64, 0, 92, 2)] := rfl
@[simp] theorem z157a_tails : z157a.tails = [] := rfl
@[simp] def z157b : PL := []
def z157c : CT := ⟨callOf (z157b ), callOfE noE, gl⟩
@[simp] theorem z157c_p (f : FuncId) (ds : List D) : z157c.p f ds = callOf (z157b ) f ds := Eq.trans rfl rfl
@[simp] theorem z157c_e (f : FuncId) (hs : List (Nat × O)) (ds : List D) : z157c.e f hs ds = callOfE noE f hs ds := Eq.trans rfl rfl
@[simp] theorem z157c_g (g : Nat) : z157c.g g = gl g := Eq.trans rfl rfl
def L_ref45_has (i n : Nat) (s : St) : OS := atN Tryz.prog z157c z157a 18 (bodyOf Tryz.f36) i n s
def z157h (n i : Nat) (s : St) : OS := atH Tryz.prog z157c z157a 18 (bodyOf Tryz.f36) n i s
@[simp] theorem z157h_eq (n i : Nat) (s : St) : z157h n i s = L_ref45_has i n (headOf (z157a.loops.lookup i) s) := rfl
def R_ref45_has (i : Nat) (s : St) : OS := stepL Tryz.prog z157c z157a 18 (bodyOf Tryz.f36) i s
theorem z157k : okLoops (bodyOf Tryz.f36) = true := by kernel_rfl
theorem L_ref45_has_zero (i : Nat) (s : St) : L_ref45_has i 0 s = none := rfl
theorem L_ref45_has_succ (i n : Nat) (s : St) : L_ref45_has i (n + 1) s = andThen (R_ref45_has i s) (z157h n i) := atN_succ z157k i n s
theorem R_ref45_has_eq (i : Nat) (s : St) : R_ref45_has i s = runS Tryz.prog z157c (z157h bigL) z157a 18 (loopAt (bodyOf Tryz.f36) i) s := rfl
def F_ref45_has (ds : List D) : Option D := runF Tryz.prog z157c z157a 18 (bodyOf Tryz.f36) [.tmp 4] ds
theorem F_ref45_has_eq (ds : List D) : F_ref45_has ds = runG Tryz.prog z157c (z157h bigL) z157a 18 (bodyOf Tryz.f36) [.tmp 4] ds := runG_eq z157k _ ds
theorem C_ref45_has (ds : List D) (r : D) (h : F_ref45_has ds = some r) : Contract Tryz.prog gl 36 ds r := contract_of mix Tryz.func36 rfl (by kernel_rfl) (by kernel_rfl) (by decide) (call := z157c) ⟨callOf_ok z157b trivial, callOfE_ok noE trivial⟩ h
attribute [simp] Tryz.f37
def z158a : Ann := ⟨[0, 4, 5, 6], [10, 19], [], [(2, [0, 1, 6])], [(0, []), (1, [0, 1, 6])], some [4, 5], [], [], [(64, 0, 92, 2)], []⟩
@[simp] theorem z158a_draws : z158a.draws = [] := rfl
@[simp] theorem z158a_exits : z158a.exits = [(0, []), (1, [0, 1, 6])] := rfl
@[simp] theorem z158a_rets : z158a.rets = some [4, 5] := rfl
@[simp] theorem z158a_keep : z158a.keep = [0, 4, 5, 6] := rfl
@[simp] theorem z158a_cond : z158a.cond = [10, 19] := rfl
@[simp] theorem z158a_rows : z158a.rows = [] := rfl
@[simp] theorem z158a_loops : z158a.loops = [(2, [0, 1, 6])] := rfl
@[simp] theorem z158a_ecalls : z158a.ecalls = [] := rfl
@[simp] theorem z158a_crows : z158a.crows = [(64, 0, 92, 2)] := rfl
@[simp] theorem z158a_tails : z158a.tails = [] := rfl
@[simp] def z158b : PL := []
def z158c : CT := ⟨callOf (z158b ), callOfE noE, gl⟩
@[simp] theorem z158c_p (f : FuncId) (ds : List D) : z158c.p f ds = callOf (z158b ) f ds := Eq.trans rfl rfl
@[simp] theorem z158c_e (f : FuncId) (hs : List (Nat × O)) (ds : List D) : z158c.e f hs ds = callOfE noE f hs ds := Eq.trans rfl rfl
@[simp] theorem z158c_g (g : Nat) : z158c.g g = gl g := Eq.trans rfl rfl
def L_ref42_Get (i n : Nat) (s : St) : OS := atN Tryz.prog z158c z158a 25 (bodyOf Tryz.f37) i n s
def z158h (n i : Nat) (s : St) : OS := atH Tryz.prog z158c z158a 25 (bodyOf Tryz.f37) n i s
@[simp] theorem z158h_eq (n i : Nat) (s : St) : z158h n i s = L_ref42_Get i n (headOf (z158a.loops.lookup i) s) := rfl
def R_ref42_Get (i : Nat) (s : St) : OS := stepL Tryz.prog z158c z158a 25 (bodyOf Tryz.f37) i s
theorem z158k : okLoops (bodyOf Tryz.f37) = true := by kernel_rfl
theorem L_ref42_Get_zero (i : Nat) (s : St) : L_ref42_Get i 0 s = none := rfl
theorem L_ref42_Get_succ (i n : Nat) (s : St) : L_ref42_Get i (n + 1) s = andThen (R_ref42_Get i s) (z158h n i) := atN_succ z158k i n s
theorem R_ref42_Get_eq (i : Nat) (s : St) : R_ref42_Get i s = runS Tryz.prog z158c (z158h bigL) z158a 25 (loopAt (bodyOf Tryz.f37) i) s := rfl
def F_ref42_Get (ds : List D) : Option D := runF Tryz.prog z158c z158a 25 (bodyOf Tryz.f37) [.tmp 4, .tmp 5] ds
theorem F_ref42_Get_eq (ds : List D) : F_ref42_Get ds = runG Tryz.prog z158c (z158h bigL) z158a 25 (bodyOf Tryz.f37) [.tmp 4, .tmp 5] ds := runG_eq z158k _ ds
theorem C_ref42_Get (ds : List D) (r : D) (h : F_ref42_Get ds = some r) : Contract Tryz.prog gl 37 ds r := contract_of mix Tryz.func37 rfl (by kernel_rfl) (by kernel_rfl) (by decide) (call := z158c) ⟨callOf_ok z158b trivial, callOfE_ok noE trivial⟩ h
attribute [simp] Tryz.f84
def z159a : Ann := ⟨[0, 1, 2, 6], [14, 18], [], [], [], some [6], [], [], [(64, 0, 92, 2)], []⟩
@[simp] theorem z159a_draws : z159a.draws = [] := rfl
@[simp] theorem z159a_exits : z159a.exits = [] := rfl
@[simp] theorem z159a_rets : z159a.rets = some [6] := rfl
@[simp] theorem z159a_keep : z159a.keep = [0, 1, 2, 6] := rfl
@[simp] theorem z159a_cond : z159a.cond = [14, 18] := rfl
@[simp] theorem z159a_rows : z159a.rows = [] := rfl
@[simp] theorem z159a_loops : z159a.loops = [] := rfl
@[simp] theorem z159a_ecalls : z159a.ecalls = [] := rfl
@[simp] theorem z159a_crows : z159a.crows = [(64, 0, 92, 2)] := rfl
@[simp] theorem z159a_tails : z159a.tails = [] := rfl
@[simp] def z159b : PL := []
def z159c : CT := ⟨callOf (z159b ), callOfE noE, gl⟩
@[simp] theorem z159c_p (f : FuncId) (ds : List D) : z159c.p f ds = callOf (z159b ) f ds := Eq.trans rfl rfl
@[simp] theorem z159c_e (f : FuncId) (hs : List (Nat × O)) (ds : List D) : z159c.e f hs ds = callOfE noE f hs ds := Eq.trans rfl rfl
@[simp] theorem z159c_g (g : Nat) : z159c.g g = gl g := Eq.trans rfl rfl
def L_ref01_Clamp (i n : Nat) (s : St) : OS := atN Tryz.prog z159c z159a 21 (bodyOf Tryz.f84) i n s
def z159h (n i : Nat) (s : St) : OS := atH Tryz.prog z159c z159a 21 (bodyOf Tryz.f84) n i s
@[simp] theorem z159h_eq (n i : Nat) (s : St) : z159h n i s = L_ref01_Clamp i n (headOf (z159a.loops.lookup i) s) := rfl
def R_ref01_Clamp (i : Nat) (s : St) : OS := stepL Tryz.prog z159c z159a 21 (bodyOf Tryz.f84) i s
theorem z159k : okLoops (bodyOf Tryz.f84) = true := by kernel_rfl
def F_ref01_Clamp (ds : List D) : Option D := runF Tryz.prog z159c z159a 21 (bodyOf Tryz.f84) [.tmp 6] ds
theorem F_ref01_Clamp_eq (ds : List D) : F_ref01_Clamp ds = runG Tryz.prog z159c (z159h bigL) z159a 21 (bodyOf Tryz.f84) [.tmp 6] ds := runG_eq z159k _ ds
theorem C_ref01_Clamp (ds : List D) (r : D) (h : F_ref01_Clamp ds = some r) : Contract Tryz.prog gl 84 ds r := contract_of mix Tryz.func84 rfl (by kernel_rfl) (by kernel_rfl) (by decide) (call := z159c) ⟨callOf_ok z159b trivial, callOfE_ok noE trivial⟩ h
attribute [simp] Tryz.f85
def z160a : Ann := ⟨[0, 2], [4], [], [], [], some [2], [], [], [(64, 0, 92, 2)], []⟩
@[simp] theorem z160a_draws : z160a.draws = [] := rfl
@[simp] theorem z160a_exits : z160a.exits = [] := rfl
@[simp] theorem z160a_rets : z160a.rets = some [2] := rfl
@[simp] theorem z160a_keep : z160a.keep = [0, 2] := rfl
@[simp] theorem z160a_cond : z160a.cond = [4] := rfl
@[simp] theorem z160a_rows : z160a.rows = [] := rfl
@[simp] theorem z160a_loops : z160a.loops = [] := rfl
@[simp] theorem z160a_ecalls : z160a.ecalls = [] := rfl
@[simp] theorem z160a_crows : z160a.crows = [(64, 0, 92, 2)] := rfl
@[simp] theorem z160a_tails : z160a.tails = [] := rfl
@[simp] def z160b : PL := []
def z160c : CT := ⟨callOf (z160b ), callOfE noE, gl⟩
@[simp] theorem z160c_p (f : FuncId) (ds : List D) : z160c.p f ds = callOf (z160b ) f ds := Eq.trans rfl rfl
@[simp] theorem z160c_e (f : FuncId) (hs : List (Nat × O)) (ds : List D) : z160c.e f hs ds = callOfE noE f hs ds := Eq.trans rfl rfl
@[simp] theorem z160c_g (g : Nat) : z160c.g g = gl g := Eq.trans rfl rfl
def L_ref01_size (i n : Nat) (s : St) : OS := atN Tryz.prog z160c z160a 12 (bodyOf Tryz.f85) i n s
def z160h (n i : Nat) (s : St) : OS := atH Tryz.prog z160c z160a 12 (bodyOf Tryz.f85) n i s
@[simp] theorem z160h_eq (n i : Nat) (s : St) : z160h n i s = L_ref01_size i n (headOf (z160a.loops.lookup i) s) := rfl
def R_ref01_size (i : Nat) (s : St) : OS := stepL Tryz.prog z160c z160a 12 (bodyOf Tryz.f85) i s
theorem z160k : okLoops (bodyOf Tryz.f85) = true := by kernel_rfl
def F_ref01_size (ds : List D) : Option D := runF Tryz.prog z160c z160a 12 (bodyOf Tryz.f85) [.tmp 2] ds
theorem F_ref01_size_eq (ds : List D) : F_ref01_size ds = runG Tryz.prog z160c (z160h bigL) z160a 12 (bodyOf Tryz.f85) [.tmp 2] ds := runG_eq z160k _ ds
theorem C_ref01_size (ds : List D) (r : D) (h : F_ref01_size ds = some r) : Contract Tryz.prog gl 85 ds r := contract_of mix Tryz.func85 rfl (by kernel_rfl) (by kernel_rfl) (by decide) (call := z160c) ⟨callOf_ok z160b trivial, callOfE_ok noE trivial⟩ h
attribute [simp] Tryz.f38
def z161a : Ann := ⟨[0, 4, 5, 6, 7, 8, 9, 10], [21, 30, 44, 52], [7, 9], [(5, [0, 5, 6, 7, 8]), (15, [7, 9, 10])], [(0, [0, 7]), (1, [0, 5, 6, 7, 8]), (2, [9]), (3, [7, 9, 10])], some [4], [], [], [(64, 0, 92, 2)], []⟩
@[simp] theorem z161a_draws : z161a.draws = [] := rfl
@[simp] theorem z161a_exits : z161a.exits = [(0, [0, 7]), (1, [0, 5, 6, 7, 8]), (2, [9]), (3, [7, 9, 10])] := rfl
@[simp] theorem z161a_rets : z161a.rets = some [4] := rfl
@[simp] theorem z161a_keep : z161a.keep = [0, 4, 5, 6, 7, 8, 9, 10] := rfl
@[simp] theorem z161a_cond : z161a.cond = [21, 30, 44, 52] := rfl
@[simp] theorem z161a_rows : z161a.rows = [7, 9] := rfl
@[simp] theorem z161a_loops : z161a.loops = [(5, [0, 5, 6, 7, 8]), (15, [7, 9, 10])] := rfl
@[simp] theorem z161a_ecalls : z161a.ecalls = [] := rfl
@[simp] theorem z161a_crows : z161a.crows = [(64, 0, 92, 2)] := rfl
@[simp] theorem z161a_tails : z161a.tails = [] := rfl
@[simp] def z161b : PL := [(84, F_ref01_Clamp), (85, F_ref01_size)]
def z161c : CT := ⟨callOf (z161b ), callOfE noE, gl⟩
@[simp] theorem z161c_p (f : FuncId) (ds : List D) : z161c.p f ds = callOf (z161b ) f ds := Eq.trans rfl rfl
@[simp] theorem z161c_e (f : FuncId) (hs : List (Nat × O)) (ds : List D) : z161c.e f hs ds = callOfE noE f hs ds := Eq.trans rfl rfl
@[simp] theorem z161c_g (g : Nat) : z161c.g g = gl g := Eq.trans rfl rfl
def L_ref01_Decimal (i n : Nat) (s : St) : OS := atN Tryz.prog z161c z161a 64 (bodyOf Tryz.f38) i n s
def z161h (n i : Nat) (s : St) : OS := atH Tryz.prog z161c z161a 64 (bodyOf Tryz.f38) n i s
@[simp] theorem z161h_eq (n i : Nat) (s : St) : z161h n i s = L_ref01_Decimal i n (headOf (z161a.loops.lookup i) s) := rfl
def R_ref01_Decimal (i : Nat) (s : St) : OS := stepL Tryz.prog z161c z161a 64 (bodyOf Tryz.f38) i s
theorem z161k : okLoops (bodyOf Tryz.f38) = true := by kernel_rfl
theorem L_ref01_Decimal_zero (i : Nat) (s : St) : L_ref01_Decimal i 0 s = none := rfl
theorem L_ref01_Decimal_succ (i n : Nat) (s : St) : L_ref01_Decimal i (n + 1) s = andThen (R_ref01_Decimal i s) (z161h n i) := atN_succ z161k i n s
theorem R_ref01_Decimal_eq (i : Nat) (s : St) : R_ref01_Decimal i s = runS Tryz.prog z161c (z161h bigL) z161a 64 (loopAt (bodyOf Tryz.f38) i) s := rfl
def F_ref01_Decimal (ds : List D) : Option D := runF Tryz.prog z161c z161a 64 (bodyOf Tryz.f38) [.tmp 4] ds
theorem F_ref01_Decimal_eq (ds : List D) : F_ref01_Decimal ds = runG Tryz.prog z161c (z161h bigL) z161a 64 (bodyOf Tryz.f38) [.tmp 4] ds := runG_eq z161k _ ds
theorem C_ref01_Decimal (ds : List D) (r : D) (h : F_ref01_Decimal ds = some r) : Contract Tryz.prog gl 38 ds r := contract_of mix Tryz.func38 rfl (by kernel_rfl) (by kernel_rfl) (by decide) (call := z161c) ⟨callOf_ok z161b ⟨C_ref01_Clamp, C_ref01_size, trivial⟩, callOfE_ok noE trivial⟩ h
attribute [simp] Tryz.f11
def z162a : Ann := ⟨[1, 3, 4, 6, 8, 9, 11, 12, 13, 14, 15, 16, 17, 18, 19, 20, 21, 22], [34, 37, 43, 62, 68, 88, 97, 105], [13], [(8, [1, 3, 4, 6, 11, 13, 14]), (15, [13, 15, 16, 17, 18, 19]), (19, [13, 15, 16, 17, 18, 19, 20, 21])], [(0, [1, 4, 6, 13]), (1, [1, 3, 4, 6, 11, 13, 14]), (2, [17]), (3, [13, 15, 16, 17, 18, 19]), (4, [13, 15, 16, 17, 19, 20]), (5, [13, 15, 16, 17, 18, 19, 20, 21])], some [8, 9], [], [], [(64, 0, 92, 2)], []⟩
@[simp] theorem z162a_draws : z162a.draws = [] := rfl
@[simp] theorem z162a_exits : z162a.exits = [(0, [1, 4, 6, 13]), (1, [1, 3, 4, 6, 11, 13, 14]), (2, [17]), (3, [13, 15, 16, 17, 18, 19]), (4, [13, 15, 16, 17, 19, 20]), (5, [13, 15, 16, 17, 18, 19, 20, 21])] := rfl
@[simp] theorem z162a_rets : z162a.rets = some [8, 9] := rfl
@[simp] theorem z162a_keep : z162a.keep = [1, 3, 4, 6, 8, 9, 11, 12, 13, 14, 15, 16, 17, 18, 19, 20, 21, 22] := rfl
@[simp] theorem z162a_cond : z162a.cond = [34, 37, 43, 62, 68, 88, 97, 105] := rfl
@[simp] theorem z162a_rows : z162a.rows = [13] := rfl
@[simp] theorem z162a_loops : z162a.loops = [(8, [1, 3, 4, 6, 11, 13, 14]), (15, [13, 15, 16, 17, 18, 19]), (19, [13, 15, 16, 17, 18, 19, 20, 21])] := rfl
@[simp] theorem z162a_ecalls : z162a.ecalls = [] := rfl
@[simp] theorem z162a_crows : z162a.crows = [(64, 0, 92, 2)] := rfl
@[simp] theorem z162a_tails : z162a.tails = [] := rfl
@[simp] def z162b : PL := [(9, F_ref45_Of), (27, F_ref42_Of), (34, F_ref43_Uses), (35, F_ref42_Names), (36, F_ref45_has), (37, F_ref42_Get), (38, F_ref01_Decimal)]
def z162c : CT := ⟨callOf (z162b ), callOfE noE, gl⟩
@[simp] theorem z162c_p (f : FuncId) (ds : List D) : z162c.p f ds = callOf (z162b ) f ds := Eq.trans rfl rfl
@[simp] theorem z162c_e (f : FuncId) (hs : List (Nat × O)) (ds : List D) : z162c.e f hs ds = callOfE noE f hs ds := Eq.trans rfl rfl
@[simp] theorem z162c_g (g : Nat) : z162c.g g = gl g := Eq.trans rfl rfl
def L_ref45_Explain (i n : Nat) (s : St) : OS := atN Tryz.prog z162c z162a 116 (bodyOf Tryz.f11) i n s
def z162h (n i : Nat) (s : St) : OS := atH Tryz.prog z162c z162a 116 (bodyOf Tryz.f11) n i s
@[simp] theorem z162h_eq (n i : Nat) (s : St) : z162h n i s = L_ref45_Explain i n (headOf (z162a.loops.lookup i) s) := rfl
def R_ref45_Explain (i : Nat) (s : St) : OS := stepL Tryz.prog z162c z162a 116 (bodyOf Tryz.f11) i s
theorem z162k : okLoops (bodyOf Tryz.f11) = true := by kernel_rfl
theorem L_ref45_Explain_zero (i : Nat) (s : St) : L_ref45_Explain i 0 s = none := rfl
theorem L_ref45_Explain_succ (i n : Nat) (s : St) : L_ref45_Explain i (n + 1) s = andThen (R_ref45_Explain i s) (z162h n i) := atN_succ z162k i n s
theorem R_ref45_Explain_eq (i : Nat) (s : St) : R_ref45_Explain i s = runS Tryz.prog z162c (z162h bigL) z162a 116 (loopAt (bodyOf Tryz.f11) i) s := rfl
def F_ref45_Explain (ds : List D) : Option D := runF Tryz.prog z162c z162a 116 (bodyOf Tryz.f11) [.tmp 8, .tmp 9] ds
theorem F_ref45_Explain_eq (ds : List D) : F_ref45_Explain ds = runG Tryz.prog z162c (z162h bigL) z162a 116 (bodyOf Tryz.f11) [.tmp 8, .tmp 9] ds := runG_eq z162k _ ds
theorem C_ref45_Explain (ds : List D) (r : D) (h : F_ref45_Explain ds = some r) : Contract Tryz.prog gl 11 ds r := contract_of mix Tryz.func11 rfl (by kernel_rfl) (by kernel_rfl) (by decide) (call := z162c) ⟨callOf_ok z162b ⟨C_ref45_Of, C_ref42_Of, C_ref43_Uses, C_ref42_Names, C_ref45_has, C_ref42_Get, C_ref01_Decimal, trivial⟩, callOfE_ok noE trivial⟩ h
attribute [simp] Tryz.f40
def z163a : Ann := ⟨[0, 2], [4], [], [], [], some [2], [], [], [(64, 0, 92, 2)], []⟩
@[simp] theorem z163a_draws : z163a.draws = [] := rfl
@[simp] theorem z163a_exits : z163a.exits = [] := rfl
@[simp] theorem z163a_rets : z163a.rets = some [2] := rfl
@[simp] theorem z163a_keep : z163a.keep = [0, 2] := rfl
@[simp] theorem z163a_cond : z163a.cond = [4] := rfl
@[simp] theorem z163a_rows : z163a.rows = [] := rfl
@[simp] theorem z163a_loops : z163a.loops = [] := rfl
@[simp] theorem z163a_ecalls : z163a.ecalls = [] := rfl
@[simp] theorem z163a_crows : z163a.crows = [(64, 0, 92, 2)] := rfl
@[simp] theorem z163a_tails : z163a.tails = [] := rfl
@[simp] def z163b : PL := []
def z163c : CT := ⟨callOf (z163b ), callOfE noE, gl⟩
@[simp] theorem z163c_p (f : FuncId) (ds : List D) : z163c.p f ds = callOf (z163b ) f ds := Eq.trans rfl rfl
@[simp] theorem z163c_e (f : FuncId) (hs : List (Nat × O)) (ds : List D) : z163c.e f hs ds = callOfE noE f hs ds := Eq.trans rfl rfl
@[simp] theorem z163c_g (g : Nat) : z163c.g g = gl g := Eq.trans rfl rfl
def L_ref45_rank (i n : Nat) (s : St) : OS := atN Tryz.prog z163c z163a 6 (bodyOf Tryz.f40) i n s
def z163h (n i : Nat) (s : St) : OS := atH Tryz.prog z163c z163a 6 (bodyOf Tryz.f40) n i s
@[simp] theorem z163h_eq (n i : Nat) (s : St) : z163h n i s = L_ref45_rank i n (headOf (z163a.loops.lookup i) s) := rfl
def R_ref45_rank (i : Nat) (s : St) : OS := stepL Tryz.prog z163c z163a 6 (bodyOf Tryz.f40) i s
theorem z163k : okLoops (bodyOf Tryz.f40) = true := by kernel_rfl
def F_ref45_rank (ds : List D) : Option D := runF Tryz.prog z163c z163a 6 (bodyOf Tryz.f40) [.tmp 2] ds
theorem F_ref45_rank_eq (ds : List D) : F_ref45_rank ds = runG Tryz.prog z163c (z163h bigL) z163a 6 (bodyOf Tryz.f40) [.tmp 2] ds := runG_eq z163k _ ds
theorem C_ref45_rank (ds : List D) (r : D) (h : F_ref45_rank ds = some r) : Contract Tryz.prog gl 40 ds r := contract_of mix Tryz.func40 rfl (by kernel_rfl) (by kernel_rfl) (by decide) (call := z163c) ⟨callOf_ok z163b trivial, callOfE_ok noE trivial⟩ h
attribute [simp] Tryz.f13
def z164a : Ann := ⟨[0, 1, 4, 5], [19, 24], [], [], [], some [4, 5], [], [], [(64, 0, 92, 2)], []⟩
@[simp] theorem z164a_draws : z164a.draws = [] := rfl
@[simp] theorem z164a_exits : z164a.exits = [] := rfl
@[simp] theorem z164a_rets : z164a.rets = some [4, 5] := rfl
@[simp] theorem z164a_keep : z164a.keep = [0, 1, 4, 5] := rfl
@[simp] theorem z164a_cond : z164a.cond = [19, 24] := rfl
@[simp] theorem z164a_rows : z164a.rows = [] := rfl
@[simp] theorem z164a_loops : z164a.loops = [] := rfl
@[simp] theorem z164a_ecalls : z164a.ecalls = [] := rfl
@[simp] theorem z164a_crows : z164a.crows = [(64, 0, 92, 2)] := rfl
@[simp] theorem z164a_tails : z164a.tails = [] := rfl
@[simp] def z164b : PL := [(40, F_ref45_rank)]
def z164c : CT := ⟨callOf (z164b ), callOfE noE, gl⟩
@[simp] theorem z164c_p (f : FuncId) (ds : List D) : z164c.p f ds = callOf (z164b ) f ds := Eq.trans rfl rfl
@[simp] theorem z164c_e (f : FuncId) (hs : List (Nat × O)) (ds : List D) : z164c.e f hs ds = callOfE noE f hs ds := Eq.trans rfl rfl
@[simp] theorem z164c_g (g : Nat) : z164c.g g = gl g := Eq.trans rfl rfl
def L_ref45_Again (i n : Nat) (s : St) : OS := atN Tryz.prog z164c z164a 26 (bodyOf Tryz.f13) i n s
def z164h (n i : Nat) (s : St) : OS := atH Tryz.prog z164c z164a 26 (bodyOf Tryz.f13) n i s
@[simp] theorem z164h_eq (n i : Nat) (s : St) : z164h n i s = L_ref45_Again i n (headOf (z164a.loops.lookup i) s) := rfl
def R_ref45_Again (i : Nat) (s : St) : OS := stepL Tryz.prog z164c z164a 26 (bodyOf Tryz.f13) i s
theorem z164k : okLoops (bodyOf Tryz.f13) = true := by kernel_rfl
def F_ref45_Again (ds : List D) : Option D := runF Tryz.prog z164c z164a 26 (bodyOf Tryz.f13) [.tmp 4, .tmp 5] ds
theorem F_ref45_Again_eq (ds : List D) : F_ref45_Again ds = runG Tryz.prog z164c (z164h bigL) z164a 26 (bodyOf Tryz.f13) [.tmp 4, .tmp 5] ds := runG_eq z164k _ ds
theorem C_ref45_Again (ds : List D) (r : D) (h : F_ref45_Again ds = some r) : Contract Tryz.prog gl 13 ds r := contract_of mix Tryz.func13 rfl (by kernel_rfl) (by kernel_rfl) (by decide) (call := z164c) ⟨callOf_ok z164b ⟨C_ref45_rank, trivial⟩, callOfE_ok noE trivial⟩ h
attribute [simp] Tryz.f14
def z165a : Ann := ⟨[2, 3, 5, 7, 8, 9], [10, 20], [3], [(3, [3, 7, 8, 9])], [(0, [3]), (1, [3, 7, 8, 9])], some [2], [], [], [(64, 0, 92, 2)], []⟩
@[simp] theorem z165a_draws : z165a.draws = [] := rfl
@[simp] theorem z165a_exits : z165a.exits = [(0, [3]), (1, [3, 7, 8, 9])] := rfl
@[simp] theorem z165a_rets : z165a.rets = some [2] := rfl
@[simp] theorem z165a_keep : z165a.keep = [2, 3, 5, 7, 8, 9] := rfl
@[simp] theorem z165a_cond : z165a.cond = [10, 20] := rfl
@[simp] theorem z165a_rows : z165a.rows = [3] := rfl
@[simp] theorem z165a_loops : z165a.loops = [(3, [3, 7, 8, 9])] := rfl
@[simp] theorem z165a_ecalls : z165a.ecalls = [] := rfl
@[simp] theorem z165a_crows : z165a.crows = [(64, 0, 92, 2)] := rfl
@[simp] theorem z165a_tails : z165a.tails = [] := rfl
@[simp] def z165b : PL := []
def z165c : CT := ⟨callOf (z165b ), callOfE noE, gl⟩
@[simp] theorem z165c_p (f : FuncId) (ds : List D) : z165c.p f ds = callOf (z165b ) f ds := Eq.trans rfl rfl
@[simp] theorem z165c_e (f : FuncId) (hs : List (Nat × O)) (ds : List D) : z165c.e f hs ds = callOfE noE f hs ds := Eq.trans rfl rfl
@[simp] theorem z165c_g (g : Nat) : z165c.g g = gl g := Eq.trans rfl rfl
def L_grading_Counts (i n : Nat) (s : St) : OS := atN Tryz.prog z165c z165a 30 (bodyOf Tryz.f14) i n s
def z165h (n i : Nat) (s : St) : OS := atH Tryz.prog z165c z165a 30 (bodyOf Tryz.f14) n i s
@[simp] theorem z165h_eq (n i : Nat) (s : St) : z165h n i s = L_grading_Counts i n (headOf (z165a.loops.lookup i) s) := rfl
def R_grading_Counts (i : Nat) (s : St) : OS := stepL Tryz.prog z165c z165a 30 (bodyOf Tryz.f14) i s
theorem z165k : okLoops (bodyOf Tryz.f14) = true := by kernel_rfl
theorem L_grading_Counts_zero (i : Nat) (s : St) : L_grading_Counts i 0 s = none := rfl
theorem L_grading_Counts_succ (i n : Nat) (s : St) : L_grading_Counts i (n + 1) s = andThen (R_grading_Counts i s) (z165h n i) := atN_succ z165k i n s
theorem R_grading_Counts_eq (i : Nat) (s : St) : R_grading_Counts i s = runS Tryz.prog z165c (z165h bigL) z165a 30 (loopAt (bodyOf Tryz.f14) i) s := rfl
def F_grading_Counts (ds : List D) : Option D := runF Tryz.prog z165c z165a 30 (bodyOf Tryz.f14) [.tmp 2] ds
theorem F_grading_Counts_eq (ds : List D) : F_grading_Counts ds = runG Tryz.prog z165c (z165h bigL) z165a 30 (bodyOf Tryz.f14) [.tmp 2] ds := runG_eq z165k _ ds
theorem C_grading_Counts (ds : List D) (r : D) (h : F_grading_Counts ds = some r) : Contract Tryz.prog gl 14 ds r := contract_of mix Tryz.func14 rfl (by kernel_rfl) (by kernel_rfl) (by decide) (call := z165c) ⟨callOf_ok z165b trivial, callOfE_ok noE trivial⟩ h
attribute [simp] Tryz.f15
def z166a : Ann := ⟨[0, 2, 3, 4, 5], [10, 14, 23], [3], [(3, [0, 3, 4]), (6, [0, 3, 4, 5])], [(0, [3]), (1, [0, 3, 4]), (2, [0, 3, 4]), (3, [0, 3, 4, 5])], some [2], [], [], [(64, 0, 92, 2)], []⟩
@[simp] theorem z166a_draws : z166a.draws = [] := rfl
@[simp] theorem z166a_exits : z166a.exits = [(0, [3]), (1, [0, 3, 4]), (2, [0, 3, 4]), (3, [0, 3, 4, 5])] := rfl
@[simp] theorem z166a_rets : z166a.rets = some [2] := rfl
@[simp] theorem z166a_keep : z166a.keep = [0, 2, 3, 4, 5] := rfl
@[simp] theorem z166a_cond : z166a.cond = [10, 14, 23] := rfl
@[simp] theorem z166a_rows : z166a.rows = [3] := rfl
@[simp] theorem z166a_loops : z166a.loops = [(3, [0, 3, 4]), (6, [0, 3, 4, 5])] := rfl
@[simp] theorem z166a_ecalls : z166a.ecalls = [] := rfl
@[simp] theorem z166a_crows : z166a.crows = [(64, 0, 92, 2)] := rfl
@[simp] theorem z166a_tails : z166a.tails = [] := rfl
@[simp] def z166b : PL := []
def z166c : CT := ⟨callOf (z166b ), callOfE noE, gl⟩
@[simp] theorem z166c_p (f : FuncId) (ds : List D) : z166c.p f ds = callOf (z166b ) f ds := Eq.trans rfl rfl
@[simp] theorem z166c_e (f : FuncId) (hs : List (Nat × O)) (ds : List D) : z166c.e f hs ds = callOfE noE f hs ds := Eq.trans rfl rfl
@[simp] theorem z166c_g (g : Nat) : z166c.g g = gl g := Eq.trans rfl rfl
def L_ref45_Counts (i n : Nat) (s : St) : OS := atN Tryz.prog z166c z166a 31 (bodyOf Tryz.f15) i n s
def z166h (n i : Nat) (s : St) : OS := atH Tryz.prog z166c z166a 31 (bodyOf Tryz.f15) n i s
@[simp] theorem z166h_eq (n i : Nat) (s : St) : z166h n i s = L_ref45_Counts i n (headOf (z166a.loops.lookup i) s) := rfl
def R_ref45_Counts (i : Nat) (s : St) : OS := stepL Tryz.prog z166c z166a 31 (bodyOf Tryz.f15) i s
theorem z166k : okLoops (bodyOf Tryz.f15) = true := by kernel_rfl
theorem L_ref45_Counts_zero (i : Nat) (s : St) : L_ref45_Counts i 0 s = none := rfl
theorem L_ref45_Counts_succ (i n : Nat) (s : St) : L_ref45_Counts i (n + 1) s = andThen (R_ref45_Counts i s) (z166h n i) := atN_succ z166k i n s
theorem R_ref45_Counts_eq (i : Nat) (s : St) : R_ref45_Counts i s = runS Tryz.prog z166c (z166h bigL) z166a 31 (loopAt (bodyOf Tryz.f15) i) s := rfl
def F_ref45_Counts (ds : List D) : Option D := runF Tryz.prog z166c z166a 31 (bodyOf Tryz.f15) [.tmp 2] ds
theorem F_ref45_Counts_eq (ds : List D) : F_ref45_Counts ds = runG Tryz.prog z166c (z166h bigL) z166a 31 (bodyOf Tryz.f15) [.tmp 2] ds := runG_eq z166k _ ds
theorem C_ref45_Counts (ds : List D) (r : D) (h : F_ref45_Counts ds = some r) : Contract Tryz.prog gl 15 ds r := contract_of mix Tryz.func15 rfl (by kernel_rfl) (by kernel_rfl) (by decide) (call := z166c) ⟨callOf_ok z166b trivial, callOfE_ok noE trivial⟩ h
end
end Go.Proofs.YtldekjlihfidlaaGreatDoor

