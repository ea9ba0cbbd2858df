/-
  Printed by gen.py for this seat: more of the functions.
-/
import Derived.Test.YthgamgdcjgbmnaaGreatDoorGen1
namespace Go.Proofs.YthgamgdcjgbmnaaGreatDoor
open Go Go.Abs
set_option maxRecDepth 100000
set_option linter.unusedSimpArgs false
set_option linter.unusedVariables false
-- sawmill/sawmillref35.Outside: loops []; state: params 0..-1, then [0]
attribute [simp] Tryz.f21
noncomputable def an_ref35_Outside : Ann := ⟨[0], [], [], [], [], some [0], [], [], []⟩
@[simp] theorem an_ref35_Outside_draws : an_ref35_Outside.draws = [] := rfl
@[simp] theorem an_ref35_Outside_exits : an_ref35_Outside.exits = [] := rfl
@[simp] theorem an_ref35_Outside_rets : an_ref35_Outside.rets = some [0] := rfl
@[simp] theorem an_ref35_Outside_keep : an_ref35_Outside.keep = [0] := rfl
@[simp] theorem an_ref35_Outside_cond : an_ref35_Outside.cond = [] := rfl
@[simp] theorem an_ref35_Outside_rows : an_ref35_Outside.rows = [] := rfl
@[simp] theorem an_ref35_Outside_loops : an_ref35_Outside.loops = [] := rfl
@[simp] theorem an_ref35_Outside_ecalls : an_ref35_Outside.ecalls = [] := rfl
@[simp] theorem an_ref35_Outside_crows : an_ref35_Outside.crows = [] := rfl
@[simp] noncomputable def cl_ref35_Outside : List (Nat × (List D → Option D)) := []
@[simp] noncomputable def ce_ref35_Outside : List (Nat × (List (Nat × O) → List D → Option (D × List (Nat × O)))) := []
noncomputable def c_ref35_Outside : CT := ⟨callOf (cl_ref35_Outside ), callOfE ce_ref35_Outside, gl⟩
@[simp] theorem c_ref35_Outside_p (f : FuncId) (ds : List D) : c_ref35_Outside.p f ds = callOf (cl_ref35_Outside ) f ds := Eq.trans rfl rfl
@[simp] theorem c_ref35_Outside_e (f : FuncId) (hs : List (Nat × O)) (ds : List D) : c_ref35_Outside.e f hs ds = callOfE ce_ref35_Outside f hs ds := Eq.trans rfl rfl
@[simp] theorem c_ref35_Outside_g (g : Nat) : c_ref35_Outside.g g = gl g := Eq.trans rfl rfl
noncomputable def L_ref35_Outside (i n : Nat) (s : St) : Option (E × St) := atN Tryz.prog c_ref35_Outside an_ref35_Outside 2 (bodyOf Tryz.f21) i n s
noncomputable def H_ref35_Outside (n i : Nat) (s : St) : Option (E × St) := atH Tryz.prog c_ref35_Outside an_ref35_Outside 2 (bodyOf Tryz.f21) n i s
@[simp] theorem H_ref35_Outside_eq (n i : Nat) (s : St) : H_ref35_Outside n i s = L_ref35_Outside i n (headOf (an_ref35_Outside.loops.lookup i) s) := rfl
noncomputable def R_ref35_Outside (i : Nat) (s : St) : Option (E × St) := stepL Tryz.prog c_ref35_Outside an_ref35_Outside 2 (bodyOf Tryz.f21) i s
theorem lok_ref35_Outside : okLoops (bodyOf Tryz.f21) = true := by kernel_rfl
noncomputable def F_ref35_Outside (ds : List D) : Option D := runF Tryz.prog c_ref35_Outside an_ref35_Outside 2 (bodyOf Tryz.f21) [.cell 0 39] ds
theorem F_ref35_Outside_eq (ds : List D) : F_ref35_Outside ds = runG Tryz.prog c_ref35_Outside (H_ref35_Outside bigL) an_ref35_Outside 2 (bodyOf Tryz.f21) [.cell 0 39] ds := runG_eq lok_ref35_Outside _ ds
theorem C_ref35_Outside (ds : List D) (r : D) (h : F_ref35_Outside ds = some r) : Contract Tryz.prog gl 21 ds r := contract_of mix Tryz.func21 rfl (by kernel_rfl) (by kernel_rfl) (by decide) (call := c_ref35_Outside) ⟨callOf_ok cl_ref35_Outside trivial, callOfE_ok ce_ref35_Outside trivial⟩ h
-- sawmill/sawmillref38.New: loops [12]; state: params 0..2, then [3, 4, 6, 7, 8, 9, 10, 11]
attribute [simp] Tryz.f8
noncomputable def an_ref38_New : Ann := ⟨[2, 3, 4, 6, 7, 8, 9, 10, 11], [15, 22, 27, 31, 36, 52, 61], [66], [(12, [2, 3, 4, 6, 10])], [(0, [2, 3, 4, 6]), (1, [2, 3, 4, 6, 10])], some [6, 7], [(19, 6)], [], []⟩
@[simp] theorem an_ref38_New_draws : an_ref38_New.draws = [(19, 6)] := rfl
@[simp] theorem an_ref38_New_exits : an_ref38_New.exits = [(0, [2, 3, 4, 6]), (1, [2, 3, 4, 6, 10])] := rfl
@[simp] theorem an_ref38_New_rets : an_ref38_New.rets = some [6, 7] := rfl
@[simp] theorem an_ref38_New_keep : an_ref38_New.keep = [2, 3, 4, 6, 7, 8, 9, 10, 11] := rfl
@[simp] theorem an_ref38_New_cond : an_ref38_New.cond = [15, 22, 27, 31, 36, 52, 61] := rfl
@[simp] theorem an_ref38_New_rows : an_ref38_New.rows = [66] := rfl
@[simp] theorem an_ref38_New_loops : an_ref38_New.loops = [(12, [2, 3, 4, 6, 10])] := rfl
@[simp] theorem an_ref38_New_ecalls : an_ref38_New.ecalls = [] := rfl
@[simp] theorem an_ref38_New_crows : an_ref38_New.crows = [] := rfl
@[simp] noncomputable def cl_ref38_New : List (Nat × (List D → Option D)) := [(18, F_ref37_Check), (19, F_ref34_Check), (20, F_ref36_Check), (21, F_ref35_Outside)]
@[simp] noncomputable def ce_ref38_New : List (Nat × (List (Nat × O) → List D → Option (D × List (Nat × O)))) := []
noncomputable def c_ref38_New : CT := ⟨callOf (cl_ref38_New ), callOfE ce_ref38_New, gl⟩
@[simp] theorem c_ref38_New_p (f : FuncId) (ds : List D) : c_ref38_New.p f ds = callOf (cl_ref38_New ) f ds := Eq.trans rfl rfl
@[simp] theorem c_ref38_New_e (f : FuncId) (hs : List (Nat × O)) (ds : List D) : c_ref38_New.e f hs ds = callOfE ce_ref38_New f hs ds := Eq.trans rfl rfl
@[simp] theorem c_ref38_New_g (g : Nat) : c_ref38_New.g g = gl g := Eq.trans rfl rfl
noncomputable def L_ref38_New (i n : Nat) (s : St) : Option (E × St) := atN Tryz.prog c_ref38_New an_ref38_New 71 (bodyOf Tryz.f8) i n s
noncomputable def H_ref38_New (n i : Nat) (s : St) : Option (E × St) := atH Tryz.prog c_ref38_New an_ref38_New 71 (bodyOf Tryz.f8) n i s
@[simp] theorem H_ref38_New_eq (n i : Nat) (s : St) : H_ref38_New n i s = L_ref38_New i n (headOf (an_ref38_New.loops.lookup i) s) := rfl
noncomputable def R_ref38_New (i : Nat) (s : St) : Option (E × St) := stepL Tryz.prog c_ref38_New an_ref38_New 71 (bodyOf Tryz.f8) i s
theorem lok_ref38_New : okLoops (bodyOf Tryz.f8) = true := by kernel_rfl
theorem L_ref38_New_zero (i : Nat) (s : St) : L_ref38_New i 0 s = none := rfl
theorem L_ref38_New_succ (i n : Nat) (s : St) : L_ref38_New i (n + 1) s = andThen (R_ref38_New i s) (H_ref38_New n i) := atN_succ lok_ref38_New i n s
theorem R_ref38_New_eq (i : Nat) (s : St) : R_ref38_New i s = runS Tryz.prog c_ref38_New (H_ref38_New bigL) an_ref38_New 71 (loopAt (bodyOf Tryz.f8) i) s := rfl
noncomputable def F_ref38_New (ds : List D) : Option D := runF Tryz.prog c_ref38_New an_ref38_New 71 (bodyOf Tryz.f8) [.cell 6 41, .tmp 7] ds
theorem F_ref38_New_eq (ds : List D) : F_ref38_New ds = runG Tryz.prog c_ref38_New (H_ref38_New bigL) an_ref38_New 71 (bodyOf Tryz.f8) [.cell 6 41, .tmp 7] ds := runG_eq lok_ref38_New _ ds
theorem C_ref38_New (ds : List D) (r : D) (h : F_ref38_New ds = some r) : Contract Tryz.prog gl 8 ds r := contract_of mix Tryz.func8 rfl (by kernel_rfl) (by kernel_rfl) (by decide) (call := c_ref38_New) ⟨callOf_ok cl_ref38_New ⟨C_ref37_Check, C_ref34_Check, C_ref36_Check, C_ref35_Outside, trivial⟩, callOfE_ok ce_ref38_New trivial⟩ h
-- sawmill/sawmillref38.Done: loops []; state: params 0..0, then [1, 2]
attribute [simp] Tryz.f22
noncomputable def an_ref38_Done : Ann := ⟨[1, 2], [], [], [], [], some [2], [], [], []⟩
@[simp] theorem an_ref38_Done_draws : an_ref38_Done.draws = [] := rfl
@[simp] theorem an_ref38_Done_exits : an_ref38_Done.exits = [] := rfl
@[simp] theorem an_ref38_Done_rets : an_ref38_Done.rets = some [2] := rfl
@[simp] theorem an_ref38_Done_keep : an_ref38_Done.keep = [1, 2] := rfl
@[simp] theorem an_ref38_Done_cond : an_ref38_Done.cond = [] := rfl
@[simp] theorem an_ref38_Done_rows : an_ref38_Done.rows = [] := rfl
@[simp] theorem an_ref38_Done_loops : an_ref38_Done.loops = [] := rfl
@[simp] theorem an_ref38_Done_ecalls : an_ref38_Done.ecalls = [] := rfl
@[simp] theorem an_ref38_Done_crows : an_ref38_Done.crows = [] := rfl
@[simp] noncomputable def cl_ref38_Done : List (Nat × (List D → Option D)) := []
@[simp] noncomputable def ce_ref38_Done : List (Nat × (List (Nat × O) → List D → Option (D × List (Nat × O)))) := []
noncomputable def c_ref38_Done : CT := ⟨callOf (cl_ref38_Done ), callOfE ce_ref38_Done, gl⟩
@[simp] theorem c_ref38_Done_p (f : FuncId) (ds : List D) : c_ref38_Done.p f ds = callOf (cl_ref38_Done ) f ds := Eq.trans rfl rfl
@[simp] theorem c_ref38_Done_e (f : FuncId) (hs : List (Nat × O)) (ds : List D) : c_ref38_Done.e f hs ds = callOfE ce_ref38_Done f hs ds := Eq.trans rfl rfl
@[simp] theorem c_ref38_Done_g (g : Nat) : c_ref38_Done.g g = gl g := Eq.trans rfl rfl
noncomputable def L_ref38_Done (i n : Nat) (s : St) : Option (E × St) := atN Tryz.prog c_ref38_Done an_ref38_Done 10 (bodyOf Tryz.f22) i n s
noncomputable def H_ref38_Done (n i : Nat) (s : St) : Option (E × St) := atH Tryz.prog c_ref38_Done an_ref38_Done 10 (bodyOf Tryz.f22) n i s
@[simp] theorem H_ref38_Done_eq (n i : Nat) (s : St) : H_ref38_Done n i s = L_ref38_Done i n (headOf (an_ref38_Done.loops.lookup i) s) := rfl
noncomputable def R_ref38_Done (i : Nat) (s : St) : Option (E × St) := stepL Tryz.prog c_ref38_Done an_ref38_Done 10 (bodyOf Tryz.f22) i s
theorem lok_ref38_Done : okLoops (bodyOf Tryz.f22) = true := by kernel_rfl
noncomputable def F_ref38_Done (ds : List D) : Option D := runF Tryz.prog c_ref38_Done an_ref38_Done 10 (bodyOf Tryz.f22) [.tmp 2] ds
theorem F_ref38_Done_eq (ds : List D) : F_ref38_Done ds = runG Tryz.prog c_ref38_Done (H_ref38_Done bigL) an_ref38_Done 10 (bodyOf Tryz.f22) [.tmp 2] ds := runG_eq lok_ref38_Done _ ds
theorem C_ref38_Done (ds : List D) (r : D) (h : F_ref38_Done ds = some r) : Contract Tryz.prog gl 22 ds r := contract_of mix Tryz.func22 rfl (by kernel_rfl) (by kernel_rfl) (by decide) (call := c_ref38_Done) ⟨callOf_ok cl_ref38_Done trivial, callOfE_ok ce_ref38_Done trivial⟩ h
-- sawmill/sawmillref37.Target: loops []; state: params 0..2, then [3, 5, 6]
attribute [simp] Tryz.f24
noncomputable def an_ref37_Target : Ann := ⟨[1, 3, 5, 6], [15], [], [], [], some [6], [(3, 18)], [], []⟩
@[simp] theorem an_ref37_Target_draws : an_ref37_Target.draws = [(3, 18)] := rfl
@[simp] theorem an_ref37_Target_exits : an_ref37_Target.exits = [] := rfl
@[simp] theorem an_ref37_Target_rets : an_ref37_Target.rets = some [6] := rfl
@[simp] theorem an_ref37_Target_keep : an_ref37_Target.keep = [1, 3, 5, 6] := rfl
@[simp] theorem an_ref37_Target_cond : an_ref37_Target.cond = [15] := rfl
@[simp] theorem an_ref37_Target_rows : an_ref37_Target.rows = [] := rfl
@[simp] theorem an_ref37_Target_loops : an_ref37_Target.loops = [] := rfl
@[simp] theorem an_ref37_Target_ecalls : an_ref37_Target.ecalls = [] := rfl
@[simp] theorem an_ref37_Target_crows : an_ref37_Target.crows = [] := rfl
@[simp] noncomputable def cl_ref37_Target : List (Nat × (List D → Option D)) := []
@[simp] noncomputable def ce_ref37_Target : List (Nat × (List (Nat × O) → List D → Option (D × List (Nat × O)))) := []
noncomputable def c_ref37_Target : CT := ⟨callOf (cl_ref37_Target ), callOfE ce_ref37_Target, gl⟩
@[simp] theorem c_ref37_Target_p (f : FuncId) (ds : List D) : c_ref37_Target.p f ds = callOf (cl_ref37_Target ) f ds := Eq.trans rfl rfl
@[simp] theorem c_ref37_Target_e (f : FuncId) (hs : List (Nat × O)) (ds : List D) : c_ref37_Target.e f hs ds = callOfE ce_ref37_Target f hs ds := Eq.trans rfl rfl
@[simp] theorem c_ref37_Target_g (g : Nat) : c_ref37_Target.g g = gl g := Eq.trans rfl rfl
noncomputable def L_ref37_Target (i n : Nat) (s : St) : Option (E × St) := atN Tryz.prog c_ref37_Target an_ref37_Target 36 (bodyOf Tryz.f24) i n s
noncomputable def H_ref37_Target (n i : Nat) (s : St) : Option (E × St) := atH Tryz.prog c_ref37_Target an_ref37_Target 36 (bodyOf Tryz.f24) n i s
@[simp] theorem H_ref37_Target_eq (n i : Nat) (s : St) : H_ref37_Target n i s = L_ref37_Target i n (headOf (an_ref37_Target.loops.lookup i) s) := rfl
noncomputable def R_ref37_Target (i : Nat) (s : St) : Option (E × St) := stepL Tryz.prog c_ref37_Target an_ref37_Target 36 (bodyOf Tryz.f24) i s
theorem lok_ref37_Target : okLoops (bodyOf Tryz.f24) = true := by kernel_rfl
noncomputable def F_ref37_Target (ds : List D) : Option D := runF Tryz.prog c_ref37_Target an_ref37_Target 36 (bodyOf Tryz.f24) [.cell 6 39] ds
theorem F_ref37_Target_eq (ds : List D) : F_ref37_Target ds = runG Tryz.prog c_ref37_Target (H_ref37_Target bigL) an_ref37_Target 36 (bodyOf Tryz.f24) [.cell 6 39] ds := runG_eq lok_ref37_Target _ ds
theorem C_ref37_Target (ds : List D) (r : D) (h : F_ref37_Target ds = some r) : Contract Tryz.prog gl 24 ds r := contract_of mix Tryz.func24 rfl (by kernel_rfl) (by kernel_rfl) (by decide) (call := c_ref37_Target) ⟨callOf_ok cl_ref37_Target trivial, callOfE_ok ce_ref37_Target trivial⟩ h
-- sawmill/sawmillref35.Clamped: loops []; state: params 0..0, then [1, 2]
attribute [simp] Tryz.f48
noncomputable def an_ref35_Clamped : Ann := ⟨[1, 2], [], [], [], [], some [2], [], [], []⟩
@[simp] theorem an_ref35_Clamped_draws : an_ref35_Clamped.draws = [] := rfl
@[simp] theorem an_ref35_Clamped_exits : an_ref35_Clamped.exits = [] := rfl
@[simp] theorem an_ref35_Clamped_rets : an_ref35_Clamped.rets = some [2] := rfl
@[simp] theorem an_ref35_Clamped_keep : an_ref35_Clamped.keep = [1, 2] := rfl
@[simp] theorem an_ref35_Clamped_cond : an_ref35_Clamped.cond = [] := rfl
@[simp] theorem an_ref35_Clamped_rows : an_ref35_Clamped.rows = [] := rfl
@[simp] theorem an_ref35_Clamped_loops : an_ref35_Clamped.loops = [] := rfl
@[simp] theorem an_ref35_Clamped_ecalls : an_ref35_Clamped.ecalls = [] := rfl
@[simp] theorem an_ref35_Clamped_crows : an_ref35_Clamped.crows = [] := rfl
@[simp] noncomputable def cl_ref35_Clamped : List (Nat × (List D → Option D)) := []
@[simp] noncomputable def ce_ref35_Clamped : List (Nat × (List (Nat × O) → List D → Option (D × List (Nat × O)))) := []
noncomputable def c_ref35_Clamped : CT := ⟨callOf (cl_ref35_Clamped ), callOfE ce_ref35_Clamped, gl⟩
@[simp] theorem c_ref35_Clamped_p (f : FuncId) (ds : List D) : c_ref35_Clamped.p f ds = callOf (cl_ref35_Clamped ) f ds := Eq.trans rfl rfl
@[simp] theorem c_ref35_Clamped_e (f : FuncId) (hs : List (Nat × O)) (ds : List D) : c_ref35_Clamped.e f hs ds = callOfE ce_ref35_Clamped f hs ds := Eq.trans rfl rfl
@[simp] theorem c_ref35_Clamped_g (g : Nat) : c_ref35_Clamped.g g = gl g := Eq.trans rfl rfl
noncomputable def L_ref35_Clamped (i n : Nat) (s : St) : Option (E × St) := atN Tryz.prog c_ref35_Clamped an_ref35_Clamped 12 (bodyOf Tryz.f48) i n s
noncomputable def H_ref35_Clamped (n i : Nat) (s : St) : Option (E × St) := atH Tryz.prog c_ref35_Clamped an_ref35_Clamped 12 (bodyOf Tryz.f48) n i s
@[simp] theorem H_ref35_Clamped_eq (n i : Nat) (s : St) : H_ref35_Clamped n i s = L_ref35_Clamped i n (headOf (an_ref35_Clamped.loops.lookup i) s) := rfl
noncomputable def R_ref35_Clamped (i : Nat) (s : St) : Option (E × St) := stepL Tryz.prog c_ref35_Clamped an_ref35_Clamped 12 (bodyOf Tryz.f48) i s
theorem lok_ref35_Clamped : okLoops (bodyOf Tryz.f48) = true := by kernel_rfl
noncomputable def F_ref35_Clamped (ds : List D) : Option D := runF Tryz.prog c_ref35_Clamped an_ref35_Clamped 12 (bodyOf Tryz.f48) [.cell 2 39] ds
theorem F_ref35_Clamped_eq (ds : List D) : F_ref35_Clamped ds = runG Tryz.prog c_ref35_Clamped (H_ref35_Clamped bigL) an_ref35_Clamped 12 (bodyOf Tryz.f48) [.cell 2 39] ds := runG_eq lok_ref35_Clamped _ ds
theorem C_ref35_Clamped (ds : List D) (r : D) (h : F_ref35_Clamped ds = some r) : Contract Tryz.prog gl 48 ds r := contract_of mix Tryz.func48 rfl (by kernel_rfl) (by kernel_rfl) (by decide) (call := c_ref35_Clamped) ⟨callOf_ok cl_ref35_Clamped trivial, callOfE_ok ce_ref35_Clamped trivial⟩ h
-- sawmill/sawmillref35.has: loops [2]; state: params 0..1, then [4, 5]
attribute [simp] Tryz.f49
noncomputable def an_ref35_has : Ann := ⟨[0, 4, 5], [9, 17], [], [(2, [0, 1, 5])], [(0, []), (1, [0, 1, 5])], some [4], [], [], []⟩
@[simp] theorem an_ref35_has_draws : an_ref35_has.draws = [] := rfl
@[simp] theorem an_ref35_has_exits : an_ref35_has.exits = [(0, []), (1, [0, 1, 5])] := rfl
@[simp] theorem an_ref35_has_rets : an_ref35_has.rets = some [4] := rfl
@[simp] theorem an_ref35_has_keep : an_ref35_has.keep = [0, 4, 5] := rfl
@[simp] theorem an_ref35_has_cond : an_ref35_has.cond = [9, 17] := rfl
@[simp] theorem an_ref35_has_rows : an_ref35_has.rows = [] := rfl
@[simp] theorem an_ref35_has_loops : an_ref35_has.loops = [(2, [0, 1, 5])] := rfl
@[simp] theorem an_ref35_has_ecalls : an_ref35_has.ecalls = [] := rfl
@[simp] theorem an_ref35_has_crows : an_ref35_has.crows = [] := rfl
@[simp] noncomputable def cl_ref35_has : List (Nat × (List D → Option D)) := []
@[simp] noncomputable def ce_ref35_has : List (Nat × (List (Nat × O) → List D → Option (D × List (Nat × O)))) := []
noncomputable def c_ref35_has : CT := ⟨callOf (cl_ref35_has ), callOfE ce_ref35_has, gl⟩
@[simp] theorem c_ref35_has_p (f : FuncId) (ds : List D) : c_ref35_has.p f ds = callOf (cl_ref35_has ) f ds := Eq.trans rfl rfl
@[simp] theorem c_ref35_has_e (f : FuncId) (hs : List (Nat × O)) (ds : List D) : c_ref35_has.e f hs ds = callOfE ce_ref35_has f hs ds := Eq.trans rfl rfl
@[simp] theorem c_ref35_has_g (g : Nat) : c_ref35_has.g g = gl g := Eq.trans rfl rfl
noncomputable def L_ref35_has (i n : Nat) (s : St) : Option (E × St) := atN Tryz.prog c_ref35_has an_ref35_has 18 (bodyOf Tryz.f49) i n s
noncomputable def H_ref35_has (n i : Nat) (s : St) : Option (E × St) := atH Tryz.prog c_ref35_has an_ref35_has 18 (bodyOf Tryz.f49) n i s
@[simp] theorem H_ref35_has_eq (n i : Nat) (s : St) : H_ref35_has n i s = L_ref35_has i n (headOf (an_ref35_has.loops.lookup i) s) := rfl
noncomputable def R_ref35_has (i : Nat) (s : St) : Option (E × St) := stepL Tryz.prog c_ref35_has an_ref35_has 18 (bodyOf Tryz.f49) i s
theorem lok_ref35_has : okLoops (bodyOf Tryz.f49) = true := by kernel_rfl
theorem L_ref35_has_zero (i : Nat) (s : St) : L_ref35_has i 0 s = none := rfl
theorem L_ref35_has_succ (i n : Nat) (s : St) : L_ref35_has i (n + 1) s = andThen (R_ref35_has i s) (H_ref35_has n i) := atN_succ lok_ref35_has i n s
theorem R_ref35_has_eq (i : Nat) (s : St) : R_ref35_has i s = runS Tryz.prog c_ref35_has (H_ref35_has bigL) an_ref35_has 18 (loopAt (bodyOf Tryz.f49) i) s := rfl
noncomputable def F_ref35_has (ds : List D) : Option D := runF Tryz.prog c_ref35_has an_ref35_has 18 (bodyOf Tryz.f49) [.tmp 4] ds
theorem F_ref35_has_eq (ds : List D) : F_ref35_has ds = runG Tryz.prog c_ref35_has (H_ref35_has bigL) an_ref35_has 18 (bodyOf Tryz.f49) [.tmp 4] ds := runG_eq lok_ref35_has _ ds
theorem C_ref35_has (ds : List D) (r : D) (h : F_ref35_has ds = some r) : Contract Tryz.prog gl 49 ds r := contract_of mix Tryz.func49 rfl (by kernel_rfl) (by kernel_rfl) (by decide) (call := c_ref35_has) ⟨callOf_ok cl_ref35_has trivial, callOfE_ok ce_ref35_has trivial⟩ h
-- sawmill/sawmillref35.toward: loops []; state: params 0..2, then [6]
attribute [simp] Tryz.f50
noncomputable def an_ref35_toward : Ann := ⟨[6], [], [], [], [], some [6], [], [], []⟩
@[simp] theorem an_ref35_toward_draws : an_ref35_toward.draws = [] := rfl
@[simp] theorem an_ref35_toward_exits : an_ref35_toward.exits = [] := rfl
@[simp] theorem an_ref35_toward_rets : an_ref35_toward.rets = some [6] := rfl
@[simp] theorem an_ref35_toward_keep : an_ref35_toward.keep = [6] := rfl
@[simp] theorem an_ref35_toward_cond : an_ref35_toward.cond = [] := rfl
@[simp] theorem an_ref35_toward_rows : an_ref35_toward.rows = [] := rfl
@[simp] theorem an_ref35_toward_loops : an_ref35_toward.loops = [] := rfl
@[simp] theorem an_ref35_toward_ecalls : an_ref35_toward.ecalls = [] := rfl
@[simp] theorem an_ref35_toward_crows : an_ref35_toward.crows = [] := rfl
@[simp] noncomputable def cl_ref35_toward : List (Nat × (List D → Option D)) := []
@[simp] noncomputable def ce_ref35_toward : List (Nat × (List (Nat × O) → List D → Option (D × List (Nat × O)))) := []
noncomputable def c_ref35_toward : CT := ⟨callOf (cl_ref35_toward ), callOfE ce_ref35_toward, gl⟩
@[simp] theorem c_ref35_toward_p (f : FuncId) (ds : List D) : c_ref35_toward.p f ds = callOf (cl_ref35_toward ) f ds := Eq.trans rfl rfl
@[simp] theorem c_ref35_toward_e (f : FuncId) (hs : List (Nat × O)) (ds : List D) : c_ref35_toward.e f hs ds = callOfE ce_ref35_toward f hs ds := Eq.trans rfl rfl
@[simp] theorem c_ref35_toward_g (g : Nat) : c_ref35_toward.g g = gl g := Eq.trans rfl rfl
noncomputable def L_ref35_toward (i n : Nat) (s : St) : Option (E × St) := atN Tryz.prog c_ref35_toward an_ref35_toward 16 (bodyOf Tryz.f50) i n s
noncomputable def H_ref35_toward (n i : Nat) (s : St) : Option (E × St) := atH Tryz.prog c_ref35_toward an_ref35_toward 16 (bodyOf Tryz.f50) n i s
@[simp] theorem H_ref35_toward_eq (n i : Nat) (s : St) : H_ref35_toward n i s = L_ref35_toward i n (headOf (an_ref35_toward.loops.lookup i) s) := rfl
noncomputable def R_ref35_toward (i : Nat) (s : St) : Option (E × St) := stepL Tryz.prog c_ref35_toward an_ref35_toward 16 (bodyOf Tryz.f50) i s
theorem lok_ref35_toward : okLoops (bodyOf Tryz.f50) = true := by kernel_rfl
noncomputable def F_ref35_toward (ds : List D) : Option D := runF Tryz.prog c_ref35_toward an_ref35_toward 16 (bodyOf Tryz.f50) [.tmp 6] ds
theorem F_ref35_toward_eq (ds : List D) : F_ref35_toward ds = runG Tryz.prog c_ref35_toward (H_ref35_toward bigL) an_ref35_toward 16 (bodyOf Tryz.f50) [.tmp 6] ds := runG_eq lok_ref35_toward _ ds
theorem C_ref35_toward (ds : List D) (r : D) (h : F_ref35_toward ds = some r) : Contract Tryz.prog gl 50 ds r := contract_of mix Tryz.func50 rfl (by kernel_rfl) (by kernel_rfl) (by decide) (call := c_ref35_toward) ⟨callOf_ok cl_ref35_toward trivial, callOfE_ok ce_ref35_toward trivial⟩ h
-- sawmill/sawmillref35.Next: loops []; state: params 0..3, then [4, 5, 8, 9]
attribute [simp] Tryz.f23
noncomputable def an_ref35_Next : Ann := ⟨[3, 4, 5, 8, 9], [18, 23], [], [], [], some [8], [(1, 3), (7, 11)], [], []⟩
@[simp] theorem an_ref35_Next_draws : an_ref35_Next.draws = [(1, 3), (7, 11)] := rfl
@[simp] theorem an_ref35_Next_exits : an_ref35_Next.exits = [] := rfl
@[simp] theorem an_ref35_Next_rets : an_ref35_Next.rets = some [8] := rfl
@[simp] theorem an_ref35_Next_keep : an_ref35_Next.keep = [3, 4, 5, 8, 9] := rfl
@[simp] theorem an_ref35_Next_cond : an_ref35_Next.cond = [18, 23] := rfl
@[simp] theorem an_ref35_Next_rows : an_ref35_Next.rows = [] := rfl
@[simp] theorem an_ref35_Next_loops : an_ref35_Next.loops = [] := rfl
@[simp] theorem an_ref35_Next_ecalls : an_ref35_Next.ecalls = [] := rfl
@[simp] theorem an_ref35_Next_crows : an_ref35_Next.crows = [] := rfl
@[simp] noncomputable def cl_ref35_Next : List (Nat × (List D → Option D)) := [(21, F_ref35_Outside), (48, F_ref35_Clamped), (49, F_ref35_has), (50, F_ref35_toward)]
@[simp] noncomputable def ce_ref35_Next : List (Nat × (List (Nat × O) → List D → Option (D × List (Nat × O)))) := []
noncomputable def c_ref35_Next : CT := ⟨callOf (cl_ref35_Next ), callOfE ce_ref35_Next, gl⟩
@[simp] theorem c_ref35_Next_p (f : FuncId) (ds : List D) : c_ref35_Next.p f ds = callOf (cl_ref35_Next ) f ds := Eq.trans rfl rfl
@[simp] theorem c_ref35_Next_e (f : FuncId) (hs : List (Nat × O)) (ds : List D) : c_ref35_Next.e f hs ds = callOfE ce_ref35_Next f hs ds := Eq.trans rfl rfl
@[simp] theorem c_ref35_Next_g (g : Nat) : c_ref35_Next.g g = gl g := Eq.trans rfl rfl
noncomputable def L_ref35_Next (i n : Nat) (s : St) : Option (E × St) := atN Tryz.prog c_ref35_Next an_ref35_Next 40 (bodyOf Tryz.f23) i n s
noncomputable def H_ref35_Next (n i : Nat) (s : St) : Option (E × St) := atH Tryz.prog c_ref35_Next an_ref35_Next 40 (bodyOf Tryz.f23) n i s
@[simp] theorem H_ref35_Next_eq (n i : Nat) (s : St) : H_ref35_Next n i s = L_ref35_Next i n (headOf (an_ref35_Next.loops.lookup i) s) := rfl
noncomputable def R_ref35_Next (i : Nat) (s : St) : Option (E × St) := stepL Tryz.prog c_ref35_Next an_ref35_Next 40 (bodyOf Tryz.f23) i s
theorem lok_ref35_Next : okLoops (bodyOf Tryz.f23) = true := by kernel_rfl
noncomputable def F_ref35_Next (ds : List D) : Option D := runF Tryz.prog c_ref35_Next an_ref35_Next 40 (bodyOf Tryz.f23) [.cell 8 39] ds
theorem F_ref35_Next_eq (ds : List D) : F_ref35_Next ds = runG Tryz.prog c_ref35_Next (H_ref35_Next bigL) an_ref35_Next 40 (bodyOf Tryz.f23) [.cell 8 39] ds := runG_eq lok_ref35_Next _ ds
theorem C_ref35_Next (ds : List D) (r : D) (h : F_ref35_Next ds = some r) : Contract Tryz.prog gl 23 ds r := contract_of mix Tryz.func23 rfl (by kernel_rfl) (by kernel_rfl) (by decide) (call := c_ref35_Next) ⟨callOf_ok cl_ref35_Next ⟨C_ref35_Outside, C_ref35_Clamped, C_ref35_has, C_ref35_toward, trivial⟩, callOfE_ok ce_ref35_Next trivial⟩ h
-- sawmill/sawmillref38.has: loops [2]; state: params 0..1, then [4, 5]
attribute [simp] Tryz.f25
noncomputable def an_ref38_has : Ann := ⟨[0, 4, 5], [9, 17], [], [(2, [0, 1, 5])], [(0, []), (1, [0, 1, 5])], some [4], [], [], []⟩
@[simp] theorem an_ref38_has_draws : an_ref38_has.draws = [] := rfl
@[simp] theorem an_ref38_has_exits : an_ref38_has.exits = [(0, []), (1, [0, 1, 5])] := rfl
@[simp] theorem an_ref38_has_rets : an_ref38_has.rets = some [4] := rfl
@[simp] theorem an_ref38_has_keep : an_ref38_has.keep = [0, 4, 5] := rfl
@[simp] theorem an_ref38_has_cond : an_ref38_has.cond = [9, 17] := rfl
@[simp] theorem an_ref38_has_rows : an_ref38_has.rows = [] := rfl
@[simp] theorem an_ref38_has_loops : an_ref38_has.loops = [(2, [0, 1, 5])] := rfl
@[simp] theorem an_ref38_has_ecalls : an_ref38_has.ecalls = [] := rfl
@[simp] theorem an_ref38_has_crows : an_ref38_has.crows = [] := rfl
@[simp] noncomputable def cl_ref38_has : List (Nat × (List D → Option D)) := []
@[simp] noncomputable def ce_ref38_has : List (Nat × (List (Nat × O) → List D → Option (D × List (Nat × O)))) := []
noncomputable def c_ref38_has : CT := ⟨callOf (cl_ref38_has ), callOfE ce_ref38_has, gl⟩
@[simp] theorem c_ref38_has_p (f : FuncId) (ds : List D) : c_ref38_has.p f ds = callOf (cl_ref38_has ) f ds := Eq.trans rfl rfl
@[simp] theorem c_ref38_has_e (f : FuncId) (hs : List (Nat × O)) (ds : List D) : c_ref38_has.e f hs ds = callOfE ce_ref38_has f hs ds := Eq.trans rfl rfl
@[simp] theorem c_ref38_has_g (g : Nat) : c_ref38_has.g g = gl g := Eq.trans rfl rfl
noncomputable def L_ref38_has (i n : Nat) (s : St) : Option (E × St) := atN Tryz.prog c_ref38_has an_ref38_has 18 (bodyOf Tryz.f25) i n s
noncomputable def H_ref38_has (n i : Nat) (s : St) : Option (E × St) := atH Tryz.prog c_ref38_has an_ref38_has 18 (bodyOf Tryz.f25) n i s
@[simp] theorem H_ref38_has_eq (n i : Nat) (s : St) : H_ref38_has n i s = L_ref38_has i n (headOf (an_ref38_has.loops.lookup i) s) := rfl
noncomputable def R_ref38_has (i : Nat) (s : St) : Option (E × St) := stepL Tryz.prog c_ref38_has an_ref38_has 18 (bodyOf Tryz.f25) i s
theorem lok_ref38_has : okLoops (bodyOf Tryz.f25) = true := by kernel_rfl
theorem L_ref38_has_zero (i : Nat) (s : St) : L_ref38_has i 0 s = none := rfl
theorem L_ref38_has_succ (i n : Nat) (s : St) : L_ref38_has i (n + 1) s = andThen (R_ref38_has i s) (H_ref38_has n i) := atN_succ lok_ref38_has i n s
theorem R_ref38_has_eq (i : Nat) (s : St) : R_ref38_has i s = runS Tryz.prog c_ref38_has (H_ref38_has bigL) an_ref38_has 18 (loopAt (bodyOf Tryz.f25) i) s := rfl
noncomputable def F_ref38_has (ds : List D) : Option D := runF Tryz.prog c_ref38_has an_ref38_has 18 (bodyOf Tryz.f25) [.tmp 4] ds
theorem F_ref38_has_eq (ds : List D) : F_ref38_has ds = runG Tryz.prog c_ref38_has (H_ref38_has bigL) an_ref38_has 18 (bodyOf Tryz.f25) [.tmp 4] ds := runG_eq lok_ref38_has _ ds
theorem C_ref38_has (ds : List D) (r : D) (h : F_ref38_has ds = some r) : Contract Tryz.prog gl 25 ds r := contract_of mix Tryz.func25 rfl (by kernel_rfl) (by kernel_rfl) (by decide) (call := c_ref38_has) ⟨callOf_ok cl_ref38_has trivial, callOfE_ok ce_ref38_has trivial⟩ h
-- sawmill/sawmillref35.Check: loops []; state: params 0..0, then [1, 2]
attribute [simp] Tryz.f75
noncomputable def an_ref35_Check : Ann := ⟨[1, 2], [20], [], [], [], some [2], [], [], []⟩
@[simp] theorem an_ref35_Check_draws : an_ref35_Check.draws = [] := rfl
@[simp] theorem an_ref35_Check_exits : an_ref35_Check.exits = [] := rfl
@[simp] theorem an_ref35_Check_rets : an_ref35_Check.rets = some [2] := rfl
@[simp] theorem an_ref35_Check_keep : an_ref35_Check.keep = [1, 2] := rfl
@[simp] theorem an_ref35_Check_cond : an_ref35_Check.cond = [20] := rfl
@[simp] theorem an_ref35_Check_rows : an_ref35_Check.rows = [] := rfl
@[simp] theorem an_ref35_Check_loops : an_ref35_Check.loops = [] := rfl
@[simp] theorem an_ref35_Check_ecalls : an_ref35_Check.ecalls = [] := rfl
@[simp] theorem an_ref35_Check_crows : an_ref35_Check.crows = [] := rfl
@[simp] noncomputable def cl_ref35_Check : List (Nat × (List D → Option D)) := []
@[simp] noncomputable def ce_ref35_Check : List (Nat × (List (Nat × O) → List D → Option (D × List (Nat × O)))) := []
noncomputable def c_ref35_Check : CT := ⟨callOf (cl_ref35_Check ), callOfE ce_ref35_Check, gl⟩
@[simp] theorem c_ref35_Check_p (f : FuncId) (ds : List D) : c_ref35_Check.p f ds = callOf (cl_ref35_Check ) f ds := Eq.trans rfl rfl
@[simp] theorem c_ref35_Check_e (f : FuncId) (hs : List (Nat × O)) (ds : List D) : c_ref35_Check.e f hs ds = callOfE ce_ref35_Check f hs ds := Eq.trans rfl rfl
@[simp] theorem c_ref35_Check_g (g : Nat) : c_ref35_Check.g g = gl g := Eq.trans rfl rfl
noncomputable def L_ref35_Check (i n : Nat) (s : St) : Option (E × St) := atN Tryz.prog c_ref35_Check an_ref35_Check 21 (bodyOf Tryz.f75) i n s
noncomputable def H_ref35_Check (n i : Nat) (s : St) : Option (E × St) := atH Tryz.prog c_ref35_Check an_ref35_Check 21 (bodyOf Tryz.f75) n i s
@[simp] theorem H_ref35_Check_eq (n i : Nat) (s : St) : H_ref35_Check n i s = L_ref35_Check i n (headOf (an_ref35_Check.loops.lookup i) s) := rfl
noncomputable def R_ref35_Check (i : Nat) (s : St) : Option (E × St) := stepL Tryz.prog c_ref35_Check an_ref35_Check 21 (bodyOf Tryz.f75) i s
theorem lok_ref35_Check : okLoops (bodyOf Tryz.f75) = true := by kernel_rfl
noncomputable def F_ref35_Check (ds : List D) : Option D := runF Tryz.prog c_ref35_Check an_ref35_Check 21 (bodyOf Tryz.f75) [.tmp 2] ds
theorem F_ref35_Check_eq (ds : List D) : F_ref35_Check ds = runG Tryz.prog c_ref35_Check (H_ref35_Check bigL) an_ref35_Check 21 (bodyOf Tryz.f75) [.tmp 2] ds := runG_eq lok_ref35_Check _ ds
theorem C_ref35_Check (ds : List D) (r : D) (h : F_ref35_Check ds = some r) : Contract Tryz.prog gl 75 ds r := contract_of mix Tryz.func75 rfl (by kernel_rfl) (by kernel_rfl) (by decide) (call := c_ref35_Check) ⟨callOf_ok cl_ref35_Check trivial, callOfE_ok ce_ref35_Check trivial⟩ h
-- sawmill/sawmillref36.speed: loops []; state: params 0..0, then [2]
attribute [simp] Tryz.f76
noncomputable def an_ref36_speed : Ann := ⟨[2], [], [], [], [], some [2], [], [], []⟩
@[simp] theorem an_ref36_speed_draws : an_ref36_speed.draws = [] := rfl
@[simp] theorem an_ref36_speed_exits : an_ref36_speed.exits = [] := rfl
@[simp] theorem an_ref36_speed_rets : an_ref36_speed.rets = some [2] := rfl
@[simp] theorem an_ref36_speed_keep : an_ref36_speed.keep = [2] := rfl
@[simp] theorem an_ref36_speed_cond : an_ref36_speed.cond = [] := rfl
@[simp] theorem an_ref36_speed_rows : an_ref36_speed.rows = [] := rfl
@[simp] theorem an_ref36_speed_loops : an_ref36_speed.loops = [] := rfl
@[simp] theorem an_ref36_speed_ecalls : an_ref36_speed.ecalls = [] := rfl
@[simp] theorem an_ref36_speed_crows : an_ref36_speed.crows = [] := rfl
@[simp] noncomputable def cl_ref36_speed : List (Nat × (List D → Option D)) := []
@[simp] noncomputable def ce_ref36_speed : List (Nat × (List (Nat × O) → List D → Option (D × List (Nat × O)))) := []
noncomputable def c_ref36_speed : CT := ⟨callOf (cl_ref36_speed ), callOfE ce_ref36_speed, gl⟩
@[simp] theorem c_ref36_speed_p (f : FuncId) (ds : List D) : c_ref36_speed.p f ds = callOf (cl_ref36_speed ) f ds := Eq.trans rfl rfl
@[simp] theorem c_ref36_speed_e (f : FuncId) (hs : List (Nat × O)) (ds : List D) : c_ref36_speed.e f hs ds = callOfE ce_ref36_speed f hs ds := Eq.trans rfl rfl
@[simp] theorem c_ref36_speed_g (g : Nat) : c_ref36_speed.g g = gl g := Eq.trans rfl rfl
noncomputable def L_ref36_speed (i n : Nat) (s : St) : Option (E × St) := atN Tryz.prog c_ref36_speed an_ref36_speed 9 (bodyOf Tryz.f76) i n s
noncomputable def H_ref36_speed (n i : Nat) (s : St) : Option (E × St) := atH Tryz.prog c_ref36_speed an_ref36_speed 9 (bodyOf Tryz.f76) n i s
@[simp] theorem H_ref36_speed_eq (n i : Nat) (s : St) : H_ref36_speed n i s = L_ref36_speed i n (headOf (an_ref36_speed.loops.lookup i) s) := rfl
noncomputable def R_ref36_speed (i : Nat) (s : St) : Option (E × St) := stepL Tryz.prog c_ref36_speed an_ref36_speed 9 (bodyOf Tryz.f76) i s
theorem lok_ref36_speed : okLoops (bodyOf Tryz.f76) = true := by kernel_rfl
noncomputable def F_ref36_speed (ds : List D) : Option D := runF Tryz.prog c_ref36_speed an_ref36_speed 9 (bodyOf Tryz.f76) [.tmp 2] ds
theorem F_ref36_speed_eq (ds : List D) : F_ref36_speed ds = runG Tryz.prog c_ref36_speed (H_ref36_speed bigL) an_ref36_speed 9 (bodyOf Tryz.f76) [.tmp 2] ds := runG_eq lok_ref36_speed _ ds
theorem C_ref36_speed (ds : List D) (r : D) (h : F_ref36_speed ds = some r) : Contract Tryz.prog gl 76 ds r := contract_of mix Tryz.func76 rfl (by kernel_rfl) (by kernel_rfl) (by decide) (call := c_ref36_speed) ⟨callOf_ok cl_ref36_speed trivial, callOfE_ok ce_ref36_speed trivial⟩ h
-- sawmill/sawmillref36.Ticks: loops []; state: params 0..3, then [4, 5, 7, 8]
attribute [simp] Tryz.f64
noncomputable def an_ref36_Ticks : Ann := ⟨[4, 5, 7, 8], [], [], [], [], some [8], [], [], []⟩
@[simp] theorem an_ref36_Ticks_draws : an_ref36_Ticks.draws = [] := rfl
@[simp] theorem an_ref36_Ticks_exits : an_ref36_Ticks.exits = [] := rfl
@[simp] theorem an_ref36_Ticks_rets : an_ref36_Ticks.rets = some [8] := rfl
@[simp] theorem an_ref36_Ticks_keep : an_ref36_Ticks.keep = [4, 5, 7, 8] := rfl
@[simp] theorem an_ref36_Ticks_cond : an_ref36_Ticks.cond = [] := rfl
@[simp] theorem an_ref36_Ticks_rows : an_ref36_Ticks.rows = [] := rfl
@[simp] theorem an_ref36_Ticks_loops : an_ref36_Ticks.loops = [] := rfl
@[simp] theorem an_ref36_Ticks_ecalls : an_ref36_Ticks.ecalls = [] := rfl
@[simp] theorem an_ref36_Ticks_crows : an_ref36_Ticks.crows = [] := rfl
@[simp] noncomputable def cl_ref36_Ticks : List (Nat × (List D → Option D)) := [(20, F_ref36_Check), (75, F_ref35_Check), (76, F_ref36_speed)]
@[simp] noncomputable def ce_ref36_Ticks : List (Nat × (List (Nat × O) → List D → Option (D × List (Nat × O)))) := []
noncomputable def c_ref36_Ticks : CT := ⟨callOf (cl_ref36_Ticks ), callOfE ce_ref36_Ticks, gl⟩
@[simp] theorem c_ref36_Ticks_p (f : FuncId) (ds : List D) : c_ref36_Ticks.p f ds = callOf (cl_ref36_Ticks ) f ds := Eq.trans rfl rfl
@[simp] theorem c_ref36_Ticks_e (f : FuncId) (hs : List (Nat × O)) (ds : List D) : c_ref36_Ticks.e f hs ds = callOfE ce_ref36_Ticks f hs ds := Eq.trans rfl rfl
@[simp] theorem c_ref36_Ticks_g (g : Nat) : c_ref36_Ticks.g g = gl g := Eq.trans rfl rfl
noncomputable def L_ref36_Ticks (i n : Nat) (s : St) : Option (E × St) := atN Tryz.prog c_ref36_Ticks an_ref36_Ticks 45 (bodyOf Tryz.f64) i n s
noncomputable def H_ref36_Ticks (n i : Nat) (s : St) : Option (E × St) := atH Tryz.prog c_ref36_Ticks an_ref36_Ticks 45 (bodyOf Tryz.f64) n i s
@[simp] theorem H_ref36_Ticks_eq (n i : Nat) (s : St) : H_ref36_Ticks n i s = L_ref36_Ticks i n (headOf (an_ref36_Ticks.loops.lookup i) s) := rfl
noncomputable def R_ref36_Ticks (i : Nat) (s : St) : Option (E × St) := stepL Tryz.prog c_ref36_Ticks an_ref36_Ticks 45 (bodyOf Tryz.f64) i s
theorem lok_ref36_Ticks : okLoops (bodyOf Tryz.f64) = true := by kernel_rfl
noncomputable def F_ref36_Ticks (ds : List D) : Option D := runF Tryz.prog c_ref36_Ticks an_ref36_Ticks 45 (bodyOf Tryz.f64) [.tmp 8] ds
theorem F_ref36_Ticks_eq (ds : List D) : F_ref36_Ticks ds = runG Tryz.prog c_ref36_Ticks (H_ref36_Ticks bigL) an_ref36_Ticks 45 (bodyOf Tryz.f64) [.tmp 8] ds := runG_eq lok_ref36_Ticks _ ds
theorem C_ref36_Ticks (ds : List D) (r : D) (h : F_ref36_Ticks ds = some r) : Contract Tryz.prog gl 64 ds r := contract_of mix Tryz.func64 rfl (by kernel_rfl) (by kernel_rfl) (by decide) (call := c_ref36_Ticks) ⟨callOf_ok cl_ref36_Ticks ⟨C_ref36_Check, C_ref35_Check, C_ref36_speed, trivial⟩, callOfE_ok ce_ref36_Ticks trivial⟩ h
-- sawmill/sawmillref35.Table: loops []; state: params 0..-1, then [0]
attribute [simp] Tryz.f79
noncomputable def an_ref35_Table : Ann := ⟨[0], [], [], [], [], some [0], [], [], []⟩
@[simp] theorem an_ref35_Table_draws : an_ref35_Table.draws = [] := rfl
@[simp] theorem an_ref35_Table_exits : an_ref35_Table.exits = [] := rfl
@[simp] theorem an_ref35_Table_rets : an_ref35_Table.rets = some [0] := rfl
@[simp] theorem an_ref35_Table_keep : an_ref35_Table.keep = [0] := rfl
@[simp] theorem an_ref35_Table_cond : an_ref35_Table.cond = [] := rfl
@[simp] theorem an_ref35_Table_rows : an_ref35_Table.rows = [] := rfl
@[simp] theorem an_ref35_Table_loops : an_ref35_Table.loops = [] := rfl
@[simp] theorem an_ref35_Table_ecalls : an_ref35_Table.ecalls = [] := rfl
@[simp] theorem an_ref35_Table_crows : an_ref35_Table.crows = [] := rfl
@[simp] noncomputable def cl_ref35_Table : List (Nat × (List D → Option D)) := []
@[simp] noncomputable def ce_ref35_Table : List (Nat × (List (Nat × O) → List D → Option (D × List (Nat × O)))) := []
noncomputable def c_ref35_Table : CT := ⟨callOf (cl_ref35_Table ), callOfE ce_ref35_Table, gl⟩
@[simp] theorem c_ref35_Table_p (f : FuncId) (ds : List D) : c_ref35_Table.p f ds = callOf (cl_ref35_Table ) f ds := Eq.trans rfl rfl
@[simp] theorem c_ref35_Table_e (f : FuncId) (hs : List (Nat × O)) (ds : List D) : c_ref35_Table.e f hs ds = callOfE ce_ref35_Table f hs ds := Eq.trans rfl rfl
@[simp] theorem c_ref35_Table_g (g : Nat) : c_ref35_Table.g g = gl g := Eq.trans rfl rfl
noncomputable def L_ref35_Table (i n : Nat) (s : St) : Option (E × St) := atN Tryz.prog c_ref35_Table an_ref35_Table 11 (bodyOf Tryz.f79) i n s
noncomputable def H_ref35_Table (n i : Nat) (s : St) : Option (E × St) := atH Tryz.prog c_ref35_Table an_ref35_Table 11 (bodyOf Tryz.f79) n i s
@[simp] theorem H_ref35_Table_eq (n i : Nat) (s : St) : H_ref35_Table n i s = L_ref35_Table i n (headOf (an_ref35_Table.loops.lookup i) s) := rfl
noncomputable def R_ref35_Table (i : Nat) (s : St) : Option (E × St) := stepL Tryz.prog c_ref35_Table an_ref35_Table 11 (bodyOf Tryz.f79) i s
theorem lok_ref35_Table : okLoops (bodyOf Tryz.f79) = true := by kernel_rfl
noncomputable def F_ref35_Table (ds : List D) : Option D := runF Tryz.prog c_ref35_Table an_ref35_Table 11 (bodyOf Tryz.f79) [.cell 0 110] ds
theorem F_ref35_Table_eq (ds : List D) : F_ref35_Table ds = runG Tryz.prog c_ref35_Table (H_ref35_Table bigL) an_ref35_Table 11 (bodyOf Tryz.f79) [.cell 0 110] ds := runG_eq lok_ref35_Table _ ds
theorem C_ref35_Table (ds : List D) (r : D) (h : F_ref35_Table ds = some r) : Contract Tryz.prog gl 79 ds r := contract_of mix Tryz.func79 rfl (by kernel_rfl) (by kernel_rfl) (by decide) (call := c_ref35_Table) ⟨callOf_ok cl_ref35_Table trivial, callOfE_ok ce_ref35_Table trivial⟩ h
-- sawmill/sawmillref08.small: loops []; state: params 0..0, then [2]
attribute [simp] Tryz.f94
noncomputable def an_ref08_small : Ann := ⟨[2], [], [], [], [], some [2], [], [], []⟩
@[simp] theorem an_ref08_small_draws : an_ref08_small.draws = [] := rfl
@[simp] theorem an_ref08_small_exits : an_ref08_small.exits = [] := rfl
@[simp] theorem an_ref08_small_rets : an_ref08_small.rets = some [2] := rfl
@[simp] theorem an_ref08_small_keep : an_ref08_small.keep = [2] := rfl
@[simp] theorem an_ref08_small_cond : an_ref08_small.cond = [] := rfl
@[simp] theorem an_ref08_small_rows : an_ref08_small.rows = [] := rfl
@[simp] theorem an_ref08_small_loops : an_ref08_small.loops = [] := rfl
@[simp] theorem an_ref08_small_ecalls : an_ref08_small.ecalls = [] := rfl
@[simp] theorem an_ref08_small_crows : an_ref08_small.crows = [] := rfl
@[simp] noncomputable def cl_ref08_small : List (Nat × (List D → Option D)) := []
@[simp] noncomputable def ce_ref08_small : List (Nat × (List (Nat × O) → List D → Option (D × List (Nat × O)))) := []
noncomputable def c_ref08_small : CT := ⟨callOf (cl_ref08_small ), callOfE ce_ref08_small, gl⟩
@[simp] theorem c_ref08_small_p (f : FuncId) (ds : List D) : c_ref08_small.p f ds = callOf (cl_ref08_small ) f ds := Eq.trans rfl rfl
@[simp] theorem c_ref08_small_e (f : FuncId) (hs : List (Nat × O)) (ds : List D) : c_ref08_small.e f hs ds = callOfE ce_ref08_small f hs ds := Eq.trans rfl rfl
@[simp] theorem c_ref08_small_g (g : Nat) : c_ref08_small.g g = gl g := Eq.trans rfl rfl
noncomputable def L_ref08_small (i n : Nat) (s : St) : Option (E × St) := atN Tryz.prog c_ref08_small an_ref08_small 9 (bodyOf Tryz.f94) i n s
noncomputable def H_ref08_small (n i : Nat) (s : St) : Option (E × St) := atH Tryz.prog c_ref08_small an_ref08_small 9 (bodyOf Tryz.f94) n i s
@[simp] theorem H_ref08_small_eq (n i : Nat) (s : St) : H_ref08_small n i s = L_ref08_small i n (headOf (an_ref08_small.loops.lookup i) s) := rfl
noncomputable def R_ref08_small (i : Nat) (s : St) : Option (E × St) := stepL Tryz.prog c_ref08_small an_ref08_small 9 (bodyOf Tryz.f94) i s
theorem lok_ref08_small : okLoops (bodyOf Tryz.f94) = true := by kernel_rfl
noncomputable def F_ref08_small (ds : List D) : Option D := runF Tryz.prog c_ref08_small an_ref08_small 9 (bodyOf Tryz.f94) [.tmp 2] ds
theorem F_ref08_small_eq (ds : List D) : F_ref08_small ds = runG Tryz.prog c_ref08_small (H_ref08_small bigL) an_ref08_small 9 (bodyOf Tryz.f94) [.tmp 2] ds := runG_eq lok_ref08_small _ ds
theorem C_ref08_small (ds : List D) (r : D) (h : F_ref08_small ds = some r) : Contract Tryz.prog gl 94 ds r := contract_of mix Tryz.func94 rfl (by kernel_rfl) (by kernel_rfl) (by decide) (call := c_ref08_small) ⟨callOf_ok cl_ref08_small trivial, callOfE_ok ce_ref08_small trivial⟩ h
-- sawmill/sawmillref08.numbers: loops [2]; state: params 0..0, then [2, 3]
attribute [simp] Tryz.f93
noncomputable def an_ref08_numbers : Ann := ⟨[0, 2, 3], [7, 15, 29], [], [(2, [0, 3])], [(0, []), (1, [0, 3])], some [2], [(6, 12)], [], []⟩
@[simp] theorem an_ref08_numbers_draws : an_ref08_numbers.draws = [(6, 12)] := rfl
@[simp] theorem an_ref08_numbers_exits : an_ref08_numbers.exits = [(0, []), (1, [0, 3])] := rfl
@[simp] theorem an_ref08_numbers_rets : an_ref08_numbers.rets = some [2] := rfl
@[simp] theorem an_ref08_numbers_keep : an_ref08_numbers.keep = [0, 2, 3] := rfl
@[simp] theorem an_ref08_numbers_cond : an_ref08_numbers.cond = [7, 15, 29] := rfl
@[simp] theorem an_ref08_numbers_rows : an_ref08_numbers.rows = [] := rfl
@[simp] theorem an_ref08_numbers_loops : an_ref08_numbers.loops = [(2, [0, 3])] := rfl
@[simp] theorem an_ref08_numbers_ecalls : an_ref08_numbers.ecalls = [] := rfl
@[simp] theorem an_ref08_numbers_crows : an_ref08_numbers.crows = [] := rfl
@[simp] noncomputable def cl_ref08_numbers : List (Nat × (List D → Option D)) := [(94, F_ref08_small)]
@[simp] noncomputable def ce_ref08_numbers : List (Nat × (List (Nat × O) → List D → Option (D × List (Nat × O)))) := []
noncomputable def c_ref08_numbers : CT := ⟨callOf (cl_ref08_numbers ), callOfE ce_ref08_numbers, gl⟩
@[simp] theorem c_ref08_numbers_p (f : FuncId) (ds : List D) : c_ref08_numbers.p f ds = callOf (cl_ref08_numbers ) f ds := Eq.trans rfl rfl
@[simp] theorem c_ref08_numbers_e (f : FuncId) (hs : List (Nat × O)) (ds : List D) : c_ref08_numbers.e f hs ds = callOfE ce_ref08_numbers f hs ds := Eq.trans rfl rfl
@[simp] theorem c_ref08_numbers_g (g : Nat) : c_ref08_numbers.g g = gl g := Eq.trans rfl rfl
noncomputable def L_ref08_numbers (i n : Nat) (s : St) : Option (E × St) := atN Tryz.prog c_ref08_numbers an_ref08_numbers 30 (bodyOf Tryz.f93) i n s
noncomputable def H_ref08_numbers (n i : Nat) (s : St) : Option (E × St) := atH Tryz.prog c_ref08_numbers an_ref08_numbers 30 (bodyOf Tryz.f93) n i s
@[simp] theorem H_ref08_numbers_eq (n i : Nat) (s : St) : H_ref08_numbers n i s = L_ref08_numbers i n (headOf (an_ref08_numbers.loops.lookup i) s) := rfl
noncomputable def R_ref08_numbers (i : Nat) (s : St) : Option (E × St) := stepL Tryz.prog c_ref08_numbers an_ref08_numbers 30 (bodyOf Tryz.f93) i s
theorem lok_ref08_numbers : okLoops (bodyOf Tryz.f93) = true := by kernel_rfl
theorem L_ref08_numbers_zero (i : Nat) (s : St) : L_ref08_numbers i 0 s = none := rfl
theorem L_ref08_numbers_succ (i n : Nat) (s : St) : L_ref08_numbers i (n + 1) s = andThen (R_ref08_numbers i s) (H_ref08_numbers n i) := atN_succ lok_ref08_numbers i n s
theorem R_ref08_numbers_eq (i : Nat) (s : St) : R_ref08_numbers i s = runS Tryz.prog c_ref08_numbers (H_ref08_numbers bigL) an_ref08_numbers 30 (loopAt (bodyOf Tryz.f93) i) s := rfl
noncomputable def F_ref08_numbers (ds : List D) : Option D := runF Tryz.prog c_ref08_numbers an_ref08_numbers 30 (bodyOf Tryz.f93) [.tmp 2] ds
theorem F_ref08_numbers_eq (ds : List D) : F_ref08_numbers ds = runG Tryz.prog c_ref08_numbers (H_ref08_numbers bigL) an_ref08_numbers 30 (bodyOf Tryz.f93) [.tmp 2] ds := runG_eq lok_ref08_numbers _ ds
theorem C_ref08_numbers (ds : List D) (r : D) (h : F_ref08_numbers ds = some r) : Contract Tryz.prog gl 93 ds r := contract_of mix Tryz.func93 rfl (by kernel_rfl) (by kernel_rfl) (by decide) (call := c_ref08_numbers) ⟨callOf_ok cl_ref08_numbers ⟨C_ref08_small, trivial⟩, callOfE_ok ce_ref08_numbers trivial⟩ h
-- sawmill/sawmillref08.CheckGrid: loops [14, 19]; state: params 0..0, then [1, 2, 3, 4, 5, 6]
attribute [simp] Tryz.f86
noncomputable def an_ref08_CheckGrid : Ann := ⟨[1, 2, 3, 4, 5, 6], [16, 26, 31, 37, 45, 50, 62, 70, 82], [], [(14, [1, 5]), (19, [1, 5, 6])], [(0, []), (1, [1, 5]), (2, [1, 5]), (3, [1, 5, 6])], some [2], [(16, 9)], [], []⟩
@[simp] theorem an_ref08_CheckGrid_draws : an_ref08_CheckGrid.draws = [(16, 9)] := rfl
@[simp] theorem an_ref08_CheckGrid_exits : an_ref08_CheckGrid.exits = [(0, []), (1, [1, 5]), (2, [1, 5]), (3, [1, 5, 6])] := rfl
@[simp] theorem an_ref08_CheckGrid_rets : an_ref08_CheckGrid.rets = some [2] := rfl
@[simp] theorem an_ref08_CheckGrid_keep : an_ref08_CheckGrid.keep = [1, 2, 3, 4, 5, 6] := rfl
@[simp] theorem an_ref08_CheckGrid_cond : an_ref08_CheckGrid.cond = [16, 26, 31, 37, 45, 50, 62, 70, 82] := rfl
@[simp] theorem an_ref08_CheckGrid_rows : an_ref08_CheckGrid.rows = [] := rfl
@[simp] theorem an_ref08_CheckGrid_loops : an_ref08_CheckGrid.loops = [(14, [1, 5]), (19, [1, 5, 6])] := rfl
@[simp] theorem an_ref08_CheckGrid_ecalls : an_ref08_CheckGrid.ecalls = [] := rfl
@[simp] theorem an_ref08_CheckGrid_crows : an_ref08_CheckGrid.crows = [] := rfl
@[simp] noncomputable def cl_ref08_CheckGrid : List (Nat × (List D → Option D)) := [(93, F_ref08_numbers), (94, F_ref08_small)]
@[simp] noncomputable def ce_ref08_CheckGrid : List (Nat × (List (Nat × O) → List D → Option (D × List (Nat × O)))) := []
noncomputable def c_ref08_CheckGrid : CT := ⟨callOf (cl_ref08_CheckGrid ), callOfE ce_ref08_CheckGrid, gl⟩
@[simp] theorem c_ref08_CheckGrid_p (f : FuncId) (ds : List D) : c_ref08_CheckGrid.p f ds = callOf (cl_ref08_CheckGrid ) f ds := Eq.trans rfl rfl
@[simp] theorem c_ref08_CheckGrid_e (f : FuncId) (hs : List (Nat × O)) (ds : List D) : c_ref08_CheckGrid.e f hs ds = callOfE ce_ref08_CheckGrid f hs ds := Eq.trans rfl rfl
@[simp] theorem c_ref08_CheckGrid_g (g : Nat) : c_ref08_CheckGrid.g g = gl g := Eq.trans rfl rfl
noncomputable def L_ref08_CheckGrid (i n : Nat) (s : St) : Option (E × St) := atN Tryz.prog c_ref08_CheckGrid an_ref08_CheckGrid 83 (bodyOf Tryz.f86) i n s
noncomputable def H_ref08_CheckGrid (n i : Nat) (s : St) : Option (E × St) := atH Tryz.prog c_ref08_CheckGrid an_ref08_CheckGrid 83 (bodyOf Tryz.f86) n i s
@[simp] theorem H_ref08_CheckGrid_eq (n i : Nat) (s : St) : H_ref08_CheckGrid n i s = L_ref08_CheckGrid i n (headOf (an_ref08_CheckGrid.loops.lookup i) s) := rfl
noncomputable def R_ref08_CheckGrid (i : Nat) (s : St) : Option (E × St) := stepL Tryz.prog c_ref08_CheckGrid an_ref08_CheckGrid 83 (bodyOf Tryz.f86) i s
theorem lok_ref08_CheckGrid : okLoops (bodyOf Tryz.f86) = true := by kernel_rfl
theorem L_ref08_CheckGrid_zero (i : Nat) (s : St) : L_ref08_CheckGrid i 0 s = none := rfl
theorem L_ref08_CheckGrid_succ (i n : Nat) (s : St) : L_ref08_CheckGrid i (n + 1) s = andThen (R_ref08_CheckGrid i s) (H_ref08_CheckGrid n i) := atN_succ lok_ref08_CheckGrid i n s
theorem R_ref08_CheckGrid_eq (i : Nat) (s : St) : R_ref08_CheckGrid i s = runS Tryz.prog c_ref08_CheckGrid (H_ref08_CheckGrid bigL) an_ref08_CheckGrid 83 (loopAt (bodyOf Tryz.f86) i) s := rfl
noncomputable def F_ref08_CheckGrid (ds : List D) : Option D := runF Tryz.prog c_ref08_CheckGrid an_ref08_CheckGrid 83 (bodyOf Tryz.f86) [.tmp 2] ds
theorem F_ref08_CheckGrid_eq (ds : List D) : F_ref08_CheckGrid ds = runG Tryz.prog c_ref08_CheckGrid (H_ref08_CheckGrid bigL) an_ref08_CheckGrid 83 (bodyOf Tryz.f86) [.tmp 2] ds := runG_eq lok_ref08_CheckGrid _ ds
theorem C_ref08_CheckGrid (ds : List D) (r : D) (h : F_ref08_CheckGrid ds = some r) : Contract Tryz.prog gl 86 ds r := contract_of mix Tryz.func86 rfl (by kernel_rfl) (by kernel_rfl) (by decide) (call := c_ref08_CheckGrid) ⟨callOf_ok cl_ref08_CheckGrid ⟨C_ref08_numbers, C_ref08_small, trivial⟩, callOfE_ok ce_ref08_CheckGrid trivial⟩ h
-- sawmill/sawmillref08.Row: loops [3]; state: params 0..1, then [2, 4, 5, 6]
attribute [simp] Tryz.f88
noncomputable def an_ref08_Row : Ann := ⟨[2, 4, 5, 6], [11], [5], [(3, [1, 2, 5, 6])], [(0, [5]), (1, [1, 2, 5, 6])], some [4], [(5, 16)], [], []⟩
@[simp] theorem an_ref08_Row_draws : an_ref08_Row.draws = [(5, 16)] := rfl
@[simp] theorem an_ref08_Row_exits : an_ref08_Row.exits = [(0, [5]), (1, [1, 2, 5, 6])] := rfl
@[simp] theorem an_ref08_Row_rets : an_ref08_Row.rets = some [4] := rfl
@[simp] theorem an_ref08_Row_keep : an_ref08_Row.keep = [2, 4, 5, 6] := rfl
@[simp] theorem an_ref08_Row_cond : an_ref08_Row.cond = [11] := rfl
@[simp] theorem an_ref08_Row_rows : an_ref08_Row.rows = [5] := rfl
@[simp] theorem an_ref08_Row_loops : an_ref08_Row.loops = [(3, [1, 2, 5, 6])] := rfl
@[simp] theorem an_ref08_Row_ecalls : an_ref08_Row.ecalls = [] := rfl
@[simp] theorem an_ref08_Row_crows : an_ref08_Row.crows = [] := rfl
@[simp] noncomputable def cl_ref08_Row : List (Nat × (List D → Option D)) := []
@[simp] noncomputable def ce_ref08_Row : List (Nat × (List (Nat × O) → List D → Option (D × List (Nat × O)))) := []
noncomputable def c_ref08_Row : CT := ⟨callOf (cl_ref08_Row ), callOfE ce_ref08_Row, gl⟩
@[simp] theorem c_ref08_Row_p (f : FuncId) (ds : List D) : c_ref08_Row.p f ds = callOf (cl_ref08_Row ) f ds := Eq.trans rfl rfl
@[simp] theorem c_ref08_Row_e (f : FuncId) (hs : List (Nat × O)) (ds : List D) : c_ref08_Row.e f hs ds = callOfE ce_ref08_Row f hs ds := Eq.trans rfl rfl
@[simp] theorem c_ref08_Row_g (g : Nat) : c_ref08_Row.g g = gl g := Eq.trans rfl rfl
noncomputable def L_ref08_Row (i n : Nat) (s : St) : Option (E × St) := atN Tryz.prog c_ref08_Row an_ref08_Row 32 (bodyOf Tryz.f88) i n s
noncomputable def H_ref08_Row (n i : Nat) (s : St) : Option (E × St) := atH Tryz.prog c_ref08_Row an_ref08_Row 32 (bodyOf Tryz.f88) n i s
@[simp] theorem H_ref08_Row_eq (n i : Nat) (s : St) : H_ref08_Row n i s = L_ref08_Row i n (headOf (an_ref08_Row.loops.lookup i) s) := rfl
noncomputable def R_ref08_Row (i : Nat) (s : St) : Option (E × St) := stepL Tryz.prog c_ref08_Row an_ref08_Row 32 (bodyOf Tryz.f88) i s
theorem lok_ref08_Row : okLoops (bodyOf Tryz.f88) = true := by kernel_rfl
theorem L_ref08_Row_zero (i : Nat) (s : St) : L_ref08_Row i 0 s = none := rfl
theorem L_ref08_Row_succ (i n : Nat) (s : St) : L_ref08_Row i (n + 1) s = andThen (R_ref08_Row i s) (H_ref08_Row n i) := atN_succ lok_ref08_Row i n s
theorem R_ref08_Row_eq (i : Nat) (s : St) : R_ref08_Row i s = runS Tryz.prog c_ref08_Row (H_ref08_Row bigL) an_ref08_Row 32 (loopAt (bodyOf Tryz.f88) i) s := rfl
noncomputable def F_ref08_Row (ds : List D) : Option D := runF Tryz.prog c_ref08_Row an_ref08_Row 32 (bodyOf Tryz.f88) [.tmp 4] ds
theorem F_ref08_Row_eq (ds : List D) : F_ref08_Row ds = runG Tryz.prog c_ref08_Row (H_ref08_Row bigL) an_ref08_Row 32 (bodyOf Tryz.f88) [.tmp 4] ds := runG_eq lok_ref08_Row _ ds
theorem C_ref08_Row (ds : List D) (r : D) (h : F_ref08_Row ds = some r) : Contract Tryz.prog gl 88 ds r := contract_of mix Tryz.func88 rfl (by kernel_rfl) (by kernel_rfl) (by decide) (call := c_ref08_Row) ⟨callOf_ok cl_ref08_Row trivial, callOfE_ok ce_ref08_Row trivial⟩ h
-- sawmill/sawmillref08.Check: loops [6]; state: params 0..0, then [2, 3]
attribute [simp] Tryz.f95
noncomputable def an_ref08_Check : Ann := ⟨[0, 2, 3], [6, 9, 13, 31, 47], [], [(6, [0, 3])], [(0, []), (1, [0, 3])], some [2], [(10, 14)], [], []⟩
@[simp] theorem an_ref08_Check_draws : an_ref08_Check.draws = [(10, 14)] := rfl
@[simp] theorem an_ref08_Check_exits : an_ref08_Check.exits = [(0, []), (1, [0, 3])] := rfl
@[simp] theorem an_ref08_Check_rets : an_ref08_Check.rets = some [2] := rfl
@[simp] theorem an_ref08_Check_keep : an_ref08_Check.keep = [0, 2, 3] := rfl
@[simp] theorem an_ref08_Check_cond : an_ref08_Check.cond = [6, 9, 13, 31, 47] := rfl
@[simp] theorem an_ref08_Check_rows : an_ref08_Check.rows = [] := rfl
@[simp] theorem an_ref08_Check_loops : an_ref08_Check.loops = [(6, [0, 3])] := rfl
@[simp] theorem an_ref08_Check_ecalls : an_ref08_Check.ecalls = [] := rfl
@[simp] theorem an_ref08_Check_crows : an_ref08_Check.crows = [] := rfl
@[simp] noncomputable def cl_ref08_Check : List (Nat × (List D → Option D)) := [(94, F_ref08_small)]
@[simp] noncomputable def ce_ref08_Check : List (Nat × (List (Nat × O) → List D → Option (D × List (Nat × O)))) := []
noncomputable def c_ref08_Check : CT := ⟨callOf (cl_ref08_Check ), callOfE ce_ref08_Check, gl⟩
@[simp] theorem c_ref08_Check_p (f : FuncId) (ds : List D) : c_ref08_Check.p f ds = callOf (cl_ref08_Check ) f ds := Eq.trans rfl rfl
@[simp] theorem c_ref08_Check_e (f : FuncId) (hs : List (Nat × O)) (ds : List D) : c_ref08_Check.e f hs ds = callOfE ce_ref08_Check f hs ds := Eq.trans rfl rfl
@[simp] theorem c_ref08_Check_g (g : Nat) : c_ref08_Check.g g = gl g := Eq.trans rfl rfl
noncomputable def L_ref08_Check (i n : Nat) (s : St) : Option (E × St) := atN Tryz.prog c_ref08_Check an_ref08_Check 48 (bodyOf Tryz.f95) i n s
noncomputable def H_ref08_Check (n i : Nat) (s : St) : Option (E × St) := atH Tryz.prog c_ref08_Check an_ref08_Check 48 (bodyOf Tryz.f95) n i s
@[simp] theorem H_ref08_Check_eq (n i : Nat) (s : St) : H_ref08_Check n i s = L_ref08_Check i n (headOf (an_ref08_Check.loops.lookup i) s) := rfl
noncomputable def R_ref08_Check (i : Nat) (s : St) : Option (E × St) := stepL Tryz.prog c_ref08_Check an_ref08_Check 48 (bodyOf Tryz.f95) i s
theorem lok_ref08_Check : okLoops (bodyOf Tryz.f95) = true := by kernel_rfl
theorem L_ref08_Check_zero (i : Nat) (s : St) : L_ref08_Check i 0 s = none := rfl
theorem L_ref08_Check_succ (i n : Nat) (s : St) : L_ref08_Check i (n + 1) s = andThen (R_ref08_Check i s) (H_ref08_Check n i) := atN_succ lok_ref08_Check i n s
theorem R_ref08_Check_eq (i : Nat) (s : St) : R_ref08_Check i s = runS Tryz.prog c_ref08_Check (H_ref08_Check bigL) an_ref08_Check 48 (loopAt (bodyOf Tryz.f95) i) s := rfl
noncomputable def F_ref08_Check (ds : List D) : Option D := runF Tryz.prog c_ref08_Check an_ref08_Check 48 (bodyOf Tryz.f95) [.tmp 2] ds
theorem F_ref08_Check_eq (ds : List D) : F_ref08_Check ds = runG Tryz.prog c_ref08_Check (H_ref08_Check bigL) an_ref08_Check 48 (bodyOf Tryz.f95) [.tmp 2] ds := runG_eq lok_ref08_Check _ ds
theorem C_ref08_Check (ds : List D) (r : D) (h : F_ref08_Check ds = some r) : Contract Tryz.prog gl 95 ds r := contract_of mix Tryz.func95 rfl (by kernel_rfl) (by kernel_rfl) (by decide) (call := c_ref08_Check) ⟨callOf_ok cl_ref08_Check ⟨C_ref08_small, trivial⟩, callOfE_ok ce_ref08_Check trivial⟩ h
-- sawmill/sawmillref08.floor: loops []; state: params 0..1, then [4, 5]
attribute [simp] Tryz.f102
noncomputable def an_ref08_floor : Ann := ⟨[0, 1, 4, 5], [13], [], [], [], some [4], [], [], []⟩
@[simp] theorem an_ref08_floor_draws : an_ref08_floor.draws = [] := rfl
@[simp] theorem an_ref08_floor_exits : an_ref08_floor.exits = [] := rfl
@[simp] theorem an_ref08_floor_rets : an_ref08_floor.rets = some [4] := rfl
@[simp] theorem an_ref08_floor_keep : an_ref08_floor.keep = [0, 1, 4, 5] := rfl
@[simp] theorem an_ref08_floor_cond : an_ref08_floor.cond = [13] := rfl
@[simp] theorem an_ref08_floor_rows : an_ref08_floor.rows = [] := rfl
@[simp] theorem an_ref08_floor_loops : an_ref08_floor.loops = [] := rfl
@[simp] theorem an_ref08_floor_ecalls : an_ref08_floor.ecalls = [] := rfl
@[simp] theorem an_ref08_floor_crows : an_ref08_floor.crows = [] := rfl
@[simp] noncomputable def cl_ref08_floor : List (Nat × (List D → Option D)) := []
@[simp] noncomputable def ce_ref08_floor : List (Nat × (List (Nat × O) → List D → Option (D × List (Nat × O)))) := []
noncomputable def c_ref08_floor : CT := ⟨callOf (cl_ref08_floor ), callOfE ce_ref08_floor, gl⟩
@[simp] theorem c_ref08_floor_p (f : FuncId) (ds : List D) : c_ref08_floor.p f ds = callOf (cl_ref08_floor ) f ds := Eq.trans rfl rfl
@[simp] theorem c_ref08_floor_e (f : FuncId) (hs : List (Nat × O)) (ds : List D) : c_ref08_floor.e f hs ds = callOfE ce_ref08_floor f hs ds := Eq.trans rfl rfl
@[simp] theorem c_ref08_floor_g (g : Nat) : c_ref08_floor.g g = gl g := Eq.trans rfl rfl
noncomputable def L_ref08_floor (i n : Nat) (s : St) : Option (E × St) := atN Tryz.prog c_ref08_floor an_ref08_floor 17 (bodyOf Tryz.f102) i n s
noncomputable def H_ref08_floor (n i : Nat) (s : St) : Option (E × St) := atH Tryz.prog c_ref08_floor an_ref08_floor 17 (bodyOf Tryz.f102) n i s
@[simp] theorem H_ref08_floor_eq (n i : Nat) (s : St) : H_ref08_floor n i s = L_ref08_floor i n (headOf (an_ref08_floor.loops.lookup i) s) := rfl
noncomputable def R_ref08_floor (i : Nat) (s : St) : Option (E × St) := stepL Tryz.prog c_ref08_floor an_ref08_floor 17 (bodyOf Tryz.f102) i s
theorem lok_ref08_floor : okLoops (bodyOf Tryz.f102) = true := by kernel_rfl
noncomputable def F_ref08_floor (ds : List D) : Option D := runF Tryz.prog c_ref08_floor an_ref08_floor 17 (bodyOf Tryz.f102) [.tmp 4] ds
theorem F_ref08_floor_eq (ds : List D) : F_ref08_floor ds = runG Tryz.prog c_ref08_floor (H_ref08_floor bigL) an_ref08_floor 17 (bodyOf Tryz.f102) [.tmp 4] ds := runG_eq lok_ref08_floor _ ds
theorem C_ref08_floor (ds : List D) (r : D) (h : F_ref08_floor ds = some r) : Contract Tryz.prog gl 102 ds r := contract_of mix Tryz.func102 rfl (by kernel_rfl) (by kernel_rfl) (by decide) (call := c_ref08_floor) ⟨callOf_ok cl_ref08_floor trivial, callOfE_ok ce_ref08_floor trivial⟩ h
-- sawmill/sawmillref08.Between: loops []; state: params 0..4, then [10]
attribute [simp] Tryz.f96
noncomputable def an_ref08_Between : Ann := ⟨[10], [], [], [], [], some [10], [], [], []⟩
@[simp] theorem an_ref08_Between_draws : an_ref08_Between.draws = [] := rfl
@[simp] theorem an_ref08_Between_exits : an_ref08_Between.exits = [] := rfl
@[simp] theorem an_ref08_Between_rets : an_ref08_Between.rets = some [10] := rfl
@[simp] theorem an_ref08_Between_keep : an_ref08_Between.keep = [10] := rfl
@[simp] theorem an_ref08_Between_cond : an_ref08_Between.cond = [] := rfl
@[simp] theorem an_ref08_Between_rows : an_ref08_Between.rows = [] := rfl
@[simp] theorem an_ref08_Between_loops : an_ref08_Between.loops = [] := rfl
@[simp] theorem an_ref08_Between_ecalls : an_ref08_Between.ecalls = [] := rfl
@[simp] theorem an_ref08_Between_crows : an_ref08_Between.crows = [] := rfl
@[simp] noncomputable def cl_ref08_Between : List (Nat × (List D → Option D)) := [(102, F_ref08_floor)]
@[simp] noncomputable def ce_ref08_Between : List (Nat × (List (Nat × O) → List D → Option (D × List (Nat × O)))) := []
noncomputable def c_ref08_Between : CT := ⟨callOf (cl_ref08_Between ), callOfE ce_ref08_Between, gl⟩
@[simp] theorem c_ref08_Between_p (f : FuncId) (ds : List D) : c_ref08_Between.p f ds = callOf (cl_ref08_Between ) f ds := Eq.trans rfl rfl
@[simp] theorem c_ref08_Between_e (f : FuncId) (hs : List (Nat × O)) (ds : List D) : c_ref08_Between.e f hs ds = callOfE ce_ref08_Between f hs ds := Eq.trans rfl rfl
@[simp] theorem c_ref08_Between_g (g : Nat) : c_ref08_Between.g g = gl g := Eq.trans rfl rfl
noncomputable def L_ref08_Between (i n : Nat) (s : St) : Option (E × St) := atN Tryz.prog c_ref08_Between an_ref08_Between 24 (bodyOf Tryz.f96) i n s
noncomputable def H_ref08_Between (n i : Nat) (s : St) : Option (E × St) := atH Tryz.prog c_ref08_Between an_ref08_Between 24 (bodyOf Tryz.f96) n i s
@[simp] theorem H_ref08_Between_eq (n i : Nat) (s : St) : H_ref08_Between n i s = L_ref08_Between i n (headOf (an_ref08_Between.loops.lookup i) s) := rfl
noncomputable def R_ref08_Between (i : Nat) (s : St) : Option (E × St) := stepL Tryz.prog c_ref08_Between an_ref08_Between 24 (bodyOf Tryz.f96) i s
theorem lok_ref08_Between : okLoops (bodyOf Tryz.f96) = true := by kernel_rfl
noncomputable def F_ref08_Between (ds : List D) : Option D := runF Tryz.prog c_ref08_Between an_ref08_Between 24 (bodyOf Tryz.f96) [.tmp 10] ds
theorem F_ref08_Between_eq (ds : List D) : F_ref08_Between ds = runG Tryz.prog c_ref08_Between (H_ref08_Between bigL) an_ref08_Between 24 (bodyOf Tryz.f96) [.tmp 10] ds := runG_eq lok_ref08_Between _ ds
theorem C_ref08_Between (ds : List D) (r : D) (h : F_ref08_Between ds = some r) : Contract Tryz.prog gl 96 ds r := contract_of mix Tryz.func96 rfl (by kernel_rfl) (by kernel_rfl) (by decide) (call := c_ref08_Between) ⟨callOf_ok cl_ref08_Between ⟨C_ref08_floor, trivial⟩, callOfE_ok ce_ref08_Between trivial⟩ h
-- sawmill/sawmillref08.At: loops [6]; state: params 0..1, then [4, 5]
attribute [simp] Tryz.f87
noncomputable def an_ref08_At : Ann := ⟨[0, 1, 4, 5], [8, 14, 22, 31], [], [(6, [0, 1, 5])], [(0, [0]), (1, [0, 1, 5])], some [4], [(9, 23)], [], []⟩
@[simp] theorem an_ref08_At_draws : an_ref08_At.draws = [(9, 23)] := rfl
@[simp] theorem an_ref08_At_exits : an_ref08_At.exits = [(0, [0]), (1, [0, 1, 5])] := rfl
@[simp] theorem an_ref08_At_rets : an_ref08_At.rets = some [4] := rfl
@[simp] theorem an_ref08_At_keep : an_ref08_At.keep = [0, 1, 4, 5] := rfl
@[simp] theorem an_ref08_At_cond : an_ref08_At.cond = [8, 14, 22, 31] := rfl
@[simp] theorem an_ref08_At_rows : an_ref08_At.rows = [] := rfl
@[simp] theorem an_ref08_At_loops : an_ref08_At.loops = [(6, [0, 1, 5])] := rfl
@[simp] theorem an_ref08_At_ecalls : an_ref08_At.ecalls = [] := rfl
@[simp] theorem an_ref08_At_crows : an_ref08_At.crows = [] := rfl
@[simp] noncomputable def cl_ref08_At : List (Nat × (List D → Option D)) := [(95, F_ref08_Check), (96, F_ref08_Between)]
@[simp] noncomputable def ce_ref08_At : List (Nat × (List (Nat × O) → List D → Option (D × List (Nat × O)))) := []
noncomputable def c_ref08_At : CT := ⟨callOf (cl_ref08_At ), callOfE ce_ref08_At, gl⟩
@[simp] theorem c_ref08_At_p (f : FuncId) (ds : List D) : c_ref08_At.p f ds = callOf (cl_ref08_At ) f ds := Eq.trans rfl rfl
@[simp] theorem c_ref08_At_e (f : FuncId) (hs : List (Nat × O)) (ds : List D) : c_ref08_At.e f hs ds = callOfE ce_ref08_At f hs ds := Eq.trans rfl rfl
@[simp] theorem c_ref08_At_g (g : Nat) : c_ref08_At.g g = gl g := Eq.trans rfl rfl
noncomputable def L_ref08_At (i n : Nat) (s : St) : Option (E × St) := atN Tryz.prog c_ref08_At an_ref08_At 63 (bodyOf Tryz.f87) i n s
noncomputable def H_ref08_At (n i : Nat) (s : St) : Option (E × St) := atH Tryz.prog c_ref08_At an_ref08_At 63 (bodyOf Tryz.f87) n i s
@[simp] theorem H_ref08_At_eq (n i : Nat) (s : St) : H_ref08_At n i s = L_ref08_At i n (headOf (an_ref08_At.loops.lookup i) s) := rfl
noncomputable def R_ref08_At (i : Nat) (s : St) : Option (E × St) := stepL Tryz.prog c_ref08_At an_ref08_At 63 (bodyOf Tryz.f87) i s
theorem lok_ref08_At : okLoops (bodyOf Tryz.f87) = true := by kernel_rfl
theorem L_ref08_At_zero (i : Nat) (s : St) : L_ref08_At i 0 s = none := rfl
theorem L_ref08_At_succ (i n : Nat) (s : St) : L_ref08_At i (n + 1) s = andThen (R_ref08_At i s) (H_ref08_At n i) := atN_succ lok_ref08_At i n s
theorem R_ref08_At_eq (i : Nat) (s : St) : R_ref08_At i s = runS Tryz.prog c_ref08_At (H_ref08_At bigL) an_ref08_At 63 (loopAt (bodyOf Tryz.f87) i) s := rfl
noncomputable def F_ref08_At (ds : List D) : Option D := runF Tryz.prog c_ref08_At an_ref08_At 63 (bodyOf Tryz.f87) [.tmp 4] ds
theorem F_ref08_At_eq (ds : List D) : F_ref08_At ds = runG Tryz.prog c_ref08_At (H_ref08_At bigL) an_ref08_At 63 (bodyOf Tryz.f87) [.tmp 4] ds := runG_eq lok_ref08_At _ ds
theorem C_ref08_At (ds : List D) (r : D) (h : F_ref08_At ds = some r) : Contract Tryz.prog gl 87 ds r := contract_of mix Tryz.func87 rfl (by kernel_rfl) (by kernel_rfl) (by decide) (call := c_ref08_At) ⟨callOf_ok cl_ref08_At ⟨C_ref08_Check, C_ref08_Between, trivial⟩, callOfE_ok ce_ref08_At trivial⟩ h
-- sawmill/sawmillref08.Value: loops [5]; state: params 0..2, then [3, 6, 7, 8]
attribute [simp] Tryz.f78
noncomputable def an_ref08_Value : Ann := ⟨[3, 6, 7, 8], [11, 16], [7], [(5, [1, 2, 3, 7, 8])], [(0, [1, 7]), (1, [1, 2, 3, 7, 8])], some [6], [(7, 13)], [], []⟩
@[simp] theorem an_ref08_Value_draws : an_ref08_Value.draws = [(7, 13)] := rfl
@[simp] theorem an_ref08_Value_exits : an_ref08_Value.exits = [(0, [1, 7]), (1, [1, 2, 3, 7, 8])] := rfl
@[simp] theorem an_ref08_Value_rets : an_ref08_Value.rets = some [6] := rfl
@[simp] theorem an_ref08_Value_keep : an_ref08_Value.keep = [3, 6, 7, 8] := rfl
@[simp] theorem an_ref08_Value_cond : an_ref08_Value.cond = [11, 16] := rfl
@[simp] theorem an_ref08_Value_rows : an_ref08_Value.rows = [7] := rfl
@[simp] theorem an_ref08_Value_loops : an_ref08_Value.loops = [(5, [1, 2, 3, 7, 8])] := rfl
@[simp] theorem an_ref08_Value_ecalls : an_ref08_Value.ecalls = [] := rfl
@[simp] theorem an_ref08_Value_crows : an_ref08_Value.crows = [] := rfl
@[simp] noncomputable def cl_ref08_Value : List (Nat × (List D → Option D)) := [(86, F_ref08_CheckGrid), (87, F_ref08_At), (88, F_ref08_Row)]
@[simp] noncomputable def ce_ref08_Value : List (Nat × (List (Nat × O) → List D → Option (D × List (Nat × O)))) := []
noncomputable def c_ref08_Value : CT := ⟨callOf (cl_ref08_Value ), callOfE ce_ref08_Value, gl⟩
@[simp] theorem c_ref08_Value_p (f : FuncId) (ds : List D) : c_ref08_Value.p f ds = callOf (cl_ref08_Value ) f ds := Eq.trans rfl rfl
@[simp] theorem c_ref08_Value_e (f : FuncId) (hs : List (Nat × O)) (ds : List D) : c_ref08_Value.e f hs ds = callOfE ce_ref08_Value f hs ds := Eq.trans rfl rfl
@[simp] theorem c_ref08_Value_g (g : Nat) : c_ref08_Value.g g = gl g := Eq.trans rfl rfl
noncomputable def L_ref08_Value (i n : Nat) (s : St) : Option (E × St) := atN Tryz.prog c_ref08_Value an_ref08_Value 36 (bodyOf Tryz.f78) i n s
noncomputable def H_ref08_Value (n i : Nat) (s : St) : Option (E × St) := atH Tryz.prog c_ref08_Value an_ref08_Value 36 (bodyOf Tryz.f78) n i s
@[simp] theorem H_ref08_Value_eq (n i : Nat) (s : St) : H_ref08_Value n i s = L_ref08_Value i n (headOf (an_ref08_Value.loops.lookup i) s) := rfl
noncomputable def R_ref08_Value (i : Nat) (s : St) : Option (E × St) := stepL Tryz.prog c_ref08_Value an_ref08_Value 36 (bodyOf Tryz.f78) i s
theorem lok_ref08_Value : okLoops (bodyOf Tryz.f78) = true := by kernel_rfl
theorem L_ref08_Value_zero (i : Nat) (s : St) : L_ref08_Value i 0 s = none := rfl
theorem L_ref08_Value_succ (i n : Nat) (s : St) : L_ref08_Value i (n + 1) s = andThen (R_ref08_Value i s) (H_ref08_Value n i) := atN_succ lok_ref08_Value i n s
theorem R_ref08_Value_eq (i : Nat) (s : St) : R_ref08_Value i s = runS Tryz.prog c_ref08_Value (H_ref08_Value bigL) an_ref08_Value 36 (loopAt (bodyOf Tryz.f78) i) s := rfl
noncomputable def F_ref08_Value (ds : List D) : Option D := runF Tryz.prog c_ref08_Value an_ref08_Value 36 (bodyOf Tryz.f78) [.tmp 6] ds
theorem F_ref08_Value_eq (ds : List D) : F_ref08_Value ds = runG Tryz.prog c_ref08_Value (H_ref08_Value bigL) an_ref08_Value 36 (bodyOf Tryz.f78) [.tmp 6] ds := runG_eq lok_ref08_Value _ ds
theorem C_ref08_Value (ds : List D) (r : D) (h : F_ref08_Value ds = some r) : Contract Tryz.prog gl 78 ds r := contract_of mix Tryz.func78 rfl (by kernel_rfl) (by kernel_rfl) (by decide) (call := c_ref08_Value) ⟨callOf_ok cl_ref08_Value ⟨C_ref08_CheckGrid, C_ref08_At, C_ref08_Row, trivial⟩, callOfE_ok ce_ref08_Value trivial⟩ h
-- sawmill/sawmillref35.Emc: loops []; state: params 0..0, then [1, 2]
attribute [simp] Tryz.f66
noncomputable def an_ref35_Emc : Ann := ⟨[1, 2], [], [], [], [], some [2], [(1, 5)], [], []⟩
@[simp] theorem an_ref35_Emc_draws : an_ref35_Emc.draws = [(1, 5)] := rfl
@[simp] theorem an_ref35_Emc_exits : an_ref35_Emc.exits = [] := rfl
@[simp] theorem an_ref35_Emc_rets : an_ref35_Emc.rets = some [2] := rfl
@[simp] theorem an_ref35_Emc_keep : an_ref35_Emc.keep = [1, 2] := rfl
@[simp] theorem an_ref35_Emc_cond : an_ref35_Emc.cond = [] := rfl
@[simp] theorem an_ref35_Emc_rows : an_ref35_Emc.rows = [] := rfl
@[simp] theorem an_ref35_Emc_loops : an_ref35_Emc.loops = [] := rfl
@[simp] theorem an_ref35_Emc_ecalls : an_ref35_Emc.ecalls = [] := rfl
@[simp] theorem an_ref35_Emc_crows : an_ref35_Emc.crows = [] := rfl
@[simp] noncomputable def cl_ref35_Emc : List (Nat × (List D → Option D)) := [(78, F_ref08_Value), (79, F_ref35_Table)]
@[simp] noncomputable def ce_ref35_Emc : List (Nat × (List (Nat × O) → List D → Option (D × List (Nat × O)))) := []
noncomputable def c_ref35_Emc : CT := ⟨callOf (cl_ref35_Emc ), callOfE ce_ref35_Emc, gl⟩
@[simp] theorem c_ref35_Emc_p (f : FuncId) (ds : List D) : c_ref35_Emc.p f ds = callOf (cl_ref35_Emc ) f ds := Eq.trans rfl rfl
@[simp] theorem c_ref35_Emc_e (f : FuncId) (hs : List (Nat × O)) (ds : List D) : c_ref35_Emc.e f hs ds = callOfE ce_ref35_Emc f hs ds := Eq.trans rfl rfl
@[simp] theorem c_ref35_Emc_g (g : Nat) : c_ref35_Emc.g g = gl g := Eq.trans rfl rfl
noncomputable def L_ref35_Emc (i n : Nat) (s : St) : Option (E × St) := atN Tryz.prog c_ref35_Emc an_ref35_Emc 9 (bodyOf Tryz.f66) i n s
noncomputable def H_ref35_Emc (n i : Nat) (s : St) : Option (E × St) := atH Tryz.prog c_ref35_Emc an_ref35_Emc 9 (bodyOf Tryz.f66) n i s
@[simp] theorem H_ref35_Emc_eq (n i : Nat) (s : St) : H_ref35_Emc n i s = L_ref35_Emc i n (headOf (an_ref35_Emc.loops.lookup i) s) := rfl
noncomputable def R_ref35_Emc (i : Nat) (s : St) : Option (E × St) := stepL Tryz.prog c_ref35_Emc an_ref35_Emc 9 (bodyOf Tryz.f66) i s
theorem lok_ref35_Emc : okLoops (bodyOf Tryz.f66) = true := by kernel_rfl
noncomputable def F_ref35_Emc (ds : List D) : Option D := runF Tryz.prog c_ref35_Emc an_ref35_Emc 9 (bodyOf Tryz.f66) [.tmp 2] ds
theorem F_ref35_Emc_eq (ds : List D) : F_ref35_Emc ds = runG Tryz.prog c_ref35_Emc (H_ref35_Emc bigL) an_ref35_Emc 9 (bodyOf Tryz.f66) [.tmp 2] ds := runG_eq lok_ref35_Emc _ ds
theorem C_ref35_Emc (ds : List D) (r : D) (h : F_ref35_Emc ds = some r) : Contract Tryz.prog gl 66 ds r := contract_of mix Tryz.func66 rfl (by kernel_rfl) (by kernel_rfl) (by decide) (call := c_ref35_Emc) ⟨callOf_ok cl_ref35_Emc ⟨C_ref08_Value, C_ref35_Table, trivial⟩, callOfE_ok ce_ref35_Emc trivial⟩ h
-- sawmill/sawmillref01.Clamp: loops []; state: params 0..2, then [6]
attribute [simp] Tryz.f67
noncomputable def an_ref01_Clamp : Ann := ⟨[0, 1, 2, 6], [14, 18], [], [], [], some [6], [], [], []⟩
@[simp] theorem an_ref01_Clamp_draws : an_ref01_Clamp.draws = [] := rfl
@[simp] theorem an_ref01_Clamp_exits : an_ref01_Clamp.exits = [] := rfl
@[simp] theorem an_ref01_Clamp_rets : an_ref01_Clamp.rets = some [6] := rfl
@[simp] theorem an_ref01_Clamp_keep : an_ref01_Clamp.keep = [0, 1, 2, 6] := rfl
@[simp] theorem an_ref01_Clamp_cond : an_ref01_Clamp.cond = [14, 18] := rfl
@[simp] theorem an_ref01_Clamp_rows : an_ref01_Clamp.rows = [] := rfl
@[simp] theorem an_ref01_Clamp_loops : an_ref01_Clamp.loops = [] := rfl
@[simp] theorem an_ref01_Clamp_ecalls : an_ref01_Clamp.ecalls = [] := rfl
@[simp] theorem an_ref01_Clamp_crows : an_ref01_Clamp.crows = [] := rfl
@[simp] noncomputable def cl_ref01_Clamp : List (Nat × (List D → Option D)) := []
@[simp] noncomputable def ce_ref01_Clamp : List (Nat × (List (Nat × O) → List D → Option (D × List (Nat × O)))) := []
noncomputable def c_ref01_Clamp : CT := ⟨callOf (cl_ref01_Clamp ), callOfE ce_ref01_Clamp, gl⟩
@[simp] theorem c_ref01_Clamp_p (f : FuncId) (ds : List D) : c_ref01_Clamp.p f ds = callOf (cl_ref01_Clamp ) f ds := Eq.trans rfl rfl
@[simp] theorem c_ref01_Clamp_e (f : FuncId) (hs : List (Nat × O)) (ds : List D) : c_ref01_Clamp.e f hs ds = callOfE ce_ref01_Clamp f hs ds := Eq.trans rfl rfl
@[simp] theorem c_ref01_Clamp_g (g : Nat) : c_ref01_Clamp.g g = gl g := Eq.trans rfl rfl
noncomputable def L_ref01_Clamp (i n : Nat) (s : St) : Option (E × St) := atN Tryz.prog c_ref01_Clamp an_ref01_Clamp 21 (bodyOf Tryz.f67) i n s
noncomputable def H_ref01_Clamp (n i : Nat) (s : St) : Option (E × St) := atH Tryz.prog c_ref01_Clamp an_ref01_Clamp 21 (bodyOf Tryz.f67) n i s
@[simp] theorem H_ref01_Clamp_eq (n i : Nat) (s : St) : H_ref01_Clamp n i s = L_ref01_Clamp i n (headOf (an_ref01_Clamp.loops.lookup i) s) := rfl
noncomputable def R_ref01_Clamp (i : Nat) (s : St) : Option (E × St) := stepL Tryz.prog c_ref01_Clamp an_ref01_Clamp 21 (bodyOf Tryz.f67) i s
theorem lok_ref01_Clamp : okLoops (bodyOf Tryz.f67) = true := by kernel_rfl
noncomputable def F_ref01_Clamp (ds : List D) : Option D := runF Tryz.prog c_ref01_Clamp an_ref01_Clamp 21 (bodyOf Tryz.f67) [.tmp 6] ds
theorem F_ref01_Clamp_eq (ds : List D) : F_ref01_Clamp ds = runG Tryz.prog c_ref01_Clamp (H_ref01_Clamp bigL) an_ref01_Clamp 21 (bodyOf Tryz.f67) [.tmp 6] ds := runG_eq lok_ref01_Clamp _ ds
theorem C_ref01_Clamp (ds : List D) (r : D) (h : F_ref01_Clamp ds = some r) : Contract Tryz.prog gl 67 ds r := contract_of mix Tryz.func67 rfl (by kernel_rfl) (by kernel_rfl) (by decide) (call := c_ref01_Clamp) ⟨callOf_ok cl_ref01_Clamp trivial, callOfE_ok ce_ref01_Clamp trivial⟩ h
-- sawmill/sawmillref01.part: loops []; state: params 0..1, then [4, 5]
attribute [simp] Tryz.f77
noncomputable def an_ref01_part : Ann := ⟨[0, 1, 4, 5], [25], [], [], [], some [4], [], [], []⟩
@[simp] theorem an_ref01_part_draws : an_ref01_part.draws = [] := rfl
@[simp] theorem an_ref01_part_exits : an_ref01_part.exits = [] := rfl
@[simp] theorem an_ref01_part_rets : an_ref01_part.rets = some [4] := rfl
@[simp] theorem an_ref01_part_keep : an_ref01_part.keep = [0, 1, 4, 5] := rfl
@[simp] theorem an_ref01_part_cond : an_ref01_part.cond = [25] := rfl
@[simp] theorem an_ref01_part_rows : an_ref01_part.rows = [] := rfl
@[simp] theorem an_ref01_part_loops : an_ref01_part.loops = [] := rfl
@[simp] theorem an_ref01_part_ecalls : an_ref01_part.ecalls = [] := rfl
@[simp] theorem an_ref01_part_crows : an_ref01_part.crows = [] := rfl
@[simp] noncomputable def cl_ref01_part : List (Nat × (List D → Option D)) := []
@[simp] noncomputable def ce_ref01_part : List (Nat × (List (Nat × O) → List D → Option (D × List (Nat × O)))) := []
noncomputable def c_ref01_part : CT := ⟨callOf (cl_ref01_part ), callOfE ce_ref01_part, gl⟩
@[simp] theorem c_ref01_part_p (f : FuncId) (ds : List D) : c_ref01_part.p f ds = callOf (cl_ref01_part ) f ds := Eq.trans rfl rfl
@[simp] theorem c_ref01_part_e (f : FuncId) (hs : List (Nat × O)) (ds : List D) : c_ref01_part.e f hs ds = callOfE ce_ref01_part f hs ds := Eq.trans rfl rfl
@[simp] theorem c_ref01_part_g (g : Nat) : c_ref01_part.g g = gl g := Eq.trans rfl rfl
noncomputable def L_ref01_part (i n : Nat) (s : St) : Option (E × St) := atN Tryz.prog c_ref01_part an_ref01_part 27 (bodyOf Tryz.f77) i n s
noncomputable def H_ref01_part (n i : Nat) (s : St) : Option (E × St) := atH Tryz.prog c_ref01_part an_ref01_part 27 (bodyOf Tryz.f77) n i s
@[simp] theorem H_ref01_part_eq (n i : Nat) (s : St) : H_ref01_part n i s = L_ref01_part i n (headOf (an_ref01_part.loops.lookup i) s) := rfl
noncomputable def R_ref01_part (i : Nat) (s : St) : Option (E × St) := stepL Tryz.prog c_ref01_part an_ref01_part 27 (bodyOf Tryz.f77) i s
theorem lok_ref01_part : okLoops (bodyOf Tryz.f77) = true := by kernel_rfl
noncomputable def F_ref01_part (ds : List D) : Option D := runF Tryz.prog c_ref01_part an_ref01_part 27 (bodyOf Tryz.f77) [.tmp 4] ds
theorem F_ref01_part_eq (ds : List D) : F_ref01_part ds = runG Tryz.prog c_ref01_part (H_ref01_part bigL) an_ref01_part 27 (bodyOf Tryz.f77) [.tmp 4] ds := runG_eq lok_ref01_part _ ds
theorem C_ref01_part (ds : List D) (r : D) (h : F_ref01_part ds = some r) : Contract Tryz.prog gl 77 ds r := contract_of mix Tryz.func77 rfl (by kernel_rfl) (by kernel_rfl) (by decide) (call := c_ref01_part) ⟨callOf_ok cl_ref01_part trivial, callOfE_ok ce_ref01_part trivial⟩ h
-- sawmill/sawmillref01.Toward: loops []; state: params 0..2, then [6, 7]
attribute [simp] Tryz.f65
noncomputable def an_ref01_Toward : Ann := ⟨[0, 1, 6, 7], [13], [], [], [], some [6], [], [], []⟩
@[simp] theorem an_ref01_Toward_draws : an_ref01_Toward.draws = [] := rfl
@[simp] theorem an_ref01_Toward_exits : an_ref01_Toward.exits = [] := rfl
@[simp] theorem an_ref01_Toward_rets : an_ref01_Toward.rets = some [6] := rfl
@[simp] theorem an_ref01_Toward_keep : an_ref01_Toward.keep = [0, 1, 6, 7] := rfl
@[simp] theorem an_ref01_Toward_cond : an_ref01_Toward.cond = [13] := rfl
@[simp] theorem an_ref01_Toward_rows : an_ref01_Toward.rows = [] := rfl
@[simp] theorem an_ref01_Toward_loops : an_ref01_Toward.loops = [] := rfl
@[simp] theorem an_ref01_Toward_ecalls : an_ref01_Toward.ecalls = [] := rfl
@[simp] theorem an_ref01_Toward_crows : an_ref01_Toward.crows = [] := rfl
@[simp] noncomputable def cl_ref01_Toward : List (Nat × (List D → Option D)) := [(67, F_ref01_Clamp), (77, F_ref01_part)]
@[simp] noncomputable def ce_ref01_Toward : List (Nat × (List (Nat × O) → List D → Option (D × List (Nat × O)))) := []
noncomputable def c_ref01_Toward : CT := ⟨callOf (cl_ref01_Toward ), callOfE ce_ref01_Toward, gl⟩
@[simp] theorem c_ref01_Toward_p (f : FuncId) (ds : List D) : c_ref01_Toward.p f ds = callOf (cl_ref01_Toward ) f ds := Eq.trans rfl rfl
@[simp] theorem c_ref01_Toward_e (f : FuncId) (hs : List (Nat × O)) (ds : List D) : c_ref01_Toward.e f hs ds = callOfE ce_ref01_Toward f hs ds := Eq.trans rfl rfl
@[simp] theorem c_ref01_Toward_g (g : Nat) : c_ref01_Toward.g g = gl g := Eq.trans rfl rfl
noncomputable def L_ref01_Toward (i n : Nat) (s : St) : Option (E × St) := atN Tryz.prog c_ref01_Toward an_ref01_Toward 36 (bodyOf Tryz.f65) i n s
noncomputable def H_ref01_Toward (n i : Nat) (s : St) : Option (E × St) := atH Tryz.prog c_ref01_Toward an_ref01_Toward 36 (bodyOf Tryz.f65) n i s
@[simp] theorem H_ref01_Toward_eq (n i : Nat) (s : St) : H_ref01_Toward n i s = L_ref01_Toward i n (headOf (an_ref01_Toward.loops.lookup i) s) := rfl
noncomputable def R_ref01_Toward (i : Nat) (s : St) : Option (E × St) := stepL Tryz.prog c_ref01_Toward an_ref01_Toward 36 (bodyOf Tryz.f65) i s
theorem lok_ref01_Toward : okLoops (bodyOf Tryz.f65) = true := by kernel_rfl
noncomputable def F_ref01_Toward (ds : List D) : Option D := runF Tryz.prog c_ref01_Toward an_ref01_Toward 36 (bodyOf Tryz.f65) [.tmp 6] ds
theorem F_ref01_Toward_eq (ds : List D) : F_ref01_Toward ds = runG Tryz.prog c_ref01_Toward (H_ref01_Toward bigL) an_ref01_Toward 36 (bodyOf Tryz.f65) [.tmp 6] ds := runG_eq lok_ref01_Toward _ ds
theorem C_ref01_Toward (ds : List D) (r : D) (h : F_ref01_Toward ds = some r) : Contract Tryz.prog gl 65 ds r := contract_of mix Tryz.func65 rfl (by kernel_rfl) (by kernel_rfl) (by decide) (call := c_ref01_Toward) ⟨callOf_ok cl_ref01_Toward ⟨C_ref01_Clamp, C_ref01_part, trivial⟩, callOfE_ok ce_ref01_Toward trivial⟩ h
-- sawmill/sawmillref36.Tick: loops []; state: params 0..4, then [5, 6, 8, 10]
attribute [simp] Tryz.f51
noncomputable def an_ref36_Tick : Ann := ⟨[2, 5, 6, 8, 10], [16, 18], [], [], [], some [10], [(4, 11), (5, 14)], [], []⟩
@[simp] theorem an_ref36_Tick_draws : an_ref36_Tick.draws = [(4, 11), (5, 14)] := rfl
@[simp] theorem an_ref36_Tick_exits : an_ref36_Tick.exits = [] := rfl
@[simp] theorem an_ref36_Tick_rets : an_ref36_Tick.rets = some [10] := rfl
@[simp] theorem an_ref36_Tick_keep : an_ref36_Tick.keep = [2, 5, 6, 8, 10] := rfl
@[simp] theorem an_ref36_Tick_cond : an_ref36_Tick.cond = [16, 18] := rfl
@[simp] theorem an_ref36_Tick_rows : an_ref36_Tick.rows = [] := rfl
@[simp] theorem an_ref36_Tick_loops : an_ref36_Tick.loops = [] := rfl
@[simp] theorem an_ref36_Tick_ecalls : an_ref36_Tick.ecalls = [] := rfl
@[simp] theorem an_ref36_Tick_crows : an_ref36_Tick.crows = [] := rfl
@[simp] noncomputable def cl_ref36_Tick : List (Nat × (List D → Option D)) := [(64, F_ref36_Ticks), (65, F_ref01_Toward), (66, F_ref35_Emc), (67, F_ref01_Clamp)]
@[simp] noncomputable def ce_ref36_Tick : List (Nat × (List (Nat × O) → List D → Option (D × List (Nat × O)))) := []
noncomputable def c_ref36_Tick : CT := ⟨callOf (cl_ref36_Tick ), callOfE ce_ref36_Tick, gl⟩
@[simp] theorem c_ref36_Tick_p (f : FuncId) (ds : List D) : c_ref36_Tick.p f ds = callOf (cl_ref36_Tick ) f ds := Eq.trans rfl rfl
@[simp] theorem c_ref36_Tick_e (f : FuncId) (hs : List (Nat × O)) (ds : List D) : c_ref36_Tick.e f hs ds = callOfE ce_ref36_Tick f hs ds := Eq.trans rfl rfl
@[simp] theorem c_ref36_Tick_g (g : Nat) : c_ref36_Tick.g g = gl g := Eq.trans rfl rfl
noncomputable def L_ref36_Tick (i n : Nat) (s : St) : Option (E × St) := atN Tryz.prog c_ref36_Tick an_ref36_Tick 63 (bodyOf Tryz.f51) i n s
noncomputable def H_ref36_Tick (n i : Nat) (s : St) : Option (E × St) := atH Tryz.prog c_ref36_Tick an_ref36_Tick 63 (bodyOf Tryz.f51) n i s
@[simp] theorem H_ref36_Tick_eq (n i : Nat) (s : St) : H_ref36_Tick n i s = L_ref36_Tick i n (headOf (an_ref36_Tick.loops.lookup i) s) := rfl
noncomputable def R_ref36_Tick (i : Nat) (s : St) : Option (E × St) := stepL Tryz.prog c_ref36_Tick an_ref36_Tick 63 (bodyOf Tryz.f51) i s
theorem lok_ref36_Tick : okLoops (bodyOf Tryz.f51) = true := by kernel_rfl
noncomputable def F_ref36_Tick (ds : List D) : Option D := runF Tryz.prog c_ref36_Tick an_ref36_Tick 63 (bodyOf Tryz.f51) [.cell 10 53] ds
theorem F_ref36_Tick_eq (ds : List D) : F_ref36_Tick ds = runG Tryz.prog c_ref36_Tick (H_ref36_Tick bigL) an_ref36_Tick 63 (bodyOf Tryz.f51) [.cell 10 53] ds := runG_eq lok_ref36_Tick _ ds
theorem C_ref36_Tick (ds : List D) (r : D) (h : F_ref36_Tick ds = some r) : Contract Tryz.prog gl 51 ds r := contract_of mix Tryz.func51 rfl (by kernel_rfl) (by kernel_rfl) (by decide) (call := c_ref36_Tick) ⟨callOf_ok cl_ref36_Tick ⟨C_ref36_Ticks, C_ref01_Toward, C_ref35_Emc, C_ref01_Clamp, trivial⟩, callOfE_ok ce_ref36_Tick trivial⟩ h
-- sawmill/sawmillref38.dried: loops [3]; state: params 0..2, then [3, 4, 6, 7, 8, 9]
attribute [simp] Tryz.f26
noncomputable def an_ref38_dried : Ann := ⟨[3, 4, 6, 7, 8, 9], [14], [7], [(3, [2, 3, 4, 7, 8])], [(0, [7]), (1, [2, 3, 4, 7, 8])], some [6], [(6, 14)], [], []⟩
@[simp] theorem an_ref38_dried_draws : an_ref38_dried.draws = [(6, 14)] := rfl
@[simp] theorem an_ref38_dried_exits : an_ref38_dried.exits = [(0, [7]), (1, [2, 3, 4, 7, 8])] := rfl
@[simp] theorem an_ref38_dried_rets : an_ref38_dried.rets = some [6] := rfl
@[simp] theorem an_ref38_dried_keep : an_ref38_dried.keep = [3, 4, 6, 7, 8, 9] := rfl
@[simp] theorem an_ref38_dried_cond : an_ref38_dried.cond = [14] := rfl
@[simp] theorem an_ref38_dried_rows : an_ref38_dried.rows = [7] := rfl
@[simp] theorem an_ref38_dried_loops : an_ref38_dried.loops = [(3, [2, 3, 4, 7, 8])] := rfl
@[simp] theorem an_ref38_dried_ecalls : an_ref38_dried.ecalls = [] := rfl
@[simp] theorem an_ref38_dried_crows : an_ref38_dried.crows = [] := rfl
@[simp] noncomputable def cl_ref38_dried : List (Nat × (List D → Option D)) := [(51, F_ref36_Tick)]
@[simp] noncomputable def ce_ref38_dried : List (Nat × (List (Nat × O) → List D → Option (D × List (Nat × O)))) := []
noncomputable def c_ref38_dried : CT := ⟨callOf (cl_ref38_dried ), callOfE ce_ref38_dried, gl⟩
@[simp] theorem c_ref38_dried_p (f : FuncId) (ds : List D) : c_ref38_dried.p f ds = callOf (cl_ref38_dried ) f ds := Eq.trans rfl rfl
@[simp] theorem c_ref38_dried_e (f : FuncId) (hs : List (Nat × O)) (ds : List D) : c_ref38_dried.e f hs ds = callOfE ce_ref38_dried f hs ds := Eq.trans rfl rfl
@[simp] theorem c_ref38_dried_g (g : Nat) : c_ref38_dried.g g = gl g := Eq.trans rfl rfl
noncomputable def L_ref38_dried (i n : Nat) (s : St) : Option (E × St) := atN Tryz.prog c_ref38_dried an_ref38_dried 38 (bodyOf Tryz.f26) i n s
noncomputable def H_ref38_dried (n i : Nat) (s : St) : Option (E × St) := atH Tryz.prog c_ref38_dried an_ref38_dried 38 (bodyOf Tryz.f26) n i s
@[simp] theorem H_ref38_dried_eq (n i : Nat) (s : St) : H_ref38_dried n i s = L_ref38_dried i n (headOf (an_ref38_dried.loops.lookup i) s) := rfl
noncomputable def R_ref38_dried (i : Nat) (s : St) : Option (E × St) := stepL Tryz.prog c_ref38_dried an_ref38_dried 38 (bodyOf Tryz.f26) i s
theorem lok_ref38_dried : okLoops (bodyOf Tryz.f26) = true := by kernel_rfl
theorem L_ref38_dried_zero (i : Nat) (s : St) : L_ref38_dried i 0 s = none := rfl
theorem L_ref38_dried_succ (i n : Nat) (s : St) : L_ref38_dried i (n + 1) s = andThen (R_ref38_dried i s) (H_ref38_dried n i) := atN_succ lok_ref38_dried i n s
theorem R_ref38_dried_eq (i : Nat) (s : St) : R_ref38_dried i s = runS Tryz.prog c_ref38_dried (H_ref38_dried bigL) an_ref38_dried 38 (loopAt (bodyOf Tryz.f26) i) s := rfl
noncomputable def F_ref38_dried (ds : List D) : Option D := runF Tryz.prog c_ref38_dried an_ref38_dried 38 (bodyOf Tryz.f26) [.tmp 6] ds
theorem F_ref38_dried_eq (ds : List D) : F_ref38_dried ds = runG Tryz.prog c_ref38_dried (H_ref38_dried bigL) an_ref38_dried 38 (bodyOf Tryz.f26) [.tmp 6] ds := runG_eq lok_ref38_dried _ ds
theorem C_ref38_dried (ds : List D) (r : D) (h : F_ref38_dried ds = some r) : Contract Tryz.prog gl 26 ds r := contract_of mix Tryz.func26 rfl (by kernel_rfl) (by kernel_rfl) (by decide) (call := c_ref38_dried) ⟨callOf_ok cl_ref38_dried ⟨C_ref36_Tick, trivial⟩, callOfE_ok ce_ref38_dried trivial⟩ h
-- sawmill/sawmillref36.Gradient: loops []; state: params 0..0, then [1, 2]
attribute [simp] Tryz.f52
noncomputable def an_ref36_Gradient : Ann := ⟨[1, 2], [5], [], [], [], some [2], [], [], []⟩
@[simp] theorem an_ref36_Gradient_draws : an_ref36_Gradient.draws = [] := rfl
@[simp] theorem an_ref36_Gradient_exits : an_ref36_Gradient.exits = [] := rfl
@[simp] theorem an_ref36_Gradient_rets : an_ref36_Gradient.rets = some [2] := rfl
@[simp] theorem an_ref36_Gradient_keep : an_ref36_Gradient.keep = [1, 2] := rfl
@[simp] theorem an_ref36_Gradient_cond : an_ref36_Gradient.cond = [5] := rfl
@[simp] theorem an_ref36_Gradient_rows : an_ref36_Gradient.rows = [] := rfl
@[simp] theorem an_ref36_Gradient_loops : an_ref36_Gradient.loops = [] := rfl
@[simp] theorem an_ref36_Gradient_ecalls : an_ref36_Gradient.ecalls = [] := rfl
@[simp] theorem an_ref36_Gradient_crows : an_ref36_Gradient.crows = [] := rfl
@[simp] noncomputable def cl_ref36_Gradient : List (Nat × (List D → Option D)) := [(20, F_ref36_Check)]
@[simp] noncomputable def ce_ref36_Gradient : List (Nat × (List (Nat × O) → List D → Option (D × List (Nat × O)))) := []
noncomputable def c_ref36_Gradient : CT := ⟨callOf (cl_ref36_Gradient ), callOfE ce_ref36_Gradient, gl⟩
@[simp] theorem c_ref36_Gradient_p (f : FuncId) (ds : List D) : c_ref36_Gradient.p f ds = callOf (cl_ref36_Gradient ) f ds := Eq.trans rfl rfl
@[simp] theorem c_ref36_Gradient_e (f : FuncId) (hs : List (Nat × O)) (ds : List D) : c_ref36_Gradient.e f hs ds = callOfE ce_ref36_Gradient f hs ds := Eq.trans rfl rfl
@[simp] theorem c_ref36_Gradient_g (g : Nat) : c_ref36_Gradient.g g = gl g := Eq.trans rfl rfl
noncomputable def L_ref36_Gradient (i n : Nat) (s : St) : Option (E × St) := atN Tryz.prog c_ref36_Gradient an_ref36_Gradient 11 (bodyOf Tryz.f52) i n s
noncomputable def H_ref36_Gradient (n i : Nat) (s : St) : Option (E × St) := atH Tryz.prog c_ref36_Gradient an_ref36_Gradient 11 (bodyOf Tryz.f52) n i s
@[simp] theorem H_ref36_Gradient_eq (n i : Nat) (s : St) : H_ref36_Gradient n i s = L_ref36_Gradient i n (headOf (an_ref36_Gradient.loops.lookup i) s) := rfl
noncomputable def R_ref36_Gradient (i : Nat) (s : St) : Option (E × St) := stepL Tryz.prog c_ref36_Gradient an_ref36_Gradient 11 (bodyOf Tryz.f52) i s
theorem lok_ref36_Gradient : okLoops (bodyOf Tryz.f52) = true := by kernel_rfl
noncomputable def F_ref36_Gradient (ds : List D) : Option D := runF Tryz.prog c_ref36_Gradient an_ref36_Gradient 11 (bodyOf Tryz.f52) [.tmp 2] ds
theorem F_ref36_Gradient_eq (ds : List D) : F_ref36_Gradient ds = runG Tryz.prog c_ref36_Gradient (H_ref36_Gradient bigL) an_ref36_Gradient 11 (bodyOf Tryz.f52) [.tmp 2] ds := runG_eq lok_ref36_Gradient _ ds
theorem C_ref36_Gradient (ds : List D) (r : D) (h : F_ref36_Gradient ds = some r) : Contract Tryz.prog gl 52 ds r := contract_of mix Tryz.func52 rfl (by kernel_rfl) (by kernel_rfl) (by decide) (call := c_ref36_Gradient) ⟨callOf_ok cl_ref36_Gradient ⟨C_ref36_Check, trivial⟩, callOfE_ok ce_ref36_Gradient trivial⟩ h
-- sawmill/sawmillref38.steep: loops [2]; state: params 0..1, then [2, 4, 5, 6]
attribute [simp] Tryz.f27
noncomputable def an_ref38_steep : Ann := ⟨[1, 2, 4, 5, 6], [10, 34], [], [(2, [1, 2, 5])], [(0, []), (1, [1, 2, 5])], some [4], [], [], []⟩
@[simp] theorem an_ref38_steep_draws : an_ref38_steep.draws = [] := rfl
@[simp] theorem an_ref38_steep_exits : an_ref38_steep.exits = [(0, []), (1, [1, 2, 5])] := rfl
@[simp] theorem an_ref38_steep_rets : an_ref38_steep.rets = some [4] := rfl
@[simp] theorem an_ref38_steep_keep : an_ref38_steep.keep = [1, 2, 4, 5, 6] := rfl
@[simp] theorem an_ref38_steep_cond : an_ref38_steep.cond = [10, 34] := rfl
@[simp] theorem an_ref38_steep_rows : an_ref38_steep.rows = [] := rfl
@[simp] theorem an_ref38_steep_loops : an_ref38_steep.loops = [(2, [1, 2, 5])] := rfl
@[simp] theorem an_ref38_steep_ecalls : an_ref38_steep.ecalls = [] := rfl
@[simp] theorem an_ref38_steep_crows : an_ref38_steep.crows = [] := rfl
@[simp] noncomputable def cl_ref38_steep : List (Nat × (List D → Option D)) := [(52, F_ref36_Gradient)]
@[simp] noncomputable def ce_ref38_steep : List (Nat × (List (Nat × O) → List D → Option (D × List (Nat × O)))) := []
noncomputable def c_ref38_steep : CT := ⟨callOf (cl_ref38_steep ), callOfE ce_ref38_steep, gl⟩
@[simp] theorem c_ref38_steep_p (f : FuncId) (ds : List D) : c_ref38_steep.p f ds = callOf (cl_ref38_steep ) f ds := Eq.trans rfl rfl
@[simp] theorem c_ref38_steep_e (f : FuncId) (hs : List (Nat × O)) (ds : List D) : c_ref38_steep.e f hs ds = callOfE ce_ref38_steep f hs ds := Eq.trans rfl rfl
@[simp] theorem c_ref38_steep_g (g : Nat) : c_ref38_steep.g g = gl g := Eq.trans rfl rfl
noncomputable def L_ref38_steep (i n : Nat) (s : St) : Option (E × St) := atN Tryz.prog c_ref38_steep an_ref38_steep 35 (bodyOf Tryz.f27) i n s
noncomputable def H_ref38_steep (n i : Nat) (s : St) : Option (E × St) := atH Tryz.prog c_ref38_steep an_ref38_steep 35 (bodyOf Tryz.f27) n i s
@[simp] theorem H_ref38_steep_eq (n i : Nat) (s : St) : H_ref38_steep n i s = L_ref38_steep i n (headOf (an_ref38_steep.loops.lookup i) s) := rfl
noncomputable def R_ref38_steep (i : Nat) (s : St) : Option (E × St) := stepL Tryz.prog c_ref38_steep an_ref38_steep 35 (bodyOf Tryz.f27) i s
theorem lok_ref38_steep : okLoops (bodyOf Tryz.f27) = true := by kernel_rfl
theorem L_ref38_steep_zero (i : Nat) (s : St) : L_ref38_steep i 0 s = none := rfl
theorem L_ref38_steep_succ (i n : Nat) (s : St) : L_ref38_steep i (n + 1) s = andThen (R_ref38_steep i s) (H_ref38_steep n i) := atN_succ lok_ref38_steep i n s
theorem R_ref38_steep_eq (i : Nat) (s : St) : R_ref38_steep i s = runS Tryz.prog c_ref38_steep (H_ref38_steep bigL) an_ref38_steep 35 (loopAt (bodyOf Tryz.f27) i) s := rfl
noncomputable def F_ref38_steep (ds : List D) : Option D := runF Tryz.prog c_ref38_steep an_ref38_steep 35 (bodyOf Tryz.f27) [.tmp 4] ds
theorem F_ref38_steep_eq (ds : List D) : F_ref38_steep ds = runG Tryz.prog c_ref38_steep (H_ref38_steep bigL) an_ref38_steep 35 (bodyOf Tryz.f27) [.tmp 4] ds := runG_eq lok_ref38_steep _ ds
theorem C_ref38_steep (ds : List D) (r : D) (h : F_ref38_steep ds = some r) : Contract Tryz.prog gl 27 ds r := contract_of mix Tryz.func27 rfl (by kernel_rfl) (by kernel_rfl) (by decide) (call := c_ref38_steep) ⟨callOf_ok cl_ref38_steep ⟨C_ref36_Gradient, trivial⟩, callOfE_ok ce_ref38_steep trivial⟩ h
-- sawmill/sawmillref38.Mean: loops [5]; state: params 0..0, then [1, 2, 3, 4]
attribute [simp] Tryz.f29
noncomputable def an_ref38_Mean : Ann := ⟨[1, 2, 3, 4], [8, 13], [], [(5, [1, 3, 4])], [(0, [1, 3]), (1, [1, 3, 4])], some [2], [], [], []⟩
@[simp] theorem an_ref38_Mean_draws : an_ref38_Mean.draws = [] := rfl
@[simp] theorem an_ref38_Mean_exits : an_ref38_Mean.exits = [(0, [1, 3]), (1, [1, 3, 4])] := rfl
@[simp] theorem an_ref38_Mean_rets : an_ref38_Mean.rets = some [2] := rfl
@[simp] theorem an_ref38_Mean_keep : an_ref38_Mean.keep = [1, 2, 3, 4] := rfl
@[simp] theorem an_ref38_Mean_cond : an_ref38_Mean.cond = [8, 13] := rfl
@[simp] theorem an_ref38_Mean_rows : an_ref38_Mean.rows = [] := rfl
@[simp] theorem an_ref38_Mean_loops : an_ref38_Mean.loops = [(5, [1, 3, 4])] := rfl
@[simp] theorem an_ref38_Mean_ecalls : an_ref38_Mean.ecalls = [] := rfl
@[simp] theorem an_ref38_Mean_crows : an_ref38_Mean.crows = [] := rfl
@[simp] noncomputable def cl_ref38_Mean : List (Nat × (List D → Option D)) := []
@[simp] noncomputable def ce_ref38_Mean : List (Nat × (List (Nat × O) → List D → Option (D × List (Nat × O)))) := []
noncomputable def c_ref38_Mean : CT := ⟨callOf (cl_ref38_Mean ), callOfE ce_ref38_Mean, gl⟩
@[simp] theorem c_ref38_Mean_p (f : FuncId) (ds : List D) : c_ref38_Mean.p f ds = callOf (cl_ref38_Mean ) f ds := Eq.trans rfl rfl
@[simp] theorem c_ref38_Mean_e (f : FuncId) (hs : List (Nat × O)) (ds : List D) : c_ref38_Mean.e f hs ds = callOfE ce_ref38_Mean f hs ds := Eq.trans rfl rfl
@[simp] theorem c_ref38_Mean_g (g : Nat) : c_ref38_Mean.g g = gl g := Eq.trans rfl rfl
noncomputable def L_ref38_Mean (i n : Nat) (s : St) : Option (E × St) := atN Tryz.prog c_ref38_Mean an_ref38_Mean 30 (bodyOf Tryz.f29) i n s
noncomputable def H_ref38_Mean (n i : Nat) (s : St) : Option (E × St) := atH Tryz.prog c_ref38_Mean an_ref38_Mean 30 (bodyOf Tryz.f29) n i s
@[simp] theorem H_ref38_Mean_eq (n i : Nat) (s : St) : H_ref38_Mean n i s = L_ref38_Mean i n (headOf (an_ref38_Mean.loops.lookup i) s) := rfl
noncomputable def R_ref38_Mean (i : Nat) (s : St) : Option (E × St) := stepL Tryz.prog c_ref38_Mean an_ref38_Mean 30 (bodyOf Tryz.f29) i s
theorem lok_ref38_Mean : okLoops (bodyOf Tryz.f29) = true := by kernel_rfl
theorem L_ref38_Mean_zero (i : Nat) (s : St) : L_ref38_Mean i 0 s = none := rfl
theorem L_ref38_Mean_succ (i n : Nat) (s : St) : L_ref38_Mean i (n + 1) s = andThen (R_ref38_Mean i s) (H_ref38_Mean n i) := atN_succ lok_ref38_Mean i n s
theorem R_ref38_Mean_eq (i : Nat) (s : St) : R_ref38_Mean i s = runS Tryz.prog c_ref38_Mean (H_ref38_Mean bigL) an_ref38_Mean 30 (loopAt (bodyOf Tryz.f29) i) s := rfl
noncomputable def F_ref38_Mean (ds : List D) : Option D := runF Tryz.prog c_ref38_Mean an_ref38_Mean 30 (bodyOf Tryz.f29) [.tmp 2] ds
theorem F_ref38_Mean_eq (ds : List D) : F_ref38_Mean ds = runG Tryz.prog c_ref38_Mean (H_ref38_Mean bigL) an_ref38_Mean 30 (bodyOf Tryz.f29) [.tmp 2] ds := runG_eq lok_ref38_Mean _ ds
theorem C_ref38_Mean (ds : List D) (r : D) (h : F_ref38_Mean ds = some r) : Contract Tryz.prog gl 29 ds r := contract_of mix Tryz.func29 rfl (by kernel_rfl) (by kernel_rfl) (by decide) (call := c_ref38_Mean) ⟨callOf_ok cl_ref38_Mean trivial, callOfE_ok ce_ref38_Mean trivial⟩ h
-- sawmill/sawmillref37.Ends: loops []; state: params 0..3, then [4, 8, 9, 10]
attribute [simp] Tryz.f28
noncomputable def an_ref37_Ends : Ann := ⟨[1, 4, 8, 9, 10], [19, 44], [], [], [], some [8, 9], [], [], []⟩
@[simp] theorem an_ref37_Ends_draws : an_ref37_Ends.draws = [] := rfl
@[simp] theorem an_ref37_Ends_exits : an_ref37_Ends.exits = [] := rfl
@[simp] theorem an_ref37_Ends_rets : an_ref37_Ends.rets = some [8, 9] := rfl
@[simp] theorem an_ref37_Ends_keep : an_ref37_Ends.keep = [1, 4, 8, 9, 10] := rfl
@[simp] theorem an_ref37_Ends_cond : an_ref37_Ends.cond = [19, 44] := rfl
@[simp] theorem an_ref37_Ends_rows : an_ref37_Ends.rows = [] := rfl
@[simp] theorem an_ref37_Ends_loops : an_ref37_Ends.loops = [] := rfl
@[simp] theorem an_ref37_Ends_ecalls : an_ref37_Ends.ecalls = [] := rfl
@[simp] theorem an_ref37_Ends_crows : an_ref37_Ends.crows = [] := rfl
@[simp] noncomputable def cl_ref37_Ends : List (Nat × (List D → Option D)) := []
@[simp] noncomputable def ce_ref37_Ends : List (Nat × (List (Nat × O) → List D → Option (D × List (Nat × O)))) := []
noncomputable def c_ref37_Ends : CT := ⟨callOf (cl_ref37_Ends ), callOfE ce_ref37_Ends, gl⟩
@[simp] theorem c_ref37_Ends_p (f : FuncId) (ds : List D) : c_ref37_Ends.p f ds = callOf (cl_ref37_Ends ) f ds := Eq.trans rfl rfl
@[simp] theorem c_ref37_Ends_e (f : FuncId) (hs : List (Nat × O)) (ds : List D) : c_ref37_Ends.e f hs ds = callOfE ce_ref37_Ends f hs ds := Eq.trans rfl rfl
@[simp] theorem c_ref37_Ends_g (g : Nat) : c_ref37_Ends.g g = gl g := Eq.trans rfl rfl
noncomputable def L_ref37_Ends (i n : Nat) (s : St) : Option (E × St) := atN Tryz.prog c_ref37_Ends an_ref37_Ends 48 (bodyOf Tryz.f28) i n s
noncomputable def H_ref37_Ends (n i : Nat) (s : St) : Option (E × St) := atH Tryz.prog c_ref37_Ends an_ref37_Ends 48 (bodyOf Tryz.f28) n i s
@[simp] theorem H_ref37_Ends_eq (n i : Nat) (s : St) : H_ref37_Ends n i s = L_ref37_Ends i n (headOf (an_ref37_Ends.loops.lookup i) s) := rfl
noncomputable def R_ref37_Ends (i : Nat) (s : St) : Option (E × St) := stepL Tryz.prog c_ref37_Ends an_ref37_Ends 48 (bodyOf Tryz.f28) i s
theorem lok_ref37_Ends : okLoops (bodyOf Tryz.f28) = true := by kernel_rfl
noncomputable def F_ref37_Ends (ds : List D) : Option D := runF Tryz.prog c_ref37_Ends an_ref37_Ends 48 (bodyOf Tryz.f28) [.tmp 8, .tmp 9] ds
theorem F_ref37_Ends_eq (ds : List D) : F_ref37_Ends ds = runG Tryz.prog c_ref37_Ends (H_ref37_Ends bigL) an_ref37_Ends 48 (bodyOf Tryz.f28) [.tmp 8, .tmp 9] ds := runG_eq lok_ref37_Ends _ ds
theorem C_ref37_Ends (ds : List D) (r : D) (h : F_ref37_Ends ds = some r) : Contract Tryz.prog gl 28 ds r := contract_of mix Tryz.func28 rfl (by kernel_rfl) (by kernel_rfl) (by decide) (call := c_ref37_Ends) ⟨callOf_ok cl_ref37_Ends trivial, callOfE_ok ce_ref37_Ends trivial⟩ h
-- sawmill/sawmillref38.Tick: loops []; state: params 0..1, then [2, 4, 5, 6, 7, 8, 9]
attribute [simp] Tryz.f9
noncomputable def an_ref38_Tick : Ann := ⟨[1, 2, 4, 5, 6, 7, 8, 9], [11, 41, 72], [], [], [], some [4, 5], [(3, 13), (12, 13), (15, 5)], [], []⟩
@[simp] theorem an_ref38_Tick_draws : an_ref38_Tick.draws = [(3, 13), (12, 13), (15, 5)] := rfl
@[simp] theorem an_ref38_Tick_exits : an_ref38_Tick.exits = [] := rfl
@[simp] theorem an_ref38_Tick_rets : an_ref38_Tick.rets = some [4, 5] := rfl
@[simp] theorem an_ref38_Tick_keep : an_ref38_Tick.keep = [1, 2, 4, 5, 6, 7, 8, 9] := rfl
@[simp] theorem an_ref38_Tick_cond : an_ref38_Tick.cond = [11, 41, 72] := rfl
@[simp] theorem an_ref38_Tick_rows : an_ref38_Tick.rows = [] := rfl
@[simp] theorem an_ref38_Tick_loops : an_ref38_Tick.loops = [] := rfl
@[simp] theorem an_ref38_Tick_ecalls : an_ref38_Tick.ecalls = [] := rfl
@[simp] theorem an_ref38_Tick_crows : an_ref38_Tick.crows = [] := rfl
@[simp] noncomputable def cl_ref38_Tick : List (Nat × (List D → Option D)) := [(22, F_ref38_Done), (23, F_ref35_Next), (24, F_ref37_Target), (25, F_ref38_has), (26, F_ref38_dried), (27, F_ref38_steep), (28, F_ref37_Ends), (29, F_ref38_Mean)]
@[simp] noncomputable def ce_ref38_Tick : List (Nat × (List (Nat × O) → List D → Option (D × List (Nat × O)))) := []
noncomputable def c_ref38_Tick : CT := ⟨callOf (cl_ref38_Tick ), callOfE ce_ref38_Tick, gl⟩
@[simp] theorem c_ref38_Tick_p (f : FuncId) (ds : List D) : c_ref38_Tick.p f ds = callOf (cl_ref38_Tick ) f ds := Eq.trans rfl rfl
@[simp] theorem c_ref38_Tick_e (f : FuncId) (hs : List (Nat × O)) (ds : List D) : c_ref38_Tick.e f hs ds = callOfE ce_ref38_Tick f hs ds := Eq.trans rfl rfl
@[simp] theorem c_ref38_Tick_g (g : Nat) : c_ref38_Tick.g g = gl g := Eq.trans rfl rfl
noncomputable def L_ref38_Tick (i n : Nat) (s : St) : Option (E × St) := atN Tryz.prog c_ref38_Tick an_ref38_Tick 80 (bodyOf Tryz.f9) i n s
noncomputable def H_ref38_Tick (n i : Nat) (s : St) : Option (E × St) := atH Tryz.prog c_ref38_Tick an_ref38_Tick 80 (bodyOf Tryz.f9) n i s
@[simp] theorem H_ref38_Tick_eq (n i : Nat) (s : St) : H_ref38_Tick n i s = L_ref38_Tick i n (headOf (an_ref38_Tick.loops.lookup i) s) := rfl
noncomputable def R_ref38_Tick (i : Nat) (s : St) : Option (E × St) := stepL Tryz.prog c_ref38_Tick an_ref38_Tick 80 (bodyOf Tryz.f9) i s
theorem lok_ref38_Tick : okLoops (bodyOf Tryz.f9) = true := by kernel_rfl
noncomputable def F_ref38_Tick (ds : List D) : Option D := runF Tryz.prog c_ref38_Tick an_ref38_Tick 80 (bodyOf Tryz.f9) [.cell 4 41, .tmp 5] ds
theorem F_ref38_Tick_eq (ds : List D) : F_ref38_Tick ds = runG Tryz.prog c_ref38_Tick (H_ref38_Tick bigL) an_ref38_Tick 80 (bodyOf Tryz.f9) [.cell 4 41, .tmp 5] ds := runG_eq lok_ref38_Tick _ ds
theorem C_ref38_Tick (ds : List D) (r : D) (h : F_ref38_Tick ds = some r) : Contract Tryz.prog gl 9 ds r := contract_of mix Tryz.func9 rfl (by kernel_rfl) (by kernel_rfl) (by decide) (call := c_ref38_Tick) ⟨callOf_ok cl_ref38_Tick ⟨C_ref38_Done, C_ref35_Next, C_ref37_Target, C_ref38_has, C_ref38_dried, C_ref38_steep, C_ref37_Ends, C_ref38_Mean, trivial⟩, callOfE_ok ce_ref38_Tick trivial⟩ h
-- sawmill/sawmillref38.SameItems: loops [4]; state: params 0..1, then [4, 5]
attribute [simp] Tryz.f37
noncomputable def an_ref38_SameItems : Ann := ⟨[0, 1, 4, 5], [10, 14, 25], [], [(4, [0, 1, 5])], [(0, []), (1, [0, 1, 5])], some [4], [(6, 8)], [], []⟩
@[simp] theorem an_ref38_SameItems_draws : an_ref38_SameItems.draws = [(6, 8)] := rfl
@[simp] theorem an_ref38_SameItems_exits : an_ref38_SameItems.exits = [(0, []), (1, [0, 1, 5])] := rfl
@[simp] theorem an_ref38_SameItems_rets : an_ref38_SameItems.rets = some [4] := rfl
@[simp] theorem an_ref38_SameItems_keep : an_ref38_SameItems.keep = [0, 1, 4, 5] := rfl
@[simp] theorem an_ref38_SameItems_cond : an_ref38_SameItems.cond = [10, 14, 25] := rfl
@[simp] theorem an_ref38_SameItems_rows : an_ref38_SameItems.rows = [] := rfl
@[simp] theorem an_ref38_SameItems_loops : an_ref38_SameItems.loops = [(4, [0, 1, 5])] := rfl
@[simp] theorem an_ref38_SameItems_ecalls : an_ref38_SameItems.ecalls = [] := rfl
@[simp] theorem an_ref38_SameItems_crows : an_ref38_SameItems.crows = [] := rfl
@[simp] noncomputable def cl_ref38_SameItems : List (Nat × (List D → Option D)) := []
@[simp] noncomputable def ce_ref38_SameItems : List (Nat × (List (Nat × O) → List D → Option (D × List (Nat × O)))) := []
noncomputable def c_ref38_SameItems : CT := ⟨callOf (cl_ref38_SameItems ), callOfE ce_ref38_SameItems, gl⟩
@[simp] theorem c_ref38_SameItems_p (f : FuncId) (ds : List D) : c_ref38_SameItems.p f ds = callOf (cl_ref38_SameItems ) f ds := Eq.trans rfl rfl
@[simp] theorem c_ref38_SameItems_e (f : FuncId) (hs : List (Nat × O)) (ds : List D) : c_ref38_SameItems.e f hs ds = callOfE ce_ref38_SameItems f hs ds := Eq.trans rfl rfl
@[simp] theorem c_ref38_SameItems_g (g : Nat) : c_ref38_SameItems.g g = gl g := Eq.trans rfl rfl
noncomputable def L_ref38_SameItems (i n : Nat) (s : St) : Option (E × St) := atN Tryz.prog c_ref38_SameItems an_ref38_SameItems 26 (bodyOf Tryz.f37) i n s
noncomputable def H_ref38_SameItems (n i : Nat) (s : St) : Option (E × St) := atH Tryz.prog c_ref38_SameItems an_ref38_SameItems 26 (bodyOf Tryz.f37) n i s
@[simp] theorem H_ref38_SameItems_eq (n i : Nat) (s : St) : H_ref38_SameItems n i s = L_ref38_SameItems i n (headOf (an_ref38_SameItems.loops.lookup i) s) := rfl
noncomputable def R_ref38_SameItems (i : Nat) (s : St) : Option (E × St) := stepL Tryz.prog c_ref38_SameItems an_ref38_SameItems 26 (bodyOf Tryz.f37) i s
theorem lok_ref38_SameItems : okLoops (bodyOf Tryz.f37) = true := by kernel_rfl
theorem L_ref38_SameItems_zero (i : Nat) (s : St) : L_ref38_SameItems i 0 s = none := rfl
theorem L_ref38_SameItems_succ (i n : Nat) (s : St) : L_ref38_SameItems i (n + 1) s = andThen (R_ref38_SameItems i s) (H_ref38_SameItems n i) := atN_succ lok_ref38_SameItems i n s
theorem R_ref38_SameItems_eq (i : Nat) (s : St) : R_ref38_SameItems i s = runS Tryz.prog c_ref38_SameItems (H_ref38_SameItems bigL) an_ref38_SameItems 26 (loopAt (bodyOf Tryz.f37) i) s := rfl
noncomputable def F_ref38_SameItems (ds : List D) : Option D := runF Tryz.prog c_ref38_SameItems an_ref38_SameItems 26 (bodyOf Tryz.f37) [.tmp 4] ds
theorem F_ref38_SameItems_eq (ds : List D) : F_ref38_SameItems ds = runG Tryz.prog c_ref38_SameItems (H_ref38_SameItems bigL) an_ref38_SameItems 26 (bodyOf Tryz.f37) [.tmp 4] ds := runG_eq lok_ref38_SameItems _ ds
theorem C_ref38_SameItems (ds : List D) (r : D) (h : F_ref38_SameItems ds = some r) : Contract Tryz.prog gl 37 ds r := contract_of mix Tryz.func37 rfl (by kernel_rfl) (by kernel_rfl) (by decide) (call := c_ref38_SameItems) ⟨callOf_ok cl_ref38_SameItems trivial, callOfE_ok ce_ref38_SameItems trivial⟩ h
-- sawmill/sawmilllaw38.is: loops []; state: params 0..1, then [3, 4, 5, 6]
attribute [simp] Tryz.f11
noncomputable def an_law38_is : Ann := ⟨[0, 3, 4, 5, 6], [], [], [], [], some [4], [(2, 43)], [], []⟩
@[simp] theorem an_law38_is_draws : an_law38_is.draws = [(2, 43)] := rfl
@[simp] theorem an_law38_is_exits : an_law38_is.exits = [] := rfl
@[simp] theorem an_law38_is_rets : an_law38_is.rets = some [4] := rfl
@[simp] theorem an_law38_is_keep : an_law38_is.keep = [0, 3, 4, 5, 6] := rfl
@[simp] theorem an_law38_is_cond : an_law38_is.cond = [] := rfl
@[simp] theorem an_law38_is_rows : an_law38_is.rows = [] := rfl
@[simp] theorem an_law38_is_loops : an_law38_is.loops = [] := rfl
@[simp] theorem an_law38_is_ecalls : an_law38_is.ecalls = [] := rfl
@[simp] theorem an_law38_is_crows : an_law38_is.crows = [] := rfl
@[simp] noncomputable def cl_law38_is : List (Nat × (List D → Option D)) := [(12, F_kiln_Kiln_Climate), (13, F_law38_items), (14, F_kiln_Kiln_Stage), (15, F_kiln_Kiln_Done), (16, F_kiln_Kiln_Ticks), (22, F_ref38_Done), (29, F_ref38_Mean), (36, F_kiln_Kiln_Mean), (37, F_ref38_SameItems)]
@[simp] noncomputable def ce_law38_is : List (Nat × (List (Nat × O) → List D → Option (D × List (Nat × O)))) := []
noncomputable def c_law38_is : CT := ⟨callOf (cl_law38_is ), callOfE ce_law38_is, gl⟩
@[simp] theorem c_law38_is_p (f : FuncId) (ds : List D) : c_law38_is.p f ds = callOf (cl_law38_is ) f ds := Eq.trans rfl rfl
@[simp] theorem c_law38_is_e (f : FuncId) (hs : List (Nat × O)) (ds : List D) : c_law38_is.e f hs ds = callOfE ce_law38_is f hs ds := Eq.trans rfl rfl
@[simp] theorem c_law38_is_g (g : Nat) : c_law38_is.g g = gl g := Eq.trans rfl rfl
noncomputable def L_law38_is (i n : Nat) (s : St) : Option (E × St) := atN Tryz.prog c_law38_is an_law38_is 57 (bodyOf Tryz.f11) i n s
noncomputable def H_law38_is (n i : Nat) (s : St) : Option (E × St) := atH Tryz.prog c_law38_is an_law38_is 57 (bodyOf Tryz.f11) n i s
@[simp] theorem H_law38_is_eq (n i : Nat) (s : St) : H_law38_is n i s = L_law38_is i n (headOf (an_law38_is.loops.lookup i) s) := rfl
noncomputable def R_law38_is (i : Nat) (s : St) : Option (E × St) := stepL Tryz.prog c_law38_is an_law38_is 57 (bodyOf Tryz.f11) i s
theorem lok_law38_is : okLoops (bodyOf Tryz.f11) = true := by kernel_rfl
noncomputable def F_law38_is (ds : List D) : Option D := runF Tryz.prog c_law38_is an_law38_is 57 (bodyOf Tryz.f11) [.tmp 4] ds
theorem F_law38_is_eq (ds : List D) : F_law38_is ds = runG Tryz.prog c_law38_is (H_law38_is bigL) an_law38_is 57 (bodyOf Tryz.f11) [.tmp 4] ds := runG_eq lok_law38_is _ ds
theorem C_law38_is (ds : List D) (r : D) (h : F_law38_is ds = some r) : Contract Tryz.prog gl 11 ds r := contract_of mix Tryz.func11 rfl (by kernel_rfl) (by kernel_rfl) (by decide) (call := c_law38_is) ⟨callOf_ok cl_law38_is ⟨C_kiln_Kiln_Climate, C_law38_items, C_kiln_Kiln_Stage, C_kiln_Kiln_Done, C_kiln_Kiln_Ticks, C_ref38_Done, C_ref38_Mean, C_kiln_Kiln_Mean, C_ref38_SameItems, trivial⟩, callOfE_ok ce_law38_is trivial⟩ h
-- sawmill/sawmilllaw38.KilnTicks: loops [10]; state: params 0..1, then [2, 4, 5, 6, 7, 8, 9, 10, 11]
attribute [simp] Tryz.f3
noncomputable def an_law38_KilnTicks : Ann := ⟨[1, 2, 4, 5, 6, 7, 8, 9, 10, 11], [19, 38, 44, 57, 82], [], [(10, [1, 5, 7, 9])], [(0, []), (1, [1, 5, 7, 9])], some [4], [(12, 11)], [(7, false), (10, false)], []⟩
@[simp] theorem an_law38_KilnTicks_draws : an_law38_KilnTicks.draws = [(12, 11)] := rfl
@[simp] theorem an_law38_KilnTicks_exits : an_law38_KilnTicks.exits = [(0, []), (1, [1, 5, 7, 9])] := rfl
@[simp] theorem an_law38_KilnTicks_rets : an_law38_KilnTicks.rets = some [4] := rfl
@[simp] theorem an_law38_KilnTicks_keep : an_law38_KilnTicks.keep = [1, 2, 4, 5, 6, 7, 8, 9, 10, 11] := rfl
@[simp] theorem an_law38_KilnTicks_cond : an_law38_KilnTicks.cond = [19, 38, 44, 57, 82] := rfl
@[simp] theorem an_law38_KilnTicks_rows : an_law38_KilnTicks.rows = [] := rfl
@[simp] theorem an_law38_KilnTicks_loops : an_law38_KilnTicks.loops = [(10, [1, 5, 7, 9])] := rfl
@[simp] theorem an_law38_KilnTicks_ecalls : an_law38_KilnTicks.ecalls = [(7, false), (10, false)] := rfl
@[simp] theorem an_law38_KilnTicks_crows : an_law38_KilnTicks.crows = [] := rfl
@[simp] noncomputable def cl_law38_KilnTicks : List (Nat × (List D → Option D)) := [(4, F_law38_light), (5, F_law38_few), (6, F_law38_awake), (8, F_ref38_New), (9, F_ref38_Tick), (11, F_law38_is)]
@[simp] noncomputable def ce_law38_KilnTicks : List (Nat × (List (Nat × O) → List D → Option (D × List (Nat × O)))) := [(7, E_law38_begun), (10, E_kiln_Kiln_Tick)]
noncomputable def c_law38_KilnTicks : CT := ⟨callOf (cl_law38_KilnTicks ), callOfE ce_law38_KilnTicks, gl⟩
@[simp] theorem c_law38_KilnTicks_p (f : FuncId) (ds : List D) : c_law38_KilnTicks.p f ds = callOf (cl_law38_KilnTicks ) f ds := Eq.trans rfl rfl
@[simp] theorem c_law38_KilnTicks_e (f : FuncId) (hs : List (Nat × O)) (ds : List D) : c_law38_KilnTicks.e f hs ds = callOfE ce_law38_KilnTicks f hs ds := Eq.trans rfl rfl
@[simp] theorem c_law38_KilnTicks_g (g : Nat) : c_law38_KilnTicks.g g = gl g := Eq.trans rfl rfl
noncomputable def L_law38_KilnTicks (i n : Nat) (s : St) : Option (E × St) := atN Tryz.prog c_law38_KilnTicks an_law38_KilnTicks 85 (bodyOf Tryz.f3) i n s
noncomputable def H_law38_KilnTicks (n i : Nat) (s : St) : Option (E × St) := atH Tryz.prog c_law38_KilnTicks an_law38_KilnTicks 85 (bodyOf Tryz.f3) n i s
@[simp] theorem H_law38_KilnTicks_eq (n i : Nat) (s : St) : H_law38_KilnTicks n i s = L_law38_KilnTicks i n (headOf (an_law38_KilnTicks.loops.lookup i) s) := rfl
noncomputable def R_law38_KilnTicks (i : Nat) (s : St) : Option (E × St) := stepL Tryz.prog c_law38_KilnTicks an_law38_KilnTicks 85 (bodyOf Tryz.f3) i s
theorem lok_law38_KilnTicks : okLoops (bodyOf Tryz.f3) = true := by kernel_rfl
theorem L_law38_KilnTicks_zero (i : Nat) (s : St) : L_law38_KilnTicks i 0 s = none := rfl
theorem L_law38_KilnTicks_succ (i n : Nat) (s : St) : L_law38_KilnTicks i (n + 1) s = andThen (R_law38_KilnTicks i s) (H_law38_KilnTicks n i) := atN_succ lok_law38_KilnTicks i n s
theorem R_law38_KilnTicks_eq (i : Nat) (s : St) : R_law38_KilnTicks i s = runS Tryz.prog c_law38_KilnTicks (H_law38_KilnTicks bigL) an_law38_KilnTicks 85 (loopAt (bodyOf Tryz.f3) i) s := rfl
noncomputable def F_law38_KilnTicks (ds : List D) : Option D := runF Tryz.prog c_law38_KilnTicks an_law38_KilnTicks 85 (bodyOf Tryz.f3) [.tmp 4] ds
theorem F_law38_KilnTicks_eq (ds : List D) : F_law38_KilnTicks ds = runG Tryz.prog c_law38_KilnTicks (H_law38_KilnTicks bigL) an_law38_KilnTicks 85 (bodyOf Tryz.f3) [.tmp 4] ds := runG_eq lok_law38_KilnTicks _ ds
theorem C_law38_KilnTicks (ds : List D) (r : D) (h : F_law38_KilnTicks ds = some r) : Contract Tryz.prog gl 3 ds r := contract_of mix Tryz.func3 rfl (by kernel_rfl) (by kernel_rfl) (by decide) (call := c_law38_KilnTicks) ⟨callOf_ok cl_law38_KilnTicks ⟨C_law38_light, C_law38_few, C_law38_awake, C_ref38_New, C_ref38_Tick, C_law38_is, trivial⟩, callOfE_ok ce_law38_KilnTicks ⟨CE_law38_begun, CE_kiln_Kiln_Tick, trivial⟩⟩ h
end Go.Proofs.YthgamgdcjgbmnaaGreatDoor

