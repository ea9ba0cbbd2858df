/-
  Printed by gen.py for this seat: functions once more, with objects.
-/
import Derived.Test.YtdefohgkniglpaaGreatDoorGen
import Derived.Test.YtdefohgkniglpaaGreatDoorPure
namespace Go.Proofs.YtdefohgkniglpaaGreatDoor
open Go Go.Abs
set_option maxRecDepth 100000
set_option linter.unusedSimpArgs false
set_option linter.unusedVariables false
-- sawmill/sawmilllaw40.dry: loops []; state: params 0..0, then [1, 2, 3, 4]; WITH OBJECTS
attribute [simp] Tryz.f13
noncomputable def an_law40_dry_obj : Ann := ⟨[1, 2, 3, 4], [], [], [], [], some [2, 3, 4], [], [], [], []⟩
@[simp] theorem an_law40_dry_obj_draws : an_law40_dry_obj.draws = [] := rfl
@[simp] theorem an_law40_dry_obj_exits : an_law40_dry_obj.exits = [] := rfl
@[simp] theorem an_law40_dry_obj_rets : an_law40_dry_obj.rets = some [2, 3, 4] := rfl
@[simp] theorem an_law40_dry_obj_keep : an_law40_dry_obj.keep = [1, 2, 3, 4] := rfl
@[simp] theorem an_law40_dry_obj_cond : an_law40_dry_obj.cond = [] := rfl
@[simp] theorem an_law40_dry_obj_rows : an_law40_dry_obj.rows = [] := rfl
@[simp] theorem an_law40_dry_obj_loops : an_law40_dry_obj.loops = [] := rfl
@[simp] theorem an_law40_dry_obj_ecalls : an_law40_dry_obj.ecalls = [] := rfl
@[simp] theorem an_law40_dry_obj_crows : an_law40_dry_obj.crows = [] := rfl
@[simp] theorem an_law40_dry_obj_tails : an_law40_dry_obj.tails = [] := rfl
@[simp] noncomputable def cl_law40_dry_obj : List (Nat × (List D → Option D)) := [(27, F_charge_Dry)]
@[simp] noncomputable def ce_law40_dry_obj : List (Nat × (List (Nat × O) → List D → Option (D × List (Nat × O)))) := []
noncomputable def c_law40_dry_obj : CT := ⟨callOf (cl_law40_dry_obj ), callOfE ce_law40_dry_obj, gl⟩
@[simp] theorem c_law40_dry_obj_p (f : FuncId) (ds : List D) : c_law40_dry_obj.p f ds = callOf (cl_law40_dry_obj ) f ds := Eq.trans rfl rfl
@[simp] theorem c_law40_dry_obj_e (f : FuncId) (hs : List (Nat × O)) (ds : List D) : c_law40_dry_obj.e f hs ds = callOfE ce_law40_dry_obj f hs ds := Eq.trans rfl rfl
@[simp] theorem c_law40_dry_obj_g (g : Nat) : c_law40_dry_obj.g g = gl g := Eq.trans rfl rfl
noncomputable def L_law40_dry_obj (i n : Nat) (s : St) : Option (E × St) := atN Tryz.prog c_law40_dry_obj an_law40_dry_obj 19 (bodyOf Tryz.f13) i n s
noncomputable def H_law40_dry_obj (n i : Nat) (s : St) : Option (E × St) := atH Tryz.prog c_law40_dry_obj an_law40_dry_obj 19 (bodyOf Tryz.f13) n i s
@[simp] theorem H_law40_dry_obj_eq (n i : Nat) (s : St) : H_law40_dry_obj n i s = L_law40_dry_obj i n (headOf (an_law40_dry_obj.loops.lookup i) s) := rfl
noncomputable def R_law40_dry_obj (i : Nat) (s : St) : Option (E × St) := stepL Tryz.prog c_law40_dry_obj an_law40_dry_obj 19 (bodyOf Tryz.f13) i s
theorem lok_law40_dry_obj : okLoops (bodyOf Tryz.f13) = true := by kernel_rfl
noncomputable def E_law40_dry_obj (hs : List (Nat × O)) (ds : List D) : Option (D × List (Nat × O)) := runE Tryz.prog c_law40_dry_obj an_law40_dry_obj 19 (bodyOf Tryz.f13) [.tmp 2, .cell 3 34, .tmp 4] hs ds
theorem E_law40_dry_obj_eq (hs : List (Nat × O)) (ds : List D) : E_law40_dry_obj hs ds = runGE Tryz.prog c_law40_dry_obj (H_law40_dry_obj bigL) an_law40_dry_obj 19 (bodyOf Tryz.f13) [.tmp 2, .cell 3 34, .tmp 4] hs ds := runGE_eq lok_law40_dry_obj _ hs ds
theorem CE_law40_dry_obj (hs : List (Nat × O)) (ds : List D) (r : D) (hs' : List (Nat × O)) (h : E_law40_dry_obj hs ds = some (r, hs')) : ContractE Tryz.prog gl 13 hs ds r hs' := contractE_of mix Tryz.func13 rfl (by kernel_rfl) (by kernel_rfl) (by decide) (call := c_law40_dry_obj) ⟨callOf_ok cl_law40_dry_obj ⟨C_charge_Dry, trivial⟩, callOfE_ok ce_law40_dry_obj trivial⟩ h
noncomputable def EP_ref38_New (hs : List (Nat × O)) (ds : List D) : Option (D × List (Nat × O)) := pureE F_ref38_New hs ds
theorem EP_ref38_New_eq (ds : List D) : EP_ref38_New [] ds = if ds.all okA = true then (F_ref38_New ds).map (fun r => (r, [])) else none := Eq.trans rfl rfl
theorem CEP_ref38_New (hs : List (Nat × O)) (ds : List D) (r : D) (hs' : List (Nat × O)) (h : EP_ref38_New hs ds = some (r, hs')) : ContractE Tryz.prog gl 29 hs ds r hs' := pureE_ok C_ref38_New hs ds r hs' h
-- sawmill/sawmillref40.Dry: loops [11, 19, 25]; state: params 0..4, then [6, 7, 10, 11, 12, 13, 14, 15, 16, 17, 18, 19, 20, 21, 22, 23]
attribute [simp] Tryz.f14
noncomputable def an_ref40_DryX : Ann := ⟨[0, 3, 4, 6, 7, 10, 11, 12, 13, 14, 15, 16, 17, 18, 19, 20, 21, 22, 23], [29, 37, 42, 48, 73, 93, 110], [15, 21, 117], [(11, [0, 3, 4, 6, 7, 11, 15, 16]), (19, [0, 3, 4, 11, 17, 19, 20]), (25, [0, 11, 17, 19, 21, 22])], [(0, [0, 3, 4, 6, 7, 11, 15]), (1, [0, 3, 4, 6, 7, 11, 15, 16]), (2, [0, 11, 17, 19]), (3, [0, 3, 4, 11, 17, 19, 20]), (4, [11, 19, 21]), (5, [0, 11, 17, 19, 21, 22])], some [10, 11, 12], [(13, 13), (17, 11), (21, 9), (32, 0)], [(29, false)], [], [(32, (.alt 0 (.alt 1 (.alt 2 (.alt 3 (.alt 4 .leaf .leaf) .leaf) .leaf) (.alt 2 (.alt 1 (.alt 3 (.alt 4 .leaf .leaf) .leaf) .leaf) .leaf)) (.alt 1 (.alt 0 (.alt 2 (.alt 3 (.alt 4 .leaf .leaf) .leaf) .leaf) .leaf) .leaf)))]⟩
@[simp] theorem an_ref40_DryX_draws : an_ref40_DryX.draws = [(13, 13), (17, 11), (21, 9), (32, 0)] := rfl
@[simp] theorem an_ref40_DryX_exits : an_ref40_DryX.exits = [(0, [0, 3, 4, 6, 7, 11, 15]), (1, [0, 3, 4, 6, 7, 11, 15, 16]), (2, [0, 11, 17, 19]), (3, [0, 3, 4, 11, 17, 19, 20]), (4, [11, 19, 21]), (5, [0, 11, 17, 19, 21, 22])] := rfl
@[simp] theorem an_ref40_DryX_rets : an_ref40_DryX.rets = some [10, 11, 12] := rfl
@[simp] theorem an_ref40_DryX_keep : an_ref40_DryX.keep = [0, 3, 4, 6, 7, 10, 11, 12, 13, 14, 15, 16, 17, 18, 19, 20, 21, 22, 23] := rfl
@[simp] theorem an_ref40_DryX_cond : an_ref40_DryX.cond = [29, 37, 42, 48, 73, 93, 110] := rfl
@[simp] theorem an_ref40_DryX_rows : an_ref40_DryX.rows = [15, 21, 117] := rfl
@[simp] theorem an_ref40_DryX_loops : an_ref40_DryX.loops = [(11, [0, 3, 4, 6, 7, 11, 15, 16]), (19, [0, 3, 4, 11, 17, 19, 20]), (25, [0, 11, 17, 19, 21, 22])] := rfl
@[simp] theorem an_ref40_DryX_ecalls : an_ref40_DryX.ecalls = [(29, false)] := rfl
@[simp] theorem an_ref40_DryX_crows : an_ref40_DryX.crows = [] := rfl
@[simp] theorem an_ref40_DryX_tails : an_ref40_DryX.tails = [(32, (.alt 0 (.alt 1 (.alt 2 (.alt 3 (.alt 4 .leaf .leaf) .leaf) .leaf) (.alt 2 (.alt 1 (.alt 3 (.alt 4 .leaf .leaf) .leaf) .leaf) .leaf)) (.alt 1 (.alt 0 (.alt 2 (.alt 3 (.alt 4 .leaf .leaf) .leaf) .leaf) .leaf) .leaf)))] := rfl
@[simp] noncomputable def cl_ref40_DryX : List (Nat × (List D → Option D)) := [(8, F_ref40_Check), (24, F_ref40_Thick), (28, F_ref40_checkFaults), (30, F_ref40_seen), (31, F_ref36_Gradient), (32, F_ref38_Done), (33, F_ref38_Tick), (34, F_ref40_At)]
@[simp] noncomputable def ce_ref40_DryX : List (Nat × (List (Nat × O) → List D → Option (D × List (Nat × O)))) := [(29, EP_ref38_New)]
noncomputable def c_ref40_DryX : CT := ⟨callOf (cl_ref40_DryX ), callOfE ce_ref40_DryX, gl⟩
@[simp] theorem c_ref40_DryX_p (f : FuncId) (ds : List D) : c_ref40_DryX.p f ds = callOf (cl_ref40_DryX ) f ds := Eq.trans rfl rfl
@[simp] theorem c_ref40_DryX_e (f : FuncId) (hs : List (Nat × O)) (ds : List D) : c_ref40_DryX.e f hs ds = callOfE ce_ref40_DryX f hs ds := Eq.trans rfl rfl
@[simp] theorem c_ref40_DryX_g (g : Nat) : c_ref40_DryX.g g = gl g := Eq.trans rfl rfl
noncomputable def L_ref40_DryX (i n : Nat) (s : St) : Option (E × St) := atN Tryz.prog c_ref40_DryX an_ref40_DryX 136 (bodyOf Tryz.f14) i n s
noncomputable def H_ref40_DryX (n i : Nat) (s : St) : Option (E × St) := atH Tryz.prog c_ref40_DryX an_ref40_DryX 136 (bodyOf Tryz.f14) n i s
@[simp] theorem H_ref40_DryX_eq (n i : Nat) (s : St) : H_ref40_DryX n i s = L_ref40_DryX i n (headOf (an_ref40_DryX.loops.lookup i) s) := rfl
noncomputable def R_ref40_DryX (i : Nat) (s : St) : Option (E × St) := stepL Tryz.prog c_ref40_DryX an_ref40_DryX 136 (bodyOf Tryz.f14) i s
theorem lok_ref40_DryX : okLoops (bodyOf Tryz.f14) = true := by kernel_rfl
theorem L_ref40_DryX_zero (i : Nat) (s : St) : L_ref40_DryX i 0 s = none := rfl
theorem L_ref40_DryX_succ (i n : Nat) (s : St) : L_ref40_DryX i (n + 1) s = andThen (R_ref40_DryX i s) (H_ref40_DryX n i) := atN_succ lok_ref40_DryX i n s
theorem R_ref40_DryX_eq (i : Nat) (s : St) : R_ref40_DryX i s = runS Tryz.prog c_ref40_DryX (H_ref40_DryX bigL) an_ref40_DryX 136 (loopAt (bodyOf Tryz.f14) i) s := rfl
noncomputable def F_ref40_DryX (ds : List D) : Option D := runF Tryz.prog c_ref40_DryX an_ref40_DryX 136 (bodyOf Tryz.f14) [.tmp 10, .cell 11 41, .tmp 12] ds
theorem F_ref40_DryX_eq (ds : List D) : F_ref40_DryX ds = runG Tryz.prog c_ref40_DryX (H_ref40_DryX bigL) an_ref40_DryX 136 (bodyOf Tryz.f14) [.tmp 10, .cell 11 41, .tmp 12] ds := runG_eq lok_ref40_DryX _ ds
theorem C_ref40_DryX (ds : List D) (r : D) (h : F_ref40_DryX ds = some r) : Contract Tryz.prog gl 14 ds r := contract_of mix Tryz.func14 rfl (by kernel_rfl) (by kernel_rfl) (by decide) (call := c_ref40_DryX) ⟨callOf_ok cl_ref40_DryX ⟨C_ref40_Check, C_ref40_Thick, C_ref40_checkFaults, C_ref40_seen, C_ref36_Gradient, C_ref38_Done, C_ref38_Tick, C_ref40_At, trivial⟩, callOfE_ok ce_ref40_DryX ⟨CEP_ref38_New, trivial⟩⟩ h
-- sawmill/sawmilllaw40.ChargeDries: loops []; state: params 0..0, then [1, 2, 3, 4, 5, 6, 7, 8]
attribute [simp] Tryz.f4
noncomputable def an_law40_ChargeDriesX : Ann := ⟨[1, 2, 3, 4, 5, 6, 7, 8], [11], [], [], [], some [2], [(5, 12)], [], [], []⟩
@[simp] theorem an_law40_ChargeDriesX_draws : an_law40_ChargeDriesX.draws = [(5, 12)] := rfl
@[simp] theorem an_law40_ChargeDriesX_exits : an_law40_ChargeDriesX.exits = [] := rfl
@[simp] theorem an_law40_ChargeDriesX_rets : an_law40_ChargeDriesX.rets = some [2] := rfl
@[simp] theorem an_law40_ChargeDriesX_keep : an_law40_ChargeDriesX.keep = [1, 2, 3, 4, 5, 6, 7, 8] := rfl
@[simp] theorem an_law40_ChargeDriesX_cond : an_law40_ChargeDriesX.cond = [11] := rfl
@[simp] theorem an_law40_ChargeDriesX_rows : an_law40_ChargeDriesX.rows = [] := rfl
@[simp] theorem an_law40_ChargeDriesX_loops : an_law40_ChargeDriesX.loops = [] := rfl
@[simp] theorem an_law40_ChargeDriesX_ecalls : an_law40_ChargeDriesX.ecalls = [] := rfl
@[simp] theorem an_law40_ChargeDriesX_crows : an_law40_ChargeDriesX.crows = [] := rfl
@[simp] theorem an_law40_ChargeDriesX_tails : an_law40_ChargeDriesX.tails = [] := rfl
@[simp] noncomputable def cl_law40_ChargeDriesX : List (Nat × (List D → Option D)) := [(6, F_law40_awake), (11, F_law40_plain), (12, F_law40_light), (13, F_law40_dry), (14, F_ref40_DryX), (15, F_ref40_SameBoards)]
@[simp] noncomputable def ce_law40_ChargeDriesX : List (Nat × (List (Nat × O) → List D → Option (D × List (Nat × O)))) := []
noncomputable def c_law40_ChargeDriesX : CT := ⟨callOf (cl_law40_ChargeDriesX ), callOfE ce_law40_ChargeDriesX, gl⟩
@[simp] theorem c_law40_ChargeDriesX_p (f : FuncId) (ds : List D) : c_law40_ChargeDriesX.p f ds = callOf (cl_law40_ChargeDriesX ) f ds := Eq.trans rfl rfl
@[simp] theorem c_law40_ChargeDriesX_e (f : FuncId) (hs : List (Nat × O)) (ds : List D) : c_law40_ChargeDriesX.e f hs ds = callOfE ce_law40_ChargeDriesX f hs ds := Eq.trans rfl rfl
@[simp] theorem c_law40_ChargeDriesX_g (g : Nat) : c_law40_ChargeDriesX.g g = gl g := Eq.trans rfl rfl
noncomputable def L_law40_ChargeDriesX (i n : Nat) (s : St) : Option (E × St) := atN Tryz.prog c_law40_ChargeDriesX an_law40_ChargeDriesX 51 (bodyOf Tryz.f4) i n s
noncomputable def H_law40_ChargeDriesX (n i : Nat) (s : St) : Option (E × St) := atH Tryz.prog c_law40_ChargeDriesX an_law40_ChargeDriesX 51 (bodyOf Tryz.f4) n i s
@[simp] theorem H_law40_ChargeDriesX_eq (n i : Nat) (s : St) : H_law40_ChargeDriesX n i s = L_law40_ChargeDriesX i n (headOf (an_law40_ChargeDriesX.loops.lookup i) s) := rfl
noncomputable def R_law40_ChargeDriesX (i : Nat) (s : St) : Option (E × St) := stepL Tryz.prog c_law40_ChargeDriesX an_law40_ChargeDriesX 51 (bodyOf Tryz.f4) i s
theorem lok_law40_ChargeDriesX : okLoops (bodyOf Tryz.f4) = true := by kernel_rfl
noncomputable def F_law40_ChargeDriesX (ds : List D) : Option D := runF Tryz.prog c_law40_ChargeDriesX an_law40_ChargeDriesX 51 (bodyOf Tryz.f4) [.tmp 2] ds
theorem F_law40_ChargeDriesX_eq (ds : List D) : F_law40_ChargeDriesX ds = runG Tryz.prog c_law40_ChargeDriesX (H_law40_ChargeDriesX bigL) an_law40_ChargeDriesX 51 (bodyOf Tryz.f4) [.tmp 2] ds := runG_eq lok_law40_ChargeDriesX _ ds
theorem C_law40_ChargeDriesX (ds : List D) (r : D) (h : F_law40_ChargeDriesX ds = some r) : Contract Tryz.prog gl 4 ds r := contract_of mix Tryz.func4 rfl (by kernel_rfl) (by kernel_rfl) (by decide) (call := c_law40_ChargeDriesX) ⟨callOf_ok cl_law40_ChargeDriesX ⟨C_law40_awake, C_law40_plain, C_law40_light, C_law40_dry, C_ref40_DryX, C_ref40_SameBoards, trivial⟩, callOfE_ok ce_law40_ChargeDriesX trivial⟩ h
end Go.Proofs.YtdefohgkniglpaaGreatDoor
