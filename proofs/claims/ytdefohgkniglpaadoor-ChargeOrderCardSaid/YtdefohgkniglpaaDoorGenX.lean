/-
  Printed by gen.py for this seat: functions once more, with objects.
-/
import Derived.Test.YtdefohgkniglpaaDoorGen
namespace Go.Proofs.YtdefohgkniglpaaDoor
open Go Go.Abs
set_option maxRecDepth 100000
set_option linter.unusedSimpArgs false
set_option linter.unusedVariables false
-- sawmill/sawmilllaw40.dry: loops []; state: params 0..0, then [1, 2, 3, 4]; WITH OBJECTS
attribute [simp] Tryd.f14
noncomputable def an_law40_dry_obj : Ann := ⟨[1, 2, 3, 4], [], [], [], [], some [2, 3, 4], [], [], [], []⟩
@[simp] theorem an_law40_dry_obj_draws : an_law40_dry_obj.draws = [] := rfl
@[simp] theorem an_law40_dry_obj_exits : an_law40_dry_obj.exits = [] := rfl
@[simp] theorem an_law40_dry_obj_rets : an_law40_dry_obj.rets = some [2, 3, 4] := rfl
@[simp] theorem an_law40_dry_obj_keep : an_law40_dry_obj.keep = [1, 2, 3, 4] := rfl
@[simp] theorem an_law40_dry_obj_cond : an_law40_dry_obj.cond = [] := rfl
@[simp] theorem an_law40_dry_obj_rows : an_law40_dry_obj.rows = [] := rfl
@[simp] theorem an_law40_dry_obj_loops : an_law40_dry_obj.loops = [] := rfl
@[simp] theorem an_law40_dry_obj_ecalls : an_law40_dry_obj.ecalls = [] := rfl
@[simp] theorem an_law40_dry_obj_crows : an_law40_dry_obj.crows = [] := rfl
@[simp] theorem an_law40_dry_obj_tails : an_law40_dry_obj.tails = [] := rfl
@[simp] noncomputable def cl_law40_dry_obj : List (Nat × (List D → Option D)) := [(25, F_charge_Dry)]
@[simp] noncomputable def ce_law40_dry_obj : List (Nat × (List (Nat × O) → List D → Option (D × List (Nat × O)))) := []
noncomputable def c_law40_dry_obj : CT := ⟨callOf (cl_law40_dry_obj ), callOfE ce_law40_dry_obj, gl⟩
@[simp] theorem c_law40_dry_obj_p (f : FuncId) (ds : List D) : c_law40_dry_obj.p f ds = callOf (cl_law40_dry_obj ) f ds := Eq.trans rfl rfl
@[simp] theorem c_law40_dry_obj_e (f : FuncId) (hs : List (Nat × O)) (ds : List D) : c_law40_dry_obj.e f hs ds = callOfE ce_law40_dry_obj f hs ds := Eq.trans rfl rfl
@[simp] theorem c_law40_dry_obj_g (g : Nat) : c_law40_dry_obj.g g = gl g := Eq.trans rfl rfl
noncomputable def L_law40_dry_obj (i n : Nat) (s : St) : Option (E × St) := atN Tryd.prog c_law40_dry_obj an_law40_dry_obj 19 (bodyOf Tryd.f14) i n s
noncomputable def H_law40_dry_obj (n i : Nat) (s : St) : Option (E × St) := atH Tryd.prog c_law40_dry_obj an_law40_dry_obj 19 (bodyOf Tryd.f14) n i s
@[simp] theorem H_law40_dry_obj_eq (n i : Nat) (s : St) : H_law40_dry_obj n i s = L_law40_dry_obj i n (headOf (an_law40_dry_obj.loops.lookup i) s) := rfl
noncomputable def R_law40_dry_obj (i : Nat) (s : St) : Option (E × St) := stepL Tryd.prog c_law40_dry_obj an_law40_dry_obj 19 (bodyOf Tryd.f14) i s
theorem lok_law40_dry_obj : okLoops (bodyOf Tryd.f14) = true := by kernel_rfl
noncomputable def E_law40_dry_obj (hs : List (Nat × O)) (ds : List D) : Option (D × List (Nat × O)) := runE Tryd.prog c_law40_dry_obj an_law40_dry_obj 19 (bodyOf Tryd.f14) [.tmp 2, .cell 3 40, .tmp 4] hs ds
theorem E_law40_dry_obj_eq (hs : List (Nat × O)) (ds : List D) : E_law40_dry_obj hs ds = runGE Tryd.prog c_law40_dry_obj (H_law40_dry_obj bigL) an_law40_dry_obj 19 (bodyOf Tryd.f14) [.tmp 2, .cell 3 40, .tmp 4] hs ds := runGE_eq lok_law40_dry_obj _ hs ds
theorem CE_law40_dry_obj (hs : List (Nat × O)) (ds : List D) (r : D) (hs' : List (Nat × O)) (h : E_law40_dry_obj hs ds = some (r, hs')) : ContractE Tryd.prog gl 14 hs ds r hs' := contractE_of mix Tryd.func14 rfl (by kernel_rfl) (by kernel_rfl) (by decide) (call := c_law40_dry_obj) ⟨callOf_ok cl_law40_dry_obj ⟨C_charge_Dry, trivial⟩, callOfE_ok ce_law40_dry_obj trivial⟩ h
-- sawmill/sawmilllaw40.ChargeOrder: loops [9]; state: params 0..1, then [2, 4, 5, 6, 7, 8, 9, 10, 11, 12, 13]
attribute [simp] Tryd.f8
noncomputable def an_law40_ChargeOrderX : Ann := ⟨[1, 2, 4, 5, 6, 7, 8, 9, 10, 11, 12, 13], [22, 31, 40, 57], [59, 72], [(9, [1, 2, 5, 6, 8, 9])], [(0, [5, 6, 8]), (1, [1, 2, 5, 6, 8, 9])], some [4], [], [(14, false)], [(35, 17, 59, 3)], []⟩
@[simp] theorem an_law40_ChargeOrderX_draws : an_law40_ChargeOrderX.draws = [] := rfl
@[simp] theorem an_law40_ChargeOrderX_exits : an_law40_ChargeOrderX.exits = [(0, [5, 6, 8]), (1, [1, 2, 5, 6, 8, 9])] := rfl
@[simp] theorem an_law40_ChargeOrderX_rets : an_law40_ChargeOrderX.rets = some [4] := rfl
@[simp] theorem an_law40_ChargeOrderX_keep : an_law40_ChargeOrderX.keep = [1, 2, 4, 5, 6, 7, 8, 9, 10, 11, 12, 13] := rfl
@[simp] theorem an_law40_ChargeOrderX_cond : an_law40_ChargeOrderX.cond = [22, 31, 40, 57] := rfl
@[simp] theorem an_law40_ChargeOrderX_rows : an_law40_ChargeOrderX.rows = [59, 72] := rfl
@[simp] theorem an_law40_ChargeOrderX_loops : an_law40_ChargeOrderX.loops = [(9, [1, 2, 5, 6, 8, 9])] := rfl
@[simp] theorem an_law40_ChargeOrderX_ecalls : an_law40_ChargeOrderX.ecalls = [(14, false)] := rfl
@[simp] theorem an_law40_ChargeOrderX_crows : an_law40_ChargeOrderX.crows = [(35, 17, 59, 3)] := rfl
@[simp] theorem an_law40_ChargeOrderX_tails : an_law40_ChargeOrderX.tails = [] := rfl
@[simp] noncomputable def cl_law40_ChargeOrderX : List (Nat × (List D → Option D)) := [(9, F_law40_awake), (13, F_law40_light), (18, F_ref40_SameBoards)]
@[simp] noncomputable def ce_law40_ChargeOrderX : List (Nat × (List (Nat × O) → List D → Option (D × List (Nat × O)))) := [(14, E_law40_dry_obj)]
noncomputable def c_law40_ChargeOrderX : CT := ⟨callOf (cl_law40_ChargeOrderX ), callOfE ce_law40_ChargeOrderX, gl⟩
@[simp] theorem c_law40_ChargeOrderX_p (f : FuncId) (ds : List D) : c_law40_ChargeOrderX.p f ds = callOf (cl_law40_ChargeOrderX ) f ds := Eq.trans rfl rfl
@[simp] theorem c_law40_ChargeOrderX_e (f : FuncId) (hs : List (Nat × O)) (ds : List D) : c_law40_ChargeOrderX.e f hs ds = callOfE ce_law40_ChargeOrderX f hs ds := Eq.trans rfl rfl
@[simp] theorem c_law40_ChargeOrderX_g (g : Nat) : c_law40_ChargeOrderX.g g = gl g := Eq.trans rfl rfl
noncomputable def L_law40_ChargeOrderX (i n : Nat) (s : St) : Option (E × St) := atN Tryd.prog c_law40_ChargeOrderX an_law40_ChargeOrderX 98 (bodyOf Tryd.f8) i n s
noncomputable def H_law40_ChargeOrderX (n i : Nat) (s : St) : Option (E × St) := atH Tryd.prog c_law40_ChargeOrderX an_law40_ChargeOrderX 98 (bodyOf Tryd.f8) n i s
@[simp] theorem H_law40_ChargeOrderX_eq (n i : Nat) (s : St) : H_law40_ChargeOrderX n i s = L_law40_ChargeOrderX i n (headOf (an_law40_ChargeOrderX.loops.lookup i) s) := rfl
noncomputable def R_law40_ChargeOrderX (i : Nat) (s : St) : Option (E × St) := stepL Tryd.prog c_law40_ChargeOrderX an_law40_ChargeOrderX 98 (bodyOf Tryd.f8) i s
theorem lok_law40_ChargeOrderX : okLoops (bodyOf Tryd.f8) = true := by kernel_rfl
theorem L_law40_ChargeOrderX_zero (i : Nat) (s : St) : L_law40_ChargeOrderX i 0 s = none := rfl
theorem L_law40_ChargeOrderX_succ (i n : Nat) (s : St) : L_law40_ChargeOrderX i (n + 1) s = andThen (R_law40_ChargeOrderX i s) (H_law40_ChargeOrderX n i) := atN_succ lok_law40_ChargeOrderX i n s
theorem R_law40_ChargeOrderX_eq (i : Nat) (s : St) : R_law40_ChargeOrderX i s = runS Tryd.prog c_law40_ChargeOrderX (H_law40_ChargeOrderX bigL) an_law40_ChargeOrderX 98 (loopAt (bodyOf Tryd.f8) i) s := rfl
noncomputable def F_law40_ChargeOrderX (ds : List D) : Option D := runF Tryd.prog c_law40_ChargeOrderX an_law40_ChargeOrderX 98 (bodyOf Tryd.f8) [.tmp 4] ds
theorem F_law40_ChargeOrderX_eq (ds : List D) : F_law40_ChargeOrderX ds = runG Tryd.prog c_law40_ChargeOrderX (H_law40_ChargeOrderX bigL) an_law40_ChargeOrderX 98 (bodyOf Tryd.f8) [.tmp 4] ds := runG_eq lok_law40_ChargeOrderX _ ds
theorem C_law40_ChargeOrderX (ds : List D) (r : D) (h : F_law40_ChargeOrderX ds = some r) : Contract Tryd.prog gl 8 ds r := contract_of mix Tryd.func8 rfl (by kernel_rfl) (by kernel_rfl) (by decide) (call := c_law40_ChargeOrderX) ⟨callOf_ok cl_law40_ChargeOrderX ⟨C_law40_awake, C_law40_light, C_ref40_SameBoards, trivial⟩, callOfE_ok ce_law40_ChargeOrderX ⟨CE_law40_dry_obj, trivial⟩⟩ h
end Go.Proofs.YtdefohgkniglpaaDoor
