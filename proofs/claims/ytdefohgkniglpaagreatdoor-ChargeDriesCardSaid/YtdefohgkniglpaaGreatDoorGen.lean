/-
  Printed by gen.py for this seat: more of the functions.
-/
import Derived.Test.YtdefohgkniglpaaGreatDoorGen1
import Derived.Test.YtdefohgkniglpaaGreatDoorWeak
namespace Go.Proofs.YtdefohgkniglpaaGreatDoor
open Go Go.Abs
set_option maxRecDepth 100000
set_option linter.unusedSimpArgs false
set_option linter.unusedVariables false
-- sawmill/charge.run: loops [5]; state: params 0..2, then [6, 7, 8, 9, 22]; WITH OBJECTS
attribute [simp] Tryz.f48
noncomputable def an_charge_run : Ann := ⟨[0, 6, 7, 8, 9, 22], [], [], [(5, [0, 1, 2, 6, 7, 8])], [(0, [0, 6, 7]), (1, [0, 1, 2, 6, 7, 8]), (2, [0, 1, 2, 6, 7, 8])], some [6], [(10, 4)], [(76, false)], [], []⟩
@[simp] theorem an_charge_run_draws : an_charge_run.draws = [(10, 4)] := rfl
@[simp] theorem an_charge_run_exits : an_charge_run.exits = [(0, [0, 6, 7]), (1, [0, 1, 2, 6, 7, 8]), (2, [0, 1, 2, 6, 7, 8])] := rfl
@[simp] theorem an_charge_run_rets : an_charge_run.rets = some [6] := rfl
@[simp] theorem an_charge_run_keep : an_charge_run.keep = [0, 6, 7, 8, 9, 22] := rfl
@[simp] theorem an_charge_run_cond : an_charge_run.cond = [] := rfl
@[simp] theorem an_charge_run_rows : an_charge_run.rows = [] := rfl
@[simp] theorem an_charge_run_loops : an_charge_run.loops = [(5, [0, 1, 2, 6, 7, 8])] := rfl
@[simp] theorem an_charge_run_ecalls : an_charge_run.ecalls = [(76, false)] := rfl
@[simp] theorem an_charge_run_crows : an_charge_run.crows = [] := rfl
@[simp] theorem an_charge_run_tails : an_charge_run.tails = [] := rfl
@[simp] noncomputable def cl_charge_run : List (Nat × (List D → Option D)) := [(17, F_charge_At), (73, F_kiln_Kiln_Climate), (74, F_charge_steepest), (75, F_kiln_Kiln_Done), (77, F_kiln_Kiln_Ticks), (78, F_kiln_Kiln_Stage)]
@[simp] noncomputable def ce_charge_run : List (Nat × (List (Nat × O) → List D → Option (D × List (Nat × O)))) := [(76, E_kiln_Kiln_Tick)]
noncomputable def c_charge_run : CT := ⟨callOf (cl_charge_run ), callOfE ce_charge_run, gl⟩
@[simp] theorem c_charge_run_p (f : FuncId) (ds : List D) : c_charge_run.p f ds = callOf (cl_charge_run ) f ds := Eq.trans rfl rfl
@[simp] theorem c_charge_run_e (f : FuncId) (hs : List (Nat × O)) (ds : List D) : c_charge_run.e f hs ds = callOfE ce_charge_run f hs ds := Eq.trans rfl rfl
@[simp] theorem c_charge_run_g (g : Nat) : c_charge_run.g g = gl g := Eq.trans rfl rfl
noncomputable def L_charge_run (i n : Nat) (s : St) : Option (E × St) := atN Tryz.prog c_charge_run an_charge_run 63 (bodyOf Tryz.f48) i n s
noncomputable def H_charge_run (n i : Nat) (s : St) : Option (E × St) := atH Tryz.prog c_charge_run an_charge_run 63 (bodyOf Tryz.f48) n i s
@[simp] theorem H_charge_run_eq (n i : Nat) (s : St) : H_charge_run n i s = L_charge_run i n (headOf (an_charge_run.loops.lookup i) s) := rfl
noncomputable def R_charge_run (i : Nat) (s : St) : Option (E × St) := stepL Tryz.prog c_charge_run an_charge_run 63 (bodyOf Tryz.f48) i s
theorem lok_charge_run : okLoops (bodyOf Tryz.f48) = true := by kernel_rfl
theorem L_charge_run_zero (i : Nat) (s : St) : L_charge_run i 0 s = none := rfl
theorem L_charge_run_succ (i n : Nat) (s : St) : L_charge_run i (n + 1) s = andThen (R_charge_run i s) (H_charge_run n i) := atN_succ lok_charge_run i n s
theorem R_charge_run_eq (i : Nat) (s : St) : R_charge_run i s = runS Tryz.prog c_charge_run (H_charge_run bigL) an_charge_run 63 (loopAt (bodyOf Tryz.f48) i) s := rfl
noncomputable def E_charge_run (hs : List (Nat × O)) (ds : List D) : Option (D × List (Nat × O)) := runE Tryz.prog c_charge_run an_charge_run 63 (bodyOf Tryz.f48) [.cell 6 34] hs ds
theorem E_charge_run_eq (hs : List (Nat × O)) (ds : List D) : E_charge_run hs ds = runGE Tryz.prog c_charge_run (H_charge_run bigL) an_charge_run 63 (bodyOf Tryz.f48) [.cell 6 34] hs ds := runGE_eq lok_charge_run _ hs ds
theorem CE_charge_run (hs : List (Nat × O)) (ds : List D) (r : D) (hs' : List (Nat × O)) (h : E_charge_run hs ds = some (r, hs')) : ContractE Tryz.prog gl 48 hs ds r hs' := contractE_of mix Tryz.func48 rfl (by kernel_rfl) (by kernel_rfl) (by decide) (call := c_charge_run) ⟨callOf_ok cl_charge_run ⟨C_charge_At, C_kiln_Kiln_Climate, C_charge_steepest, C_kiln_Kiln_Done, C_kiln_Kiln_Ticks, C_kiln_Kiln_Stage, trivial⟩, callOfE_ok ce_charge_run ⟨CE_kiln_Kiln_Tick, trivial⟩⟩ h
-- slices.Clone[[]sawmill/api.Defect,sawmill/api.Defect]: loops []; state: params 0..0, then [2]
attribute [simp] Tryz.f79
noncomputable def an_slices_Clone_api_Defect_api_Defect : Ann := ⟨[0, 2], [4], [5], [], [], some [2], [], [], [], []⟩
@[simp] theorem an_slices_Clone_api_Defect_api_Defect_draws : an_slices_Clone_api_Defect_api_Defect.draws = [] := rfl
@[simp] theorem an_slices_Clone_api_Defect_api_Defect_exits : an_slices_Clone_api_Defect_api_Defect.exits = [] := rfl
@[simp] theorem an_slices_Clone_api_Defect_api_Defect_rets : an_slices_Clone_api_Defect_api_Defect.rets = some [2] := rfl
@[simp] theorem an_slices_Clone_api_Defect_api_Defect_keep : an_slices_Clone_api_Defect_api_Defect.keep = [0, 2] := rfl
@[simp] theorem an_slices_Clone_api_Defect_api_Defect_cond : an_slices_Clone_api_Defect_api_Defect.cond = [4] := rfl
@[simp] theorem an_slices_Clone_api_Defect_api_Defect_rows : an_slices_Clone_api_Defect_api_Defect.rows = [5] := rfl
@[simp] theorem an_slices_Clone_api_Defect_api_Defect_loops : an_slices_Clone_api_Defect_api_Defect.loops = [] := rfl
@[simp] theorem an_slices_Clone_api_Defect_api_Defect_ecalls : an_slices_Clone_api_Defect_api_Defect.ecalls = [] := rfl
@[simp] theorem an_slices_Clone_api_Defect_api_Defect_crows : an_slices_Clone_api_Defect_api_Defect.crows = [] := rfl
@[simp] theorem an_slices_Clone_api_Defect_api_Defect_tails : an_slices_Clone_api_Defect_api_Defect.tails = [] := rfl
@[simp] noncomputable def cl_slices_Clone_api_Defect_api_Defect : List (Nat × (List D → Option D)) := []
@[simp] noncomputable def ce_slices_Clone_api_Defect_api_Defect : List (Nat × (List (Nat × O) → List D → Option (D × List (Nat × O)))) := []
noncomputable def c_slices_Clone_api_Defect_api_Defect : CT := ⟨callOf (cl_slices_Clone_api_Defect_api_Defect ), callOfE ce_slices_Clone_api_Defect_api_Defect, gl⟩
@[simp] theorem c_slices_Clone_api_Defect_api_Defect_p (f : FuncId) (ds : List D) : c_slices_Clone_api_Defect_api_Defect.p f ds = callOf (cl_slices_Clone_api_Defect_api_Defect ) f ds := Eq.trans rfl rfl
@[simp] theorem c_slices_Clone_api_Defect_api_Defect_e (f : FuncId) (hs : List (Nat × O)) (ds : List D) : c_slices_Clone_api_Defect_api_Defect.e f hs ds = callOfE ce_slices_Clone_api_Defect_api_Defect f hs ds := Eq.trans rfl rfl
@[simp] theorem c_slices_Clone_api_Defect_api_Defect_g (g : Nat) : c_slices_Clone_api_Defect_api_Defect.g g = gl g := Eq.trans rfl rfl
noncomputable def L_slices_Clone_api_Defect_api_Defect (i n : Nat) (s : St) : Option (E × St) := atN Tryz.prog c_slices_Clone_api_Defect_api_Defect an_slices_Clone_api_Defect_api_Defect 8 (bodyOf Tryz.f79) i n s
noncomputable def H_slices_Clone_api_Defect_api_Defect (n i : Nat) (s : St) : Option (E × St) := atH Tryz.prog c_slices_Clone_api_Defect_api_Defect an_slices_Clone_api_Defect_api_Defect 8 (bodyOf Tryz.f79) n i s
@[simp] theorem H_slices_Clone_api_Defect_api_Defect_eq (n i : Nat) (s : St) : H_slices_Clone_api_Defect_api_Defect n i s = L_slices_Clone_api_Defect_api_Defect i n (headOf (an_slices_Clone_api_Defect_api_Defect.loops.lookup i) s) := rfl
noncomputable def R_slices_Clone_api_Defect_api_Defect (i : Nat) (s : St) : Option (E × St) := stepL Tryz.prog c_slices_Clone_api_Defect_api_Defect an_slices_Clone_api_Defect_api_Defect 8 (bodyOf Tryz.f79) i s
theorem lok_slices_Clone_api_Defect_api_Defect : okLoops (bodyOf Tryz.f79) = true := by kernel_rfl
noncomputable def F_slices_Clone_api_Defect_api_Defect (ds : List D) : Option D := runF Tryz.prog c_slices_Clone_api_Defect_api_Defect an_slices_Clone_api_Defect_api_Defect 8 (bodyOf Tryz.f79) [.tmp 2] ds
theorem F_slices_Clone_api_Defect_api_Defect_eq (ds : List D) : F_slices_Clone_api_Defect_api_Defect ds = runG Tryz.prog c_slices_Clone_api_Defect_api_Defect (H_slices_Clone_api_Defect_api_Defect bigL) an_slices_Clone_api_Defect_api_Defect 8 (bodyOf Tryz.f79) [.tmp 2] ds := runG_eq lok_slices_Clone_api_Defect_api_Defect _ ds
theorem C_slices_Clone_api_Defect_api_Defect (ds : List D) (r : D) (h : F_slices_Clone_api_Defect_api_Defect ds = some r) : Contract Tryz.prog gl 79 ds r := contract_of mix Tryz.func79 rfl (by kernel_rfl) (by kernel_rfl) (by decide) (call := c_slices_Clone_api_Defect_api_Defect) ⟨callOf_ok cl_slices_Clone_api_Defect_api_Defect trivial, callOfE_ok ce_slices_Clone_api_Defect_api_Defect trivial⟩ h
noncomputable def NF_slices_Clone_api_Defect_api_Defect (ds : List D) : Option D := nilF F_slices_Clone_api_Defect_api_Defect (.own true []) ds
theorem NF_slices_Clone_api_Defect_api_Defect_sl (es : List (List D)) : NF_slices_Clone_api_Defect_api_Defect [.sl es] = if es.length = 0 then some (.own true []) else F_slices_Clone_api_Defect_api_Defect [.sl es] := Eq.trans rfl rfl
theorem NC_slices_Clone_api_Defect_api_Defect (ds : List D) (r : D) (h : NF_slices_Clone_api_Defect_api_Defect ds = some r) : Contract Tryz.prog gl 79 ds r := nilF_ok C_slices_Clone_api_Defect_api_Defect (fun A c => by rw [F_slices_Clone_api_Defect_api_Defect_eq]; cases A <;> simp) ds r h
-- sawmill/charge.dried: loops [3]; state: params 0..1, then [4, 5, 6, 7, 8, 12, 13, 14]
attribute [simp] Tryz.f49
noncomputable def an_charge_dried : Ann := ⟨[1, 4, 5, 6, 7, 8, 12, 13, 14], [15], [5], [(3, [0, 5, 12, 13, 14])], [(0, [5]), (1, [0, 5, 12, 13, 14])], some [4], [], [], [], []⟩
@[simp] theorem an_charge_dried_draws : an_charge_dried.draws = [] := rfl
@[simp] theorem an_charge_dried_exits : an_charge_dried.exits = [(0, [5]), (1, [0, 5, 12, 13, 14])] := rfl
@[simp] theorem an_charge_dried_rets : an_charge_dried.rets = some [4] := rfl
@[simp] theorem an_charge_dried_keep : an_charge_dried.keep = [1, 4, 5, 6, 7, 8, 12, 13, 14] := rfl
@[simp] theorem an_charge_dried_cond : an_charge_dried.cond = [15] := rfl
@[simp] theorem an_charge_dried_rows : an_charge_dried.rows = [5] := rfl
@[simp] theorem an_charge_dried_loops : an_charge_dried.loops = [(3, [0, 5, 12, 13, 14])] := rfl
@[simp] theorem an_charge_dried_ecalls : an_charge_dried.ecalls = [] := rfl
@[simp] theorem an_charge_dried_crows : an_charge_dried.crows = [] := rfl
@[simp] theorem an_charge_dried_tails : an_charge_dried.tails = [] := rfl
@[simp] noncomputable def cl_charge_dried : List (Nat × (List D → Option D)) := [(79, NF_slices_Clone_api_Defect_api_Defect)]
@[simp] noncomputable def ce_charge_dried : List (Nat × (List (Nat × O) → List D → Option (D × List (Nat × O)))) := []
noncomputable def c_charge_dried : CT := ⟨callOf (cl_charge_dried ), callOfE ce_charge_dried, gl⟩
@[simp] theorem c_charge_dried_p (f : FuncId) (ds : List D) : c_charge_dried.p f ds = callOf (cl_charge_dried ) f ds := Eq.trans rfl rfl
@[simp] theorem c_charge_dried_e (f : FuncId) (hs : List (Nat × O)) (ds : List D) : c_charge_dried.e f hs ds = callOfE ce_charge_dried f hs ds := Eq.trans rfl rfl
@[simp] theorem c_charge_dried_g (g : Nat) : c_charge_dried.g g = gl g := Eq.trans rfl rfl
noncomputable def L_charge_dried (i n : Nat) (s : St) : Option (E × St) := atN Tryz.prog c_charge_dried an_charge_dried 37 (bodyOf Tryz.f49) i n s
noncomputable def H_charge_dried (n i : Nat) (s : St) : Option (E × St) := atH Tryz.prog c_charge_dried an_charge_dried 37 (bodyOf Tryz.f49) n i s
@[simp] theorem H_charge_dried_eq (n i : Nat) (s : St) : H_charge_dried n i s = L_charge_dried i n (headOf (an_charge_dried.loops.lookup i) s) := rfl
noncomputable def R_charge_dried (i : Nat) (s : St) : Option (E × St) := stepL Tryz.prog c_charge_dried an_charge_dried 37 (bodyOf Tryz.f49) i s
theorem lok_charge_dried : okLoops (bodyOf Tryz.f49) = true := by kernel_rfl
theorem L_charge_dried_zero (i : Nat) (s : St) : L_charge_dried i 0 s = none := rfl
theorem L_charge_dried_succ (i n : Nat) (s : St) : L_charge_dried i (n + 1) s = andThen (R_charge_dried i s) (H_charge_dried n i) := atN_succ lok_charge_dried i n s
theorem R_charge_dried_eq (i : Nat) (s : St) : R_charge_dried i s = runS Tryz.prog c_charge_dried (H_charge_dried bigL) an_charge_dried 37 (loopAt (bodyOf Tryz.f49) i) s := rfl
noncomputable def F_charge_dried (ds : List D) : Option D := runF Tryz.prog c_charge_dried an_charge_dried 37 (bodyOf Tryz.f49) [.tmp 4] ds
theorem F_charge_dried_eq (ds : List D) : F_charge_dried ds = runG Tryz.prog c_charge_dried (H_charge_dried bigL) an_charge_dried 37 (bodyOf Tryz.f49) [.tmp 4] ds := runG_eq lok_charge_dried _ ds
theorem C_charge_dried (ds : List D) (r : D) (h : F_charge_dried ds = some r) : Contract Tryz.prog gl 49 ds r := contract_of mix Tryz.func49 rfl (by kernel_rfl) (by kernel_rfl) (by decide) (call := c_charge_dried) ⟨callOf_ok cl_charge_dried ⟨NC_slices_Clone_api_Defect_api_Defect, trivial⟩, callOfE_ok ce_charge_dried trivial⟩ h
-- sawmill/charge.Dry: loops [7, 16]; state: params 0..4, then [6, 7, 10, 11, 12, 13, 15, 16, 18, 19, 20, 21, 37, 38, 39, 72, 73, 74]
attribute [simp] Tryz.f27
noncomputable def an_charge_Dry : Ann := ⟨[0, 3, 4, 6, 7, 10, 11, 12, 13, 15, 16, 18, 19, 20, 21, 37, 38, 39, 72, 73, 74], [27, 35, 40, 50, 66, 75, 95], [16], [(7, [0, 3, 4, 6, 7, 11, 37, 38, 39]), (16, [0, 3, 4, 6, 7, 11, 16, 72, 73, 74])], [(0, [0, 3, 4, 6, 7, 11]), (1, [0, 3, 4, 6, 7, 11, 37, 38, 39]), (2, [0, 3, 4, 6, 7, 11, 16]), (3, [0, 3, 4, 6, 7, 11, 16, 72, 73, 74])], some [10, 11, 12], [(18, 7), (24, 6)], [(47, false), (48, false)], [], []⟩
@[simp] theorem an_charge_Dry_draws : an_charge_Dry.draws = [(18, 7), (24, 6)] := rfl
@[simp] theorem an_charge_Dry_exits : an_charge_Dry.exits = [(0, [0, 3, 4, 6, 7, 11]), (1, [0, 3, 4, 6, 7, 11, 37, 38, 39]), (2, [0, 3, 4, 6, 7, 11, 16]), (3, [0, 3, 4, 6, 7, 11, 16, 72, 73, 74])] := rfl
@[simp] theorem an_charge_Dry_rets : an_charge_Dry.rets = some [10, 11, 12] := rfl
@[simp] theorem an_charge_Dry_keep : an_charge_Dry.keep = [0, 3, 4, 6, 7, 10, 11, 12, 13, 15, 16, 18, 19, 20, 21, 37, 38, 39, 72, 73, 74] := rfl
@[simp] theorem an_charge_Dry_cond : an_charge_Dry.cond = [27, 35, 40, 50, 66, 75, 95] := rfl
@[simp] theorem an_charge_Dry_rows : an_charge_Dry.rows = [16] := rfl
@[simp] theorem an_charge_Dry_loops : an_charge_Dry.loops = [(7, [0, 3, 4, 6, 7, 11, 37, 38, 39]), (16, [0, 3, 4, 6, 7, 11, 16, 72, 73, 74])] := rfl
@[simp] theorem an_charge_Dry_ecalls : an_charge_Dry.ecalls = [(47, false), (48, false)] := rfl
@[simp] theorem an_charge_Dry_crows : an_charge_Dry.crows = [] := rfl
@[simp] theorem an_charge_Dry_tails : an_charge_Dry.tails = [] := rfl
@[simp] noncomputable def cl_charge_Dry : List (Nat × (List D → Option D)) := [(7, F_charge_Check), (20, F_charge_thickness), (49, F_charge_dried), (50, F_kiln_Kiln_Items)]
@[simp] noncomputable def ce_charge_Dry : List (Nat × (List (Nat × O) → List D → Option (D × List (Nat × O)))) := [(47, E_kiln_New), (48, E_charge_run)]
noncomputable def c_charge_Dry : CT := ⟨callOf (cl_charge_Dry ), callOfE ce_charge_Dry, gl⟩
@[simp] theorem c_charge_Dry_p (f : FuncId) (ds : List D) : c_charge_Dry.p f ds = callOf (cl_charge_Dry ) f ds := Eq.trans rfl rfl
@[simp] theorem c_charge_Dry_e (f : FuncId) (hs : List (Nat × O)) (ds : List D) : c_charge_Dry.e f hs ds = callOfE ce_charge_Dry f hs ds := Eq.trans rfl rfl
@[simp] theorem c_charge_Dry_g (g : Nat) : c_charge_Dry.g g = gl g := Eq.trans rfl rfl
noncomputable def L_charge_Dry (i n : Nat) (s : St) : Option (E × St) := atN Tryz.prog c_charge_Dry an_charge_Dry 107 (bodyOf Tryz.f27) i n s
noncomputable def H_charge_Dry (n i : Nat) (s : St) : Option (E × St) := atH Tryz.prog c_charge_Dry an_charge_Dry 107 (bodyOf Tryz.f27) n i s
@[simp] theorem H_charge_Dry_eq (n i : Nat) (s : St) : H_charge_Dry n i s = L_charge_Dry i n (headOf (an_charge_Dry.loops.lookup i) s) := rfl
noncomputable def R_charge_Dry (i : Nat) (s : St) : Option (E × St) := stepL Tryz.prog c_charge_Dry an_charge_Dry 107 (bodyOf Tryz.f27) i s
theorem lok_charge_Dry : okLoops (bodyOf Tryz.f27) = true := by kernel_rfl
theorem L_charge_Dry_zero (i : Nat) (s : St) : L_charge_Dry i 0 s = none := rfl
theorem L_charge_Dry_succ (i n : Nat) (s : St) : L_charge_Dry i (n + 1) s = andThen (R_charge_Dry i s) (H_charge_Dry n i) := atN_succ lok_charge_Dry i n s
theorem R_charge_Dry_eq (i : Nat) (s : St) : R_charge_Dry i s = runS Tryz.prog c_charge_Dry (H_charge_Dry bigL) an_charge_Dry 107 (loopAt (bodyOf Tryz.f27) i) s := rfl
noncomputable def F_charge_Dry (ds : List D) : Option D := runF Tryz.prog c_charge_Dry an_charge_Dry 107 (bodyOf Tryz.f27) [.tmp 10, .cell 11 34, .tmp 12] ds
theorem F_charge_Dry_eq (ds : List D) : F_charge_Dry ds = runG Tryz.prog c_charge_Dry (H_charge_Dry bigL) an_charge_Dry 107 (bodyOf Tryz.f27) [.tmp 10, .cell 11 34, .tmp 12] ds := runG_eq lok_charge_Dry _ ds
theorem C_charge_Dry (ds : List D) (r : D) (h : F_charge_Dry ds = some r) : Contract Tryz.prog gl 27 ds r := contract_of mix Tryz.func27 rfl (by kernel_rfl) (by kernel_rfl) (by decide) (call := c_charge_Dry) ⟨callOf_ok cl_charge_Dry ⟨C_charge_Check, C_charge_thickness, C_charge_dried, C_kiln_Kiln_Items, trivial⟩, callOfE_ok ce_charge_Dry ⟨CE_kiln_New, CE_charge_run, trivial⟩⟩ h
-- sawmill/sawmilllaw40.dry: loops []; state: params 0..0, then [1, 2, 3, 4]
attribute [simp] Tryz.f13
noncomputable def an_law40_dry : Ann := ⟨[1, 2, 3, 4], [], [], [], [], some [2, 3, 4], [], [], [], []⟩
@[simp] theorem an_law40_dry_draws : an_law40_dry.draws = [] := rfl
@[simp] theorem an_law40_dry_exits : an_law40_dry.exits = [] := rfl
@[simp] theorem an_law40_dry_rets : an_law40_dry.rets = some [2, 3, 4] := rfl
@[simp] theorem an_law40_dry_keep : an_law40_dry.keep = [1, 2, 3, 4] := rfl
@[simp] theorem an_law40_dry_cond : an_law40_dry.cond = [] := rfl
@[simp] theorem an_law40_dry_rows : an_law40_dry.rows = [] := rfl
@[simp] theorem an_law40_dry_loops : an_law40_dry.loops = [] := rfl
@[simp] theorem an_law40_dry_ecalls : an_law40_dry.ecalls = [] := rfl
@[simp] theorem an_law40_dry_crows : an_law40_dry.crows = [] := rfl
@[simp] theorem an_law40_dry_tails : an_law40_dry.tails = [] := rfl
@[simp] noncomputable def cl_law40_dry : List (Nat × (List D → Option D)) := [(27, F_charge_Dry)]
@[simp] noncomputable def ce_law40_dry : List (Nat × (List (Nat × O) → List D → Option (D × List (Nat × O)))) := []
noncomputable def c_law40_dry : CT := ⟨callOf (cl_law40_dry ), callOfE ce_law40_dry, gl⟩
@[simp] theorem c_law40_dry_p (f : FuncId) (ds : List D) : c_law40_dry.p f ds = callOf (cl_law40_dry ) f ds := Eq.trans rfl rfl
@[simp] theorem c_law40_dry_e (f : FuncId) (hs : List (Nat × O)) (ds : List D) : c_law40_dry.e f hs ds = callOfE ce_law40_dry f hs ds := Eq.trans rfl rfl
@[simp] theorem c_law40_dry_g (g : Nat) : c_law40_dry.g g = gl g := Eq.trans rfl rfl
noncomputable def L_law40_dry (i n : Nat) (s : St) : Option (E × St) := atN Tryz.prog c_law40_dry an_law40_dry 19 (bodyOf Tryz.f13) i n s
noncomputable def H_law40_dry (n i : Nat) (s : St) : Option (E × St) := atH Tryz.prog c_law40_dry an_law40_dry 19 (bodyOf Tryz.f13) n i s
@[simp] theorem H_law40_dry_eq (n i : Nat) (s : St) : H_law40_dry n i s = L_law40_dry i n (headOf (an_law40_dry.loops.lookup i) s) := rfl
noncomputable def R_law40_dry (i : Nat) (s : St) : Option (E × St) := stepL Tryz.prog c_law40_dry an_law40_dry 19 (bodyOf Tryz.f13) i s
theorem lok_law40_dry : okLoops (bodyOf Tryz.f13) = true := by kernel_rfl
noncomputable def F_law40_dry (ds : List D) : Option D := runF Tryz.prog c_law40_dry an_law40_dry 19 (bodyOf Tryz.f13) [.tmp 2, .cell 3 34, .tmp 4] ds
theorem F_law40_dry_eq (ds : List D) : F_law40_dry ds = runG Tryz.prog c_law40_dry (H_law40_dry bigL) an_law40_dry 19 (bodyOf Tryz.f13) [.tmp 2, .cell 3 34, .tmp 4] ds := runG_eq lok_law40_dry _ ds
theorem C_law40_dry (ds : List D) (r : D) (h : F_law40_dry ds = some r) : Contract Tryz.prog gl 13 ds r := contract_of mix Tryz.func13 rfl (by kernel_rfl) (by kernel_rfl) (by decide) (call := c_law40_dry) ⟨callOf_ok cl_law40_dry ⟨C_charge_Dry, trivial⟩, callOfE_ok ce_law40_dry trivial⟩ h
-- sawmill/charge.Safe: loops []; state: params 0..1, then [2, 3, 4]
attribute [simp] Tryz.f9
noncomputable def an_charge_Safe : Ann := ⟨[2, 3, 4], [], [], [], [], some [4], [], [], [], []⟩
@[simp] theorem an_charge_Safe_draws : an_charge_Safe.draws = [] := rfl
@[simp] theorem an_charge_Safe_exits : an_charge_Safe.exits = [] := rfl
@[simp] theorem an_charge_Safe_rets : an_charge_Safe.rets = some [4] := rfl
@[simp] theorem an_charge_Safe_keep : an_charge_Safe.keep = [2, 3, 4] := rfl
@[simp] theorem an_charge_Safe_cond : an_charge_Safe.cond = [] := rfl
@[simp] theorem an_charge_Safe_rows : an_charge_Safe.rows = [] := rfl
@[simp] theorem an_charge_Safe_loops : an_charge_Safe.loops = [] := rfl
@[simp] theorem an_charge_Safe_ecalls : an_charge_Safe.ecalls = [] := rfl
@[simp] theorem an_charge_Safe_crows : an_charge_Safe.crows = [] := rfl
@[simp] theorem an_charge_Safe_tails : an_charge_Safe.tails = [] := rfl
@[simp] noncomputable def cl_charge_Safe : List (Nat × (List D → Option D)) := []
@[simp] noncomputable def ce_charge_Safe : List (Nat × (List (Nat × O) → List D → Option (D × List (Nat × O)))) := []
noncomputable def c_charge_Safe : CT := ⟨callOf (cl_charge_Safe ), callOfE ce_charge_Safe, gl⟩
@[simp] theorem c_charge_Safe_p (f : FuncId) (ds : List D) : c_charge_Safe.p f ds = callOf (cl_charge_Safe ) f ds := Eq.trans rfl rfl
@[simp] theorem c_charge_Safe_e (f : FuncId) (hs : List (Nat × O)) (ds : List D) : c_charge_Safe.e f hs ds = callOfE ce_charge_Safe f hs ds := Eq.trans rfl rfl
@[simp] theorem c_charge_Safe_g (g : Nat) : c_charge_Safe.g g = gl g := Eq.trans rfl rfl
noncomputable def L_charge_Safe (i n : Nat) (s : St) : Option (E × St) := atN Tryz.prog c_charge_Safe an_charge_Safe 26 (bodyOf Tryz.f9) i n s
noncomputable def H_charge_Safe (n i : Nat) (s : St) : Option (E × St) := atH Tryz.prog c_charge_Safe an_charge_Safe 26 (bodyOf Tryz.f9) n i s
@[simp] theorem H_charge_Safe_eq (n i : Nat) (s : St) : H_charge_Safe n i s = L_charge_Safe i n (headOf (an_charge_Safe.loops.lookup i) s) := rfl
noncomputable def R_charge_Safe (i : Nat) (s : St) : Option (E × St) := stepL Tryz.prog c_charge_Safe an_charge_Safe 26 (bodyOf Tryz.f9) i s
theorem lok_charge_Safe : okLoops (bodyOf Tryz.f9) = true := by kernel_rfl
noncomputable def F_charge_Safe (ds : List D) : Option D := runF Tryz.prog c_charge_Safe an_charge_Safe 26 (bodyOf Tryz.f9) [.tmp 4] ds
theorem F_charge_Safe_eq (ds : List D) : F_charge_Safe ds = runG Tryz.prog c_charge_Safe (H_charge_Safe bigL) an_charge_Safe 26 (bodyOf Tryz.f9) [.tmp 4] ds := runG_eq lok_charge_Safe _ ds
theorem C_charge_Safe (ds : List D) (r : D) (h : F_charge_Safe ds = some r) : Contract Tryz.prog gl 9 ds r := contract_of mix Tryz.func9 rfl (by kernel_rfl) (by kernel_rfl) (by decide) (call := c_charge_Safe) ⟨callOf_ok cl_charge_Safe trivial, callOfE_ok ce_charge_Safe trivial⟩ h
-- sawmill/sawmillref40.SameInts: loops [4]; state: params 0..1, then [4, 5]
attribute [simp] Tryz.f18
noncomputable def an_ref40_SameInts : Ann := ⟨[0, 1, 4, 5], [10, 14, 25], [], [(4, [0, 1, 5])], [(0, []), (1, [0, 1, 5])], some [4], [(6, 8)], [], [], []⟩
@[simp] theorem an_ref40_SameInts_draws : an_ref40_SameInts.draws = [(6, 8)] := rfl
@[simp] theorem an_ref40_SameInts_exits : an_ref40_SameInts.exits = [(0, []), (1, [0, 1, 5])] := rfl
@[simp] theorem an_ref40_SameInts_rets : an_ref40_SameInts.rets = some [4] := rfl
@[simp] theorem an_ref40_SameInts_keep : an_ref40_SameInts.keep = [0, 1, 4, 5] := rfl
@[simp] theorem an_ref40_SameInts_cond : an_ref40_SameInts.cond = [10, 14, 25] := rfl
@[simp] theorem an_ref40_SameInts_rows : an_ref40_SameInts.rows = [] := rfl
@[simp] theorem an_ref40_SameInts_loops : an_ref40_SameInts.loops = [(4, [0, 1, 5])] := rfl
@[simp] theorem an_ref40_SameInts_ecalls : an_ref40_SameInts.ecalls = [] := rfl
@[simp] theorem an_ref40_SameInts_crows : an_ref40_SameInts.crows = [] := rfl
@[simp] theorem an_ref40_SameInts_tails : an_ref40_SameInts.tails = [] := rfl
@[simp] noncomputable def cl_ref40_SameInts : List (Nat × (List D → Option D)) := []
@[simp] noncomputable def ce_ref40_SameInts : List (Nat × (List (Nat × O) → List D → Option (D × List (Nat × O)))) := []
noncomputable def c_ref40_SameInts : CT := ⟨callOf (cl_ref40_SameInts ), callOfE ce_ref40_SameInts, gl⟩
@[simp] theorem c_ref40_SameInts_p (f : FuncId) (ds : List D) : c_ref40_SameInts.p f ds = callOf (cl_ref40_SameInts ) f ds := Eq.trans rfl rfl
@[simp] theorem c_ref40_SameInts_e (f : FuncId) (hs : List (Nat × O)) (ds : List D) : c_ref40_SameInts.e f hs ds = callOfE ce_ref40_SameInts f hs ds := Eq.trans rfl rfl
@[simp] theorem c_ref40_SameInts_g (g : Nat) : c_ref40_SameInts.g g = gl g := Eq.trans rfl rfl
noncomputable def L_ref40_SameInts (i n : Nat) (s : St) : Option (E × St) := atN Tryz.prog c_ref40_SameInts an_ref40_SameInts 26 (bodyOf Tryz.f18) i n s
noncomputable def H_ref40_SameInts (n i : Nat) (s : St) : Option (E × St) := atH Tryz.prog c_ref40_SameInts an_ref40_SameInts 26 (bodyOf Tryz.f18) n i s
@[simp] theorem H_ref40_SameInts_eq (n i : Nat) (s : St) : H_ref40_SameInts n i s = L_ref40_SameInts i n (headOf (an_ref40_SameInts.loops.lookup i) s) := rfl
noncomputable def R_ref40_SameInts (i : Nat) (s : St) : Option (E × St) := stepL Tryz.prog c_ref40_SameInts an_ref40_SameInts 26 (bodyOf Tryz.f18) i s
theorem lok_ref40_SameInts : okLoops (bodyOf Tryz.f18) = true := by kernel_rfl
theorem L_ref40_SameInts_zero (i : Nat) (s : St) : L_ref40_SameInts i 0 s = none := rfl
theorem L_ref40_SameInts_succ (i n : Nat) (s : St) : L_ref40_SameInts i (n + 1) s = andThen (R_ref40_SameInts i s) (H_ref40_SameInts n i) := atN_succ lok_ref40_SameInts i n s
theorem R_ref40_SameInts_eq (i : Nat) (s : St) : R_ref40_SameInts i s = runS Tryz.prog c_ref40_SameInts (H_ref40_SameInts bigL) an_ref40_SameInts 26 (loopAt (bodyOf Tryz.f18) i) s := rfl
noncomputable def F_ref40_SameInts (ds : List D) : Option D := runF Tryz.prog c_ref40_SameInts an_ref40_SameInts 26 (bodyOf Tryz.f18) [.tmp 4] ds
theorem F_ref40_SameInts_eq (ds : List D) : F_ref40_SameInts ds = runG Tryz.prog c_ref40_SameInts (H_ref40_SameInts bigL) an_ref40_SameInts 26 (bodyOf Tryz.f18) [.tmp 4] ds := runG_eq lok_ref40_SameInts _ ds
theorem C_ref40_SameInts (ds : List D) (r : D) (h : F_ref40_SameInts ds = some r) : Contract Tryz.prog gl 18 ds r := contract_of mix Tryz.func18 rfl (by kernel_rfl) (by kernel_rfl) (by decide) (call := c_ref40_SameInts) ⟨callOf_ok cl_ref40_SameInts trivial, callOfE_ok ce_ref40_SameInts trivial⟩ h
-- sawmill/sawmilllaw40.sample, weakened: loops []
noncomputable def WF_law40_sample (ds : List D) : Option D := weakF F_law40_sample ds
theorem WF_law40_sample_eq (ds : List D) : WF_law40_sample ds = (F_law40_sample ds).map weakD := Eq.trans rfl rfl
theorem WC_law40_sample (ds : List D) (r : D) (h : WF_law40_sample ds = some r) : Contract Tryz.prog gl 16 ds r := weakF_ok C_law40_sample ds r h
-- sawmill/sawmilllaw40.awake: loops []; state: params 0..-1, then [0, 1, 2, 3, 4, 5, 6, 7, 8]
attribute [simp] Tryz.f6
noncomputable def an_law40_awake : Ann := ⟨[0, 1, 2, 3, 4, 5, 6, 7, 8], [42], [], [], [], some [0], [], [], [], []⟩
@[simp] theorem an_law40_awake_draws : an_law40_awake.draws = [] := rfl
@[simp] theorem an_law40_awake_exits : an_law40_awake.exits = [] := rfl
@[simp] theorem an_law40_awake_rets : an_law40_awake.rets = some [0] := rfl
@[simp] theorem an_law40_awake_keep : an_law40_awake.keep = [0, 1, 2, 3, 4, 5, 6, 7, 8] := rfl
@[simp] theorem an_law40_awake_cond : an_law40_awake.cond = [42] := rfl
@[simp] theorem an_law40_awake_rows : an_law40_awake.rows = [] := rfl
@[simp] theorem an_law40_awake_loops : an_law40_awake.loops = [] := rfl
@[simp] theorem an_law40_awake_ecalls : an_law40_awake.ecalls = [] := rfl
@[simp] theorem an_law40_awake_crows : an_law40_awake.crows = [] := rfl
@[simp] theorem an_law40_awake_tails : an_law40_awake.tails = [] := rfl
@[simp] noncomputable def cl_law40_awake : List (Nat × (List D → Option D)) := [(9, F_charge_Safe), (13, F_law40_dry), (16, WF_law40_sample), (17, F_charge_At), (18, F_ref40_SameInts)]
@[simp] noncomputable def ce_law40_awake : List (Nat × (List (Nat × O) → List D → Option (D × List (Nat × O)))) := []
noncomputable def c_law40_awake : CT := ⟨callOf (cl_law40_awake ), callOfE ce_law40_awake, gl⟩
@[simp] theorem c_law40_awake_p (f : FuncId) (ds : List D) : c_law40_awake.p f ds = callOf (cl_law40_awake ) f ds := Eq.trans rfl rfl
@[simp] theorem c_law40_awake_e (f : FuncId) (hs : List (Nat × O)) (ds : List D) : c_law40_awake.e f hs ds = callOfE ce_law40_awake f hs ds := Eq.trans rfl rfl
@[simp] theorem c_law40_awake_g (g : Nat) : c_law40_awake.g g = gl g := Eq.trans rfl rfl
noncomputable def L_law40_awake (i n : Nat) (s : St) : Option (E × St) := atN Tryz.prog c_law40_awake an_law40_awake 97 (bodyOf Tryz.f6) i n s
noncomputable def H_law40_awake (n i : Nat) (s : St) : Option (E × St) := atH Tryz.prog c_law40_awake an_law40_awake 97 (bodyOf Tryz.f6) n i s
@[simp] theorem H_law40_awake_eq (n i : Nat) (s : St) : H_law40_awake n i s = L_law40_awake i n (headOf (an_law40_awake.loops.lookup i) s) := rfl
noncomputable def R_law40_awake (i : Nat) (s : St) : Option (E × St) := stepL Tryz.prog c_law40_awake an_law40_awake 97 (bodyOf Tryz.f6) i s
theorem lok_law40_awake : okLoops (bodyOf Tryz.f6) = true := by kernel_rfl
noncomputable def F_law40_awake (ds : List D) : Option D := runF Tryz.prog c_law40_awake an_law40_awake 97 (bodyOf Tryz.f6) [.tmp 0] ds
theorem F_law40_awake_eq (ds : List D) : F_law40_awake ds = runG Tryz.prog c_law40_awake (H_law40_awake bigL) an_law40_awake 97 (bodyOf Tryz.f6) [.tmp 0] ds := runG_eq lok_law40_awake _ ds
theorem C_law40_awake (ds : List D) (r : D) (h : F_law40_awake ds = some r) : Contract Tryz.prog gl 6 ds r := contract_of mix Tryz.func6 rfl (by kernel_rfl) (by kernel_rfl) (by decide) (call := c_law40_awake) ⟨callOf_ok cl_law40_awake ⟨C_charge_Safe, C_law40_dry, WC_law40_sample, C_charge_At, C_ref40_SameInts, trivial⟩, callOfE_ok ce_law40_awake trivial⟩ h
-- sawmill/sawmillref36.Check: loops []; state: params 0..0, then [1, 2]
attribute [simp] Tryz.f23
noncomputable def an_ref36_Check : Ann := ⟨[1, 2], [20, 28], [], [], [], some [2], [], [], [], []⟩
@[simp] theorem an_ref36_Check_draws : an_ref36_Check.draws = [] := rfl
@[simp] theorem an_ref36_Check_exits : an_ref36_Check.exits = [] := rfl
@[simp] theorem an_ref36_Check_rets : an_ref36_Check.rets = some [2] := rfl
@[simp] theorem an_ref36_Check_keep : an_ref36_Check.keep = [1, 2] := rfl
@[simp] theorem an_ref36_Check_cond : an_ref36_Check.cond = [20, 28] := rfl
@[simp] theorem an_ref36_Check_rows : an_ref36_Check.rows = [] := rfl
@[simp] theorem an_ref36_Check_loops : an_ref36_Check.loops = [] := rfl
@[simp] theorem an_ref36_Check_ecalls : an_ref36_Check.ecalls = [] := rfl
@[simp] theorem an_ref36_Check_crows : an_ref36_Check.crows = [] := rfl
@[simp] theorem an_ref36_Check_tails : an_ref36_Check.tails = [] := rfl
@[simp] noncomputable def cl_ref36_Check : List (Nat × (List D → Option D)) := []
@[simp] noncomputable def ce_ref36_Check : List (Nat × (List (Nat × O) → List D → Option (D × List (Nat × O)))) := []
noncomputable def c_ref36_Check : CT := ⟨callOf (cl_ref36_Check ), callOfE ce_ref36_Check, gl⟩
@[simp] theorem c_ref36_Check_p (f : FuncId) (ds : List D) : c_ref36_Check.p f ds = callOf (cl_ref36_Check ) f ds := Eq.trans rfl rfl
@[simp] theorem c_ref36_Check_e (f : FuncId) (hs : List (Nat × O)) (ds : List D) : c_ref36_Check.e f hs ds = callOfE ce_ref36_Check f hs ds := Eq.trans rfl rfl
@[simp] theorem c_ref36_Check_g (g : Nat) : c_ref36_Check.g g = gl g := Eq.trans rfl rfl
noncomputable def L_ref36_Check (i n : Nat) (s : St) : Option (E × St) := atN Tryz.prog c_ref36_Check an_ref36_Check 29 (bodyOf Tryz.f23) i n s
noncomputable def H_ref36_Check (n i : Nat) (s : St) : Option (E × St) := atH Tryz.prog c_ref36_Check an_ref36_Check 29 (bodyOf Tryz.f23) n i s
@[simp] theorem H_ref36_Check_eq (n i : Nat) (s : St) : H_ref36_Check n i s = L_ref36_Check i n (headOf (an_ref36_Check.loops.lookup i) s) := rfl
noncomputable def R_ref36_Check (i : Nat) (s : St) : Option (E × St) := stepL Tryz.prog c_ref36_Check an_ref36_Check 29 (bodyOf Tryz.f23) i s
theorem lok_ref36_Check : okLoops (bodyOf Tryz.f23) = true := by kernel_rfl
noncomputable def F_ref36_Check (ds : List D) : Option D := runF Tryz.prog c_ref36_Check an_ref36_Check 29 (bodyOf Tryz.f23) [.tmp 2] ds
theorem F_ref36_Check_eq (ds : List D) : F_ref36_Check ds = runG Tryz.prog c_ref36_Check (H_ref36_Check bigL) an_ref36_Check 29 (bodyOf Tryz.f23) [.tmp 2] ds := runG_eq lok_ref36_Check _ ds
theorem C_ref36_Check (ds : List D) (r : D) (h : F_ref36_Check ds = some r) : Contract Tryz.prog gl 23 ds r := contract_of mix Tryz.func23 rfl (by kernel_rfl) (by kernel_rfl) (by decide) (call := c_ref36_Check) ⟨callOf_ok cl_ref36_Check trivial, callOfE_ok ce_ref36_Check trivial⟩ h
-- sawmill/sawmillref03.Len: loops []; state: params 0..0, then [1, 2]
attribute [simp] Tryz.f43
noncomputable def an_ref03_Len : Ann := ⟨[1, 2], [7, 18], [], [], [], some [2], [], [], [], []⟩
@[simp] theorem an_ref03_Len_draws : an_ref03_Len.draws = [] := rfl
@[simp] theorem an_ref03_Len_exits : an_ref03_Len.exits = [] := rfl
@[simp] theorem an_ref03_Len_rets : an_ref03_Len.rets = some [2] := rfl
@[simp] theorem an_ref03_Len_keep : an_ref03_Len.keep = [1, 2] := rfl
@[simp] theorem an_ref03_Len_cond : an_ref03_Len.cond = [7, 18] := rfl
@[simp] theorem an_ref03_Len_rows : an_ref03_Len.rows = [] := rfl
@[simp] theorem an_ref03_Len_loops : an_ref03_Len.loops = [] := rfl
@[simp] theorem an_ref03_Len_ecalls : an_ref03_Len.ecalls = [] := rfl
@[simp] theorem an_ref03_Len_crows : an_ref03_Len.crows = [] := rfl
@[simp] theorem an_ref03_Len_tails : an_ref03_Len.tails = [] := rfl
@[simp] noncomputable def cl_ref03_Len : List (Nat × (List D → Option D)) := []
@[simp] noncomputable def ce_ref03_Len : List (Nat × (List (Nat × O) → List D → Option (D × List (Nat × O)))) := []
noncomputable def c_ref03_Len : CT := ⟨callOf (cl_ref03_Len ), callOfE ce_ref03_Len, gl⟩
@[simp] theorem c_ref03_Len_p (f : FuncId) (ds : List D) : c_ref03_Len.p f ds = callOf (cl_ref03_Len ) f ds := Eq.trans rfl rfl
@[simp] theorem c_ref03_Len_e (f : FuncId) (hs : List (Nat × O)) (ds : List D) : c_ref03_Len.e f hs ds = callOfE ce_ref03_Len f hs ds := Eq.trans rfl rfl
@[simp] theorem c_ref03_Len_g (g : Nat) : c_ref03_Len.g g = gl g := Eq.trans rfl rfl
noncomputable def L_ref03_Len (i n : Nat) (s : St) : Option (E × St) := atN Tryz.prog c_ref03_Len an_ref03_Len 24 (bodyOf Tryz.f43) i n s
noncomputable def H_ref03_Len (n i : Nat) (s : St) : Option (E × St) := atH Tryz.prog c_ref03_Len an_ref03_Len 24 (bodyOf Tryz.f43) n i s
@[simp] theorem H_ref03_Len_eq (n i : Nat) (s : St) : H_ref03_Len n i s = L_ref03_Len i n (headOf (an_ref03_Len.loops.lookup i) s) := rfl
noncomputable def R_ref03_Len (i : Nat) (s : St) : Option (E × St) := stepL Tryz.prog c_ref03_Len an_ref03_Len 24 (bodyOf Tryz.f43) i s
theorem lok_ref03_Len : okLoops (bodyOf Tryz.f43) = true := by kernel_rfl
noncomputable def F_ref03_Len (ds : List D) : Option D := runF Tryz.prog c_ref03_Len an_ref03_Len 24 (bodyOf Tryz.f43) [.tmp 2] ds
theorem F_ref03_Len_eq (ds : List D) : F_ref03_Len ds = runG Tryz.prog c_ref03_Len (H_ref03_Len bigL) an_ref03_Len 24 (bodyOf Tryz.f43) [.tmp 2] ds := runG_eq lok_ref03_Len _ ds
theorem C_ref03_Len (ds : List D) (r : D) (h : F_ref03_Len ds = some r) : Contract Tryz.prog gl 43 ds r := contract_of mix Tryz.func43 rfl (by kernel_rfl) (by kernel_rfl) (by decide) (call := c_ref03_Len) ⟨callOf_ok cl_ref03_Len trivial, callOfE_ok ce_ref03_Len trivial⟩ h
-- sawmill/sawmillref40.Thick: loops []; state: params 0..0, then [1, 2]
attribute [simp] Tryz.f24
noncomputable def an_ref40_Thick : Ann := ⟨[1, 2], [], [], [], [], some [2], [(1, 7)], [], [], []⟩
@[simp] theorem an_ref40_Thick_draws : an_ref40_Thick.draws = [(1, 7)] := rfl
@[simp] theorem an_ref40_Thick_exits : an_ref40_Thick.exits = [] := rfl
@[simp] theorem an_ref40_Thick_rets : an_ref40_Thick.rets = some [2] := rfl
@[simp] theorem an_ref40_Thick_keep : an_ref40_Thick.keep = [1, 2] := rfl
@[simp] theorem an_ref40_Thick_cond : an_ref40_Thick.cond = [] := rfl
@[simp] theorem an_ref40_Thick_rows : an_ref40_Thick.rows = [] := rfl
@[simp] theorem an_ref40_Thick_loops : an_ref40_Thick.loops = [] := rfl
@[simp] theorem an_ref40_Thick_ecalls : an_ref40_Thick.ecalls = [] := rfl
@[simp] theorem an_ref40_Thick_crows : an_ref40_Thick.crows = [] := rfl
@[simp] theorem an_ref40_Thick_tails : an_ref40_Thick.tails = [] := rfl
@[simp] noncomputable def cl_ref40_Thick : List (Nat × (List D → Option D)) := [(43, F_ref03_Len)]
@[simp] noncomputable def ce_ref40_Thick : List (Nat × (List (Nat × O) → List D → Option (D × List (Nat × O)))) := []
noncomputable def c_ref40_Thick : CT := ⟨callOf (cl_ref40_Thick ), callOfE ce_ref40_Thick, gl⟩
@[simp] theorem c_ref40_Thick_p (f : FuncId) (ds : List D) : c_ref40_Thick.p f ds = callOf (cl_ref40_Thick ) f ds := Eq.trans rfl rfl
@[simp] theorem c_ref40_Thick_e (f : FuncId) (hs : List (Nat × O)) (ds : List D) : c_ref40_Thick.e f hs ds = callOfE ce_ref40_Thick f hs ds := Eq.trans rfl rfl
@[simp] theorem c_ref40_Thick_g (g : Nat) : c_ref40_Thick.g g = gl g := Eq.trans rfl rfl
noncomputable def L_ref40_Thick (i n : Nat) (s : St) : Option (E × St) := atN Tryz.prog c_ref40_Thick an_ref40_Thick 12 (bodyOf Tryz.f24) i n s
noncomputable def H_ref40_Thick (n i : Nat) (s : St) : Option (E × St) := atH Tryz.prog c_ref40_Thick an_ref40_Thick 12 (bodyOf Tryz.f24) n i s
@[simp] theorem H_ref40_Thick_eq (n i : Nat) (s : St) : H_ref40_Thick n i s = L_ref40_Thick i n (headOf (an_ref40_Thick.loops.lookup i) s) := rfl
noncomputable def R_ref40_Thick (i : Nat) (s : St) : Option (E × St) := stepL Tryz.prog c_ref40_Thick an_ref40_Thick 12 (bodyOf Tryz.f24) i s
theorem lok_ref40_Thick : okLoops (bodyOf Tryz.f24) = true := by kernel_rfl
noncomputable def F_ref40_Thick (ds : List D) : Option D := runF Tryz.prog c_ref40_Thick an_ref40_Thick 12 (bodyOf Tryz.f24) [.tmp 2] ds
theorem F_ref40_Thick_eq (ds : List D) : F_ref40_Thick ds = runG Tryz.prog c_ref40_Thick (H_ref40_Thick bigL) an_ref40_Thick 12 (bodyOf Tryz.f24) [.tmp 2] ds := runG_eq lok_ref40_Thick _ ds
theorem C_ref40_Thick (ds : List D) (r : D) (h : F_ref40_Thick ds = some r) : Contract Tryz.prog gl 24 ds r := contract_of mix Tryz.func24 rfl (by kernel_rfl) (by kernel_rfl) (by decide) (call := c_ref40_Thick) ⟨callOf_ok cl_ref40_Thick ⟨C_ref03_Len, trivial⟩, callOfE_ok ce_ref40_Thick trivial⟩ h
-- sawmill/sawmillref02.digit: loops []; state: params 0..0, then [2]
attribute [simp] Tryz.f68
noncomputable def an_ref02_digit : Ann := ⟨[2], [], [], [], [], some [2], [], [], [], []⟩
@[simp] theorem an_ref02_digit_draws : an_ref02_digit.draws = [] := rfl
@[simp] theorem an_ref02_digit_exits : an_ref02_digit.exits = [] := rfl
@[simp] theorem an_ref02_digit_rets : an_ref02_digit.rets = some [2] := rfl
@[simp] theorem an_ref02_digit_keep : an_ref02_digit.keep = [2] := rfl
@[simp] theorem an_ref02_digit_cond : an_ref02_digit.cond = [] := rfl
@[simp] theorem an_ref02_digit_rows : an_ref02_digit.rows = [] := rfl
@[simp] theorem an_ref02_digit_loops : an_ref02_digit.loops = [] := rfl
@[simp] theorem an_ref02_digit_ecalls : an_ref02_digit.ecalls = [] := rfl
@[simp] theorem an_ref02_digit_crows : an_ref02_digit.crows = [] := rfl
@[simp] theorem an_ref02_digit_tails : an_ref02_digit.tails = [] := rfl
@[simp] noncomputable def cl_ref02_digit : List (Nat × (List D → Option D)) := []
@[simp] noncomputable def ce_ref02_digit : List (Nat × (List (Nat × O) → List D → Option (D × List (Nat × O)))) := []
noncomputable def c_ref02_digit : CT := ⟨callOf (cl_ref02_digit ), callOfE ce_ref02_digit, gl⟩
@[simp] theorem c_ref02_digit_p (f : FuncId) (ds : List D) : c_ref02_digit.p f ds = callOf (cl_ref02_digit ) f ds := Eq.trans rfl rfl
@[simp] theorem c_ref02_digit_e (f : FuncId) (hs : List (Nat × O)) (ds : List D) : c_ref02_digit.e f hs ds = callOfE ce_ref02_digit f hs ds := Eq.trans rfl rfl
@[simp] theorem c_ref02_digit_g (g : Nat) : c_ref02_digit.g g = gl g := Eq.trans rfl rfl
noncomputable def L_ref02_digit (i n : Nat) (s : St) : Option (E × St) := atN Tryz.prog c_ref02_digit an_ref02_digit 9 (bodyOf Tryz.f68) i n s
noncomputable def H_ref02_digit (n i : Nat) (s : St) : Option (E × St) := atH Tryz.prog c_ref02_digit an_ref02_digit 9 (bodyOf Tryz.f68) n i s
@[simp] theorem H_ref02_digit_eq (n i : Nat) (s : St) : H_ref02_digit n i s = L_ref02_digit i n (headOf (an_ref02_digit.loops.lookup i) s) := rfl
noncomputable def R_ref02_digit (i : Nat) (s : St) : Option (E × St) := stepL Tryz.prog c_ref02_digit an_ref02_digit 9 (bodyOf Tryz.f68) i s
theorem lok_ref02_digit : okLoops (bodyOf Tryz.f68) = true := by kernel_rfl
noncomputable def F_ref02_digit (ds : List D) : Option D := runF Tryz.prog c_ref02_digit an_ref02_digit 9 (bodyOf Tryz.f68) [.tmp 2] ds
theorem F_ref02_digit_eq (ds : List D) : F_ref02_digit ds = runG Tryz.prog c_ref02_digit (H_ref02_digit bigL) an_ref02_digit 9 (bodyOf Tryz.f68) [.tmp 2] ds := runG_eq lok_ref02_digit _ ds
theorem C_ref02_digit (ds : List D) (r : D) (h : F_ref02_digit ds = some r) : Contract Tryz.prog gl 68 ds r := contract_of mix Tryz.func68 rfl (by kernel_rfl) (by kernel_rfl) (by decide) (call := c_ref02_digit) ⟨callOf_ok cl_ref02_digit trivial, callOfE_ok ce_ref02_digit trivial⟩ h
-- sawmill/sawmillref02.IsName: loops [4]; state: params 0..0, then [2, 3, 4]
attribute [simp] Tryz.f44
noncomputable def an_ref02_IsName : Ann := ⟨[0, 2, 3, 4], [12, 16, 47], [], [(4, [0, 3])], [(0, []), (1, [0, 3])], some [2], [], [], [], []⟩
@[simp] theorem an_ref02_IsName_draws : an_ref02_IsName.draws = [] := rfl
@[simp] theorem an_ref02_IsName_exits : an_ref02_IsName.exits = [(0, []), (1, [0, 3])] := rfl
@[simp] theorem an_ref02_IsName_rets : an_ref02_IsName.rets = some [2] := rfl
@[simp] theorem an_ref02_IsName_keep : an_ref02_IsName.keep = [0, 2, 3, 4] := rfl
@[simp] theorem an_ref02_IsName_cond : an_ref02_IsName.cond = [12, 16, 47] := rfl
@[simp] theorem an_ref02_IsName_rows : an_ref02_IsName.rows = [] := rfl
@[simp] theorem an_ref02_IsName_loops : an_ref02_IsName.loops = [(4, [0, 3])] := rfl
@[simp] theorem an_ref02_IsName_ecalls : an_ref02_IsName.ecalls = [] := rfl
@[simp] theorem an_ref02_IsName_crows : an_ref02_IsName.crows = [] := rfl
@[simp] theorem an_ref02_IsName_tails : an_ref02_IsName.tails = [] := rfl
@[simp] noncomputable def cl_ref02_IsName : List (Nat × (List D → Option D)) := [(68, F_ref02_digit)]
@[simp] noncomputable def ce_ref02_IsName : List (Nat × (List (Nat × O) → List D → Option (D × List (Nat × O)))) := []
noncomputable def c_ref02_IsName : CT := ⟨callOf (cl_ref02_IsName ), callOfE ce_ref02_IsName, gl⟩
@[simp] theorem c_ref02_IsName_p (f : FuncId) (ds : List D) : c_ref02_IsName.p f ds = callOf (cl_ref02_IsName ) f ds := Eq.trans rfl rfl
@[simp] theorem c_ref02_IsName_e (f : FuncId) (hs : List (Nat × O)) (ds : List D) : c_ref02_IsName.e f hs ds = callOfE ce_ref02_IsName f hs ds := Eq.trans rfl rfl
@[simp] theorem c_ref02_IsName_g (g : Nat) : c_ref02_IsName.g g = gl g := Eq.trans rfl rfl
noncomputable def L_ref02_IsName (i n : Nat) (s : St) : Option (E × St) := atN Tryz.prog c_ref02_IsName an_ref02_IsName 48 (bodyOf Tryz.f44) i n s
noncomputable def H_ref02_IsName (n i : Nat) (s : St) : Option (E × St) := atH Tryz.prog c_ref02_IsName an_ref02_IsName 48 (bodyOf Tryz.f44) n i s
@[simp] theorem H_ref02_IsName_eq (n i : Nat) (s : St) : H_ref02_IsName n i s = L_ref02_IsName i n (headOf (an_ref02_IsName.loops.lookup i) s) := rfl
noncomputable def R_ref02_IsName (i : Nat) (s : St) : Option (E × St) := stepL Tryz.prog c_ref02_IsName an_ref02_IsName 48 (bodyOf Tryz.f44) i s
theorem lok_ref02_IsName : okLoops (bodyOf Tryz.f44) = true := by kernel_rfl
theorem L_ref02_IsName_zero (i : Nat) (s : St) : L_ref02_IsName i 0 s = none := rfl
theorem L_ref02_IsName_succ (i n : Nat) (s : St) : L_ref02_IsName i (n + 1) s = andThen (R_ref02_IsName i s) (H_ref02_IsName n i) := atN_succ lok_ref02_IsName i n s
theorem R_ref02_IsName_eq (i : Nat) (s : St) : R_ref02_IsName i s = runS Tryz.prog c_ref02_IsName (H_ref02_IsName bigL) an_ref02_IsName 48 (loopAt (bodyOf Tryz.f44) i) s := rfl
noncomputable def F_ref02_IsName (ds : List D) : Option D := runF Tryz.prog c_ref02_IsName an_ref02_IsName 48 (bodyOf Tryz.f44) [.tmp 2] ds
theorem F_ref02_IsName_eq (ds : List D) : F_ref02_IsName ds = runG Tryz.prog c_ref02_IsName (H_ref02_IsName bigL) an_ref02_IsName 48 (bodyOf Tryz.f44) [.tmp 2] ds := runG_eq lok_ref02_IsName _ ds
theorem C_ref02_IsName (ds : List D) (r : D) (h : F_ref02_IsName ds = some r) : Contract Tryz.prog gl 44 ds r := contract_of mix Tryz.func44 rfl (by kernel_rfl) (by kernel_rfl) (by decide) (call := c_ref02_IsName) ⟨callOf_ok cl_ref02_IsName ⟨C_ref02_digit, trivial⟩, callOfE_ok ce_ref02_IsName trivial⟩ h
-- sawmill/sawmillref37.from: loops []; state: params 0..2, then [6]
attribute [simp] Tryz.f45
noncomputable def an_ref37_from : Ann := ⟨[6], [], [], [], [], some [6], [], [], [], []⟩
@[simp] theorem an_ref37_from_draws : an_ref37_from.draws = [] := rfl
@[simp] theorem an_ref37_from_exits : an_ref37_from.exits = [] := rfl
@[simp] theorem an_ref37_from_rets : an_ref37_from.rets = some [6] := rfl
@[simp] theorem an_ref37_from_keep : an_ref37_from.keep = [6] := rfl
@[simp] theorem an_ref37_from_cond : an_ref37_from.cond = [] := rfl
@[simp] theorem an_ref37_from_rows : an_ref37_from.rows = [] := rfl
@[simp] theorem an_ref37_from_loops : an_ref37_from.loops = [] := rfl
@[simp] theorem an_ref37_from_ecalls : an_ref37_from.ecalls = [] := rfl
@[simp] theorem an_ref37_from_crows : an_ref37_from.crows = [] := rfl
@[simp] theorem an_ref37_from_tails : an_ref37_from.tails = [] := rfl
@[simp] noncomputable def cl_ref37_from : List (Nat × (List D → Option D)) := []
@[simp] noncomputable def ce_ref37_from : List (Nat × (List (Nat × O) → List D → Option (D × List (Nat × O)))) := []
noncomputable def c_ref37_from : CT := ⟨callOf (cl_ref37_from ), callOfE ce_ref37_from, gl⟩
@[simp] theorem c_ref37_from_p (f : FuncId) (ds : List D) : c_ref37_from.p f ds = callOf (cl_ref37_from ) f ds := Eq.trans rfl rfl
@[simp] theorem c_ref37_from_e (f : FuncId) (hs : List (Nat × O)) (ds : List D) : c_ref37_from.e f hs ds = callOfE ce_ref37_from f hs ds := Eq.trans rfl rfl
@[simp] theorem c_ref37_from_g (g : Nat) : c_ref37_from.g g = gl g := Eq.trans rfl rfl
noncomputable def L_ref37_from (i n : Nat) (s : St) : Option (E × St) := atN Tryz.prog c_ref37_from an_ref37_from 15 (bodyOf Tryz.f45) i n s
noncomputable def H_ref37_from (n i : Nat) (s : St) : Option (E × St) := atH Tryz.prog c_ref37_from an_ref37_from 15 (bodyOf Tryz.f45) n i s
@[simp] theorem H_ref37_from_eq (n i : Nat) (s : St) : H_ref37_from n i s = L_ref37_from i n (headOf (an_ref37_from.loops.lookup i) s) := rfl
noncomputable def R_ref37_from (i : Nat) (s : St) : Option (E × St) := stepL Tryz.prog c_ref37_from an_ref37_from 15 (bodyOf Tryz.f45) i s
theorem lok_ref37_from : okLoops (bodyOf Tryz.f45) = true := by kernel_rfl
noncomputable def F_ref37_from (ds : List D) : Option D := runF Tryz.prog c_ref37_from an_ref37_from 15 (bodyOf Tryz.f45) [.tmp 6] ds
theorem F_ref37_from_eq (ds : List D) : F_ref37_from ds = runG Tryz.prog c_ref37_from (H_ref37_from bigL) an_ref37_from 15 (bodyOf Tryz.f45) [.tmp 6] ds := runG_eq lok_ref37_from _ ds
theorem C_ref37_from (ds : List D) (r : D) (h : F_ref37_from ds = some r) : Contract Tryz.prog gl 45 ds r := contract_of mix Tryz.func45 rfl (by kernel_rfl) (by kernel_rfl) (by decide) (call := c_ref37_from) ⟨callOf_ok cl_ref37_from trivial, callOfE_ok ce_ref37_from trivial⟩ h
-- sawmill/sawmillref37.Check: loops [10]; state: params 0..0, then [1, 2, 3, 4]
attribute [simp] Tryz.f25
noncomputable def an_ref37_Check : Ann := ⟨[1, 2, 3, 4], [8, 12, 16, 20, 25, 64], [], [(10, [1, 3])], [(0, []), (1, [1, 3])], some [2], [], [], [], []⟩
@[simp] theorem an_ref37_Check_draws : an_ref37_Check.draws = [] := rfl
@[simp] theorem an_ref37_Check_exits : an_ref37_Check.exits = [(0, []), (1, [1, 3])] := rfl
@[simp] theorem an_ref37_Check_rets : an_ref37_Check.rets = some [2] := rfl
@[simp] theorem an_ref37_Check_keep : an_ref37_Check.keep = [1, 2, 3, 4] := rfl
@[simp] theorem an_ref37_Check_cond : an_ref37_Check.cond = [8, 12, 16, 20, 25, 64] := rfl
@[simp] theorem an_ref37_Check_rows : an_ref37_Check.rows = [] := rfl
@[simp] theorem an_ref37_Check_loops : an_ref37_Check.loops = [(10, [1, 3])] := rfl
@[simp] theorem an_ref37_Check_ecalls : an_ref37_Check.ecalls = [] := rfl
@[simp] theorem an_ref37_Check_crows : an_ref37_Check.crows = [] := rfl
@[simp] theorem an_ref37_Check_tails : an_ref37_Check.tails = [] := rfl
@[simp] noncomputable def cl_ref37_Check : List (Nat × (List D → Option D)) := [(44, F_ref02_IsName), (45, F_ref37_from)]
@[simp] noncomputable def ce_ref37_Check : List (Nat × (List (Nat × O) → List D → Option (D × List (Nat × O)))) := []
noncomputable def c_ref37_Check : CT := ⟨callOf (cl_ref37_Check ), callOfE ce_ref37_Check, gl⟩
@[simp] theorem c_ref37_Check_p (f : FuncId) (ds : List D) : c_ref37_Check.p f ds = callOf (cl_ref37_Check ) f ds := Eq.trans rfl rfl
@[simp] theorem c_ref37_Check_e (f : FuncId) (hs : List (Nat × O)) (ds : List D) : c_ref37_Check.e f hs ds = callOfE ce_ref37_Check f hs ds := Eq.trans rfl rfl
@[simp] theorem c_ref37_Check_g (g : Nat) : c_ref37_Check.g g = gl g := Eq.trans rfl rfl
noncomputable def L_ref37_Check (i n : Nat) (s : St) : Option (E × St) := atN Tryz.prog c_ref37_Check an_ref37_Check 65 (bodyOf Tryz.f25) i n s
noncomputable def H_ref37_Check (n i : Nat) (s : St) : Option (E × St) := atH Tryz.prog c_ref37_Check an_ref37_Check 65 (bodyOf Tryz.f25) n i s
@[simp] theorem H_ref37_Check_eq (n i : Nat) (s : St) : H_ref37_Check n i s = L_ref37_Check i n (headOf (an_ref37_Check.loops.lookup i) s) := rfl
noncomputable def R_ref37_Check (i : Nat) (s : St) : Option (E × St) := stepL Tryz.prog c_ref37_Check an_ref37_Check 65 (bodyOf Tryz.f25) i s
theorem lok_ref37_Check : okLoops (bodyOf Tryz.f25) = true := by kernel_rfl
theorem L_ref37_Check_zero (i : Nat) (s : St) : L_ref37_Check i 0 s = none := rfl
theorem L_ref37_Check_succ (i n : Nat) (s : St) : L_ref37_Check i (n + 1) s = andThen (R_ref37_Check i s) (H_ref37_Check n i) := atN_succ lok_ref37_Check i n s
theorem R_ref37_Check_eq (i : Nat) (s : St) : R_ref37_Check i s = runS Tryz.prog c_ref37_Check (H_ref37_Check bigL) an_ref37_Check 65 (loopAt (bodyOf Tryz.f25) i) s := rfl
noncomputable def F_ref37_Check (ds : List D) : Option D := runF Tryz.prog c_ref37_Check an_ref37_Check 65 (bodyOf Tryz.f25) [.tmp 2] ds
theorem F_ref37_Check_eq (ds : List D) : F_ref37_Check ds = runG Tryz.prog c_ref37_Check (H_ref37_Check bigL) an_ref37_Check 65 (bodyOf Tryz.f25) [.tmp 2] ds := runG_eq lok_ref37_Check _ ds
theorem C_ref37_Check (ds : List D) (r : D) (h : F_ref37_Check ds = some r) : Contract Tryz.prog gl 25 ds r := contract_of mix Tryz.func25 rfl (by kernel_rfl) (by kernel_rfl) (by decide) (call := c_ref37_Check) ⟨callOf_ok cl_ref37_Check ⟨C_ref02_IsName, C_ref37_from, trivial⟩, callOfE_ok ce_ref37_Check trivial⟩ h
-- sawmill/sawmillref34.from: loops []; state: params 0..2, then [6]
attribute [simp] Tryz.f69
noncomputable def an_ref34_from : Ann := ⟨[6], [], [], [], [], some [6], [], [], [], []⟩
@[simp] theorem an_ref34_from_draws : an_ref34_from.draws = [] := rfl
@[simp] theorem an_ref34_from_exits : an_ref34_from.exits = [] := rfl
@[simp] theorem an_ref34_from_rets : an_ref34_from.rets = some [6] := rfl
@[simp] theorem an_ref34_from_keep : an_ref34_from.keep = [6] := rfl
@[simp] theorem an_ref34_from_cond : an_ref34_from.cond = [] := rfl
@[simp] theorem an_ref34_from_rows : an_ref34_from.rows = [] := rfl
@[simp] theorem an_ref34_from_loops : an_ref34_from.loops = [] := rfl
@[simp] theorem an_ref34_from_ecalls : an_ref34_from.ecalls = [] := rfl
@[simp] theorem an_ref34_from_crows : an_ref34_from.crows = [] := rfl
@[simp] theorem an_ref34_from_tails : an_ref34_from.tails = [] := rfl
@[simp] noncomputable def cl_ref34_from : List (Nat × (List D → Option D)) := []
@[simp] noncomputable def ce_ref34_from : List (Nat × (List (Nat × O) → List D → Option (D × List (Nat × O)))) := []
noncomputable def c_ref34_from : CT := ⟨callOf (cl_ref34_from ), callOfE ce_ref34_from, gl⟩
@[simp] theorem c_ref34_from_p (f : FuncId) (ds : List D) : c_ref34_from.p f ds = callOf (cl_ref34_from ) f ds := Eq.trans rfl rfl
@[simp] theorem c_ref34_from_e (f : FuncId) (hs : List (Nat × O)) (ds : List D) : c_ref34_from.e f hs ds = callOfE ce_ref34_from f hs ds := Eq.trans rfl rfl
@[simp] theorem c_ref34_from_g (g : Nat) : c_ref34_from.g g = gl g := Eq.trans rfl rfl
noncomputable def L_ref34_from (i n : Nat) (s : St) : Option (E × St) := atN Tryz.prog c_ref34_from an_ref34_from 15 (bodyOf Tryz.f69) i n s
noncomputable def H_ref34_from (n i : Nat) (s : St) : Option (E × St) := atH Tryz.prog c_ref34_from an_ref34_from 15 (bodyOf Tryz.f69) n i s
@[simp] theorem H_ref34_from_eq (n i : Nat) (s : St) : H_ref34_from n i s = L_ref34_from i n (headOf (an_ref34_from.loops.lookup i) s) := rfl
noncomputable def R_ref34_from (i : Nat) (s : St) : Option (E × St) := stepL Tryz.prog c_ref34_from an_ref34_from 15 (bodyOf Tryz.f69) i s
theorem lok_ref34_from : okLoops (bodyOf Tryz.f69) = true := by kernel_rfl
noncomputable def F_ref34_from (ds : List D) : Option D := runF Tryz.prog c_ref34_from an_ref34_from 15 (bodyOf Tryz.f69) [.tmp 6] ds
theorem F_ref34_from_eq (ds : List D) : F_ref34_from ds = runG Tryz.prog c_ref34_from (H_ref34_from bigL) an_ref34_from 15 (bodyOf Tryz.f69) [.tmp 6] ds := runG_eq lok_ref34_from _ ds
theorem C_ref34_from (ds : List D) (r : D) (h : F_ref34_from ds = some r) : Contract Tryz.prog gl 69 ds r := contract_of mix Tryz.func69 rfl (by kernel_rfl) (by kernel_rfl) (by decide) (call := c_ref34_from) ⟨callOf_ok cl_ref34_from trivial, callOfE_ok ce_ref34_from trivial⟩ h
-- sawmill/sawmillref34.valid: loops []; state: params 0..0, then [1, 2]
attribute [simp] Tryz.f46
noncomputable def an_ref34_valid : Ann := ⟨[1, 2], [40, 50], [], [], [], some [2], [], [], [], []⟩
@[simp] theorem an_ref34_valid_draws : an_ref34_valid.draws = [] := rfl
@[simp] theorem an_ref34_valid_exits : an_ref34_valid.exits = [] := rfl
@[simp] theorem an_ref34_valid_rets : an_ref34_valid.rets = some [2] := rfl
@[simp] theorem an_ref34_valid_keep : an_ref34_valid.keep = [1, 2] := rfl
@[simp] theorem an_ref34_valid_cond : an_ref34_valid.cond = [40, 50] := rfl
@[simp] theorem an_ref34_valid_rows : an_ref34_valid.rows = [] := rfl
@[simp] theorem an_ref34_valid_loops : an_ref34_valid.loops = [] := rfl
@[simp] theorem an_ref34_valid_ecalls : an_ref34_valid.ecalls = [] := rfl
@[simp] theorem an_ref34_valid_crows : an_ref34_valid.crows = [] := rfl
@[simp] theorem an_ref34_valid_tails : an_ref34_valid.tails = [] := rfl
@[simp] noncomputable def cl_ref34_valid : List (Nat × (List D → Option D)) := [(69, F_ref34_from)]
@[simp] noncomputable def ce_ref34_valid : List (Nat × (List (Nat × O) → List D → Option (D × List (Nat × O)))) := []
noncomputable def c_ref34_valid : CT := ⟨callOf (cl_ref34_valid ), callOfE ce_ref34_valid, gl⟩
@[simp] theorem c_ref34_valid_p (f : FuncId) (ds : List D) : c_ref34_valid.p f ds = callOf (cl_ref34_valid ) f ds := Eq.trans rfl rfl
@[simp] theorem c_ref34_valid_e (f : FuncId) (hs : List (Nat × O)) (ds : List D) : c_ref34_valid.e f hs ds = callOfE ce_ref34_valid f hs ds := Eq.trans rfl rfl
@[simp] theorem c_ref34_valid_g (g : Nat) : c_ref34_valid.g g = gl g := Eq.trans rfl rfl
noncomputable def L_ref34_valid (i n : Nat) (s : St) : Option (E × St) := atN Tryz.prog c_ref34_valid an_ref34_valid 69 (bodyOf Tryz.f46) i n s
noncomputable def H_ref34_valid (n i : Nat) (s : St) : Option (E × St) := atH Tryz.prog c_ref34_valid an_ref34_valid 69 (bodyOf Tryz.f46) n i s
@[simp] theorem H_ref34_valid_eq (n i : Nat) (s : St) : H_ref34_valid n i s = L_ref34_valid i n (headOf (an_ref34_valid.loops.lookup i) s) := rfl
noncomputable def R_ref34_valid (i : Nat) (s : St) : Option (E × St) := stepL Tryz.prog c_ref34_valid an_ref34_valid 69 (bodyOf Tryz.f46) i s
theorem lok_ref34_valid : okLoops (bodyOf Tryz.f46) = true := by kernel_rfl
noncomputable def F_ref34_valid (ds : List D) : Option D := runF Tryz.prog c_ref34_valid an_ref34_valid 69 (bodyOf Tryz.f46) [.tmp 2] ds
theorem F_ref34_valid_eq (ds : List D) : F_ref34_valid ds = runG Tryz.prog c_ref34_valid (H_ref34_valid bigL) an_ref34_valid 69 (bodyOf Tryz.f46) [.tmp 2] ds := runG_eq lok_ref34_valid _ ds
theorem C_ref34_valid (ds : List D) (r : D) (h : F_ref34_valid ds = some r) : Contract Tryz.prog gl 46 ds r := contract_of mix Tryz.func46 rfl (by kernel_rfl) (by kernel_rfl) (by decide) (call := c_ref34_valid) ⟨callOf_ok cl_ref34_valid ⟨C_ref34_from, trivial⟩, callOfE_ok ce_ref34_valid trivial⟩ h
-- sawmill/sawmillref34.Check: loops [4, 9]; state: params 0..0, then [2, 3, 4]
attribute [simp] Tryz.f26
noncomputable def an_ref34_Check : Ann := ⟨[0, 2, 3, 4], [7, 11, 20, 23, 36, 42], [], [(4, [0, 3]), (9, [0, 3, 4])], [(0, []), (1, [0, 3]), (2, [0, 3]), (3, [0, 3, 4])], some [2], [(11, 10)], [], [], []⟩
@[simp] theorem an_ref34_Check_draws : an_ref34_Check.draws = [(11, 10)] := rfl
@[simp] theorem an_ref34_Check_exits : an_ref34_Check.exits = [(0, []), (1, [0, 3]), (2, [0, 3]), (3, [0, 3, 4])] := rfl
@[simp] theorem an_ref34_Check_rets : an_ref34_Check.rets = some [2] := rfl
@[simp] theorem an_ref34_Check_keep : an_ref34_Check.keep = [0, 2, 3, 4] := rfl
@[simp] theorem an_ref34_Check_cond : an_ref34_Check.cond = [7, 11, 20, 23, 36, 42] := rfl
@[simp] theorem an_ref34_Check_rows : an_ref34_Check.rows = [] := rfl
@[simp] theorem an_ref34_Check_loops : an_ref34_Check.loops = [(4, [0, 3]), (9, [0, 3, 4])] := rfl
@[simp] theorem an_ref34_Check_ecalls : an_ref34_Check.ecalls = [] := rfl
@[simp] theorem an_ref34_Check_crows : an_ref34_Check.crows = [] := rfl
@[simp] theorem an_ref34_Check_tails : an_ref34_Check.tails = [] := rfl
@[simp] noncomputable def cl_ref34_Check : List (Nat × (List D → Option D)) := [(44, F_ref02_IsName), (46, F_ref34_valid)]
@[simp] noncomputable def ce_ref34_Check : List (Nat × (List (Nat × O) → List D → Option (D × List (Nat × O)))) := []
noncomputable def c_ref34_Check : CT := ⟨callOf (cl_ref34_Check ), callOfE ce_ref34_Check, gl⟩
@[simp] theorem c_ref34_Check_p (f : FuncId) (ds : List D) : c_ref34_Check.p f ds = callOf (cl_ref34_Check ) f ds := Eq.trans rfl rfl
@[simp] theorem c_ref34_Check_e (f : FuncId) (hs : List (Nat × O)) (ds : List D) : c_ref34_Check.e f hs ds = callOfE ce_ref34_Check f hs ds := Eq.trans rfl rfl
@[simp] theorem c_ref34_Check_g (g : Nat) : c_ref34_Check.g g = gl g := Eq.trans rfl rfl
noncomputable def L_ref34_Check (i n : Nat) (s : St) : Option (E × St) := atN Tryz.prog c_ref34_Check an_ref34_Check 43 (bodyOf Tryz.f26) i n s
noncomputable def H_ref34_Check (n i : Nat) (s : St) : Option (E × St) := atH Tryz.prog c_ref34_Check an_ref34_Check 43 (bodyOf Tryz.f26) n i s
@[simp] theorem H_ref34_Check_eq (n i : Nat) (s : St) : H_ref34_Check n i s = L_ref34_Check i n (headOf (an_ref34_Check.loops.lookup i) s) := rfl
noncomputable def R_ref34_Check (i : Nat) (s : St) : Option (E × St) := stepL Tryz.prog c_ref34_Check an_ref34_Check 43 (bodyOf Tryz.f26) i s
theorem lok_ref34_Check : okLoops (bodyOf Tryz.f26) = true := by kernel_rfl
theorem L_ref34_Check_zero (i : Nat) (s : St) : L_ref34_Check i 0 s = none := rfl
theorem L_ref34_Check_succ (i n : Nat) (s : St) : L_ref34_Check i (n + 1) s = andThen (R_ref34_Check i s) (H_ref34_Check n i) := atN_succ lok_ref34_Check i n s
theorem R_ref34_Check_eq (i : Nat) (s : St) : R_ref34_Check i s = runS Tryz.prog c_ref34_Check (H_ref34_Check bigL) an_ref34_Check 43 (loopAt (bodyOf Tryz.f26) i) s := rfl
noncomputable def F_ref34_Check (ds : List D) : Option D := runF Tryz.prog c_ref34_Check an_ref34_Check 43 (bodyOf Tryz.f26) [.tmp 2] ds
theorem F_ref34_Check_eq (ds : List D) : F_ref34_Check ds = runG Tryz.prog c_ref34_Check (H_ref34_Check bigL) an_ref34_Check 43 (bodyOf Tryz.f26) [.tmp 2] ds := runG_eq lok_ref34_Check _ ds
theorem C_ref34_Check (ds : List D) (r : D) (h : F_ref34_Check ds = some r) : Contract Tryz.prog gl 26 ds r := contract_of mix Tryz.func26 rfl (by kernel_rfl) (by kernel_rfl) (by decide) (call := c_ref34_Check) ⟨callOf_ok cl_ref34_Check ⟨C_ref02_IsName, C_ref34_valid, trivial⟩, callOfE_ok ce_ref34_Check trivial⟩ h
-- sawmill/sawmillref40.Check: loops [6]; state: params 0..2, then [4, 5, 6, 7, 8, 9, 10]
attribute [simp] Tryz.f8
noncomputable def an_ref40_Check : Ann := ⟨[0, 4, 5, 6, 7, 8, 9, 10], [13, 16, 20, 30, 35, 43, 55, 59], [], [(6, [0, 4, 5, 7])], [(0, [4, 5]), (1, [0, 4, 5, 7])], some [6], [(8, 7)], [], [], []⟩
@[simp] theorem an_ref40_Check_draws : an_ref40_Check.draws = [(8, 7)] := rfl
@[simp] theorem an_ref40_Check_exits : an_ref40_Check.exits = [(0, [4, 5]), (1, [0, 4, 5, 7])] := rfl
@[simp] theorem an_ref40_Check_rets : an_ref40_Check.rets = some [6] := rfl
@[simp] theorem an_ref40_Check_keep : an_ref40_Check.keep = [0, 4, 5, 6, 7, 8, 9, 10] := rfl
@[simp] theorem an_ref40_Check_cond : an_ref40_Check.cond = [13, 16, 20, 30, 35, 43, 55, 59] := rfl
@[simp] theorem an_ref40_Check_rows : an_ref40_Check.rows = [] := rfl
@[simp] theorem an_ref40_Check_loops : an_ref40_Check.loops = [(6, [0, 4, 5, 7])] := rfl
@[simp] theorem an_ref40_Check_ecalls : an_ref40_Check.ecalls = [] := rfl
@[simp] theorem an_ref40_Check_crows : an_ref40_Check.crows = [] := rfl
@[simp] theorem an_ref40_Check_tails : an_ref40_Check.tails = [] := rfl
@[simp] noncomputable def cl_ref40_Check : List (Nat × (List D → Option D)) := [(23, F_ref36_Check), (24, F_ref40_Thick), (25, F_ref37_Check), (26, F_ref34_Check)]
@[simp] noncomputable def ce_ref40_Check : List (Nat × (List (Nat × O) → List D → Option (D × List (Nat × O)))) := []
noncomputable def c_ref40_Check : CT := ⟨callOf (cl_ref40_Check ), callOfE ce_ref40_Check, gl⟩
@[simp] theorem c_ref40_Check_p (f : FuncId) (ds : List D) : c_ref40_Check.p f ds = callOf (cl_ref40_Check ) f ds := Eq.trans rfl rfl
@[simp] theorem c_ref40_Check_e (f : FuncId) (hs : List (Nat × O)) (ds : List D) : c_ref40_Check.e f hs ds = callOfE ce_ref40_Check f hs ds := Eq.trans rfl rfl
@[simp] theorem c_ref40_Check_g (g : Nat) : c_ref40_Check.g g = gl g := Eq.trans rfl rfl
noncomputable def L_ref40_Check (i n : Nat) (s : St) : Option (E × St) := atN Tryz.prog c_ref40_Check an_ref40_Check 64 (bodyOf Tryz.f8) i n s
noncomputable def H_ref40_Check (n i : Nat) (s : St) : Option (E × St) := atH Tryz.prog c_ref40_Check an_ref40_Check 64 (bodyOf Tryz.f8) n i s
@[simp] theorem H_ref40_Check_eq (n i : Nat) (s : St) : H_ref40_Check n i s = L_ref40_Check i n (headOf (an_ref40_Check.loops.lookup i) s) := rfl
noncomputable def R_ref40_Check (i : Nat) (s : St) : Option (E × St) := stepL Tryz.prog c_ref40_Check an_ref40_Check 64 (bodyOf Tryz.f8) i s
theorem lok_ref40_Check : okLoops (bodyOf Tryz.f8) = true := by kernel_rfl
theorem L_ref40_Check_zero (i : Nat) (s : St) : L_ref40_Check i 0 s = none := rfl
theorem L_ref40_Check_succ (i n : Nat) (s : St) : L_ref40_Check i (n + 1) s = andThen (R_ref40_Check i s) (H_ref40_Check n i) := atN_succ lok_ref40_Check i n s
theorem R_ref40_Check_eq (i : Nat) (s : St) : R_ref40_Check i s = runS Tryz.prog c_ref40_Check (H_ref40_Check bigL) an_ref40_Check 64 (loopAt (bodyOf Tryz.f8) i) s := rfl
noncomputable def F_ref40_Check (ds : List D) : Option D := runF Tryz.prog c_ref40_Check an_ref40_Check 64 (bodyOf Tryz.f8) [.tmp 6] ds
theorem F_ref40_Check_eq (ds : List D) : F_ref40_Check ds = runG Tryz.prog c_ref40_Check (H_ref40_Check bigL) an_ref40_Check 64 (bodyOf Tryz.f8) [.tmp 6] ds := runG_eq lok_ref40_Check _ ds
theorem C_ref40_Check (ds : List D) (r : D) (h : F_ref40_Check ds = some r) : Contract Tryz.prog gl 8 ds r := contract_of mix Tryz.func8 rfl (by kernel_rfl) (by kernel_rfl) (by decide) (call := c_ref40_Check) ⟨callOf_ok cl_ref40_Check ⟨C_ref36_Check, C_ref40_Thick, C_ref37_Check, C_ref34_Check, trivial⟩, callOfE_ok ce_ref40_Check trivial⟩ h
-- sawmill/sawmilllaw40.plain: loops []; state: params 0..0, then [1, 2]
attribute [simp] Tryz.f11
noncomputable def an_law40_plain : Ann := ⟨[1, 2], [], [], [], [], some [2], [], [], [], []⟩
@[simp] theorem an_law40_plain_draws : an_law40_plain.draws = [] := rfl
@[simp] theorem an_law40_plain_exits : an_law40_plain.exits = [] := rfl
@[simp] theorem an_law40_plain_rets : an_law40_plain.rets = some [2] := rfl
@[simp] theorem an_law40_plain_keep : an_law40_plain.keep = [1, 2] := rfl
@[simp] theorem an_law40_plain_cond : an_law40_plain.cond = [] := rfl
@[simp] theorem an_law40_plain_rows : an_law40_plain.rows = [] := rfl
@[simp] theorem an_law40_plain_loops : an_law40_plain.loops = [] := rfl
@[simp] theorem an_law40_plain_ecalls : an_law40_plain.ecalls = [] := rfl
@[simp] theorem an_law40_plain_crows : an_law40_plain.crows = [] := rfl
@[simp] theorem an_law40_plain_tails : an_law40_plain.tails = [] := rfl
@[simp] noncomputable def cl_law40_plain : List (Nat × (List D → Option D)) := []
@[simp] noncomputable def ce_law40_plain : List (Nat × (List (Nat × O) → List D → Option (D × List (Nat × O)))) := []
noncomputable def c_law40_plain : CT := ⟨callOf (cl_law40_plain ), callOfE ce_law40_plain, gl⟩
@[simp] theorem c_law40_plain_p (f : FuncId) (ds : List D) : c_law40_plain.p f ds = callOf (cl_law40_plain ) f ds := Eq.trans rfl rfl
@[simp] theorem c_law40_plain_e (f : FuncId) (hs : List (Nat × O)) (ds : List D) : c_law40_plain.e f hs ds = callOfE ce_law40_plain f hs ds := Eq.trans rfl rfl
@[simp] theorem c_law40_plain_g (g : Nat) : c_law40_plain.g g = gl g := Eq.trans rfl rfl
noncomputable def L_law40_plain (i n : Nat) (s : St) : Option (E × St) := atN Tryz.prog c_law40_plain an_law40_plain 4 (bodyOf Tryz.f11) i n s
noncomputable def H_law40_plain (n i : Nat) (s : St) : Option (E × St) := atH Tryz.prog c_law40_plain an_law40_plain 4 (bodyOf Tryz.f11) n i s
@[simp] theorem H_law40_plain_eq (n i : Nat) (s : St) : H_law40_plain n i s = L_law40_plain i n (headOf (an_law40_plain.loops.lookup i) s) := rfl
noncomputable def R_law40_plain (i : Nat) (s : St) : Option (E × St) := stepL Tryz.prog c_law40_plain an_law40_plain 4 (bodyOf Tryz.f11) i s
theorem lok_law40_plain : okLoops (bodyOf Tryz.f11) = true := by kernel_rfl
noncomputable def F_law40_plain (ds : List D) : Option D := runF Tryz.prog c_law40_plain an_law40_plain 4 (bodyOf Tryz.f11) [.cell 2 41] ds
theorem F_law40_plain_eq (ds : List D) : F_law40_plain ds = runG Tryz.prog c_law40_plain (H_law40_plain bigL) an_law40_plain 4 (bodyOf Tryz.f11) [.cell 2 41] ds := runG_eq lok_law40_plain _ ds
theorem C_law40_plain (ds : List D) (r : D) (h : F_law40_plain ds = some r) : Contract Tryz.prog gl 11 ds r := contract_of mix Tryz.func11 rfl (by kernel_rfl) (by kernel_rfl) (by decide) (call := c_law40_plain) ⟨callOf_ok cl_law40_plain trivial, callOfE_ok ce_law40_plain trivial⟩ h
-- sawmill/sawmillref40.Safe: loops []; state: params 0..1, then [2, 3, 4]
attribute [simp] Tryz.f10
noncomputable def an_ref40_Safe : Ann := ⟨[2, 3, 4], [], [], [], [], some [4], [], [], [], []⟩
@[simp] theorem an_ref40_Safe_draws : an_ref40_Safe.draws = [] := rfl
@[simp] theorem an_ref40_Safe_exits : an_ref40_Safe.exits = [] := rfl
@[simp] theorem an_ref40_Safe_rets : an_ref40_Safe.rets = some [4] := rfl
@[simp] theorem an_ref40_Safe_keep : an_ref40_Safe.keep = [2, 3, 4] := rfl
@[simp] theorem an_ref40_Safe_cond : an_ref40_Safe.cond = [] := rfl
@[simp] theorem an_ref40_Safe_rows : an_ref40_Safe.rows = [] := rfl
@[simp] theorem an_ref40_Safe_loops : an_ref40_Safe.loops = [] := rfl
@[simp] theorem an_ref40_Safe_ecalls : an_ref40_Safe.ecalls = [] := rfl
@[simp] theorem an_ref40_Safe_crows : an_ref40_Safe.crows = [] := rfl
@[simp] theorem an_ref40_Safe_tails : an_ref40_Safe.tails = [] := rfl
@[simp] noncomputable def cl_ref40_Safe : List (Nat × (List D → Option D)) := []
@[simp] noncomputable def ce_ref40_Safe : List (Nat × (List (Nat × O) → List D → Option (D × List (Nat × O)))) := []
noncomputable def c_ref40_Safe : CT := ⟨callOf (cl_ref40_Safe ), callOfE ce_ref40_Safe, gl⟩
@[simp] theorem c_ref40_Safe_p (f : FuncId) (ds : List D) : c_ref40_Safe.p f ds = callOf (cl_ref40_Safe ) f ds := Eq.trans rfl rfl
@[simp] theorem c_ref40_Safe_e (f : FuncId) (hs : List (Nat × O)) (ds : List D) : c_ref40_Safe.e f hs ds = callOfE ce_ref40_Safe f hs ds := Eq.trans rfl rfl
@[simp] theorem c_ref40_Safe_g (g : Nat) : c_ref40_Safe.g g = gl g := Eq.trans rfl rfl
noncomputable def L_ref40_Safe (i n : Nat) (s : St) : Option (E × St) := atN Tryz.prog c_ref40_Safe an_ref40_Safe 26 (bodyOf Tryz.f10) i n s
noncomputable def H_ref40_Safe (n i : Nat) (s : St) : Option (E × St) := atH Tryz.prog c_ref40_Safe an_ref40_Safe 26 (bodyOf Tryz.f10) n i s
@[simp] theorem H_ref40_Safe_eq (n i : Nat) (s : St) : H_ref40_Safe n i s = L_ref40_Safe i n (headOf (an_ref40_Safe.loops.lookup i) s) := rfl
noncomputable def R_ref40_Safe (i : Nat) (s : St) : Option (E × St) := stepL Tryz.prog c_ref40_Safe an_ref40_Safe 26 (bodyOf Tryz.f10) i s
theorem lok_ref40_Safe : okLoops (bodyOf Tryz.f10) = true := by kernel_rfl
noncomputable def F_ref40_Safe (ds : List D) : Option D := runF Tryz.prog c_ref40_Safe an_ref40_Safe 26 (bodyOf Tryz.f10) [.tmp 4] ds
theorem F_ref40_Safe_eq (ds : List D) : F_ref40_Safe ds = runG Tryz.prog c_ref40_Safe (H_ref40_Safe bigL) an_ref40_Safe 26 (bodyOf Tryz.f10) [.tmp 4] ds := runG_eq lok_ref40_Safe _ ds
theorem C_ref40_Safe (ds : List D) (r : D) (h : F_ref40_Safe ds = some r) : Contract Tryz.prog gl 10 ds r := contract_of mix Tryz.func10 rfl (by kernel_rfl) (by kernel_rfl) (by decide) (call := c_ref40_Safe) ⟨callOf_ok cl_ref40_Safe trivial, callOfE_ok ce_ref40_Safe trivial⟩ h
-- sawmill/sawmilllaw40.ChargeChecks: loops []; state: params 0..1, then [2, 3, 4]
attribute [simp] Tryz.f3
noncomputable def an_law40_ChargeChecks : Ann := ⟨[2, 3, 4], [7], [], [], [], some [4], [(3, 24)], [], [], []⟩
@[simp] theorem an_law40_ChargeChecks_draws : an_law40_ChargeChecks.draws = [(3, 24)] := rfl
@[simp] theorem an_law40_ChargeChecks_exits : an_law40_ChargeChecks.exits = [] := rfl
@[simp] theorem an_law40_ChargeChecks_rets : an_law40_ChargeChecks.rets = some [4] := rfl
@[simp] theorem an_law40_ChargeChecks_keep : an_law40_ChargeChecks.keep = [2, 3, 4] := rfl
@[simp] theorem an_law40_ChargeChecks_cond : an_law40_ChargeChecks.cond = [7] := rfl
@[simp] theorem an_law40_ChargeChecks_rows : an_law40_ChargeChecks.rows = [] := rfl
@[simp] theorem an_law40_ChargeChecks_loops : an_law40_ChargeChecks.loops = [] := rfl
@[simp] theorem an_law40_ChargeChecks_ecalls : an_law40_ChargeChecks.ecalls = [] := rfl
@[simp] theorem an_law40_ChargeChecks_crows : an_law40_ChargeChecks.crows = [] := rfl
@[simp] theorem an_law40_ChargeChecks_tails : an_law40_ChargeChecks.tails = [] := rfl
@[simp] noncomputable def cl_law40_ChargeChecks : List (Nat × (List D → Option D)) := [(5, F_law40_few), (6, F_law40_awake), (7, F_charge_Check), (8, F_ref40_Check), (9, F_charge_Safe), (10, F_ref40_Safe), (11, F_law40_plain)]
@[simp] noncomputable def ce_law40_ChargeChecks : List (Nat × (List (Nat × O) → List D → Option (D × List (Nat × O)))) := []
noncomputable def c_law40_ChargeChecks : CT := ⟨callOf (cl_law40_ChargeChecks ), callOfE ce_law40_ChargeChecks, gl⟩
@[simp] theorem c_law40_ChargeChecks_p (f : FuncId) (ds : List D) : c_law40_ChargeChecks.p f ds = callOf (cl_law40_ChargeChecks ) f ds := Eq.trans rfl rfl
@[simp] theorem c_law40_ChargeChecks_e (f : FuncId) (hs : List (Nat × O)) (ds : List D) : c_law40_ChargeChecks.e f hs ds = callOfE ce_law40_ChargeChecks f hs ds := Eq.trans rfl rfl
@[simp] theorem c_law40_ChargeChecks_g (g : Nat) : c_law40_ChargeChecks.g g = gl g := Eq.trans rfl rfl
noncomputable def L_law40_ChargeChecks (i n : Nat) (s : St) : Option (E × St) := atN Tryz.prog c_law40_ChargeChecks an_law40_ChargeChecks 39 (bodyOf Tryz.f3) i n s
noncomputable def H_law40_ChargeChecks (n i : Nat) (s : St) : Option (E × St) := atH Tryz.prog c_law40_ChargeChecks an_law40_ChargeChecks 39 (bodyOf Tryz.f3) n i s
@[simp] theorem H_law40_ChargeChecks_eq (n i : Nat) (s : St) : H_law40_ChargeChecks n i s = L_law40_ChargeChecks i n (headOf (an_law40_ChargeChecks.loops.lookup i) s) := rfl
noncomputable def R_law40_ChargeChecks (i : Nat) (s : St) : Option (E × St) := stepL Tryz.prog c_law40_ChargeChecks an_law40_ChargeChecks 39 (bodyOf Tryz.f3) i s
theorem lok_law40_ChargeChecks : okLoops (bodyOf Tryz.f3) = true := by kernel_rfl
noncomputable def F_law40_ChargeChecks (ds : List D) : Option D := runF Tryz.prog c_law40_ChargeChecks an_law40_ChargeChecks 39 (bodyOf Tryz.f3) [.tmp 4] ds
theorem F_law40_ChargeChecks_eq (ds : List D) : F_law40_ChargeChecks ds = runG Tryz.prog c_law40_ChargeChecks (H_law40_ChargeChecks bigL) an_law40_ChargeChecks 39 (bodyOf Tryz.f3) [.tmp 4] ds := runG_eq lok_law40_ChargeChecks _ ds
theorem C_law40_ChargeChecks (ds : List D) (r : D) (h : F_law40_ChargeChecks ds = some r) : Contract Tryz.prog gl 3 ds r := contract_of mix Tryz.func3 rfl (by kernel_rfl) (by kernel_rfl) (by decide) (call := c_law40_ChargeChecks) ⟨callOf_ok cl_law40_ChargeChecks ⟨C_law40_few, C_law40_awake, C_charge_Check, C_ref40_Check, C_charge_Safe, C_ref40_Safe, C_law40_plain, trivial⟩, callOfE_ok ce_law40_ChargeChecks trivial⟩ h
-- sawmill/sawmilllaw40.light: loops []; state: params 0..0, then [1, 2]
attribute [simp] Tryz.f12
noncomputable def an_law40_light : Ann := ⟨[1, 2], [], [], [], [], some [2], [], [], [], []⟩
@[simp] theorem an_law40_light_draws : an_law40_light.draws = [] := rfl
@[simp] theorem an_law40_light_exits : an_law40_light.exits = [] := rfl
@[simp] theorem an_law40_light_rets : an_law40_light.rets = some [2] := rfl
@[simp] theorem an_law40_light_keep : an_law40_light.keep = [1, 2] := rfl
@[simp] theorem an_law40_light_cond : an_law40_light.cond = [] := rfl
@[simp] theorem an_law40_light_rows : an_law40_light.rows = [] := rfl
@[simp] theorem an_law40_light_loops : an_law40_light.loops = [] := rfl
@[simp] theorem an_law40_light_ecalls : an_law40_light.ecalls = [] := rfl
@[simp] theorem an_law40_light_crows : an_law40_light.crows = [] := rfl
@[simp] theorem an_law40_light_tails : an_law40_light.tails = [] := rfl
@[simp] noncomputable def cl_law40_light : List (Nat × (List D → Option D)) := [(5, F_law40_few)]
@[simp] noncomputable def ce_law40_light : List (Nat × (List (Nat × O) → List D → Option (D × List (Nat × O)))) := []
noncomputable def c_law40_light : CT := ⟨callOf (cl_law40_light ), callOfE ce_law40_light, gl⟩
@[simp] theorem c_law40_light_p (f : FuncId) (ds : List D) : c_law40_light.p f ds = callOf (cl_law40_light ) f ds := Eq.trans rfl rfl
@[simp] theorem c_law40_light_e (f : FuncId) (hs : List (Nat × O)) (ds : List D) : c_law40_light.e f hs ds = callOfE ce_law40_light f hs ds := Eq.trans rfl rfl
@[simp] theorem c_law40_light_g (g : Nat) : c_law40_light.g g = gl g := Eq.trans rfl rfl
noncomputable def L_law40_light (i n : Nat) (s : St) : Option (E × St) := atN Tryz.prog c_law40_light an_law40_light 21 (bodyOf Tryz.f12) i n s
noncomputable def H_law40_light (n i : Nat) (s : St) : Option (E × St) := atH Tryz.prog c_law40_light an_law40_light 21 (bodyOf Tryz.f12) n i s
@[simp] theorem H_law40_light_eq (n i : Nat) (s : St) : H_law40_light n i s = L_law40_light i n (headOf (an_law40_light.loops.lookup i) s) := rfl
noncomputable def R_law40_light (i : Nat) (s : St) : Option (E × St) := stepL Tryz.prog c_law40_light an_law40_light 21 (bodyOf Tryz.f12) i s
theorem lok_law40_light : okLoops (bodyOf Tryz.f12) = true := by kernel_rfl
noncomputable def F_law40_light (ds : List D) : Option D := runF Tryz.prog c_law40_light an_law40_light 21 (bodyOf Tryz.f12) [.tmp 2] ds
theorem F_law40_light_eq (ds : List D) : F_law40_light ds = runG Tryz.prog c_law40_light (H_law40_light bigL) an_law40_light 21 (bodyOf Tryz.f12) [.tmp 2] ds := runG_eq lok_law40_light _ ds
theorem C_law40_light (ds : List D) (r : D) (h : F_law40_light ds = some r) : Contract Tryz.prog gl 12 ds r := contract_of mix Tryz.func12 rfl (by kernel_rfl) (by kernel_rfl) (by decide) (call := c_law40_light) ⟨callOf_ok cl_law40_light ⟨C_law40_few, trivial⟩, callOfE_ok ce_law40_light trivial⟩ h
-- sawmill/sawmillref40.checkFaults: loops [2]; state: params 0..0, then [2, 3]
attribute [simp] Tryz.f28
noncomputable def an_ref40_checkFaults : Ann := ⟨[0, 2, 3], [7, 23, 50], [], [(2, [0, 3])], [(0, []), (1, [0, 3])], some [2], [(6, 22)], [], [], []⟩
@[simp] theorem an_ref40_checkFaults_draws : an_ref40_checkFaults.draws = [(6, 22)] := rfl
@[simp] theorem an_ref40_checkFaults_exits : an_ref40_checkFaults.exits = [(0, []), (1, [0, 3])] := rfl
@[simp] theorem an_ref40_checkFaults_rets : an_ref40_checkFaults.rets = some [2] := rfl
@[simp] theorem an_ref40_checkFaults_keep : an_ref40_checkFaults.keep = [0, 2, 3] := rfl
@[simp] theorem an_ref40_checkFaults_cond : an_ref40_checkFaults.cond = [7, 23, 50] := rfl
@[simp] theorem an_ref40_checkFaults_rows : an_ref40_checkFaults.rows = [] := rfl
@[simp] theorem an_ref40_checkFaults_loops : an_ref40_checkFaults.loops = [(2, [0, 3])] := rfl
@[simp] theorem an_ref40_checkFaults_ecalls : an_ref40_checkFaults.ecalls = [] := rfl
@[simp] theorem an_ref40_checkFaults_crows : an_ref40_checkFaults.crows = [] := rfl
@[simp] theorem an_ref40_checkFaults_tails : an_ref40_checkFaults.tails = [] := rfl
@[simp] noncomputable def cl_ref40_checkFaults : List (Nat × (List D → Option D)) := []
@[simp] noncomputable def ce_ref40_checkFaults : List (Nat × (List (Nat × O) → List D → Option (D × List (Nat × O)))) := []
noncomputable def c_ref40_checkFaults : CT := ⟨callOf (cl_ref40_checkFaults ), callOfE ce_ref40_checkFaults, gl⟩
@[simp] theorem c_ref40_checkFaults_p (f : FuncId) (ds : List D) : c_ref40_checkFaults.p f ds = callOf (cl_ref40_checkFaults ) f ds := Eq.trans rfl rfl
@[simp] theorem c_ref40_checkFaults_e (f : FuncId) (hs : List (Nat × O)) (ds : List D) : c_ref40_checkFaults.e f hs ds = callOfE ce_ref40_checkFaults f hs ds := Eq.trans rfl rfl
@[simp] theorem c_ref40_checkFaults_g (g : Nat) : c_ref40_checkFaults.g g = gl g := Eq.trans rfl rfl
noncomputable def L_ref40_checkFaults (i n : Nat) (s : St) : Option (E × St) := atN Tryz.prog c_ref40_checkFaults an_ref40_checkFaults 51 (bodyOf Tryz.f28) i n s
noncomputable def H_ref40_checkFaults (n i : Nat) (s : St) : Option (E × St) := atH Tryz.prog c_ref40_checkFaults an_ref40_checkFaults 51 (bodyOf Tryz.f28) n i s
@[simp] theorem H_ref40_checkFaults_eq (n i : Nat) (s : St) : H_ref40_checkFaults n i s = L_ref40_checkFaults i n (headOf (an_ref40_checkFaults.loops.lookup i) s) := rfl
noncomputable def R_ref40_checkFaults (i : Nat) (s : St) : Option (E × St) := stepL Tryz.prog c_ref40_checkFaults an_ref40_checkFaults 51 (bodyOf Tryz.f28) i s
theorem lok_ref40_checkFaults : okLoops (bodyOf Tryz.f28) = true := by kernel_rfl
theorem L_ref40_checkFaults_zero (i : Nat) (s : St) : L_ref40_checkFaults i 0 s = none := rfl
theorem L_ref40_checkFaults_succ (i n : Nat) (s : St) : L_ref40_checkFaults i (n + 1) s = andThen (R_ref40_checkFaults i s) (H_ref40_checkFaults n i) := atN_succ lok_ref40_checkFaults i n s
theorem R_ref40_checkFaults_eq (i : Nat) (s : St) : R_ref40_checkFaults i s = runS Tryz.prog c_ref40_checkFaults (H_ref40_checkFaults bigL) an_ref40_checkFaults 51 (loopAt (bodyOf Tryz.f28) i) s := rfl
noncomputable def F_ref40_checkFaults (ds : List D) : Option D := runF Tryz.prog c_ref40_checkFaults an_ref40_checkFaults 51 (bodyOf Tryz.f28) [.tmp 2] ds
theorem F_ref40_checkFaults_eq (ds : List D) : F_ref40_checkFaults ds = runG Tryz.prog c_ref40_checkFaults (H_ref40_checkFaults bigL) an_ref40_checkFaults 51 (bodyOf Tryz.f28) [.tmp 2] ds := runG_eq lok_ref40_checkFaults _ ds
theorem C_ref40_checkFaults (ds : List D) (r : D) (h : F_ref40_checkFaults ds = some r) : Contract Tryz.prog gl 28 ds r := contract_of mix Tryz.func28 rfl (by kernel_rfl) (by kernel_rfl) (by decide) (call := c_ref40_checkFaults) ⟨callOf_ok cl_ref40_checkFaults trivial, callOfE_ok ce_ref40_checkFaults trivial⟩ h
-- sawmill/sawmillref35.Outside: loops []; state: params 0..-1, then [0]
attribute [simp] Tryz.f51
noncomputable def an_ref35_Outside : Ann := ⟨[0], [], [], [], [], some [0], [], [], [], []⟩
@[simp] theorem an_ref35_Outside_draws : an_ref35_Outside.draws = [] := rfl
@[simp] theorem an_ref35_Outside_exits : an_ref35_Outside.exits = [] := rfl
@[simp] theorem an_ref35_Outside_rets : an_ref35_Outside.rets = some [0] := rfl
@[simp] theorem an_ref35_Outside_keep : an_ref35_Outside.keep = [0] := rfl
@[simp] theorem an_ref35_Outside_cond : an_ref35_Outside.cond = [] := rfl
@[simp] theorem an_ref35_Outside_rows : an_ref35_Outside.rows = [] := rfl
@[simp] theorem an_ref35_Outside_loops : an_ref35_Outside.loops = [] := rfl
@[simp] theorem an_ref35_Outside_ecalls : an_ref35_Outside.ecalls = [] := rfl
@[simp] theorem an_ref35_Outside_crows : an_ref35_Outside.crows = [] := rfl
@[simp] theorem an_ref35_Outside_tails : an_ref35_Outside.tails = [] := rfl
@[simp] noncomputable def cl_ref35_Outside : List (Nat × (List D → Option D)) := []
@[simp] noncomputable def ce_ref35_Outside : List (Nat × (List (Nat × O) → List D → Option (D × List (Nat × O)))) := []
noncomputable def c_ref35_Outside : CT := ⟨callOf (cl_ref35_Outside ), callOfE ce_ref35_Outside, gl⟩
@[simp] theorem c_ref35_Outside_p (f : FuncId) (ds : List D) : c_ref35_Outside.p f ds = callOf (cl_ref35_Outside ) f ds := Eq.trans rfl rfl
@[simp] theorem c_ref35_Outside_e (f : FuncId) (hs : List (Nat × O)) (ds : List D) : c_ref35_Outside.e f hs ds = callOfE ce_ref35_Outside f hs ds := Eq.trans rfl rfl
@[simp] theorem c_ref35_Outside_g (g : Nat) : c_ref35_Outside.g g = gl g := Eq.trans rfl rfl
noncomputable def L_ref35_Outside (i n : Nat) (s : St) : Option (E × St) := atN Tryz.prog c_ref35_Outside an_ref35_Outside 2 (bodyOf Tryz.f51) i n s
noncomputable def H_ref35_Outside (n i : Nat) (s : St) : Option (E × St) := atH Tryz.prog c_ref35_Outside an_ref35_Outside 2 (bodyOf Tryz.f51) n i s
@[simp] theorem H_ref35_Outside_eq (n i : Nat) (s : St) : H_ref35_Outside n i s = L_ref35_Outside i n (headOf (an_ref35_Outside.loops.lookup i) s) := rfl
noncomputable def R_ref35_Outside (i : Nat) (s : St) : Option (E × St) := stepL Tryz.prog c_ref35_Outside an_ref35_Outside 2 (bodyOf Tryz.f51) i s
theorem lok_ref35_Outside : okLoops (bodyOf Tryz.f51) = true := by kernel_rfl
noncomputable def F_ref35_Outside (ds : List D) : Option D := runF Tryz.prog c_ref35_Outside an_ref35_Outside 2 (bodyOf Tryz.f51) [.cell 0 32] ds
theorem F_ref35_Outside_eq (ds : List D) : F_ref35_Outside ds = runG Tryz.prog c_ref35_Outside (H_ref35_Outside bigL) an_ref35_Outside 2 (bodyOf Tryz.f51) [.cell 0 32] ds := runG_eq lok_ref35_Outside _ ds
theorem C_ref35_Outside (ds : List D) (r : D) (h : F_ref35_Outside ds = some r) : Contract Tryz.prog gl 51 ds r := contract_of mix Tryz.func51 rfl (by kernel_rfl) (by kernel_rfl) (by decide) (call := c_ref35_Outside) ⟨callOf_ok cl_ref35_Outside trivial, callOfE_ok ce_ref35_Outside trivial⟩ h
-- sawmill/sawmillref38.New: loops [12]; state: params 0..2, then [3, 4, 6, 7, 8, 9, 10, 11]
attribute [simp] Tryz.f29
noncomputable def an_ref38_New : Ann := ⟨[2, 3, 4, 6, 7, 8, 9, 10, 11], [15, 22, 27, 31, 36, 52, 61], [66], [(12, [2, 3, 4, 6, 10])], [(0, [2, 3, 4, 6]), (1, [2, 3, 4, 6, 10])], some [6, 7], [(19, 6)], [], [], []⟩
@[simp] theorem an_ref38_New_draws : an_ref38_New.draws = [(19, 6)] := rfl
@[simp] theorem an_ref38_New_exits : an_ref38_New.exits = [(0, [2, 3, 4, 6]), (1, [2, 3, 4, 6, 10])] := rfl
@[simp] theorem an_ref38_New_rets : an_ref38_New.rets = some [6, 7] := rfl
@[simp] theorem an_ref38_New_keep : an_ref38_New.keep = [2, 3, 4, 6, 7, 8, 9, 10, 11] := rfl
@[simp] theorem an_ref38_New_cond : an_ref38_New.cond = [15, 22, 27, 31, 36, 52, 61] := rfl
@[simp] theorem an_ref38_New_rows : an_ref38_New.rows = [66] := rfl
@[simp] theorem an_ref38_New_loops : an_ref38_New.loops = [(12, [2, 3, 4, 6, 10])] := rfl
@[simp] theorem an_ref38_New_ecalls : an_ref38_New.ecalls = [] := rfl
@[simp] theorem an_ref38_New_crows : an_ref38_New.crows = [] := rfl
@[simp] theorem an_ref38_New_tails : an_ref38_New.tails = [] := rfl
@[simp] noncomputable def cl_ref38_New : List (Nat × (List D → Option D)) := [(23, F_ref36_Check), (25, F_ref37_Check), (26, F_ref34_Check), (51, F_ref35_Outside)]
@[simp] noncomputable def ce_ref38_New : List (Nat × (List (Nat × O) → List D → Option (D × List (Nat × O)))) := []
noncomputable def c_ref38_New : CT := ⟨callOf (cl_ref38_New ), callOfE ce_ref38_New, gl⟩
@[simp] theorem c_ref38_New_p (f : FuncId) (ds : List D) : c_ref38_New.p f ds = callOf (cl_ref38_New ) f ds := Eq.trans rfl rfl
@[simp] theorem c_ref38_New_e (f : FuncId) (hs : List (Nat × O)) (ds : List D) : c_ref38_New.e f hs ds = callOfE ce_ref38_New f hs ds := Eq.trans rfl rfl
@[simp] theorem c_ref38_New_g (g : Nat) : c_ref38_New.g g = gl g := Eq.trans rfl rfl
noncomputable def L_ref38_New (i n : Nat) (s : St) : Option (E × St) := atN Tryz.prog c_ref38_New an_ref38_New 71 (bodyOf Tryz.f29) i n s
noncomputable def H_ref38_New (n i : Nat) (s : St) : Option (E × St) := atH Tryz.prog c_ref38_New an_ref38_New 71 (bodyOf Tryz.f29) n i s
@[simp] theorem H_ref38_New_eq (n i : Nat) (s : St) : H_ref38_New n i s = L_ref38_New i n (headOf (an_ref38_New.loops.lookup i) s) := rfl
noncomputable def R_ref38_New (i : Nat) (s : St) : Option (E × St) := stepL Tryz.prog c_ref38_New an_ref38_New 71 (bodyOf Tryz.f29) i s
theorem lok_ref38_New : okLoops (bodyOf Tryz.f29) = true := by kernel_rfl
theorem L_ref38_New_zero (i : Nat) (s : St) : L_ref38_New i 0 s = none := rfl
theorem L_ref38_New_succ (i n : Nat) (s : St) : L_ref38_New i (n + 1) s = andThen (R_ref38_New i s) (H_ref38_New n i) := atN_succ lok_ref38_New i n s
theorem R_ref38_New_eq (i : Nat) (s : St) : R_ref38_New i s = runS Tryz.prog c_ref38_New (H_ref38_New bigL) an_ref38_New 71 (loopAt (bodyOf Tryz.f29) i) s := rfl
noncomputable def F_ref38_New (ds : List D) : Option D := runF Tryz.prog c_ref38_New an_ref38_New 71 (bodyOf Tryz.f29) [.cell 6 75, .tmp 7] ds
theorem F_ref38_New_eq (ds : List D) : F_ref38_New ds = runG Tryz.prog c_ref38_New (H_ref38_New bigL) an_ref38_New 71 (bodyOf Tryz.f29) [.cell 6 75, .tmp 7] ds := runG_eq lok_ref38_New _ ds
theorem C_ref38_New (ds : List D) (r : D) (h : F_ref38_New ds = some r) : Contract Tryz.prog gl 29 ds r := contract_of mix Tryz.func29 rfl (by kernel_rfl) (by kernel_rfl) (by decide) (call := c_ref38_New) ⟨callOf_ok cl_ref38_New ⟨C_ref36_Check, C_ref37_Check, C_ref34_Check, C_ref35_Outside, trivial⟩, callOfE_ok ce_ref38_New trivial⟩ h
-- sawmill/sawmillref36.Gradient: loops []; state: params 0..0, then [1, 2]
attribute [simp] Tryz.f31
noncomputable def an_ref36_Gradient : Ann := ⟨[1, 2], [5], [], [], [], some [2], [], [], [], []⟩
@[simp] theorem an_ref36_Gradient_draws : an_ref36_Gradient.draws = [] := rfl
@[simp] theorem an_ref36_Gradient_exits : an_ref36_Gradient.exits = [] := rfl
@[simp] theorem an_ref36_Gradient_rets : an_ref36_Gradient.rets = some [2] := rfl
@[simp] theorem an_ref36_Gradient_keep : an_ref36_Gradient.keep = [1, 2] := rfl
@[simp] theorem an_ref36_Gradient_cond : an_ref36_Gradient.cond = [5] := rfl
@[simp] theorem an_ref36_Gradient_rows : an_ref36_Gradient.rows = [] := rfl
@[simp] theorem an_ref36_Gradient_loops : an_ref36_Gradient.loops = [] := rfl
@[simp] theorem an_ref36_Gradient_ecalls : an_ref36_Gradient.ecalls = [] := rfl
@[simp] theorem an_ref36_Gradient_crows : an_ref36_Gradient.crows = [] := rfl
@[simp] theorem an_ref36_Gradient_tails : an_ref36_Gradient.tails = [] := rfl
@[simp] noncomputable def cl_ref36_Gradient : List (Nat × (List D → Option D)) := [(23, F_ref36_Check)]
@[simp] noncomputable def ce_ref36_Gradient : List (Nat × (List (Nat × O) → List D → Option (D × List (Nat × O)))) := []
noncomputable def c_ref36_Gradient : CT := ⟨callOf (cl_ref36_Gradient ), callOfE ce_ref36_Gradient, gl⟩
@[simp] theorem c_ref36_Gradient_p (f : FuncId) (ds : List D) : c_ref36_Gradient.p f ds = callOf (cl_ref36_Gradient ) f ds := Eq.trans rfl rfl
@[simp] theorem c_ref36_Gradient_e (f : FuncId) (hs : List (Nat × O)) (ds : List D) : c_ref36_Gradient.e f hs ds = callOfE ce_ref36_Gradient f hs ds := Eq.trans rfl rfl
@[simp] theorem c_ref36_Gradient_g (g : Nat) : c_ref36_Gradient.g g = gl g := Eq.trans rfl rfl
noncomputable def L_ref36_Gradient (i n : Nat) (s : St) : Option (E × St) := atN Tryz.prog c_ref36_Gradient an_ref36_Gradient 11 (bodyOf Tryz.f31) i n s
noncomputable def H_ref36_Gradient (n i : Nat) (s : St) : Option (E × St) := atH Tryz.prog c_ref36_Gradient an_ref36_Gradient 11 (bodyOf Tryz.f31) n i s
@[simp] theorem H_ref36_Gradient_eq (n i : Nat) (s : St) : H_ref36_Gradient n i s = L_ref36_Gradient i n (headOf (an_ref36_Gradient.loops.lookup i) s) := rfl
noncomputable def R_ref36_Gradient (i : Nat) (s : St) : Option (E × St) := stepL Tryz.prog c_ref36_Gradient an_ref36_Gradient 11 (bodyOf Tryz.f31) i s
theorem lok_ref36_Gradient : okLoops (bodyOf Tryz.f31) = true := by kernel_rfl
noncomputable def F_ref36_Gradient (ds : List D) : Option D := runF Tryz.prog c_ref36_Gradient an_ref36_Gradient 11 (bodyOf Tryz.f31) [.tmp 2] ds
theorem F_ref36_Gradient_eq (ds : List D) : F_ref36_Gradient ds = runG Tryz.prog c_ref36_Gradient (H_ref36_Gradient bigL) an_ref36_Gradient 11 (bodyOf Tryz.f31) [.tmp 2] ds := runG_eq lok_ref36_Gradient _ ds
theorem C_ref36_Gradient (ds : List D) (r : D) (h : F_ref36_Gradient ds = some r) : Contract Tryz.prog gl 31 ds r := contract_of mix Tryz.func31 rfl (by kernel_rfl) (by kernel_rfl) (by decide) (call := c_ref36_Gradient) ⟨callOf_ok cl_ref36_Gradient ⟨C_ref36_Check, trivial⟩, callOfE_ok ce_ref36_Gradient trivial⟩ h
-- sawmill/sawmillref40.seen: loops [5]; state: params 0..1, then [2, 3, 4, 5]
attribute [simp] Tryz.f30
noncomputable def an_ref40_seen : Ann := ⟨[2, 3, 4, 5], [37], [], [(5, [2, 3, 4, 5])], [(0, [2, 4]), (1, [2, 3, 4, 5])], some [4], [(1, 10), (7, 9)], [], [], []⟩
@[simp] theorem an_ref40_seen_draws : an_ref40_seen.draws = [(1, 10), (7, 9)] := rfl
@[simp] theorem an_ref40_seen_exits : an_ref40_seen.exits = [(0, [2, 4]), (1, [2, 3, 4, 5])] := rfl
@[simp] theorem an_ref40_seen_rets : an_ref40_seen.rets = some [4] := rfl
@[simp] theorem an_ref40_seen_keep : an_ref40_seen.keep = [2, 3, 4, 5] := rfl
@[simp] theorem an_ref40_seen_cond : an_ref40_seen.cond = [37] := rfl
@[simp] theorem an_ref40_seen_rows : an_ref40_seen.rows = [] := rfl
@[simp] theorem an_ref40_seen_loops : an_ref40_seen.loops = [(5, [2, 3, 4, 5])] := rfl
@[simp] theorem an_ref40_seen_ecalls : an_ref40_seen.ecalls = [] := rfl
@[simp] theorem an_ref40_seen_crows : an_ref40_seen.crows = [] := rfl
@[simp] theorem an_ref40_seen_tails : an_ref40_seen.tails = [] := rfl
@[simp] noncomputable def cl_ref40_seen : List (Nat × (List D → Option D)) := [(31, F_ref36_Gradient)]
@[simp] noncomputable def ce_ref40_seen : List (Nat × (List (Nat × O) → List D → Option (D × List (Nat × O)))) := []
noncomputable def c_ref40_seen : CT := ⟨callOf (cl_ref40_seen ), callOfE ce_ref40_seen, gl⟩
@[simp] theorem c_ref40_seen_p (f : FuncId) (ds : List D) : c_ref40_seen.p f ds = callOf (cl_ref40_seen ) f ds := Eq.trans rfl rfl
@[simp] theorem c_ref40_seen_e (f : FuncId) (hs : List (Nat × O)) (ds : List D) : c_ref40_seen.e f hs ds = callOfE ce_ref40_seen f hs ds := Eq.trans rfl rfl
@[simp] theorem c_ref40_seen_g (g : Nat) : c_ref40_seen.g g = gl g := Eq.trans rfl rfl
noncomputable def L_ref40_seen (i n : Nat) (s : St) : Option (E × St) := atN Tryz.prog c_ref40_seen an_ref40_seen 52 (bodyOf Tryz.f30) i n s
noncomputable def H_ref40_seen (n i : Nat) (s : St) : Option (E × St) := atH Tryz.prog c_ref40_seen an_ref40_seen 52 (bodyOf Tryz.f30) n i s
@[simp] theorem H_ref40_seen_eq (n i : Nat) (s : St) : H_ref40_seen n i s = L_ref40_seen i n (headOf (an_ref40_seen.loops.lookup i) s) := rfl
noncomputable def R_ref40_seen (i : Nat) (s : St) : Option (E × St) := stepL Tryz.prog c_ref40_seen an_ref40_seen 52 (bodyOf Tryz.f30) i s
theorem lok_ref40_seen : okLoops (bodyOf Tryz.f30) = true := by kernel_rfl
theorem L_ref40_seen_zero (i : Nat) (s : St) : L_ref40_seen i 0 s = none := rfl
theorem L_ref40_seen_succ (i n : Nat) (s : St) : L_ref40_seen i (n + 1) s = andThen (R_ref40_seen i s) (H_ref40_seen n i) := atN_succ lok_ref40_seen i n s
theorem R_ref40_seen_eq (i : Nat) (s : St) : R_ref40_seen i s = runS Tryz.prog c_ref40_seen (H_ref40_seen bigL) an_ref40_seen 52 (loopAt (bodyOf Tryz.f30) i) s := rfl
noncomputable def F_ref40_seen (ds : List D) : Option D := runF Tryz.prog c_ref40_seen an_ref40_seen 52 (bodyOf Tryz.f30) [.cell 4 41] ds
theorem F_ref40_seen_eq (ds : List D) : F_ref40_seen ds = runG Tryz.prog c_ref40_seen (H_ref40_seen bigL) an_ref40_seen 52 (bodyOf Tryz.f30) [.cell 4 41] ds := runG_eq lok_ref40_seen _ ds
theorem C_ref40_seen (ds : List D) (r : D) (h : F_ref40_seen ds = some r) : Contract Tryz.prog gl 30 ds r := contract_of mix Tryz.func30 rfl (by kernel_rfl) (by kernel_rfl) (by decide) (call := c_ref40_seen) ⟨callOf_ok cl_ref40_seen ⟨C_ref36_Gradient, trivial⟩, callOfE_ok ce_ref40_seen trivial⟩ h
-- sawmill/sawmillref38.Done: loops []; state: params 0..0, then [1, 2]
attribute [simp] Tryz.f32
noncomputable def an_ref38_Done : Ann := ⟨[1, 2], [], [], [], [], some [2], [], [], [], []⟩
@[simp] theorem an_ref38_Done_draws : an_ref38_Done.draws = [] := rfl
@[simp] theorem an_ref38_Done_exits : an_ref38_Done.exits = [] := rfl
@[simp] theorem an_ref38_Done_rets : an_ref38_Done.rets = some [2] := rfl
@[simp] theorem an_ref38_Done_keep : an_ref38_Done.keep = [1, 2] := rfl
@[simp] theorem an_ref38_Done_cond : an_ref38_Done.cond = [] := rfl
@[simp] theorem an_ref38_Done_rows : an_ref38_Done.rows = [] := rfl
@[simp] theorem an_ref38_Done_loops : an_ref38_Done.loops = [] := rfl
@[simp] theorem an_ref38_Done_ecalls : an_ref38_Done.ecalls = [] := rfl
@[simp] theorem an_ref38_Done_crows : an_ref38_Done.crows = [] := rfl
@[simp] theorem an_ref38_Done_tails : an_ref38_Done.tails = [] := rfl
@[simp] noncomputable def cl_ref38_Done : List (Nat × (List D → Option D)) := []
@[simp] noncomputable def ce_ref38_Done : List (Nat × (List (Nat × O) → List D → Option (D × List (Nat × O)))) := []
noncomputable def c_ref38_Done : CT := ⟨callOf (cl_ref38_Done ), callOfE ce_ref38_Done, gl⟩
@[simp] theorem c_ref38_Done_p (f : FuncId) (ds : List D) : c_ref38_Done.p f ds = callOf (cl_ref38_Done ) f ds := Eq.trans rfl rfl
@[simp] theorem c_ref38_Done_e (f : FuncId) (hs : List (Nat × O)) (ds : List D) : c_ref38_Done.e f hs ds = callOfE ce_ref38_Done f hs ds := Eq.trans rfl rfl
@[simp] theorem c_ref38_Done_g (g : Nat) : c_ref38_Done.g g = gl g := Eq.trans rfl rfl
noncomputable def L_ref38_Done (i n : Nat) (s : St) : Option (E × St) := atN Tryz.prog c_ref38_Done an_ref38_Done 10 (bodyOf Tryz.f32) i n s
noncomputable def H_ref38_Done (n i : Nat) (s : St) : Option (E × St) := atH Tryz.prog c_ref38_Done an_ref38_Done 10 (bodyOf Tryz.f32) n i s
@[simp] theorem H_ref38_Done_eq (n i : Nat) (s : St) : H_ref38_Done n i s = L_ref38_Done i n (headOf (an_ref38_Done.loops.lookup i) s) := rfl
noncomputable def R_ref38_Done (i : Nat) (s : St) : Option (E × St) := stepL Tryz.prog c_ref38_Done an_ref38_Done 10 (bodyOf Tryz.f32) i s
theorem lok_ref38_Done : okLoops (bodyOf Tryz.f32) = true := by kernel_rfl
noncomputable def F_ref38_Done (ds : List D) : Option D := runF Tryz.prog c_ref38_Done an_ref38_Done 10 (bodyOf Tryz.f32) [.tmp 2] ds
theorem F_ref38_Done_eq (ds : List D) : F_ref38_Done ds = runG Tryz.prog c_ref38_Done (H_ref38_Done bigL) an_ref38_Done 10 (bodyOf Tryz.f32) [.tmp 2] ds := runG_eq lok_ref38_Done _ ds
theorem C_ref38_Done (ds : List D) (r : D) (h : F_ref38_Done ds = some r) : Contract Tryz.prog gl 32 ds r := contract_of mix Tryz.func32 rfl (by kernel_rfl) (by kernel_rfl) (by decide) (call := c_ref38_Done) ⟨callOf_ok cl_ref38_Done trivial, callOfE_ok ce_ref38_Done trivial⟩ h
-- sawmill/sawmillref40.has: loops [2]; state: params 0..2, then [6, 7]
attribute [simp] Tryz.f59
noncomputable def an_ref40_has : Ann := ⟨[0, 6, 7], [11, 38], [], [(2, [0, 1, 2, 7])], [(0, []), (1, [0, 1, 2, 7])], some [6], [], [], [], []⟩
@[simp] theorem an_ref40_has_draws : an_ref40_has.draws = [] := rfl
@[simp] theorem an_ref40_has_exits : an_ref40_has.exits = [(0, []), (1, [0, 1, 2, 7])] := rfl
@[simp] theorem an_ref40_has_rets : an_ref40_has.rets = some [6] := rfl
@[simp] theorem an_ref40_has_keep : an_ref40_has.keep = [0, 6, 7] := rfl
@[simp] theorem an_ref40_has_cond : an_ref40_has.cond = [11, 38] := rfl
@[simp] theorem an_ref40_has_rows : an_ref40_has.rows = [] := rfl
@[simp] theorem an_ref40_has_loops : an_ref40_has.loops = [(2, [0, 1, 2, 7])] := rfl
@[simp] theorem an_ref40_has_ecalls : an_ref40_has.ecalls = [] := rfl
@[simp] theorem an_ref40_has_crows : an_ref40_has.crows = [] := rfl
@[simp] theorem an_ref40_has_tails : an_ref40_has.tails = [] := rfl
@[simp] noncomputable def cl_ref40_has : List (Nat × (List D → Option D)) := []
@[simp] noncomputable def ce_ref40_has : List (Nat × (List (Nat × O) → List D → Option (D × List (Nat × O)))) := []
noncomputable def c_ref40_has : CT := ⟨callOf (cl_ref40_has ), callOfE ce_ref40_has, gl⟩
@[simp] theorem c_ref40_has_p (f : FuncId) (ds : List D) : c_ref40_has.p f ds = callOf (cl_ref40_has ) f ds := Eq.trans rfl rfl
@[simp] theorem c_ref40_has_e (f : FuncId) (hs : List (Nat × O)) (ds : List D) : c_ref40_has.e f hs ds = callOfE ce_ref40_has f hs ds := Eq.trans rfl rfl
@[simp] theorem c_ref40_has_g (g : Nat) : c_ref40_has.g g = gl g := Eq.trans rfl rfl
noncomputable def L_ref40_has (i n : Nat) (s : St) : Option (E × St) := atN Tryz.prog c_ref40_has an_ref40_has 39 (bodyOf Tryz.f59) i n s
noncomputable def H_ref40_has (n i : Nat) (s : St) : Option (E × St) := atH Tryz.prog c_ref40_has an_ref40_has 39 (bodyOf Tryz.f59) n i s
@[simp] theorem H_ref40_has_eq (n i : Nat) (s : St) : H_ref40_has n i s = L_ref40_has i n (headOf (an_ref40_has.loops.lookup i) s) := rfl
noncomputable def R_ref40_has (i : Nat) (s : St) : Option (E × St) := stepL Tryz.prog c_ref40_has an_ref40_has 39 (bodyOf Tryz.f59) i s
theorem lok_ref40_has : okLoops (bodyOf Tryz.f59) = true := by kernel_rfl
theorem L_ref40_has_zero (i : Nat) (s : St) : L_ref40_has i 0 s = none := rfl
theorem L_ref40_has_succ (i n : Nat) (s : St) : L_ref40_has i (n + 1) s = andThen (R_ref40_has i s) (H_ref40_has n i) := atN_succ lok_ref40_has i n s
theorem R_ref40_has_eq (i : Nat) (s : St) : R_ref40_has i s = runS Tryz.prog c_ref40_has (H_ref40_has bigL) an_ref40_has 39 (loopAt (bodyOf Tryz.f59) i) s := rfl
noncomputable def F_ref40_has (ds : List D) : Option D := runF Tryz.prog c_ref40_has an_ref40_has 39 (bodyOf Tryz.f59) [.tmp 6] ds
theorem F_ref40_has_eq (ds : List D) : F_ref40_has ds = runG Tryz.prog c_ref40_has (H_ref40_has bigL) an_ref40_has 39 (bodyOf Tryz.f59) [.tmp 6] ds := runG_eq lok_ref40_has _ ds
theorem C_ref40_has (ds : List D) (r : D) (h : F_ref40_has ds = some r) : Contract Tryz.prog gl 59 ds r := contract_of mix Tryz.func59 rfl (by kernel_rfl) (by kernel_rfl) (by decide) (call := c_ref40_has) ⟨callOf_ok cl_ref40_has trivial, callOfE_ok ce_ref40_has trivial⟩ h
-- sawmill/sawmillref40.add: loops [4]; state: params 0..1, then [4, 5, 6, 7]
attribute [simp] Tryz.f60
noncomputable def an_ref40_add : Ann := ⟨[0, 1, 4, 5, 6, 7], [11, 23, 29, 42], [5], [(4, [0, 1, 5, 6, 7])], [(0, [1, 5, 6]), (1, [0, 1, 5, 6, 7])], some [4], [], [], [], []⟩
@[simp] theorem an_ref40_add_draws : an_ref40_add.draws = [] := rfl
@[simp] theorem an_ref40_add_exits : an_ref40_add.exits = [(0, [1, 5, 6]), (1, [0, 1, 5, 6, 7])] := rfl
@[simp] theorem an_ref40_add_rets : an_ref40_add.rets = some [4] := rfl
@[simp] theorem an_ref40_add_keep : an_ref40_add.keep = [0, 1, 4, 5, 6, 7] := rfl
@[simp] theorem an_ref40_add_cond : an_ref40_add.cond = [11, 23, 29, 42] := rfl
@[simp] theorem an_ref40_add_rows : an_ref40_add.rows = [5] := rfl
@[simp] theorem an_ref40_add_loops : an_ref40_add.loops = [(4, [0, 1, 5, 6, 7])] := rfl
@[simp] theorem an_ref40_add_ecalls : an_ref40_add.ecalls = [] := rfl
@[simp] theorem an_ref40_add_crows : an_ref40_add.crows = [] := rfl
@[simp] theorem an_ref40_add_tails : an_ref40_add.tails = [] := rfl
@[simp] noncomputable def cl_ref40_add : List (Nat × (List D → Option D)) := []
@[simp] noncomputable def ce_ref40_add : List (Nat × (List (Nat × O) → List D → Option (D × List (Nat × O)))) := []
noncomputable def c_ref40_add : CT := ⟨callOf (cl_ref40_add ), callOfE ce_ref40_add, gl⟩
@[simp] theorem c_ref40_add_p (f : FuncId) (ds : List D) : c_ref40_add.p f ds = callOf (cl_ref40_add ) f ds := Eq.trans rfl rfl
@[simp] theorem c_ref40_add_e (f : FuncId) (hs : List (Nat × O)) (ds : List D) : c_ref40_add.e f hs ds = callOfE ce_ref40_add f hs ds := Eq.trans rfl rfl
@[simp] theorem c_ref40_add_g (g : Nat) : c_ref40_add.g g = gl g := Eq.trans rfl rfl
noncomputable def L_ref40_add (i n : Nat) (s : St) : Option (E × St) := atN Tryz.prog c_ref40_add an_ref40_add 48 (bodyOf Tryz.f60) i n s
noncomputable def H_ref40_add (n i : Nat) (s : St) : Option (E × St) := atH Tryz.prog c_ref40_add an_ref40_add 48 (bodyOf Tryz.f60) n i s
@[simp] theorem H_ref40_add_eq (n i : Nat) (s : St) : H_ref40_add n i s = L_ref40_add i n (headOf (an_ref40_add.loops.lookup i) s) := rfl
noncomputable def R_ref40_add (i : Nat) (s : St) : Option (E × St) := stepL Tryz.prog c_ref40_add an_ref40_add 48 (bodyOf Tryz.f60) i s
theorem lok_ref40_add : okLoops (bodyOf Tryz.f60) = true := by kernel_rfl
theorem L_ref40_add_zero (i : Nat) (s : St) : L_ref40_add i 0 s = none := rfl
theorem L_ref40_add_succ (i n : Nat) (s : St) : L_ref40_add i (n + 1) s = andThen (R_ref40_add i s) (H_ref40_add n i) := atN_succ lok_ref40_add i n s
theorem R_ref40_add_eq (i : Nat) (s : St) : R_ref40_add i s = runS Tryz.prog c_ref40_add (H_ref40_add bigL) an_ref40_add 48 (loopAt (bodyOf Tryz.f60) i) s := rfl
noncomputable def F_ref40_add (ds : List D) : Option D := runF Tryz.prog c_ref40_add an_ref40_add 48 (bodyOf Tryz.f60) [.tmp 4] ds
theorem F_ref40_add_eq (ds : List D) : F_ref40_add ds = runG Tryz.prog c_ref40_add (H_ref40_add bigL) an_ref40_add 48 (bodyOf Tryz.f60) [.tmp 4] ds := runG_eq lok_ref40_add _ ds
theorem C_ref40_add (ds : List D) (r : D) (h : F_ref40_add ds = some r) : Contract Tryz.prog gl 60 ds r := contract_of mix Tryz.func60 rfl (by kernel_rfl) (by kernel_rfl) (by decide) (call := c_ref40_add) ⟨callOf_ok cl_ref40_add trivial, callOfE_ok ce_ref40_add trivial⟩ h
-- sawmill/sawmillref40.At: loops [3]; state: params 0..1, then [4, 5, 6]
attribute [simp] Tryz.f34
noncomputable def an_ref40_At : Ann := ⟨[0, 4, 5, 6], [10, 24], [], [(3, [0, 1, 5, 6])], [(0, [5]), (1, [0, 1, 5, 6])], some [4], [(5, 11)], [], [], []⟩
@[simp] theorem an_ref40_At_draws : an_ref40_At.draws = [(5, 11)] := rfl
@[simp] theorem an_ref40_At_exits : an_ref40_At.exits = [(0, [5]), (1, [0, 1, 5, 6])] := rfl
@[simp] theorem an_ref40_At_rets : an_ref40_At.rets = some [4] := rfl
@[simp] theorem an_ref40_At_keep : an_ref40_At.keep = [0, 4, 5, 6] := rfl
@[simp] theorem an_ref40_At_cond : an_ref40_At.cond = [10, 24] := rfl
@[simp] theorem an_ref40_At_rows : an_ref40_At.rows = [] := rfl
@[simp] theorem an_ref40_At_loops : an_ref40_At.loops = [(3, [0, 1, 5, 6])] := rfl
@[simp] theorem an_ref40_At_ecalls : an_ref40_At.ecalls = [] := rfl
@[simp] theorem an_ref40_At_crows : an_ref40_At.crows = [] := rfl
@[simp] theorem an_ref40_At_tails : an_ref40_At.tails = [] := rfl
@[simp] noncomputable def cl_ref40_At : List (Nat × (List D → Option D)) := [(59, F_ref40_has), (60, F_ref40_add)]
@[simp] noncomputable def ce_ref40_At : List (Nat × (List (Nat × O) → List D → Option (D × List (Nat × O)))) := []
noncomputable def c_ref40_At : CT := ⟨callOf (cl_ref40_At ), callOfE ce_ref40_At, gl⟩
@[simp] theorem c_ref40_At_p (f : FuncId) (ds : List D) : c_ref40_At.p f ds = callOf (cl_ref40_At ) f ds := Eq.trans rfl rfl
@[simp] theorem c_ref40_At_e (f : FuncId) (hs : List (Nat × O)) (ds : List D) : c_ref40_At.e f hs ds = callOfE ce_ref40_At f hs ds := Eq.trans rfl rfl
@[simp] theorem c_ref40_At_g (g : Nat) : c_ref40_At.g g = gl g := Eq.trans rfl rfl
noncomputable def L_ref40_At (i n : Nat) (s : St) : Option (E × St) := atN Tryz.prog c_ref40_At an_ref40_At 33 (bodyOf Tryz.f34) i n s
noncomputable def H_ref40_At (n i : Nat) (s : St) : Option (E × St) := atH Tryz.prog c_ref40_At an_ref40_At 33 (bodyOf Tryz.f34) n i s
@[simp] theorem H_ref40_At_eq (n i : Nat) (s : St) : H_ref40_At n i s = L_ref40_At i n (headOf (an_ref40_At.loops.lookup i) s) := rfl
noncomputable def R_ref40_At (i : Nat) (s : St) : Option (E × St) := stepL Tryz.prog c_ref40_At an_ref40_At 33 (bodyOf Tryz.f34) i s
theorem lok_ref40_At : okLoops (bodyOf Tryz.f34) = true := by kernel_rfl
theorem L_ref40_At_zero (i : Nat) (s : St) : L_ref40_At i 0 s = none := rfl
theorem L_ref40_At_succ (i n : Nat) (s : St) : L_ref40_At i (n + 1) s = andThen (R_ref40_At i s) (H_ref40_At n i) := atN_succ lok_ref40_At i n s
theorem R_ref40_At_eq (i : Nat) (s : St) : R_ref40_At i s = runS Tryz.prog c_ref40_At (H_ref40_At bigL) an_ref40_At 33 (loopAt (bodyOf Tryz.f34) i) s := rfl
noncomputable def F_ref40_At (ds : List D) : Option D := runF Tryz.prog c_ref40_At an_ref40_At 33 (bodyOf Tryz.f34) [.tmp 4] ds
theorem F_ref40_At_eq (ds : List D) : F_ref40_At ds = runG Tryz.prog c_ref40_At (H_ref40_At bigL) an_ref40_At 33 (bodyOf Tryz.f34) [.tmp 4] ds := runG_eq lok_ref40_At _ ds
theorem C_ref40_At (ds : List D) (r : D) (h : F_ref40_At ds = some r) : Contract Tryz.prog gl 34 ds r := contract_of mix Tryz.func34 rfl (by kernel_rfl) (by kernel_rfl) (by decide) (call := c_ref40_At) ⟨callOf_ok cl_ref40_At ⟨C_ref40_has, C_ref40_add, trivial⟩, callOfE_ok ce_ref40_At trivial⟩ h
-- sawmill/sawmillref37.Target: loops []; state: params 0..2, then [3, 5, 6]
attribute [simp] Tryz.f53
noncomputable def an_ref37_Target : Ann := ⟨[1, 3, 5, 6], [15], [], [], [], some [6], [(3, 18)], [], [], []⟩
@[simp] theorem an_ref37_Target_draws : an_ref37_Target.draws = [(3, 18)] := rfl
@[simp] theorem an_ref37_Target_exits : an_ref37_Target.exits = [] := rfl
@[simp] theorem an_ref37_Target_rets : an_ref37_Target.rets = some [6] := rfl
@[simp] theorem an_ref37_Target_keep : an_ref37_Target.keep = [1, 3, 5, 6] := rfl
@[simp] theorem an_ref37_Target_cond : an_ref37_Target.cond = [15] := rfl
@[simp] theorem an_ref37_Target_rows : an_ref37_Target.rows = [] := rfl
@[simp] theorem an_ref37_Target_loops : an_ref37_Target.loops = [] := rfl
@[simp] theorem an_ref37_Target_ecalls : an_ref37_Target.ecalls = [] := rfl
@[simp] theorem an_ref37_Target_crows : an_ref37_Target.crows = [] := rfl
@[simp] theorem an_ref37_Target_tails : an_ref37_Target.tails = [] := rfl
@[simp] noncomputable def cl_ref37_Target : List (Nat × (List D → Option D)) := []
@[simp] noncomputable def ce_ref37_Target : List (Nat × (List (Nat × O) → List D → Option (D × List (Nat × O)))) := []
noncomputable def c_ref37_Target : CT := ⟨callOf (cl_ref37_Target ), callOfE ce_ref37_Target, gl⟩
@[simp] theorem c_ref37_Target_p (f : FuncId) (ds : List D) : c_ref37_Target.p f ds = callOf (cl_ref37_Target ) f ds := Eq.trans rfl rfl
@[simp] theorem c_ref37_Target_e (f : FuncId) (hs : List (Nat × O)) (ds : List D) : c_ref37_Target.e f hs ds = callOfE ce_ref37_Target f hs ds := Eq.trans rfl rfl
@[simp] theorem c_ref37_Target_g (g : Nat) : c_ref37_Target.g g = gl g := Eq.trans rfl rfl
noncomputable def L_ref37_Target (i n : Nat) (s : St) : Option (E × St) := atN Tryz.prog c_ref37_Target an_ref37_Target 36 (bodyOf Tryz.f53) i n s
noncomputable def H_ref37_Target (n i : Nat) (s : St) : Option (E × St) := atH Tryz.prog c_ref37_Target an_ref37_Target 36 (bodyOf Tryz.f53) n i s
@[simp] theorem H_ref37_Target_eq (n i : Nat) (s : St) : H_ref37_Target n i s = L_ref37_Target i n (headOf (an_ref37_Target.loops.lookup i) s) := rfl
noncomputable def R_ref37_Target (i : Nat) (s : St) : Option (E × St) := stepL Tryz.prog c_ref37_Target an_ref37_Target 36 (bodyOf Tryz.f53) i s
theorem lok_ref37_Target : okLoops (bodyOf Tryz.f53) = true := by kernel_rfl
noncomputable def F_ref37_Target (ds : List D) : Option D := runF Tryz.prog c_ref37_Target an_ref37_Target 36 (bodyOf Tryz.f53) [.cell 6 32] ds
theorem F_ref37_Target_eq (ds : List D) : F_ref37_Target ds = runG Tryz.prog c_ref37_Target (H_ref37_Target bigL) an_ref37_Target 36 (bodyOf Tryz.f53) [.cell 6 32] ds := runG_eq lok_ref37_Target _ ds
theorem C_ref37_Target (ds : List D) (r : D) (h : F_ref37_Target ds = some r) : Contract Tryz.prog gl 53 ds r := contract_of mix Tryz.func53 rfl (by kernel_rfl) (by kernel_rfl) (by decide) (call := c_ref37_Target) ⟨callOf_ok cl_ref37_Target trivial, callOfE_ok ce_ref37_Target trivial⟩ h
-- sawmill/sawmillref35.Clamped: loops []; state: params 0..0, then [1, 2]
attribute [simp] Tryz.f80
noncomputable def an_ref35_Clamped : Ann := ⟨[1, 2], [], [], [], [], some [2], [], [], [], []⟩
@[simp] theorem an_ref35_Clamped_draws : an_ref35_Clamped.draws = [] := rfl
@[simp] theorem an_ref35_Clamped_exits : an_ref35_Clamped.exits = [] := rfl
@[simp] theorem an_ref35_Clamped_rets : an_ref35_Clamped.rets = some [2] := rfl
@[simp] theorem an_ref35_Clamped_keep : an_ref35_Clamped.keep = [1, 2] := rfl
@[simp] theorem an_ref35_Clamped_cond : an_ref35_Clamped.cond = [] := rfl
@[simp] theorem an_ref35_Clamped_rows : an_ref35_Clamped.rows = [] := rfl
@[simp] theorem an_ref35_Clamped_loops : an_ref35_Clamped.loops = [] := rfl
@[simp] theorem an_ref35_Clamped_ecalls : an_ref35_Clamped.ecalls = [] := rfl
@[simp] theorem an_ref35_Clamped_crows : an_ref35_Clamped.crows = [] := rfl
@[simp] theorem an_ref35_Clamped_tails : an_ref35_Clamped.tails = [] := rfl
@[simp] noncomputable def cl_ref35_Clamped : List (Nat × (List D → Option D)) := []
@[simp] noncomputable def ce_ref35_Clamped : List (Nat × (List (Nat × O) → List D → Option (D × List (Nat × O)))) := []
noncomputable def c_ref35_Clamped : CT := ⟨callOf (cl_ref35_Clamped ), callOfE ce_ref35_Clamped, gl⟩
@[simp] theorem c_ref35_Clamped_p (f : FuncId) (ds : List D) : c_ref35_Clamped.p f ds = callOf (cl_ref35_Clamped ) f ds := Eq.trans rfl rfl
@[simp] theorem c_ref35_Clamped_e (f : FuncId) (hs : List (Nat × O)) (ds : List D) : c_ref35_Clamped.e f hs ds = callOfE ce_ref35_Clamped f hs ds := Eq.trans rfl rfl
@[simp] theorem c_ref35_Clamped_g (g : Nat) : c_ref35_Clamped.g g = gl g := Eq.trans rfl rfl
noncomputable def L_ref35_Clamped (i n : Nat) (s : St) : Option (E × St) := atN Tryz.prog c_ref35_Clamped an_ref35_Clamped 12 (bodyOf Tryz.f80) i n s
noncomputable def H_ref35_Clamped (n i : Nat) (s : St) : Option (E × St) := atH Tryz.prog c_ref35_Clamped an_ref35_Clamped 12 (bodyOf Tryz.f80) n i s
@[simp] theorem H_ref35_Clamped_eq (n i : Nat) (s : St) : H_ref35_Clamped n i s = L_ref35_Clamped i n (headOf (an_ref35_Clamped.loops.lookup i) s) := rfl
noncomputable def R_ref35_Clamped (i : Nat) (s : St) : Option (E × St) := stepL Tryz.prog c_ref35_Clamped an_ref35_Clamped 12 (bodyOf Tryz.f80) i s
theorem lok_ref35_Clamped : okLoops (bodyOf Tryz.f80) = true := by kernel_rfl
noncomputable def F_ref35_Clamped (ds : List D) : Option D := runF Tryz.prog c_ref35_Clamped an_ref35_Clamped 12 (bodyOf Tryz.f80) [.cell 2 32] ds
theorem F_ref35_Clamped_eq (ds : List D) : F_ref35_Clamped ds = runG Tryz.prog c_ref35_Clamped (H_ref35_Clamped bigL) an_ref35_Clamped 12 (bodyOf Tryz.f80) [.cell 2 32] ds := runG_eq lok_ref35_Clamped _ ds
theorem C_ref35_Clamped (ds : List D) (r : D) (h : F_ref35_Clamped ds = some r) : Contract Tryz.prog gl 80 ds r := contract_of mix Tryz.func80 rfl (by kernel_rfl) (by kernel_rfl) (by decide) (call := c_ref35_Clamped) ⟨callOf_ok cl_ref35_Clamped trivial, callOfE_ok ce_ref35_Clamped trivial⟩ h
-- sawmill/sawmillref35.has: loops [2]; state: params 0..1, then [4, 5]
attribute [simp] Tryz.f81
noncomputable def an_ref35_has : Ann := ⟨[0, 4, 5], [9, 17], [], [(2, [0, 1, 5])], [(0, []), (1, [0, 1, 5])], some [4], [], [], [], []⟩
@[simp] theorem an_ref35_has_draws : an_ref35_has.draws = [] := rfl
@[simp] theorem an_ref35_has_exits : an_ref35_has.exits = [(0, []), (1, [0, 1, 5])] := rfl
@[simp] theorem an_ref35_has_rets : an_ref35_has.rets = some [4] := rfl
@[simp] theorem an_ref35_has_keep : an_ref35_has.keep = [0, 4, 5] := rfl
@[simp] theorem an_ref35_has_cond : an_ref35_has.cond = [9, 17] := rfl
@[simp] theorem an_ref35_has_rows : an_ref35_has.rows = [] := rfl
@[simp] theorem an_ref35_has_loops : an_ref35_has.loops = [(2, [0, 1, 5])] := rfl
@[simp] theorem an_ref35_has_ecalls : an_ref35_has.ecalls = [] := rfl
@[simp] theorem an_ref35_has_crows : an_ref35_has.crows = [] := rfl
@[simp] theorem an_ref35_has_tails : an_ref35_has.tails = [] := rfl
@[simp] noncomputable def cl_ref35_has : List (Nat × (List D → Option D)) := []
@[simp] noncomputable def ce_ref35_has : List (Nat × (List (Nat × O) → List D → Option (D × List (Nat × O)))) := []
noncomputable def c_ref35_has : CT := ⟨callOf (cl_ref35_has ), callOfE ce_ref35_has, gl⟩
@[simp] theorem c_ref35_has_p (f : FuncId) (ds : List D) : c_ref35_has.p f ds = callOf (cl_ref35_has ) f ds := Eq.trans rfl rfl
@[simp] theorem c_ref35_has_e (f : FuncId) (hs : List (Nat × O)) (ds : List D) : c_ref35_has.e f hs ds = callOfE ce_ref35_has f hs ds := Eq.trans rfl rfl
@[simp] theorem c_ref35_has_g (g : Nat) : c_ref35_has.g g = gl g := Eq.trans rfl rfl
noncomputable def L_ref35_has (i n : Nat) (s : St) : Option (E × St) := atN Tryz.prog c_ref35_has an_ref35_has 18 (bodyOf Tryz.f81) i n s
noncomputable def H_ref35_has (n i : Nat) (s : St) : Option (E × St) := atH Tryz.prog c_ref35_has an_ref35_has 18 (bodyOf Tryz.f81) n i s
@[simp] theorem H_ref35_has_eq (n i : Nat) (s : St) : H_ref35_has n i s = L_ref35_has i n (headOf (an_ref35_has.loops.lookup i) s) := rfl
noncomputable def R_ref35_has (i : Nat) (s : St) : Option (E × St) := stepL Tryz.prog c_ref35_has an_ref35_has 18 (bodyOf Tryz.f81) i s
theorem lok_ref35_has : okLoops (bodyOf Tryz.f81) = true := by kernel_rfl
theorem L_ref35_has_zero (i : Nat) (s : St) : L_ref35_has i 0 s = none := rfl
theorem L_ref35_has_succ (i n : Nat) (s : St) : L_ref35_has i (n + 1) s = andThen (R_ref35_has i s) (H_ref35_has n i) := atN_succ lok_ref35_has i n s
theorem R_ref35_has_eq (i : Nat) (s : St) : R_ref35_has i s = runS Tryz.prog c_ref35_has (H_ref35_has bigL) an_ref35_has 18 (loopAt (bodyOf Tryz.f81) i) s := rfl
noncomputable def F_ref35_has (ds : List D) : Option D := runF Tryz.prog c_ref35_has an_ref35_has 18 (bodyOf Tryz.f81) [.tmp 4] ds
theorem F_ref35_has_eq (ds : List D) : F_ref35_has ds = runG Tryz.prog c_ref35_has (H_ref35_has bigL) an_ref35_has 18 (bodyOf Tryz.f81) [.tmp 4] ds := runG_eq lok_ref35_has _ ds
theorem C_ref35_has (ds : List D) (r : D) (h : F_ref35_has ds = some r) : Contract Tryz.prog gl 81 ds r := contract_of mix Tryz.func81 rfl (by kernel_rfl) (by kernel_rfl) (by decide) (call := c_ref35_has) ⟨callOf_ok cl_ref35_has trivial, callOfE_ok ce_ref35_has trivial⟩ h
-- sawmill/sawmillref35.toward: loops []; state: params 0..2, then [6]
attribute [simp] Tryz.f82
noncomputable def an_ref35_toward : Ann := ⟨[6], [], [], [], [], some [6], [], [], [], []⟩
@[simp] theorem an_ref35_toward_draws : an_ref35_toward.draws = [] := rfl
@[simp] theorem an_ref35_toward_exits : an_ref35_toward.exits = [] := rfl
@[simp] theorem an_ref35_toward_rets : an_ref35_toward.rets = some [6] := rfl
@[simp] theorem an_ref35_toward_keep : an_ref35_toward.keep = [6] := rfl
@[simp] theorem an_ref35_toward_cond : an_ref35_toward.cond = [] := rfl
@[simp] theorem an_ref35_toward_rows : an_ref35_toward.rows = [] := rfl
@[simp] theorem an_ref35_toward_loops : an_ref35_toward.loops = [] := rfl
@[simp] theorem an_ref35_toward_ecalls : an_ref35_toward.ecalls = [] := rfl
@[simp] theorem an_ref35_toward_crows : an_ref35_toward.crows = [] := rfl
@[simp] theorem an_ref35_toward_tails : an_ref35_toward.tails = [] := rfl
@[simp] noncomputable def cl_ref35_toward : List (Nat × (List D → Option D)) := []
@[simp] noncomputable def ce_ref35_toward : List (Nat × (List (Nat × O) → List D → Option (D × List (Nat × O)))) := []
noncomputable def c_ref35_toward : CT := ⟨callOf (cl_ref35_toward ), callOfE ce_ref35_toward, gl⟩
@[simp] theorem c_ref35_toward_p (f : FuncId) (ds : List D) : c_ref35_toward.p f ds = callOf (cl_ref35_toward ) f ds := Eq.trans rfl rfl
@[simp] theorem c_ref35_toward_e (f : FuncId) (hs : List (Nat × O)) (ds : List D) : c_ref35_toward.e f hs ds = callOfE ce_ref35_toward f hs ds := Eq.trans rfl rfl
@[simp] theorem c_ref35_toward_g (g : Nat) : c_ref35_toward.g g = gl g := Eq.trans rfl rfl
noncomputable def L_ref35_toward (i n : Nat) (s : St) : Option (E × St) := atN Tryz.prog c_ref35_toward an_ref35_toward 16 (bodyOf Tryz.f82) i n s
noncomputable def H_ref35_toward (n i : Nat) (s : St) : Option (E × St) := atH Tryz.prog c_ref35_toward an_ref35_toward 16 (bodyOf Tryz.f82) n i s
@[simp] theorem H_ref35_toward_eq (n i : Nat) (s : St) : H_ref35_toward n i s = L_ref35_toward i n (headOf (an_ref35_toward.loops.lookup i) s) := rfl
noncomputable def R_ref35_toward (i : Nat) (s : St) : Option (E × St) := stepL Tryz.prog c_ref35_toward an_ref35_toward 16 (bodyOf Tryz.f82) i s
theorem lok_ref35_toward : okLoops (bodyOf Tryz.f82) = true := by kernel_rfl
noncomputable def F_ref35_toward (ds : List D) : Option D := runF Tryz.prog c_ref35_toward an_ref35_toward 16 (bodyOf Tryz.f82) [.tmp 6] ds
theorem F_ref35_toward_eq (ds : List D) : F_ref35_toward ds = runG Tryz.prog c_ref35_toward (H_ref35_toward bigL) an_ref35_toward 16 (bodyOf Tryz.f82) [.tmp 6] ds := runG_eq lok_ref35_toward _ ds
theorem C_ref35_toward (ds : List D) (r : D) (h : F_ref35_toward ds = some r) : Contract Tryz.prog gl 82 ds r := contract_of mix Tryz.func82 rfl (by kernel_rfl) (by kernel_rfl) (by decide) (call := c_ref35_toward) ⟨callOf_ok cl_ref35_toward trivial, callOfE_ok ce_ref35_toward trivial⟩ h
-- sawmill/sawmillref35.Next: loops []; state: params 0..3, then [4, 5, 8, 9]
attribute [simp] Tryz.f52
noncomputable def an_ref35_Next : Ann := ⟨[3, 4, 5, 8, 9], [18, 23], [], [], [], some [8], [(1, 3), (7, 11)], [], [], []⟩
@[simp] theorem an_ref35_Next_draws : an_ref35_Next.draws = [(1, 3), (7, 11)] := rfl
@[simp] theorem an_ref35_Next_exits : an_ref35_Next.exits = [] := rfl
@[simp] theorem an_ref35_Next_rets : an_ref35_Next.rets = some [8] := rfl
@[simp] theorem an_ref35_Next_keep : an_ref35_Next.keep = [3, 4, 5, 8, 9] := rfl
@[simp] theorem an_ref35_Next_cond : an_ref35_Next.cond = [18, 23] := rfl
@[simp] theorem an_ref35_Next_rows : an_ref35_Next.rows = [] := rfl
@[simp] theorem an_ref35_Next_loops : an_ref35_Next.loops = [] := rfl
@[simp] theorem an_ref35_Next_ecalls : an_ref35_Next.ecalls = [] := rfl
@[simp] theorem an_ref35_Next_crows : an_ref35_Next.crows = [] := rfl
@[simp] theorem an_ref35_Next_tails : an_ref35_Next.tails = [] := rfl
@[simp] noncomputable def cl_ref35_Next : List (Nat × (List D → Option D)) := [(51, F_ref35_Outside), (80, F_ref35_Clamped), (81, F_ref35_has), (82, F_ref35_toward)]
@[simp] noncomputable def ce_ref35_Next : List (Nat × (List (Nat × O) → List D → Option (D × List (Nat × O)))) := []
noncomputable def c_ref35_Next : CT := ⟨callOf (cl_ref35_Next ), callOfE ce_ref35_Next, gl⟩
@[simp] theorem c_ref35_Next_p (f : FuncId) (ds : List D) : c_ref35_Next.p f ds = callOf (cl_ref35_Next ) f ds := Eq.trans rfl rfl
@[simp] theorem c_ref35_Next_e (f : FuncId) (hs : List (Nat × O)) (ds : List D) : c_ref35_Next.e f hs ds = callOfE ce_ref35_Next f hs ds := Eq.trans rfl rfl
@[simp] theorem c_ref35_Next_g (g : Nat) : c_ref35_Next.g g = gl g := Eq.trans rfl rfl
noncomputable def L_ref35_Next (i n : Nat) (s : St) : Option (E × St) := atN Tryz.prog c_ref35_Next an_ref35_Next 40 (bodyOf Tryz.f52) i n s
noncomputable def H_ref35_Next (n i : Nat) (s : St) : Option (E × St) := atH Tryz.prog c_ref35_Next an_ref35_Next 40 (bodyOf Tryz.f52) n i s
@[simp] theorem H_ref35_Next_eq (n i : Nat) (s : St) : H_ref35_Next n i s = L_ref35_Next i n (headOf (an_ref35_Next.loops.lookup i) s) := rfl
noncomputable def R_ref35_Next (i : Nat) (s : St) : Option (E × St) := stepL Tryz.prog c_ref35_Next an_ref35_Next 40 (bodyOf Tryz.f52) i s
theorem lok_ref35_Next : okLoops (bodyOf Tryz.f52) = true := by kernel_rfl
noncomputable def F_ref35_Next (ds : List D) : Option D := runF Tryz.prog c_ref35_Next an_ref35_Next 40 (bodyOf Tryz.f52) [.cell 8 32] ds
theorem F_ref35_Next_eq (ds : List D) : F_ref35_Next ds = runG Tryz.prog c_ref35_Next (H_ref35_Next bigL) an_ref35_Next 40 (bodyOf Tryz.f52) [.cell 8 32] ds := runG_eq lok_ref35_Next _ ds
theorem C_ref35_Next (ds : List D) (r : D) (h : F_ref35_Next ds = some r) : Contract Tryz.prog gl 52 ds r := contract_of mix Tryz.func52 rfl (by kernel_rfl) (by kernel_rfl) (by decide) (call := c_ref35_Next) ⟨callOf_ok cl_ref35_Next ⟨C_ref35_Outside, C_ref35_Clamped, C_ref35_has, C_ref35_toward, trivial⟩, callOfE_ok ce_ref35_Next trivial⟩ h
-- sawmill/sawmillref38.has: loops [2]; state: params 0..1, then [4, 5]
attribute [simp] Tryz.f54
noncomputable def an_ref38_has : Ann := ⟨[0, 4, 5], [9, 17], [], [(2, [0, 1, 5])], [(0, []), (1, [0, 1, 5])], some [4], [], [], [], []⟩
@[simp] theorem an_ref38_has_draws : an_ref38_has.draws = [] := rfl
@[simp] theorem an_ref38_has_exits : an_ref38_has.exits = [(0, []), (1, [0, 1, 5])] := rfl
@[simp] theorem an_ref38_has_rets : an_ref38_has.rets = some [4] := rfl
@[simp] theorem an_ref38_has_keep : an_ref38_has.keep = [0, 4, 5] := rfl
@[simp] theorem an_ref38_has_cond : an_ref38_has.cond = [9, 17] := rfl
@[simp] theorem an_ref38_has_rows : an_ref38_has.rows = [] := rfl
@[simp] theorem an_ref38_has_loops : an_ref38_has.loops = [(2, [0, 1, 5])] := rfl
@[simp] theorem an_ref38_has_ecalls : an_ref38_has.ecalls = [] := rfl
@[simp] theorem an_ref38_has_crows : an_ref38_has.crows = [] := rfl
@[simp] theorem an_ref38_has_tails : an_ref38_has.tails = [] := rfl
@[simp] noncomputable def cl_ref38_has : List (Nat × (List D → Option D)) := []
@[simp] noncomputable def ce_ref38_has : List (Nat × (List (Nat × O) → List D → Option (D × List (Nat × O)))) := []
noncomputable def c_ref38_has : CT := ⟨callOf (cl_ref38_has ), callOfE ce_ref38_has, gl⟩
@[simp] theorem c_ref38_has_p (f : FuncId) (ds : List D) : c_ref38_has.p f ds = callOf (cl_ref38_has ) f ds := Eq.trans rfl rfl
@[simp] theorem c_ref38_has_e (f : FuncId) (hs : List (Nat × O)) (ds : List D) : c_ref38_has.e f hs ds = callOfE ce_ref38_has f hs ds := Eq.trans rfl rfl
@[simp] theorem c_ref38_has_g (g : Nat) : c_ref38_has.g g = gl g := Eq.trans rfl rfl
noncomputable def L_ref38_has (i n : Nat) (s : St) : Option (E × St) := atN Tryz.prog c_ref38_has an_ref38_has 18 (bodyOf Tryz.f54) i n s
noncomputable def H_ref38_has (n i : Nat) (s : St) : Option (E × St) := atH Tryz.prog c_ref38_has an_ref38_has 18 (bodyOf Tryz.f54) n i s
@[simp] theorem H_ref38_has_eq (n i : Nat) (s : St) : H_ref38_has n i s = L_ref38_has i n (headOf (an_ref38_has.loops.lookup i) s) := rfl
noncomputable def R_ref38_has (i : Nat) (s : St) : Option (E × St) := stepL Tryz.prog c_ref38_has an_ref38_has 18 (bodyOf Tryz.f54) i s
theorem lok_ref38_has : okLoops (bodyOf Tryz.f54) = true := by kernel_rfl
theorem L_ref38_has_zero (i : Nat) (s : St) : L_ref38_has i 0 s = none := rfl
theorem L_ref38_has_succ (i n : Nat) (s : St) : L_ref38_has i (n + 1) s = andThen (R_ref38_has i s) (H_ref38_has n i) := atN_succ lok_ref38_has i n s
theorem R_ref38_has_eq (i : Nat) (s : St) : R_ref38_has i s = runS Tryz.prog c_ref38_has (H_ref38_has bigL) an_ref38_has 18 (loopAt (bodyOf Tryz.f54) i) s := rfl
noncomputable def F_ref38_has (ds : List D) : Option D := runF Tryz.prog c_ref38_has an_ref38_has 18 (bodyOf Tryz.f54) [.tmp 4] ds
theorem F_ref38_has_eq (ds : List D) : F_ref38_has ds = runG Tryz.prog c_ref38_has (H_ref38_has bigL) an_ref38_has 18 (bodyOf Tryz.f54) [.tmp 4] ds := runG_eq lok_ref38_has _ ds
theorem C_ref38_has (ds : List D) (r : D) (h : F_ref38_has ds = some r) : Contract Tryz.prog gl 54 ds r := contract_of mix Tryz.func54 rfl (by kernel_rfl) (by kernel_rfl) (by decide) (call := c_ref38_has) ⟨callOf_ok cl_ref38_has trivial, callOfE_ok ce_ref38_has trivial⟩ h
-- sawmill/sawmillref35.Check: loops []; state: params 0..0, then [1, 2]
attribute [simp] Tryz.f117
noncomputable def an_ref35_Check : Ann := ⟨[1, 2], [20], [], [], [], some [2], [], [], [], []⟩
@[simp] theorem an_ref35_Check_draws : an_ref35_Check.draws = [] := rfl
@[simp] theorem an_ref35_Check_exits : an_ref35_Check.exits = [] := rfl
@[simp] theorem an_ref35_Check_rets : an_ref35_Check.rets = some [2] := rfl
@[simp] theorem an_ref35_Check_keep : an_ref35_Check.keep = [1, 2] := rfl
@[simp] theorem an_ref35_Check_cond : an_ref35_Check.cond = [20] := rfl
@[simp] theorem an_ref35_Check_rows : an_ref35_Check.rows = [] := rfl
@[simp] theorem an_ref35_Check_loops : an_ref35_Check.loops = [] := rfl
@[simp] theorem an_ref35_Check_ecalls : an_ref35_Check.ecalls = [] := rfl
@[simp] theorem an_ref35_Check_crows : an_ref35_Check.crows = [] := rfl
@[simp] theorem an_ref35_Check_tails : an_ref35_Check.tails = [] := rfl
@[simp] noncomputable def cl_ref35_Check : List (Nat × (List D → Option D)) := []
@[simp] noncomputable def ce_ref35_Check : List (Nat × (List (Nat × O) → List D → Option (D × List (Nat × O)))) := []
noncomputable def c_ref35_Check : CT := ⟨callOf (cl_ref35_Check ), callOfE ce_ref35_Check, gl⟩
@[simp] theorem c_ref35_Check_p (f : FuncId) (ds : List D) : c_ref35_Check.p f ds = callOf (cl_ref35_Check ) f ds := Eq.trans rfl rfl
@[simp] theorem c_ref35_Check_e (f : FuncId) (hs : List (Nat × O)) (ds : List D) : c_ref35_Check.e f hs ds = callOfE ce_ref35_Check f hs ds := Eq.trans rfl rfl
@[simp] theorem c_ref35_Check_g (g : Nat) : c_ref35_Check.g g = gl g := Eq.trans rfl rfl
noncomputable def L_ref35_Check (i n : Nat) (s : St) : Option (E × St) := atN Tryz.prog c_ref35_Check an_ref35_Check 21 (bodyOf Tryz.f117) i n s
noncomputable def H_ref35_Check (n i : Nat) (s : St) : Option (E × St) := atH Tryz.prog c_ref35_Check an_ref35_Check 21 (bodyOf Tryz.f117) n i s
@[simp] theorem H_ref35_Check_eq (n i : Nat) (s : St) : H_ref35_Check n i s = L_ref35_Check i n (headOf (an_ref35_Check.loops.lookup i) s) := rfl
noncomputable def R_ref35_Check (i : Nat) (s : St) : Option (E × St) := stepL Tryz.prog c_ref35_Check an_ref35_Check 21 (bodyOf Tryz.f117) i s
theorem lok_ref35_Check : okLoops (bodyOf Tryz.f117) = true := by kernel_rfl
noncomputable def F_ref35_Check (ds : List D) : Option D := runF Tryz.prog c_ref35_Check an_ref35_Check 21 (bodyOf Tryz.f117) [.tmp 2] ds
theorem F_ref35_Check_eq (ds : List D) : F_ref35_Check ds = runG Tryz.prog c_ref35_Check (H_ref35_Check bigL) an_ref35_Check 21 (bodyOf Tryz.f117) [.tmp 2] ds := runG_eq lok_ref35_Check _ ds
theorem C_ref35_Check (ds : List D) (r : D) (h : F_ref35_Check ds = some r) : Contract Tryz.prog gl 117 ds r := contract_of mix Tryz.func117 rfl (by kernel_rfl) (by kernel_rfl) (by decide) (call := c_ref35_Check) ⟨callOf_ok cl_ref35_Check trivial, callOfE_ok ce_ref35_Check trivial⟩ h
-- sawmill/sawmillref36.speed: loops []; state: params 0..0, then [2]
attribute [simp] Tryz.f118
noncomputable def an_ref36_speed : Ann := ⟨[2], [], [], [], [], some [2], [], [], [], []⟩
@[simp] theorem an_ref36_speed_draws : an_ref36_speed.draws = [] := rfl
@[simp] theorem an_ref36_speed_exits : an_ref36_speed.exits = [] := rfl
@[simp] theorem an_ref36_speed_rets : an_ref36_speed.rets = some [2] := rfl
@[simp] theorem an_ref36_speed_keep : an_ref36_speed.keep = [2] := rfl
@[simp] theorem an_ref36_speed_cond : an_ref36_speed.cond = [] := rfl
@[simp] theorem an_ref36_speed_rows : an_ref36_speed.rows = [] := rfl
@[simp] theorem an_ref36_speed_loops : an_ref36_speed.loops = [] := rfl
@[simp] theorem an_ref36_speed_ecalls : an_ref36_speed.ecalls = [] := rfl
@[simp] theorem an_ref36_speed_crows : an_ref36_speed.crows = [] := rfl
@[simp] theorem an_ref36_speed_tails : an_ref36_speed.tails = [] := rfl
@[simp] noncomputable def cl_ref36_speed : List (Nat × (List D → Option D)) := []
@[simp] noncomputable def ce_ref36_speed : List (Nat × (List (Nat × O) → List D → Option (D × List (Nat × O)))) := []
noncomputable def c_ref36_speed : CT := ⟨callOf (cl_ref36_speed ), callOfE ce_ref36_speed, gl⟩
@[simp] theorem c_ref36_speed_p (f : FuncId) (ds : List D) : c_ref36_speed.p f ds = callOf (cl_ref36_speed ) f ds := Eq.trans rfl rfl
@[simp] theorem c_ref36_speed_e (f : FuncId) (hs : List (Nat × O)) (ds : List D) : c_ref36_speed.e f hs ds = callOfE ce_ref36_speed f hs ds := Eq.trans rfl rfl
@[simp] theorem c_ref36_speed_g (g : Nat) : c_ref36_speed.g g = gl g := Eq.trans rfl rfl
noncomputable def L_ref36_speed (i n : Nat) (s : St) : Option (E × St) := atN Tryz.prog c_ref36_speed an_ref36_speed 9 (bodyOf Tryz.f118) i n s
noncomputable def H_ref36_speed (n i : Nat) (s : St) : Option (E × St) := atH Tryz.prog c_ref36_speed an_ref36_speed 9 (bodyOf Tryz.f118) n i s
@[simp] theorem H_ref36_speed_eq (n i : Nat) (s : St) : H_ref36_speed n i s = L_ref36_speed i n (headOf (an_ref36_speed.loops.lookup i) s) := rfl
noncomputable def R_ref36_speed (i : Nat) (s : St) : Option (E × St) := stepL Tryz.prog c_ref36_speed an_ref36_speed 9 (bodyOf Tryz.f118) i s
theorem lok_ref36_speed : okLoops (bodyOf Tryz.f118) = true := by kernel_rfl
noncomputable def F_ref36_speed (ds : List D) : Option D := runF Tryz.prog c_ref36_speed an_ref36_speed 9 (bodyOf Tryz.f118) [.tmp 2] ds
theorem F_ref36_speed_eq (ds : List D) : F_ref36_speed ds = runG Tryz.prog c_ref36_speed (H_ref36_speed bigL) an_ref36_speed 9 (bodyOf Tryz.f118) [.tmp 2] ds := runG_eq lok_ref36_speed _ ds
theorem C_ref36_speed (ds : List D) (r : D) (h : F_ref36_speed ds = some r) : Contract Tryz.prog gl 118 ds r := contract_of mix Tryz.func118 rfl (by kernel_rfl) (by kernel_rfl) (by decide) (call := c_ref36_speed) ⟨callOf_ok cl_ref36_speed trivial, callOfE_ok ce_ref36_speed trivial⟩ h
-- sawmill/sawmillref36.Ticks: loops []; state: params 0..3, then [4, 5, 7, 8]
attribute [simp] Tryz.f103
noncomputable def an_ref36_Ticks : Ann := ⟨[4, 5, 7, 8], [], [], [], [], some [8], [], [], [], []⟩
@[simp] theorem an_ref36_Ticks_draws : an_ref36_Ticks.draws = [] := rfl
@[simp] theorem an_ref36_Ticks_exits : an_ref36_Ticks.exits = [] := rfl
@[simp] theorem an_ref36_Ticks_rets : an_ref36_Ticks.rets = some [8] := rfl
@[simp] theorem an_ref36_Ticks_keep : an_ref36_Ticks.keep = [4, 5, 7, 8] := rfl
@[simp] theorem an_ref36_Ticks_cond : an_ref36_Ticks.cond = [] := rfl
@[simp] theorem an_ref36_Ticks_rows : an_ref36_Ticks.rows = [] := rfl
@[simp] theorem an_ref36_Ticks_loops : an_ref36_Ticks.loops = [] := rfl
@[simp] theorem an_ref36_Ticks_ecalls : an_ref36_Ticks.ecalls = [] := rfl
@[simp] theorem an_ref36_Ticks_crows : an_ref36_Ticks.crows = [] := rfl
@[simp] theorem an_ref36_Ticks_tails : an_ref36_Ticks.tails = [] := rfl
@[simp] noncomputable def cl_ref36_Ticks : List (Nat × (List D → Option D)) := [(23, F_ref36_Check), (117, F_ref35_Check), (118, F_ref36_speed)]
@[simp] noncomputable def ce_ref36_Ticks : List (Nat × (List (Nat × O) → List D → Option (D × List (Nat × O)))) := []
noncomputable def c_ref36_Ticks : CT := ⟨callOf (cl_ref36_Ticks ), callOfE ce_ref36_Ticks, gl⟩
@[simp] theorem c_ref36_Ticks_p (f : FuncId) (ds : List D) : c_ref36_Ticks.p f ds = callOf (cl_ref36_Ticks ) f ds := Eq.trans rfl rfl
@[simp] theorem c_ref36_Ticks_e (f : FuncId) (hs : List (Nat × O)) (ds : List D) : c_ref36_Ticks.e f hs ds = callOfE ce_ref36_Ticks f hs ds := Eq.trans rfl rfl
@[simp] theorem c_ref36_Ticks_g (g : Nat) : c_ref36_Ticks.g g = gl g := Eq.trans rfl rfl
noncomputable def L_ref36_Ticks (i n : Nat) (s : St) : Option (E × St) := atN Tryz.prog c_ref36_Ticks an_ref36_Ticks 45 (bodyOf Tryz.f103) i n s
noncomputable def H_ref36_Ticks (n i : Nat) (s : St) : Option (E × St) := atH Tryz.prog c_ref36_Ticks an_ref36_Ticks 45 (bodyOf Tryz.f103) n i s
@[simp] theorem H_ref36_Ticks_eq (n i : Nat) (s : St) : H_ref36_Ticks n i s = L_ref36_Ticks i n (headOf (an_ref36_Ticks.loops.lookup i) s) := rfl
noncomputable def R_ref36_Ticks (i : Nat) (s : St) : Option (E × St) := stepL Tryz.prog c_ref36_Ticks an_ref36_Ticks 45 (bodyOf Tryz.f103) i s
theorem lok_ref36_Ticks : okLoops (bodyOf Tryz.f103) = true := by kernel_rfl
noncomputable def F_ref36_Ticks (ds : List D) : Option D := runF Tryz.prog c_ref36_Ticks an_ref36_Ticks 45 (bodyOf Tryz.f103) [.tmp 8] ds
theorem F_ref36_Ticks_eq (ds : List D) : F_ref36_Ticks ds = runG Tryz.prog c_ref36_Ticks (H_ref36_Ticks bigL) an_ref36_Ticks 45 (bodyOf Tryz.f103) [.tmp 8] ds := runG_eq lok_ref36_Ticks _ ds
theorem C_ref36_Ticks (ds : List D) (r : D) (h : F_ref36_Ticks ds = some r) : Contract Tryz.prog gl 103 ds r := contract_of mix Tryz.func103 rfl (by kernel_rfl) (by kernel_rfl) (by decide) (call := c_ref36_Ticks) ⟨callOf_ok cl_ref36_Ticks ⟨C_ref36_Check, C_ref35_Check, C_ref36_speed, trivial⟩, callOfE_ok ce_ref36_Ticks trivial⟩ h
-- sawmill/sawmillref35.Table: loops []; state: params 0..-1, then [0]
attribute [simp] Tryz.f121
noncomputable def an_ref35_Table : Ann := ⟨[0], [], [], [], [], some [0], [], [], [], []⟩
@[simp] theorem an_ref35_Table_draws : an_ref35_Table.draws = [] := rfl
@[simp] theorem an_ref35_Table_exits : an_ref35_Table.exits = [] := rfl
@[simp] theorem an_ref35_Table_rets : an_ref35_Table.rets = some [0] := rfl
@[simp] theorem an_ref35_Table_keep : an_ref35_Table.keep = [0] := rfl
@[simp] theorem an_ref35_Table_cond : an_ref35_Table.cond = [] := rfl
@[simp] theorem an_ref35_Table_rows : an_ref35_Table.rows = [] := rfl
@[simp] theorem an_ref35_Table_loops : an_ref35_Table.loops = [] := rfl
@[simp] theorem an_ref35_Table_ecalls : an_ref35_Table.ecalls = [] := rfl
@[simp] theorem an_ref35_Table_crows : an_ref35_Table.crows = [] := rfl
@[simp] theorem an_ref35_Table_tails : an_ref35_Table.tails = [] := rfl
@[simp] noncomputable def cl_ref35_Table : List (Nat × (List D → Option D)) := []
@[simp] noncomputable def ce_ref35_Table : List (Nat × (List (Nat × O) → List D → Option (D × List (Nat × O)))) := []
noncomputable def c_ref35_Table : CT := ⟨callOf (cl_ref35_Table ), callOfE ce_ref35_Table, gl⟩
@[simp] theorem c_ref35_Table_p (f : FuncId) (ds : List D) : c_ref35_Table.p f ds = callOf (cl_ref35_Table ) f ds := Eq.trans rfl rfl
@[simp] theorem c_ref35_Table_e (f : FuncId) (hs : List (Nat × O)) (ds : List D) : c_ref35_Table.e f hs ds = callOfE ce_ref35_Table f hs ds := Eq.trans rfl rfl
@[simp] theorem c_ref35_Table_g (g : Nat) : c_ref35_Table.g g = gl g := Eq.trans rfl rfl
noncomputable def L_ref35_Table (i n : Nat) (s : St) : Option (E × St) := atN Tryz.prog c_ref35_Table an_ref35_Table 11 (bodyOf Tryz.f121) i n s
noncomputable def H_ref35_Table (n i : Nat) (s : St) : Option (E × St) := atH Tryz.prog c_ref35_Table an_ref35_Table 11 (bodyOf Tryz.f121) n i s
@[simp] theorem H_ref35_Table_eq (n i : Nat) (s : St) : H_ref35_Table n i s = L_ref35_Table i n (headOf (an_ref35_Table.loops.lookup i) s) := rfl
noncomputable def R_ref35_Table (i : Nat) (s : St) : Option (E × St) := stepL Tryz.prog c_ref35_Table an_ref35_Table 11 (bodyOf Tryz.f121) i s
theorem lok_ref35_Table : okLoops (bodyOf Tryz.f121) = true := by kernel_rfl
noncomputable def F_ref35_Table (ds : List D) : Option D := runF Tryz.prog c_ref35_Table an_ref35_Table 11 (bodyOf Tryz.f121) [.cell 0 168] ds
theorem F_ref35_Table_eq (ds : List D) : F_ref35_Table ds = runG Tryz.prog c_ref35_Table (H_ref35_Table bigL) an_ref35_Table 11 (bodyOf Tryz.f121) [.cell 0 168] ds := runG_eq lok_ref35_Table _ ds
theorem C_ref35_Table (ds : List D) (r : D) (h : F_ref35_Table ds = some r) : Contract Tryz.prog gl 121 ds r := contract_of mix Tryz.func121 rfl (by kernel_rfl) (by kernel_rfl) (by decide) (call := c_ref35_Table) ⟨callOf_ok cl_ref35_Table trivial, callOfE_ok ce_ref35_Table trivial⟩ h
-- sawmill/sawmillref08.small: loops []; state: params 0..0, then [2]
attribute [simp] Tryz.f137
noncomputable def an_ref08_small : Ann := ⟨[2], [], [], [], [], some [2], [], [], [], []⟩
@[simp] theorem an_ref08_small_draws : an_ref08_small.draws = [] := rfl
@[simp] theorem an_ref08_small_exits : an_ref08_small.exits = [] := rfl
@[simp] theorem an_ref08_small_rets : an_ref08_small.rets = some [2] := rfl
@[simp] theorem an_ref08_small_keep : an_ref08_small.keep = [2] := rfl
@[simp] theorem an_ref08_small_cond : an_ref08_small.cond = [] := rfl
@[simp] theorem an_ref08_small_rows : an_ref08_small.rows = [] := rfl
@[simp] theorem an_ref08_small_loops : an_ref08_small.loops = [] := rfl
@[simp] theorem an_ref08_small_ecalls : an_ref08_small.ecalls = [] := rfl
@[simp] theorem an_ref08_small_crows : an_ref08_small.crows = [] := rfl
@[simp] theorem an_ref08_small_tails : an_ref08_small.tails = [] := rfl
@[simp] noncomputable def cl_ref08_small : List (Nat × (List D → Option D)) := []
@[simp] noncomputable def ce_ref08_small : List (Nat × (List (Nat × O) → List D → Option (D × List (Nat × O)))) := []
noncomputable def c_ref08_small : CT := ⟨callOf (cl_ref08_small ), callOfE ce_ref08_small, gl⟩
@[simp] theorem c_ref08_small_p (f : FuncId) (ds : List D) : c_ref08_small.p f ds = callOf (cl_ref08_small ) f ds := Eq.trans rfl rfl
@[simp] theorem c_ref08_small_e (f : FuncId) (hs : List (Nat × O)) (ds : List D) : c_ref08_small.e f hs ds = callOfE ce_ref08_small f hs ds := Eq.trans rfl rfl
@[simp] theorem c_ref08_small_g (g : Nat) : c_ref08_small.g g = gl g := Eq.trans rfl rfl
noncomputable def L_ref08_small (i n : Nat) (s : St) : Option (E × St) := atN Tryz.prog c_ref08_small an_ref08_small 9 (bodyOf Tryz.f137) i n s
noncomputable def H_ref08_small (n i : Nat) (s : St) : Option (E × St) := atH Tryz.prog c_ref08_small an_ref08_small 9 (bodyOf Tryz.f137) n i s
@[simp] theorem H_ref08_small_eq (n i : Nat) (s : St) : H_ref08_small n i s = L_ref08_small i n (headOf (an_ref08_small.loops.lookup i) s) := rfl
noncomputable def R_ref08_small (i : Nat) (s : St) : Option (E × St) := stepL Tryz.prog c_ref08_small an_ref08_small 9 (bodyOf Tryz.f137) i s
theorem lok_ref08_small : okLoops (bodyOf Tryz.f137) = true := by kernel_rfl
noncomputable def F_ref08_small (ds : List D) : Option D := runF Tryz.prog c_ref08_small an_ref08_small 9 (bodyOf Tryz.f137) [.tmp 2] ds
theorem F_ref08_small_eq (ds : List D) : F_ref08_small ds = runG Tryz.prog c_ref08_small (H_ref08_small bigL) an_ref08_small 9 (bodyOf Tryz.f137) [.tmp 2] ds := runG_eq lok_ref08_small _ ds
theorem C_ref08_small (ds : List D) (r : D) (h : F_ref08_small ds = some r) : Contract Tryz.prog gl 137 ds r := contract_of mix Tryz.func137 rfl (by kernel_rfl) (by kernel_rfl) (by decide) (call := c_ref08_small) ⟨callOf_ok cl_ref08_small trivial, callOfE_ok ce_ref08_small trivial⟩ h
-- sawmill/sawmillref08.numbers: loops [2]; state: params 0..0, then [2, 3]
attribute [simp] Tryz.f136
noncomputable def an_ref08_numbers : Ann := ⟨[0, 2, 3], [7, 15, 29], [], [(2, [0, 3])], [(0, []), (1, [0, 3])], some [2], [(6, 12)], [], [], []⟩
@[simp] theorem an_ref08_numbers_draws : an_ref08_numbers.draws = [(6, 12)] := rfl
@[simp] theorem an_ref08_numbers_exits : an_ref08_numbers.exits = [(0, []), (1, [0, 3])] := rfl
@[simp] theorem an_ref08_numbers_rets : an_ref08_numbers.rets = some [2] := rfl
@[simp] theorem an_ref08_numbers_keep : an_ref08_numbers.keep = [0, 2, 3] := rfl
@[simp] theorem an_ref08_numbers_cond : an_ref08_numbers.cond = [7, 15, 29] := rfl
@[simp] theorem an_ref08_numbers_rows : an_ref08_numbers.rows = [] := rfl
@[simp] theorem an_ref08_numbers_loops : an_ref08_numbers.loops = [(2, [0, 3])] := rfl
@[simp] theorem an_ref08_numbers_ecalls : an_ref08_numbers.ecalls = [] := rfl
@[simp] theorem an_ref08_numbers_crows : an_ref08_numbers.crows = [] := rfl
@[simp] theorem an_ref08_numbers_tails : an_ref08_numbers.tails = [] := rfl
@[simp] noncomputable def cl_ref08_numbers : List (Nat × (List D → Option D)) := [(137, F_ref08_small)]
@[simp] noncomputable def ce_ref08_numbers : List (Nat × (List (Nat × O) → List D → Option (D × List (Nat × O)))) := []
noncomputable def c_ref08_numbers : CT := ⟨callOf (cl_ref08_numbers ), callOfE ce_ref08_numbers, gl⟩
@[simp] theorem c_ref08_numbers_p (f : FuncId) (ds : List D) : c_ref08_numbers.p f ds = callOf (cl_ref08_numbers ) f ds := Eq.trans rfl rfl
@[simp] theorem c_ref08_numbers_e (f : FuncId) (hs : List (Nat × O)) (ds : List D) : c_ref08_numbers.e f hs ds = callOfE ce_ref08_numbers f hs ds := Eq.trans rfl rfl
@[simp] theorem c_ref08_numbers_g (g : Nat) : c_ref08_numbers.g g = gl g := Eq.trans rfl rfl
noncomputable def L_ref08_numbers (i n : Nat) (s : St) : Option (E × St) := atN Tryz.prog c_ref08_numbers an_ref08_numbers 30 (bodyOf Tryz.f136) i n s
noncomputable def H_ref08_numbers (n i : Nat) (s : St) : Option (E × St) := atH Tryz.prog c_ref08_numbers an_ref08_numbers 30 (bodyOf Tryz.f136) n i s
@[simp] theorem H_ref08_numbers_eq (n i : Nat) (s : St) : H_ref08_numbers n i s = L_ref08_numbers i n (headOf (an_ref08_numbers.loops.lookup i) s) := rfl
noncomputable def R_ref08_numbers (i : Nat) (s : St) : Option (E × St) := stepL Tryz.prog c_ref08_numbers an_ref08_numbers 30 (bodyOf Tryz.f136) i s
theorem lok_ref08_numbers : okLoops (bodyOf Tryz.f136) = true := by kernel_rfl
theorem L_ref08_numbers_zero (i : Nat) (s : St) : L_ref08_numbers i 0 s = none := rfl
theorem L_ref08_numbers_succ (i n : Nat) (s : St) : L_ref08_numbers i (n + 1) s = andThen (R_ref08_numbers i s) (H_ref08_numbers n i) := atN_succ lok_ref08_numbers i n s
theorem R_ref08_numbers_eq (i : Nat) (s : St) : R_ref08_numbers i s = runS Tryz.prog c_ref08_numbers (H_ref08_numbers bigL) an_ref08_numbers 30 (loopAt (bodyOf Tryz.f136) i) s := rfl
noncomputable def F_ref08_numbers (ds : List D) : Option D := runF Tryz.prog c_ref08_numbers an_ref08_numbers 30 (bodyOf Tryz.f136) [.tmp 2] ds
theorem F_ref08_numbers_eq (ds : List D) : F_ref08_numbers ds = runG Tryz.prog c_ref08_numbers (H_ref08_numbers bigL) an_ref08_numbers 30 (bodyOf Tryz.f136) [.tmp 2] ds := runG_eq lok_ref08_numbers _ ds
theorem C_ref08_numbers (ds : List D) (r : D) (h : F_ref08_numbers ds = some r) : Contract Tryz.prog gl 136 ds r := contract_of mix Tryz.func136 rfl (by kernel_rfl) (by kernel_rfl) (by decide) (call := c_ref08_numbers) ⟨callOf_ok cl_ref08_numbers ⟨C_ref08_small, trivial⟩, callOfE_ok ce_ref08_numbers trivial⟩ h
-- sawmill/sawmillref08.CheckGrid: loops [14, 19]; state: params 0..0, then [1, 2, 3, 4, 5, 6]
attribute [simp] Tryz.f127
noncomputable def an_ref08_CheckGrid : Ann := ⟨[1, 2, 3, 4, 5, 6], [16, 26, 31, 37, 45, 50, 62, 70, 82], [], [(14, [1, 5]), (19, [1, 5, 6])], [(0, []), (1, [1, 5]), (2, [1, 5]), (3, [1, 5, 6])], some [2], [(16, 9)], [], [], []⟩
@[simp] theorem an_ref08_CheckGrid_draws : an_ref08_CheckGrid.draws = [(16, 9)] := rfl
@[simp] theorem an_ref08_CheckGrid_exits : an_ref08_CheckGrid.exits = [(0, []), (1, [1, 5]), (2, [1, 5]), (3, [1, 5, 6])] := rfl
@[simp] theorem an_ref08_CheckGrid_rets : an_ref08_CheckGrid.rets = some [2] := rfl
@[simp] theorem an_ref08_CheckGrid_keep : an_ref08_CheckGrid.keep = [1, 2, 3, 4, 5, 6] := rfl
@[simp] theorem an_ref08_CheckGrid_cond : an_ref08_CheckGrid.cond = [16, 26, 31, 37, 45, 50, 62, 70, 82] := rfl
@[simp] theorem an_ref08_CheckGrid_rows : an_ref08_CheckGrid.rows = [] := rfl
@[simp] theorem an_ref08_CheckGrid_loops : an_ref08_CheckGrid.loops = [(14, [1, 5]), (19, [1, 5, 6])] := rfl
@[simp] theorem an_ref08_CheckGrid_ecalls : an_ref08_CheckGrid.ecalls = [] := rfl
@[simp] theorem an_ref08_CheckGrid_crows : an_ref08_CheckGrid.crows = [] := rfl
@[simp] theorem an_ref08_CheckGrid_tails : an_ref08_CheckGrid.tails = [] := rfl
@[simp] noncomputable def cl_ref08_CheckGrid : List (Nat × (List D → Option D)) := [(136, F_ref08_numbers), (137, F_ref08_small)]
@[simp] noncomputable def ce_ref08_CheckGrid : List (Nat × (List (Nat × O) → List D → Option (D × List (Nat × O)))) := []
noncomputable def c_ref08_CheckGrid : CT := ⟨callOf (cl_ref08_CheckGrid ), callOfE ce_ref08_CheckGrid, gl⟩
@[simp] theorem c_ref08_CheckGrid_p (f : FuncId) (ds : List D) : c_ref08_CheckGrid.p f ds = callOf (cl_ref08_CheckGrid ) f ds := Eq.trans rfl rfl
@[simp] theorem c_ref08_CheckGrid_e (f : FuncId) (hs : List (Nat × O)) (ds : List D) : c_ref08_CheckGrid.e f hs ds = callOfE ce_ref08_CheckGrid f hs ds := Eq.trans rfl rfl
@[simp] theorem c_ref08_CheckGrid_g (g : Nat) : c_ref08_CheckGrid.g g = gl g := Eq.trans rfl rfl
noncomputable def L_ref08_CheckGrid (i n : Nat) (s : St) : Option (E × St) := atN Tryz.prog c_ref08_CheckGrid an_ref08_CheckGrid 83 (bodyOf Tryz.f127) i n s
noncomputable def H_ref08_CheckGrid (n i : Nat) (s : St) : Option (E × St) := atH Tryz.prog c_ref08_CheckGrid an_ref08_CheckGrid 83 (bodyOf Tryz.f127) n i s
@[simp] theorem H_ref08_CheckGrid_eq (n i : Nat) (s : St) : H_ref08_CheckGrid n i s = L_ref08_CheckGrid i n (headOf (an_ref08_CheckGrid.loops.lookup i) s) := rfl
noncomputable def R_ref08_CheckGrid (i : Nat) (s : St) : Option (E × St) := stepL Tryz.prog c_ref08_CheckGrid an_ref08_CheckGrid 83 (bodyOf Tryz.f127) i s
theorem lok_ref08_CheckGrid : okLoops (bodyOf Tryz.f127) = true := by kernel_rfl
theorem L_ref08_CheckGrid_zero (i : Nat) (s : St) : L_ref08_CheckGrid i 0 s = none := rfl
theorem L_ref08_CheckGrid_succ (i n : Nat) (s : St) : L_ref08_CheckGrid i (n + 1) s = andThen (R_ref08_CheckGrid i s) (H_ref08_CheckGrid n i) := atN_succ lok_ref08_CheckGrid i n s
theorem R_ref08_CheckGrid_eq (i : Nat) (s : St) : R_ref08_CheckGrid i s = runS Tryz.prog c_ref08_CheckGrid (H_ref08_CheckGrid bigL) an_ref08_CheckGrid 83 (loopAt (bodyOf Tryz.f127) i) s := rfl
noncomputable def F_ref08_CheckGrid (ds : List D) : Option D := runF Tryz.prog c_ref08_CheckGrid an_ref08_CheckGrid 83 (bodyOf Tryz.f127) [.tmp 2] ds
theorem F_ref08_CheckGrid_eq (ds : List D) : F_ref08_CheckGrid ds = runG Tryz.prog c_ref08_CheckGrid (H_ref08_CheckGrid bigL) an_ref08_CheckGrid 83 (bodyOf Tryz.f127) [.tmp 2] ds := runG_eq lok_ref08_CheckGrid _ ds
theorem C_ref08_CheckGrid (ds : List D) (r : D) (h : F_ref08_CheckGrid ds = some r) : Contract Tryz.prog gl 127 ds r := contract_of mix Tryz.func127 rfl (by kernel_rfl) (by kernel_rfl) (by decide) (call := c_ref08_CheckGrid) ⟨callOf_ok cl_ref08_CheckGrid ⟨C_ref08_numbers, C_ref08_small, trivial⟩, callOfE_ok ce_ref08_CheckGrid trivial⟩ h
-- sawmill/sawmillref08.Row: loops [3]; state: params 0..1, then [2, 4, 5, 6]
attribute [simp] Tryz.f129
noncomputable def an_ref08_Row : Ann := ⟨[2, 4, 5, 6], [11], [5], [(3, [1, 2, 5, 6])], [(0, [5]), (1, [1, 2, 5, 6])], some [4], [(5, 16)], [], [], []⟩
@[simp] theorem an_ref08_Row_draws : an_ref08_Row.draws = [(5, 16)] := rfl
@[simp] theorem an_ref08_Row_exits : an_ref08_Row.exits = [(0, [5]), (1, [1, 2, 5, 6])] := rfl
@[simp] theorem an_ref08_Row_rets : an_ref08_Row.rets = some [4] := rfl
@[simp] theorem an_ref08_Row_keep : an_ref08_Row.keep = [2, 4, 5, 6] := rfl
@[simp] theorem an_ref08_Row_cond : an_ref08_Row.cond = [11] := rfl
@[simp] theorem an_ref08_Row_rows : an_ref08_Row.rows = [5] := rfl
@[simp] theorem an_ref08_Row_loops : an_ref08_Row.loops = [(3, [1, 2, 5, 6])] := rfl
@[simp] theorem an_ref08_Row_ecalls : an_ref08_Row.ecalls = [] := rfl
@[simp] theorem an_ref08_Row_crows : an_ref08_Row.crows = [] := rfl
@[simp] theorem an_ref08_Row_tails : an_ref08_Row.tails = [] := rfl
@[simp] noncomputable def cl_ref08_Row : List (Nat × (List D → Option D)) := []
@[simp] noncomputable def ce_ref08_Row : List (Nat × (List (Nat × O) → List D → Option (D × List (Nat × O)))) := []
noncomputable def c_ref08_Row : CT := ⟨callOf (cl_ref08_Row ), callOfE ce_ref08_Row, gl⟩
@[simp] theorem c_ref08_Row_p (f : FuncId) (ds : List D) : c_ref08_Row.p f ds = callOf (cl_ref08_Row ) f ds := Eq.trans rfl rfl
@[simp] theorem c_ref08_Row_e (f : FuncId) (hs : List (Nat × O)) (ds : List D) : c_ref08_Row.e f hs ds = callOfE ce_ref08_Row f hs ds := Eq.trans rfl rfl
@[simp] theorem c_ref08_Row_g (g : Nat) : c_ref08_Row.g g = gl g := Eq.trans rfl rfl
noncomputable def L_ref08_Row (i n : Nat) (s : St) : Option (E × St) := atN Tryz.prog c_ref08_Row an_ref08_Row 32 (bodyOf Tryz.f129) i n s
noncomputable def H_ref08_Row (n i : Nat) (s : St) : Option (E × St) := atH Tryz.prog c_ref08_Row an_ref08_Row 32 (bodyOf Tryz.f129) n i s
@[simp] theorem H_ref08_Row_eq (n i : Nat) (s : St) : H_ref08_Row n i s = L_ref08_Row i n (headOf (an_ref08_Row.loops.lookup i) s) := rfl
noncomputable def R_ref08_Row (i : Nat) (s : St) : Option (E × St) := stepL Tryz.prog c_ref08_Row an_ref08_Row 32 (bodyOf Tryz.f129) i s
theorem lok_ref08_Row : okLoops (bodyOf Tryz.f129) = true := by kernel_rfl
theorem L_ref08_Row_zero (i : Nat) (s : St) : L_ref08_Row i 0 s = none := rfl
theorem L_ref08_Row_succ (i n : Nat) (s : St) : L_ref08_Row i (n + 1) s = andThen (R_ref08_Row i s) (H_ref08_Row n i) := atN_succ lok_ref08_Row i n s
theorem R_ref08_Row_eq (i : Nat) (s : St) : R_ref08_Row i s = runS Tryz.prog c_ref08_Row (H_ref08_Row bigL) an_ref08_Row 32 (loopAt (bodyOf Tryz.f129) i) s := rfl
noncomputable def F_ref08_Row (ds : List D) : Option D := runF Tryz.prog c_ref08_Row an_ref08_Row 32 (bodyOf Tryz.f129) [.tmp 4] ds
theorem F_ref08_Row_eq (ds : List D) : F_ref08_Row ds = runG Tryz.prog c_ref08_Row (H_ref08_Row bigL) an_ref08_Row 32 (bodyOf Tryz.f129) [.tmp 4] ds := runG_eq lok_ref08_Row _ ds
theorem C_ref08_Row (ds : List D) (r : D) (h : F_ref08_Row ds = some r) : Contract Tryz.prog gl 129 ds r := contract_of mix Tryz.func129 rfl (by kernel_rfl) (by kernel_rfl) (by decide) (call := c_ref08_Row) ⟨callOf_ok cl_ref08_Row trivial, callOfE_ok ce_ref08_Row trivial⟩ h
-- sawmill/sawmillref08.Check: loops [6]; state: params 0..0, then [2, 3]
attribute [simp] Tryz.f138
noncomputable def an_ref08_Check : Ann := ⟨[0, 2, 3], [6, 9, 13, 31, 47], [], [(6, [0, 3])], [(0, []), (1, [0, 3])], some [2], [(10, 14)], [], [], []⟩
@[simp] theorem an_ref08_Check_draws : an_ref08_Check.draws = [(10, 14)] := rfl
@[simp] theorem an_ref08_Check_exits : an_ref08_Check.exits = [(0, []), (1, [0, 3])] := rfl
@[simp] theorem an_ref08_Check_rets : an_ref08_Check.rets = some [2] := rfl
@[simp] theorem an_ref08_Check_keep : an_ref08_Check.keep = [0, 2, 3] := rfl
@[simp] theorem an_ref08_Check_cond : an_ref08_Check.cond = [6, 9, 13, 31, 47] := rfl
@[simp] theorem an_ref08_Check_rows : an_ref08_Check.rows = [] := rfl
@[simp] theorem an_ref08_Check_loops : an_ref08_Check.loops = [(6, [0, 3])] := rfl
@[simp] theorem an_ref08_Check_ecalls : an_ref08_Check.ecalls = [] := rfl
@[simp] theorem an_ref08_Check_crows : an_ref08_Check.crows = [] := rfl
@[simp] theorem an_ref08_Check_tails : an_ref08_Check.tails = [] := rfl
@[simp] noncomputable def cl_ref08_Check : List (Nat × (List D → Option D)) := [(137, F_ref08_small)]
@[simp] noncomputable def ce_ref08_Check : List (Nat × (List (Nat × O) → List D → Option (D × List (Nat × O)))) := []
noncomputable def c_ref08_Check : CT := ⟨callOf (cl_ref08_Check ), callOfE ce_ref08_Check, gl⟩
@[simp] theorem c_ref08_Check_p (f : FuncId) (ds : List D) : c_ref08_Check.p f ds = callOf (cl_ref08_Check ) f ds := Eq.trans rfl rfl
@[simp] theorem c_ref08_Check_e (f : FuncId) (hs : List (Nat × O)) (ds : List D) : c_ref08_Check.e f hs ds = callOfE ce_ref08_Check f hs ds := Eq.trans rfl rfl
@[simp] theorem c_ref08_Check_g (g : Nat) : c_ref08_Check.g g = gl g := Eq.trans rfl rfl
noncomputable def L_ref08_Check (i n : Nat) (s : St) : Option (E × St) := atN Tryz.prog c_ref08_Check an_ref08_Check 48 (bodyOf Tryz.f138) i n s
noncomputable def H_ref08_Check (n i : Nat) (s : St) : Option (E × St) := atH Tryz.prog c_ref08_Check an_ref08_Check 48 (bodyOf Tryz.f138) n i s
@[simp] theorem H_ref08_Check_eq (n i : Nat) (s : St) : H_ref08_Check n i s = L_ref08_Check i n (headOf (an_ref08_Check.loops.lookup i) s) := rfl
noncomputable def R_ref08_Check (i : Nat) (s : St) : Option (E × St) := stepL Tryz.prog c_ref08_Check an_ref08_Check 48 (bodyOf Tryz.f138) i s
theorem lok_ref08_Check : okLoops (bodyOf Tryz.f138) = true := by kernel_rfl
theorem L_ref08_Check_zero (i : Nat) (s : St) : L_ref08_Check i 0 s = none := rfl
theorem L_ref08_Check_succ (i n : Nat) (s : St) : L_ref08_Check i (n + 1) s = andThen (R_ref08_Check i s) (H_ref08_Check n i) := atN_succ lok_ref08_Check i n s
theorem R_ref08_Check_eq (i : Nat) (s : St) : R_ref08_Check i s = runS Tryz.prog c_ref08_Check (H_ref08_Check bigL) an_ref08_Check 48 (loopAt (bodyOf Tryz.f138) i) s := rfl
noncomputable def F_ref08_Check (ds : List D) : Option D := runF Tryz.prog c_ref08_Check an_ref08_Check 48 (bodyOf Tryz.f138) [.tmp 2] ds
theorem F_ref08_Check_eq (ds : List D) : F_ref08_Check ds = runG Tryz.prog c_ref08_Check (H_ref08_Check bigL) an_ref08_Check 48 (bodyOf Tryz.f138) [.tmp 2] ds := runG_eq lok_ref08_Check _ ds
theorem C_ref08_Check (ds : List D) (r : D) (h : F_ref08_Check ds = some r) : Contract Tryz.prog gl 138 ds r := contract_of mix Tryz.func138 rfl (by kernel_rfl) (by kernel_rfl) (by decide) (call := c_ref08_Check) ⟨callOf_ok cl_ref08_Check ⟨C_ref08_small, trivial⟩, callOfE_ok ce_ref08_Check trivial⟩ h
-- sawmill/sawmillref08.floor: loops []; state: params 0..1, then [4, 5]
attribute [simp] Tryz.f144
noncomputable def an_ref08_floor : Ann := ⟨[0, 1, 4, 5], [13], [], [], [], some [4], [], [], [], []⟩
@[simp] theorem an_ref08_floor_draws : an_ref08_floor.draws = [] := rfl
@[simp] theorem an_ref08_floor_exits : an_ref08_floor.exits = [] := rfl
@[simp] theorem an_ref08_floor_rets : an_ref08_floor.rets = some [4] := rfl
@[simp] theorem an_ref08_floor_keep : an_ref08_floor.keep = [0, 1, 4, 5] := rfl
@[simp] theorem an_ref08_floor_cond : an_ref08_floor.cond = [13] := rfl
@[simp] theorem an_ref08_floor_rows : an_ref08_floor.rows = [] := rfl
@[simp] theorem an_ref08_floor_loops : an_ref08_floor.loops = [] := rfl
@[simp] theorem an_ref08_floor_ecalls : an_ref08_floor.ecalls = [] := rfl
@[simp] theorem an_ref08_floor_crows : an_ref08_floor.crows = [] := rfl
@[simp] theorem an_ref08_floor_tails : an_ref08_floor.tails = [] := rfl
@[simp] noncomputable def cl_ref08_floor : List (Nat × (List D → Option D)) := []
@[simp] noncomputable def ce_ref08_floor : List (Nat × (List (Nat × O) → List D → Option (D × List (Nat × O)))) := []
noncomputable def c_ref08_floor : CT := ⟨callOf (cl_ref08_floor ), callOfE ce_ref08_floor, gl⟩
@[simp] theorem c_ref08_floor_p (f : FuncId) (ds : List D) : c_ref08_floor.p f ds = callOf (cl_ref08_floor ) f ds := Eq.trans rfl rfl
@[simp] theorem c_ref08_floor_e (f : FuncId) (hs : List (Nat × O)) (ds : List D) : c_ref08_floor.e f hs ds = callOfE ce_ref08_floor f hs ds := Eq.trans rfl rfl
@[simp] theorem c_ref08_floor_g (g : Nat) : c_ref08_floor.g g = gl g := Eq.trans rfl rfl
noncomputable def L_ref08_floor (i n : Nat) (s : St) : Option (E × St) := atN Tryz.prog c_ref08_floor an_ref08_floor 17 (bodyOf Tryz.f144) i n s
noncomputable def H_ref08_floor (n i : Nat) (s : St) : Option (E × St) := atH Tryz.prog c_ref08_floor an_ref08_floor 17 (bodyOf Tryz.f144) n i s
@[simp] theorem H_ref08_floor_eq (n i : Nat) (s : St) : H_ref08_floor n i s = L_ref08_floor i n (headOf (an_ref08_floor.loops.lookup i) s) := rfl
noncomputable def R_ref08_floor (i : Nat) (s : St) : Option (E × St) := stepL Tryz.prog c_ref08_floor an_ref08_floor 17 (bodyOf Tryz.f144) i s
theorem lok_ref08_floor : okLoops (bodyOf Tryz.f144) = true := by kernel_rfl
noncomputable def F_ref08_floor (ds : List D) : Option D := runF Tryz.prog c_ref08_floor an_ref08_floor 17 (bodyOf Tryz.f144) [.tmp 4] ds
theorem F_ref08_floor_eq (ds : List D) : F_ref08_floor ds = runG Tryz.prog c_ref08_floor (H_ref08_floor bigL) an_ref08_floor 17 (bodyOf Tryz.f144) [.tmp 4] ds := runG_eq lok_ref08_floor _ ds
theorem C_ref08_floor (ds : List D) (r : D) (h : F_ref08_floor ds = some r) : Contract Tryz.prog gl 144 ds r := contract_of mix Tryz.func144 rfl (by kernel_rfl) (by kernel_rfl) (by decide) (call := c_ref08_floor) ⟨callOf_ok cl_ref08_floor trivial, callOfE_ok ce_ref08_floor trivial⟩ h
-- sawmill/sawmillref08.Between: loops []; state: params 0..4, then [10]
attribute [simp] Tryz.f139
noncomputable def an_ref08_Between : Ann := ⟨[10], [], [], [], [], some [10], [], [], [], []⟩
@[simp] theorem an_ref08_Between_draws : an_ref08_Between.draws = [] := rfl
@[simp] theorem an_ref08_Between_exits : an_ref08_Between.exits = [] := rfl
@[simp] theorem an_ref08_Between_rets : an_ref08_Between.rets = some [10] := rfl
@[simp] theorem an_ref08_Between_keep : an_ref08_Between.keep = [10] := rfl
@[simp] theorem an_ref08_Between_cond : an_ref08_Between.cond = [] := rfl
@[simp] theorem an_ref08_Between_rows : an_ref08_Between.rows = [] := rfl
@[simp] theorem an_ref08_Between_loops : an_ref08_Between.loops = [] := rfl
@[simp] theorem an_ref08_Between_ecalls : an_ref08_Between.ecalls = [] := rfl
@[simp] theorem an_ref08_Between_crows : an_ref08_Between.crows = [] := rfl
@[simp] theorem an_ref08_Between_tails : an_ref08_Between.tails = [] := rfl
@[simp] noncomputable def cl_ref08_Between : List (Nat × (List D → Option D)) := [(144, F_ref08_floor)]
@[simp] noncomputable def ce_ref08_Between : List (Nat × (List (Nat × O) → List D → Option (D × List (Nat × O)))) := []
noncomputable def c_ref08_Between : CT := ⟨callOf (cl_ref08_Between ), callOfE ce_ref08_Between, gl⟩
@[simp] theorem c_ref08_Between_p (f : FuncId) (ds : List D) : c_ref08_Between.p f ds = callOf (cl_ref08_Between ) f ds := Eq.trans rfl rfl
@[simp] theorem c_ref08_Between_e (f : FuncId) (hs : List (Nat × O)) (ds : List D) : c_ref08_Between.e f hs ds = callOfE ce_ref08_Between f hs ds := Eq.trans rfl rfl
@[simp] theorem c_ref08_Between_g (g : Nat) : c_ref08_Between.g g = gl g := Eq.trans rfl rfl
noncomputable def L_ref08_Between (i n : Nat) (s : St) : Option (E × St) := atN Tryz.prog c_ref08_Between an_ref08_Between 24 (bodyOf Tryz.f139) i n s
noncomputable def H_ref08_Between (n i : Nat) (s : St) : Option (E × St) := atH Tryz.prog c_ref08_Between an_ref08_Between 24 (bodyOf Tryz.f139) n i s
@[simp] theorem H_ref08_Between_eq (n i : Nat) (s : St) : H_ref08_Between n i s = L_ref08_Between i n (headOf (an_ref08_Between.loops.lookup i) s) := rfl
noncomputable def R_ref08_Between (i : Nat) (s : St) : Option (E × St) := stepL Tryz.prog c_ref08_Between an_ref08_Between 24 (bodyOf Tryz.f139) i s
theorem lok_ref08_Between : okLoops (bodyOf Tryz.f139) = true := by kernel_rfl
noncomputable def F_ref08_Between (ds : List D) : Option D := runF Tryz.prog c_ref08_Between an_ref08_Between 24 (bodyOf Tryz.f139) [.tmp 10] ds
theorem F_ref08_Between_eq (ds : List D) : F_ref08_Between ds = runG Tryz.prog c_ref08_Between (H_ref08_Between bigL) an_ref08_Between 24 (bodyOf Tryz.f139) [.tmp 10] ds := runG_eq lok_ref08_Between _ ds
theorem C_ref08_Between (ds : List D) (r : D) (h : F_ref08_Between ds = some r) : Contract Tryz.prog gl 139 ds r := contract_of mix Tryz.func139 rfl (by kernel_rfl) (by kernel_rfl) (by decide) (call := c_ref08_Between) ⟨callOf_ok cl_ref08_Between ⟨C_ref08_floor, trivial⟩, callOfE_ok ce_ref08_Between trivial⟩ h
-- sawmill/sawmillref08.At: loops [6]; state: params 0..1, then [4, 5]
attribute [simp] Tryz.f128
noncomputable def an_ref08_At : Ann := ⟨[0, 1, 4, 5], [8, 14, 22, 31], [], [(6, [0, 1, 5])], [(0, [0]), (1, [0, 1, 5])], some [4], [(9, 23)], [], [], []⟩
@[simp] theorem an_ref08_At_draws : an_ref08_At.draws = [(9, 23)] := rfl
@[simp] theorem an_ref08_At_exits : an_ref08_At.exits = [(0, [0]), (1, [0, 1, 5])] := rfl
@[simp] theorem an_ref08_At_rets : an_ref08_At.rets = some [4] := rfl
@[simp] theorem an_ref08_At_keep : an_ref08_At.keep = [0, 1, 4, 5] := rfl
@[simp] theorem an_ref08_At_cond : an_ref08_At.cond = [8, 14, 22, 31] := rfl
@[simp] theorem an_ref08_At_rows : an_ref08_At.rows = [] := rfl
@[simp] theorem an_ref08_At_loops : an_ref08_At.loops = [(6, [0, 1, 5])] := rfl
@[simp] theorem an_ref08_At_ecalls : an_ref08_At.ecalls = [] := rfl
@[simp] theorem an_ref08_At_crows : an_ref08_At.crows = [] := rfl
@[simp] theorem an_ref08_At_tails : an_ref08_At.tails = [] := rfl
@[simp] noncomputable def cl_ref08_At : List (Nat × (List D → Option D)) := [(138, F_ref08_Check), (139, F_ref08_Between)]
@[simp] noncomputable def ce_ref08_At : List (Nat × (List (Nat × O) → List D → Option (D × List (Nat × O)))) := []
noncomputable def c_ref08_At : CT := ⟨callOf (cl_ref08_At ), callOfE ce_ref08_At, gl⟩
@[simp] theorem c_ref08_At_p (f : FuncId) (ds : List D) : c_ref08_At.p f ds = callOf (cl_ref08_At ) f ds := Eq.trans rfl rfl
@[simp] theorem c_ref08_At_e (f : FuncId) (hs : List (Nat × O)) (ds : List D) : c_ref08_At.e f hs ds = callOfE ce_ref08_At f hs ds := Eq.trans rfl rfl
@[simp] theorem c_ref08_At_g (g : Nat) : c_ref08_At.g g = gl g := Eq.trans rfl rfl
noncomputable def L_ref08_At (i n : Nat) (s : St) : Option (E × St) := atN Tryz.prog c_ref08_At an_ref08_At 63 (bodyOf Tryz.f128) i n s
noncomputable def H_ref08_At (n i : Nat) (s : St) : Option (E × St) := atH Tryz.prog c_ref08_At an_ref08_At 63 (bodyOf Tryz.f128) n i s
@[simp] theorem H_ref08_At_eq (n i : Nat) (s : St) : H_ref08_At n i s = L_ref08_At i n (headOf (an_ref08_At.loops.lookup i) s) := rfl
noncomputable def R_ref08_At (i : Nat) (s : St) : Option (E × St) := stepL Tryz.prog c_ref08_At an_ref08_At 63 (bodyOf Tryz.f128) i s
theorem lok_ref08_At : okLoops (bodyOf Tryz.f128) = true := by kernel_rfl
theorem L_ref08_At_zero (i : Nat) (s : St) : L_ref08_At i 0 s = none := rfl
theorem L_ref08_At_succ (i n : Nat) (s : St) : L_ref08_At i (n + 1) s = andThen (R_ref08_At i s) (H_ref08_At n i) := atN_succ lok_ref08_At i n s
theorem R_ref08_At_eq (i : Nat) (s : St) : R_ref08_At i s = runS Tryz.prog c_ref08_At (H_ref08_At bigL) an_ref08_At 63 (loopAt (bodyOf Tryz.f128) i) s := rfl
noncomputable def F_ref08_At (ds : List D) : Option D := runF Tryz.prog c_ref08_At an_ref08_At 63 (bodyOf Tryz.f128) [.tmp 4] ds
theorem F_ref08_At_eq (ds : List D) : F_ref08_At ds = runG Tryz.prog c_ref08_At (H_ref08_At bigL) an_ref08_At 63 (bodyOf Tryz.f128) [.tmp 4] ds := runG_eq lok_ref08_At _ ds
theorem C_ref08_At (ds : List D) (r : D) (h : F_ref08_At ds = some r) : Contract Tryz.prog gl 128 ds r := contract_of mix Tryz.func128 rfl (by kernel_rfl) (by kernel_rfl) (by decide) (call := c_ref08_At) ⟨callOf_ok cl_ref08_At ⟨C_ref08_Check, C_ref08_Between, trivial⟩, callOfE_ok ce_ref08_At trivial⟩ h
-- sawmill/sawmillref08.Value: loops [5]; state: params 0..2, then [3, 6, 7, 8]
attribute [simp] Tryz.f120
noncomputable def an_ref08_Value : Ann := ⟨[3, 6, 7, 8], [11, 16], [7], [(5, [1, 2, 3, 7, 8])], [(0, [1, 7]), (1, [1, 2, 3, 7, 8])], some [6], [(7, 13)], [], [], []⟩
@[simp] theorem an_ref08_Value_draws : an_ref08_Value.draws = [(7, 13)] := rfl
@[simp] theorem an_ref08_Value_exits : an_ref08_Value.exits = [(0, [1, 7]), (1, [1, 2, 3, 7, 8])] := rfl
@[simp] theorem an_ref08_Value_rets : an_ref08_Value.rets = some [6] := rfl
@[simp] theorem an_ref08_Value_keep : an_ref08_Value.keep = [3, 6, 7, 8] := rfl
@[simp] theorem an_ref08_Value_cond : an_ref08_Value.cond = [11, 16] := rfl
@[simp] theorem an_ref08_Value_rows : an_ref08_Value.rows = [7] := rfl
@[simp] theorem an_ref08_Value_loops : an_ref08_Value.loops = [(5, [1, 2, 3, 7, 8])] := rfl
@[simp] theorem an_ref08_Value_ecalls : an_ref08_Value.ecalls = [] := rfl
@[simp] theorem an_ref08_Value_crows : an_ref08_Value.crows = [] := rfl
@[simp] theorem an_ref08_Value_tails : an_ref08_Value.tails = [] := rfl
@[simp] noncomputable def cl_ref08_Value : List (Nat × (List D → Option D)) := [(127, F_ref08_CheckGrid), (128, F_ref08_At), (129, F_ref08_Row)]
@[simp] noncomputable def ce_ref08_Value : List (Nat × (List (Nat × O) → List D → Option (D × List (Nat × O)))) := []
noncomputable def c_ref08_Value : CT := ⟨callOf (cl_ref08_Value ), callOfE ce_ref08_Value, gl⟩
@[simp] theorem c_ref08_Value_p (f : FuncId) (ds : List D) : c_ref08_Value.p f ds = callOf (cl_ref08_Value ) f ds := Eq.trans rfl rfl
@[simp] theorem c_ref08_Value_e (f : FuncId) (hs : List (Nat × O)) (ds : List D) : c_ref08_Value.e f hs ds = callOfE ce_ref08_Value f hs ds := Eq.trans rfl rfl
@[simp] theorem c_ref08_Value_g (g : Nat) : c_ref08_Value.g g = gl g := Eq.trans rfl rfl
noncomputable def L_ref08_Value (i n : Nat) (s : St) : Option (E × St) := atN Tryz.prog c_ref08_Value an_ref08_Value 36 (bodyOf Tryz.f120) i n s
noncomputable def H_ref08_Value (n i : Nat) (s : St) : Option (E × St) := atH Tryz.prog c_ref08_Value an_ref08_Value 36 (bodyOf Tryz.f120) n i s
@[simp] theorem H_ref08_Value_eq (n i : Nat) (s : St) : H_ref08_Value n i s = L_ref08_Value i n (headOf (an_ref08_Value.loops.lookup i) s) := rfl
noncomputable def R_ref08_Value (i : Nat) (s : St) : Option (E × St) := stepL Tryz.prog c_ref08_Value an_ref08_Value 36 (bodyOf Tryz.f120) i s
theorem lok_ref08_Value : okLoops (bodyOf Tryz.f120) = true := by kernel_rfl
theorem L_ref08_Value_zero (i : Nat) (s : St) : L_ref08_Value i 0 s = none := rfl
theorem L_ref08_Value_succ (i n : Nat) (s : St) : L_ref08_Value i (n + 1) s = andThen (R_ref08_Value i s) (H_ref08_Value n i) := atN_succ lok_ref08_Value i n s
theorem R_ref08_Value_eq (i : Nat) (s : St) : R_ref08_Value i s = runS Tryz.prog c_ref08_Value (H_ref08_Value bigL) an_ref08_Value 36 (loopAt (bodyOf Tryz.f120) i) s := rfl
noncomputable def F_ref08_Value (ds : List D) : Option D := runF Tryz.prog c_ref08_Value an_ref08_Value 36 (bodyOf Tryz.f120) [.tmp 6] ds
theorem F_ref08_Value_eq (ds : List D) : F_ref08_Value ds = runG Tryz.prog c_ref08_Value (H_ref08_Value bigL) an_ref08_Value 36 (bodyOf Tryz.f120) [.tmp 6] ds := runG_eq lok_ref08_Value _ ds
theorem C_ref08_Value (ds : List D) (r : D) (h : F_ref08_Value ds = some r) : Contract Tryz.prog gl 120 ds r := contract_of mix Tryz.func120 rfl (by kernel_rfl) (by kernel_rfl) (by decide) (call := c_ref08_Value) ⟨callOf_ok cl_ref08_Value ⟨C_ref08_CheckGrid, C_ref08_At, C_ref08_Row, trivial⟩, callOfE_ok ce_ref08_Value trivial⟩ h
-- sawmill/sawmillref35.Emc: loops []; state: params 0..0, then [1, 2]
attribute [simp] Tryz.f105
noncomputable def an_ref35_Emc : Ann := ⟨[1, 2], [], [], [], [], some [2], [(1, 5)], [], [], []⟩
@[simp] theorem an_ref35_Emc_draws : an_ref35_Emc.draws = [(1, 5)] := rfl
@[simp] theorem an_ref35_Emc_exits : an_ref35_Emc.exits = [] := rfl
@[simp] theorem an_ref35_Emc_rets : an_ref35_Emc.rets = some [2] := rfl
@[simp] theorem an_ref35_Emc_keep : an_ref35_Emc.keep = [1, 2] := rfl
@[simp] theorem an_ref35_Emc_cond : an_ref35_Emc.cond = [] := rfl
@[simp] theorem an_ref35_Emc_rows : an_ref35_Emc.rows = [] := rfl
@[simp] theorem an_ref35_Emc_loops : an_ref35_Emc.loops = [] := rfl
@[simp] theorem an_ref35_Emc_ecalls : an_ref35_Emc.ecalls = [] := rfl
@[simp] theorem an_ref35_Emc_crows : an_ref35_Emc.crows = [] := rfl
@[simp] theorem an_ref35_Emc_tails : an_ref35_Emc.tails = [] := rfl
@[simp] noncomputable def cl_ref35_Emc : List (Nat × (List D → Option D)) := [(120, F_ref08_Value), (121, F_ref35_Table)]
@[simp] noncomputable def ce_ref35_Emc : List (Nat × (List (Nat × O) → List D → Option (D × List (Nat × O)))) := []
noncomputable def c_ref35_Emc : CT := ⟨callOf (cl_ref35_Emc ), callOfE ce_ref35_Emc, gl⟩
@[simp] theorem c_ref35_Emc_p (f : FuncId) (ds : List D) : c_ref35_Emc.p f ds = callOf (cl_ref35_Emc ) f ds := Eq.trans rfl rfl
@[simp] theorem c_ref35_Emc_e (f : FuncId) (hs : List (Nat × O)) (ds : List D) : c_ref35_Emc.e f hs ds = callOfE ce_ref35_Emc f hs ds := Eq.trans rfl rfl
@[simp] theorem c_ref35_Emc_g (g : Nat) : c_ref35_Emc.g g = gl g := Eq.trans rfl rfl
noncomputable def L_ref35_Emc (i n : Nat) (s : St) : Option (E × St) := atN Tryz.prog c_ref35_Emc an_ref35_Emc 9 (bodyOf Tryz.f105) i n s
noncomputable def H_ref35_Emc (n i : Nat) (s : St) : Option (E × St) := atH Tryz.prog c_ref35_Emc an_ref35_Emc 9 (bodyOf Tryz.f105) n i s
@[simp] theorem H_ref35_Emc_eq (n i : Nat) (s : St) : H_ref35_Emc n i s = L_ref35_Emc i n (headOf (an_ref35_Emc.loops.lookup i) s) := rfl
noncomputable def R_ref35_Emc (i : Nat) (s : St) : Option (E × St) := stepL Tryz.prog c_ref35_Emc an_ref35_Emc 9 (bodyOf Tryz.f105) i s
theorem lok_ref35_Emc : okLoops (bodyOf Tryz.f105) = true := by kernel_rfl
noncomputable def F_ref35_Emc (ds : List D) : Option D := runF Tryz.prog c_ref35_Emc an_ref35_Emc 9 (bodyOf Tryz.f105) [.tmp 2] ds
theorem F_ref35_Emc_eq (ds : List D) : F_ref35_Emc ds = runG Tryz.prog c_ref35_Emc (H_ref35_Emc bigL) an_ref35_Emc 9 (bodyOf Tryz.f105) [.tmp 2] ds := runG_eq lok_ref35_Emc _ ds
theorem C_ref35_Emc (ds : List D) (r : D) (h : F_ref35_Emc ds = some r) : Contract Tryz.prog gl 105 ds r := contract_of mix Tryz.func105 rfl (by kernel_rfl) (by kernel_rfl) (by decide) (call := c_ref35_Emc) ⟨callOf_ok cl_ref35_Emc ⟨C_ref08_Value, C_ref35_Table, trivial⟩, callOfE_ok ce_ref35_Emc trivial⟩ h
-- sawmill/sawmillref01.Clamp: loops []; state: params 0..2, then [6]
attribute [simp] Tryz.f106
noncomputable def an_ref01_Clamp : Ann := ⟨[0, 1, 2, 6], [14, 18], [], [], [], some [6], [], [], [], []⟩
@[simp] theorem an_ref01_Clamp_draws : an_ref01_Clamp.draws = [] := rfl
@[simp] theorem an_ref01_Clamp_exits : an_ref01_Clamp.exits = [] := rfl
@[simp] theorem an_ref01_Clamp_rets : an_ref01_Clamp.rets = some [6] := rfl
@[simp] theorem an_ref01_Clamp_keep : an_ref01_Clamp.keep = [0, 1, 2, 6] := rfl
@[simp] theorem an_ref01_Clamp_cond : an_ref01_Clamp.cond = [14, 18] := rfl
@[simp] theorem an_ref01_Clamp_rows : an_ref01_Clamp.rows = [] := rfl
@[simp] theorem an_ref01_Clamp_loops : an_ref01_Clamp.loops = [] := rfl
@[simp] theorem an_ref01_Clamp_ecalls : an_ref01_Clamp.ecalls = [] := rfl
@[simp] theorem an_ref01_Clamp_crows : an_ref01_Clamp.crows = [] := rfl
@[simp] theorem an_ref01_Clamp_tails : an_ref01_Clamp.tails = [] := rfl
@[simp] noncomputable def cl_ref01_Clamp : List (Nat × (List D → Option D)) := []
@[simp] noncomputable def ce_ref01_Clamp : List (Nat × (List (Nat × O) → List D → Option (D × List (Nat × O)))) := []
noncomputable def c_ref01_Clamp : CT := ⟨callOf (cl_ref01_Clamp ), callOfE ce_ref01_Clamp, gl⟩
@[simp] theorem c_ref01_Clamp_p (f : FuncId) (ds : List D) : c_ref01_Clamp.p f ds = callOf (cl_ref01_Clamp ) f ds := Eq.trans rfl rfl
@[simp] theorem c_ref01_Clamp_e (f : FuncId) (hs : List (Nat × O)) (ds : List D) : c_ref01_Clamp.e f hs ds = callOfE ce_ref01_Clamp f hs ds := Eq.trans rfl rfl
@[simp] theorem c_ref01_Clamp_g (g : Nat) : c_ref01_Clamp.g g = gl g := Eq.trans rfl rfl
noncomputable def L_ref01_Clamp (i n : Nat) (s : St) : Option (E × St) := atN Tryz.prog c_ref01_Clamp an_ref01_Clamp 21 (bodyOf Tryz.f106) i n s
noncomputable def H_ref01_Clamp (n i : Nat) (s : St) : Option (E × St) := atH Tryz.prog c_ref01_Clamp an_ref01_Clamp 21 (bodyOf Tryz.f106) n i s
@[simp] theorem H_ref01_Clamp_eq (n i : Nat) (s : St) : H_ref01_Clamp n i s = L_ref01_Clamp i n (headOf (an_ref01_Clamp.loops.lookup i) s) := rfl
noncomputable def R_ref01_Clamp (i : Nat) (s : St) : Option (E × St) := stepL Tryz.prog c_ref01_Clamp an_ref01_Clamp 21 (bodyOf Tryz.f106) i s
theorem lok_ref01_Clamp : okLoops (bodyOf Tryz.f106) = true := by kernel_rfl
noncomputable def F_ref01_Clamp (ds : List D) : Option D := runF Tryz.prog c_ref01_Clamp an_ref01_Clamp 21 (bodyOf Tryz.f106) [.tmp 6] ds
theorem F_ref01_Clamp_eq (ds : List D) : F_ref01_Clamp ds = runG Tryz.prog c_ref01_Clamp (H_ref01_Clamp bigL) an_ref01_Clamp 21 (bodyOf Tryz.f106) [.tmp 6] ds := runG_eq lok_ref01_Clamp _ ds
theorem C_ref01_Clamp (ds : List D) (r : D) (h : F_ref01_Clamp ds = some r) : Contract Tryz.prog gl 106 ds r := contract_of mix Tryz.func106 rfl (by kernel_rfl) (by kernel_rfl) (by decide) (call := c_ref01_Clamp) ⟨callOf_ok cl_ref01_Clamp trivial, callOfE_ok ce_ref01_Clamp trivial⟩ h
-- sawmill/sawmillref01.part: loops []; state: params 0..1, then [4, 5]
attribute [simp] Tryz.f119
noncomputable def an_ref01_part : Ann := ⟨[0, 1, 4, 5], [25], [], [], [], some [4], [], [], [], []⟩
@[simp] theorem an_ref01_part_draws : an_ref01_part.draws = [] := rfl
@[simp] theorem an_ref01_part_exits : an_ref01_part.exits = [] := rfl
@[simp] theorem an_ref01_part_rets : an_ref01_part.rets = some [4] := rfl
@[simp] theorem an_ref01_part_keep : an_ref01_part.keep = [0, 1, 4, 5] := rfl
@[simp] theorem an_ref01_part_cond : an_ref01_part.cond = [25] := rfl
@[simp] theorem an_ref01_part_rows : an_ref01_part.rows = [] := rfl
@[simp] theorem an_ref01_part_loops : an_ref01_part.loops = [] := rfl
@[simp] theorem an_ref01_part_ecalls : an_ref01_part.ecalls = [] := rfl
@[simp] theorem an_ref01_part_crows : an_ref01_part.crows = [] := rfl
@[simp] theorem an_ref01_part_tails : an_ref01_part.tails = [] := rfl
@[simp] noncomputable def cl_ref01_part : List (Nat × (List D → Option D)) := []
@[simp] noncomputable def ce_ref01_part : List (Nat × (List (Nat × O) → List D → Option (D × List (Nat × O)))) := []
noncomputable def c_ref01_part : CT := ⟨callOf (cl_ref01_part ), callOfE ce_ref01_part, gl⟩
@[simp] theorem c_ref01_part_p (f : FuncId) (ds : List D) : c_ref01_part.p f ds = callOf (cl_ref01_part ) f ds := Eq.trans rfl rfl
@[simp] theorem c_ref01_part_e (f : FuncId) (hs : List (Nat × O)) (ds : List D) : c_ref01_part.e f hs ds = callOfE ce_ref01_part f hs ds := Eq.trans rfl rfl
@[simp] theorem c_ref01_part_g (g : Nat) : c_ref01_part.g g = gl g := Eq.trans rfl rfl
noncomputable def L_ref01_part (i n : Nat) (s : St) : Option (E × St) := atN Tryz.prog c_ref01_part an_ref01_part 27 (bodyOf Tryz.f119) i n s
noncomputable def H_ref01_part (n i : Nat) (s : St) : Option (E × St) := atH Tryz.prog c_ref01_part an_ref01_part 27 (bodyOf Tryz.f119) n i s
@[simp] theorem H_ref01_part_eq (n i : Nat) (s : St) : H_ref01_part n i s = L_ref01_part i n (headOf (an_ref01_part.loops.lookup i) s) := rfl
noncomputable def R_ref01_part (i : Nat) (s : St) : Option (E × St) := stepL Tryz.prog c_ref01_part an_ref01_part 27 (bodyOf Tryz.f119) i s
theorem lok_ref01_part : okLoops (bodyOf Tryz.f119) = true := by kernel_rfl
noncomputable def F_ref01_part (ds : List D) : Option D := runF Tryz.prog c_ref01_part an_ref01_part 27 (bodyOf Tryz.f119) [.tmp 4] ds
theorem F_ref01_part_eq (ds : List D) : F_ref01_part ds = runG Tryz.prog c_ref01_part (H_ref01_part bigL) an_ref01_part 27 (bodyOf Tryz.f119) [.tmp 4] ds := runG_eq lok_ref01_part _ ds
theorem C_ref01_part (ds : List D) (r : D) (h : F_ref01_part ds = some r) : Contract Tryz.prog gl 119 ds r := contract_of mix Tryz.func119 rfl (by kernel_rfl) (by kernel_rfl) (by decide) (call := c_ref01_part) ⟨callOf_ok cl_ref01_part trivial, callOfE_ok ce_ref01_part trivial⟩ h
-- sawmill/sawmillref01.Toward: loops []; state: params 0..2, then [6, 7]
attribute [simp] Tryz.f104
noncomputable def an_ref01_Toward : Ann := ⟨[0, 1, 6, 7], [13], [], [], [], some [6], [], [], [], []⟩
@[simp] theorem an_ref01_Toward_draws : an_ref01_Toward.draws = [] := rfl
@[simp] theorem an_ref01_Toward_exits : an_ref01_Toward.exits = [] := rfl
@[simp] theorem an_ref01_Toward_rets : an_ref01_Toward.rets = some [6] := rfl
@[simp] theorem an_ref01_Toward_keep : an_ref01_Toward.keep = [0, 1, 6, 7] := rfl
@[simp] theorem an_ref01_Toward_cond : an_ref01_Toward.cond = [13] := rfl
@[simp] theorem an_ref01_Toward_rows : an_ref01_Toward.rows = [] := rfl
@[simp] theorem an_ref01_Toward_loops : an_ref01_Toward.loops = [] := rfl
@[simp] theorem an_ref01_Toward_ecalls : an_ref01_Toward.ecalls = [] := rfl
@[simp] theorem an_ref01_Toward_crows : an_ref01_Toward.crows = [] := rfl
@[simp] theorem an_ref01_Toward_tails : an_ref01_Toward.tails = [] := rfl
@[simp] noncomputable def cl_ref01_Toward : List (Nat × (List D → Option D)) := [(106, F_ref01_Clamp), (119, F_ref01_part)]
@[simp] noncomputable def ce_ref01_Toward : List (Nat × (List (Nat × O) → List D → Option (D × List (Nat × O)))) := []
noncomputable def c_ref01_Toward : CT := ⟨callOf (cl_ref01_Toward ), callOfE ce_ref01_Toward, gl⟩
@[simp] theorem c_ref01_Toward_p (f : FuncId) (ds : List D) : c_ref01_Toward.p f ds = callOf (cl_ref01_Toward ) f ds := Eq.trans rfl rfl
@[simp] theorem c_ref01_Toward_e (f : FuncId) (hs : List (Nat × O)) (ds : List D) : c_ref01_Toward.e f hs ds = callOfE ce_ref01_Toward f hs ds := Eq.trans rfl rfl
@[simp] theorem c_ref01_Toward_g (g : Nat) : c_ref01_Toward.g g = gl g := Eq.trans rfl rfl
noncomputable def L_ref01_Toward (i n : Nat) (s : St) : Option (E × St) := atN Tryz.prog c_ref01_Toward an_ref01_Toward 36 (bodyOf Tryz.f104) i n s
noncomputable def H_ref01_Toward (n i : Nat) (s : St) : Option (E × St) := atH Tryz.prog c_ref01_Toward an_ref01_Toward 36 (bodyOf Tryz.f104) n i s
@[simp] theorem H_ref01_Toward_eq (n i : Nat) (s : St) : H_ref01_Toward n i s = L_ref01_Toward i n (headOf (an_ref01_Toward.loops.lookup i) s) := rfl
noncomputable def R_ref01_Toward (i : Nat) (s : St) : Option (E × St) := stepL Tryz.prog c_ref01_Toward an_ref01_Toward 36 (bodyOf Tryz.f104) i s
theorem lok_ref01_Toward : okLoops (bodyOf Tryz.f104) = true := by kernel_rfl
noncomputable def F_ref01_Toward (ds : List D) : Option D := runF Tryz.prog c_ref01_Toward an_ref01_Toward 36 (bodyOf Tryz.f104) [.tmp 6] ds
theorem F_ref01_Toward_eq (ds : List D) : F_ref01_Toward ds = runG Tryz.prog c_ref01_Toward (H_ref01_Toward bigL) an_ref01_Toward 36 (bodyOf Tryz.f104) [.tmp 6] ds := runG_eq lok_ref01_Toward _ ds
theorem C_ref01_Toward (ds : List D) (r : D) (h : F_ref01_Toward ds = some r) : Contract Tryz.prog gl 104 ds r := contract_of mix Tryz.func104 rfl (by kernel_rfl) (by kernel_rfl) (by decide) (call := c_ref01_Toward) ⟨callOf_ok cl_ref01_Toward ⟨C_ref01_Clamp, C_ref01_part, trivial⟩, callOfE_ok ce_ref01_Toward trivial⟩ h
-- sawmill/sawmillref36.Tick: loops []; state: params 0..4, then [5, 6, 8, 10]
attribute [simp] Tryz.f83
noncomputable def an_ref36_Tick : Ann := ⟨[2, 5, 6, 8, 10], [16, 18], [], [], [], some [10], [(4, 11), (5, 14)], [], [], []⟩
@[simp] theorem an_ref36_Tick_draws : an_ref36_Tick.draws = [(4, 11), (5, 14)] := rfl
@[simp] theorem an_ref36_Tick_exits : an_ref36_Tick.exits = [] := rfl
@[simp] theorem an_ref36_Tick_rets : an_ref36_Tick.rets = some [10] := rfl
@[simp] theorem an_ref36_Tick_keep : an_ref36_Tick.keep = [2, 5, 6, 8, 10] := rfl
@[simp] theorem an_ref36_Tick_cond : an_ref36_Tick.cond = [16, 18] := rfl
@[simp] theorem an_ref36_Tick_rows : an_ref36_Tick.rows = [] := rfl
@[simp] theorem an_ref36_Tick_loops : an_ref36_Tick.loops = [] := rfl
@[simp] theorem an_ref36_Tick_ecalls : an_ref36_Tick.ecalls = [] := rfl
@[simp] theorem an_ref36_Tick_crows : an_ref36_Tick.crows = [] := rfl
@[simp] theorem an_ref36_Tick_tails : an_ref36_Tick.tails = [] := rfl
@[simp] noncomputable def cl_ref36_Tick : List (Nat × (List D → Option D)) := [(103, F_ref36_Ticks), (104, F_ref01_Toward), (105, F_ref35_Emc), (106, F_ref01_Clamp)]
@[simp] noncomputable def ce_ref36_Tick : List (Nat × (List (Nat × O) → List D → Option (D × List (Nat × O)))) := []
noncomputable def c_ref36_Tick : CT := ⟨callOf (cl_ref36_Tick ), callOfE ce_ref36_Tick, gl⟩
@[simp] theorem c_ref36_Tick_p (f : FuncId) (ds : List D) : c_ref36_Tick.p f ds = callOf (cl_ref36_Tick ) f ds := Eq.trans rfl rfl
@[simp] theorem c_ref36_Tick_e (f : FuncId) (hs : List (Nat × O)) (ds : List D) : c_ref36_Tick.e f hs ds = callOfE ce_ref36_Tick f hs ds := Eq.trans rfl rfl
@[simp] theorem c_ref36_Tick_g (g : Nat) : c_ref36_Tick.g g = gl g := Eq.trans rfl rfl
noncomputable def L_ref36_Tick (i n : Nat) (s : St) : Option (E × St) := atN Tryz.prog c_ref36_Tick an_ref36_Tick 63 (bodyOf Tryz.f83) i n s
noncomputable def H_ref36_Tick (n i : Nat) (s : St) : Option (E × St) := atH Tryz.prog c_ref36_Tick an_ref36_Tick 63 (bodyOf Tryz.f83) n i s
@[simp] theorem H_ref36_Tick_eq (n i : Nat) (s : St) : H_ref36_Tick n i s = L_ref36_Tick i n (headOf (an_ref36_Tick.loops.lookup i) s) := rfl
noncomputable def R_ref36_Tick (i : Nat) (s : St) : Option (E × St) := stepL Tryz.prog c_ref36_Tick an_ref36_Tick 63 (bodyOf Tryz.f83) i s
theorem lok_ref36_Tick : okLoops (bodyOf Tryz.f83) = true := by kernel_rfl
noncomputable def F_ref36_Tick (ds : List D) : Option D := runF Tryz.prog c_ref36_Tick an_ref36_Tick 63 (bodyOf Tryz.f83) [.cell 10 55] ds
theorem F_ref36_Tick_eq (ds : List D) : F_ref36_Tick ds = runG Tryz.prog c_ref36_Tick (H_ref36_Tick bigL) an_ref36_Tick 63 (bodyOf Tryz.f83) [.cell 10 55] ds := runG_eq lok_ref36_Tick _ ds
theorem C_ref36_Tick (ds : List D) (r : D) (h : F_ref36_Tick ds = some r) : Contract Tryz.prog gl 83 ds r := contract_of mix Tryz.func83 rfl (by kernel_rfl) (by kernel_rfl) (by decide) (call := c_ref36_Tick) ⟨callOf_ok cl_ref36_Tick ⟨C_ref36_Ticks, C_ref01_Toward, C_ref35_Emc, C_ref01_Clamp, trivial⟩, callOfE_ok ce_ref36_Tick trivial⟩ h
-- sawmill/sawmillref38.dried: loops [3]; state: params 0..2, then [3, 4, 6, 7, 8, 9]
attribute [simp] Tryz.f55
noncomputable def an_ref38_dried : Ann := ⟨[3, 4, 6, 7, 8, 9], [14], [7], [(3, [2, 3, 4, 7, 8])], [(0, [7]), (1, [2, 3, 4, 7, 8])], some [6], [(6, 14)], [], [], []⟩
@[simp] theorem an_ref38_dried_draws : an_ref38_dried.draws = [(6, 14)] := rfl
@[simp] theorem an_ref38_dried_exits : an_ref38_dried.exits = [(0, [7]), (1, [2, 3, 4, 7, 8])] := rfl
@[simp] theorem an_ref38_dried_rets : an_ref38_dried.rets = some [6] := rfl
@[simp] theorem an_ref38_dried_keep : an_ref38_dried.keep = [3, 4, 6, 7, 8, 9] := rfl
@[simp] theorem an_ref38_dried_cond : an_ref38_dried.cond = [14] := rfl
@[simp] theorem an_ref38_dried_rows : an_ref38_dried.rows = [7] := rfl
@[simp] theorem an_ref38_dried_loops : an_ref38_dried.loops = [(3, [2, 3, 4, 7, 8])] := rfl
@[simp] theorem an_ref38_dried_ecalls : an_ref38_dried.ecalls = [] := rfl
@[simp] theorem an_ref38_dried_crows : an_ref38_dried.crows = [] := rfl
@[simp] theorem an_ref38_dried_tails : an_ref38_dried.tails = [] := rfl
@[simp] noncomputable def cl_ref38_dried : List (Nat × (List D → Option D)) := [(83, F_ref36_Tick)]
@[simp] noncomputable def ce_ref38_dried : List (Nat × (List (Nat × O) → List D → Option (D × List (Nat × O)))) := []
noncomputable def c_ref38_dried : CT := ⟨callOf (cl_ref38_dried ), callOfE ce_ref38_dried, gl⟩
@[simp] theorem c_ref38_dried_p (f : FuncId) (ds : List D) : c_ref38_dried.p f ds = callOf (cl_ref38_dried ) f ds := Eq.trans rfl rfl
@[simp] theorem c_ref38_dried_e (f : FuncId) (hs : List (Nat × O)) (ds : List D) : c_ref38_dried.e f hs ds = callOfE ce_ref38_dried f hs ds := Eq.trans rfl rfl
@[simp] theorem c_ref38_dried_g (g : Nat) : c_ref38_dried.g g = gl g := Eq.trans rfl rfl
noncomputable def L_ref38_dried (i n : Nat) (s : St) : Option (E × St) := atN Tryz.prog c_ref38_dried an_ref38_dried 38 (bodyOf Tryz.f55) i n s
noncomputable def H_ref38_dried (n i : Nat) (s : St) : Option (E × St) := atH Tryz.prog c_ref38_dried an_ref38_dried 38 (bodyOf Tryz.f55) n i s
@[simp] theorem H_ref38_dried_eq (n i : Nat) (s : St) : H_ref38_dried n i s = L_ref38_dried i n (headOf (an_ref38_dried.loops.lookup i) s) := rfl
noncomputable def R_ref38_dried (i : Nat) (s : St) : Option (E × St) := stepL Tryz.prog c_ref38_dried an_ref38_dried 38 (bodyOf Tryz.f55) i s
theorem lok_ref38_dried : okLoops (bodyOf Tryz.f55) = true := by kernel_rfl
theorem L_ref38_dried_zero (i : Nat) (s : St) : L_ref38_dried i 0 s = none := rfl
theorem L_ref38_dried_succ (i n : Nat) (s : St) : L_ref38_dried i (n + 1) s = andThen (R_ref38_dried i s) (H_ref38_dried n i) := atN_succ lok_ref38_dried i n s
theorem R_ref38_dried_eq (i : Nat) (s : St) : R_ref38_dried i s = runS Tryz.prog c_ref38_dried (H_ref38_dried bigL) an_ref38_dried 38 (loopAt (bodyOf Tryz.f55) i) s := rfl
noncomputable def F_ref38_dried (ds : List D) : Option D := runF Tryz.prog c_ref38_dried an_ref38_dried 38 (bodyOf Tryz.f55) [.tmp 6] ds
theorem F_ref38_dried_eq (ds : List D) : F_ref38_dried ds = runG Tryz.prog c_ref38_dried (H_ref38_dried bigL) an_ref38_dried 38 (bodyOf Tryz.f55) [.tmp 6] ds := runG_eq lok_ref38_dried _ ds
theorem C_ref38_dried (ds : List D) (r : D) (h : F_ref38_dried ds = some r) : Contract Tryz.prog gl 55 ds r := contract_of mix Tryz.func55 rfl (by kernel_rfl) (by kernel_rfl) (by decide) (call := c_ref38_dried) ⟨callOf_ok cl_ref38_dried ⟨C_ref36_Tick, trivial⟩, callOfE_ok ce_ref38_dried trivial⟩ h
-- sawmill/sawmillref38.steep: loops [2]; state: params 0..1, then [2, 4, 5, 6]
attribute [simp] Tryz.f56
noncomputable def an_ref38_steep : Ann := ⟨[1, 2, 4, 5, 6], [10, 34], [], [(2, [1, 2, 5])], [(0, []), (1, [1, 2, 5])], some [4], [], [], [], []⟩
@[simp] theorem an_ref38_steep_draws : an_ref38_steep.draws = [] := rfl
@[simp] theorem an_ref38_steep_exits : an_ref38_steep.exits = [(0, []), (1, [1, 2, 5])] := rfl
@[simp] theorem an_ref38_steep_rets : an_ref38_steep.rets = some [4] := rfl
@[simp] theorem an_ref38_steep_keep : an_ref38_steep.keep = [1, 2, 4, 5, 6] := rfl
@[simp] theorem an_ref38_steep_cond : an_ref38_steep.cond = [10, 34] := rfl
@[simp] theorem an_ref38_steep_rows : an_ref38_steep.rows = [] := rfl
@[simp] theorem an_ref38_steep_loops : an_ref38_steep.loops = [(2, [1, 2, 5])] := rfl
@[simp] theorem an_ref38_steep_ecalls : an_ref38_steep.ecalls = [] := rfl
@[simp] theorem an_ref38_steep_crows : an_ref38_steep.crows = [] := rfl
@[simp] theorem an_ref38_steep_tails : an_ref38_steep.tails = [] := rfl
@[simp] noncomputable def cl_ref38_steep : List (Nat × (List D → Option D)) := [(31, F_ref36_Gradient)]
@[simp] noncomputable def ce_ref38_steep : List (Nat × (List (Nat × O) → List D → Option (D × List (Nat × O)))) := []
noncomputable def c_ref38_steep : CT := ⟨callOf (cl_ref38_steep ), callOfE ce_ref38_steep, gl⟩
@[simp] theorem c_ref38_steep_p (f : FuncId) (ds : List D) : c_ref38_steep.p f ds = callOf (cl_ref38_steep ) f ds := Eq.trans rfl rfl
@[simp] theorem c_ref38_steep_e (f : FuncId) (hs : List (Nat × O)) (ds : List D) : c_ref38_steep.e f hs ds = callOfE ce_ref38_steep f hs ds := Eq.trans rfl rfl
@[simp] theorem c_ref38_steep_g (g : Nat) : c_ref38_steep.g g = gl g := Eq.trans rfl rfl
noncomputable def L_ref38_steep (i n : Nat) (s : St) : Option (E × St) := atN Tryz.prog c_ref38_steep an_ref38_steep 35 (bodyOf Tryz.f56) i n s
noncomputable def H_ref38_steep (n i : Nat) (s : St) : Option (E × St) := atH Tryz.prog c_ref38_steep an_ref38_steep 35 (bodyOf Tryz.f56) n i s
@[simp] theorem H_ref38_steep_eq (n i : Nat) (s : St) : H_ref38_steep n i s = L_ref38_steep i n (headOf (an_ref38_steep.loops.lookup i) s) := rfl
noncomputable def R_ref38_steep (i : Nat) (s : St) : Option (E × St) := stepL Tryz.prog c_ref38_steep an_ref38_steep 35 (bodyOf Tryz.f56) i s
theorem lok_ref38_steep : okLoops (bodyOf Tryz.f56) = true := by kernel_rfl
theorem L_ref38_steep_zero (i : Nat) (s : St) : L_ref38_steep i 0 s = none := rfl
theorem L_ref38_steep_succ (i n : Nat) (s : St) : L_ref38_steep i (n + 1) s = andThen (R_ref38_steep i s) (H_ref38_steep n i) := atN_succ lok_ref38_steep i n s
theorem R_ref38_steep_eq (i : Nat) (s : St) : R_ref38_steep i s = runS Tryz.prog c_ref38_steep (H_ref38_steep bigL) an_ref38_steep 35 (loopAt (bodyOf Tryz.f56) i) s := rfl
noncomputable def F_ref38_steep (ds : List D) : Option D := runF Tryz.prog c_ref38_steep an_ref38_steep 35 (bodyOf Tryz.f56) [.tmp 4] ds
theorem F_ref38_steep_eq (ds : List D) : F_ref38_steep ds = runG Tryz.prog c_ref38_steep (H_ref38_steep bigL) an_ref38_steep 35 (bodyOf Tryz.f56) [.tmp 4] ds := runG_eq lok_ref38_steep _ ds
theorem C_ref38_steep (ds : List D) (r : D) (h : F_ref38_steep ds = some r) : Contract Tryz.prog gl 56 ds r := contract_of mix Tryz.func56 rfl (by kernel_rfl) (by kernel_rfl) (by decide) (call := c_ref38_steep) ⟨callOf_ok cl_ref38_steep ⟨C_ref36_Gradient, trivial⟩, callOfE_ok ce_ref38_steep trivial⟩ h
-- sawmill/sawmillref38.Mean: loops [5]; state: params 0..0, then [1, 2, 3, 4]
attribute [simp] Tryz.f58
noncomputable def an_ref38_Mean : Ann := ⟨[1, 2, 3, 4], [8, 13], [], [(5, [1, 3, 4])], [(0, [1, 3]), (1, [1, 3, 4])], some [2], [], [], [], []⟩
@[simp] theorem an_ref38_Mean_draws : an_ref38_Mean.draws = [] := rfl
@[simp] theorem an_ref38_Mean_exits : an_ref38_Mean.exits = [(0, [1, 3]), (1, [1, 3, 4])] := rfl
@[simp] theorem an_ref38_Mean_rets : an_ref38_Mean.rets = some [2] := rfl
@[simp] theorem an_ref38_Mean_keep : an_ref38_Mean.keep = [1, 2, 3, 4] := rfl
@[simp] theorem an_ref38_Mean_cond : an_ref38_Mean.cond = [8, 13] := rfl
@[simp] theorem an_ref38_Mean_rows : an_ref38_Mean.rows = [] := rfl
@[simp] theorem an_ref38_Mean_loops : an_ref38_Mean.loops = [(5, [1, 3, 4])] := rfl
@[simp] theorem an_ref38_Mean_ecalls : an_ref38_Mean.ecalls = [] := rfl
@[simp] theorem an_ref38_Mean_crows : an_ref38_Mean.crows = [] := rfl
@[simp] theorem an_ref38_Mean_tails : an_ref38_Mean.tails = [] := rfl
@[simp] noncomputable def cl_ref38_Mean : List (Nat × (List D → Option D)) := []
@[simp] noncomputable def ce_ref38_Mean : List (Nat × (List (Nat × O) → List D → Option (D × List (Nat × O)))) := []
noncomputable def c_ref38_Mean : CT := ⟨callOf (cl_ref38_Mean ), callOfE ce_ref38_Mean, gl⟩
@[simp] theorem c_ref38_Mean_p (f : FuncId) (ds : List D) : c_ref38_Mean.p f ds = callOf (cl_ref38_Mean ) f ds := Eq.trans rfl rfl
@[simp] theorem c_ref38_Mean_e (f : FuncId) (hs : List (Nat × O)) (ds : List D) : c_ref38_Mean.e f hs ds = callOfE ce_ref38_Mean f hs ds := Eq.trans rfl rfl
@[simp] theorem c_ref38_Mean_g (g : Nat) : c_ref38_Mean.g g = gl g := Eq.trans rfl rfl
noncomputable def L_ref38_Mean (i n : Nat) (s : St) : Option (E × St) := atN Tryz.prog c_ref38_Mean an_ref38_Mean 30 (bodyOf Tryz.f58) i n s
noncomputable def H_ref38_Mean (n i : Nat) (s : St) : Option (E × St) := atH Tryz.prog c_ref38_Mean an_ref38_Mean 30 (bodyOf Tryz.f58) n i s
@[simp] theorem H_ref38_Mean_eq (n i : Nat) (s : St) : H_ref38_Mean n i s = L_ref38_Mean i n (headOf (an_ref38_Mean.loops.lookup i) s) := rfl
noncomputable def R_ref38_Mean (i : Nat) (s : St) : Option (E × St) := stepL Tryz.prog c_ref38_Mean an_ref38_Mean 30 (bodyOf Tryz.f58) i s
theorem lok_ref38_Mean : okLoops (bodyOf Tryz.f58) = true := by kernel_rfl
theorem L_ref38_Mean_zero (i : Nat) (s : St) : L_ref38_Mean i 0 s = none := rfl
theorem L_ref38_Mean_succ (i n : Nat) (s : St) : L_ref38_Mean i (n + 1) s = andThen (R_ref38_Mean i s) (H_ref38_Mean n i) := atN_succ lok_ref38_Mean i n s
theorem R_ref38_Mean_eq (i : Nat) (s : St) : R_ref38_Mean i s = runS Tryz.prog c_ref38_Mean (H_ref38_Mean bigL) an_ref38_Mean 30 (loopAt (bodyOf Tryz.f58) i) s := rfl
noncomputable def F_ref38_Mean (ds : List D) : Option D := runF Tryz.prog c_ref38_Mean an_ref38_Mean 30 (bodyOf Tryz.f58) [.tmp 2] ds
theorem F_ref38_Mean_eq (ds : List D) : F_ref38_Mean ds = runG Tryz.prog c_ref38_Mean (H_ref38_Mean bigL) an_ref38_Mean 30 (bodyOf Tryz.f58) [.tmp 2] ds := runG_eq lok_ref38_Mean _ ds
theorem C_ref38_Mean (ds : List D) (r : D) (h : F_ref38_Mean ds = some r) : Contract Tryz.prog gl 58 ds r := contract_of mix Tryz.func58 rfl (by kernel_rfl) (by kernel_rfl) (by decide) (call := c_ref38_Mean) ⟨callOf_ok cl_ref38_Mean trivial, callOfE_ok ce_ref38_Mean trivial⟩ h
-- sawmill/sawmillref37.Ends: loops []; state: params 0..3, then [4, 8, 9, 10]
attribute [simp] Tryz.f57
noncomputable def an_ref37_Ends : Ann := ⟨[1, 4, 8, 9, 10], [19, 44], [], [], [], some [8, 9], [], [], [], []⟩
@[simp] theorem an_ref37_Ends_draws : an_ref37_Ends.draws = [] := rfl
@[simp] theorem an_ref37_Ends_exits : an_ref37_Ends.exits = [] := rfl
@[simp] theorem an_ref37_Ends_rets : an_ref37_Ends.rets = some [8, 9] := rfl
@[simp] theorem an_ref37_Ends_keep : an_ref37_Ends.keep = [1, 4, 8, 9, 10] := rfl
@[simp] theorem an_ref37_Ends_cond : an_ref37_Ends.cond = [19, 44] := rfl
@[simp] theorem an_ref37_Ends_rows : an_ref37_Ends.rows = [] := rfl
@[simp] theorem an_ref37_Ends_loops : an_ref37_Ends.loops = [] := rfl
@[simp] theorem an_ref37_Ends_ecalls : an_ref37_Ends.ecalls = [] := rfl
@[simp] theorem an_ref37_Ends_crows : an_ref37_Ends.crows = [] := rfl
@[simp] theorem an_ref37_Ends_tails : an_ref37_Ends.tails = [] := rfl
@[simp] noncomputable def cl_ref37_Ends : List (Nat × (List D → Option D)) := []
@[simp] noncomputable def ce_ref37_Ends : List (Nat × (List (Nat × O) → List D → Option (D × List (Nat × O)))) := []
noncomputable def c_ref37_Ends : CT := ⟨callOf (cl_ref37_Ends ), callOfE ce_ref37_Ends, gl⟩
@[simp] theorem c_ref37_Ends_p (f : FuncId) (ds : List D) : c_ref37_Ends.p f ds = callOf (cl_ref37_Ends ) f ds := Eq.trans rfl rfl
@[simp] theorem c_ref37_Ends_e (f : FuncId) (hs : List (Nat × O)) (ds : List D) : c_ref37_Ends.e f hs ds = callOfE ce_ref37_Ends f hs ds := Eq.trans rfl rfl
@[simp] theorem c_ref37_Ends_g (g : Nat) : c_ref37_Ends.g g = gl g := Eq.trans rfl rfl
noncomputable def L_ref37_Ends (i n : Nat) (s : St) : Option (E × St) := atN Tryz.prog c_ref37_Ends an_ref37_Ends 48 (bodyOf Tryz.f57) i n s
noncomputable def H_ref37_Ends (n i : Nat) (s : St) : Option (E × St) := atH Tryz.prog c_ref37_Ends an_ref37_Ends 48 (bodyOf Tryz.f57) n i s
@[simp] theorem H_ref37_Ends_eq (n i : Nat) (s : St) : H_ref37_Ends n i s = L_ref37_Ends i n (headOf (an_ref37_Ends.loops.lookup i) s) := rfl
noncomputable def R_ref37_Ends (i : Nat) (s : St) : Option (E × St) := stepL Tryz.prog c_ref37_Ends an_ref37_Ends 48 (bodyOf Tryz.f57) i s
theorem lok_ref37_Ends : okLoops (bodyOf Tryz.f57) = true := by kernel_rfl
noncomputable def F_ref37_Ends (ds : List D) : Option D := runF Tryz.prog c_ref37_Ends an_ref37_Ends 48 (bodyOf Tryz.f57) [.tmp 8, .tmp 9] ds
theorem F_ref37_Ends_eq (ds : List D) : F_ref37_Ends ds = runG Tryz.prog c_ref37_Ends (H_ref37_Ends bigL) an_ref37_Ends 48 (bodyOf Tryz.f57) [.tmp 8, .tmp 9] ds := runG_eq lok_ref37_Ends _ ds
theorem C_ref37_Ends (ds : List D) (r : D) (h : F_ref37_Ends ds = some r) : Contract Tryz.prog gl 57 ds r := contract_of mix Tryz.func57 rfl (by kernel_rfl) (by kernel_rfl) (by decide) (call := c_ref37_Ends) ⟨callOf_ok cl_ref37_Ends trivial, callOfE_ok ce_ref37_Ends trivial⟩ h
-- sawmill/sawmillref38.Tick: loops []; state: params 0..1, then [2, 4, 5, 6, 7, 8, 9]
attribute [simp] Tryz.f33
noncomputable def an_ref38_Tick : Ann := ⟨[1, 2, 4, 5, 6, 7, 8, 9], [11, 41, 72], [], [], [], some [4, 5], [(3, 13), (12, 13), (15, 5)], [], [], []⟩
@[simp] theorem an_ref38_Tick_draws : an_ref38_Tick.draws = [(3, 13), (12, 13), (15, 5)] := rfl
@[simp] theorem an_ref38_Tick_exits : an_ref38_Tick.exits = [] := rfl
@[simp] theorem an_ref38_Tick_rets : an_ref38_Tick.rets = some [4, 5] := rfl
@[simp] theorem an_ref38_Tick_keep : an_ref38_Tick.keep = [1, 2, 4, 5, 6, 7, 8, 9] := rfl
@[simp] theorem an_ref38_Tick_cond : an_ref38_Tick.cond = [11, 41, 72] := rfl
@[simp] theorem an_ref38_Tick_rows : an_ref38_Tick.rows = [] := rfl
@[simp] theorem an_ref38_Tick_loops : an_ref38_Tick.loops = [] := rfl
@[simp] theorem an_ref38_Tick_ecalls : an_ref38_Tick.ecalls = [] := rfl
@[simp] theorem an_ref38_Tick_crows : an_ref38_Tick.crows = [] := rfl
@[simp] theorem an_ref38_Tick_tails : an_ref38_Tick.tails = [] := rfl
@[simp] noncomputable def cl_ref38_Tick : List (Nat × (List D → Option D)) := [(32, F_ref38_Done), (52, F_ref35_Next), (53, F_ref37_Target), (54, F_ref38_has), (55, F_ref38_dried), (56, F_ref38_steep), (57, F_ref37_Ends), (58, F_ref38_Mean)]
@[simp] noncomputable def ce_ref38_Tick : List (Nat × (List (Nat × O) → List D → Option (D × List (Nat × O)))) := []
noncomputable def c_ref38_Tick : CT := ⟨callOf (cl_ref38_Tick ), callOfE ce_ref38_Tick, gl⟩
@[simp] theorem c_ref38_Tick_p (f : FuncId) (ds : List D) : c_ref38_Tick.p f ds = callOf (cl_ref38_Tick ) f ds := Eq.trans rfl rfl
@[simp] theorem c_ref38_Tick_e (f : FuncId) (hs : List (Nat × O)) (ds : List D) : c_ref38_Tick.e f hs ds = callOfE ce_ref38_Tick f hs ds := Eq.trans rfl rfl
@[simp] theorem c_ref38_Tick_g (g : Nat) : c_ref38_Tick.g g = gl g := Eq.trans rfl rfl
noncomputable def L_ref38_Tick (i n : Nat) (s : St) : Option (E × St) := atN Tryz.prog c_ref38_Tick an_ref38_Tick 80 (bodyOf Tryz.f33) i n s
noncomputable def H_ref38_Tick (n i : Nat) (s : St) : Option (E × St) := atH Tryz.prog c_ref38_Tick an_ref38_Tick 80 (bodyOf Tryz.f33) n i s
@[simp] theorem H_ref38_Tick_eq (n i : Nat) (s : St) : H_ref38_Tick n i s = L_ref38_Tick i n (headOf (an_ref38_Tick.loops.lookup i) s) := rfl
noncomputable def R_ref38_Tick (i : Nat) (s : St) : Option (E × St) := stepL Tryz.prog c_ref38_Tick an_ref38_Tick 80 (bodyOf Tryz.f33) i s
theorem lok_ref38_Tick : okLoops (bodyOf Tryz.f33) = true := by kernel_rfl
noncomputable def F_ref38_Tick (ds : List D) : Option D := runF Tryz.prog c_ref38_Tick an_ref38_Tick 80 (bodyOf Tryz.f33) [.cell 4 75, .tmp 5] ds
theorem F_ref38_Tick_eq (ds : List D) : F_ref38_Tick ds = runG Tryz.prog c_ref38_Tick (H_ref38_Tick bigL) an_ref38_Tick 80 (bodyOf Tryz.f33) [.cell 4 75, .tmp 5] ds := runG_eq lok_ref38_Tick _ ds
theorem C_ref38_Tick (ds : List D) (r : D) (h : F_ref38_Tick ds = some r) : Contract Tryz.prog gl 33 ds r := contract_of mix Tryz.func33 rfl (by kernel_rfl) (by kernel_rfl) (by decide) (call := c_ref38_Tick) ⟨callOf_ok cl_ref38_Tick ⟨C_ref38_Done, C_ref35_Next, C_ref37_Target, C_ref38_has, C_ref38_dried, C_ref38_steep, C_ref37_Ends, C_ref38_Mean, trivial⟩, callOfE_ok ce_ref38_Tick trivial⟩ h
-- sawmill/sawmillref40.Dry: loops [11, 19, 25]; state: params 0..4, then [6, 7, 10, 11, 12, 13, 14, 15, 16, 17, 18, 19, 20, 21, 22, 23]
attribute [simp] Tryz.f14
noncomputable def an_ref40_Dry : Ann := ⟨[0, 3, 4, 6, 7, 10, 11, 12, 13, 14, 15, 16, 17, 18, 19, 20, 21, 22, 23], [29, 37, 42, 48, 73, 93, 110], [15, 21, 117], [(11, [0, 3, 4, 6, 7, 11, 15, 16]), (19, [0, 3, 4, 11, 17, 19, 20]), (25, [0, 11, 17, 19, 21, 22])], [(0, [0, 3, 4, 6, 7, 11, 15]), (1, [0, 3, 4, 6, 7, 11, 15, 16]), (2, [0, 11, 17, 19]), (3, [0, 3, 4, 11, 17, 19, 20]), (4, [11, 19, 21]), (5, [0, 11, 17, 19, 21, 22])], some [10, 11, 12], [(13, 13), (17, 11), (21, 9), (32, 3)], [], [], []⟩
@[simp] theorem an_ref40_Dry_draws : an_ref40_Dry.draws = [(13, 13), (17, 11), (21, 9), (32, 3)] := rfl
@[simp] theorem an_ref40_Dry_exits : an_ref40_Dry.exits = [(0, [0, 3, 4, 6, 7, 11, 15]), (1, [0, 3, 4, 6, 7, 11, 15, 16]), (2, [0, 11, 17, 19]), (3, [0, 3, 4, 11, 17, 19, 20]), (4, [11, 19, 21]), (5, [0, 11, 17, 19, 21, 22])] := rfl
@[simp] theorem an_ref40_Dry_rets : an_ref40_Dry.rets = some [10, 11, 12] := rfl
@[simp] theorem an_ref40_Dry_keep : an_ref40_Dry.keep = [0, 3, 4, 6, 7, 10, 11, 12, 13, 14, 15, 16, 17, 18, 19, 20, 21, 22, 23] := rfl
@[simp] theorem an_ref40_Dry_cond : an_ref40_Dry.cond = [29, 37, 42, 48, 73, 93, 110] := rfl
@[simp] theorem an_ref40_Dry_rows : an_ref40_Dry.rows = [15, 21, 117] := rfl
@[simp] theorem an_ref40_Dry_loops : an_ref40_Dry.loops = [(11, [0, 3, 4, 6, 7, 11, 15, 16]), (19, [0, 3, 4, 11, 17, 19, 20]), (25, [0, 11, 17, 19, 21, 22])] := rfl
@[simp] theorem an_ref40_Dry_ecalls : an_ref40_Dry.ecalls = [] := rfl
@[simp] theorem an_ref40_Dry_crows : an_ref40_Dry.crows = [] := rfl
@[simp] theorem an_ref40_Dry_tails : an_ref40_Dry.tails = [] := rfl
@[simp] noncomputable def cl_ref40_Dry : List (Nat × (List D → Option D)) := [(8, F_ref40_Check), (24, F_ref40_Thick), (28, F_ref40_checkFaults), (29, F_ref38_New), (30, F_ref40_seen), (31, F_ref36_Gradient), (32, F_ref38_Done), (33, F_ref38_Tick), (34, F_ref40_At)]
@[simp] noncomputable def ce_ref40_Dry : List (Nat × (List (Nat × O) → List D → Option (D × List (Nat × O)))) := []
noncomputable def c_ref40_Dry : CT := ⟨callOf (cl_ref40_Dry ), callOfE ce_ref40_Dry, gl⟩
@[simp] theorem c_ref40_Dry_p (f : FuncId) (ds : List D) : c_ref40_Dry.p f ds = callOf (cl_ref40_Dry ) f ds := Eq.trans rfl rfl
@[simp] theorem c_ref40_Dry_e (f : FuncId) (hs : List (Nat × O)) (ds : List D) : c_ref40_Dry.e f hs ds = callOfE ce_ref40_Dry f hs ds := Eq.trans rfl rfl
@[simp] theorem c_ref40_Dry_g (g : Nat) : c_ref40_Dry.g g = gl g := Eq.trans rfl rfl
noncomputable def L_ref40_Dry (i n : Nat) (s : St) : Option (E × St) := atN Tryz.prog c_ref40_Dry an_ref40_Dry 136 (bodyOf Tryz.f14) i n s
noncomputable def H_ref40_Dry (n i : Nat) (s : St) : Option (E × St) := atH Tryz.prog c_ref40_Dry an_ref40_Dry 136 (bodyOf Tryz.f14) n i s
@[simp] theorem H_ref40_Dry_eq (n i : Nat) (s : St) : H_ref40_Dry n i s = L_ref40_Dry i n (headOf (an_ref40_Dry.loops.lookup i) s) := rfl
noncomputable def R_ref40_Dry (i : Nat) (s : St) : Option (E × St) := stepL Tryz.prog c_ref40_Dry an_ref40_Dry 136 (bodyOf Tryz.f14) i s
theorem lok_ref40_Dry : okLoops (bodyOf Tryz.f14) = true := by kernel_rfl
theorem L_ref40_Dry_zero (i : Nat) (s : St) : L_ref40_Dry i 0 s = none := rfl
theorem L_ref40_Dry_succ (i n : Nat) (s : St) : L_ref40_Dry i (n + 1) s = andThen (R_ref40_Dry i s) (H_ref40_Dry n i) := atN_succ lok_ref40_Dry i n s
theorem R_ref40_Dry_eq (i : Nat) (s : St) : R_ref40_Dry i s = runS Tryz.prog c_ref40_Dry (H_ref40_Dry bigL) an_ref40_Dry 136 (loopAt (bodyOf Tryz.f14) i) s := rfl
noncomputable def F_ref40_Dry (ds : List D) : Option D := runF Tryz.prog c_ref40_Dry an_ref40_Dry 136 (bodyOf Tryz.f14) [.tmp 10, .cell 11 41, .tmp 12] ds
theorem F_ref40_Dry_eq (ds : List D) : F_ref40_Dry ds = runG Tryz.prog c_ref40_Dry (H_ref40_Dry bigL) an_ref40_Dry 136 (bodyOf Tryz.f14) [.tmp 10, .cell 11 41, .tmp 12] ds := runG_eq lok_ref40_Dry _ ds
theorem C_ref40_Dry (ds : List D) (r : D) (h : F_ref40_Dry ds = some r) : Contract Tryz.prog gl 14 ds r := contract_of mix Tryz.func14 rfl (by kernel_rfl) (by kernel_rfl) (by decide) (call := c_ref40_Dry) ⟨callOf_ok cl_ref40_Dry ⟨C_ref40_Check, C_ref40_Thick, C_ref40_checkFaults, C_ref38_New, C_ref40_seen, C_ref36_Gradient, C_ref38_Done, C_ref38_Tick, C_ref40_At, trivial⟩, callOfE_ok ce_ref40_Dry trivial⟩ h
-- sawmill/sawmillref40.sameDefects: loops [4]; state: params 0..1, then [4, 5]
attribute [simp] Tryz.f35
noncomputable def an_ref40_sameDefects : Ann := ⟨[0, 1, 4, 5], [10, 14, 25], [], [(4, [0, 1, 5])], [(0, []), (1, [0, 1, 5])], some [4], [(6, 8)], [], [], []⟩
@[simp] theorem an_ref40_sameDefects_draws : an_ref40_sameDefects.draws = [(6, 8)] := rfl
@[simp] theorem an_ref40_sameDefects_exits : an_ref40_sameDefects.exits = [(0, []), (1, [0, 1, 5])] := rfl
@[simp] theorem an_ref40_sameDefects_rets : an_ref40_sameDefects.rets = some [4] := rfl
@[simp] theorem an_ref40_sameDefects_keep : an_ref40_sameDefects.keep = [0, 1, 4, 5] := rfl
@[simp] theorem an_ref40_sameDefects_cond : an_ref40_sameDefects.cond = [10, 14, 25] := rfl
@[simp] theorem an_ref40_sameDefects_rows : an_ref40_sameDefects.rows = [] := rfl
@[simp] theorem an_ref40_sameDefects_loops : an_ref40_sameDefects.loops = [(4, [0, 1, 5])] := rfl
@[simp] theorem an_ref40_sameDefects_ecalls : an_ref40_sameDefects.ecalls = [] := rfl
@[simp] theorem an_ref40_sameDefects_crows : an_ref40_sameDefects.crows = [] := rfl
@[simp] theorem an_ref40_sameDefects_tails : an_ref40_sameDefects.tails = [] := rfl
@[simp] noncomputable def cl_ref40_sameDefects : List (Nat × (List D → Option D)) := []
@[simp] noncomputable def ce_ref40_sameDefects : List (Nat × (List (Nat × O) → List D → Option (D × List (Nat × O)))) := []
noncomputable def c_ref40_sameDefects : CT := ⟨callOf (cl_ref40_sameDefects ), callOfE ce_ref40_sameDefects, gl⟩
@[simp] theorem c_ref40_sameDefects_p (f : FuncId) (ds : List D) : c_ref40_sameDefects.p f ds = callOf (cl_ref40_sameDefects ) f ds := Eq.trans rfl rfl
@[simp] theorem c_ref40_sameDefects_e (f : FuncId) (hs : List (Nat × O)) (ds : List D) : c_ref40_sameDefects.e f hs ds = callOfE ce_ref40_sameDefects f hs ds := Eq.trans rfl rfl
@[simp] theorem c_ref40_sameDefects_g (g : Nat) : c_ref40_sameDefects.g g = gl g := Eq.trans rfl rfl
noncomputable def L_ref40_sameDefects (i n : Nat) (s : St) : Option (E × St) := atN Tryz.prog c_ref40_sameDefects an_ref40_sameDefects 26 (bodyOf Tryz.f35) i n s
noncomputable def H_ref40_sameDefects (n i : Nat) (s : St) : Option (E × St) := atH Tryz.prog c_ref40_sameDefects an_ref40_sameDefects 26 (bodyOf Tryz.f35) n i s
@[simp] theorem H_ref40_sameDefects_eq (n i : Nat) (s : St) : H_ref40_sameDefects n i s = L_ref40_sameDefects i n (headOf (an_ref40_sameDefects.loops.lookup i) s) := rfl
noncomputable def R_ref40_sameDefects (i : Nat) (s : St) : Option (E × St) := stepL Tryz.prog c_ref40_sameDefects an_ref40_sameDefects 26 (bodyOf Tryz.f35) i s
theorem lok_ref40_sameDefects : okLoops (bodyOf Tryz.f35) = true := by kernel_rfl
theorem L_ref40_sameDefects_zero (i : Nat) (s : St) : L_ref40_sameDefects i 0 s = none := rfl
theorem L_ref40_sameDefects_succ (i n : Nat) (s : St) : L_ref40_sameDefects i (n + 1) s = andThen (R_ref40_sameDefects i s) (H_ref40_sameDefects n i) := atN_succ lok_ref40_sameDefects i n s
theorem R_ref40_sameDefects_eq (i : Nat) (s : St) : R_ref40_sameDefects i s = runS Tryz.prog c_ref40_sameDefects (H_ref40_sameDefects bigL) an_ref40_sameDefects 26 (loopAt (bodyOf Tryz.f35) i) s := rfl
noncomputable def F_ref40_sameDefects (ds : List D) : Option D := runF Tryz.prog c_ref40_sameDefects an_ref40_sameDefects 26 (bodyOf Tryz.f35) [.tmp 4] ds
theorem F_ref40_sameDefects_eq (ds : List D) : F_ref40_sameDefects ds = runG Tryz.prog c_ref40_sameDefects (H_ref40_sameDefects bigL) an_ref40_sameDefects 26 (bodyOf Tryz.f35) [.tmp 4] ds := runG_eq lok_ref40_sameDefects _ ds
theorem C_ref40_sameDefects (ds : List D) (r : D) (h : F_ref40_sameDefects ds = some r) : Contract Tryz.prog gl 35 ds r := contract_of mix Tryz.func35 rfl (by kernel_rfl) (by kernel_rfl) (by decide) (call := c_ref40_sameDefects) ⟨callOf_ok cl_ref40_sameDefects trivial, callOfE_ok ce_ref40_sameDefects trivial⟩ h
-- sawmill/sawmillref40.SameBoards: loops [4]; state: params 0..1, then [4, 5, 6, 7]
attribute [simp] Tryz.f15
noncomputable def an_ref40_SameBoards : Ann := ⟨[0, 1, 4, 5, 6, 7], [12, 16, 102], [], [(4, [0, 1, 5])], [(0, []), (1, [0, 1, 5])], some [4], [(6, 11)], [], [], []⟩
@[simp] theorem an_ref40_SameBoards_draws : an_ref40_SameBoards.draws = [(6, 11)] := rfl
@[simp] theorem an_ref40_SameBoards_exits : an_ref40_SameBoards.exits = [(0, []), (1, [0, 1, 5])] := rfl
@[simp] theorem an_ref40_SameBoards_rets : an_ref40_SameBoards.rets = some [4] := rfl
@[simp] theorem an_ref40_SameBoards_keep : an_ref40_SameBoards.keep = [0, 1, 4, 5, 6, 7] := rfl
@[simp] theorem an_ref40_SameBoards_cond : an_ref40_SameBoards.cond = [12, 16, 102] := rfl
@[simp] theorem an_ref40_SameBoards_rows : an_ref40_SameBoards.rows = [] := rfl
@[simp] theorem an_ref40_SameBoards_loops : an_ref40_SameBoards.loops = [(4, [0, 1, 5])] := rfl
@[simp] theorem an_ref40_SameBoards_ecalls : an_ref40_SameBoards.ecalls = [] := rfl
@[simp] theorem an_ref40_SameBoards_crows : an_ref40_SameBoards.crows = [] := rfl
@[simp] theorem an_ref40_SameBoards_tails : an_ref40_SameBoards.tails = [] := rfl
@[simp] noncomputable def cl_ref40_SameBoards : List (Nat × (List D → Option D)) := [(35, F_ref40_sameDefects)]
@[simp] noncomputable def ce_ref40_SameBoards : List (Nat × (List (Nat × O) → List D → Option (D × List (Nat × O)))) := []
noncomputable def c_ref40_SameBoards : CT := ⟨callOf (cl_ref40_SameBoards ), callOfE ce_ref40_SameBoards, gl⟩
@[simp] theorem c_ref40_SameBoards_p (f : FuncId) (ds : List D) : c_ref40_SameBoards.p f ds = callOf (cl_ref40_SameBoards ) f ds := Eq.trans rfl rfl
@[simp] theorem c_ref40_SameBoards_e (f : FuncId) (hs : List (Nat × O)) (ds : List D) : c_ref40_SameBoards.e f hs ds = callOfE ce_ref40_SameBoards f hs ds := Eq.trans rfl rfl
@[simp] theorem c_ref40_SameBoards_g (g : Nat) : c_ref40_SameBoards.g g = gl g := Eq.trans rfl rfl
noncomputable def L_ref40_SameBoards (i n : Nat) (s : St) : Option (E × St) := atN Tryz.prog c_ref40_SameBoards an_ref40_SameBoards 103 (bodyOf Tryz.f15) i n s
noncomputable def H_ref40_SameBoards (n i : Nat) (s : St) : Option (E × St) := atH Tryz.prog c_ref40_SameBoards an_ref40_SameBoards 103 (bodyOf Tryz.f15) n i s
@[simp] theorem H_ref40_SameBoards_eq (n i : Nat) (s : St) : H_ref40_SameBoards n i s = L_ref40_SameBoards i n (headOf (an_ref40_SameBoards.loops.lookup i) s) := rfl
noncomputable def R_ref40_SameBoards (i : Nat) (s : St) : Option (E × St) := stepL Tryz.prog c_ref40_SameBoards an_ref40_SameBoards 103 (bodyOf Tryz.f15) i s
theorem lok_ref40_SameBoards : okLoops (bodyOf Tryz.f15) = true := by kernel_rfl
theorem L_ref40_SameBoards_zero (i : Nat) (s : St) : L_ref40_SameBoards i 0 s = none := rfl
theorem L_ref40_SameBoards_succ (i n : Nat) (s : St) : L_ref40_SameBoards i (n + 1) s = andThen (R_ref40_SameBoards i s) (H_ref40_SameBoards n i) := atN_succ lok_ref40_SameBoards i n s
theorem R_ref40_SameBoards_eq (i : Nat) (s : St) : R_ref40_SameBoards i s = runS Tryz.prog c_ref40_SameBoards (H_ref40_SameBoards bigL) an_ref40_SameBoards 103 (loopAt (bodyOf Tryz.f15) i) s := rfl
noncomputable def F_ref40_SameBoards (ds : List D) : Option D := runF Tryz.prog c_ref40_SameBoards an_ref40_SameBoards 103 (bodyOf Tryz.f15) [.tmp 4] ds
theorem F_ref40_SameBoards_eq (ds : List D) : F_ref40_SameBoards ds = runG Tryz.prog c_ref40_SameBoards (H_ref40_SameBoards bigL) an_ref40_SameBoards 103 (bodyOf Tryz.f15) [.tmp 4] ds := runG_eq lok_ref40_SameBoards _ ds
theorem C_ref40_SameBoards (ds : List D) (r : D) (h : F_ref40_SameBoards ds = some r) : Contract Tryz.prog gl 15 ds r := contract_of mix Tryz.func15 rfl (by kernel_rfl) (by kernel_rfl) (by decide) (call := c_ref40_SameBoards) ⟨callOf_ok cl_ref40_SameBoards ⟨C_ref40_sameDefects, trivial⟩, callOfE_ok ce_ref40_SameBoards trivial⟩ h
-- sawmill/sawmilllaw40.ChargeDries: loops []; state: params 0..0, then [1, 2, 3, 4, 5, 6, 7, 8]
attribute [simp] Tryz.f4
noncomputable def an_law40_ChargeDries : Ann := ⟨[1, 2, 3, 4, 5, 6, 7, 8], [11], [], [], [], some [2], [(5, 12)], [], [], []⟩
@[simp] theorem an_law40_ChargeDries_draws : an_law40_ChargeDries.draws = [(5, 12)] := rfl
@[simp] theorem an_law40_ChargeDries_exits : an_law40_ChargeDries.exits = [] := rfl
@[simp] theorem an_law40_ChargeDries_rets : an_law40_ChargeDries.rets = some [2] := rfl
@[simp] theorem an_law40_ChargeDries_keep : an_law40_ChargeDries.keep = [1, 2, 3, 4, 5, 6, 7, 8] := rfl
@[simp] theorem an_law40_ChargeDries_cond : an_law40_ChargeDries.cond = [11] := rfl
@[simp] theorem an_law40_ChargeDries_rows : an_law40_ChargeDries.rows = [] := rfl
@[simp] theorem an_law40_ChargeDries_loops : an_law40_ChargeDries.loops = [] := rfl
@[simp] theorem an_law40_ChargeDries_ecalls : an_law40_ChargeDries.ecalls = [] := rfl
@[simp] theorem an_law40_ChargeDries_crows : an_law40_ChargeDries.crows = [] := rfl
@[simp] theorem an_law40_ChargeDries_tails : an_law40_ChargeDries.tails = [] := rfl
@[simp] noncomputable def cl_law40_ChargeDries : List (Nat × (List D → Option D)) := [(6, F_law40_awake), (11, F_law40_plain), (12, F_law40_light), (13, F_law40_dry), (14, F_ref40_Dry), (15, F_ref40_SameBoards)]
@[simp] noncomputable def ce_law40_ChargeDries : List (Nat × (List (Nat × O) → List D → Option (D × List (Nat × O)))) := []
noncomputable def c_law40_ChargeDries : CT := ⟨callOf (cl_law40_ChargeDries ), callOfE ce_law40_ChargeDries, gl⟩
@[simp] theorem c_law40_ChargeDries_p (f : FuncId) (ds : List D) : c_law40_ChargeDries.p f ds = callOf (cl_law40_ChargeDries ) f ds := Eq.trans rfl rfl
@[simp] theorem c_law40_ChargeDries_e (f : FuncId) (hs : List (Nat × O)) (ds : List D) : c_law40_ChargeDries.e f hs ds = callOfE ce_law40_ChargeDries f hs ds := Eq.trans rfl rfl
@[simp] theorem c_law40_ChargeDries_g (g : Nat) : c_law40_ChargeDries.g g = gl g := Eq.trans rfl rfl
noncomputable def L_law40_ChargeDries (i n : Nat) (s : St) : Option (E × St) := atN Tryz.prog c_law40_ChargeDries an_law40_ChargeDries 51 (bodyOf Tryz.f4) i n s
noncomputable def H_law40_ChargeDries (n i : Nat) (s : St) : Option (E × St) := atH Tryz.prog c_law40_ChargeDries an_law40_ChargeDries 51 (bodyOf Tryz.f4) n i s
@[simp] theorem H_law40_ChargeDries_eq (n i : Nat) (s : St) : H_law40_ChargeDries n i s = L_law40_ChargeDries i n (headOf (an_law40_ChargeDries.loops.lookup i) s) := rfl
noncomputable def R_law40_ChargeDries (i : Nat) (s : St) : Option (E × St) := stepL Tryz.prog c_law40_ChargeDries an_law40_ChargeDries 51 (bodyOf Tryz.f4) i s
theorem lok_law40_ChargeDries : okLoops (bodyOf Tryz.f4) = true := by kernel_rfl
noncomputable def F_law40_ChargeDries (ds : List D) : Option D := runF Tryz.prog c_law40_ChargeDries an_law40_ChargeDries 51 (bodyOf Tryz.f4) [.tmp 2] ds
theorem F_law40_ChargeDries_eq (ds : List D) : F_law40_ChargeDries ds = runG Tryz.prog c_law40_ChargeDries (H_law40_ChargeDries bigL) an_law40_ChargeDries 51 (bodyOf Tryz.f4) [.tmp 2] ds := runG_eq lok_law40_ChargeDries _ ds
theorem C_law40_ChargeDries (ds : List D) (r : D) (h : F_law40_ChargeDries ds = some r) : Contract Tryz.prog gl 4 ds r := contract_of mix Tryz.func4 rfl (by kernel_rfl) (by kernel_rfl) (by decide) (call := c_law40_ChargeDries) ⟨callOf_ok cl_law40_ChargeDries ⟨C_law40_awake, C_law40_plain, C_law40_light, C_law40_dry, C_ref40_Dry, C_ref40_SameBoards, trivial⟩, callOfE_ok ce_law40_ChargeDries trivial⟩ h
end Go.Proofs.YtdefohgkniglpaaGreatDoor

