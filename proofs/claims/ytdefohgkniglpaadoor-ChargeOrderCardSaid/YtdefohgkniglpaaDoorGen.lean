/-
  Printed by gen.py for this seat: more of the functions.
-/
import Derived.Test.YtdefohgkniglpaaDoorGen1
import Derived.Test.YtdefohgkniglpaaDoorWeak
namespace Go.Proofs.YtdefohgkniglpaaDoor
open Go Go.Abs
set_option maxRecDepth 100000
set_option linter.unusedSimpArgs false
set_option linter.unusedVariables false
-- sawmill/charge.dried: loops [3]; state: params 0..1, then [4, 5, 6, 7, 8, 12, 13, 14]
attribute [simp] Tryd.f33
noncomputable def an_charge_dried : Ann := ⟨[1, 4, 5, 6, 7, 8, 12, 13, 14], [15], [5], [(3, [0, 5, 12, 13, 14])], [(0, [5]), (1, [0, 5, 12, 13, 14])], some [4], [], [], [], []⟩
@[simp] theorem an_charge_dried_draws : an_charge_dried.draws = [] := rfl
@[simp] theorem an_charge_dried_exits : an_charge_dried.exits = [(0, [5]), (1, [0, 5, 12, 13, 14])] := rfl
@[simp] theorem an_charge_dried_rets : an_charge_dried.rets = some [4] := rfl
@[simp] theorem an_charge_dried_keep : an_charge_dried.keep = [1, 4, 5, 6, 7, 8, 12, 13, 14] := rfl
@[simp] theorem an_charge_dried_cond : an_charge_dried.cond = [15] := rfl
@[simp] theorem an_charge_dried_rows : an_charge_dried.rows = [5] := rfl
@[simp] theorem an_charge_dried_loops : an_charge_dried.loops = [(3, [0, 5, 12, 13, 14])] := rfl
@[simp] theorem an_charge_dried_ecalls : an_charge_dried.ecalls = [] := rfl
@[simp] theorem an_charge_dried_crows : an_charge_dried.crows = [] := rfl
@[simp] theorem an_charge_dried_tails : an_charge_dried.tails = [] := rfl
@[simp] noncomputable def cl_charge_dried : List (Nat × (List D → Option D)) := [(58, NF_slices_Clone_api_Defect_api_Defect)]
@[simp] noncomputable def ce_charge_dried : List (Nat × (List (Nat × O) → List D → Option (D × List (Nat × O)))) := []
noncomputable def c_charge_dried : CT := ⟨callOf (cl_charge_dried ), callOfE ce_charge_dried, gl⟩
@[simp] theorem c_charge_dried_p (f : FuncId) (ds : List D) : c_charge_dried.p f ds = callOf (cl_charge_dried ) f ds := Eq.trans rfl rfl
@[simp] theorem c_charge_dried_e (f : FuncId) (hs : List (Nat × O)) (ds : List D) : c_charge_dried.e f hs ds = callOfE ce_charge_dried f hs ds := Eq.trans rfl rfl
@[simp] theorem c_charge_dried_g (g : Nat) : c_charge_dried.g g = gl g := Eq.trans rfl rfl
noncomputable def L_charge_dried (i n : Nat) (s : St) : Option (E × St) := atN Tryd.prog c_charge_dried an_charge_dried 37 (bodyOf Tryd.f33) i n s
noncomputable def H_charge_dried (n i : Nat) (s : St) : Option (E × St) := atH Tryd.prog c_charge_dried an_charge_dried 37 (bodyOf Tryd.f33) n i s
@[simp] theorem H_charge_dried_eq (n i : Nat) (s : St) : H_charge_dried n i s = L_charge_dried i n (headOf (an_charge_dried.loops.lookup i) s) := rfl
noncomputable def R_charge_dried (i : Nat) (s : St) : Option (E × St) := stepL Tryd.prog c_charge_dried an_charge_dried 37 (bodyOf Tryd.f33) i s
theorem lok_charge_dried : okLoops (bodyOf Tryd.f33) = true := by kernel_rfl
theorem L_charge_dried_zero (i : Nat) (s : St) : L_charge_dried i 0 s = none := rfl
theorem L_charge_dried_succ (i n : Nat) (s : St) : L_charge_dried i (n + 1) s = andThen (R_charge_dried i s) (H_charge_dried n i) := atN_succ lok_charge_dried i n s
theorem R_charge_dried_eq (i : Nat) (s : St) : R_charge_dried i s = runS Tryd.prog c_charge_dried (H_charge_dried bigL) an_charge_dried 37 (loopAt (bodyOf Tryd.f33) i) s := rfl
noncomputable def F_charge_dried (ds : List D) : Option D := runF Tryd.prog c_charge_dried an_charge_dried 37 (bodyOf Tryd.f33) [.tmp 4] ds
theorem F_charge_dried_eq (ds : List D) : F_charge_dried ds = runG Tryd.prog c_charge_dried (H_charge_dried bigL) an_charge_dried 37 (bodyOf Tryd.f33) [.tmp 4] ds := runG_eq lok_charge_dried _ ds
theorem C_charge_dried (ds : List D) (r : D) (h : F_charge_dried ds = some r) : Contract Tryd.prog gl 33 ds r := contract_of mix Tryd.func33 rfl (by kernel_rfl) (by kernel_rfl) (by decide) (call := c_charge_dried) ⟨callOf_ok cl_charge_dried ⟨NC_slices_Clone_api_Defect_api_Defect, trivial⟩, callOfE_ok ce_charge_dried trivial⟩ h
-- sawmill/charge.Dry: loops [7, 16]; state: params 0..4, then [6, 7, 10, 11, 12, 13, 15, 16, 18, 19, 20, 21, 37, 38, 39, 72, 73, 74]
attribute [simp] Tryd.f25
noncomputable def an_charge_Dry : Ann := ⟨[0, 3, 4, 6, 7, 10, 11, 12, 13, 15, 16, 18, 19, 20, 21, 37, 38, 39, 72, 73, 74], [27, 35, 40, 50, 66, 75, 95], [16], [(7, [0, 3, 4, 6, 7, 11, 37, 38, 39]), (16, [0, 3, 4, 6, 7, 11, 16, 72, 73, 74])], [(0, [0, 3, 4, 6, 7, 11]), (1, [0, 3, 4, 6, 7, 11, 37, 38, 39]), (2, [0, 3, 4, 6, 7, 11, 16]), (3, [0, 3, 4, 6, 7, 11, 16, 72, 73, 74])], some [10, 11, 12], [(18, 7), (24, 6)], [(31, false), (32, false)], [], []⟩
@[simp] theorem an_charge_Dry_draws : an_charge_Dry.draws = [(18, 7), (24, 6)] := rfl
@[simp] theorem an_charge_Dry_exits : an_charge_Dry.exits = [(0, [0, 3, 4, 6, 7, 11]), (1, [0, 3, 4, 6, 7, 11, 37, 38, 39]), (2, [0, 3, 4, 6, 7, 11, 16]), (3, [0, 3, 4, 6, 7, 11, 16, 72, 73, 74])] := rfl
@[simp] theorem an_charge_Dry_rets : an_charge_Dry.rets = some [10, 11, 12] := rfl
@[simp] theorem an_charge_Dry_keep : an_charge_Dry.keep = [0, 3, 4, 6, 7, 10, 11, 12, 13, 15, 16, 18, 19, 20, 21, 37, 38, 39, 72, 73, 74] := rfl
@[simp] theorem an_charge_Dry_cond : an_charge_Dry.cond = [27, 35, 40, 50, 66, 75, 95] := rfl
@[simp] theorem an_charge_Dry_rows : an_charge_Dry.rows = [16] := rfl
@[simp] theorem an_charge_Dry_loops : an_charge_Dry.loops = [(7, [0, 3, 4, 6, 7, 11, 37, 38, 39]), (16, [0, 3, 4, 6, 7, 11, 16, 72, 73, 74])] := rfl
@[simp] theorem an_charge_Dry_ecalls : an_charge_Dry.ecalls = [(31, false), (32, false)] := rfl
@[simp] theorem an_charge_Dry_crows : an_charge_Dry.crows = [] := rfl
@[simp] theorem an_charge_Dry_tails : an_charge_Dry.tails = [] := rfl
@[simp] noncomputable def cl_charge_Dry : List (Nat × (List D → Option D)) := [(29, F_charge_Check), (30, F_charge_thickness), (33, F_charge_dried), (34, F_kiln_Kiln_Items)]
@[simp] noncomputable def ce_charge_Dry : List (Nat × (List (Nat × O) → List D → Option (D × List (Nat × O)))) := [(31, E_kiln_New), (32, E_charge_run)]
noncomputable def c_charge_Dry : CT := ⟨callOf (cl_charge_Dry ), callOfE ce_charge_Dry, gl⟩
@[simp] theorem c_charge_Dry_p (f : FuncId) (ds : List D) : c_charge_Dry.p f ds = callOf (cl_charge_Dry ) f ds := Eq.trans rfl rfl
@[simp] theorem c_charge_Dry_e (f : FuncId) (hs : List (Nat × O)) (ds : List D) : c_charge_Dry.e f hs ds = callOfE ce_charge_Dry f hs ds := Eq.trans rfl rfl
@[simp] theorem c_charge_Dry_g (g : Nat) : c_charge_Dry.g g = gl g := Eq.trans rfl rfl
noncomputable def L_charge_Dry (i n : Nat) (s : St) : Option (E × St) := atN Tryd.prog c_charge_Dry an_charge_Dry 107 (bodyOf Tryd.f25) i n s
noncomputable def H_charge_Dry (n i : Nat) (s : St) : Option (E × St) := atH Tryd.prog c_charge_Dry an_charge_Dry 107 (bodyOf Tryd.f25) n i s
@[simp] theorem H_charge_Dry_eq (n i : Nat) (s : St) : H_charge_Dry n i s = L_charge_Dry i n (headOf (an_charge_Dry.loops.lookup i) s) := rfl
noncomputable def R_charge_Dry (i : Nat) (s : St) : Option (E × St) := stepL Tryd.prog c_charge_Dry an_charge_Dry 107 (bodyOf Tryd.f25) i s
theorem lok_charge_Dry : okLoops (bodyOf Tryd.f25) = true := by kernel_rfl
theorem L_charge_Dry_zero (i : Nat) (s : St) : L_charge_Dry i 0 s = none := rfl
theorem L_charge_Dry_succ (i n : Nat) (s : St) : L_charge_Dry i (n + 1) s = andThen (R_charge_Dry i s) (H_charge_Dry n i) := atN_succ lok_charge_Dry i n s
theorem R_charge_Dry_eq (i : Nat) (s : St) : R_charge_Dry i s = runS Tryd.prog c_charge_Dry (H_charge_Dry bigL) an_charge_Dry 107 (loopAt (bodyOf Tryd.f25) i) s := rfl
noncomputable def F_charge_Dry (ds : List D) : Option D := runF Tryd.prog c_charge_Dry an_charge_Dry 107 (bodyOf Tryd.f25) [.tmp 10, .cell 11 40, .tmp 12] ds
theorem F_charge_Dry_eq (ds : List D) : F_charge_Dry ds = runG Tryd.prog c_charge_Dry (H_charge_Dry bigL) an_charge_Dry 107 (bodyOf Tryd.f25) [.tmp 10, .cell 11 40, .tmp 12] ds := runG_eq lok_charge_Dry _ ds
theorem C_charge_Dry (ds : List D) (r : D) (h : F_charge_Dry ds = some r) : Contract Tryd.prog gl 25 ds r := contract_of mix Tryd.func25 rfl (by kernel_rfl) (by kernel_rfl) (by decide) (call := c_charge_Dry) ⟨callOf_ok cl_charge_Dry ⟨C_charge_Check, C_charge_thickness, C_charge_dried, C_kiln_Kiln_Items, trivial⟩, callOfE_ok ce_charge_Dry ⟨CE_kiln_New, CE_charge_run, trivial⟩⟩ h
-- sawmill/sawmilllaw40.dry: loops []; state: params 0..0, then [1, 2, 3, 4]
attribute [simp] Tryd.f14
noncomputable def an_law40_dry : Ann := ⟨[1, 2, 3, 4], [], [], [], [], some [2, 3, 4], [], [], [], []⟩
@[simp] theorem an_law40_dry_draws : an_law40_dry.draws = [] := rfl
@[simp] theorem an_law40_dry_exits : an_law40_dry.exits = [] := rfl
@[simp] theorem an_law40_dry_rets : an_law40_dry.rets = some [2, 3, 4] := rfl
@[simp] theorem an_law40_dry_keep : an_law40_dry.keep = [1, 2, 3, 4] := rfl
@[simp] theorem an_law40_dry_cond : an_law40_dry.cond = [] := rfl
@[simp] theorem an_law40_dry_rows : an_law40_dry.rows = [] := rfl
@[simp] theorem an_law40_dry_loops : an_law40_dry.loops = [] := rfl
@[simp] theorem an_law40_dry_ecalls : an_law40_dry.ecalls = [] := rfl
@[simp] theorem an_law40_dry_crows : an_law40_dry.crows = [] := rfl
@[simp] theorem an_law40_dry_tails : an_law40_dry.tails = [] := rfl
@[simp] noncomputable def cl_law40_dry : List (Nat × (List D → Option D)) := [(25, F_charge_Dry)]
@[simp] noncomputable def ce_law40_dry : List (Nat × (List (Nat × O) → List D → Option (D × List (Nat × O)))) := []
noncomputable def c_law40_dry : CT := ⟨callOf (cl_law40_dry ), callOfE ce_law40_dry, gl⟩
@[simp] theorem c_law40_dry_p (f : FuncId) (ds : List D) : c_law40_dry.p f ds = callOf (cl_law40_dry ) f ds := Eq.trans rfl rfl
@[simp] theorem c_law40_dry_e (f : FuncId) (hs : List (Nat × O)) (ds : List D) : c_law40_dry.e f hs ds = callOfE ce_law40_dry f hs ds := Eq.trans rfl rfl
@[simp] theorem c_law40_dry_g (g : Nat) : c_law40_dry.g g = gl g := Eq.trans rfl rfl
noncomputable def L_law40_dry (i n : Nat) (s : St) : Option (E × St) := atN Tryd.prog c_law40_dry an_law40_dry 19 (bodyOf Tryd.f14) i n s
noncomputable def H_law40_dry (n i : Nat) (s : St) : Option (E × St) := atH Tryd.prog c_law40_dry an_law40_dry 19 (bodyOf Tryd.f14) n i s
@[simp] theorem H_law40_dry_eq (n i : Nat) (s : St) : H_law40_dry n i s = L_law40_dry i n (headOf (an_law40_dry.loops.lookup i) s) := rfl
noncomputable def R_law40_dry (i : Nat) (s : St) : Option (E × St) := stepL Tryd.prog c_law40_dry an_law40_dry 19 (bodyOf Tryd.f14) i s
theorem lok_law40_dry : okLoops (bodyOf Tryd.f14) = true := by kernel_rfl
noncomputable def F_law40_dry (ds : List D) : Option D := runF Tryd.prog c_law40_dry an_law40_dry 19 (bodyOf Tryd.f14) [.tmp 2, .cell 3 40, .tmp 4] ds
theorem F_law40_dry_eq (ds : List D) : F_law40_dry ds = runG Tryd.prog c_law40_dry (H_law40_dry bigL) an_law40_dry 19 (bodyOf Tryd.f14) [.tmp 2, .cell 3 40, .tmp 4] ds := runG_eq lok_law40_dry _ ds
theorem C_law40_dry (ds : List D) (r : D) (h : F_law40_dry ds = some r) : Contract Tryd.prog gl 14 ds r := contract_of mix Tryd.func14 rfl (by kernel_rfl) (by kernel_rfl) (by decide) (call := c_law40_dry) ⟨callOf_ok cl_law40_dry ⟨C_charge_Dry, trivial⟩, callOfE_ok ce_law40_dry trivial⟩ h
-- sawmill/charge.Safe: loops []; state: params 0..1, then [2, 3, 4]
attribute [simp] Tryd.f17
noncomputable def an_charge_Safe : Ann := ⟨[2, 3, 4], [], [], [], [], some [4], [], [], [], []⟩
@[simp] theorem an_charge_Safe_draws : an_charge_Safe.draws = [] := rfl
@[simp] theorem an_charge_Safe_exits : an_charge_Safe.exits = [] := rfl
@[simp] theorem an_charge_Safe_rets : an_charge_Safe.rets = some [4] := rfl
@[simp] theorem an_charge_Safe_keep : an_charge_Safe.keep = [2, 3, 4] := rfl
@[simp] theorem an_charge_Safe_cond : an_charge_Safe.cond = [] := rfl
@[simp] theorem an_charge_Safe_rows : an_charge_Safe.rows = [] := rfl
@[simp] theorem an_charge_Safe_loops : an_charge_Safe.loops = [] := rfl
@[simp] theorem an_charge_Safe_ecalls : an_charge_Safe.ecalls = [] := rfl
@[simp] theorem an_charge_Safe_crows : an_charge_Safe.crows = [] := rfl
@[simp] theorem an_charge_Safe_tails : an_charge_Safe.tails = [] := rfl
@[simp] noncomputable def cl_charge_Safe : List (Nat × (List D → Option D)) := []
@[simp] noncomputable def ce_charge_Safe : List (Nat × (List (Nat × O) → List D → Option (D × List (Nat × O)))) := []
noncomputable def c_charge_Safe : CT := ⟨callOf (cl_charge_Safe ), callOfE ce_charge_Safe, gl⟩
@[simp] theorem c_charge_Safe_p (f : FuncId) (ds : List D) : c_charge_Safe.p f ds = callOf (cl_charge_Safe ) f ds := Eq.trans rfl rfl
@[simp] theorem c_charge_Safe_e (f : FuncId) (hs : List (Nat × O)) (ds : List D) : c_charge_Safe.e f hs ds = callOfE ce_charge_Safe f hs ds := Eq.trans rfl rfl
@[simp] theorem c_charge_Safe_g (g : Nat) : c_charge_Safe.g g = gl g := Eq.trans rfl rfl
noncomputable def L_charge_Safe (i n : Nat) (s : St) : Option (E × St) := atN Tryd.prog c_charge_Safe an_charge_Safe 26 (bodyOf Tryd.f17) i n s
noncomputable def H_charge_Safe (n i : Nat) (s : St) : Option (E × St) := atH Tryd.prog c_charge_Safe an_charge_Safe 26 (bodyOf Tryd.f17) n i s
@[simp] theorem H_charge_Safe_eq (n i : Nat) (s : St) : H_charge_Safe n i s = L_charge_Safe i n (headOf (an_charge_Safe.loops.lookup i) s) := rfl
noncomputable def R_charge_Safe (i : Nat) (s : St) : Option (E × St) := stepL Tryd.prog c_charge_Safe an_charge_Safe 26 (bodyOf Tryd.f17) i s
theorem lok_charge_Safe : okLoops (bodyOf Tryd.f17) = true := by kernel_rfl
noncomputable def F_charge_Safe (ds : List D) : Option D := runF Tryd.prog c_charge_Safe an_charge_Safe 26 (bodyOf Tryd.f17) [.tmp 4] ds
theorem F_charge_Safe_eq (ds : List D) : F_charge_Safe ds = runG Tryd.prog c_charge_Safe (H_charge_Safe bigL) an_charge_Safe 26 (bodyOf Tryd.f17) [.tmp 4] ds := runG_eq lok_charge_Safe _ ds
theorem C_charge_Safe (ds : List D) (r : D) (h : F_charge_Safe ds = some r) : Contract Tryd.prog gl 17 ds r := contract_of mix Tryd.func17 rfl (by kernel_rfl) (by kernel_rfl) (by decide) (call := c_charge_Safe) ⟨callOf_ok cl_charge_Safe trivial, callOfE_ok ce_charge_Safe trivial⟩ h
-- sawmill/sawmillref40.SameInts: loops [4]; state: params 0..1, then [4, 5]
attribute [simp] Tryd.f10
noncomputable def an_ref40_SameInts : Ann := ⟨[0, 1, 4, 5], [10, 14, 25], [], [(4, [0, 1, 5])], [(0, []), (1, [0, 1, 5])], some [4], [(6, 8)], [], [], []⟩
@[simp] theorem an_ref40_SameInts_draws : an_ref40_SameInts.draws = [(6, 8)] := rfl
@[simp] theorem an_ref40_SameInts_exits : an_ref40_SameInts.exits = [(0, []), (1, [0, 1, 5])] := rfl
@[simp] theorem an_ref40_SameInts_rets : an_ref40_SameInts.rets = some [4] := rfl
@[simp] theorem an_ref40_SameInts_keep : an_ref40_SameInts.keep = [0, 1, 4, 5] := rfl
@[simp] theorem an_ref40_SameInts_cond : an_ref40_SameInts.cond = [10, 14, 25] := rfl
@[simp] theorem an_ref40_SameInts_rows : an_ref40_SameInts.rows = [] := rfl
@[simp] theorem an_ref40_SameInts_loops : an_ref40_SameInts.loops = [(4, [0, 1, 5])] := rfl
@[simp] theorem an_ref40_SameInts_ecalls : an_ref40_SameInts.ecalls = [] := rfl
@[simp] theorem an_ref40_SameInts_crows : an_ref40_SameInts.crows = [] := rfl
@[simp] theorem an_ref40_SameInts_tails : an_ref40_SameInts.tails = [] := rfl
@[simp] noncomputable def cl_ref40_SameInts : List (Nat × (List D → Option D)) := []
@[simp] noncomputable def ce_ref40_SameInts : List (Nat × (List (Nat × O) → List D → Option (D × List (Nat × O)))) := []
noncomputable def c_ref40_SameInts : CT := ⟨callOf (cl_ref40_SameInts ), callOfE ce_ref40_SameInts, gl⟩
@[simp] theorem c_ref40_SameInts_p (f : FuncId) (ds : List D) : c_ref40_SameInts.p f ds = callOf (cl_ref40_SameInts ) f ds := Eq.trans rfl rfl
@[simp] theorem c_ref40_SameInts_e (f : FuncId) (hs : List (Nat × O)) (ds : List D) : c_ref40_SameInts.e f hs ds = callOfE ce_ref40_SameInts f hs ds := Eq.trans rfl rfl
@[simp] theorem c_ref40_SameInts_g (g : Nat) : c_ref40_SameInts.g g = gl g := Eq.trans rfl rfl
noncomputable def L_ref40_SameInts (i n : Nat) (s : St) : Option (E × St) := atN Tryd.prog c_ref40_SameInts an_ref40_SameInts 26 (bodyOf Tryd.f10) i n s
noncomputable def H_ref40_SameInts (n i : Nat) (s : St) : Option (E × St) := atH Tryd.prog c_ref40_SameInts an_ref40_SameInts 26 (bodyOf Tryd.f10) n i s
@[simp] theorem H_ref40_SameInts_eq (n i : Nat) (s : St) : H_ref40_SameInts n i s = L_ref40_SameInts i n (headOf (an_ref40_SameInts.loops.lookup i) s) := rfl
noncomputable def R_ref40_SameInts (i : Nat) (s : St) : Option (E × St) := stepL Tryd.prog c_ref40_SameInts an_ref40_SameInts 26 (bodyOf Tryd.f10) i s
theorem lok_ref40_SameInts : okLoops (bodyOf Tryd.f10) = true := by kernel_rfl
theorem L_ref40_SameInts_zero (i : Nat) (s : St) : L_ref40_SameInts i 0 s = none := rfl
theorem L_ref40_SameInts_succ (i n : Nat) (s : St) : L_ref40_SameInts i (n + 1) s = andThen (R_ref40_SameInts i s) (H_ref40_SameInts n i) := atN_succ lok_ref40_SameInts i n s
theorem R_ref40_SameInts_eq (i : Nat) (s : St) : R_ref40_SameInts i s = runS Tryd.prog c_ref40_SameInts (H_ref40_SameInts bigL) an_ref40_SameInts 26 (loopAt (bodyOf Tryd.f10) i) s := rfl
noncomputable def F_ref40_SameInts (ds : List D) : Option D := runF Tryd.prog c_ref40_SameInts an_ref40_SameInts 26 (bodyOf Tryd.f10) [.tmp 4] ds
theorem F_ref40_SameInts_eq (ds : List D) : F_ref40_SameInts ds = runG Tryd.prog c_ref40_SameInts (H_ref40_SameInts bigL) an_ref40_SameInts 26 (bodyOf Tryd.f10) [.tmp 4] ds := runG_eq lok_ref40_SameInts _ ds
theorem C_ref40_SameInts (ds : List D) (r : D) (h : F_ref40_SameInts ds = some r) : Contract Tryd.prog gl 10 ds r := contract_of mix Tryd.func10 rfl (by kernel_rfl) (by kernel_rfl) (by decide) (call := c_ref40_SameInts) ⟨callOf_ok cl_ref40_SameInts trivial, callOfE_ok ce_ref40_SameInts trivial⟩ h
-- sawmill/sawmilllaw40.sample, weakened: loops []
noncomputable def WF_law40_sample (ds : List D) : Option D := weakF F_law40_sample ds
theorem WF_law40_sample_eq (ds : List D) : WF_law40_sample ds = (F_law40_sample ds).map weakD := Eq.trans rfl rfl
theorem WC_law40_sample (ds : List D) (r : D) (h : WF_law40_sample ds = some r) : Contract Tryd.prog gl 19 ds r := weakF_ok C_law40_sample ds r h
-- sawmill/sawmilllaw40.awake: loops []; state: params 0..-1, then [0, 1, 2, 3, 4, 5, 6, 7, 8]
attribute [simp] Tryd.f9
noncomputable def an_law40_awake : Ann := ⟨[0, 1, 2, 3, 4, 5, 6, 7, 8], [42], [], [], [], some [0], [], [], [], []⟩
@[simp] theorem an_law40_awake_draws : an_law40_awake.draws = [] := rfl
@[simp] theorem an_law40_awake_exits : an_law40_awake.exits = [] := rfl
@[simp] theorem an_law40_awake_rets : an_law40_awake.rets = some [0] := rfl
@[simp] theorem an_law40_awake_keep : an_law40_awake.keep = [0, 1, 2, 3, 4, 5, 6, 7, 8] := rfl
@[simp] theorem an_law40_awake_cond : an_law40_awake.cond = [42] := rfl
@[simp] theorem an_law40_awake_rows : an_law40_awake.rows = [] := rfl
@[simp] theorem an_law40_awake_loops : an_law40_awake.loops = [] := rfl
@[simp] theorem an_law40_awake_ecalls : an_law40_awake.ecalls = [] := rfl
@[simp] theorem an_law40_awake_crows : an_law40_awake.crows = [] := rfl
@[simp] theorem an_law40_awake_tails : an_law40_awake.tails = [] := rfl
@[simp] noncomputable def cl_law40_awake : List (Nat × (List D → Option D)) := [(10, F_ref40_SameInts), (11, F_charge_At), (14, F_law40_dry), (17, F_charge_Safe), (19, WF_law40_sample)]
@[simp] noncomputable def ce_law40_awake : List (Nat × (List (Nat × O) → List D → Option (D × List (Nat × O)))) := []
noncomputable def c_law40_awake : CT := ⟨callOf (cl_law40_awake ), callOfE ce_law40_awake, gl⟩
@[simp] theorem c_law40_awake_p (f : FuncId) (ds : List D) : c_law40_awake.p f ds = callOf (cl_law40_awake ) f ds := Eq.trans rfl rfl
@[simp] theorem c_law40_awake_e (f : FuncId) (hs : List (Nat × O)) (ds : List D) : c_law40_awake.e f hs ds = callOfE ce_law40_awake f hs ds := Eq.trans rfl rfl
@[simp] theorem c_law40_awake_g (g : Nat) : c_law40_awake.g g = gl g := Eq.trans rfl rfl
noncomputable def L_law40_awake (i n : Nat) (s : St) : Option (E × St) := atN Tryd.prog c_law40_awake an_law40_awake 97 (bodyOf Tryd.f9) i n s
noncomputable def H_law40_awake (n i : Nat) (s : St) : Option (E × St) := atH Tryd.prog c_law40_awake an_law40_awake 97 (bodyOf Tryd.f9) n i s
@[simp] theorem H_law40_awake_eq (n i : Nat) (s : St) : H_law40_awake n i s = L_law40_awake i n (headOf (an_law40_awake.loops.lookup i) s) := rfl
noncomputable def R_law40_awake (i : Nat) (s : St) : Option (E × St) := stepL Tryd.prog c_law40_awake an_law40_awake 97 (bodyOf Tryd.f9) i s
theorem lok_law40_awake : okLoops (bodyOf Tryd.f9) = true := by kernel_rfl
noncomputable def F_law40_awake (ds : List D) : Option D := runF Tryd.prog c_law40_awake an_law40_awake 97 (bodyOf Tryd.f9) [.tmp 0] ds
theorem F_law40_awake_eq (ds : List D) : F_law40_awake ds = runG Tryd.prog c_law40_awake (H_law40_awake bigL) an_law40_awake 97 (bodyOf Tryd.f9) [.tmp 0] ds := runG_eq lok_law40_awake _ ds
theorem C_law40_awake (ds : List D) (r : D) (h : F_law40_awake ds = some r) : Contract Tryd.prog gl 9 ds r := contract_of mix Tryd.func9 rfl (by kernel_rfl) (by kernel_rfl) (by decide) (call := c_law40_awake) ⟨callOf_ok cl_law40_awake ⟨C_ref40_SameInts, C_charge_At, C_law40_dry, C_charge_Safe, WC_law40_sample, trivial⟩, callOfE_ok ce_law40_awake trivial⟩ h
-- sawmill/sawmillref40.has: loops [2]; state: params 0..2, then [6, 7]
attribute [simp] Tryd.f22
noncomputable def an_ref40_has : Ann := ⟨[0, 6, 7], [11, 38], [], [(2, [0, 1, 2, 7])], [(0, []), (1, [0, 1, 2, 7])], some [6], [], [], [], []⟩
@[simp] theorem an_ref40_has_draws : an_ref40_has.draws = [] := rfl
@[simp] theorem an_ref40_has_exits : an_ref40_has.exits = [(0, []), (1, [0, 1, 2, 7])] := rfl
@[simp] theorem an_ref40_has_rets : an_ref40_has.rets = some [6] := rfl
@[simp] theorem an_ref40_has_keep : an_ref40_has.keep = [0, 6, 7] := rfl
@[simp] theorem an_ref40_has_cond : an_ref40_has.cond = [11, 38] := rfl
@[simp] theorem an_ref40_has_rows : an_ref40_has.rows = [] := rfl
@[simp] theorem an_ref40_has_loops : an_ref40_has.loops = [(2, [0, 1, 2, 7])] := rfl
@[simp] theorem an_ref40_has_ecalls : an_ref40_has.ecalls = [] := rfl
@[simp] theorem an_ref40_has_crows : an_ref40_has.crows = [] := rfl
@[simp] theorem an_ref40_has_tails : an_ref40_has.tails = [] := rfl
@[simp] noncomputable def cl_ref40_has : List (Nat × (List D → Option D)) := []
@[simp] noncomputable def ce_ref40_has : List (Nat × (List (Nat × O) → List D → Option (D × List (Nat × O)))) := []
noncomputable def c_ref40_has : CT := ⟨callOf (cl_ref40_has ), callOfE ce_ref40_has, gl⟩
@[simp] theorem c_ref40_has_p (f : FuncId) (ds : List D) : c_ref40_has.p f ds = callOf (cl_ref40_has ) f ds := Eq.trans rfl rfl
@[simp] theorem c_ref40_has_e (f : FuncId) (hs : List (Nat × O)) (ds : List D) : c_ref40_has.e f hs ds = callOfE ce_ref40_has f hs ds := Eq.trans rfl rfl
@[simp] theorem c_ref40_has_g (g : Nat) : c_ref40_has.g g = gl g := Eq.trans rfl rfl
noncomputable def L_ref40_has (i n : Nat) (s : St) : Option (E × St) := atN Tryd.prog c_ref40_has an_ref40_has 39 (bodyOf Tryd.f22) i n s
noncomputable def H_ref40_has (n i : Nat) (s : St) : Option (E × St) := atH Tryd.prog c_ref40_has an_ref40_has 39 (bodyOf Tryd.f22) n i s
@[simp] theorem H_ref40_has_eq (n i : Nat) (s : St) : H_ref40_has n i s = L_ref40_has i n (headOf (an_ref40_has.loops.lookup i) s) := rfl
noncomputable def R_ref40_has (i : Nat) (s : St) : Option (E × St) := stepL Tryd.prog c_ref40_has an_ref40_has 39 (bodyOf Tryd.f22) i s
theorem lok_ref40_has : okLoops (bodyOf Tryd.f22) = true := by kernel_rfl
theorem L_ref40_has_zero (i : Nat) (s : St) : L_ref40_has i 0 s = none := rfl
theorem L_ref40_has_succ (i n : Nat) (s : St) : L_ref40_has i (n + 1) s = andThen (R_ref40_has i s) (H_ref40_has n i) := atN_succ lok_ref40_has i n s
theorem R_ref40_has_eq (i : Nat) (s : St) : R_ref40_has i s = runS Tryd.prog c_ref40_has (H_ref40_has bigL) an_ref40_has 39 (loopAt (bodyOf Tryd.f22) i) s := rfl
noncomputable def F_ref40_has (ds : List D) : Option D := runF Tryd.prog c_ref40_has an_ref40_has 39 (bodyOf Tryd.f22) [.tmp 6] ds
theorem F_ref40_has_eq (ds : List D) : F_ref40_has ds = runG Tryd.prog c_ref40_has (H_ref40_has bigL) an_ref40_has 39 (bodyOf Tryd.f22) [.tmp 6] ds := runG_eq lok_ref40_has _ ds
theorem C_ref40_has (ds : List D) (r : D) (h : F_ref40_has ds = some r) : Contract Tryd.prog gl 22 ds r := contract_of mix Tryd.func22 rfl (by kernel_rfl) (by kernel_rfl) (by decide) (call := c_ref40_has) ⟨callOf_ok cl_ref40_has trivial, callOfE_ok ce_ref40_has trivial⟩ h
-- sawmill/sawmillref40.add: loops [4]; state: params 0..1, then [4, 5, 6, 7]
attribute [simp] Tryd.f23
noncomputable def an_ref40_add : Ann := ⟨[0, 1, 4, 5, 6, 7], [11, 23, 29, 42], [5], [(4, [0, 1, 5, 6, 7])], [(0, [1, 5, 6]), (1, [0, 1, 5, 6, 7])], some [4], [], [], [], []⟩
@[simp] theorem an_ref40_add_draws : an_ref40_add.draws = [] := rfl
@[simp] theorem an_ref40_add_exits : an_ref40_add.exits = [(0, [1, 5, 6]), (1, [0, 1, 5, 6, 7])] := rfl
@[simp] theorem an_ref40_add_rets : an_ref40_add.rets = some [4] := rfl
@[simp] theorem an_ref40_add_keep : an_ref40_add.keep = [0, 1, 4, 5, 6, 7] := rfl
@[simp] theorem an_ref40_add_cond : an_ref40_add.cond = [11, 23, 29, 42] := rfl
@[simp] theorem an_ref40_add_rows : an_ref40_add.rows = [5] := rfl
@[simp] theorem an_ref40_add_loops : an_ref40_add.loops = [(4, [0, 1, 5, 6, 7])] := rfl
@[simp] theorem an_ref40_add_ecalls : an_ref40_add.ecalls = [] := rfl
@[simp] theorem an_ref40_add_crows : an_ref40_add.crows = [] := rfl
@[simp] theorem an_ref40_add_tails : an_ref40_add.tails = [] := rfl
@[simp] noncomputable def cl_ref40_add : List (Nat × (List D → Option D)) := []
@[simp] noncomputable def ce_ref40_add : List (Nat × (List (Nat × O) → List D → Option (D × List (Nat × O)))) := []
noncomputable def c_ref40_add : CT := ⟨callOf (cl_ref40_add ), callOfE ce_ref40_add, gl⟩
@[simp] theorem c_ref40_add_p (f : FuncId) (ds : List D) : c_ref40_add.p f ds = callOf (cl_ref40_add ) f ds := Eq.trans rfl rfl
@[simp] theorem c_ref40_add_e (f : FuncId) (hs : List (Nat × O)) (ds : List D) : c_ref40_add.e f hs ds = callOfE ce_ref40_add f hs ds := Eq.trans rfl rfl
@[simp] theorem c_ref40_add_g (g : Nat) : c_ref40_add.g g = gl g := Eq.trans rfl rfl
noncomputable def L_ref40_add (i n : Nat) (s : St) : Option (E × St) := atN Tryd.prog c_ref40_add an_ref40_add 48 (bodyOf Tryd.f23) i n s
noncomputable def H_ref40_add (n i : Nat) (s : St) : Option (E × St) := atH Tryd.prog c_ref40_add an_ref40_add 48 (bodyOf Tryd.f23) n i s
@[simp] theorem H_ref40_add_eq (n i : Nat) (s : St) : H_ref40_add n i s = L_ref40_add i n (headOf (an_ref40_add.loops.lookup i) s) := rfl
noncomputable def R_ref40_add (i : Nat) (s : St) : Option (E × St) := stepL Tryd.prog c_ref40_add an_ref40_add 48 (bodyOf Tryd.f23) i s
theorem lok_ref40_add : okLoops (bodyOf Tryd.f23) = true := by kernel_rfl
theorem L_ref40_add_zero (i : Nat) (s : St) : L_ref40_add i 0 s = none := rfl
theorem L_ref40_add_succ (i n : Nat) (s : St) : L_ref40_add i (n + 1) s = andThen (R_ref40_add i s) (H_ref40_add n i) := atN_succ lok_ref40_add i n s
theorem R_ref40_add_eq (i : Nat) (s : St) : R_ref40_add i s = runS Tryd.prog c_ref40_add (H_ref40_add bigL) an_ref40_add 48 (loopAt (bodyOf Tryd.f23) i) s := rfl
noncomputable def F_ref40_add (ds : List D) : Option D := runF Tryd.prog c_ref40_add an_ref40_add 48 (bodyOf Tryd.f23) [.tmp 4] ds
theorem F_ref40_add_eq (ds : List D) : F_ref40_add ds = runG Tryd.prog c_ref40_add (H_ref40_add bigL) an_ref40_add 48 (bodyOf Tryd.f23) [.tmp 4] ds := runG_eq lok_ref40_add _ ds
theorem C_ref40_add (ds : List D) (r : D) (h : F_ref40_add ds = some r) : Contract Tryd.prog gl 23 ds r := contract_of mix Tryd.func23 rfl (by kernel_rfl) (by kernel_rfl) (by decide) (call := c_ref40_add) ⟨callOf_ok cl_ref40_add trivial, callOfE_ok ce_ref40_add trivial⟩ h
-- sawmill/sawmillref40.At: loops [3]; state: params 0..1, then [4, 5, 6]
attribute [simp] Tryd.f12
noncomputable def an_ref40_At : Ann := ⟨[0, 4, 5, 6], [10, 24], [], [(3, [0, 1, 5, 6])], [(0, [5]), (1, [0, 1, 5, 6])], some [4], [(5, 11)], [], [], []⟩
@[simp] theorem an_ref40_At_draws : an_ref40_At.draws = [(5, 11)] := rfl
@[simp] theorem an_ref40_At_exits : an_ref40_At.exits = [(0, [5]), (1, [0, 1, 5, 6])] := rfl
@[simp] theorem an_ref40_At_rets : an_ref40_At.rets = some [4] := rfl
@[simp] theorem an_ref40_At_keep : an_ref40_At.keep = [0, 4, 5, 6] := rfl
@[simp] theorem an_ref40_At_cond : an_ref40_At.cond = [10, 24] := rfl
@[simp] theorem an_ref40_At_rows : an_ref40_At.rows = [] := rfl
@[simp] theorem an_ref40_At_loops : an_ref40_At.loops = [(3, [0, 1, 5, 6])] := rfl
@[simp] theorem an_ref40_At_ecalls : an_ref40_At.ecalls = [] := rfl
@[simp] theorem an_ref40_At_crows : an_ref40_At.crows = [] := rfl
@[simp] theorem an_ref40_At_tails : an_ref40_At.tails = [] := rfl
@[simp] noncomputable def cl_ref40_At : List (Nat × (List D → Option D)) := [(22, F_ref40_has), (23, F_ref40_add)]
@[simp] noncomputable def ce_ref40_At : List (Nat × (List (Nat × O) → List D → Option (D × List (Nat × O)))) := []
noncomputable def c_ref40_At : CT := ⟨callOf (cl_ref40_At ), callOfE ce_ref40_At, gl⟩
@[simp] theorem c_ref40_At_p (f : FuncId) (ds : List D) : c_ref40_At.p f ds = callOf (cl_ref40_At ) f ds := Eq.trans rfl rfl
@[simp] theorem c_ref40_At_e (f : FuncId) (hs : List (Nat × O)) (ds : List D) : c_ref40_At.e f hs ds = callOfE ce_ref40_At f hs ds := Eq.trans rfl rfl
@[simp] theorem c_ref40_At_g (g : Nat) : c_ref40_At.g g = gl g := Eq.trans rfl rfl
noncomputable def L_ref40_At (i n : Nat) (s : St) : Option (E × St) := atN Tryd.prog c_ref40_At an_ref40_At 33 (bodyOf Tryd.f12) i n s
noncomputable def H_ref40_At (n i : Nat) (s : St) : Option (E × St) := atH Tryd.prog c_ref40_At an_ref40_At 33 (bodyOf Tryd.f12) n i s
@[simp] theorem H_ref40_At_eq (n i : Nat) (s : St) : H_ref40_At n i s = L_ref40_At i n (headOf (an_ref40_At.loops.lookup i) s) := rfl
noncomputable def R_ref40_At (i : Nat) (s : St) : Option (E × St) := stepL Tryd.prog c_ref40_At an_ref40_At 33 (bodyOf Tryd.f12) i s
theorem lok_ref40_At : okLoops (bodyOf Tryd.f12) = true := by kernel_rfl
theorem L_ref40_At_zero (i : Nat) (s : St) : L_ref40_At i 0 s = none := rfl
theorem L_ref40_At_succ (i n : Nat) (s : St) : L_ref40_At i (n + 1) s = andThen (R_ref40_At i s) (H_ref40_At n i) := atN_succ lok_ref40_At i n s
theorem R_ref40_At_eq (i : Nat) (s : St) : R_ref40_At i s = runS Tryd.prog c_ref40_At (H_ref40_At bigL) an_ref40_At 33 (loopAt (bodyOf Tryd.f12) i) s := rfl
noncomputable def F_ref40_At (ds : List D) : Option D := runF Tryd.prog c_ref40_At an_ref40_At 33 (bodyOf Tryd.f12) [.tmp 4] ds
theorem F_ref40_At_eq (ds : List D) : F_ref40_At ds = runG Tryd.prog c_ref40_At (H_ref40_At bigL) an_ref40_At 33 (bodyOf Tryd.f12) [.tmp 4] ds := runG_eq lok_ref40_At _ ds
theorem C_ref40_At (ds : List D) (r : D) (h : F_ref40_At ds = some r) : Contract Tryd.prog gl 12 ds r := contract_of mix Tryd.func12 rfl (by kernel_rfl) (by kernel_rfl) (by decide) (call := c_ref40_At) ⟨callOf_ok cl_ref40_At ⟨C_ref40_has, C_ref40_add, trivial⟩, callOfE_ok ce_ref40_At trivial⟩ h
-- sawmill/sawmilllaw40.ChargeFaults: loops []; state: params 0..1, then [4]
attribute [simp] Tryd.f3
noncomputable def an_law40_ChargeFaults : Ann := ⟨[0, 4], [7], [], [], [], some [4], [], [], [], []⟩
@[simp] theorem an_law40_ChargeFaults_draws : an_law40_ChargeFaults.draws = [] := rfl
@[simp] theorem an_law40_ChargeFaults_exits : an_law40_ChargeFaults.exits = [] := rfl
@[simp] theorem an_law40_ChargeFaults_rets : an_law40_ChargeFaults.rets = some [4] := rfl
@[simp] theorem an_law40_ChargeFaults_keep : an_law40_ChargeFaults.keep = [0, 4] := rfl
@[simp] theorem an_law40_ChargeFaults_cond : an_law40_ChargeFaults.cond = [7] := rfl
@[simp] theorem an_law40_ChargeFaults_rows : an_law40_ChargeFaults.rows = [] := rfl
@[simp] theorem an_law40_ChargeFaults_loops : an_law40_ChargeFaults.loops = [] := rfl
@[simp] theorem an_law40_ChargeFaults_ecalls : an_law40_ChargeFaults.ecalls = [] := rfl
@[simp] theorem an_law40_ChargeFaults_crows : an_law40_ChargeFaults.crows = [] := rfl
@[simp] theorem an_law40_ChargeFaults_tails : an_law40_ChargeFaults.tails = [] := rfl
@[simp] noncomputable def cl_law40_ChargeFaults : List (Nat × (List D → Option D)) := [(9, F_law40_awake), (10, F_ref40_SameInts), (11, F_charge_At), (12, F_ref40_At)]
@[simp] noncomputable def ce_law40_ChargeFaults : List (Nat × (List (Nat × O) → List D → Option (D × List (Nat × O)))) := []
noncomputable def c_law40_ChargeFaults : CT := ⟨callOf (cl_law40_ChargeFaults ), callOfE ce_law40_ChargeFaults, gl⟩
@[simp] theorem c_law40_ChargeFaults_p (f : FuncId) (ds : List D) : c_law40_ChargeFaults.p f ds = callOf (cl_law40_ChargeFaults ) f ds := Eq.trans rfl rfl
@[simp] theorem c_law40_ChargeFaults_e (f : FuncId) (hs : List (Nat × O)) (ds : List D) : c_law40_ChargeFaults.e f hs ds = callOfE ce_law40_ChargeFaults f hs ds := Eq.trans rfl rfl
@[simp] theorem c_law40_ChargeFaults_g (g : Nat) : c_law40_ChargeFaults.g g = gl g := Eq.trans rfl rfl
noncomputable def L_law40_ChargeFaults (i n : Nat) (s : St) : Option (E × St) := atN Tryd.prog c_law40_ChargeFaults an_law40_ChargeFaults 19 (bodyOf Tryd.f3) i n s
noncomputable def H_law40_ChargeFaults (n i : Nat) (s : St) : Option (E × St) := atH Tryd.prog c_law40_ChargeFaults an_law40_ChargeFaults 19 (bodyOf Tryd.f3) n i s
@[simp] theorem H_law40_ChargeFaults_eq (n i : Nat) (s : St) : H_law40_ChargeFaults n i s = L_law40_ChargeFaults i n (headOf (an_law40_ChargeFaults.loops.lookup i) s) := rfl
noncomputable def R_law40_ChargeFaults (i : Nat) (s : St) : Option (E × St) := stepL Tryd.prog c_law40_ChargeFaults an_law40_ChargeFaults 19 (bodyOf Tryd.f3) i s
theorem lok_law40_ChargeFaults : okLoops (bodyOf Tryd.f3) = true := by kernel_rfl
noncomputable def F_law40_ChargeFaults (ds : List D) : Option D := runF Tryd.prog c_law40_ChargeFaults an_law40_ChargeFaults 19 (bodyOf Tryd.f3) [.tmp 4] ds
theorem F_law40_ChargeFaults_eq (ds : List D) : F_law40_ChargeFaults ds = runG Tryd.prog c_law40_ChargeFaults (H_law40_ChargeFaults bigL) an_law40_ChargeFaults 19 (bodyOf Tryd.f3) [.tmp 4] ds := runG_eq lok_law40_ChargeFaults _ ds
theorem C_law40_ChargeFaults (ds : List D) (r : D) (h : F_law40_ChargeFaults ds = some r) : Contract Tryd.prog gl 3 ds r := contract_of mix Tryd.func3 rfl (by kernel_rfl) (by kernel_rfl) (by decide) (call := c_law40_ChargeFaults) ⟨callOf_ok cl_law40_ChargeFaults ⟨C_law40_awake, C_ref40_SameInts, C_charge_At, C_ref40_At, trivial⟩, callOfE_ok ce_law40_ChargeFaults trivial⟩ h
-- sawmill/sawmilllaw40.few: loops [5]; state: params 0..0, then [1, 2, 3, 4]
attribute [simp] Tryd.f24
noncomputable def an_law40_few : Ann := ⟨[1, 2, 3, 4], [35, 40, 80], [], [(5, [1, 3, 4])], [(0, [3]), (1, [1, 3, 4])], some [2], [], [], [], []⟩
@[simp] theorem an_law40_few_draws : an_law40_few.draws = [] := rfl
@[simp] theorem an_law40_few_exits : an_law40_few.exits = [(0, [3]), (1, [1, 3, 4])] := rfl
@[simp] theorem an_law40_few_rets : an_law40_few.rets = some [2] := rfl
@[simp] theorem an_law40_few_keep : an_law40_few.keep = [1, 2, 3, 4] := rfl
@[simp] theorem an_law40_few_cond : an_law40_few.cond = [35, 40, 80] := rfl
@[simp] theorem an_law40_few_rows : an_law40_few.rows = [] := rfl
@[simp] theorem an_law40_few_loops : an_law40_few.loops = [(5, [1, 3, 4])] := rfl
@[simp] theorem an_law40_few_ecalls : an_law40_few.ecalls = [] := rfl
@[simp] theorem an_law40_few_crows : an_law40_few.crows = [] := rfl
@[simp] theorem an_law40_few_tails : an_law40_few.tails = [] := rfl
@[simp] noncomputable def cl_law40_few : List (Nat × (List D → Option D)) := []
@[simp] noncomputable def ce_law40_few : List (Nat × (List (Nat × O) → List D → Option (D × List (Nat × O)))) := []
noncomputable def c_law40_few : CT := ⟨callOf (cl_law40_few ), callOfE ce_law40_few, gl⟩
@[simp] theorem c_law40_few_p (f : FuncId) (ds : List D) : c_law40_few.p f ds = callOf (cl_law40_few ) f ds := Eq.trans rfl rfl
@[simp] theorem c_law40_few_e (f : FuncId) (hs : List (Nat × O)) (ds : List D) : c_law40_few.e f hs ds = callOfE ce_law40_few f hs ds := Eq.trans rfl rfl
@[simp] theorem c_law40_few_g (g : Nat) : c_law40_few.g g = gl g := Eq.trans rfl rfl
noncomputable def L_law40_few (i n : Nat) (s : St) : Option (E × St) := atN Tryd.prog c_law40_few an_law40_few 92 (bodyOf Tryd.f24) i n s
noncomputable def H_law40_few (n i : Nat) (s : St) : Option (E × St) := atH Tryd.prog c_law40_few an_law40_few 92 (bodyOf Tryd.f24) n i s
@[simp] theorem H_law40_few_eq (n i : Nat) (s : St) : H_law40_few n i s = L_law40_few i n (headOf (an_law40_few.loops.lookup i) s) := rfl
noncomputable def R_law40_few (i : Nat) (s : St) : Option (E × St) := stepL Tryd.prog c_law40_few an_law40_few 92 (bodyOf Tryd.f24) i s
theorem lok_law40_few : okLoops (bodyOf Tryd.f24) = true := by kernel_rfl
theorem L_law40_few_zero (i : Nat) (s : St) : L_law40_few i 0 s = none := rfl
theorem L_law40_few_succ (i n : Nat) (s : St) : L_law40_few i (n + 1) s = andThen (R_law40_few i s) (H_law40_few n i) := atN_succ lok_law40_few i n s
theorem R_law40_few_eq (i : Nat) (s : St) : R_law40_few i s = runS Tryd.prog c_law40_few (H_law40_few bigL) an_law40_few 92 (loopAt (bodyOf Tryd.f24) i) s := rfl
noncomputable def F_law40_few (ds : List D) : Option D := runF Tryd.prog c_law40_few an_law40_few 92 (bodyOf Tryd.f24) [.tmp 2] ds
theorem F_law40_few_eq (ds : List D) : F_law40_few ds = runG Tryd.prog c_law40_few (H_law40_few bigL) an_law40_few 92 (bodyOf Tryd.f24) [.tmp 2] ds := runG_eq lok_law40_few _ ds
theorem C_law40_few (ds : List D) (r : D) (h : F_law40_few ds = some r) : Contract Tryd.prog gl 24 ds r := contract_of mix Tryd.func24 rfl (by kernel_rfl) (by kernel_rfl) (by decide) (call := c_law40_few) ⟨callOf_ok cl_law40_few trivial, callOfE_ok ce_law40_few trivial⟩ h
-- sawmill/sawmilllaw40.light: loops []; state: params 0..0, then [1, 2]
attribute [simp] Tryd.f13
noncomputable def an_law40_light : Ann := ⟨[1, 2], [], [], [], [], some [2], [], [], [], []⟩
@[simp] theorem an_law40_light_draws : an_law40_light.draws = [] := rfl
@[simp] theorem an_law40_light_exits : an_law40_light.exits = [] := rfl
@[simp] theorem an_law40_light_rets : an_law40_light.rets = some [2] := rfl
@[simp] theorem an_law40_light_keep : an_law40_light.keep = [1, 2] := rfl
@[simp] theorem an_law40_light_cond : an_law40_light.cond = [] := rfl
@[simp] theorem an_law40_light_rows : an_law40_light.rows = [] := rfl
@[simp] theorem an_law40_light_loops : an_law40_light.loops = [] := rfl
@[simp] theorem an_law40_light_ecalls : an_law40_light.ecalls = [] := rfl
@[simp] theorem an_law40_light_crows : an_law40_light.crows = [] := rfl
@[simp] theorem an_law40_light_tails : an_law40_light.tails = [] := rfl
@[simp] noncomputable def cl_law40_light : List (Nat × (List D → Option D)) := [(24, F_law40_few)]
@[simp] noncomputable def ce_law40_light : List (Nat × (List (Nat × O) → List D → Option (D × List (Nat × O)))) := []
noncomputable def c_law40_light : CT := ⟨callOf (cl_law40_light ), callOfE ce_law40_light, gl⟩
@[simp] theorem c_law40_light_p (f : FuncId) (ds : List D) : c_law40_light.p f ds = callOf (cl_law40_light ) f ds := Eq.trans rfl rfl
@[simp] theorem c_law40_light_e (f : FuncId) (hs : List (Nat × O)) (ds : List D) : c_law40_light.e f hs ds = callOfE ce_law40_light f hs ds := Eq.trans rfl rfl
@[simp] theorem c_law40_light_g (g : Nat) : c_law40_light.g g = gl g := Eq.trans rfl rfl
noncomputable def L_law40_light (i n : Nat) (s : St) : Option (E × St) := atN Tryd.prog c_law40_light an_law40_light 21 (bodyOf Tryd.f13) i n s
noncomputable def H_law40_light (n i : Nat) (s : St) : Option (E × St) := atH Tryd.prog c_law40_light an_law40_light 21 (bodyOf Tryd.f13) n i s
@[simp] theorem H_law40_light_eq (n i : Nat) (s : St) : H_law40_light n i s = L_law40_light i n (headOf (an_law40_light.loops.lookup i) s) := rfl
noncomputable def R_law40_light (i : Nat) (s : St) : Option (E × St) := stepL Tryd.prog c_law40_light an_law40_light 21 (bodyOf Tryd.f13) i s
theorem lok_law40_light : okLoops (bodyOf Tryd.f13) = true := by kernel_rfl
noncomputable def F_law40_light (ds : List D) : Option D := runF Tryd.prog c_law40_light an_law40_light 21 (bodyOf Tryd.f13) [.tmp 2] ds
theorem F_law40_light_eq (ds : List D) : F_law40_light ds = runG Tryd.prog c_law40_light (H_law40_light bigL) an_law40_light 21 (bodyOf Tryd.f13) [.tmp 2] ds := runG_eq lok_law40_light _ ds
theorem C_law40_light (ds : List D) (r : D) (h : F_law40_light ds = some r) : Contract Tryd.prog gl 13 ds r := contract_of mix Tryd.func13 rfl (by kernel_rfl) (by kernel_rfl) (by decide) (call := c_law40_light) ⟨callOf_ok cl_law40_light ⟨C_law40_few, trivial⟩, callOfE_ok ce_law40_light trivial⟩ h
-- sawmill/sawmilllaw40.ChargeLimits: loops [8, 14]; state: params 0..0, then [1, 2, 3, 4, 5, 6, 7, 8]
attribute [simp] Tryd.f4
noncomputable def an_law40_ChargeLimits : Ann := ⟨[1, 2, 3, 4, 5, 6, 7, 8], [11, 20, 39, 72, 76, 96], [], [(8, [1, 3, 4, 6, 7]), (14, [1, 3, 4, 8])], [(0, [1, 3, 4, 6]), (1, [1, 3, 4, 6, 7]), (2, [1, 4]), (3, [1, 3, 4, 8])], some [2], [(16, 12), (18, 10)], [], [], []⟩
@[simp] theorem an_law40_ChargeLimits_draws : an_law40_ChargeLimits.draws = [(16, 12), (18, 10)] := rfl
@[simp] theorem an_law40_ChargeLimits_exits : an_law40_ChargeLimits.exits = [(0, [1, 3, 4, 6]), (1, [1, 3, 4, 6, 7]), (2, [1, 4]), (3, [1, 3, 4, 8])] := rfl
@[simp] theorem an_law40_ChargeLimits_rets : an_law40_ChargeLimits.rets = some [2] := rfl
@[simp] theorem an_law40_ChargeLimits_keep : an_law40_ChargeLimits.keep = [1, 2, 3, 4, 5, 6, 7, 8] := rfl
@[simp] theorem an_law40_ChargeLimits_cond : an_law40_ChargeLimits.cond = [11, 20, 39, 72, 76, 96] := rfl
@[simp] theorem an_law40_ChargeLimits_rows : an_law40_ChargeLimits.rows = [] := rfl
@[simp] theorem an_law40_ChargeLimits_loops : an_law40_ChargeLimits.loops = [(8, [1, 3, 4, 6, 7]), (14, [1, 3, 4, 8])] := rfl
@[simp] theorem an_law40_ChargeLimits_ecalls : an_law40_ChargeLimits.ecalls = [] := rfl
@[simp] theorem an_law40_ChargeLimits_crows : an_law40_ChargeLimits.crows = [] := rfl
@[simp] theorem an_law40_ChargeLimits_tails : an_law40_ChargeLimits.tails = [] := rfl
@[simp] noncomputable def cl_law40_ChargeLimits : List (Nat × (List D → Option D)) := [(9, F_law40_awake), (13, F_law40_light), (14, F_law40_dry), (15, F_moist_Gradient), (16, F_moist_Check), (17, F_charge_Safe)]
@[simp] noncomputable def ce_law40_ChargeLimits : List (Nat × (List (Nat × O) → List D → Option (D × List (Nat × O)))) := []
noncomputable def c_law40_ChargeLimits : CT := ⟨callOf (cl_law40_ChargeLimits ), callOfE ce_law40_ChargeLimits, gl⟩
@[simp] theorem c_law40_ChargeLimits_p (f : FuncId) (ds : List D) : c_law40_ChargeLimits.p f ds = callOf (cl_law40_ChargeLimits ) f ds := Eq.trans rfl rfl
@[simp] theorem c_law40_ChargeLimits_e (f : FuncId) (hs : List (Nat × O)) (ds : List D) : c_law40_ChargeLimits.e f hs ds = callOfE ce_law40_ChargeLimits f hs ds := Eq.trans rfl rfl
@[simp] theorem c_law40_ChargeLimits_g (g : Nat) : c_law40_ChargeLimits.g g = gl g := Eq.trans rfl rfl
noncomputable def L_law40_ChargeLimits (i n : Nat) (s : St) : Option (E × St) := atN Tryd.prog c_law40_ChargeLimits an_law40_ChargeLimits 111 (bodyOf Tryd.f4) i n s
noncomputable def H_law40_ChargeLimits (n i : Nat) (s : St) : Option (E × St) := atH Tryd.prog c_law40_ChargeLimits an_law40_ChargeLimits 111 (bodyOf Tryd.f4) n i s
@[simp] theorem H_law40_ChargeLimits_eq (n i : Nat) (s : St) : H_law40_ChargeLimits n i s = L_law40_ChargeLimits i n (headOf (an_law40_ChargeLimits.loops.lookup i) s) := rfl
noncomputable def R_law40_ChargeLimits (i : Nat) (s : St) : Option (E × St) := stepL Tryd.prog c_law40_ChargeLimits an_law40_ChargeLimits 111 (bodyOf Tryd.f4) i s
theorem lok_law40_ChargeLimits : okLoops (bodyOf Tryd.f4) = true := by kernel_rfl
theorem L_law40_ChargeLimits_zero (i : Nat) (s : St) : L_law40_ChargeLimits i 0 s = none := rfl
theorem L_law40_ChargeLimits_succ (i n : Nat) (s : St) : L_law40_ChargeLimits i (n + 1) s = andThen (R_law40_ChargeLimits i s) (H_law40_ChargeLimits n i) := atN_succ lok_law40_ChargeLimits i n s
theorem R_law40_ChargeLimits_eq (i : Nat) (s : St) : R_law40_ChargeLimits i s = runS Tryd.prog c_law40_ChargeLimits (H_law40_ChargeLimits bigL) an_law40_ChargeLimits 111 (loopAt (bodyOf Tryd.f4) i) s := rfl
noncomputable def F_law40_ChargeLimits (ds : List D) : Option D := runF Tryd.prog c_law40_ChargeLimits an_law40_ChargeLimits 111 (bodyOf Tryd.f4) [.tmp 2] ds
theorem F_law40_ChargeLimits_eq (ds : List D) : F_law40_ChargeLimits ds = runG Tryd.prog c_law40_ChargeLimits (H_law40_ChargeLimits bigL) an_law40_ChargeLimits 111 (bodyOf Tryd.f4) [.tmp 2] ds := runG_eq lok_law40_ChargeLimits _ ds
theorem C_law40_ChargeLimits (ds : List D) (r : D) (h : F_law40_ChargeLimits ds = some r) : Contract Tryd.prog gl 4 ds r := contract_of mix Tryd.func4 rfl (by kernel_rfl) (by kernel_rfl) (by decide) (call := c_law40_ChargeLimits) ⟨callOf_ok cl_law40_ChargeLimits ⟨C_law40_awake, C_law40_light, C_law40_dry, C_moist_Gradient, C_moist_Check, C_charge_Safe, trivial⟩, callOfE_ok ce_law40_ChargeLimits trivial⟩ h
-- sawmill/sawmillref40.sameDefects: loops [4]; state: params 0..1, then [4, 5]
attribute [simp] Tryd.f26
noncomputable def an_ref40_sameDefects : Ann := ⟨[0, 1, 4, 5], [10, 14, 25], [], [(4, [0, 1, 5])], [(0, []), (1, [0, 1, 5])], some [4], [(6, 8)], [], [], []⟩
@[simp] theorem an_ref40_sameDefects_draws : an_ref40_sameDefects.draws = [(6, 8)] := rfl
@[simp] theorem an_ref40_sameDefects_exits : an_ref40_sameDefects.exits = [(0, []), (1, [0, 1, 5])] := rfl
@[simp] theorem an_ref40_sameDefects_rets : an_ref40_sameDefects.rets = some [4] := rfl
@[simp] theorem an_ref40_sameDefects_keep : an_ref40_sameDefects.keep = [0, 1, 4, 5] := rfl
@[simp] theorem an_ref40_sameDefects_cond : an_ref40_sameDefects.cond = [10, 14, 25] := rfl
@[simp] theorem an_ref40_sameDefects_rows : an_ref40_sameDefects.rows = [] := rfl
@[simp] theorem an_ref40_sameDefects_loops : an_ref40_sameDefects.loops = [(4, [0, 1, 5])] := rfl
@[simp] theorem an_ref40_sameDefects_ecalls : an_ref40_sameDefects.ecalls = [] := rfl
@[simp] theorem an_ref40_sameDefects_crows : an_ref40_sameDefects.crows = [] := rfl
@[simp] theorem an_ref40_sameDefects_tails : an_ref40_sameDefects.tails = [] := rfl
@[simp] noncomputable def cl_ref40_sameDefects : List (Nat × (List D → Option D)) := []
@[simp] noncomputable def ce_ref40_sameDefects : List (Nat × (List (Nat × O) → List D → Option (D × List (Nat × O)))) := []
noncomputable def c_ref40_sameDefects : CT := ⟨callOf (cl_ref40_sameDefects ), callOfE ce_ref40_sameDefects, gl⟩
@[simp] theorem c_ref40_sameDefects_p (f : FuncId) (ds : List D) : c_ref40_sameDefects.p f ds = callOf (cl_ref40_sameDefects ) f ds := Eq.trans rfl rfl
@[simp] theorem c_ref40_sameDefects_e (f : FuncId) (hs : List (Nat × O)) (ds : List D) : c_ref40_sameDefects.e f hs ds = callOfE ce_ref40_sameDefects f hs ds := Eq.trans rfl rfl
@[simp] theorem c_ref40_sameDefects_g (g : Nat) : c_ref40_sameDefects.g g = gl g := Eq.trans rfl rfl
noncomputable def L_ref40_sameDefects (i n : Nat) (s : St) : Option (E × St) := atN Tryd.prog c_ref40_sameDefects an_ref40_sameDefects 26 (bodyOf Tryd.f26) i n s
noncomputable def H_ref40_sameDefects (n i : Nat) (s : St) : Option (E × St) := atH Tryd.prog c_ref40_sameDefects an_ref40_sameDefects 26 (bodyOf Tryd.f26) n i s
@[simp] theorem H_ref40_sameDefects_eq (n i : Nat) (s : St) : H_ref40_sameDefects n i s = L_ref40_sameDefects i n (headOf (an_ref40_sameDefects.loops.lookup i) s) := rfl
noncomputable def R_ref40_sameDefects (i : Nat) (s : St) : Option (E × St) := stepL Tryd.prog c_ref40_sameDefects an_ref40_sameDefects 26 (bodyOf Tryd.f26) i s
theorem lok_ref40_sameDefects : okLoops (bodyOf Tryd.f26) = true := by kernel_rfl
theorem L_ref40_sameDefects_zero (i : Nat) (s : St) : L_ref40_sameDefects i 0 s = none := rfl
theorem L_ref40_sameDefects_succ (i n : Nat) (s : St) : L_ref40_sameDefects i (n + 1) s = andThen (R_ref40_sameDefects i s) (H_ref40_sameDefects n i) := atN_succ lok_ref40_sameDefects i n s
theorem R_ref40_sameDefects_eq (i : Nat) (s : St) : R_ref40_sameDefects i s = runS Tryd.prog c_ref40_sameDefects (H_ref40_sameDefects bigL) an_ref40_sameDefects 26 (loopAt (bodyOf Tryd.f26) i) s := rfl
noncomputable def F_ref40_sameDefects (ds : List D) : Option D := runF Tryd.prog c_ref40_sameDefects an_ref40_sameDefects 26 (bodyOf Tryd.f26) [.tmp 4] ds
theorem F_ref40_sameDefects_eq (ds : List D) : F_ref40_sameDefects ds = runG Tryd.prog c_ref40_sameDefects (H_ref40_sameDefects bigL) an_ref40_sameDefects 26 (bodyOf Tryd.f26) [.tmp 4] ds := runG_eq lok_ref40_sameDefects _ ds
theorem C_ref40_sameDefects (ds : List D) (r : D) (h : F_ref40_sameDefects ds = some r) : Contract Tryd.prog gl 26 ds r := contract_of mix Tryd.func26 rfl (by kernel_rfl) (by kernel_rfl) (by decide) (call := c_ref40_sameDefects) ⟨callOf_ok cl_ref40_sameDefects trivial, callOfE_ok ce_ref40_sameDefects trivial⟩ h
-- sawmill/sawmillref40.SameBoards: loops [4]; state: params 0..1, then [4, 5, 6, 7]
attribute [simp] Tryd.f18
noncomputable def an_ref40_SameBoards : Ann := ⟨[0, 1, 4, 5, 6, 7], [12, 16, 102], [], [(4, [0, 1, 5])], [(0, []), (1, [0, 1, 5])], some [4], [(6, 11)], [], [], []⟩
@[simp] theorem an_ref40_SameBoards_draws : an_ref40_SameBoards.draws = [(6, 11)] := rfl
@[simp] theorem an_ref40_SameBoards_exits : an_ref40_SameBoards.exits = [(0, []), (1, [0, 1, 5])] := rfl
@[simp] theorem an_ref40_SameBoards_rets : an_ref40_SameBoards.rets = some [4] := rfl
@[simp] theorem an_ref40_SameBoards_keep : an_ref40_SameBoards.keep = [0, 1, 4, 5, 6, 7] := rfl
@[simp] theorem an_ref40_SameBoards_cond : an_ref40_SameBoards.cond = [12, 16, 102] := rfl
@[simp] theorem an_ref40_SameBoards_rows : an_ref40_SameBoards.rows = [] := rfl
@[simp] theorem an_ref40_SameBoards_loops : an_ref40_SameBoards.loops = [(4, [0, 1, 5])] := rfl
@[simp] theorem an_ref40_SameBoards_ecalls : an_ref40_SameBoards.ecalls = [] := rfl
@[simp] theorem an_ref40_SameBoards_crows : an_ref40_SameBoards.crows = [] := rfl
@[simp] theorem an_ref40_SameBoards_tails : an_ref40_SameBoards.tails = [] := rfl
@[simp] noncomputable def cl_ref40_SameBoards : List (Nat × (List D → Option D)) := [(26, F_ref40_sameDefects)]
@[simp] noncomputable def ce_ref40_SameBoards : List (Nat × (List (Nat × O) → List D → Option (D × List (Nat × O)))) := []
noncomputable def c_ref40_SameBoards : CT := ⟨callOf (cl_ref40_SameBoards ), callOfE ce_ref40_SameBoards, gl⟩
@[simp] theorem c_ref40_SameBoards_p (f : FuncId) (ds : List D) : c_ref40_SameBoards.p f ds = callOf (cl_ref40_SameBoards ) f ds := Eq.trans rfl rfl
@[simp] theorem c_ref40_SameBoards_e (f : FuncId) (hs : List (Nat × O)) (ds : List D) : c_ref40_SameBoards.e f hs ds = callOfE ce_ref40_SameBoards f hs ds := Eq.trans rfl rfl
@[simp] theorem c_ref40_SameBoards_g (g : Nat) : c_ref40_SameBoards.g g = gl g := Eq.trans rfl rfl
noncomputable def L_ref40_SameBoards (i n : Nat) (s : St) : Option (E × St) := atN Tryd.prog c_ref40_SameBoards an_ref40_SameBoards 103 (bodyOf Tryd.f18) i n s
noncomputable def H_ref40_SameBoards (n i : Nat) (s : St) : Option (E × St) := atH Tryd.prog c_ref40_SameBoards an_ref40_SameBoards 103 (bodyOf Tryd.f18) n i s
@[simp] theorem H_ref40_SameBoards_eq (n i : Nat) (s : St) : H_ref40_SameBoards n i s = L_ref40_SameBoards i n (headOf (an_ref40_SameBoards.loops.lookup i) s) := rfl
noncomputable def R_ref40_SameBoards (i : Nat) (s : St) : Option (E × St) := stepL Tryd.prog c_ref40_SameBoards an_ref40_SameBoards 103 (bodyOf Tryd.f18) i s
theorem lok_ref40_SameBoards : okLoops (bodyOf Tryd.f18) = true := by kernel_rfl
theorem L_ref40_SameBoards_zero (i : Nat) (s : St) : L_ref40_SameBoards i 0 s = none := rfl
theorem L_ref40_SameBoards_succ (i n : Nat) (s : St) : L_ref40_SameBoards i (n + 1) s = andThen (R_ref40_SameBoards i s) (H_ref40_SameBoards n i) := atN_succ lok_ref40_SameBoards i n s
theorem R_ref40_SameBoards_eq (i : Nat) (s : St) : R_ref40_SameBoards i s = runS Tryd.prog c_ref40_SameBoards (H_ref40_SameBoards bigL) an_ref40_SameBoards 103 (loopAt (bodyOf Tryd.f18) i) s := rfl
noncomputable def F_ref40_SameBoards (ds : List D) : Option D := runF Tryd.prog c_ref40_SameBoards an_ref40_SameBoards 103 (bodyOf Tryd.f18) [.tmp 4] ds
theorem F_ref40_SameBoards_eq (ds : List D) : F_ref40_SameBoards ds = runG Tryd.prog c_ref40_SameBoards (H_ref40_SameBoards bigL) an_ref40_SameBoards 103 (bodyOf Tryd.f18) [.tmp 4] ds := runG_eq lok_ref40_SameBoards _ ds
theorem C_ref40_SameBoards (ds : List D) (r : D) (h : F_ref40_SameBoards ds = some r) : Contract Tryd.prog gl 18 ds r := contract_of mix Tryd.func18 rfl (by kernel_rfl) (by kernel_rfl) (by decide) (call := c_ref40_SameBoards) ⟨callOf_ok cl_ref40_SameBoards ⟨C_ref40_sameDefects, trivial⟩, callOfE_ok ce_ref40_SameBoards trivial⟩ h
-- sawmill/sawmilllaw40.ChargeKeeps: loops [9]; state: params 0..0, then [1, 2, 3, 5, 6, 7, 8, 11]
attribute [simp] Tryd.f5
noncomputable def an_law40_ChargeKeeps : Ann := ⟨[1, 2, 3, 5, 6, 7, 8, 11], [14, 23, 35, 39, 48, 66], [], [(9, [1, 3, 6])], [(0, [1, 3]), (1, [1, 3, 6])], some [2], [(16, 8)], [], [], []⟩
@[simp] theorem an_law40_ChargeKeeps_draws : an_law40_ChargeKeeps.draws = [(16, 8)] := rfl
@[simp] theorem an_law40_ChargeKeeps_exits : an_law40_ChargeKeeps.exits = [(0, [1, 3]), (1, [1, 3, 6])] := rfl
@[simp] theorem an_law40_ChargeKeeps_rets : an_law40_ChargeKeeps.rets = some [2] := rfl
@[simp] theorem an_law40_ChargeKeeps_keep : an_law40_ChargeKeeps.keep = [1, 2, 3, 5, 6, 7, 8, 11] := rfl
@[simp] theorem an_law40_ChargeKeeps_cond : an_law40_ChargeKeeps.cond = [14, 23, 35, 39, 48, 66] := rfl
@[simp] theorem an_law40_ChargeKeeps_rows : an_law40_ChargeKeeps.rows = [] := rfl
@[simp] theorem an_law40_ChargeKeeps_loops : an_law40_ChargeKeeps.loops = [(9, [1, 3, 6])] := rfl
@[simp] theorem an_law40_ChargeKeeps_ecalls : an_law40_ChargeKeeps.ecalls = [] := rfl
@[simp] theorem an_law40_ChargeKeeps_crows : an_law40_ChargeKeeps.crows = [] := rfl
@[simp] theorem an_law40_ChargeKeeps_tails : an_law40_ChargeKeeps.tails = [] := rfl
@[simp] noncomputable def cl_law40_ChargeKeeps : List (Nat × (List D → Option D)) := [(9, F_law40_awake), (13, F_law40_light), (14, F_law40_dry), (18, F_ref40_SameBoards)]
@[simp] noncomputable def ce_law40_ChargeKeeps : List (Nat × (List (Nat × O) → List D → Option (D × List (Nat × O)))) := []
noncomputable def c_law40_ChargeKeeps : CT := ⟨callOf (cl_law40_ChargeKeeps ), callOfE ce_law40_ChargeKeeps, gl⟩
@[simp] theorem c_law40_ChargeKeeps_p (f : FuncId) (ds : List D) : c_law40_ChargeKeeps.p f ds = callOf (cl_law40_ChargeKeeps ) f ds := Eq.trans rfl rfl
@[simp] theorem c_law40_ChargeKeeps_e (f : FuncId) (hs : List (Nat × O)) (ds : List D) : c_law40_ChargeKeeps.e f hs ds = callOfE ce_law40_ChargeKeeps f hs ds := Eq.trans rfl rfl
@[simp] theorem c_law40_ChargeKeeps_g (g : Nat) : c_law40_ChargeKeeps.g g = gl g := Eq.trans rfl rfl
noncomputable def L_law40_ChargeKeeps (i n : Nat) (s : St) : Option (E × St) := atN Tryd.prog c_law40_ChargeKeeps an_law40_ChargeKeeps 81 (bodyOf Tryd.f5) i n s
noncomputable def H_law40_ChargeKeeps (n i : Nat) (s : St) : Option (E × St) := atH Tryd.prog c_law40_ChargeKeeps an_law40_ChargeKeeps 81 (bodyOf Tryd.f5) n i s
@[simp] theorem H_law40_ChargeKeeps_eq (n i : Nat) (s : St) : H_law40_ChargeKeeps n i s = L_law40_ChargeKeeps i n (headOf (an_law40_ChargeKeeps.loops.lookup i) s) := rfl
noncomputable def R_law40_ChargeKeeps (i : Nat) (s : St) : Option (E × St) := stepL Tryd.prog c_law40_ChargeKeeps an_law40_ChargeKeeps 81 (bodyOf Tryd.f5) i s
theorem lok_law40_ChargeKeeps : okLoops (bodyOf Tryd.f5) = true := by kernel_rfl
theorem L_law40_ChargeKeeps_zero (i : Nat) (s : St) : L_law40_ChargeKeeps i 0 s = none := rfl
theorem L_law40_ChargeKeeps_succ (i n : Nat) (s : St) : L_law40_ChargeKeeps i (n + 1) s = andThen (R_law40_ChargeKeeps i s) (H_law40_ChargeKeeps n i) := atN_succ lok_law40_ChargeKeeps i n s
theorem R_law40_ChargeKeeps_eq (i : Nat) (s : St) : R_law40_ChargeKeeps i s = runS Tryd.prog c_law40_ChargeKeeps (H_law40_ChargeKeeps bigL) an_law40_ChargeKeeps 81 (loopAt (bodyOf Tryd.f5) i) s := rfl
noncomputable def F_law40_ChargeKeeps (ds : List D) : Option D := runF Tryd.prog c_law40_ChargeKeeps an_law40_ChargeKeeps 81 (bodyOf Tryd.f5) [.tmp 2] ds
theorem F_law40_ChargeKeeps_eq (ds : List D) : F_law40_ChargeKeeps ds = runG Tryd.prog c_law40_ChargeKeeps (H_law40_ChargeKeeps bigL) an_law40_ChargeKeeps 81 (bodyOf Tryd.f5) [.tmp 2] ds := runG_eq lok_law40_ChargeKeeps _ ds
theorem C_law40_ChargeKeeps (ds : List D) (r : D) (h : F_law40_ChargeKeeps ds = some r) : Contract Tryd.prog gl 5 ds r := contract_of mix Tryd.func5 rfl (by kernel_rfl) (by kernel_rfl) (by decide) (call := c_law40_ChargeKeeps) ⟨callOf_ok cl_law40_ChargeKeeps ⟨C_law40_awake, C_law40_light, C_law40_dry, C_ref40_SameBoards, trivial⟩, callOfE_ok ce_law40_ChargeKeeps trivial⟩ h
-- sawmill/sawmilllaw40.ChargeShorter: loops []; state: params 0..1, then [2, 4, 6, 7, 9, 10]
attribute [simp] Tryd.f6
noncomputable def an_law40_ChargeShorter : Ann := ⟨[1, 2, 4, 6, 7, 9, 10], [28, 46, 48], [], [], [], some [4], [], [], [], []⟩
@[simp] theorem an_law40_ChargeShorter_draws : an_law40_ChargeShorter.draws = [] := rfl
@[simp] theorem an_law40_ChargeShorter_exits : an_law40_ChargeShorter.exits = [] := rfl
@[simp] theorem an_law40_ChargeShorter_rets : an_law40_ChargeShorter.rets = some [4] := rfl
@[simp] theorem an_law40_ChargeShorter_keep : an_law40_ChargeShorter.keep = [1, 2, 4, 6, 7, 9, 10] := rfl
@[simp] theorem an_law40_ChargeShorter_cond : an_law40_ChargeShorter.cond = [28, 46, 48] := rfl
@[simp] theorem an_law40_ChargeShorter_rows : an_law40_ChargeShorter.rows = [] := rfl
@[simp] theorem an_law40_ChargeShorter_loops : an_law40_ChargeShorter.loops = [] := rfl
@[simp] theorem an_law40_ChargeShorter_ecalls : an_law40_ChargeShorter.ecalls = [] := rfl
@[simp] theorem an_law40_ChargeShorter_crows : an_law40_ChargeShorter.crows = [] := rfl
@[simp] theorem an_law40_ChargeShorter_tails : an_law40_ChargeShorter.tails = [] := rfl
@[simp] noncomputable def cl_law40_ChargeShorter : List (Nat × (List D → Option D)) := [(9, F_law40_awake), (13, F_law40_light), (14, F_law40_dry)]
@[simp] noncomputable def ce_law40_ChargeShorter : List (Nat × (List (Nat × O) → List D → Option (D × List (Nat × O)))) := []
noncomputable def c_law40_ChargeShorter : CT := ⟨callOf (cl_law40_ChargeShorter ), callOfE ce_law40_ChargeShorter, gl⟩
@[simp] theorem c_law40_ChargeShorter_p (f : FuncId) (ds : List D) : c_law40_ChargeShorter.p f ds = callOf (cl_law40_ChargeShorter ) f ds := Eq.trans rfl rfl
@[simp] theorem c_law40_ChargeShorter_e (f : FuncId) (hs : List (Nat × O)) (ds : List D) : c_law40_ChargeShorter.e f hs ds = callOfE ce_law40_ChargeShorter f hs ds := Eq.trans rfl rfl
@[simp] theorem c_law40_ChargeShorter_g (g : Nat) : c_law40_ChargeShorter.g g = gl g := Eq.trans rfl rfl
noncomputable def L_law40_ChargeShorter (i n : Nat) (s : St) : Option (E × St) := atN Tryd.prog c_law40_ChargeShorter an_law40_ChargeShorter 110 (bodyOf Tryd.f6) i n s
noncomputable def H_law40_ChargeShorter (n i : Nat) (s : St) : Option (E × St) := atH Tryd.prog c_law40_ChargeShorter an_law40_ChargeShorter 110 (bodyOf Tryd.f6) n i s
@[simp] theorem H_law40_ChargeShorter_eq (n i : Nat) (s : St) : H_law40_ChargeShorter n i s = L_law40_ChargeShorter i n (headOf (an_law40_ChargeShorter.loops.lookup i) s) := rfl
noncomputable def R_law40_ChargeShorter (i : Nat) (s : St) : Option (E × St) := stepL Tryd.prog c_law40_ChargeShorter an_law40_ChargeShorter 110 (bodyOf Tryd.f6) i s
theorem lok_law40_ChargeShorter : okLoops (bodyOf Tryd.f6) = true := by kernel_rfl
noncomputable def F_law40_ChargeShorter (ds : List D) : Option D := runF Tryd.prog c_law40_ChargeShorter an_law40_ChargeShorter 110 (bodyOf Tryd.f6) [.tmp 4] ds
theorem F_law40_ChargeShorter_eq (ds : List D) : F_law40_ChargeShorter ds = runG Tryd.prog c_law40_ChargeShorter (H_law40_ChargeShorter bigL) an_law40_ChargeShorter 110 (bodyOf Tryd.f6) [.tmp 4] ds := runG_eq lok_law40_ChargeShorter _ ds
theorem C_law40_ChargeShorter (ds : List D) (r : D) (h : F_law40_ChargeShorter ds = some r) : Contract Tryd.prog gl 6 ds r := contract_of mix Tryd.func6 rfl (by kernel_rfl) (by kernel_rfl) (by decide) (call := c_law40_ChargeShorter) ⟨callOf_ok cl_law40_ChargeShorter ⟨C_law40_awake, C_law40_light, C_law40_dry, trivial⟩, callOfE_ok ce_law40_ChargeShorter trivial⟩ h
-- sawmill/sawmilllaw40.ChargeFans: loops [10]; state: params 0..0, then [1, 2, 3, 4, 5, 6]
attribute [simp] Tryd.f7
noncomputable def an_law40_ChargeFans : Ann := ⟨[1, 2, 3, 4, 5, 6], [9, 26, 38, 42, 58], [11, 14], [(10, [1, 3, 6])], [(0, []), (1, [1, 3, 6])], some [2], [(12, 13)], [], [], []⟩
@[simp] theorem an_law40_ChargeFans_draws : an_law40_ChargeFans.draws = [(12, 13)] := rfl
@[simp] theorem an_law40_ChargeFans_exits : an_law40_ChargeFans.exits = [(0, []), (1, [1, 3, 6])] := rfl
@[simp] theorem an_law40_ChargeFans_rets : an_law40_ChargeFans.rets = some [2] := rfl
@[simp] theorem an_law40_ChargeFans_keep : an_law40_ChargeFans.keep = [1, 2, 3, 4, 5, 6] := rfl
@[simp] theorem an_law40_ChargeFans_cond : an_law40_ChargeFans.cond = [9, 26, 38, 42, 58] := rfl
@[simp] theorem an_law40_ChargeFans_rows : an_law40_ChargeFans.rows = [11, 14] := rfl
@[simp] theorem an_law40_ChargeFans_loops : an_law40_ChargeFans.loops = [(10, [1, 3, 6])] := rfl
@[simp] theorem an_law40_ChargeFans_ecalls : an_law40_ChargeFans.ecalls = [] := rfl
@[simp] theorem an_law40_ChargeFans_crows : an_law40_ChargeFans.crows = [] := rfl
@[simp] theorem an_law40_ChargeFans_tails : an_law40_ChargeFans.tails = [] := rfl
@[simp] noncomputable def cl_law40_ChargeFans : List (Nat × (List D → Option D)) := [(9, F_law40_awake), (13, F_law40_light), (14, F_law40_dry)]
@[simp] noncomputable def ce_law40_ChargeFans : List (Nat × (List (Nat × O) → List D → Option (D × List (Nat × O)))) := []
noncomputable def c_law40_ChargeFans : CT := ⟨callOf (cl_law40_ChargeFans ), callOfE ce_law40_ChargeFans, gl⟩
@[simp] theorem c_law40_ChargeFans_p (f : FuncId) (ds : List D) : c_law40_ChargeFans.p f ds = callOf (cl_law40_ChargeFans ) f ds := Eq.trans rfl rfl
@[simp] theorem c_law40_ChargeFans_e (f : FuncId) (hs : List (Nat × O)) (ds : List D) : c_law40_ChargeFans.e f hs ds = callOfE ce_law40_ChargeFans f hs ds := Eq.trans rfl rfl
@[simp] theorem c_law40_ChargeFans_g (g : Nat) : c_law40_ChargeFans.g g = gl g := Eq.trans rfl rfl
noncomputable def L_law40_ChargeFans (i n : Nat) (s : St) : Option (E × St) := atN Tryd.prog c_law40_ChargeFans an_law40_ChargeFans 60 (bodyOf Tryd.f7) i n s
noncomputable def H_law40_ChargeFans (n i : Nat) (s : St) : Option (E × St) := atH Tryd.prog c_law40_ChargeFans an_law40_ChargeFans 60 (bodyOf Tryd.f7) n i s
@[simp] theorem H_law40_ChargeFans_eq (n i : Nat) (s : St) : H_law40_ChargeFans n i s = L_law40_ChargeFans i n (headOf (an_law40_ChargeFans.loops.lookup i) s) := rfl
noncomputable def R_law40_ChargeFans (i : Nat) (s : St) : Option (E × St) := stepL Tryd.prog c_law40_ChargeFans an_law40_ChargeFans 60 (bodyOf Tryd.f7) i s
theorem lok_law40_ChargeFans : okLoops (bodyOf Tryd.f7) = true := by kernel_rfl
theorem L_law40_ChargeFans_zero (i : Nat) (s : St) : L_law40_ChargeFans i 0 s = none := rfl
theorem L_law40_ChargeFans_succ (i n : Nat) (s : St) : L_law40_ChargeFans i (n + 1) s = andThen (R_law40_ChargeFans i s) (H_law40_ChargeFans n i) := atN_succ lok_law40_ChargeFans i n s
theorem R_law40_ChargeFans_eq (i : Nat) (s : St) : R_law40_ChargeFans i s = runS Tryd.prog c_law40_ChargeFans (H_law40_ChargeFans bigL) an_law40_ChargeFans 60 (loopAt (bodyOf Tryd.f7) i) s := rfl
noncomputable def F_law40_ChargeFans (ds : List D) : Option D := runF Tryd.prog c_law40_ChargeFans an_law40_ChargeFans 60 (bodyOf Tryd.f7) [.tmp 2] ds
theorem F_law40_ChargeFans_eq (ds : List D) : F_law40_ChargeFans ds = runG Tryd.prog c_law40_ChargeFans (H_law40_ChargeFans bigL) an_law40_ChargeFans 60 (bodyOf Tryd.f7) [.tmp 2] ds := runG_eq lok_law40_ChargeFans _ ds
theorem C_law40_ChargeFans (ds : List D) (r : D) (h : F_law40_ChargeFans ds = some r) : Contract Tryd.prog gl 7 ds r := contract_of mix Tryd.func7 rfl (by kernel_rfl) (by kernel_rfl) (by decide) (call := c_law40_ChargeFans) ⟨callOf_ok cl_law40_ChargeFans ⟨C_law40_awake, C_law40_light, C_law40_dry, trivial⟩, callOfE_ok ce_law40_ChargeFans trivial⟩ h
-- sawmill/sawmilllaw40.ChargeOrder: loops [9]; state: params 0..1, then [2, 4, 5, 6, 7, 8, 9, 10, 11, 12, 13]
attribute [simp] Tryd.f8
noncomputable def an_law40_ChargeOrder : Ann := ⟨[1, 2, 4, 5, 6, 7, 8, 9, 10, 11, 12, 13], [22, 31, 40, 57], [59, 72], [(9, [1, 2, 5, 6, 8, 9])], [(0, [5, 6, 8]), (1, [1, 2, 5, 6, 8, 9])], some [4], [], [], [(35, 17, 59, 3)], []⟩
@[simp] theorem an_law40_ChargeOrder_draws : an_law40_ChargeOrder.draws = [] := rfl
@[simp] theorem an_law40_ChargeOrder_exits : an_law40_ChargeOrder.exits = [(0, [5, 6, 8]), (1, [1, 2, 5, 6, 8, 9])] := rfl
@[simp] theorem an_law40_ChargeOrder_rets : an_law40_ChargeOrder.rets = some [4] := rfl
@[simp] theorem an_law40_ChargeOrder_keep : an_law40_ChargeOrder.keep = [1, 2, 4, 5, 6, 7, 8, 9, 10, 11, 12, 13] := rfl
@[simp] theorem an_law40_ChargeOrder_cond : an_law40_ChargeOrder.cond = [22, 31, 40, 57] := rfl
@[simp] theorem an_law40_ChargeOrder_rows : an_law40_ChargeOrder.rows = [59, 72] := rfl
@[simp] theorem an_law40_ChargeOrder_loops : an_law40_ChargeOrder.loops = [(9, [1, 2, 5, 6, 8, 9])] := rfl
@[simp] theorem an_law40_ChargeOrder_ecalls : an_law40_ChargeOrder.ecalls = [] := rfl
@[simp] theorem an_law40_ChargeOrder_crows : an_law40_ChargeOrder.crows = [(35, 17, 59, 3)] := rfl
@[simp] theorem an_law40_ChargeOrder_tails : an_law40_ChargeOrder.tails = [] := rfl
@[simp] noncomputable def cl_law40_ChargeOrder : List (Nat × (List D → Option D)) := [(9, F_law40_awake), (13, F_law40_light), (14, F_law40_dry), (18, F_ref40_SameBoards)]
@[simp] noncomputable def ce_law40_ChargeOrder : List (Nat × (List (Nat × O) → List D → Option (D × List (Nat × O)))) := []
noncomputable def c_law40_ChargeOrder : CT := ⟨callOf (cl_law40_ChargeOrder ), callOfE ce_law40_ChargeOrder, gl⟩
@[simp] theorem c_law40_ChargeOrder_p (f : FuncId) (ds : List D) : c_law40_ChargeOrder.p f ds = callOf (cl_law40_ChargeOrder ) f ds := Eq.trans rfl rfl
@[simp] theorem c_law40_ChargeOrder_e (f : FuncId) (hs : List (Nat × O)) (ds : List D) : c_law40_ChargeOrder.e f hs ds = callOfE ce_law40_ChargeOrder f hs ds := Eq.trans rfl rfl
@[simp] theorem c_law40_ChargeOrder_g (g : Nat) : c_law40_ChargeOrder.g g = gl g := Eq.trans rfl rfl
noncomputable def L_law40_ChargeOrder (i n : Nat) (s : St) : Option (E × St) := atN Tryd.prog c_law40_ChargeOrder an_law40_ChargeOrder 98 (bodyOf Tryd.f8) i n s
noncomputable def H_law40_ChargeOrder (n i : Nat) (s : St) : Option (E × St) := atH Tryd.prog c_law40_ChargeOrder an_law40_ChargeOrder 98 (bodyOf Tryd.f8) n i s
@[simp] theorem H_law40_ChargeOrder_eq (n i : Nat) (s : St) : H_law40_ChargeOrder n i s = L_law40_ChargeOrder i n (headOf (an_law40_ChargeOrder.loops.lookup i) s) := rfl
noncomputable def R_law40_ChargeOrder (i : Nat) (s : St) : Option (E × St) := stepL Tryd.prog c_law40_ChargeOrder an_law40_ChargeOrder 98 (bodyOf Tryd.f8) i s
theorem lok_law40_ChargeOrder : okLoops (bodyOf Tryd.f8) = true := by kernel_rfl
theorem L_law40_ChargeOrder_zero (i : Nat) (s : St) : L_law40_ChargeOrder i 0 s = none := rfl
theorem L_law40_ChargeOrder_succ (i n : Nat) (s : St) : L_law40_ChargeOrder i (n + 1) s = andThen (R_law40_ChargeOrder i s) (H_law40_ChargeOrder n i) := atN_succ lok_law40_ChargeOrder i n s
theorem R_law40_ChargeOrder_eq (i : Nat) (s : St) : R_law40_ChargeOrder i s = runS Tryd.prog c_law40_ChargeOrder (H_law40_ChargeOrder bigL) an_law40_ChargeOrder 98 (loopAt (bodyOf Tryd.f8) i) s := rfl
noncomputable def F_law40_ChargeOrder (ds : List D) : Option D := runF Tryd.prog c_law40_ChargeOrder an_law40_ChargeOrder 98 (bodyOf Tryd.f8) [.tmp 4] ds
theorem F_law40_ChargeOrder_eq (ds : List D) : F_law40_ChargeOrder ds = runG Tryd.prog c_law40_ChargeOrder (H_law40_ChargeOrder bigL) an_law40_ChargeOrder 98 (bodyOf Tryd.f8) [.tmp 4] ds := runG_eq lok_law40_ChargeOrder _ ds
theorem C_law40_ChargeOrder (ds : List D) (r : D) (h : F_law40_ChargeOrder ds = some r) : Contract Tryd.prog gl 8 ds r := contract_of mix Tryd.func8 rfl (by kernel_rfl) (by kernel_rfl) (by decide) (call := c_law40_ChargeOrder) ⟨callOf_ok cl_law40_ChargeOrder ⟨C_law40_awake, C_law40_light, C_law40_dry, C_ref40_SameBoards, trivial⟩, callOfE_ok ce_law40_ChargeOrder trivial⟩ h
end Go.Proofs.YtdefohgkniglpaaDoor

