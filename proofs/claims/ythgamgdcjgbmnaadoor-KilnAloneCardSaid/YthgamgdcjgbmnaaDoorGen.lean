/-
  Printed by gen.py for this seat: more of the functions.
-/
import Derived.Test.YthgamgdcjgbmnaaDoorGen1
namespace Go.Proofs.YthgamgdcjgbmnaaDoor
open Go Go.Abs
set_option maxRecDepth 100000
set_option linter.unusedSimpArgs false
set_option linter.unusedVariables false
-- sawmill/sawmillref35.Outside: loops []; state: params 0..-1, then [0]
attribute [simp] Tryd.f29
noncomputable def an_ref35_Outside : Ann := ⟨[0], [], [], [], [], some [0], [], [], [], []⟩
@[simp] theorem an_ref35_Outside_draws : an_ref35_Outside.draws = [] := rfl
@[simp] theorem an_ref35_Outside_exits : an_ref35_Outside.exits = [] := rfl
@[simp] theorem an_ref35_Outside_rets : an_ref35_Outside.rets = some [0] := rfl
@[simp] theorem an_ref35_Outside_keep : an_ref35_Outside.keep = [0] := rfl
@[simp] theorem an_ref35_Outside_cond : an_ref35_Outside.cond = [] := rfl
@[simp] theorem an_ref35_Outside_rows : an_ref35_Outside.rows = [] := rfl
@[simp] theorem an_ref35_Outside_loops : an_ref35_Outside.loops = [] := rfl
@[simp] theorem an_ref35_Outside_ecalls : an_ref35_Outside.ecalls = [] := rfl
@[simp] theorem an_ref35_Outside_crows : an_ref35_Outside.crows = [] := rfl
@[simp] theorem an_ref35_Outside_tails : an_ref35_Outside.tails = [] := rfl
@[simp] noncomputable def cl_ref35_Outside : List (Nat × (List D → Option D)) := []
@[simp] noncomputable def ce_ref35_Outside : List (Nat × (List (Nat × O) → List D → Option (D × List (Nat × O)))) := []
noncomputable def c_ref35_Outside : CT := ⟨callOf (cl_ref35_Outside ), callOfE ce_ref35_Outside, gl⟩
@[simp] theorem c_ref35_Outside_p (f : FuncId) (ds : List D) : c_ref35_Outside.p f ds = callOf (cl_ref35_Outside ) f ds := Eq.trans rfl rfl
@[simp] theorem c_ref35_Outside_e (f : FuncId) (hs : List (Nat × O)) (ds : List D) : c_ref35_Outside.e f hs ds = callOfE ce_ref35_Outside f hs ds := Eq.trans rfl rfl
@[simp] theorem c_ref35_Outside_g (g : Nat) : c_ref35_Outside.g g = gl g := Eq.trans rfl rfl
noncomputable def L_ref35_Outside (i n : Nat) (s : St) : Option (E × St) := atN Tryd.prog c_ref35_Outside an_ref35_Outside 2 (bodyOf Tryd.f29) i n s
noncomputable def H_ref35_Outside (n i : Nat) (s : St) : Option (E × St) := atH Tryd.prog c_ref35_Outside an_ref35_Outside 2 (bodyOf Tryd.f29) n i s
@[simp] theorem H_ref35_Outside_eq (n i : Nat) (s : St) : H_ref35_Outside n i s = L_ref35_Outside i n (headOf (an_ref35_Outside.loops.lookup i) s) := rfl
noncomputable def R_ref35_Outside (i : Nat) (s : St) : Option (E × St) := stepL Tryd.prog c_ref35_Outside an_ref35_Outside 2 (bodyOf Tryd.f29) i s
theorem lok_ref35_Outside : okLoops (bodyOf Tryd.f29) = true := by kernel_rfl
noncomputable def F_ref35_Outside (ds : List D) : Option D := runF Tryd.prog c_ref35_Outside an_ref35_Outside 2 (bodyOf Tryd.f29) [.cell 0 37] ds
theorem F_ref35_Outside_eq (ds : List D) : F_ref35_Outside ds = runG Tryd.prog c_ref35_Outside (H_ref35_Outside bigL) an_ref35_Outside 2 (bodyOf Tryd.f29) [.cell 0 37] ds := runG_eq lok_ref35_Outside _ ds
theorem C_ref35_Outside (ds : List D) (r : D) (h : F_ref35_Outside ds = some r) : Contract Tryd.prog gl 29 ds r := contract_of mix Tryd.func29 rfl (by kernel_rfl) (by kernel_rfl) (by decide) (call := c_ref35_Outside) ⟨callOf_ok cl_ref35_Outside trivial, callOfE_ok ce_ref35_Outside trivial⟩ h
-- sawmill/sawmillref38.New: loops [12]; state: params 0..2, then [3, 4, 6, 7, 8, 9, 10, 11]
attribute [simp] Tryd.f11
noncomputable def an_ref38_New : Ann := ⟨[2, 3, 4, 6, 7, 8, 9, 10, 11], [15, 22, 27, 31, 36, 52, 61], [66], [(12, [2, 3, 4, 6, 10])], [(0, [2, 3, 4, 6]), (1, [2, 3, 4, 6, 10])], some [6, 7], [(19, 6)], [], [], []⟩
@[simp] theorem an_ref38_New_draws : an_ref38_New.draws = [(19, 6)] := rfl
@[simp] theorem an_ref38_New_exits : an_ref38_New.exits = [(0, [2, 3, 4, 6]), (1, [2, 3, 4, 6, 10])] := rfl
@[simp] theorem an_ref38_New_rets : an_ref38_New.rets = some [6, 7] := rfl
@[simp] theorem an_ref38_New_keep : an_ref38_New.keep = [2, 3, 4, 6, 7, 8, 9, 10, 11] := rfl
@[simp] theorem an_ref38_New_cond : an_ref38_New.cond = [15, 22, 27, 31, 36, 52, 61] := rfl
@[simp] theorem an_ref38_New_rows : an_ref38_New.rows = [66] := rfl
@[simp] theorem an_ref38_New_loops : an_ref38_New.loops = [(12, [2, 3, 4, 6, 10])] := rfl
@[simp] theorem an_ref38_New_ecalls : an_ref38_New.ecalls = [] := rfl
@[simp] theorem an_ref38_New_crows : an_ref38_New.crows = [] := rfl
@[simp] theorem an_ref38_New_tails : an_ref38_New.tails = [] := rfl
@[simp] noncomputable def cl_ref38_New : List (Nat × (List D → Option D)) := [(26, F_ref37_Check), (27, F_ref34_Check), (28, F_ref36_Check), (29, F_ref35_Outside)]
@[simp] noncomputable def ce_ref38_New : List (Nat × (List (Nat × O) → List D → Option (D × List (Nat × O)))) := []
noncomputable def c_ref38_New : CT := ⟨callOf (cl_ref38_New ), callOfE ce_ref38_New, gl⟩
@[simp] theorem c_ref38_New_p (f : FuncId) (ds : List D) : c_ref38_New.p f ds = callOf (cl_ref38_New ) f ds := Eq.trans rfl rfl
@[simp] theorem c_ref38_New_e (f : FuncId) (hs : List (Nat × O)) (ds : List D) : c_ref38_New.e f hs ds = callOfE ce_ref38_New f hs ds := Eq.trans rfl rfl
@[simp] theorem c_ref38_New_g (g : Nat) : c_ref38_New.g g = gl g := Eq.trans rfl rfl
noncomputable def L_ref38_New (i n : Nat) (s : St) : Option (E × St) := atN Tryd.prog c_ref38_New an_ref38_New 71 (bodyOf Tryd.f11) i n s
noncomputable def H_ref38_New (n i : Nat) (s : St) : Option (E × St) := atH Tryd.prog c_ref38_New an_ref38_New 71 (bodyOf Tryd.f11) n i s
@[simp] theorem H_ref38_New_eq (n i : Nat) (s : St) : H_ref38_New n i s = L_ref38_New i n (headOf (an_ref38_New.loops.lookup i) s) := rfl
noncomputable def R_ref38_New (i : Nat) (s : St) : Option (E × St) := stepL Tryd.prog c_ref38_New an_ref38_New 71 (bodyOf Tryd.f11) i s
theorem lok_ref38_New : okLoops (bodyOf Tryd.f11) = true := by kernel_rfl
theorem L_ref38_New_zero (i : Nat) (s : St) : L_ref38_New i 0 s = none := rfl
theorem L_ref38_New_succ (i n : Nat) (s : St) : L_ref38_New i (n + 1) s = andThen (R_ref38_New i s) (H_ref38_New n i) := atN_succ lok_ref38_New i n s
theorem R_ref38_New_eq (i : Nat) (s : St) : R_ref38_New i s = runS Tryd.prog c_ref38_New (H_ref38_New bigL) an_ref38_New 71 (loopAt (bodyOf Tryd.f11) i) s := rfl
noncomputable def F_ref38_New (ds : List D) : Option D := runF Tryd.prog c_ref38_New an_ref38_New 71 (bodyOf Tryd.f11) [.cell 6 39, .tmp 7] ds
theorem F_ref38_New_eq (ds : List D) : F_ref38_New ds = runG Tryd.prog c_ref38_New (H_ref38_New bigL) an_ref38_New 71 (bodyOf Tryd.f11) [.cell 6 39, .tmp 7] ds := runG_eq lok_ref38_New _ ds
theorem C_ref38_New (ds : List D) (r : D) (h : F_ref38_New ds = some r) : Contract Tryd.prog gl 11 ds r := contract_of mix Tryd.func11 rfl (by kernel_rfl) (by kernel_rfl) (by decide) (call := c_ref38_New) ⟨callOf_ok cl_ref38_New ⟨C_ref37_Check, C_ref34_Check, C_ref36_Check, C_ref35_Outside, trivial⟩, callOfE_ok ce_ref38_New trivial⟩ h
-- sawmill/sawmillref38.Done: loops []; state: params 0..0, then [1, 2]
attribute [simp] Tryd.f30
noncomputable def an_ref38_Done : Ann := ⟨[1, 2], [], [], [], [], some [2], [], [], [], []⟩
@[simp] theorem an_ref38_Done_draws : an_ref38_Done.draws = [] := rfl
@[simp] theorem an_ref38_Done_exits : an_ref38_Done.exits = [] := rfl
@[simp] theorem an_ref38_Done_rets : an_ref38_Done.rets = some [2] := rfl
@[simp] theorem an_ref38_Done_keep : an_ref38_Done.keep = [1, 2] := rfl
@[simp] theorem an_ref38_Done_cond : an_ref38_Done.cond = [] := rfl
@[simp] theorem an_ref38_Done_rows : an_ref38_Done.rows = [] := rfl
@[simp] theorem an_ref38_Done_loops : an_ref38_Done.loops = [] := rfl
@[simp] theorem an_ref38_Done_ecalls : an_ref38_Done.ecalls = [] := rfl
@[simp] theorem an_ref38_Done_crows : an_ref38_Done.crows = [] := rfl
@[simp] theorem an_ref38_Done_tails : an_ref38_Done.tails = [] := rfl
@[simp] noncomputable def cl_ref38_Done : List (Nat × (List D → Option D)) := []
@[simp] noncomputable def ce_ref38_Done : List (Nat × (List (Nat × O) → List D → Option (D × List (Nat × O)))) := []
noncomputable def c_ref38_Done : CT := ⟨callOf (cl_ref38_Done ), callOfE ce_ref38_Done, gl⟩
@[simp] theorem c_ref38_Done_p (f : FuncId) (ds : List D) : c_ref38_Done.p f ds = callOf (cl_ref38_Done ) f ds := Eq.trans rfl rfl
@[simp] theorem c_ref38_Done_e (f : FuncId) (hs : List (Nat × O)) (ds : List D) : c_ref38_Done.e f hs ds = callOfE ce_ref38_Done f hs ds := Eq.trans rfl rfl
@[simp] theorem c_ref38_Done_g (g : Nat) : c_ref38_Done.g g = gl g := Eq.trans rfl rfl
noncomputable def L_ref38_Done (i n : Nat) (s : St) : Option (E × St) := atN Tryd.prog c_ref38_Done an_ref38_Done 10 (bodyOf Tryd.f30) i n s
noncomputable def H_ref38_Done (n i : Nat) (s : St) : Option (E × St) := atH Tryd.prog c_ref38_Done an_ref38_Done 10 (bodyOf Tryd.f30) n i s
@[simp] theorem H_ref38_Done_eq (n i : Nat) (s : St) : H_ref38_Done n i s = L_ref38_Done i n (headOf (an_ref38_Done.loops.lookup i) s) := rfl
noncomputable def R_ref38_Done (i : Nat) (s : St) : Option (E × St) := stepL Tryd.prog c_ref38_Done an_ref38_Done 10 (bodyOf Tryd.f30) i s
theorem lok_ref38_Done : okLoops (bodyOf Tryd.f30) = true := by kernel_rfl
noncomputable def F_ref38_Done (ds : List D) : Option D := runF Tryd.prog c_ref38_Done an_ref38_Done 10 (bodyOf Tryd.f30) [.tmp 2] ds
theorem F_ref38_Done_eq (ds : List D) : F_ref38_Done ds = runG Tryd.prog c_ref38_Done (H_ref38_Done bigL) an_ref38_Done 10 (bodyOf Tryd.f30) [.tmp 2] ds := runG_eq lok_ref38_Done _ ds
theorem C_ref38_Done (ds : List D) (r : D) (h : F_ref38_Done ds = some r) : Contract Tryd.prog gl 30 ds r := contract_of mix Tryd.func30 rfl (by kernel_rfl) (by kernel_rfl) (by decide) (call := c_ref38_Done) ⟨callOf_ok cl_ref38_Done trivial, callOfE_ok ce_ref38_Done trivial⟩ h
-- sawmill/sawmillref38.Mean: loops [5]; state: params 0..0, then [1, 2, 3, 4]
attribute [simp] Tryd.f31
noncomputable def an_ref38_Mean : Ann := ⟨[1, 2, 3, 4], [8, 13], [], [(5, [1, 3, 4])], [(0, [1, 3]), (1, [1, 3, 4])], some [2], [], [], [], []⟩
@[simp] theorem an_ref38_Mean_draws : an_ref38_Mean.draws = [] := rfl
@[simp] theorem an_ref38_Mean_exits : an_ref38_Mean.exits = [(0, [1, 3]), (1, [1, 3, 4])] := rfl
@[simp] theorem an_ref38_Mean_rets : an_ref38_Mean.rets = some [2] := rfl
@[simp] theorem an_ref38_Mean_keep : an_ref38_Mean.keep = [1, 2, 3, 4] := rfl
@[simp] theorem an_ref38_Mean_cond : an_ref38_Mean.cond = [8, 13] := rfl
@[simp] theorem an_ref38_Mean_rows : an_ref38_Mean.rows = [] := rfl
@[simp] theorem an_ref38_Mean_loops : an_ref38_Mean.loops = [(5, [1, 3, 4])] := rfl
@[simp] theorem an_ref38_Mean_ecalls : an_ref38_Mean.ecalls = [] := rfl
@[simp] theorem an_ref38_Mean_crows : an_ref38_Mean.crows = [] := rfl
@[simp] theorem an_ref38_Mean_tails : an_ref38_Mean.tails = [] := rfl
@[simp] noncomputable def cl_ref38_Mean : List (Nat × (List D → Option D)) := []
@[simp] noncomputable def ce_ref38_Mean : List (Nat × (List (Nat × O) → List D → Option (D × List (Nat × O)))) := []
noncomputable def c_ref38_Mean : CT := ⟨callOf (cl_ref38_Mean ), callOfE ce_ref38_Mean, gl⟩
@[simp] theorem c_ref38_Mean_p (f : FuncId) (ds : List D) : c_ref38_Mean.p f ds = callOf (cl_ref38_Mean ) f ds := Eq.trans rfl rfl
@[simp] theorem c_ref38_Mean_e (f : FuncId) (hs : List (Nat × O)) (ds : List D) : c_ref38_Mean.e f hs ds = callOfE ce_ref38_Mean f hs ds := Eq.trans rfl rfl
@[simp] theorem c_ref38_Mean_g (g : Nat) : c_ref38_Mean.g g = gl g := Eq.trans rfl rfl
noncomputable def L_ref38_Mean (i n : Nat) (s : St) : Option (E × St) := atN Tryd.prog c_ref38_Mean an_ref38_Mean 30 (bodyOf Tryd.f31) i n s
noncomputable def H_ref38_Mean (n i : Nat) (s : St) : Option (E × St) := atH Tryd.prog c_ref38_Mean an_ref38_Mean 30 (bodyOf Tryd.f31) n i s
@[simp] theorem H_ref38_Mean_eq (n i : Nat) (s : St) : H_ref38_Mean n i s = L_ref38_Mean i n (headOf (an_ref38_Mean.loops.lookup i) s) := rfl
noncomputable def R_ref38_Mean (i : Nat) (s : St) : Option (E × St) := stepL Tryd.prog c_ref38_Mean an_ref38_Mean 30 (bodyOf Tryd.f31) i s
theorem lok_ref38_Mean : okLoops (bodyOf Tryd.f31) = true := by kernel_rfl
theorem L_ref38_Mean_zero (i : Nat) (s : St) : L_ref38_Mean i 0 s = none := rfl
theorem L_ref38_Mean_succ (i n : Nat) (s : St) : L_ref38_Mean i (n + 1) s = andThen (R_ref38_Mean i s) (H_ref38_Mean n i) := atN_succ lok_ref38_Mean i n s
theorem R_ref38_Mean_eq (i : Nat) (s : St) : R_ref38_Mean i s = runS Tryd.prog c_ref38_Mean (H_ref38_Mean bigL) an_ref38_Mean 30 (loopAt (bodyOf Tryd.f31) i) s := rfl
noncomputable def F_ref38_Mean (ds : List D) : Option D := runF Tryd.prog c_ref38_Mean an_ref38_Mean 30 (bodyOf Tryd.f31) [.tmp 2] ds
theorem F_ref38_Mean_eq (ds : List D) : F_ref38_Mean ds = runG Tryd.prog c_ref38_Mean (H_ref38_Mean bigL) an_ref38_Mean 30 (bodyOf Tryd.f31) [.tmp 2] ds := runG_eq lok_ref38_Mean _ ds
theorem C_ref38_Mean (ds : List D) (r : D) (h : F_ref38_Mean ds = some r) : Contract Tryd.prog gl 31 ds r := contract_of mix Tryd.func31 rfl (by kernel_rfl) (by kernel_rfl) (by decide) (call := c_ref38_Mean) ⟨callOf_ok cl_ref38_Mean trivial, callOfE_ok ce_ref38_Mean trivial⟩ h
-- sawmill/sawmillref38.SameItems: loops [4]; state: params 0..1, then [4, 5]
attribute [simp] Tryd.f23
noncomputable def an_ref38_SameItems : Ann := ⟨[0, 1, 4, 5], [10, 14, 25], [], [(4, [0, 1, 5])], [(0, []), (1, [0, 1, 5])], some [4], [(6, 8)], [], [], []⟩
@[simp] theorem an_ref38_SameItems_draws : an_ref38_SameItems.draws = [(6, 8)] := rfl
@[simp] theorem an_ref38_SameItems_exits : an_ref38_SameItems.exits = [(0, []), (1, [0, 1, 5])] := rfl
@[simp] theorem an_ref38_SameItems_rets : an_ref38_SameItems.rets = some [4] := rfl
@[simp] theorem an_ref38_SameItems_keep : an_ref38_SameItems.keep = [0, 1, 4, 5] := rfl
@[simp] theorem an_ref38_SameItems_cond : an_ref38_SameItems.cond = [10, 14, 25] := rfl
@[simp] theorem an_ref38_SameItems_rows : an_ref38_SameItems.rows = [] := rfl
@[simp] theorem an_ref38_SameItems_loops : an_ref38_SameItems.loops = [(4, [0, 1, 5])] := rfl
@[simp] theorem an_ref38_SameItems_ecalls : an_ref38_SameItems.ecalls = [] := rfl
@[simp] theorem an_ref38_SameItems_crows : an_ref38_SameItems.crows = [] := rfl
@[simp] theorem an_ref38_SameItems_tails : an_ref38_SameItems.tails = [] := rfl
@[simp] noncomputable def cl_ref38_SameItems : List (Nat × (List D → Option D)) := []
@[simp] noncomputable def ce_ref38_SameItems : List (Nat × (List (Nat × O) → List D → Option (D × List (Nat × O)))) := []
noncomputable def c_ref38_SameItems : CT := ⟨callOf (cl_ref38_SameItems ), callOfE ce_ref38_SameItems, gl⟩
@[simp] theorem c_ref38_SameItems_p (f : FuncId) (ds : List D) : c_ref38_SameItems.p f ds = callOf (cl_ref38_SameItems ) f ds := Eq.trans rfl rfl
@[simp] theorem c_ref38_SameItems_e (f : FuncId) (hs : List (Nat × O)) (ds : List D) : c_ref38_SameItems.e f hs ds = callOfE ce_ref38_SameItems f hs ds := Eq.trans rfl rfl
@[simp] theorem c_ref38_SameItems_g (g : Nat) : c_ref38_SameItems.g g = gl g := Eq.trans rfl rfl
noncomputable def L_ref38_SameItems (i n : Nat) (s : St) : Option (E × St) := atN Tryd.prog c_ref38_SameItems an_ref38_SameItems 26 (bodyOf Tryd.f23) i n s
noncomputable def H_ref38_SameItems (n i : Nat) (s : St) : Option (E × St) := atH Tryd.prog c_ref38_SameItems an_ref38_SameItems 26 (bodyOf Tryd.f23) n i s
@[simp] theorem H_ref38_SameItems_eq (n i : Nat) (s : St) : H_ref38_SameItems n i s = L_ref38_SameItems i n (headOf (an_ref38_SameItems.loops.lookup i) s) := rfl
noncomputable def R_ref38_SameItems (i : Nat) (s : St) : Option (E × St) := stepL Tryd.prog c_ref38_SameItems an_ref38_SameItems 26 (bodyOf Tryd.f23) i s
theorem lok_ref38_SameItems : okLoops (bodyOf Tryd.f23) = true := by kernel_rfl
theorem L_ref38_SameItems_zero (i : Nat) (s : St) : L_ref38_SameItems i 0 s = none := rfl
theorem L_ref38_SameItems_succ (i n : Nat) (s : St) : L_ref38_SameItems i (n + 1) s = andThen (R_ref38_SameItems i s) (H_ref38_SameItems n i) := atN_succ lok_ref38_SameItems i n s
theorem R_ref38_SameItems_eq (i : Nat) (s : St) : R_ref38_SameItems i s = runS Tryd.prog c_ref38_SameItems (H_ref38_SameItems bigL) an_ref38_SameItems 26 (loopAt (bodyOf Tryd.f23) i) s := rfl
noncomputable def F_ref38_SameItems (ds : List D) : Option D := runF Tryd.prog c_ref38_SameItems an_ref38_SameItems 26 (bodyOf Tryd.f23) [.tmp 4] ds
theorem F_ref38_SameItems_eq (ds : List D) : F_ref38_SameItems ds = runG Tryd.prog c_ref38_SameItems (H_ref38_SameItems bigL) an_ref38_SameItems 26 (bodyOf Tryd.f23) [.tmp 4] ds := runG_eq lok_ref38_SameItems _ ds
theorem C_ref38_SameItems (ds : List D) (r : D) (h : F_ref38_SameItems ds = some r) : Contract Tryd.prog gl 23 ds r := contract_of mix Tryd.func23 rfl (by kernel_rfl) (by kernel_rfl) (by decide) (call := c_ref38_SameItems) ⟨callOf_ok cl_ref38_SameItems trivial, callOfE_ok ce_ref38_SameItems trivial⟩ h
-- sawmill/sawmilllaw38.is: loops []; state: params 0..1, then [3, 4, 5, 6]
attribute [simp] Tryd.f12
noncomputable def an_law38_is : Ann := ⟨[0, 3, 4, 5, 6], [], [], [], [], some [4], [(2, 43)], [], [], []⟩
@[simp] theorem an_law38_is_draws : an_law38_is.draws = [(2, 43)] := rfl
@[simp] theorem an_law38_is_exits : an_law38_is.exits = [] := rfl
@[simp] theorem an_law38_is_rets : an_law38_is.rets = some [4] := rfl
@[simp] theorem an_law38_is_keep : an_law38_is.keep = [0, 3, 4, 5, 6] := rfl
@[simp] theorem an_law38_is_cond : an_law38_is.cond = [] := rfl
@[simp] theorem an_law38_is_rows : an_law38_is.rows = [] := rfl
@[simp] theorem an_law38_is_loops : an_law38_is.loops = [] := rfl
@[simp] theorem an_law38_is_ecalls : an_law38_is.ecalls = [] := rfl
@[simp] theorem an_law38_is_crows : an_law38_is.crows = [] := rfl
@[simp] theorem an_law38_is_tails : an_law38_is.tails = [] := rfl
@[simp] noncomputable def cl_law38_is : List (Nat × (List D → Option D)) := [(15, F_kiln_Kiln_Climate), (19, F_kiln_Kiln_Ticks), (20, F_kiln_Kiln_Stage), (21, F_kiln_Kiln_Done), (22, F_law38_items), (23, F_ref38_SameItems), (24, F_kiln_Kiln_Mean), (30, F_ref38_Done), (31, F_ref38_Mean)]
@[simp] noncomputable def ce_law38_is : List (Nat × (List (Nat × O) → List D → Option (D × List (Nat × O)))) := []
noncomputable def c_law38_is : CT := ⟨callOf (cl_law38_is ), callOfE ce_law38_is, gl⟩
@[simp] theorem c_law38_is_p (f : FuncId) (ds : List D) : c_law38_is.p f ds = callOf (cl_law38_is ) f ds := Eq.trans rfl rfl
@[simp] theorem c_law38_is_e (f : FuncId) (hs : List (Nat × O)) (ds : List D) : c_law38_is.e f hs ds = callOfE ce_law38_is f hs ds := Eq.trans rfl rfl
@[simp] theorem c_law38_is_g (g : Nat) : c_law38_is.g g = gl g := Eq.trans rfl rfl
noncomputable def L_law38_is (i n : Nat) (s : St) : Option (E × St) := atN Tryd.prog c_law38_is an_law38_is 57 (bodyOf Tryd.f12) i n s
noncomputable def H_law38_is (n i : Nat) (s : St) : Option (E × St) := atH Tryd.prog c_law38_is an_law38_is 57 (bodyOf Tryd.f12) n i s
@[simp] theorem H_law38_is_eq (n i : Nat) (s : St) : H_law38_is n i s = L_law38_is i n (headOf (an_law38_is.loops.lookup i) s) := rfl
noncomputable def R_law38_is (i : Nat) (s : St) : Option (E × St) := stepL Tryd.prog c_law38_is an_law38_is 57 (bodyOf Tryd.f12) i s
theorem lok_law38_is : okLoops (bodyOf Tryd.f12) = true := by kernel_rfl
noncomputable def F_law38_is (ds : List D) : Option D := runF Tryd.prog c_law38_is an_law38_is 57 (bodyOf Tryd.f12) [.tmp 4] ds
theorem F_law38_is_eq (ds : List D) : F_law38_is ds = runG Tryd.prog c_law38_is (H_law38_is bigL) an_law38_is 57 (bodyOf Tryd.f12) [.tmp 4] ds := runG_eq lok_law38_is _ ds
theorem C_law38_is (ds : List D) (r : D) (h : F_law38_is ds = some r) : Contract Tryd.prog gl 12 ds r := contract_of mix Tryd.func12 rfl (by kernel_rfl) (by kernel_rfl) (by decide) (call := c_law38_is) ⟨callOf_ok cl_law38_is ⟨C_kiln_Kiln_Climate, C_kiln_Kiln_Ticks, C_kiln_Kiln_Stage, C_kiln_Kiln_Done, C_law38_items, C_ref38_SameItems, C_kiln_Kiln_Mean, C_ref38_Done, C_ref38_Mean, trivial⟩, callOfE_ok ce_law38_is trivial⟩ h
-- sawmill/sawmilllaw38.KilnBegins: loops []; state: params 0..0, then [1, 2, 3, 4, 5, 6]
attribute [simp] Tryd.f3
noncomputable def an_law38_KilnBegins : Ann := ⟨[1, 2, 3, 4, 5, 6], [9, 35], [], [], [], some [2], [], [(10, false)], [], []⟩
@[simp] theorem an_law38_KilnBegins_draws : an_law38_KilnBegins.draws = [] := rfl
@[simp] theorem an_law38_KilnBegins_exits : an_law38_KilnBegins.exits = [] := rfl
@[simp] theorem an_law38_KilnBegins_rets : an_law38_KilnBegins.rets = some [2] := rfl
@[simp] theorem an_law38_KilnBegins_keep : an_law38_KilnBegins.keep = [1, 2, 3, 4, 5, 6] := rfl
@[simp] theorem an_law38_KilnBegins_cond : an_law38_KilnBegins.cond = [9, 35] := rfl
@[simp] theorem an_law38_KilnBegins_rows : an_law38_KilnBegins.rows = [] := rfl
@[simp] theorem an_law38_KilnBegins_loops : an_law38_KilnBegins.loops = [] := rfl
@[simp] theorem an_law38_KilnBegins_ecalls : an_law38_KilnBegins.ecalls = [(10, false)] := rfl
@[simp] theorem an_law38_KilnBegins_crows : an_law38_KilnBegins.crows = [] := rfl
@[simp] theorem an_law38_KilnBegins_tails : an_law38_KilnBegins.tails = [] := rfl
@[simp] noncomputable def cl_law38_KilnBegins : List (Nat × (List D → Option D)) := [(8, F_law38_light), (9, F_law38_awake), (11, F_ref38_New), (12, F_law38_is)]
@[simp] noncomputable def ce_law38_KilnBegins : List (Nat × (List (Nat × O) → List D → Option (D × List (Nat × O)))) := [(10, E_law38_begun)]
noncomputable def c_law38_KilnBegins : CT := ⟨callOf (cl_law38_KilnBegins ), callOfE ce_law38_KilnBegins, gl⟩
@[simp] theorem c_law38_KilnBegins_p (f : FuncId) (ds : List D) : c_law38_KilnBegins.p f ds = callOf (cl_law38_KilnBegins ) f ds := Eq.trans rfl rfl
@[simp] theorem c_law38_KilnBegins_e (f : FuncId) (hs : List (Nat × O)) (ds : List D) : c_law38_KilnBegins.e f hs ds = callOfE ce_law38_KilnBegins f hs ds := Eq.trans rfl rfl
@[simp] theorem c_law38_KilnBegins_g (g : Nat) : c_law38_KilnBegins.g g = gl g := Eq.trans rfl rfl
noncomputable def L_law38_KilnBegins (i n : Nat) (s : St) : Option (E × St) := atN Tryd.prog c_law38_KilnBegins an_law38_KilnBegins 46 (bodyOf Tryd.f3) i n s
noncomputable def H_law38_KilnBegins (n i : Nat) (s : St) : Option (E × St) := atH Tryd.prog c_law38_KilnBegins an_law38_KilnBegins 46 (bodyOf Tryd.f3) n i s
@[simp] theorem H_law38_KilnBegins_eq (n i : Nat) (s : St) : H_law38_KilnBegins n i s = L_law38_KilnBegins i n (headOf (an_law38_KilnBegins.loops.lookup i) s) := rfl
noncomputable def R_law38_KilnBegins (i : Nat) (s : St) : Option (E × St) := stepL Tryd.prog c_law38_KilnBegins an_law38_KilnBegins 46 (bodyOf Tryd.f3) i s
theorem lok_law38_KilnBegins : okLoops (bodyOf Tryd.f3) = true := by kernel_rfl
noncomputable def F_law38_KilnBegins (ds : List D) : Option D := runF Tryd.prog c_law38_KilnBegins an_law38_KilnBegins 46 (bodyOf Tryd.f3) [.tmp 2] ds
theorem F_law38_KilnBegins_eq (ds : List D) : F_law38_KilnBegins ds = runG Tryd.prog c_law38_KilnBegins (H_law38_KilnBegins bigL) an_law38_KilnBegins 46 (bodyOf Tryd.f3) [.tmp 2] ds := runG_eq lok_law38_KilnBegins _ ds
theorem C_law38_KilnBegins (ds : List D) (r : D) (h : F_law38_KilnBegins ds = some r) : Contract Tryd.prog gl 3 ds r := contract_of mix Tryd.func3 rfl (by kernel_rfl) (by kernel_rfl) (by decide) (call := c_law38_KilnBegins) ⟨callOf_ok cl_law38_KilnBegins ⟨C_law38_light, C_law38_awake, C_ref38_New, C_law38_is, trivial⟩, callOfE_ok ce_law38_KilnBegins ⟨CE_law38_begun, trivial⟩⟩ h
-- sawmill/sawmilllaw38.few: loops [2]; state: params 0..0, then [2, 3]
attribute [simp] Tryd.f13
noncomputable def an_law38_few : Ann := ⟨[0, 2, 3], [7, 15], [], [(2, [0, 3])], [(0, [0]), (1, [0, 3])], some [2], [], [], [], []⟩
@[simp] theorem an_law38_few_draws : an_law38_few.draws = [] := rfl
@[simp] theorem an_law38_few_exits : an_law38_few.exits = [(0, [0]), (1, [0, 3])] := rfl
@[simp] theorem an_law38_few_rets : an_law38_few.rets = some [2] := rfl
@[simp] theorem an_law38_few_keep : an_law38_few.keep = [0, 2, 3] := rfl
@[simp] theorem an_law38_few_cond : an_law38_few.cond = [7, 15] := rfl
@[simp] theorem an_law38_few_rows : an_law38_few.rows = [] := rfl
@[simp] theorem an_law38_few_loops : an_law38_few.loops = [(2, [0, 3])] := rfl
@[simp] theorem an_law38_few_ecalls : an_law38_few.ecalls = [] := rfl
@[simp] theorem an_law38_few_crows : an_law38_few.crows = [] := rfl
@[simp] theorem an_law38_few_tails : an_law38_few.tails = [] := rfl
@[simp] noncomputable def cl_law38_few : List (Nat × (List D → Option D)) := []
@[simp] noncomputable def ce_law38_few : List (Nat × (List (Nat × O) → List D → Option (D × List (Nat × O)))) := []
noncomputable def c_law38_few : CT := ⟨callOf (cl_law38_few ), callOfE ce_law38_few, gl⟩
@[simp] theorem c_law38_few_p (f : FuncId) (ds : List D) : c_law38_few.p f ds = callOf (cl_law38_few ) f ds := Eq.trans rfl rfl
@[simp] theorem c_law38_few_e (f : FuncId) (hs : List (Nat × O)) (ds : List D) : c_law38_few.e f hs ds = callOfE ce_law38_few f hs ds := Eq.trans rfl rfl
@[simp] theorem c_law38_few_g (g : Nat) : c_law38_few.g g = gl g := Eq.trans rfl rfl
noncomputable def L_law38_few (i n : Nat) (s : St) : Option (E × St) := atN Tryd.prog c_law38_few an_law38_few 19 (bodyOf Tryd.f13) i n s
noncomputable def H_law38_few (n i : Nat) (s : St) : Option (E × St) := atH Tryd.prog c_law38_few an_law38_few 19 (bodyOf Tryd.f13) n i s
@[simp] theorem H_law38_few_eq (n i : Nat) (s : St) : H_law38_few n i s = L_law38_few i n (headOf (an_law38_few.loops.lookup i) s) := rfl
noncomputable def R_law38_few (i : Nat) (s : St) : Option (E × St) := stepL Tryd.prog c_law38_few an_law38_few 19 (bodyOf Tryd.f13) i s
theorem lok_law38_few : okLoops (bodyOf Tryd.f13) = true := by kernel_rfl
theorem L_law38_few_zero (i : Nat) (s : St) : L_law38_few i 0 s = none := rfl
theorem L_law38_few_succ (i n : Nat) (s : St) : L_law38_few i (n + 1) s = andThen (R_law38_few i s) (H_law38_few n i) := atN_succ lok_law38_few i n s
theorem R_law38_few_eq (i : Nat) (s : St) : R_law38_few i s = runS Tryd.prog c_law38_few (H_law38_few bigL) an_law38_few 19 (loopAt (bodyOf Tryd.f13) i) s := rfl
noncomputable def F_law38_few (ds : List D) : Option D := runF Tryd.prog c_law38_few an_law38_few 19 (bodyOf Tryd.f13) [.tmp 2] ds
theorem F_law38_few_eq (ds : List D) : F_law38_few ds = runG Tryd.prog c_law38_few (H_law38_few bigL) an_law38_few 19 (bodyOf Tryd.f13) [.tmp 2] ds := runG_eq lok_law38_few _ ds
theorem C_law38_few (ds : List D) (r : D) (h : F_law38_few ds = some r) : Contract Tryd.prog gl 13 ds r := contract_of mix Tryd.func13 rfl (by kernel_rfl) (by kernel_rfl) (by decide) (call := c_law38_few) ⟨callOf_ok cl_law38_few trivial, callOfE_ok ce_law38_few trivial⟩ h
-- sawmill/sawmilllaw38.KilnLimits: loops [7, 17]; state: params 0..1, then [2, 4, 5, 6, 7, 8, 9, 10]
attribute [simp] Tryd.f4
noncomputable def an_law38_KilnLimits : Ann := ⟨[1, 2, 4, 5, 6, 7, 8, 9, 10], [18, 30, 35, 69, 77, 81, 124], [], [(7, [1, 2, 5, 7]), (17, [1, 2, 5, 7, 9, 10])], [(0, []), (1, [1, 2, 5, 7]), (2, [1, 2, 5, 7]), (3, [1, 2, 5, 7, 9, 10])], some [4], [(19, 38)], [(10, false), (14, false)], [], []⟩
@[simp] theorem an_law38_KilnLimits_draws : an_law38_KilnLimits.draws = [(19, 38)] := rfl
@[simp] theorem an_law38_KilnLimits_exits : an_law38_KilnLimits.exits = [(0, []), (1, [1, 2, 5, 7]), (2, [1, 2, 5, 7]), (3, [1, 2, 5, 7, 9, 10])] := rfl
@[simp] theorem an_law38_KilnLimits_rets : an_law38_KilnLimits.rets = some [4] := rfl
@[simp] theorem an_law38_KilnLimits_keep : an_law38_KilnLimits.keep = [1, 2, 4, 5, 6, 7, 8, 9, 10] := rfl
@[simp] theorem an_law38_KilnLimits_cond : an_law38_KilnLimits.cond = [18, 30, 35, 69, 77, 81, 124] := rfl
@[simp] theorem an_law38_KilnLimits_rows : an_law38_KilnLimits.rows = [] := rfl
@[simp] theorem an_law38_KilnLimits_loops : an_law38_KilnLimits.loops = [(7, [1, 2, 5, 7]), (17, [1, 2, 5, 7, 9, 10])] := rfl
@[simp] theorem an_law38_KilnLimits_ecalls : an_law38_KilnLimits.ecalls = [(10, false), (14, false)] := rfl
@[simp] theorem an_law38_KilnLimits_crows : an_law38_KilnLimits.crows = [] := rfl
@[simp] theorem an_law38_KilnLimits_tails : an_law38_KilnLimits.tails = [] := rfl
@[simp] noncomputable def cl_law38_KilnLimits : List (Nat × (List D → Option D)) := [(8, F_law38_light), (9, F_law38_awake), (13, F_law38_few), (15, F_kiln_Kiln_Climate), (16, F_kiln_Kiln_Items), (17, F_moist_Check), (18, F_moist_Gradient)]
@[simp] noncomputable def ce_law38_KilnLimits : List (Nat × (List (Nat × O) → List D → Option (D × List (Nat × O)))) := [(10, E_law38_begun), (14, E_kiln_Kiln_Tick)]
noncomputable def c_law38_KilnLimits : CT := ⟨callOf (cl_law38_KilnLimits ), callOfE ce_law38_KilnLimits, gl⟩
@[simp] theorem c_law38_KilnLimits_p (f : FuncId) (ds : List D) : c_law38_KilnLimits.p f ds = callOf (cl_law38_KilnLimits ) f ds := Eq.trans rfl rfl
@[simp] theorem c_law38_KilnLimits_e (f : FuncId) (hs : List (Nat × O)) (ds : List D) : c_law38_KilnLimits.e f hs ds = callOfE ce_law38_KilnLimits f hs ds := Eq.trans rfl rfl
@[simp] theorem c_law38_KilnLimits_g (g : Nat) : c_law38_KilnLimits.g g = gl g := Eq.trans rfl rfl
noncomputable def L_law38_KilnLimits (i n : Nat) (s : St) : Option (E × St) := atN Tryd.prog c_law38_KilnLimits an_law38_KilnLimits 126 (bodyOf Tryd.f4) i n s
noncomputable def H_law38_KilnLimits (n i : Nat) (s : St) : Option (E × St) := atH Tryd.prog c_law38_KilnLimits an_law38_KilnLimits 126 (bodyOf Tryd.f4) n i s
@[simp] theorem H_law38_KilnLimits_eq (n i : Nat) (s : St) : H_law38_KilnLimits n i s = L_law38_KilnLimits i n (headOf (an_law38_KilnLimits.loops.lookup i) s) := rfl
noncomputable def R_law38_KilnLimits (i : Nat) (s : St) : Option (E × St) := stepL Tryd.prog c_law38_KilnLimits an_law38_KilnLimits 126 (bodyOf Tryd.f4) i s
theorem lok_law38_KilnLimits : okLoops (bodyOf Tryd.f4) = true := by kernel_rfl
theorem L_law38_KilnLimits_zero (i : Nat) (s : St) : L_law38_KilnLimits i 0 s = none := rfl
theorem L_law38_KilnLimits_succ (i n : Nat) (s : St) : L_law38_KilnLimits i (n + 1) s = andThen (R_law38_KilnLimits i s) (H_law38_KilnLimits n i) := atN_succ lok_law38_KilnLimits i n s
theorem R_law38_KilnLimits_eq (i : Nat) (s : St) : R_law38_KilnLimits i s = runS Tryd.prog c_law38_KilnLimits (H_law38_KilnLimits bigL) an_law38_KilnLimits 126 (loopAt (bodyOf Tryd.f4) i) s := rfl
noncomputable def F_law38_KilnLimits (ds : List D) : Option D := runF Tryd.prog c_law38_KilnLimits an_law38_KilnLimits 126 (bodyOf Tryd.f4) [.tmp 4] ds
theorem F_law38_KilnLimits_eq (ds : List D) : F_law38_KilnLimits ds = runG Tryd.prog c_law38_KilnLimits (H_law38_KilnLimits bigL) an_law38_KilnLimits 126 (bodyOf Tryd.f4) [.tmp 4] ds := runG_eq lok_law38_KilnLimits _ ds
theorem C_law38_KilnLimits (ds : List D) (r : D) (h : F_law38_KilnLimits ds = some r) : Contract Tryd.prog gl 4 ds r := contract_of mix Tryd.func4 rfl (by kernel_rfl) (by kernel_rfl) (by decide) (call := c_law38_KilnLimits) ⟨callOf_ok cl_law38_KilnLimits ⟨C_law38_light, C_law38_awake, C_law38_few, C_kiln_Kiln_Climate, C_kiln_Kiln_Items, C_moist_Check, C_moist_Gradient, trivial⟩, callOfE_ok ce_law38_KilnLimits ⟨CE_law38_begun, CE_kiln_Kiln_Tick, trivial⟩⟩ h
-- sawmill/sawmilllaw38.KilnCounts: loops [7]; state: params 0..1, then [2, 4, 5, 6, 7, 8, 9, 10, 11, 12, 13, 14, 15, 16]
attribute [simp] Tryd.f5
noncomputable def an_law38_KilnCounts : Ann := ⟨[1, 2, 4, 5, 6, 7, 8, 9, 10, 11, 12, 13, 14, 15, 16], [24, 36, 41, 68, 103, 154], [], [(7, [1, 2, 5, 7])], [(0, []), (1, [1, 2, 5, 7])], some [4], [(14, 27), (16, 48)], [(10, false), (14, false)], [], []⟩
@[simp] theorem an_law38_KilnCounts_draws : an_law38_KilnCounts.draws = [(14, 27), (16, 48)] := rfl
@[simp] theorem an_law38_KilnCounts_exits : an_law38_KilnCounts.exits = [(0, []), (1, [1, 2, 5, 7])] := rfl
@[simp] theorem an_law38_KilnCounts_rets : an_law38_KilnCounts.rets = some [4] := rfl
@[simp] theorem an_law38_KilnCounts_keep : an_law38_KilnCounts.keep = [1, 2, 4, 5, 6, 7, 8, 9, 10, 11, 12, 13, 14, 15, 16] := rfl
@[simp] theorem an_law38_KilnCounts_cond : an_law38_KilnCounts.cond = [24, 36, 41, 68, 103, 154] := rfl
@[simp] theorem an_law38_KilnCounts_rows : an_law38_KilnCounts.rows = [] := rfl
@[simp] theorem an_law38_KilnCounts_loops : an_law38_KilnCounts.loops = [(7, [1, 2, 5, 7])] := rfl
@[simp] theorem an_law38_KilnCounts_ecalls : an_law38_KilnCounts.ecalls = [(10, false), (14, false)] := rfl
@[simp] theorem an_law38_KilnCounts_crows : an_law38_KilnCounts.crows = [] := rfl
@[simp] theorem an_law38_KilnCounts_tails : an_law38_KilnCounts.tails = [] := rfl
@[simp] noncomputable def cl_law38_KilnCounts : List (Nat × (List D → Option D)) := [(8, F_law38_light), (9, F_law38_awake), (13, F_law38_few), (15, F_kiln_Kiln_Climate), (19, F_kiln_Kiln_Ticks), (20, F_kiln_Kiln_Stage), (21, F_kiln_Kiln_Done), (22, F_law38_items), (23, F_ref38_SameItems)]
@[simp] noncomputable def ce_law38_KilnCounts : List (Nat × (List (Nat × O) → List D → Option (D × List (Nat × O)))) := [(10, E_law38_begun), (14, E_kiln_Kiln_Tick)]
noncomputable def c_law38_KilnCounts : CT := ⟨callOf (cl_law38_KilnCounts ), callOfE ce_law38_KilnCounts, gl⟩
@[simp] theorem c_law38_KilnCounts_p (f : FuncId) (ds : List D) : c_law38_KilnCounts.p f ds = callOf (cl_law38_KilnCounts ) f ds := Eq.trans rfl rfl
@[simp] theorem c_law38_KilnCounts_e (f : FuncId) (hs : List (Nat × O)) (ds : List D) : c_law38_KilnCounts.e f hs ds = callOfE ce_law38_KilnCounts f hs ds := Eq.trans rfl rfl
@[simp] theorem c_law38_KilnCounts_g (g : Nat) : c_law38_KilnCounts.g g = gl g := Eq.trans rfl rfl
noncomputable def L_law38_KilnCounts (i n : Nat) (s : St) : Option (E × St) := atN Tryd.prog c_law38_KilnCounts an_law38_KilnCounts 156 (bodyOf Tryd.f5) i n s
noncomputable def H_law38_KilnCounts (n i : Nat) (s : St) : Option (E × St) := atH Tryd.prog c_law38_KilnCounts an_law38_KilnCounts 156 (bodyOf Tryd.f5) n i s
@[simp] theorem H_law38_KilnCounts_eq (n i : Nat) (s : St) : H_law38_KilnCounts n i s = L_law38_KilnCounts i n (headOf (an_law38_KilnCounts.loops.lookup i) s) := rfl
noncomputable def R_law38_KilnCounts (i : Nat) (s : St) : Option (E × St) := stepL Tryd.prog c_law38_KilnCounts an_law38_KilnCounts 156 (bodyOf Tryd.f5) i s
theorem lok_law38_KilnCounts : okLoops (bodyOf Tryd.f5) = true := by kernel_rfl
theorem L_law38_KilnCounts_zero (i : Nat) (s : St) : L_law38_KilnCounts i 0 s = none := rfl
theorem L_law38_KilnCounts_succ (i n : Nat) (s : St) : L_law38_KilnCounts i (n + 1) s = andThen (R_law38_KilnCounts i s) (H_law38_KilnCounts n i) := atN_succ lok_law38_KilnCounts i n s
theorem R_law38_KilnCounts_eq (i : Nat) (s : St) : R_law38_KilnCounts i s = runS Tryd.prog c_law38_KilnCounts (H_law38_KilnCounts bigL) an_law38_KilnCounts 156 (loopAt (bodyOf Tryd.f5) i) s := rfl
noncomputable def F_law38_KilnCounts (ds : List D) : Option D := runF Tryd.prog c_law38_KilnCounts an_law38_KilnCounts 156 (bodyOf Tryd.f5) [.tmp 4] ds
theorem F_law38_KilnCounts_eq (ds : List D) : F_law38_KilnCounts ds = runG Tryd.prog c_law38_KilnCounts (H_law38_KilnCounts bigL) an_law38_KilnCounts 156 (bodyOf Tryd.f5) [.tmp 4] ds := runG_eq lok_law38_KilnCounts _ ds
theorem C_law38_KilnCounts (ds : List D) (r : D) (h : F_law38_KilnCounts ds = some r) : Contract Tryd.prog gl 5 ds r := contract_of mix Tryd.func5 rfl (by kernel_rfl) (by kernel_rfl) (by decide) (call := c_law38_KilnCounts) ⟨callOf_ok cl_law38_KilnCounts ⟨C_law38_light, C_law38_awake, C_law38_few, C_kiln_Kiln_Climate, C_kiln_Kiln_Ticks, C_kiln_Kiln_Stage, C_kiln_Kiln_Done, C_law38_items, C_ref38_SameItems, trivial⟩, callOfE_ok ce_law38_KilnCounts ⟨CE_law38_begun, CE_kiln_Kiln_Tick, trivial⟩⟩ h
-- sawmill/sawmilllaw38.KilnAlone: loops [11, 16]; state: params 0..2, then [3, 6, 7, 8, 9, 10, 11, 12, 13, 14, 16, 17, 18]
attribute [simp] Tryd.f6
noncomputable def an_law38_KilnAlone : Ann := ⟨[2, 3, 6, 7, 8, 9, 10, 11, 12, 13, 14, 16, 17, 18], [31, 49, 77, 81, 88, 96, 131, 163], [13], [(11, [2, 3, 7, 9, 10, 12]), (16, [2, 3, 7, 9, 10, 12, 13, 14])], [(0, []), (1, [2, 3, 7, 9, 10, 12]), (2, [2, 3, 7, 9, 10, 12, 13]), (3, [2, 3, 7, 9, 10, 12, 13, 14])], some [6], [(7, 11), (18, 16), (24, 25)], [(10, false), (14, false)], [], [(7, (.alt 11 (.alt 12 (.alt 13 (.alt 14 (.alt 15 (.alt 16 .leaf .leaf) .leaf) (.alt 15 (.alt 14 (.alt 16 .leaf .leaf) .leaf) .leaf)) (.alt 14 (.alt 13 (.alt 15 (.alt 16 .leaf .leaf) .leaf) .leaf) .leaf)) .leaf) .leaf))]⟩
@[simp] theorem an_law38_KilnAlone_draws : an_law38_KilnAlone.draws = [(7, 11), (18, 16), (24, 25)] := rfl
@[simp] theorem an_law38_KilnAlone_exits : an_law38_KilnAlone.exits = [(0, []), (1, [2, 3, 7, 9, 10, 12]), (2, [2, 3, 7, 9, 10, 12, 13]), (3, [2, 3, 7, 9, 10, 12, 13, 14])] := rfl
@[simp] theorem an_law38_KilnAlone_rets : an_law38_KilnAlone.rets = some [6] := rfl
@[simp] theorem an_law38_KilnAlone_keep : an_law38_KilnAlone.keep = [2, 3, 6, 7, 8, 9, 10, 11, 12, 13, 14, 16, 17, 18] := rfl
@[simp] theorem an_law38_KilnAlone_cond : an_law38_KilnAlone.cond = [31, 49, 77, 81, 88, 96, 131, 163] := rfl
@[simp] theorem an_law38_KilnAlone_rows : an_law38_KilnAlone.rows = [13] := rfl
@[simp] theorem an_law38_KilnAlone_loops : an_law38_KilnAlone.loops = [(11, [2, 3, 7, 9, 10, 12]), (16, [2, 3, 7, 9, 10, 12, 13, 14])] := rfl
@[simp] theorem an_law38_KilnAlone_ecalls : an_law38_KilnAlone.ecalls = [(10, false), (14, false)] := rfl
@[simp] theorem an_law38_KilnAlone_crows : an_law38_KilnAlone.crows = [] := rfl
@[simp] theorem an_law38_KilnAlone_tails : an_law38_KilnAlone.tails = [(7, (.alt 11 (.alt 12 (.alt 13 (.alt 14 (.alt 15 (.alt 16 .leaf .leaf) .leaf) (.alt 15 (.alt 14 (.alt 16 .leaf .leaf) .leaf) .leaf)) (.alt 14 (.alt 13 (.alt 15 (.alt 16 .leaf .leaf) .leaf) .leaf) .leaf)) .leaf) .leaf))] := rfl
@[simp] noncomputable def cl_law38_KilnAlone : List (Nat × (List D → Option D)) := [(8, F_law38_light), (9, F_law38_awake), (13, F_law38_few), (15, F_kiln_Kiln_Climate), (19, F_kiln_Kiln_Ticks), (20, F_kiln_Kiln_Stage), (22, F_law38_items)]
@[simp] noncomputable def ce_law38_KilnAlone : List (Nat × (List (Nat × O) → List D → Option (D × List (Nat × O)))) := [(10, E_law38_begun), (14, E_kiln_Kiln_Tick)]
noncomputable def c_law38_KilnAlone : CT := ⟨callOf (cl_law38_KilnAlone ), callOfE ce_law38_KilnAlone, gl⟩
@[simp] theorem c_law38_KilnAlone_p (f : FuncId) (ds : List D) : c_law38_KilnAlone.p f ds = callOf (cl_law38_KilnAlone ) f ds := Eq.trans rfl rfl
@[simp] theorem c_law38_KilnAlone_e (f : FuncId) (hs : List (Nat × O)) (ds : List D) : c_law38_KilnAlone.e f hs ds = callOfE ce_law38_KilnAlone f hs ds := Eq.trans rfl rfl
@[simp] theorem c_law38_KilnAlone_g (g : Nat) : c_law38_KilnAlone.g g = gl g := Eq.trans rfl rfl
noncomputable def L_law38_KilnAlone (i n : Nat) (s : St) : Option (E × St) := atN Tryd.prog c_law38_KilnAlone an_law38_KilnAlone 165 (bodyOf Tryd.f6) i n s
noncomputable def H_law38_KilnAlone (n i : Nat) (s : St) : Option (E × St) := atH Tryd.prog c_law38_KilnAlone an_law38_KilnAlone 165 (bodyOf Tryd.f6) n i s
@[simp] theorem H_law38_KilnAlone_eq (n i : Nat) (s : St) : H_law38_KilnAlone n i s = L_law38_KilnAlone i n (headOf (an_law38_KilnAlone.loops.lookup i) s) := rfl
noncomputable def R_law38_KilnAlone (i : Nat) (s : St) : Option (E × St) := stepL Tryd.prog c_law38_KilnAlone an_law38_KilnAlone 165 (bodyOf Tryd.f6) i s
theorem lok_law38_KilnAlone : okLoops (bodyOf Tryd.f6) = true := by kernel_rfl
theorem L_law38_KilnAlone_zero (i : Nat) (s : St) : L_law38_KilnAlone i 0 s = none := rfl
theorem L_law38_KilnAlone_succ (i n : Nat) (s : St) : L_law38_KilnAlone i (n + 1) s = andThen (R_law38_KilnAlone i s) (H_law38_KilnAlone n i) := atN_succ lok_law38_KilnAlone i n s
theorem R_law38_KilnAlone_eq (i : Nat) (s : St) : R_law38_KilnAlone i s = runS Tryd.prog c_law38_KilnAlone (H_law38_KilnAlone bigL) an_law38_KilnAlone 165 (loopAt (bodyOf Tryd.f6) i) s := rfl
noncomputable def F_law38_KilnAlone (ds : List D) : Option D := runF Tryd.prog c_law38_KilnAlone an_law38_KilnAlone 165 (bodyOf Tryd.f6) [.tmp 6] ds
theorem F_law38_KilnAlone_eq (ds : List D) : F_law38_KilnAlone ds = runG Tryd.prog c_law38_KilnAlone (H_law38_KilnAlone bigL) an_law38_KilnAlone 165 (bodyOf Tryd.f6) [.tmp 6] ds := runG_eq lok_law38_KilnAlone _ ds
theorem C_law38_KilnAlone (ds : List D) (r : D) (h : F_law38_KilnAlone ds = some r) : Contract Tryd.prog gl 6 ds r := contract_of mix Tryd.func6 rfl (by kernel_rfl) (by kernel_rfl) (by decide) (call := c_law38_KilnAlone) ⟨callOf_ok cl_law38_KilnAlone ⟨C_law38_light, C_law38_awake, C_law38_few, C_kiln_Kiln_Climate, C_kiln_Kiln_Ticks, C_kiln_Kiln_Stage, C_law38_items, trivial⟩, callOfE_ok ce_law38_KilnAlone ⟨CE_law38_begun, CE_kiln_Kiln_Tick, trivial⟩⟩ h
-- sawmill/sawmilllaw38.KilnNone: loops []; state: params 0..0, then [2, 3, 4, 5]
attribute [simp] Tryd.f7
noncomputable def an_law38_KilnNone : Ann := ⟨[2, 3, 4, 5], [], [], [], [], some [2], [], [(14, false)], [], []⟩
@[simp] theorem an_law38_KilnNone_draws : an_law38_KilnNone.draws = [] := rfl
@[simp] theorem an_law38_KilnNone_exits : an_law38_KilnNone.exits = [] := rfl
@[simp] theorem an_law38_KilnNone_rets : an_law38_KilnNone.rets = some [2] := rfl
@[simp] theorem an_law38_KilnNone_keep : an_law38_KilnNone.keep = [2, 3, 4, 5] := rfl
@[simp] theorem an_law38_KilnNone_cond : an_law38_KilnNone.cond = [] := rfl
@[simp] theorem an_law38_KilnNone_rows : an_law38_KilnNone.rows = [] := rfl
@[simp] theorem an_law38_KilnNone_loops : an_law38_KilnNone.loops = [] := rfl
@[simp] theorem an_law38_KilnNone_ecalls : an_law38_KilnNone.ecalls = [(14, false)] := rfl
@[simp] theorem an_law38_KilnNone_crows : an_law38_KilnNone.crows = [] := rfl
@[simp] theorem an_law38_KilnNone_tails : an_law38_KilnNone.tails = [] := rfl
@[simp] noncomputable def cl_law38_KilnNone : List (Nat × (List D → Option D)) := [(9, F_law38_awake), (15, F_kiln_Kiln_Climate), (16, F_kiln_Kiln_Items), (19, F_kiln_Kiln_Ticks), (20, F_kiln_Kiln_Stage), (21, F_kiln_Kiln_Done), (24, F_kiln_Kiln_Mean)]
@[simp] noncomputable def ce_law38_KilnNone : List (Nat × (List (Nat × O) → List D → Option (D × List (Nat × O)))) := [(14, E_kiln_Kiln_Tick)]
noncomputable def c_law38_KilnNone : CT := ⟨callOf (cl_law38_KilnNone ), callOfE ce_law38_KilnNone, gl⟩
@[simp] theorem c_law38_KilnNone_p (f : FuncId) (ds : List D) : c_law38_KilnNone.p f ds = callOf (cl_law38_KilnNone ) f ds := Eq.trans rfl rfl
@[simp] theorem c_law38_KilnNone_e (f : FuncId) (hs : List (Nat × O)) (ds : List D) : c_law38_KilnNone.e f hs ds = callOfE ce_law38_KilnNone f hs ds := Eq.trans rfl rfl
@[simp] theorem c_law38_KilnNone_g (g : Nat) : c_law38_KilnNone.g g = gl g := Eq.trans rfl rfl
noncomputable def L_law38_KilnNone (i n : Nat) (s : St) : Option (E × St) := atN Tryd.prog c_law38_KilnNone an_law38_KilnNone 53 (bodyOf Tryd.f7) i n s
noncomputable def H_law38_KilnNone (n i : Nat) (s : St) : Option (E × St) := atH Tryd.prog c_law38_KilnNone an_law38_KilnNone 53 (bodyOf Tryd.f7) n i s
@[simp] theorem H_law38_KilnNone_eq (n i : Nat) (s : St) : H_law38_KilnNone n i s = L_law38_KilnNone i n (headOf (an_law38_KilnNone.loops.lookup i) s) := rfl
noncomputable def R_law38_KilnNone (i : Nat) (s : St) : Option (E × St) := stepL Tryd.prog c_law38_KilnNone an_law38_KilnNone 53 (bodyOf Tryd.f7) i s
theorem lok_law38_KilnNone : okLoops (bodyOf Tryd.f7) = true := by kernel_rfl
noncomputable def F_law38_KilnNone (ds : List D) : Option D := runF Tryd.prog c_law38_KilnNone an_law38_KilnNone 53 (bodyOf Tryd.f7) [.tmp 2] ds
theorem F_law38_KilnNone_eq (ds : List D) : F_law38_KilnNone ds = runG Tryd.prog c_law38_KilnNone (H_law38_KilnNone bigL) an_law38_KilnNone 53 (bodyOf Tryd.f7) [.tmp 2] ds := runG_eq lok_law38_KilnNone _ ds
theorem C_law38_KilnNone (ds : List D) (r : D) (h : F_law38_KilnNone ds = some r) : Contract Tryd.prog gl 7 ds r := contract_of mix Tryd.func7 rfl (by kernel_rfl) (by kernel_rfl) (by decide) (call := c_law38_KilnNone) ⟨callOf_ok cl_law38_KilnNone ⟨C_law38_awake, C_kiln_Kiln_Climate, C_kiln_Kiln_Items, C_kiln_Kiln_Ticks, C_kiln_Kiln_Stage, C_kiln_Kiln_Done, C_kiln_Kiln_Mean, trivial⟩, callOfE_ok ce_law38_KilnNone ⟨CE_kiln_Kiln_Tick, trivial⟩⟩ h
end Go.Proofs.YthgamgdcjgbmnaaDoor

