/-
  Printed by gen.py for this seat: facts about the types that the laws reach; for each function its annotation (what is kept behind a region, which rows are a variable's own, what is alive at the head of a loop), its abstract run, and that the run is its contract.
-/
import Derived.Test.YtgngoijehjphoaaDoorAbs3
import Derived.Test.YtgngoijehjphoaaDoorRows
import Derived.Test.YtgngoijehjphoaaDoorLibL
namespace Go.Proofs.YtgngoijehjphoaaDoor
open Go Go.Abs
set_option maxRecDepth 100000
set_option linter.unusedSimpArgs false
set_option linter.unusedVariables false
theorem mix : Tryd.prog.follows .mixedOrders = true := by kernel_rfl
theorem laid : laidOutB Tryd.prog = true := by kernel_rfl
-- 0 ()
attribute [simp] Tryd.underlying0
@[simp] theorem sz0 : szT Tryd.prog 0 = some 1 := by kernel_rfl
@[simp] theorem co0 : Tryd.prog.cellsOf 0 = 1 := by kernel_rfl
@[simp] theorem ag0 : aggT Tryd.prog 0 = some false := by kernel_rfl
-- 1 func()
attribute [simp] Tryd.underlying1
@[simp] theorem sz1 : szT Tryd.prog 1 = some 1 := by kernel_rfl
@[simp] theorem co1 : Tryd.prog.cellsOf 1 = 1 := by kernel_rfl
@[simp] theorem ag1 : aggT Tryd.prog 1 = some false := by kernel_rfl
@[simp] theorem zr1 : zeroD Tryd.prog 1 = some [.x .nilFunc] := by kernel_rfl
-- 2 int64
attribute [simp] Tryd.underlying2
@[simp] theorem sz2 : szT Tryd.prog 2 = some 1 := by kernel_rfl
@[simp] theorem co2 : Tryd.prog.cellsOf 2 = 1 := by kernel_rfl
@[simp] theorem ag2 : aggT Tryd.prog 2 = some false := by kernel_rfl
@[simp] theorem zr2 : zeroD Tryd.prog 2 = some [.x (.int .i64 0)] := by kernel_rfl
@[simp] theorem zv2 : zeroV Tryd.prog 2 = some (.int .i64 0) := by kernel_rfl
-- 3 int
attribute [simp] Tryd.underlying3
@[simp] theorem sz3 : szT Tryd.prog 3 = some 1 := by kernel_rfl
@[simp] theorem co3 : Tryd.prog.cellsOf 3 = 1 := by kernel_rfl
@[simp] theorem ag3 : aggT Tryd.prog 3 = some false := by kernel_rfl
@[simp] theorem zr3 : zeroD Tryd.prog 3 = some [.x (.int .i64 0)] := by kernel_rfl
@[simp] theorem zv3 : zeroV Tryd.prog 3 = some (.int .i64 0) := by kernel_rfl
-- 4 bool
attribute [simp] Tryd.underlying4
@[simp] theorem sz4 : szT Tryd.prog 4 = some 1 := by kernel_rfl
@[simp] theorem co4 : Tryd.prog.cellsOf 4 = 1 := by kernel_rfl
@[simp] theorem ag4 : aggT Tryd.prog 4 = some false := by kernel_rfl
@[simp] theorem zr4 : zeroD Tryd.prog 4 = some [.x (.bool false)] := by kernel_rfl
@[simp] theorem zv4 : zeroV Tryd.prog 4 = some (.bool false) := by kernel_rfl
-- 5 uint8
attribute [simp] Tryd.underlying5
@[simp] theorem sz5 : szT Tryd.prog 5 = some 1 := by kernel_rfl
@[simp] theorem co5 : Tryd.prog.cellsOf 5 = 1 := by kernel_rfl
@[simp] theorem ag5 : aggT Tryd.prog 5 = some false := by kernel_rfl
@[simp] theorem zr5 : zeroD Tryd.prog 5 = some [.x (.int .u8 0)] := by kernel_rfl
@[simp] theorem zv5 : zeroV Tryd.prog 5 = some (.int .u8 0) := by kernel_rfl
-- 9 string
attribute [simp] Tryd.underlying9
@[simp] theorem sz9 : szT Tryd.prog 9 = some 1 := by kernel_rfl
@[simp] theorem co9 : Tryd.prog.cellsOf 9 = 1 := by kernel_rfl
@[simp] theorem ag9 : aggT Tryd.prog 9 = some false := by kernel_rfl
@[simp] theorem zr9 : zeroD Tryd.prog 9 = some [.x (.string ByteArray.empty)] := by kernel_rfl
@[simp] theorem zv9 : zeroV Tryd.prog 9 = some (.string ByteArray.empty) := by kernel_rfl
-- 22 []string
attribute [simp] Tryd.underlying22
@[simp] theorem sz22 : szT Tryd.prog 22 = some 1 := by kernel_rfl
@[simp] theorem co22 : Tryd.prog.cellsOf 22 = 1 := by kernel_rfl
@[simp] theorem ag22 : aggT Tryd.prog 22 = some false := by kernel_rfl
@[simp] theorem zr22 : zeroD Tryd.prog 22 = some [.emp] := by kernel_rfl
@[simp] theorem mk22 : mkT Tryd.prog 22 = some (9, 1, 16, [.x (.string ByteArray.empty)]) := by kernel_rfl
@[simp] theorem ap22 : appT Tryd.prog 22 = some (9, 1, 16) := by kernel_rfl
-- 25 *ledger.Ledger
attribute [simp] Tryd.underlying25
@[simp] theorem sz25 : szT Tryd.prog 25 = some 1 := by kernel_rfl
@[simp] theorem co25 : Tryd.prog.cellsOf 25 = 1 := by kernel_rfl
@[simp] theorem ag25 : aggT Tryd.prog 25 = some false := by kernel_rfl
@[simp] theorem zr25 : zeroD Tryd.prog 25 = some [.x (.pointer none)] := by kernel_rfl
-- 26 api.Errno
attribute [simp] Tryd.underlying26
@[simp] theorem sz26 : szT Tryd.prog 26 = some 1 := by kernel_rfl
@[simp] theorem co26 : Tryd.prog.cellsOf 26 = 1 := by kernel_rfl
@[simp] theorem ag26 : aggT Tryd.prog 26 = some false := by kernel_rfl
@[simp] theorem zr26 : zeroD Tryd.prog 26 = some [.x (.int .i64 0)] := by kernel_rfl
@[simp] theorem zv26 : zeroV Tryd.prog 26 = some (.int .i64 0) := by kernel_rfl
-- 27 (*ledger.Ledger, api.Errno)
attribute [simp] Tryd.underlying27
@[simp] theorem sz27 : szT Tryd.prog 27 = some 1 := by kernel_rfl
@[simp] theorem co27 : Tryd.prog.cellsOf 27 = 1 := by kernel_rfl
@[simp] theorem ag27 : aggT Tryd.prog 27 = some false := by kernel_rfl
-- 29 []api.Entry
attribute [simp] Tryd.underlying29
@[simp] theorem sz29 : szT Tryd.prog 29 = some 1 := by kernel_rfl
@[simp] theorem co29 : Tryd.prog.cellsOf 29 = 1 := by kernel_rfl
@[simp] theorem ag29 : aggT Tryd.prog 29 = some false := by kernel_rfl
@[simp] theorem zr29 : zeroD Tryd.prog 29 = some [.emp] := by kernel_rfl
@[simp] theorem mk29 : mkT Tryd.prog 29 = some (41, 3, 48, [.x (.string ByteArray.empty), .x (.int .i64 0), .emp]) := by kernel_rfl
@[simp] theorem ap29 : appT Tryd.prog 29 = some (41, 3, 48) := by kernel_rfl
-- 31 sawmillref51.L
attribute [simp] Tryd.underlying31
@[simp] theorem sz31 : szT Tryd.prog 31 = some 2 := by kernel_rfl
@[simp] theorem co31 : Tryd.prog.cellsOf 31 = 2 := by kernel_rfl
@[simp] theorem ag31 : aggT Tryd.prog 31 = some true := by kernel_rfl
@[simp] theorem zr31 : zeroD Tryd.prog 31 = some [.emp, .emp] := by kernel_rfl
@[simp] theorem bt31 : buildT Tryd.prog 31 = some ([(0, 1), (1, 1)], [.emp, .emp]) := by kernel_rfl
@[simp] theorem st31 : Tryd.prog.stoodInHeld 31 = false := by kernel_rfl
@[simp] theorem eg31 : Tryd.prog.eqGuardType Tryd.prog.depth 31 = false := by kernel_rfl
-- 32 (sawmillref51.L, api.Errno)
attribute [simp] Tryd.underlying32
@[simp] theorem sz32 : szT Tryd.prog 32 = some 1 := by kernel_rfl
@[simp] theorem co32 : Tryd.prog.cellsOf 32 = 1 := by kernel_rfl
@[simp] theorem ag32 : aggT Tryd.prog 32 = some false := by kernel_rfl
-- 39 []api.Posting
attribute [simp] Tryd.underlying39
@[simp] theorem sz39 : szT Tryd.prog 39 = some 1 := by kernel_rfl
@[simp] theorem co39 : Tryd.prog.cellsOf 39 = 1 := by kernel_rfl
@[simp] theorem ag39 : aggT Tryd.prog 39 = some false := by kernel_rfl
@[simp] theorem zr39 : zeroD Tryd.prog 39 = some [.emp] := by kernel_rfl
@[simp] theorem mk39 : mkT Tryd.prog 39 = some (47, 2, 24, [.x (.string ByteArray.empty), .x (.int .i64 0)]) := by kernel_rfl
@[simp] theorem ap39 : appT Tryd.prog 39 = some (47, 2, 24) := by kernel_rfl
-- 41 api.Entry
attribute [simp] Tryd.underlying41
@[simp] theorem sz41 : szT Tryd.prog 41 = some 3 := by kernel_rfl
@[simp] theorem co41 : Tryd.prog.cellsOf 41 = 3 := by kernel_rfl
@[simp] theorem ag41 : aggT Tryd.prog 41 = some true := by kernel_rfl
@[simp] theorem zr41 : zeroD Tryd.prog 41 = some [.x (.string ByteArray.empty), .x (.int .i64 0), .emp] := by kernel_rfl
@[simp] theorem bt41 : buildT Tryd.prog 41 = some ([(0, 1), (1, 1), (2, 1)], [.x (.string ByteArray.empty), .x (.int .i64 0), .emp]) := by kernel_rfl
@[simp] theorem st41 : Tryd.prog.stoodInHeld 41 = false := by kernel_rfl
@[simp] theorem eg41 : Tryd.prog.eqGuardType Tryd.prog.depth 41 = false := by kernel_rfl
-- 47 api.Posting
attribute [simp] Tryd.underlying47
@[simp] theorem sz47 : szT Tryd.prog 47 = some 2 := by kernel_rfl
@[simp] theorem co47 : Tryd.prog.cellsOf 47 = 2 := by kernel_rfl
@[simp] theorem ag47 : aggT Tryd.prog 47 = some true := by kernel_rfl
@[simp] theorem zr47 : zeroD Tryd.prog 47 = some [.x (.string ByteArray.empty), .x (.int .i64 0)] := by kernel_rfl
@[simp] theorem bt47 : buildT Tryd.prog 47 = some ([(0, 1), (1, 1)], [.x (.string ByteArray.empty), .x (.int .i64 0)]) := by kernel_rfl
@[simp] theorem st47 : Tryd.prog.stoodInHeld 47 = false := by kernel_rfl
@[simp] theorem eg47 : Tryd.prog.eqGuardType Tryd.prog.depth 47 = false := by kernel_rfl
-- 48 uint64
attribute [simp] Tryd.underlying48
@[simp] theorem sz48 : szT Tryd.prog 48 = some 1 := by kernel_rfl
@[simp] theorem co48 : Tryd.prog.cellsOf 48 = 1 := by kernel_rfl
@[simp] theorem ag48 : aggT Tryd.prog 48 = some false := by kernel_rfl
@[simp] theorem zr48 : zeroD Tryd.prog 48 = some [.x (.int .u64 0)] := by kernel_rfl
@[simp] theorem zv48 : zeroV Tryd.prog 48 = some (.int .u64 0) := by kernel_rfl
-- 53 map[string]int
attribute [simp] Tryd.underlying53
@[simp] theorem sz53 : szT Tryd.prog 53 = some 1 := by kernel_rfl
@[simp] theorem co53 : Tryd.prog.cellsOf 53 = 1 := by kernel_rfl
@[simp] theorem ag53 : aggT Tryd.prog 53 = some false := by kernel_rfl
@[simp] theorem zr53 : zeroD Tryd.prog 53 = some [.x (.map none)] := by kernel_rfl
-- 54 map[string]bool
attribute [simp] Tryd.underlying54
@[simp] theorem sz54 : szT Tryd.prog 54 = some 1 := by kernel_rfl
@[simp] theorem co54 : Tryd.prog.cellsOf 54 = 1 := by kernel_rfl
@[simp] theorem ag54 : aggT Tryd.prog 54 = some false := by kernel_rfl
@[simp] theorem zr54 : zeroD Tryd.prog 54 = some [.x (.map none)] := by kernel_rfl
-- 56 ledger.Ledger
attribute [simp] Tryd.underlying56
@[simp] theorem sz56 : szT Tryd.prog 56 = some 3 := by kernel_rfl
@[simp] theorem co56 : Tryd.prog.cellsOf 56 = 3 := by kernel_rfl
@[simp] theorem ag56 : aggT Tryd.prog 56 = some true := by kernel_rfl
@[simp] theorem zr56 : zeroD Tryd.prog 56 = some [.x (.map none), .x (.map none), .emp] := by kernel_rfl
@[simp] theorem bt56 : buildT Tryd.prog 56 = some ([(0, 1), (1, 1), (2, 1)], [.x (.map none), .x (.map none), .emp]) := by kernel_rfl
@[simp] theorem st56 : Tryd.prog.stoodInHeld 56 = false := by kernel_rfl
@[simp] theorem eg56 : Tryd.prog.eqGuardType Tryd.prog.depth 56 = false := by kernel_rfl
-- 58 (int, bool)
attribute [simp] Tryd.underlying58
@[simp] theorem sz58 : szT Tryd.prog 58 = some 1 := by kernel_rfl
@[simp] theorem co58 : Tryd.prog.cellsOf 58 = 1 := by kernel_rfl
@[simp] theorem ag58 : aggT Tryd.prog 58 = some false := by kernel_rfl
-- 65 iter.Seq[string]
attribute [simp] Tryd.underlying65
@[simp] theorem sz65 : szT Tryd.prog 65 = some 1 := by kernel_rfl
@[simp] theorem co65 : Tryd.prog.cellsOf 65 = 1 := by kernel_rfl
@[simp] theorem ag65 : aggT Tryd.prog 65 = some false := by kernel_rfl
@[simp] theorem zr65 : zeroD Tryd.prog 65 = some [.x .nilFunc] := by kernel_rfl
-- 71 func(api.Posting) int
attribute [simp] Tryd.underlying71
@[simp] theorem sz71 : szT Tryd.prog 71 = some 1 := by kernel_rfl
@[simp] theorem co71 : Tryd.prog.cellsOf 71 = 1 := by kernel_rfl
@[simp] theorem ag71 : aggT Tryd.prog 71 = some false := by kernel_rfl
@[simp] theorem zr71 : zeroD Tryd.prog 71 = some [.x .nilFunc] := by kernel_rfl
-- 74 [8]uint8
attribute [simp] Tryd.underlying74
@[simp] theorem sz74 : szT Tryd.prog 74 = some 8 := by kernel_rfl
@[simp] theorem co74 : Tryd.prog.cellsOf 74 = 8 := by kernel_rfl
@[simp] theorem ag74 : aggT Tryd.prog 74 = some true := by kernel_rfl
@[simp] theorem zr74 : zeroD Tryd.prog 74 = some [.x (.int .u8 0), .x (.int .u8 0), .x (.int .u8 0), .x (.int .u8 0), .x (.int .u8 0), .x (.int .u8 0), .x (.int .u8 0), .x (.int .u8 0)] := by kernel_rfl
@[simp] theorem bt74 : buildT Tryd.prog 74 = some ([(0, 1), (1, 1), (2, 1), (3, 1), (4, 1), (5, 1), (6, 1), (7, 1)], [.x (.int .u8 0), .x (.int .u8 0), .x (.int .u8 0), .x (.int .u8 0), .x (.int .u8 0), .x (.int .u8 0), .x (.int .u8 0), .x (.int .u8 0)]) := by kernel_rfl
@[simp] theorem eg74 : Tryd.prog.eqGuardType Tryd.prog.depth 74 = false := by kernel_rfl
-- 76 []uint8
attribute [simp] Tryd.underlying76
@[simp] theorem sz76 : szT Tryd.prog 76 = some 1 := by kernel_rfl
@[simp] theorem co76 : Tryd.prog.cellsOf 76 = 1 := by kernel_rfl
@[simp] theorem ag76 : aggT Tryd.prog 76 = some false := by kernel_rfl
@[simp] theorem zr76 : zeroD Tryd.prog 76 = some [.emp] := by kernel_rfl
@[simp] theorem mk76 : mkT Tryd.prog 76 = some (5, 1, 1, [.x (.int .u8 0)]) := by kernel_rfl
@[simp] theorem ap76 : appT Tryd.prog 76 = some (5, 1, 1) := by kernel_rfl
-- 83 uint
attribute [simp] Tryd.underlying83
@[simp] theorem sz83 : szT Tryd.prog 83 = some 1 := by kernel_rfl
@[simp] theorem co83 : Tryd.prog.cellsOf 83 = 1 := by kernel_rfl
@[simp] theorem ag83 : aggT Tryd.prog 83 = some false := by kernel_rfl
@[simp] theorem zr83 : zeroD Tryd.prog 83 = some [.x (.int .u64 0)] := by kernel_rfl
@[simp] theorem zv83 : zeroV Tryd.prog 83 = some (.int .u64 0) := by kernel_rfl
-- sawmill/sawmilllaw51.few: loops [2]; state: params 0..0, then [2, 3]
attribute [simp] Tryd.f9
noncomputable def an_law51_few : Ann := ⟨[0, 2, 3], [7, 15], [], [(2, [0, 3])], [(0, [0]), (1, [0, 3])], some [2], [], [], [(56, 0, 3, 1), (56, 1, 3, 1), (56, 2, 41, 3)], []⟩
@[simp] theorem an_law51_few_draws : an_law51_few.draws = [] := rfl
@[simp] theorem an_law51_few_exits : an_law51_few.exits = [(0, [0]), (1, [0, 3])] := rfl
@[simp] theorem an_law51_few_rets : an_law51_few.rets = some [2] := rfl
@[simp] theorem an_law51_few_keep : an_law51_few.keep = [0, 2, 3] := rfl
@[simp] theorem an_law51_few_cond : an_law51_few.cond = [7, 15] := rfl
@[simp] theorem an_law51_few_rows : an_law51_few.rows = [] := rfl
@[simp] theorem an_law51_few_loops : an_law51_few.loops = [(2, [0, 3])] := rfl
@[simp] theorem an_law51_few_ecalls : an_law51_few.ecalls = [] := rfl
@[simp] theorem an_law51_few_crows : an_law51_few.crows = [(56, 0, 3, 1), (56, 1, 3, 1), (56, 2, 41, 3)] := rfl
@[simp] theorem an_law51_few_tails : an_law51_few.tails = [] := rfl
@[simp] noncomputable def cl_law51_few : List (Nat × (List D → Option D)) := []
@[simp] noncomputable def ce_law51_few : List (Nat × (List (Nat × O) → List D → Option (D × List (Nat × O)))) := []
noncomputable def c_law51_few : CT := ⟨callOf (cl_law51_few ), callOfE ce_law51_few, gl⟩
@[simp] theorem c_law51_few_p (f : FuncId) (ds : List D) : c_law51_few.p f ds = callOf (cl_law51_few ) f ds := Eq.trans rfl rfl
@[simp] theorem c_law51_few_e (f : FuncId) (hs : List (Nat × O)) (ds : List D) : c_law51_few.e f hs ds = callOfE ce_law51_few f hs ds := Eq.trans rfl rfl
@[simp] theorem c_law51_few_g (g : Nat) : c_law51_few.g g = gl g := Eq.trans rfl rfl
noncomputable def L_law51_few (i n : Nat) (s : St) : Option (E × St) := atN Tryd.prog c_law51_few an_law51_few 19 (bodyOf Tryd.f9) i n s
noncomputable def H_law51_few (n i : Nat) (s : St) : Option (E × St) := atH Tryd.prog c_law51_few an_law51_few 19 (bodyOf Tryd.f9) n i s
@[simp] theorem H_law51_few_eq (n i : Nat) (s : St) : H_law51_few n i s = L_law51_few i n (headOf (an_law51_few.loops.lookup i) s) := rfl
noncomputable def R_law51_few (i : Nat) (s : St) : Option (E × St) := stepL Tryd.prog c_law51_few an_law51_few 19 (bodyOf Tryd.f9) i s
theorem lok_law51_few : okLoops (bodyOf Tryd.f9) = true := by kernel_rfl
theorem L_law51_few_succ (i n : Nat) (s : St) : L_law51_few i (n + 1) s = andThen (R_law51_few i s) (H_law51_few n i) := atN_succ lok_law51_few (by kernel_rfl) i n s
theorem R_law51_few_eq (i : Nat) (s : St) : R_law51_few i s = runS Tryd.prog c_law51_few (H_law51_few bigL) an_law51_few 19 (loopAt (bodyOf Tryd.f9) i) s := rfl
noncomputable def F_law51_few (ds : List D) : Option D := runF Tryd.prog c_law51_few an_law51_few 19 (bodyOf Tryd.f9) [.tmp 2] ds
theorem F_law51_few_eq (ds : List D) : F_law51_few ds = runG Tryd.prog c_law51_few (H_law51_few bigL) an_law51_few 19 (bodyOf Tryd.f9) [.tmp 2] ds := runG_eq lok_law51_few _ ds
theorem C_law51_few (ds : List D) (r : D) (h : F_law51_few ds = some r) : Contract Tryd.prog gl 9 ds r := contract_of mix Tryd.func9 rfl (by kernel_rfl) (by kernel_rfl) (by decide) (call := c_law51_few) ⟨callOf_ok cl_law51_few trivial, callOfE_ok ce_law51_few trivial⟩ h
-- sawmill/ident.isSmall: loops []; state: params 0..0, then [2]
attribute [simp] Tryd.f40
noncomputable def an_ident_isSmall : Ann := ⟨[2], [], [], [], [], some [2], [], [], [(56, 0, 3, 1), (56, 1, 3, 1), (56, 2, 41, 3)], []⟩
@[simp] theorem an_ident_isSmall_draws : an_ident_isSmall.draws = [] := rfl
@[simp] theorem an_ident_isSmall_exits : an_ident_isSmall.exits = [] := rfl
@[simp] theorem an_ident_isSmall_rets : an_ident_isSmall.rets = some [2] := rfl
@[simp] theorem an_ident_isSmall_keep : an_ident_isSmall.keep = [2] := rfl
@[simp] theorem an_ident_isSmall_cond : an_ident_isSmall.cond = [] := rfl
@[simp] theorem an_ident_isSmall_rows : an_ident_isSmall.rows = [] := rfl
@[simp] theorem an_ident_isSmall_loops : an_ident_isSmall.loops = [] := rfl
@[simp] theorem an_ident_isSmall_ecalls : an_ident_isSmall.ecalls = [] := rfl
@[simp] theorem an_ident_isSmall_crows : an_ident_isSmall.crows = [(56, 0, 3, 1), (56, 1, 3, 1), (56, 2, 41, 3)] := rfl
@[simp] theorem an_ident_isSmall_tails : an_ident_isSmall.tails = [] := rfl
@[simp] noncomputable def cl_ident_isSmall : List (Nat × (List D → Option D)) := []
@[simp] noncomputable def ce_ident_isSmall : List (Nat × (List (Nat × O) → List D → Option (D × List (Nat × O)))) := []
noncomputable def c_ident_isSmall : CT := ⟨callOf (cl_ident_isSmall ), callOfE ce_ident_isSmall, gl⟩
@[simp] theorem c_ident_isSmall_p (f : FuncId) (ds : List D) : c_ident_isSmall.p f ds = callOf (cl_ident_isSmall ) f ds := Eq.trans rfl rfl
@[simp] theorem c_ident_isSmall_e (f : FuncId) (hs : List (Nat × O)) (ds : List D) : c_ident_isSmall.e f hs ds = callOfE ce_ident_isSmall f hs ds := Eq.trans rfl rfl
@[simp] theorem c_ident_isSmall_g (g : Nat) : c_ident_isSmall.g g = gl g := Eq.trans rfl rfl
noncomputable def L_ident_isSmall (i n : Nat) (s : St) : Option (E × St) := atN Tryd.prog c_ident_isSmall an_ident_isSmall 9 (bodyOf Tryd.f40) i n s
noncomputable def H_ident_isSmall (n i : Nat) (s : St) : Option (E × St) := atH Tryd.prog c_ident_isSmall an_ident_isSmall 9 (bodyOf Tryd.f40) n i s
@[simp] theorem H_ident_isSmall_eq (n i : Nat) (s : St) : H_ident_isSmall n i s = L_ident_isSmall i n (headOf (an_ident_isSmall.loops.lookup i) s) := rfl
noncomputable def R_ident_isSmall (i : Nat) (s : St) : Option (E × St) := stepL Tryd.prog c_ident_isSmall an_ident_isSmall 9 (bodyOf Tryd.f40) i s
theorem lok_ident_isSmall : okLoops (bodyOf Tryd.f40) = true := by kernel_rfl
noncomputable def F_ident_isSmall (ds : List D) : Option D := runF Tryd.prog c_ident_isSmall an_ident_isSmall 9 (bodyOf Tryd.f40) [.tmp 2] ds
theorem F_ident_isSmall_eq (ds : List D) : F_ident_isSmall ds = runG Tryd.prog c_ident_isSmall (H_ident_isSmall bigL) an_ident_isSmall 9 (bodyOf Tryd.f40) [.tmp 2] ds := runG_eq lok_ident_isSmall _ ds
theorem C_ident_isSmall (ds : List D) (r : D) (h : F_ident_isSmall ds = some r) : Contract Tryd.prog gl 40 ds r := contract_of mix Tryd.func40 rfl (by kernel_rfl) (by kernel_rfl) (by decide) (call := c_ident_isSmall) ⟨callOf_ok cl_ident_isSmall trivial, callOfE_ok ce_ident_isSmall trivial⟩ h
-- sawmill/ident.isDigit: loops []; state: params 0..0, then [2]
attribute [simp] Tryd.f41
noncomputable def an_ident_isDigit : Ann := ⟨[2], [], [], [], [], some [2], [], [], [(56, 0, 3, 1), (56, 1, 3, 1), (56, 2, 41, 3)], []⟩
@[simp] theorem an_ident_isDigit_draws : an_ident_isDigit.draws = [] := rfl
@[simp] theorem an_ident_isDigit_exits : an_ident_isDigit.exits = [] := rfl
@[simp] theorem an_ident_isDigit_rets : an_ident_isDigit.rets = some [2] := rfl
@[simp] theorem an_ident_isDigit_keep : an_ident_isDigit.keep = [2] := rfl
@[simp] theorem an_ident_isDigit_cond : an_ident_isDigit.cond = [] := rfl
@[simp] theorem an_ident_isDigit_rows : an_ident_isDigit.rows = [] := rfl
@[simp] theorem an_ident_isDigit_loops : an_ident_isDigit.loops = [] := rfl
@[simp] theorem an_ident_isDigit_ecalls : an_ident_isDigit.ecalls = [] := rfl
@[simp] theorem an_ident_isDigit_crows : an_ident_isDigit.crows = [(56, 0, 3, 1), (56, 1, 3, 1), (56, 2, 41, 3)] := rfl
@[simp] theorem an_ident_isDigit_tails : an_ident_isDigit.tails = [] := rfl
@[simp] noncomputable def cl_ident_isDigit : List (Nat × (List D → Option D)) := []
@[simp] noncomputable def ce_ident_isDigit : List (Nat × (List (Nat × O) → List D → Option (D × List (Nat × O)))) := []
noncomputable def c_ident_isDigit : CT := ⟨callOf (cl_ident_isDigit ), callOfE ce_ident_isDigit, gl⟩
@[simp] theorem c_ident_isDigit_p (f : FuncId) (ds : List D) : c_ident_isDigit.p f ds = callOf (cl_ident_isDigit ) f ds := Eq.trans rfl rfl
@[simp] theorem c_ident_isDigit_e (f : FuncId) (hs : List (Nat × O)) (ds : List D) : c_ident_isDigit.e f hs ds = callOfE ce_ident_isDigit f hs ds := Eq.trans rfl rfl
@[simp] theorem c_ident_isDigit_g (g : Nat) : c_ident_isDigit.g g = gl g := Eq.trans rfl rfl
noncomputable def L_ident_isDigit (i n : Nat) (s : St) : Option (E × St) := atN Tryd.prog c_ident_isDigit an_ident_isDigit 9 (bodyOf Tryd.f41) i n s
noncomputable def H_ident_isDigit (n i : Nat) (s : St) : Option (E × St) := atH Tryd.prog c_ident_isDigit an_ident_isDigit 9 (bodyOf Tryd.f41) n i s
@[simp] theorem H_ident_isDigit_eq (n i : Nat) (s : St) : H_ident_isDigit n i s = L_ident_isDigit i n (headOf (an_ident_isDigit.loops.lookup i) s) := rfl
noncomputable def R_ident_isDigit (i : Nat) (s : St) : Option (E × St) := stepL Tryd.prog c_ident_isDigit an_ident_isDigit 9 (bodyOf Tryd.f41) i s
theorem lok_ident_isDigit : okLoops (bodyOf Tryd.f41) = true := by kernel_rfl
noncomputable def F_ident_isDigit (ds : List D) : Option D := runF Tryd.prog c_ident_isDigit an_ident_isDigit 9 (bodyOf Tryd.f41) [.tmp 2] ds
theorem F_ident_isDigit_eq (ds : List D) : F_ident_isDigit ds = runG Tryd.prog c_ident_isDigit (H_ident_isDigit bigL) an_ident_isDigit 9 (bodyOf Tryd.f41) [.tmp 2] ds := runG_eq lok_ident_isDigit _ ds
theorem C_ident_isDigit (ds : List D) (r : D) (h : F_ident_isDigit ds = some r) : Contract Tryd.prog gl 41 ds r := contract_of mix Tryd.func41 rfl (by kernel_rfl) (by kernel_rfl) (by decide) (call := c_ident_isDigit) ⟨callOf_ok cl_ident_isDigit trivial, callOfE_ok ce_ident_isDigit trivial⟩ h
-- sawmill/ident.IsName: loops [4]; state: params 0..0, then [2, 3, 4]
attribute [simp] Tryd.f23
noncomputable def an_ident_IsName : Ann := ⟨[0, 2, 3, 4], [18, 22, 39], [], [(4, [0, 3])], [(0, []), (1, [0, 3])], some [2], [], [], [(56, 0, 3, 1), (56, 1, 3, 1), (56, 2, 41, 3)], []⟩
@[simp] theorem an_ident_IsName_draws : an_ident_IsName.draws = [] := rfl
@[simp] theorem an_ident_IsName_exits : an_ident_IsName.exits = [(0, []), (1, [0, 3])] := rfl
@[simp] theorem an_ident_IsName_rets : an_ident_IsName.rets = some [2] := rfl
@[simp] theorem an_ident_IsName_keep : an_ident_IsName.keep = [0, 2, 3, 4] := rfl
@[simp] theorem an_ident_IsName_cond : an_ident_IsName.cond = [18, 22, 39] := rfl
@[simp] theorem an_ident_IsName_rows : an_ident_IsName.rows = [] := rfl
@[simp] theorem an_ident_IsName_loops : an_ident_IsName.loops = [(4, [0, 3])] := rfl
@[simp] theorem an_ident_IsName_ecalls : an_ident_IsName.ecalls = [] := rfl
@[simp] theorem an_ident_IsName_crows : an_ident_IsName.crows = [(56, 0, 3, 1), (56, 1, 3, 1), (56, 2, 41, 3)] := rfl
@[simp] theorem an_ident_IsName_tails : an_ident_IsName.tails = [] := rfl
@[simp] noncomputable def cl_ident_IsName : List (Nat × (List D → Option D)) := [(40, F_ident_isSmall), (41, F_ident_isDigit)]
@[simp] noncomputable def ce_ident_IsName : List (Nat × (List (Nat × O) → List D → Option (D × List (Nat × O)))) := []
noncomputable def c_ident_IsName : CT := ⟨callOf (cl_ident_IsName ), callOfE ce_ident_IsName, gl⟩
@[simp] theorem c_ident_IsName_p (f : FuncId) (ds : List D) : c_ident_IsName.p f ds = callOf (cl_ident_IsName ) f ds := Eq.trans rfl rfl
@[simp] theorem c_ident_IsName_e (f : FuncId) (hs : List (Nat × O)) (ds : List D) : c_ident_IsName.e f hs ds = callOfE ce_ident_IsName f hs ds := Eq.trans rfl rfl
@[simp] theorem c_ident_IsName_g (g : Nat) : c_ident_IsName.g g = gl g := Eq.trans rfl rfl
noncomputable def L_ident_IsName (i n : Nat) (s : St) : Option (E × St) := atN Tryd.prog c_ident_IsName an_ident_IsName 40 (bodyOf Tryd.f23) i n s
noncomputable def H_ident_IsName (n i : Nat) (s : St) : Option (E × St) := atH Tryd.prog c_ident_IsName an_ident_IsName 40 (bodyOf Tryd.f23) n i s
@[simp] theorem H_ident_IsName_eq (n i : Nat) (s : St) : H_ident_IsName n i s = L_ident_IsName i n (headOf (an_ident_IsName.loops.lookup i) s) := rfl
noncomputable def R_ident_IsName (i : Nat) (s : St) : Option (E × St) := stepL Tryd.prog c_ident_IsName an_ident_IsName 40 (bodyOf Tryd.f23) i s
theorem lok_ident_IsName : okLoops (bodyOf Tryd.f23) = true := by kernel_rfl
theorem L_ident_IsName_succ (i n : Nat) (s : St) : L_ident_IsName i (n + 1) s = andThen (R_ident_IsName i s) (H_ident_IsName n i) := atN_succ lok_ident_IsName (by kernel_rfl) i n s
theorem R_ident_IsName_eq (i : Nat) (s : St) : R_ident_IsName i s = runS Tryd.prog c_ident_IsName (H_ident_IsName bigL) an_ident_IsName 40 (loopAt (bodyOf Tryd.f23) i) s := rfl
noncomputable def F_ident_IsName (ds : List D) : Option D := runF Tryd.prog c_ident_IsName an_ident_IsName 40 (bodyOf Tryd.f23) [.tmp 2] ds
theorem F_ident_IsName_eq (ds : List D) : F_ident_IsName ds = runG Tryd.prog c_ident_IsName (H_ident_IsName bigL) an_ident_IsName 40 (bodyOf Tryd.f23) [.tmp 2] ds := runG_eq lok_ident_IsName _ ds
theorem C_ident_IsName (ds : List D) (r : D) (h : F_ident_IsName ds = some r) : Contract Tryd.prog gl 23 ds r := contract_of mix Tryd.func23 rfl (by kernel_rfl) (by kernel_rfl) (by decide) (call := c_ident_IsName) ⟨callOf_ok cl_ident_IsName ⟨C_ident_isSmall, C_ident_isDigit, trivial⟩, callOfE_ok ce_ident_IsName trivial⟩ h
-- sawmill/ledger.New: loops [5]; state: params 0..0, then [2, 3, 4, 6, 8, 16, 17, 18]; WITH OBJECTS
attribute [simp] Tryd.f11
noncomputable def an_ledger_New : Ann := ⟨[0, 2, 3, 4, 6, 8, 16, 17, 18], [11, 19, 24, 34], [], [(5, [4, 16, 17, 18])], [(0, [4]), (1, [4, 16, 17, 18])], some [2, 3], [], [], [(56, 0, 3, 1), (56, 1, 3, 1), (56, 2, 41, 3)], []⟩
@[simp] theorem an_ledger_New_draws : an_ledger_New.draws = [] := rfl
@[simp] theorem an_ledger_New_exits : an_ledger_New.exits = [(0, [4]), (1, [4, 16, 17, 18])] := rfl
@[simp] theorem an_ledger_New_rets : an_ledger_New.rets = some [2, 3] := rfl
@[simp] theorem an_ledger_New_keep : an_ledger_New.keep = [0, 2, 3, 4, 6, 8, 16, 17, 18] := rfl
@[simp] theorem an_ledger_New_cond : an_ledger_New.cond = [11, 19, 24, 34] := rfl
@[simp] theorem an_ledger_New_rows : an_ledger_New.rows = [] := rfl
@[simp] theorem an_ledger_New_loops : an_ledger_New.loops = [(5, [4, 16, 17, 18])] := rfl
@[simp] theorem an_ledger_New_ecalls : an_ledger_New.ecalls = [] := rfl
@[simp] theorem an_ledger_New_crows : an_ledger_New.crows = [(56, 0, 3, 1), (56, 1, 3, 1), (56, 2, 41, 3)] := rfl
@[simp] theorem an_ledger_New_tails : an_ledger_New.tails = [] := rfl
@[simp] noncomputable def cl_ledger_New : List (Nat × (List D → Option D)) := [(23, F_ident_IsName)]
@[simp] noncomputable def ce_ledger_New : List (Nat × (List (Nat × O) → List D → Option (D × List (Nat × O)))) := []
noncomputable def c_ledger_New : CT := ⟨callOf (cl_ledger_New ), callOfE ce_ledger_New, gl⟩
@[simp] theorem c_ledger_New_p (f : FuncId) (ds : List D) : c_ledger_New.p f ds = callOf (cl_ledger_New ) f ds := Eq.trans rfl rfl
@[simp] theorem c_ledger_New_e (f : FuncId) (hs : List (Nat × O)) (ds : List D) : c_ledger_New.e f hs ds = callOfE ce_ledger_New f hs ds := Eq.trans rfl rfl
@[simp] theorem c_ledger_New_g (g : Nat) : c_ledger_New.g g = gl g := Eq.trans rfl rfl
noncomputable def L_ledger_New (i n : Nat) (s : St) : Option (E × St) := atN Tryd.prog c_ledger_New an_ledger_New 42 (bodyOf Tryd.f11) i n s
noncomputable def H_ledger_New (n i : Nat) (s : St) : Option (E × St) := atH Tryd.prog c_ledger_New an_ledger_New 42 (bodyOf Tryd.f11) n i s
@[simp] theorem H_ledger_New_eq (n i : Nat) (s : St) : H_ledger_New n i s = L_ledger_New i n (headOf (an_ledger_New.loops.lookup i) s) := rfl
noncomputable def R_ledger_New (i : Nat) (s : St) : Option (E × St) := stepL Tryd.prog c_ledger_New an_ledger_New 42 (bodyOf Tryd.f11) i s
theorem lok_ledger_New : okLoops (bodyOf Tryd.f11) = true := by kernel_rfl
theorem L_ledger_New_succ (i n : Nat) (s : St) : L_ledger_New i (n + 1) s = andThen (R_ledger_New i s) (H_ledger_New n i) := atN_succ lok_ledger_New (by kernel_rfl) i n s
theorem R_ledger_New_eq (i : Nat) (s : St) : R_ledger_New i s = runS Tryd.prog c_ledger_New (H_ledger_New bigL) an_ledger_New 42 (loopAt (bodyOf Tryd.f11) i) s := rfl
noncomputable def E_ledger_New (hs : List (Nat × O)) (ds : List D) : Option (D × List (Nat × O)) := runE Tryd.prog c_ledger_New an_ledger_New 42 (bodyOf Tryd.f11) [.tmp 2, .tmp 3] hs ds
theorem E_ledger_New_eq (hs : List (Nat × O)) (ds : List D) : E_ledger_New hs ds = runGE Tryd.prog c_ledger_New (H_ledger_New bigL) an_ledger_New 42 (bodyOf Tryd.f11) [.tmp 2, .tmp 3] hs ds := runGE_eq lok_ledger_New _ hs ds
theorem CE_ledger_New (hs : List (Nat × O)) (ds : List D) (r : D) (hs' : List (Nat × O)) (h : E_ledger_New hs ds = some (r, hs')) : ContractE Tryd.prog gl 11 hs ds r hs' := contractE_of mix Tryd.func11 rfl (by kernel_rfl) (by kernel_rfl) (by decide) (call := c_ledger_New) ⟨callOf_ok cl_ledger_New ⟨C_ident_IsName, trivial⟩, callOfE_ok ce_ledger_New trivial⟩ h
-- sawmill/ledger.text: loops [3]; state: params 0..0, then [1, 2, 3, 5, 17, 18, 19]
attribute [simp] Tryd.f39
noncomputable def an_ledger_text : Ann := ⟨[1, 2, 3, 5, 17, 18, 19], [20], [3], [(3, [3, 17, 18, 19])], [(0, [3]), (1, [3, 17, 18, 19])], some [2], [(1, 9), (5, 7)], [], [(56, 0, 3, 1), (56, 1, 3, 1), (56, 2, 41, 3)], []⟩
@[simp] theorem an_ledger_text_draws : an_ledger_text.draws = [(1, 9), (5, 7)] := rfl
@[simp] theorem an_ledger_text_exits : an_ledger_text.exits = [(0, [3]), (1, [3, 17, 18, 19])] := rfl
@[simp] theorem an_ledger_text_rets : an_ledger_text.rets = some [2] := rfl
@[simp] theorem an_ledger_text_keep : an_ledger_text.keep = [1, 2, 3, 5, 17, 18, 19] := rfl
@[simp] theorem an_ledger_text_cond : an_ledger_text.cond = [20] := rfl
@[simp] theorem an_ledger_text_rows : an_ledger_text.rows = [3] := rfl
@[simp] theorem an_ledger_text_loops : an_ledger_text.loops = [(3, [3, 17, 18, 19])] := rfl
@[simp] theorem an_ledger_text_ecalls : an_ledger_text.ecalls = [] := rfl
@[simp] theorem an_ledger_text_crows : an_ledger_text.crows = [(56, 0, 3, 1), (56, 1, 3, 1), (56, 2, 41, 3)] := rfl
@[simp] theorem an_ledger_text_tails : an_ledger_text.tails = [] := rfl
@[simp] noncomputable def cl_ledger_text : List (Nat × (List D → Option D)) := [(52, F_itoa), (53, F_join)]
@[simp] noncomputable def ce_ledger_text : List (Nat × (List (Nat × O) → List D → Option (D × List (Nat × O)))) := []
noncomputable def c_ledger_text : CT := ⟨callOf (cl_ledger_text ), callOfE ce_ledger_text, gl⟩
@[simp] theorem c_ledger_text_p (f : FuncId) (ds : List D) : c_ledger_text.p f ds = callOf (cl_ledger_text ) f ds := Eq.trans rfl rfl
@[simp] theorem c_ledger_text_e (f : FuncId) (hs : List (Nat × O)) (ds : List D) : c_ledger_text.e f hs ds = callOfE ce_ledger_text f hs ds := Eq.trans rfl rfl
@[simp] theorem c_ledger_text_g (g : Nat) : c_ledger_text.g g = gl g := Eq.trans rfl rfl
noncomputable def L_ledger_text (i n : Nat) (s : St) : Option (E × St) := atN Tryd.prog c_ledger_text an_ledger_text 35 (bodyOf Tryd.f39) i n s
noncomputable def H_ledger_text (n i : Nat) (s : St) : Option (E × St) := atH Tryd.prog c_ledger_text an_ledger_text 35 (bodyOf Tryd.f39) n i s
@[simp] theorem H_ledger_text_eq (n i : Nat) (s : St) : H_ledger_text n i s = L_ledger_text i n (headOf (an_ledger_text.loops.lookup i) s) := rfl
noncomputable def R_ledger_text (i : Nat) (s : St) : Option (E × St) := stepL Tryd.prog c_ledger_text an_ledger_text 35 (bodyOf Tryd.f39) i s
theorem lok_ledger_text : okLoops (bodyOf Tryd.f39) = true := by kernel_rfl
theorem L_ledger_text_succ (i n : Nat) (s : St) : L_ledger_text i (n + 1) s = andThen (R_ledger_text i s) (H_ledger_text n i) := atN_succ lok_ledger_text (by kernel_rfl) i n s
theorem R_ledger_text_eq (i : Nat) (s : St) : R_ledger_text i s = runS Tryd.prog c_ledger_text (H_ledger_text bigL) an_ledger_text 35 (loopAt (bodyOf Tryd.f39) i) s := rfl
noncomputable def F_ledger_text (ds : List D) : Option D := runF Tryd.prog c_ledger_text an_ledger_text 35 (bodyOf Tryd.f39) [.tmp 2] ds
theorem F_ledger_text_eq (ds : List D) : F_ledger_text ds = runG Tryd.prog c_ledger_text (H_ledger_text bigL) an_ledger_text 35 (bodyOf Tryd.f39) [.tmp 2] ds := runG_eq lok_ledger_text _ ds
theorem C_ledger_text (ds : List D) (r : D) (h : F_ledger_text ds = some r) : Contract Tryd.prog gl 39 ds r := contract_of mix Tryd.func39 rfl (by kernel_rfl) (by kernel_rfl) (by decide) (call := c_ledger_text) ⟨callOf_ok cl_ledger_text ⟨C_itoa, C_join, trivial⟩, callOfE_ok ce_ledger_text trivial⟩ h
-- sawmill/sums.Hash: loops [3]; state: params 0..0, then [2, 3, 5, 7, 8, 9]
attribute [simp] Tryd.f51
noncomputable def an_sums_Hash : Ann := ⟨[2, 3, 5, 7, 8, 9], [10], [], [(3, [3, 7, 8, 9])], [(0, [3]), (1, [3, 7, 8, 9])], some [2], [], [], [(56, 0, 3, 1), (56, 1, 3, 1), (56, 2, 41, 3)], []⟩
@[simp] theorem an_sums_Hash_draws : an_sums_Hash.draws = [] := rfl
@[simp] theorem an_sums_Hash_exits : an_sums_Hash.exits = [(0, [3]), (1, [3, 7, 8, 9])] := rfl
@[simp] theorem an_sums_Hash_rets : an_sums_Hash.rets = some [2] := rfl
@[simp] theorem an_sums_Hash_keep : an_sums_Hash.keep = [2, 3, 5, 7, 8, 9] := rfl
@[simp] theorem an_sums_Hash_cond : an_sums_Hash.cond = [10] := rfl
@[simp] theorem an_sums_Hash_rows : an_sums_Hash.rows = [] := rfl
@[simp] theorem an_sums_Hash_loops : an_sums_Hash.loops = [(3, [3, 7, 8, 9])] := rfl
@[simp] theorem an_sums_Hash_ecalls : an_sums_Hash.ecalls = [] := rfl
@[simp] theorem an_sums_Hash_crows : an_sums_Hash.crows = [(56, 0, 3, 1), (56, 1, 3, 1), (56, 2, 41, 3)] := rfl
@[simp] theorem an_sums_Hash_tails : an_sums_Hash.tails = [] := rfl
@[simp] noncomputable def cl_sums_Hash : List (Nat × (List D → Option D)) := []
@[simp] noncomputable def ce_sums_Hash : List (Nat × (List (Nat × O) → List D → Option (D × List (Nat × O)))) := []
noncomputable def c_sums_Hash : CT := ⟨callOf (cl_sums_Hash ), callOfE ce_sums_Hash, gl⟩
@[simp] theorem c_sums_Hash_p (f : FuncId) (ds : List D) : c_sums_Hash.p f ds = callOf (cl_sums_Hash ) f ds := Eq.trans rfl rfl
@[simp] theorem c_sums_Hash_e (f : FuncId) (hs : List (Nat × O)) (ds : List D) : c_sums_Hash.e f hs ds = callOfE ce_sums_Hash f hs ds := Eq.trans rfl rfl
@[simp] theorem c_sums_Hash_g (g : Nat) : c_sums_Hash.g g = gl g := Eq.trans rfl rfl
noncomputable def L_sums_Hash (i n : Nat) (s : St) : Option (E × St) := atN Tryd.prog c_sums_Hash an_sums_Hash 21 (bodyOf Tryd.f51) i n s
noncomputable def H_sums_Hash (n i : Nat) (s : St) : Option (E × St) := atH Tryd.prog c_sums_Hash an_sums_Hash 21 (bodyOf Tryd.f51) n i s
@[simp] theorem H_sums_Hash_eq (n i : Nat) (s : St) : H_sums_Hash n i s = L_sums_Hash i n (headOf (an_sums_Hash.loops.lookup i) s) := rfl
noncomputable def R_sums_Hash (i : Nat) (s : St) : Option (E × St) := stepL Tryd.prog c_sums_Hash an_sums_Hash 21 (bodyOf Tryd.f51) i s
theorem lok_sums_Hash : okLoops (bodyOf Tryd.f51) = true := by kernel_rfl
theorem L_sums_Hash_succ (i n : Nat) (s : St) : L_sums_Hash i (n + 1) s = andThen (R_sums_Hash i s) (H_sums_Hash n i) := atN_succ lok_sums_Hash (by kernel_rfl) i n s
theorem R_sums_Hash_eq (i : Nat) (s : St) : R_sums_Hash i s = runS Tryd.prog c_sums_Hash (H_sums_Hash bigL) an_sums_Hash 21 (loopAt (bodyOf Tryd.f51) i) s := rfl
noncomputable def F_sums_Hash (ds : List D) : Option D := runF Tryd.prog c_sums_Hash an_sums_Hash 21 (bodyOf Tryd.f51) [.tmp 2] ds
theorem F_sums_Hash_eq (ds : List D) : F_sums_Hash ds = runG Tryd.prog c_sums_Hash (H_sums_Hash bigL) an_sums_Hash 21 (bodyOf Tryd.f51) [.tmp 2] ds := runG_eq lok_sums_Hash _ ds
theorem C_sums_Hash (ds : List D) (r : D) (h : F_sums_Hash ds = some r) : Contract Tryd.prog gl 51 ds r := contract_of mix Tryd.func51 rfl (by kernel_rfl) (by kernel_rfl) (by decide) (call := c_sums_Hash) ⟨callOf_ok cl_sums_Hash trivial, callOfE_ok ce_sums_Hash trivial⟩ h
-- sawmill/sums.Chain: loops [3]; state: params 0..1, then [4, 5, 6, 7]
attribute [simp] Tryd.f38
noncomputable def an_sums_Chain : Ann := ⟨[4, 5, 6, 7], [8], [], [(3, [0, 1, 5, 7])], [(0, [1, 5]), (1, [0, 1, 5, 7])], some [4], [], [], [(56, 0, 3, 1), (56, 1, 3, 1), (56, 2, 41, 3)], []⟩
@[simp] theorem an_sums_Chain_draws : an_sums_Chain.draws = [] := rfl
@[simp] theorem an_sums_Chain_exits : an_sums_Chain.exits = [(0, [1, 5]), (1, [0, 1, 5, 7])] := rfl
@[simp] theorem an_sums_Chain_rets : an_sums_Chain.rets = some [4] := rfl
@[simp] theorem an_sums_Chain_keep : an_sums_Chain.keep = [4, 5, 6, 7] := rfl
@[simp] theorem an_sums_Chain_cond : an_sums_Chain.cond = [8] := rfl
@[simp] theorem an_sums_Chain_rows : an_sums_Chain.rows = [] := rfl
@[simp] theorem an_sums_Chain_loops : an_sums_Chain.loops = [(3, [0, 1, 5, 7])] := rfl
@[simp] theorem an_sums_Chain_ecalls : an_sums_Chain.ecalls = [] := rfl
@[simp] theorem an_sums_Chain_crows : an_sums_Chain.crows = [(56, 0, 3, 1), (56, 1, 3, 1), (56, 2, 41, 3)] := rfl
@[simp] theorem an_sums_Chain_tails : an_sums_Chain.tails = [] := rfl
@[simp] noncomputable def cl_sums_Chain : List (Nat × (List D → Option D)) := [(51, F_sums_Hash)]
@[simp] noncomputable def ce_sums_Chain : List (Nat × (List (Nat × O) → List D → Option (D × List (Nat × O)))) := []
noncomputable def c_sums_Chain : CT := ⟨callOf (cl_sums_Chain ), callOfE ce_sums_Chain, gl⟩
@[simp] theorem c_sums_Chain_p (f : FuncId) (ds : List D) : c_sums_Chain.p f ds = callOf (cl_sums_Chain ) f ds := Eq.trans rfl rfl
@[simp] theorem c_sums_Chain_e (f : FuncId) (hs : List (Nat × O)) (ds : List D) : c_sums_Chain.e f hs ds = callOfE ce_sums_Chain f hs ds := Eq.trans rfl rfl
@[simp] theorem c_sums_Chain_g (g : Nat) : c_sums_Chain.g g = gl g := Eq.trans rfl rfl
noncomputable def L_sums_Chain (i n : Nat) (s : St) : Option (E × St) := atN Tryd.prog c_sums_Chain an_sums_Chain 24 (bodyOf Tryd.f38) i n s
noncomputable def H_sums_Chain (n i : Nat) (s : St) : Option (E × St) := atH Tryd.prog c_sums_Chain an_sums_Chain 24 (bodyOf Tryd.f38) n i s
@[simp] theorem H_sums_Chain_eq (n i : Nat) (s : St) : H_sums_Chain n i s = L_sums_Chain i n (headOf (an_sums_Chain.loops.lookup i) s) := rfl
noncomputable def R_sums_Chain (i : Nat) (s : St) : Option (E × St) := stepL Tryd.prog c_sums_Chain an_sums_Chain 24 (bodyOf Tryd.f38) i s
theorem lok_sums_Chain : okLoops (bodyOf Tryd.f38) = true := by kernel_rfl
theorem L_sums_Chain_succ (i n : Nat) (s : St) : L_sums_Chain i (n + 1) s = andThen (R_sums_Chain i s) (H_sums_Chain n i) := atN_succ lok_sums_Chain (by kernel_rfl) i n s
theorem R_sums_Chain_eq (i : Nat) (s : St) : R_sums_Chain i s = runS Tryd.prog c_sums_Chain (H_sums_Chain bigL) an_sums_Chain 24 (loopAt (bodyOf Tryd.f38) i) s := rfl
noncomputable def F_sums_Chain (ds : List D) : Option D := runF Tryd.prog c_sums_Chain an_sums_Chain 24 (bodyOf Tryd.f38) [.tmp 4] ds
theorem F_sums_Chain_eq (ds : List D) : F_sums_Chain ds = runG Tryd.prog c_sums_Chain (H_sums_Chain bigL) an_sums_Chain 24 (bodyOf Tryd.f38) [.tmp 4] ds := runG_eq lok_sums_Chain _ ds
theorem C_sums_Chain (ds : List D) (r : D) (h : F_sums_Chain ds = some r) : Contract Tryd.prog gl 38 ds r := contract_of mix Tryd.func38 rfl (by kernel_rfl) (by kernel_rfl) (by decide) (call := c_sums_Chain) ⟨callOf_ok cl_sums_Chain ⟨C_sums_Hash, trivial⟩, callOfE_ok ce_sums_Chain trivial⟩ h
-- (*sawmill/ledger.Ledger).Digest: loops [5]; state: params 0..0, then [2, 3, 5, 11, 12, 13]
attribute [simp] Tryd.f20
noncomputable def an_ledger_Ledger_Digest : Ann := ⟨[0, 2, 3, 5, 11, 12, 13], [7, 14], [], [(5, [3, 11, 12, 13])], [(0, [3]), (1, [3, 11, 12, 13])], some [2], [], [], [(56, 0, 3, 1), (56, 1, 3, 1), (56, 2, 41, 3)], []⟩
@[simp] theorem an_ledger_Ledger_Digest_draws : an_ledger_Ledger_Digest.draws = [] := rfl
@[simp] theorem an_ledger_Ledger_Digest_exits : an_ledger_Ledger_Digest.exits = [(0, [3]), (1, [3, 11, 12, 13])] := rfl
@[simp] theorem an_ledger_Ledger_Digest_rets : an_ledger_Ledger_Digest.rets = some [2] := rfl
@[simp] theorem an_ledger_Ledger_Digest_keep : an_ledger_Ledger_Digest.keep = [0, 2, 3, 5, 11, 12, 13] := rfl
@[simp] theorem an_ledger_Ledger_Digest_cond : an_ledger_Ledger_Digest.cond = [7, 14] := rfl
@[simp] theorem an_ledger_Ledger_Digest_rows : an_ledger_Ledger_Digest.rows = [] := rfl
@[simp] theorem an_ledger_Ledger_Digest_loops : an_ledger_Ledger_Digest.loops = [(5, [3, 11, 12, 13])] := rfl
@[simp] theorem an_ledger_Ledger_Digest_ecalls : an_ledger_Ledger_Digest.ecalls = [] := rfl
@[simp] theorem an_ledger_Ledger_Digest_crows : an_ledger_Ledger_Digest.crows = [(56, 0, 3, 1), (56, 1, 3, 1), (56, 2, 41, 3)] := rfl
@[simp] theorem an_ledger_Ledger_Digest_tails : an_ledger_Ledger_Digest.tails = [] := rfl
@[simp] noncomputable def cl_ledger_Ledger_Digest : List (Nat × (List D → Option D)) := [(38, F_sums_Chain), (39, F_ledger_text)]
@[simp] noncomputable def ce_ledger_Ledger_Digest : List (Nat × (List (Nat × O) → List D → Option (D × List (Nat × O)))) := []
noncomputable def c_ledger_Ledger_Digest : CT := ⟨callOf (cl_ledger_Ledger_Digest ), callOfE ce_ledger_Ledger_Digest, gl⟩
@[simp] theorem c_ledger_Ledger_Digest_p (f : FuncId) (ds : List D) : c_ledger_Ledger_Digest.p f ds = callOf (cl_ledger_Ledger_Digest ) f ds := Eq.trans rfl rfl
@[simp] theorem c_ledger_Ledger_Digest_e (f : FuncId) (hs : List (Nat × O)) (ds : List D) : c_ledger_Ledger_Digest.e f hs ds = callOfE ce_ledger_Ledger_Digest f hs ds := Eq.trans rfl rfl
@[simp] theorem c_ledger_Ledger_Digest_g (g : Nat) : c_ledger_Ledger_Digest.g g = gl g := Eq.trans rfl rfl
noncomputable def L_ledger_Ledger_Digest (i n : Nat) (s : St) : Option (E × St) := atN Tryd.prog c_ledger_Ledger_Digest an_ledger_Ledger_Digest 23 (bodyOf Tryd.f20) i n s
noncomputable def H_ledger_Ledger_Digest (n i : Nat) (s : St) : Option (E × St) := atH Tryd.prog c_ledger_Ledger_Digest an_ledger_Ledger_Digest 23 (bodyOf Tryd.f20) n i s
@[simp] theorem H_ledger_Ledger_Digest_eq (n i : Nat) (s : St) : H_ledger_Ledger_Digest n i s = L_ledger_Ledger_Digest i n (headOf (an_ledger_Ledger_Digest.loops.lookup i) s) := rfl
noncomputable def R_ledger_Ledger_Digest (i : Nat) (s : St) : Option (E × St) := stepL Tryd.prog c_ledger_Ledger_Digest an_ledger_Ledger_Digest 23 (bodyOf Tryd.f20) i s
theorem lok_ledger_Ledger_Digest : okLoops (bodyOf Tryd.f20) = true := by kernel_rfl
theorem L_ledger_Ledger_Digest_succ (i n : Nat) (s : St) : L_ledger_Ledger_Digest i (n + 1) s = andThen (R_ledger_Ledger_Digest i s) (H_ledger_Ledger_Digest n i) := atN_succ lok_ledger_Ledger_Digest (by kernel_rfl) i n s
theorem R_ledger_Ledger_Digest_eq (i : Nat) (s : St) : R_ledger_Ledger_Digest i s = runS Tryd.prog c_ledger_Ledger_Digest (H_ledger_Ledger_Digest bigL) an_ledger_Ledger_Digest 23 (loopAt (bodyOf Tryd.f20) i) s := rfl
noncomputable def F_ledger_Ledger_Digest (ds : List D) : Option D := runF Tryd.prog c_ledger_Ledger_Digest an_ledger_Ledger_Digest 23 (bodyOf Tryd.f20) [.tmp 2] ds
theorem F_ledger_Ledger_Digest_eq (ds : List D) : F_ledger_Ledger_Digest ds = runG Tryd.prog c_ledger_Ledger_Digest (H_ledger_Ledger_Digest bigL) an_ledger_Ledger_Digest 23 (bodyOf Tryd.f20) [.tmp 2] ds := runG_eq lok_ledger_Ledger_Digest _ ds
theorem C_ledger_Ledger_Digest (ds : List D) (r : D) (h : F_ledger_Ledger_Digest ds = some r) : Contract Tryd.prog gl 20 ds r := contract_of mix Tryd.func20 rfl (by kernel_rfl) (by kernel_rfl) (by decide) (call := c_ledger_Ledger_Digest) ⟨callOf_ok cl_ledger_Ledger_Digest ⟨C_sums_Chain, C_ledger_text, trivial⟩, callOfE_ok ce_ledger_Ledger_Digest trivial⟩ h
-- sawmill/ledger.outside: loops []; state: params 0..0, then [2]
attribute [simp] Tryd.f33
noncomputable def an_ledger_outside : Ann := ⟨[2], [], [], [], [], some [2], [], [], [(56, 0, 3, 1), (56, 1, 3, 1), (56, 2, 41, 3)], []⟩
@[simp] theorem an_ledger_outside_draws : an_ledger_outside.draws = [] := rfl
@[simp] theorem an_ledger_outside_exits : an_ledger_outside.exits = [] := rfl
@[simp] theorem an_ledger_outside_rets : an_ledger_outside.rets = some [2] := rfl
@[simp] theorem an_ledger_outside_keep : an_ledger_outside.keep = [2] := rfl
@[simp] theorem an_ledger_outside_cond : an_ledger_outside.cond = [] := rfl
@[simp] theorem an_ledger_outside_rows : an_ledger_outside.rows = [] := rfl
@[simp] theorem an_ledger_outside_loops : an_ledger_outside.loops = [] := rfl
@[simp] theorem an_ledger_outside_ecalls : an_ledger_outside.ecalls = [] := rfl
@[simp] theorem an_ledger_outside_crows : an_ledger_outside.crows = [(56, 0, 3, 1), (56, 1, 3, 1), (56, 2, 41, 3)] := rfl
@[simp] theorem an_ledger_outside_tails : an_ledger_outside.tails = [] := rfl
@[simp] noncomputable def cl_ledger_outside : List (Nat × (List D → Option D)) := []
@[simp] noncomputable def ce_ledger_outside : List (Nat × (List (Nat × O) → List D → Option (D × List (Nat × O)))) := []
noncomputable def c_ledger_outside : CT := ⟨callOf (cl_ledger_outside ), callOfE ce_ledger_outside, gl⟩
@[simp] theorem c_ledger_outside_p (f : FuncId) (ds : List D) : c_ledger_outside.p f ds = callOf (cl_ledger_outside ) f ds := Eq.trans rfl rfl
@[simp] theorem c_ledger_outside_e (f : FuncId) (hs : List (Nat × O)) (ds : List D) : c_ledger_outside.e f hs ds = callOfE ce_ledger_outside f hs ds := Eq.trans rfl rfl
@[simp] theorem c_ledger_outside_g (g : Nat) : c_ledger_outside.g g = gl g := Eq.trans rfl rfl
noncomputable def L_ledger_outside (i n : Nat) (s : St) : Option (E × St) := atN Tryd.prog c_ledger_outside an_ledger_outside 9 (bodyOf Tryd.f33) i n s
noncomputable def H_ledger_outside (n i : Nat) (s : St) : Option (E × St) := atH Tryd.prog c_ledger_outside an_ledger_outside 9 (bodyOf Tryd.f33) n i s
@[simp] theorem H_ledger_outside_eq (n i : Nat) (s : St) : H_ledger_outside n i s = L_ledger_outside i n (headOf (an_ledger_outside.loops.lookup i) s) := rfl
noncomputable def R_ledger_outside (i : Nat) (s : St) : Option (E × St) := stepL Tryd.prog c_ledger_outside an_ledger_outside 9 (bodyOf Tryd.f33) i s
theorem lok_ledger_outside : okLoops (bodyOf Tryd.f33) = true := by kernel_rfl
noncomputable def F_ledger_outside (ds : List D) : Option D := runF Tryd.prog c_ledger_outside an_ledger_outside 9 (bodyOf Tryd.f33) [.tmp 2] ds
theorem F_ledger_outside_eq (ds : List D) : F_ledger_outside ds = runG Tryd.prog c_ledger_outside (H_ledger_outside bigL) an_ledger_outside 9 (bodyOf Tryd.f33) [.tmp 2] ds := runG_eq lok_ledger_outside _ ds
theorem C_ledger_outside (ds : List D) (r : D) (h : F_ledger_outside ds = some r) : Contract Tryd.prog gl 33 ds r := contract_of mix Tryd.func33 rfl (by kernel_rfl) (by kernel_rfl) (by decide) (call := c_ledger_outside) ⟨callOf_ok cl_ledger_outside trivial, callOfE_ok ce_ledger_outside trivial⟩ h
-- sawmill/ledger.amountOf: loops []; state: params 0..0, then [1, 2]
attribute [simp] Tryd.f46
noncomputable def an_ledger_amountOf : Ann := ⟨[1, 2], [], [], [], [], some [2], [], [], [(56, 0, 3, 1), (56, 1, 3, 1), (56, 2, 41, 3)], []⟩
@[simp] theorem an_ledger_amountOf_draws : an_ledger_amountOf.draws = [] := rfl
@[simp] theorem an_ledger_amountOf_exits : an_ledger_amountOf.exits = [] := rfl
@[simp] theorem an_ledger_amountOf_rets : an_ledger_amountOf.rets = some [2] := rfl
@[simp] theorem an_ledger_amountOf_keep : an_ledger_amountOf.keep = [1, 2] := rfl
@[simp] theorem an_ledger_amountOf_cond : an_ledger_amountOf.cond = [] := rfl
@[simp] theorem an_ledger_amountOf_rows : an_ledger_amountOf.rows = [] := rfl
@[simp] theorem an_ledger_amountOf_loops : an_ledger_amountOf.loops = [] := rfl
@[simp] theorem an_ledger_amountOf_ecalls : an_ledger_amountOf.ecalls = [] := rfl
@[simp] theorem an_ledger_amountOf_crows : an_ledger_amountOf.crows = [(56, 0, 3, 1), (56, 1, 3, 1), (56, 2, 41, 3)] := rfl
@[simp] theorem an_ledger_amountOf_tails : an_ledger_amountOf.tails = [] := rfl
@[simp] noncomputable def cl_ledger_amountOf : List (Nat × (List D → Option D)) := []
@[simp] noncomputable def ce_ledger_amountOf : List (Nat × (List (Nat × O) → List D → Option (D × List (Nat × O)))) := []
noncomputable def c_ledger_amountOf : CT := ⟨callOf (cl_ledger_amountOf ), callOfE ce_ledger_amountOf, gl⟩
@[simp] theorem c_ledger_amountOf_p (f : FuncId) (ds : List D) : c_ledger_amountOf.p f ds = callOf (cl_ledger_amountOf ) f ds := Eq.trans rfl rfl
@[simp] theorem c_ledger_amountOf_e (f : FuncId) (hs : List (Nat × O)) (ds : List D) : c_ledger_amountOf.e f hs ds = callOfE ce_ledger_amountOf f hs ds := Eq.trans rfl rfl
@[simp] theorem c_ledger_amountOf_g (g : Nat) : c_ledger_amountOf.g g = gl g := Eq.trans rfl rfl
noncomputable def L_ledger_amountOf (i n : Nat) (s : St) : Option (E × St) := atN Tryd.prog c_ledger_amountOf an_ledger_amountOf 5 (bodyOf Tryd.f46) i n s
noncomputable def H_ledger_amountOf (n i : Nat) (s : St) : Option (E × St) := atH Tryd.prog c_ledger_amountOf an_ledger_amountOf 5 (bodyOf Tryd.f46) n i s
@[simp] theorem H_ledger_amountOf_eq (n i : Nat) (s : St) : H_ledger_amountOf n i s = L_ledger_amountOf i n (headOf (an_ledger_amountOf.loops.lookup i) s) := rfl
noncomputable def R_ledger_amountOf (i : Nat) (s : St) : Option (E × St) := stepL Tryd.prog c_ledger_amountOf an_ledger_amountOf 5 (bodyOf Tryd.f46) i s
theorem lok_ledger_amountOf : okLoops (bodyOf Tryd.f46) = true := by kernel_rfl
noncomputable def F_ledger_amountOf (ds : List D) : Option D := runF Tryd.prog c_ledger_amountOf an_ledger_amountOf 5 (bodyOf Tryd.f46) [.tmp 2] ds
theorem F_ledger_amountOf_eq (ds : List D) : F_ledger_amountOf ds = runG Tryd.prog c_ledger_amountOf (H_ledger_amountOf bigL) an_ledger_amountOf 5 (bodyOf Tryd.f46) [.tmp 2] ds := runG_eq lok_ledger_amountOf _ ds
theorem C_ledger_amountOf (ds : List D) (r : D) (h : F_ledger_amountOf ds = some r) : Contract Tryd.prog gl 46 ds r := contract_of mix Tryd.func46 rfl (by kernel_rfl) (by kernel_rfl) (by decide) (call := c_ledger_amountOf) ⟨callOf_ok cl_ledger_amountOf trivial, callOfE_ok ce_ledger_amountOf trivial⟩ h
-- sawmill/ledger.total[sawmill/api.Posting,int]: loops [3]; state: params 0..1, then [4, 5, 7, 8, 9, 10]
attribute [simp] Tryd.f45
noncomputable def an_ledger_total_api_Posting_int : Ann := ⟨[4, 5, 7, 8, 9, 10], [11], [], [(3, [1, 5, 8, 9, 10])], [(0, [5]), (1, [1, 5, 8, 9, 10])], some [4], [], [], [(56, 0, 3, 1), (56, 1, 3, 1), (56, 2, 41, 3)], []⟩
@[simp] theorem an_ledger_total_api_Posting_int_draws : an_ledger_total_api_Posting_int.draws = [] := rfl
@[simp] theorem an_ledger_total_api_Posting_int_exits : an_ledger_total_api_Posting_int.exits = [(0, [5]), (1, [1, 5, 8, 9, 10])] := rfl
@[simp] theorem an_ledger_total_api_Posting_int_rets : an_ledger_total_api_Posting_int.rets = some [4] := rfl
@[simp] theorem an_ledger_total_api_Posting_int_keep : an_ledger_total_api_Posting_int.keep = [4, 5, 7, 8, 9, 10] := rfl
@[simp] theorem an_ledger_total_api_Posting_int_cond : an_ledger_total_api_Posting_int.cond = [11] := rfl
@[simp] theorem an_ledger_total_api_Posting_int_rows : an_ledger_total_api_Posting_int.rows = [] := rfl
@[simp] theorem an_ledger_total_api_Posting_int_loops : an_ledger_total_api_Posting_int.loops = [(3, [1, 5, 8, 9, 10])] := rfl
@[simp] theorem an_ledger_total_api_Posting_int_ecalls : an_ledger_total_api_Posting_int.ecalls = [] := rfl
@[simp] theorem an_ledger_total_api_Posting_int_crows : an_ledger_total_api_Posting_int.crows = [(56, 0, 3, 1), (56, 1, 3, 1), (56, 2, 41, 3)] := rfl
@[simp] theorem an_ledger_total_api_Posting_int_tails : an_ledger_total_api_Posting_int.tails = [] := rfl
@[simp] noncomputable def cl_ledger_total_api_Posting_int : List (Nat × (List D → Option D)) := [(46, F_ledger_amountOf)]
@[simp] noncomputable def ce_ledger_total_api_Posting_int : List (Nat × (List (Nat × O) → List D → Option (D × List (Nat × O)))) := []
noncomputable def c_ledger_total_api_Posting_int : CT := ⟨callOf (cl_ledger_total_api_Posting_int ), callOfE ce_ledger_total_api_Posting_int, gl⟩
@[simp] theorem c_ledger_total_api_Posting_int_p (f : FuncId) (ds : List D) : c_ledger_total_api_Posting_int.p f ds = callOf (cl_ledger_total_api_Posting_int ) f ds := Eq.trans rfl rfl
@[simp] theorem c_ledger_total_api_Posting_int_e (f : FuncId) (hs : List (Nat × O)) (ds : List D) : c_ledger_total_api_Posting_int.e f hs ds = callOfE ce_ledger_total_api_Posting_int f hs ds := Eq.trans rfl rfl
@[simp] theorem c_ledger_total_api_Posting_int_g (g : Nat) : c_ledger_total_api_Posting_int.g g = gl g := Eq.trans rfl rfl
noncomputable def L_ledger_total_api_Posting_int (i n : Nat) (s : St) : Option (E × St) := atN Tryd.prog c_ledger_total_api_Posting_int an_ledger_total_api_Posting_int 21 (bodyOf Tryd.f45) i n s
noncomputable def H_ledger_total_api_Posting_int (n i : Nat) (s : St) : Option (E × St) := atH Tryd.prog c_ledger_total_api_Posting_int an_ledger_total_api_Posting_int 21 (bodyOf Tryd.f45) n i s
@[simp] theorem H_ledger_total_api_Posting_int_eq (n i : Nat) (s : St) : H_ledger_total_api_Posting_int n i s = L_ledger_total_api_Posting_int i n (headOf (an_ledger_total_api_Posting_int.loops.lookup i) s) := rfl
noncomputable def R_ledger_total_api_Posting_int (i : Nat) (s : St) : Option (E × St) := stepL Tryd.prog c_ledger_total_api_Posting_int an_ledger_total_api_Posting_int 21 (bodyOf Tryd.f45) i s
theorem lok_ledger_total_api_Posting_int : okLoops (bodyOf Tryd.f45) = true := by kernel_rfl
theorem L_ledger_total_api_Posting_int_succ (i n : Nat) (s : St) : L_ledger_total_api_Posting_int i (n + 1) s = andThen (R_ledger_total_api_Posting_int i s) (H_ledger_total_api_Posting_int n i) := atN_succ lok_ledger_total_api_Posting_int (by kernel_rfl) i n s
theorem R_ledger_total_api_Posting_int_eq (i : Nat) (s : St) : R_ledger_total_api_Posting_int i s = runS Tryd.prog c_ledger_total_api_Posting_int (H_ledger_total_api_Posting_int bigL) an_ledger_total_api_Posting_int 21 (loopAt (bodyOf Tryd.f45) i) s := rfl
noncomputable def F_ledger_total_api_Posting_int (ds : List D) : Option D := runF Tryd.prog c_ledger_total_api_Posting_int an_ledger_total_api_Posting_int 21 (bodyOf Tryd.f45) [.tmp 4] ds
theorem F_ledger_total_api_Posting_int_eq (ds : List D) : F_ledger_total_api_Posting_int ds = runG Tryd.prog c_ledger_total_api_Posting_int (H_ledger_total_api_Posting_int bigL) an_ledger_total_api_Posting_int 21 (bodyOf Tryd.f45) [.tmp 4] ds := runG_eq lok_ledger_total_api_Posting_int _ ds
theorem C_ledger_total_api_Posting_int (ds : List D) (r : D) (h : F_ledger_total_api_Posting_int ds = some r) : Contract Tryd.prog gl 45 ds r := contract_of mix Tryd.func45 rfl (by kernel_rfl) (by kernel_rfl) (by decide) (call := c_ledger_total_api_Posting_int) ⟨callOf_ok cl_ledger_total_api_Posting_int ⟨C_ledger_amountOf, trivial⟩, callOfE_ok ce_ledger_total_api_Posting_int trivial⟩ h
-- (*sawmill/ledger.Ledger).checkEntry: loops [15]; state: params 0..1, then [3, 4, 5, 7, 9, 64, 65, 66]
attribute [simp] Tryd.f32
noncomputable def an_ledger_Ledger_checkEntry : Ann := ⟨[0, 3, 4, 5, 7, 9, 64, 65, 66], [18, 25, 33, 54, 58, 62, 67, 81, 84, 89], [], [(15, [0, 3, 64, 65, 66])], [(0, [3]), (1, [0, 3, 64, 65, 66])], some [4], [(3, 6), (8, 14), (17, 11)], [], [(56, 0, 3, 1), (56, 1, 3, 1), (56, 2, 41, 3)], []⟩
@[simp] theorem an_ledger_Ledger_checkEntry_draws : an_ledger_Ledger_checkEntry.draws = [(3, 6), (8, 14), (17, 11)] := rfl
@[simp] theorem an_ledger_Ledger_checkEntry_exits : an_ledger_Ledger_checkEntry.exits = [(0, [3]), (1, [0, 3, 64, 65, 66])] := rfl
@[simp] theorem an_ledger_Ledger_checkEntry_rets : an_ledger_Ledger_checkEntry.rets = some [4] := rfl
@[simp] theorem an_ledger_Ledger_checkEntry_keep : an_ledger_Ledger_checkEntry.keep = [0, 3, 4, 5, 7, 9, 64, 65, 66] := rfl
@[simp] theorem an_ledger_Ledger_checkEntry_cond : an_ledger_Ledger_checkEntry.cond = [18, 25, 33, 54, 58, 62, 67, 81, 84, 89] := rfl
@[simp] theorem an_ledger_Ledger_checkEntry_rows : an_ledger_Ledger_checkEntry.rows = [] := rfl
@[simp] theorem an_ledger_Ledger_checkEntry_loops : an_ledger_Ledger_checkEntry.loops = [(15, [0, 3, 64, 65, 66])] := rfl
@[simp] theorem an_ledger_Ledger_checkEntry_ecalls : an_ledger_Ledger_checkEntry.ecalls = [] := rfl
@[simp] theorem an_ledger_Ledger_checkEntry_crows : an_ledger_Ledger_checkEntry.crows = [(56, 0, 3, 1), (56, 1, 3, 1), (56, 2, 41, 3)] := rfl
@[simp] theorem an_ledger_Ledger_checkEntry_tails : an_ledger_Ledger_checkEntry.tails = [] := rfl
@[simp] noncomputable def cl_ledger_Ledger_checkEntry : List (Nat × (List D → Option D)) := [(33, F_ledger_outside), (45, F_ledger_total_api_Posting_int), (46, F_ledger_amountOf)]
@[simp] noncomputable def ce_ledger_Ledger_checkEntry : List (Nat × (List (Nat × O) → List D → Option (D × List (Nat × O)))) := []
noncomputable def c_ledger_Ledger_checkEntry : CT := ⟨callOf (cl_ledger_Ledger_checkEntry ), callOfE ce_ledger_Ledger_checkEntry, gl⟩
@[simp] theorem c_ledger_Ledger_checkEntry_p (f : FuncId) (ds : List D) : c_ledger_Ledger_checkEntry.p f ds = callOf (cl_ledger_Ledger_checkEntry ) f ds := Eq.trans rfl rfl
@[simp] theorem c_ledger_Ledger_checkEntry_e (f : FuncId) (hs : List (Nat × O)) (ds : List D) : c_ledger_Ledger_checkEntry.e f hs ds = callOfE ce_ledger_Ledger_checkEntry f hs ds := Eq.trans rfl rfl
@[simp] theorem c_ledger_Ledger_checkEntry_g (g : Nat) : c_ledger_Ledger_checkEntry.g g = gl g := Eq.trans rfl rfl
noncomputable def L_ledger_Ledger_checkEntry (i n : Nat) (s : St) : Option (E × St) := atN Tryd.prog c_ledger_Ledger_checkEntry an_ledger_Ledger_checkEntry 90 (bodyOf Tryd.f32) i n s
noncomputable def H_ledger_Ledger_checkEntry (n i : Nat) (s : St) : Option (E × St) := atH Tryd.prog c_ledger_Ledger_checkEntry an_ledger_Ledger_checkEntry 90 (bodyOf Tryd.f32) n i s
@[simp] theorem H_ledger_Ledger_checkEntry_eq (n i : Nat) (s : St) : H_ledger_Ledger_checkEntry n i s = L_ledger_Ledger_checkEntry i n (headOf (an_ledger_Ledger_checkEntry.loops.lookup i) s) := rfl
noncomputable def R_ledger_Ledger_checkEntry (i : Nat) (s : St) : Option (E × St) := stepL Tryd.prog c_ledger_Ledger_checkEntry an_ledger_Ledger_checkEntry 90 (bodyOf Tryd.f32) i s
theorem lok_ledger_Ledger_checkEntry : okLoops (bodyOf Tryd.f32) = true := by kernel_rfl
theorem L_ledger_Ledger_checkEntry_succ (i n : Nat) (s : St) : L_ledger_Ledger_checkEntry i (n + 1) s = andThen (R_ledger_Ledger_checkEntry i s) (H_ledger_Ledger_checkEntry n i) := atN_succ lok_ledger_Ledger_checkEntry (by kernel_rfl) i n s
theorem R_ledger_Ledger_checkEntry_eq (i : Nat) (s : St) : R_ledger_Ledger_checkEntry i s = runS Tryd.prog c_ledger_Ledger_checkEntry (H_ledger_Ledger_checkEntry bigL) an_ledger_Ledger_checkEntry 90 (loopAt (bodyOf Tryd.f32) i) s := rfl
noncomputable def F_ledger_Ledger_checkEntry (ds : List D) : Option D := runF Tryd.prog c_ledger_Ledger_checkEntry an_ledger_Ledger_checkEntry 90 (bodyOf Tryd.f32) [.tmp 4] ds
theorem F_ledger_Ledger_checkEntry_eq (ds : List D) : F_ledger_Ledger_checkEntry ds = runG Tryd.prog c_ledger_Ledger_checkEntry (H_ledger_Ledger_checkEntry bigL) an_ledger_Ledger_checkEntry 90 (bodyOf Tryd.f32) [.tmp 4] ds := runG_eq lok_ledger_Ledger_checkEntry _ ds
theorem C_ledger_Ledger_checkEntry (ds : List D) (r : D) (h : F_ledger_Ledger_checkEntry ds = some r) : Contract Tryd.prog gl 32 ds r := contract_of mix Tryd.func32 rfl (by kernel_rfl) (by kernel_rfl) (by decide) (call := c_ledger_Ledger_checkEntry) ⟨callOf_ok cl_ledger_Ledger_checkEntry ⟨C_ledger_outside, C_ledger_total_api_Posting_int, C_ledger_amountOf, trivial⟩, callOfE_ok ce_ledger_Ledger_checkEntry trivial⟩ h
-- slices.Clone[[]sawmill/api.Posting,sawmill/api.Posting]: loops []; state: params 0..0, then [2]
attribute [simp] Tryd.f47
noncomputable def an_slices_Clone_api_Posting_api_Posting : Ann := ⟨[0, 2], [4], [5], [], [], some [2], [], [], [(56, 0, 3, 1), (56, 1, 3, 1), (56, 2, 41, 3)], []⟩
@[simp] theorem an_slices_Clone_api_Posting_api_Posting_draws : an_slices_Clone_api_Posting_api_Posting.draws = [] := rfl
@[simp] theorem an_slices_Clone_api_Posting_api_Posting_exits : an_slices_Clone_api_Posting_api_Posting.exits = [] := rfl
@[simp] theorem an_slices_Clone_api_Posting_api_Posting_rets : an_slices_Clone_api_Posting_api_Posting.rets = some [2] := rfl
@[simp] theorem an_slices_Clone_api_Posting_api_Posting_keep : an_slices_Clone_api_Posting_api_Posting.keep = [0, 2] := rfl
@[simp] theorem an_slices_Clone_api_Posting_api_Posting_cond : an_slices_Clone_api_Posting_api_Posting.cond = [4] := rfl
@[simp] theorem an_slices_Clone_api_Posting_api_Posting_rows : an_slices_Clone_api_Posting_api_Posting.rows = [5] := rfl
@[simp] theorem an_slices_Clone_api_Posting_api_Posting_loops : an_slices_Clone_api_Posting_api_Posting.loops = [] := rfl
@[simp] theorem an_slices_Clone_api_Posting_api_Posting_ecalls : an_slices_Clone_api_Posting_api_Posting.ecalls = [] := rfl
@[simp] theorem an_slices_Clone_api_Posting_api_Posting_crows : an_slices_Clone_api_Posting_api_Posting.crows = [(56, 0, 3, 1), (56, 1, 3, 1), (56, 2, 41, 3)] := rfl
@[simp] theorem an_slices_Clone_api_Posting_api_Posting_tails : an_slices_Clone_api_Posting_api_Posting.tails = [] := rfl
@[simp] noncomputable def cl_slices_Clone_api_Posting_api_Posting : List (Nat × (List D → Option D)) := []
@[simp] noncomputable def ce_slices_Clone_api_Posting_api_Posting : List (Nat × (List (Nat × O) → List D → Option (D × List (Nat × O)))) := []
noncomputable def c_slices_Clone_api_Posting_api_Posting : CT := ⟨callOf (cl_slices_Clone_api_Posting_api_Posting ), callOfE ce_slices_Clone_api_Posting_api_Posting, gl⟩
@[simp] theorem c_slices_Clone_api_Posting_api_Posting_p (f : FuncId) (ds : List D) : c_slices_Clone_api_Posting_api_Posting.p f ds = callOf (cl_slices_Clone_api_Posting_api_Posting ) f ds := Eq.trans rfl rfl
@[simp] theorem c_slices_Clone_api_Posting_api_Posting_e (f : FuncId) (hs : List (Nat × O)) (ds : List D) : c_slices_Clone_api_Posting_api_Posting.e f hs ds = callOfE ce_slices_Clone_api_Posting_api_Posting f hs ds := Eq.trans rfl rfl
@[simp] theorem c_slices_Clone_api_Posting_api_Posting_g (g : Nat) : c_slices_Clone_api_Posting_api_Posting.g g = gl g := Eq.trans rfl rfl
noncomputable def L_slices_Clone_api_Posting_api_Posting (i n : Nat) (s : St) : Option (E × St) := atN Tryd.prog c_slices_Clone_api_Posting_api_Posting an_slices_Clone_api_Posting_api_Posting 8 (bodyOf Tryd.f47) i n s
noncomputable def H_slices_Clone_api_Posting_api_Posting (n i : Nat) (s : St) : Option (E × St) := atH Tryd.prog c_slices_Clone_api_Posting_api_Posting an_slices_Clone_api_Posting_api_Posting 8 (bodyOf Tryd.f47) n i s
@[simp] theorem H_slices_Clone_api_Posting_api_Posting_eq (n i : Nat) (s : St) : H_slices_Clone_api_Posting_api_Posting n i s = L_slices_Clone_api_Posting_api_Posting i n (headOf (an_slices_Clone_api_Posting_api_Posting.loops.lookup i) s) := rfl
noncomputable def R_slices_Clone_api_Posting_api_Posting (i : Nat) (s : St) : Option (E × St) := stepL Tryd.prog c_slices_Clone_api_Posting_api_Posting an_slices_Clone_api_Posting_api_Posting 8 (bodyOf Tryd.f47) i s
theorem lok_slices_Clone_api_Posting_api_Posting : okLoops (bodyOf Tryd.f47) = true := by kernel_rfl
noncomputable def F_slices_Clone_api_Posting_api_Posting (ds : List D) : Option D := runF Tryd.prog c_slices_Clone_api_Posting_api_Posting an_slices_Clone_api_Posting_api_Posting 8 (bodyOf Tryd.f47) [.tmp 2] ds
theorem F_slices_Clone_api_Posting_api_Posting_eq (ds : List D) : F_slices_Clone_api_Posting_api_Posting ds = runG Tryd.prog c_slices_Clone_api_Posting_api_Posting (H_slices_Clone_api_Posting_api_Posting bigL) an_slices_Clone_api_Posting_api_Posting 8 (bodyOf Tryd.f47) [.tmp 2] ds := runG_eq lok_slices_Clone_api_Posting_api_Posting _ ds
theorem C_slices_Clone_api_Posting_api_Posting (ds : List D) (r : D) (h : F_slices_Clone_api_Posting_api_Posting ds = some r) : Contract Tryd.prog gl 47 ds r := contract_of mix Tryd.func47 rfl (by kernel_rfl) (by kernel_rfl) (by decide) (call := c_slices_Clone_api_Posting_api_Posting) ⟨callOf_ok cl_slices_Clone_api_Posting_api_Posting trivial, callOfE_ok ce_slices_Clone_api_Posting_api_Posting trivial⟩ h
noncomputable def NF_slices_Clone_api_Posting_api_Posting (ds : List D) : Option D := nilF F_slices_Clone_api_Posting_api_Posting (.own true []) ds
theorem NF_slices_Clone_api_Posting_api_Posting_sl (es : List (List D)) : NF_slices_Clone_api_Posting_api_Posting [.sl es] = if es.length = 0 then some (.own true []) else F_slices_Clone_api_Posting_api_Posting [.sl es] := Eq.trans rfl rfl
theorem NC_slices_Clone_api_Posting_api_Posting (ds : List D) (r : D) (h : NF_slices_Clone_api_Posting_api_Posting ds = some r) : Contract Tryd.prog gl 47 ds r := nilF_ok C_slices_Clone_api_Posting_api_Posting (fun A c => by rw [F_slices_Clone_api_Posting_api_Posting_eq]; cases A <;> simp) ds r h
-- sawmill/ledger.copyOf: loops []; state: params 0..0, then [1, 2]
attribute [simp] Tryd.f35
noncomputable def an_ledger_copyOf : Ann := ⟨[1, 2], [], [], [], [], some [2], [], [], [(56, 0, 3, 1), (56, 1, 3, 1), (56, 2, 41, 3)], []⟩
@[simp] theorem an_ledger_copyOf_draws : an_ledger_copyOf.draws = [] := rfl
@[simp] theorem an_ledger_copyOf_exits : an_ledger_copyOf.exits = [] := rfl
@[simp] theorem an_ledger_copyOf_rets : an_ledger_copyOf.rets = some [2] := rfl
@[simp] theorem an_ledger_copyOf_keep : an_ledger_copyOf.keep = [1, 2] := rfl
@[simp] theorem an_ledger_copyOf_cond : an_ledger_copyOf.cond = [] := rfl
@[simp] theorem an_ledger_copyOf_rows : an_ledger_copyOf.rows = [] := rfl
@[simp] theorem an_ledger_copyOf_loops : an_ledger_copyOf.loops = [] := rfl
@[simp] theorem an_ledger_copyOf_ecalls : an_ledger_copyOf.ecalls = [] := rfl
@[simp] theorem an_ledger_copyOf_crows : an_ledger_copyOf.crows = [(56, 0, 3, 1), (56, 1, 3, 1), (56, 2, 41, 3)] := rfl
@[simp] theorem an_ledger_copyOf_tails : an_ledger_copyOf.tails = [] := rfl
@[simp] noncomputable def cl_ledger_copyOf : List (Nat × (List D → Option D)) := [(47, NF_slices_Clone_api_Posting_api_Posting)]
@[simp] noncomputable def ce_ledger_copyOf : List (Nat × (List (Nat × O) → List D → Option (D × List (Nat × O)))) := []
noncomputable def c_ledger_copyOf : CT := ⟨callOf (cl_ledger_copyOf ), callOfE ce_ledger_copyOf, gl⟩
@[simp] theorem c_ledger_copyOf_p (f : FuncId) (ds : List D) : c_ledger_copyOf.p f ds = callOf (cl_ledger_copyOf ) f ds := Eq.trans rfl rfl
@[simp] theorem c_ledger_copyOf_e (f : FuncId) (hs : List (Nat × O)) (ds : List D) : c_ledger_copyOf.e f hs ds = callOfE ce_ledger_copyOf f hs ds := Eq.trans rfl rfl
@[simp] theorem c_ledger_copyOf_g (g : Nat) : c_ledger_copyOf.g g = gl g := Eq.trans rfl rfl
noncomputable def L_ledger_copyOf (i n : Nat) (s : St) : Option (E × St) := atN Tryd.prog c_ledger_copyOf an_ledger_copyOf 8 (bodyOf Tryd.f35) i n s
noncomputable def H_ledger_copyOf (n i : Nat) (s : St) : Option (E × St) := atH Tryd.prog c_ledger_copyOf an_ledger_copyOf 8 (bodyOf Tryd.f35) n i s
@[simp] theorem H_ledger_copyOf_eq (n i : Nat) (s : St) : H_ledger_copyOf n i s = L_ledger_copyOf i n (headOf (an_ledger_copyOf.loops.lookup i) s) := rfl
noncomputable def R_ledger_copyOf (i : Nat) (s : St) : Option (E × St) := stepL Tryd.prog c_ledger_copyOf an_ledger_copyOf 8 (bodyOf Tryd.f35) i s
theorem lok_ledger_copyOf : okLoops (bodyOf Tryd.f35) = true := by kernel_rfl
noncomputable def F_ledger_copyOf (ds : List D) : Option D := runF Tryd.prog c_ledger_copyOf an_ledger_copyOf 8 (bodyOf Tryd.f35) [.cell 2 41] ds
theorem F_ledger_copyOf_eq (ds : List D) : F_ledger_copyOf ds = runG Tryd.prog c_ledger_copyOf (H_ledger_copyOf bigL) an_ledger_copyOf 8 (bodyOf Tryd.f35) [.cell 2 41] ds := runG_eq lok_ledger_copyOf _ ds
theorem C_ledger_copyOf (ds : List D) (r : D) (h : F_ledger_copyOf ds = some r) : Contract Tryd.prog gl 35 ds r := contract_of mix Tryd.func35 rfl (by kernel_rfl) (by kernel_rfl) (by decide) (call := c_ledger_copyOf) ⟨callOf_ok cl_ledger_copyOf ⟨NC_slices_Clone_api_Posting_api_Posting, trivial⟩, callOfE_ok ce_ledger_copyOf trivial⟩ h
-- (*sawmill/ledger.Ledger).Post: loops [8, 16]; state: params 0..1, then [3, 4, 5, 6, 8, 10, 12, 23, 24, 25, 57]; WITH OBJECTS
attribute [simp] Tryd.f17
noncomputable def an_ledger_Ledger_Post : Ann := ⟨[0, 3, 4, 5, 6, 8, 10, 12, 23, 24, 25, 57], [14, 19, 26, 37, 59, 63, 69], [86], [(8, [0, 3, 6, 23, 24, 25]), (16, [0, 3, 6, 57])], [(0, [0, 3, 6]), (1, [0, 3, 6, 23, 24, 25]), (2, [0, 3, 6]), (3, [0, 3, 6, 57])], some [4], [(12, 10), (23, 6), (24, 0)], [(34, false)], [(56, 0, 3, 1), (56, 1, 3, 1), (56, 2, 41, 3)], [(24, (.alt 0 (.alt 1 (.alt 2 (.alt 3 (.alt 4 (.alt 5 (.alt 6 (.alt 7 (.alt 8 (.alt 9 (.alt 10 (.alt 11 .leaf .leaf) .leaf) .leaf) .leaf) .leaf) .leaf) .leaf) (.alt 5 (.alt 4 (.alt 6 (.alt 7 (.alt 8 (.alt 9 (.alt 10 (.alt 11 .leaf .leaf) .leaf) .leaf) .leaf) .leaf) .leaf) (.alt 6 (.alt 4 (.alt 7 (.alt 8 (.alt 9 (.alt 10 (.alt 11 .leaf .leaf) .leaf) .leaf) .leaf) .leaf) (.alt 7 (.alt 4 (.alt 8 (.alt 9 (.alt 10 (.alt 11 .leaf .leaf) .leaf) .leaf) .leaf) .leaf) .leaf)) .leaf)) .leaf)) (.alt 5 (.alt 3 (.alt 4 (.alt 6 (.alt 7 (.alt 8 (.alt 9 (.alt 10 (.alt 11 .leaf .leaf) .leaf) .leaf) .leaf) .leaf) .leaf) (.alt 6 (.alt 4 (.alt 7 (.alt 8 (.alt 9 (.alt 10 (.alt 11 .leaf .leaf) .leaf) .leaf) .leaf) .leaf) (.alt 7 (.alt 4 (.alt 8 (.alt 9 (.alt 10 (.alt 11 .leaf .leaf) .leaf) .leaf) .leaf) .leaf) .leaf)) .leaf)) (.alt 6 (.alt 3 (.alt 4 (.alt 7 (.alt 8 (.alt 9 (.alt 10 (.alt 11 .leaf .leaf) .leaf) .leaf) .leaf) .leaf) (.alt 7 (.alt 4 (.alt 8 (.alt 9 (.alt 10 (.alt 11 .leaf .leaf) .leaf) .leaf) .leaf) .leaf) .leaf)) (.alt 7 (.alt 3 (.alt 4 (.alt 8 (.alt 9 (.alt 10 (.alt 11 .leaf .leaf) .leaf) .leaf) .leaf) .leaf) .leaf) .leaf)) .leaf)) .leaf)) (.alt 5 (.alt 2 (.alt 3 (.alt 4 (.alt 6 (.alt 7 (.alt 8 (.alt 9 (.alt 10 (.alt 11 .leaf .leaf) .leaf) .leaf) .leaf) .leaf) .leaf) (.alt 6 (.alt 4 (.alt 7 (.alt 8 (.alt 9 (.alt 10 (.alt 11 .leaf .leaf) .leaf) .leaf) .leaf) .leaf) (.alt 7 (.alt 4 (.alt 8 (.alt 9 (.alt 10 (.alt 11 .leaf .leaf) .leaf) .leaf) .leaf) .leaf) .leaf)) .leaf)) (.alt 6 (.alt 3 (.alt 4 (.alt 7 (.alt 8 (.alt 9 (.alt 10 (.alt 11 .leaf .leaf) .leaf) .leaf) .leaf) .leaf) (.alt 7 (.alt 4 (.alt 8 (.alt 9 (.alt 10 (.alt 11 .leaf .leaf) .leaf) .leaf) .leaf) .leaf) .leaf)) (.alt 7 (.alt 3 (.alt 4 (.alt 8 (.alt 9 (.alt 10 (.alt 11 .leaf .leaf) .leaf) .leaf) .leaf) .leaf) .leaf) .leaf)) .leaf)) (.alt 6 (.alt 2 (.alt 3 (.alt 4 (.alt 7 (.alt 8 (.alt 9 (.alt 10 (.alt 11 .leaf .leaf) .leaf) .leaf) .leaf) .leaf) (.alt 7 (.alt 4 (.alt 8 (.alt 9 (.alt 10 (.alt 11 .leaf .leaf) .leaf) .leaf) .leaf) .leaf) .leaf)) (.alt 7 (.alt 3 (.alt 4 (.alt 8 (.alt 9 (.alt 10 (.alt 11 .leaf .leaf) .leaf) .leaf) .leaf) .leaf) .leaf) .leaf)) (.alt 7 (.alt 2 (.alt 3 (.alt 4 (.alt 8 (.alt 9 (.alt 10 (.alt 11 .leaf .leaf) .leaf) .leaf) .leaf) .leaf) .leaf) .leaf) .leaf)) .leaf)) .leaf)) .leaf) .leaf))]⟩
@[simp] theorem an_ledger_Ledger_Post_draws : an_ledger_Ledger_Post.draws = [(12, 10), (23, 6), (24, 0)] := rfl
@[simp] theorem an_ledger_Ledger_Post_exits : an_ledger_Ledger_Post.exits = [(0, [0, 3, 6]), (1, [0, 3, 6, 23, 24, 25]), (2, [0, 3, 6]), (3, [0, 3, 6, 57])] := rfl
@[simp] theorem an_ledger_Ledger_Post_rets : an_ledger_Ledger_Post.rets = some [4] := rfl
@[simp] theorem an_ledger_Ledger_Post_keep : an_ledger_Ledger_Post.keep = [0, 3, 4, 5, 6, 8, 10, 12, 23, 24, 25, 57] := rfl
@[simp] theorem an_ledger_Ledger_Post_cond : an_ledger_Ledger_Post.cond = [14, 19, 26, 37, 59, 63, 69] := rfl
@[simp] theorem an_ledger_Ledger_Post_rows : an_ledger_Ledger_Post.rows = [86] := rfl
@[simp] theorem an_ledger_Ledger_Post_loops : an_ledger_Ledger_Post.loops = [(8, [0, 3, 6, 23, 24, 25]), (16, [0, 3, 6, 57])] := rfl
@[simp] theorem an_ledger_Ledger_Post_ecalls : an_ledger_Ledger_Post.ecalls = [(34, false)] := rfl
@[simp] theorem an_ledger_Ledger_Post_crows : an_ledger_Ledger_Post.crows = [(56, 0, 3, 1), (56, 1, 3, 1), (56, 2, 41, 3)] := rfl
@[simp] theorem an_ledger_Ledger_Post_tails : an_ledger_Ledger_Post.tails = [(24, (.alt 0 (.alt 1 (.alt 2 (.alt 3 (.alt 4 (.alt 5 (.alt 6 (.alt 7 (.alt 8 (.alt 9 (.alt 10 (.alt 11 .leaf .leaf) .leaf) .leaf) .leaf) .leaf) .leaf) .leaf) (.alt 5 (.alt 4 (.alt 6 (.alt 7 (.alt 8 (.alt 9 (.alt 10 (.alt 11 .leaf .leaf) .leaf) .leaf) .leaf) .leaf) .leaf) (.alt 6 (.alt 4 (.alt 7 (.alt 8 (.alt 9 (.alt 10 (.alt 11 .leaf .leaf) .leaf) .leaf) .leaf) .leaf) (.alt 7 (.alt 4 (.alt 8 (.alt 9 (.alt 10 (.alt 11 .leaf .leaf) .leaf) .leaf) .leaf) .leaf) .leaf)) .leaf)) .leaf)) (.alt 5 (.alt 3 (.alt 4 (.alt 6 (.alt 7 (.alt 8 (.alt 9 (.alt 10 (.alt 11 .leaf .leaf) .leaf) .leaf) .leaf) .leaf) .leaf) (.alt 6 (.alt 4 (.alt 7 (.alt 8 (.alt 9 (.alt 10 (.alt 11 .leaf .leaf) .leaf) .leaf) .leaf) .leaf) (.alt 7 (.alt 4 (.alt 8 (.alt 9 (.alt 10 (.alt 11 .leaf .leaf) .leaf) .leaf) .leaf) .leaf) .leaf)) .leaf)) (.alt 6 (.alt 3 (.alt 4 (.alt 7 (.alt 8 (.alt 9 (.alt 10 (.alt 11 .leaf .leaf) .leaf) .leaf) .leaf) .leaf) (.alt 7 (.alt 4 (.alt 8 (.alt 9 (.alt 10 (.alt 11 .leaf .leaf) .leaf) .leaf) .leaf) .leaf) .leaf)) (.alt 7 (.alt 3 (.alt 4 (.alt 8 (.alt 9 (.alt 10 (.alt 11 .leaf .leaf) .leaf) .leaf) .leaf) .leaf) .leaf) .leaf)) .leaf)) .leaf)) (.alt 5 (.alt 2 (.alt 3 (.alt 4 (.alt 6 (.alt 7 (.alt 8 (.alt 9 (.alt 10 (.alt 11 .leaf .leaf) .leaf) .leaf) .leaf) .leaf) .leaf) (.alt 6 (.alt 4 (.alt 7 (.alt 8 (.alt 9 (.alt 10 (.alt 11 .leaf .leaf) .leaf) .leaf) .leaf) .leaf) (.alt 7 (.alt 4 (.alt 8 (.alt 9 (.alt 10 (.alt 11 .leaf .leaf) .leaf) .leaf) .leaf) .leaf) .leaf)) .leaf)) (.alt 6 (.alt 3 (.alt 4 (.alt 7 (.alt 8 (.alt 9 (.alt 10 (.alt 11 .leaf .leaf) .leaf) .leaf) .leaf) .leaf) (.alt 7 (.alt 4 (.alt 8 (.alt 9 (.alt 10 (.alt 11 .leaf .leaf) .leaf) .leaf) .leaf) .leaf) .leaf)) (.alt 7 (.alt 3 (.alt 4 (.alt 8 (.alt 9 (.alt 10 (.alt 11 .leaf .leaf) .leaf) .leaf) .leaf) .leaf) .leaf) .leaf)) .leaf)) (.alt 6 (.alt 2 (.alt 3 (.alt 4 (.alt 7 (.alt 8 (.alt 9 (.alt 10 (.alt 11 .leaf .leaf) .leaf) .leaf) .leaf) .leaf) (.alt 7 (.alt 4 (.alt 8 (.alt 9 (.alt 10 (.alt 11 .leaf .leaf) .leaf) .leaf) .leaf) .leaf) .leaf)) (.alt 7 (.alt 3 (.alt 4 (.alt 8 (.alt 9 (.alt 10 (.alt 11 .leaf .leaf) .leaf) .leaf) .leaf) .leaf) .leaf) .leaf)) (.alt 7 (.alt 2 (.alt 3 (.alt 4 (.alt 8 (.alt 9 (.alt 10 (.alt 11 .leaf .leaf) .leaf) .leaf) .leaf) .leaf) .leaf) .leaf) .leaf)) .leaf)) .leaf)) .leaf) .leaf))] := rfl
@[simp] noncomputable def cl_ledger_Ledger_Post : List (Nat × (List D → Option D)) := [(32, F_ledger_Ledger_checkEntry), (33, F_ledger_outside), (35, F_ledger_copyOf)]
@[simp] noncomputable def ce_ledger_Ledger_Post : List (Nat × (List (Nat × O) → List D → Option (D × List (Nat × O)))) := [(34, E_copy)]
noncomputable def c_ledger_Ledger_Post : CT := ⟨callOf (cl_ledger_Ledger_Post ), callOfE ce_ledger_Ledger_Post, gl⟩
@[simp] theorem c_ledger_Ledger_Post_p (f : FuncId) (ds : List D) : c_ledger_Ledger_Post.p f ds = callOf (cl_ledger_Ledger_Post ) f ds := Eq.trans rfl rfl
@[simp] theorem c_ledger_Ledger_Post_e (f : FuncId) (hs : List (Nat × O)) (ds : List D) : c_ledger_Ledger_Post.e f hs ds = callOfE ce_ledger_Ledger_Post f hs ds := Eq.trans rfl rfl
@[simp] theorem c_ledger_Ledger_Post_g (g : Nat) : c_ledger_Ledger_Post.g g = gl g := Eq.trans rfl rfl
noncomputable def L_ledger_Ledger_Post (i n : Nat) (s : St) : Option (E × St) := atN Tryd.prog c_ledger_Ledger_Post an_ledger_Ledger_Post 93 (bodyOf Tryd.f17) i n s
noncomputable def H_ledger_Ledger_Post (n i : Nat) (s : St) : Option (E × St) := atH Tryd.prog c_ledger_Ledger_Post an_ledger_Ledger_Post 93 (bodyOf Tryd.f17) n i s
@[simp] theorem H_ledger_Ledger_Post_eq (n i : Nat) (s : St) : H_ledger_Ledger_Post n i s = L_ledger_Ledger_Post i n (headOf (an_ledger_Ledger_Post.loops.lookup i) s) := rfl
noncomputable def R_ledger_Ledger_Post (i : Nat) (s : St) : Option (E × St) := stepL Tryd.prog c_ledger_Ledger_Post an_ledger_Ledger_Post 93 (bodyOf Tryd.f17) i s
theorem lok_ledger_Ledger_Post : okLoops (bodyOf Tryd.f17) = true := by kernel_rfl
theorem L_ledger_Ledger_Post_succ_8 (n : Nat) (s : St) : L_ledger_Ledger_Post 8 (n + 1) s = andThen (R_ledger_Ledger_Post 8 s) (H_ledger_Ledger_Post n 8) := atN_succ1 lok_ledger_Ledger_Post 8 n (by kernel_rfl) s
noncomputable def G_ledger_Ledger_Post_16 (s : St) : Option (E × St) := restS Tryd.prog c_ledger_Ledger_Post (H_ledger_Ledger_Post bigL) an_ledger_Ledger_Post 93 (itOf (loopAt (bodyOf Tryd.f17) 16)) s
theorem G_ledger_Ledger_Post_16_eq (s : St) : G_ledger_Ledger_Post_16 s = restS Tryd.prog c_ledger_Ledger_Post (H_ledger_Ledger_Post bigL) an_ledger_Ledger_Post 93 (itOf (loopAt (bodyOf Tryd.f17) 16)) s := rfl
theorem I_ledger_Ledger_Post_16 (n : Nat) (s : St) : L_ledger_Ledger_Post 16 n s = itLoop 93 (G_ledger_Ledger_Post_16 ) (an_ledger_Ledger_Post.loops.lookup 16) 58 57 s := atN_it lok_ledger_Ledger_Post (by kernel_rfl) n s
theorem R_ledger_Ledger_Post_eq (i : Nat) (s : St) : R_ledger_Ledger_Post i s = runS Tryd.prog c_ledger_Ledger_Post (H_ledger_Ledger_Post bigL) an_ledger_Ledger_Post 93 (loopAt (bodyOf Tryd.f17) i) s := rfl
noncomputable def E_ledger_Ledger_Post (hs : List (Nat × O)) (ds : List D) : Option (D × List (Nat × O)) := runE Tryd.prog c_ledger_Ledger_Post an_ledger_Ledger_Post 93 (bodyOf Tryd.f17) [.tmp 4] hs ds
theorem E_ledger_Ledger_Post_eq (hs : List (Nat × O)) (ds : List D) : E_ledger_Ledger_Post hs ds = runGE Tryd.prog c_ledger_Ledger_Post (H_ledger_Ledger_Post bigL) an_ledger_Ledger_Post 93 (bodyOf Tryd.f17) [.tmp 4] hs ds := runGE_eq lok_ledger_Ledger_Post _ hs ds
theorem CE_ledger_Ledger_Post (hs : List (Nat × O)) (ds : List D) (r : D) (hs' : List (Nat × O)) (h : E_ledger_Ledger_Post hs ds = some (r, hs')) : ContractE Tryd.prog gl 17 hs ds r hs' := contractE_of mix Tryd.func17 rfl (by kernel_rfl) (by kernel_rfl) (by decide) (call := c_ledger_Ledger_Post) ⟨callOf_ok cl_ledger_Ledger_Post ⟨C_ledger_Ledger_checkEntry, C_ledger_outside, C_ledger_copyOf, trivial⟩, callOfE_ok ce_ledger_Ledger_Post ⟨CE_copy, trivial⟩⟩ h
-- (*sawmill/ledger.Ledger).Balance: loops []; state: params 0..1, then [4]
attribute [simp] Tryd.f14
noncomputable def an_ledger_Ledger_Balance : Ann := ⟨[0, 4], [6], [], [], [], some [4], [], [], [(56, 0, 3, 1), (56, 1, 3, 1), (56, 2, 41, 3)], []⟩
@[simp] theorem an_ledger_Ledger_Balance_draws : an_ledger_Ledger_Balance.draws = [] := rfl
@[simp] theorem an_ledger_Ledger_Balance_exits : an_ledger_Ledger_Balance.exits = [] := rfl
@[simp] theorem an_ledger_Ledger_Balance_rets : an_ledger_Ledger_Balance.rets = some [4] := rfl
@[simp] theorem an_ledger_Ledger_Balance_keep : an_ledger_Ledger_Balance.keep = [0, 4] := rfl
@[simp] theorem an_ledger_Ledger_Balance_cond : an_ledger_Ledger_Balance.cond = [6] := rfl
@[simp] theorem an_ledger_Ledger_Balance_rows : an_ledger_Ledger_Balance.rows = [] := rfl
@[simp] theorem an_ledger_Ledger_Balance_loops : an_ledger_Ledger_Balance.loops = [] := rfl
@[simp] theorem an_ledger_Ledger_Balance_ecalls : an_ledger_Ledger_Balance.ecalls = [] := rfl
@[simp] theorem an_ledger_Ledger_Balance_crows : an_ledger_Ledger_Balance.crows = [(56, 0, 3, 1), (56, 1, 3, 1), (56, 2, 41, 3)] := rfl
@[simp] theorem an_ledger_Ledger_Balance_tails : an_ledger_Ledger_Balance.tails = [] := rfl
@[simp] noncomputable def cl_ledger_Ledger_Balance : List (Nat × (List D → Option D)) := []
@[simp] noncomputable def ce_ledger_Ledger_Balance : List (Nat × (List (Nat × O) → List D → Option (D × List (Nat × O)))) := []
noncomputable def c_ledger_Ledger_Balance : CT := ⟨callOf (cl_ledger_Ledger_Balance ), callOfE ce_ledger_Ledger_Balance, gl⟩
@[simp] theorem c_ledger_Ledger_Balance_p (f : FuncId) (ds : List D) : c_ledger_Ledger_Balance.p f ds = callOf (cl_ledger_Ledger_Balance ) f ds := Eq.trans rfl rfl
@[simp] theorem c_ledger_Ledger_Balance_e (f : FuncId) (hs : List (Nat × O)) (ds : List D) : c_ledger_Ledger_Balance.e f hs ds = callOfE ce_ledger_Ledger_Balance f hs ds := Eq.trans rfl rfl
@[simp] theorem c_ledger_Ledger_Balance_g (g : Nat) : c_ledger_Ledger_Balance.g g = gl g := Eq.trans rfl rfl
noncomputable def L_ledger_Ledger_Balance (i n : Nat) (s : St) : Option (E × St) := atN Tryd.prog c_ledger_Ledger_Balance an_ledger_Ledger_Balance 13 (bodyOf Tryd.f14) i n s
noncomputable def H_ledger_Ledger_Balance (n i : Nat) (s : St) : Option (E × St) := atH Tryd.prog c_ledger_Ledger_Balance an_ledger_Ledger_Balance 13 (bodyOf Tryd.f14) n i s
@[simp] theorem H_ledger_Ledger_Balance_eq (n i : Nat) (s : St) : H_ledger_Ledger_Balance n i s = L_ledger_Ledger_Balance i n (headOf (an_ledger_Ledger_Balance.loops.lookup i) s) := rfl
noncomputable def R_ledger_Ledger_Balance (i : Nat) (s : St) : Option (E × St) := stepL Tryd.prog c_ledger_Ledger_Balance an_ledger_Ledger_Balance 13 (bodyOf Tryd.f14) i s
theorem lok_ledger_Ledger_Balance : okLoops (bodyOf Tryd.f14) = true := by kernel_rfl
noncomputable def F_ledger_Ledger_Balance (ds : List D) : Option D := runF Tryd.prog c_ledger_Ledger_Balance an_ledger_Ledger_Balance 13 (bodyOf Tryd.f14) [.tmp 4] ds
theorem F_ledger_Ledger_Balance_eq (ds : List D) : F_ledger_Ledger_Balance ds = runG Tryd.prog c_ledger_Ledger_Balance (H_ledger_Ledger_Balance bigL) an_ledger_Ledger_Balance 13 (bodyOf Tryd.f14) [.tmp 4] ds := runG_eq lok_ledger_Ledger_Balance _ ds
theorem C_ledger_Ledger_Balance (ds : List D) (r : D) (h : F_ledger_Ledger_Balance ds = some r) : Contract Tryd.prog gl 14 ds r := contract_of mix Tryd.func14 rfl (by kernel_rfl) (by kernel_rfl) (by decide) (call := c_ledger_Ledger_Balance) ⟨callOf_ok cl_ledger_Ledger_Balance trivial, callOfE_ok ce_ledger_Ledger_Balance trivial⟩ h
-- (*sawmill/ledger.Ledger).Trial: loops [5]; state: params 0..0, then [2, 3, 5, 6, 14, 15, 16]
attribute [simp] Tryd.f19
noncomputable def an_ledger_Ledger_Trial : Ann := ⟨[0, 2, 3, 5, 6, 14, 15, 16], [8, 17, 27], [3], [(5, [0, 3, 14, 15, 16])], [(0, [3]), (1, [0, 3, 14, 15, 16])], some [2], [], [], [(56, 0, 3, 1), (56, 1, 3, 1), (56, 2, 41, 3)], []⟩
@[simp] theorem an_ledger_Ledger_Trial_draws : an_ledger_Ledger_Trial.draws = [] := rfl
@[simp] theorem an_ledger_Ledger_Trial_exits : an_ledger_Ledger_Trial.exits = [(0, [3]), (1, [0, 3, 14, 15, 16])] := rfl
@[simp] theorem an_ledger_Ledger_Trial_rets : an_ledger_Ledger_Trial.rets = some [2] := rfl
@[simp] theorem an_ledger_Ledger_Trial_keep : an_ledger_Ledger_Trial.keep = [0, 2, 3, 5, 6, 14, 15, 16] := rfl
@[simp] theorem an_ledger_Ledger_Trial_cond : an_ledger_Ledger_Trial.cond = [8, 17, 27] := rfl
@[simp] theorem an_ledger_Ledger_Trial_rows : an_ledger_Ledger_Trial.rows = [3] := rfl
@[simp] theorem an_ledger_Ledger_Trial_loops : an_ledger_Ledger_Trial.loops = [(5, [0, 3, 14, 15, 16])] := rfl
@[simp] theorem an_ledger_Ledger_Trial_ecalls : an_ledger_Ledger_Trial.ecalls = [] := rfl
@[simp] theorem an_ledger_Ledger_Trial_crows : an_ledger_Ledger_Trial.crows = [(56, 0, 3, 1), (56, 1, 3, 1), (56, 2, 41, 3)] := rfl
@[simp] theorem an_ledger_Ledger_Trial_tails : an_ledger_Ledger_Trial.tails = [] := rfl
@[simp] noncomputable def cl_ledger_Ledger_Trial : List (Nat × (List D → Option D)) := [(36, F_sortedL), (37, F_keysL)]
@[simp] noncomputable def ce_ledger_Ledger_Trial : List (Nat × (List (Nat × O) → List D → Option (D × List (Nat × O)))) := []
noncomputable def c_ledger_Ledger_Trial : CT := ⟨callOf (cl_ledger_Ledger_Trial ), callOfE ce_ledger_Ledger_Trial, gl⟩
@[simp] theorem c_ledger_Ledger_Trial_p (f : FuncId) (ds : List D) : c_ledger_Ledger_Trial.p f ds = callOf (cl_ledger_Ledger_Trial ) f ds := Eq.trans rfl rfl
@[simp] theorem c_ledger_Ledger_Trial_e (f : FuncId) (hs : List (Nat × O)) (ds : List D) : c_ledger_Ledger_Trial.e f hs ds = callOfE ce_ledger_Ledger_Trial f hs ds := Eq.trans rfl rfl
@[simp] theorem c_ledger_Ledger_Trial_g (g : Nat) : c_ledger_Ledger_Trial.g g = gl g := Eq.trans rfl rfl
noncomputable def L_ledger_Ledger_Trial (i n : Nat) (s : St) : Option (E × St) := atN Tryd.prog c_ledger_Ledger_Trial an_ledger_Ledger_Trial 36 (bodyOf Tryd.f19) i n s
noncomputable def H_ledger_Ledger_Trial (n i : Nat) (s : St) : Option (E × St) := atH Tryd.prog c_ledger_Ledger_Trial an_ledger_Ledger_Trial 36 (bodyOf Tryd.f19) n i s
@[simp] theorem H_ledger_Ledger_Trial_eq (n i : Nat) (s : St) : H_ledger_Ledger_Trial n i s = L_ledger_Ledger_Trial i n (headOf (an_ledger_Ledger_Trial.loops.lookup i) s) := rfl
noncomputable def R_ledger_Ledger_Trial (i : Nat) (s : St) : Option (E × St) := stepL Tryd.prog c_ledger_Ledger_Trial an_ledger_Ledger_Trial 36 (bodyOf Tryd.f19) i s
theorem lok_ledger_Ledger_Trial : okLoops (bodyOf Tryd.f19) = true := by kernel_rfl
theorem L_ledger_Ledger_Trial_succ (i n : Nat) (s : St) : L_ledger_Ledger_Trial i (n + 1) s = andThen (R_ledger_Ledger_Trial i s) (H_ledger_Ledger_Trial n i) := atN_succ lok_ledger_Ledger_Trial (by kernel_rfl) i n s
theorem R_ledger_Ledger_Trial_eq (i : Nat) (s : St) : R_ledger_Ledger_Trial i s = runS Tryd.prog c_ledger_Ledger_Trial (H_ledger_Ledger_Trial bigL) an_ledger_Ledger_Trial 36 (loopAt (bodyOf Tryd.f19) i) s := rfl
noncomputable def F_ledger_Ledger_Trial (ds : List D) : Option D := runF Tryd.prog c_ledger_Ledger_Trial an_ledger_Ledger_Trial 36 (bodyOf Tryd.f19) [.tmp 2] ds
theorem F_ledger_Ledger_Trial_eq (ds : List D) : F_ledger_Ledger_Trial ds = runG Tryd.prog c_ledger_Ledger_Trial (H_ledger_Ledger_Trial bigL) an_ledger_Ledger_Trial 36 (bodyOf Tryd.f19) [.tmp 2] ds := runG_eq lok_ledger_Ledger_Trial _ ds
theorem C_ledger_Ledger_Trial (ds : List D) (r : D) (h : F_ledger_Ledger_Trial ds = some r) : Contract Tryd.prog gl 19 ds r := contract_of mix Tryd.func19 rfl (by kernel_rfl) (by kernel_rfl) (by decide) (call := c_ledger_Ledger_Trial) ⟨callOf_ok cl_ledger_Ledger_Trial ⟨C_sorted, C_keys, trivial⟩, callOfE_ok ce_ledger_Ledger_Trial trivial⟩ h
-- sawmill/sawmillref51.SamePostings: loops [4]; state: params 0..1, then [4, 5]
attribute [simp] Tryd.f22
noncomputable def an_ref51_SamePostings : Ann := ⟨[0, 1, 4, 5], [10, 14, 25], [], [(4, [0, 1, 5])], [(0, []), (1, [0, 1, 5])], some [4], [(6, 8)], [], [(56, 0, 3, 1), (56, 1, 3, 1), (56, 2, 41, 3)], []⟩
@[simp] theorem an_ref51_SamePostings_draws : an_ref51_SamePostings.draws = [(6, 8)] := rfl
@[simp] theorem an_ref51_SamePostings_exits : an_ref51_SamePostings.exits = [(0, []), (1, [0, 1, 5])] := rfl
@[simp] theorem an_ref51_SamePostings_rets : an_ref51_SamePostings.rets = some [4] := rfl
@[simp] theorem an_ref51_SamePostings_keep : an_ref51_SamePostings.keep = [0, 1, 4, 5] := rfl
@[simp] theorem an_ref51_SamePostings_cond : an_ref51_SamePostings.cond = [10, 14, 25] := rfl
@[simp] theorem an_ref51_SamePostings_rows : an_ref51_SamePostings.rows = [] := rfl
@[simp] theorem an_ref51_SamePostings_loops : an_ref51_SamePostings.loops = [(4, [0, 1, 5])] := rfl
@[simp] theorem an_ref51_SamePostings_ecalls : an_ref51_SamePostings.ecalls = [] := rfl
@[simp] theorem an_ref51_SamePostings_crows : an_ref51_SamePostings.crows = [(56, 0, 3, 1), (56, 1, 3, 1), (56, 2, 41, 3)] := rfl
@[simp] theorem an_ref51_SamePostings_tails : an_ref51_SamePostings.tails = [] := rfl
@[simp] noncomputable def cl_ref51_SamePostings : List (Nat × (List D → Option D)) := []
@[simp] noncomputable def ce_ref51_SamePostings : List (Nat × (List (Nat × O) → List D → Option (D × List (Nat × O)))) := []
noncomputable def c_ref51_SamePostings : CT := ⟨callOf (cl_ref51_SamePostings ), callOfE ce_ref51_SamePostings, gl⟩
@[simp] theorem c_ref51_SamePostings_p (f : FuncId) (ds : List D) : c_ref51_SamePostings.p f ds = callOf (cl_ref51_SamePostings ) f ds := Eq.trans rfl rfl
@[simp] theorem c_ref51_SamePostings_e (f : FuncId) (hs : List (Nat × O)) (ds : List D) : c_ref51_SamePostings.e f hs ds = callOfE ce_ref51_SamePostings f hs ds := Eq.trans rfl rfl
@[simp] theorem c_ref51_SamePostings_g (g : Nat) : c_ref51_SamePostings.g g = gl g := Eq.trans rfl rfl
noncomputable def L_ref51_SamePostings (i n : Nat) (s : St) : Option (E × St) := atN Tryd.prog c_ref51_SamePostings an_ref51_SamePostings 26 (bodyOf Tryd.f22) i n s
noncomputable def H_ref51_SamePostings (n i : Nat) (s : St) : Option (E × St) := atH Tryd.prog c_ref51_SamePostings an_ref51_SamePostings 26 (bodyOf Tryd.f22) n i s
@[simp] theorem H_ref51_SamePostings_eq (n i : Nat) (s : St) : H_ref51_SamePostings n i s = L_ref51_SamePostings i n (headOf (an_ref51_SamePostings.loops.lookup i) s) := rfl
noncomputable def R_ref51_SamePostings (i : Nat) (s : St) : Option (E × St) := stepL Tryd.prog c_ref51_SamePostings an_ref51_SamePostings 26 (bodyOf Tryd.f22) i s
theorem lok_ref51_SamePostings : okLoops (bodyOf Tryd.f22) = true := by kernel_rfl
theorem L_ref51_SamePostings_succ (i n : Nat) (s : St) : L_ref51_SamePostings i (n + 1) s = andThen (R_ref51_SamePostings i s) (H_ref51_SamePostings n i) := atN_succ lok_ref51_SamePostings (by kernel_rfl) i n s
theorem R_ref51_SamePostings_eq (i : Nat) (s : St) : R_ref51_SamePostings i s = runS Tryd.prog c_ref51_SamePostings (H_ref51_SamePostings bigL) an_ref51_SamePostings 26 (loopAt (bodyOf Tryd.f22) i) s := rfl
noncomputable def F_ref51_SamePostings (ds : List D) : Option D := runF Tryd.prog c_ref51_SamePostings an_ref51_SamePostings 26 (bodyOf Tryd.f22) [.tmp 4] ds
theorem F_ref51_SamePostings_eq (ds : List D) : F_ref51_SamePostings ds = runG Tryd.prog c_ref51_SamePostings (H_ref51_SamePostings bigL) an_ref51_SamePostings 26 (bodyOf Tryd.f22) [.tmp 4] ds := runG_eq lok_ref51_SamePostings _ ds
theorem C_ref51_SamePostings (ds : List D) (r : D) (h : F_ref51_SamePostings ds = some r) : Contract Tryd.prog gl 22 ds r := contract_of mix Tryd.func22 rfl (by kernel_rfl) (by kernel_rfl) (by decide) (call := c_ref51_SamePostings) ⟨callOf_ok cl_ref51_SamePostings trivial, callOfE_ok ce_ref51_SamePostings trivial⟩ h
-- (*sawmill/ledger.Ledger).Entries: loops [5]; state: params 0..0, then [2, 3, 5, 11, 12, 13]
attribute [simp] Tryd.f18
noncomputable def an_ledger_Ledger_Entries : Ann := ⟨[0, 2, 3, 5, 11, 12, 13], [7, 14], [3], [(5, [3, 11, 12, 13])], [(0, [3]), (1, [3, 11, 12, 13])], some [2], [], [], [(56, 0, 3, 1), (56, 1, 3, 1), (56, 2, 41, 3)], []⟩
@[simp] theorem an_ledger_Ledger_Entries_draws : an_ledger_Ledger_Entries.draws = [] := rfl
@[simp] theorem an_ledger_Ledger_Entries_exits : an_ledger_Ledger_Entries.exits = [(0, [3]), (1, [3, 11, 12, 13])] := rfl
@[simp] theorem an_ledger_Ledger_Entries_rets : an_ledger_Ledger_Entries.rets = some [2] := rfl
@[simp] theorem an_ledger_Ledger_Entries_keep : an_ledger_Ledger_Entries.keep = [0, 2, 3, 5, 11, 12, 13] := rfl
@[simp] theorem an_ledger_Ledger_Entries_cond : an_ledger_Ledger_Entries.cond = [7, 14] := rfl
@[simp] theorem an_ledger_Ledger_Entries_rows : an_ledger_Ledger_Entries.rows = [3] := rfl
@[simp] theorem an_ledger_Ledger_Entries_loops : an_ledger_Ledger_Entries.loops = [(5, [3, 11, 12, 13])] := rfl
@[simp] theorem an_ledger_Ledger_Entries_ecalls : an_ledger_Ledger_Entries.ecalls = [] := rfl
@[simp] theorem an_ledger_Ledger_Entries_crows : an_ledger_Ledger_Entries.crows = [(56, 0, 3, 1), (56, 1, 3, 1), (56, 2, 41, 3)] := rfl
@[simp] theorem an_ledger_Ledger_Entries_tails : an_ledger_Ledger_Entries.tails = [] := rfl
@[simp] noncomputable def cl_ledger_Ledger_Entries : List (Nat × (List D → Option D)) := [(35, F_ledger_copyOf)]
@[simp] noncomputable def ce_ledger_Ledger_Entries : List (Nat × (List (Nat × O) → List D → Option (D × List (Nat × O)))) := []
noncomputable def c_ledger_Ledger_Entries : CT := ⟨callOf (cl_ledger_Ledger_Entries ), callOfE ce_ledger_Ledger_Entries, gl⟩
@[simp] theorem c_ledger_Ledger_Entries_p (f : FuncId) (ds : List D) : c_ledger_Ledger_Entries.p f ds = callOf (cl_ledger_Ledger_Entries ) f ds := Eq.trans rfl rfl
@[simp] theorem c_ledger_Ledger_Entries_e (f : FuncId) (hs : List (Nat × O)) (ds : List D) : c_ledger_Ledger_Entries.e f hs ds = callOfE ce_ledger_Ledger_Entries f hs ds := Eq.trans rfl rfl
@[simp] theorem c_ledger_Ledger_Entries_g (g : Nat) : c_ledger_Ledger_Entries.g g = gl g := Eq.trans rfl rfl
noncomputable def L_ledger_Ledger_Entries (i n : Nat) (s : St) : Option (E × St) := atN Tryd.prog c_ledger_Ledger_Entries an_ledger_Ledger_Entries 24 (bodyOf Tryd.f18) i n s
noncomputable def H_ledger_Ledger_Entries (n i : Nat) (s : St) : Option (E × St) := atH Tryd.prog c_ledger_Ledger_Entries an_ledger_Ledger_Entries 24 (bodyOf Tryd.f18) n i s
@[simp] theorem H_ledger_Ledger_Entries_eq (n i : Nat) (s : St) : H_ledger_Ledger_Entries n i s = L_ledger_Ledger_Entries i n (headOf (an_ledger_Ledger_Entries.loops.lookup i) s) := rfl
noncomputable def R_ledger_Ledger_Entries (i : Nat) (s : St) : Option (E × St) := stepL Tryd.prog c_ledger_Ledger_Entries an_ledger_Ledger_Entries 24 (bodyOf Tryd.f18) i s
theorem lok_ledger_Ledger_Entries : okLoops (bodyOf Tryd.f18) = true := by kernel_rfl
theorem L_ledger_Ledger_Entries_succ (i n : Nat) (s : St) : L_ledger_Ledger_Entries i (n + 1) s = andThen (R_ledger_Ledger_Entries i s) (H_ledger_Ledger_Entries n i) := atN_succ lok_ledger_Ledger_Entries (by kernel_rfl) i n s
theorem R_ledger_Ledger_Entries_eq (i : Nat) (s : St) : R_ledger_Ledger_Entries i s = runS Tryd.prog c_ledger_Ledger_Entries (H_ledger_Ledger_Entries bigL) an_ledger_Ledger_Entries 24 (loopAt (bodyOf Tryd.f18) i) s := rfl
noncomputable def F_ledger_Ledger_Entries (ds : List D) : Option D := runF Tryd.prog c_ledger_Ledger_Entries an_ledger_Ledger_Entries 24 (bodyOf Tryd.f18) [.tmp 2] ds
theorem F_ledger_Ledger_Entries_eq (ds : List D) : F_ledger_Ledger_Entries ds = runG Tryd.prog c_ledger_Ledger_Entries (H_ledger_Ledger_Entries bigL) an_ledger_Ledger_Entries 24 (bodyOf Tryd.f18) [.tmp 2] ds := runG_eq lok_ledger_Ledger_Entries _ ds
theorem C_ledger_Ledger_Entries (ds : List D) (r : D) (h : F_ledger_Ledger_Entries ds = some r) : Contract Tryd.prog gl 18 ds r := contract_of mix Tryd.func18 rfl (by kernel_rfl) (by kernel_rfl) (by decide) (call := c_ledger_Ledger_Entries) ⟨callOf_ok cl_ledger_Ledger_Entries ⟨C_ledger_copyOf, trivial⟩, callOfE_ok ce_ledger_Ledger_Entries trivial⟩ h
-- (*sawmill/ledger.Ledger).Entries: loops [5]; state: params 0..0, then [2, 3, 5, 11, 12, 13]; WITH OBJECTS
attribute [simp] Tryd.f18
noncomputable def an_ledger_Ledger_Entries_obj : Ann := ⟨[0, 2, 3, 5, 11, 12, 13], [7, 14], [3], [(5, [3, 11, 12, 13])], [(0, [3]), (1, [3, 11, 12, 13])], some [2], [], [], [(56, 0, 3, 1), (56, 1, 3, 1), (56, 2, 41, 3)], []⟩
@[simp] theorem an_ledger_Ledger_Entries_obj_draws : an_ledger_Ledger_Entries_obj.draws = [] := rfl
@[simp] theorem an_ledger_Ledger_Entries_obj_exits : an_ledger_Ledger_Entries_obj.exits = [(0, [3]), (1, [3, 11, 12, 13])] := rfl
@[simp] theorem an_ledger_Ledger_Entries_obj_rets : an_ledger_Ledger_Entries_obj.rets = some [2] := rfl
@[simp] theorem an_ledger_Ledger_Entries_obj_keep : an_ledger_Ledger_Entries_obj.keep = [0, 2, 3, 5, 11, 12, 13] := rfl
@[simp] theorem an_ledger_Ledger_Entries_obj_cond : an_ledger_Ledger_Entries_obj.cond = [7, 14] := rfl
@[simp] theorem an_ledger_Ledger_Entries_obj_rows : an_ledger_Ledger_Entries_obj.rows = [3] := rfl
@[simp] theorem an_ledger_Ledger_Entries_obj_loops : an_ledger_Ledger_Entries_obj.loops = [(5, [3, 11, 12, 13])] := rfl
@[simp] theorem an_ledger_Ledger_Entries_obj_ecalls : an_ledger_Ledger_Entries_obj.ecalls = [] := rfl
@[simp] theorem an_ledger_Ledger_Entries_obj_crows : an_ledger_Ledger_Entries_obj.crows = [(56, 0, 3, 1), (56, 1, 3, 1), (56, 2, 41, 3)] := rfl
@[simp] theorem an_ledger_Ledger_Entries_obj_tails : an_ledger_Ledger_Entries_obj.tails = [] := rfl
@[simp] noncomputable def cl_ledger_Ledger_Entries_obj : List (Nat × (List D → Option D)) := [(35, F_ledger_copyOf)]
@[simp] noncomputable def ce_ledger_Ledger_Entries_obj : List (Nat × (List (Nat × O) → List D → Option (D × List (Nat × O)))) := []
noncomputable def c_ledger_Ledger_Entries_obj : CT := ⟨callOf (cl_ledger_Ledger_Entries_obj ), callOfE ce_ledger_Ledger_Entries_obj, gl⟩
@[simp] theorem c_ledger_Ledger_Entries_obj_p (f : FuncId) (ds : List D) : c_ledger_Ledger_Entries_obj.p f ds = callOf (cl_ledger_Ledger_Entries_obj ) f ds := Eq.trans rfl rfl
@[simp] theorem c_ledger_Ledger_Entries_obj_e (f : FuncId) (hs : List (Nat × O)) (ds : List D) : c_ledger_Ledger_Entries_obj.e f hs ds = callOfE ce_ledger_Ledger_Entries_obj f hs ds := Eq.trans rfl rfl
@[simp] theorem c_ledger_Ledger_Entries_obj_g (g : Nat) : c_ledger_Ledger_Entries_obj.g g = gl g := Eq.trans rfl rfl
noncomputable def L_ledger_Ledger_Entries_obj (i n : Nat) (s : St) : Option (E × St) := atN Tryd.prog c_ledger_Ledger_Entries_obj an_ledger_Ledger_Entries_obj 24 (bodyOf Tryd.f18) i n s
noncomputable def H_ledger_Ledger_Entries_obj (n i : Nat) (s : St) : Option (E × St) := atH Tryd.prog c_ledger_Ledger_Entries_obj an_ledger_Ledger_Entries_obj 24 (bodyOf Tryd.f18) n i s
@[simp] theorem H_ledger_Ledger_Entries_obj_eq (n i : Nat) (s : St) : H_ledger_Ledger_Entries_obj n i s = L_ledger_Ledger_Entries_obj i n (headOf (an_ledger_Ledger_Entries_obj.loops.lookup i) s) := rfl
noncomputable def R_ledger_Ledger_Entries_obj (i : Nat) (s : St) : Option (E × St) := stepL Tryd.prog c_ledger_Ledger_Entries_obj an_ledger_Ledger_Entries_obj 24 (bodyOf Tryd.f18) i s
theorem lok_ledger_Ledger_Entries_obj : okLoops (bodyOf Tryd.f18) = true := by kernel_rfl
theorem L_ledger_Ledger_Entries_obj_succ (i n : Nat) (s : St) : L_ledger_Ledger_Entries_obj i (n + 1) s = andThen (R_ledger_Ledger_Entries_obj i s) (H_ledger_Ledger_Entries_obj n i) := atN_succ lok_ledger_Ledger_Entries_obj (by kernel_rfl) i n s
theorem R_ledger_Ledger_Entries_obj_eq (i : Nat) (s : St) : R_ledger_Ledger_Entries_obj i s = runS Tryd.prog c_ledger_Ledger_Entries_obj (H_ledger_Ledger_Entries_obj bigL) an_ledger_Ledger_Entries_obj 24 (loopAt (bodyOf Tryd.f18) i) s := rfl
noncomputable def E_ledger_Ledger_Entries_obj (hs : List (Nat × O)) (ds : List D) : Option (D × List (Nat × O)) := runE Tryd.prog c_ledger_Ledger_Entries_obj an_ledger_Ledger_Entries_obj 24 (bodyOf Tryd.f18) [.tmp 2] hs ds
theorem E_ledger_Ledger_Entries_obj_eq (hs : List (Nat × O)) (ds : List D) : E_ledger_Ledger_Entries_obj hs ds = runGE Tryd.prog c_ledger_Ledger_Entries_obj (H_ledger_Ledger_Entries_obj bigL) an_ledger_Ledger_Entries_obj 24 (bodyOf Tryd.f18) [.tmp 2] hs ds := runGE_eq lok_ledger_Ledger_Entries_obj _ hs ds
theorem CE_ledger_Ledger_Entries_obj (hs : List (Nat × O)) (ds : List D) (r : D) (hs' : List (Nat × O)) (h : E_ledger_Ledger_Entries_obj hs ds = some (r, hs')) : ContractE Tryd.prog gl 18 hs ds r hs' := contractE_of mix Tryd.func18 rfl (by kernel_rfl) (by kernel_rfl) (by decide) (call := c_ledger_Ledger_Entries_obj) ⟨callOf_ok cl_ledger_Ledger_Entries_obj ⟨C_ledger_copyOf, trivial⟩, callOfE_ok ce_ledger_Ledger_Entries_obj trivial⟩ h
-- sawmill/sawmilllaw51.awake: loops []; state: params 0..-1, then [0, 1, 2, 3]
attribute [simp] Tryd.f10
noncomputable def an_law51_awake : Ann := ⟨[0, 1, 2, 3], [19, 33], [], [], [], some [0], [], [(11, false), (17, false), (18, false)], [(56, 0, 3, 1), (56, 1, 3, 1), (56, 2, 41, 3)], []⟩
@[simp] theorem an_law51_awake_draws : an_law51_awake.draws = [] := rfl
@[simp] theorem an_law51_awake_exits : an_law51_awake.exits = [] := rfl
@[simp] theorem an_law51_awake_rets : an_law51_awake.rets = some [0] := rfl
@[simp] theorem an_law51_awake_keep : an_law51_awake.keep = [0, 1, 2, 3] := rfl
@[simp] theorem an_law51_awake_cond : an_law51_awake.cond = [19, 33] := rfl
@[simp] theorem an_law51_awake_rows : an_law51_awake.rows = [] := rfl
@[simp] theorem an_law51_awake_loops : an_law51_awake.loops = [] := rfl
@[simp] theorem an_law51_awake_ecalls : an_law51_awake.ecalls = [(11, false), (17, false), (18, false)] := rfl
@[simp] theorem an_law51_awake_crows : an_law51_awake.crows = [(56, 0, 3, 1), (56, 1, 3, 1), (56, 2, 41, 3)] := rfl
@[simp] theorem an_law51_awake_tails : an_law51_awake.tails = [] := rfl
@[simp] noncomputable def cl_law51_awake : List (Nat × (List D → Option D)) := [(14, F_ledger_Ledger_Balance), (19, F_ledger_Ledger_Trial), (20, F_ledger_Ledger_Digest), (22, F_ref51_SamePostings)]
@[simp] noncomputable def ce_law51_awake : List (Nat × (List (Nat × O) → List D → Option (D × List (Nat × O)))) := [(11, E_ledger_New), (17, E_ledger_Ledger_Post), (18, E_ledger_Ledger_Entries_obj)]
noncomputable def c_law51_awake : CT := ⟨callOf (cl_law51_awake ), callOfE ce_law51_awake, gl⟩
@[simp] theorem c_law51_awake_p (f : FuncId) (ds : List D) : c_law51_awake.p f ds = callOf (cl_law51_awake ) f ds := Eq.trans rfl rfl
@[simp] theorem c_law51_awake_e (f : FuncId) (hs : List (Nat × O)) (ds : List D) : c_law51_awake.e f hs ds = callOfE ce_law51_awake f hs ds := Eq.trans rfl rfl
@[simp] theorem c_law51_awake_g (g : Nat) : c_law51_awake.g g = gl g := Eq.trans rfl rfl
noncomputable def L_law51_awake (i n : Nat) (s : St) : Option (E × St) := atN Tryd.prog c_law51_awake an_law51_awake 64 (bodyOf Tryd.f10) i n s
noncomputable def H_law51_awake (n i : Nat) (s : St) : Option (E × St) := atH Tryd.prog c_law51_awake an_law51_awake 64 (bodyOf Tryd.f10) n i s
@[simp] theorem H_law51_awake_eq (n i : Nat) (s : St) : H_law51_awake n i s = L_law51_awake i n (headOf (an_law51_awake.loops.lookup i) s) := rfl
noncomputable def R_law51_awake (i : Nat) (s : St) : Option (E × St) := stepL Tryd.prog c_law51_awake an_law51_awake 64 (bodyOf Tryd.f10) i s
theorem lok_law51_awake : okLoops (bodyOf Tryd.f10) = true := by kernel_rfl
noncomputable def F_law51_awake (ds : List D) : Option D := runF Tryd.prog c_law51_awake an_law51_awake 64 (bodyOf Tryd.f10) [.tmp 0] ds
theorem F_law51_awake_eq (ds : List D) : F_law51_awake ds = runG Tryd.prog c_law51_awake (H_law51_awake bigL) an_law51_awake 64 (bodyOf Tryd.f10) [.tmp 0] ds := runG_eq lok_law51_awake _ ds
theorem C_law51_awake (ds : List D) (r : D) (h : F_law51_awake ds = some r) : Contract Tryd.prog gl 10 ds r := contract_of mix Tryd.func10 rfl (by kernel_rfl) (by kernel_rfl) (by decide) (call := c_law51_awake) ⟨callOf_ok cl_law51_awake ⟨C_ledger_Ledger_Balance, C_ledger_Ledger_Trial, C_ledger_Ledger_Digest, C_ref51_SamePostings, trivial⟩, callOfE_ok ce_law51_awake ⟨CE_ledger_New, CE_ledger_Ledger_Post, CE_ledger_Ledger_Entries_obj, trivial⟩⟩ h
-- sawmill/sawmillref02.digit: loops []; state: params 0..0, then [2]
attribute [simp] Tryd.f42
noncomputable def an_ref02_digit : Ann := ⟨[2], [], [], [], [], some [2], [], [], [(56, 0, 3, 1), (56, 1, 3, 1), (56, 2, 41, 3)], []⟩
@[simp] theorem an_ref02_digit_draws : an_ref02_digit.draws = [] := rfl
@[simp] theorem an_ref02_digit_exits : an_ref02_digit.exits = [] := rfl
@[simp] theorem an_ref02_digit_rets : an_ref02_digit.rets = some [2] := rfl
@[simp] theorem an_ref02_digit_keep : an_ref02_digit.keep = [2] := rfl
@[simp] theorem an_ref02_digit_cond : an_ref02_digit.cond = [] := rfl
@[simp] theorem an_ref02_digit_rows : an_ref02_digit.rows = [] := rfl
@[simp] theorem an_ref02_digit_loops : an_ref02_digit.loops = [] := rfl
@[simp] theorem an_ref02_digit_ecalls : an_ref02_digit.ecalls = [] := rfl
@[simp] theorem an_ref02_digit_crows : an_ref02_digit.crows = [(56, 0, 3, 1), (56, 1, 3, 1), (56, 2, 41, 3)] := rfl
@[simp] theorem an_ref02_digit_tails : an_ref02_digit.tails = [] := rfl
@[simp] noncomputable def cl_ref02_digit : List (Nat × (List D → Option D)) := []
@[simp] noncomputable def ce_ref02_digit : List (Nat × (List (Nat × O) → List D → Option (D × List (Nat × O)))) := []
noncomputable def c_ref02_digit : CT := ⟨callOf (cl_ref02_digit ), callOfE ce_ref02_digit, gl⟩
@[simp] theorem c_ref02_digit_p (f : FuncId) (ds : List D) : c_ref02_digit.p f ds = callOf (cl_ref02_digit ) f ds := Eq.trans rfl rfl
@[simp] theorem c_ref02_digit_e (f : FuncId) (hs : List (Nat × O)) (ds : List D) : c_ref02_digit.e f hs ds = callOfE ce_ref02_digit f hs ds := Eq.trans rfl rfl
@[simp] theorem c_ref02_digit_g (g : Nat) : c_ref02_digit.g g = gl g := Eq.trans rfl rfl
noncomputable def L_ref02_digit (i n : Nat) (s : St) : Option (E × St) := atN Tryd.prog c_ref02_digit an_ref02_digit 9 (bodyOf Tryd.f42) i n s
noncomputable def H_ref02_digit (n i : Nat) (s : St) : Option (E × St) := atH Tryd.prog c_ref02_digit an_ref02_digit 9 (bodyOf Tryd.f42) n i s
@[simp] theorem H_ref02_digit_eq (n i : Nat) (s : St) : H_ref02_digit n i s = L_ref02_digit i n (headOf (an_ref02_digit.loops.lookup i) s) := rfl
noncomputable def R_ref02_digit (i : Nat) (s : St) : Option (E × St) := stepL Tryd.prog c_ref02_digit an_ref02_digit 9 (bodyOf Tryd.f42) i s
theorem lok_ref02_digit : okLoops (bodyOf Tryd.f42) = true := by kernel_rfl
noncomputable def F_ref02_digit (ds : List D) : Option D := runF Tryd.prog c_ref02_digit an_ref02_digit 9 (bodyOf Tryd.f42) [.tmp 2] ds
theorem F_ref02_digit_eq (ds : List D) : F_ref02_digit ds = runG Tryd.prog c_ref02_digit (H_ref02_digit bigL) an_ref02_digit 9 (bodyOf Tryd.f42) [.tmp 2] ds := runG_eq lok_ref02_digit _ ds
theorem C_ref02_digit (ds : List D) (r : D) (h : F_ref02_digit ds = some r) : Contract Tryd.prog gl 42 ds r := contract_of mix Tryd.func42 rfl (by kernel_rfl) (by kernel_rfl) (by decide) (call := c_ref02_digit) ⟨callOf_ok cl_ref02_digit trivial, callOfE_ok ce_ref02_digit trivial⟩ h
-- sawmill/sawmillref02.IsName: loops [4]; state: params 0..0, then [2, 3, 4]
attribute [simp] Tryd.f24
noncomputable def an_ref02_IsName : Ann := ⟨[0, 2, 3, 4], [12, 16, 47], [], [(4, [0, 3])], [(0, []), (1, [0, 3])], some [2], [], [], [(56, 0, 3, 1), (56, 1, 3, 1), (56, 2, 41, 3)], []⟩
@[simp] theorem an_ref02_IsName_draws : an_ref02_IsName.draws = [] := rfl
@[simp] theorem an_ref02_IsName_exits : an_ref02_IsName.exits = [(0, []), (1, [0, 3])] := rfl
@[simp] theorem an_ref02_IsName_rets : an_ref02_IsName.rets = some [2] := rfl
@[simp] theorem an_ref02_IsName_keep : an_ref02_IsName.keep = [0, 2, 3, 4] := rfl
@[simp] theorem an_ref02_IsName_cond : an_ref02_IsName.cond = [12, 16, 47] := rfl
@[simp] theorem an_ref02_IsName_rows : an_ref02_IsName.rows = [] := rfl
@[simp] theorem an_ref02_IsName_loops : an_ref02_IsName.loops = [(4, [0, 3])] := rfl
@[simp] theorem an_ref02_IsName_ecalls : an_ref02_IsName.ecalls = [] := rfl
@[simp] theorem an_ref02_IsName_crows : an_ref02_IsName.crows = [(56, 0, 3, 1), (56, 1, 3, 1), (56, 2, 41, 3)] := rfl
@[simp] theorem an_ref02_IsName_tails : an_ref02_IsName.tails = [] := rfl
@[simp] noncomputable def cl_ref02_IsName : List (Nat × (List D → Option D)) := [(42, F_ref02_digit)]
@[simp] noncomputable def ce_ref02_IsName : List (Nat × (List (Nat × O) → List D → Option (D × List (Nat × O)))) := []
noncomputable def c_ref02_IsName : CT := ⟨callOf (cl_ref02_IsName ), callOfE ce_ref02_IsName, gl⟩
@[simp] theorem c_ref02_IsName_p (f : FuncId) (ds : List D) : c_ref02_IsName.p f ds = callOf (cl_ref02_IsName ) f ds := Eq.trans rfl rfl
@[simp] theorem c_ref02_IsName_e (f : FuncId) (hs : List (Nat × O)) (ds : List D) : c_ref02_IsName.e f hs ds = callOfE ce_ref02_IsName f hs ds := Eq.trans rfl rfl
@[simp] theorem c_ref02_IsName_g (g : Nat) : c_ref02_IsName.g g = gl g := Eq.trans rfl rfl
noncomputable def L_ref02_IsName (i n : Nat) (s : St) : Option (E × St) := atN Tryd.prog c_ref02_IsName an_ref02_IsName 48 (bodyOf Tryd.f24) i n s
noncomputable def H_ref02_IsName (n i : Nat) (s : St) : Option (E × St) := atH Tryd.prog c_ref02_IsName an_ref02_IsName 48 (bodyOf Tryd.f24) n i s
@[simp] theorem H_ref02_IsName_eq (n i : Nat) (s : St) : H_ref02_IsName n i s = L_ref02_IsName i n (headOf (an_ref02_IsName.loops.lookup i) s) := rfl
noncomputable def R_ref02_IsName (i : Nat) (s : St) : Option (E × St) := stepL Tryd.prog c_ref02_IsName an_ref02_IsName 48 (bodyOf Tryd.f24) i s
theorem lok_ref02_IsName : okLoops (bodyOf Tryd.f24) = true := by kernel_rfl
theorem L_ref02_IsName_succ (i n : Nat) (s : St) : L_ref02_IsName i (n + 1) s = andThen (R_ref02_IsName i s) (H_ref02_IsName n i) := atN_succ lok_ref02_IsName (by kernel_rfl) i n s
theorem R_ref02_IsName_eq (i : Nat) (s : St) : R_ref02_IsName i s = runS Tryd.prog c_ref02_IsName (H_ref02_IsName bigL) an_ref02_IsName 48 (loopAt (bodyOf Tryd.f24) i) s := rfl
noncomputable def F_ref02_IsName (ds : List D) : Option D := runF Tryd.prog c_ref02_IsName an_ref02_IsName 48 (bodyOf Tryd.f24) [.tmp 2] ds
theorem F_ref02_IsName_eq (ds : List D) : F_ref02_IsName ds = runG Tryd.prog c_ref02_IsName (H_ref02_IsName bigL) an_ref02_IsName 48 (bodyOf Tryd.f24) [.tmp 2] ds := runG_eq lok_ref02_IsName _ ds
theorem C_ref02_IsName (ds : List D) (r : D) (h : F_ref02_IsName ds = some r) : Contract Tryd.prog gl 24 ds r := contract_of mix Tryd.func24 rfl (by kernel_rfl) (by kernel_rfl) (by decide) (call := c_ref02_IsName) ⟨callOf_ok cl_ref02_IsName ⟨C_ref02_digit, trivial⟩, callOfE_ok ce_ref02_IsName trivial⟩ h
-- sawmill/sawmillref51.New: loops [4, 9]; state: params 0..0, then [2, 3, 4, 5]
attribute [simp] Tryd.f12
noncomputable def an_ref51_New : Ann := ⟨[0, 2, 3, 4, 5], [8, 13, 21, 25, 36], [38], [(4, [0, 2, 4]), (9, [0, 2, 4, 5])], [(0, [0, 2]), (1, [0, 2, 4]), (2, [0, 2, 4]), (3, [0, 2, 4, 5])], some [2, 3], [(11, 8)], [], [(56, 0, 3, 1), (56, 1, 3, 1), (56, 2, 41, 3)], []⟩
@[simp] theorem an_ref51_New_draws : an_ref51_New.draws = [(11, 8)] := rfl
@[simp] theorem an_ref51_New_exits : an_ref51_New.exits = [(0, [0, 2]), (1, [0, 2, 4]), (2, [0, 2, 4]), (3, [0, 2, 4, 5])] := rfl
@[simp] theorem an_ref51_New_rets : an_ref51_New.rets = some [2, 3] := rfl
@[simp] theorem an_ref51_New_keep : an_ref51_New.keep = [0, 2, 3, 4, 5] := rfl
@[simp] theorem an_ref51_New_cond : an_ref51_New.cond = [8, 13, 21, 25, 36] := rfl
@[simp] theorem an_ref51_New_rows : an_ref51_New.rows = [38] := rfl
@[simp] theorem an_ref51_New_loops : an_ref51_New.loops = [(4, [0, 2, 4]), (9, [0, 2, 4, 5])] := rfl
@[simp] theorem an_ref51_New_ecalls : an_ref51_New.ecalls = [] := rfl
@[simp] theorem an_ref51_New_crows : an_ref51_New.crows = [(56, 0, 3, 1), (56, 1, 3, 1), (56, 2, 41, 3)] := rfl
@[simp] theorem an_ref51_New_tails : an_ref51_New.tails = [] := rfl
@[simp] noncomputable def cl_ref51_New : List (Nat × (List D → Option D)) := [(24, F_ref02_IsName)]
@[simp] noncomputable def ce_ref51_New : List (Nat × (List (Nat × O) → List D → Option (D × List (Nat × O)))) := []
noncomputable def c_ref51_New : CT := ⟨callOf (cl_ref51_New ), callOfE ce_ref51_New, gl⟩
@[simp] theorem c_ref51_New_p (f : FuncId) (ds : List D) : c_ref51_New.p f ds = callOf (cl_ref51_New ) f ds := Eq.trans rfl rfl
@[simp] theorem c_ref51_New_e (f : FuncId) (hs : List (Nat × O)) (ds : List D) : c_ref51_New.e f hs ds = callOfE ce_ref51_New f hs ds := Eq.trans rfl rfl
@[simp] theorem c_ref51_New_g (g : Nat) : c_ref51_New.g g = gl g := Eq.trans rfl rfl
noncomputable def L_ref51_New (i n : Nat) (s : St) : Option (E × St) := atN Tryd.prog c_ref51_New an_ref51_New 42 (bodyOf Tryd.f12) i n s
noncomputable def H_ref51_New (n i : Nat) (s : St) : Option (E × St) := atH Tryd.prog c_ref51_New an_ref51_New 42 (bodyOf Tryd.f12) n i s
@[simp] theorem H_ref51_New_eq (n i : Nat) (s : St) : H_ref51_New n i s = L_ref51_New i n (headOf (an_ref51_New.loops.lookup i) s) := rfl
noncomputable def R_ref51_New (i : Nat) (s : St) : Option (E × St) := stepL Tryd.prog c_ref51_New an_ref51_New 42 (bodyOf Tryd.f12) i s
theorem lok_ref51_New : okLoops (bodyOf Tryd.f12) = true := by kernel_rfl
theorem L_ref51_New_succ (i n : Nat) (s : St) : L_ref51_New i (n + 1) s = andThen (R_ref51_New i s) (H_ref51_New n i) := atN_succ lok_ref51_New (by kernel_rfl) i n s
theorem R_ref51_New_eq (i : Nat) (s : St) : R_ref51_New i s = runS Tryd.prog c_ref51_New (H_ref51_New bigL) an_ref51_New 42 (loopAt (bodyOf Tryd.f12) i) s := rfl
noncomputable def F_ref51_New (ds : List D) : Option D := runF Tryd.prog c_ref51_New an_ref51_New 42 (bodyOf Tryd.f12) [.cell 2 31, .tmp 3] ds
theorem F_ref51_New_eq (ds : List D) : F_ref51_New ds = runG Tryd.prog c_ref51_New (H_ref51_New bigL) an_ref51_New 42 (bodyOf Tryd.f12) [.cell 2 31, .tmp 3] ds := runG_eq lok_ref51_New _ ds
theorem C_ref51_New (ds : List D) (r : D) (h : F_ref51_New ds = some r) : Contract Tryd.prog gl 12 ds r := contract_of mix Tryd.func12 rfl (by kernel_rfl) (by kernel_rfl) (by decide) (call := c_ref51_New) ⟨callOf_ok cl_ref51_New ⟨C_ref02_IsName, trivial⟩, callOfE_ok ce_ref51_New trivial⟩ h
-- sawmill/sawmillref51.sum: loops [3]; state: params 0..1, then [4, 5, 6]
attribute [simp] Tryd.f31
noncomputable def an_ref51_sum : Ann := ⟨[0, 4, 5, 6], [10, 19], [], [(3, [0, 1, 5, 6])], [(0, [5]), (1, [0, 1, 5, 6])], some [4], [], [], [(56, 0, 3, 1), (56, 1, 3, 1), (56, 2, 41, 3)], []⟩
@[simp] theorem an_ref51_sum_draws : an_ref51_sum.draws = [] := rfl
@[simp] theorem an_ref51_sum_exits : an_ref51_sum.exits = [(0, [5]), (1, [0, 1, 5, 6])] := rfl
@[simp] theorem an_ref51_sum_rets : an_ref51_sum.rets = some [4] := rfl
@[simp] theorem an_ref51_sum_keep : an_ref51_sum.keep = [0, 4, 5, 6] := rfl
@[simp] theorem an_ref51_sum_cond : an_ref51_sum.cond = [10, 19] := rfl
@[simp] theorem an_ref51_sum_rows : an_ref51_sum.rows = [] := rfl
@[simp] theorem an_ref51_sum_loops : an_ref51_sum.loops = [(3, [0, 1, 5, 6])] := rfl
@[simp] theorem an_ref51_sum_ecalls : an_ref51_sum.ecalls = [] := rfl
@[simp] theorem an_ref51_sum_crows : an_ref51_sum.crows = [(56, 0, 3, 1), (56, 1, 3, 1), (56, 2, 41, 3)] := rfl
@[simp] theorem an_ref51_sum_tails : an_ref51_sum.tails = [] := rfl
@[simp] noncomputable def cl_ref51_sum : List (Nat × (List D → Option D)) := []
@[simp] noncomputable def ce_ref51_sum : List (Nat × (List (Nat × O) → List D → Option (D × List (Nat × O)))) := []
noncomputable def c_ref51_sum : CT := ⟨callOf (cl_ref51_sum ), callOfE ce_ref51_sum, gl⟩
@[simp] theorem c_ref51_sum_p (f : FuncId) (ds : List D) : c_ref51_sum.p f ds = callOf (cl_ref51_sum ) f ds := Eq.trans rfl rfl
@[simp] theorem c_ref51_sum_e (f : FuncId) (hs : List (Nat × O)) (ds : List D) : c_ref51_sum.e f hs ds = callOfE ce_ref51_sum f hs ds := Eq.trans rfl rfl
@[simp] theorem c_ref51_sum_g (g : Nat) : c_ref51_sum.g g = gl g := Eq.trans rfl rfl
noncomputable def L_ref51_sum (i n : Nat) (s : St) : Option (E × St) := atN Tryd.prog c_ref51_sum an_ref51_sum 28 (bodyOf Tryd.f31) i n s
noncomputable def H_ref51_sum (n i : Nat) (s : St) : Option (E × St) := atH Tryd.prog c_ref51_sum an_ref51_sum 28 (bodyOf Tryd.f31) n i s
@[simp] theorem H_ref51_sum_eq (n i : Nat) (s : St) : H_ref51_sum n i s = L_ref51_sum i n (headOf (an_ref51_sum.loops.lookup i) s) := rfl
noncomputable def R_ref51_sum (i : Nat) (s : St) : Option (E × St) := stepL Tryd.prog c_ref51_sum an_ref51_sum 28 (bodyOf Tryd.f31) i s
theorem lok_ref51_sum : okLoops (bodyOf Tryd.f31) = true := by kernel_rfl
theorem L_ref51_sum_succ (i n : Nat) (s : St) : L_ref51_sum i (n + 1) s = andThen (R_ref51_sum i s) (H_ref51_sum n i) := atN_succ lok_ref51_sum (by kernel_rfl) i n s
theorem R_ref51_sum_eq (i : Nat) (s : St) : R_ref51_sum i s = runS Tryd.prog c_ref51_sum (H_ref51_sum bigL) an_ref51_sum 28 (loopAt (bodyOf Tryd.f31) i) s := rfl
noncomputable def F_ref51_sum (ds : List D) : Option D := runF Tryd.prog c_ref51_sum an_ref51_sum 28 (bodyOf Tryd.f31) [.tmp 4] ds
theorem F_ref51_sum_eq (ds : List D) : F_ref51_sum ds = runG Tryd.prog c_ref51_sum (H_ref51_sum bigL) an_ref51_sum 28 (bodyOf Tryd.f31) [.tmp 4] ds := runG_eq lok_ref51_sum _ ds
theorem C_ref51_sum (ds : List D) (r : D) (h : F_ref51_sum ds = some r) : Contract Tryd.prog gl 31 ds r := contract_of mix Tryd.func31 rfl (by kernel_rfl) (by kernel_rfl) (by decide) (call := c_ref51_sum) ⟨callOf_ok cl_ref51_sum trivial, callOfE_ok ce_ref51_sum trivial⟩ h
-- (sawmill/sawmillref51.L).Balance: loops [3]; state: params 0..1, then [2, 4, 5, 6]
attribute [simp] Tryd.f25
noncomputable def an_ref51_L_Balance : Ann := ⟨[2, 4, 5, 6], [11], [], [(3, [1, 2, 5, 6])], [(0, [5]), (1, [1, 2, 5, 6])], some [4], [], [], [(56, 0, 3, 1), (56, 1, 3, 1), (56, 2, 41, 3)], []⟩
@[simp] theorem an_ref51_L_Balance_draws : an_ref51_L_Balance.draws = [] := rfl
@[simp] theorem an_ref51_L_Balance_exits : an_ref51_L_Balance.exits = [(0, [5]), (1, [1, 2, 5, 6])] := rfl
@[simp] theorem an_ref51_L_Balance_rets : an_ref51_L_Balance.rets = some [4] := rfl
@[simp] theorem an_ref51_L_Balance_keep : an_ref51_L_Balance.keep = [2, 4, 5, 6] := rfl
@[simp] theorem an_ref51_L_Balance_cond : an_ref51_L_Balance.cond = [11] := rfl
@[simp] theorem an_ref51_L_Balance_rows : an_ref51_L_Balance.rows = [] := rfl
@[simp] theorem an_ref51_L_Balance_loops : an_ref51_L_Balance.loops = [(3, [1, 2, 5, 6])] := rfl
@[simp] theorem an_ref51_L_Balance_ecalls : an_ref51_L_Balance.ecalls = [] := rfl
@[simp] theorem an_ref51_L_Balance_crows : an_ref51_L_Balance.crows = [(56, 0, 3, 1), (56, 1, 3, 1), (56, 2, 41, 3)] := rfl
@[simp] theorem an_ref51_L_Balance_tails : an_ref51_L_Balance.tails = [] := rfl
@[simp] noncomputable def cl_ref51_L_Balance : List (Nat × (List D → Option D)) := [(31, F_ref51_sum)]
@[simp] noncomputable def ce_ref51_L_Balance : List (Nat × (List (Nat × O) → List D → Option (D × List (Nat × O)))) := []
noncomputable def c_ref51_L_Balance : CT := ⟨callOf (cl_ref51_L_Balance ), callOfE ce_ref51_L_Balance, gl⟩
@[simp] theorem c_ref51_L_Balance_p (f : FuncId) (ds : List D) : c_ref51_L_Balance.p f ds = callOf (cl_ref51_L_Balance ) f ds := Eq.trans rfl rfl
@[simp] theorem c_ref51_L_Balance_e (f : FuncId) (hs : List (Nat × O)) (ds : List D) : c_ref51_L_Balance.e f hs ds = callOfE ce_ref51_L_Balance f hs ds := Eq.trans rfl rfl
@[simp] theorem c_ref51_L_Balance_g (g : Nat) : c_ref51_L_Balance.g g = gl g := Eq.trans rfl rfl
noncomputable def L_ref51_L_Balance (i n : Nat) (s : St) : Option (E × St) := atN Tryd.prog c_ref51_L_Balance an_ref51_L_Balance 25 (bodyOf Tryd.f25) i n s
noncomputable def H_ref51_L_Balance (n i : Nat) (s : St) : Option (E × St) := atH Tryd.prog c_ref51_L_Balance an_ref51_L_Balance 25 (bodyOf Tryd.f25) n i s
@[simp] theorem H_ref51_L_Balance_eq (n i : Nat) (s : St) : H_ref51_L_Balance n i s = L_ref51_L_Balance i n (headOf (an_ref51_L_Balance.loops.lookup i) s) := rfl
noncomputable def R_ref51_L_Balance (i : Nat) (s : St) : Option (E × St) := stepL Tryd.prog c_ref51_L_Balance an_ref51_L_Balance 25 (bodyOf Tryd.f25) i s
theorem lok_ref51_L_Balance : okLoops (bodyOf Tryd.f25) = true := by kernel_rfl
theorem L_ref51_L_Balance_succ (i n : Nat) (s : St) : L_ref51_L_Balance i (n + 1) s = andThen (R_ref51_L_Balance i s) (H_ref51_L_Balance n i) := atN_succ lok_ref51_L_Balance (by kernel_rfl) i n s
theorem R_ref51_L_Balance_eq (i : Nat) (s : St) : R_ref51_L_Balance i s = runS Tryd.prog c_ref51_L_Balance (H_ref51_L_Balance bigL) an_ref51_L_Balance 25 (loopAt (bodyOf Tryd.f25) i) s := rfl
noncomputable def F_ref51_L_Balance (ds : List D) : Option D := runF Tryd.prog c_ref51_L_Balance an_ref51_L_Balance 25 (bodyOf Tryd.f25) [.tmp 4] ds
theorem F_ref51_L_Balance_eq (ds : List D) : F_ref51_L_Balance ds = runG Tryd.prog c_ref51_L_Balance (H_ref51_L_Balance bigL) an_ref51_L_Balance 25 (bodyOf Tryd.f25) [.tmp 4] ds := runG_eq lok_ref51_L_Balance _ ds
theorem C_ref51_L_Balance (ds : List D) (r : D) (h : F_ref51_L_Balance ds = some r) : Contract Tryd.prog gl 25 ds r := contract_of mix Tryd.func25 rfl (by kernel_rfl) (by kernel_rfl) (by decide) (call := c_ref51_L_Balance) ⟨callOf_ok cl_ref51_L_Balance ⟨C_ref51_sum, trivial⟩, callOfE_ok ce_ref51_L_Balance trivial⟩ h
-- (sawmill/sawmillref51.L).Entries: loops [3]; state: params 0..0, then [1, 2, 3, 4, 5]
attribute [simp] Tryd.f26
noncomputable def an_ref51_L_Entries : Ann := ⟨[1, 2, 3, 4, 5], [10], [3, 18], [(3, [1, 3, 4])], [(0, [3]), (1, [1, 3, 4])], some [2], [], [], [(56, 0, 3, 1), (56, 1, 3, 1), (56, 2, 41, 3)], []⟩
@[simp] theorem an_ref51_L_Entries_draws : an_ref51_L_Entries.draws = [] := rfl
@[simp] theorem an_ref51_L_Entries_exits : an_ref51_L_Entries.exits = [(0, [3]), (1, [1, 3, 4])] := rfl
@[simp] theorem an_ref51_L_Entries_rets : an_ref51_L_Entries.rets = some [2] := rfl
@[simp] theorem an_ref51_L_Entries_keep : an_ref51_L_Entries.keep = [1, 2, 3, 4, 5] := rfl
@[simp] theorem an_ref51_L_Entries_cond : an_ref51_L_Entries.cond = [10] := rfl
@[simp] theorem an_ref51_L_Entries_rows : an_ref51_L_Entries.rows = [3, 18] := rfl
@[simp] theorem an_ref51_L_Entries_loops : an_ref51_L_Entries.loops = [(3, [1, 3, 4])] := rfl
@[simp] theorem an_ref51_L_Entries_ecalls : an_ref51_L_Entries.ecalls = [] := rfl
@[simp] theorem an_ref51_L_Entries_crows : an_ref51_L_Entries.crows = [(56, 0, 3, 1), (56, 1, 3, 1), (56, 2, 41, 3)] := rfl
@[simp] theorem an_ref51_L_Entries_tails : an_ref51_L_Entries.tails = [] := rfl
@[simp] noncomputable def cl_ref51_L_Entries : List (Nat × (List D → Option D)) := []
@[simp] noncomputable def ce_ref51_L_Entries : List (Nat × (List (Nat × O) → List D → Option (D × List (Nat × O)))) := []
noncomputable def c_ref51_L_Entries : CT := ⟨callOf (cl_ref51_L_Entries ), callOfE ce_ref51_L_Entries, gl⟩
@[simp] theorem c_ref51_L_Entries_p (f : FuncId) (ds : List D) : c_ref51_L_Entries.p f ds = callOf (cl_ref51_L_Entries ) f ds := Eq.trans rfl rfl
@[simp] theorem c_ref51_L_Entries_e (f : FuncId) (hs : List (Nat × O)) (ds : List D) : c_ref51_L_Entries.e f hs ds = callOfE ce_ref51_L_Entries f hs ds := Eq.trans rfl rfl
@[simp] theorem c_ref51_L_Entries_g (g : Nat) : c_ref51_L_Entries.g g = gl g := Eq.trans rfl rfl
noncomputable def L_ref51_L_Entries (i n : Nat) (s : St) : Option (E × St) := atN Tryd.prog c_ref51_L_Entries an_ref51_L_Entries 28 (bodyOf Tryd.f26) i n s
noncomputable def H_ref51_L_Entries (n i : Nat) (s : St) : Option (E × St) := atH Tryd.prog c_ref51_L_Entries an_ref51_L_Entries 28 (bodyOf Tryd.f26) n i s
@[simp] theorem H_ref51_L_Entries_eq (n i : Nat) (s : St) : H_ref51_L_Entries n i s = L_ref51_L_Entries i n (headOf (an_ref51_L_Entries.loops.lookup i) s) := rfl
noncomputable def R_ref51_L_Entries (i : Nat) (s : St) : Option (E × St) := stepL Tryd.prog c_ref51_L_Entries an_ref51_L_Entries 28 (bodyOf Tryd.f26) i s
theorem lok_ref51_L_Entries : okLoops (bodyOf Tryd.f26) = true := by kernel_rfl
theorem L_ref51_L_Entries_succ (i n : Nat) (s : St) : L_ref51_L_Entries i (n + 1) s = andThen (R_ref51_L_Entries i s) (H_ref51_L_Entries n i) := atN_succ lok_ref51_L_Entries (by kernel_rfl) i n s
theorem R_ref51_L_Entries_eq (i : Nat) (s : St) : R_ref51_L_Entries i s = runS Tryd.prog c_ref51_L_Entries (H_ref51_L_Entries bigL) an_ref51_L_Entries 28 (loopAt (bodyOf Tryd.f26) i) s := rfl
noncomputable def F_ref51_L_Entries (ds : List D) : Option D := runF Tryd.prog c_ref51_L_Entries an_ref51_L_Entries 28 (bodyOf Tryd.f26) [.tmp 2] ds
theorem F_ref51_L_Entries_eq (ds : List D) : F_ref51_L_Entries ds = runG Tryd.prog c_ref51_L_Entries (H_ref51_L_Entries bigL) an_ref51_L_Entries 28 (bodyOf Tryd.f26) [.tmp 2] ds := runG_eq lok_ref51_L_Entries _ ds
theorem C_ref51_L_Entries (ds : List D) (r : D) (h : F_ref51_L_Entries ds = some r) : Contract Tryd.prog gl 26 ds r := contract_of mix Tryd.func26 rfl (by kernel_rfl) (by kernel_rfl) (by decide) (call := c_ref51_L_Entries) ⟨callOf_ok cl_ref51_L_Entries trivial, callOfE_ok ce_ref51_L_Entries trivial⟩ h
-- sawmill/sawmillref51.Same: loops [4]; state: params 0..1, then [4, 5]
attribute [simp] Tryd.f21
noncomputable def an_ref51_Same : Ann := ⟨[0, 1, 4, 5], [10, 14, 54], [], [(4, [0, 1, 5])], [(0, []), (1, [0, 1, 5])], some [4], [(6, 35)], [], [(56, 0, 3, 1), (56, 1, 3, 1), (56, 2, 41, 3)], []⟩
@[simp] theorem an_ref51_Same_draws : an_ref51_Same.draws = [(6, 35)] := rfl
@[simp] theorem an_ref51_Same_exits : an_ref51_Same.exits = [(0, []), (1, [0, 1, 5])] := rfl
@[simp] theorem an_ref51_Same_rets : an_ref51_Same.rets = some [4] := rfl
@[simp] theorem an_ref51_Same_keep : an_ref51_Same.keep = [0, 1, 4, 5] := rfl
@[simp] theorem an_ref51_Same_cond : an_ref51_Same.cond = [10, 14, 54] := rfl
@[simp] theorem an_ref51_Same_rows : an_ref51_Same.rows = [] := rfl
@[simp] theorem an_ref51_Same_loops : an_ref51_Same.loops = [(4, [0, 1, 5])] := rfl
@[simp] theorem an_ref51_Same_ecalls : an_ref51_Same.ecalls = [] := rfl
@[simp] theorem an_ref51_Same_crows : an_ref51_Same.crows = [(56, 0, 3, 1), (56, 1, 3, 1), (56, 2, 41, 3)] := rfl
@[simp] theorem an_ref51_Same_tails : an_ref51_Same.tails = [] := rfl
@[simp] noncomputable def cl_ref51_Same : List (Nat × (List D → Option D)) := [(22, F_ref51_SamePostings)]
@[simp] noncomputable def ce_ref51_Same : List (Nat × (List (Nat × O) → List D → Option (D × List (Nat × O)))) := []
noncomputable def c_ref51_Same : CT := ⟨callOf (cl_ref51_Same ), callOfE ce_ref51_Same, gl⟩
@[simp] theorem c_ref51_Same_p (f : FuncId) (ds : List D) : c_ref51_Same.p f ds = callOf (cl_ref51_Same ) f ds := Eq.trans rfl rfl
@[simp] theorem c_ref51_Same_e (f : FuncId) (hs : List (Nat × O)) (ds : List D) : c_ref51_Same.e f hs ds = callOfE ce_ref51_Same f hs ds := Eq.trans rfl rfl
@[simp] theorem c_ref51_Same_g (g : Nat) : c_ref51_Same.g g = gl g := Eq.trans rfl rfl
noncomputable def L_ref51_Same (i n : Nat) (s : St) : Option (E × St) := atN Tryd.prog c_ref51_Same an_ref51_Same 55 (bodyOf Tryd.f21) i n s
noncomputable def H_ref51_Same (n i : Nat) (s : St) : Option (E × St) := atH Tryd.prog c_ref51_Same an_ref51_Same 55 (bodyOf Tryd.f21) n i s
@[simp] theorem H_ref51_Same_eq (n i : Nat) (s : St) : H_ref51_Same n i s = L_ref51_Same i n (headOf (an_ref51_Same.loops.lookup i) s) := rfl
noncomputable def R_ref51_Same (i : Nat) (s : St) : Option (E × St) := stepL Tryd.prog c_ref51_Same an_ref51_Same 55 (bodyOf Tryd.f21) i s
theorem lok_ref51_Same : okLoops (bodyOf Tryd.f21) = true := by kernel_rfl
theorem L_ref51_Same_succ (i n : Nat) (s : St) : L_ref51_Same i (n + 1) s = andThen (R_ref51_Same i s) (H_ref51_Same n i) := atN_succ lok_ref51_Same (by kernel_rfl) i n s
theorem R_ref51_Same_eq (i : Nat) (s : St) : R_ref51_Same i s = runS Tryd.prog c_ref51_Same (H_ref51_Same bigL) an_ref51_Same 55 (loopAt (bodyOf Tryd.f21) i) s := rfl
noncomputable def F_ref51_Same (ds : List D) : Option D := runF Tryd.prog c_ref51_Same an_ref51_Same 55 (bodyOf Tryd.f21) [.tmp 4] ds
theorem F_ref51_Same_eq (ds : List D) : F_ref51_Same ds = runG Tryd.prog c_ref51_Same (H_ref51_Same bigL) an_ref51_Same 55 (bodyOf Tryd.f21) [.tmp 4] ds := runG_eq lok_ref51_Same _ ds
theorem C_ref51_Same (ds : List D) (r : D) (h : F_ref51_Same ds = some r) : Contract Tryd.prog gl 21 ds r := contract_of mix Tryd.func21 rfl (by kernel_rfl) (by kernel_rfl) (by decide) (call := c_ref51_Same) ⟨callOf_ok cl_ref51_Same ⟨C_ref51_SamePostings, trivial⟩, callOfE_ok ce_ref51_Same trivial⟩ h
-- (sawmill/sawmillref51.L).Trial: loops [3, 8]; state: params 0..0, then [1, 2, 3, 4, 5, 6, 7]
attribute [simp] Tryd.f27
noncomputable def an_ref51_L_Trial : Ann := ⟨[1, 2, 3, 4, 5, 6, 7], [12, 30, 44], [7, 47], [(3, [1, 3, 4]), (8, [1, 3, 4, 5, 6])], [(0, [3]), (1, [1, 3, 4]), (2, [1, 3, 4, 5, 6]), (3, [1, 3, 4, 5, 6])], some [2], [(5, 14), (8, 12)], [], [(56, 0, 3, 1), (56, 1, 3, 1), (56, 2, 41, 3)], []⟩
@[simp] theorem an_ref51_L_Trial_draws : an_ref51_L_Trial.draws = [(5, 14), (8, 12)] := rfl
@[simp] theorem an_ref51_L_Trial_exits : an_ref51_L_Trial.exits = [(0, [3]), (1, [1, 3, 4]), (2, [1, 3, 4, 5, 6]), (3, [1, 3, 4, 5, 6])] := rfl
@[simp] theorem an_ref51_L_Trial_rets : an_ref51_L_Trial.rets = some [2] := rfl
@[simp] theorem an_ref51_L_Trial_keep : an_ref51_L_Trial.keep = [1, 2, 3, 4, 5, 6, 7] := rfl
@[simp] theorem an_ref51_L_Trial_cond : an_ref51_L_Trial.cond = [12, 30, 44] := rfl
@[simp] theorem an_ref51_L_Trial_rows : an_ref51_L_Trial.rows = [7, 47] := rfl
@[simp] theorem an_ref51_L_Trial_loops : an_ref51_L_Trial.loops = [(3, [1, 3, 4]), (8, [1, 3, 4, 5, 6])] := rfl
@[simp] theorem an_ref51_L_Trial_ecalls : an_ref51_L_Trial.ecalls = [] := rfl
@[simp] theorem an_ref51_L_Trial_crows : an_ref51_L_Trial.crows = [(56, 0, 3, 1), (56, 1, 3, 1), (56, 2, 41, 3)] := rfl
@[simp] theorem an_ref51_L_Trial_tails : an_ref51_L_Trial.tails = [] := rfl
@[simp] noncomputable def cl_ref51_L_Trial : List (Nat × (List D → Option D)) := [(25, F_ref51_L_Balance)]
@[simp] noncomputable def ce_ref51_L_Trial : List (Nat × (List (Nat × O) → List D → Option (D × List (Nat × O)))) := []
noncomputable def c_ref51_L_Trial : CT := ⟨callOf (cl_ref51_L_Trial ), callOfE ce_ref51_L_Trial, gl⟩
@[simp] theorem c_ref51_L_Trial_p (f : FuncId) (ds : List D) : c_ref51_L_Trial.p f ds = callOf (cl_ref51_L_Trial ) f ds := Eq.trans rfl rfl
@[simp] theorem c_ref51_L_Trial_e (f : FuncId) (hs : List (Nat × O)) (ds : List D) : c_ref51_L_Trial.e f hs ds = callOfE ce_ref51_L_Trial f hs ds := Eq.trans rfl rfl
@[simp] theorem c_ref51_L_Trial_g (g : Nat) : c_ref51_L_Trial.g g = gl g := Eq.trans rfl rfl
noncomputable def L_ref51_L_Trial (i n : Nat) (s : St) : Option (E × St) := atN Tryd.prog c_ref51_L_Trial an_ref51_L_Trial 62 (bodyOf Tryd.f27) i n s
noncomputable def H_ref51_L_Trial (n i : Nat) (s : St) : Option (E × St) := atH Tryd.prog c_ref51_L_Trial an_ref51_L_Trial 62 (bodyOf Tryd.f27) n i s
@[simp] theorem H_ref51_L_Trial_eq (n i : Nat) (s : St) : H_ref51_L_Trial n i s = L_ref51_L_Trial i n (headOf (an_ref51_L_Trial.loops.lookup i) s) := rfl
noncomputable def R_ref51_L_Trial (i : Nat) (s : St) : Option (E × St) := stepL Tryd.prog c_ref51_L_Trial an_ref51_L_Trial 62 (bodyOf Tryd.f27) i s
theorem lok_ref51_L_Trial : okLoops (bodyOf Tryd.f27) = true := by kernel_rfl
theorem L_ref51_L_Trial_succ (i n : Nat) (s : St) : L_ref51_L_Trial i (n + 1) s = andThen (R_ref51_L_Trial i s) (H_ref51_L_Trial n i) := atN_succ lok_ref51_L_Trial (by kernel_rfl) i n s
theorem R_ref51_L_Trial_eq (i : Nat) (s : St) : R_ref51_L_Trial i s = runS Tryd.prog c_ref51_L_Trial (H_ref51_L_Trial bigL) an_ref51_L_Trial 62 (loopAt (bodyOf Tryd.f27) i) s := rfl
noncomputable def F_ref51_L_Trial (ds : List D) : Option D := runF Tryd.prog c_ref51_L_Trial an_ref51_L_Trial 62 (bodyOf Tryd.f27) [.tmp 2] ds
theorem F_ref51_L_Trial_eq (ds : List D) : F_ref51_L_Trial ds = runG Tryd.prog c_ref51_L_Trial (H_ref51_L_Trial bigL) an_ref51_L_Trial 62 (bodyOf Tryd.f27) [.tmp 2] ds := runG_eq lok_ref51_L_Trial _ ds
theorem C_ref51_L_Trial (ds : List D) (r : D) (h : F_ref51_L_Trial ds = some r) : Contract Tryd.prog gl 27 ds r := contract_of mix Tryd.func27 rfl (by kernel_rfl) (by kernel_rfl) (by decide) (call := c_ref51_L_Trial) ⟨callOf_ok cl_ref51_L_Trial ⟨C_ref51_L_Balance, trivial⟩, callOfE_ok ce_ref51_L_Trial trivial⟩ h
-- sawmill/sawmillref06.natural: loops []; state: params 0..0, then [2]; RECURSIVE
attribute [simp] Tryd.f64
noncomputable def an_ref06_natural : Ann := ⟨[0, 2], [4], [], [], [], some [2], [], [], [(56, 0, 3, 1), (56, 1, 3, 1), (56, 2, 41, 3)], []⟩
@[simp] theorem an_ref06_natural_draws : an_ref06_natural.draws = [] := rfl
@[simp] theorem an_ref06_natural_exits : an_ref06_natural.exits = [] := rfl
@[simp] theorem an_ref06_natural_rets : an_ref06_natural.rets = some [2] := rfl
@[simp] theorem an_ref06_natural_keep : an_ref06_natural.keep = [0, 2] := rfl
@[simp] theorem an_ref06_natural_cond : an_ref06_natural.cond = [4] := rfl
@[simp] theorem an_ref06_natural_rows : an_ref06_natural.rows = [] := rfl
@[simp] theorem an_ref06_natural_loops : an_ref06_natural.loops = [] := rfl
@[simp] theorem an_ref06_natural_ecalls : an_ref06_natural.ecalls = [] := rfl
@[simp] theorem an_ref06_natural_crows : an_ref06_natural.crows = [(56, 0, 3, 1), (56, 1, 3, 1), (56, 2, 41, 3)] := rfl
@[simp] theorem an_ref06_natural_tails : an_ref06_natural.tails = [] := rfl
@[simp] noncomputable def cl_ref06_natural (self : List D → Option D) : List (Nat × (List D → Option D)) := [(64, self)]
@[simp] noncomputable def ce_ref06_natural : List (Nat × (List (Nat × O) → List D → Option (D × List (Nat × O)))) := []
noncomputable def c_ref06_natural (self : List D → Option D) : CT := ⟨callOf (cl_ref06_natural self ), callOfE ce_ref06_natural, gl⟩
@[simp] theorem c_ref06_natural_p (self : List D → Option D) (f : FuncId) (ds : List D) : (c_ref06_natural self).p f ds = callOf (cl_ref06_natural self ) f ds := Eq.trans rfl rfl
@[simp] theorem c_ref06_natural_e (self : List D → Option D) (f : FuncId) (hs : List (Nat × O)) (ds : List D) : (c_ref06_natural self).e f hs ds = callOfE ce_ref06_natural f hs ds := Eq.trans rfl rfl
@[simp] theorem c_ref06_natural_g (self : List D → Option D) (g : Nat) : (c_ref06_natural self).g g = gl g := Eq.trans rfl rfl
noncomputable def L_ref06_natural (self : List D → Option D) (i n : Nat) (s : St) : Option (E × St) := atN Tryd.prog (c_ref06_natural self) an_ref06_natural 16 (bodyOf Tryd.f64) i n s
noncomputable def H_ref06_natural (self : List D → Option D) (n i : Nat) (s : St) : Option (E × St) := atH Tryd.prog (c_ref06_natural self) an_ref06_natural 16 (bodyOf Tryd.f64) n i s
@[simp] theorem H_ref06_natural_eq (self : List D → Option D) (n i : Nat) (s : St) : H_ref06_natural self n i s = L_ref06_natural self i n (headOf (an_ref06_natural.loops.lookup i) s) := rfl
noncomputable def R_ref06_natural (self : List D → Option D) (i : Nat) (s : St) : Option (E × St) := stepL Tryd.prog (c_ref06_natural self) an_ref06_natural 16 (bodyOf Tryd.f64) i s
theorem lok_ref06_natural : okLoops (bodyOf Tryd.f64) = true := by kernel_rfl
noncomputable def FN_ref06_natural : Nat → List D → Option D
  | 0 => fun _ => none
  | n + 1 => fun ds => runF Tryd.prog (c_ref06_natural (FN_ref06_natural n)) an_ref06_natural 16 (bodyOf Tryd.f64) [.tmp 2] ds
theorem FN_ref06_natural_eq (n : Nat) (ds : List D) : FN_ref06_natural (n + 1) ds = runG Tryd.prog (c_ref06_natural (FN_ref06_natural n)) (H_ref06_natural (FN_ref06_natural n) bigL) an_ref06_natural 16 (bodyOf Tryd.f64) [.tmp 2] ds := runG_eq lok_ref06_natural _ ds
theorem CN_ref06_natural : ∀ (n : Nat) (ds : List D) (r : D), FN_ref06_natural n ds = some r → Contract Tryd.prog gl 64 ds r
  | 0, _, _, h => by cases h
  | n + 1, ds, r, h => by
    have ih := CN_ref06_natural n
    exact contract_of mix Tryd.func64 rfl (by kernel_rfl) (by kernel_rfl) (by decide) (call := c_ref06_natural (FN_ref06_natural n)) ⟨callOf_ok (cl_ref06_natural (FN_ref06_natural n)) ⟨ih, trivial⟩, callOfE_ok ce_ref06_natural trivial⟩ h
noncomputable def F_ref06_natural (ds : List D) : Option D := FN_ref06_natural 1000 ds
theorem C_ref06_natural (ds : List D) (r : D) (h : F_ref06_natural ds = some r) : Contract Tryd.prog gl 64 ds r := CN_ref06_natural 1000 ds r h
-- sawmill/sawmillref06.Digits: loops []; state: params 0..0, then [2]
attribute [simp] Tryd.f56
noncomputable def an_ref06_Digits : Ann := ⟨[0, 2], [4], [], [], [], some [2], [], [], [(56, 0, 3, 1), (56, 1, 3, 1), (56, 2, 41, 3)], []⟩
@[simp] theorem an_ref06_Digits_draws : an_ref06_Digits.draws = [] := rfl
@[simp] theorem an_ref06_Digits_exits : an_ref06_Digits.exits = [] := rfl
@[simp] theorem an_ref06_Digits_rets : an_ref06_Digits.rets = some [2] := rfl
@[simp] theorem an_ref06_Digits_keep : an_ref06_Digits.keep = [0, 2] := rfl
@[simp] theorem an_ref06_Digits_cond : an_ref06_Digits.cond = [4] := rfl
@[simp] theorem an_ref06_Digits_rows : an_ref06_Digits.rows = [] := rfl
@[simp] theorem an_ref06_Digits_loops : an_ref06_Digits.loops = [] := rfl
@[simp] theorem an_ref06_Digits_ecalls : an_ref06_Digits.ecalls = [] := rfl
@[simp] theorem an_ref06_Digits_crows : an_ref06_Digits.crows = [(56, 0, 3, 1), (56, 1, 3, 1), (56, 2, 41, 3)] := rfl
@[simp] theorem an_ref06_Digits_tails : an_ref06_Digits.tails = [] := rfl
@[simp] noncomputable def cl_ref06_Digits : List (Nat × (List D → Option D)) := [(64, F_ref06_natural)]
@[simp] noncomputable def ce_ref06_Digits : List (Nat × (List (Nat × O) → List D → Option (D × List (Nat × O)))) := []
noncomputable def c_ref06_Digits : CT := ⟨callOf (cl_ref06_Digits ), callOfE ce_ref06_Digits, gl⟩
@[simp] theorem c_ref06_Digits_p (f : FuncId) (ds : List D) : c_ref06_Digits.p f ds = callOf (cl_ref06_Digits ) f ds := Eq.trans rfl rfl
@[simp] theorem c_ref06_Digits_e (f : FuncId) (hs : List (Nat × O)) (ds : List D) : c_ref06_Digits.e f hs ds = callOfE ce_ref06_Digits f hs ds := Eq.trans rfl rfl
@[simp] theorem c_ref06_Digits_g (g : Nat) : c_ref06_Digits.g g = gl g := Eq.trans rfl rfl
noncomputable def L_ref06_Digits (i n : Nat) (s : St) : Option (E × St) := atN Tryd.prog c_ref06_Digits an_ref06_Digits 15 (bodyOf Tryd.f56) i n s
noncomputable def H_ref06_Digits (n i : Nat) (s : St) : Option (E × St) := atH Tryd.prog c_ref06_Digits an_ref06_Digits 15 (bodyOf Tryd.f56) n i s
@[simp] theorem H_ref06_Digits_eq (n i : Nat) (s : St) : H_ref06_Digits n i s = L_ref06_Digits i n (headOf (an_ref06_Digits.loops.lookup i) s) := rfl
noncomputable def R_ref06_Digits (i : Nat) (s : St) : Option (E × St) := stepL Tryd.prog c_ref06_Digits an_ref06_Digits 15 (bodyOf Tryd.f56) i s
theorem lok_ref06_Digits : okLoops (bodyOf Tryd.f56) = true := by kernel_rfl
noncomputable def F_ref06_Digits (ds : List D) : Option D := runF Tryd.prog c_ref06_Digits an_ref06_Digits 15 (bodyOf Tryd.f56) [.tmp 2] ds
theorem F_ref06_Digits_eq (ds : List D) : F_ref06_Digits ds = runG Tryd.prog c_ref06_Digits (H_ref06_Digits bigL) an_ref06_Digits 15 (bodyOf Tryd.f56) [.tmp 2] ds := runG_eq lok_ref06_Digits _ ds
theorem C_ref06_Digits (ds : List D) (r : D) (h : F_ref06_Digits ds = some r) : Contract Tryd.prog gl 56 ds r := contract_of mix Tryd.func56 rfl (by kernel_rfl) (by kernel_rfl) (by decide) (call := c_ref06_Digits) ⟨callOf_ok cl_ref06_Digits ⟨C_ref06_natural, trivial⟩, callOfE_ok ce_ref06_Digits trivial⟩ h
-- sawmill/sawmillref51.Text: loops [3]; state: params 0..0, then [1, 2, 3, 4]
attribute [simp] Tryd.f44
noncomputable def an_ref51_Text : Ann := ⟨[1, 2, 3, 4], [22], [], [(3, [1, 3, 4])], [(0, [3]), (1, [1, 3, 4])], some [2], [(1, 12), (5, 17)], [], [(56, 0, 3, 1), (56, 1, 3, 1), (56, 2, 41, 3)], []⟩
@[simp] theorem an_ref51_Text_draws : an_ref51_Text.draws = [(1, 12), (5, 17)] := rfl
@[simp] theorem an_ref51_Text_exits : an_ref51_Text.exits = [(0, [3]), (1, [1, 3, 4])] := rfl
@[simp] theorem an_ref51_Text_rets : an_ref51_Text.rets = some [2] := rfl
@[simp] theorem an_ref51_Text_keep : an_ref51_Text.keep = [1, 2, 3, 4] := rfl
@[simp] theorem an_ref51_Text_cond : an_ref51_Text.cond = [22] := rfl
@[simp] theorem an_ref51_Text_rows : an_ref51_Text.rows = [] := rfl
@[simp] theorem an_ref51_Text_loops : an_ref51_Text.loops = [(3, [1, 3, 4])] := rfl
@[simp] theorem an_ref51_Text_ecalls : an_ref51_Text.ecalls = [] := rfl
@[simp] theorem an_ref51_Text_crows : an_ref51_Text.crows = [(56, 0, 3, 1), (56, 1, 3, 1), (56, 2, 41, 3)] := rfl
@[simp] theorem an_ref51_Text_tails : an_ref51_Text.tails = [] := rfl
@[simp] noncomputable def cl_ref51_Text : List (Nat × (List D → Option D)) := [(56, F_ref06_Digits)]
@[simp] noncomputable def ce_ref51_Text : List (Nat × (List (Nat × O) → List D → Option (D × List (Nat × O)))) := []
noncomputable def c_ref51_Text : CT := ⟨callOf (cl_ref51_Text ), callOfE ce_ref51_Text, gl⟩
@[simp] theorem c_ref51_Text_p (f : FuncId) (ds : List D) : c_ref51_Text.p f ds = callOf (cl_ref51_Text ) f ds := Eq.trans rfl rfl
@[simp] theorem c_ref51_Text_e (f : FuncId) (hs : List (Nat × O)) (ds : List D) : c_ref51_Text.e f hs ds = callOfE ce_ref51_Text f hs ds := Eq.trans rfl rfl
@[simp] theorem c_ref51_Text_g (g : Nat) : c_ref51_Text.g g = gl g := Eq.trans rfl rfl
noncomputable def L_ref51_Text (i n : Nat) (s : St) : Option (E × St) := atN Tryd.prog c_ref51_Text an_ref51_Text 45 (bodyOf Tryd.f44) i n s
noncomputable def H_ref51_Text (n i : Nat) (s : St) : Option (E × St) := atH Tryd.prog c_ref51_Text an_ref51_Text 45 (bodyOf Tryd.f44) n i s
@[simp] theorem H_ref51_Text_eq (n i : Nat) (s : St) : H_ref51_Text n i s = L_ref51_Text i n (headOf (an_ref51_Text.loops.lookup i) s) := rfl
noncomputable def R_ref51_Text (i : Nat) (s : St) : Option (E × St) := stepL Tryd.prog c_ref51_Text an_ref51_Text 45 (bodyOf Tryd.f44) i s
theorem lok_ref51_Text : okLoops (bodyOf Tryd.f44) = true := by kernel_rfl
theorem L_ref51_Text_succ (i n : Nat) (s : St) : L_ref51_Text i (n + 1) s = andThen (R_ref51_Text i s) (H_ref51_Text n i) := atN_succ lok_ref51_Text (by kernel_rfl) i n s
theorem R_ref51_Text_eq (i : Nat) (s : St) : R_ref51_Text i s = runS Tryd.prog c_ref51_Text (H_ref51_Text bigL) an_ref51_Text 45 (loopAt (bodyOf Tryd.f44) i) s := rfl
noncomputable def F_ref51_Text (ds : List D) : Option D := runF Tryd.prog c_ref51_Text an_ref51_Text 45 (bodyOf Tryd.f44) [.tmp 2] ds
theorem F_ref51_Text_eq (ds : List D) : F_ref51_Text ds = runG Tryd.prog c_ref51_Text (H_ref51_Text bigL) an_ref51_Text 45 (bodyOf Tryd.f44) [.tmp 2] ds := runG_eq lok_ref51_Text _ ds
theorem C_ref51_Text (ds : List D) (r : D) (h : F_ref51_Text ds = some r) : Contract Tryd.prog gl 44 ds r := contract_of mix Tryd.func44 rfl (by kernel_rfl) (by kernel_rfl) (by decide) (call := c_ref51_Text) ⟨callOf_ok cl_ref51_Text ⟨C_ref06_Digits, trivial⟩, callOfE_ok ce_ref51_Text trivial⟩ h
-- sawmill/sawmillref04.Bytes: loops [3]; state: params 0..0, then [2, 3, 4]
attribute [simp] Tryd.f55
noncomputable def an_ref04_Bytes : Ann := ⟨[2, 3, 4], [6], [3], [(3, [0, 3, 4])], [(0, [3]), (1, [0, 3, 4])], some [2], [], [], [(56, 0, 3, 1), (56, 1, 3, 1), (56, 2, 41, 3)], []⟩
@[simp] theorem an_ref04_Bytes_draws : an_ref04_Bytes.draws = [] := rfl
@[simp] theorem an_ref04_Bytes_exits : an_ref04_Bytes.exits = [(0, [3]), (1, [0, 3, 4])] := rfl
@[simp] theorem an_ref04_Bytes_rets : an_ref04_Bytes.rets = some [2] := rfl
@[simp] theorem an_ref04_Bytes_keep : an_ref04_Bytes.keep = [2, 3, 4] := rfl
@[simp] theorem an_ref04_Bytes_cond : an_ref04_Bytes.cond = [6] := rfl
@[simp] theorem an_ref04_Bytes_rows : an_ref04_Bytes.rows = [3] := rfl
@[simp] theorem an_ref04_Bytes_loops : an_ref04_Bytes.loops = [(3, [0, 3, 4])] := rfl
@[simp] theorem an_ref04_Bytes_ecalls : an_ref04_Bytes.ecalls = [] := rfl
@[simp] theorem an_ref04_Bytes_crows : an_ref04_Bytes.crows = [(56, 0, 3, 1), (56, 1, 3, 1), (56, 2, 41, 3)] := rfl
@[simp] theorem an_ref04_Bytes_tails : an_ref04_Bytes.tails = [] := rfl
@[simp] noncomputable def cl_ref04_Bytes : List (Nat × (List D → Option D)) := []
@[simp] noncomputable def ce_ref04_Bytes : List (Nat × (List (Nat × O) → List D → Option (D × List (Nat × O)))) := []
noncomputable def c_ref04_Bytes : CT := ⟨callOf (cl_ref04_Bytes ), callOfE ce_ref04_Bytes, gl⟩
@[simp] theorem c_ref04_Bytes_p (f : FuncId) (ds : List D) : c_ref04_Bytes.p f ds = callOf (cl_ref04_Bytes ) f ds := Eq.trans rfl rfl
@[simp] theorem c_ref04_Bytes_e (f : FuncId) (hs : List (Nat × O)) (ds : List D) : c_ref04_Bytes.e f hs ds = callOfE ce_ref04_Bytes f hs ds := Eq.trans rfl rfl
@[simp] theorem c_ref04_Bytes_g (g : Nat) : c_ref04_Bytes.g g = gl g := Eq.trans rfl rfl
noncomputable def L_ref04_Bytes (i n : Nat) (s : St) : Option (E × St) := atN Tryd.prog c_ref04_Bytes an_ref04_Bytes 21 (bodyOf Tryd.f55) i n s
noncomputable def H_ref04_Bytes (n i : Nat) (s : St) : Option (E × St) := atH Tryd.prog c_ref04_Bytes an_ref04_Bytes 21 (bodyOf Tryd.f55) n i s
@[simp] theorem H_ref04_Bytes_eq (n i : Nat) (s : St) : H_ref04_Bytes n i s = L_ref04_Bytes i n (headOf (an_ref04_Bytes.loops.lookup i) s) := rfl
noncomputable def R_ref04_Bytes (i : Nat) (s : St) : Option (E × St) := stepL Tryd.prog c_ref04_Bytes an_ref04_Bytes 21 (bodyOf Tryd.f55) i s
theorem lok_ref04_Bytes : okLoops (bodyOf Tryd.f55) = true := by kernel_rfl
theorem L_ref04_Bytes_succ (i n : Nat) (s : St) : L_ref04_Bytes i (n + 1) s = andThen (R_ref04_Bytes i s) (H_ref04_Bytes n i) := atN_succ lok_ref04_Bytes (by kernel_rfl) i n s
theorem R_ref04_Bytes_eq (i : Nat) (s : St) : R_ref04_Bytes i s = runS Tryd.prog c_ref04_Bytes (H_ref04_Bytes bigL) an_ref04_Bytes 21 (loopAt (bodyOf Tryd.f55) i) s := rfl
noncomputable def F_ref04_Bytes (ds : List D) : Option D := runF Tryd.prog c_ref04_Bytes an_ref04_Bytes 21 (bodyOf Tryd.f55) [.tmp 2] ds
theorem F_ref04_Bytes_eq (ds : List D) : F_ref04_Bytes ds = runG Tryd.prog c_ref04_Bytes (H_ref04_Bytes bigL) an_ref04_Bytes 21 (bodyOf Tryd.f55) [.tmp 2] ds := runG_eq lok_ref04_Bytes _ ds
theorem C_ref04_Bytes (ds : List D) (r : D) (h : F_ref04_Bytes ds = some r) : Contract Tryd.prog gl 55 ds r := contract_of mix Tryd.func55 rfl (by kernel_rfl) (by kernel_rfl) (by decide) (call := c_ref04_Bytes) ⟨callOf_ok cl_ref04_Bytes trivial, callOfE_ok ce_ref04_Bytes trivial⟩ h
-- sawmill/sawmillref04.Hash: loops [3]; state: params 0..0, then [2, 3, 4]
attribute [simp] Tryd.f54
noncomputable def an_ref04_Hash : Ann := ⟨[0, 2, 3, 4], [8], [], [(3, [0, 3, 4])], [(0, [3]), (1, [0, 3, 4])], some [2], [], [], [(56, 0, 3, 1), (56, 1, 3, 1), (56, 2, 41, 3)], []⟩
@[simp] theorem an_ref04_Hash_draws : an_ref04_Hash.draws = [] := rfl
@[simp] theorem an_ref04_Hash_exits : an_ref04_Hash.exits = [(0, [3]), (1, [0, 3, 4])] := rfl
@[simp] theorem an_ref04_Hash_rets : an_ref04_Hash.rets = some [2] := rfl
@[simp] theorem an_ref04_Hash_keep : an_ref04_Hash.keep = [0, 2, 3, 4] := rfl
@[simp] theorem an_ref04_Hash_cond : an_ref04_Hash.cond = [8] := rfl
@[simp] theorem an_ref04_Hash_rows : an_ref04_Hash.rows = [] := rfl
@[simp] theorem an_ref04_Hash_loops : an_ref04_Hash.loops = [(3, [0, 3, 4])] := rfl
@[simp] theorem an_ref04_Hash_ecalls : an_ref04_Hash.ecalls = [] := rfl
@[simp] theorem an_ref04_Hash_crows : an_ref04_Hash.crows = [(56, 0, 3, 1), (56, 1, 3, 1), (56, 2, 41, 3)] := rfl
@[simp] theorem an_ref04_Hash_tails : an_ref04_Hash.tails = [] := rfl
@[simp] noncomputable def cl_ref04_Hash : List (Nat × (List D → Option D)) := []
@[simp] noncomputable def ce_ref04_Hash : List (Nat × (List (Nat × O) → List D → Option (D × List (Nat × O)))) := []
noncomputable def c_ref04_Hash : CT := ⟨callOf (cl_ref04_Hash ), callOfE ce_ref04_Hash, gl⟩
@[simp] theorem c_ref04_Hash_p (f : FuncId) (ds : List D) : c_ref04_Hash.p f ds = callOf (cl_ref04_Hash ) f ds := Eq.trans rfl rfl
@[simp] theorem c_ref04_Hash_e (f : FuncId) (hs : List (Nat × O)) (ds : List D) : c_ref04_Hash.e f hs ds = callOfE ce_ref04_Hash f hs ds := Eq.trans rfl rfl
@[simp] theorem c_ref04_Hash_g (g : Nat) : c_ref04_Hash.g g = gl g := Eq.trans rfl rfl
noncomputable def L_ref04_Hash (i n : Nat) (s : St) : Option (E × St) := atN Tryd.prog c_ref04_Hash an_ref04_Hash 19 (bodyOf Tryd.f54) i n s
noncomputable def H_ref04_Hash (n i : Nat) (s : St) : Option (E × St) := atH Tryd.prog c_ref04_Hash an_ref04_Hash 19 (bodyOf Tryd.f54) n i s
@[simp] theorem H_ref04_Hash_eq (n i : Nat) (s : St) : H_ref04_Hash n i s = L_ref04_Hash i n (headOf (an_ref04_Hash.loops.lookup i) s) := rfl
noncomputable def R_ref04_Hash (i : Nat) (s : St) : Option (E × St) := stepL Tryd.prog c_ref04_Hash an_ref04_Hash 19 (bodyOf Tryd.f54) i s
theorem lok_ref04_Hash : okLoops (bodyOf Tryd.f54) = true := by kernel_rfl
theorem L_ref04_Hash_succ (i n : Nat) (s : St) : L_ref04_Hash i (n + 1) s = andThen (R_ref04_Hash i s) (H_ref04_Hash n i) := atN_succ lok_ref04_Hash (by kernel_rfl) i n s
theorem R_ref04_Hash_eq (i : Nat) (s : St) : R_ref04_Hash i s = runS Tryd.prog c_ref04_Hash (H_ref04_Hash bigL) an_ref04_Hash 19 (loopAt (bodyOf Tryd.f54) i) s := rfl
noncomputable def F_ref04_Hash (ds : List D) : Option D := runF Tryd.prog c_ref04_Hash an_ref04_Hash 19 (bodyOf Tryd.f54) [.tmp 2] ds
theorem F_ref04_Hash_eq (ds : List D) : F_ref04_Hash ds = runG Tryd.prog c_ref04_Hash (H_ref04_Hash bigL) an_ref04_Hash 19 (bodyOf Tryd.f54) [.tmp 2] ds := runG_eq lok_ref04_Hash _ ds
theorem C_ref04_Hash (ds : List D) (r : D) (h : F_ref04_Hash ds = some r) : Contract Tryd.prog gl 54 ds r := contract_of mix Tryd.func54 rfl (by kernel_rfl) (by kernel_rfl) (by decide) (call := c_ref04_Hash) ⟨callOf_ok cl_ref04_Hash trivial, callOfE_ok ce_ref04_Hash trivial⟩ h
-- sawmill/sawmillref04.Chain: loops []; state: params 0..1, then [4]
attribute [simp] Tryd.f43
noncomputable def an_ref04_Chain : Ann := ⟨[4], [], [], [], [], some [4], [], [], [(56, 0, 3, 1), (56, 1, 3, 1), (56, 2, 41, 3)], []⟩
@[simp] theorem an_ref04_Chain_draws : an_ref04_Chain.draws = [] := rfl
@[simp] theorem an_ref04_Chain_exits : an_ref04_Chain.exits = [] := rfl
@[simp] theorem an_ref04_Chain_rets : an_ref04_Chain.rets = some [4] := rfl
@[simp] theorem an_ref04_Chain_keep : an_ref04_Chain.keep = [4] := rfl
@[simp] theorem an_ref04_Chain_cond : an_ref04_Chain.cond = [] := rfl
@[simp] theorem an_ref04_Chain_rows : an_ref04_Chain.rows = [] := rfl
@[simp] theorem an_ref04_Chain_loops : an_ref04_Chain.loops = [] := rfl
@[simp] theorem an_ref04_Chain_ecalls : an_ref04_Chain.ecalls = [] := rfl
@[simp] theorem an_ref04_Chain_crows : an_ref04_Chain.crows = [(56, 0, 3, 1), (56, 1, 3, 1), (56, 2, 41, 3)] := rfl
@[simp] theorem an_ref04_Chain_tails : an_ref04_Chain.tails = [] := rfl
@[simp] noncomputable def cl_ref04_Chain : List (Nat × (List D → Option D)) := [(54, F_ref04_Hash), (55, F_ref04_Bytes)]
@[simp] noncomputable def ce_ref04_Chain : List (Nat × (List (Nat × O) → List D → Option (D × List (Nat × O)))) := []
noncomputable def c_ref04_Chain : CT := ⟨callOf (cl_ref04_Chain ), callOfE ce_ref04_Chain, gl⟩
@[simp] theorem c_ref04_Chain_p (f : FuncId) (ds : List D) : c_ref04_Chain.p f ds = callOf (cl_ref04_Chain ) f ds := Eq.trans rfl rfl
@[simp] theorem c_ref04_Chain_e (f : FuncId) (hs : List (Nat × O)) (ds : List D) : c_ref04_Chain.e f hs ds = callOfE ce_ref04_Chain f hs ds := Eq.trans rfl rfl
@[simp] theorem c_ref04_Chain_g (g : Nat) : c_ref04_Chain.g g = gl g := Eq.trans rfl rfl
noncomputable def L_ref04_Chain (i n : Nat) (s : St) : Option (E × St) := atN Tryd.prog c_ref04_Chain an_ref04_Chain 10 (bodyOf Tryd.f43) i n s
noncomputable def H_ref04_Chain (n i : Nat) (s : St) : Option (E × St) := atH Tryd.prog c_ref04_Chain an_ref04_Chain 10 (bodyOf Tryd.f43) n i s
@[simp] theorem H_ref04_Chain_eq (n i : Nat) (s : St) : H_ref04_Chain n i s = L_ref04_Chain i n (headOf (an_ref04_Chain.loops.lookup i) s) := rfl
noncomputable def R_ref04_Chain (i : Nat) (s : St) : Option (E × St) := stepL Tryd.prog c_ref04_Chain an_ref04_Chain 10 (bodyOf Tryd.f43) i s
theorem lok_ref04_Chain : okLoops (bodyOf Tryd.f43) = true := by kernel_rfl
noncomputable def F_ref04_Chain (ds : List D) : Option D := runF Tryd.prog c_ref04_Chain an_ref04_Chain 10 (bodyOf Tryd.f43) [.tmp 4] ds
theorem F_ref04_Chain_eq (ds : List D) : F_ref04_Chain ds = runG Tryd.prog c_ref04_Chain (H_ref04_Chain bigL) an_ref04_Chain 10 (bodyOf Tryd.f43) [.tmp 4] ds := runG_eq lok_ref04_Chain _ ds
theorem C_ref04_Chain (ds : List D) (r : D) (h : F_ref04_Chain ds = some r) : Contract Tryd.prog gl 43 ds r := contract_of mix Tryd.func43 rfl (by kernel_rfl) (by kernel_rfl) (by decide) (call := c_ref04_Chain) ⟨callOf_ok cl_ref04_Chain ⟨C_ref04_Hash, C_ref04_Bytes, trivial⟩, callOfE_ok ce_ref04_Chain trivial⟩ h
-- (sawmill/sawmillref51.L).Digest: loops [3]; state: params 0..0, then [1, 2, 3, 4]
attribute [simp] Tryd.f28
noncomputable def an_ref51_L_Digest : Ann := ⟨[1, 2, 3, 4], [9], [], [(3, [1, 3, 4])], [(0, [3]), (1, [1, 3, 4])], some [2], [], [], [(56, 0, 3, 1), (56, 1, 3, 1), (56, 2, 41, 3)], []⟩
@[simp] theorem an_ref51_L_Digest_draws : an_ref51_L_Digest.draws = [] := rfl
@[simp] theorem an_ref51_L_Digest_exits : an_ref51_L_Digest.exits = [(0, [3]), (1, [1, 3, 4])] := rfl
@[simp] theorem an_ref51_L_Digest_rets : an_ref51_L_Digest.rets = some [2] := rfl
@[simp] theorem an_ref51_L_Digest_keep : an_ref51_L_Digest.keep = [1, 2, 3, 4] := rfl
@[simp] theorem an_ref51_L_Digest_cond : an_ref51_L_Digest.cond = [9] := rfl
@[simp] theorem an_ref51_L_Digest_rows : an_ref51_L_Digest.rows = [] := rfl
@[simp] theorem an_ref51_L_Digest_loops : an_ref51_L_Digest.loops = [(3, [1, 3, 4])] := rfl
@[simp] theorem an_ref51_L_Digest_ecalls : an_ref51_L_Digest.ecalls = [] := rfl
@[simp] theorem an_ref51_L_Digest_crows : an_ref51_L_Digest.crows = [(56, 0, 3, 1), (56, 1, 3, 1), (56, 2, 41, 3)] := rfl
@[simp] theorem an_ref51_L_Digest_tails : an_ref51_L_Digest.tails = [] := rfl
@[simp] noncomputable def cl_ref51_L_Digest : List (Nat × (List D → Option D)) := [(43, F_ref04_Chain), (44, F_ref51_Text)]
@[simp] noncomputable def ce_ref51_L_Digest : List (Nat × (List (Nat × O) → List D → Option (D × List (Nat × O)))) := []
noncomputable def c_ref51_L_Digest : CT := ⟨callOf (cl_ref51_L_Digest ), callOfE ce_ref51_L_Digest, gl⟩
@[simp] theorem c_ref51_L_Digest_p (f : FuncId) (ds : List D) : c_ref51_L_Digest.p f ds = callOf (cl_ref51_L_Digest ) f ds := Eq.trans rfl rfl
@[simp] theorem c_ref51_L_Digest_e (f : FuncId) (hs : List (Nat × O)) (ds : List D) : c_ref51_L_Digest.e f hs ds = callOfE ce_ref51_L_Digest f hs ds := Eq.trans rfl rfl
@[simp] theorem c_ref51_L_Digest_g (g : Nat) : c_ref51_L_Digest.g g = gl g := Eq.trans rfl rfl
noncomputable def L_ref51_L_Digest (i n : Nat) (s : St) : Option (E × St) := atN Tryd.prog c_ref51_L_Digest an_ref51_L_Digest 21 (bodyOf Tryd.f28) i n s
noncomputable def H_ref51_L_Digest (n i : Nat) (s : St) : Option (E × St) := atH Tryd.prog c_ref51_L_Digest an_ref51_L_Digest 21 (bodyOf Tryd.f28) n i s
@[simp] theorem H_ref51_L_Digest_eq (n i : Nat) (s : St) : H_ref51_L_Digest n i s = L_ref51_L_Digest i n (headOf (an_ref51_L_Digest.loops.lookup i) s) := rfl
noncomputable def R_ref51_L_Digest (i : Nat) (s : St) : Option (E × St) := stepL Tryd.prog c_ref51_L_Digest an_ref51_L_Digest 21 (bodyOf Tryd.f28) i s
theorem lok_ref51_L_Digest : okLoops (bodyOf Tryd.f28) = true := by kernel_rfl
theorem L_ref51_L_Digest_succ (i n : Nat) (s : St) : L_ref51_L_Digest i (n + 1) s = andThen (R_ref51_L_Digest i s) (H_ref51_L_Digest n i) := atN_succ lok_ref51_L_Digest (by kernel_rfl) i n s
theorem R_ref51_L_Digest_eq (i : Nat) (s : St) : R_ref51_L_Digest i s = runS Tryd.prog c_ref51_L_Digest (H_ref51_L_Digest bigL) an_ref51_L_Digest 21 (loopAt (bodyOf Tryd.f28) i) s := rfl
noncomputable def F_ref51_L_Digest (ds : List D) : Option D := runF Tryd.prog c_ref51_L_Digest an_ref51_L_Digest 21 (bodyOf Tryd.f28) [.tmp 2] ds
theorem F_ref51_L_Digest_eq (ds : List D) : F_ref51_L_Digest ds = runG Tryd.prog c_ref51_L_Digest (H_ref51_L_Digest bigL) an_ref51_L_Digest 21 (bodyOf Tryd.f28) [.tmp 2] ds := runG_eq lok_ref51_L_Digest _ ds
theorem C_ref51_L_Digest (ds : List D) (r : D) (h : F_ref51_L_Digest ds = some r) : Contract Tryd.prog gl 28 ds r := contract_of mix Tryd.func28 rfl (by kernel_rfl) (by kernel_rfl) (by decide) (call := c_ref51_L_Digest) ⟨callOf_ok cl_ref51_L_Digest ⟨C_ref04_Chain, C_ref51_Text, trivial⟩, callOfE_ok ce_ref51_L_Digest trivial⟩ h
-- sawmill/sawmilllaw51.is: loops [2]; state: params 0..2, then [4, 6, 7]
attribute [simp] Tryd.f13
noncomputable def an_law51_is : Ann := ⟨[0, 2, 4, 6, 7], [11, 26], [], [(2, [0, 2, 4, 7])], [(0, [0, 4]), (1, [0, 2, 4, 7])], some [6], [(4, 11), (6, 16)], [], [(56, 0, 3, 1), (56, 1, 3, 1), (56, 2, 41, 3)], []⟩
@[simp] theorem an_law51_is_draws : an_law51_is.draws = [(4, 11), (6, 16)] := rfl
@[simp] theorem an_law51_is_exits : an_law51_is.exits = [(0, [0, 4]), (1, [0, 2, 4, 7])] := rfl
@[simp] theorem an_law51_is_rets : an_law51_is.rets = some [6] := rfl
@[simp] theorem an_law51_is_keep : an_law51_is.keep = [0, 2, 4, 6, 7] := rfl
@[simp] theorem an_law51_is_cond : an_law51_is.cond = [11, 26] := rfl
@[simp] theorem an_law51_is_rows : an_law51_is.rows = [] := rfl
@[simp] theorem an_law51_is_loops : an_law51_is.loops = [(2, [0, 2, 4, 7])] := rfl
@[simp] theorem an_law51_is_ecalls : an_law51_is.ecalls = [] := rfl
@[simp] theorem an_law51_is_crows : an_law51_is.crows = [(56, 0, 3, 1), (56, 1, 3, 1), (56, 2, 41, 3)] := rfl
@[simp] theorem an_law51_is_tails : an_law51_is.tails = [] := rfl
@[simp] noncomputable def cl_law51_is : List (Nat × (List D → Option D)) := [(14, F_ledger_Ledger_Balance), (18, F_ledger_Ledger_Entries), (19, F_ledger_Ledger_Trial), (20, F_ledger_Ledger_Digest), (21, F_ref51_Same), (22, F_ref51_SamePostings), (25, F_ref51_L_Balance), (26, F_ref51_L_Entries), (27, F_ref51_L_Trial), (28, F_ref51_L_Digest)]
@[simp] noncomputable def ce_law51_is : List (Nat × (List (Nat × O) → List D → Option (D × List (Nat × O)))) := []
noncomputable def c_law51_is : CT := ⟨callOf (cl_law51_is ), callOfE ce_law51_is, gl⟩
@[simp] theorem c_law51_is_p (f : FuncId) (ds : List D) : c_law51_is.p f ds = callOf (cl_law51_is ) f ds := Eq.trans rfl rfl
@[simp] theorem c_law51_is_e (f : FuncId) (hs : List (Nat × O)) (ds : List D) : c_law51_is.e f hs ds = callOfE ce_law51_is f hs ds := Eq.trans rfl rfl
@[simp] theorem c_law51_is_g (g : Nat) : c_law51_is.g g = gl g := Eq.trans rfl rfl
noncomputable def L_law51_is (i n : Nat) (s : St) : Option (E × St) := atN Tryd.prog c_law51_is an_law51_is 46 (bodyOf Tryd.f13) i n s
noncomputable def H_law51_is (n i : Nat) (s : St) : Option (E × St) := atH Tryd.prog c_law51_is an_law51_is 46 (bodyOf Tryd.f13) n i s
@[simp] theorem H_law51_is_eq (n i : Nat) (s : St) : H_law51_is n i s = L_law51_is i n (headOf (an_law51_is.loops.lookup i) s) := rfl
noncomputable def R_law51_is (i : Nat) (s : St) : Option (E × St) := stepL Tryd.prog c_law51_is an_law51_is 46 (bodyOf Tryd.f13) i s
theorem lok_law51_is : okLoops (bodyOf Tryd.f13) = true := by kernel_rfl
theorem L_law51_is_succ (i n : Nat) (s : St) : L_law51_is i (n + 1) s = andThen (R_law51_is i s) (H_law51_is n i) := atN_succ lok_law51_is (by kernel_rfl) i n s
theorem R_law51_is_eq (i : Nat) (s : St) : R_law51_is i s = runS Tryd.prog c_law51_is (H_law51_is bigL) an_law51_is 46 (loopAt (bodyOf Tryd.f13) i) s := rfl
noncomputable def F_law51_is (ds : List D) : Option D := runF Tryd.prog c_law51_is an_law51_is 46 (bodyOf Tryd.f13) [.tmp 6] ds
theorem F_law51_is_eq (ds : List D) : F_law51_is ds = runG Tryd.prog c_law51_is (H_law51_is bigL) an_law51_is 46 (bodyOf Tryd.f13) [.tmp 6] ds := runG_eq lok_law51_is _ ds
theorem C_law51_is (ds : List D) (r : D) (h : F_law51_is ds = some r) : Contract Tryd.prog gl 13 ds r := contract_of mix Tryd.func13 rfl (by kernel_rfl) (by kernel_rfl) (by decide) (call := c_law51_is) ⟨callOf_ok cl_law51_is ⟨C_ledger_Ledger_Balance, C_ledger_Ledger_Entries, C_ledger_Ledger_Trial, C_ledger_Ledger_Digest, C_ref51_Same, C_ref51_SamePostings, C_ref51_L_Balance, C_ref51_L_Entries, C_ref51_L_Trial, C_ref51_L_Digest, trivial⟩, callOfE_ok ce_law51_is trivial⟩ h
-- sawmill/sawmilllaw51.LedgerMakes: loops []; state: params 0..1, then [4, 5, 6, 7, 8]
attribute [simp] Tryd.f3
noncomputable def an_law51_LedgerMakes : Ann := ⟨[0, 1, 4, 5, 6, 7, 8], [16, 37], [], [], [], some [4], [], [(11, false)], [(56, 0, 3, 1), (56, 1, 3, 1), (56, 2, 41, 3)], []⟩
@[simp] theorem an_law51_LedgerMakes_draws : an_law51_LedgerMakes.draws = [] := rfl
@[simp] theorem an_law51_LedgerMakes_exits : an_law51_LedgerMakes.exits = [] := rfl
@[simp] theorem an_law51_LedgerMakes_rets : an_law51_LedgerMakes.rets = some [4] := rfl
@[simp] theorem an_law51_LedgerMakes_keep : an_law51_LedgerMakes.keep = [0, 1, 4, 5, 6, 7, 8] := rfl
@[simp] theorem an_law51_LedgerMakes_cond : an_law51_LedgerMakes.cond = [16, 37] := rfl
@[simp] theorem an_law51_LedgerMakes_rows : an_law51_LedgerMakes.rows = [] := rfl
@[simp] theorem an_law51_LedgerMakes_loops : an_law51_LedgerMakes.loops = [] := rfl
@[simp] theorem an_law51_LedgerMakes_ecalls : an_law51_LedgerMakes.ecalls = [(11, false)] := rfl
@[simp] theorem an_law51_LedgerMakes_crows : an_law51_LedgerMakes.crows = [(56, 0, 3, 1), (56, 1, 3, 1), (56, 2, 41, 3)] := rfl
@[simp] theorem an_law51_LedgerMakes_tails : an_law51_LedgerMakes.tails = [] := rfl
@[simp] noncomputable def cl_law51_LedgerMakes : List (Nat × (List D → Option D)) := [(9, F_law51_few), (10, F_law51_awake), (12, F_ref51_New), (13, F_law51_is), (14, F_ledger_Ledger_Balance)]
@[simp] noncomputable def ce_law51_LedgerMakes : List (Nat × (List (Nat × O) → List D → Option (D × List (Nat × O)))) := [(11, E_ledger_New)]
noncomputable def c_law51_LedgerMakes : CT := ⟨callOf (cl_law51_LedgerMakes ), callOfE ce_law51_LedgerMakes, gl⟩
@[simp] theorem c_law51_LedgerMakes_p (f : FuncId) (ds : List D) : c_law51_LedgerMakes.p f ds = callOf (cl_law51_LedgerMakes ) f ds := Eq.trans rfl rfl
@[simp] theorem c_law51_LedgerMakes_e (f : FuncId) (hs : List (Nat × O)) (ds : List D) : c_law51_LedgerMakes.e f hs ds = callOfE ce_law51_LedgerMakes f hs ds := Eq.trans rfl rfl
@[simp] theorem c_law51_LedgerMakes_g (g : Nat) : c_law51_LedgerMakes.g g = gl g := Eq.trans rfl rfl
noncomputable def L_law51_LedgerMakes (i n : Nat) (s : St) : Option (E × St) := atN Tryd.prog c_law51_LedgerMakes an_law51_LedgerMakes 55 (bodyOf Tryd.f3) i n s
noncomputable def H_law51_LedgerMakes (n i : Nat) (s : St) : Option (E × St) := atH Tryd.prog c_law51_LedgerMakes an_law51_LedgerMakes 55 (bodyOf Tryd.f3) n i s
@[simp] theorem H_law51_LedgerMakes_eq (n i : Nat) (s : St) : H_law51_LedgerMakes n i s = L_law51_LedgerMakes i n (headOf (an_law51_LedgerMakes.loops.lookup i) s) := rfl
noncomputable def R_law51_LedgerMakes (i : Nat) (s : St) : Option (E × St) := stepL Tryd.prog c_law51_LedgerMakes an_law51_LedgerMakes 55 (bodyOf Tryd.f3) i s
theorem lok_law51_LedgerMakes : okLoops (bodyOf Tryd.f3) = true := by kernel_rfl
noncomputable def F_law51_LedgerMakes (ds : List D) : Option D := runF Tryd.prog c_law51_LedgerMakes an_law51_LedgerMakes 55 (bodyOf Tryd.f3) [.tmp 4] ds
theorem F_law51_LedgerMakes_eq (ds : List D) : F_law51_LedgerMakes ds = runG Tryd.prog c_law51_LedgerMakes (H_law51_LedgerMakes bigL) an_law51_LedgerMakes 55 (bodyOf Tryd.f3) [.tmp 4] ds := runG_eq lok_law51_LedgerMakes _ ds
theorem C_law51_LedgerMakes (ds : List D) (r : D) (h : F_law51_LedgerMakes ds = some r) : Contract Tryd.prog gl 3 ds r := contract_of mix Tryd.func3 rfl (by kernel_rfl) (by kernel_rfl) (by decide) (call := c_law51_LedgerMakes) ⟨callOf_ok cl_law51_LedgerMakes ⟨C_law51_few, C_law51_awake, C_ref51_New, C_law51_is, C_ledger_Ledger_Balance, trivial⟩, callOfE_ok ce_law51_LedgerMakes ⟨CE_ledger_New, trivial⟩⟩ h
-- sawmill/sawmilllaw51.short: loops [2, 7]; state: params 0..0, then [2, 3, 4]
attribute [simp] Tryd.f15
noncomputable def an_law51_short : Ann := ⟨[0, 2, 3, 4], [8, 26, 34, 47], [], [(2, [0, 3]), (7, [0, 3, 4])], [(0, [0]), (1, [0, 3]), (2, [0, 3]), (3, [0, 3, 4])], some [2], [], [], [(56, 0, 3, 1), (56, 1, 3, 1), (56, 2, 41, 3)], []⟩
@[simp] theorem an_law51_short_draws : an_law51_short.draws = [] := rfl
@[simp] theorem an_law51_short_exits : an_law51_short.exits = [(0, [0]), (1, [0, 3]), (2, [0, 3]), (3, [0, 3, 4])] := rfl
@[simp] theorem an_law51_short_rets : an_law51_short.rets = some [2] := rfl
@[simp] theorem an_law51_short_keep : an_law51_short.keep = [0, 2, 3, 4] := rfl
@[simp] theorem an_law51_short_cond : an_law51_short.cond = [8, 26, 34, 47] := rfl
@[simp] theorem an_law51_short_rows : an_law51_short.rows = [] := rfl
@[simp] theorem an_law51_short_loops : an_law51_short.loops = [(2, [0, 3]), (7, [0, 3, 4])] := rfl
@[simp] theorem an_law51_short_ecalls : an_law51_short.ecalls = [] := rfl
@[simp] theorem an_law51_short_crows : an_law51_short.crows = [(56, 0, 3, 1), (56, 1, 3, 1), (56, 2, 41, 3)] := rfl
@[simp] theorem an_law51_short_tails : an_law51_short.tails = [] := rfl
@[simp] noncomputable def cl_law51_short : List (Nat × (List D → Option D)) := []
@[simp] noncomputable def ce_law51_short : List (Nat × (List (Nat × O) → List D → Option (D × List (Nat × O)))) := []
noncomputable def c_law51_short : CT := ⟨callOf (cl_law51_short ), callOfE ce_law51_short, gl⟩
@[simp] theorem c_law51_short_p (f : FuncId) (ds : List D) : c_law51_short.p f ds = callOf (cl_law51_short ) f ds := Eq.trans rfl rfl
@[simp] theorem c_law51_short_e (f : FuncId) (hs : List (Nat × O)) (ds : List D) : c_law51_short.e f hs ds = callOfE ce_law51_short f hs ds := Eq.trans rfl rfl
@[simp] theorem c_law51_short_g (g : Nat) : c_law51_short.g g = gl g := Eq.trans rfl rfl
noncomputable def L_law51_short (i n : Nat) (s : St) : Option (E × St) := atN Tryd.prog c_law51_short an_law51_short 51 (bodyOf Tryd.f15) i n s
noncomputable def H_law51_short (n i : Nat) (s : St) : Option (E × St) := atH Tryd.prog c_law51_short an_law51_short 51 (bodyOf Tryd.f15) n i s
@[simp] theorem H_law51_short_eq (n i : Nat) (s : St) : H_law51_short n i s = L_law51_short i n (headOf (an_law51_short.loops.lookup i) s) := rfl
noncomputable def R_law51_short (i : Nat) (s : St) : Option (E × St) := stepL Tryd.prog c_law51_short an_law51_short 51 (bodyOf Tryd.f15) i s
theorem lok_law51_short : okLoops (bodyOf Tryd.f15) = true := by kernel_rfl
theorem L_law51_short_succ (i n : Nat) (s : St) : L_law51_short i (n + 1) s = andThen (R_law51_short i s) (H_law51_short n i) := atN_succ lok_law51_short (by kernel_rfl) i n s
theorem R_law51_short_eq (i : Nat) (s : St) : R_law51_short i s = runS Tryd.prog c_law51_short (H_law51_short bigL) an_law51_short 51 (loopAt (bodyOf Tryd.f15) i) s := rfl
noncomputable def F_law51_short (ds : List D) : Option D := runF Tryd.prog c_law51_short an_law51_short 51 (bodyOf Tryd.f15) [.tmp 2] ds
theorem F_law51_short_eq (ds : List D) : F_law51_short ds = runG Tryd.prog c_law51_short (H_law51_short bigL) an_law51_short 51 (bodyOf Tryd.f15) [.tmp 2] ds := runG_eq lok_law51_short _ ds
theorem C_law51_short (ds : List D) (r : D) (h : F_law51_short ds = some r) : Contract Tryd.prog gl 15 ds r := contract_of mix Tryd.func15 rfl (by kernel_rfl) (by kernel_rfl) (by decide) (call := c_law51_short) ⟨callOf_ok cl_law51_short trivial, callOfE_ok ce_law51_short trivial⟩ h
-- (sawmill/sawmillref51.L).has: loops [2]; state: params 0..1, then [2, 4, 5]
attribute [simp] Tryd.f29
noncomputable def an_ref51_L_has : Ann := ⟨[2, 4, 5], [10, 19], [], [(2, [1, 2, 5])], [(0, []), (1, [1, 2, 5])], some [4], [], [], [(56, 0, 3, 1), (56, 1, 3, 1), (56, 2, 41, 3)], []⟩
@[simp] theorem an_ref51_L_has_draws : an_ref51_L_has.draws = [] := rfl
@[simp] theorem an_ref51_L_has_exits : an_ref51_L_has.exits = [(0, []), (1, [1, 2, 5])] := rfl
@[simp] theorem an_ref51_L_has_rets : an_ref51_L_has.rets = some [4] := rfl
@[simp] theorem an_ref51_L_has_keep : an_ref51_L_has.keep = [2, 4, 5] := rfl
@[simp] theorem an_ref51_L_has_cond : an_ref51_L_has.cond = [10, 19] := rfl
@[simp] theorem an_ref51_L_has_rows : an_ref51_L_has.rows = [] := rfl
@[simp] theorem an_ref51_L_has_loops : an_ref51_L_has.loops = [(2, [1, 2, 5])] := rfl
@[simp] theorem an_ref51_L_has_ecalls : an_ref51_L_has.ecalls = [] := rfl
@[simp] theorem an_ref51_L_has_crows : an_ref51_L_has.crows = [(56, 0, 3, 1), (56, 1, 3, 1), (56, 2, 41, 3)] := rfl
@[simp] theorem an_ref51_L_has_tails : an_ref51_L_has.tails = [] := rfl
@[simp] noncomputable def cl_ref51_L_has : List (Nat × (List D → Option D)) := []
@[simp] noncomputable def ce_ref51_L_has : List (Nat × (List (Nat × O) → List D → Option (D × List (Nat × O)))) := []
noncomputable def c_ref51_L_has : CT := ⟨callOf (cl_ref51_L_has ), callOfE ce_ref51_L_has, gl⟩
@[simp] theorem c_ref51_L_has_p (f : FuncId) (ds : List D) : c_ref51_L_has.p f ds = callOf (cl_ref51_L_has ) f ds := Eq.trans rfl rfl
@[simp] theorem c_ref51_L_has_e (f : FuncId) (hs : List (Nat × O)) (ds : List D) : c_ref51_L_has.e f hs ds = callOfE ce_ref51_L_has f hs ds := Eq.trans rfl rfl
@[simp] theorem c_ref51_L_has_g (g : Nat) : c_ref51_L_has.g g = gl g := Eq.trans rfl rfl
noncomputable def L_ref51_L_has (i n : Nat) (s : St) : Option (E × St) := atN Tryd.prog c_ref51_L_has an_ref51_L_has 20 (bodyOf Tryd.f29) i n s
noncomputable def H_ref51_L_has (n i : Nat) (s : St) : Option (E × St) := atH Tryd.prog c_ref51_L_has an_ref51_L_has 20 (bodyOf Tryd.f29) n i s
@[simp] theorem H_ref51_L_has_eq (n i : Nat) (s : St) : H_ref51_L_has n i s = L_ref51_L_has i n (headOf (an_ref51_L_has.loops.lookup i) s) := rfl
noncomputable def R_ref51_L_has (i : Nat) (s : St) : Option (E × St) := stepL Tryd.prog c_ref51_L_has an_ref51_L_has 20 (bodyOf Tryd.f29) i s
theorem lok_ref51_L_has : okLoops (bodyOf Tryd.f29) = true := by kernel_rfl
theorem L_ref51_L_has_succ (i n : Nat) (s : St) : L_ref51_L_has i (n + 1) s = andThen (R_ref51_L_has i s) (H_ref51_L_has n i) := atN_succ lok_ref51_L_has (by kernel_rfl) i n s
theorem R_ref51_L_has_eq (i : Nat) (s : St) : R_ref51_L_has i s = runS Tryd.prog c_ref51_L_has (H_ref51_L_has bigL) an_ref51_L_has 20 (loopAt (bodyOf Tryd.f29) i) s := rfl
noncomputable def F_ref51_L_has (ds : List D) : Option D := runF Tryd.prog c_ref51_L_has an_ref51_L_has 20 (bodyOf Tryd.f29) [.tmp 4] ds
theorem F_ref51_L_has_eq (ds : List D) : F_ref51_L_has ds = runG Tryd.prog c_ref51_L_has (H_ref51_L_has bigL) an_ref51_L_has 20 (bodyOf Tryd.f29) [.tmp 4] ds := runG_eq lok_ref51_L_has _ ds
theorem C_ref51_L_has (ds : List D) (r : D) (h : F_ref51_L_has ds = some r) : Contract Tryd.prog gl 29 ds r := contract_of mix Tryd.func29 rfl (by kernel_rfl) (by kernel_rfl) (by decide) (call := c_ref51_L_has) ⟨callOf_ok cl_ref51_L_has trivial, callOfE_ok ce_ref51_L_has trivial⟩ h
-- sawmill/sawmillref51.great: loops []; state: params 0..0, then [2]
attribute [simp] Tryd.f30
noncomputable def an_ref51_great : Ann := ⟨[2], [], [], [], [], some [2], [], [], [(56, 0, 3, 1), (56, 1, 3, 1), (56, 2, 41, 3)], []⟩
@[simp] theorem an_ref51_great_draws : an_ref51_great.draws = [] := rfl
@[simp] theorem an_ref51_great_exits : an_ref51_great.exits = [] := rfl
@[simp] theorem an_ref51_great_rets : an_ref51_great.rets = some [2] := rfl
@[simp] theorem an_ref51_great_keep : an_ref51_great.keep = [2] := rfl
@[simp] theorem an_ref51_great_cond : an_ref51_great.cond = [] := rfl
@[simp] theorem an_ref51_great_rows : an_ref51_great.rows = [] := rfl
@[simp] theorem an_ref51_great_loops : an_ref51_great.loops = [] := rfl
@[simp] theorem an_ref51_great_ecalls : an_ref51_great.ecalls = [] := rfl
@[simp] theorem an_ref51_great_crows : an_ref51_great.crows = [(56, 0, 3, 1), (56, 1, 3, 1), (56, 2, 41, 3)] := rfl
@[simp] theorem an_ref51_great_tails : an_ref51_great.tails = [] := rfl
@[simp] noncomputable def cl_ref51_great : List (Nat × (List D → Option D)) := []
@[simp] noncomputable def ce_ref51_great : List (Nat × (List (Nat × O) → List D → Option (D × List (Nat × O)))) := []
noncomputable def c_ref51_great : CT := ⟨callOf (cl_ref51_great ), callOfE ce_ref51_great, gl⟩
@[simp] theorem c_ref51_great_p (f : FuncId) (ds : List D) : c_ref51_great.p f ds = callOf (cl_ref51_great ) f ds := Eq.trans rfl rfl
@[simp] theorem c_ref51_great_e (f : FuncId) (hs : List (Nat × O)) (ds : List D) : c_ref51_great.e f hs ds = callOfE ce_ref51_great f hs ds := Eq.trans rfl rfl
@[simp] theorem c_ref51_great_g (g : Nat) : c_ref51_great.g g = gl g := Eq.trans rfl rfl
noncomputable def L_ref51_great (i n : Nat) (s : St) : Option (E × St) := atN Tryd.prog c_ref51_great an_ref51_great 9 (bodyOf Tryd.f30) i n s
noncomputable def H_ref51_great (n i : Nat) (s : St) : Option (E × St) := atH Tryd.prog c_ref51_great an_ref51_great 9 (bodyOf Tryd.f30) n i s
@[simp] theorem H_ref51_great_eq (n i : Nat) (s : St) : H_ref51_great n i s = L_ref51_great i n (headOf (an_ref51_great.loops.lookup i) s) := rfl
noncomputable def R_ref51_great (i : Nat) (s : St) : Option (E × St) := stepL Tryd.prog c_ref51_great an_ref51_great 9 (bodyOf Tryd.f30) i s
theorem lok_ref51_great : okLoops (bodyOf Tryd.f30) = true := by kernel_rfl
noncomputable def F_ref51_great (ds : List D) : Option D := runF Tryd.prog c_ref51_great an_ref51_great 9 (bodyOf Tryd.f30) [.tmp 2] ds
theorem F_ref51_great_eq (ds : List D) : F_ref51_great ds = runG Tryd.prog c_ref51_great (H_ref51_great bigL) an_ref51_great 9 (bodyOf Tryd.f30) [.tmp 2] ds := runG_eq lok_ref51_great _ ds
theorem C_ref51_great (ds : List D) (r : D) (h : F_ref51_great ds = some r) : Contract Tryd.prog gl 30 ds r := contract_of mix Tryd.func30 rfl (by kernel_rfl) (by kernel_rfl) (by decide) (call := c_ref51_great) ⟨callOf_ok cl_ref51_great trivial, callOfE_ok ce_ref51_great trivial⟩ h
-- (sawmill/sawmillref51.L).Post: loops [4, 16, 26]; state: params 0..1, then [2, 3, 4, 5, 6, 7, 8, 9, 10]
attribute [simp] Tryd.f16
noncomputable def an_ref51_L_Post : Ann := ⟨[2, 3, 4, 5, 6, 7, 8, 9, 10], [20, 26, 37, 66, 71, 76, 82, 93, 101, 112, 118, 135, 140], [142, 149, 152], [(4, [2, 3, 4, 6]), (16, [2, 3, 4, 7, 8]), (26, [2, 3, 4, 9])], [(0, [2, 3, 4]), (1, [2, 3, 4, 6]), (2, [2, 3, 4, 7]), (3, [2, 3, 4, 7, 8]), (4, [2, 3, 4]), (5, [2, 3, 4, 9])], some [4, 5], [(6, 8), (8, 25), (18, 7), (29, 6), (34, 0)], [], [(56, 0, 3, 1), (56, 1, 3, 1), (56, 2, 41, 3)], [(34, (.dag [[[(0, 0)], [(0, 2)], [(0, 3)], [(0, 6)]], [[(0, 1)], [(0, 2), (1, 0)], [(0, 3), (2, 0)], [(0, 6), (3, 0)], [(1, 3), (2, 2)], [(1, 6), (3, 2)], [(2, 4)], [(2, 6), (3, 3)], [(3, 7)]], [[(0, 2), (1, 1)], [(0, 3), (2, 1)], [(0, 6), (3, 1)], [(1, 3), (2, 2), (4, 0)], [(1, 6), (3, 2), (5, 0)], [(2, 4), (6, 0)], [(2, 6), (3, 3), (7, 0)], [(3, 7), (8, 0)], [(4, 4), (6, 2)], [(4, 6), (5, 3), (7, 2)], [(5, 7), (8, 2)], [(6, 6), (7, 4)], [(7, 7), (8, 3)]], [[(0, 3), (1, 2), (3, 1)], [(0, 6), (2, 2), (4, 1)], [(1, 4), (5, 1)], [(1, 6), (2, 3), (6, 1)], [(2, 7), (7, 1)], [(3, 4), (5, 2), (8, 0)], [(3, 6), (4, 3), (6, 2), (9, 0)], [(4, 7), (7, 2), (10, 0)], [(5, 6), (6, 4), (11, 0)], [(6, 7), (7, 3), (12, 0)], [(8, 5)], [(8, 6), (9, 4), (11, 2)], [(9, 7), (10, 3), (12, 2)], [(11, 7), (12, 4)]], [[(0, 4), (2, 2), (5, 1)], [(0, 6), (1, 3), (3, 2), (6, 1)], [(1, 7), (4, 2), (7, 1)], [(2, 6), (3, 4), (8, 1)], [(3, 7), (4, 3), (9, 1)], [(5, 5), (10, 0)], [(5, 6), (6, 4), (8, 2), (11, 0)], [(6, 7), (7, 3), (9, 2), (12, 0)], [(8, 7), (9, 4), (13, 0)], [(10, 6), (11, 5)], [(11, 7), (12, 4), (13, 2)]], [[(0, 5), (5, 1)], [(0, 6), (1, 4), (3, 2), (6, 1)], [(1, 7), (2, 3), (4, 2), (7, 1)], [(3, 7), (4, 4), (8, 1)], [(5, 6), (6, 5), (9, 0)], [(6, 7), (7, 4), (8, 2), (10, 0)], [(9, 7), (10, 5)]], [[(0, 6), (1, 5), (4, 1)], [(1, 7), (2, 4), (3, 2), (5, 1)], [(4, 7), (5, 5), (6, 0)], [(6, 8)]], [[(0, 7), (1, 5), (2, 1)], [(2, 8), (3, 0)]], [[(0, 8), (1, 1)]], [[(0, 9)]], [[(0, 10)]], [[(0, 11)]]]))]⟩
@[simp] theorem an_ref51_L_Post_draws : an_ref51_L_Post.draws = [(6, 8), (8, 25), (18, 7), (29, 6), (34, 0)] := rfl
@[simp] theorem an_ref51_L_Post_exits : an_ref51_L_Post.exits = [(0, [2, 3, 4]), (1, [2, 3, 4, 6]), (2, [2, 3, 4, 7]), (3, [2, 3, 4, 7, 8]), (4, [2, 3, 4]), (5, [2, 3, 4, 9])] := rfl
@[simp] theorem an_ref51_L_Post_rets : an_ref51_L_Post.rets = some [4, 5] := rfl
@[simp] theorem an_ref51_L_Post_keep : an_ref51_L_Post.keep = [2, 3, 4, 5, 6, 7, 8, 9, 10] := rfl
@[simp] theorem an_ref51_L_Post_cond : an_ref51_L_Post.cond = [20, 26, 37, 66, 71, 76, 82, 93, 101, 112, 118, 135, 140] := rfl
@[simp] theorem an_ref51_L_Post_rows : an_ref51_L_Post.rows = [142, 149, 152] := rfl
@[simp] theorem an_ref51_L_Post_loops : an_ref51_L_Post.loops = [(4, [2, 3, 4, 6]), (16, [2, 3, 4, 7, 8]), (26, [2, 3, 4, 9])] := rfl
@[simp] theorem an_ref51_L_Post_ecalls : an_ref51_L_Post.ecalls = [] := rfl
@[simp] theorem an_ref51_L_Post_crows : an_ref51_L_Post.crows = [(56, 0, 3, 1), (56, 1, 3, 1), (56, 2, 41, 3)] := rfl
@[simp] theorem an_ref51_L_Post_tails : an_ref51_L_Post.tails = [(34, (.dag [[[(0, 0)], [(0, 2)], [(0, 3)], [(0, 6)]], [[(0, 1)], [(0, 2), (1, 0)], [(0, 3), (2, 0)], [(0, 6), (3, 0)], [(1, 3), (2, 2)], [(1, 6), (3, 2)], [(2, 4)], [(2, 6), (3, 3)], [(3, 7)]], [[(0, 2), (1, 1)], [(0, 3), (2, 1)], [(0, 6), (3, 1)], [(1, 3), (2, 2), (4, 0)], [(1, 6), (3, 2), (5, 0)], [(2, 4), (6, 0)], [(2, 6), (3, 3), (7, 0)], [(3, 7), (8, 0)], [(4, 4), (6, 2)], [(4, 6), (5, 3), (7, 2)], [(5, 7), (8, 2)], [(6, 6), (7, 4)], [(7, 7), (8, 3)]], [[(0, 3), (1, 2), (3, 1)], [(0, 6), (2, 2), (4, 1)], [(1, 4), (5, 1)], [(1, 6), (2, 3), (6, 1)], [(2, 7), (7, 1)], [(3, 4), (5, 2), (8, 0)], [(3, 6), (4, 3), (6, 2), (9, 0)], [(4, 7), (7, 2), (10, 0)], [(5, 6), (6, 4), (11, 0)], [(6, 7), (7, 3), (12, 0)], [(8, 5)], [(8, 6), (9, 4), (11, 2)], [(9, 7), (10, 3), (12, 2)], [(11, 7), (12, 4)]], [[(0, 4), (2, 2), (5, 1)], [(0, 6), (1, 3), (3, 2), (6, 1)], [(1, 7), (4, 2), (7, 1)], [(2, 6), (3, 4), (8, 1)], [(3, 7), (4, 3), (9, 1)], [(5, 5), (10, 0)], [(5, 6), (6, 4), (8, 2), (11, 0)], [(6, 7), (7, 3), (9, 2), (12, 0)], [(8, 7), (9, 4), (13, 0)], [(10, 6), (11, 5)], [(11, 7), (12, 4), (13, 2)]], [[(0, 5), (5, 1)], [(0, 6), (1, 4), (3, 2), (6, 1)], [(1, 7), (2, 3), (4, 2), (7, 1)], [(3, 7), (4, 4), (8, 1)], [(5, 6), (6, 5), (9, 0)], [(6, 7), (7, 4), (8, 2), (10, 0)], [(9, 7), (10, 5)]], [[(0, 6), (1, 5), (4, 1)], [(1, 7), (2, 4), (3, 2), (5, 1)], [(4, 7), (5, 5), (6, 0)], [(6, 8)]], [[(0, 7), (1, 5), (2, 1)], [(2, 8), (3, 0)]], [[(0, 8), (1, 1)]], [[(0, 9)]], [[(0, 10)]], [[(0, 11)]]]))] := rfl
@[simp] noncomputable def cl_ref51_L_Post : List (Nat × (List D → Option D)) := [(25, F_ref51_L_Balance), (29, F_ref51_L_has), (30, F_ref51_great), (31, F_ref51_sum)]
@[simp] noncomputable def ce_ref51_L_Post : List (Nat × (List (Nat × O) → List D → Option (D × List (Nat × O)))) := []
noncomputable def c_ref51_L_Post : CT := ⟨callOf (cl_ref51_L_Post ), callOfE ce_ref51_L_Post, gl⟩
@[simp] theorem c_ref51_L_Post_p (f : FuncId) (ds : List D) : c_ref51_L_Post.p f ds = callOf (cl_ref51_L_Post ) f ds := Eq.trans rfl rfl
@[simp] theorem c_ref51_L_Post_e (f : FuncId) (hs : List (Nat × O)) (ds : List D) : c_ref51_L_Post.e f hs ds = callOfE ce_ref51_L_Post f hs ds := Eq.trans rfl rfl
@[simp] theorem c_ref51_L_Post_g (g : Nat) : c_ref51_L_Post.g g = gl g := Eq.trans rfl rfl
noncomputable def L_ref51_L_Post (i n : Nat) (s : St) : Option (E × St) := atN Tryd.prog c_ref51_L_Post an_ref51_L_Post 157 (bodyOf Tryd.f16) i n s
noncomputable def H_ref51_L_Post (n i : Nat) (s : St) : Option (E × St) := atH Tryd.prog c_ref51_L_Post an_ref51_L_Post 157 (bodyOf Tryd.f16) n i s
@[simp] theorem H_ref51_L_Post_eq (n i : Nat) (s : St) : H_ref51_L_Post n i s = L_ref51_L_Post i n (headOf (an_ref51_L_Post.loops.lookup i) s) := rfl
noncomputable def R_ref51_L_Post (i : Nat) (s : St) : Option (E × St) := stepL Tryd.prog c_ref51_L_Post an_ref51_L_Post 157 (bodyOf Tryd.f16) i s
theorem lok_ref51_L_Post : okLoops (bodyOf Tryd.f16) = true := by kernel_rfl
theorem L_ref51_L_Post_succ (i n : Nat) (s : St) : L_ref51_L_Post i (n + 1) s = andThen (R_ref51_L_Post i s) (H_ref51_L_Post n i) := atN_succ lok_ref51_L_Post (by kernel_rfl) i n s
theorem R_ref51_L_Post_eq (i : Nat) (s : St) : R_ref51_L_Post i s = runS Tryd.prog c_ref51_L_Post (H_ref51_L_Post bigL) an_ref51_L_Post 157 (loopAt (bodyOf Tryd.f16) i) s := rfl
noncomputable def F_ref51_L_Post (ds : List D) : Option D := runF Tryd.prog c_ref51_L_Post an_ref51_L_Post 157 (bodyOf Tryd.f16) [.cell 4 31, .tmp 5] ds
theorem F_ref51_L_Post_eq (ds : List D) : F_ref51_L_Post ds = runG Tryd.prog c_ref51_L_Post (H_ref51_L_Post bigL) an_ref51_L_Post 157 (bodyOf Tryd.f16) [.cell 4 31, .tmp 5] ds := runG_eq lok_ref51_L_Post _ ds
theorem C_ref51_L_Post (ds : List D) (r : D) (h : F_ref51_L_Post ds = some r) : Contract Tryd.prog gl 16 ds r := contract_of mix Tryd.func16 rfl (by kernel_rfl) (by kernel_rfl) (by decide) (call := c_ref51_L_Post) ⟨callOf_ok cl_ref51_L_Post ⟨C_ref51_L_Balance, C_ref51_L_has, C_ref51_great, C_ref51_sum, trivial⟩, callOfE_ok ce_ref51_L_Post trivial⟩ h
-- sawmill/sawmilllaw51.LedgerPosts: loops [10]; state: params 0..1, then [4, 5, 6, 7, 8, 9, 10, 11]
attribute [simp] Tryd.f4
noncomputable def an_law51_LedgerPosts : Ann := ⟨[0, 1, 4, 5, 6, 7, 8, 9, 10, 11], [19, 33, 39, 52, 78], [], [(10, [0, 1, 5, 7, 9])], [(0, []), (1, [0, 1, 5, 7, 9])], some [4], [(12, 11)], [(11, false), (17, false)], [(56, 0, 3, 1), (56, 1, 3, 1), (56, 2, 41, 3)], []⟩
@[simp] theorem an_law51_LedgerPosts_draws : an_law51_LedgerPosts.draws = [(12, 11)] := rfl
@[simp] theorem an_law51_LedgerPosts_exits : an_law51_LedgerPosts.exits = [(0, []), (1, [0, 1, 5, 7, 9])] := rfl
@[simp] theorem an_law51_LedgerPosts_rets : an_law51_LedgerPosts.rets = some [4] := rfl
@[simp] theorem an_law51_LedgerPosts_keep : an_law51_LedgerPosts.keep = [0, 1, 4, 5, 6, 7, 8, 9, 10, 11] := rfl
@[simp] theorem an_law51_LedgerPosts_cond : an_law51_LedgerPosts.cond = [19, 33, 39, 52, 78] := rfl
@[simp] theorem an_law51_LedgerPosts_rows : an_law51_LedgerPosts.rows = [] := rfl
@[simp] theorem an_law51_LedgerPosts_loops : an_law51_LedgerPosts.loops = [(10, [0, 1, 5, 7, 9])] := rfl
@[simp] theorem an_law51_LedgerPosts_ecalls : an_law51_LedgerPosts.ecalls = [(11, false), (17, false)] := rfl
@[simp] theorem an_law51_LedgerPosts_crows : an_law51_LedgerPosts.crows = [(56, 0, 3, 1), (56, 1, 3, 1), (56, 2, 41, 3)] := rfl
@[simp] theorem an_law51_LedgerPosts_tails : an_law51_LedgerPosts.tails = [] := rfl
@[simp] noncomputable def cl_law51_LedgerPosts : List (Nat × (List D → Option D)) := [(9, F_law51_few), (10, F_law51_awake), (12, F_ref51_New), (13, F_law51_is), (15, F_law51_short), (16, F_ref51_L_Post)]
@[simp] noncomputable def ce_law51_LedgerPosts : List (Nat × (List (Nat × O) → List D → Option (D × List (Nat × O)))) := [(11, E_ledger_New), (17, E_ledger_Ledger_Post)]
noncomputable def c_law51_LedgerPosts : CT := ⟨callOf (cl_law51_LedgerPosts ), callOfE ce_law51_LedgerPosts, gl⟩
@[simp] theorem c_law51_LedgerPosts_p (f : FuncId) (ds : List D) : c_law51_LedgerPosts.p f ds = callOf (cl_law51_LedgerPosts ) f ds := Eq.trans rfl rfl
@[simp] theorem c_law51_LedgerPosts_e (f : FuncId) (hs : List (Nat × O)) (ds : List D) : c_law51_LedgerPosts.e f hs ds = callOfE ce_law51_LedgerPosts f hs ds := Eq.trans rfl rfl
@[simp] theorem c_law51_LedgerPosts_g (g : Nat) : c_law51_LedgerPosts.g g = gl g := Eq.trans rfl rfl
noncomputable def L_law51_LedgerPosts (i n : Nat) (s : St) : Option (E × St) := atN Tryd.prog c_law51_LedgerPosts an_law51_LedgerPosts 81 (bodyOf Tryd.f4) i n s
noncomputable def H_law51_LedgerPosts (n i : Nat) (s : St) : Option (E × St) := atH Tryd.prog c_law51_LedgerPosts an_law51_LedgerPosts 81 (bodyOf Tryd.f4) n i s
@[simp] theorem H_law51_LedgerPosts_eq (n i : Nat) (s : St) : H_law51_LedgerPosts n i s = L_law51_LedgerPosts i n (headOf (an_law51_LedgerPosts.loops.lookup i) s) := rfl
noncomputable def R_law51_LedgerPosts (i : Nat) (s : St) : Option (E × St) := stepL Tryd.prog c_law51_LedgerPosts an_law51_LedgerPosts 81 (bodyOf Tryd.f4) i s
theorem lok_law51_LedgerPosts : okLoops (bodyOf Tryd.f4) = true := by kernel_rfl
theorem L_law51_LedgerPosts_succ (i n : Nat) (s : St) : L_law51_LedgerPosts i (n + 1) s = andThen (R_law51_LedgerPosts i s) (H_law51_LedgerPosts n i) := atN_succ lok_law51_LedgerPosts (by kernel_rfl) i n s
theorem R_law51_LedgerPosts_eq (i : Nat) (s : St) : R_law51_LedgerPosts i s = runS Tryd.prog c_law51_LedgerPosts (H_law51_LedgerPosts bigL) an_law51_LedgerPosts 81 (loopAt (bodyOf Tryd.f4) i) s := rfl
noncomputable def F_law51_LedgerPosts (ds : List D) : Option D := runF Tryd.prog c_law51_LedgerPosts an_law51_LedgerPosts 81 (bodyOf Tryd.f4) [.tmp 4] ds
theorem F_law51_LedgerPosts_eq (ds : List D) : F_law51_LedgerPosts ds = runG Tryd.prog c_law51_LedgerPosts (H_law51_LedgerPosts bigL) an_law51_LedgerPosts 81 (bodyOf Tryd.f4) [.tmp 4] ds := runG_eq lok_law51_LedgerPosts _ ds
theorem C_law51_LedgerPosts (ds : List D) (r : D) (h : F_law51_LedgerPosts ds = some r) : Contract Tryd.prog gl 4 ds r := contract_of mix Tryd.func4 rfl (by kernel_rfl) (by kernel_rfl) (by decide) (call := c_law51_LedgerPosts) ⟨callOf_ok cl_law51_LedgerPosts ⟨C_law51_few, C_law51_awake, C_ref51_New, C_law51_is, C_law51_short, C_ref51_L_Post, trivial⟩, callOfE_ok ce_law51_LedgerPosts ⟨CE_ledger_New, CE_ledger_Ledger_Post, trivial⟩⟩ h
-- sawmill/sawmilllaw51.LedgerZero: loops [7, 13, 17, 20, 30]; state: params 0..1, then [4, 5, 6, 7, 8, 9, 10, 11, 12, 13, 14, 15, 16]
attribute [simp] Tryd.f5
noncomputable def an_law51_LedgerZero : Ann := ⟨[0, 1, 4, 5, 6, 7, 8, 9, 10, 11, 12, 13, 14, 15, 16], [24, 36, 41, 57, 63, 73, 89, 116, 121, 127, 168], [], [(7, [0, 1, 5, 7]), (13, [0, 5, 8, 9, 10, 11, 12]), (17, [0, 5, 8, 9, 10, 11, 12, 13, 14]), (20, [0, 5, 8, 9, 10, 11, 12, 13, 14, 15]), (30, [5, 9, 10, 11, 16])], [(0, [0, 5]), (1, [0, 1, 5, 7]), (2, [5, 9, 10, 11]), (3, [0, 5, 8, 9, 10, 11, 12]), (4, [0, 5, 8, 9, 10, 11, 12, 13]), (5, [0, 5, 8, 9, 10, 11, 12, 13, 14]), (6, [0, 5, 8, 9, 10, 11, 12, 13, 14]), (7, [0, 5, 8, 9, 10, 11, 12, 13, 14, 15]), (8, [9, 10, 11]), (9, [5, 9, 10, 11, 16])], some [4], [(22, 13), (32, 36)], [(11, false), (17, false), (18, false)], [(56, 0, 3, 1), (56, 1, 3, 1), (56, 2, 41, 3)], []⟩
@[simp] theorem an_law51_LedgerZero_draws : an_law51_LedgerZero.draws = [(22, 13), (32, 36)] := rfl
@[simp] theorem an_law51_LedgerZero_exits : an_law51_LedgerZero.exits = [(0, [0, 5]), (1, [0, 1, 5, 7]), (2, [5, 9, 10, 11]), (3, [0, 5, 8, 9, 10, 11, 12]), (4, [0, 5, 8, 9, 10, 11, 12, 13]), (5, [0, 5, 8, 9, 10, 11, 12, 13, 14]), (6, [0, 5, 8, 9, 10, 11, 12, 13, 14]), (7, [0, 5, 8, 9, 10, 11, 12, 13, 14, 15]), (8, [9, 10, 11]), (9, [5, 9, 10, 11, 16])] := rfl
@[simp] theorem an_law51_LedgerZero_rets : an_law51_LedgerZero.rets = some [4] := rfl
@[simp] theorem an_law51_LedgerZero_keep : an_law51_LedgerZero.keep = [0, 1, 4, 5, 6, 7, 8, 9, 10, 11, 12, 13, 14, 15, 16] := rfl
@[simp] theorem an_law51_LedgerZero_cond : an_law51_LedgerZero.cond = [24, 36, 41, 57, 63, 73, 89, 116, 121, 127, 168] := rfl
@[simp] theorem an_law51_LedgerZero_rows : an_law51_LedgerZero.rows = [] := rfl
@[simp] theorem an_law51_LedgerZero_loops : an_law51_LedgerZero.loops = [(7, [0, 1, 5, 7]), (13, [0, 5, 8, 9, 10, 11, 12]), (17, [0, 5, 8, 9, 10, 11, 12, 13, 14]), (20, [0, 5, 8, 9, 10, 11, 12, 13, 14, 15]), (30, [5, 9, 10, 11, 16])] := rfl
@[simp] theorem an_law51_LedgerZero_ecalls : an_law51_LedgerZero.ecalls = [(11, false), (17, false), (18, false)] := rfl
@[simp] theorem an_law51_LedgerZero_crows : an_law51_LedgerZero.crows = [(56, 0, 3, 1), (56, 1, 3, 1), (56, 2, 41, 3)] := rfl
@[simp] theorem an_law51_LedgerZero_tails : an_law51_LedgerZero.tails = [] := rfl
@[simp] noncomputable def cl_law51_LedgerZero : List (Nat × (List D → Option D)) := [(9, F_law51_few), (10, F_law51_awake), (14, F_ledger_Ledger_Balance), (15, F_law51_short), (19, F_ledger_Ledger_Trial)]
@[simp] noncomputable def ce_law51_LedgerZero : List (Nat × (List (Nat × O) → List D → Option (D × List (Nat × O)))) := [(11, E_ledger_New), (17, E_ledger_Ledger_Post), (18, E_ledger_Ledger_Entries_obj)]
noncomputable def c_law51_LedgerZero : CT := ⟨callOf (cl_law51_LedgerZero ), callOfE ce_law51_LedgerZero, gl⟩
@[simp] theorem c_law51_LedgerZero_p (f : FuncId) (ds : List D) : c_law51_LedgerZero.p f ds = callOf (cl_law51_LedgerZero ) f ds := Eq.trans rfl rfl
@[simp] theorem c_law51_LedgerZero_e (f : FuncId) (hs : List (Nat × O)) (ds : List D) : c_law51_LedgerZero.e f hs ds = callOfE ce_law51_LedgerZero f hs ds := Eq.trans rfl rfl
@[simp] theorem c_law51_LedgerZero_g (g : Nat) : c_law51_LedgerZero.g g = gl g := Eq.trans rfl rfl
noncomputable def L_law51_LedgerZero (i n : Nat) (s : St) : Option (E × St) := atN Tryd.prog c_law51_LedgerZero an_law51_LedgerZero 180 (bodyOf Tryd.f5) i n s
noncomputable def H_law51_LedgerZero (n i : Nat) (s : St) : Option (E × St) := atH Tryd.prog c_law51_LedgerZero an_law51_LedgerZero 180 (bodyOf Tryd.f5) n i s
@[simp] theorem H_law51_LedgerZero_eq (n i : Nat) (s : St) : H_law51_LedgerZero n i s = L_law51_LedgerZero i n (headOf (an_law51_LedgerZero.loops.lookup i) s) := rfl
noncomputable def R_law51_LedgerZero (i : Nat) (s : St) : Option (E × St) := stepL Tryd.prog c_law51_LedgerZero an_law51_LedgerZero 180 (bodyOf Tryd.f5) i s
theorem lok_law51_LedgerZero : okLoops (bodyOf Tryd.f5) = true := by kernel_rfl
theorem L_law51_LedgerZero_succ (i n : Nat) (s : St) : L_law51_LedgerZero i (n + 1) s = andThen (R_law51_LedgerZero i s) (H_law51_LedgerZero n i) := atN_succ lok_law51_LedgerZero (by kernel_rfl) i n s
theorem R_law51_LedgerZero_eq (i : Nat) (s : St) : R_law51_LedgerZero i s = runS Tryd.prog c_law51_LedgerZero (H_law51_LedgerZero bigL) an_law51_LedgerZero 180 (loopAt (bodyOf Tryd.f5) i) s := rfl
noncomputable def F_law51_LedgerZero (ds : List D) : Option D := runF Tryd.prog c_law51_LedgerZero an_law51_LedgerZero 180 (bodyOf Tryd.f5) [.tmp 4] ds
theorem F_law51_LedgerZero_eq (ds : List D) : F_law51_LedgerZero ds = runG Tryd.prog c_law51_LedgerZero (H_law51_LedgerZero bigL) an_law51_LedgerZero 180 (bodyOf Tryd.f5) [.tmp 4] ds := runG_eq lok_law51_LedgerZero _ ds
theorem C_law51_LedgerZero (ds : List D) (r : D) (h : F_law51_LedgerZero ds = some r) : Contract Tryd.prog gl 5 ds r := contract_of mix Tryd.func5 rfl (by kernel_rfl) (by kernel_rfl) (by decide) (call := c_law51_LedgerZero) ⟨callOf_ok cl_law51_LedgerZero ⟨C_law51_few, C_law51_awake, C_ledger_Ledger_Balance, C_law51_short, C_ledger_Ledger_Trial, trivial⟩, callOfE_ok ce_law51_LedgerZero ⟨CE_ledger_New, CE_ledger_Ledger_Post, CE_ledger_Ledger_Entries_obj, trivial⟩⟩ h
-- sawmill/sawmilllaw51.LedgerRefuses: loops [7]; state: params 0..1, then [4, 5, 6, 7, 8, 9, 10, 11, 12]
attribute [simp] Tryd.f6
noncomputable def an_law51_LedgerRefuses : Ann := ⟨[0, 1, 4, 5, 6, 7, 8, 9, 10, 11, 12], [20, 32, 37, 55, 67, 84], [57, 59], [(7, [1, 5, 7])], [(0, []), (1, [1, 5, 7])], some [4], [(13, 0)], [(11, false), (17, false), (18, false)], [(56, 0, 3, 1), (56, 1, 3, 1), (56, 2, 41, 3)], [(13, (.alt 0 (.alt 2 (.alt 4 (.alt 5 (.dag [[[(0, 1)], [(0, 6)]], [[(0, 3)], [(0, 6), (1, 1)], [(1, 7)]], [[(0, 6), (1, 3)], [(1, 7), (2, 1)], [(2, 8)]], [[(0, 7), (1, 3)], [(1, 8), (2, 1)]], [[(0, 8), (1, 3)]], [[(0, 9)]], [[(0, 10)]], [[(0, 11)]]]) .leaf) .leaf) .leaf) .leaf))]⟩
@[simp] theorem an_law51_LedgerRefuses_draws : an_law51_LedgerRefuses.draws = [(13, 0)] := rfl
@[simp] theorem an_law51_LedgerRefuses_exits : an_law51_LedgerRefuses.exits = [(0, []), (1, [1, 5, 7])] := rfl
@[simp] theorem an_law51_LedgerRefuses_rets : an_law51_LedgerRefuses.rets = some [4] := rfl
@[simp] theorem an_law51_LedgerRefuses_keep : an_law51_LedgerRefuses.keep = [0, 1, 4, 5, 6, 7, 8, 9, 10, 11, 12] := rfl
@[simp] theorem an_law51_LedgerRefuses_cond : an_law51_LedgerRefuses.cond = [20, 32, 37, 55, 67, 84] := rfl
@[simp] theorem an_law51_LedgerRefuses_rows : an_law51_LedgerRefuses.rows = [57, 59] := rfl
@[simp] theorem an_law51_LedgerRefuses_loops : an_law51_LedgerRefuses.loops = [(7, [1, 5, 7])] := rfl
@[simp] theorem an_law51_LedgerRefuses_ecalls : an_law51_LedgerRefuses.ecalls = [(11, false), (17, false), (18, false)] := rfl
@[simp] theorem an_law51_LedgerRefuses_crows : an_law51_LedgerRefuses.crows = [(56, 0, 3, 1), (56, 1, 3, 1), (56, 2, 41, 3)] := rfl
@[simp] theorem an_law51_LedgerRefuses_tails : an_law51_LedgerRefuses.tails = [(13, (.alt 0 (.alt 2 (.alt 4 (.alt 5 (.dag [[[(0, 1)], [(0, 6)]], [[(0, 3)], [(0, 6), (1, 1)], [(1, 7)]], [[(0, 6), (1, 3)], [(1, 7), (2, 1)], [(2, 8)]], [[(0, 7), (1, 3)], [(1, 8), (2, 1)]], [[(0, 8), (1, 3)]], [[(0, 9)]], [[(0, 10)]], [[(0, 11)]]]) .leaf) .leaf) .leaf) .leaf))] := rfl
@[simp] noncomputable def cl_law51_LedgerRefuses : List (Nat × (List D → Option D)) := [(9, F_law51_few), (10, F_law51_awake), (15, F_law51_short), (19, F_ledger_Ledger_Trial), (20, F_ledger_Ledger_Digest), (21, F_ref51_Same), (22, F_ref51_SamePostings)]
@[simp] noncomputable def ce_law51_LedgerRefuses : List (Nat × (List (Nat × O) → List D → Option (D × List (Nat × O)))) := [(11, E_ledger_New), (17, E_ledger_Ledger_Post), (18, E_ledger_Ledger_Entries_obj)]
noncomputable def c_law51_LedgerRefuses : CT := ⟨callOf (cl_law51_LedgerRefuses ), callOfE ce_law51_LedgerRefuses, gl⟩
@[simp] theorem c_law51_LedgerRefuses_p (f : FuncId) (ds : List D) : c_law51_LedgerRefuses.p f ds = callOf (cl_law51_LedgerRefuses ) f ds := Eq.trans rfl rfl
@[simp] theorem c_law51_LedgerRefuses_e (f : FuncId) (hs : List (Nat × O)) (ds : List D) : c_law51_LedgerRefuses.e f hs ds = callOfE ce_law51_LedgerRefuses f hs ds := Eq.trans rfl rfl
@[simp] theorem c_law51_LedgerRefuses_g (g : Nat) : c_law51_LedgerRefuses.g g = gl g := Eq.trans rfl rfl
noncomputable def L_law51_LedgerRefuses (i n : Nat) (s : St) : Option (E × St) := atN Tryd.prog c_law51_LedgerRefuses an_law51_LedgerRefuses 86 (bodyOf Tryd.f6) i n s
noncomputable def H_law51_LedgerRefuses (n i : Nat) (s : St) : Option (E × St) := atH Tryd.prog c_law51_LedgerRefuses an_law51_LedgerRefuses 86 (bodyOf Tryd.f6) n i s
@[simp] theorem H_law51_LedgerRefuses_eq (n i : Nat) (s : St) : H_law51_LedgerRefuses n i s = L_law51_LedgerRefuses i n (headOf (an_law51_LedgerRefuses.loops.lookup i) s) := rfl
noncomputable def R_law51_LedgerRefuses (i : Nat) (s : St) : Option (E × St) := stepL Tryd.prog c_law51_LedgerRefuses an_law51_LedgerRefuses 86 (bodyOf Tryd.f6) i s
theorem lok_law51_LedgerRefuses : okLoops (bodyOf Tryd.f6) = true := by kernel_rfl
theorem L_law51_LedgerRefuses_succ (i n : Nat) (s : St) : L_law51_LedgerRefuses i (n + 1) s = andThen (R_law51_LedgerRefuses i s) (H_law51_LedgerRefuses n i) := atN_succ lok_law51_LedgerRefuses (by kernel_rfl) i n s
theorem R_law51_LedgerRefuses_eq (i : Nat) (s : St) : R_law51_LedgerRefuses i s = runS Tryd.prog c_law51_LedgerRefuses (H_law51_LedgerRefuses bigL) an_law51_LedgerRefuses 86 (loopAt (bodyOf Tryd.f6) i) s := rfl
noncomputable def F_law51_LedgerRefuses (ds : List D) : Option D := runF Tryd.prog c_law51_LedgerRefuses an_law51_LedgerRefuses 86 (bodyOf Tryd.f6) [.tmp 4] ds
theorem F_law51_LedgerRefuses_eq (ds : List D) : F_law51_LedgerRefuses ds = runG Tryd.prog c_law51_LedgerRefuses (H_law51_LedgerRefuses bigL) an_law51_LedgerRefuses 86 (bodyOf Tryd.f6) [.tmp 4] ds := runG_eq lok_law51_LedgerRefuses _ ds
theorem C_law51_LedgerRefuses (ds : List D) (r : D) (h : F_law51_LedgerRefuses ds = some r) : Contract Tryd.prog gl 6 ds r := contract_of mix Tryd.func6 rfl (by kernel_rfl) (by kernel_rfl) (by decide) (call := c_law51_LedgerRefuses) ⟨callOf_ok cl_law51_LedgerRefuses ⟨C_law51_few, C_law51_awake, C_law51_short, C_ledger_Ledger_Trial, C_ledger_Ledger_Digest, C_ref51_Same, C_ref51_SamePostings, trivial⟩, callOfE_ok ce_law51_LedgerRefuses ⟨CE_ledger_New, CE_ledger_Ledger_Post, CE_ledger_Ledger_Entries_obj, trivial⟩⟩ h
-- sawmill/sawmilllaw51.LedgerAgain: loops [8, 13, 26]; state: params 0..1, then [4, 5, 6, 7, 8, 9, 10, 11, 12, 13, 14, 15, 16]
attribute [simp] Tryd.f7
noncomputable def an_law51_LedgerAgain : Ann := ⟨[0, 1, 4, 5, 6, 7, 8, 9, 10, 11, 12, 13, 14, 15, 16], [24, 50, 60, 74, 83, 96, 99, 126, 144], [155], [(8, [0, 1, 5, 7, 9]), (13, [0, 5, 7, 10, 11]), (26, [10, 12, 14, 15])], [(0, [0, 5, 7]), (1, [0, 1, 5, 7, 9]), (2, [0, 5, 7, 10]), (3, [0, 5, 7, 10, 11]), (4, [10, 12, 14]), (5, [10, 12, 14, 15])], some [4], [(24, 12), (30, 10)], [(11, false), (17, false), (18, false)], [(56, 0, 3, 1), (56, 1, 3, 1), (56, 2, 41, 3), (41, 2, 47, 2)], []⟩
@[simp] theorem an_law51_LedgerAgain_draws : an_law51_LedgerAgain.draws = [(24, 12), (30, 10)] := rfl
@[simp] theorem an_law51_LedgerAgain_exits : an_law51_LedgerAgain.exits = [(0, [0, 5, 7]), (1, [0, 1, 5, 7, 9]), (2, [0, 5, 7, 10]), (3, [0, 5, 7, 10, 11]), (4, [10, 12, 14]), (5, [10, 12, 14, 15])] := rfl
@[simp] theorem an_law51_LedgerAgain_rets : an_law51_LedgerAgain.rets = some [4] := rfl
@[simp] theorem an_law51_LedgerAgain_keep : an_law51_LedgerAgain.keep = [0, 1, 4, 5, 6, 7, 8, 9, 10, 11, 12, 13, 14, 15, 16] := rfl
@[simp] theorem an_law51_LedgerAgain_cond : an_law51_LedgerAgain.cond = [24, 50, 60, 74, 83, 96, 99, 126, 144] := rfl
@[simp] theorem an_law51_LedgerAgain_rows : an_law51_LedgerAgain.rows = [155] := rfl
@[simp] theorem an_law51_LedgerAgain_loops : an_law51_LedgerAgain.loops = [(8, [0, 1, 5, 7, 9]), (13, [0, 5, 7, 10, 11]), (26, [10, 12, 14, 15])] := rfl
@[simp] theorem an_law51_LedgerAgain_ecalls : an_law51_LedgerAgain.ecalls = [(11, false), (17, false), (18, false)] := rfl
@[simp] theorem an_law51_LedgerAgain_crows : an_law51_LedgerAgain.crows = [(56, 0, 3, 1), (56, 1, 3, 1), (56, 2, 41, 3), (41, 2, 47, 2)] := rfl
@[simp] theorem an_law51_LedgerAgain_tails : an_law51_LedgerAgain.tails = [] := rfl
@[simp] noncomputable def cl_law51_LedgerAgain : List (Nat × (List D → Option D)) := [(9, F_law51_few), (10, F_law51_awake), (15, F_law51_short), (19, F_ledger_Ledger_Trial), (20, F_ledger_Ledger_Digest), (22, F_ref51_SamePostings)]
@[simp] noncomputable def ce_law51_LedgerAgain : List (Nat × (List (Nat × O) → List D → Option (D × List (Nat × O)))) := [(11, E_ledger_New), (17, E_ledger_Ledger_Post), (18, E_ledger_Ledger_Entries_obj)]
noncomputable def c_law51_LedgerAgain : CT := ⟨callOf (cl_law51_LedgerAgain ), callOfE ce_law51_LedgerAgain, gl⟩
@[simp] theorem c_law51_LedgerAgain_p (f : FuncId) (ds : List D) : c_law51_LedgerAgain.p f ds = callOf (cl_law51_LedgerAgain ) f ds := Eq.trans rfl rfl
@[simp] theorem c_law51_LedgerAgain_e (f : FuncId) (hs : List (Nat × O)) (ds : List D) : c_law51_LedgerAgain.e f hs ds = callOfE ce_law51_LedgerAgain f hs ds := Eq.trans rfl rfl
@[simp] theorem c_law51_LedgerAgain_g (g : Nat) : c_law51_LedgerAgain.g g = gl g := Eq.trans rfl rfl
noncomputable def L_law51_LedgerAgain (i n : Nat) (s : St) : Option (E × St) := atN Tryd.prog c_law51_LedgerAgain an_law51_LedgerAgain 193 (bodyOf Tryd.f7) i n s
noncomputable def H_law51_LedgerAgain (n i : Nat) (s : St) : Option (E × St) := atH Tryd.prog c_law51_LedgerAgain an_law51_LedgerAgain 193 (bodyOf Tryd.f7) n i s
@[simp] theorem H_law51_LedgerAgain_eq (n i : Nat) (s : St) : H_law51_LedgerAgain n i s = L_law51_LedgerAgain i n (headOf (an_law51_LedgerAgain.loops.lookup i) s) := rfl
noncomputable def R_law51_LedgerAgain (i : Nat) (s : St) : Option (E × St) := stepL Tryd.prog c_law51_LedgerAgain an_law51_LedgerAgain 193 (bodyOf Tryd.f7) i s
theorem lok_law51_LedgerAgain : okLoops (bodyOf Tryd.f7) = true := by kernel_rfl
theorem L_law51_LedgerAgain_succ (i n : Nat) (s : St) : L_law51_LedgerAgain i (n + 1) s = andThen (R_law51_LedgerAgain i s) (H_law51_LedgerAgain n i) := atN_succ lok_law51_LedgerAgain (by kernel_rfl) i n s
theorem R_law51_LedgerAgain_eq (i : Nat) (s : St) : R_law51_LedgerAgain i s = runS Tryd.prog c_law51_LedgerAgain (H_law51_LedgerAgain bigL) an_law51_LedgerAgain 193 (loopAt (bodyOf Tryd.f7) i) s := rfl
noncomputable def F_law51_LedgerAgain (ds : List D) : Option D := runF Tryd.prog c_law51_LedgerAgain an_law51_LedgerAgain 193 (bodyOf Tryd.f7) [.tmp 4] ds
theorem F_law51_LedgerAgain_eq (ds : List D) : F_law51_LedgerAgain ds = runG Tryd.prog c_law51_LedgerAgain (H_law51_LedgerAgain bigL) an_law51_LedgerAgain 193 (bodyOf Tryd.f7) [.tmp 4] ds := runG_eq lok_law51_LedgerAgain _ ds
theorem C_law51_LedgerAgain (ds : List D) (r : D) (h : F_law51_LedgerAgain ds = some r) : Contract Tryd.prog gl 7 ds r := contract_of mix Tryd.func7 rfl (by kernel_rfl) (by kernel_rfl) (by decide) (call := c_law51_LedgerAgain) ⟨callOf_ok cl_law51_LedgerAgain ⟨C_law51_few, C_law51_awake, C_law51_short, C_ledger_Ledger_Trial, C_ledger_Ledger_Digest, C_ref51_SamePostings, trivial⟩, callOfE_ok ce_law51_LedgerAgain ⟨CE_ledger_New, CE_ledger_Ledger_Post, CE_ledger_Ledger_Entries_obj, trivial⟩⟩ h
-- sawmill/sawmilllaw51.LedgerNone: loops []; state: params 0..0, then [1, 2, 3]
attribute [simp] Tryd.f8
noncomputable def an_law51_LedgerNone : Ann := ⟨[1, 2, 3], [], [], [], [], some [2], [], [(17, false)], [(56, 0, 3, 1), (56, 1, 3, 1), (56, 2, 41, 3)], []⟩
@[simp] theorem an_law51_LedgerNone_draws : an_law51_LedgerNone.draws = [] := rfl
@[simp] theorem an_law51_LedgerNone_exits : an_law51_LedgerNone.exits = [] := rfl
@[simp] theorem an_law51_LedgerNone_rets : an_law51_LedgerNone.rets = some [2] := rfl
@[simp] theorem an_law51_LedgerNone_keep : an_law51_LedgerNone.keep = [1, 2, 3] := rfl
@[simp] theorem an_law51_LedgerNone_cond : an_law51_LedgerNone.cond = [] := rfl
@[simp] theorem an_law51_LedgerNone_rows : an_law51_LedgerNone.rows = [] := rfl
@[simp] theorem an_law51_LedgerNone_loops : an_law51_LedgerNone.loops = [] := rfl
@[simp] theorem an_law51_LedgerNone_ecalls : an_law51_LedgerNone.ecalls = [(17, false)] := rfl
@[simp] theorem an_law51_LedgerNone_crows : an_law51_LedgerNone.crows = [(56, 0, 3, 1), (56, 1, 3, 1), (56, 2, 41, 3)] := rfl
@[simp] theorem an_law51_LedgerNone_tails : an_law51_LedgerNone.tails = [] := rfl
@[simp] noncomputable def cl_law51_LedgerNone : List (Nat × (List D → Option D)) := [(10, F_law51_awake), (14, F_ledger_Ledger_Balance), (18, F_ledger_Ledger_Entries), (19, F_ledger_Ledger_Trial), (20, F_ledger_Ledger_Digest)]
@[simp] noncomputable def ce_law51_LedgerNone : List (Nat × (List (Nat × O) → List D → Option (D × List (Nat × O)))) := [(17, E_ledger_Ledger_Post)]
noncomputable def c_law51_LedgerNone : CT := ⟨callOf (cl_law51_LedgerNone ), callOfE ce_law51_LedgerNone, gl⟩
@[simp] theorem c_law51_LedgerNone_p (f : FuncId) (ds : List D) : c_law51_LedgerNone.p f ds = callOf (cl_law51_LedgerNone ) f ds := Eq.trans rfl rfl
@[simp] theorem c_law51_LedgerNone_e (f : FuncId) (hs : List (Nat × O)) (ds : List D) : c_law51_LedgerNone.e f hs ds = callOfE ce_law51_LedgerNone f hs ds := Eq.trans rfl rfl
@[simp] theorem c_law51_LedgerNone_g (g : Nat) : c_law51_LedgerNone.g g = gl g := Eq.trans rfl rfl
noncomputable def L_law51_LedgerNone (i n : Nat) (s : St) : Option (E × St) := atN Tryd.prog c_law51_LedgerNone an_law51_LedgerNone 33 (bodyOf Tryd.f8) i n s
noncomputable def H_law51_LedgerNone (n i : Nat) (s : St) : Option (E × St) := atH Tryd.prog c_law51_LedgerNone an_law51_LedgerNone 33 (bodyOf Tryd.f8) n i s
@[simp] theorem H_law51_LedgerNone_eq (n i : Nat) (s : St) : H_law51_LedgerNone n i s = L_law51_LedgerNone i n (headOf (an_law51_LedgerNone.loops.lookup i) s) := rfl
noncomputable def R_law51_LedgerNone (i : Nat) (s : St) : Option (E × St) := stepL Tryd.prog c_law51_LedgerNone an_law51_LedgerNone 33 (bodyOf Tryd.f8) i s
theorem lok_law51_LedgerNone : okLoops (bodyOf Tryd.f8) = true := by kernel_rfl
noncomputable def F_law51_LedgerNone (ds : List D) : Option D := runF Tryd.prog c_law51_LedgerNone an_law51_LedgerNone 33 (bodyOf Tryd.f8) [.tmp 2] ds
theorem F_law51_LedgerNone_eq (ds : List D) : F_law51_LedgerNone ds = runG Tryd.prog c_law51_LedgerNone (H_law51_LedgerNone bigL) an_law51_LedgerNone 33 (bodyOf Tryd.f8) [.tmp 2] ds := runG_eq lok_law51_LedgerNone _ ds
theorem C_law51_LedgerNone (ds : List D) (r : D) (h : F_law51_LedgerNone ds = some r) : Contract Tryd.prog gl 8 ds r := contract_of mix Tryd.func8 rfl (by kernel_rfl) (by kernel_rfl) (by decide) (call := c_law51_LedgerNone) ⟨callOf_ok cl_law51_LedgerNone ⟨C_law51_awake, C_ledger_Ledger_Balance, C_ledger_Ledger_Entries, C_ledger_Ledger_Trial, C_ledger_Ledger_Digest, trivial⟩, callOfE_ok ce_law51_LedgerNone ⟨CE_ledger_Ledger_Post, trivial⟩⟩ h
end Go.Proofs.YtgngoijehjphoaaDoor
