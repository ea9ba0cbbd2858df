/-
  Printed by gen.py for this seat: facts about the types that the laws reach; for each function its annotation (what is kept behind a region, which rows are a variable's own, what is alive at the head of a loop), its abstract run, and that the run is its contract.
-/
import Derived.Test.YtgngoijehjphoaaAbs3
import Derived.Test.YtgngoijehjphoaaRows
import Derived.Test.YtgngoijehjphoaaLibO
namespace Go.Proofs.Ytgngoijehjphoaa
open Go Go.Abs
set_option maxRecDepth 100000
set_option linter.unusedSimpArgs false
set_option linter.unusedVariables false
theorem mix : Try.prog.follows .mixedOrders = true := by kernel_rfl
theorem laid : laidOutB Try.prog = true := by kernel_rfl
-- 0 ()
attribute [simp] Try.underlying0
@[simp] theorem sz0 : szT Try.prog 0 = some 1 := by kernel_rfl
@[simp] theorem co0 : Try.prog.cellsOf 0 = 1 := by kernel_rfl
@[simp] theorem ag0 : aggT Try.prog 0 = some false := by kernel_rfl
-- 1 func()
attribute [simp] Try.underlying1
@[simp] theorem sz1 : szT Try.prog 1 = some 1 := by kernel_rfl
@[simp] theorem co1 : Try.prog.cellsOf 1 = 1 := by kernel_rfl
@[simp] theorem ag1 : aggT Try.prog 1 = some false := by kernel_rfl
@[simp] theorem zr1 : zeroD Try.prog 1 = some [.x .nilFunc] := by kernel_rfl
-- 2 int64
attribute [simp] Try.underlying2
@[simp] theorem sz2 : szT Try.prog 2 = some 1 := by kernel_rfl
@[simp] theorem co2 : Try.prog.cellsOf 2 = 1 := by kernel_rfl
@[simp] theorem ag2 : aggT Try.prog 2 = some false := by kernel_rfl
@[simp] theorem zr2 : zeroD Try.prog 2 = some [.x (.int .i64 0)] := by kernel_rfl
@[simp] theorem zv2 : zeroV Try.prog 2 = some (.int .i64 0) := by kernel_rfl
-- 3 int
attribute [simp] Try.underlying3
@[simp] theorem sz3 : szT Try.prog 3 = some 1 := by kernel_rfl
@[simp] theorem co3 : Try.prog.cellsOf 3 = 1 := by kernel_rfl
@[simp] theorem ag3 : aggT Try.prog 3 = some false := by kernel_rfl
@[simp] theorem zr3 : zeroD Try.prog 3 = some [.x (.int .i64 0)] := by kernel_rfl
@[simp] theorem zv3 : zeroV Try.prog 3 = some (.int .i64 0) := by kernel_rfl
-- 4 bool
attribute [simp] Try.underlying4
@[simp] theorem sz4 : szT Try.prog 4 = some 1 := by kernel_rfl
@[simp] theorem co4 : Try.prog.cellsOf 4 = 1 := by kernel_rfl
@[simp] theorem ag4 : aggT Try.prog 4 = some false := by kernel_rfl
@[simp] theorem zr4 : zeroD Try.prog 4 = some [.x (.bool false)] := by kernel_rfl
@[simp] theorem zv4 : zeroV Try.prog 4 = some (.bool false) := by kernel_rfl
-- 5 uint8
attribute [simp] Try.underlying5
@[simp] theorem sz5 : szT Try.prog 5 = some 1 := by kernel_rfl
@[simp] theorem co5 : Try.prog.cellsOf 5 = 1 := by kernel_rfl
@[simp] theorem ag5 : aggT Try.prog 5 = some false := by kernel_rfl
@[simp] theorem zr5 : zeroD Try.prog 5 = some [.x (.int .u8 0)] := by kernel_rfl
@[simp] theorem zv5 : zeroV Try.prog 5 = some (.int .u8 0) := by kernel_rfl
-- 8 runtime.boundsError
attribute [simp] Try.underlying8
@[simp] theorem sz8 : szT Try.prog 8 = some 4 := by kernel_rfl
@[simp] theorem co8 : Try.prog.cellsOf 8 = 4 := by kernel_rfl
@[simp] theorem ag8 : aggT Try.prog 8 = some true := by kernel_rfl
@[simp] theorem zr8 : zeroD Try.prog 8 = some [.x (.int .i64 0), .x (.int .i64 0), .x (.bool false), .x (.int .u8 0)] := by kernel_rfl
@[simp] theorem bt8 : buildT Try.prog 8 = some ([(0, 1), (1, 1), (2, 1), (3, 1)], [.x (.int .i64 0), .x (.int .i64 0), .x (.bool false), .x (.int .u8 0)]) := by kernel_rfl
@[simp] theorem st8 : Try.prog.stoodInHeld 8 = false := by kernel_rfl
@[simp] theorem eg8 : Try.prog.eqGuardType Try.prog.depth 8 = false := by kernel_rfl
-- 9 string
attribute [simp] Try.underlying9
@[simp] theorem sz9 : szT Try.prog 9 = some 1 := by kernel_rfl
@[simp] theorem co9 : Try.prog.cellsOf 9 = 1 := by kernel_rfl
@[simp] theorem ag9 : aggT Try.prog 9 = some false := by kernel_rfl
@[simp] theorem zr9 : zeroD Try.prog 9 = some [.x (.string ByteArray.empty)] := by kernel_rfl
@[simp] theorem zv9 : zeroV Try.prog 9 = some (.string ByteArray.empty) := by kernel_rfl
-- 22 []sawmilllaw52.Move
attribute [simp] Try.underlying22
@[simp] theorem sz22 : szT Try.prog 22 = some 1 := by kernel_rfl
@[simp] theorem co22 : Try.prog.cellsOf 22 = 1 := by kernel_rfl
@[simp] theorem ag22 : aggT Try.prog 22 = some false := by kernel_rfl
@[simp] theorem zr22 : zeroD Try.prog 22 = some [.emp] := by kernel_rfl
@[simp] theorem mk22 : mkT Try.prog 22 = some (36, 5, 16, [.x (.int .u8 0), .x (.bool false), .x (.int .u32 0), .x (.int .u32 0), .x (.int .u32 0)]) := by kernel_rfl
@[simp] theorem ap22 : appT Try.prog 22 = some (36, 5, 16) := by kernel_rfl
-- 24 []string
attribute [simp] Try.underlying24
@[simp] theorem sz24 : szT Try.prog 24 = some 1 := by kernel_rfl
@[simp] theorem co24 : Try.prog.cellsOf 24 = 1 := by kernel_rfl
@[simp] theorem ag24 : aggT Try.prog 24 = some false := by kernel_rfl
@[simp] theorem zr24 : zeroD Try.prog 24 = some [.emp] := by kernel_rfl
@[simp] theorem mk24 : mkT Try.prog 24 = some (9, 1, 16, [.x (.string ByteArray.empty)]) := by kernel_rfl
@[simp] theorem ap24 : appT Try.prog 24 = some (9, 1, 16) := by kernel_rfl
-- 26 *ledger.Ledger
attribute [simp] Try.underlying26
@[simp] theorem sz26 : szT Try.prog 26 = some 1 := by kernel_rfl
@[simp] theorem co26 : Try.prog.cellsOf 26 = 1 := by kernel_rfl
@[simp] theorem ag26 : aggT Try.prog 26 = some false := by kernel_rfl
@[simp] theorem zr26 : zeroD Try.prog 26 = some [.x (.pointer none)] := by kernel_rfl
-- 27 api.Errno
attribute [simp] Try.underlying27
@[simp] theorem sz27 : szT Try.prog 27 = some 1 := by kernel_rfl
@[simp] theorem co27 : Try.prog.cellsOf 27 = 1 := by kernel_rfl
@[simp] theorem ag27 : aggT Try.prog 27 = some false := by kernel_rfl
@[simp] theorem zr27 : zeroD Try.prog 27 = some [.x (.int .i64 0)] := by kernel_rfl
@[simp] theorem zv27 : zeroV Try.prog 27 = some (.int .i64 0) := by kernel_rfl
-- 28 (*ledger.Ledger, api.Errno)
attribute [simp] Try.underlying28
@[simp] theorem sz28 : szT Try.prog 28 = some 1 := by kernel_rfl
@[simp] theorem co28 : Try.prog.cellsOf 28 = 1 := by kernel_rfl
@[simp] theorem ag28 : aggT Try.prog 28 = some false := by kernel_rfl
-- 30 []int
attribute [simp] Try.underlying30
@[simp] theorem sz30 : szT Try.prog 30 = some 1 := by kernel_rfl
@[simp] theorem co30 : Try.prog.cellsOf 30 = 1 := by kernel_rfl
@[simp] theorem ag30 : aggT Try.prog 30 = some false := by kernel_rfl
@[simp] theorem zr30 : zeroD Try.prog 30 = some [.emp] := by kernel_rfl
@[simp] theorem mk30 : mkT Try.prog 30 = some (3, 1, 8, [.x (.int .i64 0)]) := by kernel_rfl
@[simp] theorem ap30 : appT Try.prog 30 = some (3, 1, 8) := by kernel_rfl
-- 31 []api.Entry
attribute [simp] Try.underlying31
@[simp] theorem sz31 : szT Try.prog 31 = some 1 := by kernel_rfl
@[simp] theorem co31 : Try.prog.cellsOf 31 = 1 := by kernel_rfl
@[simp] theorem ag31 : aggT Try.prog 31 = some false := by kernel_rfl
@[simp] theorem zr31 : zeroD Try.prog 31 = some [.emp] := by kernel_rfl
@[simp] theorem mk31 : mkT Try.prog 31 = some (41, 3, 48, [.x (.string ByteArray.empty), .x (.int .i64 0), .emp]) := by kernel_rfl
@[simp] theorem ap31 : appT Try.prog 31 = some (41, 3, 48) := by kernel_rfl
-- 32 []api.Posting
attribute [simp] Try.underlying32
@[simp] theorem sz32 : szT Try.prog 32 = some 1 := by kernel_rfl
@[simp] theorem co32 : Try.prog.cellsOf 32 = 1 := by kernel_rfl
@[simp] theorem ag32 : aggT Try.prog 32 = some false := by kernel_rfl
@[simp] theorem zr32 : zeroD Try.prog 32 = some [.emp] := by kernel_rfl
@[simp] theorem mk32 : mkT Try.prog 32 = some (38, 2, 24, [.x (.string ByteArray.empty), .x (.int .i64 0)]) := by kernel_rfl
@[simp] theorem ap32 : appT Try.prog 32 = some (38, 2, 24) := by kernel_rfl
-- 34 uint32
attribute [simp] Try.underlying34
@[simp] theorem sz34 : szT Try.prog 34 = some 1 := by kernel_rfl
@[simp] theorem co34 : Try.prog.cellsOf 34 = 1 := by kernel_rfl
@[simp] theorem ag34 : aggT Try.prog 34 = some false := by kernel_rfl
@[simp] theorem zr34 : zeroD Try.prog 34 = some [.x (.int .u32 0)] := by kernel_rfl
@[simp] theorem zv34 : zeroV Try.prog 34 = some (.int .u32 0) := by kernel_rfl
-- 36 sawmilllaw52.Move
attribute [simp] Try.underlying36
@[simp] theorem sz36 : szT Try.prog 36 = some 5 := by kernel_rfl
@[simp] theorem co36 : Try.prog.cellsOf 36 = 5 := by kernel_rfl
@[simp] theorem ag36 : aggT Try.prog 36 = some true := by kernel_rfl
@[simp] theorem zr36 : zeroD Try.prog 36 = some [.x (.int .u8 0), .x (.bool false), .x (.int .u32 0), .x (.int .u32 0), .x (.int .u32 0)] := by kernel_rfl
@[simp] theorem bt36 : buildT Try.prog 36 = some ([(0, 1), (1, 1), (2, 1), (3, 1), (4, 1)], [.x (.int .u8 0), .x (.bool false), .x (.int .u32 0), .x (.int .u32 0), .x (.int .u32 0)]) := by kernel_rfl
@[simp] theorem st36 : Try.prog.stoodInHeld 36 = false := by kernel_rfl
@[simp] theorem eg36 : Try.prog.eqGuardType Try.prog.depth 36 = false := by kernel_rfl
-- 38 api.Posting
attribute [simp] Try.underlying38
@[simp] theorem sz38 : szT Try.prog 38 = some 2 := by kernel_rfl
@[simp] theorem co38 : Try.prog.cellsOf 38 = 2 := by kernel_rfl
@[simp] theorem ag38 : aggT Try.prog 38 = some true := by kernel_rfl
@[simp] theorem zr38 : zeroD Try.prog 38 = some [.x (.string ByteArray.empty), .x (.int .i64 0)] := by kernel_rfl
@[simp] theorem bt38 : buildT Try.prog 38 = some ([(0, 1), (1, 1)], [.x (.string ByteArray.empty), .x (.int .i64 0)]) := by kernel_rfl
@[simp] theorem st38 : Try.prog.stoodInHeld 38 = false := by kernel_rfl
@[simp] theorem eg38 : Try.prog.eqGuardType Try.prog.depth 38 = false := by kernel_rfl
-- 41 api.Entry
attribute [simp] Try.underlying41
@[simp] theorem sz41 : szT Try.prog 41 = some 3 := by kernel_rfl
@[simp] theorem co41 : Try.prog.cellsOf 41 = 3 := by kernel_rfl
@[simp] theorem ag41 : aggT Try.prog 41 = some true := by kernel_rfl
@[simp] theorem zr41 : zeroD Try.prog 41 = some [.x (.string ByteArray.empty), .x (.int .i64 0), .emp] := by kernel_rfl
@[simp] theorem bt41 : buildT Try.prog 41 = some ([(0, 1), (1, 1), (2, 1)], [.x (.string ByteArray.empty), .x (.int .i64 0), .emp]) := by kernel_rfl
@[simp] theorem st41 : Try.prog.stoodInHeld 41 = false := by kernel_rfl
@[simp] theorem eg41 : Try.prog.eqGuardType Try.prog.depth 41 = false := by kernel_rfl
-- 46 ([]api.Posting, api.Errno)
attribute [simp] Try.underlying46
@[simp] theorem sz46 : szT Try.prog 46 = some 1 := by kernel_rfl
@[simp] theorem co46 : Try.prog.cellsOf 46 = 1 := by kernel_rfl
@[simp] theorem ag46 : aggT Try.prog 46 = some false := by kernel_rfl
-- 49 api.Yield
attribute [simp] Try.underlying49
@[simp] theorem sz49 : szT Try.prog 49 = some 5 := by kernel_rfl
@[simp] theorem co49 : Try.prog.cellsOf 49 = 5 := by kernel_rfl
@[simp] theorem ag49 : aggT Try.prog 49 = some true := by kernel_rfl
@[simp] theorem zr49 : zeroD Try.prog 49 = some [.x (.int .i64 0), .x (.int .i64 0), .x (.int .i64 0), .x (.int .i64 0), .x (.int .i64 0)] := by kernel_rfl
@[simp] theorem bt49 : buildT Try.prog 49 = some ([(0, 1), (1, 1), (2, 1), (3, 1), (4, 1)], [.x (.int .i64 0), .x (.int .i64 0), .x (.int .i64 0), .x (.int .i64 0), .x (.int .i64 0)]) := by kernel_rfl
@[simp] theorem st49 : Try.prog.stoodInHeld 49 = false := by kernel_rfl
@[simp] theorem eg49 : Try.prog.eqGuardType Try.prog.depth 49 = false := by kernel_rfl
-- 54 map[string]int
attribute [simp] Try.underlying54
@[simp] theorem sz54 : szT Try.prog 54 = some 1 := by kernel_rfl
@[simp] theorem co54 : Try.prog.cellsOf 54 = 1 := by kernel_rfl
@[simp] theorem ag54 : aggT Try.prog 54 = some false := by kernel_rfl
@[simp] theorem zr54 : zeroD Try.prog 54 = some [.x (.map none)] := by kernel_rfl
-- 55 map[string]bool
attribute [simp] Try.underlying55
@[simp] theorem sz55 : szT Try.prog 55 = some 1 := by kernel_rfl
@[simp] theorem co55 : Try.prog.cellsOf 55 = 1 := by kernel_rfl
@[simp] theorem ag55 : aggT Try.prog 55 = some false := by kernel_rfl
@[simp] theorem zr55 : zeroD Try.prog 55 = some [.x (.map none)] := by kernel_rfl
-- 57 ledger.Ledger
attribute [simp] Try.underlying57
@[simp] theorem sz57 : szT Try.prog 57 = some 3 := by kernel_rfl
@[simp] theorem co57 : Try.prog.cellsOf 57 = 3 := by kernel_rfl
@[simp] theorem ag57 : aggT Try.prog 57 = some true := by kernel_rfl
@[simp] theorem zr57 : zeroD Try.prog 57 = some [.x (.map none), .x (.map none), .emp] := by kernel_rfl
@[simp] theorem bt57 : buildT Try.prog 57 = some ([(0, 1), (1, 1), (2, 1)], [.x (.map none), .x (.map none), .emp]) := by kernel_rfl
@[simp] theorem st57 : Try.prog.stoodInHeld 57 = false := by kernel_rfl
@[simp] theorem eg57 : Try.prog.eqGuardType Try.prog.depth 57 = false := by kernel_rfl
-- 59 (int, bool)
attribute [simp] Try.underlying59
@[simp] theorem sz59 : szT Try.prog 59 = some 1 := by kernel_rfl
@[simp] theorem co59 : Try.prog.cellsOf 59 = 1 := by kernel_rfl
@[simp] theorem ag59 : aggT Try.prog 59 = some false := by kernel_rfl
-- 60 []uint8
attribute [simp] Try.underlying60
@[simp] theorem sz60 : szT Try.prog 60 = some 1 := by kernel_rfl
@[simp] theorem co60 : Try.prog.cellsOf 60 = 1 := by kernel_rfl
@[simp] theorem ag60 : aggT Try.prog 60 = some false := by kernel_rfl
@[simp] theorem zr60 : zeroD Try.prog 60 = some [.emp] := by kernel_rfl
@[simp] theorem mk60 : mkT Try.prog 60 = some (5, 1, 1, [.x (.int .u8 0)]) := by kernel_rfl
@[simp] theorem ap60 : appT Try.prog 60 = some (5, 1, 1) := by kernel_rfl
-- 71 books.movement[int]
attribute [simp] Try.underlying71
@[simp] theorem sz71 : szT Try.prog 71 = some 8 := by kernel_rfl
@[simp] theorem co71 : Try.prog.cellsOf 71 = 8 := by kernel_rfl
@[simp] theorem ag71 : aggT Try.prog 71 = some true := by kernel_rfl
@[simp] theorem zr71 : zeroD Try.prog 71 = some [.x (.int .i64 0), .x (.int .i64 0), .x (.int .i64 0), .x (.int .i64 0), .x (.int .i64 0), .x (.int .i64 0), .x (.int .i64 0), .x (.int .i64 0)] := by kernel_rfl
@[simp] theorem bt71 : buildT Try.prog 71 = some ([(0, 1), (1, 1), (2, 1), (3, 1), (4, 1), (5, 1), (6, 1), (7, 1)], [.x (.int .i64 0), .x (.int .i64 0), .x (.int .i64 0), .x (.int .i64 0), .x (.int .i64 0), .x (.int .i64 0), .x (.int .i64 0), .x (.int .i64 0)]) := by kernel_rfl
@[simp] theorem eg71 : Try.prog.eqGuardType Try.prog.depth 71 = false := by kernel_rfl
-- 75 func(api.Posting) int
attribute [simp] Try.underlying75
@[simp] theorem sz75 : szT Try.prog 75 = some 1 := by kernel_rfl
@[simp] theorem co75 : Try.prog.cellsOf 75 = 1 := by kernel_rfl
@[simp] theorem ag75 : aggT Try.prog 75 = some false := by kernel_rfl
@[simp] theorem zr75 : zeroD Try.prog 75 = some [.x .nilFunc] := by kernel_rfl
-- 78 [4]int
attribute [simp] Try.underlying78
@[simp] theorem sz78 : szT Try.prog 78 = some 4 := by kernel_rfl
@[simp] theorem co78 : Try.prog.cellsOf 78 = 4 := by kernel_rfl
@[simp] theorem ag78 : aggT Try.prog 78 = some true := by kernel_rfl
@[simp] theorem zr78 : zeroD Try.prog 78 = some [.x (.int .i64 0), .x (.int .i64 0), .x (.int .i64 0), .x (.int .i64 0)] := by kernel_rfl
@[simp] theorem bt78 : buildT Try.prog 78 = some ([(0, 1), (1, 1), (2, 1), (3, 1)], [.x (.int .i64 0), .x (.int .i64 0), .x (.int .i64 0), .x (.int .i64 0)]) := by kernel_rfl
@[simp] theorem eg78 : Try.prog.eqGuardType Try.prog.depth 78 = false := by kernel_rfl
-- sawmill/yield.Balanced: loops [2]; state: params 0..0, then [1, 2, 4, 13, 14]
attribute [simp] Try.f29
noncomputable def an_yield_Balanced : Ann := ⟨[1, 2, 4, 13, 14], [15, 22], [], [(2, [1, 13, 14])], [(0, [1]), (1, [1, 13, 14])], some [2], [], [], [(57, 0, 3, 1), (57, 1, 3, 1), (57, 2, 41, 3)], []⟩
@[simp] theorem an_yield_Balanced_draws : an_yield_Balanced.draws = [] := rfl
@[simp] theorem an_yield_Balanced_exits : an_yield_Balanced.exits = [(0, [1]), (1, [1, 13, 14])] := rfl
@[simp] theorem an_yield_Balanced_rets : an_yield_Balanced.rets = some [2] := rfl
@[simp] theorem an_yield_Balanced_keep : an_yield_Balanced.keep = [1, 2, 4, 13, 14] := rfl
@[simp] theorem an_yield_Balanced_cond : an_yield_Balanced.cond = [15, 22] := rfl
@[simp] theorem an_yield_Balanced_rows : an_yield_Balanced.rows = [] := rfl
@[simp] theorem an_yield_Balanced_loops : an_yield_Balanced.loops = [(2, [1, 13, 14])] := rfl
@[simp] theorem an_yield_Balanced_ecalls : an_yield_Balanced.ecalls = [] := rfl
@[simp] theorem an_yield_Balanced_crows : an_yield_Balanced.crows = [(57, 0, 3, 1), (57, 1, 3, 1), (57, 2, 41, 3)] := rfl
@[simp] theorem an_yield_Balanced_tails : an_yield_Balanced.tails = [] := rfl
@[simp] noncomputable def cl_yield_Balanced : List (Nat × (List D → Option D)) := []
@[simp] noncomputable def ce_yield_Balanced : List (Nat × (List (Nat × O) → List D → Option (D × List (Nat × O)))) := []
noncomputable def c_yield_Balanced : CT := ⟨callOf (cl_yield_Balanced ), callOfE ce_yield_Balanced, gl⟩
@[simp] theorem c_yield_Balanced_p (f : FuncId) (ds : List D) : c_yield_Balanced.p f ds = callOf (cl_yield_Balanced ) f ds := Eq.trans rfl rfl
@[simp] theorem c_yield_Balanced_e (f : FuncId) (hs : List (Nat × O)) (ds : List D) : c_yield_Balanced.e f hs ds = callOfE ce_yield_Balanced f hs ds := Eq.trans rfl rfl
@[simp] theorem c_yield_Balanced_g (g : Nat) : c_yield_Balanced.g g = gl g := Eq.trans rfl rfl
noncomputable def L_yield_Balanced (i n : Nat) (s : St) : Option (E × St) := atN Try.prog c_yield_Balanced an_yield_Balanced 35 (bodyOf Try.f29) i n s
noncomputable def H_yield_Balanced (n i : Nat) (s : St) : Option (E × St) := atH Try.prog c_yield_Balanced an_yield_Balanced 35 (bodyOf Try.f29) n i s
@[simp] theorem H_yield_Balanced_eq (n i : Nat) (s : St) : H_yield_Balanced n i s = L_yield_Balanced i n (headOf (an_yield_Balanced.loops.lookup i) s) := rfl
noncomputable def R_yield_Balanced (i : Nat) (s : St) : Option (E × St) := stepL Try.prog c_yield_Balanced an_yield_Balanced 35 (bodyOf Try.f29) i s
theorem lok_yield_Balanced : okLoops (bodyOf Try.f29) = true := by kernel_rfl
theorem L_yield_Balanced_succ (i n : Nat) (s : St) : L_yield_Balanced i (n + 1) s = andThen (R_yield_Balanced i s) (H_yield_Balanced n i) := atN_succ lok_yield_Balanced (by kernel_rfl) i n s
theorem R_yield_Balanced_eq (i : Nat) (s : St) : R_yield_Balanced i s = runS Try.prog c_yield_Balanced (H_yield_Balanced bigL) an_yield_Balanced 35 (loopAt (bodyOf Try.f29) i) s := rfl
noncomputable def F_yield_Balanced (ds : List D) : Option D := runF Try.prog c_yield_Balanced an_yield_Balanced 35 (bodyOf Try.f29) [.tmp 2] ds
theorem F_yield_Balanced_eq (ds : List D) : F_yield_Balanced ds = runG Try.prog c_yield_Balanced (H_yield_Balanced bigL) an_yield_Balanced 35 (bodyOf Try.f29) [.tmp 2] ds := runG_eq lok_yield_Balanced _ ds
theorem C_yield_Balanced (ds : List D) (r : D) (h : F_yield_Balanced ds = some r) : Contract Try.prog gl 29 ds r := contract_of mix Try.func29 rfl (by kernel_rfl) (by kernel_rfl) (by decide) (call := c_yield_Balanced) ⟨callOf_ok cl_yield_Balanced trivial, callOfE_ok ce_yield_Balanced trivial⟩ h
-- sawmill/books.Accounts: loops []; state: params 0..-1, then [0]
attribute [simp] Try.f5
noncomputable def an_books_Accounts : Ann := ⟨[0], [], [], [], [], some [0], [], [], [(57, 0, 3, 1), (57, 1, 3, 1), (57, 2, 41, 3)], []⟩
@[simp] theorem an_books_Accounts_draws : an_books_Accounts.draws = [] := rfl
@[simp] theorem an_books_Accounts_exits : an_books_Accounts.exits = [] := rfl
@[simp] theorem an_books_Accounts_rets : an_books_Accounts.rets = some [0] := rfl
@[simp] theorem an_books_Accounts_keep : an_books_Accounts.keep = [0] := rfl
@[simp] theorem an_books_Accounts_cond : an_books_Accounts.cond = [] := rfl
@[simp] theorem an_books_Accounts_rows : an_books_Accounts.rows = [] := rfl
@[simp] theorem an_books_Accounts_loops : an_books_Accounts.loops = [] := rfl
@[simp] theorem an_books_Accounts_ecalls : an_books_Accounts.ecalls = [] := rfl
@[simp] theorem an_books_Accounts_crows : an_books_Accounts.crows = [(57, 0, 3, 1), (57, 1, 3, 1), (57, 2, 41, 3)] := rfl
@[simp] theorem an_books_Accounts_tails : an_books_Accounts.tails = [] := rfl
@[simp] noncomputable def cl_books_Accounts : List (Nat × (List D → Option D)) := []
@[simp] noncomputable def ce_books_Accounts : List (Nat × (List (Nat × O) → List D → Option (D × List (Nat × O)))) := []
noncomputable def c_books_Accounts : CT := ⟨callOf (cl_books_Accounts ), callOfE ce_books_Accounts, gl⟩
@[simp] theorem c_books_Accounts_p (f : FuncId) (ds : List D) : c_books_Accounts.p f ds = callOf (cl_books_Accounts ) f ds := Eq.trans rfl rfl
@[simp] theorem c_books_Accounts_e (f : FuncId) (hs : List (Nat × O)) (ds : List D) : c_books_Accounts.e f hs ds = callOfE ce_books_Accounts f hs ds := Eq.trans rfl rfl
@[simp] theorem c_books_Accounts_g (g : Nat) : c_books_Accounts.g g = gl g := Eq.trans rfl rfl
noncomputable def L_books_Accounts (i n : Nat) (s : St) : Option (E × St) := atN Try.prog c_books_Accounts an_books_Accounts 2 (bodyOf Try.f5) i n s
noncomputable def H_books_Accounts (n i : Nat) (s : St) : Option (E × St) := atH Try.prog c_books_Accounts an_books_Accounts 2 (bodyOf Try.f5) n i s
@[simp] theorem H_books_Accounts_eq (n i : Nat) (s : St) : H_books_Accounts n i s = L_books_Accounts i n (headOf (an_books_Accounts.loops.lookup i) s) := rfl
noncomputable def R_books_Accounts (i : Nat) (s : St) : Option (E × St) := stepL Try.prog c_books_Accounts an_books_Accounts 2 (bodyOf Try.f5) i s
theorem lok_books_Accounts : okLoops (bodyOf Try.f5) = true := by kernel_rfl
noncomputable def F_books_Accounts (ds : List D) : Option D := runF Try.prog c_books_Accounts an_books_Accounts 2 (bodyOf Try.f5) [.tmp 0] ds
theorem F_books_Accounts_eq (ds : List D) : F_books_Accounts ds = runG Try.prog c_books_Accounts (H_books_Accounts bigL) an_books_Accounts 2 (bodyOf Try.f5) [.tmp 0] ds := runG_eq lok_books_Accounts _ ds
theorem C_books_Accounts (ds : List D) (r : D) (h : F_books_Accounts ds = some r) : Contract Try.prog gl 5 ds r := contract_of mix Try.func5 rfl (by kernel_rfl) (by kernel_rfl) (by decide) (call := c_books_Accounts) ⟨callOf_ok cl_books_Accounts trivial, callOfE_ok ce_books_Accounts trivial⟩ h
-- sawmill/books.postings[int]: loops [3]; state: params 0..0, then [1, 2, 3, 4, 5, 6, 7, 8]
attribute [simp] Try.f30
noncomputable def an_books_postings_int : Ann := ⟨[1, 2, 3, 4, 5, 6, 7, 8], [9, 16], [3], [(3, [1, 3, 6, 7, 8])], [(0, [3]), (1, [1, 3, 6, 7, 8])], some [2], [], [], [(57, 0, 3, 1), (57, 1, 3, 1), (57, 2, 41, 3)], []⟩
@[simp] theorem an_books_postings_int_draws : an_books_postings_int.draws = [] := rfl
@[simp] theorem an_books_postings_int_exits : an_books_postings_int.exits = [(0, [3]), (1, [1, 3, 6, 7, 8])] := rfl
@[simp] theorem an_books_postings_int_rets : an_books_postings_int.rets = some [2] := rfl
@[simp] theorem an_books_postings_int_keep : an_books_postings_int.keep = [1, 2, 3, 4, 5, 6, 7, 8] := rfl
@[simp] theorem an_books_postings_int_cond : an_books_postings_int.cond = [9, 16] := rfl
@[simp] theorem an_books_postings_int_rows : an_books_postings_int.rows = [3] := rfl
@[simp] theorem an_books_postings_int_loops : an_books_postings_int.loops = [(3, [1, 3, 6, 7, 8])] := rfl
@[simp] theorem an_books_postings_int_ecalls : an_books_postings_int.ecalls = [] := rfl
@[simp] theorem an_books_postings_int_crows : an_books_postings_int.crows = [(57, 0, 3, 1), (57, 1, 3, 1), (57, 2, 41, 3)] := rfl
@[simp] theorem an_books_postings_int_tails : an_books_postings_int.tails = [] := rfl
@[simp] noncomputable def cl_books_postings_int : List (Nat × (List D → Option D)) := [(5, F_books_Accounts)]
@[simp] noncomputable def ce_books_postings_int : List (Nat × (List (Nat × O) → List D → Option (D × List (Nat × O)))) := []
noncomputable def c_books_postings_int : CT := ⟨callOf (cl_books_postings_int ), callOfE ce_books_postings_int, gl⟩
@[simp] theorem c_books_postings_int_p (f : FuncId) (ds : List D) : c_books_postings_int.p f ds = callOf (cl_books_postings_int ) f ds := Eq.trans rfl rfl
@[simp] theorem c_books_postings_int_e (f : FuncId) (hs : List (Nat × O)) (ds : List D) : c_books_postings_int.e f hs ds = callOfE ce_books_postings_int f hs ds := Eq.trans rfl rfl
@[simp] theorem c_books_postings_int_g (g : Nat) : c_books_postings_int.g g = gl g := Eq.trans rfl rfl
noncomputable def L_books_postings_int (i n : Nat) (s : St) : Option (E × St) := atN Try.prog c_books_postings_int an_books_postings_int 27 (bodyOf Try.f30) i n s
noncomputable def H_books_postings_int (n i : Nat) (s : St) : Option (E × St) := atH Try.prog c_books_postings_int an_books_postings_int 27 (bodyOf Try.f30) n i s
@[simp] theorem H_books_postings_int_eq (n i : Nat) (s : St) : H_books_postings_int n i s = L_books_postings_int i n (headOf (an_books_postings_int.loops.lookup i) s) := rfl
noncomputable def R_books_postings_int (i : Nat) (s : St) : Option (E × St) := stepL Try.prog c_books_postings_int an_books_postings_int 27 (bodyOf Try.f30) i s
theorem lok_books_postings_int : okLoops (bodyOf Try.f30) = true := by kernel_rfl
theorem L_books_postings_int_succ (i n : Nat) (s : St) : L_books_postings_int i (n + 1) s = andThen (R_books_postings_int i s) (H_books_postings_int n i) := atN_succ lok_books_postings_int (by kernel_rfl) i n s
theorem R_books_postings_int_eq (i : Nat) (s : St) : R_books_postings_int i s = runS Try.prog c_books_postings_int (H_books_postings_int bigL) an_books_postings_int 27 (loopAt (bodyOf Try.f30) i) s := rfl
noncomputable def F_books_postings_int (ds : List D) : Option D := runF Try.prog c_books_postings_int an_books_postings_int 27 (bodyOf Try.f30) [.tmp 2] ds
theorem F_books_postings_int_eq (ds : List D) : F_books_postings_int ds = runG Try.prog c_books_postings_int (H_books_postings_int bigL) an_books_postings_int 27 (bodyOf Try.f30) [.tmp 2] ds := runG_eq lok_books_postings_int _ ds
theorem C_books_postings_int (ds : List D) (r : D) (h : F_books_postings_int ds = some r) : Contract Try.prog gl 30 ds r := contract_of mix Try.func30 rfl (by kernel_rfl) (by kernel_rfl) (by decide) (call := c_books_postings_int) ⟨callOf_ok cl_books_postings_int ⟨C_books_Accounts, trivial⟩, callOfE_ok ce_books_postings_int trivial⟩ h
-- sawmill/books.Sawn: loops []; state: params 0..0, then [1, 2, 3]
attribute [simp] Try.f12
noncomputable def an_books_Sawn : Ann := ⟨[1, 2, 3], [11], [], [], [], some [2, 3], [], [], [(57, 0, 3, 1), (57, 1, 3, 1), (57, 2, 41, 3)], []⟩
@[simp] theorem an_books_Sawn_draws : an_books_Sawn.draws = [] := rfl
@[simp] theorem an_books_Sawn_exits : an_books_Sawn.exits = [] := rfl
@[simp] theorem an_books_Sawn_rets : an_books_Sawn.rets = some [2, 3] := rfl
@[simp] theorem an_books_Sawn_keep : an_books_Sawn.keep = [1, 2, 3] := rfl
@[simp] theorem an_books_Sawn_cond : an_books_Sawn.cond = [11] := rfl
@[simp] theorem an_books_Sawn_rows : an_books_Sawn.rows = [] := rfl
@[simp] theorem an_books_Sawn_loops : an_books_Sawn.loops = [] := rfl
@[simp] theorem an_books_Sawn_ecalls : an_books_Sawn.ecalls = [] := rfl
@[simp] theorem an_books_Sawn_crows : an_books_Sawn.crows = [(57, 0, 3, 1), (57, 1, 3, 1), (57, 2, 41, 3)] := rfl
@[simp] theorem an_books_Sawn_tails : an_books_Sawn.tails = [] := rfl
@[simp] noncomputable def cl_books_Sawn : List (Nat × (List D → Option D)) := [(29, F_yield_Balanced), (30, F_books_postings_int)]
@[simp] noncomputable def ce_books_Sawn : List (Nat × (List (Nat × O) → List D → Option (D × List (Nat × O)))) := []
noncomputable def c_books_Sawn : CT := ⟨callOf (cl_books_Sawn ), callOfE ce_books_Sawn, gl⟩
@[simp] theorem c_books_Sawn_p (f : FuncId) (ds : List D) : c_books_Sawn.p f ds = callOf (cl_books_Sawn ) f ds := Eq.trans rfl rfl
@[simp] theorem c_books_Sawn_e (f : FuncId) (hs : List (Nat × O)) (ds : List D) : c_books_Sawn.e f hs ds = callOfE ce_books_Sawn f hs ds := Eq.trans rfl rfl
@[simp] theorem c_books_Sawn_g (g : Nat) : c_books_Sawn.g g = gl g := Eq.trans rfl rfl
noncomputable def L_books_Sawn (i n : Nat) (s : St) : Option (E × St) := atN Try.prog c_books_Sawn an_books_Sawn 23 (bodyOf Try.f12) i n s
noncomputable def H_books_Sawn (n i : Nat) (s : St) : Option (E × St) := atH Try.prog c_books_Sawn an_books_Sawn 23 (bodyOf Try.f12) n i s
@[simp] theorem H_books_Sawn_eq (n i : Nat) (s : St) : H_books_Sawn n i s = L_books_Sawn i n (headOf (an_books_Sawn.loops.lookup i) s) := rfl
noncomputable def R_books_Sawn (i : Nat) (s : St) : Option (E × St) := stepL Try.prog c_books_Sawn an_books_Sawn 23 (bodyOf Try.f12) i s
theorem lok_books_Sawn : okLoops (bodyOf Try.f12) = true := by kernel_rfl
noncomputable def F_books_Sawn (ds : List D) : Option D := runF Try.prog c_books_Sawn an_books_Sawn 23 (bodyOf Try.f12) [.tmp 2, .tmp 3] ds
theorem F_books_Sawn_eq (ds : List D) : F_books_Sawn ds = runG Try.prog c_books_Sawn (H_books_Sawn bigL) an_books_Sawn 23 (bodyOf Try.f12) [.tmp 2, .tmp 3] ds := runG_eq lok_books_Sawn _ ds
theorem C_books_Sawn (ds : List D) (r : D) (h : F_books_Sawn ds = some r) : Contract Try.prog gl 12 ds r := contract_of mix Try.func12 rfl (by kernel_rfl) (by kernel_rfl) (by decide) (call := c_books_Sawn) ⟨callOf_ok cl_books_Sawn ⟨C_yield_Balanced, C_books_postings_int, trivial⟩, callOfE_ok ce_books_Sawn trivial⟩ h
-- sawmill/books.areVolumes[int]: loops [3]; state: params 0..0, then [2, 3, 5, 6, 7, 8]
attribute [simp] Try.f31
noncomputable def an_books_areVolumes_int : Ann := ⟨[2, 3, 5, 6, 7, 8], [9, 17], [], [(3, [3, 6, 7, 8])], [(0, [3]), (1, [3, 6, 7, 8])], some [2], [], [], [(57, 0, 3, 1), (57, 1, 3, 1), (57, 2, 41, 3)], []⟩
@[simp] theorem an_books_areVolumes_int_draws : an_books_areVolumes_int.draws = [] := rfl
@[simp] theorem an_books_areVolumes_int_exits : an_books_areVolumes_int.exits = [(0, [3]), (1, [3, 6, 7, 8])] := rfl
@[simp] theorem an_books_areVolumes_int_rets : an_books_areVolumes_int.rets = some [2] := rfl
@[simp] theorem an_books_areVolumes_int_keep : an_books_areVolumes_int.keep = [2, 3, 5, 6, 7, 8] := rfl
@[simp] theorem an_books_areVolumes_int_cond : an_books_areVolumes_int.cond = [9, 17] := rfl
@[simp] theorem an_books_areVolumes_int_rows : an_books_areVolumes_int.rows = [] := rfl
@[simp] theorem an_books_areVolumes_int_loops : an_books_areVolumes_int.loops = [(3, [3, 6, 7, 8])] := rfl
@[simp] theorem an_books_areVolumes_int_ecalls : an_books_areVolumes_int.ecalls = [] := rfl
@[simp] theorem an_books_areVolumes_int_crows : an_books_areVolumes_int.crows = [(57, 0, 3, 1), (57, 1, 3, 1), (57, 2, 41, 3)] := rfl
@[simp] theorem an_books_areVolumes_int_tails : an_books_areVolumes_int.tails = [] := rfl
@[simp] noncomputable def cl_books_areVolumes_int : List (Nat × (List D → Option D)) := []
@[simp] noncomputable def ce_books_areVolumes_int : List (Nat × (List (Nat × O) → List D → Option (D × List (Nat × O)))) := []
noncomputable def c_books_areVolumes_int : CT := ⟨callOf (cl_books_areVolumes_int ), callOfE ce_books_areVolumes_int, gl⟩
@[simp] theorem c_books_areVolumes_int_p (f : FuncId) (ds : List D) : c_books_areVolumes_int.p f ds = callOf (cl_books_areVolumes_int ) f ds := Eq.trans rfl rfl
@[simp] theorem c_books_areVolumes_int_e (f : FuncId) (hs : List (Nat × O)) (ds : List D) : c_books_areVolumes_int.e f hs ds = callOfE ce_books_areVolumes_int f hs ds := Eq.trans rfl rfl
@[simp] theorem c_books_areVolumes_int_g (g : Nat) : c_books_areVolumes_int.g g = gl g := Eq.trans rfl rfl
noncomputable def L_books_areVolumes_int (i n : Nat) (s : St) : Option (E × St) := atN Try.prog c_books_areVolumes_int an_books_areVolumes_int 24 (bodyOf Try.f31) i n s
noncomputable def H_books_areVolumes_int (n i : Nat) (s : St) : Option (E × St) := atH Try.prog c_books_areVolumes_int an_books_areVolumes_int 24 (bodyOf Try.f31) n i s
@[simp] theorem H_books_areVolumes_int_eq (n i : Nat) (s : St) : H_books_areVolumes_int n i s = L_books_areVolumes_int i n (headOf (an_books_areVolumes_int.loops.lookup i) s) := rfl
noncomputable def R_books_areVolumes_int (i : Nat) (s : St) : Option (E × St) := stepL Try.prog c_books_areVolumes_int an_books_areVolumes_int 24 (bodyOf Try.f31) i s
theorem lok_books_areVolumes_int : okLoops (bodyOf Try.f31) = true := by kernel_rfl
theorem L_books_areVolumes_int_succ (i n : Nat) (s : St) : L_books_areVolumes_int i (n + 1) s = andThen (R_books_areVolumes_int i s) (H_books_areVolumes_int n i) := atN_succ lok_books_areVolumes_int (by kernel_rfl) i n s
theorem R_books_areVolumes_int_eq (i : Nat) (s : St) : R_books_areVolumes_int i s = runS Try.prog c_books_areVolumes_int (H_books_areVolumes_int bigL) an_books_areVolumes_int 24 (loopAt (bodyOf Try.f31) i) s := rfl
noncomputable def F_books_areVolumes_int (ds : List D) : Option D := runF Try.prog c_books_areVolumes_int an_books_areVolumes_int 24 (bodyOf Try.f31) [.tmp 2] ds
theorem F_books_areVolumes_int_eq (ds : List D) : F_books_areVolumes_int ds = runG Try.prog c_books_areVolumes_int (H_books_areVolumes_int bigL) an_books_areVolumes_int 24 (bodyOf Try.f31) [.tmp 2] ds := runG_eq lok_books_areVolumes_int _ ds
theorem C_books_areVolumes_int (ds : List D) (r : D) (h : F_books_areVolumes_int ds = some r) : Contract Try.prog gl 31 ds r := contract_of mix Try.func31 rfl (by kernel_rfl) (by kernel_rfl) (by decide) (call := c_books_areVolumes_int) ⟨callOf_ok cl_books_areVolumes_int trivial, callOfE_ok ce_books_areVolumes_int trivial⟩ h
-- sawmill/books.Recut: loops []; state: params 0..3, then [8, 9, 10]
attribute [simp] Try.f13
noncomputable def an_books_Recut : Ann := ⟨[2, 3, 8, 9, 10], [16, 20], [], [], [], some [8], [], [], [(57, 0, 3, 1), (57, 1, 3, 1), (57, 2, 41, 3)], []⟩
@[simp] theorem an_books_Recut_draws : an_books_Recut.draws = [] := rfl
@[simp] theorem an_books_Recut_exits : an_books_Recut.exits = [] := rfl
@[simp] theorem an_books_Recut_rets : an_books_Recut.rets = some [8] := rfl
@[simp] theorem an_books_Recut_keep : an_books_Recut.keep = [2, 3, 8, 9, 10] := rfl
@[simp] theorem an_books_Recut_cond : an_books_Recut.cond = [16, 20] := rfl
@[simp] theorem an_books_Recut_rows : an_books_Recut.rows = [] := rfl
@[simp] theorem an_books_Recut_loops : an_books_Recut.loops = [] := rfl
@[simp] theorem an_books_Recut_ecalls : an_books_Recut.ecalls = [] := rfl
@[simp] theorem an_books_Recut_crows : an_books_Recut.crows = [(57, 0, 3, 1), (57, 1, 3, 1), (57, 2, 41, 3)] := rfl
@[simp] theorem an_books_Recut_tails : an_books_Recut.tails = [] := rfl
@[simp] noncomputable def cl_books_Recut : List (Nat × (List D → Option D)) := [(30, F_books_postings_int), (31, F_books_areVolumes_int)]
@[simp] noncomputable def ce_books_Recut : List (Nat × (List (Nat × O) → List D → Option (D × List (Nat × O)))) := []
noncomputable def c_books_Recut : CT := ⟨callOf (cl_books_Recut ), callOfE ce_books_Recut, gl⟩
@[simp] theorem c_books_Recut_p (f : FuncId) (ds : List D) : c_books_Recut.p f ds = callOf (cl_books_Recut ) f ds := Eq.trans rfl rfl
@[simp] theorem c_books_Recut_e (f : FuncId) (hs : List (Nat × O)) (ds : List D) : c_books_Recut.e f hs ds = callOfE ce_books_Recut f hs ds := Eq.trans rfl rfl
@[simp] theorem c_books_Recut_g (g : Nat) : c_books_Recut.g g = gl g := Eq.trans rfl rfl
noncomputable def L_books_Recut (i n : Nat) (s : St) : Option (E × St) := atN Try.prog c_books_Recut an_books_Recut 29 (bodyOf Try.f13) i n s
noncomputable def H_books_Recut (n i : Nat) (s : St) : Option (E × St) := atH Try.prog c_books_Recut an_books_Recut 29 (bodyOf Try.f13) n i s
@[simp] theorem H_books_Recut_eq (n i : Nat) (s : St) : H_books_Recut n i s = L_books_Recut i n (headOf (an_books_Recut.loops.lookup i) s) := rfl
noncomputable def R_books_Recut (i : Nat) (s : St) : Option (E × St) := stepL Try.prog c_books_Recut an_books_Recut 29 (bodyOf Try.f13) i s
theorem lok_books_Recut : okLoops (bodyOf Try.f13) = true := by kernel_rfl
noncomputable def F_books_Recut (ds : List D) : Option D := runF Try.prog c_books_Recut an_books_Recut 29 (bodyOf Try.f13) [.tmp 8] ds
theorem F_books_Recut_eq (ds : List D) : F_books_Recut ds = runG Try.prog c_books_Recut (H_books_Recut bigL) an_books_Recut 29 (bodyOf Try.f13) [.tmp 8] ds := runG_eq lok_books_Recut _ ds
theorem C_books_Recut (ds : List D) (r : D) (h : F_books_Recut ds = some r) : Contract Try.prog gl 13 ds r := contract_of mix Try.func13 rfl (by kernel_rfl) (by kernel_rfl) (by decide) (call := c_books_Recut) ⟨callOf_ok cl_books_Recut ⟨C_books_postings_int, C_books_areVolumes_int, trivial⟩, callOfE_ok ce_books_Recut trivial⟩ h
-- sawmill/sawmillref52.Same: loops [4]; state: params 0..1, then [4, 5]
attribute [simp] Try.f14
noncomputable def an_ref52_Same : Ann := ⟨[0, 1, 4, 5], [10, 14, 25], [], [(4, [0, 1, 5])], [(0, []), (1, [0, 1, 5])], some [4], [(6, 8)], [], [(57, 0, 3, 1), (57, 1, 3, 1), (57, 2, 41, 3)], []⟩
@[simp] theorem an_ref52_Same_draws : an_ref52_Same.draws = [(6, 8)] := rfl
@[simp] theorem an_ref52_Same_exits : an_ref52_Same.exits = [(0, []), (1, [0, 1, 5])] := rfl
@[simp] theorem an_ref52_Same_rets : an_ref52_Same.rets = some [4] := rfl
@[simp] theorem an_ref52_Same_keep : an_ref52_Same.keep = [0, 1, 4, 5] := rfl
@[simp] theorem an_ref52_Same_cond : an_ref52_Same.cond = [10, 14, 25] := rfl
@[simp] theorem an_ref52_Same_rows : an_ref52_Same.rows = [] := rfl
@[simp] theorem an_ref52_Same_loops : an_ref52_Same.loops = [(4, [0, 1, 5])] := rfl
@[simp] theorem an_ref52_Same_ecalls : an_ref52_Same.ecalls = [] := rfl
@[simp] theorem an_ref52_Same_crows : an_ref52_Same.crows = [(57, 0, 3, 1), (57, 1, 3, 1), (57, 2, 41, 3)] := rfl
@[simp] theorem an_ref52_Same_tails : an_ref52_Same.tails = [] := rfl
@[simp] noncomputable def cl_ref52_Same : List (Nat × (List D → Option D)) := []
@[simp] noncomputable def ce_ref52_Same : List (Nat × (List (Nat × O) → List D → Option (D × List (Nat × O)))) := []
noncomputable def c_ref52_Same : CT := ⟨callOf (cl_ref52_Same ), callOfE ce_ref52_Same, gl⟩
@[simp] theorem c_ref52_Same_p (f : FuncId) (ds : List D) : c_ref52_Same.p f ds = callOf (cl_ref52_Same ) f ds := Eq.trans rfl rfl
@[simp] theorem c_ref52_Same_e (f : FuncId) (hs : List (Nat × O)) (ds : List D) : c_ref52_Same.e f hs ds = callOfE ce_ref52_Same f hs ds := Eq.trans rfl rfl
@[simp] theorem c_ref52_Same_g (g : Nat) : c_ref52_Same.g g = gl g := Eq.trans rfl rfl
noncomputable def L_ref52_Same (i n : Nat) (s : St) : Option (E × St) := atN Try.prog c_ref52_Same an_ref52_Same 26 (bodyOf Try.f14) i n s
noncomputable def H_ref52_Same (n i : Nat) (s : St) : Option (E × St) := atH Try.prog c_ref52_Same an_ref52_Same 26 (bodyOf Try.f14) n i s
@[simp] theorem H_ref52_Same_eq (n i : Nat) (s : St) : H_ref52_Same n i s = L_ref52_Same i n (headOf (an_ref52_Same.loops.lookup i) s) := rfl
noncomputable def R_ref52_Same (i : Nat) (s : St) : Option (E × St) := stepL Try.prog c_ref52_Same an_ref52_Same 26 (bodyOf Try.f14) i s
theorem lok_ref52_Same : okLoops (bodyOf Try.f14) = true := by kernel_rfl
theorem L_ref52_Same_succ (i n : Nat) (s : St) : L_ref52_Same i (n + 1) s = andThen (R_ref52_Same i s) (H_ref52_Same n i) := atN_succ lok_ref52_Same (by kernel_rfl) i n s
theorem R_ref52_Same_eq (i : Nat) (s : St) : R_ref52_Same i s = runS Try.prog c_ref52_Same (H_ref52_Same bigL) an_ref52_Same 26 (loopAt (bodyOf Try.f14) i) s := rfl
noncomputable def F_ref52_Same (ds : List D) : Option D := runF Try.prog c_ref52_Same an_ref52_Same 26 (bodyOf Try.f14) [.tmp 4] ds
theorem F_ref52_Same_eq (ds : List D) : F_ref52_Same ds = runG Try.prog c_ref52_Same (H_ref52_Same bigL) an_ref52_Same 26 (bodyOf Try.f14) [.tmp 4] ds := runG_eq lok_ref52_Same _ ds
theorem C_ref52_Same (ds : List D) (r : D) (h : F_ref52_Same ds = some r) : Contract Try.prog gl 14 ds r := contract_of mix Try.func14 rfl (by kernel_rfl) (by kernel_rfl) (by decide) (call := c_ref52_Same) ⟨callOf_ok cl_ref52_Same trivial, callOfE_ok ce_ref52_Same trivial⟩ h
-- sawmill/books.Sold: loops []; state: params 0..1, then [4]
attribute [simp] Try.f15
noncomputable def an_books_Sold : Ann := ⟨[0, 1, 4], [9], [], [], [], some [4], [], [], [(57, 0, 3, 1), (57, 1, 3, 1), (57, 2, 41, 3)], []⟩
@[simp] theorem an_books_Sold_draws : an_books_Sold.draws = [] := rfl
@[simp] theorem an_books_Sold_exits : an_books_Sold.exits = [] := rfl
@[simp] theorem an_books_Sold_rets : an_books_Sold.rets = some [4] := rfl
@[simp] theorem an_books_Sold_keep : an_books_Sold.keep = [0, 1, 4] := rfl
@[simp] theorem an_books_Sold_cond : an_books_Sold.cond = [9] := rfl
@[simp] theorem an_books_Sold_rows : an_books_Sold.rows = [] := rfl
@[simp] theorem an_books_Sold_loops : an_books_Sold.loops = [] := rfl
@[simp] theorem an_books_Sold_ecalls : an_books_Sold.ecalls = [] := rfl
@[simp] theorem an_books_Sold_crows : an_books_Sold.crows = [(57, 0, 3, 1), (57, 1, 3, 1), (57, 2, 41, 3)] := rfl
@[simp] theorem an_books_Sold_tails : an_books_Sold.tails = [] := rfl
@[simp] noncomputable def cl_books_Sold : List (Nat × (List D → Option D)) := [(30, F_books_postings_int), (31, F_books_areVolumes_int)]
@[simp] noncomputable def ce_books_Sold : List (Nat × (List (Nat × O) → List D → Option (D × List (Nat × O)))) := []
noncomputable def c_books_Sold : CT := ⟨callOf (cl_books_Sold ), callOfE ce_books_Sold, gl⟩
@[simp] theorem c_books_Sold_p (f : FuncId) (ds : List D) : c_books_Sold.p f ds = callOf (cl_books_Sold ) f ds := Eq.trans rfl rfl
@[simp] theorem c_books_Sold_e (f : FuncId) (hs : List (Nat × O)) (ds : List D) : c_books_Sold.e f hs ds = callOfE ce_books_Sold f hs ds := Eq.trans rfl rfl
@[simp] theorem c_books_Sold_g (g : Nat) : c_books_Sold.g g = gl g := Eq.trans rfl rfl
noncomputable def L_books_Sold (i n : Nat) (s : St) : Option (E × St) := atN Try.prog c_books_Sold an_books_Sold 19 (bodyOf Try.f15) i n s
noncomputable def H_books_Sold (n i : Nat) (s : St) : Option (E × St) := atH Try.prog c_books_Sold an_books_Sold 19 (bodyOf Try.f15) n i s
@[simp] theorem H_books_Sold_eq (n i : Nat) (s : St) : H_books_Sold n i s = L_books_Sold i n (headOf (an_books_Sold.loops.lookup i) s) := rfl
noncomputable def R_books_Sold (i : Nat) (s : St) : Option (E × St) := stepL Try.prog c_books_Sold an_books_Sold 19 (bodyOf Try.f15) i s
theorem lok_books_Sold : okLoops (bodyOf Try.f15) = true := by kernel_rfl
noncomputable def F_books_Sold (ds : List D) : Option D := runF Try.prog c_books_Sold an_books_Sold 19 (bodyOf Try.f15) [.tmp 4] ds
theorem F_books_Sold_eq (ds : List D) : F_books_Sold ds = runG Try.prog c_books_Sold (H_books_Sold bigL) an_books_Sold 19 (bodyOf Try.f15) [.tmp 4] ds := runG_eq lok_books_Sold _ ds
theorem C_books_Sold (ds : List D) (r : D) (h : F_books_Sold ds = some r) : Contract Try.prog gl 15 ds r := contract_of mix Try.func15 rfl (by kernel_rfl) (by kernel_rfl) (by decide) (call := c_books_Sold) ⟨callOf_ok cl_books_Sold ⟨C_books_postings_int, C_books_areVolumes_int, trivial⟩, callOfE_ok ce_books_Sold trivial⟩ h
-- sawmill/books.Scanned: loops []; state: params 0..0, then [2]
attribute [simp] Try.f16
noncomputable def an_books_Scanned : Ann := ⟨[0, 2], [6], [], [], [], some [2], [], [], [(57, 0, 3, 1), (57, 1, 3, 1), (57, 2, 41, 3)], []⟩
@[simp] theorem an_books_Scanned_draws : an_books_Scanned.draws = [] := rfl
@[simp] theorem an_books_Scanned_exits : an_books_Scanned.exits = [] := rfl
@[simp] theorem an_books_Scanned_rets : an_books_Scanned.rets = some [2] := rfl
@[simp] theorem an_books_Scanned_keep : an_books_Scanned.keep = [0, 2] := rfl
@[simp] theorem an_books_Scanned_cond : an_books_Scanned.cond = [6] := rfl
@[simp] theorem an_books_Scanned_rows : an_books_Scanned.rows = [] := rfl
@[simp] theorem an_books_Scanned_loops : an_books_Scanned.loops = [] := rfl
@[simp] theorem an_books_Scanned_ecalls : an_books_Scanned.ecalls = [] := rfl
@[simp] theorem an_books_Scanned_crows : an_books_Scanned.crows = [(57, 0, 3, 1), (57, 1, 3, 1), (57, 2, 41, 3)] := rfl
@[simp] theorem an_books_Scanned_tails : an_books_Scanned.tails = [] := rfl
@[simp] noncomputable def cl_books_Scanned : List (Nat × (List D → Option D)) := [(30, F_books_postings_int), (31, F_books_areVolumes_int)]
@[simp] noncomputable def ce_books_Scanned : List (Nat × (List (Nat × O) → List D → Option (D × List (Nat × O)))) := []
noncomputable def c_books_Scanned : CT := ⟨callOf (cl_books_Scanned ), callOfE ce_books_Scanned, gl⟩
@[simp] theorem c_books_Scanned_p (f : FuncId) (ds : List D) : c_books_Scanned.p f ds = callOf (cl_books_Scanned ) f ds := Eq.trans rfl rfl
@[simp] theorem c_books_Scanned_e (f : FuncId) (hs : List (Nat × O)) (ds : List D) : c_books_Scanned.e f hs ds = callOfE ce_books_Scanned f hs ds := Eq.trans rfl rfl
@[simp] theorem c_books_Scanned_g (g : Nat) : c_books_Scanned.g g = gl g := Eq.trans rfl rfl
noncomputable def L_books_Scanned (i n : Nat) (s : St) : Option (E × St) := atN Try.prog c_books_Scanned an_books_Scanned 12 (bodyOf Try.f16) i n s
noncomputable def H_books_Scanned (n i : Nat) (s : St) : Option (E × St) := atH Try.prog c_books_Scanned an_books_Scanned 12 (bodyOf Try.f16) n i s
@[simp] theorem H_books_Scanned_eq (n i : Nat) (s : St) : H_books_Scanned n i s = L_books_Scanned i n (headOf (an_books_Scanned.loops.lookup i) s) := rfl
noncomputable def R_books_Scanned (i : Nat) (s : St) : Option (E × St) := stepL Try.prog c_books_Scanned an_books_Scanned 12 (bodyOf Try.f16) i s
theorem lok_books_Scanned : okLoops (bodyOf Try.f16) = true := by kernel_rfl
noncomputable def F_books_Scanned (ds : List D) : Option D := runF Try.prog c_books_Scanned an_books_Scanned 12 (bodyOf Try.f16) [.tmp 2] ds
theorem F_books_Scanned_eq (ds : List D) : F_books_Scanned ds = runG Try.prog c_books_Scanned (H_books_Scanned bigL) an_books_Scanned 12 (bodyOf Try.f16) [.tmp 2] ds := runG_eq lok_books_Scanned _ ds
theorem C_books_Scanned (ds : List D) (r : D) (h : F_books_Scanned ds = some r) : Contract Try.prog gl 16 ds r := contract_of mix Try.func16 rfl (by kernel_rfl) (by kernel_rfl) (by decide) (call := c_books_Scanned) ⟨callOf_ok cl_books_Scanned ⟨C_books_postings_int, C_books_areVolumes_int, trivial⟩, callOfE_ok ce_books_Scanned trivial⟩ h
-- sawmill/sawmilllaw52.awake: loops []; state: params 0..-1, then [0, 1, 2, 4, 5]
attribute [simp] Try.f4
noncomputable def an_law52_awake : Ann := ⟨[0, 1, 2, 4, 5], [], [], [], [], some [0], [], [], [(57, 0, 3, 1), (57, 1, 3, 1), (57, 2, 41, 3)], []⟩
@[simp] theorem an_law52_awake_draws : an_law52_awake.draws = [] := rfl
@[simp] theorem an_law52_awake_exits : an_law52_awake.exits = [] := rfl
@[simp] theorem an_law52_awake_rets : an_law52_awake.rets = some [0] := rfl
@[simp] theorem an_law52_awake_keep : an_law52_awake.keep = [0, 1, 2, 4, 5] := rfl
@[simp] theorem an_law52_awake_cond : an_law52_awake.cond = [] := rfl
@[simp] theorem an_law52_awake_rows : an_law52_awake.rows = [] := rfl
@[simp] theorem an_law52_awake_loops : an_law52_awake.loops = [] := rfl
@[simp] theorem an_law52_awake_ecalls : an_law52_awake.ecalls = [] := rfl
@[simp] theorem an_law52_awake_crows : an_law52_awake.crows = [(57, 0, 3, 1), (57, 1, 3, 1), (57, 2, 41, 3)] := rfl
@[simp] theorem an_law52_awake_tails : an_law52_awake.tails = [] := rfl
@[simp] noncomputable def cl_law52_awake : List (Nat × (List D → Option D)) := [(5, F_books_Accounts), (12, F_books_Sawn), (13, F_books_Recut), (14, F_ref52_Same), (15, F_books_Sold), (16, F_books_Scanned)]
@[simp] noncomputable def ce_law52_awake : List (Nat × (List (Nat × O) → List D → Option (D × List (Nat × O)))) := []
noncomputable def c_law52_awake : CT := ⟨callOf (cl_law52_awake ), callOfE ce_law52_awake, gl⟩
@[simp] theorem c_law52_awake_p (f : FuncId) (ds : List D) : c_law52_awake.p f ds = callOf (cl_law52_awake ) f ds := Eq.trans rfl rfl
@[simp] theorem c_law52_awake_e (f : FuncId) (hs : List (Nat × O)) (ds : List D) : c_law52_awake.e f hs ds = callOfE ce_law52_awake f hs ds := Eq.trans rfl rfl
@[simp] theorem c_law52_awake_g (g : Nat) : c_law52_awake.g g = gl g := Eq.trans rfl rfl
noncomputable def L_law52_awake (i n : Nat) (s : St) : Option (E × St) := atN Try.prog c_law52_awake an_law52_awake 61 (bodyOf Try.f4) i n s
noncomputable def H_law52_awake (n i : Nat) (s : St) : Option (E × St) := atH Try.prog c_law52_awake an_law52_awake 61 (bodyOf Try.f4) n i s
@[simp] theorem H_law52_awake_eq (n i : Nat) (s : St) : H_law52_awake n i s = L_law52_awake i n (headOf (an_law52_awake.loops.lookup i) s) := rfl
noncomputable def R_law52_awake (i : Nat) (s : St) : Option (E × St) := stepL Try.prog c_law52_awake an_law52_awake 61 (bodyOf Try.f4) i s
theorem lok_law52_awake : okLoops (bodyOf Try.f4) = true := by kernel_rfl
noncomputable def F_law52_awake (ds : List D) : Option D := runF Try.prog c_law52_awake an_law52_awake 61 (bodyOf Try.f4) [.tmp 0] ds
theorem F_law52_awake_eq (ds : List D) : F_law52_awake ds = runG Try.prog c_law52_awake (H_law52_awake bigL) an_law52_awake 61 (bodyOf Try.f4) [.tmp 0] ds := runG_eq lok_law52_awake _ ds
theorem C_law52_awake (ds : List D) (r : D) (h : F_law52_awake ds = some r) : Contract Try.prog gl 4 ds r := contract_of mix Try.func4 rfl (by kernel_rfl) (by kernel_rfl) (by decide) (call := c_law52_awake) ⟨callOf_ok cl_law52_awake ⟨C_books_Accounts, C_books_Sawn, C_books_Recut, C_ref52_Same, C_books_Sold, C_books_Scanned, trivial⟩, callOfE_ok ce_law52_awake trivial⟩ h
-- sawmill/ident.isSmall: loops []; state: params 0..0, then [2]
attribute [simp] Try.f32
noncomputable def an_ident_isSmall : Ann := ⟨[2], [], [], [], [], some [2], [], [], [(57, 0, 3, 1), (57, 1, 3, 1), (57, 2, 41, 3)], []⟩
@[simp] theorem an_ident_isSmall_draws : an_ident_isSmall.draws = [] := rfl
@[simp] theorem an_ident_isSmall_exits : an_ident_isSmall.exits = [] := rfl
@[simp] theorem an_ident_isSmall_rets : an_ident_isSmall.rets = some [2] := rfl
@[simp] theorem an_ident_isSmall_keep : an_ident_isSmall.keep = [2] := rfl
@[simp] theorem an_ident_isSmall_cond : an_ident_isSmall.cond = [] := rfl
@[simp] theorem an_ident_isSmall_rows : an_ident_isSmall.rows = [] := rfl
@[simp] theorem an_ident_isSmall_loops : an_ident_isSmall.loops = [] := rfl
@[simp] theorem an_ident_isSmall_ecalls : an_ident_isSmall.ecalls = [] := rfl
@[simp] theorem an_ident_isSmall_crows : an_ident_isSmall.crows = [(57, 0, 3, 1), (57, 1, 3, 1), (57, 2, 41, 3)] := rfl
@[simp] theorem an_ident_isSmall_tails : an_ident_isSmall.tails = [] := rfl
@[simp] noncomputable def cl_ident_isSmall : List (Nat × (List D → Option D)) := []
@[simp] noncomputable def ce_ident_isSmall : List (Nat × (List (Nat × O) → List D → Option (D × List (Nat × O)))) := []
noncomputable def c_ident_isSmall : CT := ⟨callOf (cl_ident_isSmall ), callOfE ce_ident_isSmall, gl⟩
@[simp] theorem c_ident_isSmall_p (f : FuncId) (ds : List D) : c_ident_isSmall.p f ds = callOf (cl_ident_isSmall ) f ds := Eq.trans rfl rfl
@[simp] theorem c_ident_isSmall_e (f : FuncId) (hs : List (Nat × O)) (ds : List D) : c_ident_isSmall.e f hs ds = callOfE ce_ident_isSmall f hs ds := Eq.trans rfl rfl
@[simp] theorem c_ident_isSmall_g (g : Nat) : c_ident_isSmall.g g = gl g := Eq.trans rfl rfl
noncomputable def L_ident_isSmall (i n : Nat) (s : St) : Option (E × St) := atN Try.prog c_ident_isSmall an_ident_isSmall 9 (bodyOf Try.f32) i n s
noncomputable def H_ident_isSmall (n i : Nat) (s : St) : Option (E × St) := atH Try.prog c_ident_isSmall an_ident_isSmall 9 (bodyOf Try.f32) n i s
@[simp] theorem H_ident_isSmall_eq (n i : Nat) (s : St) : H_ident_isSmall n i s = L_ident_isSmall i n (headOf (an_ident_isSmall.loops.lookup i) s) := rfl
noncomputable def R_ident_isSmall (i : Nat) (s : St) : Option (E × St) := stepL Try.prog c_ident_isSmall an_ident_isSmall 9 (bodyOf Try.f32) i s
theorem lok_ident_isSmall : okLoops (bodyOf Try.f32) = true := by kernel_rfl
noncomputable def F_ident_isSmall (ds : List D) : Option D := runF Try.prog c_ident_isSmall an_ident_isSmall 9 (bodyOf Try.f32) [.tmp 2] ds
theorem F_ident_isSmall_eq (ds : List D) : F_ident_isSmall ds = runG Try.prog c_ident_isSmall (H_ident_isSmall bigL) an_ident_isSmall 9 (bodyOf Try.f32) [.tmp 2] ds := runG_eq lok_ident_isSmall _ ds
theorem C_ident_isSmall (ds : List D) (r : D) (h : F_ident_isSmall ds = some r) : Contract Try.prog gl 32 ds r := contract_of mix Try.func32 rfl (by kernel_rfl) (by kernel_rfl) (by decide) (call := c_ident_isSmall) ⟨callOf_ok cl_ident_isSmall trivial, callOfE_ok ce_ident_isSmall trivial⟩ h
-- sawmill/ident.isDigit: loops []; state: params 0..0, then [2]
attribute [simp] Try.f33
noncomputable def an_ident_isDigit : Ann := ⟨[2], [], [], [], [], some [2], [], [], [(57, 0, 3, 1), (57, 1, 3, 1), (57, 2, 41, 3)], []⟩
@[simp] theorem an_ident_isDigit_draws : an_ident_isDigit.draws = [] := rfl
@[simp] theorem an_ident_isDigit_exits : an_ident_isDigit.exits = [] := rfl
@[simp] theorem an_ident_isDigit_rets : an_ident_isDigit.rets = some [2] := rfl
@[simp] theorem an_ident_isDigit_keep : an_ident_isDigit.keep = [2] := rfl
@[simp] theorem an_ident_isDigit_cond : an_ident_isDigit.cond = [] := rfl
@[simp] theorem an_ident_isDigit_rows : an_ident_isDigit.rows = [] := rfl
@[simp] theorem an_ident_isDigit_loops : an_ident_isDigit.loops = [] := rfl
@[simp] theorem an_ident_isDigit_ecalls : an_ident_isDigit.ecalls = [] := rfl
@[simp] theorem an_ident_isDigit_crows : an_ident_isDigit.crows = [(57, 0, 3, 1), (57, 1, 3, 1), (57, 2, 41, 3)] := rfl
@[simp] theorem an_ident_isDigit_tails : an_ident_isDigit.tails = [] := rfl
@[simp] noncomputable def cl_ident_isDigit : List (Nat × (List D → Option D)) := []
@[simp] noncomputable def ce_ident_isDigit : List (Nat × (List (Nat × O) → List D → Option (D × List (Nat × O)))) := []
noncomputable def c_ident_isDigit : CT := ⟨callOf (cl_ident_isDigit ), callOfE ce_ident_isDigit, gl⟩
@[simp] theorem c_ident_isDigit_p (f : FuncId) (ds : List D) : c_ident_isDigit.p f ds = callOf (cl_ident_isDigit ) f ds := Eq.trans rfl rfl
@[simp] theorem c_ident_isDigit_e (f : FuncId) (hs : List (Nat × O)) (ds : List D) : c_ident_isDigit.e f hs ds = callOfE ce_ident_isDigit f hs ds := Eq.trans rfl rfl
@[simp] theorem c_ident_isDigit_g (g : Nat) : c_ident_isDigit.g g = gl g := Eq.trans rfl rfl
noncomputable def L_ident_isDigit (i n : Nat) (s : St) : Option (E × St) := atN Try.prog c_ident_isDigit an_ident_isDigit 9 (bodyOf Try.f33) i n s
noncomputable def H_ident_isDigit (n i : Nat) (s : St) : Option (E × St) := atH Try.prog c_ident_isDigit an_ident_isDigit 9 (bodyOf Try.f33) n i s
@[simp] theorem H_ident_isDigit_eq (n i : Nat) (s : St) : H_ident_isDigit n i s = L_ident_isDigit i n (headOf (an_ident_isDigit.loops.lookup i) s) := rfl
noncomputable def R_ident_isDigit (i : Nat) (s : St) : Option (E × St) := stepL Try.prog c_ident_isDigit an_ident_isDigit 9 (bodyOf Try.f33) i s
theorem lok_ident_isDigit : okLoops (bodyOf Try.f33) = true := by kernel_rfl
noncomputable def F_ident_isDigit (ds : List D) : Option D := runF Try.prog c_ident_isDigit an_ident_isDigit 9 (bodyOf Try.f33) [.tmp 2] ds
theorem F_ident_isDigit_eq (ds : List D) : F_ident_isDigit ds = runG Try.prog c_ident_isDigit (H_ident_isDigit bigL) an_ident_isDigit 9 (bodyOf Try.f33) [.tmp 2] ds := runG_eq lok_ident_isDigit _ ds
theorem C_ident_isDigit (ds : List D) (r : D) (h : F_ident_isDigit ds = some r) : Contract Try.prog gl 33 ds r := contract_of mix Try.func33 rfl (by kernel_rfl) (by kernel_rfl) (by decide) (call := c_ident_isDigit) ⟨callOf_ok cl_ident_isDigit trivial, callOfE_ok ce_ident_isDigit trivial⟩ h
-- sawmill/ident.IsName: loops [4]; state: params 0..0, then [2, 3, 4]
attribute [simp] Try.f17
noncomputable def an_ident_IsName : Ann := ⟨[0, 2, 3, 4], [18, 22, 39], [], [(4, [0, 3])], [(0, []), (1, [0, 3])], some [2], [], [], [(57, 0, 3, 1), (57, 1, 3, 1), (57, 2, 41, 3)], []⟩
@[simp] theorem an_ident_IsName_draws : an_ident_IsName.draws = [] := rfl
@[simp] theorem an_ident_IsName_exits : an_ident_IsName.exits = [(0, []), (1, [0, 3])] := rfl
@[simp] theorem an_ident_IsName_rets : an_ident_IsName.rets = some [2] := rfl
@[simp] theorem an_ident_IsName_keep : an_ident_IsName.keep = [0, 2, 3, 4] := rfl
@[simp] theorem an_ident_IsName_cond : an_ident_IsName.cond = [18, 22, 39] := rfl
@[simp] theorem an_ident_IsName_rows : an_ident_IsName.rows = [] := rfl
@[simp] theorem an_ident_IsName_loops : an_ident_IsName.loops = [(4, [0, 3])] := rfl
@[simp] theorem an_ident_IsName_ecalls : an_ident_IsName.ecalls = [] := rfl
@[simp] theorem an_ident_IsName_crows : an_ident_IsName.crows = [(57, 0, 3, 1), (57, 1, 3, 1), (57, 2, 41, 3)] := rfl
@[simp] theorem an_ident_IsName_tails : an_ident_IsName.tails = [] := rfl
@[simp] noncomputable def cl_ident_IsName : List (Nat × (List D → Option D)) := [(32, F_ident_isSmall), (33, F_ident_isDigit)]
@[simp] noncomputable def ce_ident_IsName : List (Nat × (List (Nat × O) → List D → Option (D × List (Nat × O)))) := []
noncomputable def c_ident_IsName : CT := ⟨callOf (cl_ident_IsName ), callOfE ce_ident_IsName, gl⟩
@[simp] theorem c_ident_IsName_p (f : FuncId) (ds : List D) : c_ident_IsName.p f ds = callOf (cl_ident_IsName ) f ds := Eq.trans rfl rfl
@[simp] theorem c_ident_IsName_e (f : FuncId) (hs : List (Nat × O)) (ds : List D) : c_ident_IsName.e f hs ds = callOfE ce_ident_IsName f hs ds := Eq.trans rfl rfl
@[simp] theorem c_ident_IsName_g (g : Nat) : c_ident_IsName.g g = gl g := Eq.trans rfl rfl
noncomputable def L_ident_IsName (i n : Nat) (s : St) : Option (E × St) := atN Try.prog c_ident_IsName an_ident_IsName 40 (bodyOf Try.f17) i n s
noncomputable def H_ident_IsName (n i : Nat) (s : St) : Option (E × St) := atH Try.prog c_ident_IsName an_ident_IsName 40 (bodyOf Try.f17) n i s
@[simp] theorem H_ident_IsName_eq (n i : Nat) (s : St) : H_ident_IsName n i s = L_ident_IsName i n (headOf (an_ident_IsName.loops.lookup i) s) := rfl
noncomputable def R_ident_IsName (i : Nat) (s : St) : Option (E × St) := stepL Try.prog c_ident_IsName an_ident_IsName 40 (bodyOf Try.f17) i s
theorem lok_ident_IsName : okLoops (bodyOf Try.f17) = true := by kernel_rfl
theorem L_ident_IsName_succ (i n : Nat) (s : St) : L_ident_IsName i (n + 1) s = andThen (R_ident_IsName i s) (H_ident_IsName n i) := atN_succ lok_ident_IsName (by kernel_rfl) i n s
theorem R_ident_IsName_eq (i : Nat) (s : St) : R_ident_IsName i s = runS Try.prog c_ident_IsName (H_ident_IsName bigL) an_ident_IsName 40 (loopAt (bodyOf Try.f17) i) s := rfl
noncomputable def F_ident_IsName (ds : List D) : Option D := runF Try.prog c_ident_IsName an_ident_IsName 40 (bodyOf Try.f17) [.tmp 2] ds
theorem F_ident_IsName_eq (ds : List D) : F_ident_IsName ds = runG Try.prog c_ident_IsName (H_ident_IsName bigL) an_ident_IsName 40 (bodyOf Try.f17) [.tmp 2] ds := runG_eq lok_ident_IsName _ ds
theorem C_ident_IsName (ds : List D) (r : D) (h : F_ident_IsName ds = some r) : Contract Try.prog gl 17 ds r := contract_of mix Try.func17 rfl (by kernel_rfl) (by kernel_rfl) (by decide) (call := c_ident_IsName) ⟨callOf_ok cl_ident_IsName ⟨C_ident_isSmall, C_ident_isDigit, trivial⟩, callOfE_ok ce_ident_IsName trivial⟩ h
-- sawmill/ledger.New: loops [5]; state: params 0..0, then [2, 3, 4, 6, 8, 16, 17, 18]; WITH OBJECTS
attribute [simp] Try.f6
noncomputable def an_ledger_New : Ann := ⟨[0, 2, 3, 4, 6, 8, 16, 17, 18], [11, 19, 24, 34], [], [(5, [4, 16, 17, 18])], [(0, [4]), (1, [4, 16, 17, 18])], some [2, 3], [], [], [(57, 0, 3, 1), (57, 1, 3, 1), (57, 2, 41, 3)], []⟩
@[simp] theorem an_ledger_New_draws : an_ledger_New.draws = [] := rfl
@[simp] theorem an_ledger_New_exits : an_ledger_New.exits = [(0, [4]), (1, [4, 16, 17, 18])] := rfl
@[simp] theorem an_ledger_New_rets : an_ledger_New.rets = some [2, 3] := rfl
@[simp] theorem an_ledger_New_keep : an_ledger_New.keep = [0, 2, 3, 4, 6, 8, 16, 17, 18] := rfl
@[simp] theorem an_ledger_New_cond : an_ledger_New.cond = [11, 19, 24, 34] := rfl
@[simp] theorem an_ledger_New_rows : an_ledger_New.rows = [] := rfl
@[simp] theorem an_ledger_New_loops : an_ledger_New.loops = [(5, [4, 16, 17, 18])] := rfl
@[simp] theorem an_ledger_New_ecalls : an_ledger_New.ecalls = [] := rfl
@[simp] theorem an_ledger_New_crows : an_ledger_New.crows = [(57, 0, 3, 1), (57, 1, 3, 1), (57, 2, 41, 3)] := rfl
@[simp] theorem an_ledger_New_tails : an_ledger_New.tails = [] := rfl
@[simp] noncomputable def cl_ledger_New : List (Nat × (List D → Option D)) := [(17, F_ident_IsName)]
@[simp] noncomputable def ce_ledger_New : List (Nat × (List (Nat × O) → List D → Option (D × List (Nat × O)))) := []
noncomputable def c_ledger_New : CT := ⟨callOf (cl_ledger_New ), callOfE ce_ledger_New, gl⟩
@[simp] theorem c_ledger_New_p (f : FuncId) (ds : List D) : c_ledger_New.p f ds = callOf (cl_ledger_New ) f ds := Eq.trans rfl rfl
@[simp] theorem c_ledger_New_e (f : FuncId) (hs : List (Nat × O)) (ds : List D) : c_ledger_New.e f hs ds = callOfE ce_ledger_New f hs ds := Eq.trans rfl rfl
@[simp] theorem c_ledger_New_g (g : Nat) : c_ledger_New.g g = gl g := Eq.trans rfl rfl
noncomputable def L_ledger_New (i n : Nat) (s : St) : Option (E × St) := atN Try.prog c_ledger_New an_ledger_New 42 (bodyOf Try.f6) i n s
noncomputable def H_ledger_New (n i : Nat) (s : St) : Option (E × St) := atH Try.prog c_ledger_New an_ledger_New 42 (bodyOf Try.f6) n i s
@[simp] theorem H_ledger_New_eq (n i : Nat) (s : St) : H_ledger_New n i s = L_ledger_New i n (headOf (an_ledger_New.loops.lookup i) s) := rfl
noncomputable def R_ledger_New (i : Nat) (s : St) : Option (E × St) := stepL Try.prog c_ledger_New an_ledger_New 42 (bodyOf Try.f6) i s
theorem lok_ledger_New : okLoops (bodyOf Try.f6) = true := by kernel_rfl
theorem L_ledger_New_succ (i n : Nat) (s : St) : L_ledger_New i (n + 1) s = andThen (R_ledger_New i s) (H_ledger_New n i) := atN_succ lok_ledger_New (by kernel_rfl) i n s
theorem R_ledger_New_eq (i : Nat) (s : St) : R_ledger_New i s = runS Try.prog c_ledger_New (H_ledger_New bigL) an_ledger_New 42 (loopAt (bodyOf Try.f6) i) s := rfl
noncomputable def E_ledger_New (hs : List (Nat × O)) (ds : List D) : Option (D × List (Nat × O)) := runE Try.prog c_ledger_New an_ledger_New 42 (bodyOf Try.f6) [.tmp 2, .tmp 3] hs ds
theorem E_ledger_New_eq (hs : List (Nat × O)) (ds : List D) : E_ledger_New hs ds = runGE Try.prog c_ledger_New (H_ledger_New bigL) an_ledger_New 42 (bodyOf Try.f6) [.tmp 2, .tmp 3] hs ds := runGE_eq lok_ledger_New _ hs ds
theorem CE_ledger_New (hs : List (Nat × O)) (ds : List D) (r : D) (hs' : List (Nat × O)) (h : E_ledger_New hs ds = some (r, hs')) : ContractE Try.prog gl 6 hs ds r hs' := contractE_of mix Try.func6 rfl (by kernel_rfl) (by kernel_rfl) (by decide) (call := c_ledger_New) ⟨callOf_ok cl_ledger_New ⟨C_ident_IsName, trivial⟩, callOfE_ok ce_ledger_New trivial⟩ h
-- sawmill/books.Dried: loops []; state: params 0..0, then [2]
attribute [simp] Try.f18
noncomputable def an_books_Dried : Ann := ⟨[0, 2], [6], [], [], [], some [2], [], [], [(57, 0, 3, 1), (57, 1, 3, 1), (57, 2, 41, 3)], []⟩
@[simp] theorem an_books_Dried_draws : an_books_Dried.draws = [] := rfl
@[simp] theorem an_books_Dried_exits : an_books_Dried.exits = [] := rfl
@[simp] theorem an_books_Dried_rets : an_books_Dried.rets = some [2] := rfl
@[simp] theorem an_books_Dried_keep : an_books_Dried.keep = [0, 2] := rfl
@[simp] theorem an_books_Dried_cond : an_books_Dried.cond = [6] := rfl
@[simp] theorem an_books_Dried_rows : an_books_Dried.rows = [] := rfl
@[simp] theorem an_books_Dried_loops : an_books_Dried.loops = [] := rfl
@[simp] theorem an_books_Dried_ecalls : an_books_Dried.ecalls = [] := rfl
@[simp] theorem an_books_Dried_crows : an_books_Dried.crows = [(57, 0, 3, 1), (57, 1, 3, 1), (57, 2, 41, 3)] := rfl
@[simp] theorem an_books_Dried_tails : an_books_Dried.tails = [] := rfl
@[simp] noncomputable def cl_books_Dried : List (Nat × (List D → Option D)) := [(30, F_books_postings_int), (31, F_books_areVolumes_int)]
@[simp] noncomputable def ce_books_Dried : List (Nat × (List (Nat × O) → List D → Option (D × List (Nat × O)))) := []
noncomputable def c_books_Dried : CT := ⟨callOf (cl_books_Dried ), callOfE ce_books_Dried, gl⟩
@[simp] theorem c_books_Dried_p (f : FuncId) (ds : List D) : c_books_Dried.p f ds = callOf (cl_books_Dried ) f ds := Eq.trans rfl rfl
@[simp] theorem c_books_Dried_e (f : FuncId) (hs : List (Nat × O)) (ds : List D) : c_books_Dried.e f hs ds = callOfE ce_books_Dried f hs ds := Eq.trans rfl rfl
@[simp] theorem c_books_Dried_g (g : Nat) : c_books_Dried.g g = gl g := Eq.trans rfl rfl
noncomputable def L_books_Dried (i n : Nat) (s : St) : Option (E × St) := atN Try.prog c_books_Dried an_books_Dried 12 (bodyOf Try.f18) i n s
noncomputable def H_books_Dried (n i : Nat) (s : St) : Option (E × St) := atH Try.prog c_books_Dried an_books_Dried 12 (bodyOf Try.f18) n i s
@[simp] theorem H_books_Dried_eq (n i : Nat) (s : St) : H_books_Dried n i s = L_books_Dried i n (headOf (an_books_Dried.loops.lookup i) s) := rfl
noncomputable def R_books_Dried (i : Nat) (s : St) : Option (E × St) := stepL Try.prog c_books_Dried an_books_Dried 12 (bodyOf Try.f18) i s
theorem lok_books_Dried : okLoops (bodyOf Try.f18) = true := by kernel_rfl
noncomputable def F_books_Dried (ds : List D) : Option D := runF Try.prog c_books_Dried an_books_Dried 12 (bodyOf Try.f18) [.tmp 2] ds
theorem F_books_Dried_eq (ds : List D) : F_books_Dried ds = runG Try.prog c_books_Dried (H_books_Dried bigL) an_books_Dried 12 (bodyOf Try.f18) [.tmp 2] ds := runG_eq lok_books_Dried _ ds
theorem C_books_Dried (ds : List D) (r : D) (h : F_books_Dried ds = some r) : Contract Try.prog gl 18 ds r := contract_of mix Try.func18 rfl (by kernel_rfl) (by kernel_rfl) (by decide) (call := c_books_Dried) ⟨callOf_ok cl_books_Dried ⟨C_books_postings_int, C_books_areVolumes_int, trivial⟩, callOfE_ok ce_books_Dried trivial⟩ h
-- sawmill/books.Shipped: loops []; state: params 0..0, then [2]
attribute [simp] Try.f19
noncomputable def an_books_Shipped : Ann := ⟨[0, 2], [6], [], [], [], some [2], [], [], [(57, 0, 3, 1), (57, 1, 3, 1), (57, 2, 41, 3)], []⟩
@[simp] theorem an_books_Shipped_draws : an_books_Shipped.draws = [] := rfl
@[simp] theorem an_books_Shipped_exits : an_books_Shipped.exits = [] := rfl
@[simp] theorem an_books_Shipped_rets : an_books_Shipped.rets = some [2] := rfl
@[simp] theorem an_books_Shipped_keep : an_books_Shipped.keep = [0, 2] := rfl
@[simp] theorem an_books_Shipped_cond : an_books_Shipped.cond = [6] := rfl
@[simp] theorem an_books_Shipped_rows : an_books_Shipped.rows = [] := rfl
@[simp] theorem an_books_Shipped_loops : an_books_Shipped.loops = [] := rfl
@[simp] theorem an_books_Shipped_ecalls : an_books_Shipped.ecalls = [] := rfl
@[simp] theorem an_books_Shipped_crows : an_books_Shipped.crows = [(57, 0, 3, 1), (57, 1, 3, 1), (57, 2, 41, 3)] := rfl
@[simp] theorem an_books_Shipped_tails : an_books_Shipped.tails = [] := rfl
@[simp] noncomputable def cl_books_Shipped : List (Nat × (List D → Option D)) := [(30, F_books_postings_int), (31, F_books_areVolumes_int)]
@[simp] noncomputable def ce_books_Shipped : List (Nat × (List (Nat × O) → List D → Option (D × List (Nat × O)))) := []
noncomputable def c_books_Shipped : CT := ⟨callOf (cl_books_Shipped ), callOfE ce_books_Shipped, gl⟩
@[simp] theorem c_books_Shipped_p (f : FuncId) (ds : List D) : c_books_Shipped.p f ds = callOf (cl_books_Shipped ) f ds := Eq.trans rfl rfl
@[simp] theorem c_books_Shipped_e (f : FuncId) (hs : List (Nat × O)) (ds : List D) : c_books_Shipped.e f hs ds = callOfE ce_books_Shipped f hs ds := Eq.trans rfl rfl
@[simp] theorem c_books_Shipped_g (g : Nat) : c_books_Shipped.g g = gl g := Eq.trans rfl rfl
noncomputable def L_books_Shipped (i n : Nat) (s : St) : Option (E × St) := atN Try.prog c_books_Shipped an_books_Shipped 12 (bodyOf Try.f19) i n s
noncomputable def H_books_Shipped (n i : Nat) (s : St) : Option (E × St) := atH Try.prog c_books_Shipped an_books_Shipped 12 (bodyOf Try.f19) n i s
@[simp] theorem H_books_Shipped_eq (n i : Nat) (s : St) : H_books_Shipped n i s = L_books_Shipped i n (headOf (an_books_Shipped.loops.lookup i) s) := rfl
noncomputable def R_books_Shipped (i : Nat) (s : St) : Option (E × St) := stepL Try.prog c_books_Shipped an_books_Shipped 12 (bodyOf Try.f19) i s
theorem lok_books_Shipped : okLoops (bodyOf Try.f19) = true := by kernel_rfl
noncomputable def F_books_Shipped (ds : List D) : Option D := runF Try.prog c_books_Shipped an_books_Shipped 12 (bodyOf Try.f19) [.tmp 2] ds
theorem F_books_Shipped_eq (ds : List D) : F_books_Shipped ds = runG Try.prog c_books_Shipped (H_books_Shipped bigL) an_books_Shipped 12 (bodyOf Try.f19) [.tmp 2] ds := runG_eq lok_books_Shipped _ ds
theorem C_books_Shipped (ds : List D) (r : D) (h : F_books_Shipped ds = some r) : Contract Try.prog gl 19 ds r := contract_of mix Try.func19 rfl (by kernel_rfl) (by kernel_rfl) (by decide) (call := c_books_Shipped) ⟨callOf_ok cl_books_Shipped ⟨C_books_postings_int, C_books_areVolumes_int, trivial⟩, callOfE_ok ce_books_Shipped trivial⟩ h
-- sawmill/sawmilllaw52.postings: loops []; state: params 0..0, then [1, 2, 3, 4, 5, 6, 18]
attribute [simp] Try.f7
noncomputable def an_law52_postings : Ann := ⟨[1, 2, 3, 4, 5, 6, 18], [19, 23, 39, 43, 51], [], [], [(0, [3, 4])], some [2], [(1, 11)], [], [(57, 0, 3, 1), (57, 1, 3, 1), (57, 2, 41, 3)], []⟩
@[simp] theorem an_law52_postings_draws : an_law52_postings.draws = [(1, 11)] := rfl
@[simp] theorem an_law52_postings_exits : an_law52_postings.exits = [(0, [3, 4])] := rfl
@[simp] theorem an_law52_postings_rets : an_law52_postings.rets = some [2] := rfl
@[simp] theorem an_law52_postings_keep : an_law52_postings.keep = [1, 2, 3, 4, 5, 6, 18] := rfl
@[simp] theorem an_law52_postings_cond : an_law52_postings.cond = [19, 23, 39, 43, 51] := rfl
@[simp] theorem an_law52_postings_rows : an_law52_postings.rows = [] := rfl
@[simp] theorem an_law52_postings_loops : an_law52_postings.loops = [] := rfl
@[simp] theorem an_law52_postings_ecalls : an_law52_postings.ecalls = [] := rfl
@[simp] theorem an_law52_postings_crows : an_law52_postings.crows = [(57, 0, 3, 1), (57, 1, 3, 1), (57, 2, 41, 3)] := rfl
@[simp] theorem an_law52_postings_tails : an_law52_postings.tails = [] := rfl
@[simp] noncomputable def cl_law52_postings : List (Nat × (List D → Option D)) := [(12, F_books_Sawn), (13, F_books_Recut), (15, F_books_Sold), (16, F_books_Scanned), (18, F_books_Dried), (19, F_books_Shipped)]
@[simp] noncomputable def ce_law52_postings : List (Nat × (List (Nat × O) → List D → Option (D × List (Nat × O)))) := []
noncomputable def c_law52_postings : CT := ⟨callOf (cl_law52_postings ), callOfE ce_law52_postings, gl⟩
@[simp] theorem c_law52_postings_p (f : FuncId) (ds : List D) : c_law52_postings.p f ds = callOf (cl_law52_postings ) f ds := Eq.trans rfl rfl
@[simp] theorem c_law52_postings_e (f : FuncId) (hs : List (Nat × O)) (ds : List D) : c_law52_postings.e f hs ds = callOfE ce_law52_postings f hs ds := Eq.trans rfl rfl
@[simp] theorem c_law52_postings_g (g : Nat) : c_law52_postings.g g = gl g := Eq.trans rfl rfl
noncomputable def L_law52_postings (i n : Nat) (s : St) : Option (E × St) := atN Try.prog c_law52_postings an_law52_postings 58 (bodyOf Try.f7) i n s
noncomputable def H_law52_postings (n i : Nat) (s : St) : Option (E × St) := atH Try.prog c_law52_postings an_law52_postings 58 (bodyOf Try.f7) n i s
@[simp] theorem H_law52_postings_eq (n i : Nat) (s : St) : H_law52_postings n i s = L_law52_postings i n (headOf (an_law52_postings.loops.lookup i) s) := rfl
noncomputable def R_law52_postings (i : Nat) (s : St) : Option (E × St) := stepL Try.prog c_law52_postings an_law52_postings 58 (bodyOf Try.f7) i s
theorem lok_law52_postings : okLoops (bodyOf Try.f7) = true := by kernel_rfl
noncomputable def F_law52_postings (ds : List D) : Option D := runF Try.prog c_law52_postings an_law52_postings 58 (bodyOf Try.f7) [.tmp 2] ds
theorem F_law52_postings_eq (ds : List D) : F_law52_postings ds = runG Try.prog c_law52_postings (H_law52_postings bigL) an_law52_postings 58 (bodyOf Try.f7) [.tmp 2] ds := runG_eq lok_law52_postings _ ds
theorem C_law52_postings (ds : List D) (r : D) (h : F_law52_postings ds = some r) : Contract Try.prog gl 7 ds r := contract_of mix Try.func7 rfl (by kernel_rfl) (by kernel_rfl) (by decide) (call := c_law52_postings) ⟨callOf_ok cl_law52_postings ⟨C_books_Sawn, C_books_Recut, C_books_Sold, C_books_Scanned, C_books_Dried, C_books_Shipped, trivial⟩, callOfE_ok ce_law52_postings trivial⟩ h
-- sawmill/sawmilllaw52.id: loops []; state: params 0..0, then [2]
attribute [simp] Try.f8
noncomputable def an_law52_id : Ann := ⟨[2], [], [], [], [], some [2], [], [], [(57, 0, 3, 1), (57, 1, 3, 1), (57, 2, 41, 3)], []⟩
@[simp] theorem an_law52_id_draws : an_law52_id.draws = [] := rfl
@[simp] theorem an_law52_id_exits : an_law52_id.exits = [] := rfl
@[simp] theorem an_law52_id_rets : an_law52_id.rets = some [2] := rfl
@[simp] theorem an_law52_id_keep : an_law52_id.keep = [2] := rfl
@[simp] theorem an_law52_id_cond : an_law52_id.cond = [] := rfl
@[simp] theorem an_law52_id_rows : an_law52_id.rows = [] := rfl
@[simp] theorem an_law52_id_loops : an_law52_id.loops = [] := rfl
@[simp] theorem an_law52_id_ecalls : an_law52_id.ecalls = [] := rfl
@[simp] theorem an_law52_id_crows : an_law52_id.crows = [(57, 0, 3, 1), (57, 1, 3, 1), (57, 2, 41, 3)] := rfl
@[simp] theorem an_law52_id_tails : an_law52_id.tails = [] := rfl
@[simp] noncomputable def cl_law52_id : List (Nat × (List D → Option D)) := []
@[simp] noncomputable def ce_law52_id : List (Nat × (List (Nat × O) → List D → Option (D × List (Nat × O)))) := []
noncomputable def c_law52_id : CT := ⟨callOf (cl_law52_id ), callOfE ce_law52_id, gl⟩
@[simp] theorem c_law52_id_p (f : FuncId) (ds : List D) : c_law52_id.p f ds = callOf (cl_law52_id ) f ds := Eq.trans rfl rfl
@[simp] theorem c_law52_id_e (f : FuncId) (hs : List (Nat × O)) (ds : List D) : c_law52_id.e f hs ds = callOfE ce_law52_id f hs ds := Eq.trans rfl rfl
@[simp] theorem c_law52_id_g (g : Nat) : c_law52_id.g g = gl g := Eq.trans rfl rfl
noncomputable def L_law52_id (i n : Nat) (s : St) : Option (E × St) := atN Try.prog c_law52_id an_law52_id 14 (bodyOf Try.f8) i n s
noncomputable def H_law52_id (n i : Nat) (s : St) : Option (E × St) := atH Try.prog c_law52_id an_law52_id 14 (bodyOf Try.f8) n i s
@[simp] theorem H_law52_id_eq (n i : Nat) (s : St) : H_law52_id n i s = L_law52_id i n (headOf (an_law52_id.loops.lookup i) s) := rfl
noncomputable def R_law52_id (i : Nat) (s : St) : Option (E × St) := stepL Try.prog c_law52_id an_law52_id 14 (bodyOf Try.f8) i s
theorem lok_law52_id : okLoops (bodyOf Try.f8) = true := by kernel_rfl
noncomputable def F_law52_id (ds : List D) : Option D := runF Try.prog c_law52_id an_law52_id 14 (bodyOf Try.f8) [.tmp 2] ds
theorem F_law52_id_eq (ds : List D) : F_law52_id ds = runG Try.prog c_law52_id (H_law52_id bigL) an_law52_id 14 (bodyOf Try.f8) [.tmp 2] ds := runG_eq lok_law52_id _ ds
theorem C_law52_id (ds : List D) (r : D) (h : F_law52_id ds = some r) : Contract Try.prog gl 8 ds r := contract_of mix Try.func8 rfl (by kernel_rfl) (by kernel_rfl) (by decide) (call := c_law52_id) ⟨callOf_ok cl_law52_id trivial, callOfE_ok ce_law52_id trivial⟩ h
-- sawmill/ledger.outside: loops []; state: params 0..0, then [2]
attribute [simp] Try.f21
noncomputable def an_ledger_outside : Ann := ⟨[2], [], [], [], [], some [2], [], [], [(57, 0, 3, 1), (57, 1, 3, 1), (57, 2, 41, 3)], []⟩
@[simp] theorem an_ledger_outside_draws : an_ledger_outside.draws = [] := rfl
@[simp] theorem an_ledger_outside_exits : an_ledger_outside.exits = [] := rfl
@[simp] theorem an_ledger_outside_rets : an_ledger_outside.rets = some [2] := rfl
@[simp] theorem an_ledger_outside_keep : an_ledger_outside.keep = [2] := rfl
@[simp] theorem an_ledger_outside_cond : an_ledger_outside.cond = [] := rfl
@[simp] theorem an_ledger_outside_rows : an_ledger_outside.rows = [] := rfl
@[simp] theorem an_ledger_outside_loops : an_ledger_outside.loops = [] := rfl
@[simp] theorem an_ledger_outside_ecalls : an_ledger_outside.ecalls = [] := rfl
@[simp] theorem an_ledger_outside_crows : an_ledger_outside.crows = [(57, 0, 3, 1), (57, 1, 3, 1), (57, 2, 41, 3)] := rfl
@[simp] theorem an_ledger_outside_tails : an_ledger_outside.tails = [] := rfl
@[simp] noncomputable def cl_ledger_outside : List (Nat × (List D → Option D)) := []
@[simp] noncomputable def ce_ledger_outside : List (Nat × (List (Nat × O) → List D → Option (D × List (Nat × O)))) := []
noncomputable def c_ledger_outside : CT := ⟨callOf (cl_ledger_outside ), callOfE ce_ledger_outside, gl⟩
@[simp] theorem c_ledger_outside_p (f : FuncId) (ds : List D) : c_ledger_outside.p f ds = callOf (cl_ledger_outside ) f ds := Eq.trans rfl rfl
@[simp] theorem c_ledger_outside_e (f : FuncId) (hs : List (Nat × O)) (ds : List D) : c_ledger_outside.e f hs ds = callOfE ce_ledger_outside f hs ds := Eq.trans rfl rfl
@[simp] theorem c_ledger_outside_g (g : Nat) : c_ledger_outside.g g = gl g := Eq.trans rfl rfl
noncomputable def L_ledger_outside (i n : Nat) (s : St) : Option (E × St) := atN Try.prog c_ledger_outside an_ledger_outside 9 (bodyOf Try.f21) i n s
noncomputable def H_ledger_outside (n i : Nat) (s : St) : Option (E × St) := atH Try.prog c_ledger_outside an_ledger_outside 9 (bodyOf Try.f21) n i s
@[simp] theorem H_ledger_outside_eq (n i : Nat) (s : St) : H_ledger_outside n i s = L_ledger_outside i n (headOf (an_ledger_outside.loops.lookup i) s) := rfl
noncomputable def R_ledger_outside (i : Nat) (s : St) : Option (E × St) := stepL Try.prog c_ledger_outside an_ledger_outside 9 (bodyOf Try.f21) i s
theorem lok_ledger_outside : okLoops (bodyOf Try.f21) = true := by kernel_rfl
noncomputable def F_ledger_outside (ds : List D) : Option D := runF Try.prog c_ledger_outside an_ledger_outside 9 (bodyOf Try.f21) [.tmp 2] ds
theorem F_ledger_outside_eq (ds : List D) : F_ledger_outside ds = runG Try.prog c_ledger_outside (H_ledger_outside bigL) an_ledger_outside 9 (bodyOf Try.f21) [.tmp 2] ds := runG_eq lok_ledger_outside _ ds
theorem C_ledger_outside (ds : List D) (r : D) (h : F_ledger_outside ds = some r) : Contract Try.prog gl 21 ds r := contract_of mix Try.func21 rfl (by kernel_rfl) (by kernel_rfl) (by decide) (call := c_ledger_outside) ⟨callOf_ok cl_ledger_outside trivial, callOfE_ok ce_ledger_outside trivial⟩ h
-- sawmill/ledger.amountOf: loops []; state: params 0..0, then [1, 2]
attribute [simp] Try.f35
noncomputable def an_ledger_amountOf : Ann := ⟨[1, 2], [], [], [], [], some [2], [], [], [(57, 0, 3, 1), (57, 1, 3, 1), (57, 2, 41, 3)], []⟩
@[simp] theorem an_ledger_amountOf_draws : an_ledger_amountOf.draws = [] := rfl
@[simp] theorem an_ledger_amountOf_exits : an_ledger_amountOf.exits = [] := rfl
@[simp] theorem an_ledger_amountOf_rets : an_ledger_amountOf.rets = some [2] := rfl
@[simp] theorem an_ledger_amountOf_keep : an_ledger_amountOf.keep = [1, 2] := rfl
@[simp] theorem an_ledger_amountOf_cond : an_ledger_amountOf.cond = [] := rfl
@[simp] theorem an_ledger_amountOf_rows : an_ledger_amountOf.rows = [] := rfl
@[simp] theorem an_ledger_amountOf_loops : an_ledger_amountOf.loops = [] := rfl
@[simp] theorem an_ledger_amountOf_ecalls : an_ledger_amountOf.ecalls = [] := rfl
@[simp] theorem an_ledger_amountOf_crows : an_ledger_amountOf.crows = [(57, 0, 3, 1), (57, 1, 3, 1), (57, 2, 41, 3)] := rfl
@[simp] theorem an_ledger_amountOf_tails : an_ledger_amountOf.tails = [] := rfl
@[simp] noncomputable def cl_ledger_amountOf : List (Nat × (List D → Option D)) := []
@[simp] noncomputable def ce_ledger_amountOf : List (Nat × (List (Nat × O) → List D → Option (D × List (Nat × O)))) := []
noncomputable def c_ledger_amountOf : CT := ⟨callOf (cl_ledger_amountOf ), callOfE ce_ledger_amountOf, gl⟩
@[simp] theorem c_ledger_amountOf_p (f : FuncId) (ds : List D) : c_ledger_amountOf.p f ds = callOf (cl_ledger_amountOf ) f ds := Eq.trans rfl rfl
@[simp] theorem c_ledger_amountOf_e (f : FuncId) (hs : List (Nat × O)) (ds : List D) : c_ledger_amountOf.e f hs ds = callOfE ce_ledger_amountOf f hs ds := Eq.trans rfl rfl
@[simp] theorem c_ledger_amountOf_g (g : Nat) : c_ledger_amountOf.g g = gl g := Eq.trans rfl rfl
noncomputable def L_ledger_amountOf (i n : Nat) (s : St) : Option (E × St) := atN Try.prog c_ledger_amountOf an_ledger_amountOf 5 (bodyOf Try.f35) i n s
noncomputable def H_ledger_amountOf (n i : Nat) (s : St) : Option (E × St) := atH Try.prog c_ledger_amountOf an_ledger_amountOf 5 (bodyOf Try.f35) n i s
@[simp] theorem H_ledger_amountOf_eq (n i : Nat) (s : St) : H_ledger_amountOf n i s = L_ledger_amountOf i n (headOf (an_ledger_amountOf.loops.lookup i) s) := rfl
noncomputable def R_ledger_amountOf (i : Nat) (s : St) : Option (E × St) := stepL Try.prog c_ledger_amountOf an_ledger_amountOf 5 (bodyOf Try.f35) i s
theorem lok_ledger_amountOf : okLoops (bodyOf Try.f35) = true := by kernel_rfl
noncomputable def F_ledger_amountOf (ds : List D) : Option D := runF Try.prog c_ledger_amountOf an_ledger_amountOf 5 (bodyOf Try.f35) [.tmp 2] ds
theorem F_ledger_amountOf_eq (ds : List D) : F_ledger_amountOf ds = runG Try.prog c_ledger_amountOf (H_ledger_amountOf bigL) an_ledger_amountOf 5 (bodyOf Try.f35) [.tmp 2] ds := runG_eq lok_ledger_amountOf _ ds
theorem C_ledger_amountOf (ds : List D) (r : D) (h : F_ledger_amountOf ds = some r) : Contract Try.prog gl 35 ds r := contract_of mix Try.func35 rfl (by kernel_rfl) (by kernel_rfl) (by decide) (call := c_ledger_amountOf) ⟨callOf_ok cl_ledger_amountOf trivial, callOfE_ok ce_ledger_amountOf trivial⟩ h
-- sawmill/ledger.total[sawmill/api.Posting,int]: loops [3]; state: params 0..1, then [4, 5, 7, 8, 9, 10]
attribute [simp] Try.f34
noncomputable def an_ledger_total_api_Posting_int : Ann := ⟨[4, 5, 7, 8, 9, 10], [11], [], [(3, [1, 5, 8, 9, 10])], [(0, [5]), (1, [1, 5, 8, 9, 10])], some [4], [], [], [(57, 0, 3, 1), (57, 1, 3, 1), (57, 2, 41, 3)], []⟩
@[simp] theorem an_ledger_total_api_Posting_int_draws : an_ledger_total_api_Posting_int.draws = [] := rfl
@[simp] theorem an_ledger_total_api_Posting_int_exits : an_ledger_total_api_Posting_int.exits = [(0, [5]), (1, [1, 5, 8, 9, 10])] := rfl
@[simp] theorem an_ledger_total_api_Posting_int_rets : an_ledger_total_api_Posting_int.rets = some [4] := rfl
@[simp] theorem an_ledger_total_api_Posting_int_keep : an_ledger_total_api_Posting_int.keep = [4, 5, 7, 8, 9, 10] := rfl
@[simp] theorem an_ledger_total_api_Posting_int_cond : an_ledger_total_api_Posting_int.cond = [11] := rfl
@[simp] theorem an_ledger_total_api_Posting_int_rows : an_ledger_total_api_Posting_int.rows = [] := rfl
@[simp] theorem an_ledger_total_api_Posting_int_loops : an_ledger_total_api_Posting_int.loops = [(3, [1, 5, 8, 9, 10])] := rfl
@[simp] theorem an_ledger_total_api_Posting_int_ecalls : an_ledger_total_api_Posting_int.ecalls = [] := rfl
@[simp] theorem an_ledger_total_api_Posting_int_crows : an_ledger_total_api_Posting_int.crows = [(57, 0, 3, 1), (57, 1, 3, 1), (57, 2, 41, 3)] := rfl
@[simp] theorem an_ledger_total_api_Posting_int_tails : an_ledger_total_api_Posting_int.tails = [] := rfl
@[simp] noncomputable def cl_ledger_total_api_Posting_int : List (Nat × (List D → Option D)) := [(35, F_ledger_amountOf)]
@[simp] noncomputable def ce_ledger_total_api_Posting_int : List (Nat × (List (Nat × O) → List D → Option (D × List (Nat × O)))) := []
noncomputable def c_ledger_total_api_Posting_int : CT := ⟨callOf (cl_ledger_total_api_Posting_int ), callOfE ce_ledger_total_api_Posting_int, gl⟩
@[simp] theorem c_ledger_total_api_Posting_int_p (f : FuncId) (ds : List D) : c_ledger_total_api_Posting_int.p f ds = callOf (cl_ledger_total_api_Posting_int ) f ds := Eq.trans rfl rfl
@[simp] theorem c_ledger_total_api_Posting_int_e (f : FuncId) (hs : List (Nat × O)) (ds : List D) : c_ledger_total_api_Posting_int.e f hs ds = callOfE ce_ledger_total_api_Posting_int f hs ds := Eq.trans rfl rfl
@[simp] theorem c_ledger_total_api_Posting_int_g (g : Nat) : c_ledger_total_api_Posting_int.g g = gl g := Eq.trans rfl rfl
noncomputable def L_ledger_total_api_Posting_int (i n : Nat) (s : St) : Option (E × St) := atN Try.prog c_ledger_total_api_Posting_int an_ledger_total_api_Posting_int 21 (bodyOf Try.f34) i n s
noncomputable def H_ledger_total_api_Posting_int (n i : Nat) (s : St) : Option (E × St) := atH Try.prog c_ledger_total_api_Posting_int an_ledger_total_api_Posting_int 21 (bodyOf Try.f34) n i s
@[simp] theorem H_ledger_total_api_Posting_int_eq (n i : Nat) (s : St) : H_ledger_total_api_Posting_int n i s = L_ledger_total_api_Posting_int i n (headOf (an_ledger_total_api_Posting_int.loops.lookup i) s) := rfl
noncomputable def R_ledger_total_api_Posting_int (i : Nat) (s : St) : Option (E × St) := stepL Try.prog c_ledger_total_api_Posting_int an_ledger_total_api_Posting_int 21 (bodyOf Try.f34) i s
theorem lok_ledger_total_api_Posting_int : okLoops (bodyOf Try.f34) = true := by kernel_rfl
theorem L_ledger_total_api_Posting_int_succ (i n : Nat) (s : St) : L_ledger_total_api_Posting_int i (n + 1) s = andThen (R_ledger_total_api_Posting_int i s) (H_ledger_total_api_Posting_int n i) := atN_succ lok_ledger_total_api_Posting_int (by kernel_rfl) i n s
theorem R_ledger_total_api_Posting_int_eq (i : Nat) (s : St) : R_ledger_total_api_Posting_int i s = runS Try.prog c_ledger_total_api_Posting_int (H_ledger_total_api_Posting_int bigL) an_ledger_total_api_Posting_int 21 (loopAt (bodyOf Try.f34) i) s := rfl
noncomputable def F_ledger_total_api_Posting_int (ds : List D) : Option D := runF Try.prog c_ledger_total_api_Posting_int an_ledger_total_api_Posting_int 21 (bodyOf Try.f34) [.tmp 4] ds
theorem F_ledger_total_api_Posting_int_eq (ds : List D) : F_ledger_total_api_Posting_int ds = runG Try.prog c_ledger_total_api_Posting_int (H_ledger_total_api_Posting_int bigL) an_ledger_total_api_Posting_int 21 (bodyOf Try.f34) [.tmp 4] ds := runG_eq lok_ledger_total_api_Posting_int _ ds
theorem C_ledger_total_api_Posting_int (ds : List D) (r : D) (h : F_ledger_total_api_Posting_int ds = some r) : Contract Try.prog gl 34 ds r := contract_of mix Try.func34 rfl (by kernel_rfl) (by kernel_rfl) (by decide) (call := c_ledger_total_api_Posting_int) ⟨callOf_ok cl_ledger_total_api_Posting_int ⟨C_ledger_amountOf, trivial⟩, callOfE_ok ce_ledger_total_api_Posting_int trivial⟩ h
-- (*sawmill/ledger.Ledger).checkEntry: loops [15]; state: params 0..1, then [3, 4, 5, 7, 9, 64, 65, 66]
attribute [simp] Try.f20
noncomputable def an_ledger_Ledger_checkEntry : Ann := ⟨[0, 3, 4, 5, 7, 9, 64, 65, 66], [18, 25, 33, 54, 58, 62, 67, 81, 84, 89], [], [(15, [0, 3, 64, 65, 66])], [(0, [3]), (1, [0, 3, 64, 65, 66])], some [4], [(3, 6), (8, 14), (17, 11)], [], [(57, 0, 3, 1), (57, 1, 3, 1), (57, 2, 41, 3)], []⟩
@[simp] theorem an_ledger_Ledger_checkEntry_draws : an_ledger_Ledger_checkEntry.draws = [(3, 6), (8, 14), (17, 11)] := rfl
@[simp] theorem an_ledger_Ledger_checkEntry_exits : an_ledger_Ledger_checkEntry.exits = [(0, [3]), (1, [0, 3, 64, 65, 66])] := rfl
@[simp] theorem an_ledger_Ledger_checkEntry_rets : an_ledger_Ledger_checkEntry.rets = some [4] := rfl
@[simp] theorem an_ledger_Ledger_checkEntry_keep : an_ledger_Ledger_checkEntry.keep = [0, 3, 4, 5, 7, 9, 64, 65, 66] := rfl
@[simp] theorem an_ledger_Ledger_checkEntry_cond : an_ledger_Ledger_checkEntry.cond = [18, 25, 33, 54, 58, 62, 67, 81, 84, 89] := rfl
@[simp] theorem an_ledger_Ledger_checkEntry_rows : an_ledger_Ledger_checkEntry.rows = [] := rfl
@[simp] theorem an_ledger_Ledger_checkEntry_loops : an_ledger_Ledger_checkEntry.loops = [(15, [0, 3, 64, 65, 66])] := rfl
@[simp] theorem an_ledger_Ledger_checkEntry_ecalls : an_ledger_Ledger_checkEntry.ecalls = [] := rfl
@[simp] theorem an_ledger_Ledger_checkEntry_crows : an_ledger_Ledger_checkEntry.crows = [(57, 0, 3, 1), (57, 1, 3, 1), (57, 2, 41, 3)] := rfl
@[simp] theorem an_ledger_Ledger_checkEntry_tails : an_ledger_Ledger_checkEntry.tails = [] := rfl
@[simp] noncomputable def cl_ledger_Ledger_checkEntry : List (Nat × (List D → Option D)) := [(21, F_ledger_outside), (34, F_ledger_total_api_Posting_int), (35, F_ledger_amountOf)]
@[simp] noncomputable def ce_ledger_Ledger_checkEntry : List (Nat × (List (Nat × O) → List D → Option (D × List (Nat × O)))) := []
noncomputable def c_ledger_Ledger_checkEntry : CT := ⟨callOf (cl_ledger_Ledger_checkEntry ), callOfE ce_ledger_Ledger_checkEntry, gl⟩
@[simp] theorem c_ledger_Ledger_checkEntry_p (f : FuncId) (ds : List D) : c_ledger_Ledger_checkEntry.p f ds = callOf (cl_ledger_Ledger_checkEntry ) f ds := Eq.trans rfl rfl
@[simp] theorem c_ledger_Ledger_checkEntry_e (f : FuncId) (hs : List (Nat × O)) (ds : List D) : c_ledger_Ledger_checkEntry.e f hs ds = callOfE ce_ledger_Ledger_checkEntry f hs ds := Eq.trans rfl rfl
@[simp] theorem c_ledger_Ledger_checkEntry_g (g : Nat) : c_ledger_Ledger_checkEntry.g g = gl g := Eq.trans rfl rfl
noncomputable def L_ledger_Ledger_checkEntry (i n : Nat) (s : St) : Option (E × St) := atN Try.prog c_ledger_Ledger_checkEntry an_ledger_Ledger_checkEntry 90 (bodyOf Try.f20) i n s
noncomputable def H_ledger_Ledger_checkEntry (n i : Nat) (s : St) : Option (E × St) := atH Try.prog c_ledger_Ledger_checkEntry an_ledger_Ledger_checkEntry 90 (bodyOf Try.f20) n i s
@[simp] theorem H_ledger_Ledger_checkEntry_eq (n i : Nat) (s : St) : H_ledger_Ledger_checkEntry n i s = L_ledger_Ledger_checkEntry i n (headOf (an_ledger_Ledger_checkEntry.loops.lookup i) s) := rfl
noncomputable def R_ledger_Ledger_checkEntry (i : Nat) (s : St) : Option (E × St) := stepL Try.prog c_ledger_Ledger_checkEntry an_ledger_Ledger_checkEntry 90 (bodyOf Try.f20) i s
theorem lok_ledger_Ledger_checkEntry : okLoops (bodyOf Try.f20) = true := by kernel_rfl
theorem L_ledger_Ledger_checkEntry_succ (i n : Nat) (s : St) : L_ledger_Ledger_checkEntry i (n + 1) s = andThen (R_ledger_Ledger_checkEntry i s) (H_ledger_Ledger_checkEntry n i) := atN_succ lok_ledger_Ledger_checkEntry (by kernel_rfl) i n s
theorem R_ledger_Ledger_checkEntry_eq (i : Nat) (s : St) : R_ledger_Ledger_checkEntry i s = runS Try.prog c_ledger_Ledger_checkEntry (H_ledger_Ledger_checkEntry bigL) an_ledger_Ledger_checkEntry 90 (loopAt (bodyOf Try.f20) i) s := rfl
noncomputable def F_ledger_Ledger_checkEntry (ds : List D) : Option D := runF Try.prog c_ledger_Ledger_checkEntry an_ledger_Ledger_checkEntry 90 (bodyOf Try.f20) [.tmp 4] ds
theorem F_ledger_Ledger_checkEntry_eq (ds : List D) : F_ledger_Ledger_checkEntry ds = runG Try.prog c_ledger_Ledger_checkEntry (H_ledger_Ledger_checkEntry bigL) an_ledger_Ledger_checkEntry 90 (bodyOf Try.f20) [.tmp 4] ds := runG_eq lok_ledger_Ledger_checkEntry _ ds
theorem C_ledger_Ledger_checkEntry (ds : List D) (r : D) (h : F_ledger_Ledger_checkEntry ds = some r) : Contract Try.prog gl 20 ds r := contract_of mix Try.func20 rfl (by kernel_rfl) (by kernel_rfl) (by decide) (call := c_ledger_Ledger_checkEntry) ⟨callOf_ok cl_ledger_Ledger_checkEntry ⟨C_ledger_outside, C_ledger_total_api_Posting_int, C_ledger_amountOf, trivial⟩, callOfE_ok ce_ledger_Ledger_checkEntry trivial⟩ h
-- slices.Clone[[]sawmill/api.Posting,sawmill/api.Posting]: loops []; state: params 0..0, then [2]
attribute [simp] Try.f36
noncomputable def an_slices_Clone_api_Posting_api_Posting : Ann := ⟨[0, 2], [4], [5], [], [], some [2], [], [], [(57, 0, 3, 1), (57, 1, 3, 1), (57, 2, 41, 3)], []⟩
@[simp] theorem an_slices_Clone_api_Posting_api_Posting_draws : an_slices_Clone_api_Posting_api_Posting.draws = [] := rfl
@[simp] theorem an_slices_Clone_api_Posting_api_Posting_exits : an_slices_Clone_api_Posting_api_Posting.exits = [] := rfl
@[simp] theorem an_slices_Clone_api_Posting_api_Posting_rets : an_slices_Clone_api_Posting_api_Posting.rets = some [2] := rfl
@[simp] theorem an_slices_Clone_api_Posting_api_Posting_keep : an_slices_Clone_api_Posting_api_Posting.keep = [0, 2] := rfl
@[simp] theorem an_slices_Clone_api_Posting_api_Posting_cond : an_slices_Clone_api_Posting_api_Posting.cond = [4] := rfl
@[simp] theorem an_slices_Clone_api_Posting_api_Posting_rows : an_slices_Clone_api_Posting_api_Posting.rows = [5] := rfl
@[simp] theorem an_slices_Clone_api_Posting_api_Posting_loops : an_slices_Clone_api_Posting_api_Posting.loops = [] := rfl
@[simp] theorem an_slices_Clone_api_Posting_api_Posting_ecalls : an_slices_Clone_api_Posting_api_Posting.ecalls = [] := rfl
@[simp] theorem an_slices_Clone_api_Posting_api_Posting_crows : an_slices_Clone_api_Posting_api_Posting.crows = [(57, 0, 3, 1), (57, 1, 3, 1), (57, 2, 41, 3)] := rfl
@[simp] theorem an_slices_Clone_api_Posting_api_Posting_tails : an_slices_Clone_api_Posting_api_Posting.tails = [] := rfl
@[simp] noncomputable def cl_slices_Clone_api_Posting_api_Posting : List (Nat × (List D → Option D)) := []
@[simp] noncomputable def ce_slices_Clone_api_Posting_api_Posting : List (Nat × (List (Nat × O) → List D → Option (D × List (Nat × O)))) := []
noncomputable def c_slices_Clone_api_Posting_api_Posting : CT := ⟨callOf (cl_slices_Clone_api_Posting_api_Posting ), callOfE ce_slices_Clone_api_Posting_api_Posting, gl⟩
@[simp] theorem c_slices_Clone_api_Posting_api_Posting_p (f : FuncId) (ds : List D) : c_slices_Clone_api_Posting_api_Posting.p f ds = callOf (cl_slices_Clone_api_Posting_api_Posting ) f ds := Eq.trans rfl rfl
@[simp] theorem c_slices_Clone_api_Posting_api_Posting_e (f : FuncId) (hs : List (Nat × O)) (ds : List D) : c_slices_Clone_api_Posting_api_Posting.e f hs ds = callOfE ce_slices_Clone_api_Posting_api_Posting f hs ds := Eq.trans rfl rfl
@[simp] theorem c_slices_Clone_api_Posting_api_Posting_g (g : Nat) : c_slices_Clone_api_Posting_api_Posting.g g = gl g := Eq.trans rfl rfl
noncomputable def L_slices_Clone_api_Posting_api_Posting (i n : Nat) (s : St) : Option (E × St) := atN Try.prog c_slices_Clone_api_Posting_api_Posting an_slices_Clone_api_Posting_api_Posting 8 (bodyOf Try.f36) i n s
noncomputable def H_slices_Clone_api_Posting_api_Posting (n i : Nat) (s : St) : Option (E × St) := atH Try.prog c_slices_Clone_api_Posting_api_Posting an_slices_Clone_api_Posting_api_Posting 8 (bodyOf Try.f36) n i s
@[simp] theorem H_slices_Clone_api_Posting_api_Posting_eq (n i : Nat) (s : St) : H_slices_Clone_api_Posting_api_Posting n i s = L_slices_Clone_api_Posting_api_Posting i n (headOf (an_slices_Clone_api_Posting_api_Posting.loops.lookup i) s) := rfl
noncomputable def R_slices_Clone_api_Posting_api_Posting (i : Nat) (s : St) : Option (E × St) := stepL Try.prog c_slices_Clone_api_Posting_api_Posting an_slices_Clone_api_Posting_api_Posting 8 (bodyOf Try.f36) i s
theorem lok_slices_Clone_api_Posting_api_Posting : okLoops (bodyOf Try.f36) = true := by kernel_rfl
noncomputable def F_slices_Clone_api_Posting_api_Posting (ds : List D) : Option D := runF Try.prog c_slices_Clone_api_Posting_api_Posting an_slices_Clone_api_Posting_api_Posting 8 (bodyOf Try.f36) [.tmp 2] ds
theorem F_slices_Clone_api_Posting_api_Posting_eq (ds : List D) : F_slices_Clone_api_Posting_api_Posting ds = runG Try.prog c_slices_Clone_api_Posting_api_Posting (H_slices_Clone_api_Posting_api_Posting bigL) an_slices_Clone_api_Posting_api_Posting 8 (bodyOf Try.f36) [.tmp 2] ds := runG_eq lok_slices_Clone_api_Posting_api_Posting _ ds
theorem C_slices_Clone_api_Posting_api_Posting (ds : List D) (r : D) (h : F_slices_Clone_api_Posting_api_Posting ds = some r) : Contract Try.prog gl 36 ds r := contract_of mix Try.func36 rfl (by kernel_rfl) (by kernel_rfl) (by decide) (call := c_slices_Clone_api_Posting_api_Posting) ⟨callOf_ok cl_slices_Clone_api_Posting_api_Posting trivial, callOfE_ok ce_slices_Clone_api_Posting_api_Posting trivial⟩ h
noncomputable def NF_slices_Clone_api_Posting_api_Posting (ds : List D) : Option D := nilF F_slices_Clone_api_Posting_api_Posting (.own true []) ds
theorem NF_slices_Clone_api_Posting_api_Posting_sl (es : List (List D)) : NF_slices_Clone_api_Posting_api_Posting [.sl es] = if es.length = 0 then some (.own true []) else F_slices_Clone_api_Posting_api_Posting [.sl es] := Eq.trans rfl rfl
theorem NC_slices_Clone_api_Posting_api_Posting (ds : List D) (r : D) (h : NF_slices_Clone_api_Posting_api_Posting ds = some r) : Contract Try.prog gl 36 ds r := nilF_ok C_slices_Clone_api_Posting_api_Posting (fun A c => by rw [F_slices_Clone_api_Posting_api_Posting_eq]; cases A <;> simp) ds r h
-- sawmill/ledger.copyOf: loops []; state: params 0..0, then [1, 2]
attribute [simp] Try.f23
noncomputable def an_ledger_copyOf : Ann := ⟨[1, 2], [], [], [], [], some [2], [], [], [(57, 0, 3, 1), (57, 1, 3, 1), (57, 2, 41, 3)], []⟩
@[simp] theorem an_ledger_copyOf_draws : an_ledger_copyOf.draws = [] := rfl
@[simp] theorem an_ledger_copyOf_exits : an_ledger_copyOf.exits = [] := rfl
@[simp] theorem an_ledger_copyOf_rets : an_ledger_copyOf.rets = some [2] := rfl
@[simp] theorem an_ledger_copyOf_keep : an_ledger_copyOf.keep = [1, 2] := rfl
@[simp] theorem an_ledger_copyOf_cond : an_ledger_copyOf.cond = [] := rfl
@[simp] theorem an_ledger_copyOf_rows : an_ledger_copyOf.rows = [] := rfl
@[simp] theorem an_ledger_copyOf_loops : an_ledger_copyOf.loops = [] := rfl
@[simp] theorem an_ledger_copyOf_ecalls : an_ledger_copyOf.ecalls = [] := rfl
@[simp] theorem an_ledger_copyOf_crows : an_ledger_copyOf.crows = [(57, 0, 3, 1), (57, 1, 3, 1), (57, 2, 41, 3)] := rfl
@[simp] theorem an_ledger_copyOf_tails : an_ledger_copyOf.tails = [] := rfl
@[simp] noncomputable def cl_ledger_copyOf : List (Nat × (List D → Option D)) := [(36, NF_slices_Clone_api_Posting_api_Posting)]
@[simp] noncomputable def ce_ledger_copyOf : List (Nat × (List (Nat × O) → List D → Option (D × List (Nat × O)))) := []
noncomputable def c_ledger_copyOf : CT := ⟨callOf (cl_ledger_copyOf ), callOfE ce_ledger_copyOf, gl⟩
@[simp] theorem c_ledger_copyOf_p (f : FuncId) (ds : List D) : c_ledger_copyOf.p f ds = callOf (cl_ledger_copyOf ) f ds := Eq.trans rfl rfl
@[simp] theorem c_ledger_copyOf_e (f : FuncId) (hs : List (Nat × O)) (ds : List D) : c_ledger_copyOf.e f hs ds = callOfE ce_ledger_copyOf f hs ds := Eq.trans rfl rfl
@[simp] theorem c_ledger_copyOf_g (g : Nat) : c_ledger_copyOf.g g = gl g := Eq.trans rfl rfl
noncomputable def L_ledger_copyOf (i n : Nat) (s : St) : Option (E × St) := atN Try.prog c_ledger_copyOf an_ledger_copyOf 8 (bodyOf Try.f23) i n s
noncomputable def H_ledger_copyOf (n i : Nat) (s : St) : Option (E × St) := atH Try.prog c_ledger_copyOf an_ledger_copyOf 8 (bodyOf Try.f23) n i s
@[simp] theorem H_ledger_copyOf_eq (n i : Nat) (s : St) : H_ledger_copyOf n i s = L_ledger_copyOf i n (headOf (an_ledger_copyOf.loops.lookup i) s) := rfl
noncomputable def R_ledger_copyOf (i : Nat) (s : St) : Option (E × St) := stepL Try.prog c_ledger_copyOf an_ledger_copyOf 8 (bodyOf Try.f23) i s
theorem lok_ledger_copyOf : okLoops (bodyOf Try.f23) = true := by kernel_rfl
noncomputable def F_ledger_copyOf (ds : List D) : Option D := runF Try.prog c_ledger_copyOf an_ledger_copyOf 8 (bodyOf Try.f23) [.cell 2 41] ds
theorem F_ledger_copyOf_eq (ds : List D) : F_ledger_copyOf ds = runG Try.prog c_ledger_copyOf (H_ledger_copyOf bigL) an_ledger_copyOf 8 (bodyOf Try.f23) [.cell 2 41] ds := runG_eq lok_ledger_copyOf _ ds
theorem C_ledger_copyOf (ds : List D) (r : D) (h : F_ledger_copyOf ds = some r) : Contract Try.prog gl 23 ds r := contract_of mix Try.func23 rfl (by kernel_rfl) (by kernel_rfl) (by decide) (call := c_ledger_copyOf) ⟨callOf_ok cl_ledger_copyOf ⟨NC_slices_Clone_api_Posting_api_Posting, trivial⟩, callOfE_ok ce_ledger_copyOf trivial⟩ h
-- (*sawmill/ledger.Ledger).Post: loops [8, 16]; state: params 0..1, then [3, 4, 5, 6, 8, 10, 12, 23, 24, 25, 57]; WITH OBJECTS
attribute [simp] Try.f9
noncomputable def an_ledger_Ledger_Post : Ann := ⟨[0, 3, 4, 5, 6, 8, 10, 12, 23, 24, 25, 57], [14, 19, 26, 37, 59, 63, 69], [86], [(8, [0, 3, 6, 23, 24, 25]), (16, [0, 3, 6, 57])], [(0, [0, 3, 6]), (1, [0, 3, 6, 23, 24, 25]), (2, [0, 3, 6]), (3, [0, 3, 6, 57])], some [4], [(12, 10), (23, 6), (24, 0)], [(22, false)], [(57, 0, 3, 1), (57, 1, 3, 1), (57, 2, 41, 3)], [(24, (.alt 0 (.alt 1 (.alt 2 (.alt 3 (.alt 4 (.alt 5 (.alt 6 (.alt 7 (.alt 8 (.alt 9 (.alt 10 (.alt 11 .leaf .leaf) .leaf) .leaf) .leaf) .leaf) .leaf) .leaf) (.alt 5 (.alt 4 (.alt 6 (.alt 7 (.alt 8 (.alt 9 (.alt 10 (.alt 11 .leaf .leaf) .leaf) .leaf) .leaf) .leaf) .leaf) (.alt 6 (.alt 4 (.alt 7 (.alt 8 (.alt 9 (.alt 10 (.alt 11 .leaf .leaf) .leaf) .leaf) .leaf) .leaf) (.alt 7 (.alt 4 (.alt 8 (.alt 9 (.alt 10 (.alt 11 .leaf .leaf) .leaf) .leaf) .leaf) .leaf) .leaf)) .leaf)) .leaf)) (.alt 5 (.alt 3 (.alt 4 (.alt 6 (.alt 7 (.alt 8 (.alt 9 (.alt 10 (.alt 11 .leaf .leaf) .leaf) .leaf) .leaf) .leaf) .leaf) (.alt 6 (.alt 4 (.alt 7 (.alt 8 (.alt 9 (.alt 10 (.alt 11 .leaf .leaf) .leaf) .leaf) .leaf) .leaf) (.alt 7 (.alt 4 (.alt 8 (.alt 9 (.alt 10 (.alt 11 .leaf .leaf) .leaf) .leaf) .leaf) .leaf) .leaf)) .leaf)) (.alt 6 (.alt 3 (.alt 4 (.alt 7 (.alt 8 (.alt 9 (.alt 10 (.alt 11 .leaf .leaf) .leaf) .leaf) .leaf) .leaf) (.alt 7 (.alt 4 (.alt 8 (.alt 9 (.alt 10 (.alt 11 .leaf .leaf) .leaf) .leaf) .leaf) .leaf) .leaf)) (.alt 7 (.alt 3 (.alt 4 (.alt 8 (.alt 9 (.alt 10 (.alt 11 .leaf .leaf) .leaf) .leaf) .leaf) .leaf) .leaf) .leaf)) .leaf)) .leaf)) (.alt 5 (.alt 2 (.alt 3 (.alt 4 (.alt 6 (.alt 7 (.alt 8 (.alt 9 (.alt 10 (.alt 11 .leaf .leaf) .leaf) .leaf) .leaf) .leaf) .leaf) (.alt 6 (.alt 4 (.alt 7 (.alt 8 (.alt 9 (.alt 10 (.alt 11 .leaf .leaf) .leaf) .leaf) .leaf) .leaf) (.alt 7 (.alt 4 (.alt 8 (.alt 9 (.alt 10 (.alt 11 .leaf .leaf) .leaf) .leaf) .leaf) .leaf) .leaf)) .leaf)) (.alt 6 (.alt 3 (.alt 4 (.alt 7 (.alt 8 (.alt 9 (.alt 10 (.alt 11 .leaf .leaf) .leaf) .leaf) .leaf) .leaf) (.alt 7 (.alt 4 (.alt 8 (.alt 9 (.alt 10 (.alt 11 .leaf .leaf) .leaf) .leaf) .leaf) .leaf) .leaf)) (.alt 7 (.alt 3 (.alt 4 (.alt 8 (.alt 9 (.alt 10 (.alt 11 .leaf .leaf) .leaf) .leaf) .leaf) .leaf) .leaf) .leaf)) .leaf)) (.alt 6 (.alt 2 (.alt 3 (.alt 4 (.alt 7 (.alt 8 (.alt 9 (.alt 10 (.alt 11 .leaf .leaf) .leaf) .leaf) .leaf) .leaf) (.alt 7 (.alt 4 (.alt 8 (.alt 9 (.alt 10 (.alt 11 .leaf .leaf) .leaf) .leaf) .leaf) .leaf) .leaf)) (.alt 7 (.alt 3 (.alt 4 (.alt 8 (.alt 9 (.alt 10 (.alt 11 .leaf .leaf) .leaf) .leaf) .leaf) .leaf) .leaf) .leaf)) (.alt 7 (.alt 2 (.alt 3 (.alt 4 (.alt 8 (.alt 9 (.alt 10 (.alt 11 .leaf .leaf) .leaf) .leaf) .leaf) .leaf) .leaf) .leaf) .leaf)) .leaf)) .leaf)) .leaf) .leaf))]⟩
@[simp] theorem an_ledger_Ledger_Post_draws : an_ledger_Ledger_Post.draws = [(12, 10), (23, 6), (24, 0)] := rfl
@[simp] theorem an_ledger_Ledger_Post_exits : an_ledger_Ledger_Post.exits = [(0, [0, 3, 6]), (1, [0, 3, 6, 23, 24, 25]), (2, [0, 3, 6]), (3, [0, 3, 6, 57])] := rfl
@[simp] theorem an_ledger_Ledger_Post_rets : an_ledger_Ledger_Post.rets = some [4] := rfl
@[simp] theorem an_ledger_Ledger_Post_keep : an_ledger_Ledger_Post.keep = [0, 3, 4, 5, 6, 8, 10, 12, 23, 24, 25, 57] := rfl
@[simp] theorem an_ledger_Ledger_Post_cond : an_ledger_Ledger_Post.cond = [14, 19, 26, 37, 59, 63, 69] := rfl
@[simp] theorem an_ledger_Ledger_Post_rows : an_ledger_Ledger_Post.rows = [86] := rfl
@[simp] theorem an_ledger_Ledger_Post_loops : an_ledger_Ledger_Post.loops = [(8, [0, 3, 6, 23, 24, 25]), (16, [0, 3, 6, 57])] := rfl
@[simp] theorem an_ledger_Ledger_Post_ecalls : an_ledger_Ledger_Post.ecalls = [(22, false)] := rfl
@[simp] theorem an_ledger_Ledger_Post_crows : an_ledger_Ledger_Post.crows = [(57, 0, 3, 1), (57, 1, 3, 1), (57, 2, 41, 3)] := rfl
@[simp] theorem an_ledger_Ledger_Post_tails : an_ledger_Ledger_Post.tails = [(24, (.alt 0 (.alt 1 (.alt 2 (.alt 3 (.alt 4 (.alt 5 (.alt 6 (.alt 7 (.alt 8 (.alt 9 (.alt 10 (.alt 11 .leaf .leaf) .leaf) .leaf) .leaf) .leaf) .leaf) .leaf) (.alt 5 (.alt 4 (.alt 6 (.alt 7 (.alt 8 (.alt 9 (.alt 10 (.alt 11 .leaf .leaf) .leaf) .leaf) .leaf) .leaf) .leaf) (.alt 6 (.alt 4 (.alt 7 (.alt 8 (.alt 9 (.alt 10 (.alt 11 .leaf .leaf) .leaf) .leaf) .leaf) .leaf) (.alt 7 (.alt 4 (.alt 8 (.alt 9 (.alt 10 (.alt 11 .leaf .leaf) .leaf) .leaf) .leaf) .leaf) .leaf)) .leaf)) .leaf)) (.alt 5 (.alt 3 (.alt 4 (.alt 6 (.alt 7 (.alt 8 (.alt 9 (.alt 10 (.alt 11 .leaf .leaf) .leaf) .leaf) .leaf) .leaf) .leaf) (.alt 6 (.alt 4 (.alt 7 (.alt 8 (.alt 9 (.alt 10 (.alt 11 .leaf .leaf) .leaf) .leaf) .leaf) .leaf) (.alt 7 (.alt 4 (.alt 8 (.alt 9 (.alt 10 (.alt 11 .leaf .leaf) .leaf) .leaf) .leaf) .leaf) .leaf)) .leaf)) (.alt 6 (.alt 3 (.alt 4 (.alt 7 (.alt 8 (.alt 9 (.alt 10 (.alt 11 .leaf .leaf) .leaf) .leaf) .leaf) .leaf) (.alt 7 (.alt 4 (.alt 8 (.alt 9 (.alt 10 (.alt 11 .leaf .leaf) .leaf) .leaf) .leaf) .leaf) .leaf)) (.alt 7 (.alt 3 (.alt 4 (.alt 8 (.alt 9 (.alt 10 (.alt 11 .leaf .leaf) .leaf) .leaf) .leaf) .leaf) .leaf) .leaf)) .leaf)) .leaf)) (.alt 5 (.alt 2 (.alt 3 (.alt 4 (.alt 6 (.alt 7 (.alt 8 (.alt 9 (.alt 10 (.alt 11 .leaf .leaf) .leaf) .leaf) .leaf) .leaf) .leaf) (.alt 6 (.alt 4 (.alt 7 (.alt 8 (.alt 9 (.alt 10 (.alt 11 .leaf .leaf) .leaf) .leaf) .leaf) .leaf) (.alt 7 (.alt 4 (.alt 8 (.alt 9 (.alt 10 (.alt 11 .leaf .leaf) .leaf) .leaf) .leaf) .leaf) .leaf)) .leaf)) (.alt 6 (.alt 3 (.alt 4 (.alt 7 (.alt 8 (.alt 9 (.alt 10 (.alt 11 .leaf .leaf) .leaf) .leaf) .leaf) .leaf) (.alt 7 (.alt 4 (.alt 8 (.alt 9 (.alt 10 (.alt 11 .leaf .leaf) .leaf) .leaf) .leaf) .leaf) .leaf)) (.alt 7 (.alt 3 (.alt 4 (.alt 8 (.alt 9 (.alt 10 (.alt 11 .leaf .leaf) .leaf) .leaf) .leaf) .leaf) .leaf) .leaf)) .leaf)) (.alt 6 (.alt 2 (.alt 3 (.alt 4 (.alt 7 (.alt 8 (.alt 9 (.alt 10 (.alt 11 .leaf .leaf) .leaf) .leaf) .leaf) .leaf) (.alt 7 (.alt 4 (.alt 8 (.alt 9 (.alt 10 (.alt 11 .leaf .leaf) .leaf) .leaf) .leaf) .leaf) .leaf)) (.alt 7 (.alt 3 (.alt 4 (.alt 8 (.alt 9 (.alt 10 (.alt 11 .leaf .leaf) .leaf) .leaf) .leaf) .leaf) .leaf) .leaf)) (.alt 7 (.alt 2 (.alt 3 (.alt 4 (.alt 8 (.alt 9 (.alt 10 (.alt 11 .leaf .leaf) .leaf) .leaf) .leaf) .leaf) .leaf) .leaf) .leaf)) .leaf)) .leaf)) .leaf) .leaf))] := rfl
@[simp] noncomputable def cl_ledger_Ledger_Post : List (Nat × (List D → Option D)) := [(20, F_ledger_Ledger_checkEntry), (21, F_ledger_outside), (23, F_ledger_copyOf)]
@[simp] noncomputable def ce_ledger_Ledger_Post : List (Nat × (List (Nat × O) → List D → Option (D × List (Nat × O)))) := [(22, E_copy)]
noncomputable def c_ledger_Ledger_Post : CT := ⟨callOf (cl_ledger_Ledger_Post ), callOfE ce_ledger_Ledger_Post, gl⟩
@[simp] theorem c_ledger_Ledger_Post_p (f : FuncId) (ds : List D) : c_ledger_Ledger_Post.p f ds = callOf (cl_ledger_Ledger_Post ) f ds := Eq.trans rfl rfl
@[simp] theorem c_ledger_Ledger_Post_e (f : FuncId) (hs : List (Nat × O)) (ds : List D) : c_ledger_Ledger_Post.e f hs ds = callOfE ce_ledger_Ledger_Post f hs ds := Eq.trans rfl rfl
@[simp] theorem c_ledger_Ledger_Post_g (g : Nat) : c_ledger_Ledger_Post.g g = gl g := Eq.trans rfl rfl
noncomputable def L_ledger_Ledger_Post (i n : Nat) (s : St) : Option (E × St) := atN Try.prog c_ledger_Ledger_Post an_ledger_Ledger_Post 93 (bodyOf Try.f9) i n s
noncomputable def H_ledger_Ledger_Post (n i : Nat) (s : St) : Option (E × St) := atH Try.prog c_ledger_Ledger_Post an_ledger_Ledger_Post 93 (bodyOf Try.f9) n i s
@[simp] theorem H_ledger_Ledger_Post_eq (n i : Nat) (s : St) : H_ledger_Ledger_Post n i s = L_ledger_Ledger_Post i n (headOf (an_ledger_Ledger_Post.loops.lookup i) s) := rfl
noncomputable def R_ledger_Ledger_Post (i : Nat) (s : St) : Option (E × St) := stepL Try.prog c_ledger_Ledger_Post an_ledger_Ledger_Post 93 (bodyOf Try.f9) i s
theorem lok_ledger_Ledger_Post : okLoops (bodyOf Try.f9) = true := by kernel_rfl
theorem L_ledger_Ledger_Post_succ_8 (n : Nat) (s : St) : L_ledger_Ledger_Post 8 (n + 1) s = andThen (R_ledger_Ledger_Post 8 s) (H_ledger_Ledger_Post n 8) := atN_succ1 lok_ledger_Ledger_Post 8 n (by kernel_rfl) s
noncomputable def G_ledger_Ledger_Post_16 (s : St) : Option (E × St) := restS Try.prog c_ledger_Ledger_Post (H_ledger_Ledger_Post bigL) an_ledger_Ledger_Post 93 (itOf (loopAt (bodyOf Try.f9) 16)) s
theorem G_ledger_Ledger_Post_16_eq (s : St) : G_ledger_Ledger_Post_16 s = restS Try.prog c_ledger_Ledger_Post (H_ledger_Ledger_Post bigL) an_ledger_Ledger_Post 93 (itOf (loopAt (bodyOf Try.f9) 16)) s := rfl
theorem I_ledger_Ledger_Post_16 (n : Nat) (s : St) : L_ledger_Ledger_Post 16 n s = itLoop 93 (G_ledger_Ledger_Post_16 ) (an_ledger_Ledger_Post.loops.lookup 16) 58 57 s := atN_it lok_ledger_Ledger_Post (by kernel_rfl) n s
theorem R_ledger_Ledger_Post_eq (i : Nat) (s : St) : R_ledger_Ledger_Post i s = runS Try.prog c_ledger_Ledger_Post (H_ledger_Ledger_Post bigL) an_ledger_Ledger_Post 93 (loopAt (bodyOf Try.f9) i) s := rfl
noncomputable def E_ledger_Ledger_Post (hs : List (Nat × O)) (ds : List D) : Option (D × List (Nat × O)) := runE Try.prog c_ledger_Ledger_Post an_ledger_Ledger_Post 93 (bodyOf Try.f9) [.tmp 4] hs ds
theorem E_ledger_Ledger_Post_eq (hs : List (Nat × O)) (ds : List D) : E_ledger_Ledger_Post hs ds = runGE Try.prog c_ledger_Ledger_Post (H_ledger_Ledger_Post bigL) an_ledger_Ledger_Post 93 (bodyOf Try.f9) [.tmp 4] hs ds := runGE_eq lok_ledger_Ledger_Post _ hs ds
theorem CE_ledger_Ledger_Post (hs : List (Nat × O)) (ds : List D) (r : D) (hs' : List (Nat × O)) (h : E_ledger_Ledger_Post hs ds = some (r, hs')) : ContractE Try.prog gl 9 hs ds r hs' := contractE_of mix Try.func9 rfl (by kernel_rfl) (by kernel_rfl) (by decide) (call := c_ledger_Ledger_Post) ⟨callOf_ok cl_ledger_Ledger_Post ⟨C_ledger_Ledger_checkEntry, C_ledger_outside, C_ledger_copyOf, trivial⟩, callOfE_ok ce_ledger_Ledger_Post ⟨CE_copy, trivial⟩⟩ h
-- (*sawmill/ledger.Ledger).Balance: loops []; state: params 0..1, then [4]
attribute [simp] Try.f24
noncomputable def an_ledger_Ledger_Balance : Ann := ⟨[0, 4], [6], [], [], [], some [4], [], [], [(57, 0, 3, 1), (57, 1, 3, 1), (57, 2, 41, 3)], []⟩
@[simp] theorem an_ledger_Ledger_Balance_draws : an_ledger_Ledger_Balance.draws = [] := rfl
@[simp] theorem an_ledger_Ledger_Balance_exits : an_ledger_Ledger_Balance.exits = [] := rfl
@[simp] theorem an_ledger_Ledger_Balance_rets : an_ledger_Ledger_Balance.rets = some [4] := rfl
@[simp] theorem an_ledger_Ledger_Balance_keep : an_ledger_Ledger_Balance.keep = [0, 4] := rfl
@[simp] theorem an_ledger_Ledger_Balance_cond : an_ledger_Ledger_Balance.cond = [6] := rfl
@[simp] theorem an_ledger_Ledger_Balance_rows : an_ledger_Ledger_Balance.rows = [] := rfl
@[simp] theorem an_ledger_Ledger_Balance_loops : an_ledger_Ledger_Balance.loops = [] := rfl
@[simp] theorem an_ledger_Ledger_Balance_ecalls : an_ledger_Ledger_Balance.ecalls = [] := rfl
@[simp] theorem an_ledger_Ledger_Balance_crows : an_ledger_Ledger_Balance.crows = [(57, 0, 3, 1), (57, 1, 3, 1), (57, 2, 41, 3)] := rfl
@[simp] theorem an_ledger_Ledger_Balance_tails : an_ledger_Ledger_Balance.tails = [] := rfl
@[simp] noncomputable def cl_ledger_Ledger_Balance : List (Nat × (List D → Option D)) := []
@[simp] noncomputable def ce_ledger_Ledger_Balance : List (Nat × (List (Nat × O) → List D → Option (D × List (Nat × O)))) := []
noncomputable def c_ledger_Ledger_Balance : CT := ⟨callOf (cl_ledger_Ledger_Balance ), callOfE ce_ledger_Ledger_Balance, gl⟩
@[simp] theorem c_ledger_Ledger_Balance_p (f : FuncId) (ds : List D) : c_ledger_Ledger_Balance.p f ds = callOf (cl_ledger_Ledger_Balance ) f ds := Eq.trans rfl rfl
@[simp] theorem c_ledger_Ledger_Balance_e (f : FuncId) (hs : List (Nat × O)) (ds : List D) : c_ledger_Ledger_Balance.e f hs ds = callOfE ce_ledger_Ledger_Balance f hs ds := Eq.trans rfl rfl
@[simp] theorem c_ledger_Ledger_Balance_g (g : Nat) : c_ledger_Ledger_Balance.g g = gl g := Eq.trans rfl rfl
noncomputable def L_ledger_Ledger_Balance (i n : Nat) (s : St) : Option (E × St) := atN Try.prog c_ledger_Ledger_Balance an_ledger_Ledger_Balance 13 (bodyOf Try.f24) i n s
noncomputable def H_ledger_Ledger_Balance (n i : Nat) (s : St) : Option (E × St) := atH Try.prog c_ledger_Ledger_Balance an_ledger_Ledger_Balance 13 (bodyOf Try.f24) n i s
@[simp] theorem H_ledger_Ledger_Balance_eq (n i : Nat) (s : St) : H_ledger_Ledger_Balance n i s = L_ledger_Ledger_Balance i n (headOf (an_ledger_Ledger_Balance.loops.lookup i) s) := rfl
noncomputable def R_ledger_Ledger_Balance (i : Nat) (s : St) : Option (E × St) := stepL Try.prog c_ledger_Ledger_Balance an_ledger_Ledger_Balance 13 (bodyOf Try.f24) i s
theorem lok_ledger_Ledger_Balance : okLoops (bodyOf Try.f24) = true := by kernel_rfl
noncomputable def F_ledger_Ledger_Balance (ds : List D) : Option D := runF Try.prog c_ledger_Ledger_Balance an_ledger_Ledger_Balance 13 (bodyOf Try.f24) [.tmp 4] ds
theorem F_ledger_Ledger_Balance_eq (ds : List D) : F_ledger_Ledger_Balance ds = runG Try.prog c_ledger_Ledger_Balance (H_ledger_Ledger_Balance bigL) an_ledger_Ledger_Balance 13 (bodyOf Try.f24) [.tmp 4] ds := runG_eq lok_ledger_Ledger_Balance _ ds
theorem C_ledger_Ledger_Balance (ds : List D) (r : D) (h : F_ledger_Ledger_Balance ds = some r) : Contract Try.prog gl 24 ds r := contract_of mix Try.func24 rfl (by kernel_rfl) (by kernel_rfl) (by decide) (call := c_ledger_Ledger_Balance) ⟨callOf_ok cl_ledger_Ledger_Balance trivial, callOfE_ok ce_ledger_Ledger_Balance trivial⟩ h
-- (*sawmill/ledger.Ledger).Entries: loops [5]; state: params 0..0, then [2, 3, 5, 11, 12, 13]
attribute [simp] Try.f25
noncomputable def an_ledger_Ledger_Entries : Ann := ⟨[0, 2, 3, 5, 11, 12, 13], [7, 14], [3], [(5, [3, 11, 12, 13])], [(0, [3]), (1, [3, 11, 12, 13])], some [2], [], [], [(57, 0, 3, 1), (57, 1, 3, 1), (57, 2, 41, 3)], []⟩
@[simp] theorem an_ledger_Ledger_Entries_draws : an_ledger_Ledger_Entries.draws = [] := rfl
@[simp] theorem an_ledger_Ledger_Entries_exits : an_ledger_Ledger_Entries.exits = [(0, [3]), (1, [3, 11, 12, 13])] := rfl
@[simp] theorem an_ledger_Ledger_Entries_rets : an_ledger_Ledger_Entries.rets = some [2] := rfl
@[simp] theorem an_ledger_Ledger_Entries_keep : an_ledger_Ledger_Entries.keep = [0, 2, 3, 5, 11, 12, 13] := rfl
@[simp] theorem an_ledger_Ledger_Entries_cond : an_ledger_Ledger_Entries.cond = [7, 14] := rfl
@[simp] theorem an_ledger_Ledger_Entries_rows : an_ledger_Ledger_Entries.rows = [3] := rfl
@[simp] theorem an_ledger_Ledger_Entries_loops : an_ledger_Ledger_Entries.loops = [(5, [3, 11, 12, 13])] := rfl
@[simp] theorem an_ledger_Ledger_Entries_ecalls : an_ledger_Ledger_Entries.ecalls = [] := rfl
@[simp] theorem an_ledger_Ledger_Entries_crows : an_ledger_Ledger_Entries.crows = [(57, 0, 3, 1), (57, 1, 3, 1), (57, 2, 41, 3)] := rfl
@[simp] theorem an_ledger_Ledger_Entries_tails : an_ledger_Ledger_Entries.tails = [] := rfl
@[simp] noncomputable def cl_ledger_Ledger_Entries : List (Nat × (List D → Option D)) := [(23, F_ledger_copyOf)]
@[simp] noncomputable def ce_ledger_Ledger_Entries : List (Nat × (List (Nat × O) → List D → Option (D × List (Nat × O)))) := []
noncomputable def c_ledger_Ledger_Entries : CT := ⟨callOf (cl_ledger_Ledger_Entries ), callOfE ce_ledger_Ledger_Entries, gl⟩
@[simp] theorem c_ledger_Ledger_Entries_p (f : FuncId) (ds : List D) : c_ledger_Ledger_Entries.p f ds = callOf (cl_ledger_Ledger_Entries ) f ds := Eq.trans rfl rfl
@[simp] theorem c_ledger_Ledger_Entries_e (f : FuncId) (hs : List (Nat × O)) (ds : List D) : c_ledger_Ledger_Entries.e f hs ds = callOfE ce_ledger_Ledger_Entries f hs ds := Eq.trans rfl rfl
@[simp] theorem c_ledger_Ledger_Entries_g (g : Nat) : c_ledger_Ledger_Entries.g g = gl g := Eq.trans rfl rfl
noncomputable def L_ledger_Ledger_Entries (i n : Nat) (s : St) : Option (E × St) := atN Try.prog c_ledger_Ledger_Entries an_ledger_Ledger_Entries 24 (bodyOf Try.f25) i n s
noncomputable def H_ledger_Ledger_Entries (n i : Nat) (s : St) : Option (E × St) := atH Try.prog c_ledger_Ledger_Entries an_ledger_Ledger_Entries 24 (bodyOf Try.f25) n i s
@[simp] theorem H_ledger_Ledger_Entries_eq (n i : Nat) (s : St) : H_ledger_Ledger_Entries n i s = L_ledger_Ledger_Entries i n (headOf (an_ledger_Ledger_Entries.loops.lookup i) s) := rfl
noncomputable def R_ledger_Ledger_Entries (i : Nat) (s : St) : Option (E × St) := stepL Try.prog c_ledger_Ledger_Entries an_ledger_Ledger_Entries 24 (bodyOf Try.f25) i s
theorem lok_ledger_Ledger_Entries : okLoops (bodyOf Try.f25) = true := by kernel_rfl
theorem L_ledger_Ledger_Entries_succ (i n : Nat) (s : St) : L_ledger_Ledger_Entries i (n + 1) s = andThen (R_ledger_Ledger_Entries i s) (H_ledger_Ledger_Entries n i) := atN_succ lok_ledger_Ledger_Entries (by kernel_rfl) i n s
theorem R_ledger_Ledger_Entries_eq (i : Nat) (s : St) : R_ledger_Ledger_Entries i s = runS Try.prog c_ledger_Ledger_Entries (H_ledger_Ledger_Entries bigL) an_ledger_Ledger_Entries 24 (loopAt (bodyOf Try.f25) i) s := rfl
noncomputable def F_ledger_Ledger_Entries (ds : List D) : Option D := runF Try.prog c_ledger_Ledger_Entries an_ledger_Ledger_Entries 24 (bodyOf Try.f25) [.tmp 2] ds
theorem F_ledger_Ledger_Entries_eq (ds : List D) : F_ledger_Ledger_Entries ds = runG Try.prog c_ledger_Ledger_Entries (H_ledger_Ledger_Entries bigL) an_ledger_Ledger_Entries 24 (bodyOf Try.f25) [.tmp 2] ds := runG_eq lok_ledger_Ledger_Entries _ ds
theorem C_ledger_Ledger_Entries (ds : List D) (r : D) (h : F_ledger_Ledger_Entries ds = some r) : Contract Try.prog gl 25 ds r := contract_of mix Try.func25 rfl (by kernel_rfl) (by kernel_rfl) (by decide) (call := c_ledger_Ledger_Entries) ⟨callOf_ok cl_ledger_Ledger_Entries ⟨C_ledger_copyOf, trivial⟩, callOfE_ok ce_ledger_Ledger_Entries trivial⟩ h
-- slices.Index[[]string,string]: loops [2]; state: params 0..1, then [4, 5, 7, 8]
attribute [simp] Try.f37
noncomputable def an_slices_Index_string_string : Ann := ⟨[0, 4, 5, 7, 8], [9, 16], [], [(2, [0, 1, 7, 8])], [(0, []), (1, [0, 1, 7, 8])], some [4], [], [], [(57, 0, 3, 1), (57, 1, 3, 1), (57, 2, 41, 3)], []⟩
@[simp] theorem an_slices_Index_string_string_draws : an_slices_Index_string_string.draws = [] := rfl
@[simp] theorem an_slices_Index_string_string_exits : an_slices_Index_string_string.exits = [(0, []), (1, [0, 1, 7, 8])] := rfl
@[simp] theorem an_slices_Index_string_string_rets : an_slices_Index_string_string.rets = some [4] := rfl
@[simp] theorem an_slices_Index_string_string_keep : an_slices_Index_string_string.keep = [0, 4, 5, 7, 8] := rfl
@[simp] theorem an_slices_Index_string_string_cond : an_slices_Index_string_string.cond = [9, 16] := rfl
@[simp] theorem an_slices_Index_string_string_rows : an_slices_Index_string_string.rows = [] := rfl
@[simp] theorem an_slices_Index_string_string_loops : an_slices_Index_string_string.loops = [(2, [0, 1, 7, 8])] := rfl
@[simp] theorem an_slices_Index_string_string_ecalls : an_slices_Index_string_string.ecalls = [] := rfl
@[simp] theorem an_slices_Index_string_string_crows : an_slices_Index_string_string.crows = [(57, 0, 3, 1), (57, 1, 3, 1), (57, 2, 41, 3)] := rfl
@[simp] theorem an_slices_Index_string_string_tails : an_slices_Index_string_string.tails = [] := rfl
@[simp] noncomputable def cl_slices_Index_string_string : List (Nat × (List D → Option D)) := []
@[simp] noncomputable def ce_slices_Index_string_string : List (Nat × (List (Nat × O) → List D → Option (D × List (Nat × O)))) := []
noncomputable def c_slices_Index_string_string : CT := ⟨callOf (cl_slices_Index_string_string ), callOfE ce_slices_Index_string_string, gl⟩
@[simp] theorem c_slices_Index_string_string_p (f : FuncId) (ds : List D) : c_slices_Index_string_string.p f ds = callOf (cl_slices_Index_string_string ) f ds := Eq.trans rfl rfl
@[simp] theorem c_slices_Index_string_string_e (f : FuncId) (hs : List (Nat × O)) (ds : List D) : c_slices_Index_string_string.e f hs ds = callOfE ce_slices_Index_string_string f hs ds := Eq.trans rfl rfl
@[simp] theorem c_slices_Index_string_string_g (g : Nat) : c_slices_Index_string_string.g g = gl g := Eq.trans rfl rfl
noncomputable def L_slices_Index_string_string (i n : Nat) (s : St) : Option (E × St) := atN Try.prog c_slices_Index_string_string an_slices_Index_string_string 19 (bodyOf Try.f37) i n s
noncomputable def H_slices_Index_string_string (n i : Nat) (s : St) : Option (E × St) := atH Try.prog c_slices_Index_string_string an_slices_Index_string_string 19 (bodyOf Try.f37) n i s
@[simp] theorem H_slices_Index_string_string_eq (n i : Nat) (s : St) : H_slices_Index_string_string n i s = L_slices_Index_string_string i n (headOf (an_slices_Index_string_string.loops.lookup i) s) := rfl
noncomputable def R_slices_Index_string_string (i : Nat) (s : St) : Option (E × St) := stepL Try.prog c_slices_Index_string_string an_slices_Index_string_string 19 (bodyOf Try.f37) i s
theorem lok_slices_Index_string_string : okLoops (bodyOf Try.f37) = true := by kernel_rfl
theorem L_slices_Index_string_string_succ (i n : Nat) (s : St) : L_slices_Index_string_string i (n + 1) s = andThen (R_slices_Index_string_string i s) (H_slices_Index_string_string n i) := atN_succ lok_slices_Index_string_string (by kernel_rfl) i n s
theorem R_slices_Index_string_string_eq (i : Nat) (s : St) : R_slices_Index_string_string i s = runS Try.prog c_slices_Index_string_string (H_slices_Index_string_string bigL) an_slices_Index_string_string 19 (loopAt (bodyOf Try.f37) i) s := rfl
noncomputable def F_slices_Index_string_string (ds : List D) : Option D := runF Try.prog c_slices_Index_string_string an_slices_Index_string_string 19 (bodyOf Try.f37) [.tmp 4] ds
theorem F_slices_Index_string_string_eq (ds : List D) : F_slices_Index_string_string ds = runG Try.prog c_slices_Index_string_string (H_slices_Index_string_string bigL) an_slices_Index_string_string 19 (bodyOf Try.f37) [.tmp 4] ds := runG_eq lok_slices_Index_string_string _ ds
theorem C_slices_Index_string_string (ds : List D) (r : D) (h : F_slices_Index_string_string ds = some r) : Contract Try.prog gl 37 ds r := contract_of mix Try.func37 rfl (by kernel_rfl) (by kernel_rfl) (by decide) (call := c_slices_Index_string_string) ⟨callOf_ok cl_slices_Index_string_string trivial, callOfE_ok ce_slices_Index_string_string trivial⟩ h
-- slices.Contains[[]string,string]: loops []; state: params 0..1, then [4]
attribute [simp] Try.f26
noncomputable def an_slices_Contains_string_string : Ann := ⟨[4], [], [], [], [], some [4], [], [], [(57, 0, 3, 1), (57, 1, 3, 1), (57, 2, 41, 3)], []⟩
@[simp] theorem an_slices_Contains_string_string_draws : an_slices_Contains_string_string.draws = [] := rfl
@[simp] theorem an_slices_Contains_string_string_exits : an_slices_Contains_string_string.exits = [] := rfl
@[simp] theorem an_slices_Contains_string_string_rets : an_slices_Contains_string_string.rets = some [4] := rfl
@[simp] theorem an_slices_Contains_string_string_keep : an_slices_Contains_string_string.keep = [4] := rfl
@[simp] theorem an_slices_Contains_string_string_cond : an_slices_Contains_string_string.cond = [] := rfl
@[simp] theorem an_slices_Contains_string_string_rows : an_slices_Contains_string_string.rows = [] := rfl
@[simp] theorem an_slices_Contains_string_string_loops : an_slices_Contains_string_string.loops = [] := rfl
@[simp] theorem an_slices_Contains_string_string_ecalls : an_slices_Contains_string_string.ecalls = [] := rfl
@[simp] theorem an_slices_Contains_string_string_crows : an_slices_Contains_string_string.crows = [(57, 0, 3, 1), (57, 1, 3, 1), (57, 2, 41, 3)] := rfl
@[simp] theorem an_slices_Contains_string_string_tails : an_slices_Contains_string_string.tails = [] := rfl
@[simp] noncomputable def cl_slices_Contains_string_string : List (Nat × (List D → Option D)) := [(37, F_slices_Index_string_string)]
@[simp] noncomputable def ce_slices_Contains_string_string : List (Nat × (List (Nat × O) → List D → Option (D × List (Nat × O)))) := []
noncomputable def c_slices_Contains_string_string : CT := ⟨callOf (cl_slices_Contains_string_string ), callOfE ce_slices_Contains_string_string, gl⟩
@[simp] theorem c_slices_Contains_string_string_p (f : FuncId) (ds : List D) : c_slices_Contains_string_string.p f ds = callOf (cl_slices_Contains_string_string ) f ds := Eq.trans rfl rfl
@[simp] theorem c_slices_Contains_string_string_e (f : FuncId) (hs : List (Nat × O)) (ds : List D) : c_slices_Contains_string_string.e f hs ds = callOfE ce_slices_Contains_string_string f hs ds := Eq.trans rfl rfl
@[simp] theorem c_slices_Contains_string_string_g (g : Nat) : c_slices_Contains_string_string.g g = gl g := Eq.trans rfl rfl
noncomputable def L_slices_Contains_string_string (i n : Nat) (s : St) : Option (E × St) := atN Try.prog c_slices_Contains_string_string an_slices_Contains_string_string 9 (bodyOf Try.f26) i n s
noncomputable def H_slices_Contains_string_string (n i : Nat) (s : St) : Option (E × St) := atH Try.prog c_slices_Contains_string_string an_slices_Contains_string_string 9 (bodyOf Try.f26) n i s
@[simp] theorem H_slices_Contains_string_string_eq (n i : Nat) (s : St) : H_slices_Contains_string_string n i s = L_slices_Contains_string_string i n (headOf (an_slices_Contains_string_string.loops.lookup i) s) := rfl
noncomputable def R_slices_Contains_string_string (i : Nat) (s : St) : Option (E × St) := stepL Try.prog c_slices_Contains_string_string an_slices_Contains_string_string 9 (bodyOf Try.f26) i s
theorem lok_slices_Contains_string_string : okLoops (bodyOf Try.f26) = true := by kernel_rfl
noncomputable def F_slices_Contains_string_string (ds : List D) : Option D := runF Try.prog c_slices_Contains_string_string an_slices_Contains_string_string 9 (bodyOf Try.f26) [.tmp 4] ds
theorem F_slices_Contains_string_string_eq (ds : List D) : F_slices_Contains_string_string ds = runG Try.prog c_slices_Contains_string_string (H_slices_Contains_string_string bigL) an_slices_Contains_string_string 9 (bodyOf Try.f26) [.tmp 4] ds := runG_eq lok_slices_Contains_string_string _ ds
theorem C_slices_Contains_string_string (ds : List D) (r : D) (h : F_slices_Contains_string_string ds = some r) : Contract Try.prog gl 26 ds r := contract_of mix Try.func26 rfl (by kernel_rfl) (by kernel_rfl) (by decide) (call := c_slices_Contains_string_string) ⟨callOf_ok cl_slices_Contains_string_string ⟨C_slices_Index_string_string, trivial⟩, callOfE_ok ce_slices_Contains_string_string trivial⟩ h
-- sawmill/books.Open: loops [6, 16, 19]; state: params 0..0, then [2, 3, 4, 5, 6, 7, 9, 11, 15, 16, 17, 38, 39, 40, 45, 46, 47]
attribute [simp] Try.f10
noncomputable def an_books_Open : Ann := ⟨[0, 2, 3, 4, 5, 6, 7, 9, 11, 15, 16, 17, 38, 39, 40, 45, 46, 47], [13, 18, 30, 36, 41, 48, 55], [], [(6, [0, 3, 4, 15, 16, 17]), (16, [3, 38, 39, 40]), (19, [3, 38, 39, 40, 45, 46, 47])], [(0, [0, 3, 4]), (1, [0, 3, 4, 15, 16, 17]), (2, []), (3, [3, 38, 39, 40]), (4, [3, 38, 39, 40]), (5, [3, 38, 39, 40, 45, 46, 47])], some [2], [], [], [(57, 0, 3, 1), (57, 1, 3, 1), (57, 2, 41, 3)], []⟩
@[simp] theorem an_books_Open_draws : an_books_Open.draws = [] := rfl
@[simp] theorem an_books_Open_exits : an_books_Open.exits = [(0, [0, 3, 4]), (1, [0, 3, 4, 15, 16, 17]), (2, []), (3, [3, 38, 39, 40]), (4, [3, 38, 39, 40]), (5, [3, 38, 39, 40, 45, 46, 47])] := rfl
@[simp] theorem an_books_Open_rets : an_books_Open.rets = some [2] := rfl
@[simp] theorem an_books_Open_keep : an_books_Open.keep = [0, 2, 3, 4, 5, 6, 7, 9, 11, 15, 16, 17, 38, 39, 40, 45, 46, 47] := rfl
@[simp] theorem an_books_Open_cond : an_books_Open.cond = [13, 18, 30, 36, 41, 48, 55] := rfl
@[simp] theorem an_books_Open_rows : an_books_Open.rows = [] := rfl
@[simp] theorem an_books_Open_loops : an_books_Open.loops = [(6, [0, 3, 4, 15, 16, 17]), (16, [3, 38, 39, 40]), (19, [3, 38, 39, 40, 45, 46, 47])] := rfl
@[simp] theorem an_books_Open_ecalls : an_books_Open.ecalls = [] := rfl
@[simp] theorem an_books_Open_crows : an_books_Open.crows = [(57, 0, 3, 1), (57, 1, 3, 1), (57, 2, 41, 3)] := rfl
@[simp] theorem an_books_Open_tails : an_books_Open.tails = [] := rfl
@[simp] noncomputable def cl_books_Open : List (Nat × (List D → Option D)) := [(5, F_books_Accounts), (24, F_ledger_Ledger_Balance), (25, F_ledger_Ledger_Entries), (26, F_slices_Contains_string_string)]
@[simp] noncomputable def ce_books_Open : List (Nat × (List (Nat × O) → List D → Option (D × List (Nat × O)))) := []
noncomputable def c_books_Open : CT := ⟨callOf (cl_books_Open ), callOfE ce_books_Open, gl⟩
@[simp] theorem c_books_Open_p (f : FuncId) (ds : List D) : c_books_Open.p f ds = callOf (cl_books_Open ) f ds := Eq.trans rfl rfl
@[simp] theorem c_books_Open_e (f : FuncId) (hs : List (Nat × O)) (ds : List D) : c_books_Open.e f hs ds = callOfE ce_books_Open f hs ds := Eq.trans rfl rfl
@[simp] theorem c_books_Open_g (g : Nat) : c_books_Open.g g = gl g := Eq.trans rfl rfl
noncomputable def L_books_Open (i n : Nat) (s : St) : Option (E × St) := atN Try.prog c_books_Open an_books_Open 58 (bodyOf Try.f10) i n s
noncomputable def H_books_Open (n i : Nat) (s : St) : Option (E × St) := atH Try.prog c_books_Open an_books_Open 58 (bodyOf Try.f10) n i s
@[simp] theorem H_books_Open_eq (n i : Nat) (s : St) : H_books_Open n i s = L_books_Open i n (headOf (an_books_Open.loops.lookup i) s) := rfl
noncomputable def R_books_Open (i : Nat) (s : St) : Option (E × St) := stepL Try.prog c_books_Open an_books_Open 58 (bodyOf Try.f10) i s
theorem lok_books_Open : okLoops (bodyOf Try.f10) = true := by kernel_rfl
theorem L_books_Open_succ (i n : Nat) (s : St) : L_books_Open i (n + 1) s = andThen (R_books_Open i s) (H_books_Open n i) := atN_succ lok_books_Open (by kernel_rfl) i n s
theorem R_books_Open_eq (i : Nat) (s : St) : R_books_Open i s = runS Try.prog c_books_Open (H_books_Open bigL) an_books_Open 58 (loopAt (bodyOf Try.f10) i) s := rfl
noncomputable def F_books_Open (ds : List D) : Option D := runF Try.prog c_books_Open an_books_Open 58 (bodyOf Try.f10) [.tmp 2] ds
theorem F_books_Open_eq (ds : List D) : F_books_Open ds = runG Try.prog c_books_Open (H_books_Open bigL) an_books_Open 58 (bodyOf Try.f10) [.tmp 2] ds := runG_eq lok_books_Open _ ds
theorem C_books_Open (ds : List D) (r : D) (h : F_books_Open ds = some r) : Contract Try.prog gl 10 ds r := contract_of mix Try.func10 rfl (by kernel_rfl) (by kernel_rfl) (by decide) (call := c_books_Open) ⟨callOf_ok cl_books_Open ⟨C_books_Accounts, C_ledger_Ledger_Balance, C_ledger_Ledger_Entries, C_slices_Contains_string_string, trivial⟩, callOfE_ok ce_books_Open trivial⟩ h
-- sawmill/sawmillref52.Accounts: loops []; state: params 0..-1, then [0]
attribute [simp] Try.f27
noncomputable def an_ref52_Accounts : Ann := ⟨[0], [], [], [], [], some [0], [], [], [(57, 0, 3, 1), (57, 1, 3, 1), (57, 2, 41, 3)], []⟩
@[simp] theorem an_ref52_Accounts_draws : an_ref52_Accounts.draws = [] := rfl
@[simp] theorem an_ref52_Accounts_exits : an_ref52_Accounts.exits = [] := rfl
@[simp] theorem an_ref52_Accounts_rets : an_ref52_Accounts.rets = some [0] := rfl
@[simp] theorem an_ref52_Accounts_keep : an_ref52_Accounts.keep = [0] := rfl
@[simp] theorem an_ref52_Accounts_cond : an_ref52_Accounts.cond = [] := rfl
@[simp] theorem an_ref52_Accounts_rows : an_ref52_Accounts.rows = [] := rfl
@[simp] theorem an_ref52_Accounts_loops : an_ref52_Accounts.loops = [] := rfl
@[simp] theorem an_ref52_Accounts_ecalls : an_ref52_Accounts.ecalls = [] := rfl
@[simp] theorem an_ref52_Accounts_crows : an_ref52_Accounts.crows = [(57, 0, 3, 1), (57, 1, 3, 1), (57, 2, 41, 3)] := rfl
@[simp] theorem an_ref52_Accounts_tails : an_ref52_Accounts.tails = [] := rfl
@[simp] noncomputable def cl_ref52_Accounts : List (Nat × (List D → Option D)) := []
@[simp] noncomputable def ce_ref52_Accounts : List (Nat × (List (Nat × O) → List D → Option (D × List (Nat × O)))) := []
noncomputable def c_ref52_Accounts : CT := ⟨callOf (cl_ref52_Accounts ), callOfE ce_ref52_Accounts, gl⟩
@[simp] theorem c_ref52_Accounts_p (f : FuncId) (ds : List D) : c_ref52_Accounts.p f ds = callOf (cl_ref52_Accounts ) f ds := Eq.trans rfl rfl
@[simp] theorem c_ref52_Accounts_e (f : FuncId) (hs : List (Nat × O)) (ds : List D) : c_ref52_Accounts.e f hs ds = callOfE ce_ref52_Accounts f hs ds := Eq.trans rfl rfl
@[simp] theorem c_ref52_Accounts_g (g : Nat) : c_ref52_Accounts.g g = gl g := Eq.trans rfl rfl
noncomputable def L_ref52_Accounts (i n : Nat) (s : St) : Option (E × St) := atN Try.prog c_ref52_Accounts an_ref52_Accounts 2 (bodyOf Try.f27) i n s
noncomputable def H_ref52_Accounts (n i : Nat) (s : St) : Option (E × St) := atH Try.prog c_ref52_Accounts an_ref52_Accounts 2 (bodyOf Try.f27) n i s
@[simp] theorem H_ref52_Accounts_eq (n i : Nat) (s : St) : H_ref52_Accounts n i s = L_ref52_Accounts i n (headOf (an_ref52_Accounts.loops.lookup i) s) := rfl
noncomputable def R_ref52_Accounts (i : Nat) (s : St) : Option (E × St) := stepL Try.prog c_ref52_Accounts an_ref52_Accounts 2 (bodyOf Try.f27) i s
theorem lok_ref52_Accounts : okLoops (bodyOf Try.f27) = true := by kernel_rfl
noncomputable def F_ref52_Accounts (ds : List D) : Option D := runF Try.prog c_ref52_Accounts an_ref52_Accounts 2 (bodyOf Try.f27) [.tmp 0] ds
theorem F_ref52_Accounts_eq (ds : List D) : F_ref52_Accounts ds = runG Try.prog c_ref52_Accounts (H_ref52_Accounts bigL) an_ref52_Accounts 2 (bodyOf Try.f27) [.tmp 0] ds := runG_eq lok_ref52_Accounts _ ds
theorem C_ref52_Accounts (ds : List D) (r : D) (h : F_ref52_Accounts ds = some r) : Contract Try.prog gl 27 ds r := contract_of mix Try.func27 rfl (by kernel_rfl) (by kernel_rfl) (by decide) (call := c_ref52_Accounts) ⟨callOf_ok cl_ref52_Accounts trivial, callOfE_ok ce_ref52_Accounts trivial⟩ h
-- sawmill/sawmillref52.Amount: loops [3]; state: params 0..1, then [4, 5, 6]
attribute [simp] Try.f28
noncomputable def an_ref52_Amount : Ann := ⟨[0, 4, 5, 6], [10, 19], [], [(3, [0, 1, 5, 6])], [(0, [5]), (1, [0, 1, 5, 6])], some [4], [], [], [(57, 0, 3, 1), (57, 1, 3, 1), (57, 2, 41, 3)], []⟩
@[simp] theorem an_ref52_Amount_draws : an_ref52_Amount.draws = [] := rfl
@[simp] theorem an_ref52_Amount_exits : an_ref52_Amount.exits = [(0, [5]), (1, [0, 1, 5, 6])] := rfl
@[simp] theorem an_ref52_Amount_rets : an_ref52_Amount.rets = some [4] := rfl
@[simp] theorem an_ref52_Amount_keep : an_ref52_Amount.keep = [0, 4, 5, 6] := rfl
@[simp] theorem an_ref52_Amount_cond : an_ref52_Amount.cond = [10, 19] := rfl
@[simp] theorem an_ref52_Amount_rows : an_ref52_Amount.rows = [] := rfl
@[simp] theorem an_ref52_Amount_loops : an_ref52_Amount.loops = [(3, [0, 1, 5, 6])] := rfl
@[simp] theorem an_ref52_Amount_ecalls : an_ref52_Amount.ecalls = [] := rfl
@[simp] theorem an_ref52_Amount_crows : an_ref52_Amount.crows = [(57, 0, 3, 1), (57, 1, 3, 1), (57, 2, 41, 3)] := rfl
@[simp] theorem an_ref52_Amount_tails : an_ref52_Amount.tails = [] := rfl
@[simp] noncomputable def cl_ref52_Amount : List (Nat × (List D → Option D)) := []
@[simp] noncomputable def ce_ref52_Amount : List (Nat × (List (Nat × O) → List D → Option (D × List (Nat × O)))) := []
noncomputable def c_ref52_Amount : CT := ⟨callOf (cl_ref52_Amount ), callOfE ce_ref52_Amount, gl⟩
@[simp] theorem c_ref52_Amount_p (f : FuncId) (ds : List D) : c_ref52_Amount.p f ds = callOf (cl_ref52_Amount ) f ds := Eq.trans rfl rfl
@[simp] theorem c_ref52_Amount_e (f : FuncId) (hs : List (Nat × O)) (ds : List D) : c_ref52_Amount.e f hs ds = callOfE ce_ref52_Amount f hs ds := Eq.trans rfl rfl
@[simp] theorem c_ref52_Amount_g (g : Nat) : c_ref52_Amount.g g = gl g := Eq.trans rfl rfl
noncomputable def L_ref52_Amount (i n : Nat) (s : St) : Option (E × St) := atN Try.prog c_ref52_Amount an_ref52_Amount 28 (bodyOf Try.f28) i n s
noncomputable def H_ref52_Amount (n i : Nat) (s : St) : Option (E × St) := atH Try.prog c_ref52_Amount an_ref52_Amount 28 (bodyOf Try.f28) n i s
@[simp] theorem H_ref52_Amount_eq (n i : Nat) (s : St) : H_ref52_Amount n i s = L_ref52_Amount i n (headOf (an_ref52_Amount.loops.lookup i) s) := rfl
noncomputable def R_ref52_Amount (i : Nat) (s : St) : Option (E × St) := stepL Try.prog c_ref52_Amount an_ref52_Amount 28 (bodyOf Try.f28) i s
theorem lok_ref52_Amount : okLoops (bodyOf Try.f28) = true := by kernel_rfl
theorem L_ref52_Amount_succ (i n : Nat) (s : St) : L_ref52_Amount i (n + 1) s = andThen (R_ref52_Amount i s) (H_ref52_Amount n i) := atN_succ lok_ref52_Amount (by kernel_rfl) i n s
theorem R_ref52_Amount_eq (i : Nat) (s : St) : R_ref52_Amount i s = runS Try.prog c_ref52_Amount (H_ref52_Amount bigL) an_ref52_Amount 28 (loopAt (bodyOf Try.f28) i) s := rfl
noncomputable def F_ref52_Amount (ds : List D) : Option D := runF Try.prog c_ref52_Amount an_ref52_Amount 28 (bodyOf Try.f28) [.tmp 4] ds
theorem F_ref52_Amount_eq (ds : List D) : F_ref52_Amount ds = runG Try.prog c_ref52_Amount (H_ref52_Amount bigL) an_ref52_Amount 28 (bodyOf Try.f28) [.tmp 4] ds := runG_eq lok_ref52_Amount _ ds
theorem C_ref52_Amount (ds : List D) (r : D) (h : F_ref52_Amount ds = some r) : Contract Try.prog gl 28 ds r := contract_of mix Try.func28 rfl (by kernel_rfl) (by kernel_rfl) (by decide) (call := c_ref52_Amount) ⟨callOf_ok cl_ref52_Amount trivial, callOfE_ok ce_ref52_Amount trivial⟩ h
-- sawmill/sawmillref52.Open: loops [4, 8, 15, 18, 22]; state: params 0..0, then [2, 3, 4, 5, 6, 7, 8, 9, 10, 11]
attribute [simp] Try.f11
noncomputable def an_ref52_Open : Ann := ⟨[0, 2, 3, 4, 5, 6, 7, 8, 9, 10, 11], [16, 22, 45, 52, 62, 68, 89], [], [(4, [0, 3, 4, 5]), (8, [0, 3, 4, 5, 6, 7]), (15, [0, 3, 4, 8]), (18, [0, 3, 4, 8, 9]), (22, [0, 3, 4, 8, 9, 10, 11])], [(0, [0, 3, 4]), (1, [0, 3, 4, 5]), (2, [0, 3, 4, 5, 6]), (3, [0, 3, 4, 5, 6, 7]), (4, [4]), (5, [0, 3, 4, 8]), (6, [0, 3, 4, 8]), (7, [0, 3, 4, 8, 9]), (8, [0, 3, 4, 8, 9, 10]), (9, [0, 3, 4, 8, 9, 10, 11])], some [2], [(10, 11), (24, 15)], [], [(57, 0, 3, 1), (57, 1, 3, 1), (57, 2, 41, 3)], []⟩
@[simp] theorem an_ref52_Open_draws : an_ref52_Open.draws = [(10, 11), (24, 15)] := rfl
@[simp] theorem an_ref52_Open_exits : an_ref52_Open.exits = [(0, [0, 3, 4]), (1, [0, 3, 4, 5]), (2, [0, 3, 4, 5, 6]), (3, [0, 3, 4, 5, 6, 7]), (4, [4]), (5, [0, 3, 4, 8]), (6, [0, 3, 4, 8]), (7, [0, 3, 4, 8, 9]), (8, [0, 3, 4, 8, 9, 10]), (9, [0, 3, 4, 8, 9, 10, 11])] := rfl
@[simp] theorem an_ref52_Open_rets : an_ref52_Open.rets = some [2] := rfl
@[simp] theorem an_ref52_Open_keep : an_ref52_Open.keep = [0, 2, 3, 4, 5, 6, 7, 8, 9, 10, 11] := rfl
@[simp] theorem an_ref52_Open_cond : an_ref52_Open.cond = [16, 22, 45, 52, 62, 68, 89] := rfl
@[simp] theorem an_ref52_Open_rows : an_ref52_Open.rows = [] := rfl
@[simp] theorem an_ref52_Open_loops : an_ref52_Open.loops = [(4, [0, 3, 4, 5]), (8, [0, 3, 4, 5, 6, 7]), (15, [0, 3, 4, 8]), (18, [0, 3, 4, 8, 9]), (22, [0, 3, 4, 8, 9, 10, 11])] := rfl
@[simp] theorem an_ref52_Open_ecalls : an_ref52_Open.ecalls = [] := rfl
@[simp] theorem an_ref52_Open_crows : an_ref52_Open.crows = [(57, 0, 3, 1), (57, 1, 3, 1), (57, 2, 41, 3)] := rfl
@[simp] theorem an_ref52_Open_tails : an_ref52_Open.tails = [] := rfl
@[simp] noncomputable def cl_ref52_Open : List (Nat × (List D → Option D)) := [(27, F_ref52_Accounts), (28, F_ref52_Amount)]
@[simp] noncomputable def ce_ref52_Open : List (Nat × (List (Nat × O) → List D → Option (D × List (Nat × O)))) := []
noncomputable def c_ref52_Open : CT := ⟨callOf (cl_ref52_Open ), callOfE ce_ref52_Open, gl⟩
@[simp] theorem c_ref52_Open_p (f : FuncId) (ds : List D) : c_ref52_Open.p f ds = callOf (cl_ref52_Open ) f ds := Eq.trans rfl rfl
@[simp] theorem c_ref52_Open_e (f : FuncId) (hs : List (Nat × O)) (ds : List D) : c_ref52_Open.e f hs ds = callOfE ce_ref52_Open f hs ds := Eq.trans rfl rfl
@[simp] theorem c_ref52_Open_g (g : Nat) : c_ref52_Open.g g = gl g := Eq.trans rfl rfl
noncomputable def L_ref52_Open (i n : Nat) (s : St) : Option (E × St) := atN Try.prog c_ref52_Open an_ref52_Open 92 (bodyOf Try.f11) i n s
noncomputable def H_ref52_Open (n i : Nat) (s : St) : Option (E × St) := atH Try.prog c_ref52_Open an_ref52_Open 92 (bodyOf Try.f11) n i s
@[simp] theorem H_ref52_Open_eq (n i : Nat) (s : St) : H_ref52_Open n i s = L_ref52_Open i n (headOf (an_ref52_Open.loops.lookup i) s) := rfl
noncomputable def R_ref52_Open (i : Nat) (s : St) : Option (E × St) := stepL Try.prog c_ref52_Open an_ref52_Open 92 (bodyOf Try.f11) i s
theorem lok_ref52_Open : okLoops (bodyOf Try.f11) = true := by kernel_rfl
theorem L_ref52_Open_succ (i n : Nat) (s : St) : L_ref52_Open i (n + 1) s = andThen (R_ref52_Open i s) (H_ref52_Open n i) := atN_succ lok_ref52_Open (by kernel_rfl) i n s
theorem R_ref52_Open_eq (i : Nat) (s : St) : R_ref52_Open i s = runS Try.prog c_ref52_Open (H_ref52_Open bigL) an_ref52_Open 92 (loopAt (bodyOf Try.f11) i) s := rfl
noncomputable def F_ref52_Open (ds : List D) : Option D := runF Try.prog c_ref52_Open an_ref52_Open 92 (bodyOf Try.f11) [.tmp 2] ds
theorem F_ref52_Open_eq (ds : List D) : F_ref52_Open ds = runG Try.prog c_ref52_Open (H_ref52_Open bigL) an_ref52_Open 92 (bodyOf Try.f11) [.tmp 2] ds := runG_eq lok_ref52_Open _ ds
theorem C_ref52_Open (ds : List D) (r : D) (h : F_ref52_Open ds = some r) : Contract Try.prog gl 11 ds r := contract_of mix Try.func11 rfl (by kernel_rfl) (by kernel_rfl) (by decide) (call := c_ref52_Open) ⟨callOf_ok cl_ref52_Open ⟨C_ref52_Accounts, C_ref52_Amount, trivial⟩, callOfE_ok ce_ref52_Open trivial⟩ h
-- sawmill/sawmilllaw52.BooksOpen: loops [12, 17, 21, 35]; state: params 0..1, then [4, 5, 6, 7, 8, 9, 10, 11, 12, 13, 14, 15, 16, 17, 18, 19]
attribute [simp] Try.f3
noncomputable def an_law52_BooksOpen : Ann := ⟨[0, 4, 5, 6, 7, 8, 9, 10, 11, 12, 13, 14, 15, 16, 17, 18, 19], [22, 39, 46, 57, 70, 82, 97, 100, 113, 117, 158, 159, 170], [6, 9, 10], [(12, [0, 1, 5, 7, 9, 10, 11]), (17, [0, 1, 5, 7, 9, 10, 11, 12, 13, 14]), (21, [0, 1, 5, 7, 9, 10, 11, 12, 13, 14, 15]), (35, [1, 5, 7, 9, 10, 17, 18, 19])], [(0, [1, 5, 7, 9, 10]), (1, [0, 1, 5, 7, 9, 10, 11]), (2, [0, 1, 5, 7, 9, 10, 11, 12, 13]), (3, [0, 1, 5, 7, 9, 10, 11, 12, 13, 14]), (4, [0, 1, 5, 7, 9, 10, 11, 12, 13, 14]), (5, [0, 1, 5, 7, 9, 10, 11, 12, 13, 14, 15]), (6, [1, 7, 10, 17, 18]), (7, [1, 5, 7, 9, 10, 17, 18, 19])], some [4], [(23, 9), (24, 12)], [(6, false), (9, false)], [(57, 0, 3, 1), (57, 1, 3, 1), (57, 2, 41, 3)], []⟩
@[simp] theorem an_law52_BooksOpen_draws : an_law52_BooksOpen.draws = [(23, 9), (24, 12)] := rfl
@[simp] theorem an_law52_BooksOpen_exits : an_law52_BooksOpen.exits = [(0, [1, 5, 7, 9, 10]), (1, [0, 1, 5, 7, 9, 10, 11]), (2, [0, 1, 5, 7, 9, 10, 11, 12, 13]), (3, [0, 1, 5, 7, 9, 10, 11, 12, 13, 14]), (4, [0, 1, 5, 7, 9, 10, 11, 12, 13, 14]), (5, [0, 1, 5, 7, 9, 10, 11, 12, 13, 14, 15]), (6, [1, 7, 10, 17, 18]), (7, [1, 5, 7, 9, 10, 17, 18, 19])] := rfl
@[simp] theorem an_law52_BooksOpen_rets : an_law52_BooksOpen.rets = some [4] := rfl
@[simp] theorem an_law52_BooksOpen_keep : an_law52_BooksOpen.keep = [0, 4, 5, 6, 7, 8, 9, 10, 11, 12, 13, 14, 15, 16, 17, 18, 19] := rfl
@[simp] theorem an_law52_BooksOpen_cond : an_law52_BooksOpen.cond = [22, 39, 46, 57, 70, 82, 97, 100, 113, 117, 158, 159, 170] := rfl
@[simp] theorem an_law52_BooksOpen_rows : an_law52_BooksOpen.rows = [6, 9, 10] := rfl
@[simp] theorem an_law52_BooksOpen_loops : an_law52_BooksOpen.loops = [(12, [0, 1, 5, 7, 9, 10, 11]), (17, [0, 1, 5, 7, 9, 10, 11, 12, 13, 14]), (21, [0, 1, 5, 7, 9, 10, 11, 12, 13, 14, 15]), (35, [1, 5, 7, 9, 10, 17, 18, 19])] := rfl
@[simp] theorem an_law52_BooksOpen_ecalls : an_law52_BooksOpen.ecalls = [(6, false), (9, false)] := rfl
@[simp] theorem an_law52_BooksOpen_crows : an_law52_BooksOpen.crows = [(57, 0, 3, 1), (57, 1, 3, 1), (57, 2, 41, 3)] := rfl
@[simp] theorem an_law52_BooksOpen_tails : an_law52_BooksOpen.tails = [] := rfl
@[simp] noncomputable def cl_law52_BooksOpen : List (Nat × (List D → Option D)) := [(4, F_law52_awake), (5, F_books_Accounts), (7, F_law52_postings), (8, F_law52_id), (10, F_books_Open), (11, F_ref52_Open)]
@[simp] noncomputable def ce_law52_BooksOpen : List (Nat × (List (Nat × O) → List D → Option (D × List (Nat × O)))) := [(6, E_ledger_New), (9, E_ledger_Ledger_Post)]
noncomputable def c_law52_BooksOpen : CT := ⟨callOf (cl_law52_BooksOpen ), callOfE ce_law52_BooksOpen, gl⟩
@[simp] theorem c_law52_BooksOpen_p (f : FuncId) (ds : List D) : c_law52_BooksOpen.p f ds = callOf (cl_law52_BooksOpen ) f ds := Eq.trans rfl rfl
@[simp] theorem c_law52_BooksOpen_e (f : FuncId) (hs : List (Nat × O)) (ds : List D) : c_law52_BooksOpen.e f hs ds = callOfE ce_law52_BooksOpen f hs ds := Eq.trans rfl rfl
@[simp] theorem c_law52_BooksOpen_g (g : Nat) : c_law52_BooksOpen.g g = gl g := Eq.trans rfl rfl
noncomputable def L_law52_BooksOpen (i n : Nat) (s : St) : Option (E × St) := atN Try.prog c_law52_BooksOpen an_law52_BooksOpen 172 (bodyOf Try.f3) i n s
noncomputable def H_law52_BooksOpen (n i : Nat) (s : St) : Option (E × St) := atH Try.prog c_law52_BooksOpen an_law52_BooksOpen 172 (bodyOf Try.f3) n i s
@[simp] theorem H_law52_BooksOpen_eq (n i : Nat) (s : St) : H_law52_BooksOpen n i s = L_law52_BooksOpen i n (headOf (an_law52_BooksOpen.loops.lookup i) s) := rfl
noncomputable def R_law52_BooksOpen (i : Nat) (s : St) : Option (E × St) := stepL Try.prog c_law52_BooksOpen an_law52_BooksOpen 172 (bodyOf Try.f3) i s
theorem lok_law52_BooksOpen : okLoops (bodyOf Try.f3) = true := by kernel_rfl
theorem L_law52_BooksOpen_succ (i n : Nat) (s : St) : L_law52_BooksOpen i (n + 1) s = andThen (R_law52_BooksOpen i s) (H_law52_BooksOpen n i) := atN_succ lok_law52_BooksOpen (by kernel_rfl) i n s
theorem R_law52_BooksOpen_eq (i : Nat) (s : St) : R_law52_BooksOpen i s = runS Try.prog c_law52_BooksOpen (H_law52_BooksOpen bigL) an_law52_BooksOpen 172 (loopAt (bodyOf Try.f3) i) s := rfl
noncomputable def F_law52_BooksOpen (ds : List D) : Option D := runF Try.prog c_law52_BooksOpen an_law52_BooksOpen 172 (bodyOf Try.f3) [.tmp 4] ds
theorem F_law52_BooksOpen_eq (ds : List D) : F_law52_BooksOpen ds = runG Try.prog c_law52_BooksOpen (H_law52_BooksOpen bigL) an_law52_BooksOpen 172 (bodyOf Try.f3) [.tmp 4] ds := runG_eq lok_law52_BooksOpen _ ds
theorem C_law52_BooksOpen (ds : List D) (r : D) (h : F_law52_BooksOpen ds = some r) : Contract Try.prog gl 3 ds r := contract_of mix Try.func3 rfl (by kernel_rfl) (by kernel_rfl) (by decide) (call := c_law52_BooksOpen) ⟨callOf_ok cl_law52_BooksOpen ⟨C_law52_awake, C_books_Accounts, C_law52_postings, C_law52_id, C_books_Open, C_ref52_Open, trivial⟩, callOfE_ok ce_law52_BooksOpen ⟨CE_ledger_New, CE_ledger_Ledger_Post, trivial⟩⟩ h
end Go.Proofs.Ytgngoijehjphoaa
