/-
  Printed by gen.py for this seat: facts about the types that the laws reach; for each function its annotation (what is kept behind a region, which rows are a variable's own, what is alive at the head of a loop), its abstract run, and that the run is its contract.
-/
import Derived.Test.YtkcjffiflelocaaAbsT
import Derived.Test.YtkcjffiflelocaaRows
namespace Go.Proofs.Ytkcjffiflelocaa
open Go Go.Abs
set_option maxRecDepth 100000
theorem mix : Try.prog.follows .mixedOrders = true := by kernel_rfl
theorem laid : laidOutB Try.prog = true := by kernel_rfl
-- 0 ()
attribute [simp] Try.underlying0
@[simp] theorem sz0 : szT Try.prog 0 = some 1 := by kernel_rfl
@[simp] theorem co0 : Try.prog.cellsOf 0 = 1 := by kernel_rfl
@[simp] theorem ag0 : aggT Try.prog 0 = some false := by kernel_rfl
-- 1 func()
attribute [simp] Try.underlying1
@[simp] theorem sz1 : szT Try.prog 1 = some 1 := by kernel_rfl
@[simp] theorem co1 : Try.prog.cellsOf 1 = 1 := by kernel_rfl
@[simp] theorem ag1 : aggT Try.prog 1 = some false := by kernel_rfl
@[simp] theorem zr1 : zeroD Try.prog 1 = some [.x .nilFunc] := by kernel_rfl
-- 2 int64
attribute [simp] Try.underlying2
@[simp] theorem sz2 : szT Try.prog 2 = some 1 := by kernel_rfl
@[simp] theorem co2 : Try.prog.cellsOf 2 = 1 := by kernel_rfl
@[simp] theorem ag2 : aggT Try.prog 2 = some false := by kernel_rfl
@[simp] theorem zr2 : zeroD Try.prog 2 = some [.x (.int .i64 0)] := by kernel_rfl
-- 3 int
attribute [simp] Try.underlying3
@[simp] theorem sz3 : szT Try.prog 3 = some 1 := by kernel_rfl
@[simp] theorem co3 : Try.prog.cellsOf 3 = 1 := by kernel_rfl
@[simp] theorem ag3 : aggT Try.prog 3 = some false := by kernel_rfl
@[simp] theorem zr3 : zeroD Try.prog 3 = some [.x (.int .i64 0)] := by kernel_rfl
-- 4 bool
attribute [simp] Try.underlying4
@[simp] theorem sz4 : szT Try.prog 4 = some 1 := by kernel_rfl
@[simp] theorem co4 : Try.prog.cellsOf 4 = 1 := by kernel_rfl
@[simp] theorem ag4 : aggT Try.prog 4 = some false := by kernel_rfl
@[simp] theorem zr4 : zeroD Try.prog 4 = some [.x (.bool false)] := by kernel_rfl
-- 6 abi.BoundsErrorCode
attribute [simp] Try.underlying6
@[simp] theorem sz6 : szT Try.prog 6 = some 1 := by kernel_rfl
@[simp] theorem co6 : Try.prog.cellsOf 6 = 1 := by kernel_rfl
@[simp] theorem ag6 : aggT Try.prog 6 = some false := by kernel_rfl
@[simp] theorem zr6 : zeroD Try.prog 6 = some [.x (.int .u8 0)] := by kernel_rfl
-- 8 runtime.boundsError
attribute [simp] Try.underlying8
@[simp] theorem sz8 : szT Try.prog 8 = some 4 := by kernel_rfl
@[simp] theorem co8 : Try.prog.cellsOf 8 = 4 := by kernel_rfl
@[simp] theorem ag8 : aggT Try.prog 8 = some true := by kernel_rfl
@[simp] theorem zr8 : zeroD Try.prog 8 = some [.x (.int .i64 0), .x (.int .i64 0), .x (.bool false), .x (.int .u8 0)] := by kernel_rfl
@[simp] theorem bt8 : buildT Try.prog 8 = some ([(0, 1), (1, 1), (2, 1), (3, 1)], [.x (.int .i64 0), .x (.int .i64 0), .x (.bool false), .x (.int .u8 0)]) := by kernel_rfl
@[simp] theorem st8 : Try.prog.stoodInHeld 8 = false := by kernel_rfl
@[simp] theorem eg8 : Try.prog.eqGuardType Try.prog.depth 8 = false := by kernel_rfl
-- 9 string
attribute [simp] Try.underlying9
@[simp] theorem sz9 : szT Try.prog 9 = some 1 := by kernel_rfl
@[simp] theorem co9 : Try.prog.cellsOf 9 = 1 := by kernel_rfl
@[simp] theorem ag9 : aggT Try.prog 9 = some false := by kernel_rfl
@[simp] theorem zr9 : zeroD Try.prog 9 = some [.x (.string ByteArray.empty)] := by kernel_rfl
-- 23 api.Yield
attribute [simp] Try.underlying23
@[simp] theorem sz23 : szT Try.prog 23 = some 5 := by kernel_rfl
@[simp] theorem co23 : Try.prog.cellsOf 23 = 5 := by kernel_rfl
@[simp] theorem ag23 : aggT Try.prog 23 = some true := by kernel_rfl
@[simp] theorem zr23 : zeroD Try.prog 23 = some [.x (.int .i64 0), .x (.int .i64 0), .x (.int .i64 0), .x (.int .i64 0), .x (.int .i64 0)] := by kernel_rfl
@[simp] theorem bt23 : buildT Try.prog 23 = some ([(0, 1), (1, 1), (2, 1), (3, 1), (4, 1)], [.x (.int .i64 0), .x (.int .i64 0), .x (.int .i64 0), .x (.int .i64 0), .x (.int .i64 0)]) := by kernel_rfl
@[simp] theorem st23 : Try.prog.stoodInHeld 23 = false := by kernel_rfl
@[simp] theorem eg23 : Try.prog.eqGuardType Try.prog.depth 23 = false := by kernel_rfl
-- 25 sawmilllaw52.Cutting
attribute [simp] Try.underlying25
@[simp] theorem sz25 : szT Try.prog 25 = some 4 := by kernel_rfl
@[simp] theorem co25 : Try.prog.cellsOf 25 = 4 := by kernel_rfl
@[simp] theorem ag25 : aggT Try.prog 25 = some true := by kernel_rfl
@[simp] theorem zr25 : zeroD Try.prog 25 = some [.x (.bool false), .x (.int .i64 0), .x (.int .i64 0), .x (.int .i64 0)] := by kernel_rfl
@[simp] theorem bt25 : buildT Try.prog 25 = some ([(0, 1), (1, 1), (2, 1), (3, 1)], [.x (.bool false), .x (.int .i64 0), .x (.int .i64 0), .x (.int .i64 0)]) := by kernel_rfl
@[simp] theorem st25 : Try.prog.stoodInHeld 25 = false := by kernel_rfl
@[simp] theorem eg25 : Try.prog.eqGuardType Try.prog.depth 25 = false := by kernel_rfl
-- 26 []api.Posting
attribute [simp] Try.underlying26
@[simp] theorem sz26 : szT Try.prog 26 = some 1 := by kernel_rfl
@[simp] theorem co26 : Try.prog.cellsOf 26 = 1 := by kernel_rfl
@[simp] theorem ag26 : aggT Try.prog 26 = some false := by kernel_rfl
@[simp] theorem zr26 : zeroD Try.prog 26 = some [.emp] := by kernel_rfl
@[simp] theorem mk26 : mkT Try.prog 26 = some (49, 2, 24, [.x (.string ByteArray.empty), .x (.int .i64 0)]) := by kernel_rfl
@[simp] theorem ap26 : appT Try.prog 26 = some (49, 2, 24) := by kernel_rfl
-- 27 api.Errno
attribute [simp] Try.underlying27
@[simp] theorem sz27 : szT Try.prog 27 = some 1 := by kernel_rfl
@[simp] theorem co27 : Try.prog.cellsOf 27 = 1 := by kernel_rfl
@[simp] theorem ag27 : aggT Try.prog 27 = some false := by kernel_rfl
@[simp] theorem zr27 : zeroD Try.prog 27 = some [.x (.int .i64 0)] := by kernel_rfl
-- 28 ([]api.Posting, api.Errno)
attribute [simp] Try.underlying28
@[simp] theorem sz28 : szT Try.prog 28 = some 1 := by kernel_rfl
@[simp] theorem co28 : Try.prog.cellsOf 28 = 1 := by kernel_rfl
@[simp] theorem ag28 : aggT Try.prog 28 = some false := by kernel_rfl
-- 35 []string
attribute [simp] Try.underlying35
@[simp] theorem sz35 : szT Try.prog 35 = some 1 := by kernel_rfl
@[simp] theorem co35 : Try.prog.cellsOf 35 = 1 := by kernel_rfl
@[simp] theorem ag35 : aggT Try.prog 35 = some false := by kernel_rfl
@[simp] theorem zr35 : zeroD Try.prog 35 = some [.emp] := by kernel_rfl
@[simp] theorem mk35 : mkT Try.prog 35 = some (9, 1, 16, [.x (.string ByteArray.empty)]) := by kernel_rfl
@[simp] theorem ap35 : appT Try.prog 35 = some (9, 1, 16) := by kernel_rfl
-- 39 (api.Yield, api.Errno)
attribute [simp] Try.underlying39
@[simp] theorem sz39 : szT Try.prog 39 = some 1 := by kernel_rfl
@[simp] theorem co39 : Try.prog.cellsOf 39 = 1 := by kernel_rfl
@[simp] theorem ag39 : aggT Try.prog 39 = some false := by kernel_rfl
-- 46 books.movement[int]
attribute [simp] Try.underlying46
@[simp] theorem sz46 : szT Try.prog 46 = some 8 := by kernel_rfl
@[simp] theorem co46 : Try.prog.cellsOf 46 = 8 := by kernel_rfl
@[simp] theorem ag46 : aggT Try.prog 46 = some true := by kernel_rfl
@[simp] theorem zr46 : zeroD Try.prog 46 = some [.x (.int .i64 0), .x (.int .i64 0), .x (.int .i64 0), .x (.int .i64 0), .x (.int .i64 0), .x (.int .i64 0), .x (.int .i64 0), .x (.int .i64 0)] := by kernel_rfl
@[simp] theorem bt46 : buildT Try.prog 46 = some ([(0, 1), (1, 1), (2, 1), (3, 1), (4, 1), (5, 1), (6, 1), (7, 1)], [.x (.int .i64 0), .x (.int .i64 0), .x (.int .i64 0), .x (.int .i64 0), .x (.int .i64 0), .x (.int .i64 0), .x (.int .i64 0), .x (.int .i64 0)]) := by kernel_rfl
-- 49 api.Posting
attribute [simp] Try.underlying49
@[simp] theorem sz49 : szT Try.prog 49 = some 2 := by kernel_rfl
@[simp] theorem co49 : Try.prog.cellsOf 49 = 2 := by kernel_rfl
@[simp] theorem ag49 : aggT Try.prog 49 = some true := by kernel_rfl
@[simp] theorem zr49 : zeroD Try.prog 49 = some [.x (.string ByteArray.empty), .x (.int .i64 0)] := by kernel_rfl
@[simp] theorem bt49 : buildT Try.prog 49 = some ([(0, 1), (1, 1)], [.x (.string ByteArray.empty), .x (.int .i64 0)]) := by kernel_rfl
@[simp] theorem st49 : Try.prog.stoodInHeld 49 = false := by kernel_rfl
@[simp] theorem eg49 : Try.prog.eqGuardType Try.prog.depth 49 = false := by kernel_rfl
-- 52 [2]api.Yield
attribute [simp] Try.underlying52
@[simp] theorem sz52 : szT Try.prog 52 = some 10 := by kernel_rfl
@[simp] theorem co52 : Try.prog.cellsOf 52 = 10 := by kernel_rfl
@[simp] theorem ag52 : aggT Try.prog 52 = some true := by kernel_rfl
@[simp] theorem zr52 : zeroD Try.prog 52 = some [.x (.int .i64 0), .x (.int .i64 0), .x (.int .i64 0), .x (.int .i64 0), .x (.int .i64 0), .x (.int .i64 0), .x (.int .i64 0), .x (.int .i64 0), .x (.int .i64 0), .x (.int .i64 0)] := by kernel_rfl
@[simp] theorem bt52 : buildT Try.prog 52 = some ([(0, 5), (5, 5)], [.x (.int .i64 0), .x (.int .i64 0), .x (.int .i64 0), .x (.int .i64 0), .x (.int .i64 0), .x (.int .i64 0), .x (.int .i64 0), .x (.int .i64 0), .x (.int .i64 0), .x (.int .i64 0)]) := by kernel_rfl
-- 53 [4]int
attribute [simp] Try.underlying53
@[simp] theorem sz53 : szT Try.prog 53 = some 4 := by kernel_rfl
@[simp] theorem co53 : Try.prog.cellsOf 53 = 4 := by kernel_rfl
@[simp] theorem ag53 : aggT Try.prog 53 = some true := by kernel_rfl
@[simp] theorem zr53 : zeroD Try.prog 53 = some [.x (.int .i64 0), .x (.int .i64 0), .x (.int .i64 0), .x (.int .i64 0)] := by kernel_rfl
@[simp] theorem bt53 : buildT Try.prog 53 = some ([(0, 1), (1, 1), (2, 1), (3, 1)], [.x (.int .i64 0), .x (.int .i64 0), .x (.int .i64 0), .x (.int .i64 0)]) := by kernel_rfl
-- 54 []int
attribute [simp] Try.underlying54
@[simp] theorem sz54 : szT Try.prog 54 = some 1 := by kernel_rfl
@[simp] theorem co54 : Try.prog.cellsOf 54 = 1 := by kernel_rfl
@[simp] theorem ag54 : aggT Try.prog 54 = some false := by kernel_rfl
@[simp] theorem zr54 : zeroD Try.prog 54 = some [.emp] := by kernel_rfl
@[simp] theorem mk54 : mkT Try.prog 54 = some (3, 1, 8, [.x (.int .i64 0)]) := by kernel_rfl
@[simp] theorem ap54 : appT Try.prog 54 = some (3, 1, 8) := by kernel_rfl
-- sawmill/yield.Balanced: loops [2]; state: params 0..0, then [1, 2, 4, 13, 14]
attribute [simp] Try.f24
noncomputable def an_yield_Balanced : Ann := ⟨[1, 2, 4, 13, 14], [15, 22], [], [(2, [1, 13, 14])], [(0, [1]), (1, [1, 13, 14])], some [2]⟩
@[simp] theorem an_yield_Balanced_exits : an_yield_Balanced.exits = [(0, [1]), (1, [1, 13, 14])] := rfl
@[simp] theorem an_yield_Balanced_rets : an_yield_Balanced.rets = some [2] := rfl
@[simp] theorem an_yield_Balanced_keep : an_yield_Balanced.keep = [1, 2, 4, 13, 14] := rfl
@[simp] theorem an_yield_Balanced_cond : an_yield_Balanced.cond = [15, 22] := rfl
@[simp] theorem an_yield_Balanced_rows : an_yield_Balanced.rows = [] := rfl
@[simp] theorem an_yield_Balanced_loops : an_yield_Balanced.loops = [(2, [1, 13, 14])] := rfl
@[simp] noncomputable def cl_yield_Balanced : List (Nat × (List D → Option D)) := []
@[simp] noncomputable def c_yield_Balanced (f : FuncId) (ds : List D) : Option D := callOf cl_yield_Balanced f ds
noncomputable def F_yield_Balanced (ds : List D) : Option D := runF Try.prog c_yield_Balanced an_yield_Balanced 35 (bodyOf Try.f24) [.tmp 2] ds
noncomputable def L_yield_Balanced (i n : Nat) (s : St) : Option (E × St) := atN Try.prog c_yield_Balanced an_yield_Balanced 35 (bodyOf Try.f24) i n s
noncomputable def R_yield_Balanced (i : Nat) (s : St) : Option (E × St) := stepL Try.prog c_yield_Balanced an_yield_Balanced 35 (bodyOf Try.f24) i s
theorem lok_yield_Balanced : okLoops (bodyOf Try.f24) = true := by kernel_rfl
theorem L_yield_Balanced_zero (i : Nat) (s : St) : L_yield_Balanced i 0 s = none := rfl
theorem L_yield_Balanced_succ (i n : Nat) (s : St) : L_yield_Balanced i (n + 1) s = match R_yield_Balanced i s with
    | some (.norm, s') => L_yield_Balanced i n s'
    | r => r := atN_succ lok_yield_Balanced i n s
theorem R_yield_Balanced_eq (i : Nat) (s : St) : R_yield_Balanced i s = runS Try.prog c_yield_Balanced (fun j s => L_yield_Balanced j bigL s) an_yield_Balanced 35 (loopAt (bodyOf Try.f24) i) (headOf (an_yield_Balanced.loops.lookup i) s) := rfl
theorem F_yield_Balanced_eq (ds : List D) : F_yield_Balanced ds = runG Try.prog c_yield_Balanced (fun j s => L_yield_Balanced j bigL s) an_yield_Balanced 35 (bodyOf Try.f24) [.tmp 2] ds := runG_eq lok_yield_Balanced _ ds
theorem C_yield_Balanced (ds : List D) (r : D) (h : F_yield_Balanced ds = some r) : Contract Try.prog 24 ds r := contract_of mix Try.func24 rfl (by kernel_rfl) (by kernel_rfl) (callOf_ok cl_yield_Balanced trivial) h
-- sawmill/books.Accounts: loops []; state: params 0..-1, then [0]
attribute [simp] Try.f14
noncomputable def an_books_Accounts : Ann := ⟨[0], [], [], [], [], some [0]⟩
@[simp] theorem an_books_Accounts_exits : an_books_Accounts.exits = [] := rfl
@[simp] theorem an_books_Accounts_rets : an_books_Accounts.rets = some [0] := rfl
@[simp] theorem an_books_Accounts_keep : an_books_Accounts.keep = [0] := rfl
@[simp] theorem an_books_Accounts_cond : an_books_Accounts.cond = [] := rfl
@[simp] theorem an_books_Accounts_rows : an_books_Accounts.rows = [] := rfl
@[simp] theorem an_books_Accounts_loops : an_books_Accounts.loops = [] := rfl
@[simp] noncomputable def cl_books_Accounts : List (Nat × (List D → Option D)) := []
@[simp] noncomputable def c_books_Accounts (f : FuncId) (ds : List D) : Option D := callOf cl_books_Accounts f ds
noncomputable def F_books_Accounts (ds : List D) : Option D := runF Try.prog c_books_Accounts an_books_Accounts 2 (bodyOf Try.f14) [.tmp 0] ds
noncomputable def L_books_Accounts (i n : Nat) (s : St) : Option (E × St) := atN Try.prog c_books_Accounts an_books_Accounts 2 (bodyOf Try.f14) i n s
noncomputable def R_books_Accounts (i : Nat) (s : St) : Option (E × St) := stepL Try.prog c_books_Accounts an_books_Accounts 2 (bodyOf Try.f14) i s
theorem lok_books_Accounts : okLoops (bodyOf Try.f14) = true := by kernel_rfl
theorem F_books_Accounts_eq (ds : List D) : F_books_Accounts ds = runG Try.prog c_books_Accounts (fun j s => L_books_Accounts j bigL s) an_books_Accounts 2 (bodyOf Try.f14) [.tmp 0] ds := runG_eq lok_books_Accounts _ ds
theorem C_books_Accounts (ds : List D) (r : D) (h : F_books_Accounts ds = some r) : Contract Try.prog 14 ds r := contract_of mix Try.func14 rfl (by kernel_rfl) (by kernel_rfl) (callOf_ok cl_books_Accounts trivial) h
-- sawmill/books.postings[int]: loops [3]; state: params 0..0, then [1, 2, 3, 4, 5, 6, 7, 8]
attribute [simp] Try.f25
noncomputable def an_books_postings_int : Ann := ⟨[1, 2, 3, 4, 5, 6, 7, 8], [9, 16], [3], [(3, [1, 3, 6, 7, 8])], [(0, [3]), (1, [1, 3, 6, 7, 8])], some [2]⟩
@[simp] theorem an_books_postings_int_exits : an_books_postings_int.exits = [(0, [3]), (1, [1, 3, 6, 7, 8])] := rfl
@[simp] theorem an_books_postings_int_rets : an_books_postings_int.rets = some [2] := rfl
@[simp] theorem an_books_postings_int_keep : an_books_postings_int.keep = [1, 2, 3, 4, 5, 6, 7, 8] := rfl
@[simp] theorem an_books_postings_int_cond : an_books_postings_int.cond = [9, 16] := rfl
@[simp] theorem an_books_postings_int_rows : an_books_postings_int.rows = [3] := rfl
@[simp] theorem an_books_postings_int_loops : an_books_postings_int.loops = [(3, [1, 3, 6, 7, 8])] := rfl
@[simp] noncomputable def cl_books_postings_int : List (Nat × (List D → Option D)) := [(14, F_books_Accounts)]
@[simp] noncomputable def c_books_postings_int (f : FuncId) (ds : List D) : Option D := callOf cl_books_postings_int f ds
noncomputable def F_books_postings_int (ds : List D) : Option D := runF Try.prog c_books_postings_int an_books_postings_int 27 (bodyOf Try.f25) [.tmp 2] ds
noncomputable def L_books_postings_int (i n : Nat) (s : St) : Option (E × St) := atN Try.prog c_books_postings_int an_books_postings_int 27 (bodyOf Try.f25) i n s
noncomputable def R_books_postings_int (i : Nat) (s : St) : Option (E × St) := stepL Try.prog c_books_postings_int an_books_postings_int 27 (bodyOf Try.f25) i s
theorem lok_books_postings_int : okLoops (bodyOf Try.f25) = true := by kernel_rfl
theorem L_books_postings_int_zero (i : Nat) (s : St) : L_books_postings_int i 0 s = none := rfl
theorem L_books_postings_int_succ (i n : Nat) (s : St) : L_books_postings_int i (n + 1) s = match R_books_postings_int i s with
    | some (.norm, s') => L_books_postings_int i n s'
    | r => r := atN_succ lok_books_postings_int i n s
theorem R_books_postings_int_eq (i : Nat) (s : St) : R_books_postings_int i s = runS Try.prog c_books_postings_int (fun j s => L_books_postings_int j bigL s) an_books_postings_int 27 (loopAt (bodyOf Try.f25) i) (headOf (an_books_postings_int.loops.lookup i) s) := rfl
theorem F_books_postings_int_eq (ds : List D) : F_books_postings_int ds = runG Try.prog c_books_postings_int (fun j s => L_books_postings_int j bigL s) an_books_postings_int 27 (bodyOf Try.f25) [.tmp 2] ds := runG_eq lok_books_postings_int _ ds
theorem C_books_postings_int (ds : List D) (r : D) (h : F_books_postings_int ds = some r) : Contract Try.prog 25 ds r := contract_of mix Try.func25 rfl (by kernel_rfl) (by kernel_rfl) (callOf_ok cl_books_postings_int ⟨C_books_Accounts, trivial⟩) h
-- sawmill/books.Sawn: loops []; state: params 0..0, then [1, 2, 3]
attribute [simp] Try.f6
noncomputable def an_books_Sawn : Ann := ⟨[1, 2, 3], [11], [], [], [], some [2, 3]⟩
@[simp] theorem an_books_Sawn_exits : an_books_Sawn.exits = [] := rfl
@[simp] theorem an_books_Sawn_rets : an_books_Sawn.rets = some [2, 3] := rfl
@[simp] theorem an_books_Sawn_keep : an_books_Sawn.keep = [1, 2, 3] := rfl
@[simp] theorem an_books_Sawn_cond : an_books_Sawn.cond = [11] := rfl
@[simp] theorem an_books_Sawn_rows : an_books_Sawn.rows = [] := rfl
@[simp] theorem an_books_Sawn_loops : an_books_Sawn.loops = [] := rfl
@[simp] noncomputable def cl_books_Sawn : List (Nat × (List D → Option D)) := [(24, F_yield_Balanced), (25, F_books_postings_int)]
@[simp] noncomputable def c_books_Sawn (f : FuncId) (ds : List D) : Option D := callOf cl_books_Sawn f ds
noncomputable def F_books_Sawn (ds : List D) : Option D := runF Try.prog c_books_Sawn an_books_Sawn 23 (bodyOf Try.f6) [.tmp 2, .tmp 3] ds
noncomputable def L_books_Sawn (i n : Nat) (s : St) : Option (E × St) := atN Try.prog c_books_Sawn an_books_Sawn 23 (bodyOf Try.f6) i n s
noncomputable def R_books_Sawn (i : Nat) (s : St) : Option (E × St) := stepL Try.prog c_books_Sawn an_books_Sawn 23 (bodyOf Try.f6) i s
theorem lok_books_Sawn : okLoops (bodyOf Try.f6) = true := by kernel_rfl
theorem F_books_Sawn_eq (ds : List D) : F_books_Sawn ds = runG Try.prog c_books_Sawn (fun j s => L_books_Sawn j bigL s) an_books_Sawn 23 (bodyOf Try.f6) [.tmp 2, .tmp 3] ds := runG_eq lok_books_Sawn _ ds
theorem C_books_Sawn (ds : List D) (r : D) (h : F_books_Sawn ds = some r) : Contract Try.prog 6 ds r := contract_of mix Try.func6 rfl (by kernel_rfl) (by kernel_rfl) (callOf_ok cl_books_Sawn ⟨C_yield_Balanced, C_books_postings_int, trivial⟩) h
-- sawmill/sawmillref22.fits: loops []; state: params 0..0, then [2]
attribute [simp] Try.f31
noncomputable def an_ref22_fits : Ann := ⟨[2], [], [], [], [], some [2]⟩
@[simp] theorem an_ref22_fits_exits : an_ref22_fits.exits = [] := rfl
@[simp] theorem an_ref22_fits_rets : an_ref22_fits.rets = some [2] := rfl
@[simp] theorem an_ref22_fits_keep : an_ref22_fits.keep = [2] := rfl
@[simp] theorem an_ref22_fits_cond : an_ref22_fits.cond = [] := rfl
@[simp] theorem an_ref22_fits_rows : an_ref22_fits.rows = [] := rfl
@[simp] theorem an_ref22_fits_loops : an_ref22_fits.loops = [] := rfl
@[simp] noncomputable def cl_ref22_fits : List (Nat × (List D → Option D)) := []
@[simp] noncomputable def c_ref22_fits (f : FuncId) (ds : List D) : Option D := callOf cl_ref22_fits f ds
noncomputable def F_ref22_fits (ds : List D) : Option D := runF Try.prog c_ref22_fits an_ref22_fits 9 (bodyOf Try.f31) [.tmp 2] ds
noncomputable def L_ref22_fits (i n : Nat) (s : St) : Option (E × St) := atN Try.prog c_ref22_fits an_ref22_fits 9 (bodyOf Try.f31) i n s
noncomputable def R_ref22_fits (i : Nat) (s : St) : Option (E × St) := stepL Try.prog c_ref22_fits an_ref22_fits 9 (bodyOf Try.f31) i s
theorem lok_ref22_fits : okLoops (bodyOf Try.f31) = true := by kernel_rfl
theorem F_ref22_fits_eq (ds : List D) : F_ref22_fits ds = runG Try.prog c_ref22_fits (fun j s => L_ref22_fits j bigL s) an_ref22_fits 9 (bodyOf Try.f31) [.tmp 2] ds := runG_eq lok_ref22_fits _ ds
theorem C_ref22_fits (ds : List D) (r : D) (h : F_ref22_fits ds = some r) : Contract Try.prog 31 ds r := contract_of mix Try.func31 rfl (by kernel_rfl) (by kernel_rfl) (callOf_ok cl_ref22_fits trivial) h
-- sawmill/sawmillref22.Balanced: loops []; state: params 0..0, then [1, 2]
attribute [simp] Try.f26
noncomputable def an_ref22_Balanced : Ann := ⟨[1, 2], [], [], [], [], some [2]⟩
@[simp] theorem an_ref22_Balanced_exits : an_ref22_Balanced.exits = [] := rfl
@[simp] theorem an_ref22_Balanced_rets : an_ref22_Balanced.rets = some [2] := rfl
@[simp] theorem an_ref22_Balanced_keep : an_ref22_Balanced.keep = [1, 2] := rfl
@[simp] theorem an_ref22_Balanced_cond : an_ref22_Balanced.cond = [] := rfl
@[simp] theorem an_ref22_Balanced_rows : an_ref22_Balanced.rows = [] := rfl
@[simp] theorem an_ref22_Balanced_loops : an_ref22_Balanced.loops = [] := rfl
@[simp] noncomputable def cl_ref22_Balanced : List (Nat × (List D → Option D)) := [(31, F_ref22_fits)]
@[simp] noncomputable def c_ref22_Balanced (f : FuncId) (ds : List D) : Option D := callOf cl_ref22_Balanced f ds
noncomputable def F_ref22_Balanced (ds : List D) : Option D := runF Try.prog c_ref22_Balanced an_ref22_Balanced 34 (bodyOf Try.f26) [.tmp 2] ds
noncomputable def L_ref22_Balanced (i n : Nat) (s : St) : Option (E × St) := atN Try.prog c_ref22_Balanced an_ref22_Balanced 34 (bodyOf Try.f26) i n s
noncomputable def R_ref22_Balanced (i : Nat) (s : St) : Option (E × St) := stepL Try.prog c_ref22_Balanced an_ref22_Balanced 34 (bodyOf Try.f26) i s
theorem lok_ref22_Balanced : okLoops (bodyOf Try.f26) = true := by kernel_rfl
theorem F_ref22_Balanced_eq (ds : List D) : F_ref22_Balanced ds = runG Try.prog c_ref22_Balanced (fun j s => L_ref22_Balanced j bigL s) an_ref22_Balanced 34 (bodyOf Try.f26) [.tmp 2] ds := runG_eq lok_ref22_Balanced _ ds
theorem C_ref22_Balanced (ds : List D) (r : D) (h : F_ref22_Balanced ds = some r) : Contract Try.prog 26 ds r := contract_of mix Try.func26 rfl (by kernel_rfl) (by kernel_rfl) (callOf_ok cl_ref22_Balanced ⟨C_ref22_fits, trivial⟩) h
-- sawmill/sawmillref52.Accounts: loops []; state: params 0..-1, then [0]
attribute [simp] Try.f15
noncomputable def an_ref52_Accounts : Ann := ⟨[0], [], [], [], [], some [0]⟩
@[simp] theorem an_ref52_Accounts_exits : an_ref52_Accounts.exits = [] := rfl
@[simp] theorem an_ref52_Accounts_rets : an_ref52_Accounts.rets = some [0] := rfl
@[simp] theorem an_ref52_Accounts_keep : an_ref52_Accounts.keep = [0] := rfl
@[simp] theorem an_ref52_Accounts_cond : an_ref52_Accounts.cond = [] := rfl
@[simp] theorem an_ref52_Accounts_rows : an_ref52_Accounts.rows = [] := rfl
@[simp] theorem an_ref52_Accounts_loops : an_ref52_Accounts.loops = [] := rfl
@[simp] noncomputable def cl_ref52_Accounts : List (Nat × (List D → Option D)) := []
@[simp] noncomputable def c_ref52_Accounts (f : FuncId) (ds : List D) : Option D := callOf cl_ref52_Accounts f ds
noncomputable def F_ref52_Accounts (ds : List D) : Option D := runF Try.prog c_ref52_Accounts an_ref52_Accounts 2 (bodyOf Try.f15) [.tmp 0] ds
noncomputable def L_ref52_Accounts (i n : Nat) (s : St) : Option (E × St) := atN Try.prog c_ref52_Accounts an_ref52_Accounts 2 (bodyOf Try.f15) i n s
noncomputable def R_ref52_Accounts (i : Nat) (s : St) : Option (E × St) := stepL Try.prog c_ref52_Accounts an_ref52_Accounts 2 (bodyOf Try.f15) i s
theorem lok_ref52_Accounts : okLoops (bodyOf Try.f15) = true := by kernel_rfl
theorem F_ref52_Accounts_eq (ds : List D) : F_ref52_Accounts ds = runG Try.prog c_ref52_Accounts (fun j s => L_ref52_Accounts j bigL s) an_ref52_Accounts 2 (bodyOf Try.f15) [.tmp 0] ds := runG_eq lok_ref52_Accounts _ ds
theorem C_ref52_Accounts (ds : List D) (r : D) (h : F_ref52_Accounts ds = some r) : Contract Try.prog 15 ds r := contract_of mix Try.func15 rfl (by kernel_rfl) (by kernel_rfl) (callOf_ok cl_ref52_Accounts trivial) h
-- sawmill/sawmillref52.Amount: loops [3]; state: params 0..1, then [4, 5, 6]
attribute [simp] Try.f23
noncomputable def an_ref52_Amount : Ann := ⟨[0, 4, 5, 6], [10, 19], [], [(3, [0, 1, 5, 6])], [(0, [5]), (1, [0, 1, 5, 6])], some [4]⟩
@[simp] theorem an_ref52_Amount_exits : an_ref52_Amount.exits = [(0, [5]), (1, [0, 1, 5, 6])] := rfl
@[simp] theorem an_ref52_Amount_rets : an_ref52_Amount.rets = some [4] := rfl
@[simp] theorem an_ref52_Amount_keep : an_ref52_Amount.keep = [0, 4, 5, 6] := rfl
@[simp] theorem an_ref52_Amount_cond : an_ref52_Amount.cond = [10, 19] := rfl
@[simp] theorem an_ref52_Amount_rows : an_ref52_Amount.rows = [] := rfl
@[simp] theorem an_ref52_Amount_loops : an_ref52_Amount.loops = [(3, [0, 1, 5, 6])] := rfl
@[simp] noncomputable def cl_ref52_Amount : List (Nat × (List D → Option D)) := []
@[simp] noncomputable def c_ref52_Amount (f : FuncId) (ds : List D) : Option D := callOf cl_ref52_Amount f ds
noncomputable def F_ref52_Amount (ds : List D) : Option D := runF Try.prog c_ref52_Amount an_ref52_Amount 28 (bodyOf Try.f23) [.tmp 4] ds
noncomputable def L_ref52_Amount (i n : Nat) (s : St) : Option (E × St) := atN Try.prog c_ref52_Amount an_ref52_Amount 28 (bodyOf Try.f23) i n s
noncomputable def R_ref52_Amount (i : Nat) (s : St) : Option (E × St) := stepL Try.prog c_ref52_Amount an_ref52_Amount 28 (bodyOf Try.f23) i s
theorem lok_ref52_Amount : okLoops (bodyOf Try.f23) = true := by kernel_rfl
theorem L_ref52_Amount_zero (i : Nat) (s : St) : L_ref52_Amount i 0 s = none := rfl
theorem L_ref52_Amount_succ (i n : Nat) (s : St) : L_ref52_Amount i (n + 1) s = match R_ref52_Amount i s with
    | some (.norm, s') => L_ref52_Amount i n s'
    | r => r := atN_succ lok_ref52_Amount i n s
theorem R_ref52_Amount_eq (i : Nat) (s : St) : R_ref52_Amount i s = runS Try.prog c_ref52_Amount (fun j s => L_ref52_Amount j bigL s) an_ref52_Amount 28 (loopAt (bodyOf Try.f23) i) (headOf (an_ref52_Amount.loops.lookup i) s) := rfl
theorem F_ref52_Amount_eq (ds : List D) : F_ref52_Amount ds = runG Try.prog c_ref52_Amount (fun j s => L_ref52_Amount j bigL s) an_ref52_Amount 28 (bodyOf Try.f23) [.tmp 4] ds := runG_eq lok_ref52_Amount _ ds
theorem C_ref52_Amount (ds : List D) (r : D) (h : F_ref52_Amount ds = some r) : Contract Try.prog 23 ds r := contract_of mix Try.func23 rfl (by kernel_rfl) (by kernel_rfl) (callOf_ok cl_ref52_Amount trivial) h
-- sawmill/sawmillref52.Ordered: loops [4]; state: params 0..0, then [2, 3, 4, 5, 6]
attribute [simp] Try.f27
noncomputable def an_ref52_Ordered : Ann := ⟨[2, 3, 4, 5, 6], [11, 21], [3], [(4, [0, 3, 4, 5])], [(0, [3]), (1, [0, 3, 4, 5])], some [2]⟩
@[simp] theorem an_ref52_Ordered_exits : an_ref52_Ordered.exits = [(0, [3]), (1, [0, 3, 4, 5])] := rfl
@[simp] theorem an_ref52_Ordered_rets : an_ref52_Ordered.rets = some [2] := rfl
@[simp] theorem an_ref52_Ordered_keep : an_ref52_Ordered.keep = [2, 3, 4, 5, 6] := rfl
@[simp] theorem an_ref52_Ordered_cond : an_ref52_Ordered.cond = [11, 21] := rfl
@[simp] theorem an_ref52_Ordered_rows : an_ref52_Ordered.rows = [3] := rfl
@[simp] theorem an_ref52_Ordered_loops : an_ref52_Ordered.loops = [(4, [0, 3, 4, 5])] := rfl
@[simp] noncomputable def cl_ref52_Ordered : List (Nat × (List D → Option D)) := [(15, F_ref52_Accounts), (23, F_ref52_Amount)]
@[simp] noncomputable def c_ref52_Ordered (f : FuncId) (ds : List D) : Option D := callOf cl_ref52_Ordered f ds
noncomputable def F_ref52_Ordered (ds : List D) : Option D := runF Try.prog c_ref52_Ordered an_ref52_Ordered 32 (bodyOf Try.f27) [.tmp 2] ds
noncomputable def L_ref52_Ordered (i n : Nat) (s : St) : Option (E × St) := atN Try.prog c_ref52_Ordered an_ref52_Ordered 32 (bodyOf Try.f27) i n s
noncomputable def R_ref52_Ordered (i : Nat) (s : St) : Option (E × St) := stepL Try.prog c_ref52_Ordered an_ref52_Ordered 32 (bodyOf Try.f27) i s
theorem lok_ref52_Ordered : okLoops (bodyOf Try.f27) = true := by kernel_rfl
theorem L_ref52_Ordered_zero (i : Nat) (s : St) : L_ref52_Ordered i 0 s = none := rfl
theorem L_ref52_Ordered_succ (i n : Nat) (s : St) : L_ref52_Ordered i (n + 1) s = match R_ref52_Ordered i s with
    | some (.norm, s') => L_ref52_Ordered i n s'
    | r => r := atN_succ lok_ref52_Ordered i n s
theorem R_ref52_Ordered_eq (i : Nat) (s : St) : R_ref52_Ordered i s = runS Try.prog c_ref52_Ordered (fun j s => L_ref52_Ordered j bigL s) an_ref52_Ordered 32 (loopAt (bodyOf Try.f27) i) (headOf (an_ref52_Ordered.loops.lookup i) s) := rfl
theorem F_ref52_Ordered_eq (ds : List D) : F_ref52_Ordered ds = runG Try.prog c_ref52_Ordered (fun j s => L_ref52_Ordered j bigL s) an_ref52_Ordered 32 (bodyOf Try.f27) [.tmp 2] ds := runG_eq lok_ref52_Ordered _ ds
theorem C_ref52_Ordered (ds : List D) (r : D) (h : F_ref52_Ordered ds = some r) : Contract Try.prog 27 ds r := contract_of mix Try.func27 rfl (by kernel_rfl) (by kernel_rfl) (callOf_ok cl_ref52_Ordered ⟨C_ref52_Accounts, C_ref52_Amount, trivial⟩) h
-- sawmill/sawmillref52.Sawn: loops []; state: params 0..0, then [1, 2, 3]
attribute [simp] Try.f7
noncomputable def an_ref52_Sawn : Ann := ⟨[1, 2, 3], [11], [], [], [], some [2, 3]⟩
@[simp] theorem an_ref52_Sawn_exits : an_ref52_Sawn.exits = [] := rfl
@[simp] theorem an_ref52_Sawn_rets : an_ref52_Sawn.rets = some [2, 3] := rfl
@[simp] theorem an_ref52_Sawn_keep : an_ref52_Sawn.keep = [1, 2, 3] := rfl
@[simp] theorem an_ref52_Sawn_cond : an_ref52_Sawn.cond = [11] := rfl
@[simp] theorem an_ref52_Sawn_rows : an_ref52_Sawn.rows = [] := rfl
@[simp] theorem an_ref52_Sawn_loops : an_ref52_Sawn.loops = [] := rfl
@[simp] noncomputable def cl_ref52_Sawn : List (Nat × (List D → Option D)) := [(26, F_ref22_Balanced), (27, F_ref52_Ordered)]
@[simp] noncomputable def c_ref52_Sawn (f : FuncId) (ds : List D) : Option D := callOf cl_ref52_Sawn f ds
noncomputable def F_ref52_Sawn (ds : List D) : Option D := runF Try.prog c_ref52_Sawn an_ref52_Sawn 27 (bodyOf Try.f7) [.tmp 2, .tmp 3] ds
noncomputable def L_ref52_Sawn (i n : Nat) (s : St) : Option (E × St) := atN Try.prog c_ref52_Sawn an_ref52_Sawn 27 (bodyOf Try.f7) i n s
noncomputable def R_ref52_Sawn (i : Nat) (s : St) : Option (E × St) := stepL Try.prog c_ref52_Sawn an_ref52_Sawn 27 (bodyOf Try.f7) i s
theorem lok_ref52_Sawn : okLoops (bodyOf Try.f7) = true := by kernel_rfl
theorem F_ref52_Sawn_eq (ds : List D) : F_ref52_Sawn ds = runG Try.prog c_ref52_Sawn (fun j s => L_ref52_Sawn j bigL s) an_ref52_Sawn 27 (bodyOf Try.f7) [.tmp 2, .tmp 3] ds := runG_eq lok_ref52_Sawn _ ds
theorem C_ref52_Sawn (ds : List D) (r : D) (h : F_ref52_Sawn ds = some r) : Contract Try.prog 7 ds r := contract_of mix Try.func7 rfl (by kernel_rfl) (by kernel_rfl) (callOf_ok cl_ref52_Sawn ⟨C_ref22_Balanced, C_ref52_Ordered, trivial⟩) h
-- sawmill/sawmillref52.Same: loops [4]; state: params 0..1, then [4, 5]
attribute [simp] Try.f8
noncomputable def an_ref52_Same : Ann := ⟨[0, 1, 4, 5], [10, 14, 25], [], [(4, [0, 1, 5])], [(0, []), (1, [0, 1, 5])], some [4]⟩
@[simp] theorem an_ref52_Same_exits : an_ref52_Same.exits = [(0, []), (1, [0, 1, 5])] := rfl
@[simp] theorem an_ref52_Same_rets : an_ref52_Same.rets = some [4] := rfl
@[simp] theorem an_ref52_Same_keep : an_ref52_Same.keep = [0, 1, 4, 5] := rfl
@[simp] theorem an_ref52_Same_cond : an_ref52_Same.cond = [10, 14, 25] := rfl
@[simp] theorem an_ref52_Same_rows : an_ref52_Same.rows = [] := rfl
@[simp] theorem an_ref52_Same_loops : an_ref52_Same.loops = [(4, [0, 1, 5])] := rfl
@[simp] noncomputable def cl_ref52_Same : List (Nat × (List D → Option D)) := []
@[simp] noncomputable def c_ref52_Same (f : FuncId) (ds : List D) : Option D := callOf cl_ref52_Same f ds
noncomputable def F_ref52_Same (ds : List D) : Option D := runF Try.prog c_ref52_Same an_ref52_Same 26 (bodyOf Try.f8) [.tmp 4] ds
noncomputable def L_ref52_Same (i n : Nat) (s : St) : Option (E × St) := atN Try.prog c_ref52_Same an_ref52_Same 26 (bodyOf Try.f8) i n s
noncomputable def R_ref52_Same (i : Nat) (s : St) : Option (E × St) := stepL Try.prog c_ref52_Same an_ref52_Same 26 (bodyOf Try.f8) i s
theorem lok_ref52_Same : okLoops (bodyOf Try.f8) = true := by kernel_rfl
theorem L_ref52_Same_zero (i : Nat) (s : St) : L_ref52_Same i 0 s = none := rfl
theorem L_ref52_Same_succ (i n : Nat) (s : St) : L_ref52_Same i (n + 1) s = match R_ref52_Same i s with
    | some (.norm, s') => L_ref52_Same i n s'
    | r => r := atN_succ lok_ref52_Same i n s
theorem R_ref52_Same_eq (i : Nat) (s : St) : R_ref52_Same i s = runS Try.prog c_ref52_Same (fun j s => L_ref52_Same j bigL s) an_ref52_Same 26 (loopAt (bodyOf Try.f8) i) (headOf (an_ref52_Same.loops.lookup i) s) := rfl
theorem F_ref52_Same_eq (ds : List D) : F_ref52_Same ds = runG Try.prog c_ref52_Same (fun j s => L_ref52_Same j bigL s) an_ref52_Same 26 (bodyOf Try.f8) [.tmp 4] ds := runG_eq lok_ref52_Same _ ds
theorem C_ref52_Same (ds : List D) (r : D) (h : F_ref52_Same ds = some r) : Contract Try.prog 8 ds r := contract_of mix Try.func8 rfl (by kernel_rfl) (by kernel_rfl) (callOf_ok cl_ref52_Same trivial) h
-- sawmill/books.areVolumes[int]: loops [3]; state: params 0..0, then [2, 3, 5, 6, 7, 8]
attribute [simp] Try.f28
noncomputable def an_books_areVolumes_int : Ann := ⟨[2, 3, 5, 6, 7, 8], [9, 17], [], [(3, [3, 6, 7, 8])], [(0, [3]), (1, [3, 6, 7, 8])], some [2]⟩
@[simp] theorem an_books_areVolumes_int_exits : an_books_areVolumes_int.exits = [(0, [3]), (1, [3, 6, 7, 8])] := rfl
@[simp] theorem an_books_areVolumes_int_rets : an_books_areVolumes_int.rets = some [2] := rfl
@[simp] theorem an_books_areVolumes_int_keep : an_books_areVolumes_int.keep = [2, 3, 5, 6, 7, 8] := rfl
@[simp] theorem an_books_areVolumes_int_cond : an_books_areVolumes_int.cond = [9, 17] := rfl
@[simp] theorem an_books_areVolumes_int_rows : an_books_areVolumes_int.rows = [] := rfl
@[simp] theorem an_books_areVolumes_int_loops : an_books_areVolumes_int.loops = [(3, [3, 6, 7, 8])] := rfl
@[simp] noncomputable def cl_books_areVolumes_int : List (Nat × (List D → Option D)) := []
@[simp] noncomputable def c_books_areVolumes_int (f : FuncId) (ds : List D) : Option D := callOf cl_books_areVolumes_int f ds
noncomputable def F_books_areVolumes_int (ds : List D) : Option D := runF Try.prog c_books_areVolumes_int an_books_areVolumes_int 24 (bodyOf Try.f28) [.tmp 2] ds
noncomputable def L_books_areVolumes_int (i n : Nat) (s : St) : Option (E × St) := atN Try.prog c_books_areVolumes_int an_books_areVolumes_int 24 (bodyOf Try.f28) i n s
noncomputable def R_books_areVolumes_int (i : Nat) (s : St) : Option (E × St) := stepL Try.prog c_books_areVolumes_int an_books_areVolumes_int 24 (bodyOf Try.f28) i s
theorem lok_books_areVolumes_int : okLoops (bodyOf Try.f28) = true := by kernel_rfl
theorem L_books_areVolumes_int_zero (i : Nat) (s : St) : L_books_areVolumes_int i 0 s = none := rfl
theorem L_books_areVolumes_int_succ (i n : Nat) (s : St) : L_books_areVolumes_int i (n + 1) s = match R_books_areVolumes_int i s with
    | some (.norm, s') => L_books_areVolumes_int i n s'
    | r => r := atN_succ lok_books_areVolumes_int i n s
theorem R_books_areVolumes_int_eq (i : Nat) (s : St) : R_books_areVolumes_int i s = runS Try.prog c_books_areVolumes_int (fun j s => L_books_areVolumes_int j bigL s) an_books_areVolumes_int 24 (loopAt (bodyOf Try.f28) i) (headOf (an_books_areVolumes_int.loops.lookup i) s) := rfl
theorem F_books_areVolumes_int_eq (ds : List D) : F_books_areVolumes_int ds = runG Try.prog c_books_areVolumes_int (fun j s => L_books_areVolumes_int j bigL s) an_books_areVolumes_int 24 (bodyOf Try.f28) [.tmp 2] ds := runG_eq lok_books_areVolumes_int _ ds
theorem C_books_areVolumes_int (ds : List D) (r : D) (h : F_books_areVolumes_int ds = some r) : Contract Try.prog 28 ds r := contract_of mix Try.func28 rfl (by kernel_rfl) (by kernel_rfl) (callOf_ok cl_books_areVolumes_int trivial) h
-- sawmill/books.Recut: loops []; state: params 0..3, then [8, 9, 10]
attribute [simp] Try.f9
noncomputable def an_books_Recut : Ann := ⟨[2, 3, 8, 9, 10], [16, 20], [], [], [], some [8]⟩
@[simp] theorem an_books_Recut_exits : an_books_Recut.exits = [] := rfl
@[simp] theorem an_books_Recut_rets : an_books_Recut.rets = some [8] := rfl
@[simp] theorem an_books_Recut_keep : an_books_Recut.keep = [2, 3, 8, 9, 10] := rfl
@[simp] theorem an_books_Recut_cond : an_books_Recut.cond = [16, 20] := rfl
@[simp] theorem an_books_Recut_rows : an_books_Recut.rows = [] := rfl
@[simp] theorem an_books_Recut_loops : an_books_Recut.loops = [] := rfl
@[simp] noncomputable def cl_books_Recut : List (Nat × (List D → Option D)) := [(25, F_books_postings_int), (28, F_books_areVolumes_int)]
@[simp] noncomputable def c_books_Recut (f : FuncId) (ds : List D) : Option D := callOf cl_books_Recut f ds
noncomputable def F_books_Recut (ds : List D) : Option D := runF Try.prog c_books_Recut an_books_Recut 29 (bodyOf Try.f9) [.tmp 8] ds
noncomputable def L_books_Recut (i n : Nat) (s : St) : Option (E × St) := atN Try.prog c_books_Recut an_books_Recut 29 (bodyOf Try.f9) i n s
noncomputable def R_books_Recut (i : Nat) (s : St) : Option (E × St) := stepL Try.prog c_books_Recut an_books_Recut 29 (bodyOf Try.f9) i s
theorem lok_books_Recut : okLoops (bodyOf Try.f9) = true := by kernel_rfl
theorem F_books_Recut_eq (ds : List D) : F_books_Recut ds = runG Try.prog c_books_Recut (fun j s => L_books_Recut j bigL s) an_books_Recut 29 (bodyOf Try.f9) [.tmp 8] ds := runG_eq lok_books_Recut _ ds
theorem C_books_Recut (ds : List D) (r : D) (h : F_books_Recut ds = some r) : Contract Try.prog 9 ds r := contract_of mix Try.func9 rfl (by kernel_rfl) (by kernel_rfl) (callOf_ok cl_books_Recut ⟨C_books_postings_int, C_books_areVolumes_int, trivial⟩) h
-- sawmill/sawmillref52.volume: loops []; state: params 0..0, then [2]
attribute [simp] Try.f29
noncomputable def an_ref52_volume : Ann := ⟨[2], [], [], [], [], some [2]⟩
@[simp] theorem an_ref52_volume_exits : an_ref52_volume.exits = [] := rfl
@[simp] theorem an_ref52_volume_rets : an_ref52_volume.rets = some [2] := rfl
@[simp] theorem an_ref52_volume_keep : an_ref52_volume.keep = [2] := rfl
@[simp] theorem an_ref52_volume_cond : an_ref52_volume.cond = [] := rfl
@[simp] theorem an_ref52_volume_rows : an_ref52_volume.rows = [] := rfl
@[simp] theorem an_ref52_volume_loops : an_ref52_volume.loops = [] := rfl
@[simp] noncomputable def cl_ref52_volume : List (Nat × (List D → Option D)) := []
@[simp] noncomputable def c_ref52_volume (f : FuncId) (ds : List D) : Option D := callOf cl_ref52_volume f ds
noncomputable def F_ref52_volume (ds : List D) : Option D := runF Try.prog c_ref52_volume an_ref52_volume 9 (bodyOf Try.f29) [.tmp 2] ds
noncomputable def L_ref52_volume (i n : Nat) (s : St) : Option (E × St) := atN Try.prog c_ref52_volume an_ref52_volume 9 (bodyOf Try.f29) i n s
noncomputable def R_ref52_volume (i : Nat) (s : St) : Option (E × St) := stepL Try.prog c_ref52_volume an_ref52_volume 9 (bodyOf Try.f29) i s
theorem lok_ref52_volume : okLoops (bodyOf Try.f29) = true := by kernel_rfl
theorem F_ref52_volume_eq (ds : List D) : F_ref52_volume ds = runG Try.prog c_ref52_volume (fun j s => L_ref52_volume j bigL s) an_ref52_volume 9 (bodyOf Try.f29) [.tmp 2] ds := runG_eq lok_ref52_volume _ ds
theorem C_ref52_volume (ds : List D) (r : D) (h : F_ref52_volume ds = some r) : Contract Try.prog 29 ds r := contract_of mix Try.func29 rfl (by kernel_rfl) (by kernel_rfl) (callOf_ok cl_ref52_volume trivial) h
-- sawmill/sawmillref52.Recut: loops []; state: params 0..3, then [8, 9]
attribute [simp] Try.f10
noncomputable def an_ref52_Recut : Ann := ⟨[2, 3, 8, 9], [36, 37], [], [], [], some [8]⟩
@[simp] theorem an_ref52_Recut_exits : an_ref52_Recut.exits = [] := rfl
@[simp] theorem an_ref52_Recut_rets : an_ref52_Recut.rets = some [8] := rfl
@[simp] theorem an_ref52_Recut_keep : an_ref52_Recut.keep = [2, 3, 8, 9] := rfl
@[simp] theorem an_ref52_Recut_cond : an_ref52_Recut.cond = [36, 37] := rfl
@[simp] theorem an_ref52_Recut_rows : an_ref52_Recut.rows = [] := rfl
@[simp] theorem an_ref52_Recut_loops : an_ref52_Recut.loops = [] := rfl
@[simp] noncomputable def cl_ref52_Recut : List (Nat × (List D → Option D)) := [(27, F_ref52_Ordered), (29, F_ref52_volume)]
@[simp] noncomputable def c_ref52_Recut (f : FuncId) (ds : List D) : Option D := callOf cl_ref52_Recut f ds
noncomputable def F_ref52_Recut (ds : List D) : Option D := runF Try.prog c_ref52_Recut an_ref52_Recut 50 (bodyOf Try.f10) [.tmp 8] ds
noncomputable def L_ref52_Recut (i n : Nat) (s : St) : Option (E × St) := atN Try.prog c_ref52_Recut an_ref52_Recut 50 (bodyOf Try.f10) i n s
noncomputable def R_ref52_Recut (i : Nat) (s : St) : Option (E × St) := stepL Try.prog c_ref52_Recut an_ref52_Recut 50 (bodyOf Try.f10) i s
theorem lok_ref52_Recut : okLoops (bodyOf Try.f10) = true := by kernel_rfl
theorem F_ref52_Recut_eq (ds : List D) : F_ref52_Recut ds = runG Try.prog c_ref52_Recut (fun j s => L_ref52_Recut j bigL s) an_ref52_Recut 50 (bodyOf Try.f10) [.tmp 8] ds := runG_eq lok_ref52_Recut _ ds
theorem C_ref52_Recut (ds : List D) (r : D) (h : F_ref52_Recut ds = some r) : Contract Try.prog 10 ds r := contract_of mix Try.func10 rfl (by kernel_rfl) (by kernel_rfl) (callOf_ok cl_ref52_Recut ⟨C_ref52_Ordered, C_ref52_volume, trivial⟩) h
-- sawmill/books.Sold: loops []; state: params 0..1, then [4]
attribute [simp] Try.f11
noncomputable def an_books_Sold : Ann := ⟨[0, 1, 4], [9], [], [], [], some [4]⟩
@[simp] theorem an_books_Sold_exits : an_books_Sold.exits = [] := rfl
@[simp] theorem an_books_Sold_rets : an_books_Sold.rets = some [4] := rfl
@[simp] theorem an_books_Sold_keep : an_books_Sold.keep = [0, 1, 4] := rfl
@[simp] theorem an_books_Sold_cond : an_books_Sold.cond = [9] := rfl
@[simp] theorem an_books_Sold_rows : an_books_Sold.rows = [] := rfl
@[simp] theorem an_books_Sold_loops : an_books_Sold.loops = [] := rfl
@[simp] noncomputable def cl_books_Sold : List (Nat × (List D → Option D)) := [(25, F_books_postings_int), (28, F_books_areVolumes_int)]
@[simp] noncomputable def c_books_Sold (f : FuncId) (ds : List D) : Option D := callOf cl_books_Sold f ds
noncomputable def F_books_Sold (ds : List D) : Option D := runF Try.prog c_books_Sold an_books_Sold 19 (bodyOf Try.f11) [.tmp 4] ds
noncomputable def L_books_Sold (i n : Nat) (s : St) : Option (E × St) := atN Try.prog c_books_Sold an_books_Sold 19 (bodyOf Try.f11) i n s
noncomputable def R_books_Sold (i : Nat) (s : St) : Option (E × St) := stepL Try.prog c_books_Sold an_books_Sold 19 (bodyOf Try.f11) i s
theorem lok_books_Sold : okLoops (bodyOf Try.f11) = true := by kernel_rfl
theorem F_books_Sold_eq (ds : List D) : F_books_Sold ds = runG Try.prog c_books_Sold (fun j s => L_books_Sold j bigL s) an_books_Sold 19 (bodyOf Try.f11) [.tmp 4] ds := runG_eq lok_books_Sold _ ds
theorem C_books_Sold (ds : List D) (r : D) (h : F_books_Sold ds = some r) : Contract Try.prog 11 ds r := contract_of mix Try.func11 rfl (by kernel_rfl) (by kernel_rfl) (callOf_ok cl_books_Sold ⟨C_books_postings_int, C_books_areVolumes_int, trivial⟩) h
-- sawmill/sawmillref52.Sold: loops []; state: params 0..1, then [4]
attribute [simp] Try.f12
noncomputable def an_ref52_Sold : Ann := ⟨[0, 1, 4], [18], [], [], [], some [4]⟩
@[simp] theorem an_ref52_Sold_exits : an_ref52_Sold.exits = [] := rfl
@[simp] theorem an_ref52_Sold_rets : an_ref52_Sold.rets = some [4] := rfl
@[simp] theorem an_ref52_Sold_keep : an_ref52_Sold.keep = [0, 1, 4] := rfl
@[simp] theorem an_ref52_Sold_cond : an_ref52_Sold.cond = [18] := rfl
@[simp] theorem an_ref52_Sold_rows : an_ref52_Sold.rows = [] := rfl
@[simp] theorem an_ref52_Sold_loops : an_ref52_Sold.loops = [] := rfl
@[simp] noncomputable def cl_ref52_Sold : List (Nat × (List D → Option D)) := [(27, F_ref52_Ordered), (29, F_ref52_volume)]
@[simp] noncomputable def c_ref52_Sold (f : FuncId) (ds : List D) : Option D := callOf cl_ref52_Sold f ds
noncomputable def F_ref52_Sold (ds : List D) : Option D := runF Try.prog c_ref52_Sold an_ref52_Sold 31 (bodyOf Try.f12) [.tmp 4] ds
noncomputable def L_ref52_Sold (i n : Nat) (s : St) : Option (E × St) := atN Try.prog c_ref52_Sold an_ref52_Sold 31 (bodyOf Try.f12) i n s
noncomputable def R_ref52_Sold (i : Nat) (s : St) : Option (E × St) := stepL Try.prog c_ref52_Sold an_ref52_Sold 31 (bodyOf Try.f12) i s
theorem lok_ref52_Sold : okLoops (bodyOf Try.f12) = true := by kernel_rfl
theorem F_ref52_Sold_eq (ds : List D) : F_ref52_Sold ds = runG Try.prog c_ref52_Sold (fun j s => L_ref52_Sold j bigL s) an_ref52_Sold 31 (bodyOf Try.f12) [.tmp 4] ds := runG_eq lok_ref52_Sold _ ds
theorem C_ref52_Sold (ds : List D) (r : D) (h : F_ref52_Sold ds = some r) : Contract Try.prog 12 ds r := contract_of mix Try.func12 rfl (by kernel_rfl) (by kernel_rfl) (callOf_ok cl_ref52_Sold ⟨C_ref52_Ordered, C_ref52_volume, trivial⟩) h
-- sawmill/books.Scanned: loops []; state: params 0..0, then [2]
attribute [simp] Try.f16
noncomputable def an_books_Scanned : Ann := ⟨[0, 2], [6], [], [], [], some [2]⟩
@[simp] theorem an_books_Scanned_exits : an_books_Scanned.exits = [] := rfl
@[simp] theorem an_books_Scanned_rets : an_books_Scanned.rets = some [2] := rfl
@[simp] theorem an_books_Scanned_keep : an_books_Scanned.keep = [0, 2] := rfl
@[simp] theorem an_books_Scanned_cond : an_books_Scanned.cond = [6] := rfl
@[simp] theorem an_books_Scanned_rows : an_books_Scanned.rows = [] := rfl
@[simp] theorem an_books_Scanned_loops : an_books_Scanned.loops = [] := rfl
@[simp] noncomputable def cl_books_Scanned : List (Nat × (List D → Option D)) := [(25, F_books_postings_int), (28, F_books_areVolumes_int)]
@[simp] noncomputable def c_books_Scanned (f : FuncId) (ds : List D) : Option D := callOf cl_books_Scanned f ds
noncomputable def F_books_Scanned (ds : List D) : Option D := runF Try.prog c_books_Scanned an_books_Scanned 12 (bodyOf Try.f16) [.tmp 2] ds
noncomputable def L_books_Scanned (i n : Nat) (s : St) : Option (E × St) := atN Try.prog c_books_Scanned an_books_Scanned 12 (bodyOf Try.f16) i n s
noncomputable def R_books_Scanned (i : Nat) (s : St) : Option (E × St) := stepL Try.prog c_books_Scanned an_books_Scanned 12 (bodyOf Try.f16) i s
theorem lok_books_Scanned : okLoops (bodyOf Try.f16) = true := by kernel_rfl
theorem F_books_Scanned_eq (ds : List D) : F_books_Scanned ds = runG Try.prog c_books_Scanned (fun j s => L_books_Scanned j bigL s) an_books_Scanned 12 (bodyOf Try.f16) [.tmp 2] ds := runG_eq lok_books_Scanned _ ds
theorem C_books_Scanned (ds : List D) (r : D) (h : F_books_Scanned ds = some r) : Contract Try.prog 16 ds r := contract_of mix Try.func16 rfl (by kernel_rfl) (by kernel_rfl) (callOf_ok cl_books_Scanned ⟨C_books_postings_int, C_books_areVolumes_int, trivial⟩) h
-- sawmill/sawmilllaw52.awake: loops []; state: params 0..-1, then [0, 1, 2, 4, 5]
attribute [simp] Try.f13
noncomputable def an_law52_awake : Ann := ⟨[0, 1, 2, 4, 5], [], [], [], [], some [0]⟩
@[simp] theorem an_law52_awake_exits : an_law52_awake.exits = [] := rfl
@[simp] theorem an_law52_awake_rets : an_law52_awake.rets = some [0] := rfl
@[simp] theorem an_law52_awake_keep : an_law52_awake.keep = [0, 1, 2, 4, 5] := rfl
@[simp] theorem an_law52_awake_cond : an_law52_awake.cond = [] := rfl
@[simp] theorem an_law52_awake_rows : an_law52_awake.rows = [] := rfl
@[simp] theorem an_law52_awake_loops : an_law52_awake.loops = [] := rfl
@[simp] noncomputable def cl_law52_awake : List (Nat × (List D → Option D)) := [(6, F_books_Sawn), (8, F_ref52_Same), (9, F_books_Recut), (11, F_books_Sold), (14, F_books_Accounts), (16, F_books_Scanned)]
@[simp] noncomputable def c_law52_awake (f : FuncId) (ds : List D) : Option D := callOf cl_law52_awake f ds
noncomputable def F_law52_awake (ds : List D) : Option D := runF Try.prog c_law52_awake an_law52_awake 61 (bodyOf Try.f13) [.tmp 0] ds
noncomputable def L_law52_awake (i n : Nat) (s : St) : Option (E × St) := atN Try.prog c_law52_awake an_law52_awake 61 (bodyOf Try.f13) i n s
noncomputable def R_law52_awake (i : Nat) (s : St) : Option (E × St) := stepL Try.prog c_law52_awake an_law52_awake 61 (bodyOf Try.f13) i s
theorem lok_law52_awake : okLoops (bodyOf Try.f13) = true := by kernel_rfl
theorem F_law52_awake_eq (ds : List D) : F_law52_awake ds = runG Try.prog c_law52_awake (fun j s => L_law52_awake j bigL s) an_law52_awake 61 (bodyOf Try.f13) [.tmp 0] ds := runG_eq lok_law52_awake _ ds
theorem C_law52_awake (ds : List D) (r : D) (h : F_law52_awake ds = some r) : Contract Try.prog 13 ds r := contract_of mix Try.func13 rfl (by kernel_rfl) (by kernel_rfl) (callOf_ok cl_law52_awake ⟨C_books_Sawn, C_ref52_Same, C_books_Recut, C_books_Sold, C_books_Accounts, C_books_Scanned, trivial⟩) h
-- sawmill/sawmilllaw52.BooksCuts: loops []; state: params 0..1, then [2, 3, 4, 5, 6, 7, 8]
attribute [simp] Try.f3
noncomputable def an_law52_BooksCuts : Ann := ⟨[2, 3, 4, 5, 6, 7, 8], [], [], [], [], some [4]⟩
@[simp] theorem an_law52_BooksCuts_exits : an_law52_BooksCuts.exits = [] := rfl
@[simp] theorem an_law52_BooksCuts_rets : an_law52_BooksCuts.rets = some [4] := rfl
@[simp] theorem an_law52_BooksCuts_keep : an_law52_BooksCuts.keep = [2, 3, 4, 5, 6, 7, 8] := rfl
@[simp] theorem an_law52_BooksCuts_cond : an_law52_BooksCuts.cond = [] := rfl
@[simp] theorem an_law52_BooksCuts_rows : an_law52_BooksCuts.rows = [] := rfl
@[simp] theorem an_law52_BooksCuts_loops : an_law52_BooksCuts.loops = [] := rfl
@[simp] noncomputable def cl_law52_BooksCuts : List (Nat × (List D → Option D)) := [(6, F_books_Sawn), (7, F_ref52_Sawn), (8, F_ref52_Same), (9, F_books_Recut), (10, F_ref52_Recut), (11, F_books_Sold), (12, F_ref52_Sold), (13, F_law52_awake)]
@[simp] noncomputable def c_law52_BooksCuts (f : FuncId) (ds : List D) : Option D := callOf cl_law52_BooksCuts f ds
noncomputable def F_law52_BooksCuts (ds : List D) : Option D := runF Try.prog c_law52_BooksCuts an_law52_BooksCuts 64 (bodyOf Try.f3) [.tmp 4] ds
noncomputable def L_law52_BooksCuts (i n : Nat) (s : St) : Option (E × St) := atN Try.prog c_law52_BooksCuts an_law52_BooksCuts 64 (bodyOf Try.f3) i n s
noncomputable def R_law52_BooksCuts (i : Nat) (s : St) : Option (E × St) := stepL Try.prog c_law52_BooksCuts an_law52_BooksCuts 64 (bodyOf Try.f3) i s
theorem lok_law52_BooksCuts : okLoops (bodyOf Try.f3) = true := by kernel_rfl
theorem F_law52_BooksCuts_eq (ds : List D) : F_law52_BooksCuts ds = runG Try.prog c_law52_BooksCuts (fun j s => L_law52_BooksCuts j bigL s) an_law52_BooksCuts 64 (bodyOf Try.f3) [.tmp 4] ds := runG_eq lok_law52_BooksCuts _ ds
theorem C_law52_BooksCuts (ds : List D) (r : D) (h : F_law52_BooksCuts ds = some r) : Contract Try.prog 3 ds r := contract_of mix Try.func3 rfl (by kernel_rfl) (by kernel_rfl) (callOf_ok cl_law52_BooksCuts ⟨C_books_Sawn, C_ref52_Sawn, C_ref52_Same, C_books_Recut, C_ref52_Recut, C_books_Sold, C_ref52_Sold, C_law52_awake, trivial⟩) h
-- sawmill/sawmillref52.move: loops []; state: params 0..2, then [6]
attribute [simp] Try.f30
noncomputable def an_ref52_move : Ann := ⟨[0, 6], [9], [], [], [], some [6]⟩
@[simp] theorem an_ref52_move_exits : an_ref52_move.exits = [] := rfl
@[simp] theorem an_ref52_move_rets : an_ref52_move.rets = some [6] := rfl
@[simp] theorem an_ref52_move_keep : an_ref52_move.keep = [0, 6] := rfl
@[simp] theorem an_ref52_move_cond : an_ref52_move.cond = [9] := rfl
@[simp] theorem an_ref52_move_rows : an_ref52_move.rows = [] := rfl
@[simp] theorem an_ref52_move_loops : an_ref52_move.loops = [] := rfl
@[simp] noncomputable def cl_ref52_move : List (Nat × (List D → Option D)) := [(27, F_ref52_Ordered), (29, F_ref52_volume)]
@[simp] noncomputable def c_ref52_move (f : FuncId) (ds : List D) : Option D := callOf cl_ref52_move f ds
noncomputable def F_ref52_move (ds : List D) : Option D := runF Try.prog c_ref52_move an_ref52_move 19 (bodyOf Try.f30) [.tmp 6] ds
noncomputable def L_ref52_move (i n : Nat) (s : St) : Option (E × St) := atN Try.prog c_ref52_move an_ref52_move 19 (bodyOf Try.f30) i n s
noncomputable def R_ref52_move (i : Nat) (s : St) : Option (E × St) := stepL Try.prog c_ref52_move an_ref52_move 19 (bodyOf Try.f30) i s
theorem lok_ref52_move : okLoops (bodyOf Try.f30) = true := by kernel_rfl
theorem F_ref52_move_eq (ds : List D) : F_ref52_move ds = runG Try.prog c_ref52_move (fun j s => L_ref52_move j bigL s) an_ref52_move 19 (bodyOf Try.f30) [.tmp 6] ds := runG_eq lok_ref52_move _ ds
theorem C_ref52_move (ds : List D) (r : D) (h : F_ref52_move ds = some r) : Contract Try.prog 30 ds r := contract_of mix Try.func30 rfl (by kernel_rfl) (by kernel_rfl) (callOf_ok cl_ref52_move ⟨C_ref52_Ordered, C_ref52_volume, trivial⟩) h
-- sawmill/sawmillref52.Scanned: loops []; state: params 0..0, then [2]
attribute [simp] Try.f17
noncomputable def an_ref52_Scanned : Ann := ⟨[2], [], [], [], [], some [2]⟩
@[simp] theorem an_ref52_Scanned_exits : an_ref52_Scanned.exits = [] := rfl
@[simp] theorem an_ref52_Scanned_rets : an_ref52_Scanned.rets = some [2] := rfl
@[simp] theorem an_ref52_Scanned_keep : an_ref52_Scanned.keep = [2] := rfl
@[simp] theorem an_ref52_Scanned_cond : an_ref52_Scanned.cond = [] := rfl
@[simp] theorem an_ref52_Scanned_rows : an_ref52_Scanned.rows = [] := rfl
@[simp] theorem an_ref52_Scanned_loops : an_ref52_Scanned.loops = [] := rfl
@[simp] noncomputable def cl_ref52_Scanned : List (Nat × (List D → Option D)) := [(30, F_ref52_move)]
@[simp] noncomputable def c_ref52_Scanned (f : FuncId) (ds : List D) : Option D := callOf cl_ref52_Scanned f ds
noncomputable def F_ref52_Scanned (ds : List D) : Option D := runF Try.prog c_ref52_Scanned an_ref52_Scanned 5 (bodyOf Try.f17) [.tmp 2] ds
noncomputable def L_ref52_Scanned (i n : Nat) (s : St) : Option (E × St) := atN Try.prog c_ref52_Scanned an_ref52_Scanned 5 (bodyOf Try.f17) i n s
noncomputable def R_ref52_Scanned (i : Nat) (s : St) : Option (E × St) := stepL Try.prog c_ref52_Scanned an_ref52_Scanned 5 (bodyOf Try.f17) i s
theorem lok_ref52_Scanned : okLoops (bodyOf Try.f17) = true := by kernel_rfl
theorem F_ref52_Scanned_eq (ds : List D) : F_ref52_Scanned ds = runG Try.prog c_ref52_Scanned (fun j s => L_ref52_Scanned j bigL s) an_ref52_Scanned 5 (bodyOf Try.f17) [.tmp 2] ds := runG_eq lok_ref52_Scanned _ ds
theorem C_ref52_Scanned (ds : List D) (r : D) (h : F_ref52_Scanned ds = some r) : Contract Try.prog 17 ds r := contract_of mix Try.func17 rfl (by kernel_rfl) (by kernel_rfl) (callOf_ok cl_ref52_Scanned ⟨C_ref52_move, trivial⟩) h
-- sawmill/books.Dried: loops []; state: params 0..0, then [2]
attribute [simp] Try.f18
noncomputable def an_books_Dried : Ann := ⟨[0, 2], [6], [], [], [], some [2]⟩
@[simp] theorem an_books_Dried_exits : an_books_Dried.exits = [] := rfl
@[simp] theorem an_books_Dried_rets : an_books_Dried.rets = some [2] := rfl
@[simp] theorem an_books_Dried_keep : an_books_Dried.keep = [0, 2] := rfl
@[simp] theorem an_books_Dried_cond : an_books_Dried.cond = [6] := rfl
@[simp] theorem an_books_Dried_rows : an_books_Dried.rows = [] := rfl
@[simp] theorem an_books_Dried_loops : an_books_Dried.loops = [] := rfl
@[simp] noncomputable def cl_books_Dried : List (Nat × (List D → Option D)) := [(25, F_books_postings_int), (28, F_books_areVolumes_int)]
@[simp] noncomputable def c_books_Dried (f : FuncId) (ds : List D) : Option D := callOf cl_books_Dried f ds
noncomputable def F_books_Dried (ds : List D) : Option D := runF Try.prog c_books_Dried an_books_Dried 12 (bodyOf Try.f18) [.tmp 2] ds
noncomputable def L_books_Dried (i n : Nat) (s : St) : Option (E × St) := atN Try.prog c_books_Dried an_books_Dried 12 (bodyOf Try.f18) i n s
noncomputable def R_books_Dried (i : Nat) (s : St) : Option (E × St) := stepL Try.prog c_books_Dried an_books_Dried 12 (bodyOf Try.f18) i s
theorem lok_books_Dried : okLoops (bodyOf Try.f18) = true := by kernel_rfl
theorem F_books_Dried_eq (ds : List D) : F_books_Dried ds = runG Try.prog c_books_Dried (fun j s => L_books_Dried j bigL s) an_books_Dried 12 (bodyOf Try.f18) [.tmp 2] ds := runG_eq lok_books_Dried _ ds
theorem C_books_Dried (ds : List D) (r : D) (h : F_books_Dried ds = some r) : Contract Try.prog 18 ds r := contract_of mix Try.func18 rfl (by kernel_rfl) (by kernel_rfl) (callOf_ok cl_books_Dried ⟨C_books_postings_int, C_books_areVolumes_int, trivial⟩) h
-- sawmill/sawmillref52.Dried: loops []; state: params 0..0, then [2]
attribute [simp] Try.f19
noncomputable def an_ref52_Dried : Ann := ⟨[2], [], [], [], [], some [2]⟩
@[simp] theorem an_ref52_Dried_exits : an_ref52_Dried.exits = [] := rfl
@[simp] theorem an_ref52_Dried_rets : an_ref52_Dried.rets = some [2] := rfl
@[simp] theorem an_ref52_Dried_keep : an_ref52_Dried.keep = [2] := rfl
@[simp] theorem an_ref52_Dried_cond : an_ref52_Dried.cond = [] := rfl
@[simp] theorem an_ref52_Dried_rows : an_ref52_Dried.rows = [] := rfl
@[simp] theorem an_ref52_Dried_loops : an_ref52_Dried.loops = [] := rfl
@[simp] noncomputable def cl_ref52_Dried : List (Nat × (List D → Option D)) := [(30, F_ref52_move)]
@[simp] noncomputable def c_ref52_Dried (f : FuncId) (ds : List D) : Option D := callOf cl_ref52_Dried f ds
noncomputable def F_ref52_Dried (ds : List D) : Option D := runF Try.prog c_ref52_Dried an_ref52_Dried 5 (bodyOf Try.f19) [.tmp 2] ds
noncomputable def L_ref52_Dried (i n : Nat) (s : St) : Option (E × St) := atN Try.prog c_ref52_Dried an_ref52_Dried 5 (bodyOf Try.f19) i n s
noncomputable def R_ref52_Dried (i : Nat) (s : St) : Option (E × St) := stepL Try.prog c_ref52_Dried an_ref52_Dried 5 (bodyOf Try.f19) i s
theorem lok_ref52_Dried : okLoops (bodyOf Try.f19) = true := by kernel_rfl
theorem F_ref52_Dried_eq (ds : List D) : F_ref52_Dried ds = runG Try.prog c_ref52_Dried (fun j s => L_ref52_Dried j bigL s) an_ref52_Dried 5 (bodyOf Try.f19) [.tmp 2] ds := runG_eq lok_ref52_Dried _ ds
theorem C_ref52_Dried (ds : List D) (r : D) (h : F_ref52_Dried ds = some r) : Contract Try.prog 19 ds r := contract_of mix Try.func19 rfl (by kernel_rfl) (by kernel_rfl) (callOf_ok cl_ref52_Dried ⟨C_ref52_move, trivial⟩) h
-- sawmill/books.Shipped: loops []; state: params 0..0, then [2]
attribute [simp] Try.f20
noncomputable def an_books_Shipped : Ann := ⟨[0, 2], [6], [], [], [], some [2]⟩
@[simp] theorem an_books_Shipped_exits : an_books_Shipped.exits = [] := rfl
@[simp] theorem an_books_Shipped_rets : an_books_Shipped.rets = some [2] := rfl
@[simp] theorem an_books_Shipped_keep : an_books_Shipped.keep = [0, 2] := rfl
@[simp] theorem an_books_Shipped_cond : an_books_Shipped.cond = [6] := rfl
@[simp] theorem an_books_Shipped_rows : an_books_Shipped.rows = [] := rfl
@[simp] theorem an_books_Shipped_loops : an_books_Shipped.loops = [] := rfl
@[simp] noncomputable def cl_books_Shipped : List (Nat × (List D → Option D)) := [(25, F_books_postings_int), (28, F_books_areVolumes_int)]
@[simp] noncomputable def c_books_Shipped (f : FuncId) (ds : List D) : Option D := callOf cl_books_Shipped f ds
noncomputable def F_books_Shipped (ds : List D) : Option D := runF Try.prog c_books_Shipped an_books_Shipped 12 (bodyOf Try.f20) [.tmp 2] ds
noncomputable def L_books_Shipped (i n : Nat) (s : St) : Option (E × St) := atN Try.prog c_books_Shipped an_books_Shipped 12 (bodyOf Try.f20) i n s
noncomputable def R_books_Shipped (i : Nat) (s : St) : Option (E × St) := stepL Try.prog c_books_Shipped an_books_Shipped 12 (bodyOf Try.f20) i s
theorem lok_books_Shipped : okLoops (bodyOf Try.f20) = true := by kernel_rfl
theorem F_books_Shipped_eq (ds : List D) : F_books_Shipped ds = runG Try.prog c_books_Shipped (fun j s => L_books_Shipped j bigL s) an_books_Shipped 12 (bodyOf Try.f20) [.tmp 2] ds := runG_eq lok_books_Shipped _ ds
theorem C_books_Shipped (ds : List D) (r : D) (h : F_books_Shipped ds = some r) : Contract Try.prog 20 ds r := contract_of mix Try.func20 rfl (by kernel_rfl) (by kernel_rfl) (callOf_ok cl_books_Shipped ⟨C_books_postings_int, C_books_areVolumes_int, trivial⟩) h
-- sawmill/sawmillref52.Shipped: loops []; state: params 0..0, then [2]
attribute [simp] Try.f21
noncomputable def an_ref52_Shipped : Ann := ⟨[2], [], [], [], [], some [2]⟩
@[simp] theorem an_ref52_Shipped_exits : an_ref52_Shipped.exits = [] := rfl
@[simp] theorem an_ref52_Shipped_rets : an_ref52_Shipped.rets = some [2] := rfl
@[simp] theorem an_ref52_Shipped_keep : an_ref52_Shipped.keep = [2] := rfl
@[simp] theorem an_ref52_Shipped_cond : an_ref52_Shipped.cond = [] := rfl
@[simp] theorem an_ref52_Shipped_rows : an_ref52_Shipped.rows = [] := rfl
@[simp] theorem an_ref52_Shipped_loops : an_ref52_Shipped.loops = [] := rfl
@[simp] noncomputable def cl_ref52_Shipped : List (Nat × (List D → Option D)) := [(30, F_ref52_move)]
@[simp] noncomputable def c_ref52_Shipped (f : FuncId) (ds : List D) : Option D := callOf cl_ref52_Shipped f ds
noncomputable def F_ref52_Shipped (ds : List D) : Option D := runF Try.prog c_ref52_Shipped an_ref52_Shipped 5 (bodyOf Try.f21) [.tmp 2] ds
noncomputable def L_ref52_Shipped (i n : Nat) (s : St) : Option (E × St) := atN Try.prog c_ref52_Shipped an_ref52_Shipped 5 (bodyOf Try.f21) i n s
noncomputable def R_ref52_Shipped (i : Nat) (s : St) : Option (E × St) := stepL Try.prog c_ref52_Shipped an_ref52_Shipped 5 (bodyOf Try.f21) i s
theorem lok_ref52_Shipped : okLoops (bodyOf Try.f21) = true := by kernel_rfl
theorem F_ref52_Shipped_eq (ds : List D) : F_ref52_Shipped ds = runG Try.prog c_ref52_Shipped (fun j s => L_ref52_Shipped j bigL s) an_ref52_Shipped 5 (bodyOf Try.f21) [.tmp 2] ds := runG_eq lok_ref52_Shipped _ ds
theorem C_ref52_Shipped (ds : List D) (r : D) (h : F_ref52_Shipped ds = some r) : Contract Try.prog 21 ds r := contract_of mix Try.func21 rfl (by kernel_rfl) (by kernel_rfl) (callOf_ok cl_ref52_Shipped ⟨C_ref52_move, trivial⟩) h
-- sawmill/sawmilllaw52.BooksMoves: loops [5]; state: params 0..0, then [2, 3, 4, 5]
attribute [simp] Try.f4
noncomputable def an_law52_BooksMoves : Ann := ⟨[2, 3, 4, 5], [12, 16, 27], [], [(5, [0, 3, 4, 5])], [(0, [0]), (1, [0, 3, 4, 5])], some [2]⟩
@[simp] theorem an_law52_BooksMoves_exits : an_law52_BooksMoves.exits = [(0, [0]), (1, [0, 3, 4, 5])] := rfl
@[simp] theorem an_law52_BooksMoves_rets : an_law52_BooksMoves.rets = some [2] := rfl
@[simp] theorem an_law52_BooksMoves_keep : an_law52_BooksMoves.keep = [2, 3, 4, 5] := rfl
@[simp] theorem an_law52_BooksMoves_cond : an_law52_BooksMoves.cond = [12, 16, 27] := rfl
@[simp] theorem an_law52_BooksMoves_rows : an_law52_BooksMoves.rows = [] := rfl
@[simp] theorem an_law52_BooksMoves_loops : an_law52_BooksMoves.loops = [(5, [0, 3, 4, 5])] := rfl
@[simp] noncomputable def cl_law52_BooksMoves : List (Nat × (List D → Option D)) := [(8, F_ref52_Same), (13, F_law52_awake), (14, F_books_Accounts), (15, F_ref52_Accounts), (16, F_books_Scanned), (17, F_ref52_Scanned), (18, F_books_Dried), (19, F_ref52_Dried), (20, F_books_Shipped), (21, F_ref52_Shipped)]
@[simp] noncomputable def c_law52_BooksMoves (f : FuncId) (ds : List D) : Option D := callOf cl_law52_BooksMoves f ds
noncomputable def F_law52_BooksMoves (ds : List D) : Option D := runF Try.prog c_law52_BooksMoves an_law52_BooksMoves 50 (bodyOf Try.f4) [.tmp 2] ds
noncomputable def L_law52_BooksMoves (i n : Nat) (s : St) : Option (E × St) := atN Try.prog c_law52_BooksMoves an_law52_BooksMoves 50 (bodyOf Try.f4) i n s
noncomputable def R_law52_BooksMoves (i : Nat) (s : St) : Option (E × St) := stepL Try.prog c_law52_BooksMoves an_law52_BooksMoves 50 (bodyOf Try.f4) i s
theorem lok_law52_BooksMoves : okLoops (bodyOf Try.f4) = true := by kernel_rfl
theorem L_law52_BooksMoves_zero (i : Nat) (s : St) : L_law52_BooksMoves i 0 s = none := rfl
theorem L_law52_BooksMoves_succ (i n : Nat) (s : St) : L_law52_BooksMoves i (n + 1) s = match R_law52_BooksMoves i s with
    | some (.norm, s') => L_law52_BooksMoves i n s'
    | r => r := atN_succ lok_law52_BooksMoves i n s
theorem R_law52_BooksMoves_eq (i : Nat) (s : St) : R_law52_BooksMoves i s = runS Try.prog c_law52_BooksMoves (fun j s => L_law52_BooksMoves j bigL s) an_law52_BooksMoves 50 (loopAt (bodyOf Try.f4) i) (headOf (an_law52_BooksMoves.loops.lookup i) s) := rfl
theorem F_law52_BooksMoves_eq (ds : List D) : F_law52_BooksMoves ds = runG Try.prog c_law52_BooksMoves (fun j s => L_law52_BooksMoves j bigL s) an_law52_BooksMoves 50 (bodyOf Try.f4) [.tmp 2] ds := runG_eq lok_law52_BooksMoves _ ds
theorem C_law52_BooksMoves (ds : List D) (r : D) (h : F_law52_BooksMoves ds = some r) : Contract Try.prog 4 ds r := contract_of mix Try.func4 rfl (by kernel_rfl) (by kernel_rfl) (callOf_ok cl_law52_BooksMoves ⟨C_ref52_Same, C_law52_awake, C_books_Accounts, C_ref52_Accounts, C_books_Scanned, C_ref52_Scanned, C_books_Dried, C_ref52_Dried, C_books_Shipped, C_ref52_Shipped, trivial⟩) h
-- sawmill/yield.Add: loops [2, 5]; state: params 0..1, then [2, 3, 4, 5, 7, 9, 12, 13, 24, 25]
attribute [simp] Try.f22
noncomputable def an_yield_Add : Ann := ⟨[2, 3, 4, 5, 7, 9, 12, 13, 24, 25], [14, 26, 33, 43], [], [(2, [2, 3, 4, 12, 13]), (5, [2, 3, 4, 7, 12, 13, 24, 25])], [(0, [2, 3, 4]), (1, [2, 3, 4, 12, 13]), (2, [2, 3, 4, 7, 12, 13]), (3, [2, 3, 4, 7, 12, 13, 24, 25])], some [4, 5]⟩
@[simp] theorem an_yield_Add_exits : an_yield_Add.exits = [(0, [2, 3, 4]), (1, [2, 3, 4, 12, 13]), (2, [2, 3, 4, 7, 12, 13]), (3, [2, 3, 4, 7, 12, 13, 24, 25])] := rfl
@[simp] theorem an_yield_Add_rets : an_yield_Add.rets = some [4, 5] := rfl
@[simp] theorem an_yield_Add_keep : an_yield_Add.keep = [2, 3, 4, 5, 7, 9, 12, 13, 24, 25] := rfl
@[simp] theorem an_yield_Add_cond : an_yield_Add.cond = [14, 26, 33, 43] := rfl
@[simp] theorem an_yield_Add_rows : an_yield_Add.rows = [] := rfl
@[simp] theorem an_yield_Add_loops : an_yield_Add.loops = [(2, [2, 3, 4, 12, 13]), (5, [2, 3, 4, 7, 12, 13, 24, 25])] := rfl
@[simp] noncomputable def cl_yield_Add : List (Nat × (List D → Option D)) := []
@[simp] noncomputable def c_yield_Add (f : FuncId) (ds : List D) : Option D := callOf cl_yield_Add f ds
noncomputable def F_yield_Add (ds : List D) : Option D := runF Try.prog c_yield_Add an_yield_Add 72 (bodyOf Try.f22) [.cell 4 23, .tmp 5] ds
noncomputable def L_yield_Add (i n : Nat) (s : St) : Option (E × St) := atN Try.prog c_yield_Add an_yield_Add 72 (bodyOf Try.f22) i n s
noncomputable def R_yield_Add (i : Nat) (s : St) : Option (E × St) := stepL Try.prog c_yield_Add an_yield_Add 72 (bodyOf Try.f22) i s
theorem lok_yield_Add : okLoops (bodyOf Try.f22) = true := by kernel_rfl
theorem L_yield_Add_zero (i : Nat) (s : St) : L_yield_Add i 0 s = none := rfl
theorem L_yield_Add_succ (i n : Nat) (s : St) : L_yield_Add i (n + 1) s = match R_yield_Add i s with
    | some (.norm, s') => L_yield_Add i n s'
    | r => r := atN_succ lok_yield_Add i n s
theorem R_yield_Add_eq (i : Nat) (s : St) : R_yield_Add i s = runS Try.prog c_yield_Add (fun j s => L_yield_Add j bigL s) an_yield_Add 72 (loopAt (bodyOf Try.f22) i) (headOf (an_yield_Add.loops.lookup i) s) := rfl
theorem F_yield_Add_eq (ds : List D) : F_yield_Add ds = runG Try.prog c_yield_Add (fun j s => L_yield_Add j bigL s) an_yield_Add 72 (bodyOf Try.f22) [.cell 4 23, .tmp 5] ds := runG_eq lok_yield_Add _ ds
theorem C_yield_Add (ds : List D) (r : D) (h : F_yield_Add ds = some r) : Contract Try.prog 22 ds r := contract_of mix Try.func22 rfl (by kernel_rfl) (by kernel_rfl) (callOf_ok cl_yield_Add trivial) h
-- sawmill/sawmilllaw52.BooksSums: loops [11]; state: params 0..1, then [2, 3, 4, 5, 6, 7, 8, 9, 10, 11, 12, 13, 14]
attribute [simp] Try.f5
noncomputable def an_law52_BooksSums : Ann := ⟨[2, 3, 4, 5, 6, 7, 8, 9, 10, 11, 12, 13, 14], [50, 53, 58, 80], [], [(11, [5, 7, 11, 13, 14])], [(0, []), (1, [5, 7, 11, 13, 14])], some [4]⟩
@[simp] theorem an_law52_BooksSums_exits : an_law52_BooksSums.exits = [(0, []), (1, [5, 7, 11, 13, 14])] := rfl
@[simp] theorem an_law52_BooksSums_rets : an_law52_BooksSums.rets = some [4] := rfl
@[simp] theorem an_law52_BooksSums_keep : an_law52_BooksSums.keep = [2, 3, 4, 5, 6, 7, 8, 9, 10, 11, 12, 13, 14] := rfl
@[simp] theorem an_law52_BooksSums_cond : an_law52_BooksSums.cond = [50, 53, 58, 80] := rfl
@[simp] theorem an_law52_BooksSums_rows : an_law52_BooksSums.rows = [] := rfl
@[simp] theorem an_law52_BooksSums_loops : an_law52_BooksSums.loops = [(11, [5, 7, 11, 13, 14])] := rfl
@[simp] noncomputable def cl_law52_BooksSums : List (Nat × (List D → Option D)) := [(6, F_books_Sawn), (13, F_law52_awake), (14, F_books_Accounts), (22, F_yield_Add), (23, F_ref52_Amount)]
@[simp] noncomputable def c_law52_BooksSums (f : FuncId) (ds : List D) : Option D := callOf cl_law52_BooksSums f ds
noncomputable def F_law52_BooksSums (ds : List D) : Option D := runF Try.prog c_law52_BooksSums an_law52_BooksSums 82 (bodyOf Try.f5) [.tmp 4] ds
noncomputable def L_law52_BooksSums (i n : Nat) (s : St) : Option (E × St) := atN Try.prog c_law52_BooksSums an_law52_BooksSums 82 (bodyOf Try.f5) i n s
noncomputable def R_law52_BooksSums (i : Nat) (s : St) : Option (E × St) := stepL Try.prog c_law52_BooksSums an_law52_BooksSums 82 (bodyOf Try.f5) i s
theorem lok_law52_BooksSums : okLoops (bodyOf Try.f5) = true := by kernel_rfl
theorem L_law52_BooksSums_zero (i : Nat) (s : St) : L_law52_BooksSums i 0 s = none := rfl
theorem L_law52_BooksSums_succ (i n : Nat) (s : St) : L_law52_BooksSums i (n + 1) s = match R_law52_BooksSums i s with
    | some (.norm, s') => L_law52_BooksSums i n s'
    | r => r := atN_succ lok_law52_BooksSums i n s
theorem R_law52_BooksSums_eq (i : Nat) (s : St) : R_law52_BooksSums i s = runS Try.prog c_law52_BooksSums (fun j s => L_law52_BooksSums j bigL s) an_law52_BooksSums 82 (loopAt (bodyOf Try.f5) i) (headOf (an_law52_BooksSums.loops.lookup i) s) := rfl
theorem F_law52_BooksSums_eq (ds : List D) : F_law52_BooksSums ds = runG Try.prog c_law52_BooksSums (fun j s => L_law52_BooksSums j bigL s) an_law52_BooksSums 82 (bodyOf Try.f5) [.tmp 4] ds := runG_eq lok_law52_BooksSums _ ds
theorem C_law52_BooksSums (ds : List D) (r : D) (h : F_law52_BooksSums ds = some r) : Contract Try.prog 5 ds r := contract_of mix Try.func5 rfl (by kernel_rfl) (by kernel_rfl) (callOf_ok cl_law52_BooksSums ⟨C_books_Sawn, C_law52_awake, C_books_Accounts, C_yield_Add, C_ref52_Amount, trivial⟩) h
end Go.Proofs.Ytkcjffiflelocaa
