/-
  Printed by gen.py for this seat: facts about the types that the laws reach; for each function its annotation (what is kept behind a region, which rows are a variable's own, what is alive at the head of a loop), its abstract run, and that the run is its contract.
-/
import Derived.Test.YtkdmoefacgbgkaaAbs2
import Derived.Test.YtkdmoefacgbgkaaRows
import Derived.Test.YtkdmoefacgbgkaaLib
namespace Go.Proofs.Ytkdmoefacgbgkaa
open Go Go.Abs
set_option maxRecDepth 100000
set_option linter.unusedSimpArgs false
set_option linter.unusedVariables false
theorem mix : Try.prog.follows .mixedOrders = true := by kernel_rfl
theorem laid : laidOutB Try.prog = true := by kernel_rfl
-- 0 ()
attribute [simp] Try.underlying0
@[simp] theorem sz0 : szT Try.prog 0 = some 1 := by kernel_rfl
@[simp] theorem co0 : Try.prog.cellsOf 0 = 1 := by kernel_rfl
@[simp] theorem ag0 : aggT Try.prog 0 = some false := by kernel_rfl
-- 1 func()
attribute [simp] Try.underlying1
@[simp] theorem sz1 : szT Try.prog 1 = some 1 := by kernel_rfl
@[simp] theorem co1 : Try.prog.cellsOf 1 = 1 := by kernel_rfl
@[simp] theorem ag1 : aggT Try.prog 1 = some false := by kernel_rfl
@[simp] theorem zr1 : zeroD Try.prog 1 = some [.x .nilFunc] := by kernel_rfl
-- 2 int64
attribute [simp] Try.underlying2
@[simp] theorem sz2 : szT Try.prog 2 = some 1 := by kernel_rfl
@[simp] theorem co2 : Try.prog.cellsOf 2 = 1 := by kernel_rfl
@[simp] theorem ag2 : aggT Try.prog 2 = some false := by kernel_rfl
@[simp] theorem zr2 : zeroD Try.prog 2 = some [.x (.int .i64 0)] := by kernel_rfl
-- 3 int
attribute [simp] Try.underlying3
@[simp] theorem sz3 : szT Try.prog 3 = some 1 := by kernel_rfl
@[simp] theorem co3 : Try.prog.cellsOf 3 = 1 := by kernel_rfl
@[simp] theorem ag3 : aggT Try.prog 3 = some false := by kernel_rfl
@[simp] theorem zr3 : zeroD Try.prog 3 = some [.x (.int .i64 0)] := by kernel_rfl
-- 4 bool
attribute [simp] Try.underlying4
@[simp] theorem sz4 : szT Try.prog 4 = some 1 := by kernel_rfl
@[simp] theorem co4 : Try.prog.cellsOf 4 = 1 := by kernel_rfl
@[simp] theorem ag4 : aggT Try.prog 4 = some false := by kernel_rfl
@[simp] theorem zr4 : zeroD Try.prog 4 = some [.x (.bool false)] := by kernel_rfl
-- 9 string
attribute [simp] Try.underlying9
@[simp] theorem sz9 : szT Try.prog 9 = some 1 := by kernel_rfl
@[simp] theorem co9 : Try.prog.cellsOf 9 = 1 := by kernel_rfl
@[simp] theorem ag9 : aggT Try.prog 9 = some false := by kernel_rfl
@[simp] theorem zr9 : zeroD Try.prog 9 = some [.x (.string ByteArray.empty)] := by kernel_rfl
-- 22 []api.Expr
attribute [simp] Try.underlying22
@[simp] theorem sz22 : szT Try.prog 22 = some 1 := by kernel_rfl
@[simp] theorem co22 : Try.prog.cellsOf 22 = 1 := by kernel_rfl
@[simp] theorem ag22 : aggT Try.prog 22 = some false := by kernel_rfl
@[simp] theorem zr22 : zeroD Try.prog 22 = some [.emp] := by kernel_rfl
@[simp] theorem mk22 : mkT Try.prog 22 = some (24, 4, 56, [.x (.int .i64 0), .x (.int .i64 0), .x (.string ByteArray.empty), .emp]) := by kernel_rfl
@[simp] theorem ap22 : appT Try.prog 22 = some (24, 4, 56) := by kernel_rfl
-- 24 api.Expr
attribute [simp] Try.underlying24
@[simp] theorem sz24 : szT Try.prog 24 = some 4 := by kernel_rfl
@[simp] theorem co24 : Try.prog.cellsOf 24 = 4 := by kernel_rfl
@[simp] theorem ag24 : aggT Try.prog 24 = some true := by kernel_rfl
@[simp] theorem zr24 : zeroD Try.prog 24 = some [.x (.int .i64 0), .x (.int .i64 0), .x (.string ByteArray.empty), .emp] := by kernel_rfl
@[simp] theorem bt24 : buildT Try.prog 24 = some ([(0, 1), (1, 1), (2, 1), (3, 1)], [.x (.int .i64 0), .x (.int .i64 0), .x (.string ByteArray.empty), .emp]) := by kernel_rfl
@[simp] theorem st24 : Try.prog.stoodInHeld 24 = false := by kernel_rfl
@[simp] theorem eg24 : Try.prog.eqGuardType Try.prog.depth 24 = false := by kernel_rfl
-- 25 []api.Feature
attribute [simp] Try.underlying25
@[simp] theorem sz25 : szT Try.prog 25 = some 1 := by kernel_rfl
@[simp] theorem co25 : Try.prog.cellsOf 25 = 1 := by kernel_rfl
@[simp] theorem ag25 : aggT Try.prog 25 = some false := by kernel_rfl
@[simp] theorem zr25 : zeroD Try.prog 25 = some [.emp] := by kernel_rfl
@[simp] theorem mk25 : mkT Try.prog 25 = some (46, 2, 24, [.x (.string ByteArray.empty), .x (.int .i64 0)]) := by kernel_rfl
@[simp] theorem ap25 : appT Try.prog 25 = some (46, 2, 24) := by kernel_rfl
-- 29 []string
attribute [simp] Try.underlying29
@[simp] theorem sz29 : szT Try.prog 29 = some 1 := by kernel_rfl
@[simp] theorem co29 : Try.prog.cellsOf 29 = 1 := by kernel_rfl
@[simp] theorem ag29 : aggT Try.prog 29 = some false := by kernel_rfl
@[simp] theorem zr29 : zeroD Try.prog 29 = some [.emp] := by kernel_rfl
@[simp] theorem mk29 : mkT Try.prog 29 = some (9, 1, 16, [.x (.string ByteArray.empty)]) := by kernel_rfl
@[simp] theorem ap29 : appT Try.prog 29 = some (9, 1, 16) := by kernel_rfl
-- 31 api.Errno
attribute [simp] Try.underlying31
@[simp] theorem sz31 : szT Try.prog 31 = some 1 := by kernel_rfl
@[simp] theorem co31 : Try.prog.cellsOf 31 = 1 := by kernel_rfl
@[simp] theorem ag31 : aggT Try.prog 31 = some false := by kernel_rfl
@[simp] theorem zr31 : zeroD Try.prog 31 = some [.x (.int .i64 0)] := by kernel_rfl
-- 36 (int, api.Errno)
attribute [simp] Try.underlying36
@[simp] theorem sz36 : szT Try.prog 36 = some 1 := by kernel_rfl
@[simp] theorem co36 : Try.prog.cellsOf 36 = 1 := by kernel_rfl
@[simp] theorem ag36 : aggT Try.prog 36 = some false := by kernel_rfl
-- 38 []api.Rule
attribute [simp] Try.underlying38
@[simp] theorem sz38 : szT Try.prog 38 = some 1 := by kernel_rfl
@[simp] theorem co38 : Try.prog.cellsOf 38 = 1 := by kernel_rfl
@[simp] theorem ag38 : aggT Try.prog 38 = some false := by kernel_rfl
@[simp] theorem zr38 : zeroD Try.prog 38 = some [.emp] := by kernel_rfl
@[simp] theorem mk38 : mkT Try.prog 38 = some (49, 5, 64, [.x (.int .i64 0), .x (.int .i64 0), .x (.int .i64 0), .x (.string ByteArray.empty), .emp]) := by kernel_rfl
@[simp] theorem ap38 : appT Try.prog 38 = some (49, 5, 64) := by kernel_rfl
-- 40 (int, int, api.Errno)
attribute [simp] Try.underlying40
@[simp] theorem sz40 : szT Try.prog 40 = some 1 := by kernel_rfl
@[simp] theorem co40 : Try.prog.cellsOf 40 = 1 := by kernel_rfl
@[simp] theorem ag40 : aggT Try.prog 40 = some false := by kernel_rfl
-- 46 api.Feature
attribute [simp] Try.underlying46
@[simp] theorem sz46 : szT Try.prog 46 = some 2 := by kernel_rfl
@[simp] theorem co46 : Try.prog.cellsOf 46 = 2 := by kernel_rfl
@[simp] theorem ag46 : aggT Try.prog 46 = some true := by kernel_rfl
@[simp] theorem zr46 : zeroD Try.prog 46 = some [.x (.string ByteArray.empty), .x (.int .i64 0)] := by kernel_rfl
@[simp] theorem bt46 : buildT Try.prog 46 = some ([(0, 1), (1, 1)], [.x (.string ByteArray.empty), .x (.int .i64 0)]) := by kernel_rfl
@[simp] theorem st46 : Try.prog.stoodInHeld 46 = false := by kernel_rfl
@[simp] theorem eg46 : Try.prog.eqGuardType Try.prog.depth 46 = false := by kernel_rfl
-- 49 api.Rule
attribute [simp] Try.underlying49
@[simp] theorem sz49 : szT Try.prog 49 = some 5 := by kernel_rfl
@[simp] theorem co49 : Try.prog.cellsOf 49 = 5 := by kernel_rfl
@[simp] theorem ag49 : aggT Try.prog 49 = some true := by kernel_rfl
@[simp] theorem zr49 : zeroD Try.prog 49 = some [.x (.int .i64 0), .x (.int .i64 0), .x (.int .i64 0), .x (.string ByteArray.empty), .emp] := by kernel_rfl
@[simp] theorem bt49 : buildT Try.prog 49 = some ([(0, 1), (1, 4)], [.x (.int .i64 0), .x (.int .i64 0), .x (.int .i64 0), .x (.string ByteArray.empty), .emp]) := by kernel_rfl
@[simp] theorem st49 : Try.prog.stoodInHeld 49 = false := by kernel_rfl
@[simp] theorem eg49 : Try.prog.eqGuardType Try.prog.depth 49 = false := by kernel_rfl
-- 69 (int, bool)
attribute [simp] Try.underlying69
@[simp] theorem sz69 : szT Try.prog 69 = some 1 := by kernel_rfl
@[simp] theorem co69 : Try.prog.cellsOf 69 = 1 := by kernel_rfl
@[simp] theorem ag69 : aggT Try.prog 69 = some false := by kernel_rfl
-- sawmill/sawmilllaw43.count: loops [5]; state: params 0..2, then [3, 6, 7, 8]; RECURSIVE
attribute [simp] Try.f27
noncomputable def an_law43_count : Ann := ⟨[1, 2, 3, 6, 7, 8], [14, 26, 45], [], [(5, [1, 2, 3, 7, 8])], [(0, [2, 3, 7]), (1, [1, 2, 3, 7, 8])], some [6], [], [], [], []⟩
@[simp] theorem an_law43_count_draws : an_law43_count.draws = [] := rfl
@[simp] theorem an_law43_count_exits : an_law43_count.exits = [(0, [2, 3, 7]), (1, [1, 2, 3, 7, 8])] := rfl
@[simp] theorem an_law43_count_rets : an_law43_count.rets = some [6] := rfl
@[simp] theorem an_law43_count_keep : an_law43_count.keep = [1, 2, 3, 6, 7, 8] := rfl
@[simp] theorem an_law43_count_cond : an_law43_count.cond = [14, 26, 45] := rfl
@[simp] theorem an_law43_count_rows : an_law43_count.rows = [] := rfl
@[simp] theorem an_law43_count_loops : an_law43_count.loops = [(5, [1, 2, 3, 7, 8])] := rfl
@[simp] theorem an_law43_count_ecalls : an_law43_count.ecalls = [] := rfl
@[simp] theorem an_law43_count_crows : an_law43_count.crows = [] := rfl
@[simp] theorem an_law43_count_tails : an_law43_count.tails = [] := rfl
@[simp] noncomputable def cl_law43_count (self : List D → Option D) : List (Nat × (List D → Option D)) := [(27, self)]
@[simp] noncomputable def ce_law43_count : List (Nat × (List (Nat × O) → List D → Option (D × List (Nat × O)))) := []
noncomputable def c_law43_count (self : List D → Option D) : CT := ⟨callOf (cl_law43_count self ), callOfE ce_law43_count, gl⟩
@[simp] theorem c_law43_count_p (self : List D → Option D) (f : FuncId) (ds : List D) : (c_law43_count self).p f ds = callOf (cl_law43_count self ) f ds := Eq.trans rfl rfl
@[simp] theorem c_law43_count_e (self : List D → Option D) (f : FuncId) (hs : List (Nat × O)) (ds : List D) : (c_law43_count self).e f hs ds = callOfE ce_law43_count f hs ds := Eq.trans rfl rfl
@[simp] theorem c_law43_count_g (self : List D → Option D) (g : Nat) : (c_law43_count self).g g = gl g := Eq.trans rfl rfl
noncomputable def L_law43_count (self : List D → Option D) (i n : Nat) (s : St) : Option (E × St) := atN Try.prog (c_law43_count self) an_law43_count 49 (bodyOf Try.f27) i n s
noncomputable def H_law43_count (self : List D → Option D) (n i : Nat) (s : St) : Option (E × St) := atH Try.prog (c_law43_count self) an_law43_count 49 (bodyOf Try.f27) n i s
@[simp] theorem H_law43_count_eq (self : List D → Option D) (n i : Nat) (s : St) : H_law43_count self n i s = L_law43_count self i n (headOf (an_law43_count.loops.lookup i) s) := rfl
noncomputable def R_law43_count (self : List D → Option D) (i : Nat) (s : St) : Option (E × St) := stepL Try.prog (c_law43_count self) an_law43_count 49 (bodyOf Try.f27) i s
theorem lok_law43_count : okLoops (bodyOf Try.f27) = true := by kernel_rfl
theorem L_law43_count_zero (self : List D → Option D) (i : Nat) (s : St) : L_law43_count self i 0 s = none := rfl
theorem L_law43_count_succ (self : List D → Option D) (i n : Nat) (s : St) : L_law43_count self i (n + 1) s = andThen (R_law43_count self i s) (H_law43_count self n i) := atN_succ lok_law43_count i n s
theorem R_law43_count_eq (self : List D → Option D) (i : Nat) (s : St) : R_law43_count self i s = runS Try.prog (c_law43_count self) (H_law43_count self bigL) an_law43_count 49 (loopAt (bodyOf Try.f27) i) s := rfl
noncomputable def FN_law43_count : Nat → List D → Option D
  | 0 => fun _ => none
  | n + 1 => fun ds => runF Try.prog (c_law43_count (FN_law43_count n)) an_law43_count 49 (bodyOf Try.f27) [.tmp 6] ds
theorem FN_law43_count_eq (n : Nat) (ds : List D) : FN_law43_count (n + 1) ds = runG Try.prog (c_law43_count (FN_law43_count n)) (H_law43_count (FN_law43_count n) bigL) an_law43_count 49 (bodyOf Try.f27) [.tmp 6] ds := runG_eq lok_law43_count _ ds
theorem CN_law43_count : ∀ (n : Nat) (ds : List D) (r : D), FN_law43_count n ds = some r → Contract Try.prog gl 27 ds r
  | 0, _, _, h => by cases h
  | n + 1, ds, r, h => by
    have ih := CN_law43_count n
    exact contract_of mix Try.func27 rfl (by kernel_rfl) (by kernel_rfl) (by decide) (call := c_law43_count (FN_law43_count n)) ⟨callOf_ok (cl_law43_count (FN_law43_count n)) ⟨ih, trivial⟩, callOfE_ok ce_law43_count trivial⟩ h
noncomputable def F_law43_count (ds : List D) : Option D := FN_law43_count 1000 ds
theorem C_law43_count (ds : List D) (r : D) (h : F_law43_count ds = some r) : Contract Try.prog gl 27 ds r := CN_law43_count 1000 ds r h
-- sawmill/sawmilllaw43.small: loops []; state: params 0..0, then [1, 2]
attribute [simp] Try.f10
noncomputable def an_law43_small : Ann := ⟨[1, 2], [], [], [], [], some [2], [], [], [], []⟩
@[simp] theorem an_law43_small_draws : an_law43_small.draws = [] := rfl
@[simp] theorem an_law43_small_exits : an_law43_small.exits = [] := rfl
@[simp] theorem an_law43_small_rets : an_law43_small.rets = some [2] := rfl
@[simp] theorem an_law43_small_keep : an_law43_small.keep = [1, 2] := rfl
@[simp] theorem an_law43_small_cond : an_law43_small.cond = [] := rfl
@[simp] theorem an_law43_small_rows : an_law43_small.rows = [] := rfl
@[simp] theorem an_law43_small_loops : an_law43_small.loops = [] := rfl
@[simp] theorem an_law43_small_ecalls : an_law43_small.ecalls = [] := rfl
@[simp] theorem an_law43_small_crows : an_law43_small.crows = [] := rfl
@[simp] theorem an_law43_small_tails : an_law43_small.tails = [] := rfl
@[simp] noncomputable def cl_law43_small : List (Nat × (List D → Option D)) := [(27, F_law43_count)]
@[simp] noncomputable def ce_law43_small : List (Nat × (List (Nat × O) → List D → Option (D × List (Nat × O)))) := []
noncomputable def c_law43_small : CT := ⟨callOf (cl_law43_small ), callOfE ce_law43_small, gl⟩
@[simp] theorem c_law43_small_p (f : FuncId) (ds : List D) : c_law43_small.p f ds = callOf (cl_law43_small ) f ds := Eq.trans rfl rfl
@[simp] theorem c_law43_small_e (f : FuncId) (hs : List (Nat × O)) (ds : List D) : c_law43_small.e f hs ds = callOfE ce_law43_small f hs ds := Eq.trans rfl rfl
@[simp] theorem c_law43_small_g (g : Nat) : c_law43_small.g g = gl g := Eq.trans rfl rfl
noncomputable def L_law43_small (i n : Nat) (s : St) : Option (E × St) := atN Try.prog c_law43_small an_law43_small 6 (bodyOf Try.f10) i n s
noncomputable def H_law43_small (n i : Nat) (s : St) : Option (E × St) := atH Try.prog c_law43_small an_law43_small 6 (bodyOf Try.f10) n i s
@[simp] theorem H_law43_small_eq (n i : Nat) (s : St) : H_law43_small n i s = L_law43_small i n (headOf (an_law43_small.loops.lookup i) s) := rfl
noncomputable def R_law43_small (i : Nat) (s : St) : Option (E × St) := stepL Try.prog c_law43_small an_law43_small 6 (bodyOf Try.f10) i s
theorem lok_law43_small : okLoops (bodyOf Try.f10) = true := by kernel_rfl
noncomputable def F_law43_small (ds : List D) : Option D := runF Try.prog c_law43_small an_law43_small 6 (bodyOf Try.f10) [.tmp 2] ds
theorem F_law43_small_eq (ds : List D) : F_law43_small ds = runG Try.prog c_law43_small (H_law43_small bigL) an_law43_small 6 (bodyOf Try.f10) [.tmp 2] ds := runG_eq lok_law43_small _ ds
theorem C_law43_small (ds : List D) (r : D) (h : F_law43_small ds = some r) : Contract Try.prog gl 10 ds r := contract_of mix Try.func10 rfl (by kernel_rfl) (by kernel_rfl) (by decide) (call := c_law43_small) ⟨callOf_ok cl_law43_small ⟨C_law43_count, trivial⟩, callOfE_ok ce_law43_small trivial⟩ h
-- sawmill/sawmilllaw43.short: loops [4]; state: params 0..0, then [2, 3]
attribute [simp] Try.f11
noncomputable def an_law43_short : Ann := ⟨[0, 2, 3], [6, 10, 19], [], [(4, [0, 3])], [(0, []), (1, [0, 3])], some [2], [], [], [], []⟩
@[simp] theorem an_law43_short_draws : an_law43_short.draws = [] := rfl
@[simp] theorem an_law43_short_exits : an_law43_short.exits = [(0, []), (1, [0, 3])] := rfl
@[simp] theorem an_law43_short_rets : an_law43_short.rets = some [2] := rfl
@[simp] theorem an_law43_short_keep : an_law43_short.keep = [0, 2, 3] := rfl
@[simp] theorem an_law43_short_cond : an_law43_short.cond = [6, 10, 19] := rfl
@[simp] theorem an_law43_short_rows : an_law43_short.rows = [] := rfl
@[simp] theorem an_law43_short_loops : an_law43_short.loops = [(4, [0, 3])] := rfl
@[simp] theorem an_law43_short_ecalls : an_law43_short.ecalls = [] := rfl
@[simp] theorem an_law43_short_crows : an_law43_short.crows = [] := rfl
@[simp] theorem an_law43_short_tails : an_law43_short.tails = [] := rfl
@[simp] noncomputable def cl_law43_short : List (Nat × (List D → Option D)) := []
@[simp] noncomputable def ce_law43_short : List (Nat × (List (Nat × O) → List D → Option (D × List (Nat × O)))) := []
noncomputable def c_law43_short : CT := ⟨callOf (cl_law43_short ), callOfE ce_law43_short, gl⟩
@[simp] theorem c_law43_short_p (f : FuncId) (ds : List D) : c_law43_short.p f ds = callOf (cl_law43_short ) f ds := Eq.trans rfl rfl
@[simp] theorem c_law43_short_e (f : FuncId) (hs : List (Nat × O)) (ds : List D) : c_law43_short.e f hs ds = callOfE ce_law43_short f hs ds := Eq.trans rfl rfl
@[simp] theorem c_law43_short_g (g : Nat) : c_law43_short.g g = gl g := Eq.trans rfl rfl
noncomputable def L_law43_short (i n : Nat) (s : St) : Option (E × St) := atN Try.prog c_law43_short an_law43_short 20 (bodyOf Try.f11) i n s
noncomputable def H_law43_short (n i : Nat) (s : St) : Option (E × St) := atH Try.prog c_law43_short an_law43_short 20 (bodyOf Try.f11) n i s
@[simp] theorem H_law43_short_eq (n i : Nat) (s : St) : H_law43_short n i s = L_law43_short i n (headOf (an_law43_short.loops.lookup i) s) := rfl
noncomputable def R_law43_short (i : Nat) (s : St) : Option (E × St) := stepL Try.prog c_law43_short an_law43_short 20 (bodyOf Try.f11) i s
theorem lok_law43_short : okLoops (bodyOf Try.f11) = true := by kernel_rfl
theorem L_law43_short_zero (i : Nat) (s : St) : L_law43_short i 0 s = none := rfl
theorem L_law43_short_succ (i n : Nat) (s : St) : L_law43_short i (n + 1) s = andThen (R_law43_short i s) (H_law43_short n i) := atN_succ lok_law43_short i n s
theorem R_law43_short_eq (i : Nat) (s : St) : R_law43_short i s = runS Try.prog c_law43_short (H_law43_short bigL) an_law43_short 20 (loopAt (bodyOf Try.f11) i) s := rfl
noncomputable def F_law43_short (ds : List D) : Option D := runF Try.prog c_law43_short an_law43_short 20 (bodyOf Try.f11) [.tmp 2] ds
theorem F_law43_short_eq (ds : List D) : F_law43_short ds = runG Try.prog c_law43_short (H_law43_short bigL) an_law43_short 20 (bodyOf Try.f11) [.tmp 2] ds := runG_eq lok_law43_short _ ds
theorem C_law43_short (ds : List D) (r : D) (h : F_law43_short ds = some r) : Contract Try.prog gl 11 ds r := contract_of mix Try.func11 rfl (by kernel_rfl) (by kernel_rfl) (by decide) (call := c_law43_short) ⟨callOf_ok cl_law43_short trivial, callOfE_ok ce_law43_short trivial⟩ h
-- sawmill/sawmilllaw43.name: loops []; state: params 0..0, then [2]
attribute [simp] Try.f30
noncomputable def an_law43_name : Ann := ⟨[2], [], [], [], [], some [2], [], [], [], []⟩
@[simp] theorem an_law43_name_draws : an_law43_name.draws = [] := rfl
@[simp] theorem an_law43_name_exits : an_law43_name.exits = [] := rfl
@[simp] theorem an_law43_name_rets : an_law43_name.rets = some [2] := rfl
@[simp] theorem an_law43_name_keep : an_law43_name.keep = [2] := rfl
@[simp] theorem an_law43_name_cond : an_law43_name.cond = [] := rfl
@[simp] theorem an_law43_name_rows : an_law43_name.rows = [] := rfl
@[simp] theorem an_law43_name_loops : an_law43_name.loops = [] := rfl
@[simp] theorem an_law43_name_ecalls : an_law43_name.ecalls = [] := rfl
@[simp] theorem an_law43_name_crows : an_law43_name.crows = [] := rfl
@[simp] theorem an_law43_name_tails : an_law43_name.tails = [] := rfl
@[simp] noncomputable def cl_law43_name : List (Nat × (List D → Option D)) := []
@[simp] noncomputable def ce_law43_name : List (Nat × (List (Nat × O) → List D → Option (D × List (Nat × O)))) := []
noncomputable def c_law43_name : CT := ⟨callOf (cl_law43_name ), callOfE ce_law43_name, gl⟩
@[simp] theorem c_law43_name_p (f : FuncId) (ds : List D) : c_law43_name.p f ds = callOf (cl_law43_name ) f ds := Eq.trans rfl rfl
@[simp] theorem c_law43_name_e (f : FuncId) (hs : List (Nat × O)) (ds : List D) : c_law43_name.e f hs ds = callOfE ce_law43_name f hs ds := Eq.trans rfl rfl
@[simp] theorem c_law43_name_g (g : Nat) : c_law43_name.g g = gl g := Eq.trans rfl rfl
noncomputable def L_law43_name (i n : Nat) (s : St) : Option (E × St) := atN Try.prog c_law43_name an_law43_name 5 (bodyOf Try.f30) i n s
noncomputable def H_law43_name (n i : Nat) (s : St) : Option (E × St) := atH Try.prog c_law43_name an_law43_name 5 (bodyOf Try.f30) n i s
@[simp] theorem H_law43_name_eq (n i : Nat) (s : St) : H_law43_name n i s = L_law43_name i n (headOf (an_law43_name.loops.lookup i) s) := rfl
noncomputable def R_law43_name (i : Nat) (s : St) : Option (E × St) := stepL Try.prog c_law43_name an_law43_name 5 (bodyOf Try.f30) i s
theorem lok_law43_name : okLoops (bodyOf Try.f30) = true := by kernel_rfl
noncomputable def F_law43_name (ds : List D) : Option D := runF Try.prog c_law43_name an_law43_name 5 (bodyOf Try.f30) [.cell 2 24] ds
theorem F_law43_name_eq (ds : List D) : F_law43_name ds = runG Try.prog c_law43_name (H_law43_name bigL) an_law43_name 5 (bodyOf Try.f30) [.cell 2 24] ds := runG_eq lok_law43_name _ ds
theorem C_law43_name (ds : List D) (r : D) (h : F_law43_name ds = some r) : Contract Try.prog gl 30 ds r := contract_of mix Try.func30 rfl (by kernel_rfl) (by kernel_rfl) (by decide) (call := c_law43_name) ⟨callOf_ok cl_law43_name trivial, callOfE_ok ce_law43_name trivial⟩ h
-- sawmill/sawmilllaw43.num: loops []; state: params 0..0, then [2]
attribute [simp] Try.f31
noncomputable def an_law43_num : Ann := ⟨[2], [], [], [], [], some [2], [], [], [], []⟩
@[simp] theorem an_law43_num_draws : an_law43_num.draws = [] := rfl
@[simp] theorem an_law43_num_exits : an_law43_num.exits = [] := rfl
@[simp] theorem an_law43_num_rets : an_law43_num.rets = some [2] := rfl
@[simp] theorem an_law43_num_keep : an_law43_num.keep = [2] := rfl
@[simp] theorem an_law43_num_cond : an_law43_num.cond = [] := rfl
@[simp] theorem an_law43_num_rows : an_law43_num.rows = [] := rfl
@[simp] theorem an_law43_num_loops : an_law43_num.loops = [] := rfl
@[simp] theorem an_law43_num_ecalls : an_law43_num.ecalls = [] := rfl
@[simp] theorem an_law43_num_crows : an_law43_num.crows = [] := rfl
@[simp] theorem an_law43_num_tails : an_law43_num.tails = [] := rfl
@[simp] noncomputable def cl_law43_num : List (Nat × (List D → Option D)) := []
@[simp] noncomputable def ce_law43_num : List (Nat × (List (Nat × O) → List D → Option (D × List (Nat × O)))) := []
noncomputable def c_law43_num : CT := ⟨callOf (cl_law43_num ), callOfE ce_law43_num, gl⟩
@[simp] theorem c_law43_num_p (f : FuncId) (ds : List D) : c_law43_num.p f ds = callOf (cl_law43_num ) f ds := Eq.trans rfl rfl
@[simp] theorem c_law43_num_e (f : FuncId) (hs : List (Nat × O)) (ds : List D) : c_law43_num.e f hs ds = callOfE ce_law43_num f hs ds := Eq.trans rfl rfl
@[simp] theorem c_law43_num_g (g : Nat) : c_law43_num.g g = gl g := Eq.trans rfl rfl
noncomputable def L_law43_num (i n : Nat) (s : St) : Option (E × St) := atN Try.prog c_law43_num an_law43_num 5 (bodyOf Try.f31) i n s
noncomputable def H_law43_num (n i : Nat) (s : St) : Option (E × St) := atH Try.prog c_law43_num an_law43_num 5 (bodyOf Try.f31) n i s
@[simp] theorem H_law43_num_eq (n i : Nat) (s : St) : H_law43_num n i s = L_law43_num i n (headOf (an_law43_num.loops.lookup i) s) := rfl
noncomputable def R_law43_num (i : Nat) (s : St) : Option (E × St) := stepL Try.prog c_law43_num an_law43_num 5 (bodyOf Try.f31) i s
theorem lok_law43_num : okLoops (bodyOf Try.f31) = true := by kernel_rfl
noncomputable def F_law43_num (ds : List D) : Option D := runF Try.prog c_law43_num an_law43_num 5 (bodyOf Try.f31) [.cell 2 24] ds
theorem F_law43_num_eq (ds : List D) : F_law43_num ds = runG Try.prog c_law43_num (H_law43_num bigL) an_law43_num 5 (bodyOf Try.f31) [.cell 2 24] ds := runG_eq lok_law43_num _ ds
theorem C_law43_num (ds : List D) (r : D) (h : F_law43_num ds = some r) : Contract Try.prog gl 31 ds r := contract_of mix Try.func31 rfl (by kernel_rfl) (by kernel_rfl) (by decide) (call := c_law43_num) ⟨callOf_ok cl_law43_num trivial, callOfE_ok ce_law43_num trivial⟩ h
-- sawmill/sawmilllaw43.two: loops []; state: params 0..2, then [4, 5, 6]
attribute [simp] Try.f29
noncomputable def an_law43_two : Ann := ⟨[4, 5, 6], [], [], [], [], some [6], [], [], [], []⟩
@[simp] theorem an_law43_two_draws : an_law43_two.draws = [] := rfl
@[simp] theorem an_law43_two_exits : an_law43_two.exits = [] := rfl
@[simp] theorem an_law43_two_rets : an_law43_two.rets = some [6] := rfl
@[simp] theorem an_law43_two_keep : an_law43_two.keep = [4, 5, 6] := rfl
@[simp] theorem an_law43_two_cond : an_law43_two.cond = [] := rfl
@[simp] theorem an_law43_two_rows : an_law43_two.rows = [] := rfl
@[simp] theorem an_law43_two_loops : an_law43_two.loops = [] := rfl
@[simp] theorem an_law43_two_ecalls : an_law43_two.ecalls = [] := rfl
@[simp] theorem an_law43_two_crows : an_law43_two.crows = [] := rfl
@[simp] theorem an_law43_two_tails : an_law43_two.tails = [] := rfl
@[simp] noncomputable def cl_law43_two : List (Nat × (List D → Option D)) := []
@[simp] noncomputable def ce_law43_two : List (Nat × (List (Nat × O) → List D → Option (D × List (Nat × O)))) := []
noncomputable def c_law43_two : CT := ⟨callOf (cl_law43_two ), callOfE ce_law43_two, gl⟩
@[simp] theorem c_law43_two_p (f : FuncId) (ds : List D) : c_law43_two.p f ds = callOf (cl_law43_two ) f ds := Eq.trans rfl rfl
@[simp] theorem c_law43_two_e (f : FuncId) (hs : List (Nat × O)) (ds : List D) : c_law43_two.e f hs ds = callOfE ce_law43_two f hs ds := Eq.trans rfl rfl
@[simp] theorem c_law43_two_g (g : Nat) : c_law43_two.g g = gl g := Eq.trans rfl rfl
noncomputable def L_law43_two (i n : Nat) (s : St) : Option (E × St) := atN Try.prog c_law43_two an_law43_two 12 (bodyOf Try.f29) i n s
noncomputable def H_law43_two (n i : Nat) (s : St) : Option (E × St) := atH Try.prog c_law43_two an_law43_two 12 (bodyOf Try.f29) n i s
@[simp] theorem H_law43_two_eq (n i : Nat) (s : St) : H_law43_two n i s = L_law43_two i n (headOf (an_law43_two.loops.lookup i) s) := rfl
noncomputable def R_law43_two (i : Nat) (s : St) : Option (E × St) := stepL Try.prog c_law43_two an_law43_two 12 (bodyOf Try.f29) i s
theorem lok_law43_two : okLoops (bodyOf Try.f29) = true := by kernel_rfl
noncomputable def F_law43_two (ds : List D) : Option D := runF Try.prog c_law43_two an_law43_two 12 (bodyOf Try.f29) [.cell 6 24] ds
theorem F_law43_two_eq (ds : List D) : F_law43_two ds = runG Try.prog c_law43_two (H_law43_two bigL) an_law43_two 12 (bodyOf Try.f29) [.cell 6 24] ds := runG_eq lok_law43_two _ ds
theorem C_law43_two (ds : List D) (r : D) (h : F_law43_two ds = some r) : Contract Try.prog gl 29 ds r := contract_of mix Try.func29 rfl (by kernel_rfl) (by kernel_rfl) (by decide) (call := c_law43_two) ⟨callOf_ok cl_law43_two trivial, callOfE_ok ce_law43_two trivial⟩ h
-- sawmill/rule.names: loops [3]; state: params 0..0, then [2, 3, 5, 6, 7, 8]
attribute [simp] Try.f40
noncomputable def an_rule_names : Ann := ⟨[2, 3, 5, 6, 7, 8], [9], [3], [(3, [3, 6, 7, 8])], [(0, [3]), (1, [3, 6, 7, 8])], some [2], [], [], [], []⟩
@[simp] theorem an_rule_names_draws : an_rule_names.draws = [] := rfl
@[simp] theorem an_rule_names_exits : an_rule_names.exits = [(0, [3]), (1, [3, 6, 7, 8])] := rfl
@[simp] theorem an_rule_names_rets : an_rule_names.rets = some [2] := rfl
@[simp] theorem an_rule_names_keep : an_rule_names.keep = [2, 3, 5, 6, 7, 8] := rfl
@[simp] theorem an_rule_names_cond : an_rule_names.cond = [9] := rfl
@[simp] theorem an_rule_names_rows : an_rule_names.rows = [3] := rfl
@[simp] theorem an_rule_names_loops : an_rule_names.loops = [(3, [3, 6, 7, 8])] := rfl
@[simp] theorem an_rule_names_ecalls : an_rule_names.ecalls = [] := rfl
@[simp] theorem an_rule_names_crows : an_rule_names.crows = [] := rfl
@[simp] theorem an_rule_names_tails : an_rule_names.tails = [] := rfl
@[simp] noncomputable def cl_rule_names : List (Nat × (List D → Option D)) := []
@[simp] noncomputable def ce_rule_names : List (Nat × (List (Nat × O) → List D → Option (D × List (Nat × O)))) := []
noncomputable def c_rule_names : CT := ⟨callOf (cl_rule_names ), callOfE ce_rule_names, gl⟩
@[simp] theorem c_rule_names_p (f : FuncId) (ds : List D) : c_rule_names.p f ds = callOf (cl_rule_names ) f ds := Eq.trans rfl rfl
@[simp] theorem c_rule_names_e (f : FuncId) (hs : List (Nat × O)) (ds : List D) : c_rule_names.e f hs ds = callOfE ce_rule_names f hs ds := Eq.trans rfl rfl
@[simp] theorem c_rule_names_g (g : Nat) : c_rule_names.g g = gl g := Eq.trans rfl rfl
noncomputable def L_rule_names (i n : Nat) (s : St) : Option (E × St) := atN Try.prog c_rule_names an_rule_names 19 (bodyOf Try.f40) i n s
noncomputable def H_rule_names (n i : Nat) (s : St) : Option (E × St) := atH Try.prog c_rule_names an_rule_names 19 (bodyOf Try.f40) n i s
@[simp] theorem H_rule_names_eq (n i : Nat) (s : St) : H_rule_names n i s = L_rule_names i n (headOf (an_rule_names.loops.lookup i) s) := rfl
noncomputable def R_rule_names (i : Nat) (s : St) : Option (E × St) := stepL Try.prog c_rule_names an_rule_names 19 (bodyOf Try.f40) i s
theorem lok_rule_names : okLoops (bodyOf Try.f40) = true := by kernel_rfl
theorem L_rule_names_zero (i : Nat) (s : St) : L_rule_names i 0 s = none := rfl
theorem L_rule_names_succ (i n : Nat) (s : St) : L_rule_names i (n + 1) s = andThen (R_rule_names i s) (H_rule_names n i) := atN_succ lok_rule_names i n s
theorem R_rule_names_eq (i : Nat) (s : St) : R_rule_names i s = runS Try.prog c_rule_names (H_rule_names bigL) an_rule_names 19 (loopAt (bodyOf Try.f40) i) s := rfl
noncomputable def F_rule_names (ds : List D) : Option D := runF Try.prog c_rule_names an_rule_names 19 (bodyOf Try.f40) [.tmp 2] ds
theorem F_rule_names_eq (ds : List D) : F_rule_names ds = runG Try.prog c_rule_names (H_rule_names bigL) an_rule_names 19 (bodyOf Try.f40) [.tmp 2] ds := runG_eq lok_rule_names _ ds
theorem C_rule_names (ds : List D) (r : D) (h : F_rule_names ds = some r) : Contract Try.prog gl 40 ds r := contract_of mix Try.func40 rfl (by kernel_rfl) (by kernel_rfl) (by decide) (call := c_rule_names) ⟨callOf_ok cl_rule_names trivial, callOfE_ok ce_rule_names trivial⟩ h
-- sawmill/rule.takes: loops []; state: params 0..0, then [2, 3, 4]
attribute [simp] Try.f43
noncomputable def an_rule_takes : Ann := ⟨[2, 3, 4], [7], [], [], [(0, [])], some [2], [], [], [], []⟩
@[simp] theorem an_rule_takes_draws : an_rule_takes.draws = [] := rfl
@[simp] theorem an_rule_takes_exits : an_rule_takes.exits = [(0, [])] := rfl
@[simp] theorem an_rule_takes_rets : an_rule_takes.rets = some [2] := rfl
@[simp] theorem an_rule_takes_keep : an_rule_takes.keep = [2, 3, 4] := rfl
@[simp] theorem an_rule_takes_cond : an_rule_takes.cond = [7] := rfl
@[simp] theorem an_rule_takes_rows : an_rule_takes.rows = [] := rfl
@[simp] theorem an_rule_takes_loops : an_rule_takes.loops = [] := rfl
@[simp] theorem an_rule_takes_ecalls : an_rule_takes.ecalls = [] := rfl
@[simp] theorem an_rule_takes_crows : an_rule_takes.crows = [] := rfl
@[simp] theorem an_rule_takes_tails : an_rule_takes.tails = [] := rfl
@[simp] noncomputable def cl_rule_takes : List (Nat × (List D → Option D)) := []
@[simp] noncomputable def ce_rule_takes : List (Nat × (List (Nat × O) → List D → Option (D × List (Nat × O)))) := []
noncomputable def c_rule_takes : CT := ⟨callOf (cl_rule_takes ), callOfE ce_rule_takes, gl⟩
@[simp] theorem c_rule_takes_p (f : FuncId) (ds : List D) : c_rule_takes.p f ds = callOf (cl_rule_takes ) f ds := Eq.trans rfl rfl
@[simp] theorem c_rule_takes_e (f : FuncId) (hs : List (Nat × O)) (ds : List D) : c_rule_takes.e f hs ds = callOfE ce_rule_takes f hs ds := Eq.trans rfl rfl
@[simp] theorem c_rule_takes_g (g : Nat) : c_rule_takes.g g = gl g := Eq.trans rfl rfl
noncomputable def L_rule_takes (i n : Nat) (s : St) : Option (E × St) := atN Try.prog c_rule_takes an_rule_takes 9 (bodyOf Try.f43) i n s
noncomputable def H_rule_takes (n i : Nat) (s : St) : Option (E × St) := atH Try.prog c_rule_takes an_rule_takes 9 (bodyOf Try.f43) n i s
@[simp] theorem H_rule_takes_eq (n i : Nat) (s : St) : H_rule_takes n i s = L_rule_takes i n (headOf (an_rule_takes.loops.lookup i) s) := rfl
noncomputable def R_rule_takes (i : Nat) (s : St) : Option (E × St) := stepL Try.prog c_rule_takes an_rule_takes 9 (bodyOf Try.f43) i s
theorem lok_rule_takes : okLoops (bodyOf Try.f43) = true := by kernel_rfl
noncomputable def F_rule_takes (ds : List D) : Option D := runF Try.prog c_rule_takes an_rule_takes 9 (bodyOf Try.f43) [.tmp 2] ds
theorem F_rule_takes_eq (ds : List D) : F_rule_takes ds = runG Try.prog c_rule_takes (H_rule_takes bigL) an_rule_takes 9 (bodyOf Try.f43) [.tmp 2] ds := runG_eq lok_rule_takes _ ds
theorem C_rule_takes (ds : List D) (r : D) (h : F_rule_takes ds = some r) : Contract Try.prog gl 43 ds r := contract_of mix Try.func43 rfl (by kernel_rfl) (by kernel_rfl) (by decide) (call := c_rule_takes) ⟨callOf_ok cl_rule_takes trivial, callOfE_ok ce_rule_takes trivial⟩ h
-- slices.Index[[]string,string]: loops [2]; state: params 0..1, then [4, 5, 7, 8]
attribute [simp] Try.f61
noncomputable def an_slices_Index_string_string : Ann := ⟨[0, 4, 5, 7, 8], [9, 16], [], [(2, [0, 1, 7, 8])], [(0, []), (1, [0, 1, 7, 8])], some [4], [], [], [], []⟩
@[simp] theorem an_slices_Index_string_string_draws : an_slices_Index_string_string.draws = [] := rfl
@[simp] theorem an_slices_Index_string_string_exits : an_slices_Index_string_string.exits = [(0, []), (1, [0, 1, 7, 8])] := rfl
@[simp] theorem an_slices_Index_string_string_rets : an_slices_Index_string_string.rets = some [4] := rfl
@[simp] theorem an_slices_Index_string_string_keep : an_slices_Index_string_string.keep = [0, 4, 5, 7, 8] := rfl
@[simp] theorem an_slices_Index_string_string_cond : an_slices_Index_string_string.cond = [9, 16] := rfl
@[simp] theorem an_slices_Index_string_string_rows : an_slices_Index_string_string.rows = [] := rfl
@[simp] theorem an_slices_Index_string_string_loops : an_slices_Index_string_string.loops = [(2, [0, 1, 7, 8])] := rfl
@[simp] theorem an_slices_Index_string_string_ecalls : an_slices_Index_string_string.ecalls = [] := rfl
@[simp] theorem an_slices_Index_string_string_crows : an_slices_Index_string_string.crows = [] := rfl
@[simp] theorem an_slices_Index_string_string_tails : an_slices_Index_string_string.tails = [] := rfl
@[simp] noncomputable def cl_slices_Index_string_string : List (Nat × (List D → Option D)) := []
@[simp] noncomputable def ce_slices_Index_string_string : List (Nat × (List (Nat × O) → List D → Option (D × List (Nat × O)))) := []
noncomputable def c_slices_Index_string_string : CT := ⟨callOf (cl_slices_Index_string_string ), callOfE ce_slices_Index_string_string, gl⟩
@[simp] theorem c_slices_Index_string_string_p (f : FuncId) (ds : List D) : c_slices_Index_string_string.p f ds = callOf (cl_slices_Index_string_string ) f ds := Eq.trans rfl rfl
@[simp] theorem c_slices_Index_string_string_e (f : FuncId) (hs : List (Nat × O)) (ds : List D) : c_slices_Index_string_string.e f hs ds = callOfE ce_slices_Index_string_string f hs ds := Eq.trans rfl rfl
@[simp] theorem c_slices_Index_string_string_g (g : Nat) : c_slices_Index_string_string.g g = gl g := Eq.trans rfl rfl
noncomputable def L_slices_Index_string_string (i n : Nat) (s : St) : Option (E × St) := atN Try.prog c_slices_Index_string_string an_slices_Index_string_string 19 (bodyOf Try.f61) i n s
noncomputable def H_slices_Index_string_string (n i : Nat) (s : St) : Option (E × St) := atH Try.prog c_slices_Index_string_string an_slices_Index_string_string 19 (bodyOf Try.f61) n i s
@[simp] theorem H_slices_Index_string_string_eq (n i : Nat) (s : St) : H_slices_Index_string_string n i s = L_slices_Index_string_string i n (headOf (an_slices_Index_string_string.loops.lookup i) s) := rfl
noncomputable def R_slices_Index_string_string (i : Nat) (s : St) : Option (E × St) := stepL Try.prog c_slices_Index_string_string an_slices_Index_string_string 19 (bodyOf Try.f61) i s
theorem lok_slices_Index_string_string : okLoops (bodyOf Try.f61) = true := by kernel_rfl
theorem L_slices_Index_string_string_zero (i : Nat) (s : St) : L_slices_Index_string_string i 0 s = none := rfl
theorem L_slices_Index_string_string_succ (i n : Nat) (s : St) : L_slices_Index_string_string i (n + 1) s = andThen (R_slices_Index_string_string i s) (H_slices_Index_string_string n i) := atN_succ lok_slices_Index_string_string i n s
theorem R_slices_Index_string_string_eq (i : Nat) (s : St) : R_slices_Index_string_string i s = runS Try.prog c_slices_Index_string_string (H_slices_Index_string_string bigL) an_slices_Index_string_string 19 (loopAt (bodyOf Try.f61) i) s := rfl
noncomputable def F_slices_Index_string_string (ds : List D) : Option D := runF Try.prog c_slices_Index_string_string an_slices_Index_string_string 19 (bodyOf Try.f61) [.tmp 4] ds
theorem F_slices_Index_string_string_eq (ds : List D) : F_slices_Index_string_string ds = runG Try.prog c_slices_Index_string_string (H_slices_Index_string_string bigL) an_slices_Index_string_string 19 (bodyOf Try.f61) [.tmp 4] ds := runG_eq lok_slices_Index_string_string _ ds
theorem C_slices_Index_string_string (ds : List D) (r : D) (h : F_slices_Index_string_string ds = some r) : Contract Try.prog gl 61 ds r := contract_of mix Try.func61 rfl (by kernel_rfl) (by kernel_rfl) (by decide) (call := c_slices_Index_string_string) ⟨callOf_ok cl_slices_Index_string_string trivial, callOfE_ok ce_slices_Index_string_string trivial⟩ h
-- slices.Contains[[]string,string]: loops []; state: params 0..1, then [4]
attribute [simp] Try.f44
noncomputable def an_slices_Contains_string_string : Ann := ⟨[4], [], [], [], [], some [4], [], [], [], []⟩
@[simp] theorem an_slices_Contains_string_string_draws : an_slices_Contains_string_string.draws = [] := rfl
@[simp] theorem an_slices_Contains_string_string_exits : an_slices_Contains_string_string.exits = [] := rfl
@[simp] theorem an_slices_Contains_string_string_rets : an_slices_Contains_string_string.rets = some [4] := rfl
@[simp] theorem an_slices_Contains_string_string_keep : an_slices_Contains_string_string.keep = [4] := rfl
@[simp] theorem an_slices_Contains_string_string_cond : an_slices_Contains_string_string.cond = [] := rfl
@[simp] theorem an_slices_Contains_string_string_rows : an_slices_Contains_string_string.rows = [] := rfl
@[simp] theorem an_slices_Contains_string_string_loops : an_slices_Contains_string_string.loops = [] := rfl
@[simp] theorem an_slices_Contains_string_string_ecalls : an_slices_Contains_string_string.ecalls = [] := rfl
@[simp] theorem an_slices_Contains_string_string_crows : an_slices_Contains_string_string.crows = [] := rfl
@[simp] theorem an_slices_Contains_string_string_tails : an_slices_Contains_string_string.tails = [] := rfl
@[simp] noncomputable def cl_slices_Contains_string_string : List (Nat × (List D → Option D)) := [(61, F_slices_Index_string_string)]
@[simp] noncomputable def ce_slices_Contains_string_string : List (Nat × (List (Nat × O) → List D → Option (D × List (Nat × O)))) := []
noncomputable def c_slices_Contains_string_string : CT := ⟨callOf (cl_slices_Contains_string_string ), callOfE ce_slices_Contains_string_string, gl⟩
@[simp] theorem c_slices_Contains_string_string_p (f : FuncId) (ds : List D) : c_slices_Contains_string_string.p f ds = callOf (cl_slices_Contains_string_string ) f ds := Eq.trans rfl rfl
@[simp] theorem c_slices_Contains_string_string_e (f : FuncId) (hs : List (Nat × O)) (ds : List D) : c_slices_Contains_string_string.e f hs ds = callOfE ce_slices_Contains_string_string f hs ds := Eq.trans rfl rfl
@[simp] theorem c_slices_Contains_string_string_g (g : Nat) : c_slices_Contains_string_string.g g = gl g := Eq.trans rfl rfl
noncomputable def L_slices_Contains_string_string (i n : Nat) (s : St) : Option (E × St) := atN Try.prog c_slices_Contains_string_string an_slices_Contains_string_string 9 (bodyOf Try.f44) i n s
noncomputable def H_slices_Contains_string_string (n i : Nat) (s : St) : Option (E × St) := atH Try.prog c_slices_Contains_string_string an_slices_Contains_string_string 9 (bodyOf Try.f44) n i s
@[simp] theorem H_slices_Contains_string_string_eq (n i : Nat) (s : St) : H_slices_Contains_string_string n i s = L_slices_Contains_string_string i n (headOf (an_slices_Contains_string_string.loops.lookup i) s) := rfl
noncomputable def R_slices_Contains_string_string (i : Nat) (s : St) : Option (E × St) := stepL Try.prog c_slices_Contains_string_string an_slices_Contains_string_string 9 (bodyOf Try.f44) i s
theorem lok_slices_Contains_string_string : okLoops (bodyOf Try.f44) = true := by kernel_rfl
noncomputable def F_slices_Contains_string_string (ds : List D) : Option D := runF Try.prog c_slices_Contains_string_string an_slices_Contains_string_string 9 (bodyOf Try.f44) [.tmp 4] ds
theorem F_slices_Contains_string_string_eq (ds : List D) : F_slices_Contains_string_string ds = runG Try.prog c_slices_Contains_string_string (H_slices_Contains_string_string bigL) an_slices_Contains_string_string 9 (bodyOf Try.f44) [.tmp 4] ds := runG_eq lok_slices_Contains_string_string _ ds
theorem C_slices_Contains_string_string (ds : List D) (r : D) (h : F_slices_Contains_string_string ds = some r) : Contract Try.prog gl 44 ds r := contract_of mix Try.func44 rfl (by kernel_rfl) (by kernel_rfl) (by decide) (call := c_slices_Contains_string_string) ⟨callOf_ok cl_slices_Contains_string_string ⟨C_slices_Index_string_string, trivial⟩, callOfE_ok ce_slices_Contains_string_string trivial⟩ h
-- sawmill/rule.bounded: loops []; state: params 0..0, then [2]
attribute [simp] Try.f45
noncomputable def an_rule_bounded : Ann := ⟨[2], [], [], [], [], some [2], [], [], [], []⟩
@[simp] theorem an_rule_bounded_draws : an_rule_bounded.draws = [] := rfl
@[simp] theorem an_rule_bounded_exits : an_rule_bounded.exits = [] := rfl
@[simp] theorem an_rule_bounded_rets : an_rule_bounded.rets = some [2] := rfl
@[simp] theorem an_rule_bounded_keep : an_rule_bounded.keep = [2] := rfl
@[simp] theorem an_rule_bounded_cond : an_rule_bounded.cond = [] := rfl
@[simp] theorem an_rule_bounded_rows : an_rule_bounded.rows = [] := rfl
@[simp] theorem an_rule_bounded_loops : an_rule_bounded.loops = [] := rfl
@[simp] theorem an_rule_bounded_ecalls : an_rule_bounded.ecalls = [] := rfl
@[simp] theorem an_rule_bounded_crows : an_rule_bounded.crows = [] := rfl
@[simp] theorem an_rule_bounded_tails : an_rule_bounded.tails = [] := rfl
@[simp] noncomputable def cl_rule_bounded : List (Nat × (List D → Option D)) := []
@[simp] noncomputable def ce_rule_bounded : List (Nat × (List (Nat × O) → List D → Option (D × List (Nat × O)))) := []
noncomputable def c_rule_bounded : CT := ⟨callOf (cl_rule_bounded ), callOfE ce_rule_bounded, gl⟩
@[simp] theorem c_rule_bounded_p (f : FuncId) (ds : List D) : c_rule_bounded.p f ds = callOf (cl_rule_bounded ) f ds := Eq.trans rfl rfl
@[simp] theorem c_rule_bounded_e (f : FuncId) (hs : List (Nat × O)) (ds : List D) : c_rule_bounded.e f hs ds = callOfE ce_rule_bounded f hs ds := Eq.trans rfl rfl
@[simp] theorem c_rule_bounded_g (g : Nat) : c_rule_bounded.g g = gl g := Eq.trans rfl rfl
noncomputable def L_rule_bounded (i n : Nat) (s : St) : Option (E × St) := atN Try.prog c_rule_bounded an_rule_bounded 9 (bodyOf Try.f45) i n s
noncomputable def H_rule_bounded (n i : Nat) (s : St) : Option (E × St) := atH Try.prog c_rule_bounded an_rule_bounded 9 (bodyOf Try.f45) n i s
@[simp] theorem H_rule_bounded_eq (n i : Nat) (s : St) : H_rule_bounded n i s = L_rule_bounded i n (headOf (an_rule_bounded.loops.lookup i) s) := rfl
noncomputable def R_rule_bounded (i : Nat) (s : St) : Option (E × St) := stepL Try.prog c_rule_bounded an_rule_bounded 9 (bodyOf Try.f45) i s
theorem lok_rule_bounded : okLoops (bodyOf Try.f45) = true := by kernel_rfl
noncomputable def F_rule_bounded (ds : List D) : Option D := runF Try.prog c_rule_bounded an_rule_bounded 9 (bodyOf Try.f45) [.tmp 2] ds
theorem F_rule_bounded_eq (ds : List D) : F_rule_bounded ds = runG Try.prog c_rule_bounded (H_rule_bounded bigL) an_rule_bounded 9 (bodyOf Try.f45) [.tmp 2] ds := runG_eq lok_rule_bounded _ ds
theorem C_rule_bounded (ds : List D) (r : D) (h : F_rule_bounded ds = some r) : Contract Try.prog gl 45 ds r := contract_of mix Try.func45 rfl (by kernel_rfl) (by kernel_rfl) (by decide) (call := c_rule_bounded) ⟨callOf_ok cl_rule_bounded trivial, callOfE_ok ce_rule_bounded trivial⟩ h
-- sawmill/rule.isCondition: loops []; state: params 0..0, then [2]
attribute [simp] Try.f33
noncomputable def an_rule_isCondition : Ann := ⟨[2], [], [], [], [], some [2], [], [], [], []⟩
@[simp] theorem an_rule_isCondition_draws : an_rule_isCondition.draws = [] := rfl
@[simp] theorem an_rule_isCondition_exits : an_rule_isCondition.exits = [] := rfl
@[simp] theorem an_rule_isCondition_rets : an_rule_isCondition.rets = some [2] := rfl
@[simp] theorem an_rule_isCondition_keep : an_rule_isCondition.keep = [2] := rfl
@[simp] theorem an_rule_isCondition_cond : an_rule_isCondition.cond = [] := rfl
@[simp] theorem an_rule_isCondition_rows : an_rule_isCondition.rows = [] := rfl
@[simp] theorem an_rule_isCondition_loops : an_rule_isCondition.loops = [] := rfl
@[simp] theorem an_rule_isCondition_ecalls : an_rule_isCondition.ecalls = [] := rfl
@[simp] theorem an_rule_isCondition_crows : an_rule_isCondition.crows = [] := rfl
@[simp] theorem an_rule_isCondition_tails : an_rule_isCondition.tails = [] := rfl
@[simp] noncomputable def cl_rule_isCondition : List (Nat × (List D → Option D)) := []
@[simp] noncomputable def ce_rule_isCondition : List (Nat × (List (Nat × O) → List D → Option (D × List (Nat × O)))) := []
noncomputable def c_rule_isCondition : CT := ⟨callOf (cl_rule_isCondition ), callOfE ce_rule_isCondition, gl⟩
@[simp] theorem c_rule_isCondition_p (f : FuncId) (ds : List D) : c_rule_isCondition.p f ds = callOf (cl_rule_isCondition ) f ds := Eq.trans rfl rfl
@[simp] theorem c_rule_isCondition_e (f : FuncId) (hs : List (Nat × O)) (ds : List D) : c_rule_isCondition.e f hs ds = callOfE ce_rule_isCondition f hs ds := Eq.trans rfl rfl
@[simp] theorem c_rule_isCondition_g (g : Nat) : c_rule_isCondition.g g = gl g := Eq.trans rfl rfl
noncomputable def L_rule_isCondition (i n : Nat) (s : St) : Option (E × St) := atN Try.prog c_rule_isCondition an_rule_isCondition 9 (bodyOf Try.f33) i n s
noncomputable def H_rule_isCondition (n i : Nat) (s : St) : Option (E × St) := atH Try.prog c_rule_isCondition an_rule_isCondition 9 (bodyOf Try.f33) n i s
@[simp] theorem H_rule_isCondition_eq (n i : Nat) (s : St) : H_rule_isCondition n i s = L_rule_isCondition i n (headOf (an_rule_isCondition.loops.lookup i) s) := rfl
noncomputable def R_rule_isCondition (i : Nat) (s : St) : Option (E × St) := stepL Try.prog c_rule_isCondition an_rule_isCondition 9 (bodyOf Try.f33) i s
theorem lok_rule_isCondition : okLoops (bodyOf Try.f33) = true := by kernel_rfl
noncomputable def F_rule_isCondition (ds : List D) : Option D := runF Try.prog c_rule_isCondition an_rule_isCondition 9 (bodyOf Try.f33) [.tmp 2] ds
theorem F_rule_isCondition_eq (ds : List D) : F_rule_isCondition ds = runG Try.prog c_rule_isCondition (H_rule_isCondition bigL) an_rule_isCondition 9 (bodyOf Try.f33) [.tmp 2] ds := runG_eq lok_rule_isCondition _ ds
theorem C_rule_isCondition (ds : List D) (r : D) (h : F_rule_isCondition ds = some r) : Contract Try.prog gl 33 ds r := contract_of mix Try.func33 rfl (by kernel_rfl) (by kernel_rfl) (by decide) (call := c_rule_isCondition) ⟨callOf_ok cl_rule_isCondition trivial, callOfE_ok ce_rule_isCondition trivial⟩ h
-- sawmill/rule.takesConditions: loops []; state: params 0..0, then [2]
attribute [simp] Try.f46
noncomputable def an_rule_takesConditions : Ann := ⟨[2], [], [], [], [], some [2], [], [], [], []⟩
@[simp] theorem an_rule_takesConditions_draws : an_rule_takesConditions.draws = [] := rfl
@[simp] theorem an_rule_takesConditions_exits : an_rule_takesConditions.exits = [] := rfl
@[simp] theorem an_rule_takesConditions_rets : an_rule_takesConditions.rets = some [2] := rfl
@[simp] theorem an_rule_takesConditions_keep : an_rule_takesConditions.keep = [2] := rfl
@[simp] theorem an_rule_takesConditions_cond : an_rule_takesConditions.cond = [] := rfl
@[simp] theorem an_rule_takesConditions_rows : an_rule_takesConditions.rows = [] := rfl
@[simp] theorem an_rule_takesConditions_loops : an_rule_takesConditions.loops = [] := rfl
@[simp] theorem an_rule_takesConditions_ecalls : an_rule_takesConditions.ecalls = [] := rfl
@[simp] theorem an_rule_takesConditions_crows : an_rule_takesConditions.crows = [] := rfl
@[simp] theorem an_rule_takesConditions_tails : an_rule_takesConditions.tails = [] := rfl
@[simp] noncomputable def cl_rule_takesConditions : List (Nat × (List D → Option D)) := []
@[simp] noncomputable def ce_rule_takesConditions : List (Nat × (List (Nat × O) → List D → Option (D × List (Nat × O)))) := []
noncomputable def c_rule_takesConditions : CT := ⟨callOf (cl_rule_takesConditions ), callOfE ce_rule_takesConditions, gl⟩
@[simp] theorem c_rule_takesConditions_p (f : FuncId) (ds : List D) : c_rule_takesConditions.p f ds = callOf (cl_rule_takesConditions ) f ds := Eq.trans rfl rfl
@[simp] theorem c_rule_takesConditions_e (f : FuncId) (hs : List (Nat × O)) (ds : List D) : c_rule_takesConditions.e f hs ds = callOfE ce_rule_takesConditions f hs ds := Eq.trans rfl rfl
@[simp] theorem c_rule_takesConditions_g (g : Nat) : c_rule_takesConditions.g g = gl g := Eq.trans rfl rfl
noncomputable def L_rule_takesConditions (i n : Nat) (s : St) : Option (E × St) := atN Try.prog c_rule_takesConditions an_rule_takesConditions 13 (bodyOf Try.f46) i n s
noncomputable def H_rule_takesConditions (n i : Nat) (s : St) : Option (E × St) := atH Try.prog c_rule_takesConditions an_rule_takesConditions 13 (bodyOf Try.f46) n i s
@[simp] theorem H_rule_takesConditions_eq (n i : Nat) (s : St) : H_rule_takesConditions n i s = L_rule_takesConditions i n (headOf (an_rule_takesConditions.loops.lookup i) s) := rfl
noncomputable def R_rule_takesConditions (i : Nat) (s : St) : Option (E × St) := stepL Try.prog c_rule_takesConditions an_rule_takesConditions 13 (bodyOf Try.f46) i s
theorem lok_rule_takesConditions : okLoops (bodyOf Try.f46) = true := by kernel_rfl
noncomputable def F_rule_takesConditions (ds : List D) : Option D := runF Try.prog c_rule_takesConditions an_rule_takesConditions 13 (bodyOf Try.f46) [.tmp 2] ds
theorem F_rule_takesConditions_eq (ds : List D) : F_rule_takesConditions ds = runG Try.prog c_rule_takesConditions (H_rule_takesConditions bigL) an_rule_takesConditions 13 (bodyOf Try.f46) [.tmp 2] ds := runG_eq lok_rule_takesConditions _ ds
theorem C_rule_takesConditions (ds : List D) (r : D) (h : F_rule_takesConditions ds = some r) : Contract Try.prog gl 46 ds r := contract_of mix Try.func46 rfl (by kernel_rfl) (by kernel_rfl) (by decide) (call := c_rule_takesConditions) ⟨callOf_ok cl_rule_takesConditions trivial, callOfE_ok ce_rule_takesConditions trivial⟩ h
-- sawmill/rule.visit: loops [4, 19]; state: params 0..2, then [3, 6, 8, 9, 11, 15, 16, 17, 85, 86, 87]; RECURSIVE
attribute [simp] Try.f32
noncomputable def an_rule_visit : Ann := ⟨[1, 2, 3, 6, 8, 9, 11, 15, 16, 17, 85, 86, 87], [13, 18, 27, 37, 64, 74, 83, 88, 97], [], [(4, [1, 2, 3, 15, 16, 17]), (19, [3, 85, 86, 87])], [(0, [1, 3]), (1, [1, 2, 3, 15, 16, 17]), (2, []), (3, [3, 85, 86, 87])], some [6], [(12, 25), (21, 5)], [], [], []⟩
@[simp] theorem an_rule_visit_draws : an_rule_visit.draws = [(12, 25), (21, 5)] := rfl
@[simp] theorem an_rule_visit_exits : an_rule_visit.exits = [(0, [1, 3]), (1, [1, 2, 3, 15, 16, 17]), (2, []), (3, [3, 85, 86, 87])] := rfl
@[simp] theorem an_rule_visit_rets : an_rule_visit.rets = some [6] := rfl
@[simp] theorem an_rule_visit_keep : an_rule_visit.keep = [1, 2, 3, 6, 8, 9, 11, 15, 16, 17, 85, 86, 87] := rfl
@[simp] theorem an_rule_visit_cond : an_rule_visit.cond = [13, 18, 27, 37, 64, 74, 83, 88, 97] := rfl
@[simp] theorem an_rule_visit_rows : an_rule_visit.rows = [] := rfl
@[simp] theorem an_rule_visit_loops : an_rule_visit.loops = [(4, [1, 2, 3, 15, 16, 17]), (19, [3, 85, 86, 87])] := rfl
@[simp] theorem an_rule_visit_ecalls : an_rule_visit.ecalls = [] := rfl
@[simp] theorem an_rule_visit_crows : an_rule_visit.crows = [] := rfl
@[simp] theorem an_rule_visit_tails : an_rule_visit.tails = [] := rfl
@[simp] noncomputable def cl_rule_visit (self : List D → Option D) : List (Nat × (List D → Option D)) := [(32, self), (33, F_rule_isCondition), (43, F_rule_takes), (44, F_slices_Contains_string_string), (45, F_rule_bounded), (46, F_rule_takesConditions)]
@[simp] noncomputable def ce_rule_visit : List (Nat × (List (Nat × O) → List D → Option (D × List (Nat × O)))) := []
noncomputable def c_rule_visit (self : List D → Option D) : CT := ⟨callOf (cl_rule_visit self ), callOfE ce_rule_visit, gl⟩
@[simp] theorem c_rule_visit_p (self : List D → Option D) (f : FuncId) (ds : List D) : (c_rule_visit self).p f ds = callOf (cl_rule_visit self ) f ds := Eq.trans rfl rfl
@[simp] theorem c_rule_visit_e (self : List D → Option D) (f : FuncId) (hs : List (Nat × O)) (ds : List D) : (c_rule_visit self).e f hs ds = callOfE ce_rule_visit f hs ds := Eq.trans rfl rfl
@[simp] theorem c_rule_visit_g (self : List D → Option D) (g : Nat) : (c_rule_visit self).g g = gl g := Eq.trans rfl rfl
noncomputable def L_rule_visit (self : List D → Option D) (i n : Nat) (s : St) : Option (E × St) := atN Try.prog (c_rule_visit self) an_rule_visit 99 (bodyOf Try.f32) i n s
noncomputable def H_rule_visit (self : List D → Option D) (n i : Nat) (s : St) : Option (E × St) := atH Try.prog (c_rule_visit self) an_rule_visit 99 (bodyOf Try.f32) n i s
@[simp] theorem H_rule_visit_eq (self : List D → Option D) (n i : Nat) (s : St) : H_rule_visit self n i s = L_rule_visit self i n (headOf (an_rule_visit.loops.lookup i) s) := rfl
noncomputable def R_rule_visit (self : List D → Option D) (i : Nat) (s : St) : Option (E × St) := stepL Try.prog (c_rule_visit self) an_rule_visit 99 (bodyOf Try.f32) i s
theorem lok_rule_visit : okLoops (bodyOf Try.f32) = true := by kernel_rfl
theorem L_rule_visit_zero (self : List D → Option D) (i : Nat) (s : St) : L_rule_visit self i 0 s = none := rfl
theorem L_rule_visit_succ (self : List D → Option D) (i n : Nat) (s : St) : L_rule_visit self i (n + 1) s = andThen (R_rule_visit self i s) (H_rule_visit self n i) := atN_succ lok_rule_visit i n s
theorem R_rule_visit_eq (self : List D → Option D) (i : Nat) (s : St) : R_rule_visit self i s = runS Try.prog (c_rule_visit self) (H_rule_visit self bigL) an_rule_visit 99 (loopAt (bodyOf Try.f32) i) s := rfl
noncomputable def FN_rule_visit : Nat → List D → Option D
  | 0 => fun _ => none
  | n + 1 => fun ds => runF Try.prog (c_rule_visit (FN_rule_visit n)) an_rule_visit 99 (bodyOf Try.f32) [.tmp 6] ds
theorem FN_rule_visit_eq (n : Nat) (ds : List D) : FN_rule_visit (n + 1) ds = runG Try.prog (c_rule_visit (FN_rule_visit n)) (H_rule_visit (FN_rule_visit n) bigL) an_rule_visit 99 (bodyOf Try.f32) [.tmp 6] ds := runG_eq lok_rule_visit _ ds
theorem CN_rule_visit : ∀ (n : Nat) (ds : List D) (r : D), FN_rule_visit n ds = some r → Contract Try.prog gl 32 ds r
  | 0, _, _, h => by cases h
  | n + 1, ds, r, h => by
    have ih := CN_rule_visit n
    exact contract_of mix Try.func32 rfl (by kernel_rfl) (by kernel_rfl) (by decide) (call := c_rule_visit (FN_rule_visit n)) ⟨callOf_ok (cl_rule_visit (FN_rule_visit n)) ⟨ih, C_rule_isCondition, C_rule_takes, C_slices_Contains_string_string, C_rule_bounded, C_rule_takesConditions, trivial⟩, callOfE_ok ce_rule_visit trivial⟩ h
noncomputable def F_rule_visit (ds : List D) : Option D := FN_rule_visit 1000 ds
theorem C_rule_visit (ds : List D) (r : D) (h : F_rule_visit ds = some r) : Contract Try.prog gl 32 ds r := CN_rule_visit 1000 ds r h
-- sawmill/rule.limited: loops []; state: params 0..0, then [2, 3]
attribute [simp] Try.f54
noncomputable def an_rule_limited : Ann := ⟨[0, 2, 3], [6], [], [], [], some [2, 3], [], [], [], []⟩
@[simp] theorem an_rule_limited_draws : an_rule_limited.draws = [] := rfl
@[simp] theorem an_rule_limited_exits : an_rule_limited.exits = [] := rfl
@[simp] theorem an_rule_limited_rets : an_rule_limited.rets = some [2, 3] := rfl
@[simp] theorem an_rule_limited_keep : an_rule_limited.keep = [0, 2, 3] := rfl
@[simp] theorem an_rule_limited_cond : an_rule_limited.cond = [6] := rfl
@[simp] theorem an_rule_limited_rows : an_rule_limited.rows = [] := rfl
@[simp] theorem an_rule_limited_loops : an_rule_limited.loops = [] := rfl
@[simp] theorem an_rule_limited_ecalls : an_rule_limited.ecalls = [] := rfl
@[simp] theorem an_rule_limited_crows : an_rule_limited.crows = [] := rfl
@[simp] theorem an_rule_limited_tails : an_rule_limited.tails = [] := rfl
@[simp] noncomputable def cl_rule_limited : List (Nat × (List D → Option D)) := [(45, F_rule_bounded)]
@[simp] noncomputable def ce_rule_limited : List (Nat × (List (Nat × O) → List D → Option (D × List (Nat × O)))) := []
noncomputable def c_rule_limited : CT := ⟨callOf (cl_rule_limited ), callOfE ce_rule_limited, gl⟩
@[simp] theorem c_rule_limited_p (f : FuncId) (ds : List D) : c_rule_limited.p f ds = callOf (cl_rule_limited ) f ds := Eq.trans rfl rfl
@[simp] theorem c_rule_limited_e (f : FuncId) (hs : List (Nat × O)) (ds : List D) : c_rule_limited.e f hs ds = callOfE ce_rule_limited f hs ds := Eq.trans rfl rfl
@[simp] theorem c_rule_limited_g (g : Nat) : c_rule_limited.g g = gl g := Eq.trans rfl rfl
noncomputable def L_rule_limited (i n : Nat) (s : St) : Option (E × St) := atN Try.prog c_rule_limited an_rule_limited 8 (bodyOf Try.f54) i n s
noncomputable def H_rule_limited (n i : Nat) (s : St) : Option (E × St) := atH Try.prog c_rule_limited an_rule_limited 8 (bodyOf Try.f54) n i s
@[simp] theorem H_rule_limited_eq (n i : Nat) (s : St) : H_rule_limited n i s = L_rule_limited i n (headOf (an_rule_limited.loops.lookup i) s) := rfl
noncomputable def R_rule_limited (i : Nat) (s : St) : Option (E × St) := stepL Try.prog c_rule_limited an_rule_limited 8 (bodyOf Try.f54) i s
theorem lok_rule_limited : okLoops (bodyOf Try.f54) = true := by kernel_rfl
noncomputable def F_rule_limited (ds : List D) : Option D := runF Try.prog c_rule_limited an_rule_limited 8 (bodyOf Try.f54) [.tmp 2, .tmp 3] ds
theorem F_rule_limited_eq (ds : List D) : F_rule_limited ds = runG Try.prog c_rule_limited (H_rule_limited bigL) an_rule_limited 8 (bodyOf Try.f54) [.tmp 2, .tmp 3] ds := runG_eq lok_rule_limited _ ds
theorem C_rule_limited (ds : List D) (r : D) (h : F_rule_limited ds = some r) : Contract Try.prog gl 54 ds r := contract_of mix Try.func54 rfl (by kernel_rfl) (by kernel_rfl) (by decide) (call := c_rule_limited) ⟨callOf_ok cl_rule_limited ⟨C_rule_bounded, trivial⟩, callOfE_ok ce_rule_limited trivial⟩ h
-- sawmill/feature.Get: loops [2]; state: params 0..1, then [4, 5, 7, 8, 9, 10]
attribute [simp] Try.f55
noncomputable def an_feature_Get : Ann := ⟨[4, 5, 7, 8, 9, 10], [11, 17], [], [(2, [1, 8, 9, 10])], [(0, []), (1, [1, 8, 9, 10])], some [4, 5], [], [], [], []⟩
@[simp] theorem an_feature_Get_draws : an_feature_Get.draws = [] := rfl
@[simp] theorem an_feature_Get_exits : an_feature_Get.exits = [(0, []), (1, [1, 8, 9, 10])] := rfl
@[simp] theorem an_feature_Get_rets : an_feature_Get.rets = some [4, 5] := rfl
@[simp] theorem an_feature_Get_keep : an_feature_Get.keep = [4, 5, 7, 8, 9, 10] := rfl
@[simp] theorem an_feature_Get_cond : an_feature_Get.cond = [11, 17] := rfl
@[simp] theorem an_feature_Get_rows : an_feature_Get.rows = [] := rfl
@[simp] theorem an_feature_Get_loops : an_feature_Get.loops = [(2, [1, 8, 9, 10])] := rfl
@[simp] theorem an_feature_Get_ecalls : an_feature_Get.ecalls = [] := rfl
@[simp] theorem an_feature_Get_crows : an_feature_Get.crows = [] := rfl
@[simp] theorem an_feature_Get_tails : an_feature_Get.tails = [] := rfl
@[simp] noncomputable def cl_feature_Get : List (Nat × (List D → Option D)) := []
@[simp] noncomputable def ce_feature_Get : List (Nat × (List (Nat × O) → List D → Option (D × List (Nat × O)))) := []
noncomputable def c_feature_Get : CT := ⟨callOf (cl_feature_Get ), callOfE ce_feature_Get, gl⟩
@[simp] theorem c_feature_Get_p (f : FuncId) (ds : List D) : c_feature_Get.p f ds = callOf (cl_feature_Get ) f ds := Eq.trans rfl rfl
@[simp] theorem c_feature_Get_e (f : FuncId) (hs : List (Nat × O)) (ds : List D) : c_feature_Get.e f hs ds = callOfE ce_feature_Get f hs ds := Eq.trans rfl rfl
@[simp] theorem c_feature_Get_g (g : Nat) : c_feature_Get.g g = gl g := Eq.trans rfl rfl
noncomputable def L_feature_Get (i n : Nat) (s : St) : Option (E × St) := atN Try.prog c_feature_Get an_feature_Get 21 (bodyOf Try.f55) i n s
noncomputable def H_feature_Get (n i : Nat) (s : St) : Option (E × St) := atH Try.prog c_feature_Get an_feature_Get 21 (bodyOf Try.f55) n i s
@[simp] theorem H_feature_Get_eq (n i : Nat) (s : St) : H_feature_Get n i s = L_feature_Get i n (headOf (an_feature_Get.loops.lookup i) s) := rfl
noncomputable def R_feature_Get (i : Nat) (s : St) : Option (E × St) := stepL Try.prog c_feature_Get an_feature_Get 21 (bodyOf Try.f55) i s
theorem lok_feature_Get : okLoops (bodyOf Try.f55) = true := by kernel_rfl
theorem L_feature_Get_zero (i : Nat) (s : St) : L_feature_Get i 0 s = none := rfl
theorem L_feature_Get_succ (i n : Nat) (s : St) : L_feature_Get i (n + 1) s = andThen (R_feature_Get i s) (H_feature_Get n i) := atN_succ lok_feature_Get i n s
theorem R_feature_Get_eq (i : Nat) (s : St) : R_feature_Get i s = runS Try.prog c_feature_Get (H_feature_Get bigL) an_feature_Get 21 (loopAt (bodyOf Try.f55) i) s := rfl
noncomputable def F_feature_Get (ds : List D) : Option D := runF Try.prog c_feature_Get an_feature_Get 21 (bodyOf Try.f55) [.tmp 4, .tmp 5] ds
theorem F_feature_Get_eq (ds : List D) : F_feature_Get ds = runG Try.prog c_feature_Get (H_feature_Get bigL) an_feature_Get 21 (bodyOf Try.f55) [.tmp 4, .tmp 5] ds := runG_eq lok_feature_Get _ ds
theorem C_feature_Get (ds : List D) (r : D) (h : F_feature_Get ds = some r) : Contract Try.prog gl 55 ds r := contract_of mix Try.func55 rfl (by kernel_rfl) (by kernel_rfl) (by decide) (call := c_feature_Get) ⟨callOf_ok cl_feature_Get trivial, callOfE_ok ce_feature_Get trivial⟩ h
-- sawmill/rule.magnitude: loops []; state: params 0..0, then [2]
attribute [simp] Try.f73
noncomputable def an_rule_magnitude : Ann := ⟨[2], [], [], [], [], some [2], [], [], [], []⟩
@[simp] theorem an_rule_magnitude_draws : an_rule_magnitude.draws = [] := rfl
@[simp] theorem an_rule_magnitude_exits : an_rule_magnitude.exits = [] := rfl
@[simp] theorem an_rule_magnitude_rets : an_rule_magnitude.rets = some [2] := rfl
@[simp] theorem an_rule_magnitude_keep : an_rule_magnitude.keep = [2] := rfl
@[simp] theorem an_rule_magnitude_cond : an_rule_magnitude.cond = [] := rfl
@[simp] theorem an_rule_magnitude_rows : an_rule_magnitude.rows = [] := rfl
@[simp] theorem an_rule_magnitude_loops : an_rule_magnitude.loops = [] := rfl
@[simp] theorem an_rule_magnitude_ecalls : an_rule_magnitude.ecalls = [] := rfl
@[simp] theorem an_rule_magnitude_crows : an_rule_magnitude.crows = [] := rfl
@[simp] theorem an_rule_magnitude_tails : an_rule_magnitude.tails = [] := rfl
@[simp] noncomputable def cl_rule_magnitude : List (Nat × (List D → Option D)) := []
@[simp] noncomputable def ce_rule_magnitude : List (Nat × (List (Nat × O) → List D → Option (D × List (Nat × O)))) := []
noncomputable def c_rule_magnitude : CT := ⟨callOf (cl_rule_magnitude ), callOfE ce_rule_magnitude, gl⟩
@[simp] theorem c_rule_magnitude_p (f : FuncId) (ds : List D) : c_rule_magnitude.p f ds = callOf (cl_rule_magnitude ) f ds := Eq.trans rfl rfl
@[simp] theorem c_rule_magnitude_e (f : FuncId) (hs : List (Nat × O)) (ds : List D) : c_rule_magnitude.e f hs ds = callOfE ce_rule_magnitude f hs ds := Eq.trans rfl rfl
@[simp] theorem c_rule_magnitude_g (g : Nat) : c_rule_magnitude.g g = gl g := Eq.trans rfl rfl
noncomputable def L_rule_magnitude (i n : Nat) (s : St) : Option (E × St) := atN Try.prog c_rule_magnitude an_rule_magnitude 7 (bodyOf Try.f73) i n s
noncomputable def H_rule_magnitude (n i : Nat) (s : St) : Option (E × St) := atH Try.prog c_rule_magnitude an_rule_magnitude 7 (bodyOf Try.f73) n i s
@[simp] theorem H_rule_magnitude_eq (n i : Nat) (s : St) : H_rule_magnitude n i s = L_rule_magnitude i n (headOf (an_rule_magnitude.loops.lookup i) s) := rfl
noncomputable def R_rule_magnitude (i : Nat) (s : St) : Option (E × St) := stepL Try.prog c_rule_magnitude an_rule_magnitude 7 (bodyOf Try.f73) i s
theorem lok_rule_magnitude : okLoops (bodyOf Try.f73) = true := by kernel_rfl
noncomputable def F_rule_magnitude (ds : List D) : Option D := runF Try.prog c_rule_magnitude an_rule_magnitude 7 (bodyOf Try.f73) [.tmp 2] ds
theorem F_rule_magnitude_eq (ds : List D) : F_rule_magnitude ds = runG Try.prog c_rule_magnitude (H_rule_magnitude bigL) an_rule_magnitude 7 (bodyOf Try.f73) [.tmp 2] ds := runG_eq lok_rule_magnitude _ ds
theorem C_rule_magnitude (ds : List D) (r : D) (h : F_rule_magnitude ds = some r) : Contract Try.prog gl 73 ds r := contract_of mix Try.func73 rfl (by kernel_rfl) (by kernel_rfl) (by decide) (call := c_rule_magnitude) ⟨callOf_ok cl_rule_magnitude trivial, callOfE_ok ce_rule_magnitude trivial⟩ h
-- sawmill/rule.truth: loops []; state: params 0..0, then [2]
attribute [simp] Try.f74
noncomputable def an_rule_truth : Ann := ⟨[2], [3], [], [], [], some [2], [], [], [], []⟩
@[simp] theorem an_rule_truth_draws : an_rule_truth.draws = [] := rfl
@[simp] theorem an_rule_truth_exits : an_rule_truth.exits = [] := rfl
@[simp] theorem an_rule_truth_rets : an_rule_truth.rets = some [2] := rfl
@[simp] theorem an_rule_truth_keep : an_rule_truth.keep = [2] := rfl
@[simp] theorem an_rule_truth_cond : an_rule_truth.cond = [3] := rfl
@[simp] theorem an_rule_truth_rows : an_rule_truth.rows = [] := rfl
@[simp] theorem an_rule_truth_loops : an_rule_truth.loops = [] := rfl
@[simp] theorem an_rule_truth_ecalls : an_rule_truth.ecalls = [] := rfl
@[simp] theorem an_rule_truth_crows : an_rule_truth.crows = [] := rfl
@[simp] theorem an_rule_truth_tails : an_rule_truth.tails = [] := rfl
@[simp] noncomputable def cl_rule_truth : List (Nat × (List D → Option D)) := []
@[simp] noncomputable def ce_rule_truth : List (Nat × (List (Nat × O) → List D → Option (D × List (Nat × O)))) := []
noncomputable def c_rule_truth : CT := ⟨callOf (cl_rule_truth ), callOfE ce_rule_truth, gl⟩
@[simp] theorem c_rule_truth_p (f : FuncId) (ds : List D) : c_rule_truth.p f ds = callOf (cl_rule_truth ) f ds := Eq.trans rfl rfl
@[simp] theorem c_rule_truth_e (f : FuncId) (hs : List (Nat × O)) (ds : List D) : c_rule_truth.e f hs ds = callOfE ce_rule_truth f hs ds := Eq.trans rfl rfl
@[simp] theorem c_rule_truth_g (g : Nat) : c_rule_truth.g g = gl g := Eq.trans rfl rfl
noncomputable def L_rule_truth (i n : Nat) (s : St) : Option (E × St) := atN Try.prog c_rule_truth an_rule_truth 4 (bodyOf Try.f74) i n s
noncomputable def H_rule_truth (n i : Nat) (s : St) : Option (E × St) := atH Try.prog c_rule_truth an_rule_truth 4 (bodyOf Try.f74) n i s
@[simp] theorem H_rule_truth_eq (n i : Nat) (s : St) : H_rule_truth n i s = L_rule_truth i n (headOf (an_rule_truth.loops.lookup i) s) := rfl
noncomputable def R_rule_truth (i : Nat) (s : St) : Option (E × St) := stepL Try.prog c_rule_truth an_rule_truth 4 (bodyOf Try.f74) i s
theorem lok_rule_truth : okLoops (bodyOf Try.f74) = true := by kernel_rfl
noncomputable def F_rule_truth (ds : List D) : Option D := runF Try.prog c_rule_truth an_rule_truth 4 (bodyOf Try.f74) [.tmp 2] ds
theorem F_rule_truth_eq (ds : List D) : F_rule_truth ds = runG Try.prog c_rule_truth (H_rule_truth bigL) an_rule_truth 4 (bodyOf Try.f74) [.tmp 2] ds := runG_eq lok_rule_truth _ ds
theorem C_rule_truth (ds : List D) (r : D) (h : F_rule_truth ds = some r) : Contract Try.prog gl 74 ds r := contract_of mix Try.func74 rfl (by kernel_rfl) (by kernel_rfl) (by decide) (call := c_rule_truth) ⟨callOf_ok cl_rule_truth trivial, callOfE_ok ce_rule_truth trivial⟩ h
-- sawmill/rule.combine: loops []; state: params 0..2, then [6, 7, 8]
attribute [simp] Try.f56
noncomputable def an_rule_combine : Ann := ⟨[1, 2, 6, 7, 8], [9, 17, 25, 36, 40, 46], [], [], [(0, [1, 2])], some [6, 7], [], [], [], []⟩
@[simp] theorem an_rule_combine_draws : an_rule_combine.draws = [] := rfl
@[simp] theorem an_rule_combine_exits : an_rule_combine.exits = [(0, [1, 2])] := rfl
@[simp] theorem an_rule_combine_rets : an_rule_combine.rets = some [6, 7] := rfl
@[simp] theorem an_rule_combine_keep : an_rule_combine.keep = [1, 2, 6, 7, 8] := rfl
@[simp] theorem an_rule_combine_cond : an_rule_combine.cond = [9, 17, 25, 36, 40, 46] := rfl
@[simp] theorem an_rule_combine_rows : an_rule_combine.rows = [] := rfl
@[simp] theorem an_rule_combine_loops : an_rule_combine.loops = [] := rfl
@[simp] theorem an_rule_combine_ecalls : an_rule_combine.ecalls = [] := rfl
@[simp] theorem an_rule_combine_crows : an_rule_combine.crows = [] := rfl
@[simp] theorem an_rule_combine_tails : an_rule_combine.tails = [] := rfl
@[simp] noncomputable def cl_rule_combine : List (Nat × (List D → Option D)) := [(54, F_rule_limited), (73, F_rule_magnitude), (74, F_rule_truth)]
@[simp] noncomputable def ce_rule_combine : List (Nat × (List (Nat × O) → List D → Option (D × List (Nat × O)))) := []
noncomputable def c_rule_combine : CT := ⟨callOf (cl_rule_combine ), callOfE ce_rule_combine, gl⟩
@[simp] theorem c_rule_combine_p (f : FuncId) (ds : List D) : c_rule_combine.p f ds = callOf (cl_rule_combine ) f ds := Eq.trans rfl rfl
@[simp] theorem c_rule_combine_e (f : FuncId) (hs : List (Nat × O)) (ds : List D) : c_rule_combine.e f hs ds = callOfE ce_rule_combine f hs ds := Eq.trans rfl rfl
@[simp] theorem c_rule_combine_g (g : Nat) : c_rule_combine.g g = gl g := Eq.trans rfl rfl
noncomputable def L_rule_combine (i n : Nat) (s : St) : Option (E × St) := atN Try.prog c_rule_combine an_rule_combine 56 (bodyOf Try.f56) i n s
noncomputable def H_rule_combine (n i : Nat) (s : St) : Option (E × St) := atH Try.prog c_rule_combine an_rule_combine 56 (bodyOf Try.f56) n i s
@[simp] theorem H_rule_combine_eq (n i : Nat) (s : St) : H_rule_combine n i s = L_rule_combine i n (headOf (an_rule_combine.loops.lookup i) s) := rfl
noncomputable def R_rule_combine (i : Nat) (s : St) : Option (E × St) := stepL Try.prog c_rule_combine an_rule_combine 56 (bodyOf Try.f56) i s
theorem lok_rule_combine : okLoops (bodyOf Try.f56) = true := by kernel_rfl
noncomputable def F_rule_combine (ds : List D) : Option D := runF Try.prog c_rule_combine an_rule_combine 56 (bodyOf Try.f56) [.tmp 6, .tmp 7] ds
theorem F_rule_combine_eq (ds : List D) : F_rule_combine ds = runG Try.prog c_rule_combine (H_rule_combine bigL) an_rule_combine 56 (bodyOf Try.f56) [.tmp 6, .tmp 7] ds := runG_eq lok_rule_combine _ ds
theorem C_rule_combine (ds : List D) (r : D) (h : F_rule_combine ds = some r) : Contract Try.prog gl 56 ds r := contract_of mix Try.func56 rfl (by kernel_rfl) (by kernel_rfl) (by decide) (call := c_rule_combine) ⟨callOf_ok cl_rule_combine ⟨C_rule_limited, C_rule_magnitude, C_rule_truth, trivial⟩, callOfE_ok ce_rule_combine trivial⟩ h
-- sawmill/rule.value: loops []; state: params 0..1, then [2, 4, 5, 6, 8, 9, 10, 12, 46]; RECURSIVE
attribute [simp] Try.f41
noncomputable def an_rule_value : Ann := ⟨[1, 2, 4, 5, 6, 8, 9, 10, 12, 46], [13, 20, 43, 47, 51, 54, 64, 67, 87], [], [], [(0, [1, 2]), (1, [1, 2, 8])], some [4, 5], [], [], [], []⟩
@[simp] theorem an_rule_value_draws : an_rule_value.draws = [] := rfl
@[simp] theorem an_rule_value_exits : an_rule_value.exits = [(0, [1, 2]), (1, [1, 2, 8])] := rfl
@[simp] theorem an_rule_value_rets : an_rule_value.rets = some [4, 5] := rfl
@[simp] theorem an_rule_value_keep : an_rule_value.keep = [1, 2, 4, 5, 6, 8, 9, 10, 12, 46] := rfl
@[simp] theorem an_rule_value_cond : an_rule_value.cond = [13, 20, 43, 47, 51, 54, 64, 67, 87] := rfl
@[simp] theorem an_rule_value_rows : an_rule_value.rows = [] := rfl
@[simp] theorem an_rule_value_loops : an_rule_value.loops = [] := rfl
@[simp] theorem an_rule_value_ecalls : an_rule_value.ecalls = [] := rfl
@[simp] theorem an_rule_value_crows : an_rule_value.crows = [] := rfl
@[simp] theorem an_rule_value_tails : an_rule_value.tails = [] := rfl
@[simp] noncomputable def cl_rule_value (self : List D → Option D) : List (Nat × (List D → Option D)) := [(41, self), (54, F_rule_limited), (55, F_feature_Get), (56, F_rule_combine)]
@[simp] noncomputable def ce_rule_value : List (Nat × (List (Nat × O) → List D → Option (D × List (Nat × O)))) := []
noncomputable def c_rule_value (self : List D → Option D) : CT := ⟨callOf (cl_rule_value self ), callOfE ce_rule_value, gl⟩
@[simp] theorem c_rule_value_p (self : List D → Option D) (f : FuncId) (ds : List D) : (c_rule_value self).p f ds = callOf (cl_rule_value self ) f ds := Eq.trans rfl rfl
@[simp] theorem c_rule_value_e (self : List D → Option D) (f : FuncId) (hs : List (Nat × O)) (ds : List D) : (c_rule_value self).e f hs ds = callOfE ce_rule_value f hs ds := Eq.trans rfl rfl
@[simp] theorem c_rule_value_g (self : List D → Option D) (g : Nat) : (c_rule_value self).g g = gl g := Eq.trans rfl rfl
noncomputable def L_rule_value (self : List D → Option D) (i n : Nat) (s : St) : Option (E × St) := atN Try.prog (c_rule_value self) an_rule_value 96 (bodyOf Try.f41) i n s
noncomputable def H_rule_value (self : List D → Option D) (n i : Nat) (s : St) : Option (E × St) := atH Try.prog (c_rule_value self) an_rule_value 96 (bodyOf Try.f41) n i s
@[simp] theorem H_rule_value_eq (self : List D → Option D) (n i : Nat) (s : St) : H_rule_value self n i s = L_rule_value self i n (headOf (an_rule_value.loops.lookup i) s) := rfl
noncomputable def R_rule_value (self : List D → Option D) (i : Nat) (s : St) : Option (E × St) := stepL Try.prog (c_rule_value self) an_rule_value 96 (bodyOf Try.f41) i s
theorem lok_rule_value : okLoops (bodyOf Try.f41) = true := by kernel_rfl
noncomputable def FN_rule_value : Nat → List D → Option D
  | 0 => fun _ => none
  | n + 1 => fun ds => runF Try.prog (c_rule_value (FN_rule_value n)) an_rule_value 96 (bodyOf Try.f41) [.tmp 4, .tmp 5] ds
theorem FN_rule_value_eq (n : Nat) (ds : List D) : FN_rule_value (n + 1) ds = runG Try.prog (c_rule_value (FN_rule_value n)) (H_rule_value (FN_rule_value n) bigL) an_rule_value 96 (bodyOf Try.f41) [.tmp 4, .tmp 5] ds := runG_eq lok_rule_value _ ds
theorem CN_rule_value : ∀ (n : Nat) (ds : List D) (r : D), FN_rule_value n ds = some r → Contract Try.prog gl 41 ds r
  | 0, _, _, h => by cases h
  | n + 1, ds, r, h => by
    have ih := CN_rule_value n
    exact contract_of mix Try.func41 rfl (by kernel_rfl) (by kernel_rfl) (by decide) (call := c_rule_value (FN_rule_value n)) ⟨callOf_ok (cl_rule_value (FN_rule_value n)) ⟨ih, C_rule_limited, C_feature_Get, C_rule_combine, trivial⟩, callOfE_ok ce_rule_value trivial⟩ h
noncomputable def F_rule_value (ds : List D) : Option D := FN_rule_value 1000 ds
theorem C_rule_value (ds : List D) (r : D) (h : F_rule_value ds = some r) : Contract Try.prog gl 41 ds r := CN_rule_value 1000 ds r h
-- sawmill/rule.Eval: loops []; state: params 0..1, then [2, 4, 5, 6]
attribute [simp] Try.f19
noncomputable def an_rule_Eval : Ann := ⟨[1, 2, 4, 5, 6], [12], [], [], [], some [4, 5], [(1, 3)], [], [], []⟩
@[simp] theorem an_rule_Eval_draws : an_rule_Eval.draws = [(1, 3)] := rfl
@[simp] theorem an_rule_Eval_exits : an_rule_Eval.exits = [] := rfl
@[simp] theorem an_rule_Eval_rets : an_rule_Eval.rets = some [4, 5] := rfl
@[simp] theorem an_rule_Eval_keep : an_rule_Eval.keep = [1, 2, 4, 5, 6] := rfl
@[simp] theorem an_rule_Eval_cond : an_rule_Eval.cond = [12] := rfl
@[simp] theorem an_rule_Eval_rows : an_rule_Eval.rows = [] := rfl
@[simp] theorem an_rule_Eval_loops : an_rule_Eval.loops = [] := rfl
@[simp] theorem an_rule_Eval_ecalls : an_rule_Eval.ecalls = [] := rfl
@[simp] theorem an_rule_Eval_crows : an_rule_Eval.crows = [] := rfl
@[simp] theorem an_rule_Eval_tails : an_rule_Eval.tails = [] := rfl
@[simp] noncomputable def cl_rule_Eval : List (Nat × (List D → Option D)) := [(32, F_rule_visit), (40, F_rule_names), (41, F_rule_value)]
@[simp] noncomputable def ce_rule_Eval : List (Nat × (List (Nat × O) → List D → Option (D × List (Nat × O)))) := []
noncomputable def c_rule_Eval : CT := ⟨callOf (cl_rule_Eval ), callOfE ce_rule_Eval, gl⟩
@[simp] theorem c_rule_Eval_p (f : FuncId) (ds : List D) : c_rule_Eval.p f ds = callOf (cl_rule_Eval ) f ds := Eq.trans rfl rfl
@[simp] theorem c_rule_Eval_e (f : FuncId) (hs : List (Nat × O)) (ds : List D) : c_rule_Eval.e f hs ds = callOfE ce_rule_Eval f hs ds := Eq.trans rfl rfl
@[simp] theorem c_rule_Eval_g (g : Nat) : c_rule_Eval.g g = gl g := Eq.trans rfl rfl
noncomputable def L_rule_Eval (i n : Nat) (s : St) : Option (E × St) := atN Try.prog c_rule_Eval an_rule_Eval 19 (bodyOf Try.f19) i n s
noncomputable def H_rule_Eval (n i : Nat) (s : St) : Option (E × St) := atH Try.prog c_rule_Eval an_rule_Eval 19 (bodyOf Try.f19) n i s
@[simp] theorem H_rule_Eval_eq (n i : Nat) (s : St) : H_rule_Eval n i s = L_rule_Eval i n (headOf (an_rule_Eval.loops.lookup i) s) := rfl
noncomputable def R_rule_Eval (i : Nat) (s : St) : Option (E × St) := stepL Try.prog c_rule_Eval an_rule_Eval 19 (bodyOf Try.f19) i s
theorem lok_rule_Eval : okLoops (bodyOf Try.f19) = true := by kernel_rfl
noncomputable def F_rule_Eval (ds : List D) : Option D := runF Try.prog c_rule_Eval an_rule_Eval 19 (bodyOf Try.f19) [.tmp 4, .tmp 5] ds
theorem F_rule_Eval_eq (ds : List D) : F_rule_Eval ds = runG Try.prog c_rule_Eval (H_rule_Eval bigL) an_rule_Eval 19 (bodyOf Try.f19) [.tmp 4, .tmp 5] ds := runG_eq lok_rule_Eval _ ds
theorem C_rule_Eval (ds : List D) (r : D) (h : F_rule_Eval ds = some r) : Contract Try.prog gl 19 ds r := contract_of mix Try.func19 rfl (by kernel_rfl) (by kernel_rfl) (by decide) (call := c_rule_Eval) ⟨callOf_ok cl_rule_Eval ⟨C_rule_visit, C_rule_names, C_rule_value, trivial⟩, callOfE_ok ce_rule_Eval trivial⟩ h
-- sawmill/rule.Check: loops []; state: params 0..1, then [2, 4, 5]
attribute [simp] Try.f14
noncomputable def an_rule_Check : Ann := ⟨[2, 4, 5], [10, 15], [], [], [], some [4], [], [], [], []⟩
@[simp] theorem an_rule_Check_draws : an_rule_Check.draws = [] := rfl
@[simp] theorem an_rule_Check_exits : an_rule_Check.exits = [] := rfl
@[simp] theorem an_rule_Check_rets : an_rule_Check.rets = some [4] := rfl
@[simp] theorem an_rule_Check_keep : an_rule_Check.keep = [2, 4, 5] := rfl
@[simp] theorem an_rule_Check_cond : an_rule_Check.cond = [10, 15] := rfl
@[simp] theorem an_rule_Check_rows : an_rule_Check.rows = [] := rfl
@[simp] theorem an_rule_Check_loops : an_rule_Check.loops = [] := rfl
@[simp] theorem an_rule_Check_ecalls : an_rule_Check.ecalls = [] := rfl
@[simp] theorem an_rule_Check_crows : an_rule_Check.crows = [] := rfl
@[simp] theorem an_rule_Check_tails : an_rule_Check.tails = [] := rfl
@[simp] noncomputable def cl_rule_Check : List (Nat × (List D → Option D)) := [(32, F_rule_visit), (33, F_rule_isCondition)]
@[simp] noncomputable def ce_rule_Check : List (Nat × (List (Nat × O) → List D → Option (D × List (Nat × O)))) := []
noncomputable def c_rule_Check : CT := ⟨callOf (cl_rule_Check ), callOfE ce_rule_Check, gl⟩
@[simp] theorem c_rule_Check_p (f : FuncId) (ds : List D) : c_rule_Check.p f ds = callOf (cl_rule_Check ) f ds := Eq.trans rfl rfl
@[simp] theorem c_rule_Check_e (f : FuncId) (hs : List (Nat × O)) (ds : List D) : c_rule_Check.e f hs ds = callOfE ce_rule_Check f hs ds := Eq.trans rfl rfl
@[simp] theorem c_rule_Check_g (g : Nat) : c_rule_Check.g g = gl g := Eq.trans rfl rfl
noncomputable def L_rule_Check (i n : Nat) (s : St) : Option (E × St) := atN Try.prog c_rule_Check an_rule_Check 16 (bodyOf Try.f14) i n s
noncomputable def H_rule_Check (n i : Nat) (s : St) : Option (E × St) := atH Try.prog c_rule_Check an_rule_Check 16 (bodyOf Try.f14) n i s
@[simp] theorem H_rule_Check_eq (n i : Nat) (s : St) : H_rule_Check n i s = L_rule_Check i n (headOf (an_rule_Check.loops.lookup i) s) := rfl
noncomputable def R_rule_Check (i : Nat) (s : St) : Option (E × St) := stepL Try.prog c_rule_Check an_rule_Check 16 (bodyOf Try.f14) i s
theorem lok_rule_Check : okLoops (bodyOf Try.f14) = true := by kernel_rfl
noncomputable def F_rule_Check (ds : List D) : Option D := runF Try.prog c_rule_Check an_rule_Check 16 (bodyOf Try.f14) [.tmp 4] ds
theorem F_rule_Check_eq (ds : List D) : F_rule_Check ds = runG Try.prog c_rule_Check (H_rule_Check bigL) an_rule_Check 16 (bodyOf Try.f14) [.tmp 4] ds := runG_eq lok_rule_Check _ ds
theorem C_rule_Check (ds : List D) (r : D) (h : F_rule_Check ds = some r) : Contract Try.prog gl 14 ds r := contract_of mix Try.func14 rfl (by kernel_rfl) (by kernel_rfl) (by decide) (call := c_rule_Check) ⟨callOf_ok cl_rule_Check ⟨C_rule_visit, C_rule_isCondition, trivial⟩, callOfE_ok ce_rule_Check trivial⟩ h
-- sawmill/rule.CheckRules: loops [4]; state: params 0..1, then [4, 6, 7, 11, 12, 13]
attribute [simp] Try.f24
noncomputable def an_rule_CheckRules : Ann := ⟨[0, 4, 6, 7, 11, 12, 13], [10, 14, 24, 30], [], [(4, [1, 11, 12, 13])], [(0, []), (1, [1, 11, 12, 13])], some [4], [], [], [], []⟩
@[simp] theorem an_rule_CheckRules_draws : an_rule_CheckRules.draws = [] := rfl
@[simp] theorem an_rule_CheckRules_exits : an_rule_CheckRules.exits = [(0, []), (1, [1, 11, 12, 13])] := rfl
@[simp] theorem an_rule_CheckRules_rets : an_rule_CheckRules.rets = some [4] := rfl
@[simp] theorem an_rule_CheckRules_keep : an_rule_CheckRules.keep = [0, 4, 6, 7, 11, 12, 13] := rfl
@[simp] theorem an_rule_CheckRules_cond : an_rule_CheckRules.cond = [10, 14, 24, 30] := rfl
@[simp] theorem an_rule_CheckRules_rows : an_rule_CheckRules.rows = [] := rfl
@[simp] theorem an_rule_CheckRules_loops : an_rule_CheckRules.loops = [(4, [1, 11, 12, 13])] := rfl
@[simp] theorem an_rule_CheckRules_ecalls : an_rule_CheckRules.ecalls = [] := rfl
@[simp] theorem an_rule_CheckRules_crows : an_rule_CheckRules.crows = [] := rfl
@[simp] theorem an_rule_CheckRules_tails : an_rule_CheckRules.tails = [] := rfl
@[simp] noncomputable def cl_rule_CheckRules : List (Nat × (List D → Option D)) := [(14, F_rule_Check)]
@[simp] noncomputable def ce_rule_CheckRules : List (Nat × (List (Nat × O) → List D → Option (D × List (Nat × O)))) := []
noncomputable def c_rule_CheckRules : CT := ⟨callOf (cl_rule_CheckRules ), callOfE ce_rule_CheckRules, gl⟩
@[simp] theorem c_rule_CheckRules_p (f : FuncId) (ds : List D) : c_rule_CheckRules.p f ds = callOf (cl_rule_CheckRules ) f ds := Eq.trans rfl rfl
@[simp] theorem c_rule_CheckRules_e (f : FuncId) (hs : List (Nat × O)) (ds : List D) : c_rule_CheckRules.e f hs ds = callOfE ce_rule_CheckRules f hs ds := Eq.trans rfl rfl
@[simp] theorem c_rule_CheckRules_g (g : Nat) : c_rule_CheckRules.g g = gl g := Eq.trans rfl rfl
noncomputable def L_rule_CheckRules (i n : Nat) (s : St) : Option (E × St) := atN Try.prog c_rule_CheckRules an_rule_CheckRules 33 (bodyOf Try.f24) i n s
noncomputable def H_rule_CheckRules (n i : Nat) (s : St) : Option (E × St) := atH Try.prog c_rule_CheckRules an_rule_CheckRules 33 (bodyOf Try.f24) n i s
@[simp] theorem H_rule_CheckRules_eq (n i : Nat) (s : St) : H_rule_CheckRules n i s = L_rule_CheckRules i n (headOf (an_rule_CheckRules.loops.lookup i) s) := rfl
noncomputable def R_rule_CheckRules (i : Nat) (s : St) : Option (E × St) := stepL Try.prog c_rule_CheckRules an_rule_CheckRules 33 (bodyOf Try.f24) i s
theorem lok_rule_CheckRules : okLoops (bodyOf Try.f24) = true := by kernel_rfl
theorem L_rule_CheckRules_zero (i : Nat) (s : St) : L_rule_CheckRules i 0 s = none := rfl
theorem L_rule_CheckRules_succ (i n : Nat) (s : St) : L_rule_CheckRules i (n + 1) s = andThen (R_rule_CheckRules i s) (H_rule_CheckRules n i) := atN_succ lok_rule_CheckRules i n s
theorem R_rule_CheckRules_eq (i : Nat) (s : St) : R_rule_CheckRules i s = runS Try.prog c_rule_CheckRules (H_rule_CheckRules bigL) an_rule_CheckRules 33 (loopAt (bodyOf Try.f24) i) s := rfl
noncomputable def F_rule_CheckRules (ds : List D) : Option D := runF Try.prog c_rule_CheckRules an_rule_CheckRules 33 (bodyOf Try.f24) [.tmp 4] ds
theorem F_rule_CheckRules_eq (ds : List D) : F_rule_CheckRules ds = runG Try.prog c_rule_CheckRules (H_rule_CheckRules bigL) an_rule_CheckRules 33 (bodyOf Try.f24) [.tmp 4] ds := runG_eq lok_rule_CheckRules _ ds
theorem C_rule_CheckRules (ds : List D) (r : D) (h : F_rule_CheckRules ds = some r) : Contract Try.prog gl 24 ds r := contract_of mix Try.func24 rfl (by kernel_rfl) (by kernel_rfl) (by decide) (call := c_rule_CheckRules) ⟨callOf_ok cl_rule_CheckRules ⟨C_rule_Check, trivial⟩, callOfE_ok ce_rule_CheckRules trivial⟩ h
-- sawmill/rule.Grade: loops [5]; state: params 0..1, then [4, 5, 6, 7, 8, 9, 10, 11, 19, 20, 21]
attribute [simp] Try.f22
noncomputable def an_rule_Grade : Ann := ⟨[0, 1, 4, 5, 6, 7, 8, 9, 10, 11, 19, 20, 21], [17, 22, 34, 37], [], [(5, [1, 19, 20, 21])], [(0, []), (1, [1, 19, 20, 21])], some [4, 5, 6], [], [], [], []⟩
@[simp] theorem an_rule_Grade_draws : an_rule_Grade.draws = [] := rfl
@[simp] theorem an_rule_Grade_exits : an_rule_Grade.exits = [(0, []), (1, [1, 19, 20, 21])] := rfl
@[simp] theorem an_rule_Grade_rets : an_rule_Grade.rets = some [4, 5, 6] := rfl
@[simp] theorem an_rule_Grade_keep : an_rule_Grade.keep = [0, 1, 4, 5, 6, 7, 8, 9, 10, 11, 19, 20, 21] := rfl
@[simp] theorem an_rule_Grade_cond : an_rule_Grade.cond = [17, 22, 34, 37] := rfl
@[simp] theorem an_rule_Grade_rows : an_rule_Grade.rows = [] := rfl
@[simp] theorem an_rule_Grade_loops : an_rule_Grade.loops = [(5, [1, 19, 20, 21])] := rfl
@[simp] theorem an_rule_Grade_ecalls : an_rule_Grade.ecalls = [] := rfl
@[simp] theorem an_rule_Grade_crows : an_rule_Grade.crows = [] := rfl
@[simp] theorem an_rule_Grade_tails : an_rule_Grade.tails = [] := rfl
@[simp] noncomputable def cl_rule_Grade : List (Nat × (List D → Option D)) := [(24, F_rule_CheckRules), (40, F_rule_names), (41, F_rule_value)]
@[simp] noncomputable def ce_rule_Grade : List (Nat × (List (Nat × O) → List D → Option (D × List (Nat × O)))) := []
noncomputable def c_rule_Grade : CT := ⟨callOf (cl_rule_Grade ), callOfE ce_rule_Grade, gl⟩
@[simp] theorem c_rule_Grade_p (f : FuncId) (ds : List D) : c_rule_Grade.p f ds = callOf (cl_rule_Grade ) f ds := Eq.trans rfl rfl
@[simp] theorem c_rule_Grade_e (f : FuncId) (hs : List (Nat × O)) (ds : List D) : c_rule_Grade.e f hs ds = callOfE ce_rule_Grade f hs ds := Eq.trans rfl rfl
@[simp] theorem c_rule_Grade_g (g : Nat) : c_rule_Grade.g g = gl g := Eq.trans rfl rfl
noncomputable def L_rule_Grade (i n : Nat) (s : St) : Option (E × St) := atN Try.prog c_rule_Grade an_rule_Grade 42 (bodyOf Try.f22) i n s
noncomputable def H_rule_Grade (n i : Nat) (s : St) : Option (E × St) := atH Try.prog c_rule_Grade an_rule_Grade 42 (bodyOf Try.f22) n i s
@[simp] theorem H_rule_Grade_eq (n i : Nat) (s : St) : H_rule_Grade n i s = L_rule_Grade i n (headOf (an_rule_Grade.loops.lookup i) s) := rfl
noncomputable def R_rule_Grade (i : Nat) (s : St) : Option (E × St) := stepL Try.prog c_rule_Grade an_rule_Grade 42 (bodyOf Try.f22) i s
theorem lok_rule_Grade : okLoops (bodyOf Try.f22) = true := by kernel_rfl
theorem L_rule_Grade_zero (i : Nat) (s : St) : L_rule_Grade i 0 s = none := rfl
theorem L_rule_Grade_succ (i n : Nat) (s : St) : L_rule_Grade i (n + 1) s = andThen (R_rule_Grade i s) (H_rule_Grade n i) := atN_succ lok_rule_Grade i n s
theorem R_rule_Grade_eq (i : Nat) (s : St) : R_rule_Grade i s = runS Try.prog c_rule_Grade (H_rule_Grade bigL) an_rule_Grade 42 (loopAt (bodyOf Try.f22) i) s := rfl
noncomputable def F_rule_Grade (ds : List D) : Option D := runF Try.prog c_rule_Grade an_rule_Grade 42 (bodyOf Try.f22) [.tmp 4, .tmp 5, .tmp 6] ds
theorem F_rule_Grade_eq (ds : List D) : F_rule_Grade ds = runG Try.prog c_rule_Grade (H_rule_Grade bigL) an_rule_Grade 42 (bodyOf Try.f22) [.tmp 4, .tmp 5, .tmp 6] ds := runG_eq lok_rule_Grade _ ds
theorem C_rule_Grade (ds : List D) (r : D) (h : F_rule_Grade ds = some r) : Contract Try.prog gl 22 ds r := contract_of mix Try.func22 rfl (by kernel_rfl) (by kernel_rfl) (by decide) (call := c_rule_Grade) ⟨callOf_ok cl_rule_Grade ⟨C_rule_CheckRules, C_rule_names, C_rule_value, trivial⟩, callOfE_ok ce_rule_Grade trivial⟩ h
-- sawmill/rule.mentioned: loops [7]; state: params 0..1, then [2, 4, 5, 7, 19, 20, 21]; RECURSIVE
attribute [simp] Try.f36
noncomputable def an_rule_mentioned : Ann := ⟨[1, 2, 4, 5, 7, 19, 20, 21], [9, 12, 22], [5], [(7, [1, 5, 19, 20, 21])], [(0, [5]), (1, [1, 5, 19, 20, 21])], some [4], [], [], [], []⟩
@[simp] theorem an_rule_mentioned_draws : an_rule_mentioned.draws = [] := rfl
@[simp] theorem an_rule_mentioned_exits : an_rule_mentioned.exits = [(0, [5]), (1, [1, 5, 19, 20, 21])] := rfl
@[simp] theorem an_rule_mentioned_rets : an_rule_mentioned.rets = some [4] := rfl
@[simp] theorem an_rule_mentioned_keep : an_rule_mentioned.keep = [1, 2, 4, 5, 7, 19, 20, 21] := rfl
@[simp] theorem an_rule_mentioned_cond : an_rule_mentioned.cond = [9, 12, 22] := rfl
@[simp] theorem an_rule_mentioned_rows : an_rule_mentioned.rows = [5] := rfl
@[simp] theorem an_rule_mentioned_loops : an_rule_mentioned.loops = [(7, [1, 5, 19, 20, 21])] := rfl
@[simp] theorem an_rule_mentioned_ecalls : an_rule_mentioned.ecalls = [] := rfl
@[simp] theorem an_rule_mentioned_crows : an_rule_mentioned.crows = [] := rfl
@[simp] theorem an_rule_mentioned_tails : an_rule_mentioned.tails = [] := rfl
@[simp] noncomputable def cl_rule_mentioned (self : List D → Option D) : List (Nat × (List D → Option D)) := [(36, self)]
@[simp] noncomputable def ce_rule_mentioned : List (Nat × (List (Nat × O) → List D → Option (D × List (Nat × O)))) := []
noncomputable def c_rule_mentioned (self : List D → Option D) : CT := ⟨callOf (cl_rule_mentioned self ), callOfE ce_rule_mentioned, gl⟩
@[simp] theorem c_rule_mentioned_p (self : List D → Option D) (f : FuncId) (ds : List D) : (c_rule_mentioned self).p f ds = callOf (cl_rule_mentioned self ) f ds := Eq.trans rfl rfl
@[simp] theorem c_rule_mentioned_e (self : List D → Option D) (f : FuncId) (hs : List (Nat × O)) (ds : List D) : (c_rule_mentioned self).e f hs ds = callOfE ce_rule_mentioned f hs ds := Eq.trans rfl rfl
@[simp] theorem c_rule_mentioned_g (self : List D → Option D) (g : Nat) : (c_rule_mentioned self).g g = gl g := Eq.trans rfl rfl
noncomputable def L_rule_mentioned (self : List D → Option D) (i n : Nat) (s : St) : Option (E × St) := atN Try.prog (c_rule_mentioned self) an_rule_mentioned 33 (bodyOf Try.f36) i n s
noncomputable def H_rule_mentioned (self : List D → Option D) (n i : Nat) (s : St) : Option (E × St) := atH Try.prog (c_rule_mentioned self) an_rule_mentioned 33 (bodyOf Try.f36) n i s
@[simp] theorem H_rule_mentioned_eq (self : List D → Option D) (n i : Nat) (s : St) : H_rule_mentioned self n i s = L_rule_mentioned self i n (headOf (an_rule_mentioned.loops.lookup i) s) := rfl
noncomputable def R_rule_mentioned (self : List D → Option D) (i : Nat) (s : St) : Option (E × St) := stepL Try.prog (c_rule_mentioned self) an_rule_mentioned 33 (bodyOf Try.f36) i s
theorem lok_rule_mentioned : okLoops (bodyOf Try.f36) = true := by kernel_rfl
theorem L_rule_mentioned_zero (self : List D → Option D) (i : Nat) (s : St) : L_rule_mentioned self i 0 s = none := rfl
theorem L_rule_mentioned_succ (self : List D → Option D) (i n : Nat) (s : St) : L_rule_mentioned self i (n + 1) s = andThen (R_rule_mentioned self i s) (H_rule_mentioned self n i) := atN_succ lok_rule_mentioned i n s
theorem R_rule_mentioned_eq (self : List D → Option D) (i : Nat) (s : St) : R_rule_mentioned self i s = runS Try.prog (c_rule_mentioned self) (H_rule_mentioned self bigL) an_rule_mentioned 33 (loopAt (bodyOf Try.f36) i) s := rfl
noncomputable def FN_rule_mentioned : Nat → List D → Option D
  | 0 => fun _ => none
  | n + 1 => fun ds => runF Try.prog (c_rule_mentioned (FN_rule_mentioned n)) an_rule_mentioned 33 (bodyOf Try.f36) [.tmp 4] ds
theorem FN_rule_mentioned_eq (n : Nat) (ds : List D) : FN_rule_mentioned (n + 1) ds = runG Try.prog (c_rule_mentioned (FN_rule_mentioned n)) (H_rule_mentioned (FN_rule_mentioned n) bigL) an_rule_mentioned 33 (bodyOf Try.f36) [.tmp 4] ds := runG_eq lok_rule_mentioned _ ds
theorem CN_rule_mentioned : ∀ (n : Nat) (ds : List D) (r : D), FN_rule_mentioned n ds = some r → Contract Try.prog gl 36 ds r
  | 0, _, _, h => by cases h
  | n + 1, ds, r, h => by
    have ih := CN_rule_mentioned n
    exact contract_of mix Try.func36 rfl (by kernel_rfl) (by kernel_rfl) (by decide) (call := c_rule_mentioned (FN_rule_mentioned n)) ⟨callOf_ok (cl_rule_mentioned (FN_rule_mentioned n)) ⟨ih, trivial⟩, callOfE_ok ce_rule_mentioned trivial⟩ h
noncomputable def F_rule_mentioned (ds : List D) : Option D := FN_rule_mentioned 1000 ds
theorem C_rule_mentioned (ds : List D) (r : D) (h : F_rule_mentioned ds = some r) : Contract Try.prog gl 36 ds r := CN_rule_mentioned 1000 ds r h
-- sawmill/rule.mentioned: loops [7]; state: params 0..1, then [2, 4, 5, 7, 19, 20, 21]; WITH OBJECTS
attribute [simp] Try.f36
noncomputable def an_rule_mentioned_obj : Ann := ⟨[1, 2, 4, 5, 7, 19, 20, 21], [9, 12, 22], [5], [(7, [1, 5, 19, 20, 21])], [(0, [5]), (1, [1, 5, 19, 20, 21])], some [4], [], [], [], []⟩
@[simp] theorem an_rule_mentioned_obj_draws : an_rule_mentioned_obj.draws = [] := rfl
@[simp] theorem an_rule_mentioned_obj_exits : an_rule_mentioned_obj.exits = [(0, [5]), (1, [1, 5, 19, 20, 21])] := rfl
@[simp] theorem an_rule_mentioned_obj_rets : an_rule_mentioned_obj.rets = some [4] := rfl
@[simp] theorem an_rule_mentioned_obj_keep : an_rule_mentioned_obj.keep = [1, 2, 4, 5, 7, 19, 20, 21] := rfl
@[simp] theorem an_rule_mentioned_obj_cond : an_rule_mentioned_obj.cond = [9, 12, 22] := rfl
@[simp] theorem an_rule_mentioned_obj_rows : an_rule_mentioned_obj.rows = [5] := rfl
@[simp] theorem an_rule_mentioned_obj_loops : an_rule_mentioned_obj.loops = [(7, [1, 5, 19, 20, 21])] := rfl
@[simp] theorem an_rule_mentioned_obj_ecalls : an_rule_mentioned_obj.ecalls = [] := rfl
@[simp] theorem an_rule_mentioned_obj_crows : an_rule_mentioned_obj.crows = [] := rfl
@[simp] theorem an_rule_mentioned_obj_tails : an_rule_mentioned_obj.tails = [] := rfl
@[simp] noncomputable def cl_rule_mentioned_obj : List (Nat × (List D → Option D)) := [(36, F_rule_mentioned)]
@[simp] noncomputable def ce_rule_mentioned_obj : List (Nat × (List (Nat × O) → List D → Option (D × List (Nat × O)))) := []
noncomputable def c_rule_mentioned_obj : CT := ⟨callOf (cl_rule_mentioned_obj ), callOfE ce_rule_mentioned_obj, gl⟩
@[simp] theorem c_rule_mentioned_obj_p (f : FuncId) (ds : List D) : c_rule_mentioned_obj.p f ds = callOf (cl_rule_mentioned_obj ) f ds := Eq.trans rfl rfl
@[simp] theorem c_rule_mentioned_obj_e (f : FuncId) (hs : List (Nat × O)) (ds : List D) : c_rule_mentioned_obj.e f hs ds = callOfE ce_rule_mentioned_obj f hs ds := Eq.trans rfl rfl
@[simp] theorem c_rule_mentioned_obj_g (g : Nat) : c_rule_mentioned_obj.g g = gl g := Eq.trans rfl rfl
noncomputable def L_rule_mentioned_obj (i n : Nat) (s : St) : Option (E × St) := atN Try.prog c_rule_mentioned_obj an_rule_mentioned_obj 33 (bodyOf Try.f36) i n s
noncomputable def H_rule_mentioned_obj (n i : Nat) (s : St) : Option (E × St) := atH Try.prog c_rule_mentioned_obj an_rule_mentioned_obj 33 (bodyOf Try.f36) n i s
@[simp] theorem H_rule_mentioned_obj_eq (n i : Nat) (s : St) : H_rule_mentioned_obj n i s = L_rule_mentioned_obj i n (headOf (an_rule_mentioned_obj.loops.lookup i) s) := rfl
noncomputable def R_rule_mentioned_obj (i : Nat) (s : St) : Option (E × St) := stepL Try.prog c_rule_mentioned_obj an_rule_mentioned_obj 33 (bodyOf Try.f36) i s
theorem lok_rule_mentioned_obj : okLoops (bodyOf Try.f36) = true := by kernel_rfl
theorem L_rule_mentioned_obj_zero (i : Nat) (s : St) : L_rule_mentioned_obj i 0 s = none := rfl
theorem L_rule_mentioned_obj_succ (i n : Nat) (s : St) : L_rule_mentioned_obj i (n + 1) s = andThen (R_rule_mentioned_obj i s) (H_rule_mentioned_obj n i) := atN_succ lok_rule_mentioned_obj i n s
theorem R_rule_mentioned_obj_eq (i : Nat) (s : St) : R_rule_mentioned_obj i s = runS Try.prog c_rule_mentioned_obj (H_rule_mentioned_obj bigL) an_rule_mentioned_obj 33 (loopAt (bodyOf Try.f36) i) s := rfl
noncomputable def E_rule_mentioned_obj (hs : List (Nat × O)) (ds : List D) : Option (D × List (Nat × O)) := runE Try.prog c_rule_mentioned_obj an_rule_mentioned_obj 33 (bodyOf Try.f36) [.tmp 4] hs ds
theorem E_rule_mentioned_obj_eq (hs : List (Nat × O)) (ds : List D) : E_rule_mentioned_obj hs ds = runGE Try.prog c_rule_mentioned_obj (H_rule_mentioned_obj bigL) an_rule_mentioned_obj 33 (bodyOf Try.f36) [.tmp 4] hs ds := runGE_eq lok_rule_mentioned_obj _ hs ds
theorem CE_rule_mentioned_obj (hs : List (Nat × O)) (ds : List D) (r : D) (hs' : List (Nat × O)) (h : E_rule_mentioned_obj hs ds = some (r, hs')) : ContractE Try.prog gl 36 hs ds r hs' := contractE_of mix Try.func36 rfl (by kernel_rfl) (by kernel_rfl) (by decide) (call := c_rule_mentioned_obj) ⟨callOf_ok cl_rule_mentioned_obj ⟨C_rule_mentioned, trivial⟩, callOfE_ok ce_rule_mentioned_obj trivial⟩ h
-- sawmill/rule.Uses: loops []; state: params 0..0, then [1, 2, 3]
attribute [simp] Try.f17
noncomputable def an_rule_Uses : Ann := ⟨[1, 2, 3], [], [3], [], [], some [2], [], [(36, false), (37, true), (38, true)], [], []⟩
@[simp] theorem an_rule_Uses_draws : an_rule_Uses.draws = [] := rfl
@[simp] theorem an_rule_Uses_exits : an_rule_Uses.exits = [] := rfl
@[simp] theorem an_rule_Uses_rets : an_rule_Uses.rets = some [2] := rfl
@[simp] theorem an_rule_Uses_keep : an_rule_Uses.keep = [1, 2, 3] := rfl
@[simp] theorem an_rule_Uses_cond : an_rule_Uses.cond = [] := rfl
@[simp] theorem an_rule_Uses_rows : an_rule_Uses.rows = [3] := rfl
@[simp] theorem an_rule_Uses_loops : an_rule_Uses.loops = [] := rfl
@[simp] theorem an_rule_Uses_ecalls : an_rule_Uses.ecalls = [(36, false), (37, true), (38, true)] := rfl
@[simp] theorem an_rule_Uses_crows : an_rule_Uses.crows = [] := rfl
@[simp] theorem an_rule_Uses_tails : an_rule_Uses.tails = [] := rfl
@[simp] noncomputable def cl_rule_Uses : List (Nat × (List D → Option D)) := []
@[simp] noncomputable def ce_rule_Uses : List (Nat × (List (Nat × O) → List D → Option (D × List (Nat × O)))) := [(36, E_rule_mentioned_obj), (37, E_sortS), (38, E_compactS)]
noncomputable def c_rule_Uses : CT := ⟨callOf (cl_rule_Uses ), callOfE ce_rule_Uses, gl⟩
@[simp] theorem c_rule_Uses_p (f : FuncId) (ds : List D) : c_rule_Uses.p f ds = callOf (cl_rule_Uses ) f ds := Eq.trans rfl rfl
@[simp] theorem c_rule_Uses_e (f : FuncId) (hs : List (Nat × O)) (ds : List D) : c_rule_Uses.e f hs ds = callOfE ce_rule_Uses f hs ds := Eq.trans rfl rfl
@[simp] theorem c_rule_Uses_g (g : Nat) : c_rule_Uses.g g = gl g := Eq.trans rfl rfl
noncomputable def L_rule_Uses (i n : Nat) (s : St) : Option (E × St) := atN Try.prog c_rule_Uses an_rule_Uses 10 (bodyOf Try.f17) i n s
noncomputable def H_rule_Uses (n i : Nat) (s : St) : Option (E × St) := atH Try.prog c_rule_Uses an_rule_Uses 10 (bodyOf Try.f17) n i s
@[simp] theorem H_rule_Uses_eq (n i : Nat) (s : St) : H_rule_Uses n i s = L_rule_Uses i n (headOf (an_rule_Uses.loops.lookup i) s) := rfl
noncomputable def R_rule_Uses (i : Nat) (s : St) : Option (E × St) := stepL Try.prog c_rule_Uses an_rule_Uses 10 (bodyOf Try.f17) i s
theorem lok_rule_Uses : okLoops (bodyOf Try.f17) = true := by kernel_rfl
noncomputable def F_rule_Uses (ds : List D) : Option D := runF Try.prog c_rule_Uses an_rule_Uses 10 (bodyOf Try.f17) [.tmp 2] ds
theorem F_rule_Uses_eq (ds : List D) : F_rule_Uses ds = runG Try.prog c_rule_Uses (H_rule_Uses bigL) an_rule_Uses 10 (bodyOf Try.f17) [.tmp 2] ds := runG_eq lok_rule_Uses _ ds
theorem C_rule_Uses (ds : List D) (r : D) (h : F_rule_Uses ds = some r) : Contract Try.prog gl 17 ds r := contract_of mix Try.func17 rfl (by kernel_rfl) (by kernel_rfl) (by decide) (call := c_rule_Uses) ⟨callOf_ok cl_rule_Uses trivial, callOfE_ok ce_rule_Uses ⟨CE_rule_mentioned_obj, CE_sortS, CE_compactS, trivial⟩⟩ h
-- sawmill/sawmillref43.Same: loops [4]; state: params 0..1, then [4, 5]
attribute [simp] Try.f16
noncomputable def an_ref43_Same : Ann := ⟨[0, 1, 4, 5], [10, 14, 25], [], [(4, [0, 1, 5])], [(0, []), (1, [0, 1, 5])], some [4], [(6, 8)], [], [], []⟩
@[simp] theorem an_ref43_Same_draws : an_ref43_Same.draws = [(6, 8)] := rfl
@[simp] theorem an_ref43_Same_exits : an_ref43_Same.exits = [(0, []), (1, [0, 1, 5])] := rfl
@[simp] theorem an_ref43_Same_rets : an_ref43_Same.rets = some [4] := rfl
@[simp] theorem an_ref43_Same_keep : an_ref43_Same.keep = [0, 1, 4, 5] := rfl
@[simp] theorem an_ref43_Same_cond : an_ref43_Same.cond = [10, 14, 25] := rfl
@[simp] theorem an_ref43_Same_rows : an_ref43_Same.rows = [] := rfl
@[simp] theorem an_ref43_Same_loops : an_ref43_Same.loops = [(4, [0, 1, 5])] := rfl
@[simp] theorem an_ref43_Same_ecalls : an_ref43_Same.ecalls = [] := rfl
@[simp] theorem an_ref43_Same_crows : an_ref43_Same.crows = [] := rfl
@[simp] theorem an_ref43_Same_tails : an_ref43_Same.tails = [] := rfl
@[simp] noncomputable def cl_ref43_Same : List (Nat × (List D → Option D)) := []
@[simp] noncomputable def ce_ref43_Same : List (Nat × (List (Nat × O) → List D → Option (D × List (Nat × O)))) := []
noncomputable def c_ref43_Same : CT := ⟨callOf (cl_ref43_Same ), callOfE ce_ref43_Same, gl⟩
@[simp] theorem c_ref43_Same_p (f : FuncId) (ds : List D) : c_ref43_Same.p f ds = callOf (cl_ref43_Same ) f ds := Eq.trans rfl rfl
@[simp] theorem c_ref43_Same_e (f : FuncId) (hs : List (Nat × O)) (ds : List D) : c_ref43_Same.e f hs ds = callOfE ce_ref43_Same f hs ds := Eq.trans rfl rfl
@[simp] theorem c_ref43_Same_g (g : Nat) : c_ref43_Same.g g = gl g := Eq.trans rfl rfl
noncomputable def L_ref43_Same (i n : Nat) (s : St) : Option (E × St) := atN Try.prog c_ref43_Same an_ref43_Same 26 (bodyOf Try.f16) i n s
noncomputable def H_ref43_Same (n i : Nat) (s : St) : Option (E × St) := atH Try.prog c_ref43_Same an_ref43_Same 26 (bodyOf Try.f16) n i s
@[simp] theorem H_ref43_Same_eq (n i : Nat) (s : St) : H_ref43_Same n i s = L_ref43_Same i n (headOf (an_ref43_Same.loops.lookup i) s) := rfl
noncomputable def R_ref43_Same (i : Nat) (s : St) : Option (E × St) := stepL Try.prog c_ref43_Same an_ref43_Same 26 (bodyOf Try.f16) i s
theorem lok_ref43_Same : okLoops (bodyOf Try.f16) = true := by kernel_rfl
theorem L_ref43_Same_zero (i : Nat) (s : St) : L_ref43_Same i 0 s = none := rfl
theorem L_ref43_Same_succ (i n : Nat) (s : St) : L_ref43_Same i (n + 1) s = andThen (R_ref43_Same i s) (H_ref43_Same n i) := atN_succ lok_ref43_Same i n s
theorem R_ref43_Same_eq (i : Nat) (s : St) : R_ref43_Same i s = runS Try.prog c_ref43_Same (H_ref43_Same bigL) an_ref43_Same 26 (loopAt (bodyOf Try.f16) i) s := rfl
noncomputable def F_ref43_Same (ds : List D) : Option D := runF Try.prog c_ref43_Same an_ref43_Same 26 (bodyOf Try.f16) [.tmp 4] ds
theorem F_ref43_Same_eq (ds : List D) : F_ref43_Same ds = runG Try.prog c_ref43_Same (H_ref43_Same bigL) an_ref43_Same 26 (bodyOf Try.f16) [.tmp 4] ds := runG_eq lok_ref43_Same _ ds
theorem C_ref43_Same (ds : List D) (r : D) (h : F_ref43_Same ds = some r) : Contract Try.prog gl 16 ds r := contract_of mix Try.func16 rfl (by kernel_rfl) (by kernel_rfl) (by decide) (call := c_ref43_Same) ⟨callOf_ok cl_ref43_Same trivial, callOfE_ok ce_ref43_Same trivial⟩ h
-- sawmill/sawmilllaw43.awake: loops []; state: params 0..-1, then [0, 1, 2, 3, 4, 5, 6, 7, 8, 9, 10, 11, 13, 14, 15, 16, 17]
attribute [simp] Try.f12
noncomputable def an_law43_awake : Ann := ⟨[0, 1, 2, 3, 4, 5, 6, 7, 8, 9, 10, 11, 13, 14, 15, 16, 17], [], [], [], [], some [0], [(9, 17)], [], [], []⟩
@[simp] theorem an_law43_awake_draws : an_law43_awake.draws = [(9, 17)] := rfl
@[simp] theorem an_law43_awake_exits : an_law43_awake.exits = [] := rfl
@[simp] theorem an_law43_awake_rets : an_law43_awake.rets = some [0] := rfl
@[simp] theorem an_law43_awake_keep : an_law43_awake.keep = [0, 1, 2, 3, 4, 5, 6, 7, 8, 9, 10, 11, 13, 14, 15, 16, 17] := rfl
@[simp] theorem an_law43_awake_cond : an_law43_awake.cond = [] := rfl
@[simp] theorem an_law43_awake_rows : an_law43_awake.rows = [] := rfl
@[simp] theorem an_law43_awake_loops : an_law43_awake.loops = [] := rfl
@[simp] theorem an_law43_awake_ecalls : an_law43_awake.ecalls = [] := rfl
@[simp] theorem an_law43_awake_crows : an_law43_awake.crows = [] := rfl
@[simp] theorem an_law43_awake_tails : an_law43_awake.tails = [] := rfl
@[simp] noncomputable def cl_law43_awake : List (Nat × (List D → Option D)) := [(14, F_rule_Check), (16, F_ref43_Same), (17, F_rule_Uses), (19, F_rule_Eval), (22, F_rule_Grade), (29, F_law43_two), (30, F_law43_name), (31, F_law43_num)]
@[simp] noncomputable def ce_law43_awake : List (Nat × (List (Nat × O) → List D → Option (D × List (Nat × O)))) := []
noncomputable def c_law43_awake : CT := ⟨callOf (cl_law43_awake ), callOfE ce_law43_awake, gl⟩
@[simp] theorem c_law43_awake_p (f : FuncId) (ds : List D) : c_law43_awake.p f ds = callOf (cl_law43_awake ) f ds := Eq.trans rfl rfl
@[simp] theorem c_law43_awake_e (f : FuncId) (hs : List (Nat × O)) (ds : List D) : c_law43_awake.e f hs ds = callOfE ce_law43_awake f hs ds := Eq.trans rfl rfl
@[simp] theorem c_law43_awake_g (g : Nat) : c_law43_awake.g g = gl g := Eq.trans rfl rfl
noncomputable def L_law43_awake (i n : Nat) (s : St) : Option (E × St) := atN Try.prog c_law43_awake an_law43_awake 146 (bodyOf Try.f12) i n s
noncomputable def H_law43_awake (n i : Nat) (s : St) : Option (E × St) := atH Try.prog c_law43_awake an_law43_awake 146 (bodyOf Try.f12) n i s
@[simp] theorem H_law43_awake_eq (n i : Nat) (s : St) : H_law43_awake n i s = L_law43_awake i n (headOf (an_law43_awake.loops.lookup i) s) := rfl
noncomputable def R_law43_awake (i : Nat) (s : St) : Option (E × St) := stepL Try.prog c_law43_awake an_law43_awake 146 (bodyOf Try.f12) i s
theorem lok_law43_awake : okLoops (bodyOf Try.f12) = true := by kernel_rfl
noncomputable def F_law43_awake (ds : List D) : Option D := runF Try.prog c_law43_awake an_law43_awake 146 (bodyOf Try.f12) [.tmp 0] ds
theorem F_law43_awake_eq (ds : List D) : F_law43_awake ds = runG Try.prog c_law43_awake (H_law43_awake bigL) an_law43_awake 146 (bodyOf Try.f12) [.tmp 0] ds := runG_eq lok_law43_awake _ ds
theorem C_law43_awake (ds : List D) (r : D) (h : F_law43_awake ds = some r) : Contract Try.prog gl 12 ds r := contract_of mix Try.func12 rfl (by kernel_rfl) (by kernel_rfl) (by decide) (call := c_law43_awake) ⟨callOf_ok cl_law43_awake ⟨C_rule_Check, C_ref43_Same, C_rule_Uses, C_rule_Eval, C_rule_Grade, C_law43_two, C_law43_name, C_law43_num, trivial⟩, callOfE_ok ce_law43_awake trivial⟩ h
-- sawmill/sawmillref43.Names: loops [3]; state: params 0..0, then [2, 3, 4]
attribute [simp] Try.f13
noncomputable def an_ref43_Names : Ann := ⟨[0, 2, 3, 4], [8], [3], [(3, [0, 3, 4])], [(0, [3]), (1, [0, 3, 4])], some [2], [], [], [], []⟩
@[simp] theorem an_ref43_Names_draws : an_ref43_Names.draws = [] := rfl
@[simp] theorem an_ref43_Names_exits : an_ref43_Names.exits = [(0, [3]), (1, [0, 3, 4])] := rfl
@[simp] theorem an_ref43_Names_rets : an_ref43_Names.rets = some [2] := rfl
@[simp] theorem an_ref43_Names_keep : an_ref43_Names.keep = [0, 2, 3, 4] := rfl
@[simp] theorem an_ref43_Names_cond : an_ref43_Names.cond = [8] := rfl
@[simp] theorem an_ref43_Names_rows : an_ref43_Names.rows = [3] := rfl
@[simp] theorem an_ref43_Names_loops : an_ref43_Names.loops = [(3, [0, 3, 4])] := rfl
@[simp] theorem an_ref43_Names_ecalls : an_ref43_Names.ecalls = [] := rfl
@[simp] theorem an_ref43_Names_crows : an_ref43_Names.crows = [] := rfl
@[simp] theorem an_ref43_Names_tails : an_ref43_Names.tails = [] := rfl
@[simp] noncomputable def cl_ref43_Names : List (Nat × (List D → Option D)) := []
@[simp] noncomputable def ce_ref43_Names : List (Nat × (List (Nat × O) → List D → Option (D × List (Nat × O)))) := []
noncomputable def c_ref43_Names : CT := ⟨callOf (cl_ref43_Names ), callOfE ce_ref43_Names, gl⟩
@[simp] theorem c_ref43_Names_p (f : FuncId) (ds : List D) : c_ref43_Names.p f ds = callOf (cl_ref43_Names ) f ds := Eq.trans rfl rfl
@[simp] theorem c_ref43_Names_e (f : FuncId) (hs : List (Nat × O)) (ds : List D) : c_ref43_Names.e f hs ds = callOfE ce_ref43_Names f hs ds := Eq.trans rfl rfl
@[simp] theorem c_ref43_Names_g (g : Nat) : c_ref43_Names.g g = gl g := Eq.trans rfl rfl
noncomputable def L_ref43_Names (i n : Nat) (s : St) : Option (E × St) := atN Try.prog c_ref43_Names an_ref43_Names 20 (bodyOf Try.f13) i n s
noncomputable def H_ref43_Names (n i : Nat) (s : St) : Option (E × St) := atH Try.prog c_ref43_Names an_ref43_Names 20 (bodyOf Try.f13) n i s
@[simp] theorem H_ref43_Names_eq (n i : Nat) (s : St) : H_ref43_Names n i s = L_ref43_Names i n (headOf (an_ref43_Names.loops.lookup i) s) := rfl
noncomputable def R_ref43_Names (i : Nat) (s : St) : Option (E × St) := stepL Try.prog c_ref43_Names an_ref43_Names 20 (bodyOf Try.f13) i s
theorem lok_ref43_Names : okLoops (bodyOf Try.f13) = true := by kernel_rfl
theorem L_ref43_Names_zero (i : Nat) (s : St) : L_ref43_Names i 0 s = none := rfl
theorem L_ref43_Names_succ (i n : Nat) (s : St) : L_ref43_Names i (n + 1) s = andThen (R_ref43_Names i s) (H_ref43_Names n i) := atN_succ lok_ref43_Names i n s
theorem R_ref43_Names_eq (i : Nat) (s : St) : R_ref43_Names i s = runS Try.prog c_ref43_Names (H_ref43_Names bigL) an_ref43_Names 20 (loopAt (bodyOf Try.f13) i) s := rfl
noncomputable def F_ref43_Names (ds : List D) : Option D := runF Try.prog c_ref43_Names an_ref43_Names 20 (bodyOf Try.f13) [.tmp 2] ds
theorem F_ref43_Names_eq (ds : List D) : F_ref43_Names ds = runG Try.prog c_ref43_Names (H_ref43_Names bigL) an_ref43_Names 20 (bodyOf Try.f13) [.tmp 2] ds := runG_eq lok_ref43_Names _ ds
theorem C_ref43_Names (ds : List D) (r : D) (h : F_ref43_Names ds = some r) : Contract Try.prog gl 13 ds r := contract_of mix Try.func13 rfl (by kernel_rfl) (by kernel_rfl) (by decide) (call := c_ref43_Names) ⟨callOf_ok cl_ref43_Names trivial, callOfE_ok ce_ref43_Names trivial⟩ h
-- sawmill/sawmillref43.takes: loops []; state: params 0..0, then [2]
attribute [simp] Try.f47
noncomputable def an_ref43_takes : Ann := ⟨[0, 2], [8, 10, 12], [], [], [], some [2], [], [], [], []⟩
@[simp] theorem an_ref43_takes_draws : an_ref43_takes.draws = [] := rfl
@[simp] theorem an_ref43_takes_exits : an_ref43_takes.exits = [] := rfl
@[simp] theorem an_ref43_takes_rets : an_ref43_takes.rets = some [2] := rfl
@[simp] theorem an_ref43_takes_keep : an_ref43_takes.keep = [0, 2] := rfl
@[simp] theorem an_ref43_takes_cond : an_ref43_takes.cond = [8, 10, 12] := rfl
@[simp] theorem an_ref43_takes_rows : an_ref43_takes.rows = [] := rfl
@[simp] theorem an_ref43_takes_loops : an_ref43_takes.loops = [] := rfl
@[simp] theorem an_ref43_takes_ecalls : an_ref43_takes.ecalls = [] := rfl
@[simp] theorem an_ref43_takes_crows : an_ref43_takes.crows = [] := rfl
@[simp] theorem an_ref43_takes_tails : an_ref43_takes.tails = [] := rfl
@[simp] noncomputable def cl_ref43_takes : List (Nat × (List D → Option D)) := []
@[simp] noncomputable def ce_ref43_takes : List (Nat × (List (Nat × O) → List D → Option (D × List (Nat × O)))) := []
noncomputable def c_ref43_takes : CT := ⟨callOf (cl_ref43_takes ), callOfE ce_ref43_takes, gl⟩
@[simp] theorem c_ref43_takes_p (f : FuncId) (ds : List D) : c_ref43_takes.p f ds = callOf (cl_ref43_takes ) f ds := Eq.trans rfl rfl
@[simp] theorem c_ref43_takes_e (f : FuncId) (hs : List (Nat × O)) (ds : List D) : c_ref43_takes.e f hs ds = callOfE ce_ref43_takes f hs ds := Eq.trans rfl rfl
@[simp] theorem c_ref43_takes_g (g : Nat) : c_ref43_takes.g g = gl g := Eq.trans rfl rfl
noncomputable def L_ref43_takes (i n : Nat) (s : St) : Option (E × St) := atN Try.prog c_ref43_takes an_ref43_takes 13 (bodyOf Try.f47) i n s
noncomputable def H_ref43_takes (n i : Nat) (s : St) : Option (E × St) := atH Try.prog c_ref43_takes an_ref43_takes 13 (bodyOf Try.f47) n i s
@[simp] theorem H_ref43_takes_eq (n i : Nat) (s : St) : H_ref43_takes n i s = L_ref43_takes i n (headOf (an_ref43_takes.loops.lookup i) s) := rfl
noncomputable def R_ref43_takes (i : Nat) (s : St) : Option (E × St) := stepL Try.prog c_ref43_takes an_ref43_takes 13 (bodyOf Try.f47) i s
theorem lok_ref43_takes : okLoops (bodyOf Try.f47) = true := by kernel_rfl
noncomputable def F_ref43_takes (ds : List D) : Option D := runF Try.prog c_ref43_takes an_ref43_takes 13 (bodyOf Try.f47) [.tmp 2] ds
theorem F_ref43_takes_eq (ds : List D) : F_ref43_takes ds = runG Try.prog c_ref43_takes (H_ref43_takes bigL) an_ref43_takes 13 (bodyOf Try.f47) [.tmp 2] ds := runG_eq lok_ref43_takes _ ds
theorem C_ref43_takes (ds : List D) (r : D) (h : F_ref43_takes ds = some r) : Contract Try.prog gl 47 ds r := contract_of mix Try.func47 rfl (by kernel_rfl) (by kernel_rfl) (by decide) (call := c_ref43_takes) ⟨callOf_ok cl_ref43_takes trivial, callOfE_ok ce_ref43_takes trivial⟩ h
-- sawmill/sawmillref43.in: loops [2]; state: params 0..1, then [4, 5]
attribute [simp] Try.f48
noncomputable def an_ref43_in : Ann := ⟨[0, 4, 5], [9, 17], [], [(2, [0, 1, 5])], [(0, []), (1, [0, 1, 5])], some [4], [], [], [], []⟩
@[simp] theorem an_ref43_in_draws : an_ref43_in.draws = [] := rfl
@[simp] theorem an_ref43_in_exits : an_ref43_in.exits = [(0, []), (1, [0, 1, 5])] := rfl
@[simp] theorem an_ref43_in_rets : an_ref43_in.rets = some [4] := rfl
@[simp] theorem an_ref43_in_keep : an_ref43_in.keep = [0, 4, 5] := rfl
@[simp] theorem an_ref43_in_cond : an_ref43_in.cond = [9, 17] := rfl
@[simp] theorem an_ref43_in_rows : an_ref43_in.rows = [] := rfl
@[simp] theorem an_ref43_in_loops : an_ref43_in.loops = [(2, [0, 1, 5])] := rfl
@[simp] theorem an_ref43_in_ecalls : an_ref43_in.ecalls = [] := rfl
@[simp] theorem an_ref43_in_crows : an_ref43_in.crows = [] := rfl
@[simp] theorem an_ref43_in_tails : an_ref43_in.tails = [] := rfl
@[simp] noncomputable def cl_ref43_in : List (Nat × (List D → Option D)) := []
@[simp] noncomputable def ce_ref43_in : List (Nat × (List (Nat × O) → List D → Option (D × List (Nat × O)))) := []
noncomputable def c_ref43_in : CT := ⟨callOf (cl_ref43_in ), callOfE ce_ref43_in, gl⟩
@[simp] theorem c_ref43_in_p (f : FuncId) (ds : List D) : c_ref43_in.p f ds = callOf (cl_ref43_in ) f ds := Eq.trans rfl rfl
@[simp] theorem c_ref43_in_e (f : FuncId) (hs : List (Nat × O)) (ds : List D) : c_ref43_in.e f hs ds = callOfE ce_ref43_in f hs ds := Eq.trans rfl rfl
@[simp] theorem c_ref43_in_g (g : Nat) : c_ref43_in.g g = gl g := Eq.trans rfl rfl
noncomputable def L_ref43_in (i n : Nat) (s : St) : Option (E × St) := atN Try.prog c_ref43_in an_ref43_in 18 (bodyOf Try.f48) i n s
noncomputable def H_ref43_in (n i : Nat) (s : St) : Option (E × St) := atH Try.prog c_ref43_in an_ref43_in 18 (bodyOf Try.f48) n i s
@[simp] theorem H_ref43_in_eq (n i : Nat) (s : St) : H_ref43_in n i s = L_ref43_in i n (headOf (an_ref43_in.loops.lookup i) s) := rfl
noncomputable def R_ref43_in (i : Nat) (s : St) : Option (E × St) := stepL Try.prog c_ref43_in an_ref43_in 18 (bodyOf Try.f48) i s
theorem lok_ref43_in : okLoops (bodyOf Try.f48) = true := by kernel_rfl
theorem L_ref43_in_zero (i : Nat) (s : St) : L_ref43_in i 0 s = none := rfl
theorem L_ref43_in_succ (i n : Nat) (s : St) : L_ref43_in i (n + 1) s = andThen (R_ref43_in i s) (H_ref43_in n i) := atN_succ lok_ref43_in i n s
theorem R_ref43_in_eq (i : Nat) (s : St) : R_ref43_in i s = runS Try.prog c_ref43_in (H_ref43_in bigL) an_ref43_in 18 (loopAt (bodyOf Try.f48) i) s := rfl
noncomputable def F_ref43_in (ds : List D) : Option D := runF Try.prog c_ref43_in an_ref43_in 18 (bodyOf Try.f48) [.tmp 4] ds
theorem F_ref43_in_eq (ds : List D) : F_ref43_in ds = runG Try.prog c_ref43_in (H_ref43_in bigL) an_ref43_in 18 (bodyOf Try.f48) [.tmp 4] ds := runG_eq lok_ref43_in _ ds
theorem C_ref43_in (ds : List D) (r : D) (h : F_ref43_in ds = some r) : Contract Try.prog gl 48 ds r := contract_of mix Try.func48 rfl (by kernel_rfl) (by kernel_rfl) (by decide) (call := c_ref43_in) ⟨callOf_ok cl_ref43_in trivial, callOfE_ok ce_ref43_in trivial⟩ h
-- sawmill/sawmillref43.big: loops []; state: params 0..0, then [2]
attribute [simp] Try.f49
noncomputable def an_ref43_big : Ann := ⟨[2], [], [], [], [], some [2], [], [], [], []⟩
@[simp] theorem an_ref43_big_draws : an_ref43_big.draws = [] := rfl
@[simp] theorem an_ref43_big_exits : an_ref43_big.exits = [] := rfl
@[simp] theorem an_ref43_big_rets : an_ref43_big.rets = some [2] := rfl
@[simp] theorem an_ref43_big_keep : an_ref43_big.keep = [2] := rfl
@[simp] theorem an_ref43_big_cond : an_ref43_big.cond = [] := rfl
@[simp] theorem an_ref43_big_rows : an_ref43_big.rows = [] := rfl
@[simp] theorem an_ref43_big_loops : an_ref43_big.loops = [] := rfl
@[simp] theorem an_ref43_big_ecalls : an_ref43_big.ecalls = [] := rfl
@[simp] theorem an_ref43_big_crows : an_ref43_big.crows = [] := rfl
@[simp] theorem an_ref43_big_tails : an_ref43_big.tails = [] := rfl
@[simp] noncomputable def cl_ref43_big : List (Nat × (List D → Option D)) := []
@[simp] noncomputable def ce_ref43_big : List (Nat × (List (Nat × O) → List D → Option (D × List (Nat × O)))) := []
noncomputable def c_ref43_big : CT := ⟨callOf (cl_ref43_big ), callOfE ce_ref43_big, gl⟩
@[simp] theorem c_ref43_big_p (f : FuncId) (ds : List D) : c_ref43_big.p f ds = callOf (cl_ref43_big ) f ds := Eq.trans rfl rfl
@[simp] theorem c_ref43_big_e (f : FuncId) (hs : List (Nat × O)) (ds : List D) : c_ref43_big.e f hs ds = callOfE ce_ref43_big f hs ds := Eq.trans rfl rfl
@[simp] theorem c_ref43_big_g (g : Nat) : c_ref43_big.g g = gl g := Eq.trans rfl rfl
noncomputable def L_ref43_big (i n : Nat) (s : St) : Option (E × St) := atN Try.prog c_ref43_big an_ref43_big 9 (bodyOf Try.f49) i n s
noncomputable def H_ref43_big (n i : Nat) (s : St) : Option (E × St) := atH Try.prog c_ref43_big an_ref43_big 9 (bodyOf Try.f49) n i s
@[simp] theorem H_ref43_big_eq (n i : Nat) (s : St) : H_ref43_big n i s = L_ref43_big i n (headOf (an_ref43_big.loops.lookup i) s) := rfl
noncomputable def R_ref43_big (i : Nat) (s : St) : Option (E × St) := stepL Try.prog c_ref43_big an_ref43_big 9 (bodyOf Try.f49) i s
theorem lok_ref43_big : okLoops (bodyOf Try.f49) = true := by kernel_rfl
noncomputable def F_ref43_big (ds : List D) : Option D := runF Try.prog c_ref43_big an_ref43_big 9 (bodyOf Try.f49) [.tmp 2] ds
theorem F_ref43_big_eq (ds : List D) : F_ref43_big ds = runG Try.prog c_ref43_big (H_ref43_big bigL) an_ref43_big 9 (bodyOf Try.f49) [.tmp 2] ds := runG_eq lok_ref43_big _ ds
theorem C_ref43_big (ds : List D) (r : D) (h : F_ref43_big ds = some r) : Contract Try.prog gl 49 ds r := contract_of mix Try.func49 rfl (by kernel_rfl) (by kernel_rfl) (by decide) (call := c_ref43_big) ⟨callOf_ok cl_ref43_big trivial, callOfE_ok ce_ref43_big trivial⟩ h
-- sawmill/sawmillref43.condition: loops []; state: params 0..0, then [2]
attribute [simp] Try.f35
noncomputable def an_ref43_condition : Ann := ⟨[2], [], [], [], [], some [2], [], [], [], []⟩
@[simp] theorem an_ref43_condition_draws : an_ref43_condition.draws = [] := rfl
@[simp] theorem an_ref43_condition_exits : an_ref43_condition.exits = [] := rfl
@[simp] theorem an_ref43_condition_rets : an_ref43_condition.rets = some [2] := rfl
@[simp] theorem an_ref43_condition_keep : an_ref43_condition.keep = [2] := rfl
@[simp] theorem an_ref43_condition_cond : an_ref43_condition.cond = [] := rfl
@[simp] theorem an_ref43_condition_rows : an_ref43_condition.rows = [] := rfl
@[simp] theorem an_ref43_condition_loops : an_ref43_condition.loops = [] := rfl
@[simp] theorem an_ref43_condition_ecalls : an_ref43_condition.ecalls = [] := rfl
@[simp] theorem an_ref43_condition_crows : an_ref43_condition.crows = [] := rfl
@[simp] theorem an_ref43_condition_tails : an_ref43_condition.tails = [] := rfl
@[simp] noncomputable def cl_ref43_condition : List (Nat × (List D → Option D)) := []
@[simp] noncomputable def ce_ref43_condition : List (Nat × (List (Nat × O) → List D → Option (D × List (Nat × O)))) := []
noncomputable def c_ref43_condition : CT := ⟨callOf (cl_ref43_condition ), callOfE ce_ref43_condition, gl⟩
@[simp] theorem c_ref43_condition_p (f : FuncId) (ds : List D) : c_ref43_condition.p f ds = callOf (cl_ref43_condition ) f ds := Eq.trans rfl rfl
@[simp] theorem c_ref43_condition_e (f : FuncId) (hs : List (Nat × O)) (ds : List D) : c_ref43_condition.e f hs ds = callOfE ce_ref43_condition f hs ds := Eq.trans rfl rfl
@[simp] theorem c_ref43_condition_g (g : Nat) : c_ref43_condition.g g = gl g := Eq.trans rfl rfl
noncomputable def L_ref43_condition (i n : Nat) (s : St) : Option (E × St) := atN Try.prog c_ref43_condition an_ref43_condition 9 (bodyOf Try.f35) i n s
noncomputable def H_ref43_condition (n i : Nat) (s : St) : Option (E × St) := atH Try.prog c_ref43_condition an_ref43_condition 9 (bodyOf Try.f35) n i s
@[simp] theorem H_ref43_condition_eq (n i : Nat) (s : St) : H_ref43_condition n i s = L_ref43_condition i n (headOf (an_ref43_condition.loops.lookup i) s) := rfl
noncomputable def R_ref43_condition (i : Nat) (s : St) : Option (E × St) := stepL Try.prog c_ref43_condition an_ref43_condition 9 (bodyOf Try.f35) i s
theorem lok_ref43_condition : okLoops (bodyOf Try.f35) = true := by kernel_rfl
noncomputable def F_ref43_condition (ds : List D) : Option D := runF Try.prog c_ref43_condition an_ref43_condition 9 (bodyOf Try.f35) [.tmp 2] ds
theorem F_ref43_condition_eq (ds : List D) : F_ref43_condition ds = runG Try.prog c_ref43_condition (H_ref43_condition bigL) an_ref43_condition 9 (bodyOf Try.f35) [.tmp 2] ds := runG_eq lok_ref43_condition _ ds
theorem C_ref43_condition (ds : List D) (r : D) (h : F_ref43_condition ds = some r) : Contract Try.prog gl 35 ds r := contract_of mix Try.func35 rfl (by kernel_rfl) (by kernel_rfl) (by decide) (call := c_ref43_condition) ⟨callOf_ok cl_ref43_condition trivial, callOfE_ok ce_ref43_condition trivial⟩ h
-- sawmill/sawmillref43.wants: loops []; state: params 0..0, then [2]
attribute [simp] Try.f50
noncomputable def an_ref43_wants : Ann := ⟨[2], [], [], [], [], some [2], [], [], [], []⟩
@[simp] theorem an_ref43_wants_draws : an_ref43_wants.draws = [] := rfl
@[simp] theorem an_ref43_wants_exits : an_ref43_wants.exits = [] := rfl
@[simp] theorem an_ref43_wants_rets : an_ref43_wants.rets = some [2] := rfl
@[simp] theorem an_ref43_wants_keep : an_ref43_wants.keep = [2] := rfl
@[simp] theorem an_ref43_wants_cond : an_ref43_wants.cond = [] := rfl
@[simp] theorem an_ref43_wants_rows : an_ref43_wants.rows = [] := rfl
@[simp] theorem an_ref43_wants_loops : an_ref43_wants.loops = [] := rfl
@[simp] theorem an_ref43_wants_ecalls : an_ref43_wants.ecalls = [] := rfl
@[simp] theorem an_ref43_wants_crows : an_ref43_wants.crows = [] := rfl
@[simp] theorem an_ref43_wants_tails : an_ref43_wants.tails = [] := rfl
@[simp] noncomputable def cl_ref43_wants : List (Nat × (List D → Option D)) := []
@[simp] noncomputable def ce_ref43_wants : List (Nat × (List (Nat × O) → List D → Option (D × List (Nat × O)))) := []
noncomputable def c_ref43_wants : CT := ⟨callOf (cl_ref43_wants ), callOfE ce_ref43_wants, gl⟩
@[simp] theorem c_ref43_wants_p (f : FuncId) (ds : List D) : c_ref43_wants.p f ds = callOf (cl_ref43_wants ) f ds := Eq.trans rfl rfl
@[simp] theorem c_ref43_wants_e (f : FuncId) (hs : List (Nat × O)) (ds : List D) : c_ref43_wants.e f hs ds = callOfE ce_ref43_wants f hs ds := Eq.trans rfl rfl
@[simp] theorem c_ref43_wants_g (g : Nat) : c_ref43_wants.g g = gl g := Eq.trans rfl rfl
noncomputable def L_ref43_wants (i n : Nat) (s : St) : Option (E × St) := atN Try.prog c_ref43_wants an_ref43_wants 13 (bodyOf Try.f50) i n s
noncomputable def H_ref43_wants (n i : Nat) (s : St) : Option (E × St) := atH Try.prog c_ref43_wants an_ref43_wants 13 (bodyOf Try.f50) n i s
@[simp] theorem H_ref43_wants_eq (n i : Nat) (s : St) : H_ref43_wants n i s = L_ref43_wants i n (headOf (an_ref43_wants.loops.lookup i) s) := rfl
noncomputable def R_ref43_wants (i : Nat) (s : St) : Option (E × St) := stepL Try.prog c_ref43_wants an_ref43_wants 13 (bodyOf Try.f50) i s
theorem lok_ref43_wants : okLoops (bodyOf Try.f50) = true := by kernel_rfl
noncomputable def F_ref43_wants (ds : List D) : Option D := runF Try.prog c_ref43_wants an_ref43_wants 13 (bodyOf Try.f50) [.tmp 2] ds
theorem F_ref43_wants_eq (ds : List D) : F_ref43_wants ds = runG Try.prog c_ref43_wants (H_ref43_wants bigL) an_ref43_wants 13 (bodyOf Try.f50) [.tmp 2] ds := runG_eq lok_ref43_wants _ ds
theorem C_ref43_wants (ds : List D) (r : D) (h : F_ref43_wants ds = some r) : Contract Try.prog gl 50 ds r := contract_of mix Try.func50 rfl (by kernel_rfl) (by kernel_rfl) (by decide) (call := c_ref43_wants) ⟨callOf_ok cl_ref43_wants trivial, callOfE_ok ce_ref43_wants trivial⟩ h
-- sawmill/sawmillref43.check: loops [4, 19]; state: params 0..2, then [3, 6, 7, 8, 9, 10]; RECURSIVE
attribute [simp] Try.f34
noncomputable def an_ref43_check : Ann := ⟨[1, 2, 3, 6, 7, 8, 9, 10], [12, 17, 30, 36, 61, 71, 79, 84, 97], [], [(4, [1, 2, 3, 7]), (19, [3, 10])], [(0, [1, 3]), (1, [1, 2, 3, 7]), (2, []), (3, [3, 10])], some [6], [(21, 9)], [], [], []⟩
@[simp] theorem an_ref43_check_draws : an_ref43_check.draws = [(21, 9)] := rfl
@[simp] theorem an_ref43_check_exits : an_ref43_check.exits = [(0, [1, 3]), (1, [1, 2, 3, 7]), (2, []), (3, [3, 10])] := rfl
@[simp] theorem an_ref43_check_rets : an_ref43_check.rets = some [6] := rfl
@[simp] theorem an_ref43_check_keep : an_ref43_check.keep = [1, 2, 3, 6, 7, 8, 9, 10] := rfl
@[simp] theorem an_ref43_check_cond : an_ref43_check.cond = [12, 17, 30, 36, 61, 71, 79, 84, 97] := rfl
@[simp] theorem an_ref43_check_rows : an_ref43_check.rows = [] := rfl
@[simp] theorem an_ref43_check_loops : an_ref43_check.loops = [(4, [1, 2, 3, 7]), (19, [3, 10])] := rfl
@[simp] theorem an_ref43_check_ecalls : an_ref43_check.ecalls = [] := rfl
@[simp] theorem an_ref43_check_crows : an_ref43_check.crows = [] := rfl
@[simp] theorem an_ref43_check_tails : an_ref43_check.tails = [] := rfl
@[simp] noncomputable def cl_ref43_check (self : List D → Option D) : List (Nat × (List D → Option D)) := [(34, self), (35, F_ref43_condition), (47, F_ref43_takes), (48, F_ref43_in), (49, F_ref43_big), (50, F_ref43_wants)]
@[simp] noncomputable def ce_ref43_check : List (Nat × (List (Nat × O) → List D → Option (D × List (Nat × O)))) := []
noncomputable def c_ref43_check (self : List D → Option D) : CT := ⟨callOf (cl_ref43_check self ), callOfE ce_ref43_check, gl⟩
@[simp] theorem c_ref43_check_p (self : List D → Option D) (f : FuncId) (ds : List D) : (c_ref43_check self).p f ds = callOf (cl_ref43_check self ) f ds := Eq.trans rfl rfl
@[simp] theorem c_ref43_check_e (self : List D → Option D) (f : FuncId) (hs : List (Nat × O)) (ds : List D) : (c_ref43_check self).e f hs ds = callOfE ce_ref43_check f hs ds := Eq.trans rfl rfl
@[simp] theorem c_ref43_check_g (self : List D → Option D) (g : Nat) : (c_ref43_check self).g g = gl g := Eq.trans rfl rfl
noncomputable def L_ref43_check (self : List D → Option D) (i n : Nat) (s : St) : Option (E × St) := atN Try.prog (c_ref43_check self) an_ref43_check 98 (bodyOf Try.f34) i n s
noncomputable def H_ref43_check (self : List D → Option D) (n i : Nat) (s : St) : Option (E × St) := atH Try.prog (c_ref43_check self) an_ref43_check 98 (bodyOf Try.f34) n i s
@[simp] theorem H_ref43_check_eq (self : List D → Option D) (n i : Nat) (s : St) : H_ref43_check self n i s = L_ref43_check self i n (headOf (an_ref43_check.loops.lookup i) s) := rfl
noncomputable def R_ref43_check (self : List D → Option D) (i : Nat) (s : St) : Option (E × St) := stepL Try.prog (c_ref43_check self) an_ref43_check 98 (bodyOf Try.f34) i s
theorem lok_ref43_check : okLoops (bodyOf Try.f34) = true := by kernel_rfl
theorem L_ref43_check_zero (self : List D → Option D) (i : Nat) (s : St) : L_ref43_check self i 0 s = none := rfl
theorem L_ref43_check_succ (self : List D → Option D) (i n : Nat) (s : St) : L_ref43_check self i (n + 1) s = andThen (R_ref43_check self i s) (H_ref43_check self n i) := atN_succ lok_ref43_check i n s
theorem R_ref43_check_eq (self : List D → Option D) (i : Nat) (s : St) : R_ref43_check self i s = runS Try.prog (c_ref43_check self) (H_ref43_check self bigL) an_ref43_check 98 (loopAt (bodyOf Try.f34) i) s := rfl
noncomputable def FN_ref43_check : Nat → List D → Option D
  | 0 => fun _ => none
  | n + 1 => fun ds => runF Try.prog (c_ref43_check (FN_ref43_check n)) an_ref43_check 98 (bodyOf Try.f34) [.tmp 6] ds
theorem FN_ref43_check_eq (n : Nat) (ds : List D) : FN_ref43_check (n + 1) ds = runG Try.prog (c_ref43_check (FN_ref43_check n)) (H_ref43_check (FN_ref43_check n) bigL) an_ref43_check 98 (bodyOf Try.f34) [.tmp 6] ds := runG_eq lok_ref43_check _ ds
theorem CN_ref43_check : ∀ (n : Nat) (ds : List D) (r : D), FN_ref43_check n ds = some r → Contract Try.prog gl 34 ds r
  | 0, _, _, h => by cases h
  | n + 1, ds, r, h => by
    have ih := CN_ref43_check n
    exact contract_of mix Try.func34 rfl (by kernel_rfl) (by kernel_rfl) (by decide) (call := c_ref43_check (FN_ref43_check n)) ⟨callOf_ok (cl_ref43_check (FN_ref43_check n)) ⟨ih, C_ref43_condition, C_ref43_takes, C_ref43_in, C_ref43_big, C_ref43_wants, trivial⟩, callOfE_ok ce_ref43_check trivial⟩ h
noncomputable def F_ref43_check (ds : List D) : Option D := FN_ref43_check 1000 ds
theorem C_ref43_check (ds : List D) (r : D) (h : F_ref43_check ds = some r) : Contract Try.prog gl 34 ds r := CN_ref43_check 1000 ds r h
-- sawmill/sawmillref43.Check: loops []; state: params 0..1, then [2, 4, 5]
attribute [simp] Try.f15
noncomputable def an_ref43_Check : Ann := ⟨[2, 4, 5], [10, 15], [], [], [], some [4], [], [], [], []⟩
@[simp] theorem an_ref43_Check_draws : an_ref43_Check.draws = [] := rfl
@[simp] theorem an_ref43_Check_exits : an_ref43_Check.exits = [] := rfl
@[simp] theorem an_ref43_Check_rets : an_ref43_Check.rets = some [4] := rfl
@[simp] theorem an_ref43_Check_keep : an_ref43_Check.keep = [2, 4, 5] := rfl
@[simp] theorem an_ref43_Check_cond : an_ref43_Check.cond = [10, 15] := rfl
@[simp] theorem an_ref43_Check_rows : an_ref43_Check.rows = [] := rfl
@[simp] theorem an_ref43_Check_loops : an_ref43_Check.loops = [] := rfl
@[simp] theorem an_ref43_Check_ecalls : an_ref43_Check.ecalls = [] := rfl
@[simp] theorem an_ref43_Check_crows : an_ref43_Check.crows = [] := rfl
@[simp] theorem an_ref43_Check_tails : an_ref43_Check.tails = [] := rfl
@[simp] noncomputable def cl_ref43_Check : List (Nat × (List D → Option D)) := [(34, F_ref43_check), (35, F_ref43_condition)]
@[simp] noncomputable def ce_ref43_Check : List (Nat × (List (Nat × O) → List D → Option (D × List (Nat × O)))) := []
noncomputable def c_ref43_Check : CT := ⟨callOf (cl_ref43_Check ), callOfE ce_ref43_Check, gl⟩
@[simp] theorem c_ref43_Check_p (f : FuncId) (ds : List D) : c_ref43_Check.p f ds = callOf (cl_ref43_Check ) f ds := Eq.trans rfl rfl
@[simp] theorem c_ref43_Check_e (f : FuncId) (hs : List (Nat × O)) (ds : List D) : c_ref43_Check.e f hs ds = callOfE ce_ref43_Check f hs ds := Eq.trans rfl rfl
@[simp] theorem c_ref43_Check_g (g : Nat) : c_ref43_Check.g g = gl g := Eq.trans rfl rfl
noncomputable def L_ref43_Check (i n : Nat) (s : St) : Option (E × St) := atN Try.prog c_ref43_Check an_ref43_Check 16 (bodyOf Try.f15) i n s
noncomputable def H_ref43_Check (n i : Nat) (s : St) : Option (E × St) := atH Try.prog c_ref43_Check an_ref43_Check 16 (bodyOf Try.f15) n i s
@[simp] theorem H_ref43_Check_eq (n i : Nat) (s : St) : H_ref43_Check n i s = L_ref43_Check i n (headOf (an_ref43_Check.loops.lookup i) s) := rfl
noncomputable def R_ref43_Check (i : Nat) (s : St) : Option (E × St) := stepL Try.prog c_ref43_Check an_ref43_Check 16 (bodyOf Try.f15) i s
theorem lok_ref43_Check : okLoops (bodyOf Try.f15) = true := by kernel_rfl
noncomputable def F_ref43_Check (ds : List D) : Option D := runF Try.prog c_ref43_Check an_ref43_Check 16 (bodyOf Try.f15) [.tmp 4] ds
theorem F_ref43_Check_eq (ds : List D) : F_ref43_Check ds = runG Try.prog c_ref43_Check (H_ref43_Check bigL) an_ref43_Check 16 (bodyOf Try.f15) [.tmp 4] ds := runG_eq lok_ref43_Check _ ds
theorem C_ref43_Check (ds : List D) (r : D) (h : F_ref43_Check ds = some r) : Contract Try.prog gl 15 ds r := contract_of mix Try.func15 rfl (by kernel_rfl) (by kernel_rfl) (by decide) (call := c_ref43_Check) ⟨callOf_ok cl_ref43_Check ⟨C_ref43_check, C_ref43_condition, trivial⟩, callOfE_ok ce_ref43_Check trivial⟩ h
-- sawmill/sawmillref43.add: loops [4]; state: params 0..1, then [4, 5, 6, 7]
attribute [simp] Try.f53
noncomputable def an_ref43_add : Ann := ⟨[0, 1, 4, 5, 6, 7], [14, 26, 39], [5], [(4, [0, 1, 5, 6, 7])], [(0, [1, 5, 6]), (1, [0, 1, 5, 6, 7])], some [4], [], [], [], []⟩
@[simp] theorem an_ref43_add_draws : an_ref43_add.draws = [] := rfl
@[simp] theorem an_ref43_add_exits : an_ref43_add.exits = [(0, [1, 5, 6]), (1, [0, 1, 5, 6, 7])] := rfl
@[simp] theorem an_ref43_add_rets : an_ref43_add.rets = some [4] := rfl
@[simp] theorem an_ref43_add_keep : an_ref43_add.keep = [0, 1, 4, 5, 6, 7] := rfl
@[simp] theorem an_ref43_add_cond : an_ref43_add.cond = [14, 26, 39] := rfl
@[simp] theorem an_ref43_add_rows : an_ref43_add.rows = [5] := rfl
@[simp] theorem an_ref43_add_loops : an_ref43_add.loops = [(4, [0, 1, 5, 6, 7])] := rfl
@[simp] theorem an_ref43_add_ecalls : an_ref43_add.ecalls = [] := rfl
@[simp] theorem an_ref43_add_crows : an_ref43_add.crows = [] := rfl
@[simp] theorem an_ref43_add_tails : an_ref43_add.tails = [] := rfl
@[simp] noncomputable def cl_ref43_add : List (Nat × (List D → Option D)) := [(48, F_ref43_in)]
@[simp] noncomputable def ce_ref43_add : List (Nat × (List (Nat × O) → List D → Option (D × List (Nat × O)))) := []
noncomputable def c_ref43_add : CT := ⟨callOf (cl_ref43_add ), callOfE ce_ref43_add, gl⟩
@[simp] theorem c_ref43_add_p (f : FuncId) (ds : List D) : c_ref43_add.p f ds = callOf (cl_ref43_add ) f ds := Eq.trans rfl rfl
@[simp] theorem c_ref43_add_e (f : FuncId) (hs : List (Nat × O)) (ds : List D) : c_ref43_add.e f hs ds = callOfE ce_ref43_add f hs ds := Eq.trans rfl rfl
@[simp] theorem c_ref43_add_g (g : Nat) : c_ref43_add.g g = gl g := Eq.trans rfl rfl
noncomputable def L_ref43_add (i n : Nat) (s : St) : Option (E × St) := atN Try.prog c_ref43_add an_ref43_add 45 (bodyOf Try.f53) i n s
noncomputable def H_ref43_add (n i : Nat) (s : St) : Option (E × St) := atH Try.prog c_ref43_add an_ref43_add 45 (bodyOf Try.f53) n i s
@[simp] theorem H_ref43_add_eq (n i : Nat) (s : St) : H_ref43_add n i s = L_ref43_add i n (headOf (an_ref43_add.loops.lookup i) s) := rfl
noncomputable def R_ref43_add (i : Nat) (s : St) : Option (E × St) := stepL Try.prog c_ref43_add an_ref43_add 45 (bodyOf Try.f53) i s
theorem lok_ref43_add : okLoops (bodyOf Try.f53) = true := by kernel_rfl
theorem L_ref43_add_zero (i : Nat) (s : St) : L_ref43_add i 0 s = none := rfl
theorem L_ref43_add_succ (i n : Nat) (s : St) : L_ref43_add i (n + 1) s = andThen (R_ref43_add i s) (H_ref43_add n i) := atN_succ lok_ref43_add i n s
theorem R_ref43_add_eq (i : Nat) (s : St) : R_ref43_add i s = runS Try.prog c_ref43_add (H_ref43_add bigL) an_ref43_add 45 (loopAt (bodyOf Try.f53) i) s := rfl
noncomputable def F_ref43_add (ds : List D) : Option D := runF Try.prog c_ref43_add an_ref43_add 45 (bodyOf Try.f53) [.tmp 4] ds
theorem F_ref43_add_eq (ds : List D) : F_ref43_add ds = runG Try.prog c_ref43_add (H_ref43_add bigL) an_ref43_add 45 (bodyOf Try.f53) [.tmp 4] ds := runG_eq lok_ref43_add _ ds
theorem C_ref43_add (ds : List D) (r : D) (h : F_ref43_add ds = some r) : Contract Try.prog gl 53 ds r := contract_of mix Try.func53 rfl (by kernel_rfl) (by kernel_rfl) (by decide) (call := c_ref43_add) ⟨callOf_ok cl_ref43_add ⟨C_ref43_in, trivial⟩, callOfE_ok ce_ref43_add trivial⟩ h
-- sawmill/sawmillref43.uses: loops [6]; state: params 0..2, then [3, 6, 7]; RECURSIVE
attribute [simp] Try.f39
noncomputable def an_ref43_uses : Ann := ⟨[1, 2, 3, 6, 7], [9, 13, 22], [], [(6, [1, 2, 3, 7])], [(0, [2]), (1, [1, 2, 3, 7])], some [6], [], [], [], []⟩
@[simp] theorem an_ref43_uses_draws : an_ref43_uses.draws = [] := rfl
@[simp] theorem an_ref43_uses_exits : an_ref43_uses.exits = [(0, [2]), (1, [1, 2, 3, 7])] := rfl
@[simp] theorem an_ref43_uses_rets : an_ref43_uses.rets = some [6] := rfl
@[simp] theorem an_ref43_uses_keep : an_ref43_uses.keep = [1, 2, 3, 6, 7] := rfl
@[simp] theorem an_ref43_uses_cond : an_ref43_uses.cond = [9, 13, 22] := rfl
@[simp] theorem an_ref43_uses_rows : an_ref43_uses.rows = [] := rfl
@[simp] theorem an_ref43_uses_loops : an_ref43_uses.loops = [(6, [1, 2, 3, 7])] := rfl
@[simp] theorem an_ref43_uses_ecalls : an_ref43_uses.ecalls = [] := rfl
@[simp] theorem an_ref43_uses_crows : an_ref43_uses.crows = [] := rfl
@[simp] theorem an_ref43_uses_tails : an_ref43_uses.tails = [] := rfl
@[simp] noncomputable def cl_ref43_uses (self : List D → Option D) : List (Nat × (List D → Option D)) := [(39, self), (53, F_ref43_add)]
@[simp] noncomputable def ce_ref43_uses : List (Nat × (List (Nat × O) → List D → Option (D × List (Nat × O)))) := []
noncomputable def c_ref43_uses (self : List D → Option D) : CT := ⟨callOf (cl_ref43_uses self ), callOfE ce_ref43_uses, gl⟩
@[simp] theorem c_ref43_uses_p (self : List D → Option D) (f : FuncId) (ds : List D) : (c_ref43_uses self).p f ds = callOf (cl_ref43_uses self ) f ds := Eq.trans rfl rfl
@[simp] theorem c_ref43_uses_e (self : List D → Option D) (f : FuncId) (hs : List (Nat × O)) (ds : List D) : (c_ref43_uses self).e f hs ds = callOfE ce_ref43_uses f hs ds := Eq.trans rfl rfl
@[simp] theorem c_ref43_uses_g (self : List D → Option D) (g : Nat) : (c_ref43_uses self).g g = gl g := Eq.trans rfl rfl
noncomputable def L_ref43_uses (self : List D → Option D) (i n : Nat) (s : St) : Option (E × St) := atN Try.prog (c_ref43_uses self) an_ref43_uses 35 (bodyOf Try.f39) i n s
noncomputable def H_ref43_uses (self : List D → Option D) (n i : Nat) (s : St) : Option (E × St) := atH Try.prog (c_ref43_uses self) an_ref43_uses 35 (bodyOf Try.f39) n i s
@[simp] theorem H_ref43_uses_eq (self : List D → Option D) (n i : Nat) (s : St) : H_ref43_uses self n i s = L_ref43_uses self i n (headOf (an_ref43_uses.loops.lookup i) s) := rfl
noncomputable def R_ref43_uses (self : List D → Option D) (i : Nat) (s : St) : Option (E × St) := stepL Try.prog (c_ref43_uses self) an_ref43_uses 35 (bodyOf Try.f39) i s
theorem lok_ref43_uses : okLoops (bodyOf Try.f39) = true := by kernel_rfl
theorem L_ref43_uses_zero (self : List D → Option D) (i : Nat) (s : St) : L_ref43_uses self i 0 s = none := rfl
theorem L_ref43_uses_succ (self : List D → Option D) (i n : Nat) (s : St) : L_ref43_uses self i (n + 1) s = andThen (R_ref43_uses self i s) (H_ref43_uses self n i) := atN_succ lok_ref43_uses i n s
theorem R_ref43_uses_eq (self : List D → Option D) (i : Nat) (s : St) : R_ref43_uses self i s = runS Try.prog (c_ref43_uses self) (H_ref43_uses self bigL) an_ref43_uses 35 (loopAt (bodyOf Try.f39) i) s := rfl
noncomputable def FN_ref43_uses : Nat → List D → Option D
  | 0 => fun _ => none
  | n + 1 => fun ds => runF Try.prog (c_ref43_uses (FN_ref43_uses n)) an_ref43_uses 35 (bodyOf Try.f39) [.tmp 6] ds
theorem FN_ref43_uses_eq (n : Nat) (ds : List D) : FN_ref43_uses (n + 1) ds = runG Try.prog (c_ref43_uses (FN_ref43_uses n)) (H_ref43_uses (FN_ref43_uses n) bigL) an_ref43_uses 35 (bodyOf Try.f39) [.tmp 6] ds := runG_eq lok_ref43_uses _ ds
theorem CN_ref43_uses : ∀ (n : Nat) (ds : List D) (r : D), FN_ref43_uses n ds = some r → Contract Try.prog gl 39 ds r
  | 0, _, _, h => by cases h
  | n + 1, ds, r, h => by
    have ih := CN_ref43_uses n
    exact contract_of mix Try.func39 rfl (by kernel_rfl) (by kernel_rfl) (by decide) (call := c_ref43_uses (FN_ref43_uses n)) ⟨callOf_ok (cl_ref43_uses (FN_ref43_uses n)) ⟨ih, C_ref43_add, trivial⟩, callOfE_ok ce_ref43_uses trivial⟩ h
noncomputable def F_ref43_uses (ds : List D) : Option D := FN_ref43_uses 1000 ds
theorem C_ref43_uses (ds : List D) (r : D) (h : F_ref43_uses ds = some r) : Contract Try.prog gl 39 ds r := CN_ref43_uses 1000 ds r h
-- sawmill/sawmillref43.Uses: loops []; state: params 0..0, then [1, 2]
attribute [simp] Try.f18
noncomputable def an_ref43_Uses : Ann := ⟨[1, 2], [], [], [], [], some [2], [], [], [], []⟩
@[simp] theorem an_ref43_Uses_draws : an_ref43_Uses.draws = [] := rfl
@[simp] theorem an_ref43_Uses_exits : an_ref43_Uses.exits = [] := rfl
@[simp] theorem an_ref43_Uses_rets : an_ref43_Uses.rets = some [2] := rfl
@[simp] theorem an_ref43_Uses_keep : an_ref43_Uses.keep = [1, 2] := rfl
@[simp] theorem an_ref43_Uses_cond : an_ref43_Uses.cond = [] := rfl
@[simp] theorem an_ref43_Uses_rows : an_ref43_Uses.rows = [] := rfl
@[simp] theorem an_ref43_Uses_loops : an_ref43_Uses.loops = [] := rfl
@[simp] theorem an_ref43_Uses_ecalls : an_ref43_Uses.ecalls = [] := rfl
@[simp] theorem an_ref43_Uses_crows : an_ref43_Uses.crows = [] := rfl
@[simp] theorem an_ref43_Uses_tails : an_ref43_Uses.tails = [] := rfl
@[simp] noncomputable def cl_ref43_Uses : List (Nat × (List D → Option D)) := [(39, F_ref43_uses)]
@[simp] noncomputable def ce_ref43_Uses : List (Nat × (List (Nat × O) → List D → Option (D × List (Nat × O)))) := []
noncomputable def c_ref43_Uses : CT := ⟨callOf (cl_ref43_Uses ), callOfE ce_ref43_Uses, gl⟩
@[simp] theorem c_ref43_Uses_p (f : FuncId) (ds : List D) : c_ref43_Uses.p f ds = callOf (cl_ref43_Uses ) f ds := Eq.trans rfl rfl
@[simp] theorem c_ref43_Uses_e (f : FuncId) (hs : List (Nat × O)) (ds : List D) : c_ref43_Uses.e f hs ds = callOfE ce_ref43_Uses f hs ds := Eq.trans rfl rfl
@[simp] theorem c_ref43_Uses_g (g : Nat) : c_ref43_Uses.g g = gl g := Eq.trans rfl rfl
noncomputable def L_ref43_Uses (i n : Nat) (s : St) : Option (E × St) := atN Try.prog c_ref43_Uses an_ref43_Uses 5 (bodyOf Try.f18) i n s
noncomputable def H_ref43_Uses (n i : Nat) (s : St) : Option (E × St) := atH Try.prog c_ref43_Uses an_ref43_Uses 5 (bodyOf Try.f18) n i s
@[simp] theorem H_ref43_Uses_eq (n i : Nat) (s : St) : H_ref43_Uses n i s = L_ref43_Uses i n (headOf (an_ref43_Uses.loops.lookup i) s) := rfl
noncomputable def R_ref43_Uses (i : Nat) (s : St) : Option (E × St) := stepL Try.prog c_ref43_Uses an_ref43_Uses 5 (bodyOf Try.f18) i s
theorem lok_ref43_Uses : okLoops (bodyOf Try.f18) = true := by kernel_rfl
noncomputable def F_ref43_Uses (ds : List D) : Option D := runF Try.prog c_ref43_Uses an_ref43_Uses 5 (bodyOf Try.f18) [.tmp 2] ds
theorem F_ref43_Uses_eq (ds : List D) : F_ref43_Uses ds = runG Try.prog c_ref43_Uses (H_ref43_Uses bigL) an_ref43_Uses 5 (bodyOf Try.f18) [.tmp 2] ds := runG_eq lok_ref43_Uses _ ds
theorem C_ref43_Uses (ds : List D) (r : D) (h : F_ref43_Uses ds = some r) : Contract Try.prog gl 18 ds r := contract_of mix Try.func18 rfl (by kernel_rfl) (by kernel_rfl) (by decide) (call := c_ref43_Uses) ⟨callOf_ok cl_ref43_Uses ⟨C_ref43_uses, trivial⟩, callOfE_ok ce_ref43_Uses trivial⟩ h
-- sawmill/sawmilllaw43.RuleChecks: loops []; state: params 0..1, then [2, 4, 5]
attribute [simp] Try.f3
noncomputable def an_law43_RuleChecks : Ann := ⟨[1, 2, 4, 5], [13], [], [], [], some [4], [(4, 11)], [], [], []⟩
@[simp] theorem an_law43_RuleChecks_draws : an_law43_RuleChecks.draws = [(4, 11)] := rfl
@[simp] theorem an_law43_RuleChecks_exits : an_law43_RuleChecks.exits = [] := rfl
@[simp] theorem an_law43_RuleChecks_rets : an_law43_RuleChecks.rets = some [4] := rfl
@[simp] theorem an_law43_RuleChecks_keep : an_law43_RuleChecks.keep = [1, 2, 4, 5] := rfl
@[simp] theorem an_law43_RuleChecks_cond : an_law43_RuleChecks.cond = [13] := rfl
@[simp] theorem an_law43_RuleChecks_rows : an_law43_RuleChecks.rows = [] := rfl
@[simp] theorem an_law43_RuleChecks_loops : an_law43_RuleChecks.loops = [] := rfl
@[simp] theorem an_law43_RuleChecks_ecalls : an_law43_RuleChecks.ecalls = [] := rfl
@[simp] theorem an_law43_RuleChecks_crows : an_law43_RuleChecks.crows = [] := rfl
@[simp] theorem an_law43_RuleChecks_tails : an_law43_RuleChecks.tails = [] := rfl
@[simp] noncomputable def cl_law43_RuleChecks : List (Nat × (List D → Option D)) := [(10, F_law43_small), (11, F_law43_short), (12, F_law43_awake), (13, F_ref43_Names), (14, F_rule_Check), (15, F_ref43_Check), (16, F_ref43_Same), (17, F_rule_Uses), (18, F_ref43_Uses)]
@[simp] noncomputable def ce_law43_RuleChecks : List (Nat × (List (Nat × O) → List D → Option (D × List (Nat × O)))) := []
noncomputable def c_law43_RuleChecks : CT := ⟨callOf (cl_law43_RuleChecks ), callOfE ce_law43_RuleChecks, gl⟩
@[simp] theorem c_law43_RuleChecks_p (f : FuncId) (ds : List D) : c_law43_RuleChecks.p f ds = callOf (cl_law43_RuleChecks ) f ds := Eq.trans rfl rfl
@[simp] theorem c_law43_RuleChecks_e (f : FuncId) (hs : List (Nat × O)) (ds : List D) : c_law43_RuleChecks.e f hs ds = callOfE ce_law43_RuleChecks f hs ds := Eq.trans rfl rfl
@[simp] theorem c_law43_RuleChecks_g (g : Nat) : c_law43_RuleChecks.g g = gl g := Eq.trans rfl rfl
noncomputable def L_law43_RuleChecks (i n : Nat) (s : St) : Option (E × St) := atN Try.prog c_law43_RuleChecks an_law43_RuleChecks 34 (bodyOf Try.f3) i n s
noncomputable def H_law43_RuleChecks (n i : Nat) (s : St) : Option (E × St) := atH Try.prog c_law43_RuleChecks an_law43_RuleChecks 34 (bodyOf Try.f3) n i s
@[simp] theorem H_law43_RuleChecks_eq (n i : Nat) (s : St) : H_law43_RuleChecks n i s = L_law43_RuleChecks i n (headOf (an_law43_RuleChecks.loops.lookup i) s) := rfl
noncomputable def R_law43_RuleChecks (i : Nat) (s : St) : Option (E × St) := stepL Try.prog c_law43_RuleChecks an_law43_RuleChecks 34 (bodyOf Try.f3) i s
theorem lok_law43_RuleChecks : okLoops (bodyOf Try.f3) = true := by kernel_rfl
noncomputable def F_law43_RuleChecks (ds : List D) : Option D := runF Try.prog c_law43_RuleChecks an_law43_RuleChecks 34 (bodyOf Try.f3) [.tmp 4] ds
theorem F_law43_RuleChecks_eq (ds : List D) : F_law43_RuleChecks ds = runG Try.prog c_law43_RuleChecks (H_law43_RuleChecks bigL) an_law43_RuleChecks 34 (bodyOf Try.f3) [.tmp 4] ds := runG_eq lok_law43_RuleChecks _ ds
theorem C_law43_RuleChecks (ds : List D) (r : D) (h : F_law43_RuleChecks ds = some r) : Contract Try.prog gl 3 ds r := contract_of mix Try.func3 rfl (by kernel_rfl) (by kernel_rfl) (by decide) (call := c_law43_RuleChecks) ⟨callOf_ok cl_law43_RuleChecks ⟨C_law43_small, C_law43_short, C_law43_awake, C_ref43_Names, C_rule_Check, C_ref43_Check, C_ref43_Same, C_rule_Uses, C_ref43_Uses, trivial⟩, callOfE_ok ce_law43_RuleChecks trivial⟩ h
-- sawmill/sawmillref43.get: loops [2]; state: params 0..1, then [4, 5]
attribute [simp] Try.f58
noncomputable def an_ref43_get : Ann := ⟨[0, 4, 5], [9, 18], [], [(2, [0, 1, 5])], [(0, []), (1, [0, 1, 5])], some [4], [], [], [], []⟩
@[simp] theorem an_ref43_get_draws : an_ref43_get.draws = [] := rfl
@[simp] theorem an_ref43_get_exits : an_ref43_get.exits = [(0, []), (1, [0, 1, 5])] := rfl
@[simp] theorem an_ref43_get_rets : an_ref43_get.rets = some [4] := rfl
@[simp] theorem an_ref43_get_keep : an_ref43_get.keep = [0, 4, 5] := rfl
@[simp] theorem an_ref43_get_cond : an_ref43_get.cond = [9, 18] := rfl
@[simp] theorem an_ref43_get_rows : an_ref43_get.rows = [] := rfl
@[simp] theorem an_ref43_get_loops : an_ref43_get.loops = [(2, [0, 1, 5])] := rfl
@[simp] theorem an_ref43_get_ecalls : an_ref43_get.ecalls = [] := rfl
@[simp] theorem an_ref43_get_crows : an_ref43_get.crows = [] := rfl
@[simp] theorem an_ref43_get_tails : an_ref43_get.tails = [] := rfl
@[simp] noncomputable def cl_ref43_get : List (Nat × (List D → Option D)) := []
@[simp] noncomputable def ce_ref43_get : List (Nat × (List (Nat × O) → List D → Option (D × List (Nat × O)))) := []
noncomputable def c_ref43_get : CT := ⟨callOf (cl_ref43_get ), callOfE ce_ref43_get, gl⟩
@[simp] theorem c_ref43_get_p (f : FuncId) (ds : List D) : c_ref43_get.p f ds = callOf (cl_ref43_get ) f ds := Eq.trans rfl rfl
@[simp] theorem c_ref43_get_e (f : FuncId) (hs : List (Nat × O)) (ds : List D) : c_ref43_get.e f hs ds = callOfE ce_ref43_get f hs ds := Eq.trans rfl rfl
@[simp] theorem c_ref43_get_g (g : Nat) : c_ref43_get.g g = gl g := Eq.trans rfl rfl
noncomputable def L_ref43_get (i n : Nat) (s : St) : Option (E × St) := atN Try.prog c_ref43_get an_ref43_get 24 (bodyOf Try.f58) i n s
noncomputable def H_ref43_get (n i : Nat) (s : St) : Option (E × St) := atH Try.prog c_ref43_get an_ref43_get 24 (bodyOf Try.f58) n i s
@[simp] theorem H_ref43_get_eq (n i : Nat) (s : St) : H_ref43_get n i s = L_ref43_get i n (headOf (an_ref43_get.loops.lookup i) s) := rfl
noncomputable def R_ref43_get (i : Nat) (s : St) : Option (E × St) := stepL Try.prog c_ref43_get an_ref43_get 24 (bodyOf Try.f58) i s
theorem lok_ref43_get : okLoops (bodyOf Try.f58) = true := by kernel_rfl
theorem L_ref43_get_zero (i : Nat) (s : St) : L_ref43_get i 0 s = none := rfl
theorem L_ref43_get_succ (i n : Nat) (s : St) : L_ref43_get i (n + 1) s = andThen (R_ref43_get i s) (H_ref43_get n i) := atN_succ lok_ref43_get i n s
theorem R_ref43_get_eq (i : Nat) (s : St) : R_ref43_get i s = runS Try.prog c_ref43_get (H_ref43_get bigL) an_ref43_get 24 (loopAt (bodyOf Try.f58) i) s := rfl
noncomputable def F_ref43_get (ds : List D) : Option D := runF Try.prog c_ref43_get an_ref43_get 24 (bodyOf Try.f58) [.tmp 4] ds
theorem F_ref43_get_eq (ds : List D) : F_ref43_get ds = runG Try.prog c_ref43_get (H_ref43_get bigL) an_ref43_get 24 (bodyOf Try.f58) [.tmp 4] ds := runG_eq lok_ref43_get _ ds
theorem C_ref43_get (ds : List D) (r : D) (h : F_ref43_get ds = some r) : Contract Try.prog gl 58 ds r := contract_of mix Try.func58 rfl (by kernel_rfl) (by kernel_rfl) (by decide) (call := c_ref43_get) ⟨callOf_ok cl_ref43_get trivial, callOfE_ok ce_ref43_get trivial⟩ h
-- sawmill/sawmillref43.number: loops []; state: params 0..0, then [2, 3]
attribute [simp] Try.f57
noncomputable def an_ref43_number : Ann := ⟨[0, 2, 3], [5], [], [], [], some [2, 3], [], [], [], []⟩
@[simp] theorem an_ref43_number_draws : an_ref43_number.draws = [] := rfl
@[simp] theorem an_ref43_number_exits : an_ref43_number.exits = [] := rfl
@[simp] theorem an_ref43_number_rets : an_ref43_number.rets = some [2, 3] := rfl
@[simp] theorem an_ref43_number_keep : an_ref43_number.keep = [0, 2, 3] := rfl
@[simp] theorem an_ref43_number_cond : an_ref43_number.cond = [5] := rfl
@[simp] theorem an_ref43_number_rows : an_ref43_number.rows = [] := rfl
@[simp] theorem an_ref43_number_loops : an_ref43_number.loops = [] := rfl
@[simp] theorem an_ref43_number_ecalls : an_ref43_number.ecalls = [] := rfl
@[simp] theorem an_ref43_number_crows : an_ref43_number.crows = [] := rfl
@[simp] theorem an_ref43_number_tails : an_ref43_number.tails = [] := rfl
@[simp] noncomputable def cl_ref43_number : List (Nat × (List D → Option D)) := [(49, F_ref43_big)]
@[simp] noncomputable def ce_ref43_number : List (Nat × (List (Nat × O) → List D → Option (D × List (Nat × O)))) := []
noncomputable def c_ref43_number : CT := ⟨callOf (cl_ref43_number ), callOfE ce_ref43_number, gl⟩
@[simp] theorem c_ref43_number_p (f : FuncId) (ds : List D) : c_ref43_number.p f ds = callOf (cl_ref43_number ) f ds := Eq.trans rfl rfl
@[simp] theorem c_ref43_number_e (f : FuncId) (hs : List (Nat × O)) (ds : List D) : c_ref43_number.e f hs ds = callOfE ce_ref43_number f hs ds := Eq.trans rfl rfl
@[simp] theorem c_ref43_number_g (g : Nat) : c_ref43_number.g g = gl g := Eq.trans rfl rfl
noncomputable def L_ref43_number (i n : Nat) (s : St) : Option (E × St) := atN Try.prog c_ref43_number an_ref43_number 7 (bodyOf Try.f57) i n s
noncomputable def H_ref43_number (n i : Nat) (s : St) : Option (E × St) := atH Try.prog c_ref43_number an_ref43_number 7 (bodyOf Try.f57) n i s
@[simp] theorem H_ref43_number_eq (n i : Nat) (s : St) : H_ref43_number n i s = L_ref43_number i n (headOf (an_ref43_number.loops.lookup i) s) := rfl
noncomputable def R_ref43_number (i : Nat) (s : St) : Option (E × St) := stepL Try.prog c_ref43_number an_ref43_number 7 (bodyOf Try.f57) i s
theorem lok_ref43_number : okLoops (bodyOf Try.f57) = true := by kernel_rfl
noncomputable def F_ref43_number (ds : List D) : Option D := runF Try.prog c_ref43_number an_ref43_number 7 (bodyOf Try.f57) [.tmp 2, .tmp 3] ds
theorem F_ref43_number_eq (ds : List D) : F_ref43_number ds = runG Try.prog c_ref43_number (H_ref43_number bigL) an_ref43_number 7 (bodyOf Try.f57) [.tmp 2, .tmp 3] ds := runG_eq lok_ref43_number _ ds
theorem C_ref43_number (ds : List D) (r : D) (h : F_ref43_number ds = some r) : Contract Try.prog gl 57 ds r := contract_of mix Try.func57 rfl (by kernel_rfl) (by kernel_rfl) (by decide) (call := c_ref43_number) ⟨callOf_ok cl_ref43_number ⟨C_ref43_big, trivial⟩, callOfE_ok ce_ref43_number trivial⟩ h
-- sawmill/sawmillref43.product: loops []; state: params 0..1, then [4, 5]
attribute [simp] Try.f59
noncomputable def an_ref43_product : Ann := ⟨[0, 1, 4, 5], [11, 21], [], [], [], some [4, 5], [], [], [], []⟩
@[simp] theorem an_ref43_product_draws : an_ref43_product.draws = [] := rfl
@[simp] theorem an_ref43_product_exits : an_ref43_product.exits = [] := rfl
@[simp] theorem an_ref43_product_rets : an_ref43_product.rets = some [4, 5] := rfl
@[simp] theorem an_ref43_product_keep : an_ref43_product.keep = [0, 1, 4, 5] := rfl
@[simp] theorem an_ref43_product_cond : an_ref43_product.cond = [11, 21] := rfl
@[simp] theorem an_ref43_product_rows : an_ref43_product.rows = [] := rfl
@[simp] theorem an_ref43_product_loops : an_ref43_product.loops = [] := rfl
@[simp] theorem an_ref43_product_ecalls : an_ref43_product.ecalls = [] := rfl
@[simp] theorem an_ref43_product_crows : an_ref43_product.crows = [] := rfl
@[simp] theorem an_ref43_product_tails : an_ref43_product.tails = [] := rfl
@[simp] noncomputable def cl_ref43_product : List (Nat × (List D → Option D)) := []
@[simp] noncomputable def ce_ref43_product : List (Nat × (List (Nat × O) → List D → Option (D × List (Nat × O)))) := []
noncomputable def c_ref43_product : CT := ⟨callOf (cl_ref43_product ), callOfE ce_ref43_product, gl⟩
@[simp] theorem c_ref43_product_p (f : FuncId) (ds : List D) : c_ref43_product.p f ds = callOf (cl_ref43_product ) f ds := Eq.trans rfl rfl
@[simp] theorem c_ref43_product_e (f : FuncId) (hs : List (Nat × O)) (ds : List D) : c_ref43_product.e f hs ds = callOfE ce_ref43_product f hs ds := Eq.trans rfl rfl
@[simp] theorem c_ref43_product_g (g : Nat) : c_ref43_product.g g = gl g := Eq.trans rfl rfl
noncomputable def L_ref43_product (i n : Nat) (s : St) : Option (E × St) := atN Try.prog c_ref43_product an_ref43_product 25 (bodyOf Try.f59) i n s
noncomputable def H_ref43_product (n i : Nat) (s : St) : Option (E × St) := atH Try.prog c_ref43_product an_ref43_product 25 (bodyOf Try.f59) n i s
@[simp] theorem H_ref43_product_eq (n i : Nat) (s : St) : H_ref43_product n i s = L_ref43_product i n (headOf (an_ref43_product.loops.lookup i) s) := rfl
noncomputable def R_ref43_product (i : Nat) (s : St) : Option (E × St) := stepL Try.prog c_ref43_product an_ref43_product 25 (bodyOf Try.f59) i s
theorem lok_ref43_product : okLoops (bodyOf Try.f59) = true := by kernel_rfl
noncomputable def F_ref43_product (ds : List D) : Option D := runF Try.prog c_ref43_product an_ref43_product 25 (bodyOf Try.f59) [.tmp 4, .tmp 5] ds
theorem F_ref43_product_eq (ds : List D) : F_ref43_product ds = runG Try.prog c_ref43_product (H_ref43_product bigL) an_ref43_product 25 (bodyOf Try.f59) [.tmp 4, .tmp 5] ds := runG_eq lok_ref43_product _ ds
theorem C_ref43_product (ds : List D) (r : D) (h : F_ref43_product ds = some r) : Contract Try.prog gl 59 ds r := contract_of mix Try.func59 rfl (by kernel_rfl) (by kernel_rfl) (by decide) (call := c_ref43_product) ⟨callOf_ok cl_ref43_product trivial, callOfE_ok ce_ref43_product trivial⟩ h
-- sawmill/sawmillref43.bit: loops []; state: params 0..0, then [2]
attribute [simp] Try.f60
noncomputable def an_ref43_bit : Ann := ⟨[2], [3], [], [], [], some [2], [], [], [], []⟩
@[simp] theorem an_ref43_bit_draws : an_ref43_bit.draws = [] := rfl
@[simp] theorem an_ref43_bit_exits : an_ref43_bit.exits = [] := rfl
@[simp] theorem an_ref43_bit_rets : an_ref43_bit.rets = some [2] := rfl
@[simp] theorem an_ref43_bit_keep : an_ref43_bit.keep = [2] := rfl
@[simp] theorem an_ref43_bit_cond : an_ref43_bit.cond = [3] := rfl
@[simp] theorem an_ref43_bit_rows : an_ref43_bit.rows = [] := rfl
@[simp] theorem an_ref43_bit_loops : an_ref43_bit.loops = [] := rfl
@[simp] theorem an_ref43_bit_ecalls : an_ref43_bit.ecalls = [] := rfl
@[simp] theorem an_ref43_bit_crows : an_ref43_bit.crows = [] := rfl
@[simp] theorem an_ref43_bit_tails : an_ref43_bit.tails = [] := rfl
@[simp] noncomputable def cl_ref43_bit : List (Nat × (List D → Option D)) := []
@[simp] noncomputable def ce_ref43_bit : List (Nat × (List (Nat × O) → List D → Option (D × List (Nat × O)))) := []
noncomputable def c_ref43_bit : CT := ⟨callOf (cl_ref43_bit ), callOfE ce_ref43_bit, gl⟩
@[simp] theorem c_ref43_bit_p (f : FuncId) (ds : List D) : c_ref43_bit.p f ds = callOf (cl_ref43_bit ) f ds := Eq.trans rfl rfl
@[simp] theorem c_ref43_bit_e (f : FuncId) (hs : List (Nat × O)) (ds : List D) : c_ref43_bit.e f hs ds = callOfE ce_ref43_bit f hs ds := Eq.trans rfl rfl
@[simp] theorem c_ref43_bit_g (g : Nat) : c_ref43_bit.g g = gl g := Eq.trans rfl rfl
noncomputable def L_ref43_bit (i n : Nat) (s : St) : Option (E × St) := atN Try.prog c_ref43_bit an_ref43_bit 4 (bodyOf Try.f60) i n s
noncomputable def H_ref43_bit (n i : Nat) (s : St) : Option (E × St) := atH Try.prog c_ref43_bit an_ref43_bit 4 (bodyOf Try.f60) n i s
@[simp] theorem H_ref43_bit_eq (n i : Nat) (s : St) : H_ref43_bit n i s = L_ref43_bit i n (headOf (an_ref43_bit.loops.lookup i) s) := rfl
noncomputable def R_ref43_bit (i : Nat) (s : St) : Option (E × St) := stepL Try.prog c_ref43_bit an_ref43_bit 4 (bodyOf Try.f60) i s
theorem lok_ref43_bit : okLoops (bodyOf Try.f60) = true := by kernel_rfl
noncomputable def F_ref43_bit (ds : List D) : Option D := runF Try.prog c_ref43_bit an_ref43_bit 4 (bodyOf Try.f60) [.tmp 2] ds
theorem F_ref43_bit_eq (ds : List D) : F_ref43_bit ds = runG Try.prog c_ref43_bit (H_ref43_bit bigL) an_ref43_bit 4 (bodyOf Try.f60) [.tmp 2] ds := runG_eq lok_ref43_bit _ ds
theorem C_ref43_bit (ds : List D) (r : D) (h : F_ref43_bit ds = some r) : Contract Try.prog gl 60 ds r := contract_of mix Try.func60 rfl (by kernel_rfl) (by kernel_rfl) (by decide) (call := c_ref43_bit) ⟨callOf_ok cl_ref43_bit trivial, callOfE_ok ce_ref43_bit trivial⟩ h
-- sawmill/sawmillref43.value: loops []; state: params 0..1, then [2, 4, 5, 6, 7, 8, 9, 10, 12, 73]; RECURSIVE
attribute [simp] Try.f42
noncomputable def an_ref43_value : Ann := ⟨[1, 2, 4, 5, 6, 7, 8, 9, 10, 12, 73], [13, 17, 36, 40, 58, 70, 74, 82, 90, 99, 101, 107, 113], [], [], [(0, [1, 2]), (1, [8])], some [4, 5], [], [], [], []⟩
@[simp] theorem an_ref43_value_draws : an_ref43_value.draws = [] := rfl
@[simp] theorem an_ref43_value_exits : an_ref43_value.exits = [(0, [1, 2]), (1, [8])] := rfl
@[simp] theorem an_ref43_value_rets : an_ref43_value.rets = some [4, 5] := rfl
@[simp] theorem an_ref43_value_keep : an_ref43_value.keep = [1, 2, 4, 5, 6, 7, 8, 9, 10, 12, 73] := rfl
@[simp] theorem an_ref43_value_cond : an_ref43_value.cond = [13, 17, 36, 40, 58, 70, 74, 82, 90, 99, 101, 107, 113] := rfl
@[simp] theorem an_ref43_value_rows : an_ref43_value.rows = [] := rfl
@[simp] theorem an_ref43_value_loops : an_ref43_value.loops = [] := rfl
@[simp] theorem an_ref43_value_ecalls : an_ref43_value.ecalls = [] := rfl
@[simp] theorem an_ref43_value_crows : an_ref43_value.crows = [] := rfl
@[simp] theorem an_ref43_value_tails : an_ref43_value.tails = [] := rfl
@[simp] noncomputable def cl_ref43_value (self : List D → Option D) : List (Nat × (List D → Option D)) := [(42, self), (57, F_ref43_number), (58, F_ref43_get), (59, F_ref43_product), (60, F_ref43_bit)]
@[simp] noncomputable def ce_ref43_value : List (Nat × (List (Nat × O) → List D → Option (D × List (Nat × O)))) := []
noncomputable def c_ref43_value (self : List D → Option D) : CT := ⟨callOf (cl_ref43_value self ), callOfE ce_ref43_value, gl⟩
@[simp] theorem c_ref43_value_p (self : List D → Option D) (f : FuncId) (ds : List D) : (c_ref43_value self).p f ds = callOf (cl_ref43_value self ) f ds := Eq.trans rfl rfl
@[simp] theorem c_ref43_value_e (self : List D → Option D) (f : FuncId) (hs : List (Nat × O)) (ds : List D) : (c_ref43_value self).e f hs ds = callOfE ce_ref43_value f hs ds := Eq.trans rfl rfl
@[simp] theorem c_ref43_value_g (self : List D → Option D) (g : Nat) : (c_ref43_value self).g g = gl g := Eq.trans rfl rfl
noncomputable def L_ref43_value (self : List D → Option D) (i n : Nat) (s : St) : Option (E × St) := atN Try.prog (c_ref43_value self) an_ref43_value 120 (bodyOf Try.f42) i n s
noncomputable def H_ref43_value (self : List D → Option D) (n i : Nat) (s : St) : Option (E × St) := atH Try.prog (c_ref43_value self) an_ref43_value 120 (bodyOf Try.f42) n i s
@[simp] theorem H_ref43_value_eq (self : List D → Option D) (n i : Nat) (s : St) : H_ref43_value self n i s = L_ref43_value self i n (headOf (an_ref43_value.loops.lookup i) s) := rfl
noncomputable def R_ref43_value (self : List D → Option D) (i : Nat) (s : St) : Option (E × St) := stepL Try.prog (c_ref43_value self) an_ref43_value 120 (bodyOf Try.f42) i s
theorem lok_ref43_value : okLoops (bodyOf Try.f42) = true := by kernel_rfl
noncomputable def FN_ref43_value : Nat → List D → Option D
  | 0 => fun _ => none
  | n + 1 => fun ds => runF Try.prog (c_ref43_value (FN_ref43_value n)) an_ref43_value 120 (bodyOf Try.f42) [.tmp 4, .tmp 5] ds
theorem FN_ref43_value_eq (n : Nat) (ds : List D) : FN_ref43_value (n + 1) ds = runG Try.prog (c_ref43_value (FN_ref43_value n)) (H_ref43_value (FN_ref43_value n) bigL) an_ref43_value 120 (bodyOf Try.f42) [.tmp 4, .tmp 5] ds := runG_eq lok_ref43_value _ ds
theorem CN_ref43_value : ∀ (n : Nat) (ds : List D) (r : D), FN_ref43_value n ds = some r → Contract Try.prog gl 42 ds r
  | 0, _, _, h => by cases h
  | n + 1, ds, r, h => by
    have ih := CN_ref43_value n
    exact contract_of mix Try.func42 rfl (by kernel_rfl) (by kernel_rfl) (by decide) (call := c_ref43_value (FN_ref43_value n)) ⟨callOf_ok (cl_ref43_value (FN_ref43_value n)) ⟨ih, C_ref43_number, C_ref43_get, C_ref43_product, C_ref43_bit, trivial⟩, callOfE_ok ce_ref43_value trivial⟩ h
noncomputable def F_ref43_value (ds : List D) : Option D := FN_ref43_value 1000 ds
theorem C_ref43_value (ds : List D) (r : D) (h : F_ref43_value ds = some r) : Contract Try.prog gl 42 ds r := CN_ref43_value 1000 ds r h
-- sawmill/sawmillref43.Eval: loops []; state: params 0..1, then [2, 4, 5, 6]
attribute [simp] Try.f20
noncomputable def an_ref43_Eval : Ann := ⟨[1, 2, 4, 5, 6], [12], [], [], [], some [4, 5], [(1, 3)], [], [], []⟩
@[simp] theorem an_ref43_Eval_draws : an_ref43_Eval.draws = [(1, 3)] := rfl
@[simp] theorem an_ref43_Eval_exits : an_ref43_Eval.exits = [] := rfl
@[simp] theorem an_ref43_Eval_rets : an_ref43_Eval.rets = some [4, 5] := rfl
@[simp] theorem an_ref43_Eval_keep : an_ref43_Eval.keep = [1, 2, 4, 5, 6] := rfl
@[simp] theorem an_ref43_Eval_cond : an_ref43_Eval.cond = [12] := rfl
@[simp] theorem an_ref43_Eval_rows : an_ref43_Eval.rows = [] := rfl
@[simp] theorem an_ref43_Eval_loops : an_ref43_Eval.loops = [] := rfl
@[simp] theorem an_ref43_Eval_ecalls : an_ref43_Eval.ecalls = [] := rfl
@[simp] theorem an_ref43_Eval_crows : an_ref43_Eval.crows = [] := rfl
@[simp] theorem an_ref43_Eval_tails : an_ref43_Eval.tails = [] := rfl
@[simp] noncomputable def cl_ref43_Eval : List (Nat × (List D → Option D)) := [(13, F_ref43_Names), (34, F_ref43_check), (42, F_ref43_value)]
@[simp] noncomputable def ce_ref43_Eval : List (Nat × (List (Nat × O) → List D → Option (D × List (Nat × O)))) := []
noncomputable def c_ref43_Eval : CT := ⟨callOf (cl_ref43_Eval ), callOfE ce_ref43_Eval, gl⟩
@[simp] theorem c_ref43_Eval_p (f : FuncId) (ds : List D) : c_ref43_Eval.p f ds = callOf (cl_ref43_Eval ) f ds := Eq.trans rfl rfl
@[simp] theorem c_ref43_Eval_e (f : FuncId) (hs : List (Nat × O)) (ds : List D) : c_ref43_Eval.e f hs ds = callOfE ce_ref43_Eval f hs ds := Eq.trans rfl rfl
@[simp] theorem c_ref43_Eval_g (g : Nat) : c_ref43_Eval.g g = gl g := Eq.trans rfl rfl
noncomputable def L_ref43_Eval (i n : Nat) (s : St) : Option (E × St) := atN Try.prog c_ref43_Eval an_ref43_Eval 19 (bodyOf Try.f20) i n s
noncomputable def H_ref43_Eval (n i : Nat) (s : St) : Option (E × St) := atH Try.prog c_ref43_Eval an_ref43_Eval 19 (bodyOf Try.f20) n i s
@[simp] theorem H_ref43_Eval_eq (n i : Nat) (s : St) : H_ref43_Eval n i s = L_ref43_Eval i n (headOf (an_ref43_Eval.loops.lookup i) s) := rfl
noncomputable def R_ref43_Eval (i : Nat) (s : St) : Option (E × St) := stepL Try.prog c_ref43_Eval an_ref43_Eval 19 (bodyOf Try.f20) i s
theorem lok_ref43_Eval : okLoops (bodyOf Try.f20) = true := by kernel_rfl
noncomputable def F_ref43_Eval (ds : List D) : Option D := runF Try.prog c_ref43_Eval an_ref43_Eval 19 (bodyOf Try.f20) [.tmp 4, .tmp 5] ds
theorem F_ref43_Eval_eq (ds : List D) : F_ref43_Eval ds = runG Try.prog c_ref43_Eval (H_ref43_Eval bigL) an_ref43_Eval 19 (bodyOf Try.f20) [.tmp 4, .tmp 5] ds := runG_eq lok_ref43_Eval _ ds
theorem C_ref43_Eval (ds : List D) (r : D) (h : F_ref43_Eval ds = some r) : Contract Try.prog gl 20 ds r := contract_of mix Try.func20 rfl (by kernel_rfl) (by kernel_rfl) (by decide) (call := c_ref43_Eval) ⟨callOf_ok cl_ref43_Eval ⟨C_ref43_Names, C_ref43_check, C_ref43_value, trivial⟩, callOfE_ok ce_ref43_Eval trivial⟩ h
-- sawmill/sawmilllaw43.RuleEvals: loops []; state: params 0..1, then [2, 4, 5, 6, 7, 8]
attribute [simp] Try.f4
noncomputable def an_law43_RuleEvals : Ann := ⟨[1, 2, 4, 5, 6, 7, 8], [16], [], [], [], some [4], [], [], [], []⟩
@[simp] theorem an_law43_RuleEvals_draws : an_law43_RuleEvals.draws = [] := rfl
@[simp] theorem an_law43_RuleEvals_exits : an_law43_RuleEvals.exits = [] := rfl
@[simp] theorem an_law43_RuleEvals_rets : an_law43_RuleEvals.rets = some [4] := rfl
@[simp] theorem an_law43_RuleEvals_keep : an_law43_RuleEvals.keep = [1, 2, 4, 5, 6, 7, 8] := rfl
@[simp] theorem an_law43_RuleEvals_cond : an_law43_RuleEvals.cond = [16] := rfl
@[simp] theorem an_law43_RuleEvals_rows : an_law43_RuleEvals.rows = [] := rfl
@[simp] theorem an_law43_RuleEvals_loops : an_law43_RuleEvals.loops = [] := rfl
@[simp] theorem an_law43_RuleEvals_ecalls : an_law43_RuleEvals.ecalls = [] := rfl
@[simp] theorem an_law43_RuleEvals_crows : an_law43_RuleEvals.crows = [] := rfl
@[simp] theorem an_law43_RuleEvals_tails : an_law43_RuleEvals.tails = [] := rfl
@[simp] noncomputable def cl_law43_RuleEvals : List (Nat × (List D → Option D)) := [(10, F_law43_small), (11, F_law43_short), (12, F_law43_awake), (19, F_rule_Eval), (20, F_ref43_Eval)]
@[simp] noncomputable def ce_law43_RuleEvals : List (Nat × (List (Nat × O) → List D → Option (D × List (Nat × O)))) := []
noncomputable def c_law43_RuleEvals : CT := ⟨callOf (cl_law43_RuleEvals ), callOfE ce_law43_RuleEvals, gl⟩
@[simp] theorem c_law43_RuleEvals_p (f : FuncId) (ds : List D) : c_law43_RuleEvals.p f ds = callOf (cl_law43_RuleEvals ) f ds := Eq.trans rfl rfl
@[simp] theorem c_law43_RuleEvals_e (f : FuncId) (hs : List (Nat × O)) (ds : List D) : c_law43_RuleEvals.e f hs ds = callOfE ce_law43_RuleEvals f hs ds := Eq.trans rfl rfl
@[simp] theorem c_law43_RuleEvals_g (g : Nat) : c_law43_RuleEvals.g g = gl g := Eq.trans rfl rfl
noncomputable def L_law43_RuleEvals (i n : Nat) (s : St) : Option (E × St) := atN Try.prog c_law43_RuleEvals an_law43_RuleEvals 41 (bodyOf Try.f4) i n s
noncomputable def H_law43_RuleEvals (n i : Nat) (s : St) : Option (E × St) := atH Try.prog c_law43_RuleEvals an_law43_RuleEvals 41 (bodyOf Try.f4) n i s
@[simp] theorem H_law43_RuleEvals_eq (n i : Nat) (s : St) : H_law43_RuleEvals n i s = L_law43_RuleEvals i n (headOf (an_law43_RuleEvals.loops.lookup i) s) := rfl
noncomputable def R_law43_RuleEvals (i : Nat) (s : St) : Option (E × St) := stepL Try.prog c_law43_RuleEvals an_law43_RuleEvals 41 (bodyOf Try.f4) i s
theorem lok_law43_RuleEvals : okLoops (bodyOf Try.f4) = true := by kernel_rfl
noncomputable def F_law43_RuleEvals (ds : List D) : Option D := runF Try.prog c_law43_RuleEvals an_law43_RuleEvals 41 (bodyOf Try.f4) [.tmp 4] ds
theorem F_law43_RuleEvals_eq (ds : List D) : F_law43_RuleEvals ds = runG Try.prog c_law43_RuleEvals (H_law43_RuleEvals bigL) an_law43_RuleEvals 41 (bodyOf Try.f4) [.tmp 4] ds := runG_eq lok_law43_RuleEvals _ ds
theorem C_law43_RuleEvals (ds : List D) (r : D) (h : F_law43_RuleEvals ds = some r) : Contract Try.prog gl 4 ds r := contract_of mix Try.func4 rfl (by kernel_rfl) (by kernel_rfl) (by decide) (call := c_law43_RuleEvals) ⟨callOf_ok cl_law43_RuleEvals ⟨C_law43_small, C_law43_short, C_law43_awake, C_rule_Eval, C_ref43_Eval, trivial⟩, callOfE_ok ce_law43_RuleEvals trivial⟩ h
-- sawmill/sawmilllaw43.table: loops [4]; state: params 0..0, then [2, 3]
attribute [simp] Try.f21
noncomputable def an_law43_table : Ann := ⟨[0, 2, 3], [6, 10, 19], [], [(4, [0, 3])], [(0, []), (1, [0, 3])], some [2], [], [], [], []⟩
@[simp] theorem an_law43_table_draws : an_law43_table.draws = [] := rfl
@[simp] theorem an_law43_table_exits : an_law43_table.exits = [(0, []), (1, [0, 3])] := rfl
@[simp] theorem an_law43_table_rets : an_law43_table.rets = some [2] := rfl
@[simp] theorem an_law43_table_keep : an_law43_table.keep = [0, 2, 3] := rfl
@[simp] theorem an_law43_table_cond : an_law43_table.cond = [6, 10, 19] := rfl
@[simp] theorem an_law43_table_rows : an_law43_table.rows = [] := rfl
@[simp] theorem an_law43_table_loops : an_law43_table.loops = [(4, [0, 3])] := rfl
@[simp] theorem an_law43_table_ecalls : an_law43_table.ecalls = [] := rfl
@[simp] theorem an_law43_table_crows : an_law43_table.crows = [] := rfl
@[simp] theorem an_law43_table_tails : an_law43_table.tails = [] := rfl
@[simp] noncomputable def cl_law43_table : List (Nat × (List D → Option D)) := [(10, F_law43_small)]
@[simp] noncomputable def ce_law43_table : List (Nat × (List (Nat × O) → List D → Option (D × List (Nat × O)))) := []
noncomputable def c_law43_table : CT := ⟨callOf (cl_law43_table ), callOfE ce_law43_table, gl⟩
@[simp] theorem c_law43_table_p (f : FuncId) (ds : List D) : c_law43_table.p f ds = callOf (cl_law43_table ) f ds := Eq.trans rfl rfl
@[simp] theorem c_law43_table_e (f : FuncId) (hs : List (Nat × O)) (ds : List D) : c_law43_table.e f hs ds = callOfE ce_law43_table f hs ds := Eq.trans rfl rfl
@[simp] theorem c_law43_table_g (g : Nat) : c_law43_table.g g = gl g := Eq.trans rfl rfl
noncomputable def L_law43_table (i n : Nat) (s : St) : Option (E × St) := atN Try.prog c_law43_table an_law43_table 20 (bodyOf Try.f21) i n s
noncomputable def H_law43_table (n i : Nat) (s : St) : Option (E × St) := atH Try.prog c_law43_table an_law43_table 20 (bodyOf Try.f21) n i s
@[simp] theorem H_law43_table_eq (n i : Nat) (s : St) : H_law43_table n i s = L_law43_table i n (headOf (an_law43_table.loops.lookup i) s) := rfl
noncomputable def R_law43_table (i : Nat) (s : St) : Option (E × St) := stepL Try.prog c_law43_table an_law43_table 20 (bodyOf Try.f21) i s
theorem lok_law43_table : okLoops (bodyOf Try.f21) = true := by kernel_rfl
theorem L_law43_table_zero (i : Nat) (s : St) : L_law43_table i 0 s = none := rfl
theorem L_law43_table_succ (i n : Nat) (s : St) : L_law43_table i (n + 1) s = andThen (R_law43_table i s) (H_law43_table n i) := atN_succ lok_law43_table i n s
theorem R_law43_table_eq (i : Nat) (s : St) : R_law43_table i s = runS Try.prog c_law43_table (H_law43_table bigL) an_law43_table 20 (loopAt (bodyOf Try.f21) i) s := rfl
noncomputable def F_law43_table (ds : List D) : Option D := runF Try.prog c_law43_table an_law43_table 20 (bodyOf Try.f21) [.tmp 2] ds
theorem F_law43_table_eq (ds : List D) : F_law43_table ds = runG Try.prog c_law43_table (H_law43_table bigL) an_law43_table 20 (bodyOf Try.f21) [.tmp 2] ds := runG_eq lok_law43_table _ ds
theorem C_law43_table (ds : List D) (r : D) (h : F_law43_table ds = some r) : Contract Try.prog gl 21 ds r := contract_of mix Try.func21 rfl (by kernel_rfl) (by kernel_rfl) (by decide) (call := c_law43_table) ⟨callOf_ok cl_law43_table ⟨C_law43_small, trivial⟩, callOfE_ok ce_law43_table trivial⟩ h
-- sawmill/sawmillref43.CheckRules: loops [4]; state: params 0..1, then [4, 5, 6]
attribute [simp] Try.f25
noncomputable def an_ref43_CheckRules : Ann := ⟨[0, 4, 5, 6], [9, 13, 29, 38], [], [(4, [0, 1, 5])], [(0, []), (1, [0, 1, 5])], some [4], [], [], [], []⟩
@[simp] theorem an_ref43_CheckRules_draws : an_ref43_CheckRules.draws = [] := rfl
@[simp] theorem an_ref43_CheckRules_exits : an_ref43_CheckRules.exits = [(0, []), (1, [0, 1, 5])] := rfl
@[simp] theorem an_ref43_CheckRules_rets : an_ref43_CheckRules.rets = some [4] := rfl
@[simp] theorem an_ref43_CheckRules_keep : an_ref43_CheckRules.keep = [0, 4, 5, 6] := rfl
@[simp] theorem an_ref43_CheckRules_cond : an_ref43_CheckRules.cond = [9, 13, 29, 38] := rfl
@[simp] theorem an_ref43_CheckRules_rows : an_ref43_CheckRules.rows = [] := rfl
@[simp] theorem an_ref43_CheckRules_loops : an_ref43_CheckRules.loops = [(4, [0, 1, 5])] := rfl
@[simp] theorem an_ref43_CheckRules_ecalls : an_ref43_CheckRules.ecalls = [] := rfl
@[simp] theorem an_ref43_CheckRules_crows : an_ref43_CheckRules.crows = [] := rfl
@[simp] theorem an_ref43_CheckRules_tails : an_ref43_CheckRules.tails = [] := rfl
@[simp] noncomputable def cl_ref43_CheckRules : List (Nat × (List D → Option D)) := [(15, F_ref43_Check)]
@[simp] noncomputable def ce_ref43_CheckRules : List (Nat × (List (Nat × O) → List D → Option (D × List (Nat × O)))) := []
noncomputable def c_ref43_CheckRules : CT := ⟨callOf (cl_ref43_CheckRules ), callOfE ce_ref43_CheckRules, gl⟩
@[simp] theorem c_ref43_CheckRules_p (f : FuncId) (ds : List D) : c_ref43_CheckRules.p f ds = callOf (cl_ref43_CheckRules ) f ds := Eq.trans rfl rfl
@[simp] theorem c_ref43_CheckRules_e (f : FuncId) (hs : List (Nat × O)) (ds : List D) : c_ref43_CheckRules.e f hs ds = callOfE ce_ref43_CheckRules f hs ds := Eq.trans rfl rfl
@[simp] theorem c_ref43_CheckRules_g (g : Nat) : c_ref43_CheckRules.g g = gl g := Eq.trans rfl rfl
noncomputable def L_ref43_CheckRules (i n : Nat) (s : St) : Option (E × St) := atN Try.prog c_ref43_CheckRules an_ref43_CheckRules 40 (bodyOf Try.f25) i n s
noncomputable def H_ref43_CheckRules (n i : Nat) (s : St) : Option (E × St) := atH Try.prog c_ref43_CheckRules an_ref43_CheckRules 40 (bodyOf Try.f25) n i s
@[simp] theorem H_ref43_CheckRules_eq (n i : Nat) (s : St) : H_ref43_CheckRules n i s = L_ref43_CheckRules i n (headOf (an_ref43_CheckRules.loops.lookup i) s) := rfl
noncomputable def R_ref43_CheckRules (i : Nat) (s : St) : Option (E × St) := stepL Try.prog c_ref43_CheckRules an_ref43_CheckRules 40 (bodyOf Try.f25) i s
theorem lok_ref43_CheckRules : okLoops (bodyOf Try.f25) = true := by kernel_rfl
theorem L_ref43_CheckRules_zero (i : Nat) (s : St) : L_ref43_CheckRules i 0 s = none := rfl
theorem L_ref43_CheckRules_succ (i n : Nat) (s : St) : L_ref43_CheckRules i (n + 1) s = andThen (R_ref43_CheckRules i s) (H_ref43_CheckRules n i) := atN_succ lok_ref43_CheckRules i n s
theorem R_ref43_CheckRules_eq (i : Nat) (s : St) : R_ref43_CheckRules i s = runS Try.prog c_ref43_CheckRules (H_ref43_CheckRules bigL) an_ref43_CheckRules 40 (loopAt (bodyOf Try.f25) i) s := rfl
noncomputable def F_ref43_CheckRules (ds : List D) : Option D := runF Try.prog c_ref43_CheckRules an_ref43_CheckRules 40 (bodyOf Try.f25) [.tmp 4] ds
theorem F_ref43_CheckRules_eq (ds : List D) : F_ref43_CheckRules ds = runG Try.prog c_ref43_CheckRules (H_ref43_CheckRules bigL) an_ref43_CheckRules 40 (bodyOf Try.f25) [.tmp 4] ds := runG_eq lok_ref43_CheckRules _ ds
theorem C_ref43_CheckRules (ds : List D) (r : D) (h : F_ref43_CheckRules ds = some r) : Contract Try.prog gl 25 ds r := contract_of mix Try.func25 rfl (by kernel_rfl) (by kernel_rfl) (by decide) (call := c_ref43_CheckRules) ⟨callOf_ok cl_ref43_CheckRules ⟨C_ref43_Check, trivial⟩, callOfE_ok ce_ref43_CheckRules trivial⟩ h
-- sawmill/sawmillref43.Grade: loops [5]; state: params 0..1, then [4, 5, 6, 7, 8, 9, 10]
attribute [simp] Try.f23
noncomputable def an_ref43_Grade : Ann := ⟨[0, 1, 4, 5, 6, 7, 8, 9, 10], [16, 21, 35, 38], [], [(5, [0, 1, 8])], [(0, []), (1, [0, 1, 8])], some [4, 5, 6], [], [], [], []⟩
@[simp] theorem an_ref43_Grade_draws : an_ref43_Grade.draws = [] := rfl
@[simp] theorem an_ref43_Grade_exits : an_ref43_Grade.exits = [(0, []), (1, [0, 1, 8])] := rfl
@[simp] theorem an_ref43_Grade_rets : an_ref43_Grade.rets = some [4, 5, 6] := rfl
@[simp] theorem an_ref43_Grade_keep : an_ref43_Grade.keep = [0, 1, 4, 5, 6, 7, 8, 9, 10] := rfl
@[simp] theorem an_ref43_Grade_cond : an_ref43_Grade.cond = [16, 21, 35, 38] := rfl
@[simp] theorem an_ref43_Grade_rows : an_ref43_Grade.rows = [] := rfl
@[simp] theorem an_ref43_Grade_loops : an_ref43_Grade.loops = [(5, [0, 1, 8])] := rfl
@[simp] theorem an_ref43_Grade_ecalls : an_ref43_Grade.ecalls = [] := rfl
@[simp] theorem an_ref43_Grade_crows : an_ref43_Grade.crows = [] := rfl
@[simp] theorem an_ref43_Grade_tails : an_ref43_Grade.tails = [] := rfl
@[simp] noncomputable def cl_ref43_Grade : List (Nat × (List D → Option D)) := [(13, F_ref43_Names), (25, F_ref43_CheckRules), (42, F_ref43_value)]
@[simp] noncomputable def ce_ref43_Grade : List (Nat × (List (Nat × O) → List D → Option (D × List (Nat × O)))) := []
noncomputable def c_ref43_Grade : CT := ⟨callOf (cl_ref43_Grade ), callOfE ce_ref43_Grade, gl⟩
@[simp] theorem c_ref43_Grade_p (f : FuncId) (ds : List D) : c_ref43_Grade.p f ds = callOf (cl_ref43_Grade ) f ds := Eq.trans rfl rfl
@[simp] theorem c_ref43_Grade_e (f : FuncId) (hs : List (Nat × O)) (ds : List D) : c_ref43_Grade.e f hs ds = callOfE ce_ref43_Grade f hs ds := Eq.trans rfl rfl
@[simp] theorem c_ref43_Grade_g (g : Nat) : c_ref43_Grade.g g = gl g := Eq.trans rfl rfl
noncomputable def L_ref43_Grade (i n : Nat) (s : St) : Option (E × St) := atN Try.prog c_ref43_Grade an_ref43_Grade 45 (bodyOf Try.f23) i n s
noncomputable def H_ref43_Grade (n i : Nat) (s : St) : Option (E × St) := atH Try.prog c_ref43_Grade an_ref43_Grade 45 (bodyOf Try.f23) n i s
@[simp] theorem H_ref43_Grade_eq (n i : Nat) (s : St) : H_ref43_Grade n i s = L_ref43_Grade i n (headOf (an_ref43_Grade.loops.lookup i) s) := rfl
noncomputable def R_ref43_Grade (i : Nat) (s : St) : Option (E × St) := stepL Try.prog c_ref43_Grade an_ref43_Grade 45 (bodyOf Try.f23) i s
theorem lok_ref43_Grade : okLoops (bodyOf Try.f23) = true := by kernel_rfl
theorem L_ref43_Grade_zero (i : Nat) (s : St) : L_ref43_Grade i 0 s = none := rfl
theorem L_ref43_Grade_succ (i n : Nat) (s : St) : L_ref43_Grade i (n + 1) s = andThen (R_ref43_Grade i s) (H_ref43_Grade n i) := atN_succ lok_ref43_Grade i n s
theorem R_ref43_Grade_eq (i : Nat) (s : St) : R_ref43_Grade i s = runS Try.prog c_ref43_Grade (H_ref43_Grade bigL) an_ref43_Grade 45 (loopAt (bodyOf Try.f23) i) s := rfl
noncomputable def F_ref43_Grade (ds : List D) : Option D := runF Try.prog c_ref43_Grade an_ref43_Grade 45 (bodyOf Try.f23) [.tmp 4, .tmp 5, .tmp 6] ds
theorem F_ref43_Grade_eq (ds : List D) : F_ref43_Grade ds = runG Try.prog c_ref43_Grade (H_ref43_Grade bigL) an_ref43_Grade 45 (bodyOf Try.f23) [.tmp 4, .tmp 5, .tmp 6] ds := runG_eq lok_ref43_Grade _ ds
theorem C_ref43_Grade (ds : List D) (r : D) (h : F_ref43_Grade ds = some r) : Contract Try.prog gl 23 ds r := contract_of mix Try.func23 rfl (by kernel_rfl) (by kernel_rfl) (by decide) (call := c_ref43_Grade) ⟨callOf_ok cl_ref43_Grade ⟨C_ref43_Names, C_ref43_CheckRules, C_ref43_value, trivial⟩, callOfE_ok ce_ref43_Grade trivial⟩ h
-- sawmill/sawmilllaw43.RuleGrades: loops []; state: params 0..1, then [4, 5, 6, 7, 8, 9, 10, 11]
attribute [simp] Try.f5
noncomputable def an_law43_RuleGrades : Ann := ⟨[0, 1, 4, 5, 6, 7, 8, 9, 10, 11], [19], [], [], [], some [4], [], [], [], []⟩
@[simp] theorem an_law43_RuleGrades_draws : an_law43_RuleGrades.draws = [] := rfl
@[simp] theorem an_law43_RuleGrades_exits : an_law43_RuleGrades.exits = [] := rfl
@[simp] theorem an_law43_RuleGrades_rets : an_law43_RuleGrades.rets = some [4] := rfl
@[simp] theorem an_law43_RuleGrades_keep : an_law43_RuleGrades.keep = [0, 1, 4, 5, 6, 7, 8, 9, 10, 11] := rfl
@[simp] theorem an_law43_RuleGrades_cond : an_law43_RuleGrades.cond = [19] := rfl
@[simp] theorem an_law43_RuleGrades_rows : an_law43_RuleGrades.rows = [] := rfl
@[simp] theorem an_law43_RuleGrades_loops : an_law43_RuleGrades.loops = [] := rfl
@[simp] theorem an_law43_RuleGrades_ecalls : an_law43_RuleGrades.ecalls = [] := rfl
@[simp] theorem an_law43_RuleGrades_crows : an_law43_RuleGrades.crows = [] := rfl
@[simp] theorem an_law43_RuleGrades_tails : an_law43_RuleGrades.tails = [] := rfl
@[simp] noncomputable def cl_law43_RuleGrades : List (Nat × (List D → Option D)) := [(11, F_law43_short), (12, F_law43_awake), (13, F_ref43_Names), (21, F_law43_table), (22, F_rule_Grade), (23, F_ref43_Grade), (24, F_rule_CheckRules), (25, F_ref43_CheckRules)]
@[simp] noncomputable def ce_law43_RuleGrades : List (Nat × (List (Nat × O) → List D → Option (D × List (Nat × O)))) := []
noncomputable def c_law43_RuleGrades : CT := ⟨callOf (cl_law43_RuleGrades ), callOfE ce_law43_RuleGrades, gl⟩
@[simp] theorem c_law43_RuleGrades_p (f : FuncId) (ds : List D) : c_law43_RuleGrades.p f ds = callOf (cl_law43_RuleGrades ) f ds := Eq.trans rfl rfl
@[simp] theorem c_law43_RuleGrades_e (f : FuncId) (hs : List (Nat × O)) (ds : List D) : c_law43_RuleGrades.e f hs ds = callOfE ce_law43_RuleGrades f hs ds := Eq.trans rfl rfl
@[simp] theorem c_law43_RuleGrades_g (g : Nat) : c_law43_RuleGrades.g g = gl g := Eq.trans rfl rfl
noncomputable def L_law43_RuleGrades (i n : Nat) (s : St) : Option (E × St) := atN Try.prog c_law43_RuleGrades an_law43_RuleGrades 62 (bodyOf Try.f5) i n s
noncomputable def H_law43_RuleGrades (n i : Nat) (s : St) : Option (E × St) := atH Try.prog c_law43_RuleGrades an_law43_RuleGrades 62 (bodyOf Try.f5) n i s
@[simp] theorem H_law43_RuleGrades_eq (n i : Nat) (s : St) : H_law43_RuleGrades n i s = L_law43_RuleGrades i n (headOf (an_law43_RuleGrades.loops.lookup i) s) := rfl
noncomputable def R_law43_RuleGrades (i : Nat) (s : St) : Option (E × St) := stepL Try.prog c_law43_RuleGrades an_law43_RuleGrades 62 (bodyOf Try.f5) i s
theorem lok_law43_RuleGrades : okLoops (bodyOf Try.f5) = true := by kernel_rfl
noncomputable def F_law43_RuleGrades (ds : List D) : Option D := runF Try.prog c_law43_RuleGrades an_law43_RuleGrades 62 (bodyOf Try.f5) [.tmp 4] ds
theorem F_law43_RuleGrades_eq (ds : List D) : F_law43_RuleGrades ds = runG Try.prog c_law43_RuleGrades (H_law43_RuleGrades bigL) an_law43_RuleGrades 62 (bodyOf Try.f5) [.tmp 4] ds := runG_eq lok_law43_RuleGrades _ ds
theorem C_law43_RuleGrades (ds : List D) (r : D) (h : F_law43_RuleGrades ds = some r) : Contract Try.prog gl 5 ds r := contract_of mix Try.func5 rfl (by kernel_rfl) (by kernel_rfl) (by decide) (call := c_law43_RuleGrades) ⟨callOf_ok cl_law43_RuleGrades ⟨C_law43_short, C_law43_awake, C_ref43_Names, C_law43_table, C_rule_Grade, C_ref43_Grade, C_rule_CheckRules, C_ref43_CheckRules, trivial⟩, callOfE_ok ce_law43_RuleGrades trivial⟩ h
-- sawmill/sawmilllaw43.plain: loops [4]; state: params 0..1, then [2, 4, 5]; RECURSIVE
attribute [simp] Try.f26
noncomputable def an_law43_plain : Ann := ⟨[1, 2, 4, 5], [7, 12, 23], [], [(4, [1, 2, 5])], [(0, [2]), (1, [1, 2, 5])], some [4], [], [], [], []⟩
@[simp] theorem an_law43_plain_draws : an_law43_plain.draws = [] := rfl
@[simp] theorem an_law43_plain_exits : an_law43_plain.exits = [(0, [2]), (1, [1, 2, 5])] := rfl
@[simp] theorem an_law43_plain_rets : an_law43_plain.rets = some [4] := rfl
@[simp] theorem an_law43_plain_keep : an_law43_plain.keep = [1, 2, 4, 5] := rfl
@[simp] theorem an_law43_plain_cond : an_law43_plain.cond = [7, 12, 23] := rfl
@[simp] theorem an_law43_plain_rows : an_law43_plain.rows = [] := rfl
@[simp] theorem an_law43_plain_loops : an_law43_plain.loops = [(4, [1, 2, 5])] := rfl
@[simp] theorem an_law43_plain_ecalls : an_law43_plain.ecalls = [] := rfl
@[simp] theorem an_law43_plain_crows : an_law43_plain.crows = [] := rfl
@[simp] theorem an_law43_plain_tails : an_law43_plain.tails = [] := rfl
@[simp] noncomputable def cl_law43_plain (self : List D → Option D) : List (Nat × (List D → Option D)) := [(26, self)]
@[simp] noncomputable def ce_law43_plain : List (Nat × (List (Nat × O) → List D → Option (D × List (Nat × O)))) := []
noncomputable def c_law43_plain (self : List D → Option D) : CT := ⟨callOf (cl_law43_plain self ), callOfE ce_law43_plain, gl⟩
@[simp] theorem c_law43_plain_p (self : List D → Option D) (f : FuncId) (ds : List D) : (c_law43_plain self).p f ds = callOf (cl_law43_plain self ) f ds := Eq.trans rfl rfl
@[simp] theorem c_law43_plain_e (self : List D → Option D) (f : FuncId) (hs : List (Nat × O)) (ds : List D) : (c_law43_plain self).e f hs ds = callOfE ce_law43_plain f hs ds := Eq.trans rfl rfl
@[simp] theorem c_law43_plain_g (self : List D → Option D) (g : Nat) : (c_law43_plain self).g g = gl g := Eq.trans rfl rfl
noncomputable def L_law43_plain (self : List D → Option D) (i n : Nat) (s : St) : Option (E × St) := atN Try.prog (c_law43_plain self) an_law43_plain 32 (bodyOf Try.f26) i n s
noncomputable def H_law43_plain (self : List D → Option D) (n i : Nat) (s : St) : Option (E × St) := atH Try.prog (c_law43_plain self) an_law43_plain 32 (bodyOf Try.f26) n i s
@[simp] theorem H_law43_plain_eq (self : List D → Option D) (n i : Nat) (s : St) : H_law43_plain self n i s = L_law43_plain self i n (headOf (an_law43_plain.loops.lookup i) s) := rfl
noncomputable def R_law43_plain (self : List D → Option D) (i : Nat) (s : St) : Option (E × St) := stepL Try.prog (c_law43_plain self) an_law43_plain 32 (bodyOf Try.f26) i s
theorem lok_law43_plain : okLoops (bodyOf Try.f26) = true := by kernel_rfl
theorem L_law43_plain_zero (self : List D → Option D) (i : Nat) (s : St) : L_law43_plain self i 0 s = none := rfl
theorem L_law43_plain_succ (self : List D → Option D) (i n : Nat) (s : St) : L_law43_plain self i (n + 1) s = andThen (R_law43_plain self i s) (H_law43_plain self n i) := atN_succ lok_law43_plain i n s
theorem R_law43_plain_eq (self : List D → Option D) (i : Nat) (s : St) : R_law43_plain self i s = runS Try.prog (c_law43_plain self) (H_law43_plain self bigL) an_law43_plain 32 (loopAt (bodyOf Try.f26) i) s := rfl
noncomputable def FN_law43_plain : Nat → List D → Option D
  | 0 => fun _ => none
  | n + 1 => fun ds => runF Try.prog (c_law43_plain (FN_law43_plain n)) an_law43_plain 32 (bodyOf Try.f26) [.tmp 4] ds
theorem FN_law43_plain_eq (n : Nat) (ds : List D) : FN_law43_plain (n + 1) ds = runG Try.prog (c_law43_plain (FN_law43_plain n)) (H_law43_plain (FN_law43_plain n) bigL) an_law43_plain 32 (bodyOf Try.f26) [.tmp 4] ds := runG_eq lok_law43_plain _ ds
theorem CN_law43_plain : ∀ (n : Nat) (ds : List D) (r : D), FN_law43_plain n ds = some r → Contract Try.prog gl 26 ds r
  | 0, _, _, h => by cases h
  | n + 1, ds, r, h => by
    have ih := CN_law43_plain n
    exact contract_of mix Try.func26 rfl (by kernel_rfl) (by kernel_rfl) (by decide) (call := c_law43_plain (FN_law43_plain n)) ⟨callOf_ok (cl_law43_plain (FN_law43_plain n)) ⟨ih, trivial⟩, callOfE_ok ce_law43_plain trivial⟩ h
noncomputable def F_law43_plain (ds : List D) : Option D := FN_law43_plain 1000 ds
theorem C_law43_plain (ds : List D) (r : D) (h : F_law43_plain ds = some r) : Contract Try.prog gl 26 ds r := CN_law43_plain 1000 ds r h
-- sawmill/sawmilllaw43.RuleTypes: loops [9]; state: params 0..1, then [2, 4, 5, 6, 7, 8, 9]
attribute [simp] Try.f6
noncomputable def an_law43_RuleTypes : Ann := ⟨[1, 2, 4, 5, 6, 7, 8, 9], [17, 30, 54, 75], [], [(9, [1, 6, 7, 8, 9])], [(0, [6, 7, 8]), (1, [1, 6, 7, 8, 9])], some [4], [(3, 3)], [], [], []⟩
@[simp] theorem an_law43_RuleTypes_draws : an_law43_RuleTypes.draws = [(3, 3)] := rfl
@[simp] theorem an_law43_RuleTypes_exits : an_law43_RuleTypes.exits = [(0, [6, 7, 8]), (1, [1, 6, 7, 8, 9])] := rfl
@[simp] theorem an_law43_RuleTypes_rets : an_law43_RuleTypes.rets = some [4] := rfl
@[simp] theorem an_law43_RuleTypes_keep : an_law43_RuleTypes.keep = [1, 2, 4, 5, 6, 7, 8, 9] := rfl
@[simp] theorem an_law43_RuleTypes_cond : an_law43_RuleTypes.cond = [17, 30, 54, 75] := rfl
@[simp] theorem an_law43_RuleTypes_rows : an_law43_RuleTypes.rows = [] := rfl
@[simp] theorem an_law43_RuleTypes_loops : an_law43_RuleTypes.loops = [(9, [1, 6, 7, 8, 9])] := rfl
@[simp] theorem an_law43_RuleTypes_ecalls : an_law43_RuleTypes.ecalls = [] := rfl
@[simp] theorem an_law43_RuleTypes_crows : an_law43_RuleTypes.crows = [] := rfl
@[simp] theorem an_law43_RuleTypes_tails : an_law43_RuleTypes.tails = [] := rfl
@[simp] noncomputable def cl_law43_RuleTypes : List (Nat × (List D → Option D)) := [(10, F_law43_small), (11, F_law43_short), (12, F_law43_awake), (13, F_ref43_Names), (14, F_rule_Check), (19, F_rule_Eval), (26, F_law43_plain)]
@[simp] noncomputable def ce_law43_RuleTypes : List (Nat × (List (Nat × O) → List D → Option (D × List (Nat × O)))) := []
noncomputable def c_law43_RuleTypes : CT := ⟨callOf (cl_law43_RuleTypes ), callOfE ce_law43_RuleTypes, gl⟩
@[simp] theorem c_law43_RuleTypes_p (f : FuncId) (ds : List D) : c_law43_RuleTypes.p f ds = callOf (cl_law43_RuleTypes ) f ds := Eq.trans rfl rfl
@[simp] theorem c_law43_RuleTypes_e (f : FuncId) (hs : List (Nat × O)) (ds : List D) : c_law43_RuleTypes.e f hs ds = callOfE ce_law43_RuleTypes f hs ds := Eq.trans rfl rfl
@[simp] theorem c_law43_RuleTypes_g (g : Nat) : c_law43_RuleTypes.g g = gl g := Eq.trans rfl rfl
noncomputable def L_law43_RuleTypes (i n : Nat) (s : St) : Option (E × St) := atN Try.prog c_law43_RuleTypes an_law43_RuleTypes 98 (bodyOf Try.f6) i n s
noncomputable def H_law43_RuleTypes (n i : Nat) (s : St) : Option (E × St) := atH Try.prog c_law43_RuleTypes an_law43_RuleTypes 98 (bodyOf Try.f6) n i s
@[simp] theorem H_law43_RuleTypes_eq (n i : Nat) (s : St) : H_law43_RuleTypes n i s = L_law43_RuleTypes i n (headOf (an_law43_RuleTypes.loops.lookup i) s) := rfl
noncomputable def R_law43_RuleTypes (i : Nat) (s : St) : Option (E × St) := stepL Try.prog c_law43_RuleTypes an_law43_RuleTypes 98 (bodyOf Try.f6) i s
theorem lok_law43_RuleTypes : okLoops (bodyOf Try.f6) = true := by kernel_rfl
theorem L_law43_RuleTypes_zero (i : Nat) (s : St) : L_law43_RuleTypes i 0 s = none := rfl
theorem L_law43_RuleTypes_succ (i n : Nat) (s : St) : L_law43_RuleTypes i (n + 1) s = andThen (R_law43_RuleTypes i s) (H_law43_RuleTypes n i) := atN_succ lok_law43_RuleTypes i n s
theorem R_law43_RuleTypes_eq (i : Nat) (s : St) : R_law43_RuleTypes i s = runS Try.prog c_law43_RuleTypes (H_law43_RuleTypes bigL) an_law43_RuleTypes 98 (loopAt (bodyOf Try.f6) i) s := rfl
noncomputable def F_law43_RuleTypes (ds : List D) : Option D := runF Try.prog c_law43_RuleTypes an_law43_RuleTypes 98 (bodyOf Try.f6) [.tmp 4] ds
theorem F_law43_RuleTypes_eq (ds : List D) : F_law43_RuleTypes ds = runG Try.prog c_law43_RuleTypes (H_law43_RuleTypes bigL) an_law43_RuleTypes 98 (bodyOf Try.f6) [.tmp 4] ds := runG_eq lok_law43_RuleTypes _ ds
theorem C_law43_RuleTypes (ds : List D) (r : D) (h : F_law43_RuleTypes ds = some r) : Contract Try.prog gl 6 ds r := contract_of mix Try.func6 rfl (by kernel_rfl) (by kernel_rfl) (by decide) (call := c_law43_RuleTypes) ⟨callOf_ok cl_law43_RuleTypes ⟨C_law43_small, C_law43_short, C_law43_awake, C_ref43_Names, C_rule_Check, C_rule_Eval, C_law43_plain, trivial⟩, callOfE_ok ce_law43_RuleTypes trivial⟩ h
-- sawmill/sawmilllaw43.RuleFeatures: loops [9, 13]; state: params 0..2, then [3, 5, 6, 7, 8, 9, 10, 11, 12, 13, 14, 15, 16, 17, 18, 19]
attribute [simp] Try.f7
noncomputable def an_law43_RuleFeatures : Ann := ⟨[1, 3, 5, 6, 7, 8, 9, 10, 11, 12, 13, 14, 15, 16, 17, 18, 19], [33, 42, 53, 59, 79], [10, 11], [(9, [1, 3, 5, 7, 9, 10, 11, 12]), (13, [1, 3, 5, 7, 9, 10, 11, 12, 13, 14])], [(0, [3, 5, 7, 10, 11]), (1, [1, 3, 5, 7, 9, 10, 11, 12]), (2, [1, 3, 5, 7, 9, 10, 11, 12, 13]), (3, [1, 3, 5, 7, 9, 10, 11, 12, 13, 14])], some [6], [(15, 11), (22, 0)], [], [], [(22, (.alt 0 (.alt 1 (.alt 2 (.alt 3 (.alt 4 (.alt 5 (.alt 6 (.alt 7 (.alt 8 (.alt 9 (.alt 10 .leaf .leaf) .leaf) (.alt 9 (.alt 8 (.alt 10 .leaf .leaf) .leaf) .leaf)) (.alt 8 (.alt 7 (.alt 9 (.alt 10 .leaf .leaf) .leaf) .leaf) .leaf)) .leaf) .leaf) .leaf) .leaf) .leaf) (.alt 2 (.alt 1 (.alt 3 (.alt 4 (.alt 5 (.alt 6 (.alt 7 (.alt 8 (.alt 9 (.alt 10 .leaf .leaf) .leaf) (.alt 9 (.alt 8 (.alt 10 .leaf .leaf) .leaf) .leaf)) (.alt 8 (.alt 7 (.alt 9 (.alt 10 .leaf .leaf) .leaf) .leaf) .leaf)) .leaf) .leaf) .leaf) .leaf) (.alt 3 (.alt 1 (.alt 4 (.alt 5 (.alt 6 (.alt 7 (.alt 8 (.alt 9 (.alt 10 .leaf .leaf) .leaf) (.alt 9 (.alt 8 (.alt 10 .leaf .leaf) .leaf) .leaf)) (.alt 8 (.alt 7 (.alt 9 (.alt 10 .leaf .leaf) .leaf) .leaf) .leaf)) .leaf) .leaf) .leaf) .leaf) .leaf)) .leaf)) (.alt 1 (.alt 0 (.alt 2 (.alt 3 (.alt 4 (.alt 5 (.alt 6 (.alt 7 (.alt 8 (.alt 9 (.alt 10 .leaf .leaf) .leaf) (.alt 9 (.alt 8 (.alt 10 .leaf .leaf) .leaf) .leaf)) (.alt 8 (.alt 7 (.alt 9 (.alt 10 .leaf .leaf) .leaf) .leaf) .leaf)) .leaf) .leaf) .leaf) .leaf) .leaf) (.alt 2 (.alt 0 (.alt 3 (.alt 4 (.alt 5 (.alt 6 (.alt 7 (.alt 8 (.alt 9 (.alt 10 .leaf .leaf) .leaf) (.alt 9 (.alt 8 (.alt 10 .leaf .leaf) .leaf) .leaf)) (.alt 8 (.alt 7 (.alt 9 (.alt 10 .leaf .leaf) .leaf) .leaf) .leaf)) .leaf) .leaf) .leaf) .leaf) (.alt 3 (.alt 0 (.alt 4 (.alt 5 (.alt 6 (.alt 7 (.alt 8 (.alt 9 (.alt 10 .leaf .leaf) .leaf) (.alt 9 (.alt 8 (.alt 10 .leaf .leaf) .leaf) .leaf)) (.alt 8 (.alt 7 (.alt 9 (.alt 10 .leaf .leaf) .leaf) .leaf) .leaf)) .leaf) .leaf) .leaf) (.alt 4 (.alt 0 (.alt 5 (.alt 6 (.alt 7 (.alt 8 (.alt 9 (.alt 10 .leaf .leaf) .leaf) (.alt 9 (.alt 8 (.alt 10 .leaf .leaf) .leaf) .leaf)) (.alt 8 (.alt 7 (.alt 9 (.alt 10 .leaf .leaf) .leaf) .leaf) .leaf)) .leaf) .leaf) .leaf) .leaf)) .leaf)) .leaf)) (.alt 2 (.alt 0 (.alt 1 (.alt 3 (.alt 4 (.alt 5 (.alt 6 (.alt 7 (.alt 8 (.alt 9 (.alt 10 .leaf .leaf) .leaf) (.alt 9 (.alt 8 (.alt 10 .leaf .leaf) .leaf) .leaf)) (.alt 8 (.alt 7 (.alt 9 (.alt 10 .leaf .leaf) .leaf) .leaf) .leaf)) .leaf) .leaf) .leaf) .leaf) (.alt 3 (.alt 1 (.alt 4 (.alt 5 (.alt 6 (.alt 7 (.alt 8 (.alt 9 (.alt 10 .leaf .leaf) .leaf) (.alt 9 (.alt 8 (.alt 10 .leaf .leaf) .leaf) .leaf)) (.alt 8 (.alt 7 (.alt 9 (.alt 10 .leaf .leaf) .leaf) .leaf) .leaf)) .leaf) .leaf) .leaf) .leaf) .leaf)) (.alt 1 (.alt 0 (.alt 3 (.alt 4 (.alt 5 (.alt 6 (.alt 7 (.alt 8 (.alt 9 (.alt 10 .leaf .leaf) .leaf) (.alt 9 (.alt 8 (.alt 10 .leaf .leaf) .leaf) .leaf)) (.alt 8 (.alt 7 (.alt 9 (.alt 10 .leaf .leaf) .leaf) .leaf) .leaf)) .leaf) .leaf) .leaf) .leaf) (.alt 3 (.alt 0 (.alt 4 (.alt 5 (.alt 6 (.alt 7 (.alt 8 (.alt 9 (.alt 10 .leaf .leaf) .leaf) (.alt 9 (.alt 8 (.alt 10 .leaf .leaf) .leaf) .leaf)) (.alt 8 (.alt 7 (.alt 9 (.alt 10 .leaf .leaf) .leaf) .leaf) .leaf)) .leaf) .leaf) .leaf) (.alt 4 (.alt 0 (.alt 5 (.alt 6 (.alt 7 (.alt 8 (.alt 9 (.alt 10 .leaf .leaf) .leaf) (.alt 9 (.alt 8 (.alt 10 .leaf .leaf) .leaf) .leaf)) (.alt 8 (.alt 7 (.alt 9 (.alt 10 .leaf .leaf) .leaf) .leaf) .leaf)) .leaf) .leaf) .leaf) .leaf)) .leaf)) (.alt 3 (.alt 0 (.alt 1 (.alt 4 (.alt 5 (.alt 6 (.alt 7 (.alt 8 (.alt 9 (.alt 10 .leaf .leaf) .leaf) (.alt 9 (.alt 8 (.alt 10 .leaf .leaf) .leaf) .leaf)) (.alt 8 (.alt 7 (.alt 9 (.alt 10 .leaf .leaf) .leaf) .leaf) .leaf)) .leaf) .leaf) .leaf) .leaf) (.alt 1 (.alt 0 (.alt 4 (.alt 5 (.alt 6 (.alt 7 (.alt 8 (.alt 9 (.alt 10 .leaf .leaf) .leaf) (.alt 9 (.alt 8 (.alt 10 .leaf .leaf) .leaf) .leaf)) (.alt 8 (.alt 7 (.alt 9 (.alt 10 .leaf .leaf) .leaf) .leaf) .leaf)) .leaf) .leaf) .leaf) (.alt 4 (.alt 0 (.alt 5 (.alt 6 (.alt 7 (.alt 8 (.alt 9 (.alt 10 .leaf .leaf) .leaf) (.alt 9 (.alt 8 (.alt 10 .leaf .leaf) .leaf) .leaf)) (.alt 8 (.alt 7 (.alt 9 (.alt 10 .leaf .leaf) .leaf) .leaf) .leaf)) .leaf) .leaf) .leaf) .leaf)) .leaf)) .leaf))) .leaf))))]⟩
@[simp] theorem an_law43_RuleFeatures_draws : an_law43_RuleFeatures.draws = [(15, 11), (22, 0)] := rfl
@[simp] theorem an_law43_RuleFeatures_exits : an_law43_RuleFeatures.exits = [(0, [3, 5, 7, 10, 11]), (1, [1, 3, 5, 7, 9, 10, 11, 12]), (2, [1, 3, 5, 7, 9, 10, 11, 12, 13]), (3, [1, 3, 5, 7, 9, 10, 11, 12, 13, 14])] := rfl
@[simp] theorem an_law43_RuleFeatures_rets : an_law43_RuleFeatures.rets = some [6] := rfl
@[simp] theorem an_law43_RuleFeatures_keep : an_law43_RuleFeatures.keep = [1, 3, 5, 6, 7, 8, 9, 10, 11, 12, 13, 14, 15, 16, 17, 18, 19] := rfl
@[simp] theorem an_law43_RuleFeatures_cond : an_law43_RuleFeatures.cond = [33, 42, 53, 59, 79] := rfl
@[simp] theorem an_law43_RuleFeatures_rows : an_law43_RuleFeatures.rows = [10, 11] := rfl
@[simp] theorem an_law43_RuleFeatures_loops : an_law43_RuleFeatures.loops = [(9, [1, 3, 5, 7, 9, 10, 11, 12]), (13, [1, 3, 5, 7, 9, 10, 11, 12, 13, 14])] := rfl
@[simp] theorem an_law43_RuleFeatures_ecalls : an_law43_RuleFeatures.ecalls = [] := rfl
@[simp] theorem an_law43_RuleFeatures_crows : an_law43_RuleFeatures.crows = [] := rfl
@[simp] theorem an_law43_RuleFeatures_tails : an_law43_RuleFeatures.tails = [(22, (.alt 0 (.alt 1 (.alt 2 (.alt 3 (.alt 4 (.alt 5 (.alt 6 (.alt 7 (.alt 8 (.alt 9 (.alt 10 .leaf .leaf) .leaf) (.alt 9 (.alt 8 (.alt 10 .leaf .leaf) .leaf) .leaf)) (.alt 8 (.alt 7 (.alt 9 (.alt 10 .leaf .leaf) .leaf) .leaf) .leaf)) .leaf) .leaf) .leaf) .leaf) .leaf) (.alt 2 (.alt 1 (.alt 3 (.alt 4 (.alt 5 (.alt 6 (.alt 7 (.alt 8 (.alt 9 (.alt 10 .leaf .leaf) .leaf) (.alt 9 (.alt 8 (.alt 10 .leaf .leaf) .leaf) .leaf)) (.alt 8 (.alt 7 (.alt 9 (.alt 10 .leaf .leaf) .leaf) .leaf) .leaf)) .leaf) .leaf) .leaf) .leaf) (.alt 3 (.alt 1 (.alt 4 (.alt 5 (.alt 6 (.alt 7 (.alt 8 (.alt 9 (.alt 10 .leaf .leaf) .leaf) (.alt 9 (.alt 8 (.alt 10 .leaf .leaf) .leaf) .leaf)) (.alt 8 (.alt 7 (.alt 9 (.alt 10 .leaf .leaf) .leaf) .leaf) .leaf)) .leaf) .leaf) .leaf) .leaf) .leaf)) .leaf)) (.alt 1 (.alt 0 (.alt 2 (.alt 3 (.alt 4 (.alt 5 (.alt 6 (.alt 7 (.alt 8 (.alt 9 (.alt 10 .leaf .leaf) .leaf) (.alt 9 (.alt 8 (.alt 10 .leaf .leaf) .leaf) .leaf)) (.alt 8 (.alt 7 (.alt 9 (.alt 10 .leaf .leaf) .leaf) .leaf) .leaf)) .leaf) .leaf) .leaf) .leaf) .leaf) (.alt 2 (.alt 0 (.alt 3 (.alt 4 (.alt 5 (.alt 6 (.alt 7 (.alt 8 (.alt 9 (.alt 10 .leaf .leaf) .leaf) (.alt 9 (.alt 8 (.alt 10 .leaf .leaf) .leaf) .leaf)) (.alt 8 (.alt 7 (.alt 9 (.alt 10 .leaf .leaf) .leaf) .leaf) .leaf)) .leaf) .leaf) .leaf) .leaf) (.alt 3 (.alt 0 (.alt 4 (.alt 5 (.alt 6 (.alt 7 (.alt 8 (.alt 9 (.alt 10 .leaf .leaf) .leaf) (.alt 9 (.alt 8 (.alt 10 .leaf .leaf) .leaf) .leaf)) (.alt 8 (.alt 7 (.alt 9 (.alt 10 .leaf .leaf) .leaf) .leaf) .leaf)) .leaf) .leaf) .leaf) (.alt 4 (.alt 0 (.alt 5 (.alt 6 (.alt 7 (.alt 8 (.alt 9 (.alt 10 .leaf .leaf) .leaf) (.alt 9 (.alt 8 (.alt 10 .leaf .leaf) .leaf) .leaf)) (.alt 8 (.alt 7 (.alt 9 (.alt 10 .leaf .leaf) .leaf) .leaf) .leaf)) .leaf) .leaf) .leaf) .leaf)) .leaf)) .leaf)) (.alt 2 (.alt 0 (.alt 1 (.alt 3 (.alt 4 (.alt 5 (.alt 6 (.alt 7 (.alt 8 (.alt 9 (.alt 10 .leaf .leaf) .leaf) (.alt 9 (.alt 8 (.alt 10 .leaf .leaf) .leaf) .leaf)) (.alt 8 (.alt 7 (.alt 9 (.alt 10 .leaf .leaf) .leaf) .leaf) .leaf)) .leaf) .leaf) .leaf) .leaf) (.alt 3 (.alt 1 (.alt 4 (.alt 5 (.alt 6 (.alt 7 (.alt 8 (.alt 9 (.alt 10 .leaf .leaf) .leaf) (.alt 9 (.alt 8 (.alt 10 .leaf .leaf) .leaf) .leaf)) (.alt 8 (.alt 7 (.alt 9 (.alt 10 .leaf .leaf) .leaf) .leaf) .leaf)) .leaf) .leaf) .leaf) .leaf) .leaf)) (.alt 1 (.alt 0 (.alt 3 (.alt 4 (.alt 5 (.alt 6 (.alt 7 (.alt 8 (.alt 9 (.alt 10 .leaf .leaf) .leaf) (.alt 9 (.alt 8 (.alt 10 .leaf .leaf) .leaf) .leaf)) (.alt 8 (.alt 7 (.alt 9 (.alt 10 .leaf .leaf) .leaf) .leaf) .leaf)) .leaf) .leaf) .leaf) .leaf) (.alt 3 (.alt 0 (.alt 4 (.alt 5 (.alt 6 (.alt 7 (.alt 8 (.alt 9 (.alt 10 .leaf .leaf) .leaf) (.alt 9 (.alt 8 (.alt 10 .leaf .leaf) .leaf) .leaf)) (.alt 8 (.alt 7 (.alt 9 (.alt 10 .leaf .leaf) .leaf) .leaf) .leaf)) .leaf) .leaf) .leaf) (.alt 4 (.alt 0 (.alt 5 (.alt 6 (.alt 7 (.alt 8 (.alt 9 (.alt 10 .leaf .leaf) .leaf) (.alt 9 (.alt 8 (.alt 10 .leaf .leaf) .leaf) .leaf)) (.alt 8 (.alt 7 (.alt 9 (.alt 10 .leaf .leaf) .leaf) .leaf) .leaf)) .leaf) .leaf) .leaf) .leaf)) .leaf)) (.alt 3 (.alt 0 (.alt 1 (.alt 4 (.alt 5 (.alt 6 (.alt 7 (.alt 8 (.alt 9 (.alt 10 .leaf .leaf) .leaf) (.alt 9 (.alt 8 (.alt 10 .leaf .leaf) .leaf) .leaf)) (.alt 8 (.alt 7 (.alt 9 (.alt 10 .leaf .leaf) .leaf) .leaf) .leaf)) .leaf) .leaf) .leaf) .leaf) (.alt 1 (.alt 0 (.alt 4 (.alt 5 (.alt 6 (.alt 7 (.alt 8 (.alt 9 (.alt 10 .leaf .leaf) .leaf) (.alt 9 (.alt 8 (.alt 10 .leaf .leaf) .leaf) .leaf)) (.alt 8 (.alt 7 (.alt 9 (.alt 10 .leaf .leaf) .leaf) .leaf) .leaf)) .leaf) .leaf) .leaf) (.alt 4 (.alt 0 (.alt 5 (.alt 6 (.alt 7 (.alt 8 (.alt 9 (.alt 10 .leaf .leaf) .leaf) (.alt 9 (.alt 8 (.alt 10 .leaf .leaf) .leaf) .leaf)) (.alt 8 (.alt 7 (.alt 9 (.alt 10 .leaf .leaf) .leaf) .leaf) .leaf)) .leaf) .leaf) .leaf) .leaf)) .leaf)) .leaf))) .leaf))))] := rfl
@[simp] noncomputable def cl_law43_RuleFeatures : List (Nat × (List D → Option D)) := [(10, F_law43_small), (11, F_law43_short), (12, F_law43_awake), (17, F_rule_Uses), (19, F_rule_Eval)]
@[simp] noncomputable def ce_law43_RuleFeatures : List (Nat × (List (Nat × O) → List D → Option (D × List (Nat × O)))) := []
noncomputable def c_law43_RuleFeatures : CT := ⟨callOf (cl_law43_RuleFeatures ), callOfE ce_law43_RuleFeatures, gl⟩
@[simp] theorem c_law43_RuleFeatures_p (f : FuncId) (ds : List D) : c_law43_RuleFeatures.p f ds = callOf (cl_law43_RuleFeatures ) f ds := Eq.trans rfl rfl
@[simp] theorem c_law43_RuleFeatures_e (f : FuncId) (hs : List (Nat × O)) (ds : List D) : c_law43_RuleFeatures.e f hs ds = callOfE ce_law43_RuleFeatures f hs ds := Eq.trans rfl rfl
@[simp] theorem c_law43_RuleFeatures_g (g : Nat) : c_law43_RuleFeatures.g g = gl g := Eq.trans rfl rfl
noncomputable def L_law43_RuleFeatures (i n : Nat) (s : St) : Option (E × St) := atN Try.prog c_law43_RuleFeatures an_law43_RuleFeatures 125 (bodyOf Try.f7) i n s
noncomputable def H_law43_RuleFeatures (n i : Nat) (s : St) : Option (E × St) := atH Try.prog c_law43_RuleFeatures an_law43_RuleFeatures 125 (bodyOf Try.f7) n i s
@[simp] theorem H_law43_RuleFeatures_eq (n i : Nat) (s : St) : H_law43_RuleFeatures n i s = L_law43_RuleFeatures i n (headOf (an_law43_RuleFeatures.loops.lookup i) s) := rfl
noncomputable def R_law43_RuleFeatures (i : Nat) (s : St) : Option (E × St) := stepL Try.prog c_law43_RuleFeatures an_law43_RuleFeatures 125 (bodyOf Try.f7) i s
theorem lok_law43_RuleFeatures : okLoops (bodyOf Try.f7) = true := by kernel_rfl
theorem L_law43_RuleFeatures_zero (i : Nat) (s : St) : L_law43_RuleFeatures i 0 s = none := rfl
theorem L_law43_RuleFeatures_succ (i n : Nat) (s : St) : L_law43_RuleFeatures i (n + 1) s = andThen (R_law43_RuleFeatures i s) (H_law43_RuleFeatures n i) := atN_succ lok_law43_RuleFeatures i n s
theorem R_law43_RuleFeatures_eq (i : Nat) (s : St) : R_law43_RuleFeatures i s = runS Try.prog c_law43_RuleFeatures (H_law43_RuleFeatures bigL) an_law43_RuleFeatures 125 (loopAt (bodyOf Try.f7) i) s := rfl
noncomputable def F_law43_RuleFeatures (ds : List D) : Option D := runF Try.prog c_law43_RuleFeatures an_law43_RuleFeatures 125 (bodyOf Try.f7) [.tmp 6] ds
theorem F_law43_RuleFeatures_eq (ds : List D) : F_law43_RuleFeatures ds = runG Try.prog c_law43_RuleFeatures (H_law43_RuleFeatures bigL) an_law43_RuleFeatures 125 (bodyOf Try.f7) [.tmp 6] ds := runG_eq lok_law43_RuleFeatures _ ds
theorem C_law43_RuleFeatures (ds : List D) (r : D) (h : F_law43_RuleFeatures ds = some r) : Contract Try.prog gl 7 ds r := contract_of mix Try.func7 rfl (by kernel_rfl) (by kernel_rfl) (by decide) (call := c_law43_RuleFeatures) ⟨callOf_ok cl_law43_RuleFeatures ⟨C_law43_small, C_law43_short, C_law43_awake, C_rule_Uses, C_rule_Eval, trivial⟩, callOfE_ok ce_law43_RuleFeatures trivial⟩ h
-- sawmill/sawmilllaw43.RuleFirst: loops [12]; state: params 0..1, then [4, 5, 6, 7, 8, 9, 10, 11, 12, 13, 14, 15, 16, 17, 18, 19]
attribute [simp] Try.f8
noncomputable def an_law43_RuleFirst : Ann := ⟨[0, 1, 4, 5, 6, 7, 8, 9, 10, 11, 12, 13, 14, 15, 16, 17, 18, 19], [27, 37, 54, 57, 62, 80, 82], [], [(12, [0, 1, 5, 6, 8, 9])], [(0, [0, 1, 5, 6]), (1, [0, 1, 5, 6, 8, 9])], some [4], [], [], [], []⟩
@[simp] theorem an_law43_RuleFirst_draws : an_law43_RuleFirst.draws = [] := rfl
@[simp] theorem an_law43_RuleFirst_exits : an_law43_RuleFirst.exits = [(0, [0, 1, 5, 6]), (1, [0, 1, 5, 6, 8, 9])] := rfl
@[simp] theorem an_law43_RuleFirst_rets : an_law43_RuleFirst.rets = some [4] := rfl
@[simp] theorem an_law43_RuleFirst_keep : an_law43_RuleFirst.keep = [0, 1, 4, 5, 6, 7, 8, 9, 10, 11, 12, 13, 14, 15, 16, 17, 18, 19] := rfl
@[simp] theorem an_law43_RuleFirst_cond : an_law43_RuleFirst.cond = [27, 37, 54, 57, 62, 80, 82] := rfl
@[simp] theorem an_law43_RuleFirst_rows : an_law43_RuleFirst.rows = [] := rfl
@[simp] theorem an_law43_RuleFirst_loops : an_law43_RuleFirst.loops = [(12, [0, 1, 5, 6, 8, 9])] := rfl
@[simp] theorem an_law43_RuleFirst_ecalls : an_law43_RuleFirst.ecalls = [] := rfl
@[simp] theorem an_law43_RuleFirst_crows : an_law43_RuleFirst.crows = [] := rfl
@[simp] theorem an_law43_RuleFirst_tails : an_law43_RuleFirst.tails = [] := rfl
@[simp] noncomputable def cl_law43_RuleFirst : List (Nat × (List D → Option D)) := [(11, F_law43_short), (12, F_law43_awake), (19, F_rule_Eval), (21, F_law43_table), (22, F_rule_Grade)]
@[simp] noncomputable def ce_law43_RuleFirst : List (Nat × (List (Nat × O) → List D → Option (D × List (Nat × O)))) := []
noncomputable def c_law43_RuleFirst : CT := ⟨callOf (cl_law43_RuleFirst ), callOfE ce_law43_RuleFirst, gl⟩
@[simp] theorem c_law43_RuleFirst_p (f : FuncId) (ds : List D) : c_law43_RuleFirst.p f ds = callOf (cl_law43_RuleFirst ) f ds := Eq.trans rfl rfl
@[simp] theorem c_law43_RuleFirst_e (f : FuncId) (hs : List (Nat × O)) (ds : List D) : c_law43_RuleFirst.e f hs ds = callOfE ce_law43_RuleFirst f hs ds := Eq.trans rfl rfl
@[simp] theorem c_law43_RuleFirst_g (g : Nat) : c_law43_RuleFirst.g g = gl g := Eq.trans rfl rfl
noncomputable def L_law43_RuleFirst (i n : Nat) (s : St) : Option (E × St) := atN Try.prog c_law43_RuleFirst an_law43_RuleFirst 162 (bodyOf Try.f8) i n s
noncomputable def H_law43_RuleFirst (n i : Nat) (s : St) : Option (E × St) := atH Try.prog c_law43_RuleFirst an_law43_RuleFirst 162 (bodyOf Try.f8) n i s
@[simp] theorem H_law43_RuleFirst_eq (n i : Nat) (s : St) : H_law43_RuleFirst n i s = L_law43_RuleFirst i n (headOf (an_law43_RuleFirst.loops.lookup i) s) := rfl
noncomputable def R_law43_RuleFirst (i : Nat) (s : St) : Option (E × St) := stepL Try.prog c_law43_RuleFirst an_law43_RuleFirst 162 (bodyOf Try.f8) i s
theorem lok_law43_RuleFirst : okLoops (bodyOf Try.f8) = true := by kernel_rfl
theorem L_law43_RuleFirst_zero (i : Nat) (s : St) : L_law43_RuleFirst i 0 s = none := rfl
theorem L_law43_RuleFirst_succ (i n : Nat) (s : St) : L_law43_RuleFirst i (n + 1) s = andThen (R_law43_RuleFirst i s) (H_law43_RuleFirst n i) := atN_succ lok_law43_RuleFirst i n s
theorem R_law43_RuleFirst_eq (i : Nat) (s : St) : R_law43_RuleFirst i s = runS Try.prog c_law43_RuleFirst (H_law43_RuleFirst bigL) an_law43_RuleFirst 162 (loopAt (bodyOf Try.f8) i) s := rfl
noncomputable def F_law43_RuleFirst (ds : List D) : Option D := runF Try.prog c_law43_RuleFirst an_law43_RuleFirst 162 (bodyOf Try.f8) [.tmp 4] ds
theorem F_law43_RuleFirst_eq (ds : List D) : F_law43_RuleFirst ds = runG Try.prog c_law43_RuleFirst (H_law43_RuleFirst bigL) an_law43_RuleFirst 162 (bodyOf Try.f8) [.tmp 4] ds := runG_eq lok_law43_RuleFirst _ ds
theorem C_law43_RuleFirst (ds : List D) (r : D) (h : F_law43_RuleFirst ds = some r) : Contract Try.prog gl 8 ds r := contract_of mix Try.func8 rfl (by kernel_rfl) (by kernel_rfl) (by decide) (call := c_law43_RuleFirst) ⟨callOf_ok cl_law43_RuleFirst ⟨C_law43_short, C_law43_awake, C_rule_Eval, C_law43_table, C_rule_Grade, trivial⟩, callOfE_ok ce_law43_RuleFirst trivial⟩ h
-- sawmill/sawmilllaw43.not: loops []; state: params 0..0, then [1, 2]
attribute [simp] Try.f28
noncomputable def an_law43_not : Ann := ⟨[1, 2], [], [], [], [], some [2], [], [], [], []⟩
@[simp] theorem an_law43_not_draws : an_law43_not.draws = [] := rfl
@[simp] theorem an_law43_not_exits : an_law43_not.exits = [] := rfl
@[simp] theorem an_law43_not_rets : an_law43_not.rets = some [2] := rfl
@[simp] theorem an_law43_not_keep : an_law43_not.keep = [1, 2] := rfl
@[simp] theorem an_law43_not_cond : an_law43_not.cond = [] := rfl
@[simp] theorem an_law43_not_rows : an_law43_not.rows = [] := rfl
@[simp] theorem an_law43_not_loops : an_law43_not.loops = [] := rfl
@[simp] theorem an_law43_not_ecalls : an_law43_not.ecalls = [] := rfl
@[simp] theorem an_law43_not_crows : an_law43_not.crows = [] := rfl
@[simp] theorem an_law43_not_tails : an_law43_not.tails = [] := rfl
@[simp] noncomputable def cl_law43_not : List (Nat × (List D → Option D)) := []
@[simp] noncomputable def ce_law43_not : List (Nat × (List (Nat × O) → List D → Option (D × List (Nat × O)))) := []
noncomputable def c_law43_not : CT := ⟨callOf (cl_law43_not ), callOfE ce_law43_not, gl⟩
@[simp] theorem c_law43_not_p (f : FuncId) (ds : List D) : c_law43_not.p f ds = callOf (cl_law43_not ) f ds := Eq.trans rfl rfl
@[simp] theorem c_law43_not_e (f : FuncId) (hs : List (Nat × O)) (ds : List D) : c_law43_not.e f hs ds = callOfE ce_law43_not f hs ds := Eq.trans rfl rfl
@[simp] theorem c_law43_not_g (g : Nat) : c_law43_not.g g = gl g := Eq.trans rfl rfl
noncomputable def L_law43_not (i n : Nat) (s : St) : Option (E × St) := atN Try.prog c_law43_not an_law43_not 6 (bodyOf Try.f28) i n s
noncomputable def H_law43_not (n i : Nat) (s : St) : Option (E × St) := atH Try.prog c_law43_not an_law43_not 6 (bodyOf Try.f28) n i s
@[simp] theorem H_law43_not_eq (n i : Nat) (s : St) : H_law43_not n i s = L_law43_not i n (headOf (an_law43_not.loops.lookup i) s) := rfl
noncomputable def R_law43_not (i : Nat) (s : St) : Option (E × St) := stepL Try.prog c_law43_not an_law43_not 6 (bodyOf Try.f28) i s
theorem lok_law43_not : okLoops (bodyOf Try.f28) = true := by kernel_rfl
noncomputable def F_law43_not (ds : List D) : Option D := runF Try.prog c_law43_not an_law43_not 6 (bodyOf Try.f28) [.cell 2 24] ds
theorem F_law43_not_eq (ds : List D) : F_law43_not ds = runG Try.prog c_law43_not (H_law43_not bigL) an_law43_not 6 (bodyOf Try.f28) [.cell 2 24] ds := runG_eq lok_law43_not _ ds
theorem C_law43_not (ds : List D) (r : D) (h : F_law43_not ds = some r) : Contract Try.prog gl 28 ds r := contract_of mix Try.func28 rfl (by kernel_rfl) (by kernel_rfl) (by decide) (call := c_law43_not) ⟨callOf_ok cl_law43_not trivial, callOfE_ok ce_law43_not trivial⟩ h
-- sawmill/sawmilllaw43.RuleLogic: loops []; state: params 0..2, then [3, 4, 6, 7, 8, 9, 10, 11, 12, 13, 14, 15, 16, 17, 19, 21, 22, 23, 24, 25, 26, 27]
attribute [simp] Try.f9
noncomputable def an_law43_RuleLogic : Ann := ⟨[2, 3, 4, 6, 7, 8, 9, 10, 11, 12, 13, 14, 15, 16, 17, 19, 21, 22, 23, 24, 25, 26, 27], [40, 59, 72, 138], [], [], [], some [6], [], [], [], []⟩
@[simp] theorem an_law43_RuleLogic_draws : an_law43_RuleLogic.draws = [] := rfl
@[simp] theorem an_law43_RuleLogic_exits : an_law43_RuleLogic.exits = [] := rfl
@[simp] theorem an_law43_RuleLogic_rets : an_law43_RuleLogic.rets = some [6] := rfl
@[simp] theorem an_law43_RuleLogic_keep : an_law43_RuleLogic.keep = [2, 3, 4, 6, 7, 8, 9, 10, 11, 12, 13, 14, 15, 16, 17, 19, 21, 22, 23, 24, 25, 26, 27] := rfl
@[simp] theorem an_law43_RuleLogic_cond : an_law43_RuleLogic.cond = [40, 59, 72, 138] := rfl
@[simp] theorem an_law43_RuleLogic_rows : an_law43_RuleLogic.rows = [] := rfl
@[simp] theorem an_law43_RuleLogic_loops : an_law43_RuleLogic.loops = [] := rfl
@[simp] theorem an_law43_RuleLogic_ecalls : an_law43_RuleLogic.ecalls = [] := rfl
@[simp] theorem an_law43_RuleLogic_crows : an_law43_RuleLogic.crows = [] := rfl
@[simp] theorem an_law43_RuleLogic_tails : an_law43_RuleLogic.tails = [] := rfl
@[simp] noncomputable def cl_law43_RuleLogic : List (Nat × (List D → Option D)) := [(11, F_law43_short), (12, F_law43_awake), (13, F_ref43_Names), (14, F_rule_Check), (19, F_rule_Eval), (27, F_law43_count), (28, F_law43_not), (29, F_law43_two)]
@[simp] noncomputable def ce_law43_RuleLogic : List (Nat × (List (Nat × O) → List D → Option (D × List (Nat × O)))) := []
noncomputable def c_law43_RuleLogic : CT := ⟨callOf (cl_law43_RuleLogic ), callOfE ce_law43_RuleLogic, gl⟩
@[simp] theorem c_law43_RuleLogic_p (f : FuncId) (ds : List D) : c_law43_RuleLogic.p f ds = callOf (cl_law43_RuleLogic ) f ds := Eq.trans rfl rfl
@[simp] theorem c_law43_RuleLogic_e (f : FuncId) (hs : List (Nat × O)) (ds : List D) : c_law43_RuleLogic.e f hs ds = callOfE ce_law43_RuleLogic f hs ds := Eq.trans rfl rfl
@[simp] theorem c_law43_RuleLogic_g (g : Nat) : c_law43_RuleLogic.g g = gl g := Eq.trans rfl rfl
noncomputable def L_law43_RuleLogic (i n : Nat) (s : St) : Option (E × St) := atN Try.prog c_law43_RuleLogic an_law43_RuleLogic 223 (bodyOf Try.f9) i n s
noncomputable def H_law43_RuleLogic (n i : Nat) (s : St) : Option (E × St) := atH Try.prog c_law43_RuleLogic an_law43_RuleLogic 223 (bodyOf Try.f9) n i s
@[simp] theorem H_law43_RuleLogic_eq (n i : Nat) (s : St) : H_law43_RuleLogic n i s = L_law43_RuleLogic i n (headOf (an_law43_RuleLogic.loops.lookup i) s) := rfl
noncomputable def R_law43_RuleLogic (i : Nat) (s : St) : Option (E × St) := stepL Try.prog c_law43_RuleLogic an_law43_RuleLogic 223 (bodyOf Try.f9) i s
theorem lok_law43_RuleLogic : okLoops (bodyOf Try.f9) = true := by kernel_rfl
noncomputable def F_law43_RuleLogic (ds : List D) : Option D := runF Try.prog c_law43_RuleLogic an_law43_RuleLogic 223 (bodyOf Try.f9) [.tmp 6] ds
theorem F_law43_RuleLogic_eq (ds : List D) : F_law43_RuleLogic ds = runG Try.prog c_law43_RuleLogic (H_law43_RuleLogic bigL) an_law43_RuleLogic 223 (bodyOf Try.f9) [.tmp 6] ds := runG_eq lok_law43_RuleLogic _ ds
theorem C_law43_RuleLogic (ds : List D) (r : D) (h : F_law43_RuleLogic ds = some r) : Contract Try.prog gl 9 ds r := contract_of mix Try.func9 rfl (by kernel_rfl) (by kernel_rfl) (by decide) (call := c_law43_RuleLogic) ⟨callOf_ok cl_law43_RuleLogic ⟨C_law43_short, C_law43_awake, C_ref43_Names, C_rule_Check, C_rule_Eval, C_law43_count, C_law43_not, C_law43_two, trivial⟩, callOfE_ok ce_law43_RuleLogic trivial⟩ h
end Go.Proofs.Ytkdmoefacgbgkaa
