/-
  DERIVED: THE SHELF's CONTRACTS AT THIS DUMP, IN PLAIN WORDS (tools/lay-plain.mjs out of 'TryzShelf.lean', which tools/lay-shelf.mjs wrote): THE SAME DECLARATIONS UNDER THE SAME NAMES: 'import', 'namespace', 'open', 'def', 'theorem' AND NOTHING ELSE: no command of the shelf's: FOR A HAND-IN. Each laying: the table of numbers ('.._ren') and one theorem, a field a fact of the dump's own or the kernel's comparison; each contract: ONE APPLICATION.
-/
import Derived.Ground.SlgcProg
import Derived.Ground.SlsfProg
import Derived.Shelf.SlicesG.Cmp
import Derived.Shelf.SlSortCmp.NoneTotal
import Derived.Shelf.Sort.Plain
import Derived.Ground.Names2Prog
import Derived.Shelf.Slices.CompactI
import Derived.Shelf.Slices.In.SortNone
import Derived.Test.YtbdgblipbpadeaaGreatDoorProg
import Derived.WalkKit
import Derived.Deep.LoopGhost
import Derived.Deep.Draws
import Derived.Lib.Walk
import Derived.Sort.WalkB12
import Derived.Lib.SliceRun
import Derived.Lib.SlicesCompact
import Derived.Shelf.SlicesQ.Load
import Derived.Shelf.GgSortFunc.RowK
import Derived.Shelf.SlSortFuncK.RowK2
import Derived.Shelf.SlicesQ.Reverse
import Derived.Shelf.RegionOpenPlain
import Derived.LoopN
import Derived.StillTailTactics
set_option linter.unusedSimpArgs false
set_option linter.unusedVariables false
set_option linter.defProp false
namespace Go.Proofs
open Go.Shelf
def Tryz.lays189_ren : Go.Shelf.Ren := ⟨fun | 189 => 174 | 125 => 217 | 257 => 216 | 128 => 246 | 129 => 247 | 294 => 237 | 295 => 238 | 296 => 239 | 297 => 240 | 298 => 241 | 299 => 242 | 216 => 243 | 300 => 244 | 301 => 245 | 328 => 264 | 329 => 265 | 330 => 266 | 331 => 267 | 332 => 268 | 215 => 269 | 343 => 276 | n => n, fun | 28 => 40 | 3 => 3 | 46 => 332 | 0 => 0 | 51 => 358 | 53 => 262 | 4 => 4 | 183 => 351 | 182 => 350 | 131 => 271 | 5 => 5 | 9 => 9 | 218 => 373 | 222 => 377 | 228 => 387 | 229 => 231 | n => n, fun | n => n⟩
theorem Tryz.lays189 : Go.Proofs.Lays.n189 Tryz.prog Tryz.lays189_ren := {
  mixed := by kernel_rfl
  f125 := Tryz.func217.trans (congrArg some (by kernel_rfl))
  f128 := Tryz.func246.trans (congrArg some (by kernel_rfl))
  f129 := Tryz.func247.trans (congrArg some (by kernel_rfl))
  f189 := Tryz.func174.trans (congrArg some (by kernel_rfl))
  f215 := Tryz.func269.trans (congrArg some (by kernel_rfl))
  f216 := Tryz.func243.trans (congrArg some (by kernel_rfl))
  f257 := Tryz.func216.trans (congrArg some (by kernel_rfl))
  f294 := Tryz.func237.trans (congrArg some (by kernel_rfl))
  f295 := Tryz.func238.trans (congrArg some (by kernel_rfl))
  f296 := Tryz.func239.trans (congrArg some (by kernel_rfl))
  f297 := Tryz.func240.trans (congrArg some (by kernel_rfl))
  f298 := Tryz.func241.trans (congrArg some (by kernel_rfl))
  f299 := Tryz.func242.trans (congrArg some (by kernel_rfl))
  f300 := Tryz.func244.trans (congrArg some (by kernel_rfl))
  f301 := Tryz.func245.trans (congrArg some (by kernel_rfl))
  f328 := Tryz.func264.trans (congrArg some (by kernel_rfl))
  f329 := Tryz.func265.trans (congrArg some (by kernel_rfl))
  f330 := Tryz.func266.trans (congrArg some (by kernel_rfl))
  f331 := Tryz.func267.trans (congrArg some (by kernel_rfl))
  f332 := Tryz.func268.trans (congrArg some (by kernel_rfl))
  f343 := Tryz.func276.trans (congrArg some (by kernel_rfl))
  t0 := Tryz.underlying0
  a0 := Tryz.isAgg0
  z0 := Tryz.sizeOf0
  v0 := Tryz.zeroValue0
  t3 := Tryz.underlying3
  a3 := Tryz.isAgg3
  z3 := Tryz.sizeOf3
  v3 := Tryz.zeroValue3
  t4 := Tryz.underlying4
  a4 := Tryz.isAgg4
  z4 := Tryz.sizeOf4
  v4 := Tryz.zeroValue4
  t5 := Tryz.underlying5
  a5 := Tryz.isAgg5
  z5 := Tryz.sizeOf5
  v5 := Tryz.zeroValue5
  t9 := Tryz.underlying9
  a9 := Tryz.isAgg9
  z9 := Tryz.sizeOf9
  v9 := Tryz.zeroValue9
  t28 := Tryz.underlying40
  a28 := Tryz.isAgg40
  z28 := Tryz.sizeOf40
  v28 := Tryz.zeroValue40
  t46 := Tryz.underlying332
  a46 := Tryz.isAgg332
  z46 := Tryz.sizeOf332
  v46 := Tryz.zeroValue332
  t51 := Tryz.underlying358
  a51 := Tryz.isAgg358
  z51 := Tryz.sizeOf358
  v51 := Tryz.zeroValue358
  t53 := Tryz.underlying262
  a53 := Tryz.isAgg262
  z53 := Tryz.sizeOf262
  v53 := Tryz.zeroValue262
  t131 := Tryz.underlying271
  a131 := Tryz.isAgg271
  z131 := Tryz.sizeOf271
  v131 := Tryz.zeroValue271
  t182 := Tryz.underlying350
  a182 := Tryz.isAgg350
  z182 := Tryz.sizeOf350
  v182 := Tryz.zeroValue350
  t183 := Tryz.underlying351
  a183 := Tryz.isAgg351
  z183 := Tryz.sizeOf351
  v183 := Tryz.zeroValue351
  t218 := Tryz.underlying373
  a218 := Tryz.isAgg373
  z218 := Tryz.sizeOf373
  v218 := Tryz.zeroValue373
  t222 := Tryz.underlying377
  a222 := Tryz.isAgg377
  z222 := Tryz.sizeOf377
  v222 := Tryz.zeroValue377
  t228 := Tryz.underlying387
  a228 := Tryz.isAgg387
  z228 := Tryz.sizeOf387
  v228 := Tryz.zeroValue387
  t229 := Tryz.underlying231
  a229 := Tryz.isAgg231
  z229 := Tryz.sizeOf231
  v229 := Tryz.zeroValue231 }
open Go.Sort Go.RowKit in
theorem Tryz.slices_Sort_int (blk off cap : Nat) (zs : List Int) (w : World) (hH : Holds (Value.int .i64) w blk off zs.toArray) (hblk : blk < w.heap.size) (hsz : zs.length < 4611686018427387904) :
    Calls Tryz.prog 174 #[.slice (some ⟨blk, off, none⟩) zs.length cap] w fun e w' =>
      e = .returned (.tuple #[]) ∧ ∃ n os, w' = grow (putRow (Value.int .i64) (Sort.ahead w n) blk off (zs.mergeSort fun x y => decide (x ≤ y)).toArray) os := Any.slices_Sort_int Tryz.lays189 blk off cap zs w hH hblk hsz
def Tryz.laysNm220_ren : Go.Shelf.Ren := ⟨fun | 20 => 175 | n => n, fun | 22 => 40 | 3 => 3 | 4 => 4 | 0 => 0 | n => n, fun | n => n⟩
theorem Tryz.laysNm220 : Go.Proofs.Lays2.n20 Tryz.prog Tryz.laysNm220_ren := {
  mixed := by kernel_rfl
  f20 := Tryz.func175.trans (congrArg some (by kernel_rfl))
  t0 := Tryz.underlying0
  a0 := Tryz.isAgg0
  z0 := Tryz.sizeOf0
  v0 := Tryz.zeroValue0
  t3 := Tryz.underlying3
  a3 := Tryz.isAgg3
  z3 := Tryz.sizeOf3
  v3 := Tryz.zeroValue3
  t4 := Tryz.underlying4
  a4 := Tryz.isAgg4
  z4 := Tryz.sizeOf4
  v4 := Tryz.zeroValue4
  t22 := Tryz.underlying40
  a22 := Tryz.isAgg40
  z22 := Tryz.sizeOf40
  v22 := Tryz.zeroValue40
  i3 := by kernel_rfl }
open Go.RowKit Go.Lib Go.Sort in
/-- slices.Compact at []int: "Compact replaces consecutive runs of equal elements with a single copy. This is like the uniq command found on Unix. Compact modifies the contents of the slice s and returns the modified slice, which may have a smaller length. Compact zeroes the elements between the new length and the original length. The result preserves the nilness of s.": IT RETURNS THE SLICE CUT TO 'Lib.compact zs'; ITS CELLS HOLD 'Lib.compact zs', THEN ZERO VALUES up to the old length; all else is as it was, but for the count of draws. IN THE WORDS OF slices.Sort's CONTRACT ('Holds', 'putRow'): so the everyday 'slices.Sort(xs); xs = slices.Compact(xs)' goes from the one contract to the other. It asks 'zs.length ≤ cap' (every slice's: the reslicing 's[:k]' looks at it). Length 0, nil: '.._empty'. (LAID: no walk: one application.) -/
theorem Tryz.slices_Compact_int (blk off cap : Nat) (zs : List Int) (w : World) (hH : Holds (Value.int .i64) w blk off zs.toArray) (hsz : zs.length ≤ 9223372036854775807) (hcap : zs.length ≤ cap) :
    Calls Tryz.prog 175 #[.slice (some ⟨blk, off, none⟩) zs.length cap] w fun e w' => e = .returned (.slice (some ⟨blk, off, none⟩) (Lib.compact zs).length cap) ∧ ∃ q, w' = putRow (Value.int .i64) (Sort.ahead w q) blk off (Lib.compact zs ++ List.replicate (zs.length - (Lib.compact zs).length) 0).toArray := Any.slices_Compact_int Tryz.laysNm220 blk off cap zs w hH hsz hcap
open Go.RowKit Go.Lib Go.Sort in
/-- The same at a slice of length 0, a nil one too: it comes back as it is. (LAID: no walk: one application.) -/
theorem Tryz.slices_Compact_int_empty (a : Option Addr) (cap : Nat) (w : World) :
    Calls Tryz.prog 175 #[.slice a 0 cap] w fun e w' => e = .returned (.slice a 0 cap) ∧ w' = w := Any.slices_Compact_int_empty Tryz.laysNm220 a cap w
open Go.RowKit Go.Sort in
/-- .. and plain. (LAID: no walk: one application.) -/
theorem Tryz.slices_Sort_int_none (p : Option Addr) (cap : Nat) (w : World) :
    Calls Tryz.prog 174 #[.slice p 0 cap] w fun e w' => e = .returned (.tuple #[]) ∧ w' = w := Any.slices_Sort_int_none Tryz.lays189 p cap w
def Tryz.sortFuncL_ren : Go.Shelf.Ren := ⟨fun | 6 => 250 | 15 => 217 | 14 => 270 | 28 => 246 | 29 => 247 | 20 => 277 | 21 => 278 | 22 => 279 | 23 => 280 | 24 => 281 | 25 => 282 | 26 => 283 | 27 => 284 | 46 => 289 | 47 => 265 | 48 => 266 | 49 => 290 | 50 => 291 | 57 => 292 | n => n, fun | 22 => 238 | 24 => 81 | 25 => 361 | 3 => 3 | 39 => 332 | 0 => 0 | 53 => 358 | 55 => 262 | 4 => 4 | 46 => 351 | 45 => 350 | 50 => 271 | 5 => 5 | 9 => 9 | 66 => 373 | 70 => 377 | 76 => 387 | 77 => 231 | n => n, fun | n => n⟩
theorem Tryz.sortFuncL : Go.Proofs.SlLaysF0.n6 Tryz.prog Tryz.sortFuncL_ren := {
  mixed := by kernel_rfl
  f6 := ⟨Tryz.f250.name, by decide, Tryz.func250.trans (congrArg some (by kernel_rfl))⟩
  f14 := ⟨Tryz.f270.name, by decide, Tryz.func270.trans (congrArg some (by kernel_rfl))⟩
  f15 := Tryz.func217.trans (congrArg some (by kernel_rfl))
  f20 := ⟨Tryz.f277.name, by decide, Tryz.func277.trans (congrArg some (by kernel_rfl))⟩
  f21 := ⟨Tryz.f278.name, by decide, Tryz.func278.trans (congrArg some (by kernel_rfl))⟩
  f22 := ⟨Tryz.f279.name, by decide, Tryz.func279.trans (congrArg some (by kernel_rfl))⟩
  f23 := ⟨Tryz.f280.name, by decide, Tryz.func280.trans (congrArg some (by kernel_rfl))⟩
  f24 := ⟨Tryz.f281.name, by decide, Tryz.func281.trans (congrArg some (by kernel_rfl))⟩
  f25 := ⟨Tryz.f282.name, by decide, Tryz.func282.trans (congrArg some (by kernel_rfl))⟩
  f26 := ⟨Tryz.f283.name, by decide, Tryz.func283.trans (congrArg some (by kernel_rfl))⟩
  f27 := ⟨Tryz.f284.name, by decide, Tryz.func284.trans (congrArg some (by kernel_rfl))⟩
  f28 := Tryz.func246.trans (congrArg some (by kernel_rfl))
  f29 := Tryz.func247.trans (congrArg some (by kernel_rfl))
  f46 := ⟨Tryz.f289.name, by decide, Tryz.func289.trans (congrArg some (by kernel_rfl))⟩
  f47 := Tryz.func265.trans (congrArg some (by kernel_rfl))
  f48 := Tryz.func266.trans (congrArg some (by kernel_rfl))
  f49 := ⟨Tryz.f290.name, by decide, Tryz.func290.trans (congrArg some (by kernel_rfl))⟩
  f50 := ⟨Tryz.f291.name, by decide, Tryz.func291.trans (congrArg some (by kernel_rfl))⟩
  f57 := ⟨Tryz.f292.name, by decide, Tryz.func292.trans (congrArg some (by kernel_rfl))⟩
  t0 := Tryz.underlying0
  a0 := Tryz.isAgg0
  z0 := Tryz.sizeOf0
  v0 := Tryz.zeroValue0
  t3 := Tryz.underlying3
  a3 := Tryz.isAgg3
  z3 := Tryz.sizeOf3
  v3 := Tryz.zeroValue3
  t4 := Tryz.underlying4
  a4 := Tryz.isAgg4
  z4 := Tryz.sizeOf4
  v4 := Tryz.zeroValue4
  t5 := Tryz.underlying5
  a5 := Tryz.isAgg5
  z5 := Tryz.sizeOf5
  v5 := Tryz.zeroValue5
  t9 := Tryz.underlying9
  a9 := Tryz.isAgg9
  z9 := Tryz.sizeOf9
  v9 := Tryz.zeroValue9
  t22 := Tryz.underlying238
  a22 := Tryz.isAgg238
  z22 := Tryz.sizeOf238
  v22 := Tryz.zeroValue238
  t25 := Tryz.underlying361
  a25 := Tryz.isAgg361
  z25 := Tryz.sizeOf361
  v25 := Tryz.zeroValue361
  t39 := Tryz.underlying332
  a39 := Tryz.isAgg332
  z39 := Tryz.sizeOf332
  v39 := Tryz.zeroValue332
  t45 := Tryz.underlying350
  a45 := Tryz.isAgg350
  z45 := Tryz.sizeOf350
  v45 := Tryz.zeroValue350
  t46 := Tryz.underlying351
  a46 := Tryz.isAgg351
  z46 := Tryz.sizeOf351
  v46 := Tryz.zeroValue351
  t50 := Tryz.underlying271
  a50 := Tryz.isAgg271
  z50 := Tryz.sizeOf271
  v50 := Tryz.zeroValue271
  t53 := Tryz.underlying358
  a53 := Tryz.isAgg358
  z53 := Tryz.sizeOf358
  v53 := Tryz.zeroValue358
  t55 := Tryz.underlying262
  a55 := Tryz.isAgg262
  z55 := Tryz.sizeOf262
  v55 := Tryz.zeroValue262
  t66 := Tryz.underlying373
  a66 := Tryz.isAgg373
  z66 := Tryz.sizeOf373
  v66 := Tryz.zeroValue373
  t70 := Tryz.underlying377
  a70 := Tryz.isAgg377
  z70 := Tryz.sizeOf377
  v70 := Tryz.zeroValue377
  t76 := Tryz.underlying387
  a76 := Tryz.isAgg387
  z76 := Tryz.sizeOf387
  v76 := Tryz.zeroValue387
  t77 := Tryz.underlying231
  a77 := Tryz.isAgg231
  z77 := Tryz.sizeOf231
  v77 := Tryz.zeroValue231 }
def Tryz.compareL_ren : Go.Shelf.Ren := ⟨fun | 5 => 253 | 7 => 269 | n => n, fun | 22 => 3 | 3 => 3 | 4 => 4 | n => n, fun | n => n⟩
theorem Tryz.compareL : Go.Proofs.SlLaysC2.n5 Tryz.prog Tryz.compareL_ren := {
  mixed := by kernel_rfl
  f5 := ⟨Tryz.f253.name, by decide, Tryz.func253.trans (congrArg some (by kernel_rfl))⟩
  f7 := ⟨Tryz.f269.name, by decide, Tryz.func269.trans (congrArg some (by kernel_rfl))⟩
  t3 := Tryz.underlying3
  a3 := Tryz.isAgg3
  z3 := Tryz.sizeOf3
  v3 := Tryz.zeroValue3
  t4 := Tryz.underlying4
  a4 := Tryz.isAgg4
  z4 := Tryz.sizeOf4
  v4 := Tryz.zeroValue4
  t22 := Tryz.underlying3
  a22 := Tryz.isAgg3
  z22 := Tryz.sizeOf3
  v22 := Tryz.zeroValue3 }
open Go.RowKit Go.Sort Go.Lib in
/-- slices.SortFunc at points. -/
theorem Tryz.slices_SortFunc_Pt (aE : ∀ w, (isAgg 81).run Tryz.prog w = .ok true w) (zE : ∀ w, (Go.sizeOf 81).run Tryz.prog w = .ok 2 w) (enc : Int × Int → List Value) (hk : ∀ x, (enc x).length = 2) (h1 : ∀ x, ∀ v ∈ enc x, v.oneCell' = true) (cf : Int × Int → Int × Int → Int) (hO : SWO (ltOf cf)) (g : Nat) (cb : Array Value) (blk off cap : Nat) (d : Array (Int × Int)) (w : World)
    (eg : ∀ args w, (callFunc g args).run Tryz.prog w = .ok (.enter g args) w) (hcmp : CmpLays Tryz.prog g cb enc 2 cf blk off d.size w) (hH : HoldsK enc 2 w blk off d) (hblk : blk < w.heap.size) (hsz : d.size < 4611686018427387904) (hT : ∀ x y, (ltOf cf) x y = false → (ltOf cf) y x = false → x = y) :
    Calls Tryz.prog 250 #[.slice (some ⟨blk, off, none⟩) d.size cap, .func (.func g) #[] cb] w fun e w' => e = .returned (.tuple #[]) ∧ ∃ n os, w' = sortWorldK enc 2 w blk off n (d.toList.mergeSort fun x y => !(ltOf cf) y x).toArray os :=
  AnyQ.slices_SortFunc_total Tryz.sortFuncL 2 aE zE enc hk h1 cf hO g cb blk off cap d w eg hcmp hH hblk hsz hT
open Go.RowKit Go.Sort Go.Lib in
/-- slices.SortFunc at no point. -/
theorem Tryz.slices_SortFunc_Pt_none (p : Option Addr) (cap : Nat) (fv : Value) (w : World) :
    Calls Tryz.prog 250 #[.slice p 0 cap, fv] w fun e w' => e = .returned (.tuple #[]) ∧ w' = w :=
  AnyF.slices_SortFunc_none Tryz.sortFuncL p cap fv w
open Go.RowKit Go.Sort Go.Lib in
/-- cmp.Compare at numbers. -/
theorem Tryz.cmp_Compare_int (x y : Int) (W : World) : Calls Tryz.prog 253 #[.int .i64 x, .int .i64 y] W fun e w' => e = .returned (.int .i64 (Lib.compareInt x y)) ∧ w' = W :=
  AnyG.cmp_Compare_int Tryz.compareL x y W
end Go.Proofs
namespace Go.Proofs
open Go Go.Shelf Go.RowKit Go.Lib Go.Sort
set_option maxHeartbeats 4000000
set_option maxRecDepth 100000
def encP(x:Int×Int):List Value:=[.int .i64 x.1,.int .i64 x.2]
theorem encP_len(x:Int×Int):(encP x).length=2:=rfl
theorem encP_one(x:Int×Int):∀v∈encP x,v.oneCell'=true:=by
 intro v hv
 simp[encP] at hv
 rcases hv with rfl|rfl<;>rfl
theorem Tryz.eqPt(x y:Int×Int)(w:World):Sem.run Tryz.prog (binOp .eql 81 (.agg (encP x).toArray) (.agg (encP y).toArray)) w= .ok (.bool (decide (x=y))) w:=by
 obtain⟨a,b⟩:=x
 obtain⟨c,d⟩:=y
 simp only[encP]
 go_simp
 by_cases h1:a=c<;>by_cases h2:b=d<;>simp[h1,h2]
theorem Tryz.nePt(x y:Int×Int)(w:World):Sem.run Tryz.prog (binOp .neq 81 (.agg (encP x).toArray) (.agg (encP y).toArray)) w= .ok (.bool (!decide (x=y))) w:=by
 obtain⟨a,b⟩:=x
 obtain⟨c,d⟩:=y
 simp only[encP]
 go_simp
 by_cases h1:a=c<;>by_cases h2:b=d<;>simp[h1,h2]
theorem Tryz.guPt(op:BinOp)(a b:Operand)(x y:Int×Int)(w:World):Sem.run Tryz.prog (eqGuard op 81 a b (.agg (encP x).toArray) (.agg (encP y).toArray)) w= .ok () w:=by
 obtain⟨a,b⟩:=x
 obtain⟨c,d⟩:=y
 simp only[encP]
 cases op<;>go_simp
theorem setMany_one(d:Array (Int×Int))(i:Nat)(x:Int×Int)(hi:i<d.size):setMany (flatK encP 2 d) (i*2) (encP x)=flatK encP 2 (d.setIfInBounds i x):=by
 refine ext_get! (by simp) fun t ht=>?_
 have ht':t<d.size*2:=by simpa using ht
 rw[get_setMany _ _ _ t (by simpa using ht'),get_flatK _ _ _ t ht',get_flatK _ _ _ t (by simpa using ht'),encP_len]
 by_cases b:t/2=i
 ·rw[if_pos ((blk_iff 2 i t (by omega)).2 b),b,getElem!_set_same _ _ _ hi,show t-i*2=t% 2 by omega]
 ·rw[if_neg (fun h=>b ((blk_iff 2 i t (by omega)).1 h)),getElem!_set_other _ _ _ _ b]
theorem setMany_app:∀(a b:List Value) (F:Array Value) (s:Nat),setMany F s (a++b)=setMany (setMany F s a) (s+a.length) b
 |[],b,F,s=>rfl
 |x::r,b,F,s=>by
  rw[List.cons_append,setMany,setMany_app r b,setMany,List.length_cons,show s+1+r.length=s+(r.length+1) by omega]
theorem setMany_lay:∀(n:Nat) (d:Array (Int×Int)) (k:Nat),k+n≤d.size→setMany (flatK encP 2 d) (k*2) (List.replicate (n*2) (.int .i64 0))=flatK encP 2 (lay d k (List.replicate n (0,0)))
 |0,d,k,_=>by simp[setMany,lay]
 |n+1,d,k,h=>by
  have e:List.replicate ((n+1)*2) (Value.int .i64 0)=encP (0,0)++List.replicate (n*2) (.int .i64 0):=by
   rw[show(n+1)*2=n*2+1+1 by omega]
   rfl
  rw[e,setMany_app,setMany_one d k _ (by omega),encP_len,show k*2+2=(k+1)*2 by omega,setMany_lay n _ (k+1) (by simp;omega)]
  rfl
theorem store_worldP{w wr:World}{n blk off:Nat}{dk:Array (Int×Int)}{i:Nat}(hi:i<dk.size)(hwr:wr=putRowK encP 2 (Sort.ahead w n) blk off dk)(x:Int×Int):
  (wr.setCells blk (off+i*2) (encP x))=putRowK encP 2 (Sort.ahead w n) blk off (dk.setIfInBounds i x):=by
 subst hwr
 unfold putRowK
 rw[setCells_putRow _ _ _ _ _ _ (by rw[encP_len,size_flatK];omega),setMany_one dk i x hi]
theorem run_clear2{P:Program}(w:World)(t e ty:TypeId)(ht:P.underlying t=some (.slice e))(hv:∀w,(zeroValue e).run P w= .ok (.agg #[.int .i64 0,.int .i64 0]) w)(b o n c:Nat)(hn:0<n)
  (hc:∀j,j<n*2→(w.cell? ⟨b,o+j,none⟩).isSome=true)(hf:∀j,j<n*2→w.frozen? ⟨b,o+j,none⟩=false):
  (Builtin.clear_ #[t] ty #[.slice (some ⟨b,o,none⟩) n c]).run P w= .ok (.tuple #[]) (w.setCells b o (List.replicate (n*2) (.int .i64 0))):=by
 have hzc:(Builtin.zeroCells #[.int .i64 0,.int .i64 0] n).toList=List.replicate (n*2) (.int .i64 0):=by
  simp only[Builtin.zeroCells]
  apply List.ext_getElem
  ·simp
  ·intro i h1 h2
   simp
   have:i% 2<2:=Nat.mod_lt _ (by omega)
   generalize i% 2=q at*
   match q,this with
   |0,_=>rfl
   |1,_=>rfl
 have hst:=run_storeCells_cells (P:=P) b o (List.replicate (n*2) (.int .i64 0)) 0 w (by simpa using hc) (by simpa using hf) (by intro v hv';rw[List.eq_of_mem_replicate hv'];rfl)
 simp only[Nat.add_zero] at hst
 obtain⟨m,rfl⟩:∃m,n=m+1:=⟨n-1,by omega⟩
 have hz:(Value.agg #[.int .i64 0,.int .i64 0]).cells= #[.int .i64 0,.int .i64 0]:=rfl
 simp[Builtin.clear_,run_underlying ht,hv,hz,hzc,hst]
theorem cellP{w:World}{blk off:Nat}{d:Array (Int×Int)}(h:HoldsK encP 2 w blk off d)(i a:Nat)(hi:i<d.size)(ha:a=off+i*2):
  w.cell? ⟨blk,a,none⟩=some (.int .i64 d[i]!.1)∧w.cell? ⟨blk,a+1,none⟩=some (.int .i64 d[i]!.2)∧w.frozen? ⟨blk,a,none⟩=false∧w.frozen? ⟨blk,a+1,none⟩=false:=by
 subst ha
 exact⟨(h.cell (c:=0) hi (by omega)).1,(h.cell (c:=1) hi (by omega)).1,(h.cell (c:=0) hi (by omega)).2,(h.cell (c:=1) hi (by omega)).2⟩
theorem ptZero(w:World):(zeroValue 81).run Tryz.prog w= .ok (.agg #[.int .i64 0,.int .i64 0]) w:=by
 go_simp
theorem Tryz.compactPt(blk off cap:Nat)(d:Array (Int×Int))(w:World)(hH:HoldsK encP 2 w blk off d)(hsz:d.size≤4611686018427387903)(hcap:d.size≤cap):
  Calls Tryz.prog 254 #[.slice (some ⟨blk,off,none⟩) d.size cap] w fun e w'=>e= .returned (.slice (some ⟨blk,off,none⟩) (compactUpTo d d.size).length cap)∧∃q,w'=putRowK encP 2 (Sort.ahead w q) blk off (compactUpTo d d.size++List.replicate (d.size-(compactUpTo d d.size).length) (0,0)).toArray:=by
 have mixed:Tryz.prog.follows .mixedOrders=true:=by kernel_rfl
 have heq':=Tryz.eqPt
 have hne':=Tryz.nePt
 have hgd':=Tryz.guPt
 have same:∀q,(∀j,j<d.size→keeps d j=true)→(compactUpTo d d.size).length=d.size∧w.drewN q=putRowK encP 2 (Sort.ahead w q) blk off (compactUpTo d d.size++List.replicate (d.size-(compactUpTo d d.size).length) (0,0)).toArray:=by
  intro q hall
  have e:compactUpTo d d.size=d.toList:=by rw[compactUpTo_all d _ hall,range_map_get]
  rw[e]
  refine⟨by simp, ?_⟩
  simp only[Array.length_toList,Nat.sub_self,List.replicate_zero,List.append_nil,Array.toArray_toList]
  exact(putRowK_self encP 2 (Sort.ahead w q) blk off d (holdsK_ahead encP 2 w q blk off d hH)).symm
 have HS:Aside (∀q,(∀j,j<d.size→keeps d j=true)→(compactUpTo d d.size).length=d.size∧w.drewN q=putRowK encP 2 (Sort.ahead w q) blk off (compactUpTo d d.size++List.replicate (d.size-(compactUpTo d d.size).length) (0,0)).toArray):=same
 clear same
 by_cases h2:d.size<2
 ·have HH:Aside (HoldsK encP 2 w blk off d):=hH
  clear hH
  go_enter Tryz.func254,Tryz.ntmps254
  go_wp2
  go_ret
  obtain⟨e1,e2⟩:=HS.out 0 (fun j hj=>keeps_lt_one d j (by omega))
  exact⟨by rw[e1];rfl,0,e2⟩
 ·go_enter Tryz.func254,Tryz.ntmps254
  go_wp2
  go_loopg [3] d.size (fun g s3 wr=>∃k q:Nat,1≤k∧k≤d.size∧d.size-k≤g∧s3= .int .i64 k∧wr=w.drewN q∧∀j,j<k→keeps d j=true)
  case atStart=>exact⟨1,0,Nat.le_refl _,by omega,by omega,rfl,rfl,keeps_lt_one d⟩
  case round=>
   obtain⟨k,q,hk1,hk,hg,rfl,rfl,hall⟩:=hrel
   by_cases hlt:k<d.size
   ·have hHd:HoldsK encP 2 (w.drewN q).drew blk off d:=hH
    obtain⟨m,rfl⟩:∃m,k=m+1:=⟨k-1,by omega⟩
    have c0:(w.drewN q).cell? ⟨blk,off+(m+1)*2,none⟩=some (.int .i64 d[m+1]!.1):=(hH.cell (i:=m+1) (c:=0) hlt (by omega)).1
    have c1:(w.drewN q).cell? ⟨blk,off+(m+1)*2+1,none⟩=some (.int .i64 d[m+1]!.2):=(hH.cell (i:=m+1) (c:=1) hlt (by omega)).1
    have c2:(w.drewN q).cell? ⟨blk,off+m*2,none⟩=some (.int .i64 d[m]!.1):=(hH.cell (i:=m) (c:=0) (by omega) (by omega)).1
    have c3:(w.drewN q).cell? ⟨blk,off+m*2+1,none⟩=some (.int .i64 d[m]!.2):=(hH.cell (i:=m) (c:=1) (by omega) (by omega)).1
    have A:Aside (∀j,j<m+1→keeps d j=true):=hall
    have HH:Aside (HoldsK encP 2 w blk off d):=hH
    clear hall hH hHd
    generalize hx:d[m+1]! =x at c0 c1
    generalize hy:d[m]! =y at c2 c3
    have B:Aside (d[m+1]! =x∧d[m]! =y):=⟨hx,hy⟩
    clear hx hy
    obtain⟨wq,hwq⟩:∃wq,wq=w.drewN q:=⟨_,rfl⟩
    rw[←hwq] at c0 c1 c2 c3⊢
    have WQ:Aside (wq=w.drewN q):=hwq
    clear hwq
    obtain⟨x1,x2⟩:=x
    obtain⟨y1,y2⟩:=y
    simp only at c0 c1 c2 c3
    by_cases hdup:(x1,x2)=(y1,y2)
    ·injection hdup with hd1 hd2
     subst hd1 hd2
     have h0:(0:Int)≤(m:Int)+1:=by omega
     have h01:(m:Int)+1<(d.size:Int):=by omega
     have h02:(m:Int)<(d.size:Int):=by omega
     go_wp2_with fail
     go_region_o
     go_wp2
     clear c0 c1 c2 c3 h0 h01 h02
     go_loopg [3,5] d.size (fun g s3 s5 wr=>∃(kk k2 q2:Nat) (dk:Array (Int×Int)),s3= .int .i64 kk∧s5= .int .i64 k2∧1≤k2∧m+1+k2≤d.size∧d.size-(m+1+k2)≤g∧wr=putRowK encP 2 (Sort.ahead w q2) blk off dk∧CompInv d (m+1+k2) kk dk)
     case atStart=>exact⟨m+1,1,q+1,d,rfl,rfl,Nat.le_refl _,by omega,by omega,by rw[WQ.out];exact(putRowK_self encP 2 (Sort.ahead w (q+1)) blk off d (holdsK_ahead encP 2 w (q+1) blk off d HH.out)).symm,CompInv.start A.out (keeps_neg (by omega) (by rw[B.out.1,show m+1-1=m from rfl,B.out.2]))⟩
     case round=>
      obtain⟨kk,k2,q2,dk,rfl,rfl,h1,hle,hg2,hwr,hI⟩:=hrel
      have hkk:=hI.lt
      have hds:=hI.size
      have hHk:HoldsK encP 2 wr blk off dk:=by rw[hwr];exact holdsK_putRowK encP 2 _ blk off d dk (holdsK_ahead encP 2 w q2 blk off d HH.out) hds
      have W2:Aside (wr=putRowK encP 2 (Sort.ahead w q2) blk off dk):=hwr
      have I2:Aside (CompInv d (m+1+k2) kk dk):=hI
      clear hwr
      by_cases hlt2:m+1+k2<d.size
      ·obtain⟨p,rfl⟩:∃p,k2=p+1:=⟨k2-1,by omega⟩
       obtain⟨c0,c1,_⟩:=cellP hHk (m+1+(p+1)) (off+(m+1)*2+(p+1)*2) (by omega) (by omega)
       obtain⟨c2,c3,_⟩:=cellP hHk (m+1+p) (off+(m+1)*2+p*2) (by omega) (by omega)
       obtain⟨s0,s1,f0,f1⟩:=cellP hHk kk (off+kk*2) (by omega) rfl
       rw[hI.high (m+1+(p+1)) (by omega)] at c0 c1
       rw[hI.high (m+1+p) (by omega)] at c2 c3
       generalize hu:d[m+1+(p+1)]! =u at c0 c1
       generalize hv:d[m+1+p]! =v at c2 c3
       have C:Aside (d[m+1+(p+1)]! =u∧d[m+1+p]! =v):=⟨hu,hv⟩
       clear hu hv hHk hI
       obtain⟨u1,u2⟩:=u
       obtain⟨v1,v2⟩:=v
       generalize dk[kk]! =old at s0 s1
       simp only at c0 c1 c2 c3
       have h0:(0:Int)≤(p:Int)+1:=by omega
       have h01:(p:Int)+1<(d.size:Int)-((m:Int)+1):=by omega
       by_cases huv:(u1,u2)=(v1,v2)
       ·injection huv with hd1 hd2
        subst hd1 hd2
        go_wp2_with fail
        go_region_o
        go_wp2
        go_roundg (d.size-(m+1+(p+1+1)))
        case measure=>omega
        case rel=>exact⟨kk,p+1+1,q2+1,dk,rfl,by go_num,by omega,by omega,Nat.le_refl _,by rw[W2.out];rfl,I2.out.skip (keeps_neg (by omega) (by rw[C.out.1,show m+1+(p+1)-1=m+1+p by omega,C.out.2]))⟩
       ·have HUV:Aside (¬(u1,u2)=(v1,v2)):=huv
        clear huv
        by_cases he:u1=v1
        ·have he2:¬u2=v2:=fun e=>HUV.out (by rw[he,e])
         subst he
         go_wp2_with fail
         go_region_o
         go_wp2
         go_roundg (d.size-(m+1+(p+1+1)))
         case measure=>omega
         case rel=>exact⟨kk+1,p+1+1,q2+1,dk.setIfInBounds kk (u1,u2),by go_num,by go_num,by omega,by omega,Nat.le_refl _,store_worldP (wr:=wr.drew) (by omega) (by rw[W2.out];rfl) (u1,u2),by have:=I2.out.keep hlt2 (keeps_pos (by rw[C.out.1,show m+1+(p+1)-1=m+1+p by omega,C.out.2];exact HUV.out));rw[C.out.1] at this;exact this⟩
        ·skip
         go_wp2_with fail
         go_region_o
         go_wp2
         go_roundg (d.size-(m+1+(p+1+1)))
         case measure=>omega
         case rel=>exact⟨kk+1,p+1+1,q2+1,dk.setIfInBounds kk (u1,u2),by go_num,by go_num,by omega,by omega,Nat.le_refl _,store_worldP (wr:=wr.drew) (by omega) (by rw[W2.out];rfl) (u1,u2),by have:=I2.out.keep hlt2 (keeps_pos (by rw[C.out.1,show m+1+(p+1)-1=m+1+p by omega,C.out.2];exact HUV.out));rw[C.out.1] at this;exact this⟩
      ·have hend:m+1+k2=d.size:=by omega
       have hcl:∀ty,(Builtin.clear_ #[238] ty #[.slice (some ⟨blk,off+kk*2,none⟩) (d.size-kk) (cap-kk)]).run Tryz.prog wr= .ok (.tuple #[]) (wr.setCells blk (off+kk*2) (List.replicate ((d.size-kk)*2) (.int .i64 0))):=
        fun ty=>run_clear2 wr 238 81 ty (by kernel_rfl) ptZero blk (off+kk*2) _ _ (by omega) (fun j hj=>by rw[show off+kk*2+j=off+(kk*2+j) by omega,(hHk (kk*2+j) (by rw[size_flatK];omega)).1];rfl) (fun j hj=>by rw[show off+kk*2+j=off+(kk*2+j) by omega];exact(hHk (kk*2+j) (by rw[size_flatK];omega)).2)
       clear hHk hI
       go_wp2
       go_ret
       have hI:=I2.out
       rw[hend] at hI
       refine⟨by rw[hI.len];rfl,q2, ?_⟩
       rw[hI.len,←hI.done (0,0)]
       unfold putRowK
       rw[←setMany_lay _ _ _ (by omega),←setCells_putRow _ _ _ _ _ _ (by rw[size_flatK,List.length_replicate];omega)]
       rw[W2.out]
       rfl
    ·have HD:Aside (¬(x1,x2)=(y1,y2)):=hdup
     clear hdup
     have h0:(0:Int)≤(m:Int)+1:=by omega
     have h01:(m:Int)+1<(d.size:Int):=by omega
     have h02:(m:Int)<(d.size:Int):=by omega
     have fin:∀j,j<m+1+1→keeps d j=true:=fun j hj=>by
      by_cases e:j=m+1
      ·subst e
       exact keeps_pos (by rw[B.out.1,show m+1-1=m from rfl,B.out.2];exact HD.out)
      ·exact A.out j (by omega)
     have FIN:Aside (∀j,j<m+1+1→keeps d j=true):=fin
     clear fin
     by_cases he:x1=y1
     ·have he2:¬x2=y2:=fun e=>HD.out (by rw[he,e])
      subst he
      go_wp2_with fail
      go_region_o
      go_wp2
      go_roundg (d.size-(m+1+1))
      case measure=>omega
      case rel=>exact⟨m+1+1,q+1,by omega,by omega,Nat.le_refl _,by go_num,by rw[WQ.out];rfl,FIN.out⟩
     ·go_wp2_with fail
      go_region_o
      go_wp2
      go_roundg (d.size-(m+1+1))
      case measure=>omega
      case rel=>exact⟨m+1+1,q+1,by omega,by omega,Nat.le_refl _,by go_num,by rw[WQ.out];rfl,FIN.out⟩
   ·have:k=d.size:=by omega
    subst this
    have HH:Aside (HoldsK encP 2 w blk off d):=hH
    clear hH
    go_wp2
    go_ret
    obtain⟨e1,e2⟩:=HS.out q hall
    exact⟨by rw[e1];rfl,q,e2⟩
theorem Tryz.compactPt_empty(a:Option Addr)(cap:Nat)(w:World):Calls Tryz.prog 254 #[.slice a 0 cap] w fun e w'=>e= .returned (.slice a 0 cap)∧w'=w:=by
 go_enter Tryz.func254,Tryz.ntmps254
 go_wp2
 go_ret
 exact⟨rfl,rfl⟩
theorem Tryz.or2(p q r:Int)(b:Nat)(W:World)(h0:W.cell? ⟨b,0,none⟩=some (.int .i64 p))(h1:W.cell? ⟨b,1,none⟩=some (.int .i64 q))(hr0:p≠0→r=p)(hr1:p=0→r=q):
  Calls Tryz.prog 252 #[.slice (some ⟨b,0,none⟩) 2 2] W fun e w'=>e= .returned (.int .i64 r)∧w'=W:=by
 go_enter Tryz.func252,Tryz.ntmps252
 go_wp2
 refine wp_loop_rounds 3 ?_
 rw[rounds_succ];go_wp2
 ·rename_i hp
  go_ret
  exact⟨by rw[hr0 (by simpa using hp)];rfl,rfl⟩
 rename_i hp
 have hp0:p=0:=by simpa using hp
 rw[rounds_succ];go_wp2
 ·go_ret
  exact⟨by rw[hr1 hp0];rfl,rfl⟩
 rename_i hq
 have hq0:q=0:=by simpa using hq
 rw[rounds_succ];go_wp2
 go_ret
 exact⟨by rw[hr1 hp0,hq0];rfl,rfl⟩
def cmpPt(x y:Int×Int):Int:=if Lib.compareInt x.1 y.1=0 then Lib.compareInt x.2 y.2 else Lib.compareInt x.1 y.1
theorem Tryz.hull1(x y:Int×Int)(W:World):Calls Tryz.prog 251 #[.agg #[.int .i64 x.1,.int .i64 x.2],.agg #[.int .i64 y.1,.int .i64 y.2]] W fun e w'=>e= .returned (.int .i64 (cmpPt x y))∧∃q os',w'=grow (W.drewN q) os':=by
 have hc1:=fun W'=>Tryz.cmp_Compare_int x.1 y.1 W'
 have hc2:=fun W'=>Tryz.cmp_Compare_int x.2 y.2 W'
 have hr:(Lib.compareInt x.1 y.1≠0→cmpPt x y=Lib.compareInt x.1 y.1)∧(Lib.compareInt x.1 y.1=0→cmpPt x y=Lib.compareInt x.2 y.2):=⟨fun h=>by unfold cmpPt;rw[if_neg h],fun h=>by unfold cmpPt;rw[if_pos h]⟩
 obtain⟨hr0,hr1⟩:=hr
 generalize cmpPt x y=r at*
 generalize Lib.compareInt x.1 y.1=p at*
 generalize Lib.compareInt x.2 y.2=q at*
 obtain⟨xa,xb⟩:=x
 obtain⟨ya,yb⟩:=y
 simp only at hc1 hc2
 have hor:=fun b W h0 h1=>Tryz.or2 p q r b W h0 h1 hr0 hr1
 clear hr0 hr1
 go_enter Tryz.func251,Tryz.ntmps251
 go_wp2
 have c0:((W.alloc (Obj.cells #[.int .i64 xa,.int .i64 xb] 81)).alloc (Obj.cells #[.int .i64 ya,.int .i64 yb] 81)).cell? ⟨W.heap.size,0,none⟩=some (.int .i64 xa):=by go_simp
 have c1:((W.alloc (Obj.cells #[.int .i64 xa,.int .i64 xb] 81)).alloc (Obj.cells #[.int .i64 ya,.int .i64 yb] 81)).cell? ⟨W.heap.size,1,none⟩=some (.int .i64 xb):=by go_simp
 have c2:((W.alloc (Obj.cells #[.int .i64 xa,.int .i64 xb] 81)).alloc (Obj.cells #[.int .i64 ya,.int .i64 yb] 81)).cell? ⟨W.heap.size+1,0,none⟩=some (.int .i64 ya):=by go_simp
 have c3:((W.alloc (Obj.cells #[.int .i64 xa,.int .i64 xb] 81)).alloc (Obj.cells #[.int .i64 ya,.int .i64 yb] 81)).cell? ⟨W.heap.size+1,1,none⟩=some (.int .i64 yb):=by go_simp
 have eV:(W.alloc (Obj.cells #[.int .i64 xa,.int .i64 xb] 81)).alloc (Obj.cells #[.int .i64 ya,.int .i64 yb] 81)=grow W (#[Obj.cells #[.int .i64 xa,.int .i64 xb] 81]++ #[Obj.cells #[.int .i64 ya,.int .i64 yb] 81]):=by rw[alloc_eq_grow,alloc_eq_grow,grow_grow]
 generalize(W.alloc (Obj.cells #[.int .i64 xa,.int .i64 xb] 81)).alloc (Obj.cells #[.int .i64 ya,.int .i64 yb] 81)=V at*
 refine wp_region_still_tail 10 (by kernel_rfl) (by kernel_rfl) ?_
 simp only[List.take_succ_cons,List.take_zero,List.drop_succ_cons,List.drop_zero]
 have eU:({V with drawn:=V.drawn+1}:World)=grow (W.drewN 1) (#[Obj.cells #[.int .i64 xa,.int .i64 xb] 81]++ #[Obj.cells #[.int .i64 ya,.int .i64 yb] 81]):=by rw[eV];rfl
 replace c0:({V with drawn:=V.drawn+1}:World).cell? ⟨W.heap.size,0,none⟩=some (.int .i64 xa):=c0
 replace c1:({V with drawn:=V.drawn+1}:World).cell? ⟨W.heap.size,1,none⟩=some (.int .i64 xb):=c1
 replace c2:({V with drawn:=V.drawn+1}:World).cell? ⟨W.heap.size+1,0,none⟩=some (.int .i64 ya):=c2
 replace c3:({V with drawn:=V.drawn+1}:World).cell? ⟨W.heap.size+1,1,none⟩=some (.int .i64 yb):=c3
 clear eV
 generalize({V with drawn:=V.drawn+1}:World)=U at*
 clear V
 generalize hE:grow (W.drewN 1) (#[Obj.cells #[.int .i64 xa,.int .i64 xb] 81]++ #[Obj.cells #[.int .i64 ya,.int .i64 yb] 81])=E at eU
 have hU:∃q os',U=grow (W.drewN q) os':=⟨1,_,eU.trans hE.symm⟩
 clear hE eU
 still_step
 still_step
 still_step
 still_step
 refine wpStill_step (fun K hK=>?_)
 go_simp
 refine⟨_,hc1 _,hK _ ?_⟩
 clear hK K
 still_step
 still_step
 still_step
 still_step
 refine wpStill_step (fun K hK=>?_)
 go_simp
 refine⟨_,hc2 _,hK _ ?_⟩
 clear hK K
 refine wpStill_nil ?_
 go_wp2_with (go_at_call 252;refine(hor _ _ (by go_simp) (by go_simp)).mono ?_;rintro e w' ⟨rfl,rfl⟩)
 go_ret
 obtain⟨n,os,rfl⟩:=hU
 exact⟨rfl,n,_,by rw[alloc_eq_grow,grow_grow]⟩
theorem Tryz.hullLays(blk off size:Nat)(w:World):CmpLays Tryz.prog 251 #[] encP 2 cmpPt blk off size w:=
 fun _ _ _ _ x y=>Tryz.hull1 x y _
theorem ltPt(x y:Int×Int):ltOf cmpPt x y=decide (x.1<y.1∨(x.1=y.1∧x.2<y.2)):=by
 unfold ltOf cmpPt Lib.compareInt
 by_cases h1:x.1<y.1
 ·simp[h1]
 ·by_cases h2:y.1<x.1
  ·have:¬x.1=y.1:=by omega
   simp[h1,h2,this]
  ·have h3:x.1=y.1:=by omega
   by_cases h4:x.2<y.2
   ·simp[h3,h4]
   ·by_cases h5:y.2<x.2<;>simp[h3,h4,h5]
theorem swoPt:SWO (ltOf cmpPt) where
 irrefl x:=by rw[ltPt];simp
 trans x y z h1 h2:=by rw[ltPt] at*;simp at*;omega
 ntrans x y z h1 h2:=by rw[ltPt] at*;simp at*;omega
theorem onePt(x y:Int×Int)(h1:ltOf cmpPt x y=false)(h2:ltOf cmpPt y x=false):x=y:=by
 rw[ltPt] at*
 simp at h1 h2
 exact Prod.ext (by omega) (by omega)
end Go.Proofs
