/-
  Printed by gen2.py for this seat: facts about the types that the laws reach; for each function its annotation (what is kept behind a region, which rows are a variable's own, what is alive at the head of a loop), its abstract run, and that the run is its contract.
-/
import Derived.Test.YtbdgblipbpadeaaGreatDoorMc
import Derived.Test.YtbdgblipbpadeaaGreatDoorRows
import Derived.Test.YtbdgblipbpadeaaGreatDoorMf
set_option linter.unusedSimpArgs false
set_option linter.unusedVariables false
set_option linter.defProp false
namespace Go.Proofs.YtbdgblipbpadeaaGreatDoor
open Go Go.Abs
set_option maxRecDepth 100000
theorem mix:Tryz.prog.follows .mixedOrders=true:=by kernel_rfl
theorem laid:laidOutB Tryz.prog=true:=by kernel_rfl
noncomputable abbrev zfp:=FP Tryz.prog gl
noncomputable abbrev zep:=EP Tryz.prog gl
noncomputable abbrev zgp:=GP Tryz.prog gl
noncomputable abbrev zge:=GEP Tryz.prog gl
noncomputable abbrev zlp:=LP Tryz.prog gl
noncomputable abbrev zhp:=HP Tryz.prog gl
noncomputable abbrev zrp:=RP Tryz.prog gl
noncomputable abbrev zsp:=SP Tryz.prog gl
noncomputable abbrev zdp:=DP Tryz.prog gl
abbrev C_:=Cn Tryz.prog gl
abbrev CE_:=CEn Tryz.prog gl
abbrev LD:=Nat→Nat→St→OS
abbrev RD:=Nat→St→OS
@[simp] theorem sz0:szT Tryz.prog 0=some 1:=by kernel_rfl
@[simp] theorem co0:Tryz.prog.cellsOf 0=1:=by kernel_rfl
@[simp] theorem ag0:aggT Tryz.prog 0=some false:=by kernel_rfl
@[simp] def t1:=ty1 (P:=Tryz.prog) (t:=1) (n:=1) (b:=false) (zs:=zz [7]) (by kernel_rfl)
@[simp] def t2:=ty1 (P:=Tryz.prog) (t:=2) (n:=1) (b:=false) (zs:=zz [0]) (by kernel_rfl)
@[simp] def t3:=ty1 (P:=Tryz.prog) (t:=3) (n:=1) (b:=false) (zs:=zz [0]) (by kernel_rfl)
@[simp] def t4:=ty1 (P:=Tryz.prog) (t:=4) (n:=1) (b:=false) (zs:=zz [3]) (by kernel_rfl)
@[simp] def t5:=ty1 (P:=Tryz.prog) (t:=5) (n:=1) (b:=false) (zs:=zz [5]) (by kernel_rfl)
@[simp] def t8:=ty2 (P:=Tryz.prog) (t:=8) (n:=4) (b:=true) (c:=false) (e:=false) (pl:=[(0,1),(1,1),(2,1),(3,1)]) (zs:=zz [0,0,3,5]) (by kernel_rfl)
@[simp] def t9:=ty1 (P:=Tryz.prog) (t:=9) (n:=1) (b:=false) (zs:=zz [1]) (by kernel_rfl)
@[simp] def t10:=ty1 (P:=Tryz.prog) (t:=10) (n:=1) (b:=false) (zs:=zz [1]) (by kernel_rfl)
@[simp] def t11:=ty1 (P:=Tryz.prog) (t:=11) (n:=1) (b:=false) (zs:=zz [1]) (by kernel_rfl)
@[simp] def t12:=ty1 (P:=Tryz.prog) (t:=12) (n:=1) (b:=false) (zs:=zz [4]) (by kernel_rfl)
@[simp] def t22:=ty3 (P:=Tryz.prog) (t:=22) (n:=1) (b:=false) (zs:=zz [2]) (e:=79) (s:=2) (y:=32) (ez:=zz [0,2]) (by kernel_rfl)
@[simp] def t23:=ty3 (P:=Tryz.prog) (t:=23) (n:=1) (b:=false) (zs:=zz [2]) (e:=53) (s:=7) (y:=56) (ez:=zz [0,0,0,0,0,0,0]) (by kernel_rfl)
@[simp] def t25:=ty2 (P:=Tryz.prog) (t:=25) (n:=2) (b:=true) (c:=false) (e:=false) (pl:=[(0,1),(1,1)]) (zs:=zz [2,2]) (by kernel_rfl)
@[simp] def t26:=ty3 (P:=Tryz.prog) (t:=26) (n:=1) (b:=false) (zs:=zz [2]) (e:=125) (s:=7) (y:=96) (ez:=zz [1,0,0,0,0,2,2]) (by kernel_rfl)
@[simp] def t28:=ty2 (P:=Tryz.prog) (t:=28) (n:=4) (b:=true) (c:=false) (e:=false) (pl:=[(0,1),(1,1),(2,1),(3,1)]) (zs:=zz [0,0,0,0]) (by kernel_rfl)
@[simp] def t30:=ty2 (P:=Tryz.prog) (t:=30) (n:=3) (b:=true) (c:=false) (e:=false) (pl:=[(0,1),(1,1),(2,1)]) (zs:=zz [0,0,0]) (by kernel_rfl)
@[simp] def t32:=ty2 (P:=Tryz.prog) (t:=32) (n:=12) (b:=true) (c:=false) (e:=false) (pl:=[(0,2),(2,1),(3,4),(7,3),(10,1),(11,1)]) (zs:=zz [2,2,2,0,0,0,0,0,0,0,0,0]) (by kernel_rfl)
@[simp] def t34:=ty2 (P:=Tryz.prog) (t:=34) (n:=2) (b:=true) (c:=false) (e:=false) (pl:=[(0,1),(1,1)]) (zs:=zz [0,0]) (by kernel_rfl)
@[simp] def t36:=ty2 (P:=Tryz.prog) (t:=36) (n:=4) (b:=true) (c:=false) (e:=false) (pl:=[(0,2),(2,2)]) (zs:=zz [0,0,0,0]) (by kernel_rfl)
@[simp] def t37:=ty3 (P:=Tryz.prog) (t:=37) (n:=1) (b:=false) (zs:=zz [2]) (e:=177) (s:=2) (y:=16) (ez:=zz [0,0]) (by kernel_rfl)
@[simp] def t39:=ty2 (P:=Tryz.prog) (t:=39) (n:=5) (b:=true) (c:=false) (e:=false) (pl:=[(0,4),(4,1)]) (zs:=zz [0,0,0,0,2]) (by kernel_rfl)
@[simp] def t40:=ty3 (P:=Tryz.prog) (t:=40) (n:=1) (b:=false) (zs:=zz [2]) (e:=3) (s:=1) (y:=8) (ez:=zz [0]) (by kernel_rfl)
@[simp] def t42:=ty2 (P:=Tryz.prog) (t:=42) (n:=13) (b:=true) (c:=false) (e:=false) (pl:=[(0,1),(1,1),(2,1),(3,1),(4,1),(5,1),(6,1),(7,1),(8,1),(9,1),(10,1),(11,1),(12,1)]) (zs:=zz [1,0,0,0,0,0,0,0,0,0,0,0,0]) (by kernel_rfl)
@[simp] def t43:=ty3 (P:=Tryz.prog) (t:=43) (n:=1) (b:=false) (zs:=zz [2]) (e:=154) (s:=4) (y:=32) (ez:=zz [0,0,0,0]) (by kernel_rfl)
@[simp] def t45:=ty2 (P:=Tryz.prog) (t:=45) (n:=3) (b:=true) (c:=false) (e:=false) (pl:=[(0,1),(1,1),(2,1)]) (zs:=zz [1,0,2]) (by kernel_rfl)
@[simp] def t46:=ty3 (P:=Tryz.prog) (t:=46) (n:=1) (b:=false) (zs:=zz [2]) (e:=142) (s:=3) (y:=24) (ez:=zz [0,0,0]) (by kernel_rfl)
@[simp] def t47:=ty3 (P:=Tryz.prog) (t:=47) (n:=1) (b:=false) (zs:=zz [2]) (e:=134) (s:=5) (y:=64) (ez:=zz [0,0,0,1,2]) (by kernel_rfl)
@[simp] def t49:=ty2 (P:=Tryz.prog) (t:=49) (n:=26) (b:=true) (c:=false) (e:=false) (pl:=[(0,1),(1,5),(6,1),(7,13),(20,3),(23,1),(24,1),(25,1)]) (zs:=zz [0,0,0,0,0,2,2,1,0,0,0,0,0,0,0,0,0,0,0,0,1,0,2,2,0,2]) (by kernel_rfl)
@[simp] def t51:=ty2 (P:=Tryz.prog) (t:=51) (n:=6) (b:=true) (c:=false) (e:=false) (pl:=[(0,2),(2,2),(4,2)]) (zs:=zz [0,0,0,0,0,0]) (by kernel_rfl)
@[simp] def t53:=ty2 (P:=Tryz.prog) (t:=53) (n:=7) (b:=true) (c:=false) (e:=false) (pl:=[(0,1),(1,6)]) (zs:=zz [0,0,0,0,0,0,0]) (by kernel_rfl)
@[simp] def t57:=ty3 (P:=Tryz.prog) (t:=57) (n:=1) (b:=false) (zs:=zz [2]) (e:=139) (s:=3) (y:=40) (ez:=zz [0,0,2]) (by kernel_rfl)
@[simp] def t58:=ty1 (P:=Tryz.prog) (t:=58) (n:=1) (b:=false) (zs:=zz [0]) (by kernel_rfl)
@[simp] theorem sz59:szT Tryz.prog 59=some 1:=by kernel_rfl
@[simp] theorem co59:Tryz.prog.cellsOf 59=1:=by kernel_rfl
@[simp] theorem ag59:aggT Tryz.prog 59=some false:=by kernel_rfl
@[simp] def t61:=ty3 (P:=Tryz.prog) (t:=61) (n:=1) (b:=false) (zs:=zz [2]) (e:=68) (s:=18) (y:=184) (ez:=zz [1,1,1,0,0,0,0,0,0,0,0,2,0,0,0,0,3,0]) (by kernel_rfl)
@[simp] theorem sz62:szT Tryz.prog 62=some 1:=by kernel_rfl
@[simp] theorem co62:Tryz.prog.cellsOf 62=1:=by kernel_rfl
@[simp] theorem ag62:aggT Tryz.prog 62=some false:=by kernel_rfl
@[simp] def t66:=ty2 (P:=Tryz.prog) (t:=66) (n:=3) (b:=true) (c:=false) (e:=false) (pl:=[(0,1),(1,1),(2,1)]) (zs:=zz [0,0,0]) (by kernel_rfl)
@[simp] def t68:=ty2 (P:=Tryz.prog) (t:=68) (n:=18) (b:=true) (c:=false) (e:=false) (pl:=[(0,1),(1,1),(2,1),(3,1),(4,6),(10,1),(11,1),(12,1),(13,3),(16,1),(17,1)]) (zs:=zz [1,1,1,0,0,0,0,0,0,0,0,2,0,0,0,0,3,0]) (by kernel_rfl)
@[simp] theorem sz70:szT Tryz.prog 70=some 1:=by kernel_rfl
@[simp] theorem co70:Tryz.prog.cellsOf 70=1:=by kernel_rfl
@[simp] theorem ag70:aggT Tryz.prog 70=some false:=by kernel_rfl
@[simp] def t76:=ty2 (P:=Tryz.prog) (t:=76) (n:=10) (b:=true) (c:=false) (e:=false) (pl:=[(0,1),(1,1),(2,1),(3,4),(7,3)]) (zs:=zz [2,2,2,0,0,0,0,0,0,0]) (by kernel_rfl)
@[simp] def t77:=ty3 (P:=Tryz.prog) (t:=77) (n:=1) (b:=false) (zs:=zz [2]) (e:=83) (s:=3) (y:=24) (ez:=zz [0,0,3]) (by kernel_rfl)
@[simp] def t79:=ty2 (P:=Tryz.prog) (t:=79) (n:=2) (b:=true) (c:=false) (e:=false) (pl:=[(0,1),(1,1)]) (zs:=zz [0,2]) (by kernel_rfl)
@[simp] def t81:=ty2 (P:=Tryz.prog) (t:=81) (n:=2) (b:=true) (c:=false) (e:=false) (pl:=[(0,1),(1,1)]) (zs:=zz [0,0]) (by kernel_rfl)
@[simp] def t83:=ty2 (P:=Tryz.prog) (t:=83) (n:=3) (b:=true) (c:=false) (e:=false) (pl:=[(0,2),(2,1)]) (zs:=zz [0,0,3]) (by kernel_rfl)
@[simp] def t86:=ty2 (P:=Tryz.prog) (t:=86) (n:=33) (b:=true) (c:=false) (e:=false) (pl:=[(0,18),(18,1),(19,13),(32,1)]) (zs:=zz [1,1,1,0,0,0,0,0,0,0,0,2,0,0,0,0,3,0,2,1,0,0,0,0,0,0,0,0,0,0,0,0,2]) (by kernel_rfl)
@[simp] def t90:=ty2 (P:=Tryz.prog) (t:=90) (n:=2) (b:=true) (c:=false) (e:=false) (pl:=[(0,1),(1,1)]) (zs:=zz [0,0]) (by kernel_rfl)
@[simp] def t92:=ty2 (P:=Tryz.prog) (t:=92) (n:=6) (b:=true) (c:=false) (e:=false) (pl:=[(0,1),(1,1),(2,1),(3,2),(5,1)]) (zs:=zz [0,0,0,0,0,0]) (by kernel_rfl)
@[simp] theorem sz93:szT Tryz.prog 93=some 1:=by kernel_rfl
@[simp] theorem co93:Tryz.prog.cellsOf 93=1:=by kernel_rfl
@[simp] theorem ag93:aggT Tryz.prog 93=some false:=by kernel_rfl
@[simp] theorem sz99:szT Tryz.prog 99=some 1:=by kernel_rfl
@[simp] theorem co99:Tryz.prog.cellsOf 99=1:=by kernel_rfl
@[simp] theorem ag99:aggT Tryz.prog 99=some false:=by kernel_rfl
@[simp] def t102:=ty1 (P:=Tryz.prog) (t:=102) (n:=1) (b:=false) (zs:=zz [6]) (by kernel_rfl)
@[simp] theorem sz103:szT Tryz.prog 103=some 1:=by kernel_rfl
@[simp] theorem co103:Tryz.prog.cellsOf 103=1:=by kernel_rfl
@[simp] theorem ag103:aggT Tryz.prog 103=some false:=by kernel_rfl
@[simp] def t106:=ty3 (P:=Tryz.prog) (t:=106) (n:=1) (b:=false) (zs:=zz [2]) (e:=109) (s:=9) (y:=72) (ez:=zz [0,0,0,0,0,0,0,0,0]) (by kernel_rfl)
@[simp] def t109:=ty2 (P:=Tryz.prog) (t:=109) (n:=9) (b:=true) (c:=false) (e:=false) (pl:=[(0,1),(1,1),(2,6),(8,1)]) (zs:=zz [0,0,0,0,0,0,0,0,0]) (by kernel_rfl)
@[simp] def t115:=ty3 (P:=Tryz.prog) (t:=115) (n:=1) (b:=false) (zs:=zz [2]) (e:=208) (s:=2) (y:=24) (ez:=zz [1,0]) (by kernel_rfl)
@[simp] def t118:=ty1 (P:=Tryz.prog) (t:=118) (n:=1) (b:=false) (zs:=zz [7]) (by kernel_rfl)
@[simp] def t122:=ty2 (P:=Tryz.prog) (t:=122) (n:=15) (b:=true) (c:=false) (e:=false) (pl:=[(0,1),(1,1),(2,1),(3,5),(8,4),(12,3)]) (zs:=zz [2,2,2,0,0,0,0,2,0,0,0,0,0,0,0]) (by kernel_rfl)
@[simp] def t125:=ty2 (P:=Tryz.prog) (t:=125) (n:=7) (b:=true) (c:=false) (e:=false) (pl:=[(0,1),(1,1),(2,1),(3,1),(4,1),(5,1),(6,1)]) (zs:=zz [1,0,0,0,0,2,2]) (by kernel_rfl)
@[simp] def t130:=ty3 (P:=Tryz.prog) (t:=130) (n:=1) (b:=false) (zs:=zz [2]) (e:=132) (s:=4) (y:=56) (ez:=zz [0,0,1,2]) (by kernel_rfl)
@[simp] def t132:=ty2 (P:=Tryz.prog) (t:=132) (n:=4) (b:=true) (c:=false) (e:=false) (pl:=[(0,1),(1,1),(2,1),(3,1)]) (zs:=zz [0,0,1,2]) (by kernel_rfl)
@[simp] def t134:=ty2 (P:=Tryz.prog) (t:=134) (n:=5) (b:=true) (c:=false) (e:=false) (pl:=[(0,1),(1,4)]) (zs:=zz [0,0,0,1,2]) (by kernel_rfl)
@[simp] def t135:=ty3 (P:=Tryz.prog) (t:=135) (n:=1) (b:=false) (zs:=zz [2]) (e:=34) (s:=2) (y:=16) (ez:=zz [0,0]) (by kernel_rfl)
@[simp] def t137:=ty2 (P:=Tryz.prog) (t:=137) (n:=2) (b:=true) (c:=false) (e:=false) (pl:=[(0,1),(1,1)]) (zs:=zz [0,2]) (by kernel_rfl)
@[simp] def t139:=ty2 (P:=Tryz.prog) (t:=139) (n:=3) (b:=true) (c:=false) (e:=false) (pl:=[(0,1),(1,2)]) (zs:=zz [0,0,2]) (by kernel_rfl)
@[simp] def t142:=ty2 (P:=Tryz.prog) (t:=142) (n:=3) (b:=true) (c:=false) (e:=false) (pl:=[(0,1),(1,1),(2,1)]) (zs:=zz [0,0,0]) (by kernel_rfl)
@[simp] def t143:=ty3 (P:=Tryz.prog) (t:=143) (n:=1) (b:=false) (zs:=zz [2]) (e:=146) (s:=4) (y:=32) (ez:=zz [0,0,0,0]) (by kernel_rfl)
@[simp] def t146:=ty2 (P:=Tryz.prog) (t:=146) (n:=4) (b:=true) (c:=false) (e:=false) (pl:=[(0,1),(1,3)]) (zs:=zz [0,0,0,0]) (by kernel_rfl)
@[simp] def t147:=ty1 (P:=Tryz.prog) (t:=147) (n:=1) (b:=false) (zs:=zz [6]) (by kernel_rfl)
@[simp] theorem sz148:szT Tryz.prog 148=some 1:=by kernel_rfl
@[simp] theorem co148:Tryz.prog.cellsOf 148=1:=by kernel_rfl
@[simp] theorem ag148:aggT Tryz.prog 148=some false:=by kernel_rfl
@[simp] def t154:=ty2 (P:=Tryz.prog) (t:=154) (n:=4) (b:=true) (c:=false) (e:=false) (pl:=[(0,1),(1,1),(2,1),(3,1)]) (zs:=zz [0,0,0,0]) (by kernel_rfl)
@[simp] def t162:=ty3 (P:=Tryz.prog) (t:=162) (n:=1) (b:=false) (zs:=zz [2]) (e:=137) (s:=2) (y:=32) (ez:=zz [0,2]) (by kernel_rfl)
@[simp] theorem sz163:szT Tryz.prog 163=some 1:=by kernel_rfl
@[simp] theorem co163:Tryz.prog.cellsOf 163=1:=by kernel_rfl
@[simp] theorem ag163:aggT Tryz.prog 163=some false:=by kernel_rfl
@[simp] def t167:=ty3 (P:=Tryz.prog) (t:=167) (n:=1) (b:=false) (zs:=zz [2]) (e:=181) (s:=5) (y:=40) (ez:=zz [0,0,0,0,0]) (by kernel_rfl)
@[simp] theorem sz168:szT Tryz.prog 168=some 1:=by kernel_rfl
@[simp] theorem co168:Tryz.prog.cellsOf 168=1:=by kernel_rfl
@[simp] theorem ag168:aggT Tryz.prog 168=some false:=by kernel_rfl
@[simp] def t172:=ty3 (P:=Tryz.prog) (t:=172) (n:=1) (b:=false) (zs:=zz [2]) (e:=179) (s:=24) (y:=192) (ez:=zz [0,0,0,0,3,0,0,0,0,0,0,0,0,0,3,0,0,0,0,0,0,0,0,0]) (by kernel_rfl)
@[simp] def t173:=ty3 (P:=Tryz.prog) (t:=173) (n:=1) (b:=false) (zs:=zz [2]) (e:=36) (s:=4) (y:=32) (ez:=zz [0,0,0,0]) (by kernel_rfl)
@[simp] def t175:=ty2 (P:=Tryz.prog) (t:=175) (n:=14) (b:=true) (c:=false) (e:=false) (pl:=[(0,1),(1,1),(2,1),(3,4),(7,3),(10,1),(11,1),(12,1),(13,1)]) (zs:=zz [2,2,2,0,0,0,0,0,0,0,0,2,2,2]) (by kernel_rfl)
@[simp] def t177:=ty2 (P:=Tryz.prog) (t:=177) (n:=2) (b:=true) (c:=false) (e:=false) (pl:=[(0,1),(1,1)]) (zs:=zz [0,0]) (by kernel_rfl)
@[simp] def t179:=ty2 (P:=Tryz.prog) (t:=179) (n:=24) (b:=true) (c:=false) (e:=false) (pl:=[(0,1),(1,1),(2,1),(3,1),(4,1),(5,4),(9,1),(10,4),(14,1),(15,9)]) (zs:=zz [0,0,0,0,3,0,0,0,0,0,0,0,0,0,3,0,0,0,0,0,0,0,0,0]) (by kernel_rfl)
@[simp] def t181:=ty2 (P:=Tryz.prog) (t:=181) (n:=5) (b:=true) (c:=false) (e:=false) (pl:=[(0,4),(4,1)]) (zs:=zz [0,0,0,0,0]) (by kernel_rfl)
@[simp] def t184:=ty1 (P:=Tryz.prog) (t:=184) (n:=1) (b:=false) (zs:=zz [6]) (by kernel_rfl)
@[simp] def t190:=ty2 (P:=Tryz.prog) (t:=190) (n:=6) (b:=true) (c:=false) (e:=false) (pl:=[(0,2),(2,2),(4,2)]) (zs:=zz [0,0,0,0,0,0]) (by kernel_rfl)
@[simp] theorem sz192:szT Tryz.prog 192=some 1:=by kernel_rfl
@[simp] theorem co192:Tryz.prog.cellsOf 192=1:=by kernel_rfl
@[simp] theorem ag192:aggT Tryz.prog 192=some false:=by kernel_rfl
@[simp] def t198:=ty3 (P:=Tryz.prog) (t:=198) (n:=1) (b:=false) (zs:=zz [2]) (e:=269) (s:=3) (y:=24) (ez:=zz [0,0,0]) (by kernel_rfl)
@[simp] def t203:=ty3 (P:=Tryz.prog) (t:=203) (n:=1) (b:=false) (zs:=zz [2]) (e:=42) (s:=13) (y:=112) (ez:=zz [1,0,0,0,0,0,0,0,0,0,0,0,0]) (by kernel_rfl)
@[simp] def t205:=ty3 (P:=Tryz.prog) (t:=205) (n:=1) (b:=false) (zs:=zz [2]) (e:=9) (s:=1) (y:=16) (ez:=zz [1]) (by kernel_rfl)
@[simp] def t208:=ty2 (P:=Tryz.prog) (t:=208) (n:=2) (b:=true) (c:=false) (e:=false) (pl:=[(0,1),(1,1)]) (zs:=zz [1,0]) (by kernel_rfl)
@[simp] def t209:=ty1 (P:=Tryz.prog) (t:=209) (n:=1) (b:=false) (zs:=zz [7]) (by kernel_rfl)
@[simp] theorem sz216:szT Tryz.prog 216=some 1:=by kernel_rfl
@[simp] theorem co216:Tryz.prog.cellsOf 216=1:=by kernel_rfl
@[simp] theorem ag216:aggT Tryz.prog 216=some false:=by kernel_rfl
@[simp] def t227:=ty2 (P:=Tryz.prog) (t:=227) (n:=23) (b:=true) (c:=false) (e:=false) (pl:=[(0,3),(3,13),(16,1),(17,2),(19,1),(20,1),(21,1),(22,1)]) (zs:=zz [1,0,2,1,0,0,0,0,0,0,0,0,0,0,0,0,2,0,0,0,0,0,0]) (by kernel_rfl)
@[simp] theorem sz231:szT Tryz.prog 231=some 1:=by kernel_rfl
@[simp] theorem co231:Tryz.prog.cellsOf 231=1:=by kernel_rfl
@[simp] theorem ag231:aggT Tryz.prog 231=some false:=by kernel_rfl
@[simp] def t238:=ty3 (P:=Tryz.prog) (t:=238) (n:=1) (b:=false) (zs:=zz [2]) (e:=81) (s:=2) (y:=16) (ez:=zz [0,0]) (by kernel_rfl)
@[simp] theorem sz240:szT Tryz.prog 240=some 1:=by kernel_rfl
@[simp] theorem co240:Tryz.prog.cellsOf 240=1:=by kernel_rfl
@[simp] theorem ag240:aggT Tryz.prog 240=some false:=by kernel_rfl
@[simp] def t246:=ty1 (P:=Tryz.prog) (t:=246) (n:=1) (b:=false) (zs:=zz [7]) (by kernel_rfl)
@[simp] def t250:=ty1 (P:=Tryz.prog) (t:=250) (n:=1) (b:=false) (zs:=zz [7]) (by kernel_rfl)
@[simp] def t251:=ty1 (P:=Tryz.prog) (t:=251) (n:=1) (b:=false) (zs:=zz [7]) (by kernel_rfl)
@[simp] def t252:=ty1 (P:=Tryz.prog) (t:=252) (n:=1) (b:=false) (zs:=zz [7]) (by kernel_rfl)
@[simp] def t255:=ty2 (P:=Tryz.prog) (t:=255) (n:=5) (b:=true) (c:=false) (e:=false) (pl:=[(0,4),(4,1)]) (zs:=zz [0,0,0,0,0]) (by kernel_rfl)
@[simp] def t258:=ty1 (P:=Tryz.prog) (t:=258) (n:=1) (b:=false) (zs:=zz [6]) (by kernel_rfl)
@[simp] theorem sz259:szT Tryz.prog 259=some 1:=by kernel_rfl
@[simp] theorem co259:Tryz.prog.cellsOf 259=1:=by kernel_rfl
@[simp] theorem ag259:aggT Tryz.prog 259=some false:=by kernel_rfl
@[simp] def t262:=ty1 (P:=Tryz.prog) (t:=262) (n:=1) (b:=false) (zs:=zz [4]) (by kernel_rfl)
@[simp] def t267:=ty2 (P:=Tryz.prog) (t:=267) (n:=4) (b:=true) (c:=false) (e:=false) (pl:=[(0,2),(2,2)]) (zs:=zz [0,0,0,0]) (by kernel_rfl)
@[simp] def t269:=ty2 (P:=Tryz.prog) (t:=269) (n:=3) (b:=true) (c:=false) (e:=false) (pl:=[(0,2),(2,1)]) (zs:=zz [0,0,0]) (by kernel_rfl)
@[simp] theorem sz271:szT Tryz.prog 271=some 1:=by kernel_rfl
@[simp] theorem co271:Tryz.prog.cellsOf 271=1:=by kernel_rfl
@[simp] theorem ag271:aggT Tryz.prog 271=some false:=by kernel_rfl
@[simp] def t276:=ty2 (P:=Tryz.prog) (t:=276) (n:=2) (b:=true) (c:=false) (e:=false) (pl:=[(0,1),(1,1)]) (zs:=zz [0,0]) (by kernel_rfl)
@[simp] theorem sz279:szT Tryz.prog 279=some 1:=by kernel_rfl
@[simp] theorem co279:Tryz.prog.cellsOf 279=1:=by kernel_rfl
@[simp] theorem ag279:aggT Tryz.prog 279=some false:=by kernel_rfl
@[simp] def t297:=ty2 (P:=Tryz.prog) (t:=297) (n:=8) (b:=true) (c:=false) (e:=false) (pl:=[(0,2),(2,2),(4,2),(6,2)]) (zs:=zz [0,0,0,0,0,0,0,0]) (by kernel_rfl)
@[simp] def t306:=ty1 (P:=Tryz.prog) (t:=306) (n:=1) (b:=false) (zs:=zz [7]) (by kernel_rfl)
@[simp] def t307:=ty3 (P:=Tryz.prog) (t:=307) (n:=1) (b:=false) (zs:=zz [2]) (e:=255) (s:=5) (y:=40) (ez:=zz [0,0,0,0,0]) (by kernel_rfl)
@[simp] theorem sz308:szT Tryz.prog 308=some 1:=by kernel_rfl
@[simp] theorem co308:Tryz.prog.cellsOf 308=1:=by kernel_rfl
@[simp] theorem ag308:aggT Tryz.prog 308=some false:=by kernel_rfl
@[simp] def t311:=ty2 (P:=Tryz.prog) (t:=311) (n:=14) (b:=true) (c:=false) (e:=false) (pl:=[(0,7),(7,4),(11,1),(12,1),(13,1)]) (zs:=zz [1,0,0,0,0,2,2,0,0,0,0,0,2,2]) (by kernel_rfl)
@[simp] theorem sz312:szT Tryz.prog 312=some 1:=by kernel_rfl
@[simp] theorem co312:Tryz.prog.cellsOf 312=1:=by kernel_rfl
@[simp] theorem ag312:aggT Tryz.prog 312=some false:=by kernel_rfl
@[simp] def t315:=ty1 (P:=Tryz.prog) (t:=315) (n:=1) (b:=false) (zs:=zz [7]) (by kernel_rfl)
@[simp] theorem sz316:szT Tryz.prog 316=some 1:=by kernel_rfl
@[simp] theorem co316:Tryz.prog.cellsOf 316=1:=by kernel_rfl
@[simp] theorem ag316:aggT Tryz.prog 316=some false:=by kernel_rfl
@[simp] def t319:=ty2 (P:=Tryz.prog) (t:=319) (n:=24) (b:=true) (c:=false) (e:=false) (pl:=[(0,2),(2,2),(4,2),(6,2),(8,2),(10,2),(12,2),(14,2),(16,2),(18,2),(20,2),(22,2)]) (zs:=zz [0,0,0,0,0,0,0,0,0,0,0,0,0,0,0,0,0,0,0,0,0,0,0,0]) (by kernel_rfl)
@[simp] def t320:=ty2 (P:=Tryz.prog) (t:=320) (n:=12) (b:=true) (c:=false) (e:=false) (pl:=[(0,1),(1,1),(2,1),(3,1),(4,1),(5,1),(6,1),(7,1),(8,1),(9,1),(10,1),(11,1)]) (zs:=zz [0,0,0,0,0,0,0,0,0,0,0,0]) (by kernel_rfl)
@[simp] def t328:=ty2 (P:=Tryz.prog) (t:=328) (n:=4) (b:=true) (c:=false) (e:=false) (pl:=[(0,1),(1,1),(2,1),(3,1)]) (zs:=zz [3,3,3,3]) (by kernel_rfl)
@[simp] def t332:=ty1 (P:=Tryz.prog) (t:=332) (n:=1) (b:=false) (zs:=zz [4]) (by kernel_rfl)
@[simp] def t336:=ty1 (P:=Tryz.prog) (t:=336) (n:=1) (b:=false) (zs:=zz [7]) (by kernel_rfl)
@[simp] def t341:=ty3 (P:=Tryz.prog) (t:=341) (n:=1) (b:=false) (zs:=zz [2]) (e:=344) (s:=4) (y:=32) (ez:=zz [0,0,7,0]) (by kernel_rfl)
@[simp] def t344:=ty2 (P:=Tryz.prog) (t:=344) (n:=4) (b:=true) (c:=false) (e:=false) (pl:=[(0,1),(1,1),(2,1),(3,1)]) (zs:=zz [0,0,7,0]) (by kernel_rfl)
@[simp] def t358:=ty1 (P:=Tryz.prog) (t:=358) (n:=1) (b:=false) (zs:=zz [10]) (by kernel_rfl)
@[simp] def t361:=ty1 (P:=Tryz.prog) (t:=361) (n:=1) (b:=false) (zs:=zz [7]) (by kernel_rfl)
@[simp] theorem sz365:szT Tryz.prog 365=some 1:=by kernel_rfl
@[simp] theorem co365:Tryz.prog.cellsOf 365=1:=by kernel_rfl
@[simp] theorem ag365:aggT Tryz.prog 365=some false:=by kernel_rfl
@[simp] def t369:=ty3 (P:=Tryz.prog) (t:=369) (n:=1) (b:=false) (zs:=zz [2]) (e:=40) (s:=1) (y:=24) (ez:=zz [2]) (by kernel_rfl)
@[simp] def t371:=ty2 (P:=Tryz.prog) (t:=371) (n:=3) (b:=true) (c:=false) (e:=false) (pl:=[(0,1),(1,1),(2,1)]) (zs:=zz [2,2,2]) (by kernel_rfl)
@[simp] def t382:=ty1 (P:=Tryz.prog) (t:=382) (n:=1) (b:=false) (zs:=zz [8]) (by kernel_rfl)
@[simp] def t384:=ty2 (P:=Tryz.prog) (t:=384) (n:=16) (b:=true) (c:=false) (e:=false) (pl:=[(0,1),(1,1),(2,1),(3,1),(4,1),(5,1),(6,1),(7,1),(8,1),(9,1),(10,1),(11,1),(12,1),(13,1),(14,1),(15,1)]) (zs:=zz [0,0,0,0,0,0,0,0,0,0,0,0,0,0,0,0]) (by kernel_rfl)
@[simp] def t407:=ty1 (P:=Tryz.prog) (t:=407) (n:=1) (b:=false) (zs:=zz [7]) (by kernel_rfl)
@[simp] def t408:=ty1 (P:=Tryz.prog) (t:=408) (n:=1) (b:=false) (zs:=zz [6]) (by kernel_rfl)
attribute [simp] Tryz.underlying0 Tryz.underlying1 Tryz.underlying2 Tryz.underlying3 Tryz.underlying4 Tryz.underlying5 Tryz.underlying8 Tryz.underlying9 Tryz.underlying10 Tryz.underlying11 Tryz.underlying12 Tryz.underlying22 Tryz.underlying23 Tryz.underlying25 Tryz.underlying26 Tryz.underlying28 Tryz.underlying30 Tryz.underlying32 Tryz.underlying34 Tryz.underlying36 Tryz.underlying37 Tryz.underlying39 Tryz.underlying40 Tryz.underlying42 Tryz.underlying43 Tryz.underlying45 Tryz.underlying46 Tryz.underlying47 Tryz.underlying49 Tryz.underlying51 Tryz.underlying53 Tryz.underlying57 Tryz.underlying58 Tryz.underlying59 Tryz.underlying61 Tryz.underlying62 Tryz.underlying66 Tryz.underlying68 Tryz.underlying70 Tryz.underlying76 Tryz.underlying77 Tryz.underlying79 Tryz.underlying81 Tryz.underlying83 Tryz.underlying86 Tryz.underlying90 Tryz.underlying92 Tryz.underlying93 Tryz.underlying99 Tryz.underlying102 Tryz.underlying103 Tryz.underlying106 Tryz.underlying109 Tryz.underlying115 Tryz.underlying118 Tryz.underlying122 Tryz.underlying125 Tryz.underlying130 Tryz.underlying132 Tryz.underlying134 Tryz.underlying135 Tryz.underlying137 Tryz.underlying139 Tryz.underlying142 Tryz.underlying143 Tryz.underlying146 Tryz.underlying147 Tryz.underlying148 Tryz.underlying154 Tryz.underlying162 Tryz.underlying163 Tryz.underlying167 Tryz.underlying168 Tryz.underlying172 Tryz.underlying173 Tryz.underlying175 Tryz.underlying177 Tryz.underlying179 Tryz.underlying181 Tryz.underlying184 Tryz.underlying190 Tryz.underlying192 Tryz.underlying198 Tryz.underlying203 Tryz.underlying205 Tryz.underlying208 Tryz.underlying209 Tryz.underlying216 Tryz.underlying227 Tryz.underlying231 Tryz.underlying238 Tryz.underlying240 Tryz.underlying246 Tryz.underlying250 Tryz.underlying251 Tryz.underlying252 Tryz.underlying255 Tryz.underlying258 Tryz.underlying259 Tryz.underlying262 Tryz.underlying267 Tryz.underlying269 Tryz.underlying271 Tryz.underlying276 Tryz.underlying279 Tryz.underlying297 Tryz.underlying306 Tryz.underlying307 Tryz.underlying308 Tryz.underlying311 Tryz.underlying312 Tryz.underlying315 Tryz.underlying316 Tryz.underlying319 Tryz.underlying320 Tryz.underlying328 Tryz.underlying332 Tryz.underlying336 Tryz.underlying341 Tryz.underlying344 Tryz.underlying358 Tryz.underlying361 Tryz.underlying365 Tryz.underlying369 Tryz.underlying371 Tryz.underlying382 Tryz.underlying384 Tryz.underlying407 Tryz.underlying408
@[simp] def cr:List (Nat×Nat×Nat×Nat):=[(115,0,208,2)]
noncomputable def q198:Pk:=⟨⟨[2],[],[],[],[],some [2],[],[],cr,[],[]⟩,[],[],9,Tryz.f198,[.tmp 2]⟩
@[simp] def s198:=pkS (q198.eq_1)
attribute [simp] Tryz.f198
noncomputable def F_ident_isSmall:FD:=zfp q198
theorem F_ident_isSmall_eq(ds:List D):F_ident_isSmall ds=zgp q198 ds:=FP_eq (by kernel_rfl) ds
theorem C_ident_isSmall:C_ 198 F_ident_isSmall:=CP mix Tryz.func198 rfl rfl (by kernel_rfl) trivial trivial
noncomputable def q199:Pk:=⟨⟨[2],[],[],[],[],some [2],[],[],cr,[],[]⟩,[],[],9,Tryz.f199,[.tmp 2]⟩
@[simp] def s199:=pkS (q199.eq_1)
attribute [simp] Tryz.f199
noncomputable def F_ident_isDigit:FD:=zfp q199
theorem F_ident_isDigit_eq(ds:List D):F_ident_isDigit ds=zgp q199 ds:=FP_eq (by kernel_rfl) ds
theorem C_ident_isDigit:C_ 199 F_ident_isDigit:=CP mix Tryz.func199 rfl rfl (by kernel_rfl) trivial trivial
noncomputable def q141:Pk:=⟨⟨[0,2,3,4],[18,22,39],[],[(4,[0,3])],[(0,[]),(1,[0,3])],some [2],[],[],cr,[],[]⟩,[(198,F_ident_isSmall),(199,F_ident_isDigit)],[],40,Tryz.f141,[.tmp 2]⟩
@[simp] def s141:=pkS (q141.eq_1)
attribute [simp] Tryz.f141
noncomputable def L_ident_IsName:LD:=zlp q141
noncomputable def R_ident_IsName:RD:=zrp q141
@[simp] theorem l141:LP Tryz.prog gl q141=L_ident_IsName:=rfl
theorem L_ident_IsName_succ(i n:Nat)(s:St):L_ident_IsName i (n+1) s=andThen (R_ident_IsName i s) (zhp q141 n i):=LP_succ (by kernel_rfl) i n s
theorem R_ident_IsName_eq(i:Nat)(s:St):R_ident_IsName i s=zsp q141 i s:=rfl
noncomputable def F_ident_IsName:FD:=zfp q141
theorem F_ident_IsName_eq(ds:List D):F_ident_IsName ds=zgp q141 ds:=FP_eq (by kernel_rfl) ds
theorem C_ident_IsName:C_ 141 F_ident_IsName:=CP mix Tryz.func141 rfl rfl (by kernel_rfl) ⟨C_ident_isSmall,C_ident_isDigit,trivial⟩ trivial
noncomputable def q142:Pk:=⟨⟨[4,5,6,7,8,9,10],[11,18],[],[(2,[1,8,9,10])],[(0,[]),(1,[1,8,9,10])],some [4,5],[],[],cr,[],[]⟩,[],[],21,Tryz.f142,[.tmp 4,.tmp 5]⟩
@[simp] def s142:=pkS (q142.eq_1)
attribute [simp] Tryz.f142
noncomputable def L_product_Find:LD:=zlp q142
noncomputable def R_product_Find:RD:=zrp q142
@[simp] theorem l142:LP Tryz.prog gl q142=L_product_Find:=rfl
theorem L_product_Find_succ(i n:Nat)(s:St):L_product_Find i (n+1) s=andThen (R_product_Find i s) (zhp q142 n i):=LP_succ (by kernel_rfl) i n s
theorem R_product_Find_eq(i:Nat)(s:St):R_product_Find i s=zsp q142 i s:=rfl
noncomputable def F_product_Find:FD:=zfp q142
theorem F_product_Find_eq(ds:List D):F_product_Find ds=zgp q142 ds:=FP_eq (by kernel_rfl) ds
theorem C_product_Find:C_ 142 F_product_Find:=CP mix Tryz.func142 rfl rfl (by kernel_rfl) trivial trivial
noncomputable def q201:Pk:=⟨⟨[2],[],[],[],[],some [2],[],[],cr,[],[]⟩,[],[],9,Tryz.f201,[.tmp 2]⟩
@[simp] def s201:=pkS (q201.eq_1)
attribute [simp] Tryz.f201
noncomputable def F_product_isSize:FD:=zfp q201
theorem F_product_isSize_eq(ds:List D):F_product_isSize ds=zgp q201 ds:=FP_eq (by kernel_rfl) ds
theorem C_product_isSize:C_ 201 F_product_isSize:=CP mix Tryz.func201 rfl rfl (by kernel_rfl) trivial trivial
noncomputable def q202:Pk:=⟨⟨[4],[],[],[],[],some [4],[],[],cr,[],[]⟩,[],[],11,Tryz.f202,[.tmp 4]⟩
@[simp] def s202:=pkS (q202.eq_1)
attribute [simp] Tryz.f202
noncomputable def F_product_grow:FD:=zfp q202
theorem F_product_grow_eq(ds:List D):F_product_grow ds=zgp q202 ds:=FP_eq (by kernel_rfl) ds
theorem C_product_grow:C_ 202 F_product_grow:=CP mix Tryz.func202 rfl rfl (by kernel_rfl) trivial trivial
noncomputable def q147:Pk:=⟨⟨[1,2,3],[23],[],[],[],some [2,3],[(3,9)],[],cr,[],[]⟩,[(201,F_product_isSize),(202,F_product_grow)],[],34,Tryz.f147,[.tmp 2,.tmp 3]⟩
@[simp] def s147:=pkS (q147.eq_1)
attribute [simp] Tryz.f147
noncomputable def F_product_Green:FD:=zfp q147
theorem F_product_Green_eq(ds:List D):F_product_Green ds=zgp q147 ds:=FP_eq (by kernel_rfl) ds
theorem C_product_Green:C_ 147 F_product_Green:=CP mix Tryz.func147 rfl rfl (by kernel_rfl) ⟨C_product_isSize,C_product_grow,trivial⟩ trivial
noncomputable def q143:Pk:=⟨⟨[1,2,4,5,6,8,70,71,72,97,98,99],[28,46,53,57,61,68,73,82,94,100,108],[],[(15,[1,70,71,72]),(23,[97,98,99])],[(0,[1]),(1,[1,70,71,72]),(2,[]),(3,[97,98,99])],some [2],[],[],cr,[],[]⟩,[(147,F_product_Green)],[],110,Tryz.f143,[.tmp 2]⟩
@[simp] def s143:=pkS (q143.eq_1)
attribute [simp] Tryz.f143
noncomputable def L_product_checkNumbers:LD:=zlp q143
noncomputable def R_product_checkNumbers:RD:=zrp q143
@[simp] theorem l143:LP Tryz.prog gl q143=L_product_checkNumbers:=rfl
theorem L_product_checkNumbers_succ(i n:Nat)(s:St):L_product_checkNumbers i (n+1) s=andThen (R_product_checkNumbers i s) (zhp q143 n i):=LP_succ (by kernel_rfl) i n s
theorem R_product_checkNumbers_eq(i:Nat)(s:St):R_product_checkNumbers i s=zsp q143 i s:=rfl
noncomputable def F_product_checkNumbers:FD:=zfp q143
theorem F_product_checkNumbers_eq(ds:List D):F_product_checkNumbers ds=zgp q143 ds:=FP_eq (by kernel_rfl) ds
theorem C_product_checkNumbers:C_ 143 F_product_checkNumbers:=CP mix Tryz.func143 rfl rfl (by kernel_rfl) ⟨C_product_Green,trivial⟩ trivial
noncomputable def q81:Pk:=⟨⟨[0,2,3,4,6,7,11,12,13],[10,14,21,31,35],[],[(4,[0,11,12,13])],[(0,[]),(1,[0,11,12,13])],some [2],[(8,10)],[],cr,[],[]⟩,[(141,F_ident_IsName),(142,F_product_Find),(143,F_product_checkNumbers)],[],38,Tryz.f81,[.tmp 2]⟩
@[simp] def s81:=pkS (q81.eq_1)
attribute [simp] Tryz.f81
noncomputable def L_product_Check:LD:=zlp q81
noncomputable def R_product_Check:RD:=zrp q81
@[simp] theorem l81:LP Tryz.prog gl q81=L_product_Check:=rfl
theorem L_product_Check_succ(i n:Nat)(s:St):L_product_Check i (n+1) s=andThen (R_product_Check i s) (zhp q81 n i):=LP_succ (by kernel_rfl) i n s
theorem R_product_Check_eq(i:Nat)(s:St):R_product_Check i s=zsp q81 i s:=rfl
noncomputable def F_product_Check:FD:=zfp q81
theorem F_product_Check_eq(ds:List D):F_product_Check ds=zgp q81 ds:=FP_eq (by kernel_rfl) ds
theorem C_product_Check:C_ 81 F_product_Check:=CP mix Tryz.func81 rfl rfl (by kernel_rfl) ⟨C_ident_IsName,C_product_Find,C_product_checkNumbers,trivial⟩ trivial
noncomputable def q257:Pk:=⟨⟨[2],[],[],[],[],some [2],[],[],cr,[],[]⟩,[],[],9,Tryz.f257,[.tmp 2]⟩
@[simp] def s257:=pkS (q257.eq_1)
attribute [simp] Tryz.f257
noncomputable def F_ident_isCapital:FD:=zfp q257
theorem F_ident_isCapital_eq(ds:List D):F_ident_isCapital ds=zgp q257 ds:=FP_eq (by kernel_rfl) ds
theorem C_ident_isCapital:C_ 257 F_ident_isCapital:=CP mix Tryz.func257 rfl rfl (by kernel_rfl) trivial trivial
noncomputable def q229:Pk:=⟨⟨[0],[],[],[],[],some [0],[],[],cr,[],[]⟩,[(199,F_ident_isDigit),(257,F_ident_isCapital)],[],4,Tryz.f229,[.tmp 0]⟩
@[simp] def s229:=pkS (q229.eq_1)
attribute [simp] Tryz.f229
noncomputable def F_ident_parts:FD:=zfp q229
theorem F_ident_parts_eq(ds:List D):F_ident_parts ds=zgp q229 ds:=FP_eq (by kernel_rfl) ds
theorem C_ident_parts:C_ 229 F_ident_parts:=CP mix Tryz.func229 rfl rfl (by kernel_rfl) ⟨C_ident_isDigit,C_ident_isCapital,trivial⟩ trivial
noncomputable def q230:Pk:=⟨⟨[0,2,3,4],[8],[],[(3,[0,3,4])],[(0,[3]),(1,[0,3,4])],some [2],[],[],cr,[],[]⟩,[],[],24,Tryz.f230,[.tmp 2]⟩
@[simp] def s230:=pkS (q230.eq_1)
attribute [simp] Tryz.f230
noncomputable def L_ident_Letter:LD:=zlp q230
noncomputable def R_ident_Letter:RD:=zrp q230
@[simp] theorem l230:LP Tryz.prog gl q230=L_ident_Letter:=rfl
theorem L_ident_Letter_succ(i n:Nat)(s:St):L_ident_Letter i (n+1) s=andThen (R_ident_Letter i s) (zhp q230 n i):=LP_succ (by kernel_rfl) i n s
theorem R_ident_Letter_eq(i:Nat)(s:St):R_ident_Letter i s=zsp q230 i s:=rfl
noncomputable def F_ident_Letter:FD:=zfp q230
theorem F_ident_Letter_eq(ds:List D):F_ident_Letter ds=zgp q230 ds:=FP_eq (by kernel_rfl) ds
theorem C_ident_Letter:C_ 230 F_ident_Letter:=CP mix Tryz.func230 rfl rfl (by kernel_rfl) trivial trivial
noncomputable def q200:Pk:=⟨⟨[0,2,3,4,6,7,8,9,13,14,15],[12,16,24,33,42,44],[],[(4,[0,13,14,15]),(7,[0,6,7,13,14,15]),(16,[0,8,9])],[(0,[0]),(1,[0,13,14,15]),(2,[0,13,14,15]),(3,[0,6,7,13,14,15]),(4,[0,8]),(5,[0,8,9])],some [2,3,4],[(9,5),(10,4),(12,5)],[],cr,[],[]⟩,[(199,F_ident_isDigit),(229,F_ident_parts),(230,F_ident_Letter),(257,F_ident_isCapital)],[],58,Tryz.f200,[.tmp 2,.tmp 3,.tmp 4]⟩
@[simp] def s200:=pkS (q200.eq_1)
attribute [simp] Tryz.f200
noncomputable def L_ident_Split:LD:=zlp q200
noncomputable def R_ident_Split:RD:=zrp q200
@[simp] theorem l200:LP Tryz.prog gl q200=L_ident_Split:=rfl
theorem L_ident_Split_succ(i n:Nat)(s:St):L_ident_Split i (n+1) s=andThen (R_ident_Split i s) (zhp q200 n i):=LP_succ (by kernel_rfl) i n s
theorem R_ident_Split_eq(i:Nat)(s:St):R_ident_Split i s=zsp q200 i s:=rfl
noncomputable def F_ident_Split:FD:=zfp q200
theorem F_ident_Split_eq(ds:List D):F_ident_Split ds=zgp q200 ds:=FP_eq (by kernel_rfl) ds
theorem C_ident_Split:C_ 200 F_ident_Split:=CP mix Tryz.func200 rfl rfl (by kernel_rfl) ⟨C_ident_isDigit,C_ident_parts,C_ident_Letter,C_ident_isCapital,trivial⟩ trivial
noncomputable def q144:Pk:=⟨⟨[4,5,7],[],[],[],[],some [4],[],[],cr,[],[]⟩,[(200,F_ident_Split)],[],21,Tryz.f144,[.tmp 4]⟩
@[simp] def s144:=pkS (q144.eq_1)
attribute [simp] Tryz.f144
noncomputable def F_ident_Is:FD:=zfp q144
theorem F_ident_Is_eq(ds:List D):F_ident_Is ds=zgp q144 ds:=FP_eq (by kernel_rfl) ds
theorem C_ident_Is:C_ 144 F_ident_Is:=CP mix Tryz.func144 rfl rfl (by kernel_rfl) ⟨C_ident_Split,trivial⟩ trivial
noncomputable def q155:Pk:=⟨⟨[1,2],[],[],[],[],some [2],[],[],cr,[],[]⟩,[],[],18,Tryz.f155,[.tmp 2]⟩
@[simp] def s155:=pkS (q155.eq_1)
attribute [simp] Tryz.f155
noncomputable def F_board_isAlong:FD:=zfp q155
theorem F_board_isAlong_eq(ds:List D):F_board_isAlong ds=zgp q155 ds:=FP_eq (by kernel_rfl) ds
theorem C_board_isAlong:C_ 155 F_board_isAlong:=CP mix Tryz.func155 rfl rfl (by kernel_rfl) trivial trivial
noncomputable def q145:Pk:=⟨⟨[1,2,4,9,10],[11,27],[],[(2,[1,9,10])],[(0,[1]),(1,[1,9,10])],some [2],[],[],cr,[],[]⟩,[(155,F_board_isAlong)],[],32,Tryz.f145,[.tmp 2]⟩
@[simp] def s145:=pkS (q145.eq_1)
attribute [simp] Tryz.f145
noncomputable def L_board_isBox:LD:=zlp q145
noncomputable def R_board_isBox:RD:=zrp q145
@[simp] theorem l145:LP Tryz.prog gl q145=L_board_isBox:=rfl
theorem L_board_isBox_succ(i n:Nat)(s:St):L_board_isBox i (n+1) s=andThen (R_board_isBox i s) (zhp q145 n i):=LP_succ (by kernel_rfl) i n s
theorem R_board_isBox_eq(i:Nat)(s:St):R_board_isBox i s=zsp q145 i s:=rfl
noncomputable def F_board_isBox:FD:=zfp q145
theorem F_board_isBox_eq(ds:List D):F_board_isBox ds=zgp q145 ds:=FP_eq (by kernel_rfl) ds
theorem C_board_isBox:C_ 145 F_board_isBox:=CP mix Tryz.func145 rfl rfl (by kernel_rfl) ⟨C_board_isAlong,trivial⟩ trivial
noncomputable def q146:Pk:=⟨⟨[1,2],[],[],[],[],some [2],[],[],cr,[],[]⟩,[],[],8,Tryz.f146,[.tmp 2]⟩
@[simp] def s146:=pkS (q146.eq_1)
attribute [simp] Tryz.f146
noncomputable def F_board_length:FD:=zfp q146
theorem F_board_length_eq(ds:List D):F_board_length ds=zgp q146 ds:=FP_eq (by kernel_rfl) ds
theorem C_board_length:C_ 146 F_board_length:=CP mix Tryz.func146 rfl rfl (by kernel_rfl) trivial trivial
noncomputable def q203:Pk:=⟨⟨[0,4,5,7,8],[9,16],[],[(2,[0,1,7,8])],[(0,[]),(1,[0,1,7,8])],some [4],[],[],cr,[],[]⟩,[],[],19,Tryz.f203,[.tmp 4]⟩
@[simp] def s203:=pkS (q203.eq_1)
attribute [simp] Tryz.f203
noncomputable def L_slices_Index_int_int:LD:=zlp q203
noncomputable def R_slices_Index_int_int:RD:=zrp q203
@[simp] theorem l203:LP Tryz.prog gl q203=L_slices_Index_int_int:=rfl
theorem L_slices_Index_int_int_succ(i n:Nat)(s:St):L_slices_Index_int_int i (n+1) s=andThen (R_slices_Index_int_int i s) (zhp q203 n i):=LP_succ (by kernel_rfl) i n s
theorem R_slices_Index_int_int_eq(i:Nat)(s:St):R_slices_Index_int_int i s=zsp q203 i s:=rfl
noncomputable def F_slices_Index_int_int:FD:=zfp q203
theorem F_slices_Index_int_int_eq(ds:List D):F_slices_Index_int_int ds=zgp q203 ds:=FP_eq (by kernel_rfl) ds
theorem C_slices_Index_int_int:C_ 203 F_slices_Index_int_int:=CP mix Tryz.func203 rfl rfl (by kernel_rfl) trivial trivial
noncomputable def q148:Pk:=⟨⟨[4],[],[],[],[],some [4],[],[],cr,[],[]⟩,[(203,F_slices_Index_int_int)],[],9,Tryz.f148,[.tmp 4]⟩
@[simp] def s148:=pkS (q148.eq_1)
attribute [simp] Tryz.f148
noncomputable def F_slices_Contains_int_int:FD:=zfp q148
theorem F_slices_Contains_int_int_eq(ds:List D):F_slices_Contains_int_int ds=zgp q148 ds:=FP_eq (by kernel_rfl) ds
theorem C_slices_Contains_int_int:C_ 148 F_slices_Contains_int_int:=CP mix Tryz.func148 rfl rfl (by kernel_rfl) ⟨C_slices_Index_int_int,trivial⟩ trivial
noncomputable def q139:Pk:=⟨⟨[1,2],[],[],[],[],some [2],[],[],cr,[],[]⟩,[],[],8,Tryz.f139,[.tmp 2]⟩
@[simp] def s139:=pkS (q139.eq_1)
attribute [simp] Tryz.f139
noncomputable def F_defect_isEmpty:FD:=zfp q139
theorem F_defect_isEmpty_eq(ds:List D):F_defect_isEmpty ds=zgp q139 ds:=FP_eq (by kernel_rfl) ds
theorem C_defect_isEmpty:C_ 139 F_defect_isEmpty:=CP mix Tryz.func139 rfl rfl (by kernel_rfl) trivial trivial
noncomputable def q73:Pk:=⟨⟨[3,6],[],[],[],[],some [6],[],[],cr,[],[]⟩,[],[],23,Tryz.f73,[.tmp 6]⟩
@[simp] def s73:=pkS (q73.eq_1)
attribute [simp] Tryz.f73
noncomputable def F_defect_inside:FD:=zfp q73
theorem F_defect_inside_eq(ds:List D):F_defect_inside ds=zgp q73 ds:=FP_eq (by kernel_rfl) ds
theorem C_defect_inside:C_ 73 F_defect_inside:=CP mix Tryz.func73 rfl rfl (by kernel_rfl) trivial trivial
noncomputable def q138:Pk:=⟨⟨[1,2,3],[6,15,29],[],[],[(0,[])],some [2],[],[],cr,[],[]⟩,[(73,F_defect_inside),(139,F_defect_isEmpty)],[],46,Tryz.f138,[.tmp 2]⟩
@[simp] def s138:=pkS (q138.eq_1)
attribute [simp] Tryz.f138
noncomputable def F_defect_check:FD:=zfp q138
theorem F_defect_check_eq(ds:List D):F_defect_check ds=zgp q138 ds:=FP_eq (by kernel_rfl) ds
theorem C_defect_check:C_ 138 F_defect_check:=CP mix Tryz.func138 rfl rfl (by kernel_rfl) ⟨C_defect_inside,C_defect_isEmpty,trivial⟩ trivial
noncomputable def q72:Pk:=⟨⟨[0,2,4,5,9,10,11],[8,12,18],[],[(4,[9,10,11])],[(0,[]),(1,[9,10,11])],some [2],[],[],cr,[],[]⟩,[(138,F_defect_check)],[],21,Tryz.f72,[.tmp 2]⟩
@[simp] def s72:=pkS (q72.eq_1)
attribute [simp] Tryz.f72
noncomputable def L_defect_Check:LD:=zlp q72
noncomputable def R_defect_Check:RD:=zrp q72
@[simp] theorem l72:LP Tryz.prog gl q72=L_defect_Check:=rfl
theorem L_defect_Check_succ(i n:Nat)(s:St):L_defect_Check i (n+1) s=andThen (R_defect_Check i s) (zhp q72 n i):=LP_succ (by kernel_rfl) i n s
theorem R_defect_Check_eq(i:Nat)(s:St):R_defect_Check i s=zsp q72 i s:=rfl
noncomputable def F_defect_Check:FD:=zfp q72
theorem F_defect_Check_eq(ds:List D):F_defect_Check ds=zgp q72 ds:=FP_eq (by kernel_rfl) ds
theorem C_defect_Check:C_ 72 F_defect_Check:=CP mix Tryz.func72 rfl rfl (by kernel_rfl) ⟨C_defect_check,trivial⟩ trivial
noncomputable def q149:Pk:=⟨⟨[2,4],[],[],[],[],some [4],[],[],cr,[],[]⟩,[],[],25,Tryz.f149,[.tmp 4]⟩
@[simp] def s149:=pkS (q149.eq_1)
attribute [simp] Tryz.f149
noncomputable def F_board_inside:FD:=zfp q149
theorem F_board_inside_eq(ds:List D):F_board_inside ds=zgp q149 ds:=FP_eq (by kernel_rfl) ds
theorem C_board_inside:C_ 149 F_board_inside:=CP mix Tryz.func149 rfl rfl (by kernel_rfl) trivial trivial
noncomputable def q150:Pk:=⟨⟨[1,2],[6],[],[],[],some [2],[(3,13)],[],cr,[],[]⟩,[(145,F_board_isBox),(146,F_board_length)],[],21,Tryz.f150,[.tmp 2]⟩
@[simp] def s150:=pkS (q150.eq_1)
attribute [simp] Tryz.f150
noncomputable def F_board_Volume:FD:=zfp q150
theorem F_board_Volume_eq(ds:List D):F_board_Volume ds=zgp q150 ds:=FP_eq (by kernel_rfl) ds
theorem C_board_Volume:C_ 150 F_board_Volume:=CP mix Tryz.func150 rfl rfl (by kernel_rfl) ⟨C_board_isBox,C_board_length,trivial⟩ trivial
noncomputable def q151:Pk:=⟨⟨[2],[],[],[],[],some [2],[],[],cr,[],[]⟩,[],[],9,Tryz.f151,[.tmp 2]⟩
@[simp] def s151:=pkS (q151.eq_1)
attribute [simp] Tryz.f151
noncomputable def F_board_isMoist:FD:=zfp q151
theorem F_board_isMoist_eq(ds:List D):F_board_isMoist ds=zgp q151 ds:=FP_eq (by kernel_rfl) ds
theorem C_board_isMoist:C_ 151 F_board_isMoist:=CP mix Tryz.func151 rfl rfl (by kernel_rfl) trivial trivial
noncomputable def q82:Pk:=⟨⟨[1,2,4,5,6,7,8,9,10,11,12,13,15,100,101,102],[19,36,46,50,87,92,97,103,127,148,172,180],[],[(22,[2,7,8,9,100,101,102])],[(0,[2]),(1,[2,7,8,9,100,101,102])],some [4],[(11,11),(27,8)],[],cr,[],[]⟩,[(72,F_defect_Check),(81,F_product_Check),(141,F_ident_IsName),(144,F_ident_Is),(145,F_board_isBox),(146,F_board_length),(147,F_product_Green),(148,F_slices_Contains_int_int),(149,F_board_inside),(150,F_board_Volume),(151,F_board_isMoist)],[],181,Tryz.f82,[.tmp 4]⟩
@[simp] def s82:=pkS (q82.eq_1)
attribute [simp] Tryz.f82
noncomputable def L_board_Check:LD:=zlp q82
noncomputable def R_board_Check:RD:=zrp q82
@[simp] theorem l82:LP Tryz.prog gl q82=L_board_Check:=rfl
theorem L_board_Check_succ(i n:Nat)(s:St):L_board_Check i (n+1) s=andThen (R_board_Check i s) (zhp q82 n i):=LP_succ (by kernel_rfl) i n s
theorem R_board_Check_eq(i:Nat)(s:St):R_board_Check i s=zsp q82 i s:=rfl
noncomputable def F_board_Check:FD:=zfp q82
theorem F_board_Check_eq(ds:List D):F_board_Check ds=zgp q82 ds:=FP_eq (by kernel_rfl) ds
theorem C_board_Check:C_ 82 F_board_Check:=CP mix Tryz.func82 rfl rfl (by kernel_rfl) ⟨C_defect_Check,C_product_Check,C_ident_IsName,C_ident_Is,C_board_isBox,C_board_length,C_product_Green,C_slices_Contains_int_int,C_board_inside,C_board_Volume,C_board_isMoist,trivial⟩ trivial
noncomputable def q152:Pk:=⟨⟨[4,5,7,8,9,10],[11,17],[],[(2,[1,4,8,9,10])],[(0,[4]),(1,[1,4,8,9,10])],some [4,5],[],[],cr,[],[]⟩,[],[],21,Tryz.f152,[.cell 4 42,.tmp 5]⟩
@[simp] def s152:=pkS (q152.eq_1)
attribute [simp] Tryz.f152
noncomputable def L_wood_Find:LD:=zlp q152
noncomputable def R_wood_Find:RD:=zrp q152
@[simp] theorem l152:LP Tryz.prog gl q152=L_wood_Find:=rfl
theorem L_wood_Find_succ(i n:Nat)(s:St):L_wood_Find i (n+1) s=andThen (R_wood_Find i s) (zhp q152 n i):=LP_succ (by kernel_rfl) i n s
theorem R_wood_Find_eq(i:Nat)(s:St):R_wood_Find i s=zsp q152 i s:=rfl
noncomputable def F_wood_Find:FD:=zfp q152
theorem F_wood_Find_eq(ds:List D):F_wood_Find ds=zgp q152 ds:=FP_eq (by kernel_rfl) ds
theorem C_wood_Find:C_ 152 F_wood_Find:=CP mix Tryz.func152 rfl rfl (by kernel_rfl) trivial trivial
noncomputable def q204:Pk:=⟨⟨[1,2],[],[],[],[],some [2],[],[],cr,[],[]⟩,[],[],28,Tryz.f204,[.cell 2 320]⟩
@[simp] def s204:=pkS (q204.eq_1)
attribute [simp] Tryz.f204
noncomputable def F_wood_numbers:FD:=zfp q204
theorem F_wood_numbers_eq(ds:List D):F_wood_numbers ds=zgp q204 ds:=FP_eq (by kernel_rfl) ds
theorem C_wood_numbers:C_ 204 F_wood_numbers:=CP mix Tryz.func204 rfl rfl (by kernel_rfl) trivial trivial
noncomputable def q153:Pk:=⟨⟨[1,2,3,4,5,24,25],[26,42],[],[(3,[3,24,25])],[(0,[]),(1,[3,24,25])],some [2],[],[],cr,[],[]⟩,[(204,F_wood_numbers)],[],44,Tryz.f153,[.tmp 2]⟩
@[simp] def s153:=pkS (q153.eq_1)
attribute [simp] Tryz.f153
noncomputable def L_wood_inRange:LD:=zlp q153
noncomputable def R_wood_inRange:RD:=zrp q153
@[simp] theorem l153:LP Tryz.prog gl q153=L_wood_inRange:=rfl
theorem L_wood_inRange_succ(i n:Nat)(s:St):L_wood_inRange i (n+1) s=andThen (R_wood_inRange i s) (zhp q153 n i):=LP_succ (by kernel_rfl) i n s
theorem R_wood_inRange_eq(i:Nat)(s:St):R_wood_inRange i s=zsp q153 i s:=rfl
noncomputable def F_wood_inRange:FD:=zfp q153
theorem F_wood_inRange_eq(ds:List D):F_wood_inRange ds=zgp q153 ds:=FP_eq (by kernel_rfl) ds
theorem C_wood_inRange:C_ 153 F_wood_inRange:=CP mix Tryz.func153 rfl rfl (by kernel_rfl) ⟨C_wood_numbers,trivial⟩ trivial
noncomputable def q83:Pk:=⟨⟨[0,2,3,4,6,10,11,12],[9,13,20,30,33],[],[(4,[0,10,11,12])],[(0,[]),(1,[0,10,11,12])],some [2],[(8,11)],[],cr,[],[]⟩,[(141,F_ident_IsName),(152,F_wood_Find),(153,F_wood_inRange)],[],35,Tryz.f83,[.tmp 2]⟩
@[simp] def s83:=pkS (q83.eq_1)
attribute [simp] Tryz.f83
noncomputable def L_wood_Check:LD:=zlp q83
noncomputable def R_wood_Check:RD:=zrp q83
@[simp] theorem l83:LP Tryz.prog gl q83=L_wood_Check:=rfl
theorem L_wood_Check_succ(i n:Nat)(s:St):L_wood_Check i (n+1) s=andThen (R_wood_Check i s) (zhp q83 n i):=LP_succ (by kernel_rfl) i n s
theorem R_wood_Check_eq(i:Nat)(s:St):R_wood_Check i s=zsp q83 i s:=rfl
noncomputable def F_wood_Check:FD:=zfp q83
theorem F_wood_Check_eq(ds:List D):F_wood_Check ds=zgp q83 ds:=FP_eq (by kernel_rfl) ds
theorem C_wood_Check:C_ 83 F_wood_Check:=CP mix Tryz.func83 rfl rfl (by kernel_rfl) ⟨C_ident_IsName,C_wood_Find,C_wood_inRange,trivial⟩ trivial
noncomputable def q85:Pk:=⟨⟨[0],[],[],[],[],some [0],[],[],cr,[],[]⟩,[],[],2,Tryz.f85,[.tmp 0]⟩
@[simp] def s85:=pkS (q85.eq_1)
attribute [simp] Tryz.f85
noncomputable def F_feature_Names:FD:=zfp q85
theorem F_feature_Names_eq(ds:List D):F_feature_Names ds=zgp q85 ds:=FP_eq (by kernel_rfl) ds
theorem C_feature_Names:C_ 85 F_feature_Names:=CP mix Tryz.func85 rfl rfl (by kernel_rfl) trivial trivial
noncomputable def q231:Pk:=⟨⟨[2,3,4],[7],[],[],[(0,[])],some [2],[],[],cr,[],[]⟩,[],[],9,Tryz.f231,[.tmp 2]⟩
@[simp] def s231:=pkS (q231.eq_1)
attribute [simp] Tryz.f231
noncomputable def F_rule_takes:FD:=zfp q231
theorem F_rule_takes_eq(ds:List D):F_rule_takes ds=zgp q231 ds:=FP_eq (by kernel_rfl) ds
theorem C_rule_takes:C_ 231 F_rule_takes:=CP mix Tryz.func231 rfl rfl (by kernel_rfl) trivial trivial
noncomputable def q258:Pk:=⟨⟨[0,4,5,7,8],[9,16],[],[(2,[0,1,7,8])],[(0,[]),(1,[0,1,7,8])],some [4],[],[],cr,[],[]⟩,[],[],19,Tryz.f258,[.tmp 4]⟩
@[simp] def s258:=pkS (q258.eq_1)
attribute [simp] Tryz.f258
noncomputable def L_slices_Index_string_string:LD:=zlp q258
noncomputable def R_slices_Index_string_string:RD:=zrp q258
@[simp] theorem l258:LP Tryz.prog gl q258=L_slices_Index_string_string:=rfl
theorem L_slices_Index_string_string_succ(i n:Nat)(s:St):L_slices_Index_string_string i (n+1) s=andThen (R_slices_Index_string_string i s) (zhp q258 n i):=LP_succ (by kernel_rfl) i n s
theorem R_slices_Index_string_string_eq(i:Nat)(s:St):R_slices_Index_string_string i s=zsp q258 i s:=rfl
noncomputable def F_slices_Index_string_string:FD:=zfp q258
theorem F_slices_Index_string_string_eq(ds:List D):F_slices_Index_string_string ds=zgp q258 ds:=FP_eq (by kernel_rfl) ds
theorem C_slices_Index_string_string:C_ 258 F_slices_Index_string_string:=CP mix Tryz.func258 rfl rfl (by kernel_rfl) trivial trivial
noncomputable def q232:Pk:=⟨⟨[4],[],[],[],[],some [4],[],[],cr,[],[]⟩,[(258,F_slices_Index_string_string)],[],9,Tryz.f232,[.tmp 4]⟩
@[simp] def s232:=pkS (q232.eq_1)
attribute [simp] Tryz.f232
noncomputable def F_slices_Contains_string_string:FD:=zfp q232
theorem F_slices_Contains_string_string_eq(ds:List D):F_slices_Contains_string_string ds=zgp q232 ds:=FP_eq (by kernel_rfl) ds
theorem C_slices_Contains_string_string:C_ 232 F_slices_Contains_string_string:=CP mix Tryz.func232 rfl rfl (by kernel_rfl) ⟨C_slices_Index_string_string,trivial⟩ trivial
noncomputable def q209:Pk:=⟨⟨[2],[],[],[],[],some [2],[],[],cr,[],[]⟩,[],[],9,Tryz.f209,[.tmp 2]⟩
@[simp] def s209:=pkS (q209.eq_1)
attribute [simp] Tryz.f209
noncomputable def F_rule_bounded:FD:=zfp q209
theorem F_rule_bounded_eq(ds:List D):F_rule_bounded ds=zgp q209 ds:=FP_eq (by kernel_rfl) ds
theorem C_rule_bounded:C_ 209 F_rule_bounded:=CP mix Tryz.func209 rfl rfl (by kernel_rfl) trivial trivial
noncomputable def q206:Pk:=⟨⟨[2],[],[],[],[],some [2],[],[],cr,[],[]⟩,[],[],9,Tryz.f206,[.tmp 2]⟩
@[simp] def s206:=pkS (q206.eq_1)
attribute [simp] Tryz.f206
noncomputable def F_rule_isCondition:FD:=zfp q206
theorem F_rule_isCondition_eq(ds:List D):F_rule_isCondition ds=zgp q206 ds:=FP_eq (by kernel_rfl) ds
theorem C_rule_isCondition:C_ 206 F_rule_isCondition:=CP mix Tryz.func206 rfl rfl (by kernel_rfl) trivial trivial
noncomputable def q233:Pk:=⟨⟨[2],[],[],[],[],some [2],[],[],cr,[],[]⟩,[],[],13,Tryz.f233,[.tmp 2]⟩
@[simp] def s233:=pkS (q233.eq_1)
attribute [simp] Tryz.f233
noncomputable def F_rule_takesConditions:FD:=zfp q233
theorem F_rule_takesConditions_eq(ds:List D):F_rule_takesConditions ds=zgp q233 ds:=FP_eq (by kernel_rfl) ds
theorem C_rule_takesConditions:C_ 233 F_rule_takesConditions:=CP mix Tryz.func233 rfl rfl (by kernel_rfl) trivial trivial
noncomputable def q205(self:FD):Pk:=⟨⟨[1,2,3,6,8,9,11,15,16,17,85,86,87],[13,18,27,37,64,74,83,88,97],[],[(4,[1,2,3,15,16,17]),(19,[3,85,86,87])],[(0,[1,3]),(1,[1,2,3,15,16,17]),(2,[]),(3,[3,85,86,87])],some [6],[(12,25),(21,5)],[],cr,[],[]⟩,[(205,self),(206,F_rule_isCondition),(209,F_rule_bounded),(231,F_rule_takes),(232,F_slices_Contains_string_string),(233,F_rule_takesConditions)],[],99,Tryz.f205,[.tmp 6]⟩
@[simp] def s205(self:FD):=pkS (q205.eq_1 self)
attribute [simp] Tryz.f205
noncomputable def L_rule_visit(self:FD):LD:=zlp (q205 self)
noncomputable def R_rule_visit(self:FD):RD:=zrp (q205 self)
@[simp] theorem l205(self:FD):LP Tryz.prog gl (q205 self)=L_rule_visit self:=rfl
theorem L_rule_visit_succ(self:FD)(i n:Nat)(s:St):L_rule_visit self i (n+1) s=andThen (R_rule_visit self i s) (zhp (q205 self) n i):=LP_succ (by kernel_rfl) i n s
theorem R_rule_visit_eq(self:FD)(i:Nat)(s:St):R_rule_visit self i s=zsp (q205 self) i s:=rfl
noncomputable def FN_rule_visit:Nat→FD
 |0=>fun _=>none
 |n+1=>zfp (q205 (FN_rule_visit n))
theorem FN_rule_visit_eq(n:Nat)(ds:List D):FN_rule_visit (n+1) ds=zgp (q205 (FN_rule_visit n)) ds:=FP_eq (by kernel_rfl) ds
theorem CN_rule_visit:∀n,C_ 205 (FN_rule_visit n)
 |0=>fun _ _ h=>by cases h
 |n+1=>CP mix Tryz.func205 rfl rfl (by kernel_rfl) ⟨CN_rule_visit n,C_rule_isCondition,C_rule_bounded,C_rule_takes,C_slices_Contains_string_string,C_rule_takesConditions,trivial⟩ trivial
noncomputable def F_rule_visit:FD:=FN_rule_visit 1000
theorem C_rule_visit:C_ 205 F_rule_visit:=CN_rule_visit 1000
noncomputable def q154:Pk:=⟨⟨[2,4,5],[10,15],[],[],[],some [4],[],[],cr,[],[]⟩,[(205,F_rule_visit),(206,F_rule_isCondition)],[],16,Tryz.f154,[.tmp 4]⟩
@[simp] def s154:=pkS (q154.eq_1)
attribute [simp] Tryz.f154
noncomputable def F_rule_Check:FD:=zfp q154
theorem F_rule_Check_eq(ds:List D):F_rule_Check ds=zgp q154 ds:=FP_eq (by kernel_rfl) ds
theorem C_rule_Check:C_ 154 F_rule_Check:=CP mix Tryz.func154 rfl rfl (by kernel_rfl) ⟨C_rule_visit,C_rule_isCondition,trivial⟩ trivial
noncomputable def q84:Pk:=⟨⟨[0,4,6,7,11,12,13],[10,14,24,30],[],[(4,[1,11,12,13])],[(0,[]),(1,[1,11,12,13])],some [4],[],[],cr,[],[]⟩,[(154,F_rule_Check)],[],33,Tryz.f84,[.tmp 4]⟩
@[simp] def s84:=pkS (q84.eq_1)
attribute [simp] Tryz.f84
noncomputable def L_rule_CheckRules:LD:=zlp q84
noncomputable def R_rule_CheckRules:RD:=zrp q84
@[simp] theorem l84:LP Tryz.prog gl q84=L_rule_CheckRules:=rfl
theorem L_rule_CheckRules_succ(i n:Nat)(s:St):L_rule_CheckRules i (n+1) s=andThen (R_rule_CheckRules i s) (zhp q84 n i):=LP_succ (by kernel_rfl) i n s
theorem R_rule_CheckRules_eq(i:Nat)(s:St):R_rule_CheckRules i s=zsp q84 i s:=rfl
noncomputable def F_rule_CheckRules:FD:=zfp q84
theorem F_rule_CheckRules_eq(ds:List D):F_rule_CheckRules ds=zgp q84 ds:=FP_eq (by kernel_rfl) ds
theorem C_rule_CheckRules:C_ 84 F_rule_CheckRules:=CP mix Tryz.func84 rfl rfl (by kernel_rfl) ⟨C_rule_Check,trivial⟩ trivial
noncomputable def q33:Pk:=⟨⟨[1,4,6,8,9,10,11],[15,21,27,32],[],[],[],some [8],[],[],cr,[],[]⟩,[(81,F_product_Check),(82,F_board_Check),(83,F_wood_Check),(84,F_rule_CheckRules),(85,F_feature_Names)],[],37,Tryz.f33,[.tmp 8]⟩
@[simp] def s33:=pkS (q33.eq_1)
attribute [simp] Tryz.f33
noncomputable def F_grading_check:FD:=zfp q33
theorem F_grading_check_eq(ds:List D):F_grading_check ds=zgp q33 ds:=FP_eq (by kernel_rfl) ds
theorem C_grading_check:C_ 33 F_grading_check:=CP mix Tryz.func33 rfl rfl (by kernel_rfl) ⟨C_product_Check,C_board_Check,C_wood_Check,C_rule_CheckRules,C_feature_Names,trivial⟩ trivial
noncomputable def q86:Pk:=⟨⟨[],[],[4],[],[],some [],[(0,9)],[],cr,[],[]⟩,[],[],14,Tryz.f86,[]⟩
@[simp] def s86:=pkS (q86.eq_1)
attribute [simp] Tryz.f86
noncomputable def E_feature_Of_1:ED:=zep q86
theorem E_feature_Of_1_eq(hs:List (Nat×O))(ds:List D):E_feature_Of_1 hs ds=zge q86 hs ds:=EP_eq (by kernel_rfl) hs ds
theorem CE_feature_Of_1:CE_ 86 E_feature_Of_1:=CEP mix Tryz.func86 rfl rfl (by kernel_rfl) trivial trivial
noncomputable def q87:Pk:=⟨⟨[1,2],[7],[],[],[],some [2],[],[],cr,[],[]⟩,[(146,F_board_length),(155,F_board_isAlong)],[],12,Tryz.f87,[.tmp 2]⟩
@[simp] def s87:=pkS (q87.eq_1)
attribute [simp] Tryz.f87
noncomputable def F_board_Length:FD:=zfp q87
theorem F_board_Length_eq(ds:List D):F_board_Length ds=zgp q87 ds:=FP_eq (by kernel_rfl) ds
theorem C_board_Length:C_ 87 F_board_Length:=CP mix Tryz.func87 rfl rfl (by kernel_rfl) ⟨C_board_length,C_board_isAlong,trivial⟩ trivial
noncomputable def q88:Pk:=⟨⟨[4,5,7,8,9,10],[11,17],[],[(3,[1,5,8,9,10])],[(0,[5]),(1,[1,5,8,9,10])],some [4],[],[],cr,[],[]⟩,[],[],22,Tryz.f88,[.tmp 4]⟩
@[simp] def s88:=pkS (q88.eq_1)
attribute [simp] Tryz.f88
noncomputable def L_defect_Count:LD:=zlp q88
noncomputable def R_defect_Count:RD:=zrp q88
@[simp] theorem l88:LP Tryz.prog gl q88=L_defect_Count:=rfl
theorem L_defect_Count_succ(i n:Nat)(s:St):L_defect_Count i (n+1) s=andThen (R_defect_Count i s) (zhp q88 n i):=LP_succ (by kernel_rfl) i n s
theorem R_defect_Count_eq(i:Nat)(s:St):R_defect_Count i s=zsp q88 i s:=rfl
noncomputable def F_defect_Count:FD:=zfp q88
theorem F_defect_Count_eq(ds:List D):F_defect_Count ds=zgp q88 ds:=FP_eq (by kernel_rfl) ds
theorem C_defect_Count:C_ 88 F_defect_Count:=CP mix Tryz.func88 rfl rfl (by kernel_rfl) trivial trivial
noncomputable def q136:Pk:=⟨⟨[1,2],[7],[],[],[],some [2],[],[],cr,[],[]⟩,[],[],15,Tryz.f136,[.tmp 2]⟩
@[simp] def s136:=pkS (q136.eq_1)
attribute [simp] Tryz.f136
noncomputable def F_span_size:FD:=zfp q136
theorem F_span_size_eq(ds:List D):F_span_size ds=zgp q136 ds:=FP_eq (by kernel_rfl) ds
theorem C_span_size:C_ 136 F_span_size:=CP mix Tryz.func136 rfl rfl (by kernel_rfl) trivial trivial
noncomputable def q135:Pk:=⟨⟨[2],[],[],[],[],some [2],[],[],cr,[],[]⟩,[],[],6,Tryz.f135,[.tmp 2]⟩
@[simp] def s135:=pkS (q135.eq_1)
attribute [simp] Tryz.f135
noncomputable def F_span_limited:FD:=zfp q135
theorem F_span_limited_eq(ds:List D):F_span_limited ds=zgp q135 ds:=FP_eq (by kernel_rfl) ds
theorem C_span_limited:C_ 135 F_span_limited:=CP mix Tryz.func135 rfl rfl (by kernel_rfl) trivial trivial
noncomputable def q69:Pk:=⟨⟨[1,2],[],[],[],[],some [2],[],[],cr,[],[]⟩,[(135,F_span_limited),(136,F_span_size)],[],6,Tryz.f69,[.tmp 2]⟩
@[simp] def s69:=pkS (q69.eq_1)
attribute [simp] Tryz.f69
noncomputable def F_span_Len:FD:=zfp q69
theorem F_span_Len_eq(ds:List D):F_span_Len ds=zgp q69 ds:=FP_eq (by kernel_rfl) ds
theorem C_span_Len:C_ 69 F_span_Len:=CP mix Tryz.func69 rfl rfl (by kernel_rfl) ⟨C_span_limited,C_span_size,trivial⟩ trivial
noncomputable def q156:Pk:=⟨⟨[1,2],[],[],[],[],some [2],[(1,7)],[],cr,[],[]⟩,[(69,F_span_Len)],[],12,Tryz.f156,[.tmp 2]⟩
@[simp] def s156:=pkS (q156.eq_1)
attribute [simp] Tryz.f156
noncomputable def F_defect_Size:FD:=zfp q156
theorem F_defect_Size_eq(ds:List D):F_defect_Size ds=zgp q156 ds:=FP_eq (by kernel_rfl) ds
theorem C_defect_Size:C_ 156 F_defect_Size:=CP mix Tryz.func156 rfl rfl (by kernel_rfl) ⟨C_span_Len,trivial⟩ trivial
noncomputable def q89:Pk:=⟨⟨[4,5,7,8,9,10],[11,17],[],[(3,[1,5,8,9,10])],[(0,[5]),(1,[1,5,8,9,10])],some [4],[],[],cr,[],[]⟩,[(156,F_defect_Size)],[],24,Tryz.f89,[.tmp 4]⟩
@[simp] def s89:=pkS (q89.eq_1)
attribute [simp] Tryz.f89
noncomputable def L_defect_Largest:LD:=zlp q89
noncomputable def R_defect_Largest:RD:=zrp q89
@[simp] theorem l89:LP Tryz.prog gl q89=L_defect_Largest:=rfl
theorem L_defect_Largest_succ(i n:Nat)(s:St):L_defect_Largest i (n+1) s=andThen (R_defect_Largest i s) (zhp q89 n i):=LP_succ (by kernel_rfl) i n s
theorem R_defect_Largest_eq(i:Nat)(s:St):R_defect_Largest i s=zsp q89 i s:=rfl
noncomputable def F_defect_Largest:FD:=zfp q89
theorem F_defect_Largest_eq(ds:List D):F_defect_Largest ds=zgp q89 ds:=FP_eq (by kernel_rfl) ds
theorem C_defect_Largest:C_ 89 F_defect_Largest:=CP mix Tryz.func89 rfl rfl (by kernel_rfl) ⟨C_defect_Size,trivial⟩ trivial
noncomputable def q157:Pk:=⟨⟨[1,2],[],[],[],[],some [2],[],[],cr,[],[]⟩,[],[],11,Tryz.f157,[.tmp 2]⟩
@[simp] def s157:=pkS (q157.eq_1)
attribute [simp] Tryz.f157
noncomputable def F_defect_isKnot:FD:=zfp q157
theorem F_defect_isKnot_eq(ds:List D):F_defect_isKnot ds=zgp q157 ds:=FP_eq (by kernel_rfl) ds
theorem C_defect_isKnot:C_ 157 F_defect_isKnot:=CP mix Tryz.func157 rfl rfl (by kernel_rfl) trivial trivial
noncomputable def q70:Pk:=⟨⟨[2,3,4,5],[21],[],[],[],some [4],[],[],cr,[],[]⟩,[],[],24,Tryz.f70,[.cell 4 34]⟩
@[simp] def s70:=pkS (q70.eq_1)
attribute [simp] Tryz.f70
noncomputable def F_span_Meet:FD:=zfp q70
theorem F_span_Meet_eq(ds:List D):F_span_Meet ds=zgp q70 ds:=FP_eq (by kernel_rfl) ds
theorem C_span_Meet:C_ 70 F_span_Meet:=CP mix Tryz.func70 rfl rfl (by kernel_rfl) trivial trivial
noncomputable def q90:Pk:=⟨⟨[0,1,4,5,7,8,9,10,12,24,25,26,42,43,44],[23,27,45,58],[],[(5,[0,1,5,24,25,26]),(11,[0,1,5,9,10,24,25,26,42,43,44])],[(0,[5]),(1,[0,1,5,24,25,26]),(2,[0,1,5,10,24,25,26]),(3,[0,1,5,9,10,24,25,26,42,43,44])],some [4],[],[],cr,[],[]⟩,[(70,F_span_Meet),(72,F_defect_Check),(139,F_defect_isEmpty),(156,F_defect_Size),(157,F_defect_isKnot)],[],69,Tryz.f90,[.tmp 4]⟩
@[simp] def s90:=pkS (q90.eq_1)
attribute [simp] Tryz.f90
noncomputable def L_defect_Worst:LD:=zlp q90
noncomputable def R_defect_Worst:RD:=zrp q90
@[simp] theorem l90:LP Tryz.prog gl q90=L_defect_Worst:=rfl
theorem L_defect_Worst_succ(i n:Nat)(s:St):L_defect_Worst i (n+1) s=andThen (R_defect_Worst i s) (zhp q90 n i):=LP_succ (by kernel_rfl) i n s
theorem R_defect_Worst_eq(i:Nat)(s:St):R_defect_Worst i s=zsp q90 i s:=rfl
noncomputable def F_defect_Worst:FD:=zfp q90
theorem F_defect_Worst_eq(ds:List D):F_defect_Worst ds=zgp q90 ds:=FP_eq (by kernel_rfl) ds
theorem C_defect_Worst:C_ 90 F_defect_Worst:=CP mix Tryz.func90 rfl rfl (by kernel_rfl) ⟨C_span_Meet,C_defect_Check,C_defect_isEmpty,C_defect_Size,C_defect_isKnot,trivial⟩ trivial
noncomputable def q101:Pk:=⟨⟨[1,2],[20,28],[],[],[],some [2],[],[],cr,[],[]⟩,[],[],29,Tryz.f101,[.tmp 2]⟩
@[simp] def s101:=pkS (q101.eq_1)
attribute [simp] Tryz.f101
noncomputable def F_moist_Check:FD:=zfp q101
theorem F_moist_Check_eq(ds:List D):F_moist_Check ds=zgp q101 ds:=FP_eq (by kernel_rfl) ds
theorem C_moist_Check:C_ 101 F_moist_Check:=CP mix Tryz.func101 rfl rfl (by kernel_rfl) trivial trivial
noncomputable def q91:Pk:=⟨⟨[2,3,4],[12],[],[],[],some [4],[],[],cr,[],[]⟩,[(101,F_moist_Check)],[],18,Tryz.f91,[.tmp 4]⟩
@[simp] def s91:=pkS (q91.eq_1)
attribute [simp] Tryz.f91
noncomputable def F_moist_Checks:FD:=zfp q91
theorem F_moist_Checks_eq(ds:List D):F_moist_Checks ds=zgp q91 ds:=FP_eq (by kernel_rfl) ds
theorem C_moist_Checks:C_ 91 F_moist_Checks:=CP mix Tryz.func91 rfl rfl (by kernel_rfl) ⟨C_moist_Check,trivial⟩ trivial
noncomputable def q92:Pk:=⟨⟨[1,2],[5],[],[],[],some [2],[],[],cr,[],[]⟩,[(101,F_moist_Check)],[],13,Tryz.f92,[.tmp 2]⟩
@[simp] def s92:=pkS (q92.eq_1)
attribute [simp] Tryz.f92
noncomputable def F_moist_Mean:FD:=zfp q92
theorem F_moist_Mean_eq(ds:List D):F_moist_Mean ds=zgp q92 ds:=FP_eq (by kernel_rfl) ds
theorem C_moist_Mean:C_ 92 F_moist_Mean:=CP mix Tryz.func92 rfl rfl (by kernel_rfl) ⟨C_moist_Check,trivial⟩ trivial
noncomputable def q93:Pk:=⟨⟨[1,2],[5],[],[],[],some [2],[],[],cr,[],[]⟩,[(101,F_moist_Check)],[],11,Tryz.f93,[.tmp 2]⟩
@[simp] def s93:=pkS (q93.eq_1)
attribute [simp] Tryz.f93
noncomputable def F_moist_Gradient:FD:=zfp q93
theorem F_moist_Gradient_eq(ds:List D):F_moist_Gradient ds=zgp q93 ds:=FP_eq (by kernel_rfl) ds
theorem C_moist_Gradient:C_ 93 F_moist_Gradient:=CP mix Tryz.func93 rfl rfl (by kernel_rfl) ⟨C_moist_Check,trivial⟩ trivial
noncomputable def q207:Pk:=⟨⟨[1,2],[],[],[],[],some [2],[],[],cr,[],[]⟩,[],[],18,Tryz.f207,[.tmp 2]⟩
@[simp] def s207:=pkS (q207.eq_1)
attribute [simp] Tryz.f207
noncomputable def F_sizing_across:FD:=zfp q207
theorem F_sizing_across_eq(ds:List D):F_sizing_across ds=zgp q207 ds:=FP_eq (by kernel_rfl) ds
theorem C_sizing_across:C_ 207 F_sizing_across:=CP mix Tryz.func207 rfl rfl (by kernel_rfl) trivial trivial
noncomputable def q214:Pk:=⟨⟨[0,1,2,6],[7,17],[],[],[(0,[0])],some [6],[],[],cr,[],[]⟩,[],[],23,Tryz.f214,[.tmp 6]⟩
@[simp] def s214:=pkS (q214.eq_1)
attribute [simp] Tryz.f214
noncomputable def F_units_Clamp:FD:=zfp q214
theorem F_units_Clamp_eq(ds:List D):F_units_Clamp ds=zgp q214 ds:=FP_eq (by kernel_rfl) ds
theorem C_units_Clamp:C_ 214 F_units_Clamp:=CP mix Tryz.func214 rfl rfl (by kernel_rfl) trivial trivial
noncomputable def q208:Pk:=⟨⟨[1,3,6,7],[23],[],[],[],some [6],[],[],cr,[],[]⟩,[(214,F_units_Clamp)],[],37,Tryz.f208,[.tmp 6]⟩
@[simp] def s208:=pkS (q208.eq_1)
attribute [simp] Tryz.f208
noncomputable def F_wood_Shrunk:FD:=zfp q208
theorem F_wood_Shrunk_eq(ds:List D):F_wood_Shrunk ds=zgp q208 ds:=FP_eq (by kernel_rfl) ds
theorem C_wood_Shrunk:C_ 208 F_wood_Shrunk:=CP mix Tryz.func208 rfl rfl (by kernel_rfl) ⟨C_units_Clamp,trivial⟩ trivial
noncomputable def q158:Pk:=⟨⟨[2,3,4,5,6,7,8],[20],[],[],[],some [4,5],[(3,19),(5,11)],[],cr,[],[]⟩,[(92,F_moist_Mean),(207,F_sizing_across),(208,F_wood_Shrunk)],[],54,Tryz.f158,[.tmp 4,.tmp 5]⟩
@[simp] def s158:=pkS (q158.eq_1)
attribute [simp] Tryz.f158
noncomputable def F_sizing_Dried:FD:=zfp q158
theorem F_sizing_Dried_eq(ds:List D):F_sizing_Dried ds=zgp q158 ds:=FP_eq (by kernel_rfl) ds
theorem C_sizing_Dried:C_ 158 F_sizing_Dried:=CP mix Tryz.func158 rfl rfl (by kernel_rfl) ⟨C_moist_Mean,C_sizing_across,C_wood_Shrunk,trivial⟩ trivial
noncomputable def q94:Pk:=⟨⟨[3,4,5,6,7,8],[],[],[],[],some [6],[],[],cr,[],[]⟩,[(158,F_sizing_Dried)],[],25,Tryz.f94,[.tmp 6]⟩
@[simp] def s94:=pkS (q94.eq_1)
attribute [simp] Tryz.f94
noncomputable def F_sizing_Under:FD:=zfp q94
theorem F_sizing_Under_eq(ds:List D):F_sizing_Under ds=zgp q94 ds:=FP_eq (by kernel_rfl) ds
theorem C_sizing_Under:C_ 94 F_sizing_Under:=CP mix Tryz.func94 rfl rfl (by kernel_rfl) ⟨C_sizing_Dried,trivial⟩ trivial
noncomputable def q159:Pk:=⟨⟨[1,2,3],[14],[],[],[],some [2],[(1,7)],[],cr,[],[]⟩,[(69,F_span_Len),(90,F_defect_Worst)],[],22,Tryz.f159,[.tmp 2]⟩
@[simp] def s159:=pkS (q159.eq_1)
attribute [simp] Tryz.f159
noncomputable def F_strength_Knots:FD:=zfp q159
theorem F_strength_Knots_eq(ds:List D):F_strength_Knots ds=zgp q159 ds:=FP_eq (by kernel_rfl) ds
theorem C_strength_Knots:C_ 159 F_strength_Knots:=CP mix Tryz.func159 rfl rfl (by kernel_rfl) ⟨C_span_Len,C_defect_Worst,trivial⟩ trivial
noncomputable def q95:Pk:=⟨⟨[2,3,4,5,6,7],[],[],[],[],some [4],[(1,4)],[],cr,[],[]⟩,[(92,F_moist_Mean),(159,F_strength_Knots)],[],31,Tryz.f95,[.tmp 4]⟩
@[simp] def s95:=pkS (q95.eq_1)
attribute [simp] Tryz.f95
noncomputable def F_strength_Stiffness:FD:=zfp q95
theorem F_strength_Stiffness_eq(ds:List D):F_strength_Stiffness ds=zgp q95 ds:=FP_eq (by kernel_rfl) ds
theorem C_strength_Stiffness:C_ 95 F_strength_Stiffness:=CP mix Tryz.func95 rfl rfl (by kernel_rfl) ⟨C_moist_Mean,C_strength_Knots,trivial⟩ trivial
noncomputable def q34:Pk:=⟨⟨[1,3,5,6,7,8,9,10,12,42,43,44],[22,45,93],[],[(11,[3,5,7,9,10,42,43,44])],[(0,[3,5,7,9,10]),(1,[3,5,7,9,10,42,43,44])],some [6],[],[(86,false)],cr,[],[]⟩,[(82,F_board_Check),(83,F_wood_Check),(85,F_feature_Names),(87,F_board_Length),(88,F_defect_Count),(89,F_defect_Largest),(90,F_defect_Worst),(91,F_moist_Checks),(92,F_moist_Mean),(93,F_moist_Gradient),(94,F_sizing_Under),(95,F_strength_Stiffness)],[(86,E_feature_Of_1)],104,Tryz.f34,[.tmp 6]⟩
@[simp] def s34:=pkS (q34.eq_1)
attribute [simp] Tryz.f34
noncomputable def L_feature_Of:LD:=zlp q34
noncomputable def R_feature_Of:RD:=zrp q34
@[simp] theorem l34:LP Tryz.prog gl q34=L_feature_Of:=rfl
theorem L_feature_Of_succ(i n:Nat)(s:St):L_feature_Of i (n+1) s=andThen (R_feature_Of i s) (zhp q34 n i):=LP_succ (by kernel_rfl) i n s
theorem R_feature_Of_eq(i:Nat)(s:St):R_feature_Of i s=zsp q34 i s:=rfl
noncomputable def F_feature_Of:FD:=zfp q34
theorem F_feature_Of_eq(ds:List D):F_feature_Of ds=zgp q34 ds:=FP_eq (by kernel_rfl) ds
theorem C_feature_Of:C_ 34 F_feature_Of:=CP mix Tryz.func34 rfl rfl (by kernel_rfl) ⟨C_board_Check,C_wood_Check,C_feature_Names,C_board_Length,C_defect_Count,C_defect_Largest,C_defect_Worst,C_moist_Checks,C_moist_Mean,C_moist_Gradient,C_sizing_Under,C_strength_Stiffness,trivial⟩ ⟨CE_feature_Of_1,trivial⟩
noncomputable def q96:Pk:=⟨⟨[2,3,5,6,7,8],[9],[3],[(3,[3,6,7,8])],[(0,[3]),(1,[3,6,7,8])],some [2],[],[],cr,[],[]⟩,[],[],19,Tryz.f96,[.tmp 2]⟩
@[simp] def s96:=pkS (q96.eq_1)
attribute [simp] Tryz.f96
noncomputable def L_rule_names:LD:=zlp q96
noncomputable def R_rule_names:RD:=zrp q96
@[simp] theorem l96:LP Tryz.prog gl q96=L_rule_names:=rfl
theorem L_rule_names_succ(i n:Nat)(s:St):L_rule_names i (n+1) s=andThen (R_rule_names i s) (zhp q96 n i):=LP_succ (by kernel_rfl) i n s
theorem R_rule_names_eq(i:Nat)(s:St):R_rule_names i s=zsp q96 i s:=rfl
noncomputable def F_rule_names:FD:=zfp q96
theorem F_rule_names_eq(ds:List D):F_rule_names ds=zgp q96 ds:=FP_eq (by kernel_rfl) ds
theorem C_rule_names:C_ 96 F_rule_names:=CP mix Tryz.func96 rfl rfl (by kernel_rfl) trivial trivial
noncomputable def q160:Pk:=⟨⟨[0,2,3],[6],[],[],[],some [2,3],[],[],cr,[],[]⟩,[(209,F_rule_bounded)],[],8,Tryz.f160,[.tmp 2,.tmp 3]⟩
@[simp] def s160:=pkS (q160.eq_1)
attribute [simp] Tryz.f160
noncomputable def F_rule_limited:FD:=zfp q160
theorem F_rule_limited_eq(ds:List D):F_rule_limited ds=zgp q160 ds:=FP_eq (by kernel_rfl) ds
theorem C_rule_limited:C_ 160 F_rule_limited:=CP mix Tryz.func160 rfl rfl (by kernel_rfl) ⟨C_rule_bounded,trivial⟩ trivial
noncomputable def q161:Pk:=⟨⟨[4,5,7,8,9,10],[11,17],[],[(2,[1,8,9,10])],[(0,[]),(1,[1,8,9,10])],some [4,5],[],[],cr,[],[]⟩,[],[],21,Tryz.f161,[.tmp 4,.tmp 5]⟩
@[simp] def s161:=pkS (q161.eq_1)
attribute [simp] Tryz.f161
noncomputable def L_feature_Get:LD:=zlp q161
noncomputable def R_feature_Get:RD:=zrp q161
@[simp] theorem l161:LP Tryz.prog gl q161=L_feature_Get:=rfl
theorem L_feature_Get_succ(i n:Nat)(s:St):L_feature_Get i (n+1) s=andThen (R_feature_Get i s) (zhp q161 n i):=LP_succ (by kernel_rfl) i n s
theorem R_feature_Get_eq(i:Nat)(s:St):R_feature_Get i s=zsp q161 i s:=rfl
noncomputable def F_feature_Get:FD:=zfp q161
theorem F_feature_Get_eq(ds:List D):F_feature_Get ds=zgp q161 ds:=FP_eq (by kernel_rfl) ds
theorem C_feature_Get:C_ 161 F_feature_Get:=CP mix Tryz.func161 rfl rfl (by kernel_rfl) trivial trivial
noncomputable def q210:Pk:=⟨⟨[2],[],[],[],[],some [2],[],[],cr,[],[]⟩,[],[],7,Tryz.f210,[.tmp 2]⟩
@[simp] def s210:=pkS (q210.eq_1)
attribute [simp] Tryz.f210
noncomputable def F_rule_magnitude:FD:=zfp q210
theorem F_rule_magnitude_eq(ds:List D):F_rule_magnitude ds=zgp q210 ds:=FP_eq (by kernel_rfl) ds
theorem C_rule_magnitude:C_ 210 F_rule_magnitude:=CP mix Tryz.func210 rfl rfl (by kernel_rfl) trivial trivial
noncomputable def q211:Pk:=⟨⟨[2],[3],[],[],[],some [2],[],[],cr,[],[]⟩,[],[],4,Tryz.f211,[.tmp 2]⟩
@[simp] def s211:=pkS (q211.eq_1)
attribute [simp] Tryz.f211
noncomputable def F_rule_truth:FD:=zfp q211
theorem F_rule_truth_eq(ds:List D):F_rule_truth ds=zgp q211 ds:=FP_eq (by kernel_rfl) ds
theorem C_rule_truth:C_ 211 F_rule_truth:=CP mix Tryz.func211 rfl rfl (by kernel_rfl) trivial trivial
noncomputable def q162:Pk:=⟨⟨[1,2,6,7,8],[9,17,25,36,40,46],[],[],[(0,[1,2])],some [6,7],[],[],cr,[],[]⟩,[(160,F_rule_limited),(210,F_rule_magnitude),(211,F_rule_truth)],[],56,Tryz.f162,[.tmp 6,.tmp 7]⟩
@[simp] def s162:=pkS (q162.eq_1)
attribute [simp] Tryz.f162
noncomputable def F_rule_combine:FD:=zfp q162
theorem F_rule_combine_eq(ds:List D):F_rule_combine ds=zgp q162 ds:=FP_eq (by kernel_rfl) ds
theorem C_rule_combine:C_ 162 F_rule_combine:=CP mix Tryz.func162 rfl rfl (by kernel_rfl) ⟨C_rule_limited,C_rule_magnitude,C_rule_truth,trivial⟩ trivial
noncomputable def q97(self:FD):Pk:=⟨⟨[1,2,4,5,6,8,9,10,12,46],[13,20,43,47,51,54,64,67,87],[],[],[(0,[1,2]),(1,[1,2,8])],some [4,5],[],[],cr,[],[]⟩,[(97,self),(160,F_rule_limited),(161,F_feature_Get),(162,F_rule_combine)],[],96,Tryz.f97,[.tmp 4,.tmp 5]⟩
@[simp] def s97(self:FD):=pkS (q97.eq_1 self)
attribute [simp] Tryz.f97
noncomputable def FN_rule_value:Nat→FD
 |0=>fun _=>none
 |n+1=>zfp (q97 (FN_rule_value n))
theorem FN_rule_value_eq(n:Nat)(ds:List D):FN_rule_value (n+1) ds=zgp (q97 (FN_rule_value n)) ds:=FP_eq (by kernel_rfl) ds
theorem CN_rule_value:∀n,C_ 97 (FN_rule_value n)
 |0=>fun _ _ h=>by cases h
 |n+1=>CP mix Tryz.func97 rfl rfl (by kernel_rfl) ⟨CN_rule_value n,C_rule_limited,C_feature_Get,C_rule_combine,trivial⟩ trivial
noncomputable def F_rule_value:FD:=FN_rule_value 1000
theorem C_rule_value:C_ 97 F_rule_value:=CN_rule_value 1000
noncomputable def q36:Pk:=⟨⟨[0,1,4,5,6,7,8,9,10,11,19,20,21],[17,22,34,37],[],[(5,[1,19,20,21])],[(0,[]),(1,[1,19,20,21])],some [4,5,6],[],[],cr,[],[]⟩,[(84,F_rule_CheckRules),(96,F_rule_names),(97,F_rule_value)],[],42,Tryz.f36,[.tmp 4,.tmp 5,.tmp 6]⟩
@[simp] def s36:=pkS (q36.eq_1)
attribute [simp] Tryz.f36
noncomputable def L_rule_Grade:LD:=zlp q36
noncomputable def R_rule_Grade:RD:=zrp q36
@[simp] theorem l36:LP Tryz.prog gl q36=L_rule_Grade:=rfl
theorem L_rule_Grade_succ(i n:Nat)(s:St):L_rule_Grade i (n+1) s=andThen (R_rule_Grade i s) (zhp q36 n i):=LP_succ (by kernel_rfl) i n s
theorem R_rule_Grade_eq(i:Nat)(s:St):R_rule_Grade i s=zsp q36 i s:=rfl
noncomputable def F_rule_Grade:FD:=zfp q36
theorem F_rule_Grade_eq(ds:List D):F_rule_Grade ds=zgp q36 ds:=FP_eq (by kernel_rfl) ds
theorem C_rule_Grade:C_ 36 F_rule_Grade:=CP mix Tryz.func36 rfl rfl (by kernel_rfl) ⟨C_rule_CheckRules,C_rule_names,C_rule_value,trivial⟩ trivial
noncomputable def q35:Pk:=⟨⟨[3,4,5],[],[],[],[],some [3,4,5],[],[],cr,[],[]⟩,[(36,F_rule_Grade)],[],12,Tryz.f35,[.tmp 3,.tmp 4,.tmp 5]⟩
@[simp] def s35:=pkS (q35.eq_1)
attribute [simp] Tryz.f35
noncomputable def E_grading_Of_1:ED:=zep q35
theorem E_grading_Of_1_eq(hs:List (Nat×O))(ds:List D):E_grading_Of_1 hs ds=zge q35 hs ds:=EP_eq (by kernel_rfl) hs ds
theorem CE_grading_Of_1:CE_ 35 E_grading_Of_1:=CEP mix Tryz.func35 rfl rfl (by kernel_rfl) ⟨C_rule_Grade,trivial⟩ trivial
noncomputable def q11:Pk:=⟨⟨[1,3,4,6,8,9,10,11,12,13],[20],[],[],[],some [8,9,10],[],[(35,false)],cr,[],[]⟩,[(33,F_grading_check),(34,F_feature_Of)],[(35,E_grading_Of_1)],33,Tryz.f11,[.tmp 8,.tmp 9,.tmp 10]⟩
@[simp] def s11:=pkS (q11.eq_1)
attribute [simp] Tryz.f11
noncomputable def F_grading_Of:FD:=zfp q11
theorem F_grading_Of_eq(ds:List D):F_grading_Of ds=zgp q11 ds:=FP_eq (by kernel_rfl) ds
theorem C_grading_Of:C_ 11 F_grading_Of:=CP mix Tryz.func11 rfl rfl (by kernel_rfl) ⟨C_grading_check,C_feature_Of,trivial⟩ ⟨CE_grading_Of_1,trivial⟩
noncomputable def q45:Pk:=⟨⟨[1,2],[],[],[],[],some [2],[(1,7)],[],cr,[],[]⟩,[(69,F_span_Len)],[],12,Tryz.f45,[.tmp 2]⟩
@[simp] def s45:=pkS (q45.eq_1)
attribute [simp] Tryz.f45
noncomputable def F_charge_thickness:FD:=zfp q45
theorem F_charge_thickness_eq(ds:List D):F_charge_thickness ds=zgp q45 ds:=FP_eq (by kernel_rfl) ds
theorem C_charge_thickness:C_ 45 F_charge_thickness:=CP mix Tryz.func45 rfl rfl (by kernel_rfl) ⟨C_span_Len,trivial⟩ trivial
noncomputable def q166:Pk:=⟨⟨[1,2],[],[],[],[],some [2],[],[],cr,[],[]⟩,[],[],51,Tryz.f166,[.tmp 2]⟩
@[simp] def s166:=pkS (q166.eq_1)
attribute [simp] Tryz.f166
noncomputable def F_schedule_sound:FD:=zfp q166
theorem F_schedule_sound_eq(ds:List D):F_schedule_sound ds=zgp q166 ds:=FP_eq (by kernel_rfl) ds
theorem C_schedule_sound:C_ 166 F_schedule_sound:=CP mix Tryz.func166 rfl rfl (by kernel_rfl) trivial trivial
noncomputable def q102:Pk:=⟨⟨[1,2,4,26,27,28],[8,16,20,24,29,34],[],[(10,[26,27,28])],[(0,[]),(1,[26,27,28])],some [2],[],[],cr,[],[]⟩,[(141,F_ident_IsName),(166,F_schedule_sound)],[],36,Tryz.f102,[.tmp 2]⟩
@[simp] def s102:=pkS (q102.eq_1)
attribute [simp] Tryz.f102
noncomputable def L_schedule_Check:LD:=zlp q102
noncomputable def R_schedule_Check:RD:=zrp q102
@[simp] theorem l102:LP Tryz.prog gl q102=L_schedule_Check:=rfl
theorem L_schedule_Check_succ(i n:Nat)(s:St):L_schedule_Check i (n+1) s=andThen (R_schedule_Check i s) (zhp q102 n i):=LP_succ (by kernel_rfl) i n s
theorem R_schedule_Check_eq(i:Nat)(s:St):R_schedule_Check i s=zsp q102 i s:=rfl
noncomputable def F_schedule_Check:FD:=zfp q102
theorem F_schedule_Check_eq(ds:List D):F_schedule_Check ds=zgp q102 ds:=FP_eq (by kernel_rfl) ds
theorem C_schedule_Check:C_ 102 F_schedule_Check:=CP mix Tryz.func102 rfl rfl (by kernel_rfl) ⟨C_ident_IsName,C_schedule_sound,trivial⟩ trivial
noncomputable def q44:Pk:=⟨⟨[0,4,5,6,8,9,10,11,18,19,20],[14,17,21,28,30,35,44,49],[],[(6,[4,5,18,19,20])],[(0,[4,5]),(1,[4,5,18,19,20])],some [6],[],[],cr,[],[]⟩,[(45,F_charge_thickness),(83,F_wood_Check),(101,F_moist_Check),(102,F_schedule_Check)],[],54,Tryz.f44,[.tmp 6]⟩
@[simp] def s44:=pkS (q44.eq_1)
attribute [simp] Tryz.f44
noncomputable def L_charge_Check:LD:=zlp q44
noncomputable def R_charge_Check:RD:=zrp q44
@[simp] theorem l44:LP Tryz.prog gl q44=L_charge_Check:=rfl
theorem L_charge_Check_succ(i n:Nat)(s:St):L_charge_Check i (n+1) s=andThen (R_charge_Check i s) (zhp q44 n i):=LP_succ (by kernel_rfl) i n s
theorem R_charge_Check_eq(i:Nat)(s:St):R_charge_Check i s=zsp q44 i s:=rfl
noncomputable def F_charge_Check:FD:=zfp q44
theorem F_charge_Check_eq(ds:List D):F_charge_Check ds=zgp q44 ds:=FP_eq (by kernel_rfl) ds
theorem C_charge_Check:C_ 44 F_charge_Check:=CP mix Tryz.func44 rfl rfl (by kernel_rfl) ⟨C_charge_thickness,C_wood_Check,C_moist_Check,C_schedule_Check,trivial⟩ trivial
noncomputable def q103:Pk:=⟨⟨[0,2],[4],[5],[],[],some [2],[],[],cr,[],[]⟩,[],[],8,Tryz.f103,[.tmp 2]⟩
@[simp] def s103:=pkS (q103.eq_1)
attribute [simp] Tryz.f103
noncomputable def F_slices_Clone_api_Stage_api_Stage:FD:=zfp q103
theorem F_slices_Clone_api_Stage_api_Stage_eq(ds:List D):F_slices_Clone_api_Stage_api_Stage ds=zgp q103 ds:=FP_eq (by kernel_rfl) ds
theorem C_slices_Clone_api_Stage_api_Stage:C_ 103 F_slices_Clone_api_Stage_api_Stage:=CP mix Tryz.func103 rfl rfl (by kernel_rfl) trivial trivial
noncomputable def NF_slices_Clone_api_Stage_api_Stage(ds:List D):Option D:=nilF F_slices_Clone_api_Stage_api_Stage (.own true []) ds
theorem NF_slices_Clone_api_Stage_api_Stage_sl(es:List (List D)):NF_slices_Clone_api_Stage_api_Stage [.sl es]=if es.length=0 then some (.own true []) else F_slices_Clone_api_Stage_api_Stage [.sl es]:=Eq.trans rfl rfl
theorem NC_slices_Clone_api_Stage_api_Stage:C_ 103 NF_slices_Clone_api_Stage_api_Stage:=fun ds r h=>nilF_ok C_slices_Clone_api_Stage_api_Stage (fun A c=>by rw[F_slices_Clone_api_Stage_api_Stage_eq];cases A<;>simp) ds r h
noncomputable def q104:Pk:=⟨⟨[0,2],[4],[5],[],[],some [2],[],[],cr,[],[]⟩,[],[],8,Tryz.f104,[.tmp 2]⟩
@[simp] def s104:=pkS (q104.eq_1)
attribute [simp] Tryz.f104
noncomputable def F_slices_Clone_kiln_Item_kiln_Item:FD:=zfp q104
theorem F_slices_Clone_kiln_Item_kiln_Item_eq(ds:List D):F_slices_Clone_kiln_Item_kiln_Item ds=zgp q104 ds:=FP_eq (by kernel_rfl) ds
theorem C_slices_Clone_kiln_Item_kiln_Item:C_ 104 F_slices_Clone_kiln_Item_kiln_Item:=CP mix Tryz.func104 rfl rfl (by kernel_rfl) trivial trivial
noncomputable def NF_slices_Clone_kiln_Item_kiln_Item(ds:List D):Option D:=nilF F_slices_Clone_kiln_Item_kiln_Item (.own true []) ds
theorem NF_slices_Clone_kiln_Item_kiln_Item_sl(es:List (List D)):NF_slices_Clone_kiln_Item_kiln_Item [.sl es]=if es.length=0 then some (.own true []) else F_slices_Clone_kiln_Item_kiln_Item [.sl es]:=Eq.trans rfl rfl
theorem NC_slices_Clone_kiln_Item_kiln_Item:C_ 104 NF_slices_Clone_kiln_Item_kiln_Item:=fun ds r h=>nilF_ok C_slices_Clone_kiln_Item_kiln_Item (fun A c=>by rw[F_slices_Clone_kiln_Item_kiln_Item_eq];cases A<;>simp) ds r h
noncomputable def q104e:Pk:=⟨⟨[0,2],[4],[2,5],[],[],some [2],[],[],cr,[],[]⟩,[],[],8,Tryz.f104,[.tmp 2]⟩
@[simp] def s104e:=pkS (q104e.eq_1)
noncomputable def E_slices_Clone_kiln_Item_kiln_Item_obj:ED:=zep q104e
theorem E_slices_Clone_kiln_Item_kiln_Item_obj_eq(hs:List (Nat×O))(ds:List D):E_slices_Clone_kiln_Item_kiln_Item_obj hs ds=zge q104e hs ds:=EP_eq (by kernel_rfl) hs ds
theorem CE_slices_Clone_kiln_Item_kiln_Item_obj:CE_ 104 E_slices_Clone_kiln_Item_kiln_Item_obj:=CEP mix Tryz.func104 rfl rfl (by kernel_rfl) trivial trivial
noncomputable def q105:Pk:=⟨⟨[0],[],[],[],[],some [0],[],[],cr,[],[]⟩,[],[],2,Tryz.f105,[.cell 0 90]⟩
@[simp] def s105:=pkS (q105.eq_1)
attribute [simp] Tryz.f105
noncomputable def F_air_Outside:FD:=zfp q105
theorem F_air_Outside_eq(ds:List D):F_air_Outside ds=zgp q105 ds:=FP_eq (by kernel_rfl) ds
theorem C_air_Outside:C_ 105 F_air_Outside:=CP mix Tryz.func105 rfl rfl (by kernel_rfl) trivial trivial
noncomputable def q46:Pk:=⟨⟨[2,3,4,6,7,8,9,11,12,30,31,32],[16,22,26,29,33,43,48],[],[(12,[2,3,4,30,31,32])],[(0,[2,3,4]),(1,[2,3,4,30,31,32])],some [6,7],[(21,5)],[],cr,[],[]⟩,[(83,F_wood_Check),(101,F_moist_Check),(102,F_schedule_Check),(103,NF_slices_Clone_api_Stage_api_Stage),(104,NF_slices_Clone_kiln_Item_kiln_Item),(105,F_air_Outside)],[],62,Tryz.f46,[.tmp 6,.tmp 7]⟩
@[simp] def s46:=pkS (q46.eq_1)
attribute [simp] Tryz.f46
noncomputable def L_kiln_New:LD:=zlp q46
noncomputable def R_kiln_New:RD:=zrp q46
@[simp] theorem l46:LP Tryz.prog gl q46=L_kiln_New:=rfl
theorem L_kiln_New_succ(i n:Nat)(s:St):L_kiln_New i (n+1) s=andThen (R_kiln_New i s) (zhp q46 n i):=LP_succ (by kernel_rfl) i n s
theorem R_kiln_New_eq(i:Nat)(s:St):R_kiln_New i s=zsp q46 i s:=rfl
noncomputable def E_kiln_New:ED:=zep q46
theorem E_kiln_New_eq(hs:List (Nat×O))(ds:List D):E_kiln_New hs ds=zge q46 hs ds:=EP_eq (by kernel_rfl) hs ds
theorem CE_kiln_New:CE_ 46 E_kiln_New:=CEP mix Tryz.func46 rfl rfl (by kernel_rfl) ⟨C_wood_Check,C_moist_Check,C_schedule_Check,NC_slices_Clone_api_Stage_api_Stage,NC_slices_Clone_kiln_Item_kiln_Item,C_air_Outside,trivial⟩ trivial
noncomputable def q106:Pk:=⟨⟨[0,2],[4],[],[],[],some [2],[],[],cr,[],[]⟩,[],[],10,Tryz.f106,[.cell 2 90]⟩
@[simp] def s106:=pkS (q106.eq_1)
attribute [simp] Tryz.f106
noncomputable def F_kiln_Kiln_Climate:FD:=zfp q106
theorem F_kiln_Kiln_Climate_eq(ds:List D):F_kiln_Kiln_Climate ds=zgp q106 ds:=FP_eq (by kernel_rfl) ds
theorem C_kiln_Kiln_Climate:C_ 106 F_kiln_Kiln_Climate:=CP mix Tryz.func106 rfl rfl (by kernel_rfl) trivial trivial
noncomputable def q49:Pk:=⟨⟨[0,2],[4],[],[],[],some [2],[],[],cr,[],[]⟩,[(104,NF_slices_Clone_kiln_Item_kiln_Item)],[],10,Tryz.f49,[.tmp 2]⟩
@[simp] def s49:=pkS (q49.eq_1)
attribute [simp] Tryz.f49
noncomputable def F_kiln_Kiln_Items:FD:=zfp q49
theorem F_kiln_Kiln_Items_eq(ds:List D):F_kiln_Kiln_Items ds=zgp q49 ds:=FP_eq (by kernel_rfl) ds
theorem C_kiln_Kiln_Items:C_ 49 F_kiln_Kiln_Items:=CP mix Tryz.func49 rfl rfl (by kernel_rfl) ⟨NC_slices_Clone_kiln_Item_kiln_Item,trivial⟩ trivial
noncomputable def q107:Pk:=⟨⟨[2,3,4,5,6,8,9,10],[11,24],[],[(3,[3,8,9,10])],[(0,[3]),(1,[3,8,9,10])],some [2],[],[],cr,[],[]⟩,[(49,F_kiln_Kiln_Items),(93,F_moist_Gradient)],[],28,Tryz.f107,[.tmp 2]⟩
@[simp] def s107:=pkS (q107.eq_1)
attribute [simp] Tryz.f107
noncomputable def L_charge_steepest:LD:=zlp q107
noncomputable def R_charge_steepest:RD:=zrp q107
@[simp] theorem l107:LP Tryz.prog gl q107=L_charge_steepest:=rfl
theorem L_charge_steepest_succ(i n:Nat)(s:St):L_charge_steepest i (n+1) s=andThen (R_charge_steepest i s) (zhp q107 n i):=LP_succ (by kernel_rfl) i n s
theorem R_charge_steepest_eq(i:Nat)(s:St):R_charge_steepest i s=zsp q107 i s:=rfl
noncomputable def F_charge_steepest:FD:=zfp q107
theorem F_charge_steepest_eq(ds:List D):F_charge_steepest ds=zgp q107 ds:=FP_eq (by kernel_rfl) ds
theorem C_charge_steepest:C_ 107 F_charge_steepest:=CP mix Tryz.func107 rfl rfl (by kernel_rfl) ⟨C_kiln_Kiln_Items,C_moist_Gradient,trivial⟩ trivial
noncomputable def q108:Pk:=⟨⟨[2],[],[],[],[],some [2],[(1,13)],[],cr,[],[]⟩,[],[],18,Tryz.f108,[.tmp 2]⟩
@[simp] def s108:=pkS (q108.eq_1)
attribute [simp] Tryz.f108
noncomputable def F_kiln_Kiln_Done:FD:=zfp q108
theorem F_kiln_Kiln_Done_eq(ds:List D):F_kiln_Kiln_Done ds=zgp q108 ds:=FP_eq (by kernel_rfl) ds
theorem C_kiln_Kiln_Done:C_ 108 F_kiln_Kiln_Done:=CP mix Tryz.func108 rfl rfl (by kernel_rfl) trivial trivial
noncomputable def q110:Pk:=⟨⟨[4,5,7,8,9,10],[11,23],[5],[(3,[1,5,8,9,10])],[(0,[5]),(1,[1,5,8,9,10])],some [4],[],[(174,true),(175,true)],cr,[],[]⟩,[],[(174,E_sortI),(175,E_compactI)],34,Tryz.f110,[.tmp 4]⟩
@[simp] def s110:=pkS (q110.eq_1)
attribute [simp] Tryz.f110
noncomputable def L_charge_At:LD:=zlp q110
noncomputable def R_charge_At:RD:=zrp q110
@[simp] theorem l110:LP Tryz.prog gl q110=L_charge_At:=rfl
theorem L_charge_At_succ(i n:Nat)(s:St):L_charge_At i (n+1) s=andThen (R_charge_At i s) (zhp q110 n i):=LP_succ (by kernel_rfl) i n s
theorem R_charge_At_eq(i:Nat)(s:St):R_charge_At i s=zsp q110 i s:=rfl
noncomputable def F_charge_At:FD:=zfp q110
theorem F_charge_At_eq(ds:List D):F_charge_At ds=zgp q110 ds:=FP_eq (by kernel_rfl) ds
theorem C_charge_At:C_ 110 F_charge_At:=CP mix Tryz.func110 rfl rfl (by kernel_rfl) trivial ⟨CE_sortI,CE_compactI,trivial⟩
noncomputable def q167:Pk:=⟨⟨[1,3,5,6,7],[16],[],[],[],some [6],[],[],cr,[],[]⟩,[],[],34,Tryz.f167,[.cell 6 90]⟩
@[simp] def s167:=pkS (q167.eq_1)
attribute [simp] Tryz.f167
noncomputable def F_schedule_Target:FD:=zfp q167
theorem F_schedule_Target_eq(ds:List D):F_schedule_Target ds=zgp q167 ds:=FP_eq (by kernel_rfl) ds
theorem C_schedule_Target:C_ 167 F_schedule_Target:=CP mix Tryz.func167 rfl rfl (by kernel_rfl) trivial trivial
noncomputable def q212:Pk:=⟨⟨[1,2],[],[],[],[],some [2],[(1,5)],[],cr,[],[]⟩,[(214,F_units_Clamp)],[],10,Tryz.f212,[.cell 2 90]⟩
@[simp] def s212:=pkS (q212.eq_1)
attribute [simp] Tryz.f212
noncomputable def F_air_clamp:FD:=zfp q212
theorem F_air_clamp_eq(ds:List D):F_air_clamp ds=zgp q212 ds:=FP_eq (by kernel_rfl) ds
theorem C_air_clamp:C_ 212 F_air_clamp:=CP mix Tryz.func212 rfl rfl (by kernel_rfl) ⟨C_units_Clamp,trivial⟩ trivial
noncomputable def q213:Pk:=⟨⟨[1,2,4,5,6],[11,16,18],[],[],[(0,[2,4]),(1,[2,4]),(2,[2,4]),(3,[2,4])],some [4],[],[],cr,[],[]⟩,[(105,F_air_Outside),(148,F_slices_Contains_int_int)],[],30,Tryz.f213,[.cell 4 90]⟩
@[simp] def s213:=pkS (q213.eq_1)
attribute [simp] Tryz.f213
noncomputable def F_air_toward:FD:=zfp q213
theorem F_air_toward_eq(ds:List D):F_air_toward ds=zgp q213 ds:=FP_eq (by kernel_rfl) ds
theorem C_air_toward:C_ 213 F_air_toward:=CP mix Tryz.func213 rfl rfl (by kernel_rfl) ⟨C_air_Outside,C_slices_Contains_int_int,trivial⟩ trivial
noncomputable def q168:Pk:=⟨⟨[2,4,5,8,9],[],[],[],[],some [8],[(4,21)],[],cr,[],[]⟩,[(212,F_air_clamp),(213,F_air_toward),(214,F_units_Clamp)],[],41,Tryz.f168,[.cell 8 90]⟩
@[simp] def s168:=pkS (q168.eq_1)
attribute [simp] Tryz.f168
noncomputable def F_air_Next:FD:=zfp q168
theorem F_air_Next_eq(ds:List D):F_air_Next ds=zgp q168 ds:=FP_eq (by kernel_rfl) ds
theorem C_air_Next:C_ 168 F_air_Next:=CP mix Tryz.func168 rfl rfl (by kernel_rfl) ⟨C_air_clamp,C_air_toward,C_units_Clamp,trivial⟩ trivial
noncomputable def q169:Pk:=⟨⟨[2,4,5,6,7],[8,21],[],[(2,[5,6,7])],[(0,[]),(1,[5,6,7])],some [2],[],[],cr,[],[]⟩,[],[],23,Tryz.f169,[.tmp 2]⟩
@[simp] def s169:=pkS (q169.eq_1)
attribute [simp] Tryz.f169
noncomputable def L_kiln_still:LD:=zlp q169
noncomputable def R_kiln_still:RD:=zrp q169
@[simp] theorem l169:LP Tryz.prog gl q169=L_kiln_still:=rfl
theorem L_kiln_still_succ(i n:Nat)(s:St):L_kiln_still i (n+1) s=andThen (R_kiln_still i s) (zhp q169 n i):=LP_succ (by kernel_rfl) i n s
theorem R_kiln_still_eq(i:Nat)(s:St):R_kiln_still i s=zsp q169 i s:=rfl
noncomputable def F_kiln_still:FD:=zfp q169
theorem F_kiln_still_eq(ds:List D):F_kiln_still ds=zgp q169 ds:=FP_eq (by kernel_rfl) ds
theorem C_kiln_still:C_ 169 F_kiln_still:=CP mix Tryz.func169 rfl rfl (by kernel_rfl) trivial trivial
noncomputable def q259:Pk:=⟨⟨[1,2],[20],[],[],[],some [2],[],[],cr,[],[]⟩,[],[],21,Tryz.f259,[.tmp 2]⟩
@[simp] def s259:=pkS (q259.eq_1)
attribute [simp] Tryz.f259
noncomputable def F_air_Check:FD:=zfp q259
theorem F_air_Check_eq(ds:List D):F_air_Check ds=zgp q259 ds:=FP_eq (by kernel_rfl) ds
theorem C_air_Check:C_ 259 F_air_Check:=CP mix Tryz.func259 rfl rfl (by kernel_rfl) trivial trivial
noncomputable def q234:Pk:=⟨⟨[4,5,7,8],[],[],[],[],some [8],[],[],cr,[],[]⟩,[(101,F_moist_Check),(259,F_air_Check)],[],55,Tryz.f234,[.tmp 8]⟩
@[simp] def s234:=pkS (q234.eq_1)
attribute [simp] Tryz.f234
noncomputable def F_moist_computable:FD:=zfp q234
theorem F_moist_computable_eq(ds:List D):F_moist_computable ds=zgp q234 ds:=FP_eq (by kernel_rfl) ds
theorem C_moist_computable:C_ 234 F_moist_computable:=CP mix Tryz.func234 rfl rfl (by kernel_rfl) ⟨C_moist_Check,C_air_Check,trivial⟩ trivial
noncomputable def q263:Pk:=⟨⟨[0],[],[],[],[],some [0],[],[],cr,[],[]⟩,[],[],11,Tryz.f263,[.cell 0 371]⟩
@[simp] def s263:=pkS (q263.eq_1)
attribute [simp] Tryz.f263
noncomputable def F_air_Table:FD:=zfp q263
theorem F_air_Table_eq(ds:List D):F_air_Table ds=zgp q263 ds:=FP_eq (by kernel_rfl) ds
theorem C_air_Table:C_ 263 F_air_Table:=CP mix Tryz.func263 rfl rfl (by kernel_rfl) trivial trivial
noncomputable def q286:Pk:=⟨⟨[2],[],[],[],[],some [2],[],[],cr,[],[]⟩,[],[],9,Tryz.f286,[.tmp 2]⟩
@[simp] def s286:=pkS (q286.eq_1)
attribute [simp] Tryz.f286
noncomputable def F_curve_inRange:FD:=zfp q286
theorem F_curve_inRange_eq(ds:List D):F_curve_inRange ds=zgp q286 ds:=FP_eq (by kernel_rfl) ds
theorem C_curve_inRange:C_ 286 F_curve_inRange:=CP mix Tryz.func286 rfl rfl (by kernel_rfl) trivial trivial
noncomputable def q285:Pk:=⟨⟨[0,2,3,4,5,6,7],[8,14,25],[],[(2,[0,5,6,7])],[(0,[]),(1,[0,5,6,7])],some [2],[],[],cr,[],[]⟩,[(286,F_curve_inRange)],[],27,Tryz.f285,[.tmp 2]⟩
@[simp] def s285:=pkS (q285.eq_1)
attribute [simp] Tryz.f285
noncomputable def L_curve_checkAxis:LD:=zlp q285
noncomputable def R_curve_checkAxis:RD:=zrp q285
@[simp] theorem l285:LP Tryz.prog gl q285=L_curve_checkAxis:=rfl
theorem L_curve_checkAxis_succ(i n:Nat)(s:St):L_curve_checkAxis i (n+1) s=andThen (R_curve_checkAxis i s) (zhp q285 n i):=LP_succ (by kernel_rfl) i n s
theorem R_curve_checkAxis_eq(i:Nat)(s:St):R_curve_checkAxis i s=zsp q285 i s:=rfl
noncomputable def F_curve_checkAxis:FD:=zfp q285
theorem F_curve_checkAxis_eq(ds:List D):F_curve_checkAxis ds=zgp q285 ds:=FP_eq (by kernel_rfl) ds
theorem C_curve_checkAxis:C_ 285 F_curve_checkAxis:=CP mix Tryz.func285 rfl rfl (by kernel_rfl) ⟨C_curve_inRange,trivial⟩ trivial
noncomputable def q273:Pk:=⟨⟨[1,2,3,4,6,8,49,50,51,61,62,63],[18,28,33,39,47,52,60,64,69],[],[(14,[1,49,50,51]),(19,[1,49,50,51,61,62,63])],[(0,[]),(1,[1,49,50,51]),(2,[1,49,50,51]),(3,[1,49,50,51,61,62,63])],some [2],[],[],cr,[],[]⟩,[(285,F_curve_checkAxis),(286,F_curve_inRange)],[],72,Tryz.f273,[.tmp 2]⟩
@[simp] def s273:=pkS (q273.eq_1)
attribute [simp] Tryz.f273
noncomputable def L_curve_CheckGrid:LD:=zlp q273
noncomputable def R_curve_CheckGrid:RD:=zrp q273
@[simp] theorem l273:LP Tryz.prog gl q273=L_curve_CheckGrid:=rfl
theorem L_curve_CheckGrid_succ(i n:Nat)(s:St):L_curve_CheckGrid i (n+1) s=andThen (R_curve_CheckGrid i s) (zhp q273 n i):=LP_succ (by kernel_rfl) i n s
theorem R_curve_CheckGrid_eq(i:Nat)(s:St):R_curve_CheckGrid i s=zsp q273 i s:=rfl
noncomputable def F_curve_CheckGrid:FD:=zfp q273
theorem F_curve_CheckGrid_eq(ds:List D):F_curve_CheckGrid ds=zgp q273 ds:=FP_eq (by kernel_rfl) ds
theorem C_curve_CheckGrid:C_ 273 F_curve_CheckGrid:=CP mix Tryz.func273 rfl rfl (by kernel_rfl) ⟨C_curve_checkAxis,C_curve_inRange,trivial⟩ trivial
noncomputable def q275:Pk:=⟨⟨[0,4,5,6,11,12],[13],[5],[(3,[0,1,5,11,12])],[(0,[5]),(1,[0,1,5,11,12])],some [4],[(5,11)],[],cr,[],[]⟩,[],[],29,Tryz.f275,[.tmp 4]⟩
@[simp] def s275:=pkS (q275.eq_1)
attribute [simp] Tryz.f275
noncomputable def L_curve_points:LD:=zlp q275
noncomputable def R_curve_points:RD:=zrp q275
@[simp] theorem l275:LP Tryz.prog gl q275=L_curve_points:=rfl
theorem L_curve_points_succ(i n:Nat)(s:St):L_curve_points i (n+1) s=andThen (R_curve_points i s) (zhp q275 n i):=LP_succ (by kernel_rfl) i n s
theorem R_curve_points_eq(i:Nat)(s:St):R_curve_points i s=zsp q275 i s:=rfl
noncomputable def F_curve_points:FD:=zfp q275
theorem F_curve_points_eq(ds:List D):F_curve_points ds=zgp q275 ds:=FP_eq (by kernel_rfl) ds
theorem C_curve_points:C_ 275 F_curve_points:=CP mix Tryz.func275 rfl rfl (by kernel_rfl) trivial trivial
noncomputable def q287:Pk:=⟨⟨[0,2,3,4,11,12,13],[7,10,14,27,40],[],[(6,[0,11,12,13])],[(0,[]),(1,[0,11,12,13])],some [2],[(10,11)],[],cr,[],[]⟩,[(286,F_curve_inRange)],[],42,Tryz.f287,[.tmp 2]⟩
@[simp] def s287:=pkS (q287.eq_1)
attribute [simp] Tryz.f287
noncomputable def L_curve_Check:LD:=zlp q287
noncomputable def R_curve_Check:RD:=zrp q287
@[simp] theorem l287:LP Tryz.prog gl q287=L_curve_Check:=rfl
theorem L_curve_Check_succ(i n:Nat)(s:St):L_curve_Check i (n+1) s=andThen (R_curve_Check i s) (zhp q287 n i):=LP_succ (by kernel_rfl) i n s
theorem R_curve_Check_eq(i:Nat)(s:St):R_curve_Check i s=zsp q287 i s:=rfl
noncomputable def F_curve_Check:FD:=zfp q287
theorem F_curve_Check_eq(ds:List D):F_curve_Check ds=zgp q287 ds:=FP_eq (by kernel_rfl) ds
theorem C_curve_Check:C_ 287 F_curve_Check:=CP mix Tryz.func287 rfl rfl (by kernel_rfl) ⟨C_curve_inRange,trivial⟩ trivial
noncomputable def q288:Pk:=⟨⟨[0,1,4,5],[12],[],[],[],some [4],[],[],cr,[],[]⟩,[],[],16,Tryz.f288,[.tmp 4]⟩
@[simp] def s288:=pkS (q288.eq_1)
attribute [simp] Tryz.f288
noncomputable def F_curve_floor:FD:=zfp q288
theorem F_curve_floor_eq(ds:List D):F_curve_floor ds=zgp q288 ds:=FP_eq (by kernel_rfl) ds
theorem C_curve_floor:C_ 288 F_curve_floor:=CP mix Tryz.func288 rfl rfl (by kernel_rfl) trivial trivial
noncomputable def q274:Pk:=⟨⟨[0,1,4,5,6,7],[10,16,24,33],[],[(6,[0,1,5])],[(0,[0]),(1,[0,1,5])],some [4],[(9,12),(10,18)],[],cr,[],[]⟩,[(287,F_curve_Check),(288,F_curve_floor)],[],69,Tryz.f274,[.tmp 4]⟩
@[simp] def s274:=pkS (q274.eq_1)
attribute [simp] Tryz.f274
noncomputable def L_curve_At:LD:=zlp q274
noncomputable def R_curve_At:RD:=zrp q274
@[simp] theorem l274:LP Tryz.prog gl q274=L_curve_At:=rfl
theorem L_curve_At_succ(i n:Nat)(s:St):L_curve_At i (n+1) s=andThen (R_curve_At i s) (zhp q274 n i):=LP_succ (by kernel_rfl) i n s
theorem R_curve_At_eq(i:Nat)(s:St):R_curve_At i s=zsp q274 i s:=rfl
noncomputable def F_curve_At:FD:=zfp q274
theorem F_curve_At_eq(ds:List D):F_curve_At ds=zgp q274 ds:=FP_eq (by kernel_rfl) ds
theorem C_curve_At:C_ 274 F_curve_At:=CP mix Tryz.func274 rfl rfl (by kernel_rfl) ⟨C_curve_Check,C_curve_floor,trivial⟩ trivial
noncomputable def q262:Pk:=⟨⟨[3,6,7,8,9,14,15,16],[12,17],[],[(5,[1,2,3,7,14,15,16])],[(0,[1,3,7]),(1,[1,2,3,7,14,15,16])],some [6],[(9,5)],[],cr,[],[]⟩,[(273,F_curve_CheckGrid),(274,F_curve_At),(275,F_curve_points)],[],36,Tryz.f262,[.tmp 6]⟩
@[simp] def s262:=pkS (q262.eq_1)
attribute [simp] Tryz.f262
noncomputable def L_curve_Value:LD:=zlp q262
noncomputable def R_curve_Value:RD:=zrp q262
@[simp] theorem l262:LP Tryz.prog gl q262=L_curve_Value:=rfl
theorem L_curve_Value_succ(i n:Nat)(s:St):L_curve_Value i (n+1) s=andThen (R_curve_Value i s) (zhp q262 n i):=LP_succ (by kernel_rfl) i n s
theorem R_curve_Value_eq(i:Nat)(s:St):R_curve_Value i s=zsp q262 i s:=rfl
noncomputable def F_curve_Value:FD:=zfp q262
theorem F_curve_Value_eq(ds:List D):F_curve_Value ds=zgp q262 ds:=FP_eq (by kernel_rfl) ds
theorem C_curve_Value:C_ 262 F_curve_Value:=CP mix Tryz.func262 rfl rfl (by kernel_rfl) ⟨C_curve_CheckGrid,C_curve_At,C_curve_points,trivial⟩ trivial
noncomputable def q236:Pk:=⟨⟨[1,2],[],[],[],[],some [2],[(1,5)],[],cr,[],[]⟩,[(262,F_curve_Value),(263,F_air_Table)],[],9,Tryz.f236,[.tmp 2]⟩
@[simp] def s236:=pkS (q236.eq_1)
attribute [simp] Tryz.f236
noncomputable def F_air_Emc:FD:=zfp q236
theorem F_air_Emc_eq(ds:List D):F_air_Emc ds=zgp q236 ds:=FP_eq (by kernel_rfl) ds
theorem C_air_Emc:C_ 236 F_air_Emc:=CP mix Tryz.func236 rfl rfl (by kernel_rfl) ⟨C_curve_Value,C_air_Table,trivial⟩ trivial
noncomputable def q260:Pk:=⟨⟨[0,1,4,5,6,7,8,9,10,11,12,13],[],[],[],[],some [4,5],[],[],cr,[],[]⟩,[],[],51,Tryz.f260,[.tmp 4,.tmp 5]⟩
@[simp] def s260:=pkS (q260.eq_1)
attribute [simp] Tryz.f260
noncomputable def F_math_bits_Mul64:FD:=zfp q260
theorem F_math_bits_Mul64_eq(ds:List D):F_math_bits_Mul64 ds=zgp q260 ds:=FP_eq (by kernel_rfl) ds
theorem C_math_bits_Mul64:C_ 260 F_math_bits_Mul64:=CP mix Tryz.func260 rfl rfl (by kernel_rfl) trivial trivial
noncomputable def q247:Pk:=⟨⟨[0,2],[4,8,14],[],[],[],some [2],[],[],cr,[],[]⟩,[],[],25,Tryz.f247,[.tmp 2]⟩
attribute [simp] Tryz.f247
noncomputable def F_math_bits_Len64:FD:=zfp q247
theorem C_math_bits_Len64:C_ 247 F_math_bits_Len64:=CP mix Tryz.func247 rfl rfl (by kernel_rfl) trivial trivial
noncomputable def q272:Pk:=⟨⟨[2],[],[],[],[],some [2],[],[],cr,[],[]⟩,[(247,F_math_bits_Len64)],[],6,Tryz.f272,[.tmp 2]⟩
attribute [simp] Tryz.f272
noncomputable def F_math_bits_LeadingZeros64:FD:=zfp q272
theorem C_math_bits_LeadingZeros64:C_ 272 F_math_bits_LeadingZeros64:=CP mix Tryz.func272 rfl rfl (by kernel_rfl) ⟨C_math_bits_Len64,trivial⟩ trivial
noncomputable def q261:Pk:=⟨⟨[0,1,2,6,7,8,9,10,11,12,13,14,15,16,17,18],[20,24,27,78,85,113,120],[],[(17,[2,8,9,10,11,13,14,15,16]),(24,[2,8,9,10,14,15,16,17,18])],[(0,[2,8,9,10,11,13,14,15]),(1,[2,8,9,10,11,13,14,15,16]),(2,[2,8,14,15,17,18]),(3,[2,8,9,10,14,15,16,17,18])],some [6,7],[(6,7)],[],cr,[],[]⟩,[(272,F_math_bits_LeadingZeros64)],[],135,Tryz.f261,[.tmp 6,.tmp 7]⟩
@[simp] def s261:=pkS (q261.eq_1)
attribute [simp] Tryz.f261
noncomputable def L_math_bits_Div64:LD:=zlp q261
@[simp] theorem l261:LP Tryz.prog gl q261=L_math_bits_Div64:=rfl
noncomputable def F_math_bits_Div64:FD:=zfp q261
theorem F_math_bits_Div64_eq(ds:List D):F_math_bits_Div64 ds=zgp q261 ds:=FP_eq (by kernel_rfl) ds
theorem C_math_bits_Div64:C_ 261 F_math_bits_Div64:=CP mix Tryz.func261 rfl rfl (by kernel_rfl) ⟨C_math_bits_LeadingZeros64,trivial⟩ trivial
noncomputable def q235:Pk:=⟨⟨[0,1,2,6,7,8,9,10],[20,29,52],[],[],[],some [6],[],[],cr,[],[]⟩,[(214,F_units_Clamp),(260,F_math_bits_Mul64),(261,F_math_bits_Div64)],[],63,Tryz.f235,[.tmp 6]⟩
@[simp] def s235:=pkS (q235.eq_1)
attribute [simp] Tryz.f235
noncomputable def F_units_Toward:FD:=zfp q235
theorem F_units_Toward_eq(ds:List D):F_units_Toward ds=zgp q235 ds:=FP_eq (by kernel_rfl) ds
theorem C_units_Toward:C_ 235 F_units_Toward:=CP mix Tryz.func235 rfl rfl (by kernel_rfl) ⟨C_units_Clamp,C_math_bits_Mul64,C_math_bits_Div64,trivial⟩ trivial
noncomputable def q215:Pk:=⟨⟨[2,5,6,8,10,18],[16,19],[],[],[(0,[5,6,10]),(1,[2,5,6,8,10]),(2,[2,5,6,8,10])],some [10],[(5,11),(6,14)],[],cr,[],[]⟩,[(214,F_units_Clamp),(234,F_moist_computable),(235,F_units_Toward),(236,F_air_Emc)],[],65,Tryz.f215,[.cell 10 66]⟩
@[simp] def s215:=pkS (q215.eq_1)
attribute [simp] Tryz.f215
noncomputable def F_moist_Tick:FD:=zfp q215
theorem F_moist_Tick_eq(ds:List D):F_moist_Tick ds=zgp q215 ds:=FP_eq (by kernel_rfl) ds
theorem C_moist_Tick:C_ 215 F_moist_Tick:=CP mix Tryz.func215 rfl rfl (by kernel_rfl) ⟨C_units_Clamp,C_moist_computable,C_units_Toward,C_air_Emc,trivial⟩ trivial
noncomputable def q170:Pk:=⟨⟨[0,4,5,6,7,13,14,15],[16],[5],[(3,[0,1,5,13,14,15])],[(0,[5]),(1,[0,1,5,13,14,15])],some [4],[(5,16)],[(104,false)],cr,[],[]⟩,[(215,F_moist_Tick)],[(104,E_slices_Clone_kiln_Item_kiln_Item_obj)],40,Tryz.f170,[.tmp 4]⟩
@[simp] def s170:=pkS (q170.eq_1)
attribute [simp] Tryz.f170
noncomputable def L_kiln_Kiln_dried:LD:=zlp q170
noncomputable def R_kiln_Kiln_dried:RD:=zrp q170
@[simp] theorem l170:LP Tryz.prog gl q170=L_kiln_Kiln_dried:=rfl
theorem L_kiln_Kiln_dried_succ(i n:Nat)(s:St):L_kiln_Kiln_dried i (n+1) s=andThen (R_kiln_Kiln_dried i s) (zhp q170 n i):=LP_succ (by kernel_rfl) i n s
theorem R_kiln_Kiln_dried_eq(i:Nat)(s:St):R_kiln_Kiln_dried i s=zsp q170 i s:=rfl
noncomputable def F_kiln_Kiln_dried:FD:=zfp q170
theorem F_kiln_Kiln_dried_eq(ds:List D):F_kiln_Kiln_dried ds=zgp q170 ds:=FP_eq (by kernel_rfl) ds
theorem C_kiln_Kiln_dried:C_ 170 F_kiln_Kiln_dried:=CP mix Tryz.func170 rfl rfl (by kernel_rfl) ⟨C_moist_Tick,trivial⟩ ⟨CE_slices_Clone_kiln_Item_kiln_Item_obj,trivial⟩
noncomputable def q171:Pk:=⟨⟨[4,5,6,7,8,9,10],[11,37],[],[(2,[0,8,9,10])],[(0,[]),(1,[0,8,9,10])],some [4],[],[],cr,[],[]⟩,[(93,F_moist_Gradient)],[],39,Tryz.f171,[.tmp 4]⟩
@[simp] def s171:=pkS (q171.eq_1)
attribute [simp] Tryz.f171
noncomputable def L_kiln_Kiln_steep:LD:=zlp q171
noncomputable def R_kiln_Kiln_steep:RD:=zrp q171
@[simp] theorem l171:LP Tryz.prog gl q171=L_kiln_Kiln_steep:=rfl
theorem L_kiln_Kiln_steep_succ(i n:Nat)(s:St):L_kiln_Kiln_steep i (n+1) s=andThen (R_kiln_Kiln_steep i s) (zhp q171 n i):=LP_succ (by kernel_rfl) i n s
theorem R_kiln_Kiln_steep_eq(i:Nat)(s:St):R_kiln_Kiln_steep i s=zsp q171 i s:=rfl
noncomputable def F_kiln_Kiln_steep:FD:=zfp q171
theorem F_kiln_Kiln_steep_eq(ds:List D):F_kiln_Kiln_steep ds=zgp q171 ds:=FP_eq (by kernel_rfl) ds
theorem C_kiln_Kiln_steep:C_ 171 F_kiln_Kiln_steep:=CP mix Tryz.func171 rfl rfl (by kernel_rfl) ⟨C_moist_Gradient,trivial⟩ trivial
noncomputable def q173:Pk:=⟨⟨[0,2,3,5,19,20,21],[15,22],[],[(5,[0,3,19,20,21])],[(0,[0,3]),(1,[0,3,19,20,21])],some [2],[],[],cr,[],[]⟩,[],[],38,Tryz.f173,[.tmp 2]⟩
@[simp] def s173:=pkS (q173.eq_1)
attribute [simp] Tryz.f173
noncomputable def L_kiln_Kiln_Mean:LD:=zlp q173
noncomputable def R_kiln_Kiln_Mean:RD:=zrp q173
@[simp] theorem l173:LP Tryz.prog gl q173=L_kiln_Kiln_Mean:=rfl
theorem L_kiln_Kiln_Mean_succ(i n:Nat)(s:St):L_kiln_Kiln_Mean i (n+1) s=andThen (R_kiln_Kiln_Mean i s) (zhp q173 n i):=LP_succ (by kernel_rfl) i n s
theorem R_kiln_Kiln_Mean_eq(i:Nat)(s:St):R_kiln_Kiln_Mean i s=zsp q173 i s:=rfl
noncomputable def F_kiln_Kiln_Mean:FD:=zfp q173
theorem F_kiln_Kiln_Mean_eq(ds:List D):F_kiln_Kiln_Mean ds=zgp q173 ds:=FP_eq (by kernel_rfl) ds
theorem C_kiln_Kiln_Mean:C_ 173 F_kiln_Kiln_Mean:=CP mix Tryz.func173 rfl rfl (by kernel_rfl) trivial trivial
noncomputable def q172:Pk:=⟨⟨[1,4,8,9,10],[19,44],[],[],[],some [8,9],[],[],cr,[],[]⟩,[],[],48,Tryz.f172,[.tmp 8,.tmp 9]⟩
@[simp] def s172:=pkS (q172.eq_1)
attribute [simp] Tryz.f172
noncomputable def F_schedule_Ends:FD:=zfp q172
theorem F_schedule_Ends_eq(ds:List D):F_schedule_Ends ds=zgp q172 ds:=FP_eq (by kernel_rfl) ds
theorem C_schedule_Ends:C_ 172 F_schedule_Ends:=CP mix Tryz.func172 rfl rfl (by kernel_rfl) trivial trivial
noncomputable def q109:Pk:=⟨⟨[0,1,4,5,6,7,8,9],[15,55,101],[],[],[],some [4],[(3,14),(4,13),(13,19)],[],cr,[],[]⟩,[(108,F_kiln_Kiln_Done),(167,F_schedule_Target),(168,F_air_Next),(169,F_kiln_still),(170,F_kiln_Kiln_dried),(171,F_kiln_Kiln_steep),(172,F_schedule_Ends),(173,F_kiln_Kiln_Mean)],[],112,Tryz.f109,[.tmp 4]⟩
@[simp] def s109:=pkS (q109.eq_1)
attribute [simp] Tryz.f109
noncomputable def E_kiln_Kiln_Tick:ED:=zep q109
theorem E_kiln_Kiln_Tick_eq(hs:List (Nat×O))(ds:List D):E_kiln_Kiln_Tick hs ds=zge q109 hs ds:=EP_eq (by kernel_rfl) hs ds
theorem CE_kiln_Kiln_Tick:CE_ 109 E_kiln_Kiln_Tick:=CEP mix Tryz.func109 rfl rfl (by kernel_rfl) ⟨C_kiln_Kiln_Done,C_schedule_Target,C_air_Next,C_kiln_still,C_kiln_Kiln_dried,C_kiln_Kiln_steep,C_schedule_Ends,C_kiln_Kiln_Mean,trivial⟩ trivial
noncomputable def q111:Pk:=⟨⟨[0,2,3],[5],[],[],[],some [2,3],[(3,9)],[],cr,[],[]⟩,[],[],14,Tryz.f111,[.tmp 2,.tmp 3]⟩
@[simp] def s111:=pkS (q111.eq_1)
attribute [simp] Tryz.f111
noncomputable def F_kiln_Kiln_Ticks:FD:=zfp q111
theorem F_kiln_Kiln_Ticks_eq(ds:List D):F_kiln_Kiln_Ticks ds=zgp q111 ds:=FP_eq (by kernel_rfl) ds
theorem C_kiln_Kiln_Ticks:C_ 111 F_kiln_Kiln_Ticks:=CP mix Tryz.func111 rfl rfl (by kernel_rfl) trivial trivial
noncomputable def q112:Pk:=⟨⟨[0,2],[4],[],[],[],some [2],[],[],cr,[],[]⟩,[],[],9,Tryz.f112,[.tmp 2]⟩
@[simp] def s112:=pkS (q112.eq_1)
attribute [simp] Tryz.f112
noncomputable def F_kiln_Kiln_Stage:FD:=zfp q112
theorem F_kiln_Kiln_Stage_eq(ds:List D):F_kiln_Kiln_Stage ds=zgp q112 ds:=FP_eq (by kernel_rfl) ds
theorem C_kiln_Kiln_Stage:C_ 112 F_kiln_Kiln_Stage:=CP mix Tryz.func112 rfl rfl (by kernel_rfl) trivial trivial
noncomputable def q47:Pk:=⟨⟨[0,6,7,8,9,22],[],[],[(5,[0,1,2,6,7,8])],[(0,[0,6,7]),(1,[0,1,2,6,7,8]),(2,[0,1,2,6,7,8])],some [6],[(10,4)],[(109,false)],cr,[],[]⟩,[(106,F_kiln_Kiln_Climate),(107,F_charge_steepest),(108,F_kiln_Kiln_Done),(110,F_charge_At),(111,F_kiln_Kiln_Ticks),(112,F_kiln_Kiln_Stage)],[(109,E_kiln_Kiln_Tick)],63,Tryz.f47,[.cell 6 92]⟩
@[simp] def s47:=pkS (q47.eq_1)
attribute [simp] Tryz.f47
noncomputable def L_charge_run:LD:=zlp q47
noncomputable def R_charge_run:RD:=zrp q47
@[simp] theorem l47:LP Tryz.prog gl q47=L_charge_run:=rfl
theorem L_charge_run_succ(i n:Nat)(s:St):L_charge_run i (n+1) s=andThen (R_charge_run i s) (zhp q47 n i):=LP_succ (by kernel_rfl) i n s
theorem R_charge_run_eq(i:Nat)(s:St):R_charge_run i s=zsp q47 i s:=rfl
noncomputable def E_charge_run:ED:=zep q47
theorem E_charge_run_eq(hs:List (Nat×O))(ds:List D):E_charge_run hs ds=zge q47 hs ds:=EP_eq (by kernel_rfl) hs ds
theorem CE_charge_run:CE_ 47 E_charge_run:=CEP mix Tryz.func47 rfl rfl (by kernel_rfl) ⟨C_kiln_Kiln_Climate,C_charge_steepest,C_kiln_Kiln_Done,C_charge_At,C_kiln_Kiln_Ticks,C_kiln_Kiln_Stage,trivial⟩ ⟨CE_kiln_Kiln_Tick,trivial⟩
noncomputable def q24:Pk:=⟨⟨[0,2],[4],[5],[],[],some [2],[],[],cr,[],[]⟩,[],[],8,Tryz.f24,[.tmp 2]⟩
@[simp] def s24:=pkS (q24.eq_1)
attribute [simp] Tryz.f24
noncomputable def F_slices_Clone_api_Defect_api_Defect:FD:=zfp q24
theorem F_slices_Clone_api_Defect_api_Defect_eq(ds:List D):F_slices_Clone_api_Defect_api_Defect ds=zgp q24 ds:=FP_eq (by kernel_rfl) ds
theorem C_slices_Clone_api_Defect_api_Defect:C_ 24 F_slices_Clone_api_Defect_api_Defect:=CP mix Tryz.func24 rfl rfl (by kernel_rfl) trivial trivial
noncomputable def NF_slices_Clone_api_Defect_api_Defect(ds:List D):Option D:=nilF F_slices_Clone_api_Defect_api_Defect (.own true []) ds
theorem NF_slices_Clone_api_Defect_api_Defect_sl(es:List (List D)):NF_slices_Clone_api_Defect_api_Defect [.sl es]=if es.length=0 then some (.own true []) else F_slices_Clone_api_Defect_api_Defect [.sl es]:=Eq.trans rfl rfl
theorem NC_slices_Clone_api_Defect_api_Defect:C_ 24 NF_slices_Clone_api_Defect_api_Defect:=fun ds r h=>nilF_ok C_slices_Clone_api_Defect_api_Defect (fun A c=>by rw[F_slices_Clone_api_Defect_api_Defect_eq];cases A<;>simp) ds r h
noncomputable def q48:Pk:=⟨⟨[1,4,5,6,7,8,12,13,14],[15],[5],[(3,[0,5,12,13,14])],[(0,[5]),(1,[0,5,12,13,14])],some [4],[],[],cr,[],[]⟩,[(24,NF_slices_Clone_api_Defect_api_Defect)],[],37,Tryz.f48,[.tmp 4]⟩
@[simp] def s48:=pkS (q48.eq_1)
attribute [simp] Tryz.f48
noncomputable def L_charge_dried:LD:=zlp q48
noncomputable def R_charge_dried:RD:=zrp q48
@[simp] theorem l48:LP Tryz.prog gl q48=L_charge_dried:=rfl
theorem L_charge_dried_succ(i n:Nat)(s:St):L_charge_dried i (n+1) s=andThen (R_charge_dried i s) (zhp q48 n i):=LP_succ (by kernel_rfl) i n s
theorem R_charge_dried_eq(i:Nat)(s:St):R_charge_dried i s=zsp q48 i s:=rfl
noncomputable def F_charge_dried:FD:=zfp q48
theorem F_charge_dried_eq(ds:List D):F_charge_dried ds=zgp q48 ds:=FP_eq (by kernel_rfl) ds
theorem C_charge_dried:C_ 48 F_charge_dried:=CP mix Tryz.func48 rfl rfl (by kernel_rfl) ⟨NC_slices_Clone_api_Defect_api_Defect,trivial⟩ trivial
noncomputable def q17:Pk:=⟨⟨[0,3,4,6,7,10,11,12,13,15,16,18,19,20,21,37,38,39,72,73,74],[27,35,40,50,66,75,95],[16],[(7,[0,3,4,6,7,11,37,38,39]),(16,[0,3,4,6,7,11,16,72,73,74])],[(0,[0,3,4,6,7,11]),(1,[0,3,4,6,7,11,37,38,39]),(2,[0,3,4,6,7,11,16]),(3,[0,3,4,6,7,11,16,72,73,74])],some [10,11,12],[(18,7),(24,6)],[(46,false),(47,false)],cr,[],[]⟩,[(44,F_charge_Check),(45,F_charge_thickness),(48,F_charge_dried),(49,F_kiln_Kiln_Items)],[(46,E_kiln_New),(47,E_charge_run)],107,Tryz.f17,[.tmp 10,.cell 11 92,.tmp 12]⟩
@[simp] def s17:=pkS (q17.eq_1)
attribute [simp] Tryz.f17
noncomputable def L_charge_Dry:LD:=zlp q17
noncomputable def R_charge_Dry:RD:=zrp q17
@[simp] theorem l17:LP Tryz.prog gl q17=L_charge_Dry:=rfl
theorem L_charge_Dry_succ(i n:Nat)(s:St):L_charge_Dry i (n+1) s=andThen (R_charge_Dry i s) (zhp q17 n i):=LP_succ (by kernel_rfl) i n s
theorem R_charge_Dry_eq(i:Nat)(s:St):R_charge_Dry i s=zsp q17 i s:=rfl
noncomputable def F_charge_Dry:FD:=zfp q17
theorem F_charge_Dry_eq(ds:List D):F_charge_Dry ds=zgp q17 ds:=FP_eq (by kernel_rfl) ds
theorem C_charge_Dry:C_ 17 F_charge_Dry:=CP mix Tryz.func17 rfl rfl (by kernel_rfl) ⟨C_charge_Check,C_charge_thickness,C_charge_dried,C_kiln_Kiln_Items,trivial⟩ ⟨CE_kiln_New,CE_charge_run,trivial⟩
noncomputable def q43(self:FD):Pk:=⟨⟨[1,2,4,5,6],[16],[],[(3,[1,2,5,6])],[(0,[5]),(1,[1,2,5,6])],some [4],[],[],cr,[],[]⟩,[(43,self)],[],31,Tryz.f43,[.tmp 4]⟩
@[simp] def s43(self:FD):=pkS (q43.eq_1 self)
attribute [simp] Tryz.f43
noncomputable def L_law45_size(self:FD):LD:=zlp (q43 self)
noncomputable def R_law45_size(self:FD):RD:=zrp (q43 self)
@[simp] theorem l43(self:FD):LP Tryz.prog gl (q43 self)=L_law45_size self:=rfl
theorem L_law45_size_succ(self:FD)(i n:Nat)(s:St):L_law45_size self i (n+1) s=andThen (R_law45_size self i s) (zhp (q43 self) n i):=LP_succ (by kernel_rfl) i n s
theorem R_law45_size_eq(self:FD)(i:Nat)(s:St):R_law45_size self i s=zsp (q43 self) i s:=rfl
noncomputable def FN_law45_size:Nat→FD
 |0=>fun _=>none
 |n+1=>zfp (q43 (FN_law45_size n))
theorem FN_law45_size_eq(n:Nat)(ds:List D):FN_law45_size (n+1) ds=zgp (q43 (FN_law45_size n)) ds:=FP_eq (by kernel_rfl) ds
theorem CN_law45_size:∀n,C_ 43 (FN_law45_size n)
 |0=>fun _ _ h=>by cases h
 |n+1=>CP mix Tryz.func43 rfl rfl (by kernel_rfl) ⟨CN_law45_size n,trivial⟩ trivial
noncomputable def F_law45_size:FD:=FN_law45_size 1000
theorem C_law45_size:C_ 43 F_law45_size:=CN_law45_size 1000
noncomputable def q14:Pk:=⟨⟨[1,2,3,4,5],[44,49,79,88],[],[(4,[1,3]),(10,[1,4,5])],[(0,[1]),(1,[1,3]),(2,[4]),(3,[1,4,5])],some [2],[],[],cr,[],[]⟩,[(43,F_law45_size)],[],102,Tryz.f14,[.tmp 2]⟩
@[simp] def s14:=pkS (q14.eq_1)
attribute [simp] Tryz.f14
noncomputable def L_law45_Small:LD:=zlp q14
noncomputable def R_law45_Small:RD:=zrp q14
@[simp] theorem l14:LP Tryz.prog gl q14=L_law45_Small:=rfl
theorem L_law45_Small_succ(i n:Nat)(s:St):L_law45_Small i (n+1) s=andThen (R_law45_Small i s) (zhp q14 n i):=LP_succ (by kernel_rfl) i n s
theorem R_law45_Small_eq(i:Nat)(s:St):R_law45_Small i s=zsp q14 i s:=rfl
noncomputable def F_law45_Small:FD:=zfp q14
theorem F_law45_Small_eq(ds:List D):F_law45_Small ds=zgp q14 ds:=FP_eq (by kernel_rfl) ds
theorem C_law45_Small:C_ 14 F_law45_Small:=CP mix Tryz.func14 rfl rfl (by kernel_rfl) ⟨C_law45_size,trivial⟩ trivial
noncomputable def q19:Pk:=⟨⟨[0],[],[],[],[],some [0],[],[],cr,[],[]⟩,[],[],5,Tryz.f19,[.tmp 0]⟩
@[simp] def s19:=pkS (q19.eq_1)
attribute [simp] Tryz.f19
noncomputable def F_law45_Plank:FD:=zfp q19
theorem F_law45_Plank_eq(ds:List D):F_law45_Plank ds=zgp q19 ds:=FP_eq (by kernel_rfl) ds
theorem C_law45_Plank:C_ 19 F_law45_Plank:=CP mix Tryz.func19 rfl rfl (by kernel_rfl) trivial trivial
noncomputable def q51:Pk:=⟨⟨[2],[],[],[],[],some [2],[],[],cr,[],[]⟩,[],[],5,Tryz.f51,[.cell 2 132]⟩
@[simp] def s51:=pkS (q51.eq_1)
attribute [simp] Tryz.f51
noncomputable def F_law45_feature:FD:=zfp q51
theorem F_law45_feature_eq(ds:List D):F_law45_feature ds=zgp q51 ds:=FP_eq (by kernel_rfl) ds
theorem C_law45_feature:C_ 51 F_law45_feature:=CP mix Tryz.func51 rfl rfl (by kernel_rfl) trivial trivial
noncomputable def q52:Pk:=⟨⟨[2],[],[],[],[],some [2],[],[],cr,[],[]⟩,[],[],5,Tryz.f52,[.cell 2 132]⟩
@[simp] def s52:=pkS (q52.eq_1)
attribute [simp] Tryz.f52
noncomputable def F_law45_number:FD:=zfp q52
theorem F_law45_number_eq(ds:List D):F_law45_number ds=zgp q52 ds:=FP_eq (by kernel_rfl) ds
theorem C_law45_number:C_ 52 F_law45_number:=CP mix Tryz.func52 rfl rfl (by kernel_rfl) trivial trivial
noncomputable def q50:Pk:=⟨⟨[4,5,6],[],[],[],[],some [6],[],[],cr,[],[]⟩,[],[],12,Tryz.f50,[.cell 6 132]⟩
@[simp] def s50:=pkS (q50.eq_1)
attribute [simp] Tryz.f50
noncomputable def F_law45_two:FD:=zfp q50
theorem F_law45_two_eq(ds:List D):F_law45_two ds=zgp q50 ds:=FP_eq (by kernel_rfl) ds
theorem C_law45_two:C_ 50 F_law45_two:=CP mix Tryz.func50 rfl rfl (by kernel_rfl) trivial trivial
noncomputable def q20:Pk:=⟨⟨[0,1,2],[],[],[],[],some [0],[],[],cr,[],[]⟩,[(50,F_law45_two),(51,F_law45_feature),(52,F_law45_number)],[],22,Tryz.f20,[.tmp 0]⟩
@[simp] def s20:=pkS (q20.eq_1)
attribute [simp] Tryz.f20
noncomputable def F_law45_Table:FD:=zfp q20
theorem F_law45_Table_eq(ds:List D):F_law45_Table ds=zgp q20 ds:=FP_eq (by kernel_rfl) ds
theorem C_law45_Table:C_ 20 F_law45_Table:=CP mix Tryz.func20 rfl rfl (by kernel_rfl) ⟨C_law45_two,C_law45_feature,C_law45_number,trivial⟩ trivial
noncomputable def q28:Pk:=⟨⟨[1,2],[],[],[],[],some [2],[],[],cr,[],[]⟩,[],[],28,Tryz.f28,[.tmp 2]⟩
@[simp] def s28:=pkS (q28.eq_1)
attribute [simp] Tryz.f28
noncomputable def F_ref13_Empty:FD:=zfp q28
theorem F_ref13_Empty_eq(ds:List D):F_ref13_Empty ds=zgp q28 ds:=FP_eq (by kernel_rfl) ds
theorem C_ref13_Empty:C_ 28 F_ref13_Empty:=CP mix Tryz.func28 rfl rfl (by kernel_rfl) trivial trivial
end Go.Proofs.YtbdgblipbpadeaaGreatDoor
