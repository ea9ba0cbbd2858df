/-
  Grades in plain words.
-/
import Derived.Test.YtbdgblipbpadeaaGreatDoorNa
import Derived.Test.YtbdgblipbpadeaaGreatDoorNd
set_option linter.unusedSimpArgs false
set_option linter.unusedVariables false
set_option linter.defProp false
namespace Go.Proofs.YtbdgblipbpadeaaGreatDoor
open Go Go.Abs
set_option maxHeartbeats 2000000
set_option maxRecDepth 100000
structure Gg where
 b:Bd
 ps:List Pd
 s:Spc
 rs:List (Int×Rl.Ex)
def eGg(g:Gg):List D:=[S g.b.id,S g.b.log,S g.b.sp,I g.b.prod,I g.b.xa,I g.b.xb,I g.b.ya,I g.b.yb,I g.b.za,I g.b.zb,I g.b.vol,.sl (g.b.dfs.map eDf),I g.b.wane,I g.b.cel.s,I g.b.cel.c,I g.b.cel.st,B g.b.dried,I g.b.grade,.sl (g.ps.map ePd),
 S g.s.name,I g.s.green,I g.s.fast,I g.s.slow,I g.s.safe,I g.s.grad,I g.s.crack,I g.s.temp,I g.s.dep,I g.s.dens,I g.s.stiff,I g.s.loss,I g.s.shrink,.sl (g.rs.map Rl.eR)]
@[simp] theorem eGg_eq(g:Gg):eGg g=[S g.b.id,S g.b.log,S g.b.sp,I g.b.prod,I g.b.xa,I g.b.xb,I g.b.ya,I g.b.yb,I g.b.za,I g.b.zb,I g.b.vol,.sl (g.b.dfs.map eDf),I g.b.wane,I g.b.cel.s,I g.b.cel.c,I g.b.cel.st,B g.b.dried,I g.b.grade,.sl (g.ps.map ePd),
 S g.s.name,I g.s.green,I g.s.fast,I g.s.slow,I g.s.safe,I g.s.grad,I g.s.crack,I g.s.temp,I g.s.dep,I g.s.dens,I g.s.stiff,I g.s.loss,I g.s.shrink,.sl (g.rs.map Rl.eR)]:=rfl
abbrev Rls:=List (Int×Rl.Ex)
def chkG(b:Bd)(c:List Pd)(s:Spc)(l:Rls):Int:=
 if checkPd c=0 then if checkB b c=0 then if s.name=b.sp then if checkW s=0 then Rl.checkRulesM nmsF l else checkW s else 24 else checkB b c else checkPd c
def gOf(b:Bd)(c:List Pd)(s:Spc)(l:Rls):Int×Int×Int:=if chkG b c s l=0 then Rl.gradeL (featsO b c s) 0 l else(0,0,chkG b c s l)
theorem chkG_zero{b:Bd}{c:List Pd}{s:Spc}{l:Rls}(h:chkG b c s l=0):checkPd c=0∧checkB b c=0∧s.name=b.sp∧checkW s=0∧Rl.checkRulesM nmsF l=0:=by
 unfold chkG at h
 repeat' split at h
 all_goals first|omega|exact⟨by assumption,by assumption,by assumption,by assumption,h⟩
theorem nms_featsO{b:Bd}{c:List Pd}{s:Spc}(h1:checkB b c=0)(h2:checkW s=0):Rl.nms (featsO b c s)=nmsF:=by
 unfold featsO
 rw[if_pos ⟨h1,h2⟩]
 obtain⟨p,hp,_⟩:=checkB_zero h1
 rw[hp]
 simp[feats,Rl.nms,nmsF]
theorem featsO_le(b:Bd)(c:List Pd)(s:Spc):(featsO b c s).length≤18:=by
 unfold featsO
 split
 ·split
  ·simp[feats]
  ·simp
 ·simp
theorem gradeM_eq{b:Bd}{c:List Pd}{s:Spc}{l:Rls}(h:chkG b c s l=0):Rl.gradeM l (featsO b c s)=Rl.gradeL (featsO b c s) 0 l:=by
 obtain⟨_,h2,_,h4,h5⟩:=chkG_zero h
 unfold Rl.gradeM
 rw[nms_featsO h2 h4,if_pos h5]
theorem eFt_Rl:eFt=Rl.eF:=rfl
theorem eNm_Abs:eNm=Go.Abs.eS:=rfl
end Go.Proofs.YtbdgblipbpadeaaGreatDoor
namespace Go.Proofs.YtbdgblipbpadeaaGreatDoor
open Go Go.Abs
set_option maxHeartbeats 8000000
set_option maxRecDepth 100000
theorem gcheck_run(b:Bd)(c:List Pd)(s:Spc)(l:Rls)(hl:l.length≤1000)(hx:∀x∈l,Rl.Fits x.2):
  F_grading_check [.agg (eBd b),.sl (c.map ePd),.agg (eS s),.sl (l.map Rl.eR)]=some (I (chkG b c s l)):=by
 rw[F_grading_check_eq]
 have h1:=checkPd_run c
 have h2:=bcheck_run b c
 have h3:=wood_run s
 have h4:=names_run
 have h5:=Rl.CheckRules_run nmsF (by decide) l hl hx
 rw[←eNm_Abs] at h5
 simp at h1 h2 h3 h4 h5
 unfold chkG
 by_cases g1:checkPd c=0
 ·by_cases g2:checkB b c=0
  ·by_cases g3:s.name=b.sp
   ·rw[g3] at h3
    by_cases g4:checkW s=0<;>simp[h1,h2,h3,h4,h5,g1,g2,g3,g4]
   ·simp[h1,h2,h3,h4,h5,g1,g2,g3]
  ·simp[h1,h2,g1,g2]
 ·simp[h1,g1]
theorem of1_run(f:List (ByteArray×Int))(l:Rls)(a b e:Int)(h3:F_rule_Grade [.sl (l.map Rl.eR),.sl (f.map eFt)]=some (.tup [I a,I b,I e])):E_grading_Of_1 [(1000,.box 115 [.sl (f.map eFt)])] [.sl (l.map Rl.eR),.ptr 1000 0]=some (.tup [I a,I b,I e],[(1000,.box 115 [.sl (f.map eFt)])]):=by
 rw[E_grading_Of_1_eq]
 simp[h3]
theorem gof_run(b:Bd)(c:List Pd)(s:Spc)(l:Rls)(hl:l.length≤1000)(hx:∀x∈l,Rl.Fits x.2):
  F_grading_Of [.agg (eBd b),.sl (c.map ePd),.agg (eS s),.sl (l.map Rl.eR)]=some (.tup [I (gOf b c s l).1,I (gOf b c s l).2.1,I (gOf b c s l).2.2]):=by
 rw[F_grading_Of_eq]
 have h1:=gcheck_run b c s l hl hx
 have h2:=ofO_run b c s
 have h3:=Rl.Grade_run (featsO b c s) (by have:=featsO_le b c s;omega) l hl hx
 rw[←eFt_Rl] at h3
 have h4:=of1_run _ l _ _ _ h3
 unfold gOf
 by_cases g:chkG b c s l=0
 ·rw[if_pos g,←gradeM_eq g]
  rw[g] at h1
  generalize featsO b c s=f at*
  generalize Rl.gradeM l f=q at*
  simp at h1 h2
  simp[h1,h2,h4]
 ·rw[if_neg g]
  simp at h1
  simp[h1,g]
end Go.Proofs.YtbdgblipbpadeaaGreatDoor
