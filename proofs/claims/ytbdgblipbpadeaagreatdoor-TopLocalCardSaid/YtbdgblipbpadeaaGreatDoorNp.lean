/-
  pattern.check and pattern.Leaves: the rounds over the places of a pattern.
-/
import Derived.Test.YtbdgblipbpadeaaGreatDoorNo
set_option linter.unusedSimpArgs false
set_option linter.unusedVariables false
set_option linter.defProp false
namespace Go.Proofs.YtbdgblipbpadeaaGreatDoor
open Go Go.Abs
set_option maxHeartbeats 4000000
set_option maxRecDepth 100000
theorem lensR_xP:∀(l:List (Int×Plc)),lensR 2 (l.map xP)=true
 |[]=>rfl
 |p::r=>by simp[lensR,lensR_xP r]
theorem places_run(r:Rc)(nd:List Nd)(kerf:Int):E2_pattern_places [] [.agg [I r.xa,I r.xb,I r.ya,I r.yb,.sl (nd.map eNd)],I kerf]=some (.clo 192 [2,10203],[(2,.box 39 [I r.xa,I r.xb,I r.ya,I r.yb,.sl (nd.map eNd)]),(10203,.box 3 [I kerf])]):=by
 unfold E2_pattern_places EPi
 rw[E_pattern_places_eq]
 simp
def frameM(r:Rc):Bool:=decide (-600≤r.xa)&&decide (r.xb≤600)&&decide (r.xa<r.xb)&&decide (-600≤r.ya)&&decide (r.yb≤600)&&decide (r.ya<r.yb)
theorem isFrame_run(r:Rc):F_pattern_isFrame [.agg (eRc r)]=some (B (frameM r)):=by
 obtain⟨m,hm⟩:=bigL_succ 3 (by omega)
 rw[F_pattern_isFrame_eq]
 simp only[hm,zgp,GP]
 unfold frameM
 by_cases a1:r.xa< -600
 ·have:¬-600≤r.xa:=by omega
  simp[L_pattern_isFrame_succ,R_pattern_isFrame_eq,a1,this]
 have b1: -600≤r.xa:=by omega
 by_cases a2:600<r.xb
 ·have:¬r.xb≤600:=by omega
  simp[L_pattern_isFrame_succ,R_pattern_isFrame_eq,a1,a2,this]
 have b2:r.xb≤600:=by omega
 by_cases a3:r.xb≤r.xa
 ·have:¬r.xa<r.xb:=by omega
  simp[L_pattern_isFrame_succ,R_pattern_isFrame_eq,a1,a2,a3,this]
 have b3:r.xa<r.xb:=by omega
 by_cases a4:r.ya< -600
 ·have:¬-600≤r.ya:=by omega
  simp[L_pattern_isFrame_succ,R_pattern_isFrame_eq,a1,a2,a3,a4,this]
 have b4: -600≤r.ya:=by omega
 by_cases a5:600<r.yb
 ·have:¬r.yb≤600:=by omega
  simp[L_pattern_isFrame_succ,R_pattern_isFrame_eq,a1,a2,a3,a4,a5,this]
 have b5:r.yb≤600:=by omega
 by_cases a6:r.yb≤r.ya
 ·have:¬r.ya<r.yb:=by omega
  simp[L_pattern_isFrame_succ,R_pattern_isFrame_eq,a1,a2,a3,a4,a5,a6,this]
 have b6:r.ya<r.yb:=by omega
 simp[L_pattern_isFrame_succ,R_pattern_isFrame_eq,a1,a2,a3,a4,a5,a6,b1,b2,b3,b4,b5,b6]
def cnM(n:Nd)(x:Plc):Int:=if n.kind<0∨3<n.kind∨(n.kind=0∧n.at'≠0) then 10 else if 64<x.lvl then 28 else
 if isRipM n.kind=true∧(n.at'≤(alongM x.r n.kind).1∨(alongM x.r n.kind).2≤n.at') then 20 else 0
theorem checkNode_run(n:Nd)(x:Plc):F_pattern_checkNode [.agg (eNd n),.agg (ePlc x)]=some (I (cnM n x)):=by
 have h1:=isRip_run n.kind
 have h2:=palong_run x.r n.kind
 rw[F_pattern_checkNode_eq]
 unfold cnM
 simp at h2
 by_cases a1:n.kind<0
 ·simp[a1]
 by_cases a2:3<n.kind
 ·simp[a1,a2]
 by_cases a3:n.kind=0
 ·by_cases a4:n.at'=0
  ·by_cases a5:64<x.lvl
   ·simp[a3,a4,a5]
   ·have:isRipM n.kind=false:=by simp[isRipM,a3]
    rw[this,a3] at h1
    simp[a3] at this
    simp[a3,a4,a5,h1,this]
  ·simp[a3,a4]
 by_cases a5:64<x.lvl
 ·simp[a1,a2,a3,a5]
 cases hk:isRipM n.kind
 ·rw[hk] at h1
  simp[a1,a2,a3,a5,h1]
 rw[hk] at h1
 by_cases a6:n.at'≤(alongM x.r n.kind).1
 ·simp[a1,a2,a3,a5,h1,h2,a6]
 ·simp[a1,a2,a3,a5,h1,h2,a6]
def abM(at':Int):Int:=if at'<0∨16≤at' then 8 else 0
theorem anyBoard_run(r:Rc)(k:Int):F_pattern_anyBoard [.agg (eRc r),I k]=some (I (abM k)):=by
 rw[F_pattern_anyBoard_eq]
 unfold abM
 by_cases a:k<0
 ·simp[a]
 ·simp[a]
def ckM(kerf:Int)(bd:Rc→Int→Int):List Nd→List Plc→Int
 |[],[]=>0
 |_::_,[]=>4
 |[],_::_=>3
 |n::r,x::o=>if(if cnM n x=0∧n.kind=1 then bd x.r n.at' else cnM n x)=0 then ckM kerf bd r (pushM kerf n x o) else(if cnM n x=0∧n.kind=1 then bd x.r n.at' else cnM n x)
def chkM(bd:Rc→Int→Int)(r:Rc)(nd:List Nd)(kerf:Int):Int:=if frameM r=false then 19 else if kerf<0∨20<kerf then 9 else if 127<nd.length then 4 else ckM kerf bd nd [⟨r,1⟩]
abbrev HA(r:Rc)(nd:List Nd)(kerf e u:Int):St:=⟨[(0,D.agg [I r.xa,I r.xb,I r.ya,I r.yb,D.sl (List.map eNd nd)]),(1,I kerf),(2,D.x (Value.func (Fn.func 128) #[] #[])),(3,D.ptr 2003 0),(5,D.ptr 2005 0),(6,D.ptr 2006 0),(7,D.ptr 2007 0),(8,.any),(9,.any),(10,.any),(11,.any),(28,.any)],
 [(2003,O.box 39 [I r.xa,I r.xb,I r.ya,I r.yb,D.sl (List.map eNd nd)]),(2005,O.box 250 [D.x (Value.func (Fn.func 128) #[] #[])]),(2006,O.box 58 [(I e)]),(2007,O.box 3 [(I u)])]⟩
theorem checkA_loop(r:Rc)(nd:List Nd)(kerf:Int)(hl:nd.length≤1000):∀(rest:List Nd) (i:Nat) (o:List Plc),nd.drop i=rest→i≤nd.length→
  ((
   ∃j:Nat,rgRun (RRP Tryz.prog gl q127) ((plcs kerf rest i o).map xP) (HA r nd kerf 0 i)=some (.norm,HA r nd kerf 0 j)∧j≤nd.length∧ckM kerf (fun _ k=>abM k) rest o=if j<nd.length then 4 else 0)∨
   ∃j:Nat,rgRun (RRP Tryz.prog gl q127) ((plcs kerf rest i o).map xP) (HA r nd kerf 0 i)=some (.ret,HA r nd kerf (ckM kerf (fun _ k=>abM k) rest o) j)):=by
 intro rest
 induction rest with
 |nil=>
  intro i o hr hi
  have hle:=List.drop_eq_nil_iff.1 hr
  cases o with
  |nil=>exact .inl ⟨i,rfl,hi,by rw[if_neg (by omega)];rfl⟩
  |cons x o=>
   refine .inr ⟨i, ?_⟩
   have h1':(nd.length:Int)≤i:=by omega
   simp only[plcs,List.map_cons,List.map_nil,rgRun_cons,RRP_eq]
   simp[h1',ckM]
 |cons n rest ih=>
  intro i o hr hi
  obtain⟨_,g2,g3,g4⟩:=dcT (enc:=eNd) hr
  have g5:nd[i]? =some n:=by have:=congrArg List.head? hr;simpa using this
  cases o with
  |nil=>exact .inl ⟨i,by rw[plcs_nil];rfl,hi,by rw[if_pos g4];rfl⟩
  |cons x o=>
   have h1':¬(nd.length:Int)≤i:=by omega
   have hwi:IntKind.i64.wrap ((i:Int)+1)=i+1:=wrap64 (by omega) (by omega)
   have hc:=checkNode_run n x
   have hab:=anyBoard_run x.r n.at'
   have ih:=ih (i+1) (pushM kerf n x o) g3 (by omega)
   simp only[plcs,List.map_cons,rgRun_cons,RRP_eq,ckM]
   generalize pushM kerf n x o=o' at*
   generalize cnM n x=c at*
   generalize abM n.at'=b at*
   simp at hc hab ih
   by_cases hc0:c=0
   ·subst hc0
    by_cases hk:n.kind=1
    ·by_cases hb:b=0
     ·subst hb
      simp[hk] at hc
      simp[g2,h1',g5,hc,hk,hab,hwi]
      exact ih
     ·simp[hk] at hc
      refine .inr ⟨i, ?_⟩
      simp[g2,h1',g5,hc,hk,hab,hwi,hb]
    ·simp[g2,h1',g5,hc,hk,hwi]
     exact ih
   ·refine .inr ⟨i, ?_⟩
    simp[g2,h1',g5,hc,hc0]
theorem checkA_run(r:Rc)(nd:List Nd)(kerf:Int):E_pattern_check [] [.agg [I r.xa,I r.xb,I r.ya,I r.yb,.sl (nd.map eNd)],I kerf,.x (.func (.func 128) #[] #[])]=some (I (chkM (fun _ k=>abM k) r nd kerf),[]):=by
 have hf:=isFrame_run r
 have pl:=places_run r nd kerf
 rw[E_pattern_check_eq]
 unfold chkM
 simp at hf
 cases b1:frameM r
 ·rw[b1] at hf
  simp[hf]
 rw[b1] at hf
 by_cases b2:kerf<0
 ·simp[hf,b2]
 by_cases b3:20<kerf
 ·simp[hf,b2,b3]
 by_cases b4:127<nd.length
 ·have b4':127<(nd.length:Int):=by omega
  simp[hf,b2,b3,b4,b4']
 have b4':¬127<(nd.length:Int):=by omega
 have hx:=itsP_run r nd kerf (by omega)
 rcases checkA_loop r nd kerf (by omega) nd 0 [⟨r,1⟩] rfl (by omega) with⟨j,h1,h2,h3⟩|⟨j,h1⟩
 ·rw[h3]
  simp at h1
  by_cases hj:j<nd.length
  ·have hj':(j:Int)<nd.length:=by omega
   simp[hf,b2,b3,b4,b4',pl,hx,lensR_xP,h1,hj,hj']
  ·have hj':¬(j:Int)<nd.length:=by omega
   simp[hf,b2,b3,b4,b4',pl,hx,lensR_xP,h1,hj,hj']
 ·simp at h1
  simp[hf,b2,b3,b4,b4',pl,hx,lensR_xP,h1]
end Go.Proofs.YtbdgblipbpadeaaGreatDoor
