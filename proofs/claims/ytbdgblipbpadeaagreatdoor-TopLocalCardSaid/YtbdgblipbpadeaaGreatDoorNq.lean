/-
  pattern.Leaves, run abstractly.
-/
import Derived.Test.YtbdgblipbpadeaaGreatDoorNp
import Derived.Test.YtbdgblipbpadeaaGreatDoorMx
set_option linter.unusedSimpArgs false
set_option linter.unusedVariables false
set_option linter.defProp false
namespace Go.Proofs.YtbdgblipbpadeaaGreatDoor
open Go Go.Abs
set_option maxHeartbeats 4000000
set_option maxRecDepth 100000
structure Lf where
 r:Rc
 p:Int
def eLf(l:Lf):List D:=[I l.r.xa,I l.r.xb,I l.r.ya,I l.r.yb,I l.p]
@[simp] theorem eLf_eq(l:Lf):eLf l=[I l.r.xa,I l.r.xb,I l.r.ya,I l.r.yb,I l.p]:=rfl
def lfM(n:Nd)(x:Plc):List Lf:=if n.kind=0 then[⟨x.r,-1⟩] else if n.kind=1 then[⟨x.r,n.at'⟩] else[]
def lvM(kerf:Int):List Nd→List Plc→List Lf
 |[],_=>[]
 |_::_,[]=>[]
 |n::r,x::o=>lfM n x++lvM kerf r (pushM kerf n x o)
abbrev HL(r:Rc)(nd:List Nd)(kerf:Int)(l:List Lf):St:=⟨[(0,D.agg [I r.xa,I r.xb,I r.ya,I r.yb,D.sl (List.map eNd nd)]),(1,I kerf),(2,D.ptr 2002 0),(4,.emp),(5,I 0),(6,I 0),(7,D.ptr 2007 0),(8,.any),(9,.any),(10,.any),(19,.any),(28,.any)],
 [(2002,O.box 39 [I r.xa,I r.xb,I r.ya,I r.yb,D.sl (List.map eNd nd)]),(2007,O.box 167 [.row 210700]),(210700,.row 181 5 true (l.map eLf))]⟩
theorem ckM_next{kerf:Int}{bd:Rc→Int→Int}{n:Nd}{r:List Nd}{x:Plc}{o:List Plc}(h:ckM kerf bd (n::r) (x::o)=0):cnM n x=0∧(n.kind=1→bd x.r n.at'=0)∧ckM kerf bd r (pushM kerf n x o)=0:=by
 unfold ckM at h
 generalize hv:(if cnM n x=0∧n.kind=1 then bd x.r n.at' else cnM n x)=v at h
 by_cases hv0:v=0
 ·rw[if_pos hv0] at h
  subst hv0
  by_cases h0:cnM n x=0
  ·refine⟨h0,fun h1=>?_,h⟩
   rw[if_pos ⟨h0,h1⟩] at hv
   exact hv
  ·rw[if_neg (fun h=>h0 h.1)] at hv
   exact absurd hv h0
 ·rw[if_neg hv0] at h
  exact absurd h hv0
theorem leaves_loop(bd:Rc→Int→Int)(r:Rc)(nd:List Nd)(kerf:Int)(hl:nd.length≤1000):∀(rest:List Nd) (i:Nat) (o:List Plc) (l:List Lf),nd.drop i=rest→ckM kerf bd rest o=0→l.length≤i→
  rgRun (RRP Tryz.prog gl q60) ((plcs kerf rest i o).map xP) (HL r nd kerf l)=some (.norm,HL r nd kerf (l++lvM kerf rest o)):=by
 intro rest
 induction rest with
 |nil=>
  intro i o l hr hc hll
  cases o with
  |nil=>simp[plcs_nil,rgRun_nil,lvM]
  |cons x o=>cases hc
 |cons n rest ih=>
  intro i o l hr hc hll
  obtain⟨_,g2,g3,g4⟩:=dcT (enc:=eNd) hr
  have g5:nd[i]? =some n:=by have:=congrArg List.head? hr;simpa using this
  cases o with
  |nil=>cases hc
  |cons x o=>
   have hb:(l.length+1)*41≤140737488355328:=by omega
   have hc:=(ckM_next hc).2.2
   have ih0:=fun l' hl'=>ih (i+1) (pushM kerf n x o) l' g3 hc hl'
   simp only[plcs,List.map_cons,rgRun_cons,RRP_eq,lvM]
   simp only[HL] at ih0⊢
   generalize pushM kerf n x o=o' at*
   unfold lfM
   by_cases h0:n.kind=0
   ·have ih:=ih0 (l++[⟨x.r,-1⟩]) (by simp;omega)
    simp at ih
    simp[g2,g5,h0,hb]
    exact ih
   ·by_cases h1:n.kind=1
    ·have ih:=ih0 (l++[⟨x.r,n.at'⟩]) (by simp;omega)
     simp at ih
     simp[g2,g5,h0,h1,hb]
     exact ih
    ·have ih:=ih0 l (by omega)
     simp at ih
     simp[g2,g5,h0,h1,hb]
     exact ih
theorem leaves_run(r:Rc)(nd:List Nd)(kerf:Int):E_pattern_Leaves [] [.agg [I r.xa,I r.xb,I r.ya,I r.yb,.sl (nd.map eNd)],I kerf]=some (if chkM (fun _ k=>abM k) r nd kerf=0 then(.tup [.own true ((lvM kerf nd [⟨r,1⟩]).map eLf),I 0],[]) else(.tup [.emp,I (chkM (fun _ k=>abM k) r nd kerf)],[])):=by
 have hc:=checkA_run r nd kerf
 have pl:=places_run r nd kerf
 rw[E_pattern_Leaves_eq]
 by_cases h:chkM (fun _ k=>abM k) r nd kerf=0
 ·have h':=h
  unfold chkM at h'
  split at h'
  ·cases h'
  split at h'
  ·cases h'
  split at h'
  ·cases h'
  rename_i hn
  have hx:=itsP_run r nd kerf (by omega)
  have hg:=leaves_loop _ r nd kerf (by omega) nd 0 [⟨r,1⟩] [] rfl h' (by simp)
  rw[h] at hc
  simp only[HL,List.map_nil,List.nil_append,Int.natCast_zero] at hg
  simp[hc,pl,hx,lensR_xP,hg,h]
 ·simp[hc,h]
end Go.Proofs.YtbdgblipbpadeaaGreatDoor
namespace Go.Proofs.YtbdgblipbpadeaaGreatDoor
open Go Go.Abs
set_option maxHeartbeats 4000000
set_option maxRecDepth 100000
def c1M(l:List Pd)(r:Rc)(k:Int):Int:=if k<0∨(l.length:Int)≤k then 8 else match l[k.toNat]? with
 |some p=>if(lenS r.xa r.xb=greenT p∧lenS r.ya r.yb=greenW p)∨(lenS r.xa r.xb=greenW p∧lenS r.ya r.yb=greenT p) then 0 else 20
 |none=>0
structure I64R(r:Rc):Prop where
 xa:i64 r.xa
 xb:i64 r.xb
 ya:i64 r.ya
 yb:i64 r.yb
theorem check1_run(l:List Pd)(r:Rc)(k:Int)(hr:I64R r):E_pattern_Check_1 [(1000,.box 26 [.sl (l.map ePd)])] [.agg (eRc r),I k,.ptr 1000 0]=some (I (c1M l r k),[(1000,.box 26 [.sl (l.map ePd)])]):=by
 rw[E_pattern_Check_1_eq]
 unfold c1M
 by_cases a1:k<0
 ·simp[a1]
 by_cases a2:(l.length:Int)≤k
 ·simp[a1,a2]
 have hlt:k.toNat<l.length:=by omega
 have hk:0≤k:=by omega
 obtain⟨p,hx⟩:∃p,l[k.toNat]? =some p:=⟨_,List.getElem?_eq_getElem hlt⟩
 clear hlt
 rw[hx]
 dsimp only
 have hg:=green_run p
 have h1:=slen_run r.xa r.xb hr.xa hr.xb
 have h2:=slen_run r.ya r.yb hr.ya hr.yb
 generalize greenT p=t at*
 generalize greenW p=w at*
 generalize lenS r.xa r.xb=x at*
 generalize lenS r.ya r.yb=y at*
 simp at hg
 have e:∀A:List (Nat×O),(if x≠t∨y≠w then if x≠w∨y≠t then some (I 20,A) else some (I 0,A) else some (I 0,A))=some (I (if(x=t∧y=w)∨(x=w∧y=t) then 0 else 20),A):=by
  intro A
  by_cases b1:x=t<;>by_cases b2:y=w<;>by_cases b3:x=w<;>by_cases b4:y=t<;>simp_all
 rw[if_neg (by omega:¬(k<0∨(l.length:Int)≤k)),←e]
 clear e
 simp[a1,a2,hk,hx,hg,h1,h2]
 by_cases b1:x=t<;>by_cases b2:y=w<;>by_cases b3:x=w<;>by_cases b4:y=t<;>simp_all
theorem along_i64{r:Rc}(h:I64R r)(k:Int):i64 (alongM r k).1∧i64 (alongM r k).2:=by
 unfold alongM
 split
 ·exact⟨h.xa,h.xb⟩
 ·exact⟨h.ya,h.yb⟩
theorem with_i64{r:Rc}(h:I64R r)(k:Int){s:Int×Int}(h1:i64 s.1)(h2:i64 s.2):I64R (withM r k s):=by
 unfold withM
 split
 ·exact⟨h1,h2,h.ya,h.yb⟩
 ·exact⟨h.xa,h.xb,h1,h2⟩
theorem wrap_in(n:Int):i64 (IntKind.i64.wrap n):=by
 unfold i64
 rw[IntKind.wrap_i64]
 omega
theorem end_i64{r:Rc}(h:I64R r)(n:Nd)(kerf:Int):i64 (endM r n kerf):=by
 unfold endM
 split
 ·exact(along_i64 h _).2
 ·exact wrap_in _
theorem push_i64(kerf:Int)(n:Nd)(x:Plc)(o:List Plc)(hn:i64 n.at')(ho:∀p∈x::o,I64R p.r):∀p∈pushM kerf n x o,I64R p.r:=by
 have hx:=ho x List.mem_cons_self
 have ho2:∀p∈o,I64R p.r:=fun p hp=>ho p (List.mem_cons_of_mem _ hp)
 unfold pushM
 split
 ·intro p hp
  rcases List.mem_cons.1 hp with rfl|hp
  ·exact with_i64 hx _ (along_i64 hx _).1 hn
  ·rcases List.mem_cons.1 hp with rfl|hp
   ·exact with_i64 hx _ (end_i64 hx n kerf) (along_i64 hx _).2
   ·exact ho2 p hp
 ·exact ho2
abbrev HB(r:Rc)(nd:List Nd)(kerf e u:Int)(pds:List Pd):St:=⟨[(0,D.agg [I r.xa,I r.xb,I r.ya,I r.yb,D.sl (List.map eNd nd)]),(1,I kerf),(2,D.clo 189 [1000]),(3,D.ptr 2003 0),(5,D.ptr 2005 0),(6,D.ptr 2006 0),(7,D.ptr 2007 0),(8,.any),(9,.any),(10,.any),(11,.any),(28,.any)],
 [(1000,.box 26 [.sl (pds.map ePd)]),(2003,O.box 39 [I r.xa,I r.xb,I r.ya,I r.yb,D.sl (List.map eNd nd)]),(2005,O.box 250 [D.clo 189 [1000]]),(2006,O.box 58 [(I e)]),(2007,O.box 3 [(I u)])]⟩
theorem checkB_loop(r:Rc)(nd:List Nd)(kerf:Int)(pds:List Pd)(hl:nd.length≤1000)(hn:∀n∈nd,i64 n.at'):∀(rest:List Nd) (i:Nat) (o:List Plc),nd.drop i=rest→i≤nd.length→(∀p∈o,I64R p.r)→
  ((
   ∃j:Nat,rgRun (RRP Tryz.prog gl q127) ((plcs kerf rest i o).map xP) (HB r nd kerf 0 i pds)=some (.norm,HB r nd kerf 0 j pds)∧j≤nd.length∧ckM kerf (c1M pds) rest o=if j<nd.length then 4 else 0)∨
   ∃j:Nat,rgRun (RRP Tryz.prog gl q127) ((plcs kerf rest i o).map xP) (HB r nd kerf 0 i pds)=some (.ret,HB r nd kerf (ckM kerf (c1M pds) rest o) j pds)):=by
 intro rest
 induction rest with
 |nil=>
  intro i o hr hi ho
  have hle:=List.drop_eq_nil_iff.1 hr
  cases o with
  |nil=>exact .inl ⟨i,rfl,hi,by rw[if_neg (by omega)];rfl⟩
  |cons x o=>
   refine .inr ⟨i, ?_⟩
   have h1':(nd.length:Int)≤i:=by omega
   simp only[plcs,List.map_cons,List.map_nil,rgRun_cons,RRP_eq]
   simp[h1',ckM]
 |cons n rest ih=>
  intro i o hr hi ho
  obtain⟨_,g2,g3,g4⟩:=dcT (enc:=eNd) hr
  have g5:nd[i]? =some n:=by have:=congrArg List.head? hr;simpa using this
  cases o with
  |nil=>exact .inl ⟨i,by rw[plcs_nil];rfl,hi,by rw[if_pos g4];rfl⟩
  |cons x o=>
   have h1':¬(nd.length:Int)≤i:=by omega
   have hwi:IntKind.i64.wrap ((i:Int)+1)=i+1:=wrap64 (by omega) (by omega)
   have hc:=checkNode_run n x
   have hab:=check1_run pds x.r n.at' (ho x (by simp))
   have ho':=push_i64 kerf n x o (hn n (List.mem_of_getElem? g5)) ho
   have ih:=ih (i+1) (pushM kerf n x o) g3 (by omega) ho'
   simp only[plcs,List.map_cons,rgRun_cons,RRP_eq,ckM]
   clear ho'
   generalize pushM kerf n x o=o' at*
   generalize cnM n x=c at*
   generalize c1M pds x.r n.at'=b at*
   simp at hc hab ih
   by_cases hc0:c=0
   ·subst hc0
    by_cases hk:n.kind=1
    ·by_cases hb:b=0
     ·subst hb
      simp[hk] at hc
      simp[g2,h1',g5,hc,hk,hab,hwi]
      exact ih
     ·simp[hk] at hc
      refine .inr ⟨i, ?_⟩
      simp[g2,h1',g5,hc,hk,hab,hwi,hb]
    ·simp[g2,h1',g5,hc,hk,hwi]
     exact ih
   ·refine .inr ⟨i, ?_⟩
    simp[g2,h1',g5,hc,hc0]
theorem checkB_run(r:Rc)(nd:List Nd)(kerf:Int)(pds:List Pd)(hr:I64R r)(hn:∀n∈nd,i64 n.at'):E_pattern_check [(1000,.box 26 [.sl (pds.map ePd)])] [.agg [I r.xa,I r.xb,I r.ya,I r.yb,.sl (nd.map eNd)],I kerf,.clo 189 [1000]]=some (I (chkM (c1M pds) r nd kerf),[(1000,.box 26 [.sl (pds.map ePd)])]):=by
 have hf:=isFrame_run r
 have pl:=places_run r nd kerf
 rw[E_pattern_check_eq]
 unfold chkM
 simp at hf
 cases b1:frameM r
 ·rw[b1] at hf
  simp[hf]
 rw[b1] at hf
 by_cases b2:kerf<0
 ·simp[hf,b2]
 by_cases b3:20<kerf
 ·simp[hf,b2,b3]
 by_cases b4:127<nd.length
 ·have b4':127<(nd.length:Int):=by omega
  simp[hf,b2,b3,b4,b4']
 have b4':¬127<(nd.length:Int):=by omega
 have hx:=itsP_run r nd kerf (by omega)
 rcases checkB_loop r nd kerf pds (by omega) hn nd 0 [⟨r,1⟩] rfl (by omega) (by simpa using hr) with⟨j,h1,h2,h3⟩|⟨j,h1⟩
 ·rw[h3]
  simp at h1
  by_cases hj:j<nd.length
  ·have hj':(j:Int)<nd.length:=by omega
   simp[hf,b2,b3,b4,b4',pl,hx,lensR_xP,h1,hj,hj']
  ·have hj':¬(j:Int)<nd.length:=by omega
   simp[hf,b2,b3,b4,b4',pl,hx,lensR_xP,h1,hj,hj']
 ·simp at h1
  simp[hf,b2,b3,b4,b4',pl,hx,lensR_xP,h1]
theorem patCheck_run(r:Rc)(nd:List Nd)(kerf:Int)(pds:List Pd)(hr:I64R r)(hn:∀n∈nd,i64 n.at'):F_pattern_Check [.agg [I r.xa,I r.xb,I r.ya,I r.yb,.sl (nd.map eNd)],.sl (pds.map ePd),I kerf]=some (I (chkM (c1M pds) r nd kerf)):=by
 have h:=checkB_run r nd kerf pds hr hn
 rw[F_pattern_Check_eq]
 simp[h]
end Go.Proofs.YtbdgblipbpadeaaGreatDoor
