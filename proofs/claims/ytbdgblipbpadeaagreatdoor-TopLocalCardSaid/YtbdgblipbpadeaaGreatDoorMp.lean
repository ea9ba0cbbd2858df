/-
  The kiln's functions that only look at a kiln, run abstractly.
-/
import Derived.Test.YtbdgblipbpadeaaGreatDoorMn
set_option linter.unusedSimpArgs false
set_option linter.unusedVariables false
set_option linter.defProp false
namespace Go.Proofs.YtbdgblipbpadeaaGreatDoor
open Go Go.Abs
set_option maxHeartbeats 4000000
set_option maxRecDepth 100000
def cK(k:Kl)(sg it:D):List D:=[S k.name,I k.ramp,sg,S k.w.name,I k.w.green,I k.w.fast,I k.w.slow,I k.w.safe,I k.w.grad,I k.w.crack,I k.w.temp,I k.w.dep,I k.w.dens,I k.w.stiff,I k.w.loss,I k.w.shrink,it,I k.t,I k.d,I k.stage,I k.ins,I k.ticks,I k.held]
@[simp] theorem cK_eq(k:Kl)(sg it:D):cK k sg it=[S k.name,I k.ramp,sg,S k.w.name,I k.w.green,I k.w.fast,I k.w.slow,I k.w.safe,I k.w.grad,I k.w.crack,I k.w.temp,I k.w.dep,I k.w.dens,I k.w.stiff,I k.w.loss,I k.w.shrink,it,I k.t,I k.d,I k.stage,I k.ins,I k.ticks,I k.held]:=rfl
def eK(k:Kl):List D:=cK k (.sl (k.stages.map eSg)) (.sl (k.items.map eT))
@[simp] theorem eK_eq(k:Kl):eK k=cK k (.sl (k.stages.map eSg)) (.sl (k.items.map eT)):=rfl
theorem done_run(k:Kl):F_kiln_Kiln_Done [.elt (eK k)]=some (B (decide ((k.stage:Int)=k.stages.length))):=by
 rw[F_kiln_Kiln_Done_eq];simp
theorem climate_run(k:Kl):F_kiln_Kiln_Climate [.elt (eK k)]=some (.agg [I k.t,I k.d]):=by
 rw[F_kiln_Kiln_Climate_eq];simp
theorem stage_run(k:Kl):F_kiln_Kiln_Stage [.elt (eK k)]=some (I k.stage):=by
 rw[F_kiln_Kiln_Stage_eq];simp
theorem ticksK_run(k:Kl):F_kiln_Kiln_Ticks [.elt (eK k)]=some (.tup [I k.ticks,I k.held]):=by
 rw[F_kiln_Kiln_Ticks_eq];simp
theorem items_run(k:Kl)(h:k.items.length≤1000000):F_kiln_Kiln_Items [.elt (eK k)]=some (.own true (k.items.map eT)):=by
 rw[F_kiln_Kiln_Items_eq]
 simp[cloneT_run,h]
theorem dried_loop(k:Kl)(fan:Bool):∀(n:Nat) (a r:List Itm),r.length<n→a.length+r.length≤1000000→
  L_kiln_Kiln_dried 3 n ⟨[(0,.elt (eK k)),(1,B fan),(4,.any),(5,.row 5),(6,.any),(7,.any),(13,.row 5),(14,I (a.length+r.length:Nat)),(15,I a.length)],[(5,.row 146 4 true ((a++r).map eT))]⟩=
   some (.ex 0,⟨[(0,.any),(1,.any),(4,.any),(5,.row 5),(6,.any),(7,.any),(13,.any),(14,.any),(15,.any)],[(5,.row 146 4 true ((a++dryL k.w k.t k.d fan r).map eT))]⟩)
 |0,_,_,hn,_=>by omega
 |n+1,a,[],hn,hb=>by
  rw[L_kiln_Kiln_dried_succ,R_kiln_Kiln_dried_eq]
  simp[dryL]
 |n+1,a,x::r,hn,hb=>by
  rw[L_kiln_Kiln_dried_succ,R_kiln_Kiln_dried_eq]
  have ht:=tick_run x.cel k.w x.th k.t k.d fan
  simp at ht
  have hw:=wrapN (n:=a.length) (by omega)
  have h4:(a.length:Int)<(a.length+(x::r).length:Nat):=by simp;omega
  have ih:=dried_loop k fan n (a++[⟨x.th,tick x.cel k.w x.th k.t k.d fan⟩]) r (by simp at hn;omega) (by simp at hb⊢;omega)
  have h1:((a++x::r).map eT)[a.length]? =some (eT x):=by simp
  have hs:((a++x::r).map eT).set a.length (eT ⟨x.th,tick x.cel k.w x.th k.t k.d fan⟩)=(((a++[(⟨x.th,tick x.cel k.w x.th k.t k.d fan⟩:Itm)])++r).map eT):=by simp
  have hl:(a++[(⟨x.th,tick x.cel k.w x.th k.t k.d fan⟩:Itm)]).length+r.length=a.length+(x::r).length:=by simp;omega
  have hl2:(((a++[(⟨x.th,tick x.cel k.w x.th k.t k.d fan⟩:Itm)]).length:Nat):Int)=(a.length:Int)+1:=by simp
  have hd:(a++[(⟨x.th,tick x.cel k.w x.th k.t k.d fan⟩:Itm)])++dryL k.w k.t k.d fan r=a++dryL k.w k.t k.d fan (x::r):=by simp[dryL]
  rw[hl,hl2,hd] at ih
  generalize(a++x::r).map eT=es at h1 hs⊢
  generalize((a++[(⟨x.th,tick x.cel k.w x.th k.t k.d fan⟩:Itm)])++r).map eT=es' at hs ih
  generalize a.length+(x::r).length=m at h4 ih⊢
  generalize(a++dryL k.w k.t k.d fan (x::r)).map eT=es2 at ih⊢
  simp at hs ih
  simp[h1,h4,ht,hw,hs,ih]
theorem dryK_run(k:Kl)(fan:Bool)(h0:0<k.items.length)(h:k.items.length≤1000000):F_kiln_Kiln_dried [.elt (eK k),B fan]=some (.own true ((dryL k.w k.t k.d fan k.items).map eT)):=by
 rw[F_kiln_Kiln_dried_eq]
 cases hi:k.items with
 |nil=>rw[hi] at h0;simp at h0
 |cons x r=>
  rw[hi] at h
  have hc:=cloneTo_run x r (by simp at h;omega)
  have ih:=dried_loop k fan bigL [] (x::r) (by have:=bigL_ge;omega) (by simpa using h)
  generalize dryL k.w k.t k.d fan (x::r)=out at ih⊢
  simp[hi] at hc ih
  simp[hi,hc,ih]
theorem steep_loop(k:Kl)(l:List Itm)(hl:l.length=k.items.length)(hb:l.length≤1000000):∀(n i:Nat) (r q:List Itm),l.drop i=r→k.items.drop i=q→r.length<n→
  L_kiln_Kiln_steep 2 n ⟨[(0,.elt (eK k)),(1,.any),(4,.any),(5,.any),(6,.any),(7,.any),(8,.sl (l.map eT)),(9,I l.length),(10,I i)],[]⟩=
   if steepL k.w.grad r q=true then some (.ret,⟨[(0,.any),(1,.any),(4,B true),(5,.any),(6,.any),(7,.any),(8,.any),(9,.any),(10,.any)],[]⟩) else some (.ex 0,⟨[(0,.any),(1,.any),(4,.any),(5,.any),(6,.any),(7,.any),(8,.any),(9,.any),(10,.any)],[]⟩)
 |0,_,_,_,_,_,hn=>by omega
 |n+1,i,[],q,hr,hq,hn=>by
  rw[L_kiln_Kiln_steep_succ,R_kiln_Kiln_steep_eq]
  simp[dn hr,steepL]
 |n+1,i,x::r,[],hr,hq,hn=>by
  have:=List.drop_eq_nil_iff.1 hq
  obtain⟨_,_,_,hi⟩:=dc (enc:=eT) hr
  omega
 |n+1,i,x::r,y::q,hr,hq,hn=>by
  rw[L_kiln_Kiln_steep_succ,R_kiln_Kiln_steep_eq]
  obtain⟨h1,h3,hr',hi⟩:=dc (enc:=eT) hr
  obtain⟨k1,k3,hq',ki⟩:=dc (enc:=eT) hq
  have hw:=wrapN (n:=i) (by omega)
  have ih:=steep_loop k l hl hb n (i+1) r q hr' hq' (by simp at hn;omega)
  have g1:=grad_run x.cel
  have g2:=grad_run y.cel
  simp at ih g1 g2
  by_cases a1:k.w.grad<grad x.cel
  ·by_cases a2:grad y.cel<grad x.cel
   ·simp[h1,h3,k1,k3,hw,ih,g1,g2,steepL,a1,a2]
   ·simp[h1,h3,k1,k3,hw,ih,g1,g2,steepL,a1,a2]
  ·simp[h1,h3,k1,k3,hw,ih,g1,g2,steepL,a1]
theorem steep_run(k:Kl)(l:List Itm)(hl:l.length=k.items.length)(hb:l.length≤1000000):F_kiln_Kiln_steep [.elt (eK k),.sl (l.map eT)]=some (B (steepL k.w.grad l k.items)):=by
 rw[F_kiln_Kiln_steep_eq]
 have ih:=steep_loop k l hl hb bigL 0 l k.items rfl rfl (by have:=bigL_ge;omega)
 simp at ih
 cases h:steepL k.w.grad l k.items<;>simp[ih,h]
theorem mean_loop(k:Kl)(hb:k.items.length≤1000000):∀(n i:Nat) (r:List Itm) (s:Int),k.items.drop i=r→r.length<n→
  L_kiln_Kiln_Mean 5 n ⟨[(0,.elt (eK k)),(2,.any),(3,I s),(5,.any),(19,.sl (k.items.map eT)),(20,I k.items.length),(21,I i)],[]⟩=
   some (.ex 0,⟨[(0,.elt (eK k)),(2,.any),(3,I (sumL s r)),(5,.any),(19,.any),(20,.any),(21,.any)],[]⟩)
 |0,_,_,_,_,hn=>by omega
 |n+1,i,[],s,hr,hn=>by
  rw[L_kiln_Kiln_Mean_succ,R_kiln_Kiln_Mean_eq]
  simp[dn hr,sumL]
 |n+1,i,x::r,s,hr,hn=>by
  rw[L_kiln_Kiln_Mean_succ,R_kiln_Kiln_Mean_eq]
  obtain⟨h1,h3,hr',hi⟩:=dc (enc:=eT) hr
  have hw:=wrapN (n:=i) (by omega)
  have ih:=mean_loop k hb n (i+1) r (IntKind.i64.wrap (s+x.cel.c)) hr' (by simp at hn;omega)
  simp at ih
  simp[h1,h3,hw,ih,sumL]
theorem meanK_run(k:Kl)(hb:k.items.length≤1000000):F_kiln_Kiln_Mean [.elt (eK k)]=some (I (meanL k.items)):=by
 rw[F_kiln_Kiln_Mean_eq]
 unfold meanL
 have ih:=mean_loop k hb bigL 0 k.items 0 rfl (by have:=bigL_ge;omega)
 simp at ih
 by_cases h:k.items.length=0
 ·simp[h]
 ·simp[h,ih]
end Go.Proofs.YtbdgblipbpadeaaGreatDoor
namespace Go.Proofs.YtbdgblipbpadeaaGreatDoor
open Go Go.Abs
set_option maxHeartbeats 8000000
set_option maxRecDepth 100000
theorem tickC_run(k:Kl)(f:List Int)(hs:k.stage<k.stages.length)(hg:k.stages.length≤1000)(h0:0<k.items.length)(hb:k.items.length≤1000000)(t d:Int)(st:Bool)
  (hn:F_air_Next [.agg [I k.t,I k.d],.agg [I (tgtT k),I (tgtD k)],I k.ramp,.sl (f.map eI)]=some (.agg [I t,I d]))(hf:F_kiln_still [.sl (f.map eI)]=some (B st)):
  E_kiln_Kiln_Tick [(1000,.box 227 (eK k))] [.ptr 1000 0,.sl (f.map eI)]=
   some (B (!doneK (tickC k t d st)),[(1000,.box 227 (cK (tickC k t d st) (.sl (k.stages.map eSg)) (.own true ((tickC k t d st).items.map eT))))]):=by
 have h1:=done_run k
 rw[decide_eq_false (by omega)] at h1
 have h2:=target_run k.name k.ramp k.w k.stage k.stages hs
 rw[←stgK_eq hs] at h2
 have e1:(if k.w.temp<(stgK k).temp then k.w.temp else(stgK k).temp)=tgtT k:=rfl
 have e2:(if k.w.dep<(stgK k).dep then k.w.dep else(stgK k).dep)=tgtD k:=rfl
 rw[e1,e2] at h2
 have d0:=dryK_run ⟨k.name,k.ramp,k.stages,k.w,k.items,t,d,k.stage,k.ins,k.ticks,k.held⟩ false h0 hb
 have d1:=dryK_run ⟨k.name,k.ramp,k.stages,k.w,k.items,t,d,k.stage,k.ins,k.ticks,k.held⟩ true h0 hb
 have s1:=steep_run ⟨k.name,k.ramp,k.stages,k.w,k.items,t,d,k.stage,k.ins,k.ticks,k.held⟩ (dryL k.w t d true k.items) (by simp) (by simpa using hb)
 have hl:∀fan,(dryL k.w t d fan k.items).length≤1000000:=fun fan=>by simpa using hb
 have m1:=fun fan held=>meanK_run ⟨k.name,k.ramp,k.stages,k.w,dryL k.w t d fan k.items,t,d,k.stage,IntKind.i64.wrap (k.ins+1),IntKind.i64.wrap (k.ticks+1),held⟩ (hl fan)
 have n1:=fun mean=>ends_run k.name k.ramp k.stage k.stages hs hg (IntKind.i64.wrap (k.ins+1)) mean
 rw[←stgK_eq hs] at n1
 have f1:=fun fan held (sg:Nat) ins=>done_run ⟨k.name,k.ramp,k.stages,k.w,dryL k.w t d fan k.items,t,d,sg,ins,IntKind.i64.wrap (k.ticks+1),held⟩
 have f2:=fun fan held ins=>f1 fan held (k.stage+1) ins
 unfold tickC itsK holdK doneK
 rw[E_kiln_Kiln_Tick_eq]
 simp at h1 h2 d0 d1 s1 m1 f1 f2
 cases st
 ·cases hst:steepL k.w.grad (dryL k.w t d true k.items) k.items
  ·rw[hst] at s1
   cases he:endsG (stgK k) (IntKind.i64.wrap (k.ins+1)) (meanL (dryL k.w t d true k.items))
   ·simp[h1,h2,hn,hf,d0,d1,s1,m1,n1,f1,he]
   ·simp[h1,h2,hn,hf,d0,d1,s1,m1,n1,f2,he]
  ·rw[hst] at s1
   cases he:endsG (stgK k) (IntKind.i64.wrap (k.ins+1)) (meanL (dryL k.w t d false k.items))
   ·simp[h1,h2,hn,hf,d0,d1,s1,m1,n1,f1,he]
   ·simp[h1,h2,hn,hf,d0,d1,s1,m1,n1,f2,he]
 ·cases he:endsG (stgK k) (IntKind.i64.wrap (k.ins+1)) (meanL (dryL k.w t d false k.items))
  ·simp[h1,h2,hn,hf,d0,d1,s1,m1,n1,f1,he]
  ·simp[h1,h2,hn,hf,d0,d1,s1,m1,n1,f2,he]
theorem tick'_run(k:Kl)(f:List Int)(hfl:f.length≤9223372036854775807)(hs:k.stage<k.stages.length)(hg:k.stages.length≤1000)(h0:0<k.items.length)(hb:k.items.length≤1000000):
  E_kiln_Kiln_Tick [(1000,.box 227 (eK k))] [.ptr 1000 0,.sl (f.map eI)]=
   some (B (!doneK (tickK k f)),[(1000,.box 227 (cK (tickK k f) (.sl (k.stages.map eSg)) (.own true ((tickK k f).items.map eT))))]):=
 tickC_run k f hs hg h0 hb _ _ _ (next_run k.t k.d (tgtT k) (tgtD k) k.ramp f hfl) (still_run f hfl)
theorem newK_loop(nm:ByteArray)(ramp:Int)(g:List Stg)(w:Spc)(l:List Itm)(hl:l.length≤1000000):∀(n i:Nat) (r:List Itm),l.drop i=r→r.length<n→
  L_kiln_New 12 n ⟨[(0,.any),(1,.any),(2,.sl (l.map eT)),(3,.ptr 3 0),(4,.ptr 4 0),(6,.any),(7,.any),(8,.any),(9,.any),(11,.any),(12,.any),(30,.sl (l.map eT)),(31,I l.length),(32,I i)],[(3,.box 45 [S nm,I ramp,.sl (g.map eSg)]),(4,.box 42 (eS w))]⟩=
   if checkT r=0 then some (.ex 0,⟨[(0,.any),(1,.any),(2,.sl (l.map eT)),(3,.ptr 3 0),(4,.ptr 4 0),(6,.any),(7,.any),(8,.any),(9,.any),(11,.any),(12,.any),(30,.any),(31,.any),(32,.any)],[(3,.box 45 [S nm,I ramp,.sl (g.map eSg)]),(4,.box 42 (eS w))]⟩)
   else some (.ret,⟨[(0,.any),(1,.any),(2,.any),(3,.any),(4,.any),(6,.x (.pointer none)),(7,I (checkT r)),(8,.any),(9,.any),(11,.any),(12,.any),(30,.any),(31,.any),(32,.any)],[]⟩)
 |0,_,_,_,hn=>by omega
 |n+1,i,[],hr,hn=>by
  rw[L_kiln_New_succ,R_kiln_New_eq]
  simp[dn hr,checkT]
 |n+1,i,x::r,hr,hn=>by
  rw[L_kiln_New_succ,R_kiln_New_eq]
  obtain⟨h1,h3,hr',hi⟩:=dc (enc:=eT) hr
  have hw:=wrapN (n:=i) (by omega)
  have ih:=newK_loop nm ramp g w l hl n (i+1) r hr' (by simp at hn;omega)
  have hc:=checkM_run x.cel
  simp at ih hc
  by_cases a1:x.th<1
  ·have a1':¬1≤x.th:=by omega
   simp[h1,h3,hc,checkT,a1,a1']
  have a1':1≤x.th:=by omega
  by_cases a2:600<x.th
  ·simp[h1,h3,hc,checkT,a1,a1',a2]
  by_cases a3:checkM x.cel=0
  ·simp[h1,h3,hc,checkT,a1,a1',a2,a3,hw,ih]
  ·simp[h1,h3,hc,checkT,a1,a1',a2,a3]
theorem newBad_run(nm:ByteArray)(ramp:Int)(g:List Stg)(w:Spc)(l:List Itm)(h:¬checkK nm ramp g w l=0):E_kiln_New [] [.agg [S nm,I ramp,.sl (g.map eSg)],.agg (eS w),.sl (l.map eT)]=some (.tup [.x (.pointer none),I (checkK nm ramp g w l)],[]):=by
 have h1:=schedule_run nm ramp g
 have h2:=wood_run w
 simp at h2
 unfold checkK at h⊢
 rw[E_kiln_New_eq]
 by_cases a1:checkSg nm ramp g=0
 ·by_cases a2:checkW w=0
  ·by_cases a3:l.length=0
   ·simp[h1,h2,a1,a2,a3]
   ·by_cases a4:(1024:Int)<l.length
    ·simp[h1,h2,a1,a2,a3,a4]
    ·have ih:=newK_loop nm ramp g w l (by omega) bigL 0 l rfl (by have:=bigL_ge;omega)
     simp[a1,a2,a3,a4] at h
     simp[h] at ih
     simp[h1,h2,a1,a2,a3,a4,ih]
  ·simp[h1,h2,a1,a2]
 ·simp[h1,h2,a1]
theorem newGood_run(nm:ByteArray)(ramp:Int)(g:List Stg)(w:Spc)(l:List Itm)(h:checkK nm ramp g w l=0):E_kiln_New [] [.agg [S nm,I ramp,.sl (g.map eSg)],.agg (eS w),.sl (l.map eT)]=some (.tup [.ptr 61 0,I 0],[(61,.box 227 (cK (newK nm ramp g w l) (.own true (g.map eSg)) (.own true (l.map eT))))]):=by
 have h1:=schedule_run nm ramp g
 have h2:=wood_run w
 simp at h2
 unfold checkK at h
 rw[E_kiln_New_eq]
 by_cases a1:checkSg nm ramp g=0
 ·by_cases a2:checkW w=0
  ·by_cases a3:l.length=0
   ·simp[a1,a2,a3] at h
   ·by_cases a4:(1024:Int)<l.length
    ·simp[a1,a2,a3,a4] at h
    ·have ih:=newK_loop nm ramp g w l (by omega) bigL 0 l rfl (by have:=bigL_ge;omega)
     simp[a1,a2,a3,a4] at h
     simp[h] at ih
     have hgl:g.length≤12∧¬g.length=0:=by
      unfold checkSg at a1
      repeat' split at a1
      all_goals first|omega|simp_all
     have c1:=cloneG_run g (by omega)
     have c2:=cloneT_run l (by omega)
     simp[h1,h2,a1,a2,a3,a4,ih,c1,c2,hgl.2,newK,outside_run]
  ·simp[a1,a2] at h
 ·simp[a1] at h
end Go.Proofs.YtbdgblipbpadeaaGreatDoor
