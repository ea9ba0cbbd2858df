/-
  A run of a kiln, and its boards, run abstractly.
-/
import Derived.Test.YtbdgblipbpadeaaGreatDoorMq
set_option linter.unusedSimpArgs false
set_option linter.unusedVariables false
set_option linter.defProp false
namespace Go.Proofs.YtbdgblipbpadeaaGreatDoor.Ch
open Go Go.Abs
set_option maxHeartbeats 16000000
set_option maxRecDepth 100000
def slQ(q:Bool)(es:List (List D)):D:=if q=true then .own true es else .sl es
@[simp] theorem slQ_true(es:List (List D)):slQ true es= .own true es:=rfl
@[simp] theorem slQ_false(es:List (List D)):slQ false es= .sl es:=rfl
theorem run_loop(fs:List Flt)(hfs:fs.length≤1000000)(ticks:Int)(z:List D)(hz:z=[I 0,I 0,I 0,I 0,I 0,I 0]):∀(n m t:Nat) (r:Rn) (q:Bool),(t:Int)+m=ticks→ticks≤20000→m<n→InvK r.k→
  ∃q',L_charge_run 5 n ⟨[(0,.ptr 1000 0),(1,.sl (fs.map eFl)),(2,I ticks),(6,.ptr 6 0),(7,.ptr 7 0),(8,I t),(9,.any),(22,.any)],[(1000,.box 227 (cK r.k (.sl (r.k.stages.map eSg)) (slQ q (r.k.items.map eT)))),(6,.box 92 z),(7,.box 92 [I 0,I 0,I 0,I r.a,I r.b,I r.g])]⟩=
   some (.ex 0,⟨[(0,.ptr 1000 0),(1,.any),(2,.any),(6,.ptr 6 0),(7,.ptr 7 0),(8,.any),(9,.any),(22,.any)],[(1000,.box 227 (cK (runM fs m t r).k (.sl (r.k.stages.map eSg)) (slQ q' ((runM fs m t r).k.items.map eT)))),(6,.box 92 z),(7,.box 92 [I 0,I 0,I 0,I (runM fs m t r).a,I (runM fs m t r).b,I (runM fs m t r).g])]⟩)
 |0,_,_,_,_,_,_,hn,_=>by omega
 |n+1,0,t,r,q,ht,hb,hn,iv=>by
  refine⟨q, ?_⟩
  subst hz
  rw[L_charge_run_succ,R_charge_run_eq]
  have h1:ticks≤(t:Int):=by omega
  unfold runM
  cases q<;>simp[h1]
 |n+1,m+1,t,r,q,ht,hb,hn,iv=>by
  have h1:¬ticks≤(t:Int):=by omega
  have hd:=done_run r.k
  have hw:=wrapN (n:=t) (by omega)
  by_cases a1:doneK r.k=true
  ·refine⟨q, ?_⟩
   subst hz
   rw[L_charge_run_succ,R_charge_run_eq,runM_succ,if_pos a1]
   unfold doneK at a1
   rw[a1] at hd
   simp at hd
   cases q<;>simp[h1,hd]
  ·have hs:r.k.stage<r.k.stages.length:=by
    have:=iv.stage
    simp[doneK] at a1
    omega
   have st12:=iv.stages
   have hmany:=iv.many
   have ha:=cat_run fs t hfs
   have hal:=atM_len fs t
   have hk:=tick'_run r.k (atM fs t) (by omega) hs (by omega) iv.some (by omega)
   have iv2:=inv_tick iv hs (atM fs t)
   have hm2:=iv2.many
   obtain⟨q',ih⟩:=run_loop fs hfs ticks z hz n m (t+1) (goR fs t r) true (by omega) hb (by omega) iv2
   refine⟨q', ?_⟩
   subst hz
   rw[L_charge_run_succ,R_charge_run_eq,runM_succ,if_neg a1]
   have c:=climate_run (tickK r.k (atM fs t))
   have sp:=steepest_run (tickK r.k (atM fs t)) (by omega)
   have a2:decide ((r.k.stage:Int)=r.k.stages.length)=false:=by
    simp
    omega
   rw[a2] at hd
   have e1:(goR fs t r).k=tickK r.k (atM fs t):=rfl
   have e2:(goR fs t r).a=mx r.a (tickK r.k (atM fs t)).t:=rfl
   have e3:(goR fs t r).b=mx r.b (tickK r.k (atM fs t)).d:=rfl
   have e4:(goR fs t r).g=mx r.g (steepM (tickK r.k (atM fs t)).items):=rfl
   have es:(tickK r.k (atM fs t)).stages=r.k.stages:=rfl
   rw[e1,e2,e3,e4,es] at ih
   simp only[eK_eq,es] at c sp
   generalize runM fs m (t+1) (goR fs t r)=R at ih⊢
   generalize(!doneK (tickK r.k (atM fs t)))=dd at hk
   generalize tickK r.k (atM fs t)=k' at*
   generalize steepM k'.items=g' at*
   unfold mx at ih
   simp at hd ha hk c sp ih
   cases q<;>simp[h1,hd,ha,hk,c,sp,hw,ih]
theorem run_run(k:Kl)(fs:List Flt)(hfs:fs.length≤1000000)(ticks:Int)(h0:0≤ticks)(h1:ticks≤20000)(iv:InvK k):
  ∃q,E_charge_run [(1000,.box 227 (eK k))] [.ptr 1000 0,.sl (fs.map eFl),I ticks]=
   some (.agg (eRn (runM fs ticks.toNat 0 (firstR k))),[(1000,.box 227 (cK (runM fs ticks.toNat 0 (firstR k)).k (.sl (k.stages.map eSg)) (slQ q ((runM fs ticks.toNat 0 (firstR k)).k.items.map eT)))),(6,.box 92 (eRn (runM fs ticks.toNat 0 (firstR k))))]):=by
 obtain⟨q,ih⟩:=run_loop fs hfs ticks _ rfl bigL ticks.toNat 0 (firstR k) false (by omega) h1 (by have:=bigL_ge;omega) iv
 refine⟨q, ?_⟩
 rw[E_charge_run_eq]
 have hmany:=iv.many
 have c:=climate_run k
 have sp:=steepest_run k (by omega)
 have es:=(run_same (fs:=fs) ticks.toNat 0 (firstR k) iv).1
 have t1:=ticksK_run (runM fs ticks.toNat 0 (firstR k)).k
 have s1:=stage_run (runM fs ticks.toNat 0 (firstR k)).k
 have e1:(firstR k).k=k:=rfl
 have e2:(firstR k).a=k.t:=rfl
 have e3:(firstR k).b=k.d:=rfl
 have e4:(firstR k).g=steepM k.items:=rfl
 rw[e1,e2,e3,e4] at ih
 rw[e1] at es
 simp only[eK_eq,es] at t1 s1
 generalize runM fs ticks.toNat 0 (firstR k)=R at*
 generalize steepM k.items=g' at*
 simp at c sp t1 s1 ih
 cases q<;>simp[c,sp,ih,t1,s1]
theorem cloneD_run(l:List Dfc)(h:l.length≤1000000):NF_slices_Clone_api_Defect_api_Defect [.sl (l.map eDf)]=some (.own true (l.map eDf)):=by
 cases l with
 |nil=>rw[NF_slices_Clone_api_Defect_api_Defect_sl];simp
 |cons x r=>
  have h2:(r.length+1)*57≤140737488355328:=by simp at h;omega
  rw[NF_slices_Clone_api_Defect_api_Defect_sl,if_neg (by simp),F_slices_Clone_api_Defect_api_Defect_eq]
  simp[h2]
theorem dried'_loop(l:List Bd)(it:List Itm)(hl:l.length=it.length)(hb:l.length≤1000000)(hd:∀b∈l,b.dfs.length≤1000000):∀(n i:Nat) (r:List Bd) (s:List Itm) (a:List Bd) (fl:Bool),l.drop i=r→it.drop i=s→r.length<n→a.length=i→
  L_charge_dried 3 n ⟨[(0,.sl (l.map eBd)),(1,.any),(4,.any),(5,.row 5),(6,.any),(7,.any),(8,.any),(12,.sl (it.map eT)),(13,I it.length),(14,I i)],[(5,.row 68 18 fl (a.map eBd))]⟩=
   some (.ex 0,⟨[(0,.any),(1,.any),(4,.any),(5,.row 5),(6,.any),(7,.any),(8,.any),(12,.any),(13,.any),(14,.any)],[(5,.row 68 18 (fl&&r.isEmpty) ((a++driedM r s).map eBd))]⟩)
 |0,_,_,_,_,_,_,_,hn,_=>by omega
 |n+1,i,[],s,a,fl,hr,hs,hn,ha=>by
  rw[L_charge_dried_succ,R_charge_dried_eq]
  have h3:¬(i:Int)<it.length:=by rw[←hl];exact dn hr
  simp[h3,driedM]
 |n+1,i,x::r,[],a,fl,hr,hs,hn,ha=>by
  have:=List.drop_eq_nil_iff.1 hs
  obtain⟨_,_,_,hi⟩:=dc (enc:=eBd) hr
  omega
 |n+1,i,x::r,y::s,a,fl,hr,hs,hn,ha=>by
  rw[L_charge_dried_succ,R_charge_dried_eq]
  obtain⟨h1,h3,hr',hi⟩:=dc (enc:=eBd) hr
  obtain⟨k1,k3,hs',ki⟩:=dc (enc:=eT) hs
  have hw:=wrapN (n:=i) (by omega)
  have hc:=cloneD_run x.dfs (hd x (List.mem_of_mem_drop (hr▸List.mem_cons_self:x∈l.drop i)))
  have ih:=dried'_loop l it hl hb hd n (i+1) r s (a++[⟨x.id,x.log,x.sp,x.prod,x.xa,x.xb,x.ya,x.yb,x.za,x.zb,x.vol,x.dfs,x.wane,y.cel,true,x.grade⟩]) false hr' hs' (by simp at hn;omega) (by simp[ha])
  have h2:(a.length+1)*185≤140737488355328:=by omega
  simp at ih
  simp[h1,h3,k1,k3,hw,hc,h2,ih,driedM]
theorem dried'_run(l:List Bd)(it:List Itm)(hl:l.length=it.length)(h0:0<l.length)(hb:l.length≤1000000)(hd:∀b∈l,b.dfs.length≤1000000):F_charge_dried [.sl (l.map eBd),.sl (it.map eT)]=some (.own false ((driedM l it).map eBd)):=by
 rw[F_charge_dried_eq]
 have ih:=fun fl=>dried'_loop l it hl hb hd bigL 0 l it [] fl rfl rfl (by have:=bigL_ge;omega) (by simp)
 have e:l.isEmpty=false:=by
  cases l with
  |nil=>simp at h0
  |cons _ _=>rfl
 have h5:184*(it.length:Int)≤281474976710656:=by omega
 have h6:(it.length:Int)≤1000000000000000000:=by omega
 simp[e] at ih
 simp[ih,h5,h6]
end Go.Proofs.YtbdgblipbpadeaaGreatDoor.Ch
namespace Go.Proofs.YtbdgblipbpadeaaGreatDoor.Ch
open Go Go.Abs
set_option maxHeartbeats 16000000
set_option maxRecDepth 100000
theorem dryF_loop(l:List Bd)(w:Spc)(nm:ByteArray)(ramp:Int)(g:List Stg)(fs:List Flt)(ticks:Int)(hf:fs.length≤1000000):∀(n i:Nat) (r:List Flt),fs.drop i=r→r.length<n→
  L_charge_Dry 7 n ⟨[(0,.sl (l.map eBd)),(1,.any),(2,.any),(3,.sl (fs.map eFl)),(4,I ticks),(6,.ptr 6 0),(7,.ptr 7 0),(10,.any),(11,.ptr 11 0),(12,.any),(13,.any),(15,.any),(16,.any),(18,.any),(19,.any),(20,.any),(21,.any),(37,.sl (fs.map eFl)),(38,I fs.length),(39,I i),(72,.any),(73,.any),(74,.any)],[(6,.box 42 (eS w)),(7,.box 45 [S nm,I ramp,.sl (g.map eSg)]),(11,.box 92 [I 0,I 0,I 0,I 0,I 0,I 0])]⟩=
   if checkF r=0 then some (.ex 0,⟨[(0,.sl (l.map eBd)),(1,.any),(2,.any),(3,.sl (fs.map eFl)),(4,I ticks),(6,.ptr 6 0),(7,.ptr 7 0),(10,.any),(11,.ptr 11 0),(12,.any),(13,.any),(15,.any),(16,.any),(18,.any),(19,.any),(20,.any),(21,.any),(37,.any),(38,.any),(39,.any),(72,.any),(73,.any),(74,.any)],[(6,.box 42 (eS w)),(7,.box 45 [S nm,I ramp,.sl (g.map eSg)]),(11,.box 92 [I 0,I 0,I 0,I 0,I 0,I 0])]⟩)
   else some (.ret,⟨[(0,.any),(1,.any),(2,.any),(3,.any),(4,.any),(6,.any),(7,.any),(10,.emp),(11,.ptr 11 0),(12,I (checkF r)),(13,.any),(15,.any),(16,.any),(18,.any),(19,.any),(20,.any),(21,.any),(37,.any),(38,.any),(39,.any),(72,.any),(73,.any),(74,.any)],[(11,.box 92 [I 0,I 0,I 0,I 0,I 0,I 0])]⟩)
 |0,_,_,_,hn=>by omega
 |n+1,i,[],hr,hn=>by
  rw[L_charge_Dry_succ,R_charge_Dry_eq]
  simp[dn hr,checkF]
 |n+1,i,x::r,hr,hn=>by
  rw[L_charge_Dry_succ,R_charge_Dry_eq]
  obtain⟨h1,h3,hr',hi⟩:=dc (enc:=eFl) hr
  have hw:=wrapN (n:=i) (by omega)
  have ih:=dryF_loop l w nm ramp g fs ticks hf n (i+1) r hr' (by simp at hn;omega)
  simp at ih
  by_cases a1:x.kind<1
  ·simp[h1,h3,checkF,a1]
  by_cases a2:3<x.kind
  ·simp[h1,h3,checkF,a1,a2]
  by_cases a3:x.a<0
  ·simp[h1,h3,checkF,a1,a2,a3]
  by_cases a4:x.b≤x.a
  ·simp[h1,h3,checkF,a1,a2,a3,a4]
  by_cases a5:20000<x.b
  ·simp[h1,h3,checkF,a1,a2,a3,a4,a5]
  simp[h1,h3,checkF,a1,a2,a3,a4,a5,hw,ih]
theorem dryI_loop(l:List Bd)(w:Spc)(nm:ByteArray)(ramp:Int)(g:List Stg)(fs:List Flt)(ticks:Int)(hl:l.length≤1000000)(hok:∀b∈l,okBd b):∀(n i:Nat) (r:List Bd) (a:List Itm),l.drop i=r→r.length<n→a.length≤i→
  L_charge_Dry 16 n ⟨[(0,.sl (l.map eBd)),(1,.any),(2,.any),(3,.sl (fs.map eFl)),(4,I ticks),(6,.ptr 6 0),(7,.ptr 7 0),(10,.any),(11,.ptr 11 0),(12,.any),(13,.any),(15,.any),(16,.row 16),(18,.any),(19,.any),(20,.any),(21,.any),(37,.any),(38,.any),(39,.any),(72,.sl (l.map eBd)),(73,I l.length),(74,I i)],[(6,.box 42 (eS w)),(7,.box 45 [S nm,I ramp,.sl (g.map eSg)]),(11,.box 92 [I 0,I 0,I 0,I 0,I 0,I 0]),(16,.row 146 4 true (a.map eT))]⟩=
   some (.ex 2,⟨[(0,.sl (l.map eBd)),(1,.any),(2,.any),(3,.sl (fs.map eFl)),(4,I ticks),(6,.ptr 6 0),(7,.ptr 7 0),(10,.any),(11,.ptr 11 0),(12,.any),(13,.any),(15,.any),(16,.row 16),(18,.any),(19,.any),(20,.any),(21,.any),(37,.any),(38,.any),(39,.any),(72,.any),(73,.any),(74,.any)],[(6,.box 42 (eS w)),(7,.box 45 [S nm,I ramp,.sl (g.map eSg)]),(11,.box 92 [I 0,I 0,I 0,I 0,I 0,I 0]),(16,.row 146 4 true ((a++r.map itemB).map eT))]⟩)
 |0,_,_,_,_,hn,_=>by omega
 |n+1,i,[],a,hr,hn,ha=>by
  rw[L_charge_Dry_succ,R_charge_Dry_eq]
  simp[dn hr]
 |n+1,i,x::r,a,hr,hn,ha=>by
  rw[L_charge_Dry_succ,R_charge_Dry_eq]
  obtain⟨h1,h3,hr',hi⟩:=dc (enc:=eBd) hr
  have hw:=wrapN (n:=i) (by omega)
  have ht:=thick_run (hok x (List.mem_of_mem_drop (hr▸List.mem_cons_self:x∈l.drop i)))
  have ih:=dryI_loop l w nm ramp g fs ticks hl hok n (i+1) r (a++[itemB x]) hr' (by simp at hn;omega) (by simp;omega)
  have h2:(a.length+1)*33≤140737488355328:=by omega
  have e:(a++[itemB x])++r.map itemB=a++(x::r).map itemB:=by simp
  rw[e] at ih
  generalize a++(x::r).map itemB=out at ih⊢
  simp[itemB] at ih ht
  simp[h1,h3,hw,ht,h2,ih]
theorem dryGood_run(g:Gv)(hl:g.l.length≤1000000)(hok:∀b∈g.l,okBd b)(hd:∀b∈g.l,b.dfs.length≤1000000)(hf:g.fs.length≤1000000)(h:errD g=0):
  F_charge_Dry [.sl (g.l.map eBd),.agg (eS g.w),.agg [S g.nm,I g.ramp,.sl (g.sg.map eSg)],.sl (g.fs.map eFl),I g.ticks]=some (.tup [.own false ((outB g).map eBd),.agg (eRn (rnM g)),I 0]):=by
 obtain⟨e1,e2,e3⟩:=errD_ok h
 obtain⟨k1,k2,_⟩:=checkCh_new e1
 have h1:=checkCh_run g.l g.w g.nm g.ramp g.sg hl hok
 rw[e1] at h1
 have i7:=dryF_loop g.l g.w g.nm g.ramp g.sg g.fs g.ticks hf bigL 0 g.fs rfl (by have:=bigL_ge;omega)
 rw[if_pos e3] at i7
 have i16:=dryI_loop g.l g.w g.nm g.ramp g.sg g.fs g.ticks hl hok bigL 0 g.l [] rfl (by have:=bigL_ge;omega) (by simp)
 have hn:=newGood_run g.nm g.ramp g.sg g.w (g.l.map itemB) k1
 obtain⟨q,hr⟩:=run_run (kil g) g.fs hf g.ticks e2.1 e2.2 (inv_kil h)
 have ei:runM g.fs g.ticks.toNat 0 (firstR (kil g))=rnM g:=rfl
 rw[ei] at hr
 have hlen:=rnM_len h
 have it:=items_run (rnM g).k (by omega)
 have es:(rnM g).k.stages=g.sg:=(run_same (fs:=g.fs) g.ticks.toNat 0 (firstR (kil g)) (inv_kil h)).1
 have dr:=dried'_run g.l (rnM g).k.items hlen.symm (by omega) hl hd
 have a1:¬g.ticks<0:=by omega
 have a2:¬20000<g.ticks:=by omega
 have a3:32*(g.l.length:Int)≤281474976710656:=by omega
 have a4:(g.l.length:Int)≤1000000000000000000:=by omega
 rw[F_charge_Dry_eq]
 unfold outB
 simp only[eK_eq,es] at it
 unfold kil at hr
 generalize rnM g=R at*
 generalize driedM g.l R.k.items=out at*
 simp only[List.nil_append] at i16
 generalize g.l.map itemB=its at*
 simp[newK] at hn hr it i7 i16 h1 dr
 cases q<;>simp at hr<;>simp[h1,a1,a2,i7,i16,a3,a4,hn,hr,it,dr]
end Go.Proofs.YtbdgblipbpadeaaGreatDoor.Ch
