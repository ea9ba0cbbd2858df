/-
  The charge's functions that look at boards and faults, run abstractly.
-/
import Derived.Test.YtbdgblipbpadeaaGreatDoorMg
import Derived.Test.YtbdgblipbpadeaaGreatDoorMp
import Derived.Test.YtbdgblipbpadeaaGreatDoorMo
set_option linter.unusedSimpArgs false
set_option linter.unusedVariables false
set_option linter.defProp false
namespace Go.Proofs.YtbdgblipbpadeaaGreatDoor.Ch
open Go Go.Abs
set_option maxHeartbeats 8000000
set_option maxRecDepth 100000
theorem spanSize_run{a b:Int}(ha:i64 a)(hb:i64 b):F_span_size [.agg [I a,I b]]=some (U (if b≤a then 0 else b-a)):=by
 rw[F_span_size_eq]
 unfold i64 at ha hb
 by_cases h:b≤a
 ·simp[h]
 ·have hw:IntKind.u64.wrap (IntKind.u64.wrap b-IntKind.u64.wrap a)=b-a:=by
   rw[IntKind.wrap_u64,IntKind.wrap_u64,IntKind.wrap_u64]
   omega
  simp[h,hw]
theorem limited_run{n:Int}(h0:0≤n)(h1:n≤18446744073709551615):F_span_limited [U n]=some (I (if 9223372036854775807<n then 9223372036854775807 else n)):=by
 rw[F_span_limited_eq]
 by_cases h:9223372036854775807<n
 ·simp[h]
 ·have hw:IntKind.i64.wrap n=n:=wrap64 (by omega) (by omega)
  simp[h,hw]
theorem spanLen_run{a b:Int}(ha:i64 a)(hb:i64 b):F_span_Len [.agg [I a,I b]]=some (I (lenS a b)):=by
 rw[F_span_Len_eq]
 have h1:=spanSize_run ha hb
 unfold i64 at ha hb
 unfold lenS
 by_cases h:b≤a
 ·have h2:=limited_run (n:=0) (by omega) (by omega)
  simp[h] at h1 h2
  simp[h1,h2,h]
 ·have h2:=limited_run (n:=b-a) (by omega) (by omega)
  simp[h] at h1 h2
  simp[h1,h2,h]
theorem thick_run{b:Bd}(h:okBd b):F_charge_thickness [.agg (eBd b)]=some (I (thk b)):=by
 rw[F_charge_thickness_eq]
 have h1:=spanLen_run h.1.1 h.1.2
 have h2:=spanLen_run h.2.1.1 h.2.1.2
 unfold thk
 simp[h1,h2]
theorem checkCh_loop(l:List Bd)(w:Spc)(nm:ByteArray)(ramp:Int)(g:List Stg)(hl:l.length≤1000000)(hok:∀b∈l,okBd b):∀(n i:Nat) (r:List Bd),l.drop i=r→r.length<n→
  L_charge_Check 6 n ⟨[(0,.any),(1,.any),(2,.any),(4,.ptr 4 0),(5,.ptr 5 0),(6,.any),(8,.any),(9,.any),(10,.any),(11,.any),(18,.sl (l.map eBd)),(19,I l.length),(20,I i)],[(4,.box 42 (eS w)),(5,.box 45 [S nm,I ramp,.sl (g.map eSg)])]⟩=
   if checkB w.name r=0 then some (.ex 0,⟨[(0,.any),(1,.any),(2,.any),(4,.ptr 4 0),(5,.ptr 5 0),(6,.any),(8,.any),(9,.any),(10,.any),(11,.any),(18,.any),(19,.any),(20,.any)],[(4,.box 42 (eS w)),(5,.box 45 [S nm,I ramp,.sl (g.map eSg)])]⟩)
   else some (.ret,⟨[(0,.any),(1,.any),(2,.any),(4,.any),(5,.any),(6,I (checkB w.name r)),(8,.any),(9,.any),(10,.any),(11,.any),(18,.any),(19,.any),(20,.any)],[]⟩)
 |0,_,_,_,hn=>by omega
 |n+1,i,[],hr,hn=>by
  rw[L_charge_Check_succ,R_charge_Check_eq]
  simp[dn hr,checkB]
 |n+1,i,x::r,hr,hn=>by
  rw[L_charge_Check_succ,R_charge_Check_eq]
  obtain⟨h1,h3,hr',hi⟩:=dc (enc:=eBd) hr
  have hw:=wrapN (n:=i) (by omega)
  have ih:=checkCh_loop l w nm ramp g hl hok n (i+1) r hr' (by simp at hn;omega)
  have hc:=checkM_run x.cel
  have ht:=thick_run (hok x (List.mem_of_mem_drop (hr▸List.mem_cons_self:x∈l.drop i)))
  simp at ih hc ht
  by_cases a1:x.sp=w.name
  ·cases a2:x.dried
   ·simp only[a1,a2] at ht
    by_cases a3:checkM x.cel=0
    ·by_cases a4:thk x<1
     ·have a4':¬1≤thk x:=by omega
      simp[h1,h3,hc,ht,checkB,a1,a2,a3,a4,a4']
     ·have a4':1≤thk x:=by omega
      by_cases a5:600<thk x
      ·simp[h1,h3,hc,ht,checkB,a1,a2,a3,a4,a4',a5]
      ·simp[h1,h3,hc,ht,checkB,a1,a2,a3,a4,a4',a5,hw,ih]
    ·simp[h1,h3,hc,ht,checkB,a1,a2,a3]
   ·simp[h1,h3,hc,ht,checkB,a1,a2]
  ·simp[h1,h3,hc,ht,checkB,a1]
theorem checkCh_run(l:List Bd)(w:Spc)(nm:ByteArray)(ramp:Int)(g:List Stg)(hl:l.length≤1000000)(hok:∀b∈l,okBd b):F_charge_Check [.sl (l.map eBd),.agg (eS w),.agg [S nm,I ramp,.sl (g.map eSg)]]=some (I (checkCh l w nm ramp g)):=by
 rw[F_charge_Check_eq]
 have h1:=schedule_run nm ramp g
 have h2:=wood_run w
 have ih:=checkCh_loop l w nm ramp g hl hok bigL 0 l rfl (by have:=bigL_ge;omega)
 simp at h2 ih
 unfold checkCh
 by_cases a1:l.length=0
 ·simp[a1]
 ·by_cases a2:(1024:Int)<l.length
  ·simp[a1,a2]
  ·by_cases a3:checkB w.name l=0
   ·by_cases a4:checkSg nm ramp g=0
    ·simp[a3] at ih
     simp[a1,a2,a3,a4,ih,h1,h2]
    ·simp[a3] at ih
     simp[a1,a2,a3,a4,ih,h1,h2]
   ·simp[a3] at ih
    simp[a1,a2,a3,ih]
theorem cat_loop(l:List Flt)(t:Int)(hl:l.length≤1000000):∀(n i:Nat) (r:List Flt) (a:List Int),l.drop i=r→r.length<n→a.length≤i→
  L_charge_At 3 n ⟨[(0,.any),(1,I t),(4,.any),(5,.row 5),(7,.any),(8,.sl (l.map eFl)),(9,I l.length),(10,I i)],[(5,.row 3 1 true (a.map eI))]⟩=
   some (.ex 0,⟨[(0,.any),(1,.any),(4,.any),(5,.row 5),(7,.any),(8,.any),(9,.any),(10,.any)],[(5,.row 3 1 true ((a++kinds t r).map eI))]⟩)
 |0,_,_,_,_,hn,_=>by omega
 |n+1,i,[],a,hr,hn,ha=>by
  rw[L_charge_At_succ,R_charge_At_eq]
  simp[dn hr,kinds]
 |n+1,i,x::r,a,hr,hn,ha=>by
  rw[L_charge_At_succ,R_charge_At_eq]
  obtain⟨h1,h3,hr',hi⟩:=dc (enc:=eFl) hr
  have hw:=wrapN (n:=i) (by omega)
  have ih1:=cat_loop l t hl n (i+1) r (a++[x.kind]) hr' (by simp at hn;omega) (by simp;omega)
  have ih2:=cat_loop l t hl n (i+1) r a hr' (by simp at hn;omega) (by omega)
  have h2:(a.length+1)*9≤140737488355328:=by omega
  simp at ih1 ih2
  by_cases a1:x.a≤t
  ·by_cases a2:t<x.b
   ·simp[h1,h3,hw,ih1,h2,kinds,a1,a2]
   ·simp[h1,h3,hw,ih2,h2,kinds,a1,a2]
  ·simp[h1,h3,hw,ih2,h2,kinds,a1]
theorem sortI_eq(l:List Int)(h:l.length<4611686018427387904):E_sortI [(1000,.row 3 1 true (l.map eI))] [.row 1000]=some (.tup [],[(1000,.row 3 1 true ((sortI l).map eI))]):=E_sortI_eq 3 true l h
theorem compactI_eq(l:List Int)(h:l.length<4611686018427387904):E_compactI [(1000,.row 3 1 true (l.map eI))] [.row 1000]=some (.row 0,[(0,.row 3 1 true ((compactI l).map eI))]):=E_compactI_eq 3 true l h
theorem cat_run(l:List Flt)(t:Int)(hl:l.length≤1000000):F_charge_At [.sl (l.map eFl),I t]=some (.own true ((atM l t).map eI)):=by
 rw[F_charge_At_eq]
 have ih:=cat_loop l t hl bigL 0 l [] rfl (by have:=bigL_ge;omega) (by simp)
 have hk:=kinds_len t l
 have hs:=sortI_eq (kinds t l) (by omega)
 have hc:=compactI_eq (sortI (kinds t l)) (by rw[sortI_length];omega)
 simp at ih
 unfold atM
 simp[ih,hs,hc]
def stq(i:Nat)(s:Int)(r:List Itm):Int:=if i=0 then(match r with|[]=>s|x::q=>stp (grad x.cel) q) else stp s r
theorem steepest_loop(l:List Itm)(hl:l.length≤1000000):∀(n i:Nat) (r:List Itm) (s:Int),l.drop i=r→r.length<n→
  L_charge_steepest 3 n ⟨[(0,.any),(2,.any),(3,I s),(4,.any),(5,.any),(6,.any),(8,.own true (l.map eT)),(9,I l.length),(10,I i)],[]⟩=
   some (.ex 0,⟨[(0,.any),(2,.any),(3,I (stq i s r)),(4,.any),(5,.any),(6,.any),(8,.any),(9,.any),(10,.any)],[]⟩)
 |0,_,_,_,_,hn=>by omega
 |n+1,i,[],s,hr,hn=>by
  rw[L_charge_steepest_succ,R_charge_steepest_eq]
  have e:stq i s []=s:=by unfold stq;split<;>rfl
  simp[dn hr,e]
 |n+1,i,x::r,s,hr,hn=>by
  rw[L_charge_steepest_succ,R_charge_steepest_eq]
  obtain⟨h1,h3,hr',hi⟩:=dc (enc:=eT) hr
  have hw:=wrapN (n:=i) (by omega)
  have hg:=grad_run x.cel
  have e:∀s',stq (i+1) s' r=stp s' r:=fun s'=>by simp[stq]
  have ih:=fun s'=>steepest_loop l hl n (i+1) r s' hr' (by simp at hn;omega)
  simp only[e] at ih
  simp at ih hg
  by_cases a1:i=0
  ·subst a1
   rw[List.drop_zero] at hr
   subst hr
   simp at ih
   simp[ih,hg,stq]
  ·by_cases a2:s<grad x.cel
   ·simp[h1,h3,hw,ih,hg,stq,a1,a2,stp]
   ·simp[h1,h3,hw,ih,hg,stq,a1,a2,stp]
theorem steepest_run(k:Kl)(h:k.items.length≤1000000):F_charge_steepest [.elt (eK k)]=some (I (steepM k.items)):=by
 rw[F_charge_steepest_eq]
 have h1:=items_run k h
 have ih:=steepest_loop k.items h bigL 0 k.items 0 rfl (by have:=bigL_ge;omega)
 have e:stq 0 0 k.items=steepM k.items:=by
  unfold stq steepM
  rw[if_pos rfl]
  cases k.items<;>rfl
 rw[e] at ih
 simp at h1 ih
 simp[h1,ih]
end Go.Proofs.YtbdgblipbpadeaaGreatDoor.Ch
