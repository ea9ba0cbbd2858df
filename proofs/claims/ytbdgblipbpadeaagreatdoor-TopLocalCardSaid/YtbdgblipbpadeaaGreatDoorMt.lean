/-
  The catalog, run abstractly (under way).
-/
import Derived.Test.YtbdgblipbpadeaaGreatDoorMs
set_option linter.unusedSimpArgs false
set_option linter.unusedVariables false
set_option linter.defProp false
namespace Go.Proofs.YtbdgblipbpadeaaGreatDoor
open Go Go.Abs
set_option maxHeartbeats 8000000
set_option maxRecDepth 100000
theorem find_loop(l:List Pd)(nm:ByteArray)(hl:l.length≤1000):∀(n i:Nat) (r:List Pd),l.drop i=r→r.length<n→
  ∃k,L_product_Find 2 n ⟨[(0,.any),(1,S nm),(4,.any),(5,.any),(6,.any),(7,.any),(8,.sl (l.map ePd)),(9,I l.length),(10,I i)],[]⟩=
   if hasN nm r=true then some (.ret,⟨[(0,.any),(1,.any),(4,I k),(5,B true),(6,.any),(7,.any),(8,.any),(9,.any),(10,.any)],[]⟩)
   else some (.ex 0,⟨[(0,.any),(1,.any),(4,.any),(5,.any),(6,.any),(7,.any),(8,.any),(9,.any),(10,.any)],[]⟩)
 |0,_,_,_,hn=>by omega
 |n+1,i,[],hr,hn=>by
  refine⟨0, ?_⟩
  rw[L_product_Find_succ,R_product_Find_eq]
  simp[dn hr,hasN]
 |n+1,i,x::r,hr,hn=>by
  obtain⟨h1,h3,hr',hi⟩:=dc (enc:=ePd) hr
  have hw:=wrapN (n:=i) (by omega)
  obtain⟨k,ih⟩:=find_loop l nm hl n (i+1) r hr' (by simp at hn;omega)
  by_cases a1:x.name=nm
  ·refine⟨i, ?_⟩
   rw[L_product_Find_succ,R_product_Find_eq]
   simp[h1,h3,hasN,a1]
  ·refine⟨k, ?_⟩
   rw[L_product_Find_succ,R_product_Find_eq]
   simp at ih
   simp[h1,h3,hasN,a1,hw,ih]
theorem find_run(l:List Pd)(nm:ByteArray)(hl:l.length≤1000):∃k,F_product_Find [.sl (l.map ePd),S nm]=some (.tup [I k,B (hasN nm l)]):=by
 obtain⟨k,ih⟩:=find_loop l nm hl bigL 0 l rfl (by have:=bigL_ge;omega)
 simp at ih
 cases h:hasN nm l
 ·refine⟨0, ?_⟩
  rw[F_product_Find_eq]
  simp[h] at ih
  simp[ih]
 ·refine⟨k, ?_⟩
  rw[F_product_Find_eq]
  simp[h] at ih
  simp[ih]
end Go.Proofs.YtbdgblipbpadeaaGreatDoor
namespace Go.Proofs.YtbdgblipbpadeaaGreatDoor
open Go Go.Abs
set_option maxHeartbeats 8000000
set_option maxRecDepth 100000
theorem cat_loop(l:List Pd)(hl:l.length≤1000):∀(n i:Nat) (r:List Pd),l.drop i=r→r.length<n→
  L_product_Check 4 n ⟨[(0,.sl (l.map ePd)),(2,.any),(3,.any),(4,.any),(6,.any),(7,.any),(11,.sl (l.map ePd)),(12,I l.length),(13,I i)],[]⟩=
   if catE (l.take i) r=0 then some (.ex 0,⟨[(0,.any),(2,.any),(3,.any),(4,.any),(6,.any),(7,.any),(11,.any),(12,.any),(13,.any)],[]⟩)
   else some (.ret,⟨[(0,.any),(2,I (catE (l.take i) r)),(3,.any),(4,.any),(6,.any),(7,.any),(11,.any),(12,.any),(13,.any)],[]⟩)
 |0,_,_,_,hn=>by omega
 |n+1,i,[],hr,hn=>by
  rw[L_product_Check_succ,R_product_Check_eq]
  simp[dn hr,catE]
 |n+1,i,x::r,hr,hn=>by
  rw[L_product_Check_succ,R_product_Check_eq]
  obtain⟨h1,h3,hr',hi⟩:=dc (enc:=ePd) hr
  have hw:=wrapN (n:=i) (by omega)
  have ih:=cat_loop l hl n (i+1) r hr' (by simp at hn;omega)
  have hx:l[i]? =some x:=by
   have:=congrArg List.head? hr
   simpa[List.head?_drop] using this
  have ht:l.take (i+1)=l.take i++[x]:=by rw[List.take_add_one,hx];rfl
  rw[ht] at ih
  obtain⟨k,hf⟩:=find_run (l.take i) x.name (by rw[List.length_take];omega)
  rw[List.map_take] at hf
  have hnm:=isName_run x.name
  have hnu:=nums_run x
  have h4:(i:Int)≤l.length:=by omega
  simp at ih hnu
  unfold catE
  cases a1:isNm x.name
  ·rw[a1] at hnm
   simp[h1,h3,hnm]
  ·rw[a1] at hnm
   cases a2:hasN x.name (l.take i)
   ·rw[a2] at hf
    by_cases a3:numsE x=0
    ·rw[a3] at hnu
     simp[h1,h3,h4,hnm,hf,hnu,a3,hw,ih]
    ·simp[h1,h3,h4,hnm,hf,hnu,a3]
   ·rw[a2] at hf
    simp[h1,h3,h4,hnm,hf]
theorem checkPd_run(l:List Pd):F_product_Check [.sl (l.map ePd)]=some (I (checkPd l)):=by
 rw[F_product_Check_eq]
 unfold checkPd
 by_cases h:(16:Int)<l.length
 ·simp[h]
 ·have ih:=cat_loop l (by omega) bigL 0 l rfl (by have:=bigL_ge;omega)
  simp at ih
  by_cases h2:catE [] l=0
  ·simp[h2] at ih
   simp[h,ih,h2]
  ·simp[h2] at ih
   simp[h,ih,h2]
theorem isEmpty_run(a b:Int):F_defect_isEmpty [.agg [I a,I b]]=some (B (decide (b≤a))):=by
 rw[F_defect_isEmpty_eq]
 simp
theorem dinside_run(a b lo hi:Int):F_defect_inside [.agg [I a,I b],I lo,I hi]=some (B (decide (lo≤(if b<a then b else a))&&decide ((if a<b then b else a)≤hi))):=by
 rw[F_defect_inside_eq]
 simp
theorem dcheck_run(d:Dfc):F_defect_check [.agg (eDf d)]=some (I (dfE d)):=by
 rw[F_defect_check_eq]
 have e1:=isEmpty_run d.xa d.xb
 have e2:=isEmpty_run d.ya d.yb
 have e3:=isEmpty_run d.za d.zb
 have i1:=dinside_run d.xa d.xb (-600) 600
 have i2:=dinside_run d.ya d.yb (-600) 600
 have i3:=dinside_run d.za d.zb 0 20000
 unfold dfE
 by_cases a1:d.kind<1
 ·simp[a1]
 by_cases a2:6<d.kind
 ·simp[a1,a2]
 by_cases a3:d.xb≤d.xa
 ·simp[a1,a2,e1,a3]
 by_cases a4:d.yb≤d.ya
 ·simp[a1,a2,e1,e2,a3,a4]
 by_cases a5:d.zb≤d.za
 ·simp[a1,a2,e1,e2,e3,a3,a4,a5]
 have n1:¬d.xb<d.xa:=by omega
 have n2:d.xa<d.xb:=by omega
 have n3:¬d.yb<d.ya:=by omega
 have n4:d.ya<d.yb:=by omega
 have n5:¬d.zb<d.za:=by omega
 have n6:d.za<d.zb:=by omega
 rw[if_neg n1,if_pos n2] at i1
 rw[if_neg n3,if_pos n4] at i2
 rw[if_neg n5,if_pos n6] at i3
 by_cases b1:d.xa< -600
 ·have c1:¬-600≤d.xa:=by omega
  simp[a1,a2,e1,e2,e3,a3,a4,a5,i1,b1,c1]
 have c1: -600≤d.xa:=by omega
 by_cases b2:600<d.xb
 ·have c2:¬d.xb≤600:=by omega
  simp[a1,a2,e1,e2,e3,a3,a4,a5,i1,b1,c1,b2,c2]
 have c2:d.xb≤600:=by omega
 by_cases b3:d.ya< -600
 ·have c3:¬-600≤d.ya:=by omega
  simp[a1,a2,e1,e2,e3,a3,a4,a5,i1,b1,c1,b2,c2,i2,b3,c3]
 have c3: -600≤d.ya:=by omega
 by_cases b4:600<d.yb
 ·have c4:¬d.yb≤600:=by omega
  simp[a1,a2,e1,e2,e3,a3,a4,a5,i1,b1,c1,b2,c2,i2,b3,c3,b4,c4]
 have c4:d.yb≤600:=by omega
 by_cases b5:d.za<0
 ·have c5:¬0≤d.za:=by omega
  simp[a1,a2,e1,e2,e3,a3,a4,a5,i1,b1,c1,b2,c2,i2,b3,c3,b4,c4,i3,b5,c5]
 have c5:0≤d.za:=by omega
 by_cases b6:20000<d.zb
 ·have c6:¬d.zb≤20000:=by omega
  simp[a1,a2,e1,e2,e3,a3,a4,a5,i1,b1,c1,b2,c2,i2,b3,c3,b4,c4,i3,b5,c5,b6,c6]
 have c6:d.zb≤20000:=by omega
 simp[a1,a2,e1,e2,e3,a3,a4,a5,i1,b1,c1,b2,c2,i2,b3,c3,b4,c4,i3,b5,c5,b6,c6]
theorem dfs_loop(l:List Dfc)(hl:l.length≤1000):∀(n i:Nat) (r:List Dfc),l.drop i=r→r.length<n→
  L_defect_Check 4 n ⟨[(0,.any),(2,.any),(4,.any),(5,.any),(9,.sl (l.map eDf)),(10,I l.length),(11,I i)],[]⟩=
   if dfsE r=0 then some (.ex 0,⟨[(0,.any),(2,.any),(4,.any),(5,.any),(9,.any),(10,.any),(11,.any)],[]⟩)
   else some (.ret,⟨[(0,.any),(2,I (dfsE r)),(4,.any),(5,.any),(9,.any),(10,.any),(11,.any)],[]⟩)
 |0,_,_,_,hn=>by omega
 |n+1,i,[],hr,hn=>by
  rw[L_defect_Check_succ,R_defect_Check_eq]
  simp[dn hr,dfsE]
 |n+1,i,x::r,hr,hn=>by
  rw[L_defect_Check_succ,R_defect_Check_eq]
  obtain⟨h1,h3,hr',hi⟩:=dc (enc:=eDf) hr
  have hw:=wrapN (n:=i) (by omega)
  have hc:=dcheck_run x
  have ih:=dfs_loop l hl n (i+1) r hr' (by simp at hn;omega)
  simp at ih hc
  by_cases a1:dfE x=0
  ·simp[h1,h3,hc,dfsE,a1,hw,ih]
  ·simp[h1,h3,hc,dfsE,a1]
theorem checkDf_run(l:List Dfc):F_defect_Check [.sl (l.map eDf)]=some (I (checkDf l)):=by
 rw[F_defect_Check_eq]
 unfold checkDf
 by_cases h:(64:Int)<l.length
 ·simp[h]
 ·have ih:=dfs_loop l (by omega) bigL 0 l rfl (by have:=bigL_ge;omega)
  simp at ih
  by_cases h2:dfsE l=0
  ·simp[h2] at ih
   simp[h,ih,h2]
  ·simp[h2] at ih
   simp[h,ih,h2]
end Go.Proofs.YtbdgblipbpadeaaGreatDoor
namespace Go.Proofs.YtbdgblipbpadeaaGreatDoor
open Go Go.Abs
set_option maxHeartbeats 8000000
set_option maxRecDepth 100000
def allB(ok:UInt8→Bool):List UInt8→Bool
 |[]=>true
 |c::r=>if ok c=true then allB ok r else false
def prtC:List D:=[I 0,I 1,.x (.func (.func 257) #[] #[]),I 10]
def prtD:List D:=[I 1,I 7,.x (.func (.func 199) #[] #[]),I 5]
@[simp] theorem prtC_eq:prtC=[I 0,I 1,.x (.func (.func 257) #[] #[]),I 10]:=rfl
@[simp] theorem prtD_eq:prtD=[I 1,I 7,.x (.func (.func 199) #[] #[]),I 5]:=rfl
theorem parts_run:F_ident_parts []=some (.own true [prtC,prtD]):=by
 rw[F_ident_parts_eq]
 simp
theorem splitC_loop(s:ByteArray)(hs:s.size=8)(j:Int):∀(n i:Nat) (r:List UInt8),((byt s).take 1).drop i=r→r.length<n→
  L_ident_Split 7 n ⟨[(0,S s),(2,.any),(3,.any),(4,.any),(6,.ptr 6 0),(7,I i),(8,.any),(9,.any),(13,.own true [prtC,prtD]),(14,I 2),(15,I j)],[(6,.box 344 prtC)]⟩=
   if allB capB r=true then some (.ex 2,⟨[(0,S s),(2,.any),(3,.any),(4,.any),(6,.any),(7,.any),(8,.any),(9,.any),(13,.own true [prtC,prtD]),(14,I 2),(15,I j)],[]⟩)
   else some (.ret,⟨[(0,.any),(2,Y 0),(3,I 0),(4,I 10),(6,.any),(7,.any),(8,.any),(9,.any),(13,.any),(14,.any),(15,.any)],[]⟩)
 |0,_,_,_,hn=>by omega
 |n+1,i,[],hr,hn=>by
  rw[L_ident_Split_succ,R_ident_Split_eq]
  have h:=List.drop_eq_nil_iff.1 hr
  rw[List.length_take,←byt_len,hs] at h
  have h':¬(i:Int)<1:=by omega
  have h2:¬i<1:=by omega
  simp[h',h2,allB]
 |n+1,i,c::r,hr,hn=>by
  rw[L_ident_Split_succ,R_ident_Split_eq]
  have hi:i<((byt s).take 1).length:=by
   cases Nat.lt_or_ge i ((byt s).take 1).length with
   |inl h=>exact h
   |inr h'=>rw[List.drop_of_length_le h'] at hr;cases hr
  have hi2:i<1:=by rw[List.length_take] at hi;omega
  have h2:i<s.size:=by omega
  rw[List.drop_eq_getElem_cons hi] at hr
  injection hr with hc0 hr'
  have hc:s[i]'h2=c:=by
   have h1:=byt_get s i
   rw[getElem?_pos s i h2,List.getElem?_eq_getElem (by rw[←byt_len];exact h2)] at h1
   injection h1 with h1
   rw[h1,←hc0,List.getElem_take]
  have hw:=wrapN (n:=i) (by omega)
  have h3:(i:Int)<1:=by omega
  have hk:=cap_run c
  have ih:=splitC_loop s hs j n (i+1) r hr' (by simp at hn;omega)
  simp at ih
  cases a:capB c
  ·rw[a] at hk
   simp[h3,hi2,h2,hc,hk,allB,a]
  ·rw[a] at hk
   simp[h3,hi2,h2,hc,hk,allB,a,hw,ih]
theorem splitD_loop(s:ByteArray)(hs:s.size=8)(j:Int):∀(n i:Nat) (r:List UInt8),((byt s).take 7).drop i=r→r.length<n→
  L_ident_Split 7 n ⟨[(0,S s),(2,.any),(3,.any),(4,.any),(6,.ptr 6 0),(7,I i),(8,.any),(9,.any),(13,.own true [prtC,prtD]),(14,I 2),(15,I j)],[(6,.box 344 prtD)]⟩=
   if allB digitB r=true then some (.ex 2,⟨[(0,S s),(2,.any),(3,.any),(4,.any),(6,.any),(7,.any),(8,.any),(9,.any),(13,.own true [prtC,prtD]),(14,I 2),(15,I j)],[]⟩)
   else some (.ret,⟨[(0,.any),(2,Y 0),(3,I 0),(4,I 5),(6,.any),(7,.any),(8,.any),(9,.any),(13,.any),(14,.any),(15,.any)],[]⟩)
 |0,_,_,_,hn=>by omega
 |n+1,i,[],hr,hn=>by
  rw[L_ident_Split_succ,R_ident_Split_eq]
  have h:=List.drop_eq_nil_iff.1 hr
  rw[List.length_take,←byt_len,hs] at h
  have h':¬(i:Int)<7:=by omega
  have h2:¬i<7:=by omega
  simp[h',h2,allB]
 |n+1,i,c::r,hr,hn=>by
  rw[L_ident_Split_succ,R_ident_Split_eq]
  have hi:i<((byt s).take 7).length:=by
   cases Nat.lt_or_ge i ((byt s).take 7).length with
   |inl h=>exact h
   |inr h'=>rw[List.drop_of_length_le h'] at hr;cases hr
  have hi2:i<7:=by rw[List.length_take] at hi;omega
  have h2:i<s.size:=by omega
  rw[List.drop_eq_getElem_cons hi] at hr
  injection hr with hc0 hr'
  have hc:s[i]'h2=c:=by
   have h1:=byt_get s i
   rw[getElem?_pos s i h2,List.getElem?_eq_getElem (by rw[←byt_len];exact h2)] at h1
   injection h1 with h1
   rw[h1,←hc0,List.getElem_take]
  have hw:=wrapN (n:=i) (by omega)
  have h3:(i:Int)<7:=by omega
  have hk:=nDigit_run c
  have ih:=splitD_loop s hs j n (i+1) r hr' (by simp at hn;omega)
  simp at ih
  cases a:digitB c
  ·rw[a] at hk
   simp[h3,hi2,h2,hc,hk,allB,a]
  ·rw[a] at hk
   simp[h3,hi2,h2,hc,hk,allB,a,hw,ih]
end Go.Proofs.YtbdgblipbpadeaaGreatDoor
