/-
  The value of an expression, run abstractly: in the program and in the reference.
-/
import Derived.Test.YtbdgblipbpadeaaGreatDoorNb
set_option linter.unusedSimpArgs false
set_option linter.unusedVariables false
set_option linter.defProp false
namespace Go.Proofs.YtbdgblipbpadeaaGreatDoor.Rl
open Go Go.Abs
set_option maxHeartbeats 4000000
set_option maxRecDepth 100000
abbrev T2(p:Int×Int):D:= .tup [I p.1,I p.2]
def lim(n:Int):Int×Int:=if bnd' n=true then(n,0) else(0,9)
theorem limited_run(n:Int):F_rule_limited [I n]=some (T2 (lim n)):=by
 rw[F_rule_limited_eq]
 by_cases h:bnd' n=true<;>simp[bounded_run,lim,h]
theorem bnd'_iff{n:Int}:bnd' n=true↔-1099511627776≤n∧n≤1099511627776:=by simp[bnd']
def mag(n:Int):Int:=if n<0 then -n else n
theorem magnitude_run(n:Int)(h:bnd' n=true):F_rule_magnitude [I n]=some (I (mag n)):=by
 rw[F_rule_magnitude_eq]
 have:=bnd'_iff.1 h
 have hw:IntKind.i64.wrap (0-n)= -n:=by rw[wrap64]<;>omega
 simp at hw
 simp[hw,mag]
 (repeat' split)<;>omega
def tr(b:Bool):Int:=if b=true then 1 else 0
theorem truth_run(b:Bool):F_rule_truth [B b]=some (I (tr b)):=by
 rw[F_rule_truth_eq]
 simp[tr]
def comb(op a b:Int):Int×Int:=
 if op=3 then lim (a+b) else if op=4 then lim (a-b) else if op=5 then lim (a*b) else if op=6 then(tr (decide (a=b)),0) else if op=7 then(tr (decide (a<b)),0) else(tr (decide (a≤b)),0)
theorem mag_mul{a b:Int}(ha:bnd' a=true)(hb:bnd' b=true)(h0:a≠0):(1099511627776:Int).tdiv (mag a)<mag b↔bnd' (a*b)=false:=by
 rw[bnd'_iff] at ha hb
 have hm:0<mag a:=by unfold mag;split<;>omega
 have e:(1099511627776:Int).tdiv (mag a)=1099511627776/mag a:=by rw[Int.tdiv_eq_ediv_of_nonneg (by omega)]
 rw[e,Int.ediv_lt_iff_lt_mul hm]
 have e2:mag b*mag a=mag (a*b):=by
  unfold mag
  rcases(by omega:a<0∨0≤a) with h1|h1<;>rcases(by omega:b<0∨0≤b) with h2|h2
  ·have:0<a*b:=Int.mul_pos_of_neg_of_neg h1 h2
   rw[if_pos h1,if_pos h2,if_neg (by omega)]
   rw[Int.neg_mul_neg,Int.mul_comm]
  ·have:a*b≤0:=Int.mul_nonpos_of_nonpos_of_nonneg (by omega) h2
   rw[if_pos h1,if_neg (show¬b<0 by omega),Int.mul_neg,Int.mul_comm b a]
   split<;>omega
  ·have:a*b≤0:=Int.mul_nonpos_of_nonneg_of_nonpos h1 (by omega)
   rw[if_pos h2,if_neg (show¬a<0 by omega),Int.neg_mul,Int.mul_comm b a]
   split<;>omega
  ·have:0≤a*b:=Int.mul_nonneg h1 h2
   rw[if_neg (show¬a<0 by omega),if_neg (show¬b<0 by omega),if_neg (show¬a*b<0 by omega),Int.mul_comm]
 rw[e2]
 unfold mag bnd'
 split<;>simp<;>omega
theorem mul_le{a b:Int}(ha:bnd' a=true)(hb:bnd' b=true): -9223372036854775808≤a+b∧a+b≤9223372036854775807∧-9223372036854775808≤a-b∧a-b≤9223372036854775807:=by
 rw[bnd'_iff] at ha hb
 omega
theorem combine_run(op a b:Int)(ha:bnd' a=true)(hb:bnd' b=true):F_rule_combine [I op,I a,I b]=some (T2 (comb op a b)):=by
 rw[F_rule_combine_eq]
 obtain⟨h1,h2,h3,h4⟩:=mul_le ha hb
 have hw1:=wrap64 h1 h2
 have hw2:=wrap64 h3 h4
 by_cases g3:op=3
 ·simp[g3,hw1,limited_run,comb]
 by_cases g4:op=4
 ·simp[g4,hw2,limited_run,comb]
 by_cases g5:op=5
 ·have hm:¬mag a=0∨a=0:=by unfold mag;split<;>omega
  by_cases h0:a=0
  ·simp[g5,comb,h0,lim,bnd']
  ·have hm:¬mag a=0:=by unfold mag;split<;>omega
   have hmm:=mag_mul ha hb h0
   have hmb:=bnd'_iff.1 ha
   have hmp:0<mag a:=by unfold mag;split<;>omega
   have hmw:IntKind.i64.wrap ((1099511627776:Int).tdiv (mag a))=(1099511627776:Int).tdiv (mag a):=by
    rw[Int.tdiv_eq_ediv_of_nonneg (by omega)]
    have l1:=Int.ediv_nonneg (a:=1099511627776) (b:=mag a) (by omega) (by omega)
    have l2:=Int.ediv_le_self (a:=1099511627776) (mag a) (by omega)
    exact wrap64 (by omega) (by omega)
   by_cases hq:bnd' (a*b)=true
   ·have hr:=bnd'_iff.1 hq
    have hw3:=wrap64 (n:=a*b) (by omega) (by omega)
    have hq':¬(1099511627776:Int).tdiv (mag a)<mag b:=fun h=>by rw[hmm,hq] at h;cases h
    simp[g5,comb,h0,lim,magnitude_run _ ha,magnitude_run _ hb,hm,hmw,hq,hq',hw3]
   ·have hq2:bnd' (a*b)=false:=by simpa using hq
    have hq':=hmm.2 hq2
    simp[g5,comb,h0,lim,magnitude_run _ ha,magnitude_run _ hb,hm,hmw,hq2,hq']
 by_cases g6:op=6
 ·simp[g6,comb,truth_run]
 by_cases g7:op=7
 ·simp[g7,comb,truth_run]
 simp[g3,g4,g5,g6,g7,comb,truth_run]
def val(l:List (ByteArray×Int)):Nat→Ex→Int×Int
 |0,_=>(0,0)
 |k+1,e=>
  if e.op=1 then lim e.n
  else if e.op=2 then lim ((getF e.name l).getD 0)
  else match e.args with
   |[]=>(0,0)
   |a::r=>
    if(val l k a).2≠0 then(0,(val l k a).2)
    else if e.op=9 then(1-(val l k a).1,0)
    else match r with
     |[]=>(0,0)
     |b::_=>
      if(e.op=10∧(val l k a).1=0)∨(e.op=11∧(val l k a).1=1) then((val l k a).1,0)
      else if(val l k b).2≠0 then(0,(val l k b).2)
      else if e.op=10∨e.op=11 then((val l k b).1,0)
      else comb e.op (val l k a).1 (val l k b).1
theorem lim_ok(n:Int):bnd' (lim n).1=true∧((lim n).2≠0→(lim n).1=0):=by
 unfold lim
 split
 ·rename_i h;exact⟨h,fun h=>absurd rfl h⟩
 ·exact⟨rfl,fun _=>rfl⟩
theorem tr_ok(b:Bool):bnd' (tr b)=true∧(tr b=0∨tr b=1):=by cases b<;>simp[tr,bnd']
theorem comb_ok(op a b:Int):bnd' (comb op a b).1=true∧((comb op a b).2≠0→(comb op a b).1=0)∧(6≤op→op≤8→(comb op a b).1=0∨(comb op a b).1=1):=by
 unfold comb
 (repeat' split)<;>first|exact⟨(lim_ok _).1,(lim_ok _).2,by omega⟩|exact⟨(tr_ok _).1,fun h=>absurd rfl h,fun _ _=>(tr_ok _).2⟩
theorem firstE_zero{v:Ex→Int}:∀{l:List Ex},firstE v l=0→∀a∈l,v a=0
 |[],_,a,h=>by simp at h
 |x::r,hf,a,h=>by
  unfold firstE at hf
  split at hf
  ·rename_i hx
   rcases List.mem_cons.1 h with rfl|h
   ·exact hx
   ·exact firstE_zero hf a h
  ·rename_i hx;exact absurd hf hx
theorem vis_zero{ns:List ByteArray}{k:Nat}{e:Ex}(h:vis ns (k+1) e=0):(∀a∈e.args,vis ns k a=0)∧node ns e=0:=by
 unfold vis at h
 split at h
 ·rename_i hz;exact⟨firstE_zero hz,h⟩
 ·rename_i hz;exact absurd h hz
theorem anyBad_false{t:Bool}:∀{l:List Ex},anyBad t l=false→∀a∈l,isC a.op=t
 |[],_,a,h=>by simp at h
 |x::r,hf,a,h=>by
  unfold anyBad at hf
  split at hf
  ·rename_i hx
   rcases List.mem_cons.1 h with rfl|h
   ·exact hx
   ·exact anyBad_false hf a h
  ·cases hf
theorem node_zero{ns:List ByteArray}{e:Ex}(h:node ns e=0):(1≤e.op∧e.op≤11)∧(e.n=0∨e.op=1)∧(e.name=ByteArray.empty∨e.op=2)∧(e.args.length:Int)=takesN e.op∧(e.op=2→hasS ns e.name=true)∧(e.op=1→bnd' e.n=true)∧∀a∈e.args,isC a.op=takesC e.op:=by
 unfold node at h
 split at h
 ·cases h
 ·rename_i g1
  split at h
  ·cases h
  ·rename_i g2
   split at h
   ·cases h
   ·rename_i g3
    split at h
    ·cases h
    ·rename_i g4
     split at h
     ·cases h
     ·rename_i g5
      refine⟨by omega, ?_, ?_, ?_, ?_, ?_,anyBad_false (by simpa using g5)⟩
      ·by_cases hn:e.n=0
       ·exact .inl hn
       ·right
        by_cases ho:e.op=1
        ·exact ho
        ·exact absurd (.inl ⟨hn,ho⟩) g2
      ·by_cases hn:e.name=ByteArray.empty
       ·exact .inl hn
       ·right
        by_cases ho:e.op=2
        ·exact ho
        ·exact absurd (.inr (.inl ⟨hn,ho⟩)) g2
      ·by_cases hn:(e.args.length:Int)=takesN e.op
       ·exact hn
       ·exact absurd (.inr (.inr hn)) g2
      ·intro ho
       cases hh:hasS ns e.name with
       |true=>rfl
       |false=>exact absurd ⟨ho,hh⟩ g3
      ·intro ho
       cases hh:bnd' e.n with
       |true=>rfl
       |false=>exact absurd ⟨ho,hh⟩ g4
theorem val_ok(
        l:List (ByteArray×Int))(ns:List ByteArray):∀(k:Nat) (e:Ex),vis ns k e=0→bnd' (val l k e).1=true∧((val l k e).2≠0→(val l k e).1=0)∧(isC e.op=true→(val l k e).1=0∨(val l k e).1=1):=by
 intro k
 induction k with
 |zero=>intro e h;cases h
 |succ k ih=>
  intro e h
  obtain⟨ha,hn⟩:=vis_zero h
  obtain⟨ho,_,_,hlen,_,_,hc⟩:=node_zero hn
  unfold val
  by_cases h1:e.op=1
  ·rw[if_pos h1]
   exact⟨(lim_ok _).1,(lim_ok _).2,fun h=>by simp[isC,h1] at h⟩
  rw[if_neg h1]
  by_cases h2:e.op=2
  ·rw[if_pos h2]
   exact⟨(lim_ok _).1,(lim_ok _).2,fun h=>by simp[isC,h2] at h⟩
  rw[if_neg h2]
  match hargs:e.args with
  |[]=>simp[bnd']
  |a::r=>
   obtain⟨a1,a2,a3⟩:=ih a (ha a (by rw[hargs];simp))
   have ca:=hc a (by rw[hargs];simp)
   simp only
   split
   ·exact⟨rfl,fun _=>rfl,fun _=> .inl rfl⟩
   ·rename_i he
    split
    ·rename_i h9
     rw[h9] at ca
     have:=a3 (by rw[ca];rfl)
     rcases this with g|g<;>simp[g,bnd']
    ·rename_i h9
     match r,hargs with
     |[],_=>simp[bnd']
     |b::r',hargs=>
      obtain⟨b1,b2,b3⟩:=ih b (ha b (by rw[hargs];simp))
      have cb:=hc b (by rw[hargs];simp)
      simp only
      split
      ·rename_i hq
       refine⟨a1,fun h=>absurd rfl h,fun _=>a3 ?_⟩
       rw[ca]
       rcases hq with⟨hq,_⟩|⟨hq,_⟩<;>simp[takesC,hq]
      ·split
       ·exact⟨rfl,fun _=>rfl,fun _=> .inl rfl⟩
       ·split
        ·rename_i hq
         refine⟨b1,fun h=>absurd rfl h,fun _=>b3 ?_⟩
         rw[cb]
         rcases hq with hq|hq<;>simp[takesC,hq]
        ·rename_i hq
         obtain⟨c1,c2,c3⟩:=comb_ok e.op (val l k a).1 (val l k b).1
         refine⟨c1,c2,fun h=>c3 ?_ ?_⟩<;>simp[isC] at h<;>omega
theorem args0{e:Ex}(h:(e.args.length:Int)=takesN e.op)(h1:¬e.op=1)(h2:¬e.op=2)(h9:¬e.op=9):∃a b,e.args=[a,b]:=by
 simp only[takesN,h1,h2,or_self,if_false,h9] at h
 match e.args,h with
 |[a,b],_=>exact⟨a,b,rfl⟩
theorem args1{e:Ex}(h:(e.args.length:Int)=takesN e.op)(h9:e.op=9):∃a,e.args=[a]:=by
 simp[takesN,h9] at h
 match e.args,h with
 |[a],_=>exact⟨a,rfl⟩
theorem value_run(l:List (ByteArray×Int))(hl:l.length≤1000000)(ns:List ByteArray):∀(k m:Nat) (e:Ex),vis ns k e=0→k≤m→FN_rule_value m [.agg (eX e),.sl (l.map eF)]=some (T2 (val l k e)):=by
 intro k
 induction k with
 |zero=>intro m e h;cases h
 |succ k ih=>
  intro m e h hm
  obtain⟨ha,hn⟩:=vis_zero h
  obtain⟨ho,_,_,hlen,_,_,hc⟩:=node_zero hn
  obtain⟨m,rfl⟩:∃q,m=q+1:=⟨m-1,by omega⟩
  rw[FN_rule_value_eq]
  by_cases h1:e.op=1
  ·simp[eX_eq e,h1,limited_run,val]
  by_cases h2:e.op=2
  ·simp[eX_eq e,h2,limited_run,Get_run l e.name (by omega),val]
  by_cases h9:e.op=9
  ·obtain⟨a,hargs⟩:=args1 hlen h9
   have va:=ih m a (ha a (by rw[hargs];simp)) (by omega)
   obtain⟨a1,a2,a3⟩:=val_ok l ns k a (ha a (by rw[hargs];simp))
   rw[bnd'_iff] at a1
   have hw:IntKind.i64.wrap (1-(val l k a).1)=1-(val l k a).1:=wrap64 (by omega) (by omega)
   by_cases he:(val l k a).2=0<;>simp[eX_eq e,h9,hargs,va,he,hw,val]
  obtain⟨a,b,hargs⟩:=args0 hlen h1 h2 h9
  have va:=ih m a (ha a (by rw[hargs];simp)) (by omega)
  obtain⟨a1,a2,a3⟩:=val_ok l ns k a (ha a (by rw[hargs];simp))
  have vb:=ih m b (ha b (by rw[hargs];simp)) (by omega)
  obtain⟨b1,b2,b3⟩:=val_ok l ns k b (ha b (by rw[hargs];simp))
  by_cases he:(val l k a).2=0
  ·by_cases h10:e.op=10
   ·by_cases hx:(val l k a).1=0
    ·simp[eX_eq e,h10,hargs,va,he,hx,val]
    ·by_cases hb:(val l k b).2=0
     ·simp[eX_eq e,h10,hargs,va,vb,he,hx,hb,val]
     ·simp[eX_eq e,h10,hargs,va,vb,he,hx,hb,val,b2 hb]
   by_cases h11:e.op=11
   ·by_cases hx:(val l k a).1=1
    ·simp[eX_eq e,h11,hargs,va,he,hx,val]
    ·by_cases hb:(val l k b).2=0
     ·simp[eX_eq e,h11,hargs,va,vb,he,hx,hb,val]
     ·simp[eX_eq e,h11,hargs,va,vb,he,hx,hb,val,b2 hb]
   by_cases hb:(val l k b).2=0
   ·simp[eX_eq e,h1,h2,h9,h10,h11,hargs,va,vb,he,hb,val,combine_run e.op _ _ a1 b1]
   ·simp[eX_eq e,h1,h2,h9,h10,h11,hargs,va,vb,he,hb,val]
  ·simp[eX_eq e,h1,h2,h9,hargs,va,he,val]
end Go.Proofs.YtbdgblipbpadeaaGreatDoor.Rl
namespace Go.Proofs.YtbdgblipbpadeaaGreatDoor.Rl
open Go Go.Abs
set_option maxHeartbeats 4000000
set_option maxRecDepth 100000
def checkM(ns:List ByteArray)(e:Ex):Int:=if vis ns 8 e=0 then(if isC e.op=true then 0 else 27) else vis ns 8 e
theorem Fvisit_run(ns:List ByteArray)(hns:ns.length≤9223372036854775807)(e:Ex)(hf:Fits e):F_rule_visit [.agg (eX e),.sl (ns.map eS),I 1]=some (I (vis ns 8 e)):=
 visit_run ns hns 8 1000 e 1 hf (by omega) (by omega) (by omega)
theorem Fvalue_run(l:List (ByteArray×Int))(hl:l.length≤1000000){ns:List ByteArray}{e:Ex}(h:vis ns 8 e=0):F_rule_value [.agg (eX e),.sl (l.map eF)]=some (T2 (val l 8 e)):=value_run l hl ns 8 1000 e h (by omega)
theorem Check_run(ns:List ByteArray)(hns:ns.length≤9223372036854775807)(e:Ex)(hf:Fits e):F_rule_Check [.agg (eX e),.sl (ns.map eS)]=some (I (checkM ns e)):=by
 rw[F_rule_Check_eq]
 have hv:=Fvisit_run ns hns e hf
 by_cases h:vis ns 8 e=0<;>by_cases hc:isC e.op=true<;>simp[hv,h,isCondition_run,hc,checkM]
def eR(r:Int×Ex):List D:=I r.1::eX r.2
@[simp] theorem eR_eq(r:Int×Ex):eR r=I r.1::eX r.2:=rfl
def rulesE(ns:List ByteArray):List (Int×Ex)→Int
 |[]=>0
 |r::l=>if r.1<0∨9<r.1 then 26 else if checkM ns r.2=0 then rulesE ns l else checkM ns r.2
def checkRulesM(ns:List ByteArray)(l:List (Int×Ex)):Int:=if 32<l.length then 4 else rulesE ns l
theorem CheckRules_loop(ns:List ByteArray)(hns:ns.length≤9223372036854775807)(l:List (Int×Ex))(hl:l.length≤1000)(hf:∀x∈l,Fits x.2):∀(n i:Nat) (r:List (Int×Ex)),l.drop i=r→r.length<n→
  L_rule_CheckRules 4 n ⟨[(0,.any),(1,.sl (ns.map eS)),(4,.any),(6,.any),(7,.any),(11,.sl (l.map eR)),(12,I l.length),(13,I i)],[]⟩=
   if rulesE ns r=0 then some (.ex 0,⟨[(0,.any),(1,.any),(4,.any),(6,.any),(7,.any),(11,.any),(12,.any),(13,.any)],[]⟩) else some (.ret,⟨[(0,.any),(1,.any),(4,I (rulesE ns r)),(6,.any),(7,.any),(11,.any),(12,.any),(13,.any)],[]⟩)
 |0,_,_,_,hn=>by omega
 |n+1,i,[],hr,hn=>by
  rw[L_rule_CheckRules_succ,R_rule_CheckRules_eq]
  simp[dn hr,rulesE]
 |n+1,i,x::r,hr,hn=>by
  rw[L_rule_CheckRules_succ,R_rule_CheckRules_eq]
  obtain⟨h1,h3,hr',hi⟩:=dc (enc:=eR) hr
  have hw:=wrapN (n:=i) (by omega)
  have ih:=CheckRules_loop ns hns l hl hf n (i+1) r hr' (by simp at hn;omega)
  simp at ih
  have hx:=hf x (by rw[←List.take_append_drop i l,hr];simp)
  by_cases g1:x.1<0
  ·simp[h1,h3,hw,g1,rulesE]
  by_cases g2:9<x.1
  ·simp[h1,h3,hw,g1,g2,rulesE]
  have g3:x.1≤9:=by omega
  have g4:0≤x.1:=by omega
  by_cases g:checkM ns x.2=0<;>simp[h1,h3,hw,g1,g2,g3,g4,rulesE,Check_run ns hns x.2 hx,g,ih]
theorem CheckRules_run(ns:List ByteArray)(hns:ns.length≤9223372036854775807)(l:List (Int×Ex))(hl:l.length≤1000)(hf:∀x∈l,Fits x.2):F_rule_CheckRules [.sl (l.map eR),.sl (ns.map eS)]=some (I (checkRulesM ns l)):=by
 rw[F_rule_CheckRules_eq]
 have hbig:=bigL_ge
 have ih:=CheckRules_loop ns hns l hl hf bigL 0 l rfl (by omega)
 simp at ih
 by_cases h:32<l.length
 ·have:(32:Int)<l.length:=by omega
  simp[this,checkRulesM,h]
 ·have:¬(32:Int)<l.length:=by omega
  by_cases g:rulesE ns l=0<;>simp[g] at ih<;>simp[this,ih,checkRulesM,h,g]
def gradeL(f:List (ByteArray×Int)):Nat→List (Int×Ex)→Int×Int×Int
 |_,[]=>(0,-1,0)
 |i,r::l=>if(val f 8 r.2).2=0 then(if(val f 8 r.2).1=1 then(r.1,(i:Int),0) else gradeL f (i+1) l) else(0,0,(val f 8 r.2).2)
def gradeM(l:List (Int×Ex))(f:List (ByteArray×Int)):Int×Int×Int:=if checkRulesM (nms f) l=0 then gradeL f 0 l else(0,0,checkRulesM (nms f) l)
def hits(f:List (ByteArray×Int)):List (Int×Ex)→Bool
 |[]=>false
 |r::l=>if(val f 8 r.2).2=0 then(if(val f 8 r.2).1=1 then true else hits f l) else true
theorem hits_false(f:List (ByteArray×Int)):∀(l:List (Int×Ex)) (i:Nat),hits f l=false→gradeL f i l=(0,-1,0)
 |[],i,_=>rfl
 |r::l,i,h=>by
  unfold hits at h
  unfold gradeL
  split at h
  ·rename_i g
   rw[if_pos g]
   split at h
   ·cases h
   ·rename_i g2;rw[if_neg g2];exact hits_false f l (i+1) h
  ·cases h
theorem rules_vis{ns:List ByteArray}:∀{l:List (Int×Ex)},rulesE ns l=0→∀x∈l,vis ns 8 x.2=0∧isC x.2.op=true
 |[],_,x,h=>by simp at h
 |r::l,hr,x,h=>by
  unfold rulesE at hr
  split at hr
  ·cases hr
  ·split at hr
   ·rename_i hc
    rcases List.mem_cons.1 h with rfl|h
    ·unfold checkM at hc
     split at hc
     ·rename_i hv
      split at hc
      ·rename_i ho;exact⟨hv,ho⟩
      ·cases hc
     ·rename_i hv;exact absurd hc hv
    ·exact rules_vis hr x h
   ·rename_i hc;exact absurd hr hc
theorem Grade_loop(f:List (ByteArray×Int))(hf:f.length≤1000000)(l:List (Int×Ex))(hl:l.length≤1000)(hv:∀x∈l,vis (nms f) 8 x.2=0):∀(n i:Nat) (r:List (Int×Ex)),l.drop i=r→r.length<n→
  L_rule_Grade 5 n ⟨[(0,.any),(1,.sl (f.map eF)),(4,.any),(5,.any),(6,.any),(7,.any),(8,.any),(9,.any),(10,.any),(11,.any),(19,.sl (l.map eR)),(20,I l.length),(21,I i)],[]⟩=
   if hits f r=true then some (.ret,⟨[(0,.any),(1,.any),(4,I (gradeL f i r).1),(5,I (gradeL f i r).2.1),(6,I (gradeL f i r).2.2),(7,.any),(8,.any),(9,.any),(10,.any),(11,.any),(19,.any),(20,.any),(21,.any)],[]⟩) else some (.ex 0,⟨[(0,.any),(1,.any),(4,.any),(5,.any),(6,.any),(7,.any),(8,.any),(9,.any),(10,.any),(11,.any),(19,.any),(20,.any),(21,.any)],[]⟩)
 |0,_,_,_,hn=>by omega
 |n+1,i,[],hr,hn=>by
  rw[L_rule_Grade_succ,R_rule_Grade_eq]
  simp[dn hr,hits]
 |n+1,i,x::r,hr,hn=>by
  rw[L_rule_Grade_succ,R_rule_Grade_eq]
  obtain⟨h1,h3,hr',hi⟩:=dc (enc:=eR) hr
  have hw:=wrapN (n:=i) (by omega)
  have ih:=Grade_loop f hf l hl hv n (i+1) r hr' (by simp at hn;omega)
  simp at ih
  have hx:=Fvalue_run f hf (hv x (by rw[←List.take_append_drop i l,hr];simp))
  by_cases g:(val f 8 x.2).2=0
  ·by_cases g1:(val f 8 x.2).1=1<;>simp[h1,h3,hw,g,g1,hx,hits,gradeL,ih]
  ·simp[h1,h3,hw,g,hx,hits,gradeL]
theorem Grade_run(f:List (ByteArray×Int))(hf:f.length≤1000000)(l:List (Int×Ex))(hl:l.length≤1000)(hx:∀x∈l,Fits x.2):F_rule_Grade [.sl (l.map eR),.sl (f.map eF)]=some (.tup [I (gradeM l f).1,I (gradeM l f).2.1,I (gradeM l f).2.2]):=by
 rw[F_rule_Grade_eq]
 have hbig:=bigL_ge
 have hc:=CheckRules_run (nms f) (by rw[nms_length];omega) l hl hx
 by_cases h:checkRulesM (nms f) l=0
 ·have hr:rulesE (nms f) l=0:=by
   unfold checkRulesM at h
   split at h
   ·cases h
   ·exact h
  have ih:=Grade_loop f hf l hl (fun x hx=>(rules_vis hr x hx).1) bigL 0 l rfl (by omega)
  simp at ih
  cases hh:hits f l with
  |true=>
   simp[hh] at ih
   simp[names_run f hf,hc,h,ih,gradeM]
  |false=>
   simp[hh] at ih
   simp[names_run f hf,hc,h,ih,gradeM,hits_false f l 0 hh]
 ·simp[names_run f hf,hc,h,gradeM]
end Go.Proofs.YtbdgblipbpadeaaGreatDoor.Rl
