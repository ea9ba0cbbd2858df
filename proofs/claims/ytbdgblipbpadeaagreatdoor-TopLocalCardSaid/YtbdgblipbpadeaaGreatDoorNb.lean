/-
  Expressions, and the small functions of the rules, run abstractly.
-/
import Derived.Test.YtbdgblipbpadeaaGreatDoorMg
set_option linter.unusedSimpArgs false
set_option linter.unusedVariables false
set_option linter.defProp false
namespace Go.Proofs.YtbdgblipbpadeaaGreatDoor.Rl
open Go Go.Abs
set_option maxHeartbeats 2000000
set_option maxRecDepth 100000
abbrev I(n:Int):D:= .x (.int .i64 n)
abbrev B(b:Bool):D:= .x (.bool b)
abbrev St'(s:ByteArray):D:= .x (.string s)
theorem wrapN{n:Nat}(h:n<9223372036854775807):IntKind.i64.wrap ((n:Int)+1)=(n:Int)+1:=wrap64 (by omega) (by omega)
@[simp] theorem nameNil(a:ByteArray):a.toList=[]↔a=ByteArray.empty:=by
 have h:=str_eq a ByteArray.empty
 have e:ByteArray.empty.toList=[]:=by simp
 rw[e] at h
 constructor
 ·intro h'
  rw[h'] at h
  simpa using h.symm
 ·rintro rfl
  exact e
inductive Ex where
 |mk (op n:Int) (name:ByteArray) (args:List Ex)
def Ex.op:Ex→Int
 | .mk op _ _ _=>op
def Ex.n:Ex→Int
 | .mk _ n _ _=>n
def Ex.name:Ex→ByteArray
 | .mk _ _ s _=>s
def Ex.args:Ex→List Ex
 | .mk _ _ _ l=>l
mutual
def eX:Ex→List D
 | .mk op n s l=>[I op,I n,St' s,.sl (eXs l)]
def eXs:List Ex→List (List D)
 |[]=>[]
 |e::r=>eX e::eXs r
end
theorem eXs_map(l:List Ex):eXs l=l.map eX:=by
 induction l with
 |nil=>rfl
 |cons e r ih=>simp[eXs,ih]
theorem eX_eq(e:Ex):eX e=[I e.op,I e.n,St' e.name,.sl (e.args.map eX)]:=by
 cases e
 simp[eX,eXs_map,Ex.op,Ex.n,Ex.name,Ex.args]
@[simp] theorem eX_length(e:Ex):(eX e).length=4:=by simp[eX_eq]
@[simp] theorem eX_take(e:Ex):(eX e).take 4=eX e:=by simp[eX_eq]
@[simp] theorem eX_frz(keep:List Nat)(t:Nat)(e:Ex)(k:Nat)(s:St):frzAgg keep t (eX e) k s=s:=by simp[eX_eq,frzAgg]
@[simp] theorem eX_kill(id:Nat)(e:Ex):(eX e).map (kill1 id)=eX e:=by simp[eX_eq]
@[simp] theorem eX_res(η:Nat→Option O)(e:Ex):resC η (eX e)=some (eX e,false):=by simp[eX_eq]
@[simp] theorem eX_used(k:Nat)(e:Ex):usedC k (eX e)=false:=by simp[eX_eq]
@[simp] theorem eX_one(e:Ex):(eX e).all Go.Abs.one=true:=by simp[eX_eq]
@[simp] theorem eX_e0(e:Ex)(h:0<(eX e).length):(eX e)[0]=I e.op:=by simp[eX_eq]
@[simp] theorem eX_e3(e:Ex)(h:3<(eX e).length):(eX e)[3]= .sl (e.args.map eX):=by simp[eX_eq]
def eF(f:ByteArray×Int):List D:=[St' f.1,I f.2]
@[simp] theorem eF_eq(f:ByteArray×Int):eF f=[St' f.1,I f.2]:=rfl
def takesN(op:Int):Int:=if op=1∨op=2 then 0 else if op=9 then 1 else 2
def isC(op:Int):Bool:=decide (6≤op)&&decide (op≤11)
def takesC(op:Int):Bool:=decide (op=9)||(decide (op=10)||decide (op=11))
def bnd'(n:Int):Bool:=decide (-1099511627776≤n)&&decide (n≤1099511627776)
theorem takes_run(op:Int):F_rule_takes [I op]=some (I (takesN op)):=by
 rw[F_rule_takes_eq]
 simp[takesN]
 (repeat' split)<;>omega
theorem isCondition_run(op:Int):F_rule_isCondition [I op]=some (B (isC op)):=by
 rw[F_rule_isCondition_eq]
 simp[isC]
theorem takesConditions_run(op:Int):F_rule_takesConditions [I op]=some (B (takesC op)):=by
 rw[F_rule_takesConditions_eq]
 simp[takesC]
theorem bounded_run(n:Int):F_rule_bounded [I n]=some (B (bnd' n)):=by
 rw[F_rule_bounded_eq]
 simp[bnd']
def hasS:List ByteArray→ByteArray→Bool
 |[],_=>false
 |s::r,x=>if s=x then true else hasS r x
def idxS(x:ByteArray):Nat→List ByteArray→Int
 |_,[]=> -1
 |i,s::r=>if s=x then i else idxS x (i+1) r
theorem idxS_has(x:ByteArray):∀(l:List ByteArray) (i:Nat),decide (0≤idxS x i l)=hasS l x
 |[],i=>by simp[idxS,hasS]
 |s::r,i=>by
  unfold idxS hasS
  split
  ·simp
  ·exact idxS_has x r (i+1)
theorem dc{α:Type}{enc:α→List D}{l:List α}{i:Nat}{x:α}{r:List α}(h:l.drop i=x::r):(l.map enc)[i]? =some (enc x)∧(i:Int)<l.length∧l.drop (i+1)=r∧i<l.length:=by
 have hi:i<l.length:=by
  cases Nat.lt_or_ge i l.length with
  |inl h=>exact h
  |inr h'=>rw[List.drop_of_length_le h'] at h;cases h
 rw[List.drop_eq_getElem_cons hi] at h
 injection h with h1 h2
 exact⟨by simp[hi,h1],by omega,h2,hi⟩
theorem dn{α:Type}{l:List α}{i:Nat}(h:l.drop i=[]):¬(i:Int)<l.length:=by
 have:=List.drop_eq_nil_iff.1 h
 omega
theorem mapGet{α:Type}{enc:α→List D}{l:List α}{i:Nat}(h:i<l.length):(l.map enc)[i]? =some (enc l[i]):=by simp[h]
theorem index_loop(l:List ByteArray)(x:ByteArray)(hl:l.length≤9223372036854775807):∀(n i:Nat),i≤l.length→l.length-i<n→
  L_slices_Index_string_string 2 n ⟨[(0,.sl (l.map eS)),(1,St' x),(4,.any),(5,.any),(7,I l.length),(8,I i)],[]⟩=
   if hasS (l.drop i) x=true then some (.ret,⟨[(0,.any),(1,.any),(4,I (idxS x i (l.drop i))),(5,.any),(7,.any),(8,.any)],[]⟩) else some (.ex 0,⟨[(0,.any),(1,.any),(4,.any),(5,.any),(7,.any),(8,.any)],[]⟩)
 |0,i,_,hn=>by omega
 |n+1,i,hi,hn=>by
  rw[L_slices_Index_string_string_succ,R_slices_Index_string_string_eq]
  by_cases h:i<l.length
  ·have h1:=mapGet (enc:=eS) h
   have h3:(i:Int)<l.length:=by omega
   have hw:=wrapN (n:=i) (by omega)
   rw[List.drop_eq_getElem_cons h]
   by_cases hq:x=l[i]
   ·simp[h1,h3,←hq,hw,idxS,hasS]
   ·have hq':¬l[i]=x:=fun e=>hq e.symm
    have ih:=index_loop l x hl n (i+1) (by omega) (by omega)
    simp at ih
    simp[h1,h3,hq,hq',hw,idxS,hasS,ih]
  ·have h3:¬(i:Int)<l.length:=by omega
   simp[h3,List.drop_of_length_le (Nat.le_of_not_lt h),hasS]
theorem contains_run(l:List ByteArray)(x:ByteArray)(hl:l.length≤9223372036854775807):F_slices_Contains_string_string [.sl (l.map eS),St' x]=some (B (hasS l x)):=by
 have hix:F_slices_Index_string_string [.sl (l.map eS),St' x]=some (I (idxS x 0 l)):=by
  rw[F_slices_Index_string_string_eq]
  have hbig:=bigL_ge
  have ih:=index_loop l x hl bigL 0 (by omega) (by omega)
  simp at ih
  simp[ih]
  intro hh
  have:=idxS_has x l 0
  rw[hh] at this
  simp at this
  have:∀(l:List ByteArray) (i:Nat),idxS x i l<0→idxS x i l= -1:=by
   intro l
   induction l with
   |nil=>intro i _;rfl
   |cons s r ih=>
    intro i h
    unfold idxS at h⊢
    split at h
    ·omega
    ·rename_i hs;rw[if_neg hs];exact ih _ h
  rw[this l 0 (by assumption)]
 rw[F_slices_Contains_string_string_eq]
 simp[hix,←idxS_has x l 0]
def nms:List (ByteArray×Int)→List ByteArray
 |[]=>[]
 |f::r=>f.1::nms r
theorem nms_length(l:List (ByteArray×Int)):(nms l).length=l.length:=by
 induction l with
 |nil=>rfl
 |cons f r ih=>simp[nms,ih]
theorem names_loop(l:List (ByteArray×Int))(hl:l.length≤1000000):∀(n i:Nat) (r:List (ByteArray×Int)) (acc:List ByteArray),l.drop i=r→r.length<n→acc.length≤i→
  L_rule_names 3 n ⟨[(0,.any),(2,.any),(3,.row 3),(5,.any),(6,.sl (l.map eF)),(7,I l.length),(8,I i)],[(3,.row 9 1 true (acc.map eS))]⟩=
   some (.ex 0,⟨[(0,.any),(2,.any),(3,.row 3),(5,.any),(6,.any),(7,.any),(8,.any)],[(3,.row 9 1 true ((acc++nms r).map eS))]⟩)
 |0,_,_,_,_,hn,_=>by omega
 |n+1,i,[],acc,hr,hn,ha=>by
  rw[L_rule_names_succ,R_rule_names_eq]
  simp[dn hr,nms]
 |n+1,i,x::r,acc,hr,hn,ha=>by
  rw[L_rule_names_succ,R_rule_names_eq]
  obtain⟨h1,h3,hr',hi⟩:=dc (enc:=eF) hr
  have hw:=wrapN (n:=i) (by omega)
  have h4:(acc.length+1)*17≤140737488355328:=by omega
  have ih:=names_loop l hl n (i+1) r (acc++[x.1]) hr' (by simp at hn;omega) (by simp;omega)
  simp at ih
  simp[h1,h3,hw,nms,h4,ih]
theorem names_run(l:List (ByteArray×Int))(hl:l.length≤1000000):F_rule_names [.sl (l.map eF)]=some (.own true ((nms l).map eS)):=by
 rw[F_rule_names_eq]
 have hbig:=bigL_ge
 have ih:=names_loop l hl bigL 0 l [] rfl (by omega) (by simp)
 simp at ih
 simp[ih]
def getF(x:ByteArray):List (ByteArray×Int)→Option Int
 |[]=>none
 |f::r=>if f.1=x then some f.2 else getF x r
theorem Get_loop(l:List (ByteArray×Int))(x:ByteArray)(hl:l.length≤9223372036854775807):∀(n i:Nat),i≤l.length→l.length-i<n→
  L_feature_Get 2 n ⟨[(0,.any),(1,St' x),(4,.any),(5,.any),(7,.any),(8,.sl (l.map eF)),(9,I l.length),(10,I i)],[]⟩=
   if(getF x (l.drop i)).isSome=true then some (.ret,⟨[(0,.any),(1,.any),(4,I ((getF x (l.drop i)).getD 0)),(5,B true),(7,.any),(8,.any),(9,.any),(10,.any)],[]⟩) else some (.ex 0,⟨[(0,.any),(1,.any),(4,.any),(5,.any),(7,.any),(8,.any),(9,.any),(10,.any)],[]⟩)
 |0,i,_,hn=>by omega
 |n+1,i,hi,hn=>by
  rw[L_feature_Get_succ,R_feature_Get_eq]
  by_cases h:i<l.length
  ·have h1:=mapGet (enc:=eF) h
   have h3:(i:Int)<l.length:=by omega
   have hw:=wrapN (n:=i) (by omega)
   rw[List.drop_eq_getElem_cons h]
   have ih:=Get_loop l x hl n (i+1) (by omega) (by omega)
   simp at ih
   by_cases hq:l[i].1=x
   ·simp[h1,h3,hq,hw,getF]
   ·simp[h1,h3,hq,hw,getF,ih]
  ·have h3:¬(i:Int)<l.length:=by omega
   simp[h3,List.drop_of_length_le (Nat.le_of_not_lt h),getF]
theorem Get_run(l:List (ByteArray×Int))(x:ByteArray)(hl:l.length≤9223372036854775807):F_feature_Get [.sl (l.map eF),St' x]=some (.tup [I ((getF x l).getD 0),B (getF x l).isSome]):=by
 rw[F_feature_Get_eq]
 have hbig:=bigL_ge
 have ih:=Get_loop l x hl bigL 0 (by omega) (by omega)
 simp at ih
 cases hg:getF x l<;>simp[hg] at ih<;>simp[ih]
end Go.Proofs.YtbdgblipbpadeaaGreatDoor.Rl
namespace Go.Proofs.YtbdgblipbpadeaaGreatDoor.Rl
open Go Go.Abs
set_option maxHeartbeats 4000000
set_option maxRecDepth 100000
def firstE(v:Ex→Int):List Ex→Int
 |[]=>0
 |a::r=>if v a=0 then firstE v r else v a
def anyBad(t:Bool):List Ex→Bool
 |[]=>false
 |a::r=>if isC a.op=t then anyBad t r else true
def node(ns:List ByteArray)(e:Ex):Int:=
 if e.op<1∨11<e.op then 10
 else if(e.n≠0∧e.op≠1)∨(e.name≠ByteArray.empty∧e.op≠2)∨(e.args.length:Int)≠takesN e.op then 5
 else if e.op=2∧hasS ns e.name=false then 8
 else if e.op=1∧bnd' e.n=false then 9
 else if anyBad (takesC e.op) e.args=true then 27
 else 0
def vis(ns:List ByteArray):Nat→Ex→Int
 |0,_=>28
 |k+1,e=>if firstE (vis ns k) e.args=0 then node ns e else firstE (vis ns k) e.args
theorem visit_loopA(sf:List D→Option D)(v:Ex→Int)(ns:List ByteArray)(lv:Int)(hlv: -9223372036854775808≤lv∧lv≤8)(e:Ex)(hsf:∀a∈e.args,sf [.agg (eX a),.sl (ns.map eS),I (lv+1)]=some (I (v a)))(hl:e.args.length≤9223372036854775807):∀(n i:Nat) (r:List Ex),e.args.drop i=r→r.length<n→
  L_rule_visit sf 4 n ⟨[(0,.any),(1,.sl (ns.map eS)),(2,I lv),(3,.ptr 3 0),(6,.any),(8,.any),(9,.any),(11,.any),(15,.sl (e.args.map eX)),(16,I e.args.length),(17,I i),(85,.any),(86,.any),(87,.any)],[(3,.box 132 [I e.op,I e.n,St' e.name,.sl (e.args.map eX)])]⟩=
   if firstE v r=0 then some (.ex 0,⟨[(0,.any),(1,.sl (ns.map eS)),(2,.any),(3,.ptr 3 0),(6,.any),(8,.any),(9,.any),(11,.any),(15,.any),(16,.any),(17,.any),(85,.any),(86,.any),(87,.any)],[(3,.box 132 [I e.op,I e.n,St' e.name,.sl (e.args.map eX)])]⟩)
   else some (.ret,⟨[(0,.any),(1,.any),(2,.any),(3,.any),(6,I (firstE v r)),(8,.any),(9,.any),(11,.any),(15,.any),(16,.any),(17,.any),(85,.any),(86,.any),(87,.any)],[]⟩)
 |0,_,_,_,hn=>by omega
 |n+1,i,[],hr,hn=>by
  rw[L_rule_visit_succ,R_rule_visit_eq]
  simp[dn hr,firstE]
 |n+1,i,x::r,hr,hn=>by
  rw[L_rule_visit_succ,R_rule_visit_eq]
  obtain⟨h1,h3,hr',hi⟩:=dc (enc:=eX) hr
  have hw:=wrapN (n:=i) (by omega)
  have hw2:IntKind.i64.wrap (lv+1)=lv+1:=wrap64 (by omega) (by omega)
  have hx:x∈e.args:=by rw[←List.take_append_drop i e.args,hr];simp
  have h5:=hsf x hx
  have ih:=visit_loopA sf v ns lv hlv e hsf hl n (i+1) r hr' (by simp at hn;omega)
  simp at ih
  by_cases hz:v x=0
  ·simp[h1,h3,hw,hw2,h5,hz,firstE,ih]
  ·simp[h1,h3,hw,hw2,h5,hz,firstE]
theorem visit_loopB(sf:List D→Option D)(e:Ex)(hl:e.args.length≤9223372036854775807):∀(n i:Nat) (r:List Ex),e.args.drop i=r→r.length<n→
  L_rule_visit sf 19 n ⟨[(0,.any),(1,.any),(2,.any),(3,.ptr 3 0),(6,.any),(8,.any),(9,.any),(11,.any),(15,.any),(16,.any),(17,.any),(85,.sl (e.args.map eX)),(86,I e.args.length),(87,I i)],[(3,.box 132 [I e.op,I e.n,St' e.name,.sl (e.args.map eX)])]⟩=
   if anyBad (takesC e.op) r=true then some (.ret,⟨[(0,.any),(1,.any),(2,.any),(3,.any),(6,I 27),(8,.any),(9,.any),(11,.any),(15,.any),(16,.any),(17,.any),(85,.any),(86,.any),(87,.any)],[]⟩)
   else some (.ex 2,⟨[(0,.any),(1,.any),(2,.any),(3,.any),(6,.any),(8,.any),(9,.any),(11,.any),(15,.any),(16,.any),(17,.any),(85,.any),(86,.any),(87,.any)],[]⟩)
 |0,_,_,_,hn=>by omega
 |n+1,i,[],hr,hn=>by
  rw[L_rule_visit_succ,R_rule_visit_eq]
  simp[dn hr,anyBad]
 |n+1,i,x::r,hr,hn=>by
  rw[L_rule_visit_succ,R_rule_visit_eq]
  obtain⟨h1,h3,hr',hi⟩:=dc (enc:=eX) hr
  have hw:=wrapN (n:=i) (by omega)
  have ih:=visit_loopB sf e hl n (i+1) r hr' (by simp at hn;omega)
  simp at ih
  by_cases hz:isC x.op=takesC e.op<;>simp[h1,h3,hw,isCondition_run,takesConditions_run,hz,anyBad,ih]
theorem takesN_nn(op:Int):¬takesN op<0:=by unfold takesN;(repeat' split)<;>omega
inductive Fits:Ex→Prop
 |mk {e:Ex} (ho: -9223372036854775808≤e.op∧e.op≤9223372036854775807) (hn: -9223372036854775808≤e.n∧e.n≤9223372036854775807) (hs:e.name.size≤9223372036854775807) (hl:e.args.length≤9223372036854775807) (ha:∀a∈e.args,Fits a):Fits e
theorem visit_run(ns:List ByteArray)(hns:ns.length≤9223372036854775807):∀(k m:Nat) (e:Ex) (lv:Int),Fits e→k<m→lv=9-(k:Int)→-1000≤lv→FN_rule_visit m [.agg (eX e),.sl (ns.map eS),I lv]=some (I (vis ns k e)):=by
 intro k
 induction k with
 |zero=>
  intro m e lv hf hm hlv _
  obtain⟨m,rfl⟩:∃q,m=q+1:=⟨m-1,by omega⟩
  subst hlv
  rw[FN_rule_visit_eq]
  simp[vis]
 |succ k ih=>
  intro m e lv hf hm hlv hlow
  obtain⟨m,rfl⟩:∃q,m=q+1:=⟨m-1,by omega⟩
  rw[FN_rule_visit_eq]
  have h8:¬8<lv:=by omega
  have hbig:=bigL_ge
  obtain⟨ho,hn,hs,hl,ha⟩:=hf
  have hA:=visit_loopA (FN_rule_visit m) (vis ns k) ns lv ⟨by omega,by omega⟩ e (fun a h=>ih m a (lv+1) (ha a h) (by omega) (by omega) (by omega)) hl bigL 0 e.args rfl (by omega)
  have hB:=visit_loopB (FN_rule_visit m) e hl bigL 0 e.args rfl (by omega)
  simp at hA hB
  unfold vis
  by_cases hz:firstE (vis ns k) e.args=0
  ·rw[if_pos hz]
   simp[hz] at hA
   simp[h8,eX_eq e,hA,hB,takes_run,contains_run ns e.name hns,bounded_run]
   clear hA hB ih
   unfold node
   by_cases g1:e.op<1∨11<e.op
   ·(repeat' split)<;>first|rfl|omega
   ·have g2:1≤e.op:=by omega
    have g2':¬e.op<1:=by omega
    have g3:¬11<e.op:=by omega
    have g3':e.op≤11:=by omega
    have g9:=takesN_nn e.op
    simp only[g2,g2',g3,g9,or_self,if_true,if_false]
    by_cases g4:e.op=2
    ·by_cases g5:e.n=0<;>by_cases g6:(e.args.length:Int)=takesN 2<;>by_cases g7:hasS ns e.name=false<;>simp[g4,g5,g6,g7]
    ·by_cases g5:e.op=1
     ·by_cases g6:(e.args.length:Int)=takesN 1<;>by_cases g7:e.name=ByteArray.empty<;>by_cases g8:bnd' e.n=false<;>simp[g5,g6,g7,g8]
     ·by_cases g6:(e.args.length:Int)=takesN e.op<;>by_cases g7:e.name=ByteArray.empty<;>by_cases g8:e.n=0<;>simp[g4,g5,g6,g7,g8]
  ·rw[if_neg hz]
   simp[hz] at hA
   simp[h8,eX_eq e,hA]
end Go.Proofs.YtbdgblipbpadeaaGreatDoor.Rl
