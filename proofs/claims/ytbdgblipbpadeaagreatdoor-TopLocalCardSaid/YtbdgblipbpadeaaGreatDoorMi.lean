/-
  The curve's functions of the program, run abstractly: Check, floor, At.
-/
import Derived.Test.YtbdgblipbpadeaaGreatDoorMg
import Derived.Test.YtbdgblipbpadeaaGreatDoorMc
set_option linter.unusedSimpArgs false
set_option linter.unusedVariables false
set_option linter.defProp false
namespace Go.Proofs.YtbdgblipbpadeaaGreatDoor
open Go Go.Abs
set_option maxHeartbeats 2000000
set_option maxRecDepth 100000
abbrev I(n:Int):D:= .x (.int .i64 n)
abbrev B(b:Bool):D:= .x (.bool b)
theorem wrapN{n:Nat}(h:n<9223372036854775807):IntKind.i64.wrap ((n:Int)+1)=(n:Int)+1:=wrap64 (by omega) (by omega)
theorem wrapP{n:Nat}(h0:n≠0)(h:n≤9223372036854775807):IntKind.i64.wrap ((n:Int)-1)=((n-1:Nat):Int):=by rw[wrap64]<;>omega
def inR(n:Int):Bool:=decide (-1000000≤n)&&decide (n≤1000000)
theorem inR_iff{n:Int}:inR n=true↔-1000000≤n∧n≤1000000:=by simp[inR]
theorem inRange_run(n:Int):F_curve_inRange [I n]=some (B (inR n)):=by
 rw[F_curve_inRange_eq]
 simp[inR]
def eP(p:Int×Int):List D:=[I p.1,I p.2]
def eI(n:Int):List D:=[I n]
@[simp] theorem eP_eq(p:Int×Int):eP p=[I p.1,I p.2]:=rfl
@[simp] theorem eI_eq(n:Int):eI n=[I n]:=rfl
def notUp(p:Option Int)(x:Int):Bool:=match p with
 |some y=>decide (x≤y)
 |none=>false
@[simp] theorem notUp_none(x:Int):notUp none x=false:=rfl
@[simp] theorem notUp_some(x y:Int):notUp (some y) x=decide (x≤y):=rfl
def chk(p:Option Int):List (Int×Int)→Int
 |[]=>0
 |q::r=>if(inR q.1&&inR q.2)=false then 9 else if notUp p q.1=true then 11 else chk (some q.1) r
def prv(l:List (Int×Int))(i:Nat):Option Int:=if i=0 then none else l[i-1]?.map (·.1)
theorem prv_succ{l:List (Int×Int)}{i:Nat}(h:i<l.length):prv l (i+1)=some l[i].1:=by simp[prv,h]
theorem prv_pos{l:List (Int×Int)}{i:Nat}(h0:i≠0)(h:i<l.length):prv l i=some (l[i-1]'(by omega)).1:=by
 have:i-1<l.length:=by omega
 simp[prv,h0,this]
theorem check_loop(l:List (Int×Int))(hb:l.length≤9223372036854775807):∀(n i:Nat),i≤l.length→l.length-i<n→
  L_curve_Check 6 n ⟨[(0,.sl (l.map eP)),(2,.any),(3,.any),(4,.any),(11,.sl (l.map eP)),(12,I l.length),(13,I i)],[]⟩=
   if chk (prv l i) (l.drop i)=0 then some (.ex 0,⟨[(0,.any),(2,.any),(3,.any),(4,.any),(11,.any),(12,.any),(13,.any)],[]⟩)
   else some (.ret,⟨[(0,.any),(2,I (chk (prv l i) (l.drop i))),(3,.any),(4,.any),(11,.any),(12,.any),(13,.any)],[]⟩)
 |0,i,_,hn=>by omega
 |n+1,i,hi,hn=>by
  rw[L_curve_Check_succ,R_curve_Check_eq]
  by_cases h:i<l.length
  ·have h1:=List.getElem?_eq_getElem h
   have h3:(i:Int)<l.length:=by omega
   have hw:=wrapN (n:=i) (by omega)
   have ih:=check_loop l hb n (i+1) (by omega) (by omega)
   rw[List.drop_eq_getElem_cons h,chk]
   rw[prv_succ h] at ih
   simp only[Int.natCast_add,Int.natCast_one] at ih
   by_cases h0:i=0
   ·have h7:¬0<i:=by omega
    have hp:prv l i=none:=by simp[prv,h0]
    simp[h1,h3,inRange_run,hw,h7,ih,hp]
    cases inR l[i].1<;>cases inR l[i].2<;>simp
   ·have h5:=wrapP h0 (by omega)
    have h6:=List.getElem?_eq_getElem (l:=l) (i:=i-1) (by omega)
    have h7:0<i:=by omega
    rw[prv_pos h0 h]
    simp[h1,h3,inRange_run,hw,h5,h6,h7,ih]
    cases inR l[i].1<;>cases inR l[i].2<;>simp
    split<;>simp
  ·have h3:¬(i:Int)<l.length:=by omega
   have h4:l.drop i=[]:=List.drop_of_length_le (by omega)
   simp[h3,h4,chk]
def check(l:List (Int×Int)):Int:=if l=[] then 3 else if 16<(l.length:Int) then 4 else chk none l
theorem check_run(l:List (Int×Int))(hb:l.length≤9223372036854775807):F_curve_Check [.sl (l.map eP)]=some (I (check l)):=by
 rw[F_curve_Check_eq]
 have ih:=check_loop l hb bigL 0 (by omega) (by have:=bigL_ge;omega)
 simp[prv] at ih
 simp[ih,check]
 repeat' split
 all_goals simp_all
theorem chk_zero:∀(l:List (Int×Int)) (p:Option Int),chk p l=0→(∀q∈l,inR q.1=true∧inR q.2=true)∧(l.map (·.1)).Pairwise (·<·)∧∀y,p=some y→∀q∈l,y<q.1
 |[],p,_=>by simp
 |q::r,p,h=>by
  unfold chk at h
  split at h
  ·cases h
  ·rename_i h1
   split at h
   ·cases h
   ·rename_i h2
    obtain⟨a,b,c⟩:=chk_zero r (some q.1) h
    simp at h1
    have c':=c q.1 rfl
    refine⟨?_, ?_, ?_⟩
    ·intro x hx
     rcases List.mem_cons.1 hx with rfl|hx
     ·exact h1
     ·exact a x hx
    ·simp only[List.map_cons,List.pairwise_cons]
     refine⟨?_,b⟩
     intro x hx
     obtain⟨z,hz,rfl⟩:=List.mem_map.1 hx
     exact c' z hz
    ·rintro y rfl x hx
     simp at h2
     rcases List.mem_cons.1 hx with rfl|hx
     ·exact h2
     ·exact Int.lt_trans h2 (c' x hx)
theorem zero_chk:∀(l:List (Int×Int)) (p:Option Int),(∀q∈l,inR q.1=true∧inR q.2=true)→(l.map (·.1)).Pairwise (·<·)→(∀y,p=some y→∀q∈l,y<q.1)→chk p l=0
 |[],p,_,_,_=>rfl
 |q::r,p,h1,h2,h3=>by
  have hq:=h1 q (by simp)
  simp only[List.map_cons,List.pairwise_cons] at h2
  unfold chk
  have hn:notUp p q.1=false:=by
   cases p with
   |none=>rfl
   |some y=>have:=h3 y rfl q (by simp);simp;omega
  simp only[hq.1,hq.2,hn,Bool.and_self,Bool.true_eq_false,Bool.false_eq_true,if_false]
  refine zero_chk r _ (fun x hx=>h1 x (by simp[hx])) h2.2 ?_
  rintro y hy x hx
  cases hy
  exact h2.1 _ (List.mem_map_of_mem hx)
structure Good(l:List (Int×Int)):Prop where
 ne:l≠[]
 len:l.length≤16
 rng:∀q∈l,(-1000000≤q.1∧q.1≤1000000)∧(-1000000≤q.2∧q.2≤1000000)
 up:(l.map (·.1)).Pairwise (·<·)
theorem good_iff(l:List (Int×Int)):check l=0↔Good l:=by
 unfold check
 constructor
 ·intro h
  split at h
  ·cases h
  ·split at h
   ·cases h
   ·obtain⟨a,b,_⟩:=chk_zero l none h
    refine⟨by assumption,by omega,fun q hq=>?_,b⟩
    have:=a q hq
    rw[inR_iff,inR_iff] at this
    exact this
 ·intro h
  have:=h.len
  rw[if_neg h.ne,if_neg (by omega)]
  exact zero_chk l none (fun q hq=>by rw[inR_iff,inR_iff];exact h.rng q hq) h.up (fun y hy=>by cases hy)
theorem floor_val{a b:Int}(hb:0<b):(if a.tmod b<0 then a.tdiv b-1 else a.tdiv b)=a/b:=by
 have h1:=Int.mul_tdiv_add_tmod a b
 have h2:=Int.tmod_lt_of_pos a hb
 have h3:=Int.lt_tmod_of_pos a hb
 symm
 split
 ·rw[Int.ediv_eq_iff_of_pos hb]
  constructor<;>(try rw[Int.sub_mul])<;>(try rw[Int.add_mul])<;>rw[Int.mul_comm] at h1<;>omega
 ·rw[Int.ediv_eq_iff_of_pos hb]
  constructor<;>(try rw[Int.add_mul])<;>rw[Int.mul_comm] at h1<;>omega
theorem tdiv_abs(a b:Int)(hb:0<b): -(a.natAbs:Int)≤a.tdiv b∧a.tdiv b≤a.natAbs:=by
 have h:=Int.natAbs_tdiv_le_natAbs a b
 omega
theorem floor_run{a b:Int}(hb:0<b)(h1: -4611686018427387904≤a)(h2:a≤4611686018427387904):F_curve_floor [I a,I b]=some (I (a/b)):=by
 rw[F_curve_floor_eq]
 have h3:b≠0:=by omega
 have h4:=tdiv_abs a b hb
 have hw:IntKind.i64.wrap (a.tdiv b)=a.tdiv b:=wrap64 (by omega) (by omega)
 have hw2:IntKind.i64.wrap (a.tdiv b-1)=a.tdiv b-1:=wrap64 (by omega) (by omega)
 rw[←floor_val hb]
 simp[h3,hw,hw2]
def seg(s t:Int×Int)(x:Int):Int:=s.2+(t.2-s.2)*(x-s.1)/(t.1-s.1)
def interp(x:Int)(s:Int×Int):List (Int×Int)→Int
 |[]=>s.2
 |t::r=>if x≤t.1 then seg s t x else interp x t r
def hit(x:Int):List (Int×Int)→Bool
 |[]=>false
 |t::r=>if x≤t.1 then true else hit x r
def at'(l:List (Int×Int))(x:Int):Int:=if check l=0 then
  match l with
  |[]=>0
  |p::r=>if x≤p.1 then p.2 else interp x p r
 else 0
theorem mul_bound{a b A C:Int}(h1: -A≤a)(h2:a≤A)(h3:0≤b)(h4:b≤C)(hA:0≤A): -(A*C)≤a*b∧a*b≤A*C:=by
 have e1:a*b≤A*b:=Int.mul_le_mul_of_nonneg_right h2 h3
 have e2: -A*b≤a*b:=Int.mul_le_mul_of_nonneg_right h1 h3
 have e3:A*b≤A*C:=Int.mul_le_mul_of_nonneg_left h4 hA
 rw[Int.neg_mul] at e2
 omega
theorem seg_wraps{s t:Int×Int}{x:Int}(hs:(-1000000≤s.1∧s.1≤1000000)∧(-1000000≤s.2∧s.2≤1000000))(ht:(-1000000≤t.1∧t.1≤1000000)∧(-1000000≤t.2∧t.2≤1000000))(h1:s.1<x)(h2:x≤t.1):
  IntKind.i64.wrap (t.2-s.2)=t.2-s.2∧IntKind.i64.wrap (x-s.1)=x-s.1∧IntKind.i64.wrap (t.1-s.1)=t.1-s.1∧IntKind.i64.wrap ((t.2-s.2)*(x-s.1))=(t.2-s.2)*(x-s.1)∧
  (-4611686018427387904≤(t.2-s.2)*(x-s.1)∧(t.2-s.2)*(x-s.1)≤4611686018427387904)∧IntKind.i64.wrap (s.2+(t.2-s.2)*(x-s.1)/(t.1-s.1))=s.2+(t.2-s.2)*(x-s.1)/(t.1-s.1):=by
 have hm:=mul_bound (a:=t.2-s.2) (b:=x-s.1) (A:=2000000) (C:=2000000) (by omega) (by omega) (by omega) (by omega) (by omega)
 have hd:0<t.1-s.1:=by omega
 have e1:(t.2-s.2)*(x-s.1)/(t.1-s.1)≤4000000000000:=Int.ediv_le_of_le_mul hd (by
  have:(4000000000000:Int)*1≤4000000000000*(t.1-s.1):=Int.mul_le_mul_of_nonneg_left (by omega) (by omega)
  omega)
 have e2: -4000000000000≤(t.2-s.2)*(x-s.1)/(t.1-s.1):=Int.le_ediv_of_mul_le hd (by
  have:(4000000000000:Int)*1≤4000000000000*(t.1-s.1):=Int.mul_le_mul_of_nonneg_left (by omega) (by omega)
  omega)
 refine⟨wrap64 (by omega) (by omega),wrap64 (by omega) (by omega),wrap64 (by omega) (by omega),wrap64 (by omega) (by omega),⟨by omega,by omega⟩,wrap64 (by omega) (by omega)⟩
theorem at_loop(l:List (Int×Int))(hg:Good l)(x:Int):∀(n i:Nat) (h0:0<i) (hi:i≤l.length),(l[i-1]'(by omega)).1<x→l.length-i<n→
  L_curve_At 6 n ⟨[(0,.sl (l.map eP)),(1,I x),(4,.any),(5,I i),(6,.any),(7,.any)],[]⟩=
   if hit x (l.drop i)=true then some (.ret,⟨[(0,.any),(1,.any),(4,I (interp x (l[i-1]'(by omega)) (l.drop i))),(5,.any),(6,.any),(7,.any)],[]⟩)
   else some (.ex 0,⟨[(0,.sl (l.map eP)),(1,.any),(4,.any),(5,.any),(6,.any),(7,.any)],[]⟩)
 |0,i,_,_,_,hn=>by omega
 |n+1,i,h0,hi,hx,hn=>by
  rw[L_curve_At_succ,R_curve_At_eq]
  have hlen:=hg.len
  by_cases h:i<l.length
  ·have h1:=List.getElem?_eq_getElem h
   have h3:(i:Int)<l.length:=by omega
   have hw:=wrapN (n:=i) (by omega)
   have h5:=wrapP (n:=i) (by omega) (by omega)
   have h6:=List.getElem?_eq_getElem (l:=l) (i:=i-1) (by omega)
   rw[List.drop_eq_getElem_cons h,interp,hit]
   by_cases hq:x≤l[i].1
   ·obtain⟨w1,w2,w3,w4,w5,w6⟩:=seg_wraps (hg.rng _ (List.getElem_mem (n:=i-1) (by omega))) (hg.rng _ (List.getElem_mem h)) hx hq
    have hf:=floor_run (b:=l[i].1-(l[i-1]'(by omega)).1) (by omega) w5.1 w5.2
    simp[h1,h3,hw,h5,h6,hq,w1,w2,w3,w4,hf,w6,seg]
   ·have ih:=at_loop l hg x n (i+1) (by omega) (by omega) (by simpa using hq) (by omega)
    simp only[Int.natCast_add,Int.natCast_one,Nat.add_sub_cancel] at ih
    simp[h1,h3,hw,h5,h6,hq,ih]
  ·have h3:¬(i:Int)<l.length:=by omega
   have h4:l.drop i=[]:=List.drop_of_length_le (by omega)
   simp[h3,h4,hit]
theorem interp_last(x:Int):∀(r:List (Int×Int)) (s:Int×Int),hit x r=false→interp x s r=((s::r).getLast (by simp)).2
 |[],s,_=>rfl
 |t::r,s,h=>by
  unfold hit at h
  split at h
  ·cases h
  ·rename_i hn
   rw[interp,if_neg hn,interp_last x r t h]
   simp
theorem at_eq{l:List (Int×Int)}(x:Int)(hc:check l=0)(hl:0<l.length):at' l x=if x≤l[0].1 then l[0].2 else interp x l[0] (l.drop 1):=by
 rw[at'.eq_def,if_pos hc]
 cases l with
 |nil=>simp at hl
 |cons p r=>rfl
theorem at_run(l:List (Int×Int))(x:Int)(hb:l.length≤9223372036854775807):F_curve_At [.sl (l.map eP),I x]=some (I (at' l x)):=by
 rw[F_curve_At_eq]
 by_cases hc:check l=0
 ·have hg:=(good_iff l).1 hc
  have hl:0<l.length:=List.length_pos_iff.2 hg.ne
  have h1:=List.getElem?_eq_getElem hl
  rw[at_eq x hc hl]
  by_cases hx:x≤l[0].1
  ·simp[check_run l hb,hc,h1,hx]
  ·have ih:=at_loop l hg x bigL 1 (by omega) (by omega) (by simpa using hx) (by have:=bigL_ge;have:=hg.len;omega)
   have h2:=interp_last x (l.drop 1) l[0]
   have h4:=wrapP (n:=l.length) (by omega) (by omega)
   have h6:=List.getElem?_eq_getElem (l:=l) (i:=l.length-1) (by omega)
   have h7:((l[0]::l.drop 1).getLast (by simp))=l[l.length-1]'(by omega):=by
    rw[List.getLast_eq_getElem]
    cases l with
    |nil=>simp at hl
    |cons p r=>simp
   rw[h7] at h2
   simp at ih
   rw[←List.drop_one] at ih
   by_cases ha:hit x (l.drop 1)=true
   ·simp[check_run l hb,hc,h1,hx,ih,ha,-List.drop_one]
   ·have ha':hit x (l.drop 1)=false:=by simpa using ha
    rw[h2 ha']
    simp[check_run l hb,hc,h1,hx,ih,ha',h4,h6,-List.drop_one]
 ·simp[check_run l hb,hc,at']
end Go.Proofs.YtbdgblipbpadeaaGreatDoor
namespace Go.Proofs.YtbdgblipbpadeaaGreatDoor
open Go Go.Abs
set_option maxRecDepth 100000
theorem rows_of{α:Type}{enc:α→List D}{p:α→Prop}:∀(es:List (List D)),(∀x∈es,∃a,x=enc a∧p a)→∃l:List α,es=l.map enc∧∀a∈l,p a
 |[],_=>⟨[],rfl,by simp⟩
 |x::r,h=>by
  obtain⟨a,ha,hp⟩:=h x (by simp)
  obtain⟨l,hl,hq⟩:=rows_of r (fun y hy=>h y (by simp[hy]))
  exact⟨a::l,by simp[ha,hl],by simpa using⟨hp,hq⟩⟩
theorem tyInt{n:Nat}{cs:List D}(h:TyC Tryz.prog n 3 cs):∃v:Int,cs=eI v∧(-9223372036854775808≤v∧v≤9223372036854775807):=TyC.i64 Tryz.underlying3 h
end Go.Proofs.YtbdgblipbpadeaaGreatDoor
