/-
  Polygons: their checks, turns and bounds, run abstractly.
-/
import Derived.Test.YtbdgblipbpadeaaGreatDoorNi
set_option linter.unusedSimpArgs false
set_option linter.unusedVariables false
set_option linter.defProp false
namespace Go.Proofs.YtbdgblipbpadeaaGreatDoor
open Go Go.Abs
set_option maxHeartbeats 4000000
set_option maxRecDepth 100000
def inP(p:Pnt):Bool:=inC p.1&&inC p.2
def inAll(l:List Pnt):Prop:=∀q∈l,(-600≤q.1∧q.1≤600)∧-600≤q.2∧q.2≤600
theorem inAll_of{l:List Pnt}(h:allP inP l=true):inAll l:=fun q hq=>by
 have:=allP_iff.1 h q hq
 unfold inP inC at this
 simp at this
 omega
theorem pwithin_run(n:Int):F_poly_within [I n]=some (B (inC n)):=by
 rw[F_poly_within_eq]
 simp[inC]
theorem pinRange_loop(l:List Pnt)(hl:l.length≤1000000):∀(n i:Nat) (r:List Pnt),l.drop i=r→r.length<n→
  L_poly_inRange 2 n ⟨[(0,.any),(2,.any),(4,.any),(5,.sl (l.map eP)),(6,I l.length),(7,I i)],[]⟩=
   if allP inP r=true then some (.ex 0,⟨[(0,.any),(2,.any),(4,.any),(5,.any),(6,.any),(7,.any)],[]⟩) else some (.ret,⟨[(0,.any),(2,B false),(4,.any),(5,.any),(6,.any),(7,.any)],[]⟩):=by
 refine lnd eP l (by omega) _ ?_ ?_
 ·intro n i h
  rw[L_poly_inRange_succ,R_poly_inRange_eq]
  simp[h]
 ·intro n i x r h1 h3 hw _ ih
  rw[L_poly_inRange_succ,R_poly_inRange_eq]
  have p1:=pwithin_run x.1
  have p2:=pwithin_run x.2
  simp at ih
  unfold allP inP
  cases q1:inC x.1
  ·simp[q1] at p1
   simp[h1,h3,hw,p1]
  ·simp[q1] at p1
   cases q2:inC x.2
   ·simp[q2] at p2
    simp[h1,h3,hw,p1,p2]
   ·simp[q2] at p2
    simp[h1,h3,hw,p1,p2,ih]
    rfl
theorem pinRange_run(l:List Pnt)(hl:l.length≤1000000):F_poly_inRange [.sl (l.map eP)]=some (B (allP inP l)):=by
 rw[F_poly_inRange_eq]
 have l1:=pinRange_loop l hl bigL 0 l rfl (by have:=bigL_ge;omega)
 simp at l1
 cases h:allP inP l
 ·simp[h] at l1
  simp[l1]
 ·simp[h] at l1
  simp[l1]
theorem area_loop(l:List Pnt)(hl:l.length≤1000000):∀(n i:Nat) (r:List Pnt),l.drop i=r→r.length<n→∀v:Int,∃v':Int,
  L_poly_Area2 5 n ⟨[(0,.sl (l.map eP)),(2,.any),(3,I v),(4,.any),(5,.any),(6,.any),(15,.sl (l.map eP)),(16,I l.length),(17,I i)],[]⟩=
   some (.ex 0,⟨[(0,.any),(2,.any),(3,I v'),(4,.any),(5,.any),(6,.any),(15,.any),(16,.any),(17,.any)],[]⟩):=by
 refine lnd eP l (by omega) _ ?_ ?_
 ·intro n i h v
  refine⟨v, ?_⟩
  rw[L_poly_Area2_succ,R_poly_Area2_eq]
  simp[h]
 ·intro n i x r h1 h3 hw _ ih v
  obtain⟨q,hq,e1⟩:=around (L:=l.length) (by omega) (a:=(i:Int)+1) (by omega)
  obtain⟨y,hy⟩:=getp hq
  have n0:¬l=[]:=by intro e;subst e;simp at hq
  obtain⟨v',ih⟩:=ih (IntKind.i64.wrap (v+IntKind.i64.wrap (IntKind.i64.wrap (x.1*y.2)-IntKind.i64.wrap (y.1*x.2))))
  refine⟨v', ?_⟩
  rw[L_poly_Area2_succ,R_poly_Area2_eq]
  simp at ih
  simp[h1,h3,hw,e1,hy,n0,ih]
theorem area_run(l:List Pnt)(hl:l.length≤1000000):∃v:Int,F_poly_Area2 [.sl (l.map eP)]=some (I v):=by
 have hr:=pinRange_run l hl
 by_cases a1:32<(l.length:Int)
 ·refine⟨0, ?_⟩
  rw[F_poly_Area2_eq]
  simp[a1]
 cases a2:allP inP l
 ·simp[a2] at hr
  refine⟨0, ?_⟩
  rw[F_poly_Area2_eq]
  simp[a1,hr]
 simp[a2] at hr
 obtain⟨v',l1⟩:=area_loop l hl bigL 0 l rfl (by have:=bigL_ge;omega) 0
 refine⟨v', ?_⟩
 rw[F_poly_Area2_eq]
 simp at l1
 simp[a1,hr,l1]
theorem pcheck_run(l:List Pnt)(hl:l.length≤1000000):∃e:Int,F_poly_Check [.sl (l.map eP)]=some (I e)∧(e=0→3≤l.length∧l.length≤32∧inAll l):=by
 have hr:=pinRange_run l hl
 obtain⟨v,hv⟩:=area_run l hl
 by_cases a0:(l.length:Int)<3
 ·refine⟨3, ?_,fun h=>by omega⟩
  rw[F_poly_Check_eq]
  simp[a0]
 by_cases a1:32<(l.length:Int)
 ·refine⟨4, ?_,fun h=>by omega⟩
  rw[F_poly_Check_eq]
  simp[a0,a1]
 cases a2:allP inP l
 ·simp[a2] at hr
  refine⟨9, ?_,fun h=>by omega⟩
  rw[F_poly_Check_eq]
  simp[a0,a1,hr]
 simp[a2] at hr
 by_cases a3:v=0
 ·subst a3
  refine⟨19, ?_,fun h=>by omega⟩
  rw[F_poly_Check_eq]
  simp[a0,a1,hr,hv]
 ·refine⟨0, ?_,fun h=>⟨by omega,by omega,inAll_of a2⟩⟩
  rw[F_poly_Check_eq]
  simp[a0,a1,hr,hv,a3]
theorem canTurn_loop(l:List Pnt)(hl:l.length≤1000000)(hb:inAll l):∀(n i:Nat) (r:List Pnt),l.drop i=r→r.length<n→
  L_poly_canTurn 2 n ⟨[(0,.any),(2,.any),(4,.any),(5,.sl (l.map eP)),(6,I l.length),(7,I i)],[]⟩=
   some (.ex 0,⟨[(0,.any),(2,.any),(4,.any),(5,.any),(6,.any),(7,.any)],[]⟩):=by
 refine lnd eP l (by omega) _ ?_ ?_
 ·intro n i h
  rw[L_poly_canTurn_succ,R_poly_canTurn_eq]
  simp[h]
 ·intro n i x r h1 h3 hw hm ih
  rw[L_poly_canTurn_succ,R_poly_canTurn_eq]
  have b:=hb x hm
  have a1:¬x.1= -9223372036854775808:=by omega
  have a2:¬x.2= -9223372036854775808:=by omega
  simp at ih
  simp[h1,h3,hw,a1,a2,ih]
theorem pturn_loop(l:List Pnt)(hl:l.length≤1000000)(hb:inAll l):∀(n i:Nat) (r:List Pnt),l.drop i=r→r.length<n→∀(a:List Pnt),a.length=i→
  L_poly_Turn 6 n ⟨[(0,.any),(1,.any),(4,.any),(5,.ptr 5 0),(6,.row 6),(7,.any),(8,.any),(21,.sl (l.map eP)),(22,I l.length),(23,I i)],[(5,.box 81 [I 1,I 0]),(6,.row 81 2 true (a.map eP++List.replicate r.length [I 0,I 0]))]⟩=
   some (.ex 0,⟨[(0,.any),(1,.any),(4,.any),(5,.any),(6,.row 6),(7,.any),(8,.any),(21,.any),(22,.any),(23,.any)],[(6,.row 81 2 true ((a++r).map eP))]⟩):=by
 refine lnd eP l (by omega) _ ?_ ?_
 ·intro n i h a ha
  rw[L_poly_Turn_succ,R_poly_Turn_eq]
  simp[h]
 ·intro n i x r h1 h3 hw hm ih a ha
  rw[L_poly_Turn_succ,R_poly_Turn_eq]
  have b:=hb x hm
  obtain⟨u,v⟩:=x
  simp only at b
  have ih:=ih (a++[(u,v)]) (by simp[ha])
  have w1:IntKind.i64.wrap u=u:=wrap64 (by omega) (by omega)
  have w2:IntKind.i64.wrap v=v:=wrap64 (by omega) (by omega)
  have g1:(a.map eP++[I 0,I 0]::List.replicate r.length [I 0,I 0])[i]? =some [I 0,I 0]:=by
   rw[List.getElem?_append_right (by simp[ha])]
   simp[ha]
  have g2:(a.map eP++[I 0,I 0]::List.replicate r.length [I 0,I 0]).set i [I u,I v]=(a++[(u,v)]).map eP++List.replicate r.length [I 0,I 0]:=by
   rw[set_next _ _ _ _ _ (by simp[ha])]
   simp
  rw[List.length_cons,List.replicate_succ]
  simp at ih g2
  simp[h1,h3,hw,w1,w2,g1,g2,ih]
theorem pturn_run(l:List Pnt)(hl:l.length≤1000000)(hb:inAll l):F_poly_Turn [.sl (l.map eP),I 0]=some (.own true (l.map eP)):=by
 have hc:F_poly_canTurn [.sl (l.map eP)]=some (B true):=by
  rw[F_poly_canTurn_eq]
  have l1:=canTurn_loop l hl hb bigL 0 l rfl (by have:=bigL_ge;omega)
  simp at l1
  simp[l1]
 rw[F_poly_Turn_eq]
 have b1:16*(l.length:Int)≤281474976710656∧(l.length:Int)≤1000000000000000000:=by omega
 have l1:=pturn_loop l hl hb bigL 0 l rfl (by have:=bigL_ge;omega) [] rfl
 simp at l1
 simp[hc,b1,l1]
theorem pbounds_loop(l:List Pnt)(hl:l.length≤1000000):∀(n i:Nat) (r:List Pnt),l.drop i=r→r.length<n→∀(a b c d:Int),∃a' b' c' d':Int,
  L_poly_Bounds 5 n ⟨[(0,.any),(2,.ptr 2 0),(3,.ptr 3 0),(5,.any),(29,.sl (l.map eP)),(30,I l.length),(31,I i)],[(2,.box 36 [I 0,I 0,I 0,I 0]),(3,.box 36 [I a,I b,I c,I d])]⟩=
   some (.ex 0,⟨[(0,.any),(2,.ptr 2 0),(3,.ptr 3 0),(5,.any),(29,.any),(30,.any),(31,.any)],[(2,.box 36 [I 0,I 0,I 0,I 0]),(3,.box 36 [I a',I b',I c',I d'])]⟩):=by
 refine lnd eP l (by omega) _ ?_ ?_
 ·intro n i h a b c d
  refine⟨a,b,c,d, ?_⟩
  rw[L_poly_Bounds_succ,R_poly_Bounds_eq]
  simp[h]
 ·intro n i x r h1 h3 hw _ ih a b c d
  obtain⟨a',b',c',d',ih⟩:=ih (if x.1<a then x.1 else a) (if b<x.1 then x.1 else b) (if x.2<c then x.2 else c) (if d<x.2 then x.2 else d)
  refine⟨a',b',c',d', ?_⟩
  rw[L_poly_Bounds_succ,R_poly_Bounds_eq]
  simp at ih
  simp[h1,h3,hw,ih]
theorem pbounds_run(l:List Pnt)(hl:l.length≤1000000):∃a b c d:Int,F_poly_Bounds [.sl (l.map eP)]=some (.agg [I a,I b,I c,I d]):=by
 by_cases h:l=[]
 ·refine⟨0,0,0,0, ?_⟩
  rw[F_poly_Bounds_eq]
  simp[h]
 obtain⟨z,hz⟩:=getp (l:=l) (q:=0) (List.length_pos_iff.2 h)
 obtain⟨a',b',c',d',l1⟩:=pbounds_loop l hl bigL 0 l rfl (by have:=bigL_ge;omega) z.1 z.1 z.2 z.2
 refine⟨a',b',c',d', ?_⟩
 rw[F_poly_Bounds_eq]
 simp at l1
 simp[h,hz,l1]
end Go.Proofs.YtbdgblipbpadeaaGreatDoor
namespace Go.Proofs.YtbdgblipbpadeaaGreatDoor
open Go Go.Abs
set_option maxHeartbeats 4000000
set_option maxRecDepth 100000
def crossN(a b c:Pnt):Int:=IntKind.i64.wrap (IntKind.i64.wrap (IntKind.i64.wrap (b.1-a.1)*IntKind.i64.wrap (c.2-a.2))-IntKind.i64.wrap (IntKind.i64.wrap (c.1-a.1)*IntKind.i64.wrap (b.2-a.2)))
theorem cross_run(a b c:Pnt):F_poly_cross [.agg [I a.1,I a.2],.agg [I b.1,I b.2],.agg [I c.1,I c.2]]=some (I (crossN a b c)):=by
 rw[F_poly_cross_eq]
 unfold crossN
 simp
def hsC(o:Bool)(p l:List Pnt)(x:Pnt):List (Nat×O):=if o=true then[(1000,.row 81 2 true (p.map eP)),(3,.row 81 2 true (l.map eP)),(5,.box 81 [I x.1,I x.2])] else[(1000,.row 81 2 true (p.map eP)),(5,.box 81 [I x.1,I x.2]),(3,.row 81 2 true (l.map eP))]
theorem back_loop(p:List Pnt)(i:Nat)(x:Pnt):∀(n:Nat) (l:List Pnt),l.length<n→l.length≤1000000→∀o:Bool,∃(o':Bool) (l':List Pnt),(∀q∈l',q∈l)∧l'.length≤l.length∧
  L_poly_chain 5 n ⟨[(0,.any),(2,.any),(3,.row 3),(5,.ptr 5 0),(6,.row 1000),(7,I p.length),(8,I i)],hsC o p l x⟩=
   some (.ex 2,⟨[(0,.any),(2,.any),(3,.row 3),(5,.ptr 5 0),(6,.row 1000),(7,I p.length),(8,I i)],hsC o' p l' x⟩):=by
 intro n
 induction n with
 |zero=>intro l h;omega
 |succ n ih=>
  intro l hn hl o
  by_cases h:2≤l.length
  ·have h2:(2:Int)≤l.length:=by omega
   have w1:IntKind.i64.wrap ((l.length:Int)-1)=((l.length-1:Nat):Int):=by rw[wrap64]<;>omega
   have w2:IntKind.i64.wrap ((l.length:Int)-2)=((l.length-2:Nat):Int):=by rw[wrap64]<;>omega
   obtain⟨y,hy⟩:=getp (l:=l) (q:=l.length-1) (by omega)
   obtain⟨z,hz⟩:=getp (l:=l) (q:=l.length-2) (by omega)
   have c1:=cross_run z y x
   by_cases a:crossN z y x≤0
   ·obtain⟨o',l',m1,m2,ih⟩:=ih (l.take (l.length-1)) (by simp;omega) (by simp;omega) false
    refine⟨o',l',fun q hq=>List.mem_of_mem_take (m1 q hq),by simp at m2;omega, ?_⟩
    rw[L_poly_chain_succ,R_poly_chain_eq]
    have h5:((l.length-1:Nat):Int)≤l.length:=by omega
    rw[show hsC false p (l.take (l.length-1)) x=[(1000,.row 81 2 true (p.map eP)),(5,.box 81 [I x.1,I x.2]),(3,.row 81 2 true ((l.take (l.length-1)).map eP))] from rfl] at ih
    simp[List.map_take] at ih
    cases o<;>simp[hsC,h2,w1,w2,hy,hz,c1,a,h5]<;>exact ih
   ·refine⟨o,l,fun q hq=>hq,Nat.le_refl _, ?_⟩
    rw[L_poly_chain_succ,R_poly_chain_eq]
    cases o<;>simp[hsC,h2,w1,w2,hy,hz,c1,a]
  ·refine⟨o,l,fun q hq=>hq,Nat.le_refl _, ?_⟩
   rw[L_poly_chain_succ,R_poly_chain_eq]
   have h2:¬(2:Int)≤l.length:=by omega
   cases o<;>simp[hsC,h2]
theorem chain_loop(p:List Pnt)(hp:p.length≤1000):∀(n i:Nat) (r:List Pnt),p.drop i=r→r.length<n→∀(l:List Pnt),l.length≤i→i≤p.length→(∀q∈l,q∈p)→(0<i→0<l.length)→∃l':List Pnt,(∀q∈l',q∈p)∧l'.length≤p.length∧(0<p.length→0<l'.length)∧
  L_poly_chain 3 n ⟨[(0,.any),(2,.any),(3,.row 3),(5,.any),(6,.row 1000),(7,I p.length),(8,I i)],[(1000,.row 81 2 true (p.map eP)),(3,.row 81 2 true (l.map eP))]⟩=
   some (.ex 0,⟨[(0,.any),(2,.any),(3,.row 3),(5,.any),(6,.any),(7,.any),(8,.any)],[(1000,.row 81 2 true (p.map eP)),(3,.row 81 2 true (l'.map eP))]⟩):=by
 refine lnd eP p (by omega) _ ?_ ?_
 ·intro n i h l hl hi hm h0
  refine⟨l,hm,by omega,fun _=>h0 (by omega), ?_⟩
  rw[L_poly_chain_succ,R_poly_chain_eq]
  simp[h]
 ·intro n i x r h1 h3 hw hx ih l hl hi hm h0
  obtain⟨o',l1,m1,m2,b1⟩:=back_loop p i x bigL l (by have:=bigL_ge;omega) (by omega) true
  obtain⟨l',k1,k2,k3,ih⟩:=ih (l1++[x]) (by simp;omega) (by omega) (fun q hq=>by
   rcases List.mem_append.1 hq with hq|hq
   ·exact hm q (m1 q hq)
   ·simp at hq;subst hq;exact hx) (fun _=>by simp)
  refine⟨l',k1,k2,k3, ?_⟩
  rw[L_poly_chain_succ,R_poly_chain_eq]
  have b4:(l1.length+1)*17≤140737488355328:=by omega
  rw[show hsC true p l x=[(1000,.row 81 2 true (p.map eP)),(3,.row 81 2 true (l.map eP)),(5,.box 81 [I x.1,I x.2])] from rfl] at b1
  simp at ih b1
  cases o'<;>simp[hsC] at b1<;>simp[h1,h3,hw,b1,b4,ih]
theorem chain_run(p:List Pnt)(hp:p.length≤1000)(h0:0<p.length):∃l:List Pnt,(∀q∈l,q∈p)∧l.length≤p.length∧
  E_poly_chain [(1000,.row 81 2 true (p.map eP))] [.row 1000]=some (.row 2,[(1000,.row 81 2 true (p.map eP)),(2,.row 81 2 true (l.map eP))]):=by
 obtain⟨l,m1,m2,m3,l1⟩:=chain_loop p hp bigL 0 p rfl (by have:=bigL_ge;omega) [] (by simp) (by omega) (by simp) (by omega)
 refine⟨l.take (l.length-1),fun q hq=>m1 q (List.mem_of_mem_take hq),by simp;omega, ?_⟩
 have m3:=m3 h0
 have w1:IntKind.i64.wrap ((l.length:Int)-1)=((l.length-1:Nat):Int):=by rw[wrap64]<;>omega
 have h5:((l.length-1:Nat):Int)≤l.length:=by omega
 rw[E_poly_chain_eq]
 simp at l1
 simp[l1,w1,h5,List.map_take]
theorem reverse_loop:∀(n:Nat) (p:List Pnt) (i j:Nat),j-i<n→p.length≤1000→j<p.length→i≤1000→∃p':List Pnt,(∀q∈p',q∈p)∧p'.length=p.length∧
  L_slices_Reverse_api_Point_api_Point 1 n ⟨[(0,.row 1000),(2,I i),(3,I j)],[(1000,.row 81 2 true (p.map eP))]⟩=
   some (.ex 0,⟨[(0,.any),(2,.any),(3,.any)],[(1000,.row 81 2 true (p'.map eP))]⟩):=by
 intro n
 induction n with
 |zero=>intro p i j h;omega
 |succ n ih=>
  intro p i j hn hp hj hi
  rw[L_slices_Reverse_api_Point_api_Point_succ,R_slices_Reverse_api_Point_api_Point_eq]
  by_cases h:i<j
  ·have hx:(p.map eP)[i]? =some (eP (p[i]'(by omega))):=by simp[(by omega:i<p.length)]
   have hy:(p.map eP)[j]? =some (eP (p[j]'(by omega))):=by simp[hj]
   have mx:p[i]'(by omega)∈p:=List.getElem_mem _
   have my:p[j]'(by omega)∈p:=List.getElem_mem _
   generalize p[i]'(by omega)=x at*
   generalize p[j]'(by omega)=y at*
   have h3:(i:Int)<j:=by omega
   have hne:¬i=j:=by omega
   have hne2:¬j=i:=by omega
   have w1:=wrapN (n:=i) (by omega)
   have w2:=wrapP (n:=j) (by omega) (by omega)
   obtain⟨p',m1,m2,ih⟩:=ih ((p.set i y).set j x) (i+1) (j-1) (by omega) (by simp;omega) (by simp;omega) (by omega)
   refine⟨p',fun q hq=>?_,by simpa using m2, ?_⟩
   ·rcases List.mem_or_eq_of_mem_set (m1 q hq) with h|h
    ·rcases List.mem_or_eq_of_mem_set h with h|h
     ·exact h
     ·rw[h];exact my
    ·rw[h];exact mx
   ·simp[List.map_set] at ih
    simp[h3,hx,hy,hne,hne2,w1,w2,ih]
  ·have h3:¬(i:Int)<j:=by omega
   refine⟨p,fun q hq=>hq,rfl, ?_⟩
   simp[h3]
theorem reverse_run(p:List Pnt)(h0:0<p.length)(hp:p.length≤1000):∃p':List Pnt,(∀q∈p',q∈p)∧p'.length=p.length∧
  E_slices_Reverse_api_Point_api_Point [(1000,.row 81 2 true (p.map eP))] [.row 1000]=some (.tup [],[(1000,.row 81 2 true (p'.map eP))]):=by
 obtain⟨p',m1,m2,l1⟩:=reverse_loop bigL p 0 (p.length-1) (by have:=bigL_ge;omega) hp (by omega) (by omega)
 refine⟨p',m1,m2, ?_⟩
 rw[E_slices_Reverse_api_Point_api_Point_eq]
 have w:=wrapP (n:=p.length) (by omega) (by omega)
 simp at l1
 simp[w,l1]
theorem clonePt_run(l:List Pnt)(h0:0<l.length)(h:l.length≤1000000):NE_slices_Clone_api_Point_api_Point [] [.sl (l.map eP)]=some (.row 2,[(2,.row 81 2 true (l.map eP))]):=by
 cases l with
 |nil=>simp at h0
 |cons x r=>
  have h2:(r.length+1)*17≤140737488355328:=by simp at h;omega
  unfold NE_slices_Clone_api_Point_api_Point nilE
  simp only[List.map_cons,List.length_cons,Nat.add_eq_zero_iff,Nat.succ_ne_self,and_false,if_false]
  rw[E_slices_Clone_api_Point_api_Point_obj_eq]
  simp[h2]
theorem ePt_eP:ePt=eP:=rfl
theorem mem_compactU(l:List Pnt):∀m,m≤l.length→∀q∈Lib.compactUpTo l.toArray m,q∈l:=by
 intro m
 induction m with
 |zero=>intro _ q hq;simp[Lib.compactUpTo] at hq
 |succ m ih=>
  intro hm q hq
  rw[Lib.compactUpTo_succ] at hq
  rcases List.mem_append.1 hq with hq|hq
  ·exact ih (by omega) q hq
  ·split at hq
   ·simp only[List.mem_singleton] at hq
    subst hq
    have e:l.toArray[m]! =l[m]'(by omega):=by simp[(by omega:m<l.length)]
    rw[e]
    exact List.getElem_mem _
   ·simp at hq
theorem mem_compact{l:List Pnt}:∀q∈compactP l,q∈l:=mem_compactU l l.length (Nat.le_refl _)
theorem compactU_pos(d:Array Pnt):∀m,0<m→0<(Lib.compactUpTo d m).length:=by
 intro m
 induction m with
 |zero=>intro h;omega
 |succ m ih=>
  intro _
  rw[Lib.compactUpTo_succ,List.length_append]
  by_cases h:m=0
  ·subst h
   rw[Lib.keeps_lt_one d 0 (by omega)]
   simp
  ·have:=ih (by omega)
   omega
theorem compact_pos{l:List Pnt}(h:0<l.length):0<(compactP l).length:=compactU_pos _ _ h
theorem hull_run(p:List Pnt)(hp:p.length≤1000):∃h:List Pnt,h.length≤2000∧(inAll p→inAll h)∧F_poly_Hull [.sl (p.map eP)]=some (.own true (h.map eP)):=by
 have hr:=pinRange_run p (by omega)
 by_cases a1:(p.length:Int)<3
 ·refine⟨[],by simp,fun _ q hq=>by simp at hq, ?_⟩
  rw[F_poly_Hull_eq]
  simp[a1]
 by_cases a2:32<(p.length:Int)
 ·refine⟨[],by simp,fun _ q hq=>by simp at hq, ?_⟩
  rw[F_poly_Hull_eq]
  simp[a1,a2]
 cases a3:allP inP p
 ·simp[a3] at hr
  refine⟨[],by simp,fun _ q hq=>by simp at hq, ?_⟩
  rw[F_poly_Hull_eq]
  simp[a1,a2,hr]
 simp[a3] at hr
 have h4:=clonePt_run p (by omega) (by omega)
 have h5:=E_sortPh_eq 81 true p (by omega)
 have h6:=E_compactPt_eq 81 true (sortP p) (by simp;omega)
 have q1:=compactP_length (sortP p)
 have q2:=compact_pos (l:=sortP p) (by simp;omega)
 have q3:∀q∈compactP (sortP p),q∈p:=fun q hq=>by
  have:=mem_compact q hq
  unfold sortP at this
  exact List.mem_mergeSort.1 this
 rw[ePt_eP] at h5 h6
 simp at q1
 generalize compactP (sortP p)=s at*
 generalize sortP p=t at*
 obtain⟨c1,m1,k1,h7⟩:=chain_run s (by omega) q2
 obtain⟨r,m2,k2,h8⟩:=reverse_run s q2 (by omega)
 obtain⟨c2,m3,k3,h9⟩:=chain_run r (by omega) (by omega)
 have b:(c1.length+c2.length)*17≤140737488355328:=by omega
 by_cases a4:(c1.length:Int)+c2.length<3
 ·refine⟨[],by simp,fun _ q hq=>by simp at hq, ?_⟩
  rw[F_poly_Hull_eq]
  simp[a1,a2,hr,h4,h5,h6,h7,h8,h9,b,a4]
 ·refine⟨c1++c2,by simp;omega,fun h q hq=>?_, ?_⟩
  ·rcases List.mem_append.1 hq with hq|hq
   ·exact h q (q3 q (m1 q hq))
   ·exact h q (q3 q (m2 q (m3 q hq)))
  ·rw[F_poly_Hull_eq]
   simp[a1,a2,hr,h4,h5,h6,h7,h8,h9,b,a4]
end Go.Proofs.YtbdgblipbpadeaaGreatDoor
