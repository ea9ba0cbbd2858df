/-
  Sections of polygons, and what two sections have in common, run abstractly.
-/
import Derived.Test.YtbdgblipbpadeaaGreatDoorNk
import Derived.Test.YtbdgblipbpadeaaGreatDoorNg
import Derived.Test.YtbdgblipbpadeaaGreatDoorNi
set_option linter.unusedSimpArgs false
set_option linter.unusedVariables false
set_option linter.defProp false
namespace Go.Proofs.YtbdgblipbpadeaaGreatDoor
open Go Go.Abs
set_option maxHeartbeats 4000000
set_option maxRecDepth 100000
inductive Ks
 |of (p:List Pnt)
 |meet (a b:Sec)
def Ks.clo:Ks→D
 | .of _=> .clo 184 [1000]
 | .meet _ _=> .clo 123 [1000,1001]
def Ks.hs:Ks→List (Nat×O)
 | .of p=>[(1000,.box 238 [.sl (p.map eP)])]
 | .meet a b=>[(1000,.box 137 (eSc a)),(1001,.box 137 (eSc b))]
def Ks.gives:Ks→Prop
 | .of p=>∀r:Int,-60≤r→r<60→∃a b:Int,E_section_Of_1 [(1000,.box 238 [.sl (p.map eP)])] [I r,.ptr 1000 0]=some (.agg [I a,I b],[(1000,.box 238 [.sl (p.map eP)])])
 | .meet x y=>∀r:Int,-60≤r→r<60→∃a b:Int,E_section_Meet_1 [(1000,.box 137 (eSc x)),(1001,.box 137 (eSc y))] [I r,.ptr 1000 0,.ptr 1001 0]=some (.agg [I a,I b],[(1000,.box 137 (eSc x)),(1001,.box 137 (eSc y))])
def Ks.st(k:Ks)(u low:Int)(rows:List Sp):List (Nat×O):=k.hs++[(2,.box 137 [I 0,.row 10201]),(10201,.row 34 2 true []),(3,.box 137 [I low,.row 10301]),(10301,.row 34 2 true (rows.map eP))]
theorem build_loop(k:Ks)(hg:k.gives):∀(n:Nat) (r:Int),-60≤r→r≤60→60-r<n→0<n→∀(u low:Int) (rows:List Sp),0≤u→u≤rows.length→rows.length≤60+r→∃(u' low':Int) (rows':List Sp),0≤u'∧u'≤rows'.length∧rows'.length≤120∧
  L_section_build 4 n ⟨[(0,k.clo),(2,.ptr 2 0),(3,.ptr 3 0),(4,I u),(5,I r),(6,.any)],k.st u low rows⟩=
   some (.ex 0,⟨[(0,.any),(2,.ptr 2 0),(3,.ptr 3 0),(4,I u'),(5,.any),(6,.any)],k.st u' low' rows'⟩):=by
 intro n
 induction n with
 |zero=>intro r _ _ h h';omega
 |succ n ih=>
  intro r r0 r1 hn _ u low rows u0 u1 hl
  rw[L_section_build_succ,R_section_build_eq]
  by_cases h:r<60
  ·have hab:∃a b:Int,(∀p,k= .of p→E_section_Of_1 [(1000,.box 238 [.sl (p.map eP)])] [I r,.ptr 1000 0]=some (.agg [I a,I b],[(1000,.box 238 [.sl (p.map eP)])]))∧
     ∀x y,k= .meet x y→E_section_Meet_1 [(1000,.box 137 (eSc x)),(1001,.box 137 (eSc y))] [I r,.ptr 1000 0,.ptr 1001 0]=some (.agg [I a,I b],[(1000,.box 137 (eSc x)),(1001,.box 137 (eSc y))]):=by
    cases k with
    |of p=>
     obtain⟨a,b,e⟩:=hg r r0 h
     exact⟨a,b,fun q hq=>(by cases hq;exact e),fun x y hq=>(by cases hq)⟩
    |meet x y=>
     obtain⟨a,b,e⟩:=hg r r0 h
     exact⟨a,b,fun q hq=>(by cases hq),fun x y hq=>(by cases hq;exact e)⟩
   obtain⟨a,b,hab1,hab2⟩:=hab
   have he:=secEmpty_run a b
   have w1:IntKind.i64.wrap (r+1)=r+1:=wrap64 (by omega) (by omega)
   have b4:(rows.length+1)*17≤140737488355328:=by omega
   by_cases e:b≤a
   ·simp[e] at he
    by_cases hu:0<u
    ·obtain⟨u',low',rows',q1,q2,q3,ih⟩:=ih (r+1) (by omega) (by omega) (by omega) (by omega) u low (rows++[(0,0)]) u0 (by simp;omega) (by simp;omega)
     refine⟨u',low',rows',q1,q2,q3, ?_⟩
     cases k with
     |of p=>
      have hab:=hab1 p rfl
      simp[Ks.clo,Ks.st,Ks.hs] at ih hab⊢
      simp[h,hab,he,hu,w1,b4,ih]
     |meet x y=>
      have hab:=hab2 x y rfl
      simp[Ks.clo,Ks.st,Ks.hs] at ih hab⊢
      simp[h,hab,he,hu,w1,b4,ih]
    ·obtain⟨u',low',rows',q1,q2,q3,ih⟩:=ih (r+1) (by omega) (by omega) (by omega) (by omega) u low rows u0 u1 (by omega)
     refine⟨u',low',rows',q1,q2,q3, ?_⟩
     cases k with
     |of p=>
      have hab:=hab1 p rfl
      simp[Ks.clo,Ks.st,Ks.hs] at ih hab⊢
      simp[h,hab,he,hu,w1,ih]
     |meet x y=>
      have hab:=hab2 x y rfl
      simp[Ks.clo,Ks.st,Ks.hs] at ih hab⊢
      simp[h,hab,he,hu,w1,ih]
   ·simp[e] at he
    obtain⟨u',low',rows',q1,q2,q3,ih⟩:=ih (r+1) (by omega) (by omega) (by omega) (by omega) (rows.length+1) (if u=0 then r else low) (rows++[(a,b)]) (by omega) (by simp) (by simp;omega)
    refine⟨u',low',rows',q1,q2,q3, ?_⟩
    by_cases hu:u=0
    ·subst hu
     cases k with
     |of p=>
      have hab:=hab1 p rfl
      simp[Ks.clo,Ks.st,Ks.hs] at ih hab⊢
      simp[h,hab,he,w1,b4,ih]
     |meet x y=>
      have hab:=hab2 x y rfl
      simp[Ks.clo,Ks.st,Ks.hs] at ih hab⊢
      simp[h,hab,he,w1,b4,ih]
    ·cases k with
     |of p=>
      have hab:=hab1 p rfl
      simp[Ks.clo,Ks.st,Ks.hs,hu] at ih hab⊢
      simp[h,hab,he,hu,w1,b4,ih]
     |meet x y=>
      have hab:=hab2 x y rfl
      simp[Ks.clo,Ks.st,Ks.hs,hu] at ih hab⊢
      simp[h,hab,he,hu,w1,b4,ih]
  ·refine⟨u,low,rows,u0,u1,by omega, ?_⟩
   cases k<;>simp[Ks.clo,Ks.st,Ks.hs,h]
theorem build_run(k:Ks)(hg:k.gives):∃s:Sec,s.rows.length≤120∧E_section_build k.hs [k.clo]=some (.agg [I s.low,.own true (s.rows.map eP)],k.hs):=by
 obtain⟨u',low',rows',q1,q2,q3,l1⟩:=build_loop k hg bigL (-60) (by omega) (by omega) (by have:=bigL_ge;omega) (by have:=bigL_ge;omega) 0 0 [] (by omega) (by simp) (by simp)
 refine⟨⟨low',rows'.take u'.toNat⟩,by simp;omega, ?_⟩
 rw[E_section_build_eq]
 cases k with
 |of p=>
  simp[Ks.clo,Ks.st,Ks.hs] at l1⊢
  simp[l1,q1,q2,List.map_take]
 |meet x y=>
  simp[Ks.clo,Ks.st,Ks.hs] at l1⊢
  simp[l1,q1,q2,List.map_take]
theorem of1_gives(p:List Pnt)(hp:p.length≤1000)(hi:inAll p):(Ks.of p).gives:=by
 intro r r0 r1
 have w1:IntKind.i64.wrap (r+1)=r+1:=wrap64 (by omega) (by omega)
 have hh:=heights_run r (r+1)
 obtain⟨a,b,hc⟩:=chord_run p hp hi (IntKind.i64.wrap (10*r)) (IntKind.i64.wrap (10*(r+1)))
 refine⟨a,b, ?_⟩
 rw[E_section_Of_1_eq]
 generalize IntKind.i64.wrap (10*r)=y1 at*
 generalize IntKind.i64.wrap (10*(r+1))=y2 at*
 simp[w1,hh,hc]
theorem secAt_run(s:Sec)(r:Int)(hv:secE s=0∨s.rows=[])(hl: -60≤s.low∧s.low≤60)(hr: -1000≤r∧r≤1000):∃a b:Int,F_section_at [.agg (eSc s),I r]=some (.agg [I a,I b]):=by
 have hn:s.rows.length≤120:=by
  rcases hv with h|h
  ·exact(secE_zero h).1
  ·simp[h]
 have w1:IntKind.i64.wrap (s.low+(s.rows.length:Int))=s.low+s.rows.length:=wrap64 (by omega) (by omega)
 have w2:IntKind.i64.wrap (r-s.low)=r-s.low:=wrap64 (by omega) (by omega)
 by_cases a1:r<s.low
 ·refine⟨0,0, ?_⟩
  rw[F_section_at_eq]
  simp[a1]
 by_cases a2:s.low+s.rows.length≤r
 ·refine⟨0,0, ?_⟩
  rw[F_section_at_eq]
  simp[a1,w1,a2]
 have hx:(s.rows.map eP)[(r-s.low).toNat]? =some (eP (s.rows[(r-s.low).toNat]'(by omega))):=by simp[(by omega:(r-s.low).toNat<s.rows.length)]
 generalize s.rows[(r-s.low).toNat]'(by omega)=x at*
 refine⟨x.1,x.2, ?_⟩
 rw[F_section_at_eq]
 have a3:s.low≤r:=by omega
 simp[a1,w1,w2,a2,hx,a3]
theorem meet1_gives(x y:Sec)(hx:secE x=0∨x.rows=[])(hy:secE y=0∨y.rows=[])(lx: -60≤x.low∧x.low≤60)(ly: -60≤y.low∧y.low≤60):(Ks.meet x y).gives:=by
 intro r r0 r1
 obtain⟨a,b,h1⟩:=secAt_run x r hx lx (by omega)
 obtain⟨c,d,h2⟩:=secAt_run y r hy ly (by omega)
 obtain⟨m,n,h3⟩:∃m n:Int,F_span_Meet [.agg [I a,I b],.agg [I c,I d]]=some (.agg [I m,I n]):=⟨_,_,meet_run a b c d⟩
 refine⟨m,n, ?_⟩
 rw[E_section_Meet_1_eq]
 simp at h1 h2
 simp[h1,h2,h3]
theorem secOf_run(p:List Pnt)(hp:p.length≤1000):∃(s:Sec) (e:Int),s.rows.length≤120∧F_section_Of [.sl (p.map eP)]=some (.tup [.agg [I s.low,.own true (s.rows.map eP)],I e]):=by
 obtain⟨e,he,hk⟩:=pcheck_run p (by omega)
 by_cases h:¬e=0
 ·refine⟨⟨0,[]⟩,e,by simp, ?_⟩
  rw[F_section_Of_eq]
  simp[he,h]
 have h:e=0:=by omega
 subst h
 obtain⟨s,hs,hb⟩:=build_run (.of p) (of1_gives p hp (hk rfl).2.2)
 simp[Ks.clo,Ks.hs] at hb
 by_cases h0:s.rows=[]
 ·refine⟨⟨0,[]⟩,18,by simp, ?_⟩
  rw[F_section_Of_eq]
  simp[he,hb,h0]
 ·refine⟨s,0,hs, ?_⟩
  rw[F_section_Of_eq]
  simp[he,hb,h0]
theorem secMeet_run(x y:Sec):∃s:Sec,s.rows.length≤120∧F_section_Meet [.agg (eSc x),.agg (eSc y)]=some (.agg [I s.low,.own true (s.rows.map eP)]):=by
 have hx:=secValid_run x
 have hy:=secValid_run y
 have e0:∀z:Sec,secE z=0→-60≤z.low∧z.low≤60:=fun z h=>by
  have:=secE_zero h
  omega
 by_cases a:secE x=0
 ·by_cases b:secE y=0
  ·obtain⟨s,hs,hb⟩:=build_run (.meet x y) (meet1_gives x y (.inl a) (.inl b) (e0 x a) (e0 y b))
   refine⟨s,hs, ?_⟩
   simp[a] at hx
   simp[b] at hy
   simp[Ks.clo,Ks.hs] at hb
   rw[F_section_Meet_eq]
   simp[hx,hy,hb]
  ·obtain⟨s,hs,hb⟩:=build_run (.meet x ⟨0,[]⟩) (meet1_gives x ⟨0,[]⟩ (.inl a) (.inr rfl) (e0 x a) (by simp))
   refine⟨s,hs, ?_⟩
   simp[a] at hx
   simp[b] at hy
   simp[Ks.clo,Ks.hs] at hb
   rw[F_section_Meet_eq]
   simp[hx,hy,hb]
 ·by_cases b:secE y=0
  ·obtain⟨s,hs,hb⟩:=build_run (.meet ⟨0,[]⟩ y) (meet1_gives ⟨0,[]⟩ y (.inr rfl) (.inl b) (by simp) (e0 y b))
   refine⟨s,hs, ?_⟩
   simp[a] at hx
   simp[b] at hy
   simp[Ks.clo,Ks.hs] at hb
   rw[F_section_Meet_eq]
   simp[hx,hy,hb]
  ·obtain⟨s,hs,hb⟩:=build_run (.meet ⟨0,[]⟩ ⟨0,[]⟩) (meet1_gives ⟨0,[]⟩ ⟨0,[]⟩ (.inr rfl) (.inr rfl) (by simp) (by simp))
   refine⟨s,hs, ?_⟩
   simp[a] at hx
   simp[b] at hy
   simp[Ks.clo,Ks.hs] at hb
   rw[F_section_Meet_eq]
   simp[hx,hy,hb]
end Go.Proofs.YtbdgblipbpadeaaGreatDoor
namespace Go.Proofs.YtbdgblipbpadeaaGreatDoor
open Go Go.Abs
set_option maxHeartbeats 4000000
set_option maxRecDepth 100000
def pt(r:Rd):Pnt:=(r.x,r.y)
theorem rturn_loop(g:Rg)(hl:g.rd.length≤1000000):∀(n i:Nat) (r:List Rd),g.rd.drop i=r→r.length<n→∀(a:List Pnt),a.length=i→
  L_ring_Turn 6 n ⟨[(0,.any),(1,I 0),(2,.any),(4,.ptr 4 0),(5,.ptr 5 0),(6,.row 6),(7,.any),(8,.any),(9,.any),(10,.any),(12,.any),(22,.sl (g.rd.map eRd)),(23,I g.rd.length),(24,I i),(37,.any),(38,.any),(39,.any)],[(4,.box 79 [I 0,.emp]),(12,.row 83 3 true (g.rd.map eRd)),(5,.box 79 [I g.z,.row 12]),(6,.row 81 2 true (a.map eP++List.replicate r.length [I 0,I 0]))]⟩=
   some (.ex 0,⟨[(0,.any),(1,I 0),(2,.any),(4,.ptr 4 0),(5,.ptr 5 0),(6,.row 6),(7,.any),(8,.any),(9,.any),(10,.any),(12,.any),(22,.any),(23,.any),(24,.any),(37,.any),(38,.any),(39,.any)],[(4,.box 79 [I 0,.emp]),(12,.row 83 3 true (g.rd.map eRd)),(5,.box 79 [I g.z,.row 12]),(6,.row 81 2 true ((a++r.map pt).map eP))]⟩):=by
 refine lnd eRd g.rd (by omega) _ ?_ ?_
 ·intro n i h a ha
  rw[L_ring_Turn_succ,R_ring_Turn_eq]
  simp[h]
 ·intro n i x r h1 h3 hw hm ih a ha
  rw[L_ring_Turn_succ,R_ring_Turn_eq]
  obtain⟨u,v,o⟩:=x
  have ih:=ih (a++[(u,v)]) (by simp[ha])
  have g1:(a.map eP++[I 0,I 0]::List.replicate r.length [I 0,I 0])[i]? =some [I 0,I 0]:=by
   rw[List.getElem?_append_right (by simp[ha])]
   simp[ha]
  have g2:(a.map eP++[I 0,I 0]::List.replicate r.length [I 0,I 0]).set i [I u,I v]=(a++[(u,v)]).map eP++List.replicate r.length [I 0,I 0]:=by
   rw[set_next _ _ _ _ _ (by simp[ha])]
   simp
  rw[List.length_cons,List.replicate_succ]
  simp at ih g2
  simp[h1,h3,hw,g1,g2,ih,pt]
theorem rback_loop(g:Rg)(p:List Pnt)(hp:p=g.rd.map pt)(hl:p.length≤1000000):∀(n i:Nat) (r:List Pnt),p.drop i=r→r.length<n→
  L_ring_Turn 11 n ⟨[(0,.any),(1,.any),(2,.any),(4,.ptr 4 0),(5,.ptr 5 0),(6,.any),(7,.any),(8,.any),(9,.any),(10,.any),(12,.any),(22,.any),(23,.any),(24,.any),(37,.own true (p.map eP)),(38,I p.length),(39,I i)],[(4,.box 79 [I 0,.emp]),(12,.row 83 3 true (g.rd.map eRd)),(5,.box 79 [I g.z,.row 12])]⟩=
   some (.ex 2,⟨[(0,.any),(1,.any),(2,.any),(4,.ptr 4 0),(5,.ptr 5 0),(6,.any),(7,.any),(8,.any),(9,.any),(10,.any),(12,.any),(22,.any),(23,.any),(24,.any),(37,.any),(38,.any),(39,.any)],[(4,.box 79 [I 0,.emp]),(12,.row 83 3 true (g.rd.map eRd)),(5,.box 79 [I g.z,.row 12])]⟩):=by
 refine lnd eP p (by omega) _ ?_ ?_
 ·intro n i h
  rw[L_ring_Turn_succ,R_ring_Turn_eq]
  simp[h]
 ·intro n i x r h1 h3 hw hm ih
  rw[L_ring_Turn_succ,R_ring_Turn_eq]
  have hi:i<g.rd.length:=by
   have:p.length=g.rd.length:=by simp[hp]
   omega
  have h4:(g.rd.map eRd)[i]? =some (eRd g.rd[i]):=by simp[hi]
  have h5:eP x=eP (pt g.rd[i]):=by
   subst hp
   simp[hi] at h1
   simp[h1]
  have h6:(g.rd.map eRd).set i (eRd g.rd[i])=g.rd.map eRd:=by
   apply List.ext_getElem?
   intro k
   by_cases e:k=i
   ·subst e;simp[hi]
   ·rw[List.getElem?_set_ne (by omega)]
  generalize g.rd[i]=y at*
  obtain⟨u,v,o⟩:=y
  obtain⟨c,d⟩:=x
  simp[pt] at h5
  obtain⟨rfl,rfl⟩:=h5
  simp at ih h6
  simp[h1,h3,hw,h4,h6,ih]
theorem rds_in{l:List Rd}(h:rdsE l=0):inAll (l.map pt):=by
 induction l with
 |nil=>intro q hq;cases hq
 |cons x r ih=>
  obtain⟨a,b,o⟩:=x
  unfold rdsE at h
  have key:rdsE r=0∧(-600≤a∧a≤600)∧(-600≤b∧b≤600):=by
   simp only at h
   split at h
   ·split at h
    ·split at h
     ·simp_all[inC]
     ·cases h
    ·cases h
   ·split at h
    ·split at h
     ·simp_all
     ·cases h
    ·cases h
  intro q hq
  simp at hq
  rcases hq with rfl|hq
  ·exact key.2
  ·exact ih key.1 q (by simpa using hq)
theorem rturn_run(g:Rg)(h:ringE g=0):F_ring_Turn [.agg (eRg g),I 0]=some (.agg [I g.z,.own true (g.rd.map eRd)]):=by
 obtain⟨h8,h32⟩:=ringE_len h
 have hc:=ringClone_run g (by omega) (by omega)
 have hk:=ringCheck_run g
 have hi:inAll (g.rd.map pt):=by
  unfold ringE at h
  split at h
  ·cases h
  split at h
  ·cases h
  split at h
  ·cases h
  split at h
  ·cases h
  exact rds_in h
 have ht:=pturn_run (g.rd.map pt) (by simp;omega) hi
 have b1:16*(g.rd.length:Int)≤281474976710656∧(g.rd.length:Int)≤1000000000000000000:=by omega
 have l1:=rturn_loop g (by omega) bigL 0 g.rd rfl (by have:=bigL_ge;omega) [] rfl
 have l2:=rback_loop g (g.rd.map pt) rfl (by simp;omega) bigL 0 (g.rd.map pt) rfl (by have:=bigL_ge;simp;omega)
 rw[F_ring_Turn_eq]
 simp at hc hk l1 l2 ht
 simp[hc,hk,h,b1,l1,l2,ht]
end Go.Proofs.YtbdgblipbpadeaaGreatDoor
