/-
  Rings: which readings are measured, cleaned and repaired, run abstractly.
-/
import Derived.Test.YtbdgblipbpadeaaGreatDoorNf
set_option linter.unusedSimpArgs false
set_option linter.unusedVariables false
set_option linter.defProp false
namespace Go.Proofs.YtbdgblipbpadeaaGreatDoor
open Go Go.Abs
set_option maxHeartbeats 4000000
set_option maxRecDepth 100000
def inC(n:Int):Bool:=decide (-600≤n)&&decide (n≤600)
theorem rwithin_run(n:Int):F_ring_within [I n]=some (B (inC n)):=by
 rw[F_ring_within_eq]
 simp[inC]
def rdsE:List Rd→Int
 |[]=>0
 |r::l=>if r.ok=true then(if inC r.x=true then if inC r.y=true then rdsE l else 9 else 9) else if r.x=0 then(if r.y=0 then rdsE l else 19) else 19
def ringE(g:Rg):Int:=if(g.rd.length:Int)<8 then 3 else if 32<(g.rd.length:Int) then 4 else if g.z<0 then 9 else if 20000<g.z then 9 else rdsE g.rd
theorem ringCheck_loop(l:List Rd)(hl:l.length≤1000000):∀(n i:Nat) (r:List Rd),l.drop i=r→r.length<n→
  L_ring_Check 8 n ⟨[(0,.any),(1,.any),(2,.any),(4,.any),(22,.sl (l.map eRd)),(23,I l.length),(24,I i)],[]⟩=
   if rdsE r=0 then some (.ex 0,⟨[(0,.any),(1,.any),(2,.any),(4,.any),(22,.any),(23,.any),(24,.any)],[]⟩)
   else some (.ret,⟨[(0,.any),(1,.any),(2,I (rdsE r)),(4,.any),(22,.any),(23,.any),(24,.any)],[]⟩):=by
 refine lnd eRd l (by omega) _ ?_ ?_
 ·intro n i h
  rw[L_ring_Check_succ,R_ring_Check_eq]
  simp[h,rdsE]
 ·intro n i x r h1 h3 hw _ ih
  rw[L_ring_Check_succ,R_ring_Check_eq]
  obtain⟨a,b,o⟩:=x
  have p1:=rwithin_run a
  have p2:=rwithin_run b
  simp at ih
  unfold rdsE
  cases o
  ·by_cases q1:a=0
   ·by_cases q2:b=0
    ·subst q1 q2
     simp[h1,h3,hw,ih]
    ·subst q1
     simp[h1,h3,hw,q2]
   ·simp[h1,h3,hw,q1]
  ·cases q1:inC a
   ·simp[q1] at p1
    simp[h1,h3,hw,p1]
   ·simp[q1] at p1
    cases q2:inC b
    ·simp[q2] at p2
     simp[h1,h3,hw,p1,p2]
    ·simp[q2] at p2
     simp[h1,h3,hw,p1,p2,ih]
theorem ringCheck_run(g:Rg):F_ring_Check [.agg (eRg g)]=some (I (ringE g)):=by
 rw[F_ring_Check_eq]
 unfold ringE
 by_cases a1:(g.rd.length:Int)<8
 ·simp[a1]
 by_cases a2:32<(g.rd.length:Int)
 ·simp[a1,a2]
 by_cases a3:g.z<0
 ·simp[a1,a2,a3]
 by_cases a4:20000<g.z
 ·simp[a1,a2,a3,a4]
 have l1:=ringCheck_loop g.rd (by omega) bigL 0 g.rd rfl (by have:=bigL_ge;omega)
 simp at l1
 by_cases a5:rdsE g.rd=0
 ·simp[a5] at l1
  simp[a1,a2,a3,a4,a5,l1]
 ·simp[a5] at l1
  simp[a1,a2,a3,a4,a5,l1]
theorem cloneRd_run(l:List Rd)(h:l.length≤1000000):NF_slices_Clone_api_Reading_api_Reading [.sl (l.map eRd)]=some (.own true (l.map eRd)):=by
 cases l with
 |nil=>rw[NF_slices_Clone_api_Reading_api_Reading_sl];simp
 |cons x r=>
  have h2:(r.length+1)*25≤140737488355328:=by simp at h;omega
  rw[NF_slices_Clone_api_Reading_api_Reading_sl,if_neg (by simp),F_slices_Clone_api_Reading_api_Reading_eq]
  simp[h2]
theorem cloneRdo_run(l:List Rd)(h0:0<l.length)(h:l.length≤1000000):NE_slices_Clone_api_Reading_api_Reading [] [.sl (l.map eRd)]=some (.row 2,[(2,.row 83 3 true (l.map eRd))]):=by
 cases l with
 |nil=>simp at h0
 |cons x r=>
  have h2:(r.length+1)*25≤140737488355328:=by simp at h;omega
  unfold NE_slices_Clone_api_Reading_api_Reading nilE
  simp only[List.map_cons,List.length_cons,Nat.add_eq_zero_iff,Nat.succ_ne_self,and_false,if_false]
  rw[E_slices_Clone_api_Reading_api_Reading_obj_eq]
  simp[h2]
theorem ringClone_run(g:Rg)(h0:0<g.rd.length)(h:g.rd.length≤1000000):E_ring_clone [] [.agg (eRg g)]=some (.agg [I g.z,.row 7],[(7,.row 83 3 true (g.rd.map eRd))]):=by
 rw[E_ring_clone_eq]
 have hc:=cloneRdo_run g.rd h0 h
 simp[hc]
def measM:Nat→List Rd→List Int
 |_,[]=>[]
 |i,r::l=>if r.ok=true then(i:Int)::measM (i+1) l else measM (i+1) l
theorem measM_bnd:∀(l:List Rd) (i:Nat),∀x∈measM i l,(i:Int)≤x∧x<i+l.length
 |[],i=>by simp[measM]
 |r::l,i=>by
  intro x hx
  unfold measM at hx
  have ih:=measM_bnd l (i+1) x
  split at hx
  ·rcases List.mem_cons.1 hx with rfl|hx
   ·simp;omega
   ·have:=ih hx
    simp;omega
  ·have:=ih hx
   simp;omega
theorem measM_len:∀(l:List Rd) (i:Nat),(measM i l).length≤l.length
 |[],i=>by simp[measM]
 |r::l,i=>by
  unfold measM
  have:=measM_len l (i+1)
  split<;>simp<;>omega
theorem meas_loop(l:List Rd)(hl:l.length≤1000000):∀(n i:Nat) (r:List Rd),l.drop i=r→r.length<n→∀(a:List Int),a.length≤i→
  L_ring_measured 3 n ⟨[(0,.any),(1,.any),(2,.any),(3,.row 3),(4,.any),(5,.any),(7,.sl (l.map eRd)),(8,I l.length),(9,I i)],[(3,.row 3 1 true (a.map eI))]⟩=
   some (.ex 0,⟨[(0,.any),(1,.any),(2,.any),(3,.row 3),(4,.any),(5,.any),(7,.any),(8,.any),(9,.any)],[(3,.row 3 1 true ((a++measM i r).map eI))]⟩):=by
 refine lnd eRd l (by omega) _ ?_ ?_
 ·intro n i h a ha
  rw[L_ring_measured_succ,R_ring_measured_eq]
  simp[h,measM]
 ·intro n i x r h1 h3 hw _ ih a ha
  rw[L_ring_measured_succ,R_ring_measured_eq]
  obtain⟨u,v,o⟩:=x
  unfold measM
  cases o
  ·have ih:=ih a (by omega)
   simp at ih
   simp[h1,h3,hw,ih]
  ·have ih:=ih (a++[(i:Int)]) (by simp;omega)
   have b4:(a.length+1)*9≤140737488355328:=by omega
   simp at ih
   simp[h1,h3,hw,ih,b4]
theorem meas_run(g:Rg)(hl:g.rd.length≤1000000):F_ring_measured [.agg (eRg g)]=some (.own true ((measM 0 g.rd).map eI)):=by
 rw[F_ring_measured_eq]
 have l1:=meas_loop g.rd hl bigL 0 g.rd rfl (by have:=bigL_ge;omega) [] (by simp)
 simp at l1
 simp[l1]
end Go.Proofs.YtbdgblipbpadeaaGreatDoor
namespace Go.Proofs.YtbdgblipbpadeaaGreatDoor
open Go Go.Abs
set_option maxHeartbeats 4000000
set_option maxRecDepth 100000
def plc(l:List Int)(m:Nat):Prop:=∀x∈l,0≤x∧x<m
theorem plc_meas(l:List Rd):plc (measM 0 l) l.length:=fun x hx=>by
 have:=measM_bnd l 0 x hx
 simp at this
 omega
theorem geti{l:List Int}{k:Nat}(h:k<l.length):∃x,(l.map eI)[k]? =some [I x]∧x∈l:=⟨l[k],by simp[h],List.getElem_mem h⟩
theorem behind_run(g:Rg)(l:List Int)(k:Nat)(hk:k<l.length)(hl:l.length≤1000)(hg:g.rd.length≤1000)(hp:plc l g.rd.length):
  ∃n:Int,F_ring_behind [.agg (eRg g),.sl (l.map eI),I k]=some (I n)∧-10000≤n∧n≤10000:=by
 obtain⟨x,hx,mx⟩:=geti hk
 have bx:=hp x mx
 have hw:=wrapN (n:=k) (by omega)
 by_cases h1:k+1<l.length
 ·obtain⟨y,hy,my⟩:=geti h1
  have by_:=hp y my
  have w1:IntKind.i64.wrap (y-x)=y-x:=wrap64 (by omega) (by omega)
  have w2:IntKind.i64.wrap (y-x-1)=y-x-1:=wrap64 (by omega) (by omega)
  refine⟨y-x-1, ?_,by omega,by omega⟩
  rw[F_ring_behind_eq]
  have h2:(k:Int)+1<l.length:=by omega
  have h3:0≤(k:Int)+1:=by omega
  simp[hw,h2,h3,hx,hy,w1,w2]
 ·obtain⟨y,hy,my⟩:=geti (l:=l) (k:=0) (by omega)
  have by_:=hp y my
  have w1:IntKind.i64.wrap (y+g.rd.length)=y+g.rd.length:=wrap64 (by omega) (by omega)
  have w2:IntKind.i64.wrap (y+g.rd.length-x)=y+g.rd.length-x:=wrap64 (by omega) (by omega)
  have w3:IntKind.i64.wrap (y+g.rd.length-x-1)=y+g.rd.length-x-1:=wrap64 (by omega) (by omega)
  refine⟨y+g.rd.length-x-1, ?_,by omega,by omega⟩
  rw[F_ring_behind_eq]
  have h2:¬(k:Int)+1<l.length:=by omega
  simp[hw,h2,hx,hy,w1,w2,w3]
theorem gaps_loop(g:Rg)(l:List Int)(ga:Int)(hl:l.length≤1000)(hg:g.rd.length≤1000)(hp:plc l g.rd.length):∀(n k:Nat),k≤l.length→l.length-k<n→∀v:Int,
  ∃v',L_ring_Gaps 7 n ⟨[(0,.any),(1,.ptr 1 0),(2,.any),(3,.any),(4,.own true (l.map eI)),(5,I ga),(6,I v),(7,.any),(22,I l.length),(23,I k)],[(1,.box 79 (eRg g))]⟩=
   some (.ex 0,⟨[(0,.any),(1,.any),(2,.any),(3,.any),(4,.any),(5,I ga),(6,I v'),(7,.any),(22,.any),(23,.any)],[]⟩):=by
 intro n
 induction n with
 |zero=>intro k hk hn;omega
 |succ n ih=>
  intro k hk hn v
  rw[L_ring_Gaps_succ,R_ring_Gaps_eq]
  by_cases h:k<l.length
  ·obtain⟨b,hb,_,_⟩:=behind_run g l k h hl hg hp
   have h3:(k:Int)<l.length:=by omega
   have hw:=wrapN (n:=k) (by omega)
   obtain⟨v',ih⟩:=ih (k+1) (by omega) (by omega) (if v<b then b else v)
   refine⟨v', ?_⟩
   simp at ih hb
   simp[h3,hb,hw,ih]
  ·have h3:¬(k:Int)<l.length:=by omega
   refine⟨v, ?_⟩
   simp[h3]
theorem gaps_run(g:Rg)(hg:g.rd.length≤1000):∃a b:Int,F_ring_Gaps [.agg (eRg g)]=some (.tup [I a,I b]):=by
 have hm:=meas_run g (by omega)
 have hl:=measM_len g.rd 0
 have hp:=plc_meas g.rd
 generalize measM 0 g.rd=m at*
 by_cases h0:m=[]
 ·refine⟨IntKind.i64.wrap g.rd.length,IntKind.i64.wrap g.rd.length, ?_⟩
  rw[F_ring_Gaps_eq]
  simp at hm
  simp[hm,h0]
 ·obtain⟨v',l1⟩:=gaps_loop g m (IntKind.i64.wrap (g.rd.length-m.length)) (by omega) hg hp bigL 0 (by omega) (by have:=bigL_ge;omega) 0
  refine⟨IntKind.i64.wrap (g.rd.length-m.length),v', ?_⟩
  rw[F_ring_Gaps_eq]
  simp at hm l1
  simp[hm,h0,l1]
def farB(a b c d l:Int):Bool:=(!decide ((if IntKind.i64.wrap (a-c)<IntKind.i64.wrap (c-a) then IntKind.i64.wrap (c-a) else IntKind.i64.wrap (a-c))≤l)||decide (l<if IntKind.i64.wrap (b-d)<IntKind.i64.wrap (d-b) then IntKind.i64.wrap (d-b) else IntKind.i64.wrap (b-d)))
theorem far_run(a b c d l:Int):F_ring_far [.agg [I a,I b],.agg [I c,I d],I l]=some (B (farB a b c d l)):=by
 rw[F_ring_far_eq]
 unfold farB
 simp
theorem around{L:Nat}(h:0<L){a:Int}(ha:0≤a):∃q:Nat,q<L∧Int.tmod a L=q:=by
 refine⟨(a% L).toNat, ?_, ?_⟩
 ·have:=Int.emod_lt_of_pos a (by omega:(0:Int)<L)
  have:=Int.emod_nonneg a (by omega:(L:Int)≠0)
  omega
 ·rw[Int.tmod_eq_emod_of_nonneg ha,Int.toNat_of_nonneg (Int.emod_nonneg a (by omega))]
theorem getr{l:List Rd}{x:Int}(h:0≤x∧x<l.length):∃y,(l.map eRd)[x.toNat]? =some (eRd y):=⟨l[x.toNat]'(by omega),by simp[(by omega:x.toNat<l.length)]⟩
theorem clean_loop(g:Rg)(lim:Int)(l:List Int)(hl:l.length≤1000)(hp:plc l g.rd.length):∀(n k:Nat),k≤l.length→l.length-k<n→∀(c:List Rd),c.length=g.rd.length→
  ∃c':List Rd,c'.length=g.rd.length∧L_ring_Clean 6 n ⟨[(0,.any),(1,I lim),(2,.ptr 2 0),(4,.ptr 4 0),(5,.ptr 5 0),(6,.own true (l.map eI)),(7,.any),(8,.any),(9,.any),(11,.any),(12,.any),(14,.any),(30,.own true (l.map eI)),(31,I l.length),(32,I k),(37,.any),(38,.any)],[(2,.box 79 (eRg g)),(4,.box 79 [I 0,.emp]),(14,.row 83 3 true (c.map eRd)),(5,.box 79 [I g.z,.row 14])]⟩=
   some (.ex 0,⟨[(0,.any),(1,.any),(2,.any),(4,.ptr 4 0),(5,.ptr 5 0),(6,.any),(7,.any),(8,.any),(9,.any),(11,.any),(12,.any),(14,.any),(30,.any),(31,.any),(32,.any),(37,.any),(38,.any)],[(4,.box 79 [I 0,.emp]),(14,.row 83 3 true (c'.map eRd)),(5,.box 79 [I g.z,.row 14])]⟩):=by
 intro n
 induction n with
 |zero=>intro k hk hn;omega
 |succ n ih=>
  intro k hk hn c hc
  rw[L_ring_Clean_succ,R_ring_Clean_eq]
  by_cases h:k<l.length
  ·have h3:(k:Int)<l.length:=by omega
   have hw:=wrapN (n:=k) (by omega)
   obtain⟨x,hx,mx⟩:=geti h
   have bx:=hp x mx
   obtain⟨y,hy⟩:=getr (l:=g.rd) bx
   have w0:IntKind.i64.wrap ((k:Int)+l.length)=k+l.length:=wrap64 (by omega) (by omega)
   have w1:IntKind.i64.wrap ((k:Int)+l.length+ -1)=k+l.length-1:=by rw[wrap64]<;>omega
   have w2:IntKind.i64.wrap ((k:Int)+l.length+1)=k+l.length+1:=wrap64 (by omega) (by omega)
   obtain⟨q1,hq1,e1⟩:=around (L:=l.length) (by omega) (a:=(k:Int)+l.length-1) (by omega)
   obtain⟨q2,hq2,e2⟩:=around (L:=l.length) (by omega) (a:=(k:Int)+l.length+1) (by omega)
   obtain⟨x1,hx1,mx1⟩:=geti hq1
   obtain⟨x2,hx2,mx2⟩:=geti hq2
   obtain⟨y1,hy1⟩:=getr (l:=g.rd) (hp x1 mx1)
   obtain⟨y2,hy2⟩:=getr (l:=g.rd) (hp x2 mx2)
   have b1:=hp x1 mx1
   have b2:=hp x2 mx2
   have f1:=far_run y.x y.y y1.x y1.y lim
   have f2:=far_run y.x y.y y2.x y2.y lim
   have n0:¬l=[]:=by intro e;subst e;simp at h
   have n1:¬(l.length:Int)=0:=by omega
   obtain⟨m,hm⟩:=bigL_succ 3 (by omega)
   cases a1:farB y.x y.y y1.x y1.y lim
   ·obtain⟨c',hc',ih⟩:=ih (k+1) (by omega) (by omega) c hc
    refine⟨c',hc', ?_⟩
    simp[a1] at f1
    simp at ih
    simp only[zsp,SP,hm]
    simp[h3,hx,hy,bx.1]
    rw[L_ring_Clean_succ,R_ring_Clean_eq]
    simp[h3,hx,hy,bx.1,w0,w1,e1,hx1,hy1,b1.1,n0,n1,f1]
    rw[L_ring_Clean_succ,R_ring_Clean_eq]
    simp[h3,hx,hy,bx.1,w0,w2,e2,hx2,hy2,b2.1,n0,n1]
    rw[L_ring_Clean_succ,R_ring_Clean_eq]
    simp[hw,ih]
   ·simp[a1] at f1
    cases a2:farB y.x y.y y2.x y2.y lim
    ·obtain⟨c',hc',ih⟩:=ih (k+1) (by omega) (by omega) c hc
     refine⟨c',hc', ?_⟩
     simp[a2] at f2
     simp at ih
     simp only[zsp,SP,hm]
     simp[h3,hx,hy,bx.1]
     rw[L_ring_Clean_succ,R_ring_Clean_eq]
     simp[h3,hx,hy,bx.1,w0,w1,e1,hx1,hy1,b1.1,n0,n1,f1]
     rw[L_ring_Clean_succ,R_ring_Clean_eq]
     simp[h3,hx,hy,bx.1,w0,w2,e2,hx2,hy2,b2.1,n0,n1,f2]
     rw[L_ring_Clean_succ,R_ring_Clean_eq]
     simp[hw,ih]
    ·obtain⟨c',hc',ih⟩:=ih (k+1) (by omega) (by omega) (c.set x.toNat ⟨0,0,false⟩) (by simp[hc])
     refine⟨c',hc', ?_⟩
     obtain⟨z,hz⟩:=getr (l:=c) (by rw[hc];exact bx)
     simp[a2] at f2
     simp[List.map_set] at ih
     simp only[zsp,SP,hm]
     simp[h3,hx,hy,bx.1]
     rw[L_ring_Clean_succ,R_ring_Clean_eq]
     simp[h3,hx,hy,bx.1,w0,w1,e1,hx1,hy1,b1.1,n0,n1,f1]
     rw[L_ring_Clean_succ,R_ring_Clean_eq]
     simp[h3,hx,hy,bx.1,w0,w2,e2,hx2,hy2,b2.1,n0,n1,f2]
     rw[L_ring_Clean_succ,R_ring_Clean_eq]
     simp[hw,hz,bx.1,ih]
  ·have h3:¬(k:Int)<l.length:=by omega
   refine⟨c,hc, ?_⟩
   simp[h3]
theorem ringE_len{g:Rg}(h:ringE g=0):8≤g.rd.length∧g.rd.length≤32:=by
 unfold ringE at h
 split at h
 ·cases h
 split at h
 ·cases h
 omega
theorem clean_run(g:Rg)(lim:Int)(h:ringE g=0):∃c:List Rd,c.length=g.rd.length∧F_ring_Clean [.agg (eRg g),I lim]=some (.agg [I g.z,.own true (c.map eRd)]):=by
 obtain⟨h8,h32⟩:=ringE_len h
 have hc:=ringClone_run g (by omega) (by omega)
 have hk:=ringCheck_run g
 have hm:=meas_run g (by omega)
 have hl:=measM_len g.rd 0
 have hp:=plc_meas g.rd
 generalize measM 0 g.rd=m at*
 simp at hm hc hk
 by_cases a0:lim<0
 ·refine⟨g.rd,rfl, ?_⟩
  rw[F_ring_Clean_eq]
  simp[hm,hc,a0]
 by_cases a1:(m.length:Int)<2
 ·refine⟨g.rd,rfl, ?_⟩
  rw[F_ring_Clean_eq]
  simp[hm,hc,a0,a1]
 obtain⟨c,h1,h2⟩:=clean_loop g lim m (by omega) hp bigL 0 (by omega) (by have:=bigL_ge;omega) g.rd rfl
 refine⟨c,h1, ?_⟩
 rw[F_ring_Clean_eq]
 simp at h2
 simp[hm,hc,hk,h,a0,a1,h2]
def flrD(a b:Int):Int:=if a.tmod b<0 then IntKind.i64.wrap (IntKind.i64.wrap (a.tdiv b)-1) else IntKind.i64.wrap (a.tdiv b)
theorem rfloor_run(a b:Int)(h:¬b=0):F_ring_floor [I a,I b]=some (I (flrD a b)):=by
 rw[F_ring_floor_eq]
 unfold flrD
 simp[h]
theorem getp{l:List Pnt}{q:Nat}(h:q<l.length):∃y,(l.map eP)[q]? =some (eP y):=⟨l[q],by simp[h]⟩
theorem fill_loop(g:Rg)(l:List Int)(k:Nat)(x b:Int)(y y1:Rd)(hb:b≤10000)(hx:0≤x∧x≤10000)(hg:0<g.rd.length):∀(n j:Nat),1≤j→j≤10001→b+1-j<n→0<n→∀(p:List Pnt),p.length=g.rd.length→
  ∃p':List Pnt,p'.length=g.rd.length∧L_ring_Repair 16 n ⟨[(0,.any),(1,.any),(2,.ptr 2 0),(4,.any),(5,.any),(6,.any),(7,.own true (l.map eI)),(8,.any),(9,.any),(10,.row 10),(11,.any),(12,I x),(13,.ptr 13 0),(14,.ptr 14 0),(15,I b),(16,I j),(45,.own true (l.map eI)),(46,I l.length),(47,I k)],[(2,.box 79 (eRg g)),(10,.row 81 2 true (p.map eP)),(13,.box 81 [I y.x,I y.y]),(14,.box 81 [I y1.x,I y1.y])]⟩=
   some (.ex 2,⟨[(0,.any),(1,.any),(2,.ptr 2 0),(4,.any),(5,.any),(6,.any),(7,.own true (l.map eI)),(8,.any),(9,.any),(10,.row 10),(11,.any),(12,.any),(13,.any),(14,.any),(15,.any),(16,.any),(45,.own true (l.map eI)),(46,I l.length),(47,I k)],[(2,.box 79 (eRg g)),(10,.row 81 2 true (p'.map eP))]⟩):=by
 intro n
 induction n with
 |zero=>intro j _ _ _ h;omega
 |succ n ih=>
  intro j hj hj2 hn _ p hp
  rw[L_ring_Repair_succ,R_ring_Repair_eq]
  by_cases h:(j:Int)≤b
  ·have w1:IntKind.i64.wrap (x+j)=x+j:=wrap64 (by omega) (by omega)
   have w2:IntKind.i64.wrap (b+1)=b+1:=wrap64 (by omega) (by omega)
   have w3:IntKind.i64.wrap ((j:Int)+1)=j+1:=wrap64 (by omega) (by omega)
   obtain⟨q,hq,e1⟩:=around (L:=p.length) (by omega) (a:=x+j) (by omega)
   obtain⟨z,hz⟩:=getp hq
   have f1:=rfloor_run (IntKind.i64.wrap (IntKind.i64.wrap (y1.x-y.x)*j)) (b+1) (by omega)
   have f2:=rfloor_run (IntKind.i64.wrap (IntKind.i64.wrap (y1.y-y.y)*j)) (b+1) (by omega)
   have n0:¬p=[]:=by intro e;subst e;simp at hq
   obtain⟨p',hp',ih⟩:=ih (j+1) (by omega) (by omega) (by omega) (by omega) (p.set q (IntKind.i64.wrap (y.x+flrD (IntKind.i64.wrap (IntKind.i64.wrap (y1.x-y.x)*j)) (b+1)),IntKind.i64.wrap (y.y+flrD (IntKind.i64.wrap (IntKind.i64.wrap (y1.y-y.y)*j)) (b+1)))) (by simp[hp])
   refine⟨p',hp', ?_⟩
   generalize flrD (IntKind.i64.wrap (IntKind.i64.wrap (y1.x-y.x)*j)) (b+1)=v1 at*
   generalize flrD (IntKind.i64.wrap (IntKind.i64.wrap (y1.y-y.y)*j)) (b+1)=v2 at*
   simp[List.map_set] at ih
   simp[h,w1,w2,w3,e1,n0,hz,f1,f2,ih]
  ·refine⟨p,hp, ?_⟩
   simp[h]
theorem repair_loop(g:Rg)(l:List Int)(hl:l.length≤1000)(hg:g.rd.length≤1000)(hp:plc l g.rd.length):∀(n k:Nat),k≤l.length→l.length-k<n→∀(p:List Pnt),p.length=g.rd.length→
  ∃p':List Pnt,p'.length=g.rd.length∧L_ring_Repair 10 n ⟨[(0,.any),(1,.any),(2,.ptr 2 0),(4,.any),(5,.any),(6,.any),(7,.own true (l.map eI)),(8,.any),(9,.any),(10,.row 10),(11,.any),(12,.any),(13,.any),(14,.any),(15,.any),(16,.any),(45,.own true (l.map eI)),(46,I l.length),(47,I k)],[(2,.box 79 (eRg g)),(10,.row 81 2 true (p.map eP))]⟩=
   some (.ex 0,⟨[(0,.any),(1,.any),(2,.any),(4,.any),(5,.any),(6,.any),(7,.any),(8,.any),(9,.any),(10,.row 10),(11,.any),(12,.any),(13,.any),(14,.any),(15,.any),(16,.any),(45,.any),(46,.any),(47,.any)],[(10,.row 81 2 true (p'.map eP))]⟩):=by
 intro n
 induction n with
 |zero=>intro k hk hn;omega
 |succ n ih=>
  intro k hk hn p hpl
  rw[L_ring_Repair_succ,R_ring_Repair_eq]
  by_cases h:k<l.length
  ·have h3:(k:Int)<l.length:=by omega
   have hw:=wrapN (n:=k) (by omega)
   obtain⟨x,hx,mx⟩:=geti h
   have bx:=hp x mx
   obtain⟨y,hy⟩:=getr (l:=g.rd) bx
   obtain⟨q,hq,e1⟩:=around (L:=l.length) (by omega) (a:=(k:Int)+1) (by omega)
   obtain⟨x1,hx1,mx1⟩:=geti hq
   have bx1:=hp x1 mx1
   obtain⟨y1,hy1⟩:=getr (l:=g.rd) bx1
   obtain⟨z,hz⟩:=getp (l:=p) (q:=x.toNat) (by omega)
   obtain⟨b,hb,b0,b1⟩:=behind_run g l k h hl hg hp
   have n0:¬l=[]:=by intro e;subst e;simp at h
   obtain⟨p1,hp1,l1⟩:=fill_loop g l k x b y y1 b1 (by omega) (by omega) bigL 1 (by omega) (by omega) (by have:=bigL_ge;omega) (by have:=bigL_ge;omega) (p.set x.toNat (y.x,y.y)) (by simp[hpl])
   obtain⟨p',hp',ih⟩:=ih (k+1) (by omega) (by omega) p1 hp1
   refine⟨p',hp', ?_⟩
   simp at hb ih
   simp[List.map_set] at l1
   simp[h3,hw,hx,hy,bx.1,e1,n0,hx1,hy1,bx1.1,hz,hb,l1,ih]
  ·have h3:¬(k:Int)<l.length:=by omega
   refine⟨p,hpl, ?_⟩
   simp[h3]
theorem repair_run(g:Rg)(most:Int):∃(p:List Pnt) (e:Int),p.length≤1000∧F_ring_Repair [.agg (eRg g),I most]=some (.tup [.own true (p.map eP),I e]):=by
 have hk:=ringCheck_run g
 simp at hk
 by_cases h:¬ringE g=0
 ·refine⟨[],ringE g,by simp, ?_⟩
  rw[F_ring_Repair_eq]
  simp[hk,h]
 have h:ringE g=0:=by omega
 obtain⟨h8,h32⟩:=ringE_len h
 have hm:=meas_run g (by omega)
 have hl:=measM_len g.rd 0
 have hp:=plc_meas g.rd
 obtain⟨a,b,hgp⟩:=gaps_run g (by omega)
 generalize measM 0 g.rd=m at*
 have b1:16*(g.rd.length:Int)≤281474976710656∧(g.rd.length:Int)≤1000000000000000000:=by omega
 obtain⟨p',hp',l1⟩:=repair_loop g m (by omega) (by omega) hp bigL 0 (by omega) (by have:=bigL_ge;omega) (List.replicate g.rd.length (0,0)) (by simp)
 simp at hm hgp l1
 by_cases a1:(m.length:Int)<3
 ·refine⟨[],30,by simp, ?_⟩
  rw[F_ring_Repair_eq]
  simp[hk,h,hm,hgp,a1]
 by_cases a2:0<a
 ·by_cases a3:most<b
  ·refine⟨[],30,by simp, ?_⟩
   rw[F_ring_Repair_eq]
   simp[hk,h,hm,hgp,a1,a2,a3]
  ·refine⟨p',0,by omega, ?_⟩
   rw[F_ring_Repair_eq]
   simp[hk,h,hm,hgp,a1,a2,a3,b1,l1]
 ·refine⟨p',0,by omega, ?_⟩
  rw[F_ring_Repair_eq]
  simp[hk,h,hm,hgp,a1,a2,b1,l1]
end Go.Proofs.YtbdgblipbpadeaaGreatDoor
