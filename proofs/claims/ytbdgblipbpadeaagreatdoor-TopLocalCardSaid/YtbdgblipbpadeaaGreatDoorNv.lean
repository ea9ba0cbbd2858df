/-
  The table and the catalog of the examples, the sizes of rules, run abstractly.
-/
import Derived.Test.YtbdgblipbpadeaaGreatDoorNe
import Derived.Test.YtbdgblipbpadeaaGreatDoorMh
set_option linter.unusedSimpArgs false
set_option linter.unusedVariables false
set_option linter.defProp false
namespace Go.Proofs.YtbdgblipbpadeaaGreatDoor
open Go Go.Abs
set_option maxHeartbeats 8000000
set_option maxRecDepth 100000
theorem ltwo_run(op:Int)(a b:Rl.Ex):F_law45_two [I op,.agg (Rl.eX a),.agg (Rl.eX b)]=some (.agg [I op,I 0,S ByteArray.empty,.own false [Rl.eX a,Rl.eX b]]):=by
 rw[F_law45_two_eq]
 simp[Rl.eX_eq]
theorem lfeat_run(s:ByteArray):F_law45_feature [S s]=some (.agg [I 2,I 0,S s,.own true []]):=by
 rw[F_law45_feature_eq];simp
theorem lnum_run(n:Int):F_law45_number [I n]=some (.agg [I 1,I n,S ByteArray.empty,.own true []]):=by
 rw[F_law45_number_eq];simp
def tabE:Rls:=[(1,.mk 10 0 ByteArray.empty [.mk 8 0 ByteArray.empty [.mk 2 0 nKnots [],.mk 1 2 ByteArray.empty []],.mk 6 0 ByteArray.empty [.mk 2 0 nWane [],.mk 1 0 ByteArray.empty []]]),(2,.mk 8 0 ByteArray.empty [.mk 2 0 nKnots [],.mk 1 5 ByteArray.empty []]),(3,.mk 8 0 ByteArray.empty [.mk 2 0 nMoist [],.mk 1 1800 ByteArray.empty []])]
theorem ltab_run:F_law45_Table []=some (.own false (tabE.map Rl.eR)):=by
 rw[F_law45_Table_eq];simp[lfeat_run,lnum_run,ltwo_run,Rl.fold0,Rl.fold1,Rl.fold2]
 rfl
def plankE:Pd:=⟨⟨#[112,108,97,110,107]⟩,40,100,50,0,[2000],[70]⟩
theorem plank_run:F_law45_Plank []=some (.own false ([plankE].map ePd)):=by
 rw[F_law45_Plank_eq];simp[plankE]
def szL(c:Rl.Ex→Int→Int)(most:Int):List Rl.Ex→Int→Int
 |[],n=>n
 |a::r,n=>if n<most then szL c most r (n+c a (most-n)) else n
def szM:Nat→Rl.Ex→Int→Int
 |0,_,_=>1
 |k+1,e,most=>szL (szM k) most e.args 1
theorem szL_bnd{c:Rl.Ex→Int→Int}{M:Int}(hc:∀a m,1≤m→1≤c a m∧c a m≤m):∀(l:List Rl.Ex) (n:Int),1≤n→(n≤M∨n=1)→n≤szL c M l n∧(szL c M l n≤M∨szL c M l n=1)
 |[],n,h1,h2=>⟨Int.le_refl _,h2⟩
 |a::r,n,h1,h2=>by
  unfold szL
  split
  ·have:=hc a (M-n) (by omega)
   have ih:=szL_bnd (M:=M) hc r (n+c a (M-n)) (by omega) (.inl (by omega))
   exact⟨by omega,ih.2⟩
  ·exact⟨Int.le_refl _,h2⟩
theorem szM_bnd:∀(k:Nat) (e:Rl.Ex) (m:Int),1≤szM k e m∧(szM k e m≤m∨szM k e m=1)
 |0,e,m=>⟨Int.le_refl _,.inr rfl⟩
 |k+1,e,m=>szL_bnd (fun a q hq=>by have:=szM_bnd k a q;omega) e.args 1 (by omega) (.inr rfl)
theorem size_loop(sf:List D→Option D)(c:Rl.Ex→Int→Int)(e:Rl.Ex)(most:Int)(hm:most≤1000)(hl:e.args.length≤9223372036854775807)(hc:∀a m,1≤m→1≤c a m∧c a m≤m)(hsf:∀a∈e.args,∀m,1≤m→m<most→sf [.agg (Rl.eX a),I m]=some (I (c a m))):∀(n i:Nat) (r:List Rl.Ex),e.args.drop i=r→r.length<n→∀q:Int,1≤q→
  L_law45_size sf 3 n ⟨[(0,.any),(1,I most),(2,.ptr 2 0),(4,.any),(5,I q),(6,I i)],[(2,.box 132 (Rl.eX e))]⟩=
   some (.ex 0,⟨[(0,.any),(1,.any),(2,.any),(4,.any),(5,I (szL c most r q)),(6,.any)],[]⟩):=by
 refine lind e.args _ ?_ ?_
 ·intro n i hr q hq
  rw[L_law45_size_succ,R_law45_size_eq]
  by_cases g:q<most<;>simp[dn hr,g,szL]
 ·intro n i x r hr hi ih q hq
  rw[L_law45_size_succ,R_law45_size_eq]
  obtain⟨h1,h3,hr',_⟩:=dc (enc:=Rl.eX) hr
  have hw:=wrapN (n:=i) (by omega)
  by_cases g:q<most
  ·have h5:=hsf x (by rw[←List.take_append_drop i e.args,hr];simp) (most-q) (by omega) (by omega)
   have hw3:IntKind.i64.wrap (most-q)=most-q:=wrap64 (by omega) (by omega)
   have hb:=hc x (most-q) (by omega)
   have hw4:IntKind.i64.wrap (q+c x (most-q))=q+c x (most-q):=wrap64 (by omega) (by omega)
   have ih':=ih (q+c x (most-q)) (by omega)
   simp only[Int.natCast_add,Int.cast_ofNat_Int] at ih'
   simp[h1,h3,hw,g,h5,hw3,hw4,szL,ih']
  ·simp[h1,h3,g,szL]
theorem size_run:∀(k m:Nat) (e:Rl.Ex) (most:Int),Rl.Fits e→k<m→most≤k→most≤1000→FN_law45_size m [.agg (Rl.eX e),I most]=some (I (szM k e most)):=by
 intro k
 induction k with
 |zero=>
  intro m e most hf hm h0 h1
  obtain⟨m,rfl⟩:∃q,m=q+1:=⟨m-1,by omega⟩
  rw[FN_law45_size_eq]
  obtain⟨q,hq⟩:∃q,bigL=q+1:=⟨bigL-1,by have:=bigL_ge;omega⟩
  simp[szM,hq]
  rw[L_law45_size_succ,R_law45_size_eq]
  have g:¬1<most:=by omega
  by_cases g2:(0:Int)<e.args.length<;>simp[g,g2]
 |succ k ih=>
  intro m e most hf hm h0 h1
  obtain⟨m,rfl⟩:∃q,m=q+1:=⟨m-1,by omega⟩
  rw[FN_law45_size_eq]
  have hbig:=bigL_ge
  obtain⟨ho,hn,hs,hla,ha⟩:=hf
  have hA:=size_loop (FN_law45_size m) (szM k) e most h1 hla (fun a q hq=>by have:=szM_bnd k a q;omega) (fun a h q h1' h2'=>ih m a q (ha a h) (by omega) (by omega) (by omega)) bigL 0 e.args rfl (by omega) 1 (by omega)
  simp at hA
  simp[szM,hA]
theorem sizeF_run(e:Rl.Ex)(hf:Rl.Fits e):F_law45_size [.agg (Rl.eX e),I 201]=some (I (szM 201 e 201)):=size_run 201 1000 e 201 hf (by omega) (by omega) (by omega)
def shP':List Pd→Bool
 |[]=>true
 |p::r=>if 100<(p.name.size:Int) then false else if 10<(p.lens.length:Int) then false else if 10<(p.prs.length:Int) then false else shP' r
theorem smallP_loop(g:Gg)(hl:g.ps.length≤1000):∀(n i:Nat) (r:List Pd),g.ps.drop i=r→r.length<n→
  L_law45_Small 4 n ⟨[(0,.any),(1,.ptr 1 0),(2,.any),(3,I i),(4,.any),(5,.any)],[(1,.box 86 (eGg g))]⟩=
   if shP' r=true then some (.ex 0,⟨[(0,.any),(1,.ptr 1 0),(2,.any),(3,.any),(4,.any),(5,.any)],[(1,.box 86 (eGg g))]⟩) else some (.ret,⟨[(0,.any),(1,.any),(2,B false),(3,.any),(4,.any),(5,.any)],[]⟩):=by
 refine lind g.ps _ ?_ ?_
 ·intro n i hr
  rw[L_law45_Small_succ,R_law45_Small_eq]
  simp[dn hr,shP']
 ·intro n i x r hr hi ih
  rw[L_law45_Small_succ,R_law45_Small_eq]
  obtain⟨h1,h3,hr',_⟩:=dc (enc:=ePd) hr
  have hw:=wrapN (n:=i) (by omega)
  simp at ih
  by_cases g1:100<(x.name.size:Int)
  ·simp[h1,h3,shP',g1]
  ·by_cases g2:10<(x.lens.length:Int)
   ·simp[h1,h3,shP',g1,g2]
   ·by_cases g3:10<(x.prs.length:Int)
    ·simp[h1,h3,shP',g1,g2,g3]
    ·simp[h1,h3,shP',g1,g2,g3,hw,ih]
def szR(n:Int):Rls→Int
 |[]=>n
 |r::l=>if n≤200 then szR (n+szM 201 r.2 201) l else n
theorem smallR_loop(g:Gg)(hl:g.rs.length≤1000)(hf:∀x∈g.rs,Rl.Fits x.2):∀(n i:Nat) (r:Rls),g.rs.drop i=r→r.length<n→∀q:Int,0≤q→q≤1000→
  L_law45_Small 10 n ⟨[(0,.any),(1,.ptr 1 0),(2,.any),(3,.any),(4,I q),(5,I i)],[(1,.box 86 (eGg g))]⟩=
   some (.ex 2,⟨[(0,.any),(1,.any),(2,.any),(3,.any),(4,I (szR q r)),(5,.any)],[]⟩):=by
 refine lind g.rs _ ?_ ?_
 ·intro n i hr q h0 h1
  rw[L_law45_Small_succ,R_law45_Small_eq]
  by_cases c:q≤200<;>simp[dn hr,szR,c]
 ·intro n i x r hr hi ih q h0 h1
  rw[L_law45_Small_succ,R_law45_Small_eq]
  obtain⟨h1,h3,hr',_⟩:=dc (enc:=Rl.eR) hr
  have hw:=wrapN (n:=i) (by omega)
  have hs:=sizeF_run x.2 (hf x (by rw[←List.take_append_drop i g.rs,hr];simp))
  by_cases c:q≤200
  ·have hb:=szM_bnd 201 x.2 201
   have hw2:IntKind.i64.wrap (q+szM 201 x.2 201)=q+szM 201 x.2 201:=wrap64 (by omega) (by omega)
   have ih':=ih (q+szM 201 x.2 201) (by omega) (by omega)
   simp at ih' hs
   simp[h1,h3,szR,c,hw,hw2,hs,ih']
  ·simp[h1,h3,szR,c]
def smallG(g:Gg):Bool:=if 70<(g.b.dfs.length:Int) then false else if 20<(g.ps.length:Int) then false else if 40<(g.rs.length:Int) then false else
 if 100<IntKind.i64.wrap (IntKind.i64.wrap (IntKind.i64.wrap ((g.b.id.size:Int)+g.b.log.size)+g.b.sp.size)+g.s.name.size) then false else if shP' g.ps=true then decide (szR 0 g.rs≤200) else false
theorem lsmall_run(g:Gg)(hf:∀x∈g.rs,Rl.Fits x.2):F_law45_Small [.agg (eGg g)]=some (B (smallG g)):=by
 rw[F_law45_Small_eq]
 unfold smallG
 by_cases c1:70<(g.b.dfs.length:Int)
 ·simp[c1]
 by_cases c2:20<(g.ps.length:Int)
 ·simp[c1,c2]
 by_cases c3:40<(g.rs.length:Int)
 ·simp[c1,c2,c3]
 have i1:=smallP_loop g (by omega) bigL 0 g.ps rfl (by have:=bigL_ge;omega)
 have i2:=smallR_loop g (by omega) hf bigL 0 g.rs rfl (by have:=bigL_ge;omega) 0 (by omega) (by omega)
 simp at i1 i2
 by_cases c4:100<IntKind.i64.wrap (IntKind.i64.wrap (IntKind.i64.wrap ((g.b.id.size:Int)+g.b.log.size)+g.b.sp.size)+g.s.name.size)
 ·simp[c1,c2,c3,c4]
 ·cases c5:shP' g.ps
  ·simp[c5] at i1
   simp[c1,c2,c3,c4,i1]
  ·simp[c5] at i1
   simp[c1,c2,c3,c4,i1,i2]
end Go.Proofs.YtbdgblipbpadeaaGreatDoor
