/-
  Whether a trunk and a life are small.
-/
import Derived.Test.YtbdgblipbpadeaaGreatDoorNv
import Derived.Test.YtbdgblipbpadeaaGreatDoorNu
set_option linter.unusedSimpArgs false
set_option linter.unusedVariables false
set_option linter.defProp false
namespace Go.Proofs.YtbdgblipbpadeaaGreatDoor
open Go Go.Abs
set_option maxHeartbeats 8000000
set_option maxRecDepth 100000
theorem short_run(r:Rc)(nd:List Nd)(sh:List Int)(w:Spc)(nm:ByteArray)(rmp tk q:Int)(SG FL:List (List D))(rs:Rls)(hf:∀x∈rs,Rl.Fits x.2):
  ∃o:Bool,F_top_short [.agg (I q::(lifeC r nd sh w nm rmp tk SG FL (rs.map Rl.eR)).tail)]=some (B o)∧(o=true→nd.length≤60∧sh.length≤30∧rs.length≤40):=by
 have h:=lsmall_run ⟨⟨ByteArray.empty,ByteArray.empty,ByteArray.empty,0,0,0,0,0,0,0,0,[],0,⟨0,0,0⟩,false,0⟩,[],⟨ByteArray.empty,0,0,0,0,0,0,0,0,0,0,0,0⟩,rs⟩ hf
 rw[F_top_short_eq]
 simp only[lifeC,List.tail_cons,eGg,List.map_nil] at h⊢
 by_cases h1:60<(nd.length:Int)
 ·exact⟨false,by simp[h1],by simp⟩
 by_cases h2:30<(sh.length:Int)
 ·exact⟨false,by simp[h1,h2],by simp⟩
 by_cases h3:20<(SG.length:Int)
 ·exact⟨false,by simp[h1,h2,h3],by simp⟩
 by_cases h4:100<IntKind.i64.wrap ((nm.size:Int)+w.name.size)
 ·exact⟨false,by simp[h1,h2,h3,h4],by simp⟩
 by_cases h5:20<(FL.length:Int)
 ·exact⟨false,by simp[h1,h2,h3,h4,h5],by simp⟩
 by_cases h6:400<tk
 ·exact⟨false,by simp[h1,h2,h3,h4,h5,h6],by simp⟩
 refine⟨smallG ⟨⟨ByteArray.empty,ByteArray.empty,ByteArray.empty,0,0,0,0,0,0,0,0,[],0,⟨0,0,0⟩,false,0⟩,[],⟨ByteArray.empty,0,0,0,0,0,0,0,0,0,0,0,0⟩,rs⟩, ?_, ?_⟩
 ·generalize smallG _=o at*
  simp[h1,h2,h3,h4,h5,h6,h]
 ·intro ho
  unfold smallG at ho
  refine⟨by omega,by omega, ?_⟩
  by_cases c:40<(rs.length:Int)
  ·simp[c] at ho
  ·omega
theorem work_loop(P:List Pd)(hP:P.length≤1000000)(a b c d e f g:Int):∀(n i:Nat) (r:List Pd),P.drop i=r→r.length<n→∀u:Int,∃w:Int,
  L_law22_Work 7 n ⟨[(0,.any),(1,.ptr 1 0),(2,.any),(3,I 0),(4,I u),(5,.any),(6,I i),(7,.any)],[(1,.box 122 [.sl [],.sl [],.sl (P.map ePd),I 0,I 0,I 0,I 0,.sl [],I a,I b,I c,I d,I e,I f,I g])]⟩=
   some (.ex 2,⟨[(0,.any),(1,.ptr 1 0),(2,.any),(3,I 0),(4,I w),(5,.any),(6,.any),(7,.any)],[(1,.box 122 [.sl [],.sl [],.sl (P.map ePd),I 0,I 0,I 0,I 0,.sl [],I a,I b,I c,I d,I e,I f,I g])]⟩):=by
 refine lind P _ ?_ ?_
 ·intro n i hr u
  rw[L_law22_Work_succ,R_law22_Work_eq]
  exact⟨u,by simp[dn hr]⟩
 ·intro n i x r hr hi ih u
  rw[L_law22_Work_succ,R_law22_Work_eq]
  obtain⟨h1,h3,hr',_⟩:=dc (enc:=ePd) hr
  have hw:=wrapN (n:=i) (by omega)
  obtain⟨w,ih'⟩:=ih (if u<(if(x.lens.length:Int)<10 then(x.lens.length:Int) else 10) then(if(x.lens.length:Int)<10 then(x.lens.length:Int) else 10) else u)
  refine⟨w, ?_⟩
  simp at ih'
  simp[h1,h3,hw,ih']
theorem work_run(P:List Pd)(hP:P.length≤1000000)(a b c d e f g:Int):∃v:Int,F_law22_Work [.agg [.sl [],.sl [],.sl (P.map ePd),I 0,I 0,I 0,I 0,.sl [],I a,I b,I c,I d,I e,I f,I g]]=some (I v):=by
 obtain⟨q,hq⟩:∃q,bigL=q+1:=⟨bigL-1,by have:=bigL_ge;omega⟩
 obtain⟨w,hw⟩:=work_loop P hP a b c d e f g (q+1) 0 P rfl (by have:=bigL_ge;omega) 1
 simp at hw
 rw[F_law22_Work_eq]
 simp[hq]
 rw[L_law22_Work_succ,R_law22_Work_eq]
 by_cases hd:0<d
 ·have hne:d≠0:=by omega
  simp[hw,hd,hne]
 ·simp[hw,hd]
theorem small22_loop(P:List Pd)(hP:P.length≤1000000)(a b c d e f g:Int):∀(n i:Nat) (r:List Pd),P.drop i=r→r.length<n→∃o:Bool,
  L_law22_Small 9 n ⟨[(0,.any),(1,.ptr 1 0),(2,.any),(3,.any),(4,I i)],[(1,.box 122 [.sl [],.sl [],.sl (P.map ePd),I 0,I 0,I 0,I 0,.sl [],I a,I b,I c,I d,I e,I f,I g])]⟩=
   if o=true then some (.ex 2,⟨[(0,.any),(1,.any),(2,.any),(3,.any),(4,.any)],[]⟩) else some (.ret,⟨[(0,.any),(1,.any),(2,B false),(3,.any),(4,.any)],[]⟩):=by
 refine lind P _ ?_ ?_
 ·intro n i hr
  rw[L_law22_Small_succ,R_law22_Small_eq]
  exact⟨true,by simp[dn hr]⟩
 ·intro n i x r hr hi ih
  rw[L_law22_Small_succ,R_law22_Small_eq]
  obtain⟨h1,h3,hr',_⟩:=dc (enc:=ePd) hr
  have hw:=wrapN (n:=i) (by omega)
  by_cases g1:10<(x.lens.length:Int)
  ·exact⟨false,by simp[h1,h3,g1]⟩
  by_cases g2:10<(x.prs.length:Int)
  ·exact⟨false,by simp[h1,h3,g1,g2]⟩
  by_cases g3:100<(x.name.size:Int)
  ·exact⟨false,by simp[h1,h3,g1,g2,g3]⟩
  obtain⟨o,ih'⟩:=ih
  simp at ih'
  exact⟨o,by simp[h1,h3,g1,g2,g3,hw,ih']⟩
theorem small22_run(P:List Pd)(a b c d e f g:Int):∃o:Bool,F_law22_Small [.agg [.sl [],.sl [],.sl (P.map ePd),I 0,I 0,I 0,I 0,.sl [],I a,I b,I c,I d,I e,I f,I g]]=some (B o):=by
 by_cases h:20<(P.length:Int)
 ·exact⟨false,by rw[F_law22_Small_eq];simp[h]⟩
 obtain⟨v,hv⟩:=work_run P (by omega) a b c d e f g
 obtain⟨q,hq⟩:∃q,bigL=q+1:=⟨bigL-1,by have:=bigL_ge;omega⟩
 obtain⟨o,ho⟩:=small22_loop P (by omega) a b c d e f g (q+1) 0 P rfl (by have:=bigL_ge;omega)
 simp at ho
 by_cases hz:200000<v
 ·refine⟨false, ?_⟩
  rw[F_law22_Small_eq];simp[h,hv,hz]
 refine⟨o, ?_⟩
 rw[F_law22_Small_eq]
 simp[hq,h,hv,hz]
 rw[L_law22_Small_succ,R_law22_Small_eq]
 cases o
 ·simp at ho
  simp[ho]
 ·simp at ho
  simp[ho]
theorem given_run(P:List Pd)(a b c d e f g:Int):F_top_given [.agg [.sl [],.sl [],.sl (P.map ePd),I a,I b,I c,I d,I e,I f,I g],.agg [I 0,I 0,I 0,I 0,.sl []]]=some (.agg [.sl [],.sl [],.sl (P.map ePd),I 0,I 0,I 0,I 0,.sl [],I a,I b,I c,I d,I e,I f,I g]):=by
 rw[F_top_given_eq];simp
theorem ch11_run:F_ref11_Check [.sl []]=some (I 3):=by
 rw[F_ref11_Check_eq];simp
theorem light_loop(P:List Pd)(hP:P.length≤1000)(a b c d e f g:Int):∀(n i:Nat) (r:List Pd),P.drop i=r→r.length<n→∃o:Bool,
  L_top_light 4 n ⟨[(0,.any),(1,.ptr 1 0),(2,.any),(3,I i),(4,.any)],[(1,.box 76 [.sl [],.sl [],.sl (P.map ePd),I a,I b,I c,I d,I e,I f,I g])]⟩=
   if o=true then some (.ex 0,⟨[(0,.any),(1,.ptr 1 0),(2,.any),(3,.any),(4,.any)],[(1,.box 76 [.sl [],.sl [],.sl (P.map ePd),I a,I b,I c,I d,I e,I f,I g])]⟩) else some (.ret,⟨[(0,.any),(1,.any),(2,B false),(3,.any),(4,.any)],[]⟩):=by
 refine lind P _ ?_ ?_
 ·intro n i hr
  rw[L_top_light_succ,R_top_light_eq]
  exact⟨true,by simp[dn hr]⟩
 ·intro n i x r hr hi ih
  rw[L_top_light_succ,R_top_light_eq]
  obtain⟨h1,h3,hr',_⟩:=dc (enc:=ePd) hr
  have hw:=wrapN (n:=i) (by omega)
  by_cases g1:4<(x.lens.length:Int)
  ·exact⟨false,by simp[h1,h3,g1]⟩
  obtain⟨o,ih'⟩:=ih
  simp at ih'
  exact⟨o,by simp[h1,h3,g1,hw,ih']⟩
theorem light_run(P:List Pd)(a b c d e f g:Int):∃o:Bool,F_top_light [.agg [.sl [],.sl [],.sl (P.map ePd),I a,I b,I c,I d,I e,I f,I g]]=some (B o):=by
 have hg:=given_run P a b c d e f g
 obtain⟨o2,h2⟩:=small22_run P a b c d e f g
 have hc:=ch11_run
 rw[F_top_light_eq]
 cases o2
 ·exact⟨false,by simp[hg,h2]⟩
 by_cases h:3<(P.length:Int)
 ·exact⟨false,by simp[hg,h2,h]⟩
 obtain⟨o,ho⟩:=light_loop P (by omega) a b c d e f g bigL 0 P rfl (by have:=bigL_ge;omega)
 simp at ho
 by_cases k1:0<c
 ·by_cases k2:c<10
  ·exact⟨false,by simp[hg,h2,h,k1,k2]⟩
  ·by_cases k3:0<d
   ·by_cases k4:d<200
    ·exact⟨false,by simp[hg,h2,h,k1,k2,k3,k4]⟩
    ·refine⟨o, ?_⟩
     cases o<;>simp at ho<;>simp[hg,h2,h,k1,k2,k3,k4,ho,hc]
   ·refine⟨o, ?_⟩
    cases o<;>simp at ho<;>simp[hg,h2,h,k1,k2,k3,ho,hc]
 ·by_cases k3:0<d
  ·by_cases k4:d<200
   ·exact⟨false,by simp[hg,h2,h,k1,k3,k4]⟩
   ·refine⟨o, ?_⟩
    cases o<;>simp at ho<;>simp[hg,h2,h,k1,k3,k4,ho,hc]
  ·refine⟨o, ?_⟩
   cases o<;>simp at ho<;>simp[hg,h2,h,k1,k3,ho,hc]
theorem s10_loop(rg:List Rg)(df:List Dfc)(pds:List Pd)(a b c d' e f g lim gap:Int)(k:Nat)(gr:Rg)(hr:gr.rd.length≤1000):∀(n i:Nat) (r:List Rd),gr.rd.drop i=r→r.length<n→∃o:Bool,
  L_top_small 10 n ⟨[(0,.any),(1,.ptr 1 0),(2,.any),(3,I k),(4,.sl (gr.rd.map eRd)),(5,I i),(6,.any)],[(1,.box 32 [.sl (rg.map eRg),.sl (df.map eDf),.sl (pds.map ePd),I a,I b,I c,I d',I e,I f,I g,I lim,I gap])]⟩=
   if o=true then some (.ex 2,⟨[(0,.any),(1,.ptr 1 0),(2,.any),(3,I k),(4,.any),(5,.any),(6,.any)],[(1,.box 32 [.sl (rg.map eRg),.sl (df.map eDf),.sl (pds.map ePd),I a,I b,I c,I d',I e,I f,I g,I lim,I gap])]⟩) else some (.ret,⟨[(0,.any),(1,.any),(2,B false),(3,.any),(4,.any),(5,.any),(6,.any)],[]⟩):=by
 refine lind gr.rd _ ?_ ?_
 ·intro n i hr
  rw[L_top_small_succ,R_top_small_eq]
  exact⟨true,by simp[dn hr]⟩
 ·intro n i x r hr hi ih
  rw[L_top_small_succ,R_top_small_eq]
  obtain⟨h1,h3,hr',_⟩:=dc (enc:=eRd) hr
  have hw:=wrapN (n:=i) (by omega)
  by_cases g1:x.x< -80
  ·exact⟨false,by simp[h1,h3,g1]⟩
  by_cases g2:80<x.x
  ·exact⟨false,by simp[h1,h3,g1,g2]⟩
  by_cases g3:x.y< -80
  ·exact⟨false,by simp[h1,h3,g1,g2,g3]⟩
  by_cases g4:80<x.y
  ·exact⟨false,by simp[h1,h3,g1,g2,g3,g4]⟩
  obtain⟨o,ih'⟩:=ih
  simp at ih'
  exact⟨o,by simp[h1,h3,g1,g2,g3,g4,hw,ih']⟩
theorem s4_loop(rg:List Rg)(hrg:rg.length≤1000)(df:List Dfc)(pds:List Pd)(a b c d' e f g lim gap:Int):∀(n i:Nat) (r:List Rg),rg.drop i=r→r.length<n→∃o:Bool,(o=true→∀x∈r,x.rd.length≤40)∧
  L_top_small 4 n ⟨[(0,.any),(1,.ptr 1 0),(2,.any),(3,I i),(4,.any),(5,.any),(6,.any)],[(1,.box 32 [.sl (rg.map eRg),.sl (df.map eDf),.sl (pds.map ePd),I a,I b,I c,I d',I e,I f,I g,I lim,I gap])]⟩=
   if o=true then some (.ex 0,⟨[(0,.any),(1,.any),(2,.any),(3,.any),(4,.any),(5,.any),(6,.any)],[]⟩) else some (.ret,⟨[(0,.any),(1,.any),(2,B false),(3,.any),(4,.any),(5,.any),(6,.any)],[]⟩):=by
 refine lind rg _ ?_ ?_
 ·intro n i hr
  rw[L_top_small_succ,R_top_small_eq]
  exact⟨true,by simp,by simp[dn hr]⟩
 ·intro n i x r hr hi ih
  rw[L_top_small_succ,R_top_small_eq]
  obtain⟨h1,h3,hr',_⟩:=dc (enc:=eRg) hr
  have hw:=wrapN (n:=i) (by omega)
  by_cases g1:40<(x.rd.length:Int)
  ·exact⟨false,by simp,by simp[h1,h3,g1]⟩
  by_cases g2:3000<x.z
  ·exact⟨false,by simp,by simp[h1,h3,g1,g2]⟩
  obtain⟨o1,l1⟩:=s10_loop rg df pds a b c d' e f g lim gap i x (by omega) bigL 0 x.rd rfl (by have:=bigL_ge;omega)
  simp at l1
  cases o1
  ·exact⟨false,by simp,by simp at l1;simp[h1,h3,g1,g2,l1]⟩
  obtain⟨o,io,ih'⟩:=ih
  simp at ih' l1
  exact⟨o,fun ho=>by simp only[List.mem_cons,forall_eq_or_imp];exact⟨by omega,io ho⟩,by simp[h1,h3,g1,g2,l1,hw,ih']⟩
theorem smallT_run(rg:List Rg)(df:List Dfc)(pds:List Pd)(a b c d' e f g lim gap:Int):∃o:Bool,F_top_small [.agg [.sl (rg.map eRg),.sl (df.map eDf),.sl (pds.map ePd),I a,I b,I c,I d',I e,I f,I g,I lim,I gap]]=some (B o)∧(o=true→rg.length≤6∧df.length≤70∧∀x∈rg,x.rd.length≤40):=by
 rw[F_top_small_eq]
 by_cases h1:6<(rg.length:Int)
 ·exact⟨false,by simp[h1],by simp⟩
 by_cases h2:70<(df.length:Int)
 ·exact⟨false,by simp[h1,h2],by simp⟩
 obtain⟨o4,h4⟩:=light_run pds a b c d' e f g
 cases o4
 ·exact⟨false,by simp[h1,h2,h4],by simp⟩
 obtain⟨o,io,ho⟩:=s4_loop rg (by omega) df pds a b c d' e f g lim gap bigL 0 rg rfl (by have:=bigL_ge;omega)
 simp at ho
 refine⟨o, ?_,fun k=>⟨by omega,by omega,io k⟩⟩
 cases o<;>simp at ho<;>simp[h1,h2,h4,ho]
end Go.Proofs.YtbdgblipbpadeaaGreatDoor
