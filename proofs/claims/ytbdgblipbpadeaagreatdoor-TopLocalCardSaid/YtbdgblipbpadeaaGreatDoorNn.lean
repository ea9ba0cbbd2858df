/-
  Saws, rates and prices, run abstractly.
-/
import Derived.Test.YtbdgblipbpadeaaGreatDoorNh
import Derived.Test.YtbdgblipbpadeaaGreatDoorNg
set_option linter.unusedSimpArgs false
set_option linter.unusedVariables false
set_option linter.defProp false
namespace Go.Proofs.YtbdgblipbpadeaaGreatDoor
open Go Go.Abs
set_option maxHeartbeats 4000000
set_option maxRecDepth 100000
theorem isStep_run(n:Int):F_worth_isStep [I n]=some (B (decide (1≤n)&&decide (n≤20000))):=by
 rw[F_worth_isStep_eq]
 simp
theorem isFine_run(n:Int):F_worth_isFine [I n]=some (B (decide (0≤n)&&decide (n≤1000000))):=by
 rw[F_worth_isFine_eq]
 simp
theorem wcheck_run(a b c d e f g:Int):∃x:Int,F_worth_Check [.agg [I a,I b,I c,I d],.agg [I e,I f,I g]]=some (I x)∧(x=0→(1≤c∧c≤2000)∧(1≤d∧d≤20000)):=by
 have h1:=isStep_run d
 have h2:=isFine_run g
 rw[F_worth_Check_eq]
 by_cases c0:a<0
 ·exact⟨9,by simp[c0,h1,h2],by simp⟩
 have p0:0≤a:=by omega
 by_cases c1:20<a
 ·exact⟨9,by simp[c0,c1,p0,h1,h2],by simp⟩
 have p1:a≤20:=by omega
 by_cases c2:b<0
 ·exact⟨9,by simp[c0,c1,c2,p0,p1,h1,h2],by simp⟩
 have p2:0≤b:=by omega
 by_cases c3:20<b
 ·exact⟨9,by simp[c0,c1,c2,c3,p0,p1,p2,h1,h2],by simp⟩
 have p3:b≤20:=by omega
 by_cases c4:c<1
 ·exact⟨9,by simp[c0,c1,c2,c3,c4,p0,p1,p2,p3,h1,h2],by simp⟩
 have p4:1≤c:=by omega
 by_cases c5:2000<c
 ·exact⟨9,by simp[c0,c1,c2,c3,c4,c5,p0,p1,p2,p3,p4,h1,h2],by simp⟩
 have p5:c≤2000:=by omega
 by_cases c6:d<1
 ·exact⟨9,by simp[c0,c1,c2,c3,c4,c5,c6,p0,p1,p2,p3,p4,p5,h1,h2],by simp⟩
 have p6:1≤d:=by omega
 by_cases c7:20000<d
 ·exact⟨9,by simp[c0,c1,c2,c3,c4,c5,c6,c7,p0,p1,p2,p3,p4,p5,p6,h1,h2],by simp⟩
 have p7:d≤20000:=by omega
 by_cases c8:e<0
 ·exact⟨9,by simp[c0,c1,c2,c3,c4,c5,c6,c7,c8,p0,p1,p2,p3,p4,p5,p6,p7,h1,h2],by simp⟩
 have p8:0≤e:=by omega
 by_cases c9:1000<e
 ·exact⟨9,by simp[c0,c1,c2,c3,c4,c5,c6,c7,c8,c9,p0,p1,p2,p3,p4,p5,p6,p7,p8,h1,h2],by simp⟩
 have p9:e≤1000:=by omega
 by_cases c10:f<0
 ·exact⟨9,by simp[c0,c1,c2,c3,c4,c5,c6,c7,c8,c9,c10,p0,p1,p2,p3,p4,p5,p6,p7,p8,p9,h1,h2],by simp⟩
 have p10:0≤f:=by omega
 by_cases c11:1000<f
 ·exact⟨9,by simp[c0,c1,c2,c3,c4,c5,c6,c7,c8,c9,c10,c11,p0,p1,p2,p3,p4,p5,p6,p7,p8,p9,p10,h1,h2],by simp⟩
 have p11:f≤1000:=by omega
 by_cases c12:g<0
 ·exact⟨9,by simp[c0,c1,c2,c3,c4,c5,c6,c7,c8,c9,c10,c11,c12,p0,p1,p2,p3,p4,p5,p6,p7,p8,p9,p10,p11,h1,h2],by simp⟩
 have p12:0≤g:=by omega
 by_cases c13:1000000<g
 ·exact⟨9,by simp[c0,c1,c2,c3,c4,c5,c6,c7,c8,c9,c10,c11,c12,c13,p0,p1,p2,p3,p4,p5,p6,p7,p8,p9,p10,p11,p12,h1,h2],by simp⟩
 have p13:g≤1000000:=by omega
 exact⟨0,by simp[c0,p0,c1,p1,c2,p2,c3,p3,c4,p4,c5,p5,c6,p6,c7,p7,c8,p8,c9,p9,c10,p10,c11,p11,c12,p12,c13,p13,h1,h2],fun _=>⟨⟨p4,p5⟩,p6,p7⟩⟩
theorem price_loop(p:Pd)(m:Int)(hl:p.lens.length≤1000000):∀(n i:Nat) (r:List Int),p.lens.drop i=r→r.length<n→∃(o:Option (Int×Bool)),
  L_product_Price 2 n ⟨[(0,.any),(1,I m),(2,.ptr 2 0),(4,.any),(5,.any),(6,.any),(7,.any),(9,.sl (p.lens.map eI)),(10,I p.lens.length),(11,I i)],[(2,.box 125 (ePd p))]⟩=
   match o with
   |none=>some (.ex 0,⟨[(0,.any),(1,.any),(2,.any),(4,.any),(5,.any),(6,.any),(7,.any),(9,.any),(10,.any),(11,.any)],[]⟩)
   |some (v,b)=>some (.ret,⟨[(0,.any),(1,.any),(2,.any),(4,I v),(5,B b),(6,.any),(7,.any),(9,.any),(10,.any),(11,.any)],[]⟩):=by
 refine lnd eI p.lens (by omega) _ ?_ ?_
 ·intro n i h
  refine⟨none, ?_⟩
  rw[L_product_Price_succ,R_product_Price_eq]
  simp[h]
 ·intro n i x r h1 h3 hw _ ih
  obtain⟨o,ih⟩:=ih
  by_cases h:x=m
  ·by_cases q:(p.prs.length:Int)≤i
   ·refine⟨some (0,false), ?_⟩
    rw[L_product_Price_succ,R_product_Price_eq]
    simp[h1,h3,hw,h,q]
   ·have q':i<p.prs.length:=by omega
    have hp:(p.prs.map eI)[i]? =some [I p.prs[i]]:=by simp[q']
    refine⟨some (p.prs[i],true), ?_⟩
    generalize p.prs[i]=y at*
    rw[L_product_Price_succ,R_product_Price_eq]
    simp[h1,h3,hw,h,q,hp]
  ·refine⟨o, ?_⟩
   rw[L_product_Price_succ,R_product_Price_eq]
   simp at ih
   simp[h1,h3,hw,h,ih]
theorem price_run(p:Pd)(m:Int)(hl:p.lens.length≤1000000):∃(v:Int) (b:Bool),F_product_Price [.agg (ePd p),I m]=some (.tup [I v,B b]):=by
 obtain⟨o,l1⟩:=price_loop p m hl bigL 0 p.lens rfl (by have:=bigL_ge;omega)
 simp at l1
 cases o with
 |none=>
  refine⟨0,false, ?_⟩
  rw[F_product_Price_eq]
  simp[l1]
 |some q=>
  refine⟨q.1,q.2, ?_⟩
  rw[F_product_Price_eq]
  simp[l1]
end Go.Proofs.YtbdgblipbpadeaaGreatDoor
namespace Go.Proofs.YtbdgblipbpadeaaGreatDoor
open Go Go.Abs
set_option maxHeartbeats 4000000
set_option maxRecDepth 100000
structure Vw where
 p:Pd
 xa:Int
 xb:Int
 ya:Int
 yb:Int
 len:Int
 zs:List Zn
 ds:List Dfc
def eVw(v:Vw):List D:=[S v.p.name,I v.p.thick,I v.p.width,I v.p.allow,I v.p.wane,.sl (v.p.lens.map eI),.sl (v.p.prs.map eI),I v.xa,I v.xb,I v.ya,I v.yb,I v.len,.sl (v.zs.map eZ),.sl (v.ds.map eDf)]
@[simp] theorem eVw_eq(v:Vw):eVw v=[S v.p.name,I v.p.thick,I v.p.width,I v.p.allow,I v.p.wane,.sl (v.p.lens.map eI),.sl (v.p.prs.map eI),I v.xa,I v.xb,I v.ya,I v.yb,I v.len,.sl (v.zs.map eZ),.sl (v.ds.map eDf)]:=rfl
theorem vbox_run(v:Vw)(a b:Int):F_worth_view_box [.agg (eVw v),.agg [I a,I b]]=some (.agg [I v.xa,I v.xb,I v.ya,I v.yb,I a,I b]):=by
 rw[F_worth_view_box_eq]
 simp
theorem vworth_loop(l:List Dfc)(fine:Int)(b:Bx)(hl:l.length≤1000000):∀(n i:Nat) (r:List Dfc),l.drop i=r→r.length<n→∀u:Int,∃o:Option Int,
  L_worth_view_worth 8 n ⟨[(0,.any),(1,.any),(2,I fine),(3,.any),(4,.any),(6,.any),(7,.any),(8,I u),(9,.any),(10,.ptr 10 0),(12,.any),(45,.sl (l.map eDf)),(46,I l.length),(47,I i)],[(10,.box 51 (eBx b))]⟩=
   match o with
   |none=>some (.ret,⟨[(0,.any),(1,.any),(2,.any),(3,.any),(4,.any),(6,I 0),(7,B false),(8,.any),(9,.any),(10,.any),(12,.any),(45,.any),(46,.any),(47,.any)],[]⟩)
   |some w=>some (.ex 0,⟨[(0,.any),(1,.any),(2,.any),(3,.any),(4,.any),(6,.any),(7,.any),(8,I w),(9,.any),(10,.any),(12,.any),(45,.any),(46,.any),(47,.any)],[]⟩):=by
 refine lnd eDf l (by omega) _ ?_ ?_
 ·intro n i h u
  refine⟨some u, ?_⟩
  rw[L_worth_view_worth_succ,R_worth_view_worth_eq]
  simp[h]
 ·intro n i x r h1 h3 hw _ ih u
  have ht:=touches_run x b
  simp at ht
  cases q:touchB (bxD x) b
  ·obtain⟨o,ih⟩:=ih u
   refine⟨o, ?_⟩
   rw[L_worth_view_worth_succ,R_worth_view_worth_eq]
   simp[q] at ht
   simp at ih
   simp[h1,h3,hw,ht,ih]
  ·simp[q] at ht
   by_cases k:x.kind=3
   ·refine⟨none, ?_⟩
    rw[L_worth_view_worth_succ,R_worth_view_worth_eq]
    simp[k] at ht
    simp[h1,h3,ht,k]
   ·obtain⟨o,ih⟩:=ih (IntKind.i64.wrap (u-fine))
    refine⟨o, ?_⟩
    rw[L_worth_view_worth_succ,R_worth_view_worth_eq]
    simp at ih
    simp[h1,h3,hw,ht,k,ih]
theorem vworth_run(v:Vw)(a b fine:Int)(hl:v.p.lens.length≤1000000)(hz:v.zs.length≤1000000)(hd:v.ds.length≤1000000):∃(w:Int) (o:Bool),F_worth_view_worth [.agg (eVw v),.agg [I a,I b],I fine]=some (.tup [I w,B o]):=by
 have h1:=isWithin_run a b v.len
 cases hw:wthn a b v.len
 ·refine⟨0,false, ?_⟩
  simp[hw] at h1
  rw[F_worth_view_worth_eq]
  simp[h1]
 simp[hw] at h1
 obtain⟨u,o,hp⟩:=price_run v.p (IntKind.i64.wrap (b-a)) hl
 have hz:=worst1_run v.zs a b hz
 have h2:=vbox_run v a b
 simp at hp h2
 cases o
 ·refine⟨0,false, ?_⟩
  rw[F_worth_view_worth_eq]
  simp[h1,hp]
 generalize worstM a b 0 v.zs=m at*
 by_cases hm:v.p.wane<m
 ·refine⟨0,false, ?_⟩
  rw[F_worth_view_worth_eq]
  simp[h1,hp,hz,hm]
 obtain⟨o,l1⟩:=vworth_loop v.ds fine ⟨v.xa,v.xb,v.ya,v.yb,a,b⟩ hd bigL 0 v.ds rfl (by have:=bigL_ge;omega) u
 simp at l1
 cases o with
 |none=>
  refine⟨0,false, ?_⟩
  rw[F_worth_view_worth_eq]
  simp[h1,hp,hz,hm,h2,l1]
 |some w=>
  by_cases hw:w<0
  ·refine⟨0,true, ?_⟩
   rw[F_worth_view_worth_eq]
   simp[h1,hp,hz,hm,h2,l1,hw]
  ·refine⟨w,true, ?_⟩
   rw[F_worth_view_worth_eq]
   simp[h1,hp,hz,hm,h2,l1,hw]
end Go.Proofs.YtbdgblipbpadeaaGreatDoor
namespace Go.Proofs.YtbdgblipbpadeaaGreatDoor
open Go Go.Abs
set_option maxHeartbeats 4000000
set_option maxRecDepth 100000
theorem look_loop(l:List Dfc)(v:Vw)(b:Bx)(hl:l.length≤64):∀(n i:Nat) (r:List Dfc),l.drop i=r→r.length<n→∀(c:List Dfc) (o:Bool),c.length+r.length≤l.length→∃c':List Dfc,c'.length≤l.length∧
  L_worth_look 10 n ⟨[(0,.any),(1,.any),(2,.any),(3,.any),(6,.any),(7,.any),(8,.ptr 8 0),(9,.any),(10,.any),(11,.any),(12,.any),(13,.ptr 13 0),(14,.ptr 14 0),(16,.any),(83,.sl (l.map eDf)),(84,I l.length),(85,I i)],if o=true then[(8,.box 311 [S ByteArray.empty,I 0,I 0,I 0,I 0,.emp,.emp,I 0,I 0,I 0,I 0,I 0,.emp,.row 10813]),(10813,.row 53 7 true []),(13,.box 311 [S v.p.name,I v.p.thick,I v.p.width,I v.p.allow,I v.p.wane,.sl (v.p.lens.map eI),.sl (v.p.prs.map eI),I v.xa,I v.xb,I v.ya,I v.yb,I v.len,.own true (v.zs.map eZ),.row 11313]),(11313,.row 53 7 true (c.map eDf)),(14,.box 51 (eBx b))] else[(8,.box 311 [S ByteArray.empty,I 0,I 0,I 0,I 0,.emp,.emp,I 0,I 0,I 0,I 0,I 0,.emp,.row 10813]),(10813,.row 53 7 true []),(13,.box 311 [S v.p.name,I v.p.thick,I v.p.width,I v.p.allow,I v.p.wane,.sl (v.p.lens.map eI),.sl (v.p.prs.map eI),I v.xa,I v.xb,I v.ya,I v.yb,I v.len,.own true (v.zs.map eZ),.row 11313]),(14,.box 51 (eBx b)),(11313,.row 53 7 true (c.map eDf))]⟩=
   some (.ex 0,⟨[(0,.any),(1,.any),(2,.any),(3,.any),(6,.any),(7,.any),(8,.ptr 8 0),(9,.any),(10,.any),(11,.any),(12,.any),(13,.ptr 13 0),(14,.any),(16,.any),(83,.any),(84,.any),(85,.any)],[(8,.box 311 [S ByteArray.empty,I 0,I 0,I 0,I 0,.emp,.emp,I 0,I 0,I 0,I 0,I 0,.emp,.row 10813]),(10813,.row 53 7 true []),(13,.box 311 [S v.p.name,I v.p.thick,I v.p.width,I v.p.allow,I v.p.wane,.sl (v.p.lens.map eI),.sl (v.p.prs.map eI),I v.xa,I v.xb,I v.ya,I v.yb,I v.len,.own true (v.zs.map eZ),.row 11313]),(11313,.row 53 7 true (c'.map eDf))]⟩):=by
 refine lnd eDf l (by omega) _ ?_ ?_
 ·intro n i h c o hc
  refine⟨c,by simpa using hc, ?_⟩
  rw[L_worth_look_succ,R_worth_look_eq]
  cases o<;>simp[h]
 ·intro n i x r h1 h3 hw _ ih c o hc
  have ht:=touches_run x b
  simp at ht hc
  cases q:touchB (bxD x) b
  ·obtain⟨c',hc',ih⟩:=ih c o (by omega)
   refine⟨c',hc', ?_⟩
   rw[L_worth_look_succ,R_worth_look_eq]
   simp[q] at ht
   cases o
   ·simp at ih
    simp[h1,h3,hw,ht,ih]
   ·simp at ih
    simp[h1,h3,hw,ht,ih]
  ·obtain⟨c',hc',ih⟩:=ih (c++[x]) false (by simp;omega)
   refine⟨c',hc', ?_⟩
   have b4:(c.length+1)*57≤140737488355328:=by omega
   rw[L_worth_look_succ,R_worth_look_eq]
   simp[q] at ht
   simp at ih
   cases o
   ·simp[h1,h3,hw,ht,ih,b4]
   ·simp[h1,h3,hw,ht,ih,b4]
def eVo(v:Vw):List D:=[S v.p.name,I v.p.thick,I v.p.width,I v.p.allow,I v.p.wane,.sl (v.p.lens.map eI),.sl (v.p.prs.map eI),I v.xa,I v.xb,I v.ya,I v.yb,I v.len,.own true (v.zs.map eZ),.own true (v.ds.map eDf)]
@[simp] theorem eVo_eq(v:Vw):eVo v=[S v.p.name,I v.p.thick,I v.p.width,I v.p.allow,I v.p.wane,.sl (v.p.lens.map eI),.sl (v.p.prs.map eI),I v.xa,I v.xb,I v.ya,I v.yb,I v.len,.own true (v.zs.map eZ),.own true (v.ds.map eDf)]:=rfl
def zVo:List D:=[S ByteArray.empty,I 0,I 0,I 0,I 0,.own true [],.own true [],I 0,I 0,I 0,I 0,I 0,.own true [],.own true []]
@[simp] theorem zVo_eq:zVo=[S ByteArray.empty,I 0,I 0,I 0,I 0,.own true [],.own true [],I 0,I 0,I 0,I 0,I 0,.own true [],.own true []]:=rfl
theorem look_run(l:List Slc)(d:List Dfc)(p:Pd)(xa xb ya yb:Int):∃(v:Vw) (ok:Bool),(ok=true→v.p=p∧v.zs.length≤24∧v.ds.length≤64∧v.len=lengthM l∧solE l=0)∧
  F_worth_look [.sl (l.map eSl),.sl (d.map eDf),.agg (ePd p),.agg [I xa,I xb,I ya,I yb]]=some (if ok=true then .tup [.agg (eVo v),B true] else .tup [.agg zVo,B false]):=by
 have h1:=solCheck_run l
 have h2:=checkDf_run d
 have h3:=checkPd_run [p]
 have h4:=isRect_run xa xb ya yb
 have h5:=green_run p
 have h6:=length_run l
 simp at h3 h5
 by_cases a1:¬solE l=0
 ·refine⟨⟨p,0,0,0,0,0,[],[]⟩,false,by simp, ?_⟩
  rw[F_worth_look_eq]
  simp[h1,a1]
 have a1:solE l=0:=by omega
 by_cases a2:¬checkDf d=0
 ·refine⟨⟨p,0,0,0,0,0,[],[]⟩,false,by simp, ?_⟩
  rw[F_worth_look_eq]
  simp[h1,a1,h2,a2]
 have a2:checkDf d=0:=by omega
 by_cases a3:¬checkPd [p]=0
 ·refine⟨⟨p,0,0,0,0,0,[],[]⟩,false,by simp, ?_⟩
  rw[F_worth_look_eq]
  simp[h1,a1,h2,a2,h3,a3]
 have a3:checkPd [p]=0:=by omega
 cases a4:(crossB xa xb&&crossB ya yb)
 ·refine⟨⟨p,0,0,0,0,0,[],[]⟩,false,by simp, ?_⟩
  rw[a4] at h4
  rw[F_worth_look_eq]
  simp[h1,a1,h2,a2,h3,a3,h4]
 have hl:l.length≤24:=(solE_zero a1).2.1
 have hd:d.length≤64:=by
  unfold checkDf at a2
  split at a2
  ·cases a2
  ·omega
 have h7:=lacks_run l xa xb ya yb a4 hl
 have hz:=lackL_length (areaR xa xb ya yb) xa xb ya yb l 0
 generalize lackL (areaR xa xb ya yb) xa xb ya yb 0 l=zs at*
 have h8:=vbox_run ⟨p,xa,xb,ya,yb,lengthM l,zs,[]⟩ 0 (lengthM l)
 obtain⟨c',hc',l1⟩:=look_loop d ⟨p,xa,xb,ya,yb,lengthM l,zs,[]⟩ ⟨xa,xb,ya,yb,0,lengthM l⟩ hd bigL 0 d rfl (by have:=bigL_ge;omega) [] true (by simp)
 rw[a4] at h4
 generalize lengthM l=n at*
 generalize greenT p=g1 at*
 generalize greenW p=g2 at*
 generalize hW1:IntKind.i64.wrap (xb-xa)=w1 at*
 generalize hW2:IntKind.i64.wrap (yb-ya)=w2 at*
 simp at h8 l1
 by_cases b1:w1=g1∧w2=g2
 ·refine⟨⟨p,xa,xb,ya,yb,n,zs,c'⟩,true,fun _=>⟨rfl,by show zs.length≤24;omega,by show c'.length≤64;omega,rfl,a1⟩, ?_⟩
  rw[F_worth_look_eq]
  obtain⟨b1,b2⟩:=b1
  simp[h1,a1,h2,a2,h3,a3,h4,h5,h6,h7,h8,hW1,hW2,b1,b2,l1]
 by_cases b2:w1=g2∧w2=g1
 ·refine⟨⟨p,xa,xb,ya,yb,n,zs,c'⟩,true,fun _=>⟨rfl,by show zs.length≤24;omega,by show c'.length≤64;omega,rfl,a1⟩, ?_⟩
  rw[F_worth_look_eq]
  obtain⟨b2,b3⟩:=b2
  have b4:¬g2=g1:=by omega
  have b5:¬g1=g2:=by omega
  simp[b4,b5,h1,a1,h2,a2,h3,a3,h4,h5,h6,h7,h8,hW1,hW2,b1,b2,b3,l1]
 ·refine⟨⟨p,0,0,0,0,0,[],[]⟩,false,by simp, ?_⟩
  rw[F_worth_look_eq]
  have b3:¬w1=g1∨¬w2=g2:=by omega
  have b4:¬w1=g2∨¬w2=g1:=by omega
  simp[h1,a1,h2,a2,h3,a3,h4,h5,h6,hW1,hW2,b3,b4]
end Go.Proofs.YtbdgblipbpadeaaGreatDoor
namespace Go.Proofs.YtbdgblipbpadeaaGreatDoor
open Go Go.Abs
set_option maxHeartbeats 4000000
set_option maxRecDepth 100000
theorem best1_loop(p:Pd)(v:Vw)(step fine z:Int)(hl:p.lens.length≤1000000)(hv:v.p.lens.length≤1000000)(hz:v.zs.length≤1000000)(hd:v.ds.length≤1000000):∀(n i:Nat) (r:List Int),p.lens.drop i=r→r.length<n→∀(m q1 q2:Int) (f:Bool),∃(m' r1 r2:Int) (f':Bool),
  L_worth_Best 12 n ⟨[(0,.any),(1,.any),(2,.any),(3,.any),(4,I step),(5,I fine),(8,.ptr 8 0),(9,.any),(12,.ptr 12 0),(13,.any),(14,.any),(15,.ptr 15 0),(16,.any),(17,.ptr 17 0),(18,I m),(19,B f),(20,I z),(22,.any),(23,.any),(24,.any),(25,.any),(54,.sl (p.lens.map eI)),(55,I p.lens.length),(56,I i)],[(8,.box 125 (ePd p)),(12,.box 34 [I 0,I 0]),(15,.box 311 [S v.p.name,I v.p.thick,I v.p.width,I v.p.allow,I v.p.wane,.sl (v.p.lens.map eI),.sl (v.p.prs.map eI),I v.xa,I v.xb,I v.ya,I v.yb,I v.len,.own true (v.zs.map eZ),.own true (v.ds.map eDf)]),(17,.box 34 [I q1,I q2])]⟩=some (.ex 2,⟨[(0,.any),(1,.any),(2,.any),(3,.any),(4,I step),(5,I fine),(8,.ptr 8 0),(9,.any),(12,.ptr 12 0),(13,.any),(14,.any),(15,.ptr 15 0),(16,.any),(17,.ptr 17 0),(18,I m'),(19,B f'),(20,I z),(22,.any),(23,.any),(24,.any),(25,.any),(54,.any),(55,.any),(56,.any)],[(8,.box 125 (ePd p)),(12,.box 34 [I 0,I 0]),(15,.box 311 [S v.p.name,I v.p.thick,I v.p.width,I v.p.allow,I v.p.wane,.sl (v.p.lens.map eI),.sl (v.p.prs.map eI),I v.xa,I v.xb,I v.ya,I v.yb,I v.len,.own true (v.zs.map eZ),.own true (v.ds.map eDf)]),(17,.box 34 [I r1,I r2])]⟩):=by
 refine lnd eI p.lens (by omega) _ ?_ ?_
 ·intro n i h m q1 q2 f
  refine⟨m,q1,q2,f, ?_⟩
  rw[L_worth_Best_succ,R_worth_Best_eq]
  simp[h]
 ·intro n i x r h1 h3 hw _ ih m q1 q2 f
  obtain⟨u,o,hv⟩:=vworth_run v z (IntKind.i64.wrap (z+x)) fine hv hz hd
  simp at hv
  generalize hW:IntKind.i64.wrap (z+x)=e at*
  cases o
  ·obtain⟨m',r1,r2,f',ih⟩:=ih m q1 q2 f
   refine⟨m',r1,r2,f', ?_⟩
   rw[L_worth_Best_succ,R_worth_Best_eq]
   simp at ih
   simp[h1,h3,hw,hW,hv,ih]
  ·cases f
   ·obtain⟨m',r1,r2,f',ih⟩:=ih u z e true
    refine⟨m',r1,r2,f', ?_⟩
    rw[L_worth_Best_succ,R_worth_Best_eq]
    simp at ih
    simp[h1,h3,hw,hW,hv,ih]
   ·by_cases g:m<u
    ·obtain⟨m',r1,r2,f',ih⟩:=ih u z e true
     refine⟨m',r1,r2,f', ?_⟩
     rw[L_worth_Best_succ,R_worth_Best_eq]
     simp at ih
     simp[h1,h3,hw,hW,hv,g,ih]
    ·obtain⟨m',r1,r2,f',ih⟩:=ih m q1 q2 true
     refine⟨m',r1,r2,f', ?_⟩
     rw[L_worth_Best_succ,R_worth_Best_eq]
     simp at ih
     simp[h1,h3,hw,hW,hv,g,ih]
theorem best2_loop(p:Pd)(v:Vw)(step fine:Int)(hs:1≤step∧step≤20000)(hn:v.len≤20000)(hl:p.lens.length≤1000000)(hv:v.p.lens.length≤1000000)(hz:v.zs.length≤1000000)(hd:v.ds.length≤1000000):∀(n:Nat) (z:Int),0≤z→z≤40000→v.len-z<n→0<n→∀(m q1 q2:Int) (f:Bool),∃(m' r1 r2:Int) (f':Bool),
  L_worth_Best 9 n ⟨[(0,.any),(1,.any),(2,.any),(3,.any),(4,I step),(5,I fine),(8,.ptr 8 0),(9,.any),(12,.ptr 12 0),(13,.any),(14,.any),(15,.ptr 15 0),(16,.any),(17,.ptr 17 0),(18,I m),(19,B f),(20,I z),(22,.any),(23,.any),(24,.any),(25,.any),(54,.any),(55,.any),(56,.any)],[(8,.box 125 (ePd p)),(12,.box 34 [I 0,I 0]),(15,.box 311 [S v.p.name,I v.p.thick,I v.p.width,I v.p.allow,I v.p.wane,.sl (v.p.lens.map eI),.sl (v.p.prs.map eI),I v.xa,I v.xb,I v.ya,I v.yb,I v.len,.own true (v.zs.map eZ),.own true (v.ds.map eDf)]),(17,.box 34 [I q1,I q2])]⟩=some (.ex 0,⟨[(0,.any),(1,.any),(2,.any),(3,.any),(4,.any),(5,.any),(8,.any),(9,.any),(12,.ptr 12 0),(13,.any),(14,.any),(15,.any),(16,.any),(17,.ptr 17 0),(18,I m'),(19,B f'),(20,.any),(22,.any),(23,.any),(24,.any),(25,.any),(54,.any),(55,.any),(56,.any)],[(12,.box 34 [I 0,I 0]),(17,.box 34 [I r1,I r2])]⟩):=by
 intro n
 induction n with
 |zero=>intro z _ _ _ h;omega
 |succ n ih=>
  intro z h0 h1 h2 _ m q1 q2 f
  rw[L_worth_Best_succ,R_worth_Best_eq]
  by_cases h:z<v.len
  ·obtain⟨m1,s1,s2,f1,l1⟩:=best1_loop p v step fine z hl hv hz hd bigL 0 p.lens rfl (by have:=bigL_ge;omega) m q1 q2 f
   have w:IntKind.i64.wrap (z+step)=z+step:=wrap64 (by omega) (by omega)
   obtain⟨m',r1,r2,f',ih⟩:=ih (z+step) (by omega) (by omega) (by omega) (by omega) m1 s1 s2 f1
   refine⟨m',r1,r2,f', ?_⟩
   simp at l1 ih
   simp[h,l1,w,ih]
  ·refine⟨m,q1,q2,f, ?_⟩
   simp[h]
theorem best_run(l:List Slc)(d:List Dfc)(p:Pd)(xa xb ya yb step fine:Int)(hl:p.lens.length≤1000000):∃(a b w:Int) (ok:Bool),F_worth_Best [.sl (l.map eSl),.sl (d.map eDf),.agg (ePd p),.agg [I xa,I xb,I ya,I yb],I step,I fine]=some (.tup [.agg [I a,I b],I w,B ok]):=by
 have hs:=isStep_run step
 have hf:=isFine_run fine
 cases a1:(decide (1≤step)&&decide (step≤20000))
 ·refine⟨0,0,0,false, ?_⟩
  rw[a1] at hs
  rw[F_worth_Best_eq]
  simp[hs]
 rw[a1] at hs
 cases a2:(decide (0≤fine)&&decide (fine≤1000000))
 ·refine⟨0,0,0,false, ?_⟩
  rw[a2] at hf
  rw[F_worth_Best_eq]
  simp[hs,hf]
 rw[a2] at hf
 obtain⟨v,ok,hv,hk⟩:=look_run l d p xa xb ya yb
 simp at hk a1
 cases ok
 ·refine⟨0,0,0,false, ?_⟩
  simp at hk
  rw[F_worth_Best_eq]
  simp[hs,hf,hk]
 obtain⟨v1,v2,v3,v4,v5⟩:=hv rfl
 simp at hk
 have hn:v.len≤20000:=by
  rw[v4]
  unfold lengthM
  rw[if_pos v5]
  exact(upTo_lenL l 0 (solE_upTo v5)).2
 obtain⟨m',r1,r2,f',l1⟩:=best2_loop p v step fine a1 hn hl (by rw[v1];exact hl) (by omega) (by omega) bigL 0 (by omega) (by omega) (by have:=bigL_ge;omega) (by have:=bigL_ge;omega) 0 0 0 false
 refine⟨r1,r2,m',f', ?_⟩
 rw[F_worth_Best_eq]
 simp at l1
 simp[hs,hf,hk,l1]
end Go.Proofs.YtbdgblipbpadeaaGreatDoor
