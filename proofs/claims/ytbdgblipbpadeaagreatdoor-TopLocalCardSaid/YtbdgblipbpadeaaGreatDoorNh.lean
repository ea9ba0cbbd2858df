/-
  What a solid lacks of a rectangle, and new boards, run abstractly.
-/
import Derived.Test.YtbdgblipbpadeaaGreatDoorNg
import Derived.Test.YtbdgblipbpadeaaGreatDoorMw
set_option linter.unusedSimpArgs false
set_option linter.unusedVariables false
set_option linter.defProp false
namespace Go.Proofs.YtbdgblipbpadeaaGreatDoor
open Go Go.Abs
set_option maxHeartbeats 4000000
set_option maxRecDepth 100000
theorem isRect_run(xa xb ya yb:Int):F_worth_isRect [.agg [I xa,I xb,I ya,I yb]]=some (B (crossB xa xb&&crossB ya yb)):=by
 rw[F_worth_isRect_eq]
 obtain⟨m,hm⟩:=bigL_succ 3 (by omega)
 simp only[zgp,GP,hm]
 simp
 iterate 3 (rw[L_worth_isRect_succ,R_worth_isRect_eq];simp)
 unfold crossB
 by_cases a1: -600≤xa∧xb≤600∧xa<xb
 ·have a4:¬xb≤xa:=by omega
  by_cases b1: -600≤ya∧yb≤600∧ya<yb
  ·have b4:¬yb≤ya:=by omega
   simp[a1,b1,a4,b4]
  ·simp[a1,b1]
   omega
 ·simp[a1]
  omega
def wthn(a b n:Int):Bool:=decide (0≤a)&&(decide (a<b)&&decide (b≤n))
theorem isWithin_run(a b n:Int):F_worth_isWithin [.agg [I a,I b],I n]=some (B (wthn a b n)):=by
 rw[F_worth_isWithin_eq]
 unfold wthn
 simp
structure Zn where
 a:Int
 b:Int
 k:Int
def eZ(z:Zn):List D:=[I z.a,I z.b,I z.k]
@[simp] theorem eZ_eq(z:Zn):eZ z=[I z.a,I z.b,I z.k]:=rfl
def lackL(ar xa xb ya yb:Int):Int→List Slc→List Zn
 |_,[]=>[]
 |z,x::r=>⟨z,W (z+x.len),W (Int.tdiv (W (W (W (1000*W (ar-withinS x.sec xa xb ya yb))+ar)-1)) ar)⟩::lackL ar xa xb ya yb (W (z+x.len)) r
theorem lackL_length(ar xa xb ya yb:Int):∀(l:List Slc) (z:Int),(lackL ar xa xb ya yb z l).length=l.length
 |[],_=>rfl
 |x::r,z=>by simp[lackL,lackL_length ar xa xb ya yb r]
theorem lacks_loop(l:List Slc)(ar xa xb ya yb:Int)(har:¬ar=0)(hl:l.length≤24):∀(n i:Nat) (r:List Slc),l.drop i=r→r.length<n→∀(z:Int) (a:List Zn),a.length=i→
  L_worth_lacks 5 n ⟨[(0,.any),(1,.any),(3,.ptr 3 0),(4,.any),(5,I ar),(6,.row 6),(7,I z),(9,.any),(10,.any),(11,.any),(27,.sl (l.map eSl)),(28,I l.length),(29,I i)],[(3,.box 36 [I xa,I xb,I ya,I yb]),(6,.row 269 3 true (a.map eZ))]⟩=
   some (.ex 0,⟨[(0,.any),(1,.any),(3,.any),(4,.any),(5,.any),(6,.row 6),(7,.any),(9,.any),(10,.any),(11,.any),(27,.any),(28,.any),(29,.any)],[(6,.row 269 3 true ((a++lackL ar xa xb ya yb z r).map eZ))]⟩):=by
 refine lnd eSl l (by omega) _ ?_ ?_
 ·intro n i h z a ha
  rw[L_worth_lacks_succ,R_worth_lacks_eq]
  simp[h,lackL]
 ·intro n i x r h1 h3 hw _ ih z a ha
  rw[L_worth_lacks_succ,R_worth_lacks_eq]
  obtain⟨xl,sc⟩:=x
  have sw:=secWithin_run sc xa xb ya yb
  have ih:=ih (W (z+xl)) (a++[⟨z,W (z+xl),W (Int.tdiv (W (W (W (1000*W (ar-withinS sc xa xb ya yb))+ar)-1)) ar)⟩]) (by simp[ha])
  have b4:(a.length+1)*25≤140737488355328:=by omega
  simp at sw ih
  simp[h1,h3,hw,sw,har,b4,lackL,ih]
def areaR(xa xb ya yb:Int):Int:=W (W (xb-xa)*W (yb-ya))
theorem areaR_ne{xa xb ya yb:Int}(h:(crossB xa xb&&crossB ya yb)=true):¬areaR xa xb ya yb=0:=by
 unfold crossB at h
 simp only[Bool.and_eq_true,decide_eq_true_eq] at h
 obtain⟨⟨h1,h2,h3⟩,h4,h5,h6⟩:=h
 unfold areaR
 have e1:W (xb-xa)=xb-xa:=wrap64 (by omega) (by omega)
 have e2:W (yb-ya)=yb-ya:=wrap64 (by omega) (by omega)
 rw[e1,e2]
 have p1:0<(xb-xa)*(yb-ya):=Int.mul_pos (by omega) (by omega)
 have p2:(xb-xa)*(yb-ya)≤1200*1200:=Int.mul_le_mul (by omega) (by omega) (by omega) (by omega)
 rw[show W ((xb-xa)*(yb-ya))=(xb-xa)*(yb-ya) from wrap64 (by omega) (by omega)]
 omega
theorem lacks_run(l:List Slc)(xa xb ya yb:Int)(h:(crossB xa xb&&crossB ya yb)=true)(hl:l.length≤24):F_worth_lacks [.sl (l.map eSl),.agg [I xa,I xb,I ya,I yb]]=some (.own true ((lackL (areaR xa xb ya yb) xa xb ya yb 0 l).map eZ)):=by
 rw[F_worth_lacks_eq]
 have l1:=lacks_loop l (areaR xa xb ya yb) xa xb ya yb (areaR_ne h) hl bigL 0 l rfl (by have:=bigL_ge;omega) 0 [] rfl
 unfold areaR at*
 simp at l1
 simp[l1]
def worstM(za zb:Int):Int→List Zn→Int
 |m,[]=>m
 |m,z::r=>worstM za zb (if z.a<zb∧za<z.b then mx2 m z.k else m) r
theorem worst1_loop(l:List Zn)(za zb:Int)(hl:l.length≤1000000):∀(n i:Nat) (r:List Zn),l.drop i=r→r.length<n→∀(m:Int),
  L_worth_worst 3 n ⟨[(0,.any),(1,.any),(3,.ptr 3 0),(4,.any),(5,I m),(7,.any),(8,.sl (l.map eZ)),(9,I l.length),(10,I i)],[(3,.box 34 [I za,I zb])]⟩=
   some (.ex 0,⟨[(0,.any),(1,.any),(3,.any),(4,.any),(5,I (worstM za zb m r)),(7,.any),(8,.any),(9,.any),(10,.any)],[]⟩):=by
 refine lnd eZ l (by omega) _ ?_ ?_
 ·intro n i h m
  rw[L_worth_worst_succ,R_worth_worst_eq]
  simp[h,worstM]
 ·intro n i x r h1 h3 hw _ ih m
  rw[L_worth_worst_succ,R_worth_worst_eq]
  unfold worstM
  by_cases a1:x.a<zb
  ·by_cases a2:za<x.b
   ·have ih:=ih (mx2 m x.k)
    unfold mx2 at*
    simp at ih
    simp[h1,h3,hw,a1,a2,ih]
   ·have ih:=ih m
    simp at ih
    simp[h1,h3,hw,a1,a2,ih]
  ·have ih:=ih m
   simp at ih
   simp[h1,h3,hw,a1,ih]
theorem worst1_run(l:List Zn)(za zb:Int)(hl:l.length≤1000000):F_worth_worst [.sl (l.map eZ),.agg [I za,I zb]]=some (I (worstM za zb 0 l)):=by
 rw[F_worth_worst_eq]
 have l1:=worst1_loop l za zb hl bigL 0 l rfl (by have:=bigL_ge;omega) 0
 simp at l1
 simp[l1]
def waneM(l:List Slc)(b:Bx):Int:=if solE l=0 then if(crossB b.xa b.xb&&crossB b.ya b.yb)=true then if wthn b.za b.zb (lengthM l)=true then worstM b.za b.zb 0 (lackL (areaR b.xa b.xb b.ya b.yb) b.xa b.xb b.ya b.yb 0 l) else 1000 else 1000 else 1000
theorem wane_run(l:List Slc)(b:Bx):F_worth_Wane [.sl (l.map eSl),.agg (eBx b)]=some (I (waneM l b)):=by
 rw[F_worth_Wane_eq]
 unfold waneM
 have h1:=solCheck_run l
 by_cases a1:¬solE l=0
 ·simp[h1,a1]
 have a1:solE l=0:=by omega
 have h2:=isRect_run b.xa b.xb b.ya b.yb
 by_cases a2:¬(crossB b.xa b.xb&&crossB b.ya b.yb)=true
 ·rw[Bool.not_eq_true] at a2
  rw[a2] at h2⊢
  simp[h1,a1,h2]
 have a2:(crossB b.xa b.xb&&crossB b.ya b.yb)=true:=by simpa using a2
 rw[a2] at h2⊢
 have h3:=length_run l
 have h4:=isWithin_run b.za b.zb (lengthM l)
 cases a3:wthn b.za b.zb (lengthM l)
 ·simp[a3] at h4
  simp[h1,a1,h2,h3,h4]
 have hl:=(solE_zero a1).2.1
 have h5:=lacks_run l b.xa b.xb b.ya b.yb a2 hl
 have h6:=worst1_run (lackL (areaR b.xa b.xb b.ya b.yb) b.xa b.xb b.ya b.yb 0 l) b.za b.zb (by rw[lackL_length];omega)
 simp[a3] at h4
 generalize lackL (areaR b.xa b.xb b.ya b.yb) b.xa b.xb b.ya b.yb 0 l=zs at*
 simp[h1,a1,h2,h3,h4,h5,h6]
def eBo(b:Bd):List D:=[S b.id,S b.log,S b.sp,I b.prod,I b.xa,I b.xb,I b.ya,I b.yb,I b.za,I b.zb,I b.vol,.own true (b.dfs.map eDf),I b.wane,I b.cel.s,I b.cel.c,I b.cel.st,B b.dried,I b.grade]
def newB(id lg:ByteArray)(w:Spc)(l:List Slc)(d:List Dfc)(prod:Int)(b:Bx):Bd:=⟨id,lg,w.name,prod,b.xa,b.xb,b.ya,b.yb,b.za,b.zb,withinL l b,clipM d b,waneM l b,⟨w.green,w.green,0⟩,false,0⟩
theorem bnew_run(id lg:ByteArray)(w:Spc)(l:List Slc)(d:List Dfc)(prod:Int)(b:Bx):
  F_board_New [S id,S lg,.agg (eS w),.sl (l.map eSl),.sl (d.map eDf),I prod,.agg (eBx b)]=some (.agg (eBo (newB id lg w l d prod b))):=by
 rw[F_board_New_eq]
 have h1:=solWithin_run l b
 have h2:=clip_run d b
 have h3:=wane_run l b
 unfold newB eBo
 simp at h1 h2 h3
 simp[h1,h2,h3]
end Go.Proofs.YtbdgblipbpadeaaGreatDoor
namespace Go.Proofs.YtbdgblipbpadeaaGreatDoor
open Go Go.Abs
set_option maxHeartbeats 4000000
set_option maxRecDepth 100000
theorem equal_loop(l:List Dfc)(hl:l.length≤1000000):∀(n i:Nat) (r:List Dfc),l.drop i=r→r.length<n→
  L_slices_Equal_api_Defect_api_Defect 4 n ⟨[(0,.sl (l.map eDf)),(1,.sl (l.map eDf)),(4,.any),(5,.any),(12,I l.length),(13,I i)],[]⟩=
   some (.ex 0,⟨[(0,.any),(1,.any),(4,.any),(5,.any),(12,.any),(13,.any)],[]⟩):=by
 refine lnd eDf l (by omega) _ ?_ ?_
 ·intro n i h
  rw[L_slices_Equal_api_Defect_api_Defect_succ,R_slices_Equal_api_Defect_api_Defect_eq]
  simp[h]
 ·intro n i x r h1 h3 hw _ ih
  rw[L_slices_Equal_api_Defect_api_Defect_succ,R_slices_Equal_api_Defect_api_Defect_eq]
  simp at ih
  simp[h1,h3,hw,ih]
theorem equal_run(l:List Dfc)(hl:l.length≤1000000):F_slices_Equal_api_Defect_api_Defect [.sl (l.map eDf),.sl (l.map eDf)]=some (B true):=by
 rw[F_slices_Equal_api_Defect_api_Defect_eq]
 have l1:=equal_loop l hl bigL 0 l rfl (by have:=bigL_ge;omega)
 simp at l1
 simp[l1]
theorem bsame_run(b:Bd)(hl:b.dfs.length≤1000000):F_board_Same [.agg (eBd b),.agg (eBd b)]=some (B true):=by
 rw[F_board_Same_eq]
 have h:=equal_run b.dfs hl
 simp[h]
theorem rmeetT_run(a b c d:Int):F_ref03_Meet [.agg [I a,I b],.agg [I c,I d]]=some (.agg [I (if meetB a b c d=true then if a<c then c else a else 0),I (if meetB a b c d=true then if d<b then d else b else 0)]):=by
 rw[F_ref03_Meet_eq]
 unfold meetB
 by_cases a1:a<c<;>by_cases a2:d<b<;>simp[a1,a2]<;>split<;>simp_all<;>(refine⟨fun _=>?_,fun _=>?_⟩<;>omega)
theorem rmetB_run(a:Dfc)(b:Bx):F_ref13_Meet [.agg [I a.xa,I a.xb,I a.ya,I a.yb,I a.za,I a.zb],.agg (eBx b)]=some (.agg [I (if meetB a.xa a.xb b.xa b.xb=true then if a.xa<b.xa then b.xa else a.xa else 0),I (if meetB a.xa a.xb b.xa b.xb=true then if b.xb<a.xb then b.xb else a.xb else 0),
  I (if meetB a.ya a.yb b.ya b.yb=true then if a.ya<b.ya then b.ya else a.ya else 0),I (if meetB a.ya a.yb b.ya b.yb=true then if b.yb<a.yb then b.yb else a.yb else 0),
  I (if meetB a.za a.zb b.za b.zb=true then if a.za<b.za then b.za else a.za else 0),I (if meetB a.za a.zb b.za b.zb=true then if b.zb<a.zb then b.zb else a.zb else 0)]):=by
 rw[F_ref13_Meet_eq]
 have m1:=rmeetT_run a.xa a.xb b.xa b.xb
 have m2:=rmeetT_run a.ya a.yb b.ya b.yb
 have m3:=rmeetT_run a.za a.zb b.za b.zb
 generalize(if meetB a.xa a.xb b.xa b.xb=true then if a.xa<b.xa then b.xa else a.xa else 0)=p1 at*
 generalize(if meetB a.xa a.xb b.xa b.xb=true then if b.xb<a.xb then b.xb else a.xb else 0)=p2 at*
 generalize(if meetB a.ya a.yb b.ya b.yb=true then if a.ya<b.ya then b.ya else a.ya else 0)=p3 at*
 generalize(if meetB a.ya a.yb b.ya b.yb=true then if b.yb<a.yb then b.yb else a.yb else 0)=p4 at*
 generalize(if meetB a.za a.zb b.za b.zb=true then if a.za<b.za then b.za else a.za else 0)=p5 at*
 generalize(if meetB a.za a.zb b.za b.zb=true then if b.zb<a.zb then b.zb else a.zb else 0)=p6 at*
 simp[m1,m2,m3]
theorem meet_pos(a b c d:Int):(decide ((if meetB a b c d=true then if d<b then d else b else 0)≤(if meetB a b c d=true then if a<c then c else a else 0)))=!meetB a b c d:=by
 cases h:meetB a b c d
 ·simp
 ·unfold meetB at h
  simp only[decide_eq_true_eq] at h
  simp
  omega
theorem rtouch_run(d:Dfc)(b:Bx):F_ref13_Touches [.agg (eDf d),.agg (eBx b)]=some (B (touchB (bxD d) b)):=by
 rw[F_ref13_Touches_eq]
 have h1:=rmetB_run d b
 simp only[eBx_eq] at h1
 have h2:=rempty_run (if meetB d.xa d.xb b.xa b.xb=true then if d.xa<b.xa then b.xa else d.xa else 0) (if meetB d.xa d.xb b.xa b.xb=true then if b.xb<d.xb then b.xb else d.xb else 0) (if meetB d.ya d.yb b.ya b.yb=true then if d.ya<b.ya then b.ya else d.ya else 0) (if meetB d.ya d.yb b.ya b.yb=true then if b.yb<d.yb then b.yb else d.yb else 0) (if meetB d.za d.zb b.za b.zb=true then if d.za<b.za then b.za else d.za else 0) (if meetB d.za d.zb b.za b.zb=true then if b.zb<d.zb then b.zb else d.zb else 0)
 rw[meet_pos,meet_pos,meet_pos] at h2
 generalize(if meetB d.xa d.xb b.xa b.xb=true then if d.xa<b.xa then b.xa else d.xa else 0)=p1 at*
 generalize(if meetB d.xa d.xb b.xa b.xb=true then if b.xb<d.xb then b.xb else d.xb else 0)=p2 at*
 generalize(if meetB d.ya d.yb b.ya b.yb=true then if d.ya<b.ya then b.ya else d.ya else 0)=p3 at*
 generalize(if meetB d.ya d.yb b.ya b.yb=true then if b.yb<d.yb then b.yb else d.yb else 0)=p4 at*
 generalize(if meetB d.za d.zb b.za b.zb=true then if d.za<b.za then b.za else d.za else 0)=p5 at*
 generalize(if meetB d.za d.zb b.za b.zb=true then if b.zb<d.zb then b.zb else d.zb else 0)=p6 at*
 unfold touchB bxD
 simp[h1,h2]
end Go.Proofs.YtbdgblipbpadeaaGreatDoor
