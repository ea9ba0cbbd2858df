/-
  The moisture's statements, run abstractly.
-/
import Derived.Test.YtbdgblipbpadeaaGreatDoorMk
import Derived.Test.YtbdgblipbpadeaaGreatDoorMc
set_option linter.unusedSimpArgs false
set_option linter.unusedVariables false
set_option linter.defProp false
namespace Go.Proofs.YtbdgblipbpadeaaGreatDoor
open Go Go.Abs
set_option maxHeartbeats 2000000
set_option maxRecDepth 100000
structure Brd where
 cell:Cel
 w:Spc
 th:Int
 t:Int
 d:Int
 fan:Bool
end Go.Proofs.YtbdgblipbpadeaaGreatDoor
namespace Go.Proofs.YtbdgblipbpadeaaGreatDoor
open Go Go.Abs
set_option maxHeartbeats 2000000
set_option maxRecDepth 100000
def btw(n a b:Int):Bool:=(decide (a≤n)&&decide (n≤b))||(decide (b≤n)&&decide (n≤a))
theorem btw_iff{n a b:Int}:btw n a b=true↔(a≤n∧n≤b)∨(b≤n∧n≤a):=by simp[btw]
def size(n:Int):Int:=if n< -n then -n else n
theorem Comp.check{x:Cel}{w:Spc}{th t d:Int}(h:Comp x w th t d):checkM x=0:=checkM_zero.2 ⟨h.s,h.c,h.st⟩
structure Ticked(x y:Cel)(w:Spc)(t d:Int):Prop where
 s:y.s=x.s∨btw y.s x.s (emc t d)=true
 c:btw y.c x.c y.s=true
 st:x.st≤y.st
 ok:checkM y=0
 new:y.st=if 1099511627776<x.st+(if 0<y.c-y.s-w.safe then y.c-y.s-w.safe else 0) then 1099511627776 else x.st+(if 0<y.c-y.s-w.safe then y.c-y.s-w.safe else 0)
theorem ticked{x:Cel}{w:Spc}{th t d:Int}(h:Comp x w th t d)(fan:Bool):Ticked x (tick x w th t d fan) w t d:=by
 have hc:=comp_iff.2 h
 obtain⟨f1,f2,_⟩:=tick_facts h fan
 have he:=emc_range t d
 have hk1:=clampN_1 (w.fast*t/200)
 have hk2:=clampN_1 (w.slow*t*25/(200*th))
 have b1:=(tow_between h.c f1 (k:=kC w th t) (by unfold kC;omega)).2
 have hst:=h.st
 rw[tick,if_pos hc]
 refine⟨?_,btw_iff.2 (by show(_≤newC x w th t d fan∧_)∨_;unfold newC;omega), ?_,checkM_zero.2 ⟨f1,f2, ?_⟩,rfl⟩
 ·cases fan
  ·exact .inl rfl
  ·right
   have:=(tow_between h.s (b:=emc t d) (by omega) (k:=kS w t) (by unfold kS;omega)).2
   refine btw_iff.2 ?_
   show(_≤newS x w t d true∧_)∨_
   unfold newS
   simp only[if_true]
   exact this
 ·show x.st≤newSt x w th t d fan
  unfold newSt
  repeat' split
  all_goals omega
 ·show 0≤newSt x w th t d fan∧newSt x w th t d fan≤1099511627776
  unfold newSt
  repeat' split
  all_goals omega
theorem tick_not{x:Cel}{w:Spc}{th t d:Int}(h:comp x w th t d=false)(fan:Bool):tick x w th t d fan=x:=by
 rw[tick,if_neg (by simp[h])]
end Go.Proofs.YtbdgblipbpadeaaGreatDoor
namespace Go.Proofs.YtbdgblipbpadeaaGreatDoor
open Go Go.Abs
set_option maxHeartbeats 2000000
set_option maxRecDepth 100000
abbrev Y(n:Int):D:= .x (.int .u8 n)
def byt(s:ByteArray):List UInt8:=s.data.toList
theorem byt_get(s:ByteArray)(i:Nat):s[i]? =(byt s)[i]? :=by
 unfold byt
 rw[Array.getElem?_toList]
 by_cases h:i<s.size
 ·rw[getElem?_pos s i h,getElem?_pos s.data i h]
  rfl
 ·rw[getElem?_neg s i h,getElem?_neg s.data i h]
theorem byt_len(s:ByteArray):s.size=(byt s).length:=by
 unfold byt
 rw[Array.length_toList]
 rfl
def smallB(c:UInt8):Bool:=decide ((97:Int)≤c.toNat)&&decide ((c.toNat:Int)≤122)
def digitB(c:UInt8):Bool:=decide ((48:Int)≤c.toNat)&&decide ((c.toNat:Int)≤57)
def partB(c:UInt8):Bool:=smallB c||(digitB c||decide ((c.toNat:Int)=95))
def partsB:List UInt8→Bool
 |[]=>true
 |c::r=>partB c&&partsB r
def isNm(s:ByteArray):Bool:=match byt s with
 |[]=>false
 |c::r=>decide (r.length<16)&&(smallB c&&partsB r)
theorem nSmall_run(c:UInt8):F_ident_isSmall [Y c.toNat]=some (B (smallB c)):=by
 rw[F_ident_isSmall_eq]
 unfold smallB
 simp
theorem nDigit_run(c:UInt8):F_ident_isDigit [Y c.toNat]=some (B (digitB c)):=by
 rw[F_ident_isDigit_eq]
 unfold digitB
 simp
theorem bc{s:ByteArray}{i:Nat}{c:UInt8}{r:List UInt8}(h:(byt s).drop i=c::r):s[i]? =some c∧i<s.size∧(byt s).drop (i+1)=r:=by
 have hi:i<(byt s).length:=by
  cases Nat.lt_or_ge i (byt s).length with
  |inl h=>exact h
  |inr h'=>rw[List.drop_of_length_le h'] at h;cases h
 rw[List.drop_eq_getElem_cons hi] at h
 injection h with h1 h2
 refine⟨?_,by rw[byt_len];exact hi,h2⟩
 rw[byt_get,List.getElem?_eq_getElem hi,h1]
theorem bn{s:ByteArray}{i:Nat}(h:(byt s).drop i=[]):¬i<s.size:=by
 have:=List.drop_eq_nil_iff.1 h
 rw[byt_len]
 omega
theorem name_loop(s:ByteArray)(hs:s.size≤1000):∀(n i:Nat) (r:List UInt8),(byt s).drop i=r→r.length<n→
  L_ident_IsName 4 n ⟨[(0,S s),(2,.any),(3,I i),(4,.any)],[]⟩=
   if partsB r=true then some (.ex 0,⟨[(0,.any),(2,.any),(3,.any),(4,.any)],[]⟩) else some (.ret,⟨[(0,.any),(2,B false),(3,.any),(4,.any)],[]⟩)
 |0,_,_,_,hn=>by omega
 |n+1,i,[],hr,hn=>by
  rw[L_ident_IsName_succ,R_ident_IsName_eq]
  simp[bn hr,partsB]
 |n+1,i,c::r,hr,hn=>by
  rw[L_ident_IsName_succ,R_ident_IsName_eq]
  obtain⟨h1,h3,hr'⟩:=bc hr
  have hx:s[i]=c:=by rw[getElem?_pos s i h3] at h1;injection h1
  have hw:=wrapN (n:=i) (by omega)
  have ih:=name_loop s hs n (i+1) r hr' (by simp at hn;omega)
  simp at ih
  cases g1:smallB c
  ·cases g2:digitB c
   ·by_cases g3:(c.toNat:Int)=95
    ·have n1:=nSmall_run c
     have n2:=nDigit_run c
     rw[g3] at n1 n2
     simp[h1,h3,hx,hw,n1,n2,g1,g2,g3,ih,partsB,partB]
    ·simp[h1,h3,hx,hw,nSmall_run,nDigit_run,g1,g2,g3,ih,partsB,partB]
   ·simp[h1,h3,hx,hw,nSmall_run,nDigit_run,g1,g2,ih,partsB,partB]
  ·simp[h1,h3,hx,hw,nSmall_run,nDigit_run,g1,ih,partsB,partB]
theorem isName_run(s:ByteArray):F_ident_IsName [S s]=some (B (isNm s)):=by
 rw[F_ident_IsName_eq]
 unfold isNm
 have hl:=byt_len s
 cases hb:byt s with
 |nil=>
  rw[hb] at hl
  have h0:s.size=0:=by simpa using hl
  simp[h0]
 |cons c r=>
  rw[hb] at hl
  have h1:(1:Int)≤s.size:=by rw[hl];simp;omega
  have h1':¬(s.size:Int)<1:=by omega
  obtain⟨g0,g4,g1⟩:=bc (s:=s) (i:=0) (c:=c) (r:=r) (by simpa using hb)
  have hx:s[0]=c:=by rw[getElem?_pos s 0 g4] at g0;injection g0
  by_cases h2:(16:Int)<s.size
  ·have h3:¬r.length<16:=by simp at hl;omega
   simp[h1,h1',h2,h3]
  ·have h3:r.length<16:=by simp at hl;omega
   have h2':(s.size:Int)≤16:=by omega
   cases g2:smallB c
   ·simp[h1,h1',h2,h2',g0,g4,hx,nSmall_run,g2,h3]
   ·have ih:=name_loop s (by omega) bigL 1 r (by simpa using g1) (by have:=bigL_ge;omega)
    simp at ih
    simp[h1,h1',h2,h2',g0,g4,hx,nSmall_run,g2,h3,ih]
end Go.Proofs.YtbdgblipbpadeaaGreatDoor
namespace Go.Proofs.YtbdgblipbpadeaaGreatDoor
open Go Go.Abs
set_option maxHeartbeats 2000000
set_option maxRecDepth 100000
structure Dfc where
 kind:Int
 xa:Int
 xb:Int
 ya:Int
 yb:Int
 za:Int
 zb:Int
def eDf(x:Dfc):List D:=[I x.kind,I x.xa,I x.xb,I x.ya,I x.yb,I x.za,I x.zb]
@[simp] theorem eDf_eq(x:Dfc):eDf x=[I x.kind,I x.xa,I x.xb,I x.ya,I x.yb,I x.za,I x.zb]:=rfl
structure Bd where
 id:ByteArray
 log:ByteArray
 sp:ByteArray
 prod:Int
 xa:Int
 xb:Int
 ya:Int
 yb:Int
 za:Int
 zb:Int
 vol:Int
 dfs:List Dfc
 wane:Int
 cel:Cel
 dried:Bool
 grade:Int
def eBd(b:Bd):List D:=[S b.id,S b.log,S b.sp,I b.prod,I b.xa,I b.xb,I b.ya,I b.yb,I b.za,I b.zb,I b.vol,.sl (b.dfs.map eDf),I b.wane,I b.cel.s,I b.cel.c,I b.cel.st,B b.dried,I b.grade]
@[simp] theorem eBd_eq(b:Bd):eBd b=[S b.id,S b.log,S b.sp,I b.prod,I b.xa,I b.xb,I b.ya,I b.yb,I b.za,I b.zb,I b.vol,.sl (b.dfs.map eDf),I b.wane,I b.cel.s,I b.cel.c,I b.cel.st,B b.dried,I b.grade]:=rfl
structure Pd where
 name:ByteArray
 thick:Int
 width:Int
 allow:Int
 wane:Int
 lens:List Int
 prs:List Int
def ePd(p:Pd):List D:=[S p.name,I p.thick,I p.width,I p.allow,I p.wane,.sl (p.lens.map eI),.sl (p.prs.map eI)]
@[simp] theorem ePd_eq(p:Pd):ePd p=[S p.name,I p.thick,I p.width,I p.allow,I p.wane,.sl (p.lens.map eI),.sl (p.prs.map eI)]:=rfl
def i64(n:Int):Prop:= -9223372036854775808≤n∧n≤9223372036854775807
def lenS(a b:Int):Int:=if b≤a then 0 else if 9223372036854775807<b-a then 9223372036854775807 else b-a
def grow(s a:Int):Int:=(s*(1000+a)+999)/1000
def sizedP(p:Pd):Bool:=(decide (1≤p.thick)&&decide (p.thick≤600))&&((decide (1≤p.width)&&decide (p.width≤600))&&(decide (0≤p.allow)&&decide (p.allow≤200)))
def greenT(p:Pd):Int:=if sizedP p=true then grow p.thick p.allow else 0
def greenW(p:Pd):Int:=if sizedP p=true then grow p.width p.allow else 0
theorem sizedP_iff(p:Pd):sizedP p=true↔(1≤p.thick∧p.thick≤600)∧(1≤p.width∧p.width≤600)∧0≤p.allow∧p.allow≤200:=by
 unfold sizedP
 simp only[Bool.and_eq_true,decide_eq_true_eq]
def lensE(prev:Option Int):List Int→Int
 |[]=>0
 |n::r=>if n<100 then 9 else if 20000<n then 9 else if notUp prev n=true then 11 else lensE (some n) r
def prsE:List Int→Int
 |[]=>0
 |n::r=>if n<0 then 9 else if 1000000<n then 9 else prsE r
def listsE(p:Pd):Int:=if(p.lens.length:Int)=0 then 3 else if 8<(p.lens.length:Int) then 4 else if(p.prs.length:Int)=p.lens.length then if lensE none p.lens=0 then prsE p.prs else lensE none p.lens else 19
def numsE(p:Pd):Int:=if p.thick<5 then 9 else if 300<p.thick then 9 else if p.width<p.thick then 9 else if 600<p.width then 9 else if p.allow<0 then 9 else if 200<p.allow then 9 else if p.wane<0 then 9 else if 1000<p.wane then 9 else if 600<greenW p then 9 else listsE p
def hasN(n:ByteArray):List Pd→Bool
 |[]=>false
 |p::r=>if p.name=n then true else hasN n r
def catE(seen:List Pd):List Pd→Int
 |[]=>0
 |p::r=>if isNm p.name=true then if hasN p.name seen=true then 7 else if numsE p=0 then catE (seen++[p]) r else numsE p else 6
def checkPd(l:List Pd):Int:=if 16<(l.length:Int) then 4 else catE [] l
def capB(c:UInt8):Bool:=decide ((65:Int)≤c.toNat)&&decide ((c.toNat:Int)≤90)
def letS(s:Int)(i:Nat):List UInt8→Int
 |[]=>s
 |c::r=>letS ((s+(i+1)*c.toNat)% 23) (i+1) r
def dfE(d:Dfc):Int:=if d.kind<1 then 10 else if 6<d.kind then 10 else if d.xb≤d.xa then 19 else if d.yb≤d.ya then 19 else if d.zb≤d.za then 19 else
 if d.xa< -600 then 9 else if 600<d.xb then 9 else if d.ya< -600 then 9 else if 600<d.yb then 9 else if d.za<0 then 9 else if 20000<d.zb then 9 else 0
def dfsE:List Dfc→Int
 |[]=>0
 |d::r=>if dfE d=0 then dfsE r else dfE d
def checkDf(l:List Dfc):Int:=if 64<(l.length:Int) then 4 else dfsE l
def insideB(a b n:Int):Bool:=decide (0≤a)&&(decide (a≤n)&&(decide (0≤b)&&decide (b≤n)))
def insE(x y z:Int):List Dfc→Bool
 |[]=>true
 |d::r=>if insideB d.xa d.xb x=true then if insideB d.ya d.yb y=true then if insideB d.za d.zb z=true then insE x y z r else false else false else false
def boxB(b:Bd):Bool:=decide ((-600≤b.xa∧b.xb≤600∧b.xa<b.xb)∧(-600≤b.ya∧b.yb≤600∧b.ya<b.yb)∧(0≤b.za∧b.zb≤20000∧b.za<b.zb))
def inI(n:Int):List Int→Bool
 |[]=>false
 |x::r=>if x=n then true else inI n r
def volB(b:Bd):Int:=if boxB b=true then(b.xb-b.xa)*(b.yb-b.ya)*(b.zb-b.za) else 0
def fitB(b:Bd)(p:Pd):Bool:=(decide (b.xb-b.xa=greenT p)&&decide (b.yb-b.ya=greenW p))||(decide (b.xb-b.xa=greenW p)&&decide (b.yb-b.ya=greenT p))
def restE(b:Bd)(p:Pd):Int:=if boxB b=true then if fitB b p=true then if inI (b.zb-b.za) p.lens=true then
  if checkDf b.dfs=0 then if insE (b.xb-b.xa) (b.yb-b.ya) (b.zb-b.za) b.dfs=true then
   if b.vol<0 then 9 else if volB b<b.vol then 9 else if b.wane<0 then 9 else if 1000<b.wane then 9 else
   if checkM b.cel=0 then if b.grade<0 then 26 else if 9<b.grade then 26 else 0 else 25
  else 9 else checkDf b.dfs
 else 20 else 19 else 19
end Go.Proofs.YtbdgblipbpadeaaGreatDoor
