/-
  The air's functions, run abstractly.
-/
import Derived.Test.YtbdgblipbpadeaaGreatDoorMj
import Derived.Laws.BitsAllLaws
set_option linter.unusedSimpArgs false
set_option linter.unusedVariables false
set_option linter.defProp false
namespace Go.Proofs.YtbdgblipbpadeaaGreatDoor
open Go Go.Abs
set_option maxHeartbeats 2000000
set_option maxRecDepth 100000
def tab:G:=⟨[200,400,600,800,1000,1200],[0,20,50,100,200,300,400],
 [[2800,2200,1750,1250,750,480,390],[2700,2100,1650,1150,680,440,350],[2600,2000,1550,1060,610,400,310],[2500,1900,1450,980,550,360,280],[2400,1800,1360,900,500,330,250],[2300,1700,1270,830,450,300,220]]⟩
def oG(g:G):List D:=[.own true (g.xs.map eI),.own true (g.ys.map eI),.own false (g.vs.map eR)]
theorem table_run:F_air_Table []=some (.agg (oG tab)):=by
 rw[F_air_Table_eq]
 simp[oG,tab]
theorem tab_fits:tab.Fits:=⟨by simp[tab],by simp[tab],by simp[tab],by simp[tab]⟩
def emc(t d:Int):Int:=value tab t d
theorem emc_run(t d:Int):F_air_Emc [.agg [I t,I d]]=some (I (emc t d)):=by
 rw[F_air_Emc_eq]
 have h:=value_run tab t d tab_fits
 simp at h
 simp[table_run,oG,h,emc]
def checkC(t d:Int):Int:=if t<0 then 9 else if 1200<t then 9 else if d<0 then 9 else if 400<d then 9 else 0
theorem checkC_run(t d:Int):F_air_Check [.agg [I t,I d]]=some (I (checkC t d)):=by
 rw[F_air_Check_eq]
 unfold checkC
 simp
 repeat' split
 all_goals(first|rfl|omega)
def clampN(n lo hi:Int):Int:=if hi<lo then lo else if n<lo then lo else if hi<n then hi else n
theorem clamp_run(n lo hi:Int):F_units_Clamp [I n,I lo,I hi]=some (I (clampN n lo hi)):=by
 rw[F_units_Clamp_eq]
 unfold clampN
 simp
 repeat' split
 all_goals(first|rfl|omega)
theorem outside_run:F_air_Outside []=some (.agg [I 200,I 100]):=by
 rw[F_air_Outside_eq]
 simp
theorem clampC_run(t d:Int):F_air_clamp [.agg [I t,I d]]=some (.agg [I (clampN t 0 1200),I (clampN d 0 400)]):=by
 rw[F_air_clamp_eq]
 simp[clamp_run]
def inL(n:Int):List Int→Bool
 |[]=>false
 |m::r=>if n=m then true else inL n r
def idx(n:Int)(i:Nat):List Int→Int
 |[]=> -1
 |m::r=>if n=m then i else idx n (i+1) r
theorem idx_inL(n:Int):∀(l:List Int) (i:Nat),decide (0≤idx n i l)=inL n l
 |[],i=>by simp[idx,inL]
 |m::r,i=>by
  rw[idx,inL]
  split
  ·simp
  ·exact idx_inL n r (i+1)
theorem index_loop(l:List Int)(v:Int)(hb:l.length≤9223372036854775807):∀(n i:Nat),i≤l.length→l.length-i<n→
  L_slices_Index_int_int 2 n ⟨[(0,.sl (l.map eI)),(1,I v),(4,.any),(5,.any),(7,I l.length),(8,I i)],[]⟩=
   if inL v (l.drop i)=true then some (.ret,⟨[(0,.any),(1,.any),(4,I (idx v i (l.drop i))),(5,.any),(7,.any),(8,.any)],[]⟩)
   else some (.ex 0,⟨[(0,.any),(1,.any),(4,.any),(5,.any),(7,.any),(8,.any)],[]⟩)
 |0,i,_,hn=>by omega
 |n+1,i,hi,hn=>by
  rw[L_slices_Index_int_int_succ,R_slices_Index_int_int_eq]
  by_cases h:i<l.length
  ·have h1:=List.getElem?_eq_getElem h
   have h3:(i:Int)<l.length:=by omega
   have hw:=wrapN (n:=i) (by omega)
   have ih:=index_loop l v hb n (i+1) (by omega) (by omega)
   simp only[Int.natCast_add,Int.natCast_one] at ih
   rw[List.drop_eq_getElem_cons h,inL,idx]
   by_cases hq:v=l[i]
   ·simp[h1,h3,hw,←hq]
   ·simp[h1,h3,hw,hq,ih]
  ·have h3:¬(i:Int)<l.length:=by omega
   have h4:l.drop i=[]:=List.drop_of_length_le (by omega)
   simp[h3,h4,inL]
theorem index_run(l:List Int)(v:Int)(hb:l.length≤9223372036854775807):F_slices_Index_int_int [.sl (l.map eI),I v]=some (I (if inL v l=true then idx v 0 l else -1)):=by
 rw[F_slices_Index_int_int_eq]
 have ih:=index_loop l v hb bigL 0 (by omega) (by have:=bigL_ge;omega)
 simp at ih
 simp[ih]
theorem contains_run(l:List Int)(v:Int)(hb:l.length≤9223372036854775807):F_slices_Contains_int_int [.sl (l.map eI),I v]=some (B (inL v l)):=by
 rw[F_slices_Contains_int_int_eq]
 have h:=idx_inL v l 0
 simp[index_run l v hb]
 cases hi:inL v l
 ·simp
 ·simp[hi] at h
  simp[h]
def goalT(t:Int)(f:List Int):Int:=if inL 1 f=true then 200 else t
def goalD(d:Int)(f:List Int):Int:=if inL 3 f=true then 100 else d
theorem toward_run(t d:Int)(f:List Int)(hb:f.length≤9223372036854775807):F_air_toward [.agg [I t,I d],.sl (f.map eI)]=some (.agg [I (goalT t f),I (goalD d f)]):=by
 rw[F_air_toward_eq]
 unfold goalT goalD
 cases h1:inL 1 f<;>cases h3:inL 3 f<;>simp[contains_run f _ hb,outside_run,h1,h3]
theorem clampN_bnd(n hi:Int)(h:0≤hi):0≤clampN n 0 hi∧clampN n 0 hi≤hi:=by
 unfold clampN
 repeat' split
 all_goals omega
def step(a b most:Int):Int:=clampN b (a-most) (a+most)
def nextT(ct tt ramp:Int)(f:List Int):Int:=step (clampN ct 0 1200) (goalT (clampN tt 0 1200) f) (clampN ramp 0 1200)
def nextD(cd td ramp:Int)(f:List Int):Int:=step (clampN cd 0 400) (goalD (clampN td 0 400) f) (clampN ramp 0 1200)
theorem next_run(ct cd tt td ramp:Int)(f:List Int)(hb:f.length≤9223372036854775807):F_air_Next [.agg [I ct,I cd],.agg [I tt,I td],I ramp,.sl (f.map eI)]=some (.agg [I (nextT ct tt ramp f),I (nextD cd td ramp f)]):=by
 rw[F_air_Next_eq]
 have b1:=clampN_bnd ct 1200 (by omega)
 have b2:=clampN_bnd cd 400 (by omega)
 have b3:=clampN_bnd ramp 1200 (by omega)
 have w1:IntKind.i64.wrap (clampN ct 0 1200-clampN ramp 0 1200)=clampN ct 0 1200-clampN ramp 0 1200:=wrap64 (by omega) (by omega)
 have w2:IntKind.i64.wrap (clampN ct 0 1200+clampN ramp 0 1200)=clampN ct 0 1200+clampN ramp 0 1200:=wrap64 (by omega) (by omega)
 have w3:IntKind.i64.wrap (clampN cd 0 400-clampN ramp 0 1200)=clampN cd 0 400-clampN ramp 0 1200:=wrap64 (by omega) (by omega)
 have w4:IntKind.i64.wrap (clampN cd 0 400+clampN ramp 0 1200)=clampN cd 0 400+clampN ramp 0 1200:=wrap64 (by omega) (by omega)
 simp[clampC_run,clamp_run,toward_run _ _ f hb,w1,w2,w3,w4,nextT,nextD,step]
end Go.Proofs.YtbdgblipbpadeaaGreatDoor
namespace Go.Proofs.YtbdgblipbpadeaaGreatDoor
open Go Go.Abs
set_option maxHeartbeats 2000000
set_option maxRecDepth 100000
def fal(y:Int):List (Int×Int)→Bool
 |[]=>true
 |q::r=>if y<q.2 then false else fal q.2 r
def falling(l:List (Int×Int)):Bool:=match l with
 |[]=>true
 |p::r=>fal p.2 r
theorem checkC_zero{t d:Int}:checkC t d=0↔0≤t∧t≤1200∧0≤d∧d≤400:=by
 unfold checkC
 repeat' split
 all_goals simp<;>omega
theorem clampN_id{n hi:Int}(h1:0≤n)(h2:n≤hi):clampN n 0 hi=n:=by
 unfold clampN
 repeat' split
 all_goals omega
theorem tab_good:GoodG tab:=(goodG_iff tab).1 rfl
structure Falls(g:G):Prop where
 row:∀r∈g.vs,falling (g.ys.zip r)=true
 col:∀i,(hi:i+1<g.vs.length)→∀k,(hk:k<g.ys.length)→(g.vs[i+1])[k]?.getD 0≤(g.vs[i]'(by omega))[k]?.getD 0
theorem emc_range(t d:Int):220≤emc t d∧emc t d≤2800:=by
 refine value_range tab_good ?_ t d
 intro r hr n hn
 have h:∀r∈tab.vs,∀n∈r,220≤n∧n≤2800:=by decide
 exact h r hr n hn
end Go.Proofs.YtbdgblipbpadeaaGreatDoor
namespace Go.Proofs.YtbdgblipbpadeaaGreatDoor
open Go Go.Abs
set_option maxHeartbeats 2000000
set_option maxRecDepth 100000
abbrev U(n:Int):D:= .x (.int .u64 n)
abbrev S(s:ByteArray):D:= .x (.string s)
theorem wrapU{n:Int}(h1:0≤n)(h2:n≤18446744073709551615):IntKind.u64.wrap n=n:=by
 simp only[IntKind.wrap,IntKind.bits,IntKind.signed]
 simp
 omega
@[simp] theorem wrapU0:IntKind.u64.wrap 0=0:=rfl
theorem and32{x:Int}(h1:0≤x)(h2:x<4294967296):bits .and .u64 x 4294967295=x:=by
 rw[u64_and x 4294967295 h1 (by omega) (by omega) (by omega)]
 have e:(4294967295:Int).toNat=2^32-1:=rfl
 rw[e,Nat.and_two_pow_sub_one_eq_mod]
 omega
theorem shr32{x:Int}(h1:0≤x)(h2:x<4294967296):x/4294967296=0:=by omega
theorem mul64_run{x y:Int}(hx:0≤x)(hx2:x≤60000)(hy:0≤y)(hy2:y≤60000):F_math_bits_Mul64 [U x,U y]=some (.tup [U 0,U (x*y)]):=by
 rw[F_math_bits_Mul64_eq]
 have hp:0≤x*y:=Int.mul_nonneg hx hy
 have hp2:x*y≤60000*60000:=Int.mul_le_mul hx2 hy2 hy (by omega)
 have a1:=and32 hx (by omega)
 have a2:=and32 hy (by omega)
 have a3:=shr32 hx (by omega)
 have a4:=shr32 hy (by omega)
 have a5:x*y/4294967296=0:=by omega
 have w1:IntKind.u64.wrap (x*y)=x*y:=wrapU hp (by omega)
 have w0:IntKind.u64.wrap 0=0:=rfl
 have b0:bits .and .u64 0 4294967295=0:=rfl
 simp[IntKind.bits,a1,a2,a3,a4,a5,w1,w0,b0]
theorem div64_run{x:Int}(h1:0≤x)(h2:x≤18446744073709551615):F_math_bits_Div64 [U 0,U x,U 10000]=some (.tup [U (x/10000),U (x% 10000)]):=by
 rw[F_math_bits_Div64_eq]
 have d1:x.tdiv 10000=x/10000:=Int.tdiv_eq_ediv_of_nonneg h1
 have d2:x.tmod 10000=x% 10000:=Int.tmod_eq_emod_of_nonneg h1
 have w1:IntKind.u64.wrap (x/10000)=x/10000:=wrapU (by omega) (by omega)
 simp[d1,d2,w1]
def part(u k:Int):Int:=if u*k/10000<1 then 1 else u*k/10000
def tow(a b k:Int):Int:=if k=0 then a else if a=b then a else if b<a then a-part (a-b) k else a+part (b-a) k
theorem part_le{u k:Int}(hu:0<u)(hk:0≤k∧k≤10000):1≤part u k∧part u k≤u:=by
 have h1:u*k/10000≤u:=Int.ediv_le_of_le_mul (by omega) (by
  have:=mul_le_l u hk.2 (by omega)
  omega)
 unfold part
 split<;>omega
theorem toward'_run{a b k:Int}(ha:0≤a∧a≤20000)(hb:0≤b∧b≤20000)(hk:0≤k∧k≤10000):F_units_Toward [I a,I b,I k]=some (I (tow a b k)):=by
 rw[F_units_Toward_eq]
 have hc:=clampN_id hk.1 hk.2
 have wa:IntKind.u64.wrap a=a:=wrapU (by omega) (by omega)
 have wb:IntKind.u64.wrap b=b:=wrapU (by omega) (by omega)
 have wk:IntKind.u64.wrap k=k:=wrapU (by omega) (by omega)
 unfold tow
 by_cases h0:k=0
 ·have hc0:clampN 0 0 10000=0:=rfl
  simp[clamp_run,hc0,h0]
 ·by_cases h1:a=b
  ·simp[clamp_run,hc,h0,h1]
  ·by_cases h2:b<a
   ·have w1:IntKind.u64.wrap (a-b)=a-b:=wrapU (by omega) (by omega)
    have hm:=mul64_run (x:=a-b) (y:=k) (by omega) (by omega) hk.1 (by omega)
    have hp:0≤(a-b)*k:=Int.mul_nonneg (by omega) hk.1
    have hp2:(a-b)*k≤20000*10000:=Int.mul_le_mul (by omega) hk.2 hk.1 (by omega)
    have hd:=div64_run hp (by omega)
    have pl:=part_le (u:=a-b) (k:=k) (by omega) hk
    have w3:IntKind.u64.wrap (b-a)=18446744073709551616+(b-a):=by
     simp only[IntKind.wrap,IntKind.bits,IntKind.signed]
     simp
     omega
    have w2:IntKind.u64.wrap (a-part (a-b) k)=a-part (a-b) k:=wrapU (by omega) (by omega)
    have w4:IntKind.i64.wrap (a-part (a-b) k)=a-part (a-b) k:=wrap64 (by omega) (by omega)
    have e:(if(a-b)*k/10000<1 then 1 else(a-b)*k/10000)=part (a-b) k:=rfl
    simp[clamp_run,hc,h0,h1,h2,wa,wb,wk,w1,w3,hm,hd,e,w2,w4]
   ·have w1:IntKind.u64.wrap (b-a)=b-a:=wrapU (by omega) (by omega)
    have hm:=mul64_run (x:=b-a) (y:=k) (by omega) (by omega) hk.1 (by omega)
    have hp:0≤(b-a)*k:=Int.mul_nonneg (by omega) hk.1
    have hp2:(b-a)*k≤20000*10000:=Int.mul_le_mul (by omega) hk.2 hk.1 (by omega)
    have hd:=div64_run hp (by omega)
    have pl:=part_le (u:=b-a) (k:=k) (by omega) hk
    have w2:IntKind.u64.wrap (a+part (b-a) k)=a+part (b-a) k:=wrapU (by omega) (by omega)
    have w4:IntKind.i64.wrap (a+part (b-a) k)=a+part (b-a) k:=wrap64 (by omega) (by omega)
    have e:(if(b-a)*k/10000<1 then 1 else(b-a)*k/10000)=part (b-a) k:=rfl
    simp[clamp_run,hc,h0,h1,h2,wa,wb,wk,w1,hm,hd,e,w2,w4]
end Go.Proofs.YtbdgblipbpadeaaGreatDoor
namespace Go.Proofs.YtbdgblipbpadeaaGreatDoor
open Go Go.Abs
set_option maxHeartbeats 2000000
set_option maxRecDepth 100000
structure Cel where
 s:Int
 c:Int
 st:Int
def eC(x:Cel):List D:=[I x.s,I x.c,I x.st]
@[simp] theorem eC_eq(x:Cel):eC x=[I x.s,I x.c,I x.st]:=rfl
structure Spc where
 name:ByteArray
 green:Int
 fast:Int
 slow:Int
 safe:Int
 grad:Int
 crack:Int
 temp:Int
 dep:Int
 dens:Int
 stiff:Int
 loss:Int
 shrink:Int
def eS(x:Spc):List D:=[S x.name,I x.green,I x.fast,I x.slow,I x.safe,I x.grad,I x.crack,I x.temp,I x.dep,I x.dens,I x.stiff,I x.loss,I x.shrink]
@[simp] theorem eS_eq(x:Spc):eS x=[S x.name,I x.green,I x.fast,I x.slow,I x.safe,I x.grad,I x.crack,I x.temp,I x.dep,I x.dens,I x.stiff,I x.loss,I x.shrink]:=rfl
def checkM(x:Cel):Int:=if x.s<0 then 25 else if 20000<x.s then 25 else if x.c<0 then 25 else if 20000<x.c then 25 else if x.st<0 then 9 else if 1099511627776<x.st then 9 else 0
theorem checkM_zero{x:Cel}:checkM x=0↔(0≤x.s∧x.s≤20000)∧(0≤x.c∧x.c≤20000)∧(0≤x.st∧x.st≤1099511627776):=by
 unfold checkM
 repeat' split
 all_goals simp<;>omega
theorem checkM_run(x:Cel):F_moist_Check [.agg (eC x)]=some (I (checkM x)):=by
 rw[F_moist_Check_eq]
 unfold checkM
 simp
 repeat' split
 all_goals(first|rfl|omega)
def comp(x:Cel)(w:Spc)(th t d:Int):Bool:=decide (checkM x=0)&&(decide (checkC t d=0)&&(decide (1≤w.fast)&&(decide (w.fast≤10000)&&(decide (1≤w.slow)&&(decide (w.slow≤10000)&&(decide (0≤w.safe)&&(decide (w.safe≤20000)&&(decide (1≤th)&&decide (th≤600)))))))))
theorem comp_run(x:Cel)(w:Spc)(th t d:Int):F_moist_computable [.agg (eC x),.agg (eS w),I th,.agg [I t,I d]]=some (B (comp x w th t d)):=by
 rw[F_moist_computable_eq]
 have h:=checkM_run x
 simp at h
 unfold comp
 simp(config:={maxSteps:=2000000}) [h,checkC_run]
def mean(x:Cel):Int:=if checkM x=0 then(x.s+2*x.c)/3 else 0
def grad(x:Cel):Int:=if checkM x=0 then x.c-x.s else 0
def cracks(x:Cel)(w:Spc):Int:=if checkM x=0 then if w.crack<1 then 0 else x.st/w.crack else 0
theorem mean_run(x:Cel):F_moist_Mean [.agg (eC x)]=some (I (mean x)):=by
 rw[F_moist_Mean_eq]
 have h:=checkM_run x
 simp at h
 unfold mean
 by_cases hc:checkM x=0
 ·obtain⟨h1,h2,_⟩:=checkM_zero.1 hc
  have w1:IntKind.i64.wrap (2*x.c)=2*x.c:=wrap64 (by omega) (by omega)
  have w2:IntKind.i64.wrap (x.s+2*x.c)=x.s+2*x.c:=wrap64 (by omega) (by omega)
  have d1:(x.s+2*x.c).tdiv 3=(x.s+2*x.c)/3:=Int.tdiv_eq_ediv_of_nonneg (by omega)
  have w3:IntKind.i64.wrap ((x.s+2*x.c)/3)=(x.s+2*x.c)/3:=wrap64 (by omega) (by omega)
  simp[h,hc,w1,w2,d1,w3]
 ·simp[h,hc]
theorem grad_run(x:Cel):F_moist_Gradient [.agg (eC x)]=some (I (grad x)):=by
 rw[F_moist_Gradient_eq]
 have h:=checkM_run x
 simp at h
 unfold grad
 by_cases hc:checkM x=0
 ·obtain⟨h1,h2,_⟩:=checkM_zero.1 hc
  have w1:IntKind.i64.wrap (x.c-x.s)=x.c-x.s:=wrap64 (by omega) (by omega)
  simp[h,hc,w1]
 ·simp[h,hc]
theorem cracks_div{x:Cel}{w:Spc}(hc:checkM x=0)(hw:¬w.crack<1):¬w.crack=0∧x.st.tdiv w.crack=x.st/w.crack∧IntKind.i64.wrap (x.st/w.crack)=x.st/w.crack:=by
 obtain⟨_,_,h3⟩:=checkM_zero.1 hc
 have d2:0≤x.st/w.crack:=Int.ediv_nonneg (by omega) (by omega)
 have d3:x.st/w.crack≤x.st:=Int.ediv_le_self _ (by omega)
 exact⟨by omega,Int.tdiv_eq_ediv_of_nonneg (by omega),wrap64 (by omega) (by omega)⟩
theorem cracks_run(x:Cel)(w:Spc):F_moist_Checks [.agg (eC x),.agg (eS w)]=some (I (cracks x w)):=by
 rw[F_moist_Checks_eq]
 have h:=checkM_run x
 simp at h
 unfold cracks
 by_cases hc:checkM x=0
 ·by_cases hw:w.crack<1
  ·simp[h,hc,hw]
  ·obtain⟨d0,d1,d2⟩:=cracks_div hc hw
   simp[h,hc,hw,d0,d1,d2]
 ·simp[h,hc]
def kS(w:Spc)(t:Int):Int:=clampN (w.fast*t/200) 1 10000
def kC(w:Spc)(th t:Int):Int:=clampN (w.slow*t*25/(200*th)) 1 10000
def newS(x:Cel)(w:Spc)(t d:Int)(fan:Bool):Int:=if fan=true then tow x.s (emc t d) (kS w t) else x.s
def newC(x:Cel)(w:Spc)(th t d:Int)(fan:Bool):Int:=tow x.c (newS x w t d fan) (kC w th t)
def newSt(x:Cel)(w:Spc)(th t d:Int)(fan:Bool):Int:=
 if 1099511627776<x.st+(if 0<newC x w th t d fan-newS x w t d fan-w.safe then newC x w th t d fan-newS x w t d fan-w.safe else 0) then 1099511627776 else x.st+(if 0<newC x w th t d fan-newS x w t d fan-w.safe then newC x w th t d fan-newS x w t d fan-w.safe else 0)
def tick(x:Cel)(w:Spc)(th t d:Int)(fan:Bool):Cel:=if comp x w th t d=true then⟨newS x w t d fan,newC x w th t d fan,newSt x w th t d fan⟩ else x
theorem tow_between{a b k:Int}(ha:0≤a∧a≤20000)(hb:0≤b∧b≤20000)(hk:0≤k∧k≤10000):(0≤tow a b k∧tow a b k≤20000)∧((a≤tow a b k∧tow a b k≤b)∨(b≤tow a b k∧tow a b k≤a)):=by
 unfold tow
 split
 ·omega
 ·split
  ·omega
  ·split
   ·have:=part_le (u:=a-b) (k:=k) (by omega) hk;omega
   ·have:=part_le (u:=b-a) (k:=k) (by omega) hk;omega
theorem clampN_1(n:Int):1≤clampN n 1 10000∧clampN n 1 10000≤10000:=by
 unfold clampN
 repeat' split
 all_goals omega
structure Comp(x:Cel)(w:Spc)(th t d:Int):Prop where
 s:0≤x.s∧x.s≤20000
 c:0≤x.c∧x.c≤20000
 st:0≤x.st∧x.st≤1099511627776
 t:0≤t∧t≤1200
 d:0≤d∧d≤400
 fast:1≤w.fast∧w.fast≤10000
 slow:1≤w.slow∧w.slow≤10000
 safe:0≤w.safe∧w.safe≤20000
 th:1≤th∧th≤600
theorem comp_iff{x:Cel}{w:Spc}{th t d:Int}:comp x w th t d=true↔Comp x w th t d:=by
 unfold comp
 simp only[Bool.and_eq_true,decide_eq_true_eq,checkM_zero,checkC_zero]
 constructor
 ·rintro⟨⟨a,b,c⟩,⟨d,e,f,g⟩,h,i,j,k,l,m,n,o⟩
  exact⟨a,b,c,⟨d,e⟩,⟨f,g⟩,⟨h,i⟩,⟨j,k⟩,⟨l,m⟩,⟨n,o⟩⟩
 ·rintro⟨a,b,c,⟨d,e⟩,⟨f,g⟩,⟨h,i⟩,⟨j,k⟩,⟨l,m⟩,⟨n,o⟩⟩
  exact⟨⟨a,b,c⟩,⟨d,e,f,g⟩,h,i,j,k,l,m,n,o⟩
theorem tick_facts{x:Cel}{w:Spc}{th t d:Int}(h:Comp x w th t d)(fan:Bool):
  (0≤newS x w t d fan∧newS x w t d fan≤20000)∧(0≤newC x w th t d fan∧newC x w th t d fan≤20000)∧
  IntKind.i64.wrap (w.fast*t)=w.fast*t∧(w.fast*t).tdiv 200=w.fast*t/200∧IntKind.i64.wrap (w.fast*t/200)=w.fast*t/200∧
  IntKind.i64.wrap (w.slow*t)=w.slow*t∧IntKind.i64.wrap (w.slow*t*25)=w.slow*t*25∧IntKind.i64.wrap (200*th)=200*th∧(¬200*th=0)∧
  (w.slow*t*25).tdiv (200*th)=w.slow*t*25/(200*th)∧IntKind.i64.wrap (w.slow*t*25/(200*th))=w.slow*t*25/(200*th)∧
  IntKind.i64.wrap (newC x w th t d fan-newS x w t d fan)=newC x w th t d fan-newS x w t d fan∧IntKind.i64.wrap (newC x w th t d fan-newS x w t d fan-w.safe)=newC x w th t d fan-newS x w t d fan-w.safe∧
  IntKind.i64.wrap (x.st+(if 0<newC x w th t d fan-newS x w t d fan-w.safe then newC x w th t d fan-newS x w t d fan-w.safe else 0))=x.st+(if 0<newC x w th t d fan-newS x w t d fan-w.safe then newC x w th t d fan-newS x w t d fan-w.safe else 0):=by
 have hk1:=clampN_1 (w.fast*t/200)
 have hk2:=clampN_1 (w.slow*t*25/(200*th))
 have he:=emc_range t d
 have hs:0≤newS x w t d fan∧newS x w t d fan≤20000:=by
  unfold newS
  split
  ·exact(tow_between h.s (by omega) (by unfold kS;omega)).1
  ·exact h.s
 have hc:0≤newC x w th t d fan∧newC x w th t d fan≤20000:=(tow_between h.c hs (by unfold kC;omega)).1
 have h1:=h.t;have h2:=h.fast;have h3:=h.slow;have h4:=h.th;have h5:=h.safe;have h6:=h.st
 have m1:0≤w.fast*t:=Int.mul_nonneg (by omega) (by omega)
 have m2:w.fast*t≤10000*1200:=Int.mul_le_mul (by omega) (by omega) (by omega) (by omega)
 have m3:0≤w.slow*t:=Int.mul_nonneg (by omega) (by omega)
 have m4:w.slow*t≤10000*1200:=Int.mul_le_mul (by omega) (by omega) (by omega) (by omega)
 have m5:0≤w.slow*t*25/(200*th):=Int.ediv_nonneg (by omega) (by omega)
 have m6:w.slow*t*25/(200*th)≤w.slow*t*25:=Int.ediv_le_self _ (by omega)
 refine⟨hs,hc,wrap64 (by omega) (by omega),Int.tdiv_eq_ediv_of_nonneg m1,wrap64 (by omega) (by omega),wrap64 (by omega) (by omega),wrap64 (by omega) (by omega),wrap64 (by omega) (by omega),by omega,
  Int.tdiv_eq_ediv_of_nonneg (by omega),wrap64 (by omega) (by omega),wrap64 (by omega) (by omega),wrap64 (by omega) (by omega), ?_⟩
 split<;>exact wrap64 (by omega) (by omega)
theorem tick_run(x:Cel)(w:Spc)(th t d:Int)(fan:Bool):F_moist_Tick [.agg (eC x),.agg (eS w),I th,.agg [I t,I d],B fan]=some (.agg (eC (tick x w th t d fan))):=by
 rw[F_moist_Tick_eq]
 have hr:=comp_run x w th t d
 simp at hr
 cases hc:comp x w th t d
 ·rw[hc] at hr
  simp[hr,tick,hc]
 ·rw[hc] at hr
  have h:=comp_iff.1 hc
  obtain⟨f1,f2,f3,f4,f5,f6,f7,f8,f9,f10,f11,f12,f13,f14⟩:=tick_facts h fan
  have he:=emc_range t d
  have hk1:=clampN_1 (w.fast*t/200)
  have hk2:=clampN_1 (w.slow*t*25/(200*th))
  have t1:=toward'_run (a:=x.s) (b:=emc t d) (k:=clampN (w.fast*t/200) 1 10000) h.s (by omega) (by omega)
  have t2:=toward'_run (a:=x.c) (b:=newS x w t d fan) (k:=clampN (w.slow*t*25/(200*th)) 1 10000) h.c f1 (by omega)
  have e1:tow x.c (newS x w t d fan) (clampN (w.slow*t*25/(200*th)) 1 10000)=newC x w th t d fan:=rfl
  rw[e1] at t2
  simp only[tick,hc,if_true,newSt,eC_eq]
  cases fan
  ·have e2:newS x w t d false=x.s:=rfl
   simp only[e2] at f1 f12 f13 f14 t2 e1⊢
   generalize newC x w th t d false=nc at*
   simp at f14
   simp[hr,clamp_run,f6,f7,f8,f9,f10,f11,t2,f12,f13,f14]
  ·have e2:tow x.s (emc t d) (clampN (w.fast*t/200) 1 10000)=newS x w t d true:=rfl
   rw[e2] at t1
   generalize newC x w th t d true=nc at*
   generalize newS x w t d true=ns at*
   simp at f14
   simp[hr,clamp_run,emc_run,f3,f4,f5,t1,f6,f7,f8,f9,f10,f11,t2,f12,f13,f14]
end Go.Proofs.YtbdgblipbpadeaaGreatDoor
