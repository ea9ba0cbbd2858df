/-
  A kiln's tick in plain words: what stays true of a kiln, whatever faults occur.
-/
import Derived.Test.YtbdgblipbpadeaaGreatDoorMm
import Derived.Test.YtbdgblipbpadeaaGreatDoorMd
import Derived.Test.YtbdgblipbpadeaaGreatDoorMi
set_option linter.unusedSimpArgs false
set_option linter.unusedVariables false
set_option linter.defProp false
namespace Go.Proofs.YtbdgblipbpadeaaGreatDoor
open Go Go.Abs
set_option maxHeartbeats 2000000
set_option maxRecDepth 100000
theorem rangeW_iff(w:Spc):rangeW w=true↔3000≤w.green∧w.green≤20000∧1≤w.fast∧w.fast≤10000∧1≤w.slow∧w.slow≤w.fast∧0≤w.safe∧w.safe≤w.grad∧1≤w.grad∧w.grad≤20000∧1≤w.crack∧w.crack≤1000000∧
 200≤w.temp∧w.temp≤1200∧100≤w.dep∧w.dep≤400∧200≤w.dens∧w.dens≤1500∧1000≤w.stiff∧w.stiff≤30000∧0≤w.loss∧w.loss≤1000∧0≤w.shrink∧w.shrink≤200:=by
 unfold rangeW
 exact decide_eq_true_iff
theorem soundAll_iff:∀l:List Stg,soundAll l=true↔∀g∈l,soundG g=true
 |[]=>by simp[soundAll]
 |x::r=>by
  have ih:=soundAll_iff r
  simp only[soundAll,List.mem_cons,forall_eq_or_imp]
  split
  ·rename_i h;simp[h,ih]
  ·rename_i h;simp[h]
theorem checkT_iff:∀l:List Itm,checkT l=0→∀x∈l,(1≤x.th∧x.th≤600)∧checkM x.cel=0
 |[],_=>by simp
 |x::r,h=>by
  unfold checkT at h
  split at h
  ·simp at h
  ·split at h
   ·simp at h
   ·split at h
    ·rename_i h1 h2 h3
     intro y hy
     rcases List.mem_cons.1 hy with rfl|hy
     ·exact⟨by omega,h3⟩
     ·exact checkT_iff r h y hy
    ·rename_i h3;exact absurd h h3
structure InvK(k:Kl):Prop where
 stage:k.stage≤k.stages.length
 stages:k.stages.length≤12
 sound:∀g∈k.stages,soundG g=true
 wood:rangeW k.w=true
 some:0<k.items.length
 many:k.items.length≤1024
 cells:∀x∈k.items,checkM x.cel=0
 temp:0≤k.t∧k.t≤k.w.temp
 dep:0≤k.d∧k.d≤k.w.dep
theorem inv_new{nm:ByteArray}{ramp:Int}{g:List Stg}{w:Spc}{l:List Itm}(h:checkK nm ramp g w l=0):InvK (newK nm ramp g w l):=by
 unfold checkK at h
 split at h
 ·rename_i h1
  split at h
  ·rename_i h2
   split at h
   ·simp at h
   ·split at h
    ·simp at h
    ·rename_i h3 h4
     have hg:g.length≤12∧soundAll g=true:=by
      unfold checkSg at h1
      repeat' split at h1
      all_goals first|omega|(refine⟨by omega, ?_⟩;assumption)|simp at h1
     have hw:rangeW w=true:=by
      unfold checkW at h2
      repeat' split at h2
      all_goals first|assumption|simp at h2
     have hr:=(rangeW_iff w).1 hw
     have hs:=(soundAll_iff g).1 hg.2
     exact⟨Nat.zero_le _,hg.1,hs,hw,by simp only[newK];omega,by simp only[newK];omega,fun x hx=>(checkT_iff l h x hx).2,by simp only[newK];omega,by simp only[newK];omega⟩
  ·rename_i h2;exact absurd h h2
 ·rename_i h1;exact absurd h h1
theorem tick_ok{x:Cel}(h:checkM x=0)(w:Spc)(th t d:Int)(fan:Bool):checkM (tick x w th t d fan)=0:=by
 cases hc:comp x w th t d
 ·rw[tick_not hc];exact h
 ·exact(ticked (comp_iff.1 hc) fan).ok
theorem dryL_mem{w:Spc}{t d:Int}{fan:Bool}:∀{l:List Itm},(∀x∈l,checkM x.cel=0)→∀x∈dryL w t d fan l,checkM x.cel=0
 |[],_,x,hx=>by simp[dryL] at hx
 |y::r,h,x,hx=>by
  simp only[dryL,List.mem_cons] at hx
  rcases hx with rfl|hx
  ·exact tick_ok (h y (by simp)) w y.th t d fan
  ·exact dryL_mem (fun z hz=>h z (by simp[hz])) x hx
theorem step_in{a b k hi:Int}(hk:0≤k)(ha:0≤a∧a≤hi)(hb:0≤b∧b≤hi):0≤step a b k∧step a b k≤hi:=by
 unfold step clampN
 repeat' split
 all_goals omega
theorem clampN_in{n lo hi:Int}(h1:lo≤n)(h2:n≤hi):clampN n lo hi=n:=by
 unfold clampN
 repeat' split
 all_goals omega
theorem inv_tickC{k:Kl}(h:InvK k)(hs:k.stage<k.stages.length)(t d:Int)(st:Bool)(ht:0≤t∧t≤k.w.temp)(hd:0≤d∧d≤k.w.dep):InvK (tickC k t d st):=by
 have hi:(itsK k t d st).length=k.items.length:=by simp[itsK]
 refine⟨?_,h.stages,h.sound,h.wood, ?_, ?_, ?_,ht,hd⟩
 ·unfold tickC
  dsimp only
  split
  ·exact hs
  ·exact Nat.le_of_lt hs
 ·show 0<(itsK k t d st).length
  rw[hi];exact h.some
 ·show(itsK k t d st).length≤1024
  rw[hi];exact h.many
 ·exact dryL_mem h.cells
theorem climate_in{k:Kl}(h:InvK k)(hs:k.stage<k.stages.length)(f:List Int):(0≤nextT k.t (tgtT k) k.ramp f∧nextT k.t (tgtT k) k.ramp f≤k.w.temp)∧(0≤nextD k.d (tgtD k) k.ramp f∧nextD k.d (tgtD k) k.ramp f≤k.w.dep):=by
 have hr:=(rangeW_iff k.w).1 h.wood
 have hg:=(soundG_iff (stgK k)).1 (h.sound _ (by rw[stgK_eq hs];exact List.getElem_mem hs))
 have h1:=h.temp
 have h2:=h.dep
 have b3:=clampN_bnd k.ramp 1200 (by omega)
 have t1:0≤tgtT k∧tgtT k≤k.w.temp:=by unfold tgtT;split<;>omega
 have t2:0≤tgtD k∧tgtD k≤k.w.dep:=by unfold tgtD;split<;>omega
 unfold nextT nextD
 rw[clampN_in h1.1 (by omega),clampN_in t1.1 (by omega),clampN_in h2.1 (by omega),clampN_in t2.1 (by omega)]
 refine⟨step_in b3.1 h1 ?_,step_in b3.1 h2 ?_⟩
 ·unfold goalT;split<;>omega
 ·unfold goalD;split<;>omega
theorem inv_tick{k:Kl}(h:InvK k)(hs:k.stage<k.stages.length)(f:List Int):InvK (tickK k f):=
 inv_tickC h hs _ _ _ (climate_in h hs f).1 (climate_in h hs f).2
def BndL(m:Int):List Itm→List Itm→Prop
 |[],[]=>True
 |x::r,y::q=>x.th=y.th∧grad x.cel≤(if m<grad y.cel then grad y.cel else m)∧checkM x.cel=0∧BndL m r q
 |_,_=>False
theorem BndL.refl{m:Int}:∀{l:List Itm},(∀x∈l,checkM x.cel=0)→BndL m l l
 |[],_=>trivial
 |x::r,h=>⟨rfl,by split<;>omega,h x (by simp),BndL.refl (fun y hy=>h y (by simp[hy]))⟩
theorem BndL.len{m:Int}:∀{l q:List Itm},BndL m l q→l.length=q.length
 |[],[],_=>rfl
 |x::r,y::q,h=>by simp[h.2.2.2.len]
theorem BndL.at{m:Int}:∀{l q:List Itm} (i:Nat) (x y:Itm),BndL m l q→l[i]? =some x→q[i]? =some y→x.th=y.th∧grad x.cel≤(if m<grad y.cel then grad y.cel else m)∧checkM x.cel=0
 |[],[],i,x,y,_,h1,_=>by simp at h1
 |x'::r,y'::q,0,x,y,h,h1,h2=>by
  simp at h1 h2
  subst h1 h2
  exact⟨h.1,h.2.1,h.2.2.1⟩
 |x'::r,y'::q,i+1,x,y,h,h1,h2=>BndL.at i x y h.2.2.2 (by simpa using h1) (by simpa using h2)
@[simp] theorem tickK_stages(k:Kl)(f:List Int):(tickK k f).stages=k.stages:=rfl
@[simp] theorem tickK_w(k:Kl)(f:List Int):(tickK k f).w=k.w:=rfl
end Go.Proofs.YtbdgblipbpadeaaGreatDoor
namespace Go.Proofs.YtbdgblipbpadeaaGreatDoor.Ch
open Go Go.Abs
set_option maxHeartbeats 2000000
set_option maxRecDepth 100000
structure Dfc where
 kind:Int
 xa:Int
 xb:Int
 ya:Int
 yb:Int
 za:Int
 zb:Int
def eDf(x:Dfc):List D:=[I x.kind,I x.xa,I x.xb,I x.ya,I x.yb,I x.za,I x.zb]
@[simp] theorem eDf_eq(x:Dfc):eDf x=[I x.kind,I x.xa,I x.xb,I x.ya,I x.yb,I x.za,I x.zb]:=rfl
structure Bd where
 id:ByteArray
 log:ByteArray
 sp:ByteArray
 prod:Int
 xa:Int
 xb:Int
 ya:Int
 yb:Int
 za:Int
 zb:Int
 vol:Int
 dfs:List Dfc
 wane:Int
 cel:Cel
 dried:Bool
 grade:Int
def eBd(b:Bd):List D:=[S b.id,S b.log,S b.sp,I b.prod,I b.xa,I b.xb,I b.ya,I b.yb,I b.za,I b.zb,I b.vol,.sl (b.dfs.map eDf),I b.wane,I b.cel.s,I b.cel.c,I b.cel.st,B b.dried,I b.grade]
@[simp] theorem eBd_eq(b:Bd):eBd b=[S b.id,S b.log,S b.sp,I b.prod,I b.xa,I b.xb,I b.ya,I b.yb,I b.za,I b.zb,I b.vol,.sl (b.dfs.map eDf),I b.wane,I b.cel.s,I b.cel.c,I b.cel.st,B b.dried,I b.grade]:=rfl
structure Flt where
 kind:Int
 a:Int
 b:Int
def eFl(x:Flt):List D:=[I x.kind,I x.a,I x.b]
@[simp] theorem eFl_eq(x:Flt):eFl x=[I x.kind,I x.a,I x.b]:=rfl
structure Gv where
 l:List Bd
 w:Spc
 nm:ByteArray
 ramp:Int
 sg:List Stg
 fs:List Flt
 ticks:Int
def lenS(a b:Int):Int:=if b≤a then 0 else if 9223372036854775807<b-a then 9223372036854775807 else b-a
def thk(b:Bd):Int:=if lenS b.ya b.yb<lenS b.xa b.xb then lenS b.ya b.yb else lenS b.xa b.xb
def checkB(w:ByteArray):List Bd→Int
 |[]=>0
 |b::r=>if b.sp=w then if b.dried=true then 14 else if checkM b.cel=0 then if thk b<1 then 9 else if 600<thk b then 9 else checkB w r else checkM b.cel else 24
def checkCh(l:List Bd)(w:Spc)(nm:ByteArray)(ramp:Int)(sg:List Stg):Int:=
 if(l.length:Int)=0 then 3 else if 1024<(l.length:Int) then 4 else if checkB w.name l=0 then if checkSg nm ramp sg=0 then checkW w else checkSg nm ramp sg else checkB w.name l
def checkF:List Flt→Int
 |[]=>0
 |f::r=>if f.kind<1 then 10 else if 3<f.kind then 10 else if f.a<0 then 9 else if f.b≤f.a then 9 else if 20000<f.b then 9 else checkF r
def itemB(b:Bd):Itm:=⟨thk b,b.cel⟩
def kinds(t:Int):List Flt→List Int
 |[]=>[]
 |f::r=>if f.a≤t then if t<f.b then f.kind::kinds t r else kinds t r else kinds t r
def atM(l:List Flt)(t:Int):List Int:=compactI (sortI (kinds t l))
def stp(s:Int):List Itm→Int
 |[]=>s
 |x::r=>stp (if s<grad x.cel then grad x.cel else s) r
def steepM:List Itm→Int
 |[]=>0
 |x::r=>stp (grad x.cel) r
structure Rn where
 k:Kl
 a:Int
 b:Int
 g:Int
def mx(a b:Int):Int:=if a<b then b else a
def goR(fs:List Flt)(t:Nat)(r:Rn):Rn:=⟨tickK r.k (atM fs t),mx r.a (tickK r.k (atM fs t)).t,mx r.b (tickK r.k (atM fs t)).d,mx r.g (steepM (tickK r.k (atM fs t)).items)⟩
def runM(fs:List Flt):Nat→Nat→Rn→Rn
 |0,_,r=>r
 |n+1,t,r=>if doneK r.k=true then r else runM fs n (t+1) (goR fs t r)
def firstR(k:Kl):Rn:=⟨k,k.t,k.d,steepM k.items⟩
def driedM:List Bd→List Itm→List Bd
 |b::l,x::r=>⟨b.id,b.log,b.sp,b.prod,b.xa,b.xb,b.ya,b.yb,b.za,b.zb,b.vol,b.dfs,b.wane,x.cel,true,b.grade⟩::driedM l r
 |_,_=>[]
def errD(g:Gv):Int:=if checkCh g.l g.w g.nm g.ramp g.sg=0 then if g.ticks<0 then 9 else if 20000<g.ticks then 9 else checkF g.fs else checkCh g.l g.w g.nm g.ramp g.sg
def kil(g:Gv):Kl:=newK g.nm g.ramp g.sg g.w (g.l.map itemB)
def rnM(g:Gv):Rn:=runM g.fs g.ticks.toNat 0 (firstR (kil g))
def outB(g:Gv):List Bd:=driedM g.l (rnM g).k.items
def eRn(r:Rn):List D:=[I r.k.ticks,I r.k.held,I r.k.stage,I r.a,I r.b,I r.g]
@[simp] theorem eRn_eq(r:Rn):eRn r=[I r.k.ticks,I r.k.held,I r.k.stage,I r.a,I r.b,I r.g]:=rfl
theorem checkB_item{w:ByteArray}:∀{l:List Bd},checkB w l=0→checkT (l.map itemB)=0∧∀b∈l,b.sp=w∧b.dried=false∧checkM b.cel=0
 |[],_=>⟨rfl,by simp⟩
 |b::r,h=>by
  unfold checkB at h
  split at h
  ·rename_i h0
   split at h
   ·simp at h
   ·rename_i h1
    split at h
    ·rename_i h2
     split at h
     ·simp at h
     ·split at h
      ·simp at h
      ·rename_i h3 h4
       obtain⟨i1,i2⟩:=checkB_item h
       refine⟨?_, ?_⟩
       ·show checkT (itemB b::r.map itemB)=0
        unfold checkT
        rw[if_neg (show¬(itemB b).th<1 from h3),if_neg (show¬600<(itemB b).th from h4),if_pos (show checkM (itemB b).cel=0 from h2)]
        exact i1
       ·intro x hx
        rcases List.mem_cons.1 hx with rfl|hx
        ·exact⟨h0,by simpa using h1,h2⟩
        ·exact i2 x hx
    ·rename_i h2;exact absurd h h2
  ·simp at h
theorem checkCh_new{l:List Bd}{w:Spc}{nm:ByteArray}{ramp:Int}{sg:List Stg}(h:checkCh l w nm ramp sg=0):checkK nm ramp sg w (l.map itemB)=0∧(0<l.length∧l.length≤1024)∧∀b∈l,b.sp=w.name∧b.dried=false∧checkM b.cel=0:=by
 unfold checkCh at h
 split at h
 ·simp at h
 ·split at h
  ·simp at h
  ·rename_i h0 h1
   split at h
   ·rename_i h2
    split at h
    ·rename_i h3
     obtain⟨i1,i2⟩:=checkB_item h2
     refine⟨?_,by omega,i2⟩
     unfold checkK
     rw[if_pos h3,if_pos h,List.length_map,if_neg h0,if_neg h1]
     exact i1
    ·rename_i h3;exact absurd h h3
   ·rename_i h2;exact absurd h h2
theorem errD_ok{g:Gv}(h:errD g=0):checkCh g.l g.w g.nm g.ramp g.sg=0∧(0≤g.ticks∧g.ticks≤20000)∧checkF g.fs=0:=by
 unfold errD at h
 split at h
 ·rename_i h0
  split at h
  ·simp at h
  ·split at h
   ·simp at h
   ·exact⟨h0,by omega,h⟩
 ·rename_i h0;exact absurd h h0
theorem inv_kil{g:Gv}(h:errD g=0):InvK (kil g):=inv_new (checkCh_new (errD_ok h).1).1
theorem runM_inv{fs:List Flt}{p:Rn→Prop}(hp:∀t r,InvK r.k→p r→r.k.stage<r.k.stages.length→p (goR fs t r)):∀(n t:Nat) (r:Rn),InvK r.k→p r→InvK (runM fs n t r).k∧p (runM fs n t r)
 |0,_,r,hi,h=>⟨hi,h⟩
 |n+1,t,r,hi,h=>by
  unfold runM
  split
  ·exact⟨hi,h⟩
  ·rename_i hd
   have hs:r.k.stage<r.k.stages.length:=by
    have:=hi.stage
    simp[doneK] at hd
    omega
   exact runM_inv hp n (t+1) (goR fs t r) (inv_tick hi hs _) (hp t r hi h hs)
theorem tick_len(k:Kl)(f:List Int):(tickK k f).items.length=k.items.length:=by simp[tickK,tickC,itsK]
theorem run_len{fs:List Flt}(n t:Nat)(r:Rn)(hi:InvK r.k):(runM fs n t r).k.items.length=r.k.items.length:=
 (runM_inv (p:=fun q=>q.k.items.length=r.k.items.length) (fun t q _ h _=>by show(tickK q.k _).items.length=_;rw[tick_len];exact h) n t r hi rfl).2
theorem run_same{fs:List Flt}(n t:Nat)(r:Rn)(hi:InvK r.k):(runM fs n t r).k.stages=r.k.stages∧(runM fs n t r).k.w=r.k.w:=
 (runM_inv (p:=fun q=>q.k.stages=r.k.stages∧q.k.w=r.k.w) (fun t q _ h _=>h) n t r hi ⟨rfl,rfl⟩).2
theorem rnM_len{g:Gv}(h:errD g=0):(rnM g).k.items.length=g.l.length:=by
 have:=run_len (fs:=g.fs) g.ticks.toNat 0 (firstR (kil g)) (inv_kil h)
 rw[rnM,this]
 simp[firstR,kil,newK]
end Go.Proofs.YtbdgblipbpadeaaGreatDoor.Ch
namespace Go.Proofs.YtbdgblipbpadeaaGreatDoor.Ch
open Go Go.Abs
set_option maxHeartbeats 2000000
set_option maxRecDepth 100000
theorem kinds_len(t:Int):∀l:List Flt,(kinds t l).length≤l.length
 |[]=>Nat.le_refl _
 |f::r=>by
  have:=kinds_len t r
  unfold kinds
  split
  ·split
   ·simp;omega
   ·simp;omega
  ·simp;omega
theorem atM_len(l:List Flt)(t:Int):(atM l t).length≤l.length:=by
 have h1:=compactI_length (sortI (kinds t l))
 rw[sortI_length] at h1
 have:=kinds_len t l
 unfold atM
 omega
theorem _root_.Go.Proofs.YtbdgblipbpadeaaGreatDoor.InvK.ne{k:Kl}(h:InvK k):k.items≠[]:=by
 intro e
 have:=h.some
 rw[e] at this
 simp at this
structure Lim(w:Spc)(q:List Itm)(first:Int)(r:Rn):Prop where
 ww:r.k.w=w
 a:r.a≤w.temp
 b:r.b≤w.dep
 bnd:BndL w.grad r.k.items q
 all:∀x∈r.k.items,grad x.cel≤r.g
 g:r.g≤first
theorem runM_succ(fs:List Flt)(n t:Nat)(r:Rn):runM fs (n+1) t r=if doneK r.k=true then r else runM fs n (t+1) (goR fs t r):=rfl
structure Mono(r q:Rn):Prop where
 held:r.k.held≤q.k.held
 stage:r.k.stage≤q.k.stage
 a:r.a≤q.a
 b:r.b≤q.b
 g:r.g≤q.g
structure Cnt(m:Nat)(r:Rn):Prop where
 ticks:0≤r.k.ticks∧r.k.ticks≤m
 held:0≤r.k.held∧r.k.held≤r.k.ticks
structure Fan(s:List Int)(r:Rn):Prop where
 s:r.k.items.map (fun x=>x.cel.s)=s
 held:r.k.held=0
end Go.Proofs.YtbdgblipbpadeaaGreatDoor.Ch
namespace Go.Proofs.YtbdgblipbpadeaaGreatDoor.Ch
open Go Go.Abs
set_option maxRecDepth 100000
def i64(n:Int):Prop:= -9223372036854775808≤n∧n≤9223372036854775807
def okBd(b:Bd):Prop:=(i64 b.xa∧i64 b.xb)∧(i64 b.ya∧i64 b.yb)∧b.dfs.length≤9223372036854775807
structure okGv(g:Gv):Prop where
 l:g.l.length≤9223372036854775807
 b:∀b∈g.l,okBd b
 sg:g.sg.length≤9223372036854775807
 fs:g.fs.length≤9223372036854775807
 ticks:i64 g.ticks
theorem tyDfc{n:Nat}{cs:List D}(h:TyC Tryz.prog n 53 cs):∃x:Dfc,cs=eDf x∧True:=by
 obtain⟨hl,m,h⟩:=TyC.struct Tryz.underlying53 h
 rw[(t53).2.1] at hl
 match cs,hl with
 |[y0,y1,y2,y3,y4,y5,y6],_=>
  simp at h
  obtain⟨h_0,h_1⟩:=h
  obtain⟨a0,e0,b0⟩:=tyInt h_0
  obtain⟨_,_,h_1⟩:=TyC.struct Tryz.underlying51 h_1
  simp at h_1
  obtain⟨h_1_0,h_1_1,h_1_2⟩:=h_1
  obtain⟨_,_,h_1_0⟩:=TyC.struct Tryz.underlying34 h_1_0
  simp at h_1_0
  obtain⟨h_1_0_0,h_1_0_1⟩:=h_1_0
  obtain⟨a1,e1,b1⟩:=tyInt h_1_0_0
  obtain⟨a2,e2,b2⟩:=tyInt h_1_0_1
  obtain⟨_,_,h_1_1⟩:=TyC.struct Tryz.underlying34 h_1_1
  simp at h_1_1
  obtain⟨h_1_1_0,h_1_1_1⟩:=h_1_1
  obtain⟨a3,e3,b3⟩:=tyInt h_1_1_0
  obtain⟨a4,e4,b4⟩:=tyInt h_1_1_1
  obtain⟨_,_,h_1_2⟩:=TyC.struct Tryz.underlying34 h_1_2
  simp at h_1_2
  obtain⟨h_1_2_0,h_1_2_1⟩:=h_1_2
  obtain⟨a5,e5,b5⟩:=tyInt h_1_2_0
  obtain⟨a6,e6,b6⟩:=tyInt h_1_2_1
  injection e0 with e0;injection e1 with e1;injection e2 with e2;injection e3 with e3;injection e4 with e4;injection e5 with e5;injection e6 with e6
  exact⟨⟨a0,a1,a2,a3,a4,a5,a6⟩,by rw[e0,e1,e2,e3,e4,e5,e6];rfl,trivial⟩
end Go.Proofs.YtbdgblipbpadeaaGreatDoor.Ch
