/-
  A kiln in plain words: boards, stages, and a tick.
-/
import Derived.Test.YtbdgblipbpadeaaGreatDoorMl
set_option linter.unusedSimpArgs false
set_option linter.unusedVariables false
set_option linter.defProp false
namespace Go.Proofs.YtbdgblipbpadeaaGreatDoor
open Go Go.Abs
set_option maxHeartbeats 2000000
set_option maxRecDepth 100000
structure Itm where
 th:Int
 cel:Cel
def eT(x:Itm):List D:=[I x.th,I x.cel.s,I x.cel.c,I x.cel.st]
@[simp] theorem eT_eq(x:Itm):eT x=[I x.th,I x.cel.s,I x.cel.c,I x.cel.st]:=rfl
structure Stg where
 below:Int
 ticks:Int
 temp:Int
 dep:Int
def eSg(x:Stg):List D:=[I x.below,I x.ticks,I x.temp,I x.dep]
@[simp] theorem eSg_eq(x:Stg):eSg x=[I x.below,I x.ticks,I x.temp,I x.dep]:=rfl
def soundG(x:Stg):Bool:=decide (0≤x.below)&&(decide (x.below≤20000)&&(decide (0≤x.ticks)&&(decide (x.ticks≤10000)&&((!decide (x.below=0)||!decide (x.ticks=0))&&(decide (200≤x.temp)&&(decide (x.temp≤1200)&&(decide (0≤x.dep)&&decide (x.dep≤400))))))))
theorem soundG_iff(x:Stg):soundG x=true↔0≤x.below∧x.below≤20000∧0≤x.ticks∧x.ticks≤10000∧(¬x.below=0∨¬x.ticks=0)∧200≤x.temp∧x.temp≤1200∧0≤x.dep∧x.dep≤400:=by
 unfold soundG
 simp only[Bool.and_eq_true,Bool.or_eq_true,Bool.not_eq_true',decide_eq_true_eq,decide_eq_false_iff_not]
def soundAll:List Stg→Bool
 |[]=>true
 |x::r=>if soundG x=true then soundAll r else false
def checkSg(name:ByteArray)(ramp:Int)(l:List Stg):Int:=
 if isNm name=true then if ramp<1 then 9 else if 1200<ramp then 9 else if(l.length:Int)=0 then 3 else if 12<(l.length:Int) then 4 else if soundAll l=true then 0 else 9 else 6
def rangeW(w:Spc):Bool:=decide (3000≤w.green∧w.green≤20000∧1≤w.fast∧w.fast≤10000∧1≤w.slow∧w.slow≤w.fast∧0≤w.safe∧w.safe≤w.grad∧1≤w.grad∧w.grad≤20000∧1≤w.crack∧w.crack≤1000000∧
 200≤w.temp∧w.temp≤1200∧100≤w.dep∧w.dep≤400∧200≤w.dens∧w.dens≤1500∧1000≤w.stiff∧w.stiff≤30000∧0≤w.loss∧w.loss≤1000∧0≤w.shrink∧w.shrink≤200)
def checkW(w:Spc):Int:=if isNm w.name=true then if rangeW w=true then 0 else 9 else 6
def checkT:List Itm→Int
 |[]=>0
 |x::r=>if x.th<1 then 9 else if 600<x.th then 9 else if checkM x.cel=0 then checkT r else checkM x.cel
structure Kl where
 name:ByteArray
 ramp:Int
 stages:List Stg
 w:Spc
 items:List Itm
 t:Int
 d:Int
 stage:Nat
 ins:Int
 ticks:Int
 held:Int
def checkK(name:ByteArray)(ramp:Int)(g:List Stg)(w:Spc)(l:List Itm):Int:=
 if checkSg name ramp g=0 then if checkW w=0 then if(l.length:Int)=0 then 3 else if 1024<(l.length:Int) then 4 else checkT l else checkW w else checkSg name ramp g
def newK(name:ByteArray)(ramp:Int)(g:List Stg)(w:Spc)(l:List Itm):Kl:=⟨name,ramp,g,w,l,200,100,0,0,0,0⟩
def dryL(w:Spc)(t d:Int)(fan:Bool):List Itm→List Itm
 |[]=>[]
 |x::r=>⟨x.th,tick x.cel w x.th t d fan⟩::dryL w t d fan r
@[simp] theorem dryL_len(w:Spc)(t d:Int)(fan:Bool)(l:List Itm):(dryL w t d fan l).length=l.length:=by
 induction l with
 |nil=>rfl
 |cons x r ih=>simp[dryL,ih]
def steepL(m:Int):List Itm→List Itm→Bool
 |x::r,y::q=>if m<grad x.cel∧grad y.cel<grad x.cel then true else steepL m r q
 |_,_=>false
def sumL(a:Int):List Itm→Int
 |[]=>a
 |x::r=>sumL (IntKind.i64.wrap (a+x.cel.c)) r
def meanL(l:List Itm):Int:=if(l.length:Int)=0 then 0 else IntKind.i64.wrap ((sumL 0 l).tdiv l.length)
def endsG(x:Stg)(ins mean:Int):Bool:=(decide (0<x.below)&&decide (mean≤x.below))||(decide (0<x.ticks)&&decide (x.ticks≤ins))
def stgK(k:Kl):Stg:=(k.stages[k.stage]?).getD ⟨0,0,0,0⟩
theorem stgK_eq{k:Kl}(h:k.stage<k.stages.length):stgK k=k.stages[k.stage]:=by
 simp[stgK,h]
def tgtT(k:Kl):Int:=if k.w.temp<(stgK k).temp then k.w.temp else(stgK k).temp
def tgtD(k:Kl):Int:=if k.w.dep<(stgK k).dep then k.w.dep else(stgK k).dep
def holdK(k:Kl)(t d:Int)(still:Bool):Bool:=!still&&steepL k.w.grad (dryL k.w t d true k.items) k.items
def itsK(k:Kl)(t d:Int)(still:Bool):List Itm:=dryL k.w t d (!still&&!steepL k.w.grad (dryL k.w t d true k.items) k.items) k.items
def tickC(k:Kl)(t d:Int)(still:Bool):Kl:=
 ⟨k.name,k.ramp,k.stages,k.w,itsK k t d still,t,d,
  if endsG (stgK k) (IntKind.i64.wrap (k.ins+1)) (meanL (itsK k t d still))=true then k.stage+1 else k.stage,
  if endsG (stgK k) (IntKind.i64.wrap (k.ins+1)) (meanL (itsK k t d still))=true then 0 else IntKind.i64.wrap (k.ins+1),
  IntKind.i64.wrap (k.ticks+1),
  if holdK k t d still=true then IntKind.i64.wrap (k.held+1) else k.held⟩
def tickK(k:Kl)(f:List Int):Kl:=tickC k (nextT k.t (tgtT k) k.ramp f) (nextD k.d (tgtD k) k.ramp f) (inL 2 f)
def doneK(k:Kl):Bool:=decide ((k.stage:Int)=k.stages.length)
end Go.Proofs.YtbdgblipbpadeaaGreatDoor
namespace Go.Proofs.YtbdgblipbpadeaaGreatDoor
open Go Go.Abs
set_option maxHeartbeats 4000000
set_option maxRecDepth 100000
theorem numbers'_run(w:Spc):F_wood_numbers [.agg (eS w)]=some (.agg [I w.green,I w.fast,I w.slow,I w.safe,I w.grad,I w.crack,I w.temp,I w.dep,I w.dens,I w.stiff,I w.loss,I w.shrink]):=by
 rw[F_wood_numbers_eq];simp
theorem inRangeW_run(w:Spc):F_wood_inRange [.agg (eS w)]=some (B (rangeW w)):=by
 have hn:=numbers'_run w
 simp at hn
 rw[F_wood_inRange_eq]
 obtain⟨m,hm⟩:=bigL_succ 13 (by omega)
 first|rw[hm]|simp only[zgp,GP,zge,GEP,hm]
 simp[hn]
 iterate 13 (rw[L_wood_inRange_succ,R_wood_inRange_eq];simp)
 rw[Bool.eq_iff_iff]
 simp[rangeW]
theorem find0_run(nm:ByteArray)(d:D)(hd:d= .sl []):F_wood_Find [d,S nm]=some (.tup [.agg [S ByteArray.empty,I 0,I 0,I 0,I 0,I 0,I 0,I 0,I 0,I 0,I 0,I 0,I 0],B false]):=by
 subst hd
 rw[F_wood_Find_eq]
 obtain⟨m,hm⟩:=bigL_succ 1 (by omega)
 first|rw[hm]|simp only[zgp,GP,zge,GEP,hm]
 simp
 rw[L_wood_Find_succ,R_wood_Find_eq]
 simp
theorem wood_run(w:Spc):F_wood_Check [.sl [eS w]]=some (I (checkW w)):=by
 have h1:=inRangeW_run w
 have h2:=find0_run w.name _ rfl
 simp at h1 h2
 rw[F_wood_Check_eq]
 obtain⟨m,hm⟩:=bigL_succ 2 (by omega)
 first|rw[hm]|simp only[zgp,GP,zge,GEP,hm]
 simp
 rw[L_wood_Check_succ,R_wood_Check_eq]
 unfold checkW
 cases hn:isNm w.name
 ·simp[isName_run,hn]
 ·cases hr:rangeW w
  ·simp[isName_run,hn,h1,h2,hr]
  ·simp[isName_run,hn,h1,h2,hr]
   rw[L_wood_Check_succ,R_wood_Check_eq]
   simp
theorem sound_run(x:Stg):F_schedule_sound [.agg (eSg x)]=some (B (soundG x)):=by
 rw[F_schedule_sound_eq]
 unfold soundG
 simp(config:={maxSteps:=2000000})
 by_cases h:x.below=0<;>simp[h]
end Go.Proofs.YtbdgblipbpadeaaGreatDoor
