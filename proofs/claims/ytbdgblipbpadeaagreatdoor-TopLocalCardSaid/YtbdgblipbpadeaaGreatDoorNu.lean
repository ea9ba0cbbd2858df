/-
  The boards of a log: the cuts.
-/
import Derived.Test.YtbdgblipbpadeaaGreatDoorNt
import Derived.Test.YtbdgblipbpadeaaGreatDoorNe
import Derived.Test.YtbdgblipbpadeaaGreatDoorNm
import Derived.Test.YtbdgblipbpadeaaGreatDoorNh
set_option linter.unusedSimpArgs false
set_option linter.unusedVariables false
set_option linter.defProp false
namespace Go.Proofs.YtbdgblipbpadeaaGreatDoor
open Go Go.Abs
set_option maxHeartbeats 4000000
set_option maxRecDepth 100000
abbrev lifeC(r:Rc)(nd:List Nd)(sh:List Int)(w:Spc)(nm:ByteArray)(rmp tk:Int)(SG FL RL:List (List D)):List D:=[I 0,I r.xa,I r.xb,I r.ya,I r.yb,D.sl (List.map eNd nd),D.sl (List.map eI sh),S w.name,I w.green,I w.fast,I w.slow,I w.safe,I w.grad,I w.crack,I w.temp,I w.dep,I w.dens,I w.stiff,I w.loss,I w.shrink,S nm,I rmp,D.sl SG,D.sl FL,I tk,D.sl RL]
abbrev lineP(S F C:List (List D))(a b c d e f g h:Int)(fl f2:Bool)(ns:List Nw)(rp:List Int)(sw:List Rc):List (Nat×O):=[(41,.box 175 [.sl S,.sl F,.sl C,I a,I b,I c,I d,I e,I f,I g,I h,.row 14111,.sl (rp.map eI),.row 14113]),(14111,.row 179 24 fl (ns.map eNw)),(14113,.row 36 4 f2 (sw.map eRc))]
abbrev lineO(S F C:List (List D))(a b c d e f g h:Int)(fl f1 f2:Bool)(ns:List Nw)(rp:List Int)(sw:List Rc):List (Nat×O):=[(41,.box 175 [.sl S,.sl F,.sl C,I a,I b,I c,I d,I e,I f,I g,I h,.row 14111,.row 14112,.row 14113]),(14111,.row 179 24 fl (ns.map eNw)),(14112,.row 3 1 f1 (rp.map eI)),(14113,.row 36 4 f2 (sw.map eRc))]
abbrev HBt(S F:List (List D))(i:Int):List (Nat×D):=[(0,.any),(1,.any),(2,.any),(3,.ptr 3 0),(4,.any),(5,.any),(6,.sl S),(7,.sl F),(8,.any),(9,.ptr 41 0),(10,I i),(11,.any),(12,.any),(13,.any)]
abbrev HXt(S F:List (List D)):List (Nat×D):=[(0,.any),(1,.any),(2,.any),(3,.ptr 3 0),(4,.any),(5,.any),(6,.sl S),(7,.sl F),(8,.any),(9,.ptr 41 0),(10,.any),(11,.any),(12,.any),(13,.any)]
section
variable (r:Rc)(nd:List Nd)(hnd:nd.length≤1000)(sh:List Int)(hsh:sh.length≤100)(w:Spc)(nm:ByteArray)(rmp tk:Int)(SG FL RL:List (List D))(l:List Slc)(df:List Dfc)(pds:List Pd)(hpd:PdK pds nd)(a b c d' e f g h:Int)
include hnd hsh hpd
theorem cutsP_loop:∀(n i:Nat) (rest:List Int),sh.drop i=rest→rest.length<n→i≤sh.length→∀(ns:List Nw) (fl f2:Bool) (rp:List Int) (sw:List Rc),NOK nd ns→RpK nd rp→rp.length≤1000→sw.length≤i→
  ∃(ns':List Nw) (fl':Bool) (rp':List Int) (sw':List Rc),L_top_boards 8 n ⟨HBt (l.map eSl) (df.map eDf) i,(3,.box 49 (lifeC r nd sh w nm rmp tk SG FL RL))::lineP (l.map eSl) (df.map eDf) (pds.map ePd) a b c d' e f g h fl f2 ns rp sw⟩=
   some (.ex 0,⟨HXt (l.map eSl) (df.map eDf),(3,.box 49 (lifeC r nd sh w nm rmp tk SG FL RL))::lineP (l.map eSl) (df.map eDf) (pds.map ePd) a b c d' e f g h fl' f2 ns' rp' sw'⟩)∧NOK nd ns':=by
 intro n
 induction n with
 |zero=>intro i rest _ hn;omega
 |succ n ih=>
  intro i rest hr hn hin ns fl f2 rp sw hok hrp hrl hsw
  cases rest with
  |nil=>
   have hle:=List.drop_eq_nil_iff.1 hr
   have hi:¬(i:Int)<sh.length:=by omega
   refine⟨ns,fl,rp,sw, ?_,hok⟩
   rw[L_top_boards_succ,R_top_boards_eq]
   generalize l.map eSl=S at*
   generalize df.map eDf=F at*
   generalize pds.map ePd=C at*
   simp only[HBt,HXt,lifeC,lineP]
   simp[hi]
  |cons q rest=>
   obtain⟨g4,g5,g3⟩:=drop_lt hr
   simp only[List.length_cons] at hn
   have hi:(i:Int)<sh.length:=by omega
   have hw:IntKind.i64.wrap ((i:Int)+1)=i+1:=wrap64 (by omega) (by omega)
   obtain⟨er,ns1,fl1,st,hc,hst,ok1⟩:=cut2_run l df pds a b c d' e f g h f2 nd hpd hnd ns hok fl rp hrp sw (by omega) hrl q
   rcases hst with rfl|⟨k,rp1,s1,rfl,rfl⟩
   ·obtain⟨ns2,fl2,rp2,sw2,h1,h2⟩:=ih (i+1) rest g3 (by omega) (by omega) ns fl f2 rp sw hok hrp hrl (by omega)
    refine⟨ns2,fl2,rp2,sw2, ?_,h2⟩
    rw[L_top_boards_succ,R_top_boards_eq]
    generalize l.map eSl=S at*
    generalize df.map eDf=F at*
    generalize pds.map ePd=C at*
    simp only[HBt,HXt,lifeC,lineP,lnP,lnQ] at hc h1⊢
    simp at hc h1
    simp[hi,g5,hw,hc,h1]
   ·obtain⟨ns2,fl2,rp2,sw2,h1,h2⟩:=ih (i+1) rest g3 (by omega) (by omega) ns1 fl1 f2 rp1 (sw++[s1]) ok1 (fun x hx=>hrp x (List.mem_cons_of_mem _ hx)) (by simp at hrl;omega) (by simp;omega)
    refine⟨ns2,fl2,rp2,sw2, ?_,h2⟩
    rw[L_top_boards_succ,R_top_boards_eq]
    generalize l.map eSl=S at*
    generalize df.map eDf=F at*
    generalize pds.map ePd=C at*
    simp only[HBt,HXt,lifeC,lineP,lnP,lnQ] at hc h1⊢
    simp at hc h1
    simp[hi,g5,hw,hc,h1]
theorem cutsO_loop:∀(n i:Nat) (rest:List Int),sh.drop i=rest→rest.length<n→i≤sh.length→∀(ns:List Nw) (fl f1 f2:Bool) (rp:List Int) (sw:List Rc),NOK nd ns→RpK nd rp→rp.length≤1000→sw.length≤i→
  ∃(ns':List Nw) (fl':Bool) (rp':List Int) (sw':List Rc) (ob:List (Nat×O)),L_top_boards 8 n ⟨HBt (l.map eSl) (df.map eDf) i,(3,.box 49 (lifeC r nd sh w nm rmp tk SG FL RL))::lineO (l.map eSl) (df.map eDf) (pds.map ePd) a b c d' e f g h fl f1 f2 ns rp sw⟩=
   some (.ex 0,⟨HXt (l.map eSl) (df.map eDf),(3,.box 49 (lifeC r nd sh w nm rmp tk SG FL RL))::ob⟩)∧NOK nd ns'∧(ob=lineP (l.map eSl) (df.map eDf) (pds.map ePd) a b c d' e f g h fl' f2 ns' rp' sw'∨ob=lineO (l.map eSl) (df.map eDf) (pds.map ePd) a b c d' e f g h fl' f1 f2 ns' rp' sw'):=by
 intro n
 induction n with
 |zero=>intro i rest _ hn;omega
 |succ n ih=>
  intro i rest hr hn hin ns fl f1 f2 rp sw hok hrp hrl hsw
  cases rest with
  |nil=>
   have hle:=List.drop_eq_nil_iff.1 hr
   have hi:¬(i:Int)<sh.length:=by omega
   refine⟨ns,fl,rp,sw,_, ?_,hok,.inr rfl⟩
   rw[L_top_boards_succ,R_top_boards_eq]
   generalize l.map eSl=S at*
   generalize df.map eDf=F at*
   generalize pds.map ePd=C at*
   simp only[HBt,HXt,lifeC,lineO]
   simp[hi]
  |cons q rest=>
   obtain⟨g4,g5,g3⟩:=drop_lt hr
   simp only[List.length_cons] at hn
   have hi:(i:Int)<sh.length:=by omega
   have hw:IntKind.i64.wrap ((i:Int)+1)=i+1:=wrap64 (by omega) (by omega)
   obtain⟨er,ns1,fl1,st,hc,hst,ok1⟩:=cut_run l df pds a b c d' e f g h f1 f2 nd hpd hnd ns hok fl rp hrp sw (by omega) hrl q
   rcases hst with rfl|⟨k,rp1,s1,rfl,rfl⟩
   ·obtain⟨ns2,fl2,rp2,sw2,ob,h1,h2⟩:=ih (i+1) rest g3 (by omega) (by omega) ns fl f1 f2 rp sw hok hrp hrl (by omega)
    refine⟨ns2,fl2,rp2,sw2,ob, ?_,h2⟩
    clear h2
    rw[L_top_boards_succ,R_top_boards_eq]
    generalize l.map eSl=S at*
    generalize df.map eDf=F at*
    generalize pds.map ePd=C at*
    simp only[HBt,HXt,lifeC,lineO,lnO,lnC] at hc h1⊢
    simp at hc h1
    simp[hi,g5,hw,hc,h1]
   ·obtain⟨ns2,fl2,rp2,sw2,h1,h2⟩:=cutsP_loop r nd hnd sh hsh w nm rmp tk SG FL RL l df pds hpd a b c d' e f g h n (i+1) rest g3 (by omega) (by omega) ns1 fl1 f2 rp1 (sw++[s1]) ok1 (fun x hx=>hrp x (List.mem_cons_of_mem _ hx)) (by simp at hrl;omega) (by simp;omega)
    refine⟨ns2,fl2,rp2,sw2,_, ?_,h2,.inl rfl⟩
    rw[L_top_boards_succ,R_top_boards_eq]
    generalize l.map eSl=S at*
    generalize df.map eDf=F at*
    generalize pds.map ePd=C at*
    simp only[HBt,HXt,lifeC,lineO,lineP,lnO,lnC,lnP,lnQ] at hc h1⊢
    simp at hc h1
    simp[hi,g5,hw,hc,h1]
end
end Go.Proofs.YtbdgblipbpadeaaGreatDoor
namespace Go.Proofs.YtbdgblipbpadeaaGreatDoor
open Go Go.Abs
set_option maxHeartbeats 4000000
set_option maxRecDepth 100000
abbrev idB:ByteArray:=⟨#[66,48,48,48,48,48,49,77]⟩
abbrev lgB:ByteArray:=⟨#[76,48,48,48,48,48,49,87]⟩
theorem out_loop(r:Rc)(nd:List Nd)(sh:List Int)(w:Spc)(nm:ByteArray)(rmp tk:Int)(SG FL RL:List (List D))(l:List Slc)(df:List Dfc)(cs:List Ct)(hcs:cs.length≤1000):∀(n i:Nat) (rest:List Ct),cs.drop i=rest→rest.length<n→i≤cs.length→∀(q:List Bd) (fl:Bool),q.length≤i→
  ∃(q':List Bd) (fl':Bool),L_top_boards 14 n ⟨[(0,.any),(1,.any),(2,.any),(3,.ptr 3 0),(4,.any),(5,.any),(6,.sl (l.map eSl)),(7,.sl (df.map eDf)),(8,.any),(9,.any),(10,.any),(11,.own true (cs.map eCt)),(12,.row 12),(13,I i)],[(3,.box 49 (lifeC r nd sh w nm rmp tk SG FL RL)),(12,.row 68 18 fl (q.map eBd))]⟩=
   some (.ex 2,⟨[(0,.any),(1,.any),(2,.any),(3,.any),(4,.any),(5,.any),(6,.any),(7,.any),(8,.any),(9,.any),(10,.any),(11,.any),(12,.row 12),(13,.any)],[(12,.row 68 18 fl' (q'.map eBd))]⟩):=by
 intro n
 induction n with
 |zero=>intro i rest _ hn;omega
 |succ n ih=>
  intro i rest hr hn hin q fl hq
  cases rest with
  |nil=>
   have hle:=List.drop_eq_nil_iff.1 hr
   have hi:¬(i:Int)<cs.length:=by omega
   refine⟨q,fl, ?_⟩
   rw[L_top_boards_succ,R_top_boards_eq]
   generalize l.map eSl=S1 at*
   generalize df.map eDf=F1 at*
   simp only[lifeC]
   simp[hi]
  |cons c rest=>
   obtain⟨g4,g5,g3⟩:=drop_lt hr
   simp only[List.length_cons] at hn
   have hi:(i:Int)<cs.length:=by omega
   have hw:IntKind.i64.wrap ((i:Int)+1)=i+1:=wrap64 (by omega) (by omega)
   have hb:=bnew_run idB lgB w l df c.cp c.cb
   generalize newB idB lgB w l df c.cp c.cb=b at*
   have hl:(q.length+1)*185≤140737488355328:=by omega
   obtain⟨q',fl',h1⟩:=ih (i+1) rest g3 (by omega) (by omega) (q++[b]) false (by simp;omega)
   refine⟨q',fl', ?_⟩
   rw[L_top_boards_succ,R_top_boards_eq]
   generalize l.map eSl=S1 at*
   generalize df.map eDf=F1 at*
   simp only[lifeC,idB,lgB,eBo] at hb h1⊢
   simp at hb h1
   simp[hi,g5,hw,hb,hl,h1]
theorem bdsM_len:∀ns:List Nw,(bdsM ns).length≤ns.length
 |[]=>by simp[bdsM]
 |n::r=>by
  have:=bdsM_len r
  simp only[bdsM,List.length_append,List.length_cons]
  split<;>simp<;>omega
theorem tboards_run(rg:List Rg)(df:List Dfc)(pds:List Pd)(a b c d' e f g lim gap:Int)(r:Rc)(nd:List Nd)(sh:List Int)(hsh:sh.length≤100)(w:Spc)(nm:ByteArray)(rmp tk:Int)(SG FL RL:List (List D))(hr:I64R r)(hn:∀n∈nd,i64 n.at')
  (ls:List Slc)(hp:F_turns_Place [.agg [.sl (rg.map eRg),.sl (df.map eDf)],I 0,I lim,I gap]=some (.tup [.sl (ls.map eSl),.sl (df.map eDf),I 0])):
  (∃x:Int,x≠0∧F_top_boards [.agg [.sl (rg.map eRg),.sl (df.map eDf),.sl (pds.map ePd),I a,I b,I c,I d',I e,I f,I g,I lim,I gap],.agg (lifeC r nd sh w nm rmp tk SG FL RL)]=some (.tup [.own true [],I x]))∨
  ∃(q:List Bd) (fl:Bool),F_top_boards [.agg [.sl (rg.map eRg),.sl (df.map eDf),.sl (pds.map ePd),I a,I b,I c,I d',I e,I f,I g,I lim,I gap],.agg (lifeC r nd sh w nm rmp tk SG FL RL)]=some (.tup [.own fl (q.map eBd),I 0]):=by
 rcases new_run ls df pds r nd a b c d' e f g hr hn with⟨x,hx,h1⟩|⟨ns,rp,fl,h1,hok,hrp,hpd,hnd,hrl⟩
 ·left
  refine⟨x,hx, ?_⟩
  rw[F_top_boards_eq]
  simp only[lifeC]
  simp[hp,h1,hx]
 ·right
  obtain⟨ns1,fl1,rp1,sw1,ob,h2,ok1,hob⟩:=cutsO_loop r nd (by omega) sh hsh w nm rmp tk SG FL RL ls df pds hpd a b c d' e f g (lengthM ls) bigL 0 sh rfl (by have:=bigL_ge;omega) (by omega) ns fl true true rp [] hok hrp (by omega) (by simp)
  have hbl:=bdsM_len ns1
  have hns:=ok1.len
  obtain⟨q,fl2,h4⟩:=out_loop r nd sh w nm rmp tk SG FL RL ls df (bdsM ns1) (by omega) bigL 0 (bdsM ns1) rfl (by have:=bigL_ge;omega) (by omega) [] true (by simp)
  refine⟨q,fl2, ?_⟩
  rcases hob with rfl|rfl
  ·have h3:=boards_run (ls.map eSl) (df.map eDf) (pds.map ePd) (rp1.map eI) (sw1.map eRc) a b c d' e f g (lengthM ls) ns1 (by omega)
   generalize bdsM ns1=cs at*
   rw[F_top_boards_eq]
   generalize ls.map eSl=S1 at*
   generalize df.map eDf=F1 at*
   generalize pds.map ePd=C1 at*
   generalize lengthM ls=ln at*
   simp only[lifeC,HBt,HXt,lineO,lineP,lnN] at h1 h2 h3 h4⊢
   simp at h1 h2 h3 h4
   simp[hp,h1,h2,h3,h4]
   done
  ·have h3:=boards_run (ls.map eSl) (df.map eDf) (pds.map ePd) (rp1.map eI) (sw1.map eRc) a b c d' e f g (lengthM ls) ns1 (by omega)
   generalize bdsM ns1=cs at*
   rw[F_top_boards_eq]
   generalize ls.map eSl=S1 at*
   generalize df.map eDf=F1 at*
   generalize pds.map ePd=C1 at*
   generalize lengthM ls=ln at*
   simp only[lifeC,HBt,HXt,lineO,lineP,lnN] at h1 h2 h3 h4⊢
   simp at h1 h2 h3 h4
   simp[hp,h1,h2,h3,h4]
   done
end Go.Proofs.YtbdgblipbpadeaaGreatDoor
