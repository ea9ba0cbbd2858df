/-
  The saw line: Cut, run abstractly.
-/
import Derived.Test.YtbdgblipbpadeaaGreatDoorNr
set_option linter.unusedSimpArgs false
set_option linter.unusedVariables false
set_option linter.defProp false
namespace Go.Proofs.YtbdgblipbpadeaaGreatDoor
open Go Go.Abs
set_option maxHeartbeats 4000000
set_option maxRecDepth 100000
abbrev lnQ(S F C R:List (List D))(a b c d e f g h:Int):List D:=[.sl S,.sl F,.sl C,I a,I b,I c,I d,I e,I f,I g,I h,.row 1111,.sl R,.row 110013]
abbrev lnP(S F C:List (List D))(a b c d e f g h:Int)(fl f2:Bool)(ns:List Nw)(rp:List Int)(sw:List Rc):List (Nat×O):=[(1000,.box 175 (lnQ S F C (rp.map eI) a b c d e f g h)),(1111,.row 179 24 fl (ns.map eNw)),(110013,.row 36 4 f2 (sw.map eRc))]
theorem stand2_run(l:List Slc)(d:List Dfc)(pds:List Pd)(a b c d' e f g h:Int)(f2:Bool)(rp:List Int)(sw:List Rc)(nd:List Nd)(hpd:PdK pds nd)(ns:List Nw)(hok:NOK nd ns)(i:Int)(hi0:0≤i)(hi:i<nd.length)(fl:Bool)(r:Rc):
  ∃(ns':List Nw) (fl':Bool),E_sawline_Line_stand (lnP (l.map eSl) (d.map eDf) (pds.map ePd) a b c d' e f g h fl f2 ns rp sw) [.ptr 1000 0,I i,.agg (eRc r)]=some (.tup [],lnP (l.map eSl) (d.map eDf) (pds.map ePd) a b c d' e f g h fl' f2 ns' rp sw)∧NOK nd ns':=by
 obtain⟨i,rfl⟩:∃k:Nat,i=k:=⟨i.toNat,by omega⟩
 have hin:i<nd.length:=by omega
 have hn:nd[i]? =some nd[i]:=List.getElem?_eq_getElem hin
 obtain⟨w,hw,e1,e2,e3,e4⟩:=hok.get hn
 have hmem:nd[i]∈nd:=List.getElem_mem hin
 have hi':(i:Int)<ns.length:=by rw[hok.len];omega
 have hset:∀E,((List.map eNw ns).set i E)[i]? =some E:=fun E=>List.getElem?_set_self (by rw[List.length_map,hok.len];exact hin)
 have ok1:=hok.set (w':={w with stands:=true,rect:=r}) hw rfl rfl e3 e4
 have res:∀w':Nw,List.map eNw (ns.set i w')=(List.map eNw ns).set i (eNw w'):=fun w'=>List.map_set
 by_cases hk:w.kind=1
 ·have hat:0≤w.at'∧w.at'<pds.length:=by rw[e2];exact hpd.1 _ hmem (by rw[←e1];exact hk)
  have hlt:w.at'.toNat<pds.length:=by omega
  obtain⟨p,hp,hpm⟩:∃p,pds[w.at'.toNat]? =some p∧p∈pds:=⟨_,List.getElem?_eq_getElem hlt,List.getElem_mem hlt⟩
  have h0:=hat.1
  clear hlt hat
  have hpl:=hpd.2 p hpm
  clear hpm
  by_cases c1:IntKind.i64.wrap (r.xb-r.xa)<IntKind.i64.wrap (w.plan.xb-w.plan.xa)
  ·refine⟨_,fl, ?_,ok1⟩
   rw[E_sawline_Line_stand_eq]
   simp only[lnP,lnQ,res]
   simp[hw,hi',hset,hk,c1]
  by_cases c2:IntKind.i64.wrap (r.yb-r.ya)<IntKind.i64.wrap (w.plan.yb-w.plan.ya)
  ·refine⟨_,fl, ?_,ok1⟩
   rw[E_sawline_Line_stand_eq]
   simp only[lnP,lnQ,res]
   simp[hw,hi',hset,hk,c1,c2]
  obtain⟨z1,z2,z3,ok,hb⟩:=best_run l d p r.xa (IntKind.i64.wrap (r.xa+IntKind.i64.wrap (w.plan.xb-w.plan.xa))) r.ya (IntKind.i64.wrap (r.ya+IntKind.i64.wrap (w.plan.yb-w.plan.ya))) d' g hpl
  generalize l.map eSl=S at*
  generalize d.map eDf=F at*
  cases ok
  ·refine⟨_,fl, ?_,ok1⟩
   rw[E_sawline_Line_stand_eq]
   simp only[lnP,lnQ,res]
   simp at hb
   simp[hw,hi',hset,hk,c1,c2,h0,hp,hb]
  ·refine⟨ns.set i {w with stands:=true,rect:=r,gives:=true,cl:=w.leaf,cp:=w.at',cb:=⟨r.xa,IntKind.i64.wrap (r.xa+IntKind.i64.wrap (w.plan.xb-w.plan.xa)),r.ya,IntKind.i64.wrap (r.ya+IntKind.i64.wrap (w.plan.yb-w.plan.ya)),z1,z2⟩,cw:=z3},fl, ?_,hok.set hw rfl rfl e3 e4⟩
   rw[E_sawline_Line_stand_eq]
   simp only[lnP,lnQ,res]
   simp at hb
   simp[hw,hi',hset,hk,c1,c2,h0,hp,hb]
 ·refine⟨_,fl, ?_,ok1⟩
  rw[E_sawline_Line_stand_eq]
  simp only[lnP,lnQ,res]
  simp[hw,hi',hset,hk]
theorem takeAll{α β:Type}(f:α→β)(l:List α):List.take l.length (List.map f l)=List.map f l:=List.take_of_length_le (by simp)
def RpK(nd:List Nd)(rp:List Int):Prop:=∀k∈rp,∃i:Nat,k=i∧i<nd.length
theorem cut_run(l:List Slc)(d:List Dfc)(pds:List Pd)(a b c d' e f g h:Int)(f1 f2:Bool)(nd:List Nd)(hpd:PdK pds nd)(hnd:nd.length≤1000)(ns:List Nw)(hok:NOK nd ns)(fl:Bool)(rp:List Int)(hrp:RpK nd rp)(sw:List Rc)(hsw:sw.length≤1000)(hrl:rp.length≤1000)(sh:Int):
  ∃(er:Int) (ns':List Nw) (fl':Bool) (st:List (Nat×O)),E_sawline_Line_Cut (lnO (l.map eSl) (d.map eDf) (pds.map ePd) a b c d' e f g h fl f1 f2 ns rp sw) [.ptr 1000 0,I sh]=some (I er,st)∧
   (st=lnO (l.map eSl) (d.map eDf) (pds.map ePd) a b c d' e f g h fl f1 f2 ns rp sw∨∃k rp' s',rp=k::rp'∧st=lnP (l.map eSl) (d.map eDf) (pds.map ePd) a b c d' e f g h fl' f2 ns' rp' (sw++[s']))∧NOK nd ns':=by
 cases rp with
 |nil=>
  refine⟨18,ns,fl,_, ?_,.inl rfl,hok⟩
  rw[E_sawline_Line_Cut_eq]
  simp only[lnO,lnC]
  simp
 |cons k rp=>
  obtain⟨i,rfl,hin⟩:=hrp k (by simp)
  have hn:nd[i]? =some nd[i]:=List.getElem?_eq_getElem hin
  obtain⟨w,hw,-,-,e3,e4⟩:=hok.get hn
  have h1:(i:Int)<ns.length:=by rw[hok.len];omega
  have hl1:(rp.length:Int)+1≠0:=by omega
  have hl2:(0:Int)≤rp.length+1:=by omega
  have hl3:(1:Int)≤rp.length+1:=by omega
  have hb:(sw.length+1)*33≤140737488355328:=by omega
  have ht:=takeAll eI rp
  by_cases hk:w.kind=3
  ·by_cases c1:sh≤IntKind.i64.wrap (w.rect.ya-w.at')
   ·refine⟨9,ns,fl,_, ?_,.inl rfl,hok⟩
    rw[E_sawline_Line_Cut_eq]
    simp only[lnO,lnC]
    simp[hw,h1,hk,c1,hl1,hl2,hl3]
   by_cases c2:IntKind.i64.wrap (w.rect.yb-w.at')≤sh
   ·refine⟨9,ns,fl,_, ?_,.inl rfl,hok⟩
    rw[E_sawline_Line_Cut_eq]
    simp only[lnO,lnC]
    simp[hw,h1,hk,c1,c2,hl1,hl2,hl3]
   have hE:∃q,q=(if w.rect.yb<IntKind.i64.wrap (IntKind.i64.wrap (w.at'+sh)+a) then w.rect.yb else IntKind.i64.wrap (IntKind.i64.wrap (w.at'+sh)+a)):=⟨_,rfl⟩
   obtain⟨q,hq⟩:=hE
   obtain⟨ns1,fl1,s1,ok1⟩:=stand2_run l d pds a b c d' e f g h f2 rp (sw++[⟨w.rect.xa,w.rect.xb,IntKind.i64.wrap (w.at'+sh),q⟩]) nd hpd ns hok w.first e3.1 e3.2 fl ⟨w.rect.xa,w.rect.xb,w.rect.ya,IntKind.i64.wrap (w.at'+sh)⟩
   obtain⟨ns2,fl2,s2,ok2⟩:=stand2_run l d pds a b c d' e f g h f2 rp (sw++[⟨w.rect.xa,w.rect.xb,IntKind.i64.wrap (w.at'+sh),q⟩]) nd hpd ns1 ok1 w.second e4.1 e4.2 fl1 ⟨w.rect.xa,w.rect.xb,q,w.rect.yb⟩
   refine⟨0,ns2,fl2,_, ?_,.inr ⟨i,rp,⟨w.rect.xa,w.rect.xb,IntKind.i64.wrap (w.at'+sh),q⟩,rfl,rfl⟩,ok2⟩
   rw[E_sawline_Line_Cut_eq]
   simp only[lnO,lnC,lnP,lnQ] at s1 s2⊢
   simp at s1 s2
   simp[hw,h1,hk,c1,c2,hl1,hl2,hl3,hb,ht,←hq,s1,s2]
  ·by_cases c1:sh≤IntKind.i64.wrap (w.rect.xa-w.at')
   ·refine⟨9,ns,fl,_, ?_,.inl rfl,hok⟩
    rw[E_sawline_Line_Cut_eq]
    simp only[lnO,lnC]
    simp[hw,h1,hk,c1,hl1,hl2,hl3]
   by_cases c2:IntKind.i64.wrap (w.rect.xb-w.at')≤sh
   ·refine⟨9,ns,fl,_, ?_,.inl rfl,hok⟩
    rw[E_sawline_Line_Cut_eq]
    simp only[lnO,lnC]
    simp[hw,h1,hk,c1,c2,hl1,hl2,hl3]
   have hE:∃q,q=(if w.rect.xb<IntKind.i64.wrap (IntKind.i64.wrap (w.at'+sh)+a) then w.rect.xb else IntKind.i64.wrap (IntKind.i64.wrap (w.at'+sh)+a)):=⟨_,rfl⟩
   obtain⟨q,hq⟩:=hE
   obtain⟨ns1,fl1,s1,ok1⟩:=stand2_run l d pds a b c d' e f g h f2 rp (sw++[⟨IntKind.i64.wrap (w.at'+sh),q,w.rect.ya,w.rect.yb⟩]) nd hpd ns hok w.first e3.1 e3.2 fl ⟨w.rect.xa,IntKind.i64.wrap (w.at'+sh),w.rect.ya,w.rect.yb⟩
   obtain⟨ns2,fl2,s2,ok2⟩:=stand2_run l d pds a b c d' e f g h f2 rp (sw++[⟨IntKind.i64.wrap (w.at'+sh),q,w.rect.ya,w.rect.yb⟩]) nd hpd ns1 ok1 w.second e4.1 e4.2 fl1 ⟨q,w.rect.xb,w.rect.ya,w.rect.yb⟩
   refine⟨0,ns2,fl2,_, ?_,.inr ⟨i,rp,⟨IntKind.i64.wrap (w.at'+sh),q,w.rect.ya,w.rect.yb⟩,rfl,rfl⟩,ok2⟩
   rw[E_sawline_Line_Cut_eq]
   simp only[lnO,lnC,lnP,lnQ] at s1 s2⊢
   simp at s1 s2
   simp[hw,h1,hk,c1,c2,hl1,hl2,hl3,hb,ht,←hq,s1,s2]
theorem cut2_run(l:List Slc)(d:List Dfc)(pds:List Pd)(a b c d' e f g h:Int)(f2:Bool)(nd:List Nd)(hpd:PdK pds nd)(hnd:nd.length≤1000)(ns:List Nw)(hok:NOK nd ns)(fl:Bool)(rp:List Int)(hrp:RpK nd rp)(sw:List Rc)(hsw:sw.length≤1000)(hrl:rp.length≤1000)(sh:Int):
  ∃(er:Int) (ns':List Nw) (fl':Bool) (st:List (Nat×O)),E_sawline_Line_Cut (lnP (l.map eSl) (d.map eDf) (pds.map ePd) a b c d' e f g h fl f2 ns rp sw) [.ptr 1000 0,I sh]=some (I er,st)∧
   (st=lnP (l.map eSl) (d.map eDf) (pds.map ePd) a b c d' e f g h fl f2 ns rp sw∨∃k rp' s',rp=k::rp'∧st=lnP (l.map eSl) (d.map eDf) (pds.map ePd) a b c d' e f g h fl' f2 ns' rp' (sw++[s']))∧NOK nd ns':=by
 cases rp with
 |nil=>
  refine⟨18,ns,fl,_, ?_,.inl rfl,hok⟩
  rw[E_sawline_Line_Cut_eq]
  simp only[lnP,lnQ]
  simp
 |cons k rp=>
  obtain⟨i,rfl,hin⟩:=hrp k (by simp)
  have hn:nd[i]? =some nd[i]:=List.getElem?_eq_getElem hin
  obtain⟨w,hw,-,-,e3,e4⟩:=hok.get hn
  have h1:(i:Int)<ns.length:=by rw[hok.len];omega
  have hl1:(rp.length:Int)+1≠0:=by omega
  have hl2:(0:Int)≤rp.length+1:=by omega
  have hl3:(1:Int)≤rp.length+1:=by omega
  have hb:(sw.length+1)*33≤140737488355328:=by omega
  have ht:=takeAll eI rp
  by_cases hk:w.kind=3
  ·by_cases c1:sh≤IntKind.i64.wrap (w.rect.ya-w.at')
   ·refine⟨9,ns,fl,_, ?_,.inl rfl,hok⟩
    rw[E_sawline_Line_Cut_eq]
    simp only[lnP,lnQ]
    simp[hw,h1,hk,c1,hl1,hl2,hl3]
   by_cases c2:IntKind.i64.wrap (w.rect.yb-w.at')≤sh
   ·refine⟨9,ns,fl,_, ?_,.inl rfl,hok⟩
    rw[E_sawline_Line_Cut_eq]
    simp only[lnP,lnQ]
    simp[hw,h1,hk,c1,c2,hl1,hl2,hl3]
   have hE:∃q,q=(if w.rect.yb<IntKind.i64.wrap (IntKind.i64.wrap (w.at'+sh)+a) then w.rect.yb else IntKind.i64.wrap (IntKind.i64.wrap (w.at'+sh)+a)):=⟨_,rfl⟩
   obtain⟨q,hq⟩:=hE
   obtain⟨ns1,fl1,s1,ok1⟩:=stand2_run l d pds a b c d' e f g h f2 rp (sw++[⟨w.rect.xa,w.rect.xb,IntKind.i64.wrap (w.at'+sh),q⟩]) nd hpd ns hok w.first e3.1 e3.2 fl ⟨w.rect.xa,w.rect.xb,w.rect.ya,IntKind.i64.wrap (w.at'+sh)⟩
   obtain⟨ns2,fl2,s2,ok2⟩:=stand2_run l d pds a b c d' e f g h f2 rp (sw++[⟨w.rect.xa,w.rect.xb,IntKind.i64.wrap (w.at'+sh),q⟩]) nd hpd ns1 ok1 w.second e4.1 e4.2 fl1 ⟨w.rect.xa,w.rect.xb,q,w.rect.yb⟩
   refine⟨0,ns2,fl2,_, ?_,.inr ⟨i,rp,⟨w.rect.xa,w.rect.xb,IntKind.i64.wrap (w.at'+sh),q⟩,rfl,rfl⟩,ok2⟩
   rw[E_sawline_Line_Cut_eq]
   simp only[lnP,lnQ] at s1 s2⊢
   simp at s1 s2
   simp[hw,h1,hk,c1,c2,hl1,hl2,hl3,hb,ht,←hq,s1,s2]
  ·by_cases c1:sh≤IntKind.i64.wrap (w.rect.xa-w.at')
   ·refine⟨9,ns,fl,_, ?_,.inl rfl,hok⟩
    rw[E_sawline_Line_Cut_eq]
    simp only[lnP,lnQ]
    simp[hw,h1,hk,c1,hl1,hl2,hl3]
   by_cases c2:IntKind.i64.wrap (w.rect.xb-w.at')≤sh
   ·refine⟨9,ns,fl,_, ?_,.inl rfl,hok⟩
    rw[E_sawline_Line_Cut_eq]
    simp only[lnP,lnQ]
    simp[hw,h1,hk,c1,c2,hl1,hl2,hl3]
   have hE:∃q,q=(if w.rect.xb<IntKind.i64.wrap (IntKind.i64.wrap (w.at'+sh)+a) then w.rect.xb else IntKind.i64.wrap (IntKind.i64.wrap (w.at'+sh)+a)):=⟨_,rfl⟩
   obtain⟨q,hq⟩:=hE
   obtain⟨ns1,fl1,s1,ok1⟩:=stand2_run l d pds a b c d' e f g h f2 rp (sw++[⟨IntKind.i64.wrap (w.at'+sh),q,w.rect.ya,w.rect.yb⟩]) nd hpd ns hok w.first e3.1 e3.2 fl ⟨w.rect.xa,IntKind.i64.wrap (w.at'+sh),w.rect.ya,w.rect.yb⟩
   obtain⟨ns2,fl2,s2,ok2⟩:=stand2_run l d pds a b c d' e f g h f2 rp (sw++[⟨IntKind.i64.wrap (w.at'+sh),q,w.rect.ya,w.rect.yb⟩]) nd hpd ns1 ok1 w.second e4.1 e4.2 fl1 ⟨q,w.rect.xb,w.rect.ya,w.rect.yb⟩
   refine⟨0,ns2,fl2,_, ?_,.inr ⟨i,rp,⟨IntKind.i64.wrap (w.at'+sh),q,w.rect.ya,w.rect.yb⟩,rfl,rfl⟩,ok2⟩
   rw[E_sawline_Line_Cut_eq]
   simp only[lnP,lnQ] at s1 s2⊢
   simp at s1 s2
   simp[hw,h1,hk,c1,c2,hl1,hl2,hl3,hb,ht,←hq,s1,s2]
end Go.Proofs.YtbdgblipbpadeaaGreatDoor
