/-
  The saw line: its nodes; link, run abstractly.
-/
import Derived.Test.YtbdgblipbpadeaaGreatDoorNq
import Derived.Test.YtbdgblipbpadeaaGreatDoorNn
set_option linter.unusedSimpArgs false
set_option linter.unusedVariables false
set_option linter.defProp false
namespace Go.Proofs.YtbdgblipbpadeaaGreatDoor
open Go Go.Abs
set_option maxHeartbeats 4000000
set_option maxRecDepth 100000
structure Nw where
 kind:Int
 at':Int
 first:Int
 second:Int
 stands:Bool
 rect:Rc
 leaf:Int
 plan:Rc
 gives:Bool
 cl:Int
 cp:Int
 cb:Bx
 cw:Int
def eNw(n:Nw):List D:=[I n.kind,I n.at',I n.first,I n.second,B n.stands,I n.rect.xa,I n.rect.xb,I n.rect.ya,I n.rect.yb,I n.leaf,I n.plan.xa,I n.plan.xb,I n.plan.ya,I n.plan.yb,B n.gives,I n.cl,I n.cp,I n.cb.xa,I n.cb.xb,I n.cb.ya,I n.cb.yb,I n.cb.za,I n.cb.zb,I n.cw]
@[simp] theorem eNw_eq(n:Nw):eNw n=[I n.kind,I n.at',I n.first,I n.second,B n.stands,I n.rect.xa,I n.rect.xb,I n.rect.ya,I n.rect.yb,I n.leaf,I n.plan.xa,I n.plan.xb,I n.plan.ya,I n.plan.yb,B n.gives,I n.cl,I n.cp,I n.cb.xa,I n.cb.xb,I n.cb.ya,I n.cb.yb,I n.cb.za,I n.cb.zb,I n.cw]:=rfl
abbrev lnC(S F C:List (List D))(a b c d e f g h:Int):List D:=[.sl S,.sl F,.sl C,I a,I b,I c,I d,I e,I f,I g,I h,.row 1111,.row 110012,.row 110013]
abbrev lnO(S F C:List (List D))(a b c d e f g h:Int)(fl f1 f2:Bool)(ns:List Nw)(rp:List Int)(sw:List Rc):List (Nat×O):=[(1000,.box 175 (lnC S F C a b c d e f g h)),(1111,.row 179 24 fl (ns.map eNw)),(110012,.row 3 1 f1 (rp.map eI)),(110013,.row 36 4 f2 (sw.map eRc))]
structure NOK(nd:List Nd)(ns:List Nw):Prop where
 len:ns.length=nd.length
 ok:∀(k:Nat) (w:Nw) (n:Nd),ns[k]? =some w→nd[k]? =some n→w.kind=n.kind∧w.at'=n.at'∧(0≤w.first∧w.first<nd.length)∧0≤w.second∧w.second<nd.length
theorem NOK.set{nd:List Nd}{ns:List Nw}(h:NOK nd ns){i:Nat}{w w':Nw}(hw:ns[i]? =some w)(h1:w'.kind=w.kind)(h2:w'.at'=w.at')(h3:0≤w'.first∧w'.first<nd.length)(h4:0≤w'.second∧w'.second<nd.length):NOK nd (ns.set i w'):=by
 refine⟨by simp[h.len],fun k u n hu hn=>?_⟩
 by_cases e:i=k
 ·subst e
  have hi:i<ns.length:=(List.getElem?_eq_some_iff.1 hw).1
  rw[List.getElem?_set_self hi] at hu
  cases hu
  have:=h.ok i w n hw hn
  exact⟨h1.trans this.1,h2.trans this.2.1,h3,h4⟩
 ·rw[List.getElem?_set_ne e] at hu
  exact h.ok k u n hu hn
theorem NOK.get{nd:List Nd}{ns:List Nw}(h:NOK nd ns){i:Nat}{n:Nd}(hn:nd[i]? =some n):∃w,ns[i]? =some w∧w.kind=n.kind∧w.at'=n.at'∧(0≤w.first∧w.first<nd.length)∧0≤w.second∧w.second<nd.length:=by
 have hi:i<ns.length:=by rw[h.len];exact(List.getElem?_eq_some_iff.1 hn).1
 exact⟨_,List.getElem?_eq_getElem hi,h.ok i _ n (List.getElem?_eq_getElem hi) hn⟩
inductive NTr:List Nd→List Nd→Prop
 |leaf (n:Nd) (r:List Nd) (h:isRipM n.kind=false):NTr (n::r) r
 |rip (n:Nd) (r r1 r2:List Nd) (h:isRipM n.kind=true) (h1:NTr r r1) (h2:NTr r1 r2):NTr (n::r) r2
theorem ck_tree(kerf:Int)(bd:Rc→Int→Int):∀(L:Nat) (rest:List Nd) (x:Plc) (o:List Plc),rest.length≤L→ckM kerf bd rest (x::o)=0→∃rest',NTr rest rest'∧ckM kerf bd rest' o=0∧rest'.length<rest.length:=by
 intro L
 induction L with
 |zero=>
  intro rest x o hL h
  cases rest with
  |nil=>cases h
  |cons n r=>simp at hL
 |succ L ih=>
  intro rest x o hL h
  cases rest with
  |nil=>cases h
  |cons n r=>
   have hn:=(ckM_next h).2.2
   simp only[List.length_cons] at hL
   unfold pushM at hn
   cases hk:isRipM n.kind
   ·rw[if_neg (by rw[hk];simp)] at hn
    exact⟨r,.leaf n r hk,hn,by simp⟩
   ·rw[if_pos hk] at hn
    obtain⟨r1,t1,c1,l1⟩:=ih r _ _ (by omega) hn
    obtain⟨r2,t2,c2,l2⟩:=ih r1 _ _ (by omega) c1
    exact⟨r2,.rip n r r1 r2 hk t1 t2,c2,by simp;omega⟩
theorem NTr.ne{a b:List Nd}(h:NTr a b):∃n r,a=n::r:=by cases h<;>exact⟨_,_,rfl⟩
theorem drop_lt{α:Type}{l:List α}{i:Nat}{n:α}{r:List α}(h:l.drop i=n::r):i<l.length∧l[i]? =some n∧l.drop (i+1)=r:=by
 refine⟨?_, ?_, ?_⟩
 ·by_cases hi:i<l.length
  ·exact hi
  ·rw[List.drop_of_length_le (by omega)] at h;cases h
 ·have:=congrArg List.head? h;simpa using this
 ·have:=congrArg List.tail h;simpa using this
theorem link_run(S F C:List (List D))(a b c d e f g h:Int)(f1 f2:Bool)(rp:List Int)(sw:List Rc)(nd:List Nd)(hl:nd.length≤1000){rest rest':List Nd}(ht:NTr rest rest'):
  ∀(i m:Nat) (ns:List Nw) (fl:Bool),nd.drop i=rest→rest.length≤m→NOK nd ns→∃(j:Nat) (ns':List Nw) (fl':Bool),EN_sawline_Line_link m (lnO S F C a b c d e f g h fl f1 f2 ns rp sw) [.ptr 1000 0,I i]=some (I j,lnO S F C a b c d e f g h fl' f1 f2 ns' rp sw)∧NOK nd ns'∧nd.drop j=rest'∧rest'.length<rest.length:=by
 induction ht with
 |leaf n r hk=>
  intro i m ns fl hr hm hok
  obtain⟨g4,g5,g3⟩:=drop_lt hr
  obtain⟨w,hw,e1,e2,-,-⟩:=hok.get g5
  have hi:(i:Int)<ns.length:=by rw[hok.len];omega
  have hwr:IntKind.i64.wrap ((i:Int)+1)=i+1:=wrap64 (by omega) (by omega)
  have hk2:w.kind≠2∧w.kind≠3:=by rw[e1];simpa[isRipM] using hk
  refine⟨i+1,ns,fl, ?_,hok,g3,by simp⟩
  cases m with
  |zero=>simp at hm
  |succ m=>
   rw[EN_sawline_Line_link_eq]
   simp only[lnO,lnC]
   simp[hw,hi,hwr,hk2.1,hk2.2]
 |rip n r r1 r2 hk t1 t2 ih1 ih2=>
  intro i m ns fl hr hm hok
  obtain⟨g4,g5,g3⟩:=drop_lt hr
  obtain⟨w,hw,e1,e2,-,e4⟩:=hok.get g5
  have hi:(i:Int)<ns.length:=by rw[hok.len];omega
  have hin:i<ns.length:=by rw[hok.len];omega
  have hwr:IntKind.i64.wrap ((i:Int)+1)=i+1:=wrap64 (by omega) (by omega)
  simp only[List.length_cons] at hm
  cases m with
  |zero=>omega
  |succ m=>
   obtain⟨n1,q1,rfl⟩:=t1.ne
   have hj1:=drop_lt g3
   have ok1:=hok.set (w':={w with first:=(i:Int)+1}) hw rfl rfl ⟨by simp;omega,by simp;omega⟩ e4
   obtain⟨j,ns1,fl1,h1,ok2,hd1,hlt1⟩:=ih1 (i+1) m _ fl g3 (by omega) ok1
   obtain⟨n2,q2,rfl⟩:=t2.ne
   have hj2:=drop_lt hd1
   obtain⟨w2,hw2,e5,e6,e7,e8⟩:=ok2.get g5
   have ok3:=ok2.set (w':={w2 with second:=(j:Int)}) hw2 rfl rfl e7 ⟨by simp,by simp;omega⟩
   obtain⟨k,ns2,fl2,h2,ok4,hd2,hlt2⟩:=ih2 j m _ fl1 hd1 (by omega) ok3
   refine⟨k,ns2,fl2, ?_,ok4,hd2,by simp at*;omega⟩
   have hl2:(i:Int)<ns1.length:=by rw[ok2.len];omega
   have hin2:i<ns1.length:=by rw[ok2.len];omega
   have hset:∀E,((List.map eNw ns).set i E)[i]? =some E:=fun E=>List.getElem?_set_self (by simpa using hin)
   have hset2:∀E,((List.map eNw ns1).set i E)[i]? =some E:=fun E=>List.getElem?_set_self (by simpa using hin2)
   clear hin hin2 ok1 ok2 ok3 ok4 ih1 ih2
   rw[EN_sawline_Line_link_eq]
   simp only[lnO,lnC] at h1 h2⊢
   have hk':w.kind=2∨w.kind=3:=by rw[e1];simpa[isRipM] using hk
   simp at h1 h2
   rcases hk' with hk'|hk'
   ·simp[hk'] at h1
    simp[hw,hi,hk',hwr,h1,hset,hset2,hw2,hl2,h2]
   ·simp[hk'] at h1
    simp[hw,hi,hk',hwr,h1,hset,hset2,hw2,hl2,h2]
end Go.Proofs.YtbdgblipbpadeaaGreatDoor
namespace Go.Proofs.YtbdgblipbpadeaaGreatDoor
open Go Go.Abs
set_option maxHeartbeats 4000000
set_option maxRecDepth 100000
def PdK(pds:List Pd)(nd:List Nd):Prop:=(∀n∈nd,n.kind=1→0≤n.at'∧n.at'<pds.length)∧∀p∈pds,p.lens.length≤1000000
theorem stand_run(l:List Slc)(d:List Dfc)(pds:List Pd)(a b c d' e f g h:Int)(f1 f2:Bool)(rp:List Int)(sw:List Rc)(nd:List Nd)(hpd:PdK pds nd)(ns:List Nw)(hok:NOK nd ns)(i:Int)(hi0:0≤i)(hi:i<nd.length)(fl:Bool)(r:Rc):
  ∃(ns':List Nw) (fl':Bool),E_sawline_Line_stand (lnO (l.map eSl) (d.map eDf) (pds.map ePd) a b c d' e f g h fl f1 f2 ns rp sw) [.ptr 1000 0,I i,.agg (eRc r)]=some (.tup [],lnO (l.map eSl) (d.map eDf) (pds.map ePd) a b c d' e f g h fl' f1 f2 ns' rp sw)∧NOK nd ns':=by
 obtain⟨i,rfl⟩:∃k:Nat,i=k:=⟨i.toNat,by omega⟩
 have hin:i<nd.length:=by omega
 have hn:nd[i]? =some nd[i]:=List.getElem?_eq_getElem hin
 obtain⟨w,hw,e1,e2,e3,e4⟩:=hok.get hn
 have hmem:nd[i]∈nd:=List.getElem_mem hin
 have hi':(i:Int)<ns.length:=by rw[hok.len];omega
 have hset:∀E,((List.map eNw ns).set i E)[i]? =some E:=fun E=>List.getElem?_set_self (by rw[List.length_map,hok.len];exact hin)
 have ok1:=hok.set (w':={w with stands:=true,rect:=r}) hw rfl rfl e3 e4
 have res:∀w':Nw,List.map eNw (ns.set i w')=(List.map eNw ns).set i (eNw w'):=fun w'=>List.map_set
 by_cases hk:w.kind=1
 ·have hat:0≤w.at'∧w.at'<pds.length:=by rw[e2];exact hpd.1 _ hmem (by rw[←e1];exact hk)
  have hlt:w.at'.toNat<pds.length:=by omega
  obtain⟨p,hp,hpm⟩:∃p,pds[w.at'.toNat]? =some p∧p∈pds:=⟨_,List.getElem?_eq_getElem hlt,List.getElem_mem hlt⟩
  have h0:=hat.1
  clear hlt hat
  have hpl:=hpd.2 p hpm
  clear hpm
  by_cases c1:IntKind.i64.wrap (r.xb-r.xa)<IntKind.i64.wrap (w.plan.xb-w.plan.xa)
  ·refine⟨_,fl, ?_,ok1⟩
   rw[E_sawline_Line_stand_eq]
   simp only[lnO,lnC,res]
   simp[hw,hi',hset,hk,c1]
  by_cases c2:IntKind.i64.wrap (r.yb-r.ya)<IntKind.i64.wrap (w.plan.yb-w.plan.ya)
  ·refine⟨_,fl, ?_,ok1⟩
   rw[E_sawline_Line_stand_eq]
   simp only[lnO,lnC,res]
   simp[hw,hi',hset,hk,c1,c2]
  obtain⟨z1,z2,z3,ok,hb⟩:=best_run l d p r.xa (IntKind.i64.wrap (r.xa+IntKind.i64.wrap (w.plan.xb-w.plan.xa))) r.ya (IntKind.i64.wrap (r.ya+IntKind.i64.wrap (w.plan.yb-w.plan.ya))) d' g hpl
  generalize l.map eSl=S at*
  generalize d.map eDf=F at*
  cases ok
  ·refine⟨_,fl, ?_,ok1⟩
   rw[E_sawline_Line_stand_eq]
   simp only[lnO,lnC,res]
   simp at hb
   simp[hw,hi',hset,hk,c1,c2,h0,hp,hb]
  ·refine⟨ns.set i {w with stands:=true,rect:=r,gives:=true,cl:=w.leaf,cp:=w.at',cb:=⟨r.xa,IntKind.i64.wrap (r.xa+IntKind.i64.wrap (w.plan.xb-w.plan.xa)),r.ya,IntKind.i64.wrap (r.ya+IntKind.i64.wrap (w.plan.yb-w.plan.ya)),z1,z2⟩,cw:=z3},fl, ?_,hok.set hw rfl rfl e3 e4⟩
   rw[E_sawline_Line_stand_eq]
   simp only[lnO,lnC,res]
   simp at hb
   simp[hw,hi',hset,hk,c1,c2,h0,hp,hb]
 ·refine⟨_,fl, ?_,ok1⟩
  rw[E_sawline_Line_stand_eq]
  simp only[lnO,lnC,res]
  simp[hw,hi',hset,hk]
end Go.Proofs.YtbdgblipbpadeaaGreatDoor
