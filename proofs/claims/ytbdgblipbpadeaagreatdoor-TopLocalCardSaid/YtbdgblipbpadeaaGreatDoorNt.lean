/-
  sawline.New, run abstractly.
-/
import Derived.Test.YtbdgblipbpadeaaGreatDoorNs
import Derived.Test.YtbdgblipbpadeaaGreatDoorNq
import Derived.Test.YtbdgblipbpadeaaGreatDoorMt
import Derived.Test.YtbdgblipbpadeaaGreatDoorMy
import Derived.Test.YtbdgblipbpadeaaGreatDoorNm
import Derived.Test.YtbdgblipbpadeaaGreatDoorNn
set_option linter.unusedSimpArgs false
set_option linter.unusedVariables false
set_option linter.defProp false
namespace Go.Proofs.YtbdgblipbpadeaaGreatDoor
open Go Go.Abs
set_option maxHeartbeats 4000000
set_option maxRecDepth 100000
theorem lcheck_run(l:List Slc)(d:List Dfc)(pds:List Pd)(r:Rc)(nd:List Nd)(a b c d' e f g:Int)(q:Int)(hq:F_pattern_Check [.agg [I r.xa,I r.xb,I r.ya,I r.yb,.sl (nd.map eNd)],.sl (pds.map ePd),I a]=some (I q)):
  ∃x:Int,F_sawline_check [.sl (l.map eSl),.sl (d.map eDf),.sl (pds.map ePd),.agg [I r.xa,I r.xb,I r.ya,I r.yb,.sl (nd.map eNd)],.agg [I a,I b,I c,I d'],.agg [I e,I f,I g]]=some (I x)∧(x=0→solE l=0∧checkDf d=0∧checkPd pds=0∧q=0):=by
 obtain⟨wx,hw,hw2⟩:=wcheck_run a b c d' e f g
 have h1:=solCheck_run l
 have h2:=checkDf_run d
 have h3:=checkPd_run pds
 generalize solE l=s at*
 generalize checkDf d=t at*
 generalize checkPd pds=u at*
 generalize l.map eSl=L at*
 generalize d.map eDf=M at*
 generalize pds.map ePd=N at*
 rw[F_sawline_check_eq]
 by_cases a1:s=0
 ·by_cases a2:t=0
  ·by_cases a3:u=0
   ·by_cases a4:wx=0
    ·refine⟨q, ?_,fun h=>⟨a1,a2,a3,h⟩⟩
     simp[h1,h2,h3,hw,hq,a1,a2,a3,a4]
    ·refine⟨wx, ?_,fun h=>absurd h a4⟩
     simp[h1,h2,h3,hw,a1,a2,a3,a4]
   ·refine⟨u, ?_,fun h=>absurd h a3⟩
    simp[h1,h2,h3,a1,a2,a3]
  ·refine⟨t, ?_,fun h=>absurd h a2⟩
   simp[h1,h2,a1,a2]
 ·refine⟨s, ?_,fun h=>absurd h a1⟩
  simp[h1,a1]
abbrev HN(r:Rc)(nd:List Nd)(S F C:List (List D))(fb:Bool)(a b c d e f g h:Int)(L1:List (List D))(k i:Int)(ns:List Nw)(rp:List Int):St:=⟨[(0,.any),(1,.any),(2,.any),(3,.any),(4,.any),(5,.any),(9,D.ptr 9 0),(10,.any),(11,.any),(12,.any),(13,.any),(14,.any),(15,D.own true L1),(16,.any),(17,D.ptr 53 0),(18,I k),(19,.any),(20,.any),(21,.any),(55,D.sl (List.map eNd nd)),(56,I nd.length),(57,I i)],
 [(9,O.box 39 [I r.xa,I r.xb,I r.ya,I r.yb,D.sl (List.map eNd nd)]),(53,O.box 175 [.own false S,.own true F,.own fb C,I a,I b,I c,I d,I e,I f,I g,I h,D.row 15311,D.row 15312,D.row 15313]),(15311,O.row 179 24 true (ns.map eNw)),(15312,O.row 3 1 true (rp.map eI)),(15313,O.row 36 4 true [])]⟩
def zNw(n:Nd)(k:Int)(p:Rc):Nw:=⟨n.kind,n.at',0,0,false,⟨0,0,0,0⟩,k,p,false,0,0,⟨0,0,0,0,0,0⟩,0⟩
abbrev HX(r:Rc)(nd:List Nd)(S F C:List (List D))(fb:Bool)(a b c d e f g h:Int)(ns:List Nw)(rp:List Int):St:=⟨[(0,.any),(1,.any),(2,.any),(3,.any),(4,.any),(5,.any),(9,D.ptr 9 0),(10,.any),(11,.any),(12,.any),(13,.any),(14,.any),(15,.any),(16,.any),(17,D.ptr 53 0),(18,.any),(19,.any),(20,.any),(21,.any),(55,.any),(56,.any),(57,.any)],
 [(9,O.box 39 [I r.xa,I r.xb,I r.ya,I r.yb,D.sl (List.map eNd nd)]),(53,O.box 175 [.own false S,.own true F,.own fb C,I a,I b,I c,I d,I e,I f,I g,I h,D.row 15311,D.row 15312,D.row 15313]),(15311,O.row 179 24 true (ns.map eNw)),(15312,O.row 3 1 true (rp.map eI)),(15313,O.row 36 4 true [])]⟩
structure NPre(nd:List Nd)(i:Nat)(ns:List Nw):Prop where
 len:ns.length=i
 ok:∀(k:Nat) (w:Nw) (n:Nd),ns[k]? =some w→nd[k]? =some n→w.kind=n.kind∧w.at'=n.at'∧w.first=0∧w.second=0
theorem NPre.snoc{nd:List Nd}{i:Nat}{ns:List Nw}(h:NPre nd i ns){n:Nd}(hn:nd[i]? =some n)(k:Int)(p:Rc):NPre nd (i+1) (ns++[zNw n k p]):=by
 refine⟨by simp[h.len],fun j w m hw hm=>?_⟩
 by_cases hj:j<ns.length
 ·rw[List.getElem?_append_left hj] at hw
  exact h.ok j w m hw hm
 ·rw[List.getElem?_append_right (by omega)] at hw
  have hl:=h.len
  have hj2:j=i:=by
   have:=(List.getElem?_eq_some_iff.1 hw).1
   simp at this
   omega
  subst hj2
  rw[hl] at hw
  simp at hw
  subst hw
  rw[hn] at hm
  cases hm
  exact⟨rfl,rfl,rfl,rfl⟩
theorem NPre.ok'{nd:List Nd}{ns:List Nw}(h:NPre nd nd.length ns)(h0:0<nd.length):NOK nd ns:=by
 refine⟨h.len,fun k w n hw hn=>?_⟩
 obtain⟨e1,e2,e3,e4⟩:=h.ok k w n hw hn
 exact⟨e1,e2,by omega,by omega⟩
def nLf:List Nd→Nat
 |[]=>0
 |n::r=>(if isRipM n.kind=true then 0 else 1)+nLf r
theorem new_loop(r:Rc)(nd:List Nd)(hnd:nd.length≤1000)(S F C:List (List D))(fb:Bool)(a b c d e f g h:Int)(L1:List Lf):∀(m i:Nat) (rest:List Nd),nd.drop i=rest→rest.length<m→∀(k:Nat) (ns:List Nw) (rp:List Int),NPre nd i ns→RpK nd rp→rp.length≤i→i≤nd.length→k+nLf rest=L1.length→L1.length≤1000→
  ∃(ns':List Nw) (rp':List Int),L_sawline_New 10 m (HN r nd S F C fb a b c d e f g h (L1.map eLf) k i ns rp)=some (.ex 0,HX r nd S F C fb a b c d e f g h ns' rp')∧NPre nd nd.length ns'∧RpK nd rp'∧rp'.length≤nd.length:=by
 intro m
 induction m with
 |zero=>intro i rest _ hm;omega
 |succ m ih=>
  intro i rest hr hm k ns rp hns hrp hrl hin hk hL
  cases rest with
  |nil=>
   have hle:=List.drop_eq_nil_iff.1 hr
   have hi:¬(i:Int)<nd.length:=by omega
   have hie:i=nd.length:=by omega
   refine⟨ns,rp, ?_,⟨by rw[hns.len,hie],hns.ok⟩,hrp,by omega⟩
   rw[L_sawline_New_succ,R_sawline_New_eq]
   simp[hi]
  |cons n rest=>
   obtain⟨g4,g5,g3⟩:=drop_lt hr
   simp only[List.length_cons] at hm
   have hi:(i:Int)<nd.length:=by omega
   have hl:=hns.len
   have hb:(rp.length+1)*9≤140737488355328:=by omega
   have hb2:(ns.length+1)*193≤140737488355328:=by omega
   have hw:IntKind.i64.wrap ((i:Int)+1)=i+1:=wrap64 (by omega) (by omega)
   cases hkr:isRipM n.kind
   ·have hk2:n.kind≠2∧n.kind≠3:=by simpa[isRipM] using hkr
    simp[nLf,hkr] at hk
    have hkl:k<L1.length:=by omega
    have hkl':(k:Int)<L1.length:=by omega
    obtain⟨q,hq⟩:∃q,L1[k]? =some q:=⟨_,List.getElem?_eq_getElem hkl⟩
    clear hkl
    have hwk:IntKind.i64.wrap ((k:Int)+1)=k+1:=wrap64 (by omega) (by omega)
    obtain⟨ns',rp',h1,h2⟩:=ih (i+1) rest g3 (by omega) (k+1) (ns++[zNw n k q.r]) rp (hns.snoc g5 _ _) hrp (by omega) (by omega) (by omega) hL
    refine⟨ns',rp', ?_,h2⟩
    rw[L_sawline_New_succ,R_sawline_New_eq]
    simp only[HN,zNw,List.map_append,List.map_cons,List.map_nil] at h1⊢
    simp at h1
    simp[hi,g5,hk2.1,hk2.2,hb,hb2,hw,hq,hkl',hwk]
    exact h1
   ·have hk2:n.kind=2∨n.kind=3:=by simpa[isRipM] using hkr
    simp[nLf,hkr] at hk
    obtain⟨ns',rp',h1,h2⟩:=ih (i+1) rest g3 (by omega) k (ns++[zNw n 0 ⟨0,0,0,0⟩]) (rp++[(i:Int)]) (hns.snoc g5 _ _) (fun x hx=>by
     rcases List.mem_append.1 hx with hx|hx
     ·exact hrp x hx
     ·simp at hx;exact⟨i,hx,g4⟩) (by simp;omega) (by omega) hk hL
    refine⟨ns',rp', ?_,h2⟩
    rw[L_sawline_New_succ,R_sawline_New_eq]
    simp only[HN,zNw,List.map_append,List.map_cons,List.map_nil] at h1⊢
    rcases hk2 with hk2|hk2
    ·simp[hk2] at h1
     simp[hi,g5,hk2,hb,hb2,hw]
     exact h1
    ·simp[hk2] at h1
     simp[hi,g5,hk2,hb,hb2,hw]
     exact h1
theorem catE_both:∀(l seen:List Pd),catE seen l=0→∀p∈l,p.lens.length≤8∧p.prs.length≤8
 |[],_,_,p,hp=>by cases hp
 |q::r,seen,h,p,hp=>by
  unfold catE at h
  split at h
  ·split at h
   ·cases h
   ·split at h
    ·rename_i hn
     rcases List.mem_cons.1 hp with rfl|hp
     ·unfold numsE at hn
      repeat (split at hn;·cases hn)
      unfold listsE at hn
      split at hn
      ·cases hn
      split at hn
      ·cases hn
      split at hn
      ·omega
      ·cases hn
     ·exact catE_both r _ h p hp
    ·rename_i hn
     exact absurd h hn
  ·cases h
theorem ck_all(kerf:Int)(bd:Rc→Int→Int):∀(rest:List Nd) (o:List Plc),ckM kerf bd rest o=0→∀n∈rest,cnM n ⟨⟨0,0,0,0⟩,0⟩=cnM n ⟨⟨0,0,0,0⟩,0⟩∧(n.kind=1→∃x:Rc,bd x n.at'=0)
 |[],o,_,n,hn=>by cases hn
 |m::r,[],h,n,hn=>by cases h
 |m::r,x::o,h,n,hn=>by
  obtain⟨h1,h2,h3⟩:=ckM_next h
  rcases List.mem_cons.1 hn with rfl|hn
  ·exact⟨rfl,fun hk=>⟨x.r,h2 hk⟩⟩
  ·exact ck_all kerf bd r _ h3 n hn
theorem lv_len(kerf:Int)(bd:Rc→Int→Int):∀(rest:List Nd) (o:List Plc),ckM kerf bd rest o=0→(lvM kerf rest o).length=nLf rest
 |[],o,_=>rfl
 |m::r,[],h=>by cases h
 |m::r,x::o,h=>by
  obtain⟨h1,h2,h3⟩:=ckM_next h
  simp only[lvM,nLf,List.length_append,lv_len kerf bd r _ h3]
  congr 1
  unfold cnM at h1
  split at h1
  ·cases h1
  rename_i hk
  unfold lfM isRipM
  by_cases k0:m.kind=0
  ·simp[k0]
  ·by_cases k1:m.kind=1
   ·simp[k1]
   ·have:m.kind=2∨m.kind=3:=by omega
    rcases this with k2|k2<;>simp[k2]
theorem pchk_zero{bd:Rc→Int→Int}{r:Rc}{nd:List Nd}{kerf:Int}(h:chkM bd r nd kerf=0):nd.length≤127∧ckM kerf bd nd [⟨r,1⟩]=0:=by
 unfold chkM at h
 split at h
 ·cases h
 split at h
 ·cases h
 split at h
 ·cases h
 exact⟨by omega,h⟩
theorem nLf_le:∀nd:List Nd,nLf nd≤nd.length
 |[]=>by simp[nLf]
 |n::r=>by
  have:=nLf_le r
  simp only[nLf,List.length_cons]
  split<;>omega
abbrev lnN(S F C:List (List D))(a b c d e f g h:Int)(fl:Bool)(ns:List Nw)(rp:List Int):List (Nat×O):=[(53,.box 175 [.sl S,.sl F,.sl C,I a,I b,I c,I d,I e,I f,I g,I h,.row 15311,.row 15312,.row 15313]),(15311,.row 179 24 fl (ns.map eNw)),(15312,.row 3 1 true (rp.map eI)),(15313,.row 36 4 true [])]
theorem new_run(l:List Slc)(d:List Dfc)(pds:List Pd)(r:Rc)(nd:List Nd)(a b c d' e f g:Int)(hr:I64R r)(hn:∀n∈nd,i64 n.at'):
  (∃x:Int,x≠0∧E_sawline_New [] [.sl (l.map eSl),.sl (d.map eDf),.sl (pds.map ePd),.agg [I r.xa,I r.xb,I r.ya,I r.yb,.sl (nd.map eNd)],.agg [I a,I b,I c,I d'],.agg [I e,I f,I g]]=some (.tup [.x (.pointer none),I x],[]))∨
  ∃(ns:List Nw) (rp:List Int) (fl:Bool),E_sawline_New [] [.sl (l.map eSl),.sl (d.map eDf),.sl (pds.map ePd),.agg [I r.xa,I r.xb,I r.ya,I r.yb,.sl (nd.map eNd)],.agg [I a,I b,I c,I d'],.agg [I e,I f,I g]]=
   some (.tup [.ptr 53 0,I 0],lnN (l.map eSl) (d.map eDf) (pds.map ePd) a b c d' e f g (lengthM l) fl ns rp)∧NOK nd ns∧RpK nd rp∧PdK pds nd∧nd.length≤127∧rp.length≤nd.length:=by
 have hq:=patCheck_run r nd a pds hr hn
 obtain⟨x,h1,hx⟩:=lcheck_run l d pds r nd a b c d' e f g _ hq
 have h2:=leaves_run r nd a
 by_cases hx0:x=0
 ·subst hx0
  obtain⟨z1,z2,z3,z4⟩:=hx rfl
  obtain⟨w1,w2⟩:=pchk_zero z4
  obtain⟨v1,v2,v3⟩:=solE_zero z1
  have v4:=(slcE_bnd l 0 (by omega) (by omega) v3).1
  have h3:=cloneSolid_run l v1 (by omega) (fun s hs=>by have:=(secE_zero (v4 s hs).2.1).1;omega)
  have h4:=cloneDf_run d (by have:=checkDf_len z2;omega)
  obtain⟨fb,h5⟩:=cloneCat_run pds (by unfold checkPd at z3;split at z3;cases z3;omega) (fun p hp=>by
   have:=catE_both pds [] (by unfold checkPd at z3;split at z3;cases z3;exact z3) p hp
   omega)
  have h6:=length_run l
  have hpd:PdK pds nd:=⟨fun n hnm hk=>by
   obtain⟨x,hx⟩:=(ck_all _ _ nd _ w2 n hnm).2 hk
   unfold c1M at hx
   split at hx
   ·cases hx
   ·omega,fun p hp=>by
   have:=catE_both pds [] (by unfold checkPd at z3;split at z3;cases z3;exact z3) p hp
   omega⟩
  by_cases hc:chkM (fun _ k=>abM k) r nd a=0
  ·right
   rw[if_pos hc] at h2
   obtain⟨u1,u2⟩:=pchk_zero hc
   have hL:=lv_len a _ nd _ u2
   have hLL:=nLf_le nd
   obtain⟨ns,rp,g1,g2,g3,g4⟩:=new_loop r nd (by omega) (l.map eSl) (d.map eDf) (pds.map ePd) fb a b c d' e f g (lengthM l) (lvM a nd [⟨r,1⟩]) bigL 0 nd rfl (by have:=bigL_ge;omega) 0 [] [] ⟨rfl,fun k w n hw=>by simp at hw⟩ (fun k hk=>by cases hk) (by simp) (by omega) (by omega) (by omega)
   obtain⟨rest',t1,t2,t3⟩:=ck_tree a _ nd.length nd ⟨r,1⟩ [] (by omega) w2
   have h0:0<nd.length:=by omega
   have ok0:=g2.ok' h0
   obtain⟨j,ns1,fl1,s1,ok1,-,-⟩:=link_run (l.map eSl) (d.map eDf) (pds.map ePd) a b c d' e f g (lengthM l) true true rp [] nd (by omega) t1 0 100000 ns true rfl (by omega) ok0
   obtain⟨ns2,fl2,s2,ok2⟩:=stand_run l d pds a b c d' e f g (lengthM l) true true rp [] nd hpd ns1 ok1 0 (by omega) (by omega) fl1 r
   refine⟨ns2,rp,fl2, ?_,ok2,g3,hpd,u1,g4⟩
   have s1:E_sawline_Line_link (lnO (l.map eSl) (d.map eDf) (pds.map ePd) a b c d' e f g (lengthM l) true true true ns rp []) [.ptr 1000 0,I 0]=some (I j,lnO (l.map eSl) (d.map eDf) (pds.map ePd) a b c d' e f g (lengthM l) fl1 true true ns1 rp []):=s1
   generalize lvM a nd [⟨r,1⟩]=L1 at*
   generalize l.map eSl=S at*
   generalize d.map eDf=F at*
   generalize pds.map ePd=C at*
   generalize lengthM l=ln at*
   rw[E_sawline_New_eq]
   simp only[HN,HX,lnO,lnC,lnN] at g1 s1 s2⊢
   simp at g1 s1 s2
   simp[h1,h2,h3,h4,h5,h6,g1,s1,s2]
   done
  ·left
   refine⟨_,hc, ?_⟩
   rw[if_neg hc] at h2
   rw[E_sawline_New_eq]
   simp[h1,h2,hc]
 ·left
  refine⟨x,hx0, ?_⟩
  rw[E_sawline_New_eq]
  simp[h1,hx0]
end Go.Proofs.YtbdgblipbpadeaaGreatDoor
namespace Go.Proofs.YtbdgblipbpadeaaGreatDoor
open Go Go.Abs
set_option maxHeartbeats 4000000
set_option maxRecDepth 100000
structure Ct where
 cl:Int
 cp:Int
 cb:Bx
 cw:Int
def eCt(c:Ct):List D:=[I c.cl,I c.cp,I c.cb.xa,I c.cb.xb,I c.cb.ya,I c.cb.yb,I c.cb.za,I c.cb.zb,I c.cw]
@[simp] theorem eCt_eq(c:Ct):eCt c=[I c.cl,I c.cp,I c.cb.xa,I c.cb.xb,I c.cb.ya,I c.cb.yb,I c.cb.za,I c.cb.zb,I c.cw]:=rfl
def bdsM:List Nw→List Ct
 |[]=>[]
 |n::r=>(if n.gives=true then[⟨n.cl,n.cp,n.cb,n.cw⟩] else[])++bdsM r
theorem boards_loop(ns:List Nw)(hl:ns.length≤1000)(c:List D):∀(n i:Nat) (r:List Nw),ns.drop i=r→r.length<n→∀q:List Ct,q.length≤i→
  L_sawline_Line_Boards 5 n ⟨[(0,.any),(2,.any),(3,.row 3),(5,.any),(11,.sl (ns.map eNw)),(12,I ns.length),(13,I i)],[(3,.row 109 9 true (q.map eCt))]⟩=
   some (.ex 0,⟨[(0,.any),(2,.any),(3,.row 3),(5,.any),(11,.any),(12,.any),(13,.any)],[(3,.row 109 9 true ((q++bdsM r).map eCt))]⟩):=by
 intro n
 induction n with
 |zero=>intro i r _ h;omega
 |succ n ih=>
  intro i r hr hn q hq
  rw[L_sawline_Line_Boards_succ,R_sawline_Line_Boards_eq]
  cases r with
  |nil=>
   have hle:=List.drop_eq_nil_iff.1 hr
   have hi:¬(i:Int)<ns.length:=by omega
   simp[hi,bdsM]
  |cons x r=>
   obtain⟨g4,g5,g3⟩:=drop_lt hr
   simp only[List.length_cons] at hn
   have hi:(i:Int)<ns.length:=by omega
   have hw:IntKind.i64.wrap ((i:Int)+1)=i+1:=wrap64 (by omega) (by omega)
   have hb:(q.length+1)*73≤140737488355328:=by omega
   have ih:=ih (i+1) r g3 (by omega)
   unfold bdsM
   cases hg:x.gives
   ·have ih:=ih q (by omega)
    simp at ih
    simp[hi,g5,hg,hw,ih]
   ·have ih:=ih (q++[⟨x.cl,x.cp,x.cb,x.cw⟩]) (by simp;omega)
    simp at ih
    simp[hi,g5,hg,hw,hb,ih]
theorem boards_run(S F C R W:List (List D))(a b c d e f g h:Int)(ns:List Nw)(hl:ns.length≤1000):
  F_sawline_Line_Boards [.elt [.sl S,.sl F,.sl C,I a,I b,I c,I d,I e,I f,I g,I h,.sl (ns.map eNw),.sl R,.sl W]]=some (.own true ((bdsM ns).map eCt)):=by
 have hL:=boards_loop ns hl [] bigL 0 ns rfl (by have:=bigL_ge;omega) [] (by simp)
 rw[F_sawline_Line_Boards_eq]
 simp at hL
 simp[hL]
end Go.Proofs.YtbdgblipbpadeaaGreatDoor
