/-
  Whether a board is one of a product of the catalog, in the reference, run abstractly.
-/
import Derived.Test.YtbdgblipbpadeaaGreatDoorMy
import Derived.Test.YtbdgblipbpadeaaGreatDoorMx
set_option linter.unusedSimpArgs false
set_option linter.unusedVariables false
set_option linter.defProp false
namespace Go.Proofs.YtbdgblipbpadeaaGreatDoor
open Go Go.Abs
set_option maxHeartbeats 8000000
set_option maxRecDepth 100000
end Go.Proofs.YtbdgblipbpadeaaGreatDoor
namespace Go.Proofs.YtbdgblipbpadeaaGreatDoor
open Go Go.Abs
set_option maxHeartbeats 8000000
set_option maxRecDepth 100000
def knotB(d:Dfc):Bool:=decide (d.kind=1)||decide (d.kind=2)
def meetB(a b c d:Int):Bool:=decide ((if a<c then c else a)<(if d<b then d else b))
def sumW(z0 z1:Int)(s:Int):List Dfc→Int
 |[]=>s
 |d::r=>if(knotB d&&meetB d.za d.zb z0 z1)=true then sumW z0 z1 (s+sizeD d) r else sumW z0 z1 s r
def wrsD(all:List Dfc)(w:Int):List Dfc→Int
 |[]=>w
 |d::r=>wrsD all (if w<sumW (d.za-149) (d.za+1) 0 all then sumW (d.za-149) (d.za+1) 0 all else w) r
def worstD(l:List Dfc):Int:=if checkDf l=0 then wrsD l 0 l else 0
theorem isKnot_run(d:Dfc):F_defect_isKnot [.agg (eDf d)]=some (B (knotB d)):=by
 rw[F_defect_isKnot_eq]
 simp[knotB]
theorem meet_run(a b c d:Int):F_span_Meet [.agg [I a,I b],.agg [I c,I d]]=some (.agg [I (if meetB a b c d=true then if a<c then c else a else 0),I (if meetB a b c d=true then if d<b then d else b else 0)]):=by
 rw[F_span_Meet_eq]
 have e:∀x y:Int,(if y≤x then(0:Int) else x)=if decide (x<y)=true then x else 0:=by
  intro x y
  by_cases h:x<y
  ·have:¬y≤x:=by omega
   simp[h,this]
  ·have:y≤x:=by omega
   simp[h,this]
 have e':∀x y:Int,(if y≤x then(0:Int) else y)=if decide (x<y)=true then y else 0:=by
  intro x y
  by_cases h:x<y
  ·have:¬y≤x:=by omega
   simp[h,this]
  ·have:y≤x:=by omega
   simp[h,this]
 simp
 unfold meetB
 rw[e,e']
 exact⟨by simp,by simp⟩
theorem meetE_run(a b c d:Int):F_defect_isEmpty [.agg [I (if meetB a b c d=true then if a<c then c else a else 0),I (if meetB a b c d=true then if d<b then d else b else 0)]]=some (B (!meetB a b c d)):=by
 rw[isEmpty_run]
 cases h:meetB a b c d
 ·simp
 ·simp[meetB] at h
  simp
  exact h
theorem dfE_zero{d:Dfc}(h:dfE d=0):(1≤d.kind∧d.kind≤6)∧(-600≤d.xa∧d.xa<d.xb∧d.xb≤600)∧(-600≤d.ya∧d.ya<d.yb∧d.yb≤600)∧(0≤d.za∧d.za<d.zb∧d.zb≤20000):=by
 unfold dfE at h
 repeat' split at h
 all_goals omega
theorem dfE_rng{d:Dfc}(h:dfE d=0):Rng d∧0<sizeD d∧sizeD d≤1200:=by
 obtain⟨_,h1,h2,_⟩:=dfE_zero h
 refine⟨⟨by unfold i64;omega,by unfold i64;omega,by unfold i64;omega,by unfold i64;omega⟩, ?_⟩
 unfold sizeD lenS
 repeat' split
 all_goals omega
theorem dfsE_mem:∀{l:List Dfc},dfsE l=0→∀d∈l,dfE d=0
 |[],_,d,hd=>by cases hd
 |x::r,h,d,hd=>by
  unfold dfsE at h
  by_cases hx:dfE x=0
  ·rw[if_pos hx] at h
   rcases List.mem_cons.1 hd with rfl|hd
   ·exact hx
   ·exact dfsE_mem h d hd
  ·rw[if_neg hx] at h
   exact absurd h hx
theorem checkDf_mem{l:List Dfc}(h:checkDf l=0):∀d∈l,dfE d=0:=by
 unfold checkDf at h
 split at h
 ·omega
 ·exact dfsE_mem h
theorem sum_loop(l:List Dfc)(hl:l.length≤64)(hd:∀d∈l,dfE d=0)(w:Int)(k:Nat)(z0 z1:Int):∀(n i:Nat) (r:List Dfc),l.drop i=r→r.length<n→∀s:Int,0≤s→s≤1200*i→
  L_defect_Worst 11 n ⟨[(0,.sl (l.map eDf)),(1,I 150),(4,.any),(5,I w),(7,.any),(8,.any),(9,.ptr 9 0),(10,I s),(12,.any),(24,.sl (l.map eDf)),(25,I l.length),(26,I k),(42,.sl (l.map eDf)),(43,I l.length),(44,I i)],[(9,.box 34 [I z0,I z1])]⟩=
   some (.ex 2,⟨[(0,.sl (l.map eDf)),(1,I 150),(4,.any),(5,I w),(7,.any),(8,.any),(9,.any),(10,I (sumW z0 z1 s r)),(12,.any),(24,.sl (l.map eDf)),(25,I l.length),(26,I k),(42,.any),(43,.any),(44,.any)],[]⟩):=by
 refine lind l _ ?_ ?_
 ·intro n i hr s h0 h1
  rw[L_defect_Worst_succ,R_defect_Worst_eq]
  simp[dn hr,sumW]
 ·intro n i d r hr hi ih s h0 hs
  rw[L_defect_Worst_succ,R_defect_Worst_eq]
  obtain⟨h1,h3,hr',_⟩:=dc (enc:=eDf) hr
  have hw:=wrapN (n:=i) (by omega)
  obtain⟨hg,hp,hb⟩:=dfE_rng (hd d (List.mem_of_mem_drop (hr▸List.mem_cons_self:d∈l.drop i)))
  have hz:=dsize_run d hg
  have hk:=isKnot_run d
  have hm:=meet_run d.za d.zb z0 z1
  have he:=meetE_run d.za d.zb z0 z1
  generalize(if meetB d.za d.zb z0 z1=true then if d.za<z0 then z0 else d.za else 0)=m1 at*
  generalize(if meetB d.za d.zb z0 z1=true then if z1<d.zb then z1 else d.zb else 0)=m2 at*
  have ws:IntKind.i64.wrap (s+sizeD d)=s+sizeD d:=wrap64 (by omega) (by omega)
  unfold sumW
  simp at hz hk
  cases c1:knotB d
  ·have ih':=ih s (by omega) (by omega)
   simp at ih'
   rw[c1] at hk
   simp[h1,h3,hk,hw,ih']
  ·rw[c1] at hk
   cases c2:meetB d.za d.zb z0 z1
   ·have ih':=ih s (by omega) (by omega)
    simp at ih'
    rw[c2] at he
    simp[h1,h3,hk,hm,he,hw,ih']
   ·have ih':=ih (s+sizeD d) (by omega) (by omega)
    simp at ih'
    rw[c2] at he
    simp[h1,h3,hk,hm,he,hz,hw,ws,ih']
theorem worst_loop(l:List Dfc)(hl:l.length≤64)(hd:∀d∈l,dfE d=0):∀(n i:Nat) (r:List Dfc),l.drop i=r→r.length<n→∀w:Int,
  L_defect_Worst 5 n ⟨[(0,.sl (l.map eDf)),(1,I 150),(4,.any),(5,I w),(7,.any),(8,.any),(9,.any),(10,.any),(12,.any),(24,.sl (l.map eDf)),(25,I l.length),(26,I i),(42,.any),(43,.any),(44,.any)],[]⟩=
   some (.ex 0,⟨[(0,.any),(1,.any),(4,.any),(5,I (wrsD l w r)),(7,.any),(8,.any),(9,.any),(10,.any),(12,.any),(24,.any),(25,.any),(26,.any),(42,.any),(43,.any),(44,.any)],[]⟩):=by
 refine lind l _ ?_ ?_
 ·intro n i hr w
  rw[L_defect_Worst_succ,R_defect_Worst_eq]
  simp[dn hr,wrsD]
 ·intro n i d r hr hi ih w
  rw[L_defect_Worst_succ,R_defect_Worst_eq]
  obtain⟨h1,h3,hr',_⟩:=dc (enc:=eDf) hr
  have hw:=wrapN (n:=i) (by omega)
  obtain⟨_,_,_,hz⟩:=dfE_zero (hd d (List.mem_of_mem_drop (hr▸List.mem_cons_self:d∈l.drop i)))
  have w1:IntKind.i64.wrap (d.za-150)=d.za-150:=wrap64 (by omega) (by omega)
  have w2:IntKind.i64.wrap (d.za-150+1)=d.za-149:=by rw[wrap64 (by omega) (by omega)];omega
  have w3:IntKind.i64.wrap (d.za-149+150)=d.za+1:=by rw[wrap64 (by omega) (by omega)];omega
  have is:=sum_loop l hl hd w i (d.za-149) (d.za+1) bigL 0 l rfl (by have:=bigL_ge;omega) 0 (by omega) (by omega)
  have ih':=ih (if w<sumW (d.za-149) (d.za+1) 0 l then sumW (d.za-149) (d.za+1) 0 l else w)
  unfold wrsD
  simp at is ih'
  simp[h1,h3,w1,w2,w3,is,hw,ih']
theorem worst_run(l:List Dfc):F_defect_Worst [.sl (l.map eDf),I 150]=some (I (worstD l)):=by
 rw[F_defect_Worst_eq]
 have hc:=checkDf_run l
 unfold worstD
 by_cases h:checkDf l=0
 ·have ih:=worst_loop l (checkDf_len h) (checkDf_mem h) bigL 0 l rfl (by have:=bigL_ge;have:=checkDf_len h;omega) 0
  simp at ih
  simp[hc,h,ih]
 ·simp[hc,h]
end Go.Proofs.YtbdgblipbpadeaaGreatDoor
