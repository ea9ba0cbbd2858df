/-
  The curve's functions of the program, run abstractly: the axes of a grid, and points.
-/
import Derived.Test.YtbdgblipbpadeaaGreatDoorMi
set_option linter.unusedSimpArgs false
set_option linter.unusedVariables false
set_option linter.defProp false
namespace Go.Proofs.YtbdgblipbpadeaaGreatDoor
open Go Go.Abs
set_option maxHeartbeats 2000000
set_option maxRecDepth 100000
def chkA(p:Option Int):List Int→Int
 |[]=>0
 |q::r=>if inR q=false then 9 else if notUp p q=true then 11 else chkA (some q) r
def prvA(l:List Int)(i:Nat):Option Int:=if i=0 then none else l[i-1]?
theorem prvA_succ{l:List Int}{i:Nat}(h:i<l.length):prvA l (i+1)=some l[i]:=by simp[prvA,h]
theorem prvA_pos{l:List Int}{i:Nat}(h0:i≠0)(h:i<l.length):prvA l i=some (l[i-1]'(by omega)):=by
 have:i-1<l.length:=by omega
 simp[prvA,h0,this]
theorem axis_loop(l:List Int)(hb:l.length≤9223372036854775807):∀(n i:Nat),i≤l.length→l.length-i<n→
  L_curve_checkAxis 2 n ⟨[(0,.sl (l.map eI)),(2,.any),(3,.any),(4,.any),(5,.sl (l.map eI)),(6,I l.length),(7,I i)],[]⟩=
   if chkA (prvA l i) (l.drop i)=0 then some (.ex 0,⟨[(0,.any),(2,.any),(3,.any),(4,.any),(5,.any),(6,.any),(7,.any)],[]⟩)
   else some (.ret,⟨[(0,.any),(2,I (chkA (prvA l i) (l.drop i))),(3,.any),(4,.any),(5,.any),(6,.any),(7,.any)],[]⟩)
 |0,i,_,hn=>by omega
 |n+1,i,hi,hn=>by
  rw[L_curve_checkAxis_succ,R_curve_checkAxis_eq]
  by_cases h:i<l.length
  ·have h1:=List.getElem?_eq_getElem h
   have h3:(i:Int)<l.length:=by omega
   have hw:=wrapN (n:=i) (by omega)
   have ih:=axis_loop l hb n (i+1) (by omega) (by omega)
   rw[List.drop_eq_getElem_cons h,chkA]
   rw[prvA_succ h] at ih
   simp only[Int.natCast_add,Int.natCast_one] at ih
   by_cases h0:i=0
   ·have h7:¬0<i:=by omega
    have hp:prvA l i=none:=by simp[prvA,h0]
    simp[h1,h3,inRange_run,hw,h7,ih,hp]
    cases inR l[i]<;>simp
   ·have h5:=wrapP h0 (by omega)
    have h6:=List.getElem?_eq_getElem (l:=l) (i:=i-1) (by omega)
    have h7:0<i:=by omega
    rw[prvA_pos h0 h]
    simp[h1,h3,inRange_run,hw,h5,h6,h7,ih]
    cases inR l[i]<;>simp
    split<;>simp
  ·have h3:¬(i:Int)<l.length:=by omega
   have h4:l.drop i=[]:=List.drop_of_length_le (by omega)
   simp[h3,h4,chkA]
def axis(l:List Int):Int:=chkA none l
theorem axis_run(l:List Int)(hb:l.length≤9223372036854775807):F_curve_checkAxis [.sl (l.map eI)]=some (I (axis l)):=by
 rw[F_curve_checkAxis_eq]
 have ih:=axis_loop l hb bigL 0 (by omega) (by have:=bigL_ge;omega)
 simp[prvA] at ih
 simp[ih,axis]
 exact Eq.symm
def eR(r:List Int):List D:=[.sl (r.map eI)]
@[simp] theorem eR_eq(r:List Int):eR r=[.sl (r.map eI)]:=rfl
def filled{α:Type}(l:List α)(z:α)(i:Nat):List α:=l.take i++List.replicate (l.length-i) z
theorem filled_get{α:Type}{l:List α}{z:α}{i:Nat}(h:i<l.length):(filled l z i)[i]? =some z:=by
 simp only[filled]
 rw[List.getElem?_append_right (by simp;omega),List.length_take,Nat.min_eq_left (Nat.le_of_lt h),Nat.sub_self,List.getElem?_replicate,if_pos (by omega)]
theorem filled_set{α:Type}{l:List α}{z:α}{i:Nat}(h:i<l.length):(filled l z i).set i l[i]=filled l z (i+1):=by
 simp only[filled]
 rw[List.set_append_right _ _ (by simp;omega),List.length_take,Nat.min_eq_left (Nat.le_of_lt h),Nat.sub_self]
 have h1:l.length-i=(l.length-(i+1))+1:=by omega
 have h2:l.take (i+1)=l.take i++[l[i]]:=by rw[List.take_succ_eq_append_getElem h]
 rw[h1,h2,List.replicate_succ,List.set_cons_zero,List.append_assoc]
 rfl
theorem filled_zero{α:Type}(l:List α)(z:α):filled l z 0=List.replicate l.length z:=by simp[filled]
theorem filled_all{α:Type}{l:List α}{z:α}{i:Nat}(h:l.length≤i):filled l z i=l:=by
 simp[filled,List.take_of_length_le h,Nat.sub_eq_zero_of_le h]
theorem points_loop(xs ys:List Int)(hl:xs.length≤ys.length)(hb:xs.length≤1000):∀(n i:Nat),i≤xs.length→xs.length-i<n→
  L_curve_points 3 n ⟨[(0,.sl (xs.map eI)),(1,.sl (ys.map eI)),(4,.any),(5,.row 5),(6,.any),(11,I xs.length),(12,I i)],[(5,.row 81 2 true (filled ((xs.zip ys).map eP) [I 0,I 0] i))]⟩=
   some (.ex 0,⟨[(0,.any),(1,.any),(4,.any),(5,.row 5),(6,.any),(11,.any),(12,.any)],[(5,.row 81 2 true ((xs.zip ys).map eP))]⟩)
 |0,i,_,hn=>by omega
 |n+1,i,hi,hn=>by
  rw[L_curve_points_succ,R_curve_points_eq]
  by_cases h:i<xs.length
  ·have h1:=List.getElem?_eq_getElem h
   have h2:=List.getElem?_eq_getElem (l:=ys) (i:=i) (by omega)
   have h3:(i:Int)<xs.length:=by omega
   have hw:=wrapN (n:=i) (by omega)
   have ih:=points_loop xs ys hl hb n (i+1) (by omega) (by omega)
   simp only[Int.natCast_add,Int.natCast_one] at ih
   have hi:i<((xs.zip ys).map eP).length:=by simp;omega
   have hg:=filled_get (z:=[I 0,I 0]) hi
   have hs:=filled_set (z:=[I 0,I 0]) hi
   simp only[List.getElem_map,List.getElem_zip,eP_eq] at hs
   generalize filled ((xs.zip ys).map eP) [I 0,I 0] i=es at hg hs⊢
   simp[h1,h2,h3,hw,hg,hs,ih]
  ·have h3:¬(i:Int)<xs.length:=by omega
   have h5:=filled_all (l:=(xs.zip ys).map eP) (z:=[I 0,I 0]) (i:=i) (by simp;omega)
   simp[h3,h5]
theorem points_run(xs ys:List Int)(hl:xs.length≤ys.length)(hb:xs.length≤1000):F_curve_points [.sl (xs.map eI),.sl (ys.map eI)]=some (.own true ((xs.zip ys).map eP)):=by
 rw[F_curve_points_eq]
 have h1:16*(xs.length:Int)≤281474976710656:=by omega
 have h2:(xs.length:Int)≤1000000000000000000:=by omega
 have ih:=points_loop xs ys hl hb bigL 0 (by omega) (by have:=bigL_ge;omega)
 have h3:min xs.length ys.length=xs.length:=by omega
 simp[filled_zero,h3] at ih
 simp[h1,h2,ih]
end Go.Proofs.YtbdgblipbpadeaaGreatDoor
namespace Go.Proofs.YtbdgblipbpadeaaGreatDoor
open Go Go.Abs
set_option maxHeartbeats 2000000
set_option maxRecDepth 100000
def allR:List Int→Bool
 |[]=>true
 |n::r=>if inR n=true then allR r else false
def rowsC(m:Nat):List (List Int)→Int
 |[]=>0
 |r::rs=>if(r.length:Int)=m then(if allR r=true then rowsC m rs else 9) else 19
theorem row_loop(xs ys:List Int)(vs:List (List Int))(j:Nat)(r:List Int)(hb:r.length≤9223372036854775807):∀(n i:Nat),i≤r.length→r.length-i<n→
  L_curve_CheckGrid 19 n ⟨[(0,.any),(1,.ptr 1 0),(2,.any),(3,.any),(4,.any),(6,.any),(8,.any),(49,.sl (vs.map eR)),(50,I vs.length),(51,I j),(61,.sl (r.map eI)),(62,I r.length),(63,I i)],[(1,.box 371 [.sl (xs.map eI),.sl (ys.map eI),.sl (vs.map eR)])]⟩=
   if allR (r.drop i)=true then some (.ex 2,⟨[(0,.any),(1,.ptr 1 0),(2,.any),(3,.any),(4,.any),(6,.any),(8,.any),(49,.sl (vs.map eR)),(50,I vs.length),(51,I j),(61,.any),(62,.any),(63,.any)],[(1,.box 371 [.sl (xs.map eI),.sl (ys.map eI),.sl (vs.map eR)])]⟩)
   else some (.ret,⟨[(0,.any),(1,.any),(2,I 9),(3,.any),(4,.any),(6,.any),(8,.any),(49,.any),(50,.any),(51,.any),(61,.any),(62,.any),(63,.any)],[]⟩)
 |0,i,_,hn=>by omega
 |n+1,i,hi,hn=>by
  rw[L_curve_CheckGrid_succ,R_curve_CheckGrid_eq]
  by_cases h:i<r.length
  ·have h1:=List.getElem?_eq_getElem h
   have h3:(i:Int)<r.length:=by omega
   have hw:=wrapN (n:=i) (by omega)
   have ih:=row_loop xs ys vs j r hb n (i+1) (by omega) (by omega)
   simp only[Int.natCast_add,Int.natCast_one] at ih
   rw[List.drop_eq_getElem_cons h,allR]
   cases hr:inR r[i]<;>simp[h1,h3,hw,inRange_run,hr,ih]
  ·have h3:¬(i:Int)<r.length:=by omega
   have h4:r.drop i=[]:=List.drop_of_length_le (by omega)
   simp[h3,h4,allR]
theorem rows_loop(xs ys:List Int)(vs:List (List Int))(hr:∀r∈vs,r.length≤9223372036854775807)(hb:vs.length≤9223372036854775807):∀(n i:Nat),i≤vs.length→vs.length-i<n→
  L_curve_CheckGrid 14 n ⟨[(0,.any),(1,.ptr 1 0),(2,.any),(3,.any),(4,.any),(6,.any),(8,.any),(49,.sl (vs.map eR)),(50,I vs.length),(51,I i),(61,.any),(62,.any),(63,.any)],[(1,.box 371 [.sl (xs.map eI),.sl (ys.map eI),.sl (vs.map eR)])]⟩=
   if rowsC ys.length (vs.drop i)=0 then some (.ex 0,⟨[(0,.any),(1,.any),(2,.any),(3,.any),(4,.any),(6,.any),(8,.any),(49,.any),(50,.any),(51,.any),(61,.any),(62,.any),(63,.any)],[]⟩)
   else some (.ret,⟨[(0,.any),(1,.any),(2,I (rowsC ys.length (vs.drop i))),(3,.any),(4,.any),(6,.any),(8,.any),(49,.any),(50,.any),(51,.any),(61,.any),(62,.any),(63,.any)],[]⟩)
 |0,i,_,hn=>by omega
 |n+1,i,hi,hn=>by
  rw[L_curve_CheckGrid_succ,R_curve_CheckGrid_eq]
  by_cases h:i<vs.length
  ·have h1:=List.getElem?_eq_getElem h
   have h3:(i:Int)<vs.length:=by omega
   have hw:=wrapN (n:=i) (by omega)
   have ih:=rows_loop xs ys vs hr hb n (i+1) (by omega) (by omega)
   simp only[Int.natCast_add,Int.natCast_one] at ih
   have hl:=row_loop xs ys vs i vs[i] (hr _ (List.getElem_mem h)) bigL 0 (by omega) (by have:=bigL_ge;have:=hr _ (List.getElem_mem h);omega)
   simp at hl
   rw[List.drop_eq_getElem_cons h,rowsC]
   by_cases hm:(vs[i].length:Int)=ys.length
   ·cases ha:allR vs[i]<;>simp[ha] at hl<;>simp[h1,h3,hw,hm,hl,ih,ha]<;>simp[hm] at hl<;>simp[hl,ih,h3,hw]
   ·simp[h1,h3,hw,hm]
  ·have h3:¬(i:Int)<vs.length:=by omega
   have h4:vs.drop i=[]:=List.drop_of_length_le (by omega)
   simp[h3,h4,rowsC]
structure G where
 xs:List Int
 ys:List Int
 vs:List (List Int)
def eG(g:G):List D:=[.sl (g.xs.map eI),.sl (g.ys.map eI),.sl (g.vs.map eR)]
@[simp] theorem eG_eq(g:G):eG g=[.sl (g.xs.map eI),.sl (g.ys.map eI),.sl (g.vs.map eR)]:=rfl
structure G.Fits(g:G):Prop where
 xs:g.xs.length≤9223372036854775807
 ys:g.ys.length≤9223372036854775807
 vs:g.vs.length≤9223372036854775807
 row:∀r∈g.vs,r.length≤9223372036854775807
def checkG(g:G):Int:=
 if g.xs=[] then 3 else if g.ys=[] then 3 else if 16<(g.xs.length:Int) then 4 else if 16<(g.ys.length:Int) then 4
 else if axis g.xs≠0 then axis g.xs else if axis g.ys≠0 then axis g.ys else if(g.vs.length:Int)≠g.xs.length then 19 else rowsC g.ys.length g.vs
theorem checkG_run(g:G)(hf:g.Fits):F_curve_CheckGrid [.agg (eG g)]=some (I (checkG g)):=by
 rw[F_curve_CheckGrid_eq]
 have ih:=rows_loop g.xs g.ys g.vs hf.row hf.vs bigL 0 (by omega) (by have:=bigL_ge;have:=hf.vs;omega)
 simp at ih
 unfold checkG
 simp[axis_run _ hf.xs,axis_run _ hf.ys,ih]
 repeat' split
 all_goals(first|rfl|omega|simp_all)
end Go.Proofs.YtbdgblipbpadeaaGreatDoor
namespace Go.Proofs.YtbdgblipbpadeaaGreatDoor
open Go Go.Abs
set_option maxHeartbeats 2000000
set_option maxRecDepth 100000
structure GoodG(g:G):Prop where
 nx:g.xs≠[]
 ny:g.ys≠[]
 lx:g.xs.length≤16
 ly:g.ys.length≤16
 ax:axis g.xs=0
 ay:axis g.ys=0
 lv:g.vs.length=g.xs.length
 row:∀r∈g.vs,r.length=g.ys.length∧∀n∈r,inR n=true
theorem allR_iff:∀l:List Int,allR l=true↔∀n∈l,inR n=true
 |[]=>by simp[allR]
 |n::r=>by
  rw[allR]
  cases h:inR n<;>simp[h,allR_iff r]
theorem rowsC_iff(m:Nat):∀vs:List (List Int),rowsC m vs=0↔∀r∈vs,r.length=m∧∀n∈r,inR n=true
 |[]=>by simp[rowsC]
 |r::rs=>by
  rw[rowsC]
  by_cases h1:(r.length:Int)=m
  ·by_cases h2:allR r=true
   ·rw[if_pos h1,if_pos h2,rowsC_iff m rs]
    rw[allR_iff] at h2
    simp
    exact fun _=>⟨by omega,h2⟩
   ·rw[if_pos h1,if_neg h2]
    rw[allR_iff] at h2
    simp
    intro _ h3
    exact absurd h3 h2
  ·rw[if_neg h1]
   simp
   intro h2
   omega
theorem goodG_iff(g:G):checkG g=0↔GoodG g:=by
 unfold checkG
 constructor
 ·intro h
  split at h
  ·cases h
  split at h
  ·cases h
  split at h
  ·cases h
  split at h
  ·cases h
  split at h
  ·rename_i h5;exact absurd h h5
  split at h
  ·rename_i h5;exact absurd h h5
  split at h
  ·cases h
  rename_i a b c d e f k
  exact⟨a,b,by omega,by omega,by simpa using e,by simpa using f,by omega,(rowsC_iff _ _).1 h⟩
 ·intro h
  have:=h.lx
  have:=h.ly
  have:=h.lv
  rw[if_neg h.nx,if_neg h.ny,if_neg (by omega),if_neg (by omega),if_neg (by simp[h.ax]),if_neg (by simp[h.ay]),if_neg (by omega)]
  exact(rowsC_iff _ _).2 h.row
def rowAt(g:G)(y:Int)(r:List Int):Int:=at' (g.ys.zip r) y
def value(g:G)(x y:Int):Int:=if checkG g=0 then at' (g.xs.zip (g.vs.map (rowAt g y))) x else 0
def fill16(l:List Int)(i:Nat):List Int:=l.take i++List.replicate (16-i) 0
theorem fill16_len{l:List Int}{i:Nat}(h:i≤l.length)(h2:l.length≤16):(fill16 l i).length=16:=by simp[fill16];omega
theorem fill16_next{l:List Int}{i:Nat}(h:i<l.length)(h2:l.length≤16):(fill16 l i).take i++l[i]::(fill16 l i).drop (i+1)=fill16 l (i+1):=by
 unfold fill16
 rw[List.take_append_of_le_length (by simp;omega),List.take_of_length_le (by simp;omega),List.drop_append,List.drop_of_length_le (by simp;omega)]
 rw[List.take_succ_eq_append_getElem h,List.append_assoc]
 simp[Nat.min_eq_left (Nat.le_of_lt h)]
 omega
theorem value_loop(g:G)(x y:Int)(hg:GoodG g):∀(n i:Nat),i≤g.vs.length→g.vs.length-i<n→
  L_curve_Value 5 n ⟨[(0,.any),(1,I x),(2,I y),(3,.ptr 3 0),(6,.any),(7,.ptr 7 0),(8,.any),(9,.any),(14,.sl (g.vs.map eR)),(15,I g.vs.length),(16,I i)],[(3,.box 371 (eG g)),(7,.box 384 ((fill16 (g.vs.map (rowAt g y)) i).map I))]⟩=
   some (.ex 0,⟨[(0,.any),(1,I x),(2,.any),(3,.ptr 3 0),(6,.any),(7,.ptr 7 0),(8,.any),(9,.any),(14,.any),(15,.any),(16,.any)],[(3,.box 371 (eG g)),(7,.box 384 ((fill16 (g.vs.map (rowAt g y)) g.vs.length).map I))]⟩)
 |0,i,_,hn=>by omega
 |n+1,i,hi,hn=>by
  rw[L_curve_Value_succ,R_curve_Value_eq]
  have hlv:=hg.lv
  have hlx:=hg.lx
  have hly:=hg.ly
  by_cases h:i<g.vs.length
  ·have h1:=List.getElem?_eq_getElem h
   have h3:(i:Int)<g.vs.length:=by omega
   have h16:(i:Int)<16:=by omega
   have hw:=wrapN (n:=i) (by omega)
   have hrow:=hg.row _ (List.getElem_mem h)
   have ih:=value_loop g x y hg n (i+1) (by omega) (by omega)
   have hp:=points_run g.ys g.vs[i] (by omega) (by omega)
   have ha:=at_run (g.ys.zip g.vs[i]) y (by simp;omega)
   have hn:=fill16_next (l:=g.vs.map (rowAt g y)) (i:=i) (by simpa using h) (by simp;omega)
   have hc:=fill16_len (l:=g.vs.map (rowAt g y)) (i:=i) (by simp;omega) (by simp;omega)
   simp only[List.getElem_map] at hn
   have hs:List.take i ((fill16 (g.vs.map (rowAt g y)) i).map I)++I (rowAt g y g.vs[i])::List.drop (i+1) ((fill16 (g.vs.map (rowAt g y)) i).map I)=(fill16 (g.vs.map (rowAt g y)) (i+1)).map I:=by
    rw[←hn];simp
   have hcl:((fill16 (g.vs.map (rowAt g y)) i).map I).length=16:=by simpa using hc
   generalize(fill16 (g.vs.map (rowAt g y)) i).map I=cs at hs hcl⊢
   simp only[Int.natCast_add,Int.natCast_one] at ih
   have hi16:i+1≤16:=by omega
   have hi16':i<16:=by omega
   simp[rowAt] at hs
   simp at ih
   simp[h1,h3,h,hw,hp,ha,hcl,h16,hi16,hi16',hs,ih]
  ·have h3:¬(i:Int)<g.vs.length:=by omega
   have h5:i=g.vs.length:=by omega
   subst h5
   simp
theorem chunk_I(l:List Int):chunk 1 l.length (l.map I)=l.map eI:=by
 apply List.ext_getElem?
 intro i
 by_cases h:i<l.length
 ·simp[chunk,h,List.take_one]
 ·simp[chunk,h]
theorem rowsI_eI:∀l:List Int,rowsI (l.map eI)=some (l.map eI)
 |[]=>rfl
 |n::r=>by
  have h:=rowsI_eI r
  rw[List.map_cons,rowsI,h]
  simp
theorem usedC_I(k:Nat):∀l:List Int,usedC k (l.map I)=false
 |[]=>rfl
 |n::r=>by
  have h:=usedC_I k r
  simp[usedC,h]
theorem kill1_I(k:Nat)(l:List Int):(l.map I).map (kill1 k)=l.map I:=by
 simp
theorem value_run(g:G)(x y:Int)(hf:g.Fits):F_curve_Value [.agg (eG g),I x,I y]=some (I (value g x y)):=by
 rw[F_curve_Value_eq]
 have hrun:=checkG_run g hf
 simp at hrun
 by_cases hc:checkG g=0
 ·have hg:=(goodG_iff g).1 hc
  have hlv:=hg.lv
  have hlx:=hg.lx
  have ih:=value_loop g x y hg bigL 0 (by omega) (by have:=bigL_ge;omega)
  have h0:(fill16 (g.vs.map (rowAt g y)) 0).map I=[I 0,I 0,I 0,I 0,I 0,I 0,I 0,I 0,I 0,I 0,I 0,I 0,I 0,I 0,I 0,I 0]:=rfl
  rw[h0] at ih
  have hl:(fill16 (g.vs.map (rowAt g y)) g.vs.length).length=16:=fill16_len (by simp) (by simp;omega)
  have hz:g.xs.zip (fill16 (g.vs.map (rowAt g y)) g.vs.length)=g.xs.zip (g.vs.map (rowAt g y)):=by
   unfold fill16
   rw[List.take_of_length_le (by simp)]
   rw[←List.append_nil g.xs,List.zip_append (by simp[hlv])]
   simp
  have hp:=points_run g.xs (fill16 (g.vs.map (rowAt g y)) g.vs.length) (by omega) (by omega)
  rw[hz] at hp
  have hch:=chunk_I (fill16 (g.vs.map (rowAt g y)) g.vs.length)
  have hri:=rowsI_eI (fill16 (g.vs.map (rowAt g y)) g.vs.length)
  have hcl:((fill16 (g.vs.map (rowAt g y)) g.vs.length).map I).length=16:=by simpa using hl
  rw[hl] at hch
  have hus:=fun k=>usedC_I k (fill16 (g.vs.map (rowAt g y)) g.vs.length)
  have hki:=fun k=>kill1_I k (fill16 (g.vs.map (rowAt g y)) g.vs.length)
  generalize(fill16 (g.vs.map (rowAt g y)) g.vs.length).map I=cs at hch hcl ih hus hki
  have ha:=at_run (g.xs.zip (g.vs.map (rowAt g y))) x (by simp;omega)
  simp at ih
  simp[hrun,hc,ih,value,hcl,hch,hri,hp,ha,hus,hki,-chunk]
 ·simp[hrun,hc,value]
end Go.Proofs.YtbdgblipbpadeaaGreatDoor
namespace Go.Proofs.YtbdgblipbpadeaaGreatDoor
open Go Go.Abs
set_option maxHeartbeats 2000000
set_option maxRecDepth 100000
end Go.Proofs.YtbdgblipbpadeaaGreatDoor
namespace Go.Proofs.YtbdgblipbpadeaaGreatDoor
open Go Go.Abs
set_option maxHeartbeats 2000000
set_option maxRecDepth 100000
end Go.Proofs.YtbdgblipbpadeaaGreatDoor
namespace Go.Proofs.YtbdgblipbpadeaaGreatDoor
open Go Go.Abs
set_option maxHeartbeats 2000000
set_option maxRecDepth 100000
theorem mul_le_l(c:Int){a b:Int}(h:a≤b)(hc:0≤c):c*a≤c*b:=Int.mul_le_mul_of_nonneg_left h hc
theorem seg_end{s t:Int×Int}(h:s.1<t.1):seg s t t.1=t.2:=by
 unfold seg
 rw[Int.mul_ediv_cancel _ (by omega)]
 omega
theorem seg_up{s t:Int×Int}{x:Int}(h:s.1<t.1)(h1:s.1≤x)(h2:x≤t.1)(hm:s.2≤t.2):s.2≤seg s t x∧seg s t x≤t.2:=by
 unfold seg
 have e1:0≤(t.2-s.2)*(x-s.1)/(t.1-s.1):=Int.ediv_nonneg (Int.mul_nonneg (by omega) (by omega)) (by omega)
 have e2:(t.2-s.2)*(x-s.1)/(t.1-s.1)≤t.2-s.2:=Int.ediv_le_of_le_mul (by omega) (Int.mul_le_mul_of_nonneg_left (by omega) (by omega))
 omega
theorem seg_down{s t:Int×Int}{x:Int}(h:s.1<t.1)(h1:s.1≤x)(h2:x≤t.1)(hm:t.2≤s.2):t.2≤seg s t x∧seg s t x≤s.2:=by
 unfold seg
 have e1:(t.2-s.2)*(x-s.1)/(t.1-s.1)≤0:=Int.ediv_le_of_le_mul (by omega) (by
  have:=Int.mul_nonneg (a:=s.2-t.2) (b:=x-s.1) (by omega) (by omega)
  have e:(t.2-s.2)*(x-s.1)= -((s.2-t.2)*(x-s.1)):=by rw[←Int.neg_mul];congr 1;omega
  omega)
 have e2:t.2-s.2≤(t.2-s.2)*(x-s.1)/(t.1-s.1):=Int.le_ediv_of_mul_le (by omega) (by
  have:=mul_le_l (s.2-t.2) (a:=x-s.1) (b:=t.1-s.1) (by omega) (by omega)
  have e:(t.2-s.2)*(x-s.1)= -((s.2-t.2)*(x-s.1)):=by rw[←Int.neg_mul];congr 1;omega
  have e':(t.2-s.2)*(t.1-s.1)= -((s.2-t.2)*(t.1-s.1)):=by rw[←Int.neg_mul];congr 1;omega
  omega)
 omega
theorem seg_between{s t:Int×Int}{x:Int}(h:s.1<t.1)(h1:s.1≤x)(h2:x≤t.1):min s.2 t.2≤seg s t x∧seg s t x≤max s.2 t.2:=by
 by_cases hm:s.2≤t.2
 ·have:=seg_up h h1 h2 hm;omega
 ·have:=seg_down h h1 h2 (by omega);omega
theorem interp_seg(x:Int):∀(i:Nat) (s:Int×Int) (r:List (Int×Int)) (hi:i<r.length),((s::r).map (·.1)).Pairwise (·<·)→((s::r)[i]'(by simp;omega)).1<x→x≤r[i].1→
  interp x s r=seg ((s::r)[i]'(by simp;omega)) r[i] x
 |0,s,t::r,_,_,h1,h2=>by
  simp at h1 h2
  rw[interp,if_pos h2]
  simp
 |i+1,s,t::r,hi,hp,h1,h2=>by
  simp at hi h1 h2
  have hp':((t::r).map (·.1)).Pairwise (·<·):=by
   simp only[List.map_cons,List.pairwise_cons] at hp⊢
   exact hp.2
  have ht:t.1<x:=by
   cases i with
   |zero=>simpa using h1
   |succ j=>
    have:=List.rel_of_pairwise_cons (by simpa using hp') (List.mem_map_of_mem (f:=(·.1)) (List.getElem_mem (l:=r) (n:=j) (by omega)))
    simp at h1
    omega
  rw[interp,if_neg (by omega),interp_seg x i t r hi hp' h1 h2]
  simp
theorem at_seg{l:List (Int×Int)}(hg:Good l){x:Int}{i:Nat}(hi:i+1<l.length)(h1:(l[i]'(by omega)).1<x)(h2:x≤l[i+1].1):at' l x=seg (l[i]'(by omega)) l[i+1] x:=by
 have hc:=(good_iff l).2 hg
 rw[at_eq x hc (by omega)]
 cases l with
 |nil=>simp at hi
 |cons p r=>
  have hup:=hg.up
  have hp:p.1<x:=by
   cases i with
   |zero=>simpa using h1
   |succ j=>
    have:=List.rel_of_pairwise_cons (by simpa using hup) (List.mem_map_of_mem (f:=(·.1)) (List.getElem_mem (l:=r) (n:=j) (by simp at hi;omega)))
    simp at h1
    omega
  simp at h2 hi
  simp only[List.getElem_cons_zero,List.drop_one,List.tail_cons]
  rw[if_neg (by omega),interp_seg x i p r hi hup h1 h2]
  simp
theorem at_low{l:List (Int×Int)}(hg:Good l){x:Int}(hl:0<l.length)(h:x≤l[0].1):at' l x=l[0].2:=by
 rw[at_eq x ((good_iff l).2 hg) hl,if_pos h]
theorem Good.pos{l:List (Int×Int)}(hg:Good l):0<l.length:=List.length_pos_iff.2 hg.ne
theorem Good.lt{l:List (Int×Int)}(hg:Good l){i j:Nat}(hij:i<j)(hj:j<l.length):(l[i]'(by omega)).1<l[j].1:=by
 have:=List.pairwise_iff_getElem.1 hg.up i j (by simp;omega) (by simpa using hj) hij
 simpa using this
theorem at_point{l:List (Int×Int)}(hg:Good l){i:Nat}(hi:i<l.length):at' l l[i].1=l[i].2:=by
 cases i with
 |zero=>exact at_low hg hi (Int.le_refl _)
 |succ j=>
  have h:=hg.lt (Nat.lt_succ_self j) hi
  rw[at_seg hg hi h (Int.le_refl _),seg_end h]
theorem place{l:List (Int×Int)}(hg:Good l)(x:Int):x≤(l[0]'(hg.pos)).1∨(∃i,∃hi:i+1<l.length,(l[i]'(by omega)).1<x∧x≤l[i+1].1)∨(l[l.length-1]'(by have:=hg.pos;omega)).1<x:=by
 have hpos:=hg.pos
 have key:∀k,∀hk:k<l.length,(l[k]'hk).1<x∨x≤(l[0]'(hg.pos)).1∨∃i,∃hi:i+1<l.length,(l[i]'(by omega)).1<x∧x≤l[i+1].1:=by
  intro k
  induction k with
  |zero=>
   intro hk
   by_cases h:x≤(l[0]'(hg.pos)).1
   ·exact .inr (.inl h)
   ·exact .inl (by omega)
  |succ k ih=>
   intro hk
   rcases ih (by omega) with h|h
   ·by_cases h2:x≤l[k+1].1
    ·exact .inr (.inr ⟨k,hk,h,h2⟩)
    ·exact .inl (by omega)
   ·exact .inr h
 rcases key (l.length-1) (by omega) with h|h|h
 ·exact .inr (.inr h)
 ·exact .inl h
 ·exact .inr (.inl h)
theorem hit_false(x:Int):∀r:List (Int×Int),(∀q∈r,q.1<x)→hit x r=false
 |[],_=>rfl
 |t::r,h=>by
  have:=h t (by simp)
  rw[hit,if_neg (by omega)]
  exact hit_false x r (fun q hq=>h q (by simp[hq]))
theorem at_high{l:List (Int×Int)}(hg:Good l){x:Int}(h:(l[l.length-1]'(by have:=hg.pos;omega)).1≤x):at' l x=(l[l.length-1]'(by have:=hg.pos;omega)).2:=by
 have hpos:=hg.pos
 by_cases he:(l[l.length-1]'(by omega)).1=x
 ·rw[←he];exact at_point hg _
 ·have hc:=(good_iff l).2 hg
  have hall:∀q∈l,q.1<x:=by
   intro q hq
   obtain⟨i,hi,rfl⟩:=List.mem_iff_getElem.1 hq
   by_cases hl:i=l.length-1
   ·subst hl;omega
   ·have:=hg.lt (i:=i) (j:=l.length-1) (by omega) (by omega)
    omega
  rw[at_eq x hc hpos,if_neg (by have:=hall _ (List.getElem_mem hpos);omega)]
  rw[interp_last x _ _ (hit_false x _ (fun q hq=>hall q (List.mem_of_mem_drop hq)))]
  have h7:((l[0]::l.drop 1).getLast (by simp))=l[l.length-1]'(by omega):=by
   rw[List.getLast_eq_getElem]
   cases l with
   |nil=>simp at hpos
   |cons p r=>simp
  rw[h7]
theorem at_between{l:List (Int×Int)}(hg:Good l){x:Int}{i:Nat}(hi:i+1<l.length)(h1:(l[i]'(by omega)).1≤x)(h2:x≤l[i+1].1):min (l[i]'(by omega)).2 l[i+1].2≤at' l x∧at' l x≤max (l[i]'(by omega)).2 l[i+1].2:=by
 by_cases he:(l[i]'(by omega)).1=x
 ·rw[←he,at_point hg];omega
 ·rw[at_seg hg hi (by omega) h2]
  exact seg_between (hg.lt (Nat.lt_succ_self i) hi) h1 h2
end Go.Proofs.YtbdgblipbpadeaaGreatDoor
namespace Go.Proofs.YtbdgblipbpadeaaGreatDoor
open Go Go.Abs
set_option maxHeartbeats 2000000
set_option maxRecDepth 100000
theorem chkA_chk:∀(l:List Int) (p:Option Int),chkA p l=chk p (l.map fun n=>(n,0))
 |[],_=>rfl
 |n::r,p=>by
  rw[chkA,List.map_cons,chk,chkA_chk r]
  have:inR 0=true:=rfl
  simp[this]
theorem axis_zero{l:List Int}(h:axis l=0):(∀n∈l,inR n=true)∧l.Pairwise (·<·):=by
 rw[axis,chkA_chk] at h
 obtain⟨a,b,_⟩:=chk_zero _ _ h
 refine⟨fun n hn=>(a (n,0) (List.mem_map_of_mem hn)).1, ?_⟩
 have e:(l.map fun n=>(n,(0:Int))).map (·.1)=l:=by
  rw[List.map_map]
  exact List.map_id' l
 rw[e] at b
 exact b
theorem zip_fst{l r:List Int}(h:l.length≤r.length):(l.zip r).map (·.1)=l:=by
 apply List.ext_getElem
 ·simp;omega
 ·intro i h1 h2;simp
theorem good_zip{l r:List Int}(hn:l≠[])(hl:l.length≤16)(ha:axis l=0)(hr:l.length≤r.length)(hv:∀n∈r,inR n=true):Good (l.zip r):=by
 obtain⟨a,b⟩:=axis_zero ha
 have hpos:=List.length_pos_iff.2 hn
 refine⟨?_,by simp;omega, ?_,by rw[zip_fst hr];exact b⟩
 ·intro h
  have h0:=congrArg List.length h
  rw[List.length_zip,List.length_nil] at h0
  omega
 ·intro q hq
  have:=a _ (List.of_mem_zip hq).1
  have:=hv _ (List.of_mem_zip hq).2
  rw[inR_iff] at*
  exact⟨by assumption,by assumption⟩
theorem at_range{l:List (Int×Int)}(hg:Good l){lo hi:Int}(h:∀q∈l,lo≤q.2∧q.2≤hi)(x:Int):lo≤at' l x∧at' l x≤hi:=by
 rcases place hg x with h1|⟨i,hi',h1,h2⟩|h1
 ·rw[at_low hg hg.pos h1];exact h _ (List.getElem_mem _)
 ·have a:=at_between hg hi' (by omega) h2
  have b:=h _ (List.getElem_mem (l:=l) (n:=i) (by omega))
  have c:=h _ (List.getElem_mem (l:=l) (n:=i+1) (by omega))
  omega
 ·rw[at_high hg (by omega)];exact h _ (List.getElem_mem _)
theorem GoodG.rowGood{g:G}(hg:GoodG g){r:List Int}(hr:r∈g.vs):Good (g.ys.zip r):=
 good_zip hg.ny hg.ly hg.ay (by have:=(hg.row r hr).1;omega) (hg.row r hr).2
theorem rowAt_range{g:G}(hg:GoodG g){r:List Int}(hr:r∈g.vs){lo hi:Int}(h:∀n∈r,lo≤n∧n≤hi)(y:Int):lo≤rowAt g y r∧rowAt g y r≤hi:=
 at_range (hg.rowGood hr) (fun q hq=>h _ (List.of_mem_zip hq).2) y
theorem GoodG.good{g:G}(hg:GoodG g)(y:Int):Good (g.xs.zip (g.vs.map (rowAt g y))):=by
 refine good_zip hg.nx hg.lx hg.ax (by have:=hg.lv;simp;omega) ?_
 intro n hn
 obtain⟨r,hr,rfl⟩:=List.mem_map.1 hn
 rw[inR_iff]
 exact rowAt_range hg hr (fun n hn=>inR_iff.1 ((hg.row r hr).2 n hn)) y
theorem value_range{g:G}(hg:GoodG g){lo hi:Int}(h:∀r∈g.vs,∀n∈r,lo≤n∧n≤hi)(x y:Int):lo≤value g x y∧value g x y≤hi:=by
 rw[value,if_pos ((goodG_iff g).2 hg)]
 refine at_range (hg.good y) ?_ x
 intro q hq
 obtain⟨r,hr,e⟩:=List.mem_map.1 (List.of_mem_zip hq).2
 rw[←e]
 exact rowAt_range hg hr (h r hr) y
end Go.Proofs.YtbdgblipbpadeaaGreatDoor
