/-
  Lengths in a list, and the defects of a board inside it, run abstractly.
-/
import Derived.Test.YtbdgblipbpadeaaGreatDoorMw
set_option linter.unusedSimpArgs false
set_option linter.unusedVariables false
set_option linter.defProp false
namespace Go.Proofs.YtbdgblipbpadeaaGreatDoor
open Go Go.Abs
set_option maxHeartbeats 8000000
set_option maxRecDepth 100000
theorem inI_eq(v:Int):∀l:List Int,inI v l=inL v l
 |[]=>by simp[inI,inL]
 |x::r=>by
  rw[show inI v (x::r)=(if x=v then true else inI v r) from rfl,show inL v (x::r)=(if v=x then true else inL v r) from rfl,inI_eq v r]
  by_cases h:x=v
  ·simp[h]
  ·have h':¬v=x:=fun e=>h e.symm
   simp[h,h']
end Go.Proofs.YtbdgblipbpadeaaGreatDoor
namespace Go.Proofs.YtbdgblipbpadeaaGreatDoor
open Go Go.Abs
set_option maxHeartbeats 8000000
set_option maxRecDepth 100000
theorem spanSize_run(a b:Int)(h:a<b→0≤b-a∧b-a≤18446744073709551615):F_span_size [.agg [I a,I b]]=some (.x (.int .u64 (if b≤a then 0 else b-a))):=by
 rw[F_span_size_eq]
 by_cases c:b≤a
 ·simp[c]
 ·have h':=h (by omega)
  have e:IntKind.u64.wrap (IntKind.u64.wrap b-IntKind.u64.wrap a)=b-a:=by
   rw[IntKind.wrap_u64,IntKind.wrap_u64,IntKind.wrap_u64]
   omega
  simp[c,e]
theorem limited_run(n:Int)(h:0≤n):F_span_limited [.x (.int .u64 n)]=some (I (if 9223372036854775807<n then 9223372036854775807 else n)):=by
 rw[F_span_limited_eq]
 have e:IntKind.i64.wrap (if 9223372036854775807<n then 9223372036854775807 else n)=if 9223372036854775807<n then 9223372036854775807 else n:=by
  split<;>exact wrap64 (by omega) (by omega)
 simp[e]
theorem slen_run(a b:Int)(ha:i64 a)(hb:i64 b):F_span_Len [.agg [I a,I b]]=some (I (lenS a b)):=by
 rw[F_span_Len_eq]
 unfold i64 at ha hb
 have h1:=spanSize_run a b (fun h=>by omega)
 have h2:=limited_run (if b≤a then 0 else b-a) (by split<;>omega)
 unfold lenS
 simp[h1,h2]
 by_cases c:b≤a
 ·simp[c]
 ·simp[c]
def sizeD(d:Dfc):Int:=if lenS d.xa d.xb<lenS d.ya d.yb then lenS d.ya d.yb else lenS d.xa d.xb
structure Rng(d:Dfc):Prop where
 xa:i64 d.xa
 xb:i64 d.xb
 ya:i64 d.ya
 yb:i64 d.yb
theorem dsize_run(d:Dfc)(h:Rng d):F_defect_Size [.agg (eDf d)]=some (I (sizeD d)):=by
 rw[F_defect_Size_eq]
 have h1:=slen_run d.xa d.xb h.xa h.xb
 have h2:=slen_run d.ya d.yb h.ya h.yb
 unfold sizeD
 simp[h1,h2]
def cntD(k:Int)(n:Int):List Dfc→Int
 |[]=>n
 |d::r=>if d.kind=k then cntD k (n+1) r else cntD k n r
def lrgD(k:Int)(n:Int):List Dfc→Int
 |[]=>n
 |d::r=>if d.kind=k then lrgD k (if n<sizeD d then sizeD d else n) r else lrgD k n r
theorem count_loop(l:List Dfc)(k:Int)(hl:l.length≤1000):∀(n i:Nat) (r:List Dfc),l.drop i=r→r.length<n→∀s:Int,0≤s→s≤i→
  L_defect_Count 3 n ⟨[(0,.any),(1,I k),(4,.any),(5,I s),(7,.any),(8,.sl (l.map eDf)),(9,I l.length),(10,I i)],[]⟩=
   some (.ex 0,⟨[(0,.any),(1,.any),(4,.any),(5,I (cntD k s r)),(7,.any),(8,.any),(9,.any),(10,.any)],[]⟩):=by
 refine lind l _ ?_ ?_
 ·intro n i hr s h0 h1
  rw[L_defect_Count_succ,R_defect_Count_eq]
  simp[dn hr,cntD]
 ·intro n i d r hr hi ih s h0 hs
  rw[L_defect_Count_succ,R_defect_Count_eq]
  obtain⟨h1,h3,hr',_⟩:=dc (enc:=eDf) hr
  have hw:=wrapN (n:=i) (by omega)
  have ws:IntKind.i64.wrap (s+1)=s+1:=wrap64 (by omega) (by omega)
  unfold cntD
  by_cases c:d.kind=k
  ·have ih':=ih (s+1) (by omega) (by omega)
   simp at ih'
   simp[h1,h3,c,hw,ws,ih']
  ·have ih':=ih s (by omega) (by omega)
   simp at ih'
   simp[h1,h3,c,hw,ih']
theorem count_run(l:List Dfc)(k:Int)(hl:l.length≤1000):F_defect_Count [.sl (l.map eDf),I k]=some (I (cntD k 0 l)):=by
 rw[F_defect_Count_eq]
 have ih:=count_loop l k hl bigL 0 l rfl (by have:=bigL_ge;omega) 0 (by omega) (by omega)
 simp at ih
 simp[ih]
theorem largest_loop(l:List Dfc)(k:Int)(hl:l.length≤1000)(hg:∀d∈l,Rng d):∀(n i:Nat) (r:List Dfc),l.drop i=r→r.length<n→∀s:Int,
  L_defect_Largest 3 n ⟨[(0,.any),(1,I k),(4,.any),(5,I s),(7,.any),(8,.sl (l.map eDf)),(9,I l.length),(10,I i)],[]⟩=
   some (.ex 0,⟨[(0,.any),(1,.any),(4,.any),(5,I (lrgD k s r)),(7,.any),(8,.any),(9,.any),(10,.any)],[]⟩):=by
 refine lind l _ ?_ ?_
 ·intro n i hr s
  rw[L_defect_Largest_succ,R_defect_Largest_eq]
  simp[dn hr,lrgD]
 ·intro n i d r hr hi ih s
  rw[L_defect_Largest_succ,R_defect_Largest_eq]
  obtain⟨h1,h3,hr',_⟩:=dc (enc:=eDf) hr
  have hw:=wrapN (n:=i) (by omega)
  have hz:=dsize_run d (hg d (List.mem_of_mem_drop (hr▸List.mem_cons_self:d∈l.drop i)))
  simp at hz
  unfold lrgD
  by_cases c:d.kind=k
  ·have ih':=ih (if s<sizeD d then sizeD d else s)
   simp at ih'
   rw[c] at hz
   simp[h1,h3,c,hz,hw,ih']
  ·have ih':=ih s
   simp at ih'
   simp[h1,h3,c,hw,ih']
theorem largest_run(l:List Dfc)(k:Int)(hl:l.length≤1000)(hg:∀d∈l,Rng d):F_defect_Largest [.sl (l.map eDf),I k]=some (I (lrgD k 0 l)):=by
 rw[F_defect_Largest_eq]
 have ih:=largest_loop l k hl hg bigL 0 l rfl (by have:=bigL_ge;omega) 0
 simp at ih
 simp[ih]
end Go.Proofs.YtbdgblipbpadeaaGreatDoor
