/-
  Volumes, solids and what a solid lacks of a rectangle, run abstractly.
-/
import Derived.Test.YtbdgblipbpadeaaGreatDoorNf
import Derived.Test.YtbdgblipbpadeaaGreatDoorMz
set_option linter.unusedSimpArgs false
set_option linter.unusedVariables false
set_option linter.defProp false
namespace Go.Proofs.YtbdgblipbpadeaaGreatDoor
open Go Go.Abs
set_option maxHeartbeats 4000000
set_option maxRecDepth 100000
def lenM(a b c d:Int):Int:=if meetB a b c d=true then(if d<b then d else b)-(if a<c then c else a) else 0
theorem lenM_run(a b c d:Int)(ha: -1000000≤a)(hb:b≤1000000):F_span_Len [.agg [I (if meetB a b c d=true then if a<c then c else a else 0),I (if meetB a b c d=true then if d<b then d else b else 0)]]=some (I (lenM a b c d)):=by
 unfold lenM
 by_cases h:meetB a b c d=true
 ·have h':=h
  unfold meetB at h'
  simp only[decide_eq_true_eq] at h'
  have h1: -1000000≤(if a<c then c else a):=by split<;>omega
  have h2:(if d<b then d else b)≤1000000:=by split<;>omega
  rw[if_pos h,if_pos h,if_pos h]
  generalize(if a<c then c else a)=x at*
  generalize(if d<b then d else b)=y at*
  rw[slen_run x y ⟨by omega,by omega⟩ ⟨by omega,by omega⟩]
  unfold lenS
  rw[if_neg (by omega),if_neg (by omega)]
 ·rw[if_neg h,if_neg h,if_neg h,slen_run 0 0 ⟨by omega,by omega⟩ ⟨by omega,by omega⟩]
  simp[lenS]
abbrev W(n:Int):Int:=IntKind.i64.wrap n
def withR(low xa xb ya yb:Int):Nat→Int→List Sp→Int
 |_,s,[]=>s
 |i,s,p::r=>withR low xa xb ya yb (i+1) (W (s+W (lenM p.1 p.2 xa xb*lenM (10*(low+i)) (10*(low+i)+10) ya yb))) r
theorem secWithin_loop(s:Sec)(xa xb ya yb:Int)(hv:secE s=0):∀(n i:Nat) (r:List Sp),s.rows.drop i=r→r.length<n→∀v:Int,
  L_section_Within 4 n ⟨[(0,.any),(1,.any),(2,.ptr 2 0),(3,.ptr 3 0),(4,.any),(5,I v),(6,.any),(7,.any),(8,.any),(12,.sl (s.rows.map eP)),(13,I s.rows.length),(14,I i)],[(2,.box 137 (eSc s)),(3,.box 36 [I xa,I xb,I ya,I yb])]⟩=
   some (.ex 0,⟨[(0,.any),(1,.any),(2,.any),(3,.any),(4,.any),(5,I (withR s.low xa xb ya yb i v r)),(6,.any),(7,.any),(8,.any),(12,.any),(13,.any),(14,.any)],[]⟩):=by
 obtain⟨hl,h0,h2,hr⟩:=secE_zero hv
 refine lnd eP s.rows (by omega) _ ?_ ?_
 ·intro n i h v
  rw[L_section_Within_succ,R_section_Within_eq]
  simp[h,withR]
 ·intro n i x r h1 h3 hw hm ih v
  rw[L_section_Within_succ,R_section_Within_eq]
  obtain⟨u,t⟩:=x
  obtain⟨⟨q1,q2⟩,q3,q4⟩:=hr _ hm
  have w1:IntKind.i64.wrap (s.low+(i:Int))=s.low+i:=wrap64 (by omega) (by omega)
  have w2:IntKind.i64.wrap (s.low+(i:Int)+1)=s.low+i+1:=wrap64 (by omega) (by omega)
  have hh:=heights_run (s.low+i) (s.low+i+1)
  have w3:IntKind.i64.wrap (10*(s.low+(i:Int)))=10*(s.low+i):=wrap64 (by omega) (by omega)
  have w4:IntKind.i64.wrap (10*(s.low+(i:Int)+1))=10*(s.low+i)+10:=by rw[wrap64]<;>omega
  rw[w3,w4] at hh
  have m1:=meet_run u t xa xb
  have m2:=meet_run (10*(s.low+i)) (10*(s.low+i)+10) ya yb
  have k1:=lenM_run u t xa xb (by omega) (by omega)
  have k2:=lenM_run (10*(s.low+i)) (10*(s.low+i)+10) ya yb (by omega) (by omega)
  have ih:=ih (W (v+W (lenM u t xa xb*lenM (10*(s.low+i)) (10*(s.low+i)+10) ya yb)))
  generalize(if meetB u t xa xb=true then if u<xa then xa else u else 0)=a1 at*
  generalize(if meetB u t xa xb=true then if xb<t then xb else t else 0)=a2 at*
  generalize(if meetB (10*(s.low+i)) (10*(s.low+i)+10) ya yb=true then if 10*(s.low+i)<ya then ya else 10*(s.low+i) else 0)=a3 at*
  generalize(if meetB (10*(s.low+i)) (10*(s.low+i)+10) ya yb=true then if yb<10*(s.low+i)+10 then yb else 10*(s.low+i)+10 else 0)=a4 at*
  simp at ih
  simp[h1,h3,hw,w1,w2,hh,m1,m2,k1,k2,ih,withR]
def withinS(s:Sec)(xa xb ya yb:Int):Int:=if secE s=0 then withR s.low xa xb ya yb 0 0 s.rows else 0
theorem secWithin_run(s:Sec)(xa xb ya yb:Int):F_section_Within [.agg (eSc s),.agg [I xa,I xb,I ya,I yb]]=some (I (withinS s xa xb ya yb)):=by
 rw[F_section_Within_eq]
 have hv:=secValid_run s
 unfold withinS
 by_cases h:secE s=0
 ·have l:=secWithin_loop s xa xb ya yb h bigL 0 s.rows rfl (by have:=bigL_ge;have:=(secE_zero h).1;omega) 0
  simp at l hv
  simp[hv,h,l]
 ·obtain⟨m,hm⟩:=bigL_succ 1 (by omega)
  simp at hv
  simp[h] at hv
  simp only[zgp,GP,hm]
  simp[hv,h]
  rw[L_section_Within_succ,R_section_Within_eq]
  simp
def slcE(len:Int):List Slc→Int
 |[]=>0
 |x::r=>if secE x.sec=0 then if x.sec.rows.length=0 then 18 else if x.len<1 then 9 else if 20000-len<x.len then 9 else slcE (len+x.len) r else secE x.sec
def solE(l:List Slc):Int:=if l.length=0 then 3 else if 24<(l.length:Int) then 4 else slcE 0 l
theorem solCheck_loop(l:List Slc)(hl:l.length≤1000000):∀(n i:Nat) (r:List Slc),l.drop i=r→r.length<n→∀len:Int,0≤len→len≤20000→
  ∃_q:Int,L_solid_Check 7 n ⟨[(0,.any),(2,.any),(3,I len),(5,.any),(6,.any),(13,.sl (l.map eSl)),(14,I l.length),(15,I i)],[]⟩=
   if slcE len r=0 then some (.ex 0,⟨[(0,.any),(2,.any),(3,.any),(5,.any),(6,.any),(13,.any),(14,.any),(15,.any)],[]⟩)
   else some (.ret,⟨[(0,.any),(2,I (slcE len r)),(3,.any),(5,.any),(6,.any),(13,.any),(14,.any),(15,.any)],[]⟩):=by
 refine lnd eSl l (by omega) _ ?_ ?_
 ·intro n i h len h0 h1
  refine⟨0, ?_⟩
  rw[L_solid_Check_succ,R_solid_Check_eq]
  simp[h,slcE]
 ·intro n i x r h1 h3 hw _ ih len hl0 hl1
  refine⟨0, ?_⟩
  rw[L_solid_Check_succ,R_solid_Check_eq]
  obtain⟨xl,⟨lo,rows⟩⟩:=x
  have hc:=secCheck_run ⟨lo,rows⟩
  have w1:IntKind.i64.wrap (20000-len)=20000-len:=wrap64 (by omega) (by omega)
  simp at hc
  by_cases a1:secE ⟨lo,rows⟩=0
  ·by_cases a2:rows=[]
   ·subst a2
    simp at hc
    simp[h1,h3,hc,slcE,a1]
   by_cases a3:xl<1
   ·simp[h1,h3,hc,slcE,a1,a2,a3]
   by_cases a4:20000-len<xl
   ·simp[h1,h3,hc,slcE,a1,a2,a3,a4,w1]
   have w2:IntKind.i64.wrap (len+xl)=len+xl:=wrap64 (by omega) (by omega)
   obtain⟨_,ih⟩:=ih (len+xl) (by omega) (by omega)
   simp at ih
   simp[h1,h3,hw,hc,slcE,a1,a2,a3,a4,w1,w2,ih]
  ·simp[h1,h3,hc,slcE,a1]
theorem solCheck_run(l:List Slc):F_solid_Check [.sl (l.map eSl)]=some (I (solE l)):=by
 rw[F_solid_Check_eq]
 unfold solE
 by_cases a1:l=[]
 ·simp[a1]
 by_cases a2:24<(l.length:Int)
 ·simp[a1,a2]
 obtain⟨_,h⟩:=solCheck_loop l (by omega) bigL 0 l rfl (by have:=bigL_ge;omega) 0 (by omega) (by omega)
 simp at h
 by_cases a3:slcE 0 l=0
 ·simp[a3] at h
  simp[a1,a2,h,a3]
 ·simp[a3] at h
  simp[a1,a2,h,a3]
theorem solValid_run(l:List Slc):F_solid_valid [.sl (l.map eSl)]=some (if solE l=0 then .sl (l.map eSl) else .own true []):=by
 rw[F_solid_valid_eq]
 have h:=solCheck_run l
 by_cases a:solE l=0
 ·simp[h,a]
 ·simp[h,a]
def lenL:Int→List Slc→Int
 |s,[]=>s
 |s,x::r=>lenL (s+x.len) r
theorem slcE_bnd:∀(l:List Slc) (s:Int),0≤s→s≤20000→slcE s l=0→(∀x∈l,1≤x.len∧secE x.sec=0∧0<x.sec.rows.length)∧s≤lenL s l∧lenL s l≤20000
 |[],s,h0,h1,h=>by simp[lenL,h1]
 |x::r,s,h0,h1,h=>by
  unfold slcE at h
  split at h
  ·rename_i a1
   split at h
   ·cases h
   split at h
   ·cases h
   split at h
   ·cases h
   rename_i a2 a3 a4
   obtain⟨q1,q2,q3⟩:=slcE_bnd r (s+x.len) (by omega) (by omega) h
   refine⟨fun y hy=>?_,by unfold lenL;omega,q3⟩
   rcases List.mem_cons.1 hy with rfl|hy
   ·exact⟨by omega,a1,by omega⟩
   ·exact q1 y hy
  ·rename_i a1
   exact absurd h a1
theorem solE_zero{l:List Slc}(h:solE l=0):0<l.length∧l.length≤24∧slcE 0 l=0:=by
 unfold solE at h
 split at h
 ·cases h
 split at h
 ·cases h
 rename_i a b
 exact⟨by omega,by omega,h⟩
def extS:Int→List Slc→List Sp
 |_,[]=>[]
 |z,x::r=>(z,z+x.len)::extS (z+x.len) r
theorem extS_length:∀(l:List Slc) (z:Int),(extS z l).length=l.length
 |[],_=>rfl
 |x::r,z=>by simp[extS,extS_length r]
def upTo(z:Int):List Slc→Prop
 |[]=>0≤z∧z≤20000
 |x::r=>0≤z∧z≤20000∧1≤x.len∧x.len≤20000∧secE x.sec=0∧upTo (z+x.len) r
theorem upTo_le:∀(l:List Slc) (z:Int),upTo z l→0≤z∧z≤20000
 |[],_,h=>h
 |_::_,_,h=>⟨h.1,h.2.1⟩
theorem upTo_of:∀(l:List Slc) (s:Int),0≤s→s≤20000→slcE s l=0→upTo s l
 |[],s,h0,h1,h=>⟨h0,h1⟩
 |x::r,s,h0,h1,h=>by
  unfold slcE at h
  split at h
  ·rename_i a1
   split at h
   ·cases h
   split at h
   ·cases h
   split at h
   ·cases h
   rename_i a2 a3 a4
   exact⟨h0,h1,by omega,by omega,a1,upTo_of r (s+x.len) (by omega) (by omega) h⟩
  ·rename_i a1
   exact absurd h a1
theorem upTo_lenL:∀(l:List Slc) (s:Int),upTo s l→s≤lenL s l∧lenL s l≤20000
 |[],s,h=>⟨Int.le_refl _,h.2⟩
 |x::r,s,h=>by
  obtain⟨_,_,h1,_,_,h2⟩:=h
  have:=upTo_lenL r (s+x.len) h2
  unfold lenL
  omega
theorem solE_upTo{l:List Slc}(h:solE l=0):upTo 0 l:=upTo_of l 0 (by omega) (by omega) (solE_zero h).2.2
theorem ext_loop(l:List Slc)(hl:l.length≤24):∀(n i:Nat) (r:List Slc),l.drop i=r→r.length<n→∀(z:Int) (a:List Sp),a.length=i→upTo z r→
  L_solid_extents 4 n ⟨[(0,.any),(2,.any),(3,.row 3),(4,I z),(5,.any),(6,.any),(10,.sl (l.map eSl)),(11,I l.length),(12,I i)],[(3,.row 34 2 true (a.map eP++List.replicate r.length [I 0,I 0]))]⟩=
   some (.ex 0,⟨[(0,.any),(2,.any),(3,.row 3),(4,.any),(5,.any),(6,.any),(10,.any),(11,.any),(12,.any)],[(3,.row 34 2 true ((a++extS z r).map eP))]⟩):=by
 refine lnd eSl l (by omega) _ ?_ ?_
 ·intro n i h z a ha hu
  rw[L_solid_extents_succ,R_solid_extents_eq]
  simp[h,extS]
 ·intro n i x r h1 h3 hw _ ih z a ha hu
  rw[L_solid_extents_succ,R_solid_extents_eq]
  obtain⟨u1,u2,u3,u4,u5,u6⟩:=hu
  have u7:=upTo_le r _ u6
  obtain⟨xl,⟨lo,rows⟩⟩:=x
  simp only at u3 u4 u6 u7
  have w1:IntKind.i64.wrap (z+xl)=z+xl:=wrap64 (by omega) (by omega)
  have ih:=ih (z+xl) (a++[(z,z+xl)]) (by simp[ha]) u6
  have g1:(a.map eP++[I 0,I 0]::List.replicate r.length [I 0,I 0])[i]? =some [I 0,I 0]:=by
   rw[List.getElem?_append_right (by simp[ha])]
   simp[ha]
  have g2:(a.map eP++[I 0,I 0]::List.replicate r.length [I 0,I 0]).set i [I z,I (z+xl)]=(a++[(z,z+xl)]).map eP++List.replicate r.length [I 0,I 0]:=by
   rw[set_next _ _ _ _ _ (by simp[ha])]
   simp
  rw[List.length_cons,List.replicate_succ]
  simp at ih
  simp[h1,h3,hw,w1,g1,g2,extS,ih]
theorem ext_run(l:List Slc)(h:solE l=0):F_solid_extents [.sl (l.map eSl)]=some (.own true ((extS 0 l).map eP)):=by
 rw[F_solid_extents_eq]
 obtain⟨h0,h1,_⟩:=solE_zero h
 have l1:=ext_loop l h1 bigL 0 l rfl (by have:=bigL_ge;omega) 0 [] rfl (solE_upTo h)
 have b1:16*(l.length:Int)≤281474976710656∧(l.length:Int)≤1000000000000000000:=by omega
 simp at l1
 simp[b1,l1]
theorem ext0_run:F_solid_extents [.sl []]=some (.own true []):=by
 rw[F_solid_extents_eq]
 obtain⟨m,hm⟩:=bigL_succ 1 (by omega)
 simp only[zgp,GP,hm]
 simp
 rw[L_solid_extents_succ,R_solid_extents_eq]
 simp
theorem length_loop(l:List Slc)(hl:l.length≤24):∀(n i:Nat) (r:List Slc),l.drop i=r→r.length<n→∀(z:Int),upTo z r→
  L_solid_Length 3 n ⟨[(0,.any),(2,.any),(3,I z),(5,.any),(7,.sl (l.map eSl)),(8,I l.length),(9,I i)],[]⟩=
   some (.ex 0,⟨[(0,.any),(2,.any),(3,I (lenL z r)),(5,.any),(7,.any),(8,.any),(9,.any)],[]⟩):=by
 refine lnd eSl l (by omega) _ ?_ ?_
 ·intro n i h z hu
  rw[L_solid_Length_succ,R_solid_Length_eq]
  simp[h,lenL]
 ·intro n i x r h1 h3 hw _ ih z hu
  rw[L_solid_Length_succ,R_solid_Length_eq]
  obtain⟨u1,u2,u3,u4,u5,u6⟩:=hu
  obtain⟨xl,⟨lo,rows⟩⟩:=x
  simp only at u3 u4 u6
  have u7:=upTo_le r _ u6
  have w1:IntKind.i64.wrap (z+xl)=z+xl:=wrap64 (by omega) (by omega)
  have ih:=ih (z+xl) u6
  simp at ih
  simp[h1,h3,hw,w1,lenL,ih]
def lengthM(l:List Slc):Int:=if solE l=0 then lenL 0 l else 0
theorem length_run(l:List Slc):F_solid_Length [.sl (l.map eSl)]=some (I (lengthM l)):=by
 rw[F_solid_Length_eq]
 have hv:=solValid_run l
 unfold lengthM
 by_cases h:solE l=0
 ·have l1:=length_loop l (solE_zero h).2.1 bigL 0 l rfl (by have:=bigL_ge;have:=(solE_zero h).2.1;omega) 0 (solE_upTo h)
  simp at l1
  simp[hv,h,l1]
 ·obtain⟨m,hm⟩:=bigL_succ 1 (by omega)
  simp only[zgp,GP,hm]
  simp[hv,h]
  rw[L_solid_Length_succ,R_solid_Length_eq]
  simp
def withL(b:Bx):Int→Int→List Slc→Int
 |_,s,[]=>s
 |z,s,x::r=>withL b (z+x.len) (if 0<lenM z (z+x.len) b.za b.zb then W (s+W (lenM z (z+x.len) b.za b.zb*withinS x.sec b.xa b.xb b.ya b.yb)) else s) r
theorem solWithin_loop(l:List Slc)(b:Bx)(hl:l.length≤24):∀(n i:Nat) (r:List Slc),l.drop i=r→r.length<n→∀(z v:Int),(extS 0 l).drop i=extS z r→upTo z r→
  L_solid_Within 4 n ⟨[(0,.sl (l.map eSl)),(1,.any),(3,.ptr 3 0),(4,.any),(5,I v),(6,.any),(7,.any),(8,.any),(12,.own true ((extS 0 l).map eP)),(13,I l.length),(14,I i)],[(3,.box 51 (eBx b))]⟩=
   some (.ex 0,⟨[(0,.any),(1,.any),(3,.any),(4,.any),(5,I (withL b z v r)),(6,.any),(7,.any),(8,.any),(12,.any),(13,.any),(14,.any)],[]⟩):=by
 refine lnd eSl l (by omega) _ ?_ ?_
 ·intro n i h z v he hu
  rw[L_solid_Within_succ,R_solid_Within_eq]
  simp[h,withL]
 ·intro n i x r h1 h3 hw _ ih z v he hu
  rw[L_solid_Within_succ,R_solid_Within_eq]
  obtain⟨u1,u2,u3,u4,u5,u6⟩:=hu
  obtain⟨xl,sc⟩:=x
  simp only at u3 u4 u5 u6
  have u7:=upTo_le r _ u6
  change (extS 0 l).drop i=(z,z+xl)::extS (z+xl) r at he
  obtain⟨k1,_,k3,_⟩:=dcT (enc:=eP) he
  have m1:=meet_run z (z+xl) b.za b.zb
  have m2:=lenM_run z (z+xl) b.za b.zb (by omega) (by omega)
  have sw:=secWithin_run sc b.xa b.xb b.ya b.yb
  generalize(if meetB z (z+xl) b.za b.zb=true then if z<b.za then b.za else z else 0)=a1 at*
  generalize(if meetB z (z+xl) b.za b.zb=true then if b.zb<z+xl then b.zb else z+xl else 0)=a2 at*
  simp at sw
  by_cases a:0<lenM z (z+xl) b.za b.zb
  ·have ih:=ih (z+xl) (W (v+W (lenM z (z+xl) b.za b.zb*withinS sc b.xa b.xb b.ya b.yb))) k3 u6
   simp at ih
   simp[h1,h3,hw,k1,m1,m2,a,sw,withL,ih]
  ·have ih:=ih (z+xl) v k3 u6
   simp at ih
   simp[h1,h3,hw,k1,m1,m2,a,withL,ih]
def withinL(l:List Slc)(b:Bx):Int:=if solE l=0 then withL b 0 0 l else 0
theorem solWithin_run(l:List Slc)(b:Bx):F_solid_Within [.sl (l.map eSl),.agg (eBx b)]=some (I (withinL l b)):=by
 rw[F_solid_Within_eq]
 have hv:=solValid_run l
 unfold withinL
 by_cases h:solE l=0
 ·have he:=ext_run l h
  have l1:=solWithin_loop l b (solE_zero h).2.1 bigL 0 l rfl (by have:=bigL_ge;have:=(solE_zero h).2.1;omega) 0 0 rfl (solE_upTo h)
  simp at l1
  have e1:((extS 0 l).length:Int)=l.length:=by rw[extS_length]
  simp[hv,h,he,extS_length,l1]
 ·obtain⟨m,hm⟩:=bigL_succ 1 (by omega)
  have he:=ext0_run
  simp only[zgp,GP,hm]
  simp[hv,h,he]
  rw[L_solid_Within_succ,R_solid_Within_eq]
  simp
end Go.Proofs.YtbdgblipbpadeaaGreatDoor
namespace Go.Proofs.YtbdgblipbpadeaaGreatDoor
open Go Go.Abs
set_option maxHeartbeats 4000000
set_option maxRecDepth 100000
def mx2(a c:Int):Int:=if a<c then c else a
def mn2(b d:Int):Int:=if d<b then d else b
def touchB(a b:Bx):Bool:=meetB a.xa a.xb b.xa b.xb&&(meetB a.ya a.yb b.ya b.yb&&meetB a.za a.zb b.za b.zb)
def metX(a b:Bx):Bx:=⟨mx2 a.xa b.xa,mn2 a.xb b.xb,mx2 a.ya b.ya,mn2 a.yb b.yb,mx2 a.za b.za,mn2 a.zb b.zb⟩
theorem dmeet_run(a b:Bx):F_defect_meet [.agg (eBx a),.agg (eBx b)]=some (.tup [.agg (if touchB a b=true then eBx (metX a b) else[I 0,I 0,I 0,I 0,I 0,I 0]),B (touchB a b)]):=by
 rw[F_defect_meet_eq]
 have m1:=meet_run a.xa a.xb b.xa b.xb
 have m2:=meet_run a.ya a.yb b.ya b.yb
 have m3:=meet_run a.za a.zb b.za b.zb
 have e1:=meetE_run a.xa a.xb b.xa b.xb
 have e2:=meetE_run a.ya a.yb b.ya b.yb
 have e3:=meetE_run a.za a.zb b.za b.zb
 unfold touchB metX mx2 mn2
 cases h1:meetB a.xa a.xb b.xa b.xb
 ·simp[h1] at m1 e1
  generalize(if meetB a.ya a.yb b.ya b.yb=true then if a.ya<b.ya then b.ya else a.ya else 0)=q1 at*
  generalize(if meetB a.ya a.yb b.ya b.yb=true then if b.yb<a.yb then b.yb else a.yb else 0)=q2 at*
  generalize(if meetB a.za a.zb b.za b.zb=true then if a.za<b.za then b.za else a.za else 0)=q3 at*
  generalize(if meetB a.za a.zb b.za b.zb=true then if b.zb<a.zb then b.zb else a.zb else 0)=q4 at*
  simp[m1,m2,m3,e1]
 simp[h1] at m1 e1
 generalize(if a.xa<b.xa then b.xa else a.xa)=p1 at*
 generalize(if b.xb<a.xb then b.xb else a.xb)=p2 at*
 cases h2:meetB a.ya a.yb b.ya b.yb
 ·simp[h2] at m2 e2
  generalize(if meetB a.za a.zb b.za b.zb=true then if a.za<b.za then b.za else a.za else 0)=q3 at*
  generalize(if meetB a.za a.zb b.za b.zb=true then if b.zb<a.zb then b.zb else a.zb else 0)=q4 at*
  simp[m1,m2,m3,e1,e2]
 simp[h2] at m2 e2
 generalize(if a.ya<b.ya then b.ya else a.ya)=p3 at*
 generalize(if b.yb<a.yb then b.yb else a.yb)=p4 at*
 cases h3:meetB a.za a.zb b.za b.zb
 ·simp[h3] at m3 e3
  simp[m1,m2,m3,e1,e2,e3]
 simp[h3] at m3 e3
 generalize(if a.za<b.za then b.za else a.za)=p5 at*
 generalize(if b.zb<a.zb then b.zb else a.zb)=p6 at*
 simp[m1,m2,m3,e1,e2,e3]
def bxD(d:Dfc):Bx:=⟨d.xa,d.xb,d.ya,d.yb,d.za,d.zb⟩
theorem touches_run(d:Dfc)(b:Bx):F_defect_Touches [.agg (eDf d),.agg (eBx b)]=some (B (touchB (bxD d) b)):=by
 rw[F_defect_Touches_eq]
 have h:=dmeet_run (bxD d) b
 simp[bxD] at h
 unfold bxD
 cases a:touchB ⟨d.xa,d.xb,d.ya,d.yb,d.za,d.zb⟩ b
 ·simp[a] at h
  simp[h]
 ·simp[a] at h
  simp[h]
theorem back_run(a b t:Int):F_defect_back [.agg [I a,I b],I t]=some (.agg [I (W (a-t)),I (W (b-t))]):=by
 rw[F_defect_back_eq]
 simp
def clip1(d:Dfc)(b:Bx):Dfc:=⟨d.kind,W (mx2 d.xa b.xa-b.xa),W (mn2 d.xb b.xb-b.xa),W (mx2 d.ya b.ya-b.ya),W (mn2 d.yb b.yb-b.ya),W (mx2 d.za b.za-b.za),W (mn2 d.zb b.zb-b.za)⟩
def clipL(b:Bx):List Dfc→List Dfc
 |[]=>[]
 |d::r=>if touchB (bxD d) b=true then clip1 d b::clipL b r else clipL b r
def spanN(a b:Int):Bool:=decide (-1099511627776≤(if b<a then b else a))&&decide ((if a<b then b else a)≤1099511627776)
def clipM(l:List Dfc)(b:Bx):List Dfc:=if checkDf l=0 then if(spanN b.xa b.xb&&(spanN b.ya b.yb&&spanN b.za b.zb))=true then clipL b l else[] else[]
theorem clip_loop(l:List Dfc)(b:Bx)(hl:l.length≤64):∀(n i:Nat) (r:List Dfc),l.drop i=r→r.length<n→∀(a:List Dfc),a.length≤i→
  L_defect_Clip 11 n ⟨[(0,.any),(1,.any),(3,.ptr 3 0),(4,.any),(6,.any),(7,.row 7),(9,.any),(10,.any),(11,.any),(12,.any),(22,.any),(23,.any),(30,.sl (l.map eDf)),(31,I l.length),(32,I i)],[(3,.box 51 (eBx b)),(7,.row 53 7 true (a.map eDf))]⟩=
   some (.ex 2,⟨[(0,.any),(1,.any),(3,.any),(4,.any),(6,.any),(7,.row 7),(9,.any),(10,.any),(11,.any),(12,.any),(22,.any),(23,.any),(30,.any),(31,.any),(32,.any)],[(7,.row 53 7 true ((a++clipL b r).map eDf))]⟩):=by
 refine lnd eDf l (by omega) _ ?_ ?_
 ·intro n i h a ha
  rw[L_defect_Clip_succ,R_defect_Clip_eq]
  simp[h,clipL]
 ·intro n i x r h1 h3 hw _ ih a ha
  rw[L_defect_Clip_succ,R_defect_Clip_eq]
  have h:=dmeet_run (bxD x) b
  simp[bxD] at h
  unfold clipL
  cases t:touchB (bxD x) b
  ·have ih:=ih a (by omega)
   unfold bxD at t
   simp[t] at h
   simp at ih
   simp[h1,h3,hw,h,ih]
  ·have ih:=ih (a++[clip1 x b]) (by simp;omega)
   unfold bxD at t
   simp[t,metX] at h
   simp[clip1] at ih
   have b1:=back_run (mx2 x.xa b.xa) (mn2 x.xb b.xb) b.xa
   have b2:=back_run (mx2 x.ya b.ya) (mn2 x.yb b.yb) b.ya
   have b3:=back_run (mx2 x.za b.za) (mn2 x.zb b.zb) b.za
   have b4:(a.length+1)*57≤140737488355328:=by omega
   simp[h1,h3,hw,h,b1,b2,b3,ih,b4,clip1]
theorem clip_run(l:List Dfc)(b:Bx):F_defect_Clip [.sl (l.map eDf),.agg (eBx b)]=some (.own true ((clipM l b).map eDf)):=by
 rw[F_defect_Clip_eq]
 have hc:=checkDf_run l
 unfold clipM
 by_cases h:¬checkDf l=0
 ·simp[hc,h]
 have h:checkDf l=0:=by omega
 have hl:l.length≤64:=by
  unfold checkDf at h
  split at h
  ·cases h
  ·omega
 have l1:=clip_loop l b hl bigL 0 l rfl (by have:=bigL_ge;omega) [] (by simp)
 obtain⟨m,hm⟩:=bigL_succ 4 (by omega)
 have i1:=dinside_run b.xa b.xb (-1099511627776) 1099511627776
 have i2:=dinside_run b.ya b.yb (-1099511627776) 1099511627776
 have i3:=dinside_run b.za b.zb (-1099511627776) 1099511627776
 change _=some (B (spanN b.xa b.xb)) at i1
 change _=some (B (spanN b.ya b.yb)) at i2
 change _=some (B (spanN b.za b.zb)) at i3
 simp only[zgp,GP,hm]
 first|rw[hm]|simp only[zgp,GP,zge,GEP,hm] at l1
 simp at l1
 simp[hc,h]
 rw[L_defect_Clip_succ,R_defect_Clip_eq]
 cases a1:spanN b.xa b.xb
 ·simp[a1] at i1
  simp[i1]
 simp[a1] at i1
 simp[i1]
 rw[L_defect_Clip_succ,R_defect_Clip_eq]
 cases a2:spanN b.ya b.yb
 ·simp[a2] at i2
  simp[i2]
 simp[a2] at i2
 simp[i2]
 rw[L_defect_Clip_succ,R_defect_Clip_eq]
 cases a3:spanN b.za b.zb
 ·simp[a3] at i3
  simp[i3]
 simp[a3] at i3
 simp[i3]
 rw[L_defect_Clip_succ,R_defect_Clip_eq]
 simp[l1]
theorem dturn_loop(l:List Dfc)(hl:l.length≤64):∀(n i:Nat) (r:List Dfc),l.drop i=r→r.length<n→∀(a:List Dfc),a.length=i→
  L_defect_Turn 6 n ⟨[(0,.any),(1,I 0),(4,.any),(5,.row 5),(6,.any),(7,.any),(18,.sl (l.map eDf)),(19,I l.length),(20,I i),(25,.any),(26,.any)],[(5,.row 53 7 true (a.map eDf++List.replicate r.length [I 0,I 0,I 0,I 0,I 0,I 0,I 0]))]⟩=
   some (.ex 0,⟨[(0,.any),(1,.any),(4,.any),(5,.row 5),(6,.any),(7,.any),(18,.any),(19,.any),(20,.any),(25,.any),(26,.any)],[(5,.row 53 7 true ((a++r).map eDf))]⟩):=by
 refine lnd eDf l (by omega) _ ?_ ?_
 ·intro n i h a ha
  rw[L_defect_Turn_succ,R_defect_Turn_eq]
  simp[h]
 ·intro n i x r h1 h3 hw _ ih a ha
  rw[L_defect_Turn_succ,R_defect_Turn_eq]
  obtain⟨m,hm⟩:=bigL_succ 1 (by omega)
  have ih:=ih (a++[x]) (by simp[ha])
  have g1:(a.map eDf++[I 0,I 0,I 0,I 0,I 0,I 0,I 0]::List.replicate r.length [I 0,I 0,I 0,I 0,I 0,I 0,I 0])[i]? =some [I 0,I 0,I 0,I 0,I 0,I 0,I 0]:=by
   rw[List.getElem?_append_right (by simp[ha])]
   simp[ha]
  have g2:(a.map eDf++[I 0,I 0,I 0,I 0,I 0,I 0,I 0]::List.replicate r.length [I 0,I 0,I 0,I 0,I 0,I 0,I 0]).set i (eDf x)=(a++[x]).map eDf++List.replicate r.length [I 0,I 0,I 0,I 0,I 0,I 0,I 0]:=by
   rw[set_next _ _ _ _ _ (by simp[ha])]
   simp
  rw[List.length_cons,List.replicate_succ]
  simp at ih g2
  simp only[zsp,SP,hm]
  simp[h1,h3]
  rw[L_defect_Turn_succ,R_defect_Turn_eq]
  simp[hw,g1,g2,ih]
theorem dturn_run(l:List Dfc):F_defect_Turn [.sl (l.map eDf),I 0]=some (.own true (if checkDf l=0 then l.map eDf else[])):=by
 rw[F_defect_Turn_eq]
 have hc:=checkDf_run l
 by_cases h:checkDf l=0
 ·have hl:l.length≤64:=by
   unfold checkDf at h
   split at h
   ·cases h
   ·omega
  have l1:=dturn_loop l hl bigL 0 l rfl (by have:=bigL_ge;omega) [] rfl
  have b1:56*(l.length:Int)≤281474976710656∧(l.length:Int)≤1000000000000000000:=by omega
  simp at l1
  simp[hc,h,b1,l1]
 ·simp[hc,h]
end Go.Proofs.YtbdgblipbpadeaaGreatDoor
