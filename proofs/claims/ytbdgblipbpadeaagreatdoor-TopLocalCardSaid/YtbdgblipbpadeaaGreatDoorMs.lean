/-
  Products and codes, run abstractly.
-/
import Derived.Test.YtbdgblipbpadeaaGreatDoorMl
import Derived.Test.YtbdgblipbpadeaaGreatDoorMn
set_option linter.unusedSimpArgs false
set_option linter.unusedVariables false
set_option linter.defProp false
namespace Go.Proofs.YtbdgblipbpadeaaGreatDoor
open Go Go.Abs
set_option maxHeartbeats 8000000
set_option maxRecDepth 100000
theorem isSize_run(n:Int):F_product_isSize [I n]=some (B (decide (1≤n)&&decide (n≤600))):=by
 rw[F_product_isSize_eq]
 simp
theorem grow_bnd{s a:Int}(hs:1≤s∧s≤600)(ha:0≤a∧a≤200):1000≤s*(1000+a)∧s*(1000+a)≤720000:=by
 have h1:s*(1000+a)≤600*1200:=Int.mul_le_mul hs.2 (by omega) (by omega) (by omega)
 have h2:1*1000≤s*(1000+a):=Int.mul_le_mul hs.1 (by omega) (by omega) (by omega)
 omega
theorem grow_run{s a:Int}(hs:1≤s∧s≤600)(ha:0≤a∧a≤200):F_product_grow [I s,I a]=some (I (grow s a)):=by
 rw[F_product_grow_eq]
 obtain⟨b1,b2⟩:=grow_bnd hs ha
 have w1:IntKind.i64.wrap (1000+a)=1000+a:=wrap64 (by omega) (by omega)
 have w2:IntKind.i64.wrap (s*(1000+a))=s*(1000+a):=wrap64 (by omega) (by omega)
 have w3:IntKind.i64.wrap (s*(1000+a)+999)=s*(1000+a)+999:=wrap64 (by omega) (by omega)
 have e:(s*(1000+a)+999).tdiv 1000=(s*(1000+a)+999)/1000:=Int.tdiv_eq_ediv_of_nonneg (by omega)
 have w4:IntKind.i64.wrap ((s*(1000+a)+999)/1000)=(s*(1000+a)+999)/1000:=wrap64 (by omega) (by omega)
 unfold grow
 simp[w1,w2,w3,e,w4]
theorem green_run(p:Pd):F_product_Green [.agg (ePd p)]=some (.tup [I (greenT p),I (greenW p)]):=by
 rw[F_product_Green_eq]
 have h1:=isSize_run p.thick
 have h2:=isSize_run p.width
 unfold greenT greenW
 by_cases h:sizedP p=true
 ·obtain⟨a1,a2,a3⟩:=(sizedP_iff p).1 h
  have g1:=grow_run a1 a3
  have g2:=grow_run a2 a3
  have c1:¬p.allow<0:=by omega
  have c2:¬200<p.allow:=by omega
  simp[h,h1,h2,a1,a2,c1,c2,g1,g2]
 ·rw[sizedP_iff] at h
  have h':¬sizedP p=true:=by rw[sizedP_iff];exact h
  by_cases a1:1≤p.thick∧p.thick≤600
  ·by_cases a2:1≤p.width∧p.width≤600
   ·by_cases a3:p.allow<0
    ·simp[h',h1,h2,a1,a2,a3]
    ·have a4:200<p.allow:=by omega
     simp[h',h1,h2,a1,a2,a3,a4]
   ·have:(decide (1≤p.width)&&decide (p.width≤600))=false:=by simp;omega
    rw[this] at h2
    simp[h',h1,h2,a1]
  ·have:(decide (1≤p.thick)&&decide (p.thick≤600))=false:=by simp;omega
   rw[this] at h1
   simp[h',h1]
theorem lens_loop(p:Pd)(hl:p.lens.length≤1000):∀(n i:Nat) (r:List Int),p.lens.drop i=r→r.length<n→
  L_product_checkNumbers 15 n ⟨[(0,.any),(1,.ptr 1 0),(2,.any),(4,.any),(5,.any),(6,.any),(8,.any),(70,.sl (p.lens.map eI)),(71,I p.lens.length),(72,I i),(97,.any),(98,.any),(99,.any)],[(1,.box 125 (ePd p))]⟩=
   if lensE (if i=0 then none else p.lens[i-1]?) r=0 then some (.ex 0,⟨[(0,.any),(1,.ptr 1 0),(2,.any),(4,.any),(5,.any),(6,.any),(8,.any),(70,.any),(71,.any),(72,.any),(97,.any),(98,.any),(99,.any)],[(1,.box 125 (ePd p))]⟩)
   else some (.ret,⟨[(0,.any),(1,.any),(2,I (lensE (if i=0 then none else p.lens[i-1]?) r)),(4,.any),(5,.any),(6,.any),(8,.any),(70,.any),(71,.any),(72,.any),(97,.any),(98,.any),(99,.any)],[]⟩)
 |0,_,_,_,hn=>by omega
 |n+1,i,[],hr,hn=>by
  rw[L_product_checkNumbers_succ,R_product_checkNumbers_eq]
  simp[dn hr,lensE]
 |n+1,i,x::r,hr,hn=>by
  rw[L_product_checkNumbers_succ,R_product_checkNumbers_eq]
  obtain⟨h1,h3,hr',hi⟩:=dc (enc:=eI) hr
  have hw:=wrapN (n:=i) (by omega)
  have ih:=lens_loop p hl n (i+1) r hr' (by simp at hn;omega)
  have hx:p.lens[i]? =some x:=by
   have:=congrArg List.head? hr
   simpa[List.head?_drop] using this
  simp[hx] at ih
  by_cases a1:x<100
  ·simp[h1,h3,lensE,a1]
  by_cases a2:20000<x
  ·simp[h1,h3,lensE,a1,a2]
  by_cases a3:i=0
  ·subst a3
   have hx0:p.lens[0]'hi=x:=by
    rw[List.getElem?_eq_getElem hi] at hx
    injection hx
   simp at ih
   simp[hi,hx0,lensE,a1,a2,ih]
  ·have a4:0<i:=by omega
   have hy:p.lens[i-1]? =some (p.lens[i-1]'(by omega)):=List.getElem?_eq_getElem (by omega)
   have k1:(p.lens.map eI)[i-1]? =some (eI (p.lens[i-1]'(by omega))):=by rw[List.getElem?_map,hy];rfl
   have hp:=wrapP (n:=i) (by omega) (by omega)
   generalize p.lens[i-1]'(by omega)=y at*
   by_cases a5:x≤y
   ·simp[h1,h3,lensE,a1,a2,a3,a4,hp,k1,hy,a5]
   ·simp[h1,h3,lensE,a1,a2,a3,a4,hp,k1,hy,a5,hw,ih]
theorem prs_loop(p:Pd)(hl:p.prs.length≤1000):∀(n i:Nat) (r:List Int),p.prs.drop i=r→r.length<n→
  L_product_checkNumbers 23 n ⟨[(0,.any),(1,.any),(2,.any),(4,.any),(5,.any),(6,.any),(8,.any),(70,.any),(71,.any),(72,.any),(97,.sl (p.prs.map eI)),(98,I p.prs.length),(99,I i)],[]⟩=
   if prsE r=0 then some (.ex 2,⟨[(0,.any),(1,.any),(2,.any),(4,.any),(5,.any),(6,.any),(8,.any),(70,.any),(71,.any),(72,.any),(97,.any),(98,.any),(99,.any)],[]⟩)
   else some (.ret,⟨[(0,.any),(1,.any),(2,I (prsE r)),(4,.any),(5,.any),(6,.any),(8,.any),(70,.any),(71,.any),(72,.any),(97,.any),(98,.any),(99,.any)],[]⟩)
 |0,_,_,_,hn=>by omega
 |n+1,i,[],hr,hn=>by
  rw[L_product_checkNumbers_succ,R_product_checkNumbers_eq]
  simp[dn hr,prsE]
 |n+1,i,x::r,hr,hn=>by
  rw[L_product_checkNumbers_succ,R_product_checkNumbers_eq]
  obtain⟨h1,h3,hr',hi⟩:=dc (enc:=eI) hr
  have hw:=wrapN (n:=i) (by omega)
  have ih:=prs_loop p hl n (i+1) r hr' (by simp at hn;omega)
  simp at ih
  by_cases a1:x<0
  ·simp[h1,h3,prsE,a1]
  by_cases a2:1000000<x
  ·simp[h1,h3,prsE,a1,a2]
  ·simp[h1,h3,prsE,a1,a2,hw,ih]
theorem nums_run(p:Pd):F_product_checkNumbers [.agg (ePd p)]=some (I (numsE p)):=by
 rw[F_product_checkNumbers_eq]
 have hg:=green_run p
 simp at hg
 unfold numsE
 by_cases a1:p.thick<5
 ·simp[a1]
 by_cases a2:300<p.thick
 ·simp[a1,a2]
 by_cases a3:p.width<p.thick
 ·simp[a1,a2,a3]
 by_cases a4:600<p.width
 ·simp[a1,a2,a3,a4]
 by_cases a5:p.allow<0
 ·simp[a1,a2,a3,a4,a5]
 by_cases a6:200<p.allow
 ·simp[a1,a2,a3,a4,a5,a6]
 by_cases a7:p.wane<0
 ·simp[a1,a2,a3,a4,a5,a6,a7]
 by_cases a8:1000<p.wane
 ·simp[a1,a2,a3,a4,a5,a6,a7,a8]
 by_cases a9:600<greenW p
 ·simp[a1,a2,a3,a4,a5,a6,a7,a8,hg,a9]
 unfold listsE
 by_cases b1:p.lens.length=0
 ·simp[a1,a2,a3,a4,a5,a6,a7,a8,hg,a9,b1]
 by_cases b2:(8:Int)<p.lens.length
 ·simp[a1,a2,a3,a4,a5,a6,a7,a8,hg,a9,b1,b2]
 by_cases b3:(p.prs.length:Int)=p.lens.length
 ·have i15:=lens_loop p (by omega) bigL 0 p.lens rfl (by have:=bigL_ge;omega)
  have i23:=prs_loop p (by omega) bigL 0 p.prs rfl (by have:=bigL_ge;omega)
  simp at i15 i23
  rw[b3] at i23
  by_cases b4:lensE none p.lens=0
  ·simp[b4] at i15
   by_cases b5:prsE p.prs=0
   ·simp[b5] at i23
    simp[a1,a2,a3,a4,a5,a6,a7,a8,hg,a9,b1,b2,b3,i15,i23,b4,b5]
   ·simp[b5] at i23
    simp[a1,a2,a3,a4,a5,a6,a7,a8,hg,a9,b1,b2,b3,i15,i23,b4,b5]
  ·simp[b4] at i15
   simp[a1,a2,a3,a4,a5,a6,a7,a8,hg,a9,b1,b2,b3,i15,b4]
 ·simp[a1,a2,a3,a4,a5,a6,a7,a8,hg,a9,b1,b2,b3]
end Go.Proofs.YtbdgblipbpadeaaGreatDoor
namespace Go.Proofs.YtbdgblipbpadeaaGreatDoor
open Go Go.Abs
set_option maxHeartbeats 8000000
set_option maxRecDepth 100000
theorem cap_run(c:UInt8):F_ident_isCapital [Y c.toNat]=some (B (capB c)):=by
 rw[F_ident_isCapital_eq]
 unfold capB
 simp
theorem byte_lt(c:UInt8):(c.toNat:Int)<256:=by
 have:=c.toNat_lt
 omega
theorem let_facts{m:Int}{i:Nat}(c:UInt8)(hi:i<1000)(hm:0≤m∧m<23):(0≤((i:Int)+1)*c.toNat∧((i:Int)+1)*c.toNat≤300000):=by
 have h1:=byte_lt c
 have h2:((i:Int)+1)*c.toNat≤1000*256:=Int.mul_le_mul (by omega) (by omega) (by omega) (by omega)
 have h3:0≤((i:Int)+1)*c.toNat:=Int.mul_nonneg (by omega) (by omega)
 omega
theorem letS_rng:∀(r:List UInt8) (m:Int) (i:Nat),0≤m∧m<23→0≤letS m i r∧letS m i r<23
 |[],m,i,h=>h
 |c::r,m,i,h=>by
  unfold letS
  exact letS_rng r _ (i+1) ⟨Int.emod_nonneg _ (by omega),Int.emod_lt_of_pos _ (by omega)⟩
theorem letter_loop(s:ByteArray)(hs:s.size≤1000):∀(n i:Nat) (r:List UInt8) (m:Int),(byt s).drop i=r→r.length<n→0≤m∧m<23→
  L_ident_Letter 3 n ⟨[(0,S s),(2,.any),(3,I m),(4,I i)],[]⟩=some (.ex 0,⟨[(0,.any),(2,.any),(3,I (letS m i r)),(4,.any)],[]⟩)
 |0,_,_,_,_,hn,_=>by omega
 |n+1,i,[],m,hr,hn,hm=>by
  rw[L_ident_Letter_succ,R_ident_Letter_eq]
  have h:=bn hr
  simp[h,letS]
 |n+1,i,c::r,m,hr,hn,hm=>by
  rw[L_ident_Letter_succ,R_ident_Letter_eq]
  obtain⟨h1,h2,hr'⟩:=bc hr
  have hw:=wrapN (n:=i) (by omega)
  obtain⟨f1,f2⟩:=let_facts c (i:=i) (by omega) hm
  have w1:IntKind.i64.wrap (((i:Int)+1)*c.toNat)=((i:Int)+1)*c.toNat:=wrap64 (by omega) (by omega)
  have w2:IntKind.i64.wrap (m+((i:Int)+1)*c.toNat)=m+((i:Int)+1)*c.toNat:=wrap64 (by omega) (by omega)
  have e:(m+((i:Int)+1)*c.toNat).tmod 23=(m+((i:Int)+1)*c.toNat)% 23:=Int.tmod_eq_emod_of_nonneg (by omega)
  have w3:IntKind.i64.wrap ((m+((i:Int)+1)*c.toNat)% 23)=(m+((i:Int)+1)*c.toNat)% 23:=wrap64 (by omega) (by omega)
  have ih:=letter_loop s hs n (i+1) r ((m+((i:Int)+1)*c.toNat)% 23) hr' (by simp at hn;omega) ⟨by omega,by omega⟩
  have hc:s[i]'h2=c:=by
   rw[getElem?_pos s i h2] at h1
   injection h1
  have w0:IntKind.i64.wrap (c.toNat:Int)=c.toNat:=wrap64 (by have:=byte_lt c;omega) (by have:=byte_lt c;omega)
  simp at ih
  simp[hc,h2,hw,w0,w1,w2,e,w3,ih,letS]
theorem letter_run(s:ByteArray)(hs:s.size≤1000):F_ident_Letter [S s]=some (Y (65+letS 0 0 (byt s))):=by
 rw[F_ident_Letter_eq]
 have ih:=letter_loop s hs bigL 0 (byt s) 0 rfl (by have:=bigL_ge;have:=byt_len s;omega) (by omega)
 obtain⟨r1,r2⟩:=letS_rng (byt s) 0 0 (by omega)
 simp at ih
 have w1:IntKind.u8.wrap (letS 0 0 (byt s))=letS 0 0 (byt s):=by rw[IntKind.wrap_u8];omega
 have w2:IntKind.u8.wrap (65+letS 0 0 (byt s))=65+letS 0 0 (byt s):=by rw[IntKind.wrap_u8];omega
 simp[ih,w1,w2]
end Go.Proofs.YtbdgblipbpadeaaGreatDoor
