/-
  Sizes and stiffness of a board, run abstractly.
-/
import Derived.Test.YtbdgblipbpadeaaGreatDoorMz
set_option linter.unusedSimpArgs false
set_option linter.unusedVariables false
set_option linter.defProp false
namespace Go.Proofs.YtbdgblipbpadeaaGreatDoor
open Go Go.Abs
set_option maxHeartbeats 8000000
set_option maxRecDepth 100000
theorem clamp3_bnd(m:Int):0≤clampN m 0 3000∧clampN m 0 3000≤3000:=by
 unfold clampN
 repeat' split
 all_goals omega
def shrN(w:Spc)(z m:Int):Int:=z-z*w.shrink*(3000-clampN m 0 3000)/3000000
theorem shr_bnd{s z m:Int}(hz:0≤z∧z≤20000)(hs:0≤s∧s≤200):(0≤z*s∧z*s≤4000000)∧0≤z*s*(3000-clampN m 0 3000)∧z*s*(3000-clampN m 0 3000)≤12000000000:=by
 have h1:z*s≤20000*200:=Int.mul_le_mul hz.2 hs.2 hs.1 (by omega)
 have h2:0≤z*s:=Int.mul_nonneg hz.1 hs.1
 have hc:=clamp3_bnd m
 have h3:z*s*(3000-clampN m 0 3000)≤4000000*3000:=Int.mul_le_mul (by omega) (by omega) (by omega) (by omega)
 have h4:0≤z*s*(3000-clampN m 0 3000):=Int.mul_nonneg h2 (by omega)
 omega
theorem shrunk_run(w:Spc)(z m:Int)(hz:0≤z∧z≤20000)(hs:0≤w.shrink∧w.shrink≤200):F_wood_Shrunk [.agg (eS w),I z,I m]=some (I (shrN w z m)):=by
 rw[F_wood_Shrunk_eq]
 obtain⟨b1,b2⟩:=shr_bnd (m:=m) hz hs
 have hc:=clamp3_bnd m
 have hk:=clamp_run m 0 3000
 have w1:IntKind.i64.wrap (3000-clampN m 0 3000)=3000-clampN m 0 3000:=wrap64 (by omega) (by omega)
 have w2:IntKind.i64.wrap (z*w.shrink)=z*w.shrink:=wrap64 (by omega) (by omega)
 have c1:¬z<0:=by omega
 have c2:¬20000<z:=by omega
 have c3:¬w.shrink<0:=by omega
 have c4:¬200<w.shrink:=by omega
 unfold shrN
 generalize clampN m 0 3000=q at*
 have w3:IntKind.i64.wrap (z*w.shrink*(3000-q))=z*w.shrink*(3000-q):=wrap64 (by omega) (by omega)
 have e:(z*w.shrink*(3000-q)).tdiv 3000000=z*w.shrink*(3000-q)/3000000:=Int.tdiv_eq_ediv_of_nonneg (by omega)
 have w4:IntKind.i64.wrap (z*w.shrink*(3000-q)/3000000)=z*w.shrink*(3000-q)/3000000:=wrap64 (by omega) (by omega)
 have w5:IntKind.i64.wrap (z-z*w.shrink*(3000-q)/3000000)=z-z*w.shrink*(3000-q)/3000000:=wrap64 (by omega) (by omega)
 simp[c1,c2,c3,c4,hk,w1,w2,w3,e,w4,w5]
theorem across_run(a b:Int):F_sizing_across [.agg [I a,I b]]=some (B (crossB a b)):=by
 rw[F_sizing_across_eq]
 simp
 rw[Bool.eq_iff_iff]
 simp[crossB]
 omega
def minI(a b:Int):Int:=if b<a then b else a
def maxI(a b:Int):Int:=if a<b then b else a
theorem dried_run(b:Bd)(w:Spc)(hx:crossB b.xa b.xb=true)(hy:crossB b.ya b.yb=true)(hs:0≤w.shrink∧w.shrink≤200):
  F_sizing_Dried [.agg (eBd b),.agg (eS w)]=some (.tup [I (shrN w (minI (b.xb-b.xa) (b.yb-b.ya)) (mean b.cel)),I (shrN w (maxI (b.xb-b.xa) (b.yb-b.ya)) (mean b.cel))]):=by
 rw[F_sizing_Dried_eq]
 obtain⟨w1,p1⟩:=cross_bnd hx
 obtain⟨w2,p2⟩:=cross_bnd hy
 have a1:=across_run b.xa b.xb
 have a2:=across_run b.ya b.yb
 rw[hx] at a1
 rw[hy] at a2
 have hm:=mean_run b.cel
 have s1:=shrunk_run w (minI (b.xb-b.xa) (b.yb-b.ya)) (mean b.cel) (by unfold minI;split<;>omega) hs
 have s2:=shrunk_run w (maxI (b.xb-b.xa) (b.yb-b.ya)) (mean b.cel) (by unfold maxI;split<;>omega) hs
 simp at hm
 unfold minI maxI at*
 simp at s1 s2
 simp[a1,a2,w1,w2,hm,s1,s2]
def underB(b:Bd)(p:Pd)(w:Spc):Bool:=decide (shrN w (minI (b.xb-b.xa) (b.yb-b.ya)) (mean b.cel)<p.thick)||decide (shrN w (maxI (b.xb-b.xa) (b.yb-b.ya)) (mean b.cel)<p.width)
theorem under_run(b:Bd)(p:Pd)(w:Spc)(hx:crossB b.xa b.xb=true)(hy:crossB b.ya b.yb=true)(hs:0≤w.shrink∧w.shrink≤200):
  F_sizing_Under [.agg (eBd b),.agg (ePd p),.agg (eS w)]=some (B (underB b p w)):=by
 rw[F_sizing_Under_eq]
 have h:=dried_run b w hx hy hs
 unfold underB
 generalize shrN w (minI (b.xb-b.xa) (b.yb-b.ya)) (mean b.cel)=t at*
 generalize shrN w (maxI (b.xb-b.xa) (b.yb-b.ya)) (mean b.cel)=u at*
 simp at h
 simp[h]
 by_cases c:p.thick≤t
 ·have c':¬t<p.thick:=by omega
  simp[c,c']
 ·have c':t<p.thick:=by omega
  simp[c,c']
theorem wrsD_bnd(all:List Dfc)(M:Int)(hM:∀z0 z1,0≤sumW z0 z1 0 all∧sumW z0 z1 0 all≤M):∀(r:List Dfc) (w:Int),0≤w→w≤M→0≤wrsD all w r∧wrsD all w r≤M
 |[],w,h0,h1=>⟨h0,h1⟩
 |d::r,w,h0,h1=>by
  unfold wrsD
  have h:=hM (d.za-149) (d.za+1)
  apply wrsD_bnd all M hM r
  all_goals split<;>omega
theorem sumW_bnd(z0 z1:Int):∀(l:List Dfc) (s:Int),(∀d∈l,dfE d=0)→0≤s→0≤sumW z0 z1 s l∧sumW z0 z1 s l≤s+1200*l.length
 |[],s,_,h0=>by simp[sumW];exact h0
 |d::r,s,hd,h0=>by
  obtain⟨_,hp,hb⟩:=dfE_rng (hd d List.mem_cons_self)
  have hr:∀d∈r,dfE d=0:=fun x hx=>hd x (List.mem_cons_of_mem _ hx)
  have h1:=sumW_bnd z0 z1 r s hr h0
  have h2:=sumW_bnd z0 z1 r (s+sizeD d) hr (by omega)
  unfold sumW
  simp only[List.length_cons]
  split<;>omega
theorem worstD_bnd(l:List Dfc):0≤worstD l∧worstD l≤76800:=by
 unfold worstD
 split
 ·rename_i h
  have hl:=checkDf_len h
  exact wrsD_bnd l 76800 (fun z0 z1=>by have:=sumW_bnd z0 z1 l 0 (checkDf_mem h) (by omega);omega) l 0 (by omega) (by omega)
 ·omega
def knotsN(b:Bd):Int:=minI (worstD b.dfs*1000/maxI (b.xb-b.xa) (b.yb-b.ya)) 1000
theorem lenS_cross{a b:Int}(h:crossB a b=true):lenS a b=b-a∧i64 a∧i64 b:=by
 simp[crossB] at h
 unfold lenS i64
 repeat' split
 all_goals omega
theorem knots_run(b:Bd)(hx:crossB b.xa b.xb=true)(hy:crossB b.ya b.yb=true):F_strength_Knots [.agg (eBd b)]=some (I (knotsN b)):=by
 rw[F_strength_Knots_eq]
 obtain⟨_,p1⟩:=cross_bnd hx
 obtain⟨_,p2⟩:=cross_bnd hy
 obtain⟨e1,j1,j2⟩:=lenS_cross hx
 obtain⟨e2,j3,j4⟩:=lenS_cross hy
 have l1:=slen_run b.xa b.xb j1 j2
 have l2:=slen_run b.ya b.yb j3 j4
 rw[e1] at l1
 rw[e2] at l2
 have hw:=worst_run b.dfs
 obtain⟨b1,b2⟩:=worstD_bnd b.dfs
 unfold knotsN minI
 have hq:0<maxI (b.xb-b.xa) (b.yb-b.ya):=by unfold maxI;split<;>omega
 have hq':maxI (b.xb-b.xa) (b.yb-b.ya)=if b.xb-b.xa<b.yb-b.ya then b.yb-b.ya else b.xb-b.xa:=rfl
 generalize maxI (b.xb-b.xa) (b.yb-b.ya)=q at*
 generalize worstD b.dfs=wd at*
 have w1:IntKind.i64.wrap (wd*1000)=wd*1000:=wrap64 (by omega) (by omega)
 have e:(wd*1000).tdiv q=wd*1000/q:=Int.tdiv_eq_ediv_of_nonneg (by omega)
 have h1:0≤wd*1000/q:=Int.ediv_nonneg (by omega) (by omega)
 have h2:wd*1000/q≤wd*1000:=Int.ediv_le_self _ (by omega)
 have w2:IntKind.i64.wrap (wd*1000/q)=wd*1000/q:=wrap64 (by omega) (by omega)
 have c1:¬q<1:=by omega
 have c2:¬q=0:=by omega
 simp[l1,l2,←hq',c1,c2,hw,w1,e,w2]
def stiffN(b:Bd)(w:Spc):Int:=maxI 0 ((w.stiff*(1000-w.loss*knotsN b/1000)/1000*(10000-maxI 0 (mean b.cel-1200))).tdiv 10000)
theorem knotsN_bnd(b:Bd)(hx:crossB b.xa b.xb=true):0≤knotsN b∧knotsN b≤1000:=by
 obtain⟨b1,b2⟩:=worstD_bnd b.dfs
 obtain⟨_,p1⟩:=cross_bnd hx
 have hq:0<maxI (b.xb-b.xa) (b.yb-b.ya):=by unfold maxI;split<;>omega
 have h1:0≤worstD b.dfs*1000/maxI (b.xb-b.xa) (b.yb-b.ya):=Int.ediv_nonneg (by omega) (by omega)
 unfold knotsN minI
 split<;>omega
theorem stiff_run(b:Bd)(w:Spc)(hx:crossB b.xa b.xb=true)(hy:crossB b.ya b.yb=true)(hm:checkM b.cel=0)(hl:0≤w.loss∧w.loss≤1000)(hs:1000≤w.stiff∧w.stiff≤30000):
  F_strength_Stiffness [.agg (eBd b),.agg (eS w)]=some (I (stiffN b w)):=by
 rw[F_strength_Stiffness_eq]
 have hk:=knots_run b hx hy
 have kb:=knotsN_bnd b hx
 have hmn:=mean_run b.cel
 have mb:0≤mean b.cel∧mean b.cel≤20000:=by
  obtain⟨h1,h2,_⟩:=checkM_zero.1 hm
  unfold mean
  rw[if_pos hm]
  omega
 unfold stiffN
 simp at hk hmn
 generalize mean b.cel=mn at*
 generalize knotsN b=k at*
 have h1:w.loss*k≤1000*1000:=Int.mul_le_mul hl.2 kb.2 kb.1 (by omega)
 have h2:0≤w.loss*k:=Int.mul_nonneg hl.1 kb.1
 have w1:IntKind.i64.wrap (w.loss*k)=w.loss*k:=wrap64 (by omega) (by omega)
 have e1:(w.loss*k).tdiv 1000=w.loss*k/1000:=Int.tdiv_eq_ediv_of_nonneg h2
 have w2:IntKind.i64.wrap (w.loss*k/1000)=w.loss*k/1000:=wrap64 (by omega) (by omega)
 generalize hq:w.loss*k/1000=q at*
 have q0:0≤q∧q≤1000:=by omega
 have w3:IntKind.i64.wrap (1000-q)=1000-q:=wrap64 (by omega) (by omega)
 have h3:w.stiff*(1000-q)≤30000*1000:=Int.mul_le_mul hs.2 (by omega) (by omega) (by omega)
 have h4:0≤w.stiff*(1000-q):=Int.mul_nonneg (by omega) (by omega)
 have w4:IntKind.i64.wrap (w.stiff*(1000-q))=w.stiff*(1000-q):=wrap64 (by omega) (by omega)
 have e2:(w.stiff*(1000-q)).tdiv 1000=w.stiff*(1000-q)/1000:=Int.tdiv_eq_ediv_of_nonneg h4
 have w5:IntKind.i64.wrap (w.stiff*(1000-q)/1000)=w.stiff*(1000-q)/1000:=wrap64 (by omega) (by omega)
 generalize hn:w.stiff*(1000-q)/1000=n at*
 have n0:0≤n∧n≤30000:=by omega
 have w6:IntKind.i64.wrap (mn-1200)=mn-1200:=wrap64 (by omega) (by omega)
 have m0:0≤maxI 0 (mn-1200)∧maxI 0 (mn-1200)≤20000:=by unfold maxI;split<;>omega
 have hm':maxI 0 (mn-1200)=if 1200<mn then mn-1200 else 0:=by
  unfold maxI
  repeat' split
  all_goals omega
 have w7:IntKind.i64.wrap (10000-maxI 0 (mn-1200))=10000-maxI 0 (mn-1200):=wrap64 (by omega) (by omega)
 have h5:n*(10000-maxI 0 (mn-1200))≤30000*10000:=by
  rcases(by omega:0≤10000-maxI 0 (mn-1200)∨10000-maxI 0 (mn-1200)≤0) with c|c
  ·exact Int.mul_le_mul n0.2 (by omega) c (by omega)
  ·have:=Int.mul_nonpos_of_nonneg_of_nonpos n0.1 c
   omega
 have h6: -300000000≤n*(10000-maxI 0 (mn-1200)):=by
  have h7:n* -10000≤n*(10000-maxI 0 (mn-1200)):=Int.mul_le_mul_of_nonneg_left (by omega) n0.1
  omega
 have w8:IntKind.i64.wrap (n*(10000-maxI 0 (mn-1200)))=n*(10000-maxI 0 (mn-1200)):=wrap64 (by omega) (by omega)
 generalize hr:n*(10000-maxI 0 (mn-1200))=r at*
 have t1: -300000000≤r.tdiv 10000∧r.tdiv 10000≤300000000:=by
  rcases(by omega:0≤r∨0≤-r) with c|c
  ·rw[Int.tdiv_eq_ediv_of_nonneg c]
   omega
  ·have e:=Int.tdiv_eq_ediv_of_nonneg (b:=10000) c
   rw[Int.neg_tdiv] at e
   omega
 have w9:IntKind.i64.wrap (r.tdiv 10000)=r.tdiv 10000:=wrap64 (by omega) (by omega)
 rw[hm'] at w7 hr
 unfold maxI
 simp[hk,w1,e1,w2,hq,w3,w4,e2,w5,hn,hmn,w6,w7,w8,hr,w9]
def lenN(b:Bd):Int:=if alongB b.za b.zb=true then b.zb-b.za else 0
theorem blen_run(b:Bd):F_board_Length [.agg (eBd b)]=some (I (lenN b)):=by
 rw[F_board_Length_eq]
 have h1:=along_run b.za b.zb
 have h2:=blength_run b.za b.zb
 unfold lenN
 cases h:alongB b.za b.zb
 ·simp[h1,h]
 ·obtain⟨w,_⟩:=along_bnd h
  rw[w] at h2
  simp[h1,h,h2]
end Go.Proofs.YtbdgblipbpadeaaGreatDoor
namespace Go.Proofs.YtbdgblipbpadeaaGreatDoor
open Go Go.Abs
set_option maxHeartbeats 8000000
set_option maxRecDepth 100000
def nThick:ByteArray:=⟨#[116,104,105,99,107]⟩
def nWidth:ByteArray:=⟨#[119,105,100,116,104]⟩
def nLength:ByteArray:=⟨#[108,101,110,103,116,104]⟩
def nKnots:ByteArray:=⟨#[107,110,111,116,115]⟩
def nDead:ByteArray:=⟨#[100,101,97,100]⟩
def nRot:ByteArray:=⟨#[114,111,116]⟩
def nCracks:ByteArray:=⟨#[99,114,97,99,107,115]⟩
def nResin:ByteArray:=⟨#[114,101,115,105,110]⟩
def nInsects:ByteArray:=⟨#[105,110,115,101,99,116,115]⟩
def nMaxknot:ByteArray:=⟨#[109,97,120,107,110,111,116]⟩
def nMaxdead:ByteArray:=⟨#[109,97,120,100,101,97,100]⟩
def nWorst:ByteArray:=⟨#[119,111,114,115,116]⟩
def nWane:ByteArray:=⟨#[119,97,110,101]⟩
def nChecks:ByteArray:=⟨#[99,104,101,99,107,115]⟩
def nMoist:ByteArray:=⟨#[109,111,105,115,116]⟩
def nGradient:ByteArray:=⟨#[103,114,97,100,105,101,110,116]⟩
def nUnder:ByteArray:=⟨#[117,110,100,101,114]⟩
def nStiff:ByteArray:=⟨#[115,116,105,102,102]⟩
def nmsF:List ByteArray:=[nThick,nWidth,nLength,nKnots,nDead,nRot,nCracks,nResin,nInsects,nMaxknot,nMaxdead,nWorst,nWane,nChecks,nMoist,nGradient,nUnder,nStiff]
def eFt(x:ByteArray×Int):List D:=[S x.1,I x.2]
@[simp] theorem eFt_eq(x:ByteArray×Int):eFt x=[S x.1,I x.2]:=rfl
def eNm(s:ByteArray):List D:=[S s]
@[simp] theorem eNm_eq(s:ByteArray):eNm s=[S s]:=rfl
def feats(b:Bd)(p:Pd)(w:Spc):List (ByteArray×Int):=
 [(nThick,p.thick),(nWidth,p.width),(nLength,lenN b),(nKnots,cntD 1 0 b.dfs),(nDead,cntD 2 0 b.dfs),(nRot,cntD 3 0 b.dfs),(nCracks,cntD 4 0 b.dfs),(nResin,cntD 5 0 b.dfs),(nInsects,cntD 6 0 b.dfs),(nMaxknot,lrgD 1 0 b.dfs),(nMaxdead,lrgD 2 0 b.dfs),(nWorst,worstD b.dfs),(nWane,b.wane),(nChecks,cracks b.cel w),(nMoist,mean b.cel),(nGradient,grad b.cel),(nUnder,(if underB b p w=true then 1 else 0)),(nStiff,stiffN b w)]
theorem names_run:F_feature_Names []=some (.own true (nmsF.map eNm)):=by
 rw[F_feature_Names_eq]
 simp[nmsF,nThick,nWidth,nLength,nKnots,nDead,nRot,nCracks,nResin,nInsects,nMaxknot,nMaxdead,nWorst,nWane,nChecks,nMoist,nGradient,nUnder,nStiff]
theorem add_run(k:Nat)(nm:ByteArray)(hk:nmsF[k]? =some nm)(fl:Bool)(es:List (List D))(hl:es.length=k)(n:Int):
  E_feature_Of_1 [(1000,.box 115 [.row 110000]),(110000,.row 208 2 fl es),(1001,.box 205 [.sl (nmsF.map eNm)])] [I n,.ptr 1000 0,.ptr 1001 0]=
   some (.tup [],[(1000,.box 115 [.row 110000]),(1001,.box 205 [.sl (nmsF.map eNm)]),(110000,.row 208 2 fl (es++[[S nm,I n]]))]):=by
 rw[E_feature_Of_1_eq]
 have h1:(nmsF.map eNm)[es.length]? =some [S nm]:=by rw[List.getElem?_map,hl,hk];rfl
 have h2:es.length<nmsF.length:=by
  have:=(List.getElem?_eq_some_iff.1 hk).1
  omega
 have h3:(es.length:Int)<nmsF.length:=by omega
 have h4:nmsF.length=18:=rfl
 have h5:(es.length+1)*25≤140737488355328:=by omega
 simp[h1,h3,h5]
theorem checkB_zero{b:Bd}{c:List Pd}(h:checkB b c=0):∃p,c[b.prod.toNat]? =some p∧0≤b.prod∧checkPd c=0∧restE b p=0:=by
 unfold checkB at h
 by_cases h1:checkPd c=0
 ·rw[if_pos h1] at h
  split at h
  ·split at h
   ·omega
   ·split at h
    ·rename_i p hp
     exact⟨p,hp,by omega,h1,h⟩
    ·omega
  ·omega
 ·rw[if_neg h1] at h
  exact absurd h h1
theorem restE_zero{b:Bd}{p:Pd}(h:restE b p=0):boxB b=true∧checkDf b.dfs=0∧checkM b.cel=0∧0≤b.wane∧b.wane≤1000:=by
 unfold restE at h
 repeat' split at h
 all_goals first|omega|skip
 all_goals simp_all
theorem checkW_zero{w:Spc}(h:checkW w=0):(0≤w.loss∧w.loss≤1000)∧(1000≤w.stiff∧w.stiff≤30000)∧0≤w.shrink∧w.shrink≤200:=by
 unfold checkW at h
 repeat' split at h
 all_goals first|omega|skip
 rename_i _ h2
 simp[rangeW] at h2
 omega
theorem of_run(b:Bd)(c:List Pd)(w:Spc)(p:Pd)(hB:checkB b c=0)(hW:checkW w=0)(hp:c[b.prod.toNat]? =some p):
  F_feature_Of [.agg (eBd b),.sl (c.map ePd),.agg (eS w)]=some (.own true ((feats b p w).map eFt)):=by
 rw[F_feature_Of_eq]
 have hb:=bcheck_run b c
 have hw:=wood_run w
 rw[hB] at hb
 rw[hW] at hw
 obtain⟨p',hp',h0,hc0,hr⟩:=checkB_zero hB
 rw[hp] at hp'
 cases hp'
 obtain⟨hx,hdf,hcm,_⟩:=restE_zero hr
 obtain⟨k1,k2,k3⟩:=box_bnd hx
 obtain⟨wl,ws,wk⟩:=checkW_zero hW
 have h6:(c.map ePd)[b.prod.toNat]? =some (ePd p):=by rw[List.getElem?_map,hp];rfl
 have hl:=checkDf_len hdf
 have hg:∀d∈b.dfs,Rng d:=fun d hd=>(dfE_rng (checkDf_mem hdf d hd)).1
 have r1:=blen_run b
 have c1:=fun k=>count_run b.dfs k (by omega)
 have c2:=fun k=>largest_run b.dfs k (by omega) hg
 have c3:=worst_run b.dfs
 have m1:=cracks_run b.cel w
 have m2:=mean_run b.cel
 have m3:=grad_run b.cel
 have u1:=under_run b p w k1 k2 wk
 have s1:=stiff_run b w k1 k2 hcm wl ws
 have a0:=add_run 0 nThick rfl
 have a1:=add_run 1 nWidth rfl
 have a2:=add_run 2 nLength rfl
 have a3:=add_run 3 nKnots rfl
 have a4:=add_run 4 nDead rfl
 have a5:=add_run 5 nRot rfl
 have a6:=add_run 6 nCracks rfl
 have a7:=add_run 7 nResin rfl
 have a8:=add_run 8 nInsects rfl
 have a9:=add_run 9 nMaxknot rfl
 have a10:=add_run 10 nMaxdead rfl
 have a11:=add_run 11 nWorst rfl
 have a12:=add_run 12 nWane rfl
 have a13:=add_run 13 nChecks rfl
 have a14:=add_run 14 nMoist rfl
 have a15:=add_run 15 nGradient rfl
 have a16:=add_run 16 nUnder rfl
 have a17:=add_run 17 nStiff rfl
 unfold feats
 generalize lenN b=v2 at*
 generalize worstD b.dfs=v11 at*
 generalize cracks b.cel w=v13 at*
 generalize mean b.cel=v14 at*
 generalize grad b.cel=v15 at*
 generalize underB b p w=v16 at*
 generalize stiffN b w=v17 at*
 simp at hb hw r1 m1 m2 m3 u1 s1
 have hm:=bigL_succ 7 (by omega)
 obtain⟨m,hm⟩:=hm
 have S:=names_run
 have h6':¬b.prod<0:=by omega
 simp[hb,hw,h0,h6,S,r1,a0,a1,a2]
 first|rw[hm]|simp only[zgp,GP,zge,GEP,hm]
 rw[L_feature_Of_succ,R_feature_Of_eq]
 simp[c1,a3]
 rw[L_feature_Of_succ,R_feature_Of_eq]
 simp[c1,a4]
 rw[L_feature_Of_succ,R_feature_Of_eq]
 simp[c1,a5]
 rw[L_feature_Of_succ,R_feature_Of_eq]
 simp[c1,a6]
 rw[L_feature_Of_succ,R_feature_Of_eq]
 simp[c1,a7]
 rw[L_feature_Of_succ,R_feature_Of_eq]
 simp[c1,a8]
 rw[L_feature_Of_succ,R_feature_Of_eq]
 simp[c2,c3,m1,m2,m3,a9,a10,a11,a12,a13,a14,a15]
 cases v16
 ·simp[u1,s1,a16,a17]
 ·simp[u1,s1,a16,a17]
theorem of_none(b:Bd)(c:List Pd)(w:Spc)(h:¬(checkB b c=0∧checkW w=0)):F_feature_Of [.agg (eBd b),.sl (c.map ePd),.agg (eS w)]=some (.own true []):=by
 rw[F_feature_Of_eq]
 have hb:=bcheck_run b c
 have hw:=wood_run w
 simp at hb hw
 by_cases h1:checkB b c=0
 ·have h2:¬checkW w=0:=fun h2=>h ⟨h1,h2⟩
  simp[hb,hw,h1,h2]
 ·simp[hb,h1]
def featsO(b:Bd)(c:List Pd)(w:Spc):List (ByteArray×Int):=if checkB b c=0∧checkW w=0 then match c[b.prod.toNat]? with
 |some p=>feats b p w
 |none=>[]
 else[]
theorem ofO_run(b:Bd)(c:List Pd)(w:Spc):F_feature_Of [.agg (eBd b),.sl (c.map ePd),.agg (eS w)]=some (.own true ((featsO b c w).map eFt)):=by
 unfold featsO
 by_cases h:checkB b c=0∧checkW w=0
 ·rw[if_pos h]
  obtain⟨p,hp,_⟩:=checkB_zero h.1
  rw[hp]
  exact of_run b c w p h.1 h.2 hp
 ·rw[if_neg h]
  exact of_none b c w h
def getF(nm:ByteArray):List (ByteArray×Int)→Int×Bool
 |[]=>(0,false)
 |x::r=>if x.1=nm then(x.2,true) else getF nm r
end Go.Proofs.YtbdgblipbpadeaaGreatDoor
namespace Go.Proofs.YtbdgblipbpadeaaGreatDoor
open Go Go.Abs
set_option maxHeartbeats 8000000
set_option maxRecDepth 100000
structure Gd where
 b:Bd
 ps:List Pd
 s:Spc
end Go.Proofs.YtbdgblipbpadeaaGreatDoor
