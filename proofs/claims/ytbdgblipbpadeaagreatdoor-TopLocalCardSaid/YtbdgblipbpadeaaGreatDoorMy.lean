/-
  Whether a board is one of a product of the catalog, run abstractly.
-/
import Derived.Test.YtbdgblipbpadeaaGreatDoorMx
set_option linter.unusedSimpArgs false
set_option linter.unusedVariables false
set_option linter.defProp false
namespace Go.Proofs.YtbdgblipbpadeaaGreatDoor
open Go Go.Abs
set_option maxHeartbeats 8000000
set_option maxRecDepth 100000
def isC(s:ByteArray)(kind:Int):Bool:=codeB s&&decide (((((byt s)[0]?.getD 0).toNat:Nat):Int)=kind)
theorem isC_run(s:ByteArray)(kind:Int):F_ident_Is [S s,Y kind]=some (B (isC s kind)):=is_run s kind
def checkB(b:Bd)(c:List Pd):Int:=if checkPd c=0 then
  if(isC b.id 66&&(isC b.log 76&&isNm b.sp))=true then
   if b.prod<0 then 8 else match c[b.prod.toNat]? with
   |some p=>restE b p
   |none=>8
  else 6
 else checkPd c
theorem bins_loop(b:Bd)(hl:b.dfs.length≤1000)(x y z:Int):∀(n i:Nat) (r:List Dfc),b.dfs.drop i=r→r.length<n→
  L_board_Check 22 n ⟨[(0,.any),(1,.any),(2,.ptr 2 0),(4,.any),(5,.any),(6,.any),(7,I x),(8,I y),(9,I z),(10,.any),(11,.any),(12,.any),(13,.any),(15,.any),(100,.sl (b.dfs.map eDf)),(101,I b.dfs.length),(102,I i)],[(2,.box 68 (eBd b))]⟩=
   if insE x y z r=true then some (.ex 0,⟨[(0,.any),(1,.any),(2,.ptr 2 0),(4,.any),(5,.any),(6,.any),(7,.any),(8,.any),(9,.any),(10,.any),(11,.any),(12,.any),(13,.any),(15,.any),(100,.any),(101,.any),(102,.any)],[(2,.box 68 (eBd b))]⟩)
   else some (.ret,⟨[(0,.any),(1,.any),(2,.any),(4,I 9),(5,.any),(6,.any),(7,.any),(8,.any),(9,.any),(10,.any),(11,.any),(12,.any),(13,.any),(15,.any),(100,.any),(101,.any),(102,.any)],[]⟩):=by
 refine lind b.dfs _ ?_ ?_
 ·intro n i hr
  rw[L_board_Check_succ,R_board_Check_eq]
  simp[dn hr,insE]
 ·intro n i d r hr hi ih
  rw[L_board_Check_succ,R_board_Check_eq]
  obtain⟨h1,h3,hr',_⟩:=dc (enc:=eDf) hr
  have hw:=wrapN (n:=i) (by omega)
  simp at ih
  unfold insE
  cases c1:insideB d.xa d.xb x
  ·simp[h1,h3,binside_run,c1]
  cases c2:insideB d.ya d.yb y
  ·simp[h1,h3,binside_run,c1,c2]
  cases c3:insideB d.za d.zb z
  ·simp[h1,h3,binside_run,c1,c2,c3]
  ·simp[h1,h3,binside_run,c1,c2,c3,hw,ih]
theorem checkDf_len{l:List Dfc}(h:checkDf l=0):l.length≤64:=by
 unfold checkDf at h
 split at h<;>omega
theorem rest_num(b:Bd)(vol:Int):(if 0≤b.vol then if b.vol≤vol then if 0≤b.wane then if 1000<b.wane then(9:Int) else if 0≤b.cel.s∧b.cel.s≤20000 then if 0≤b.cel.c∧b.cel.c≤20000 then if 0≤b.cel.st then if 1099511627776<b.cel.st then 25 else if 0≤b.grade then if 9<b.grade then 26 else 0 else 26 else 25 else 25 else 25 else 9 else 9 else 9)=if b.vol<0 then 9 else if vol<b.vol then 9 else if b.wane<0 then 9 else if 1000<b.wane then 9 else if checkM b.cel=0 then if b.grade<0 then 26 else if 9<b.grade then 26 else 0 else 25:=by
 have hz:=checkM_zero (x:=b.cel)
 by_cases hm:checkM b.cel=0
 ·have h:=hz.1 hm
  simp only[hm,eq_self,if_true,if_false]
  repeat' split
  all_goals first|rfl|omega
 ·have h:¬((0≤b.cel.s∧b.cel.s≤20000)∧(0≤b.cel.c∧b.cel.c≤20000)∧(0≤b.cel.st∧b.cel.st≤1099511627776)):=fun h=>hm (hz.2 h)
  simp only[hm,eq_self,if_true,if_false]
  repeat' split
  all_goals first|rfl|omega
theorem brest_run(b:Bd)(p:Pd)(c:List Pd)(hp:checkPd c=0)(hn:(isC b.id 66&&(isC b.log 76&&isNm b.sp))=true)(h0:0≤b.prod)(h2:c[b.prod.toNat]? =some p)(hl:p.lens.length≤1000):F_board_Check [.agg (eBd b),.sl (c.map ePd)]=some (I (restE b p)):=by
 rw[F_board_Check_eq]
 have hpr:=checkPd_run c
 have hx:=isBox_run b.xa b.xb b.ya b.yb b.za b.zb
 rw[←boxB_eq] at hx
 have e1:=isC_run b.id 66
 have e2:=isC_run b.log 76
 have e3:=isName_run b.sp
 simp only[Bool.and_eq_true] at hn
 obtain⟨n1,n2,n3⟩:=hn
 rw[n1] at e1
 rw[n2] at e2
 rw[n3] at e3
 rw[hp] at hpr
 have h3:¬b.prod<0:=by omega
 have h4:b.prod.toNat<c.length:=(List.getElem?_eq_some_iff.1 h2).1
 have h5:¬(c.length:Int)≤b.prod:=by omega
 have h6:(c.map ePd)[b.prod.toNat]? =some (ePd p):=by rw[List.getElem?_map,h2];rfl
 cases hb:boxB b
 ·rw[hb] at hx
  simp[hpr,e1,e2,e3,h3,h5,hx,hb,restE]
 rw[hb] at hx
 obtain⟨k1,k2,k3⟩:=box_bnd hb
 obtain⟨w1,p1⟩:=cross_bnd k1
 obtain⟨w2,p2⟩:=cross_bnd k2
 obtain⟨w3,p3⟩:=along_bnd k3
 have l1:=blength_run b.xa b.xb
 have l2:=blength_run b.ya b.yb
 have l3:=blength_run b.za b.zb
 rw[w1] at l1
 rw[w2] at l2
 rw[w3] at l3
 have hg:=green_run p
 have hc:=contains_run p.lens (b.zb-b.za) (by omega)
 rw[←inI_eq] at hc
 have hd:=checkDf_run b.dfs
 have hv:=bvolume_run b
 have il:b.dfs.length≤1000→L_board_Check 22 bigL ⟨[(0,.any),(1,.any),(2,.ptr 2 0),(4,.any),(5,.any),(6,.any),(7,I (b.xb-b.xa)),(8,I (b.yb-b.ya)),(9,I (b.zb-b.za)),(10,.any),(11,.any),(12,.any),(13,.any),(15,.any),(100,.sl (b.dfs.map eDf)),(101,I b.dfs.length),(102,I (0:Nat))],[(2,.box 68 (eBd b))]⟩=
   if insE (b.xb-b.xa) (b.yb-b.ya) (b.zb-b.za) b.dfs=true then some (.ex 0,⟨[(0,.any),(1,.any),(2,.ptr 2 0),(4,.any),(5,.any),(6,.any),(7,.any),(8,.any),(9,.any),(10,.any),(11,.any),(12,.any),(13,.any),(15,.any),(100,.any),(101,.any),(102,.any)],[(2,.box 68 (eBd b))]⟩)
   else some (.ret,⟨[(0,.any),(1,.any),(2,.any),(4,I 9),(5,.any),(6,.any),(7,.any),(8,.any),(9,.any),(10,.any),(11,.any),(12,.any),(13,.any),(15,.any),(100,.any),(101,.any),(102,.any)],[]⟩):=fun h=>bins_loop b h _ _ _ bigL 0 b.dfs rfl (by have:=bigL_ge;omega)
 unfold restE fitB
 simp only[hb,if_true]
 generalize b.xb-b.xa=x at*
 generalize b.yb-b.ya=y at*
 generalize b.zb-b.za=z at*
 generalize greenT p=gt at*
 generalize greenW p=gw at*
 generalize volB b=vol at*
 simp at hg hv
 by_cases hf:(x=gt∧y=gw)∨(x=gw∧y=gt)
 ·have hf':(decide (x=gt)&&decide (y=gw)||decide (x=gw)&&decide (y=gt))=true:=by simpa using hf
  rw[hf']
  simp only[if_true]
  have K:∃q1 q2:Prop,q1∧q2∧((x=gt∧y=gw)∨((x=gw∧y=gt)∧q1=(¬gw=gt)∧q2=(¬gt=gw))):=by
   by_cases q:x=gt∧y=gw
   ·exact⟨True,True,trivial,trivial,.inl q⟩
   ·exact⟨_,_,by omega,by omega,.inr ⟨hf.resolve_left q,rfl,rfl⟩⟩
  obtain⟨q1,q2,hq1,hq2,K⟩:=K
  rcases K with⟨rfl,rfl⟩|⟨⟨rfl,rfl⟩,rfl,rfl⟩
  all_goals
   clear hf hf'
   cases hi:inI z p.lens
   ·rw[hi] at hc
    simp[hpr,e1,e2,e3,h0,h3,h5,h6,hx,l1,l2,l3,hg,hc,hq1,hq2]
   rw[hi] at hc
   simp only[if_true]
   by_cases hz:checkDf b.dfs=0
   ·have il':=il (by have:=checkDf_len hz;omega)
    rw[hz] at hd
    simp only[hz,if_true]
    by_cases hin:insE x y z b.dfs=true
    ·rw[if_pos hin] at il'
     rw[if_pos hin]
     simp at il'
     simp(config:={maxSteps:=3000000}) [hpr,e1,e2,e3,h0,h3,h5,h6,hx,l1,l2,l3,hg,hc,hq1,hq2,hd,il',isMoist_run,hv]
     exact rest_num b vol
    ·rw[if_neg hin] at il'
     rw[if_neg hin]
     simp at il'
     simp[hpr,e1,e2,e3,h0,h3,h5,h6,hx,l1,l2,l3,hg,hc,hq1,hq2,hd,il']
   ·rw[if_neg hz]
    simp[hpr,e1,e2,e3,h0,h3,h5,h6,hx,l1,l2,l3,hg,hc,hq1,hq2,hd,hz]
 ·have hf':(decide (x=gt)&&decide (y=gw)||decide (x=gw)&&decide (y=gt))=false:=by
   rw[←Bool.not_eq_true]
   intro h
   exact hf (by simpa using h)
  rw[hf']
  have f1:¬x=gt∨¬y=gw:=by omega
  have f2:¬x=gw∨¬y=gt:=by omega
  simp[hpr,e1,e2,e3,h0,h3,h5,h6,hx,l1,l2,l3,hg,f1,f2]
theorem catE_lens:∀(l seen:List Pd),catE seen l=0→∀p∈l,p.lens.length≤8
 |[],_,_,p,hp=>by cases hp
 |x::r,seen,h,p,hp=>by
  unfold catE at h
  by_cases h1:isNm x.name=true
  ·rw[if_pos h1] at h
   by_cases h2:hasN x.name seen=true
   ·rw[if_pos h2] at h
    omega
   rw[if_neg h2] at h
   by_cases h3:numsE x=0
   ·rw[if_pos h3] at h
    rcases List.mem_cons.1 hp with rfl|hp
    ·have e:∀(f:Int→Prop),f (numsE p)→f 0:=fun f hf=>h3▸hf
     unfold numsE at h3
     repeat' split at h3
     all_goals first|omega|skip
     unfold listsE at h3
     repeat' split at h3
     all_goals omega
    ·exact catE_lens r _ h p hp
   ·rw[if_neg h3] at h
    exact absurd h h3
  ·rw[if_neg h1] at h
   omega
theorem checkPd_lens{l:List Pd}(h:checkPd l=0){i:Nat}{p:Pd}(hp:l[i]? =some p):p.lens.length≤8:=by
 unfold checkPd at h
 split at h
 ·omega
 ·exact catE_lens l [] h p (List.mem_of_getElem? hp)
theorem bcheck_run(b:Bd)(c:List Pd):F_board_Check [.agg (eBd b),.sl (c.map ePd)]=some (I (checkB b c)):=by
 have hpr:=checkPd_run c
 have e1:=isC_run b.id 66
 have e2:=isC_run b.log 76
 have e3:=isName_run b.sp
 unfold checkB
 by_cases hp:checkPd c=0
 ·rw[if_pos hp]
  rw[hp] at hpr
  by_cases hn:(isC b.id 66&&(isC b.log 76&&isNm b.sp))=true
  ·rw[if_pos hn]
   have hn0:=hn
   simp only[Bool.and_eq_true] at hn0
   obtain⟨n1,n2,n3⟩:=hn0
   rw[n1] at e1
   rw[n2] at e2
   rw[n3] at e3
   by_cases h0:b.prod<0
   ·rw[if_pos h0,F_board_Check_eq]
    simp[hpr,e1,e2,e3,h0]
   rw[if_neg h0]
   cases h2:c[b.prod.toNat]? with
   |none=>
    have h4:=List.getElem?_eq_none_iff.1 h2
    have h5:(c.length:Int)≤b.prod:=by omega
    rw[F_board_Check_eq]
    simp[hpr,e1,e2,e3,h0,h5]
   |some p=>exact brest_run b p c hp hn (by omega) h2 (by have:=checkPd_lens hp h2;omega)
  ·rw[if_neg hn,F_board_Check_eq]
   cases n1:isC b.id 66
   ·rw[n1] at e1
    simp[hpr,e1]
   rw[n1] at e1
   cases n2:isC b.log 76
   ·rw[n2] at e2
    simp[hpr,e1,e2]
   rw[n2] at e2
   cases n3:isNm b.sp
   ·rw[n3] at e3
    simp[hpr,e1,e2,e3]
   ·simp[n1,n2,n3] at hn
 ·rw[if_neg hp,F_board_Check_eq]
  simp[hpr,hp]
end Go.Proofs.YtbdgblipbpadeaaGreatDoor
