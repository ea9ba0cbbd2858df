/-
  Scans checked, run abstractly.
-/
import Derived.Test.YtbdgblipbpadeaaGreatDoorNl
import Derived.Test.YtbdgblipbpadeaaGreatDoorNg
set_option linter.unusedSimpArgs false
set_option linter.unusedVariables false
set_option linter.defProp false
namespace Go.Proofs.YtbdgblipbpadeaaGreatDoor
open Go Go.Abs
set_option maxHeartbeats 4000000
set_option maxRecDepth 100000
theorem lnx{α:Type}(enc:α→List D)(l:List α)(hl:l.length≤1000000000000)(P:Nat→Nat→List α→Prop)(h0:∀(n i:Nat),¬(i:Int)<l.length→P (n+1) i [])
  (h1:∀(n i:Nat) (x:α) (r:List α),l[i]? =some x→(l.map enc)[i]? =some (enc x)→(i:Int)<l.length→IntKind.i64.wrap ((i:Int)+1)=(i:Int)+1→P n (i+1) r→P (n+1) i (x::r)):∀(n i:Nat) (r:List α),l.drop i=r→r.length<n→P n i r:=by
 intro n
 induction n with
 |zero=>intro i r hr hn;omega
 |succ n ih=>
  intro i r hr hn
  cases r with
  |nil=>exact h0 n i (dnT hr)
  |cons x r=>
   obtain⟨a,b,hr',hi⟩:=dcT (enc:=enc) hr
   have h':l[i]? =some x:=by
    have:=congrArg (fun q=>q[0]?) hr
    simpa using this
   exact h1 n i x r h' a b (wrapN (by omega)) (ih (i+1) r hr' (by simp at hn;omega))
theorem scanRings_loop(l:List Rg)(d:List Dfc)(hl:l.length≤24):∀(n i:Nat) (r:List Rg),l.drop i=r→r.length<n→∃e:Int,(e=0→∀g∈r,ringE g=0)∧
  L_scan_Check 6 n ⟨[(0,.any),(1,.ptr 1 0),(2,.any),(3,.any),(4,.any),(5,.any),(6,.any),(7,.any),(9,.any),(19,.sl (l.map eRg)),(20,I l.length),(21,I i),(81,.any),(82,.any),(83,.any)],[(1,.box 25 [.sl (l.map eRg),.sl (d.map eDf)])]⟩=
   if e=0 then some (.ex 0,⟨[(0,.any),(1,.ptr 1 0),(2,.any),(3,.any),(4,.any),(5,.any),(6,.any),(7,.any),(9,.any),(19,.any),(20,.any),(21,.any),(81,.any),(82,.any),(83,.any)],[(1,.box 25 [.sl (l.map eRg),.sl (d.map eDf)])]⟩)
   else some (.ret,⟨[(0,.any),(1,.any),(2,I e),(3,.any),(4,.any),(5,.any),(6,.any),(7,.any),(9,.any),(19,.any),(20,.any),(21,.any),(81,.any),(82,.any),(83,.any)],[]⟩):=by
 refine lnx eRg l (by omega) _ ?_ ?_
 ·intro n i h
  refine⟨0,by simp, ?_⟩
  rw[L_scan_Check_succ,R_scan_Check_eq]
  simp[h]
 ·intro n i x r hx h1 h3 hw ih
  have hk:=ringCheck_run x
  simp at hk
  by_cases a0:¬ringE x=0
  ·refine⟨ringE x,by simp[a0], ?_⟩
   rw[L_scan_Check_succ,R_scan_Check_eq]
   simp[h1,h3,hk,a0]
  have a0:ringE x=0:=by omega
  have l0:0<l.length:=by omega
  obtain⟨y,hy⟩:∃y,l[0]? =some y:=⟨l[0],by simp⟩
  have wi:IntKind.i64.wrap ((i:Int)-1)=(i:Int)-1:=wrap64 (by omega) (by omega)
  obtain⟨e,he,ih⟩:=ih
  simp at ih
  have he':e=0→∀g∈x::r,ringE g=0:=by
   intro h g hg
   simp at hg
   rcases hg with rfl|hg
   ·exact a0
   ·exact he h g hg
  by_cases i0:i=0
  ·subst i0
   have h2:l[0]=x:=by simpa[l0] using hx
   simp at ih
   by_cases a1:x.z=0
   ·refine⟨e,he', ?_⟩
    rw[L_scan_Check_succ,R_scan_Check_eq]
    simp[a1] at hk
    simp[h2,l0,hk,a0,a1,ih]
   ·refine⟨11,by simp, ?_⟩
    rw[L_scan_Check_succ,R_scan_Check_eq]
    simp[h2,l0,hk,a0,a1]
  ·obtain⟨p,hp⟩:∃p,l[i-1]? =some p:=⟨l[i-1]'(by omega),by simp[(by omega:i-1<l.length)]⟩
   have i1:0<i:=by omega
   have i4:1≤(i:Int):=by omega
   by_cases a1:x.z≤p.z
   ·refine⟨11,by simp, ?_⟩
    rw[L_scan_Check_succ,R_scan_Check_eq]
    simp[h1,h3,hk,a0,i0,i1,i4,wi,hp,a1]
   by_cases a2:(x.rd.length:Int)=y.rd.length
   ·refine⟨e,he', ?_⟩
    rw[L_scan_Check_succ,R_scan_Check_eq]
    simp[h1,h3,hw,hk,a0,i0,i1,i4,wi,hp,a1,a2,hy,ih]
   ·refine⟨19,by simp, ?_⟩
    rw[L_scan_Check_succ,R_scan_Check_eq]
    simp[h1,h3,hk,a0,i0,i1,i4,wi,hp,a1,a2,hy]
theorem scanDef_loop(l:List Rg)(d:List Dfc)(m:Int)(hl:d.length≤64):∀(n i:Nat) (r:List Dfc),d.drop i=r→r.length<n→∃e:Int,
  L_scan_Check 21 n ⟨[(0,.any),(1,.any),(2,.any),(3,.any),(4,.any),(5,.any),(6,.any),(7,I m),(9,.any),(19,.any),(20,.any),(21,.any),(81,.sl (d.map eDf)),(82,I d.length),(83,I i)],[]⟩=
   if e=0 then some (.ex 2,⟨[(0,.any),(1,.any),(2,.any),(3,.any),(4,.any),(5,.any),(6,.any),(7,.any),(9,.any),(19,.any),(20,.any),(21,.any),(81,.any),(82,.any),(83,.any)],[]⟩)
   else some (.ret,⟨[(0,.any),(1,.any),(2,I e),(3,.any),(4,.any),(5,.any),(6,.any),(7,.any),(9,.any),(19,.any),(20,.any),(21,.any),(81,.any),(82,.any),(83,.any)],[]⟩):=by
 refine lnd eDf d (by omega) _ ?_ ?_
 ·intro n i h
  refine⟨0, ?_⟩
  rw[L_scan_Check_succ,R_scan_Check_eq]
  simp[h]
 ·intro n i x r h1 h3 hw hm ih
  obtain⟨e,ih⟩:=ih
  by_cases a:m<x.zb
  ·refine⟨9, ?_⟩
   rw[L_scan_Check_succ,R_scan_Check_eq]
   simp[h1,h3,a]
  ·refine⟨e, ?_⟩
   rw[L_scan_Check_succ,R_scan_Check_eq]
   simp at ih
   simp[h1,h3,hw,a,ih]
theorem scanCheck_run(l:List Rg)(d:List Dfc):∃e:Int,F_scan_Check [.agg [.sl (l.map eRg),.sl (d.map eDf)]]=some (I e)∧(e=0→2≤l.length∧l.length≤24∧(∀g∈l,ringE g=0)∧checkDf d=0):=by
 by_cases a1:(l.length:Int)<2
 ·refine⟨3, ?_,by simp⟩
  rw[F_scan_Check_eq]
  simp[a1]
 by_cases a2:24<(l.length:Int)
 ·refine⟨4, ?_,by simp⟩
  rw[F_scan_Check_eq]
  simp[a1,a2]
 obtain⟨e,he,l1⟩:=scanRings_loop l d (by omega) bigL 0 l rfl (by have:=bigL_ge;omega)
 simp at l1
 by_cases a3:¬e=0
 ·refine⟨e, ?_,fun h=>absurd h a3⟩
  rw[F_scan_Check_eq]
  simp[a3] at l1
  simp[a1,a2,a3,l1]
 have a3:e=0:=by omega
 simp[a3] at l1
 have hd:=checkDf_run d
 by_cases a4:¬checkDf d=0
 ·refine⟨checkDf d, ?_,fun h=>absurd h a4⟩
  rw[F_scan_Check_eq]
  simp[a1,a2,l1,hd,a4]
 have a4:checkDf d=0:=by omega
 have hd64:d.length≤64:=by
  unfold checkDf at a4
  split at a4
  ·cases a4
  ·omega
 obtain⟨y,hy⟩:∃y,l[l.length-1]? =some y:=⟨l[l.length-1]'(by omega),by simp[(by omega:l.length-1<l.length)]⟩
 have w:IntKind.i64.wrap ((l.length:Int)-1)=(l.length:Int)-1:=wrap64 (by omega) (by omega)
 obtain⟨e',l2⟩:=scanDef_loop l d y.z hd64 bigL 0 d rfl (by have:=bigL_ge;omega)
 simp at l2
 have b:(1:Int)≤l.length:=by omega
 refine⟨e', ?_,fun h=>⟨by omega,by omega,he a3,a4⟩⟩
 rw[F_scan_Check_eq]
 by_cases a5:e'=0
 ·simp[a5] at l2
  simp[a1,a2,l1,hd,a4,w,hy,b,l2,a5]
 ·simp[a5] at l2
  simp[a1,a2,l1,hd,a4,w,hy,b,l2,a5]
end Go.Proofs.YtbdgblipbpadeaaGreatDoor
namespace Go.Proofs.YtbdgblipbpadeaaGreatDoor
open Go Go.Abs
set_option maxHeartbeats 4000000
set_option maxRecDepth 100000
theorem cloneDf_run(l:List Dfc)(h:l.length≤1000000):NF_slices_Clone_api_Defect_api_Defect [.sl (l.map eDf)]=some (.own true (l.map eDf)):=by
 cases l with
 |nil=>rw[NF_slices_Clone_api_Defect_api_Defect_sl];simp
 |cons x r=>
  have h2:(r.length+1)*57≤140737488355328:=by simp at h;omega
  rw[NF_slices_Clone_api_Defect_api_Defect_sl,if_neg (by simp),F_slices_Clone_api_Defect_api_Defect_eq]
  simp[h2]
theorem cloneRg_run(l:List Rg)(h0:0<l.length)(h:l.length≤1000000):NE_slices_Clone_api_Ring_api_Ring [] [.sl (l.map eRg)]=some (.row 2,[(2,.row 79 2 false (l.map eRg))]):=by
 cases l with
 |nil=>simp at h0
 |cons x r=>
  have h2:(r.length+1)*33≤140737488355328:=by simp at h;omega
  unfold NE_slices_Clone_api_Ring_api_Ring nilE
  simp only[List.map_cons,List.length_cons,Nat.add_eq_zero_iff,Nat.succ_ne_self,and_false,if_false]
  rw[E_slices_Clone_api_Ring_api_Ring_obj_eq]
  simp[h2]
theorem set_same{α:Type}{l:List α}{i:Nat}{x:α}(h:l[i]? =some x):l.set i x=l:=by
 apply List.ext_getElem?
 intro k
 by_cases e:k=i
 ·subst e
  have:k<l.length:=by
   cases Nat.lt_or_ge k l.length with
   |inl h=>exact h
   |inr h'=>simp[h'] at h
  simp[this] at h⊢
  exact h.symm
 ·rw[List.getElem?_set_ne (by omega)]
theorem scanClone_loop(l:List Rg)(d:List Dfc)(hl:l.length≤1000000)(hr:∀g∈l,g.rd.length≤1000000):∀(n i:Nat) (r:List Rg),l.drop i=r→r.length<n→
  L_scan_clone 3 n ⟨[(0,.any),(1,.any),(2,.ptr 2 0),(3,.ptr 3 0),(4,.any),(7,.any),(14,I l.length),(15,I i)],[(2,.box 25 [.emp,.emp]),(3,.box 25 [.row 7,.own true (d.map eDf)]),(7,.row 79 2 false (l.map eRg))]⟩=
   some (.ex 0,⟨[(0,.any),(1,.any),(2,.ptr 2 0),(3,.ptr 3 0),(4,.any),(7,.any),(14,.any),(15,.any)],[(2,.box 25 [.emp,.emp]),(3,.box 25 [.row 7,.own true (d.map eDf)]),(7,.row 79 2 false (l.map eRg))]⟩):=by
 refine lnd eRg l (by omega) _ ?_ ?_
 ·intro n i h
  rw[L_scan_clone_succ,R_scan_clone_eq]
  simp[h]
 ·intro n i x r h1 h3 hw hm ih
  rw[L_scan_clone_succ,R_scan_clone_eq]
  have hc:=cloneRd_run x.rd (hr x hm)
  have hs:=set_same h1
  simp at ih hs
  simp[h1,h3,hw,hc,hs,ih]
theorem scanClone_run(l:List Rg)(d:List Dfc)(hl:l.length≤1000000)(hr:∀g∈l,g.rd.length≤1000000)(hd:d.length≤1000000):∃b:Bool,F_scan_clone [.agg [.sl (l.map eRg),.sl (d.map eDf)]]=some (.agg [.own b (l.map eRg),.own true (d.map eDf)]):=by
 have hcd:=cloneDf_run d hd
 by_cases h0:0<l.length
 ·have hc:=cloneRg_run l h0 hl
  have l1:=scanClone_loop l d hl hr bigL 0 l rfl (by have:=bigL_ge;omega)
  refine⟨false, ?_⟩
  rw[F_scan_clone_eq]
  simp at l1
  simp[hc,hcd,l1]
 ·have h0:l=[]:=List.length_eq_zero_iff.1 (by omega)
  subst h0
  have hc:NE_slices_Clone_api_Ring_api_Ring [] [.sl []]=some (.own true [],[]):=by
   unfold NE_slices_Clone_api_Ring_api_Ring nilE
   simp
  obtain⟨m,hm⟩:=bigL_succ 1 (by omega)
  refine⟨true, ?_⟩
  rw[F_scan_clone_eq]
  simp only[zgp,GP,hm]
  simp[hc,hcd,L_scan_clone_succ,R_scan_clone_eq]
theorem scanTurn_loop(l:List Rg)(d:List Dfc)(hl:l.length≤24)(hr:∀g∈l,ringE g=0):∀(n i:Nat) (r:List Rg),l.drop i=r→r.length<n→∀a:List Rg,a.length=i→
  L_scan_Turn 5 n ⟨[(0,.any),(1,I 0),(2,.ptr 2 0),(4,.ptr 4 0),(5,.ptr 5 0),(6,.any),(15,.any),(23,I l.length),(24,I i)],[(2,.box 25 [.sl (l.map eRg),.sl (d.map eDf)]),(4,.box 25 [.emp,.emp]),(15,.row 79 2 false (a.map eRg++List.replicate r.length [I 0,.emp])),(5,.box 25 [.row 15,.own true (d.map eDf)])]⟩=
   some (.ex 0,⟨[(0,.any),(1,.any),(2,.any),(4,.ptr 4 0),(5,.ptr 5 0),(6,.any),(15,.any),(23,.any),(24,.any)],[(4,.box 25 [.emp,.emp]),(15,.row 79 2 false ((a++r).map eRg)),(5,.box 25 [.row 15,.own true (d.map eDf)])]⟩):=by
 refine lnd eRg l (by omega) _ ?_ ?_
 ·intro n i h a ha
  rw[L_scan_Turn_succ,R_scan_Turn_eq]
  simp[h]
 ·intro n i x r h1 h3 hw hm ih a ha
  rw[L_scan_Turn_succ,R_scan_Turn_eq]
  have ht:=rturn_run x (hr x hm)
  simp at ht
  have ih:=ih (a++[x]) (by simp[ha])
  have g1:(a.map eRg++[I 0,.emp]::List.replicate r.length [I 0,.emp])[i]? =some [I 0,.emp]:=by
   rw[List.getElem?_append_right (by simp[ha])]
   simp[ha]
  have g2:(a.map eRg++[I 0,.emp]::List.replicate r.length [I 0,.emp]).set i [I x.z,.sl (x.rd.map eRd)]=(a++[x]).map eRg++List.replicate r.length [I 0,.emp]:=by
   rw[set_next _ _ _ _ _ (by simp[ha])]
   simp
  rw[List.length_cons,List.replicate_succ]
  simp at ih g2
  simp[h1,h3,hw,ht,g1,g2,ih]
theorem scanTurn_run(l:List Rg)(d:List Dfc)(hl:l.length≤1000000)(hr:∀g∈l,g.rd.length≤1000000)(hd:d.length≤1000000):∃b:Bool,F_scan_Turn [.agg [.sl (l.map eRg),.sl (d.map eDf)],I 0]=some (.agg [.own b (l.map eRg),.own true (d.map eDf)]):=by
 obtain⟨e,hk,he⟩:=scanCheck_run l d
 by_cases h:¬e=0
 ·obtain⟨b,hc⟩:=scanClone_run l d hl hr hd
  refine⟨b, ?_⟩
  rw[F_scan_Turn_eq]
  simp[hk,h,hc]
 have h:e=0:=by omega
 obtain⟨h1,h2,h3,h4⟩:=he h
 have ht:=dturn_run d
 simp[h4] at ht
 have hn:¬l=[]:=by intro e;subst e;simp at h1
 have b1:33*(l.length:Int)≤281474976710656∧(l.length:Int)≤1000000000000000000:=by omega
 have b2:32*(l.length:Int)≤281474976710656:=by omega
 have l1:=scanTurn_loop l d h2 h3 bigL 0 l rfl (by have:=bigL_ge;omega) [] rfl
 refine⟨false, ?_⟩
 rw[F_scan_Turn_eq]
 simp at l1
 simp[hk,h,b1,b2,ht,hn,l1]
end Go.Proofs.YtbdgblipbpadeaaGreatDoor
namespace Go.Proofs.YtbdgblipbpadeaaGreatDoor
open Go Go.Abs
set_option maxHeartbeats 4000000
set_option maxRecDepth 100000
theorem cloneSp_run(l:List Sp)(h:l.length≤1000000):NF_slices_Clone_api_Span_api_Span [.sl (l.map eP)]=some (.own true (l.map eP)):=by
 cases l with
 |nil=>rw[NF_slices_Clone_api_Span_api_Span_sl];simp
 |cons x r=>
  have h2:(r.length+1)*17≤140737488355328:=by simp at h;omega
  rw[NF_slices_Clone_api_Span_api_Span_sl,if_neg (by simp),F_slices_Clone_api_Span_api_Span_eq]
  simp[h2]
theorem cloneSlc_run(l:List Slc)(h0:0<l.length)(h:l.length≤1000000):NE_slices_Clone_api_Slice_api_Slice [] [.sl (l.map eSl)]=some (.row 2,[(2,.row 139 3 false (l.map eSl))]):=by
 cases l with
 |nil=>simp at h0
 |cons x r=>
  have h2:(r.length+1)*41≤140737488355328:=by simp at h;omega
  unfold NE_slices_Clone_api_Slice_api_Slice nilE
  simp only[List.map_cons,List.length_cons,Nat.add_eq_zero_iff,Nat.succ_ne_self,and_false,if_false]
  rw[E_slices_Clone_api_Slice_api_Slice_obj_eq]
  simp[h2]
theorem cloneSolid_loop(l:List Slc)(hl:l.length≤1000000)(hr:∀s∈l,s.sec.rows.length≤1000000):∀(n i:Nat) (r:List Slc),l.drop i=r→r.length<n→
  L_sawline_cloneSolid 3 n ⟨[(0,.row 0),(2,.any),(3,.any),(7,I l.length),(8,I i)],[(0,.row 139 3 false (l.map eSl))]⟩=
   some (.ex 0,⟨[(0,.row 0),(2,.any),(3,.any),(7,.any),(8,.any)],[(0,.row 139 3 false (l.map eSl))]⟩):=by
 refine lnd eSl l (by omega) _ ?_ ?_
 ·intro n i h
  rw[L_sawline_cloneSolid_succ,R_sawline_cloneSolid_eq]
  simp[h]
 ·intro n i x r h1 h3 hw hm ih
  rw[L_sawline_cloneSolid_succ,R_sawline_cloneSolid_eq]
  have hc:=cloneSp_run x.sec.rows (hr x hm)
  have hs:=set_same h1
  simp at ih hs
  simp[h1,h3,hw,hc,hs,ih]
theorem cloneSolid_run(l:List Slc)(h0:0<l.length)(hl:l.length≤1000000)(hr:∀s∈l,s.sec.rows.length≤1000000):F_sawline_cloneSolid [.sl (l.map eSl)]=some (.own false (l.map eSl)):=by
 have hc:=cloneSlc_run l h0 hl
 have l1:=cloneSolid_loop l hl hr bigL 0 l rfl (by have:=bigL_ge;omega)
 rw[F_sawline_cloneSolid_eq]
 simp at l1
 simp[hc,l1]
theorem cloneInt_run(l:List Int)(h:l.length≤1000000):NF_slices_Clone_int_int [.sl (l.map eI)]=some (.own true (l.map eI)):=by
 cases l with
 |nil=>rw[NF_slices_Clone_int_int_sl];simp
 |cons x r=>
  have h2:(r.length+1)*9≤140737488355328:=by simp at h;omega
  rw[NF_slices_Clone_int_int_sl,if_neg (by simp),F_slices_Clone_int_int_eq]
  simp[h2]
theorem clonePd_run(l:List Pd)(h0:0<l.length)(h:l.length≤1000000):NE_slices_Clone_api_Product_api_Product [] [.sl (l.map ePd)]=some (.row 2,[(2,.row 125 7 false (l.map ePd))]):=by
 cases l with
 |nil=>simp at h0
 |cons x r=>
  have h2:(r.length+1)*97≤140737488355328:=by simp at h;omega
  unfold NE_slices_Clone_api_Product_api_Product nilE
  simp only[List.map_cons,List.length_cons,Nat.add_eq_zero_iff,Nat.succ_ne_self,and_false,if_false]
  rw[E_slices_Clone_api_Product_api_Product_obj_eq]
  simp[h2]
theorem cloneCat_loop(l:List Pd)(hl:l.length≤1000000)(hr:∀p∈l,p.lens.length≤1000000∧p.prs.length≤1000000):∀(n i:Nat) (r:List Pd),l.drop i=r→r.length<n→
  L_sawline_cloneCatalog 3 n ⟨[(0,.row 0),(2,.any),(3,.any),(7,I l.length),(8,I i)],[(0,.row 125 7 false (l.map ePd))]⟩=
   some (.ex 0,⟨[(0,.row 0),(2,.any),(3,.any),(7,.any),(8,.any)],[(0,.row 125 7 false (l.map ePd))]⟩):=by
 refine lnd ePd l (by omega) _ ?_ ?_
 ·intro n i h
  rw[L_sawline_cloneCatalog_succ,R_sawline_cloneCatalog_eq]
  simp[h]
 ·intro n i x r h1 h3 hw hm ih
  rw[L_sawline_cloneCatalog_succ,R_sawline_cloneCatalog_eq]
  have hc:=cloneInt_run x.lens (hr x hm).1
  have hd:=cloneInt_run x.prs (hr x hm).2
  have hs:=set_same h1
  have hi:i<(l.map ePd).length:=by simp;omega
  simp at ih hs
  simp[h1,h3,hw,hc,hd,hs,ih]
theorem cloneCat_run(l:List Pd)(hl:l.length≤1000000)(hr:∀p∈l,p.lens.length≤1000000∧p.prs.length≤1000000):∃b:Bool,F_sawline_cloneCatalog [.sl (l.map ePd)]=some (.own b (l.map ePd)):=by
 by_cases h0:0<l.length
 ·have hc:=clonePd_run l h0 hl
  have l1:=cloneCat_loop l hl hr bigL 0 l rfl (by have:=bigL_ge;omega)
  refine⟨false, ?_⟩
  rw[F_sawline_cloneCatalog_eq]
  simp at l1
  simp[hc,l1]
 ·have h0:l=[]:=List.length_eq_zero_iff.1 (by omega)
  subst h0
  have hc:NE_slices_Clone_api_Product_api_Product [] [.sl []]=some (.own true [],[]):=by
   unfold NE_slices_Clone_api_Product_api_Product nilE
   simp
  obtain⟨m,hm⟩:=bigL_succ 1 (by omega)
  refine⟨true, ?_⟩
  rw[F_sawline_cloneCatalog_eq]
  simp only[zgp,GP,hm]
  simp[hc,L_sawline_cloneCatalog_succ,R_sawline_cloneCatalog_eq]
end Go.Proofs.YtbdgblipbpadeaaGreatDoor
namespace Go.Proofs.YtbdgblipbpadeaaGreatDoor
open Go Go.Abs
set_option maxHeartbeats 4000000
set_option maxRecDepth 100000
theorem secOfRing_run(g:Rg)(lim most:Int)(h:ringE g=0):∃(s:Sec) (e:Int),s.rows.length≤120∧F_scan_sectionOf [.agg (eRg g),I lim,I most]=some (.tup [.agg [I s.low,.own true (s.rows.map eP)],I e]):=by
 obtain⟨c,hc,h1⟩:=clean_run g lim h
 obtain⟨p,e,hp,h2⟩:=repair_run ⟨g.z,c⟩ most
 obtain⟨s,e',hs,h3⟩:=secOf_run p hp
 simp at h1 h2
 by_cases a:e=0
 ·refine⟨s,e',hs, ?_⟩
  rw[F_scan_sectionOf_eq]
  simp[h1,h2,h3,a]
 ·refine⟨⟨0,[]⟩,e,by simp, ?_⟩
  rw[F_scan_sectionOf_eq]
  simp[h1,h2,a]
theorem build1_loop(l:List Rg)(lim most:Int)(hl:l.length≤24)(hr:∀g∈l,ringE g=0):∀(n i:Nat) (r:List Rg),l.drop i=r→r.length<n→∀a:List Sec,a.length=i→(∀s∈a,s.rows.length≤120)→∃o:Option (List Sec),(∀ss,o=some ss→ss.length=i+r.length∧∀s∈ss,s.rows.length≤120)∧∀d:List Dfc,
  L_scan_Build 6 n ⟨[(0,.any),(1,I lim),(2,I most),(3,.ptr 3 0),(6,.any),(7,.any),(8,.any),(9,.row 9),(10,.any),(11,.any),(12,.any),(13,.any),(14,.any),(15,.any),(27,I l.length),(28,I i),(55,.any),(56,.any)],[(3,.box 25 [.sl (l.map eRg),.sl (d.map eDf)]),(9,.row 137 2 false (a.map eSc++List.replicate r.length [I 0,.emp]))]⟩=
   match o with
   |none=>some (.ret,⟨[(0,.any),(1,.any),(2,.any),(3,.any),(6,.emp),(7,I 30),(8,.any),(9,.any),(10,.any),(11,.any),(12,.any),(13,.any),(14,.any),(15,.any),(27,.any),(28,.any),(55,.any),(56,.any)],[]⟩)
   |some ss=>some (.ex 0,⟨[(0,.any),(1,.any),(2,.any),(3,.ptr 3 0),(6,.any),(7,.any),(8,.any),(9,.row 9),(10,.any),(11,.any),(12,.any),(13,.any),(14,.any),(15,.any),(27,.any),(28,.any),(55,.any),(56,.any)],[(3,.box 25 [.sl (l.map eRg),.sl (d.map eDf)]),(9,.row 137 2 false (ss.map eSc))]⟩):=by
 refine lnd eRg l (by omega) _ ?_ ?_
 ·intro n i h a ha hs
  refine⟨some a,fun ss e=>?_,fun d=>?_⟩
  ·cases e;simp;exact⟨ha,hs⟩
  ·rw[L_scan_Build_succ,R_scan_Build_eq]
   simp[h]
 ·intro n i x r h1 h3 hw hm ih a ha hs
  obtain⟨s,e,hs1,hk⟩:=secOfRing_run x lim most (hr x hm)
  simp at hk
  by_cases he:¬e=0
  ·refine⟨none,by simp,fun d=>?_⟩
   rw[L_scan_Build_succ,R_scan_Build_eq]
   simp[h1,h3,hk,he]
  have he:e=0:=by omega
  obtain⟨o,ho,ih⟩:=ih (a++[s]) (by simp[ha]) (by
   intro q hq
   simp at hq
   rcases hq with hq|rfl
   ·exact hs q hq
   ·exact hs1)
  refine⟨o,fun ss e=>?_,fun d=>?_⟩
  ·have:=ho ss e
   simp at this⊢
   exact⟨by omega,this.2⟩
  have ih:=ih d
  have g1:(a.map eSc++[I 0,.emp]::List.replicate r.length [I 0,.emp])[i]? =some [I 0,.emp]:=by
   rw[List.getElem?_append_right (by simp[ha])]
   simp[ha]
  have g2:(a.map eSc++[I 0,.emp]::List.replicate r.length [I 0,.emp]).set i [I s.low,.sl (s.rows.map eP)]=(a++[s]).map eSc++List.replicate r.length [I 0,.emp]:=by
   rw[set_next _ _ _ _ _ (by simp[ha])]
   simp
  rw[L_scan_Build_succ,R_scan_Build_eq]
  rw[List.length_cons,List.replicate_succ]
  simp at ih g2
  simp[h1,h3,hw,hk,he,g1,g2,ih]
theorem build2_loop(l:List Rg)(ss:List Sec)(hl:l.length≤24)(hss:ss.length=l.length)(h1:1≤l.length):∀(n i:Nat),i≤l.length-1→l.length-1-i<n→∀a:List Slc,a.length=i→(∀s∈a,s.sec.rows.length≤120)→∃o:Option (List Slc),(∀ls,o=some ls→ls.length=l.length-1∧∀s∈ls,s.sec.rows.length≤120)∧∀d:List Dfc,
  L_scan_Build 15 n ⟨[(0,.any),(1,.any),(2,.any),(3,.ptr 3 0),(6,.any),(7,.any),(8,.any),(9,.row 9),(10,.any),(11,.any),(12,.any),(13,.row 13),(14,.any),(15,.any),(27,.any),(28,.any),(55,I (l.length-1:Nat)),(56,I i)],[(3,.box 25 [.sl (l.map eRg),.sl (d.map eDf)]),(9,.row 137 2 false (ss.map eSc)),(13,.row 139 3 false (a.map eSl++List.replicate (l.length-1-i) [I 0,I 0,.emp]))]⟩=
   match o with
   |none=>some (.ret,⟨[(0,.any),(1,.any),(2,.any),(3,.any),(6,.emp),(7,I 30),(8,.any),(9,.any),(10,.any),(11,.any),(12,.any),(13,.any),(14,.any),(15,.any),(27,.any),(28,.any),(55,.any),(56,.any)],[]⟩)
   |some ls=>some (.ex 2,⟨[(0,.any),(1,.any),(2,.any),(3,.any),(6,.any),(7,.any),(8,.any),(9,.any),(10,.any),(11,.any),(12,.any),(13,.row 13),(14,.any),(15,.any),(27,.any),(28,.any),(55,.any),(56,.any)],[(13,.row 139 3 false (ls.map eSl))]⟩):=by
 intro n
 induction n with
 |zero=>intro i hi hn;omega
 |succ n ih=>
  intro i hi hn a ha hs
  by_cases h:i<l.length-1
  ·have h3:(i:Int)<(l.length-1:Nat):=by omega
   have hw:=wrapN (n:=i) (by omega)
   have i1:(0:Int)≤(i:Int)+1:=by omega
   obtain⟨x,hx⟩:∃x,l[i]? =some x:=⟨l[i]'(by omega),by simp[(by omega:i<l.length)]⟩
   obtain⟨y,hy⟩:∃x,l[i+1]? =some x:=⟨l[i+1]'(by omega),by simp[(by omega:i+1<l.length)]⟩
   obtain⟨s,hs'⟩:∃x,ss[i]? =some x:=⟨ss[i]'(by omega),by simp[(by omega:i<ss.length)]⟩
   obtain⟨t,ht⟩:∃x,ss[i+1]? =some x:=⟨ss[i+1]'(by omega),by simp[(by omega:i+1<ss.length)]⟩
   obtain⟨u,hu,hk⟩:=secMeet_run s t
   simp at hk
   by_cases h0:u.rows=[]
   ·refine⟨none,by simp,fun d=>?_⟩
    rw[L_scan_Build_succ,R_scan_Build_eq]
    simp[h3,hw,i1,hx,hy,hs',ht,hk,h0]
   ·have e1:l.length-1-i=(l.length-1-(i+1))+1:=by omega
    obtain⟨o,ho,ih⟩:=ih (i+1) (by omega) (by omega) (a++[⟨IntKind.i64.wrap (y.z-x.z),u⟩]) (by simp[ha]) (by
     intro q hq
     simp at hq
     rcases hq with hq|rfl
     ·exact hs q hq
     ·exact hu)
    refine⟨o,ho,fun d=>?_⟩
    have ih:=ih d
    rw[e1,List.replicate_succ]
    generalize l.length-1-(i+1)=k at*
    have g1:(a.map eSl++[I 0,I 0,.emp]::List.replicate k [I 0,I 0,.emp])[i]? =some [I 0,I 0,.emp]:=by
     rw[List.getElem?_append_right (by simp[ha])]
     simp[ha]
    have g2:(a.map eSl++[I 0,I 0,.emp]::List.replicate k [I 0,I 0,.emp]).set i [I (IntKind.i64.wrap (y.z-x.z)),I u.low,.sl (u.rows.map eP)]=(a++[(⟨IntKind.i64.wrap (y.z-x.z),u⟩:Slc)]).map eSl++List.replicate k [I 0,I 0,.emp]:=by
     rw[set_next _ _ _ _ _ (by simp[ha])]
     simp
    rw[L_scan_Build_succ,R_scan_Build_eq]
    simp at ih g2
    simp[h3,hw,i1,hx,hy,hs',ht,hk,h0,g1,g2,ih]
  ·have h3:¬(i:Int)<(l.length-1:Nat):=by omega
   have e1:l.length-1-i=0:=by omega
   refine⟨some a,fun ss e=>?_,fun d=>?_⟩
   ·cases e;exact⟨by omega,hs⟩
   ·rw[L_scan_Build_succ,R_scan_Build_eq]
    rw[e1]
    simp[h3]
theorem scanBuild_run(l:List Rg)(lim most:Int):∃(b:Bool) (ls:List Slc) (e:Int),ls.length≤24∧(∀s∈ls,s.sec.rows.length≤120)∧∀d:List Dfc,F_scan_Check [.agg [.sl (l.map eRg),.sl (d.map eDf)]]=some (I 0)→F_scan_Build [.agg [.sl (l.map eRg),.sl (d.map eDf)],I lim,I most]=some (.tup [.own b (ls.map eSl),I e]):=by
 by_cases hx:∃d:List Dfc,F_scan_Check [.agg [.sl (l.map eRg),.sl (d.map eDf)]]=some (I 0)
 ·obtain⟨d0,h0⟩:=hx
  obtain⟨e,he,hh⟩:=scanCheck_run l d0
  rw[h0] at he
  cases he
  obtain⟨hl,h3,hr,-⟩:=hh rfl
  have b1:33*(l.length:Int)≤281474976710656∧(l.length:Int)≤1000000000000000000:=by omega
  have b2:32*(l.length:Int)≤281474976710656:=by omega
  have b3:41*((l.length:Int)-1)≤281474976710656∧40*((l.length:Int)-1)≤281474976710656∧(l.length:Int)-1≤1000000000000000000∧(1:Int)≤l.length∧(0:Int)≤(l.length:Int)-1:=by omega
  have w:IntKind.i64.wrap ((l.length:Int)-1)=(l.length:Int)-1:=wrap64 (by omega) (by omega)
  have n0:¬l=[]:=by intro e;subst e;simp at hl
  have n1:¬l.length-1=0:=by omega
  obtain⟨o,ho,l1⟩:=build1_loop l lim most h3 hr bigL 0 l rfl (by have:=bigL_ge;omega) [] rfl (by simp)
  cases o with
  |none=>
   refine⟨true,[],30,by simp,by simp,fun d hd=>?_⟩
   have l1:=l1 d
   rw[F_scan_Build_eq]
   simp at l1
   simp[hd,b1,b2,n0,l1]
  |some ss=>
   obtain⟨hs,hss⟩:=ho ss rfl
   obtain⟨o,ho,l2⟩:=build2_loop l ss h3 (by omega) (by omega) bigL 0 (by omega) (by have:=bigL_ge;omega) [] rfl (by simp)
   cases o with
   |none=>
    refine⟨true,[],30,by simp,by simp,fun d hd=>?_⟩
    have l1:=l1 d
    have l2:=l2 d
    rw[F_scan_Build_eq]
    simp at l1 l2
    simp[hd,b1,b2,n0,l1,w,b3,n1,l2]
   |some ls=>
    refine⟨false,ls,0,by have:=(ho ls rfl).1;omega,(ho ls rfl).2,fun d hd=>?_⟩
    have l1:=l1 d
    have l2:=l2 d
    rw[F_scan_Build_eq]
    simp at l1 l2
    simp[hd,b1,b2,n0,l1,w,b3,n1,l2]
 ·exact⟨true,[],0,by simp,by simp,fun d hd=>absurd ⟨d,hd⟩ hx⟩
theorem scanBuild_bad(l:List Rg)(d:List Dfc)(lim most e:Int)(h:F_scan_Check [.agg [.sl (l.map eRg),.sl (d.map eDf)]]=some (I e))(he:¬e=0):F_scan_Build [.agg [.sl (l.map eRg),.sl (d.map eDf)],I lim,I most]=some (.tup [.own true [],I e]):=by
 rw[F_scan_Build_eq]
 simp[h,he]
end Go.Proofs.YtbdgblipbpadeaaGreatDoor
namespace Go.Proofs.YtbdgblipbpadeaaGreatDoor
open Go Go.Abs
set_option maxHeartbeats 4000000
set_option maxRecDepth 100000
theorem place1_run(ls d:List (List D))(e:Int):E_turns_Place_1 [(1000,.box 58 [I e]),(1001,.box 58 [I 0]),(1002,.box 57 [.sl ls]),(1003,.box 23 [.sl d])] [.ptr 1000 0,.ptr 1001 0,.ptr 1002 0,.ptr 1003 0]=
  some (.tup [],if e=0 then[(1000,.box 58 [I e]),(1001,.box 58 [I e]),(1002,.box 57 [.sl ls]),(1003,.box 23 [.sl d])] else[(1000,.box 58 [I e]),(1001,.box 58 [I e]),(1002,.box 57 [.emp]),(1003,.box 23 [.emp])]):=by
 rw[E_turns_Place_1_eq]
 by_cases h:e=0
 ·simp[h]
 ·simp[h]
theorem place_run(l:List Rg)(lim most:Int)(hl:l.length≤1000000)(hr:∀g∈l,g.rd.length≤1000000):∃ls:List Slc,ls.length≤24∧(∀s∈ls,s.sec.rows.length≤120)∧∀d:List Dfc,d.length≤1000000→∃e:Int,
  F_turns_Place [.agg [.sl (l.map eRg),.sl (d.map eDf)],I 0,I lim,I most]=some (.tup (if e=0 then[.sl (ls.map eSl),.sl (d.map eDf),I 0] else[.own true [],.own true [],I e]))∧(e=0→checkDf d=0):=by
 obtain⟨b,ls,e0,h1,h2,hB⟩:=scanBuild_run l lim most
 refine⟨ls,h1,h2,fun d hd=>?_⟩
 obtain⟨b',hT⟩:=scanTurn_run l d hl hr hd
 obtain⟨c,hk,hc⟩:=scanCheck_run l d
 have hC:=cloneDf_run d hd
 have run:∀(b:Bool) (es:List (List D)) (e:Int),F_scan_Build [.agg [.sl (l.map eRg),.sl (d.map eDf)],I lim,I most]=some (.tup [.own b es,I e])→
   F_turns_Place [.agg [.sl (l.map eRg),.sl (d.map eDf)],I 0,I lim,I most]=some (.tup (if e=0 then[.sl es,.sl (d.map eDf),I 0] else[.own true [],.own true [],I e])):=by
  intro b es e hB
  generalize l.map eRg=L at*
  generalize d.map eDf=M at*
  rw[F_turns_Place_eq]
  have h1:=place1_run es M e
  by_cases he:e=0
  ·simp[he] at h1 hB
   simp[hT,hB,hC,h1,he]
  ·simp[he] at h1
   simp[hT,hB,hC,h1,he]
 by_cases h:c=0
 ·subst h
  exact⟨e0,run b _ e0 (hB d hk),fun _=>(hc rfl).2.2.2⟩
 ·exact⟨c,by rw[run true [] c (scanBuild_bad l d lim most c hk h),if_neg h,if_neg h],fun e=>absurd e h⟩
end Go.Proofs.YtbdgblipbpadeaaGreatDoor
