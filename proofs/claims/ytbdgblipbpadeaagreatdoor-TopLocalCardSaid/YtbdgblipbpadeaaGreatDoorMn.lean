/-
  Schedules, and copies of slices, run abstractly.
-/
import Derived.Test.YtbdgblipbpadeaaGreatDoorMm
set_option linter.unusedSimpArgs false
set_option linter.unusedVariables false
set_option linter.defProp false
namespace Go.Proofs.YtbdgblipbpadeaaGreatDoor
open Go Go.Abs
set_option maxHeartbeats 4000000
set_option maxRecDepth 100000
theorem dc{α:Type}{enc:α→List D}{l:List α}{i:Nat}{x:α}{r:List α}(h:l.drop i=x::r):(l.map enc)[i]? =some (enc x)∧(i:Int)<l.length∧l.drop (i+1)=r∧i<l.length:=by
 have hi:i<l.length:=by
  cases Nat.lt_or_ge i l.length with
  |inl h=>exact h
  |inr h'=>rw[List.drop_of_length_le h'] at h;cases h
 rw[List.drop_eq_getElem_cons hi] at h
 injection h with h1 h2
 exact⟨by simp[hi,h1],by omega,h2,hi⟩
theorem dn{α:Type}{l:List α}{i:Nat}(h:l.drop i=[]):¬(i:Int)<l.length:=by
 have:=List.drop_eq_nil_iff.1 h
 omega
theorem mapGet{α:Type}{enc:α→List D}{l:List α}{i:Nat}(h:i<l.length):(l.map enc)[i]? =some (enc l[i]):=by simp[h]
theorem schedule_loop(l:List Stg)(hl:l.length≤1000):∀(n i:Nat) (r:List Stg),l.drop i=r→r.length<n→
  L_schedule_Check 10 n ⟨[(0,.any),(1,.any),(2,.any),(4,.any),(26,.sl (l.map eSg)),(27,I l.length),(28,I i)],[]⟩=
   if soundAll r=true then some (.ex 0,⟨[(0,.any),(1,.any),(2,.any),(4,.any),(26,.any),(27,.any),(28,.any)],[]⟩) else some (.ret,⟨[(0,.any),(1,.any),(2,I 9),(4,.any),(26,.any),(27,.any),(28,.any)],[]⟩)
 |0,_,_,_,hn=>by omega
 |n+1,i,[],hr,hn=>by
  rw[L_schedule_Check_succ,R_schedule_Check_eq]
  simp[dn hr,soundAll]
 |n+1,i,x::r,hr,hn=>by
  rw[L_schedule_Check_succ,R_schedule_Check_eq]
  obtain⟨h1,h3,hr',hi⟩:=dc (enc:=eSg) hr
  have hw:=wrapN (n:=i) (by omega)
  have ih:=schedule_loop l hl n (i+1) r hr' (by simp at hn;omega)
  have hs:=sound_run x
  simp at hs
  simp at ih
  cases g:soundG x
  ·simp[h1,h3,hs,g,soundAll]
  ·simp[h1,h3,hs,g,soundAll,hw,ih]
theorem schedule_run(nm:ByteArray)(ramp:Int)(l:List Stg):F_schedule_Check [.agg [S nm,I ramp,.sl (l.map eSg)]]=some (I (checkSg nm ramp l)):=by
 rw[F_schedule_Check_eq]
 unfold checkSg
 cases h:isNm nm
 ·simp[isName_run,h]
 by_cases h1:ramp<1
 ·simp[isName_run,h,h1]
 by_cases h2:1200<ramp
 ·simp[isName_run,h,h1,h2]
 by_cases h3:l.length=0
 ·simp[isName_run,h,h1,h2,h3]
 by_cases h4:(12:Int)<l.length
 ·simp[isName_run,h,h1,h2,h3,h4]
 have ih:=schedule_loop l (by omega) bigL 0 l rfl (by have:=bigL_ge;omega)
 simp at ih
 simp[isName_run,h,h1,h2,h3,h4,ih]
theorem target_run(nm:ByteArray)(ramp:Int)(w:Spc)(k:Nat)(g:List Stg)(h:k<g.length):F_schedule_Target [.agg [S nm,I ramp,.sl (g.map eSg)],I k,.agg (eS w)]=
  some (.agg [I (if w.temp<g[k].temp then w.temp else g[k].temp),I (if w.dep<g[k].dep then w.dep else g[k].dep)]):=by
 rw[F_schedule_Target_eq]
 have hx:=mapGet (enc:=eSg) h
 have h':¬g.length≤k:=by omega
 simp[hx,h,h']
theorem ends_run(nm:ByteArray)(ramp:Int)(k:Nat)(g:List Stg)(h:k<g.length)(hl:g.length≤1000)(ins mean:Int):F_schedule_Ends [.agg [S nm,I ramp,.sl (g.map eSg)],I k,I ins,I mean]=
  some (if endsG g[k] ins mean=true then .tup [I (k+1),B true] else .tup [I k,B false]):=by
 rw[F_schedule_Ends_eq]
 have hx:=mapGet (enc:=eSg) h
 have h':¬g.length≤k:=by omega
 have hw:=wrapN (n:=k) (by omega)
 unfold endsG
 by_cases a1:0<g[k].below<;>by_cases a2:mean≤g[k].below<;>by_cases a3:0<g[k].ticks<;>by_cases a4:g[k].ticks≤ins<;>simp[hx,h,h',hw,a1,a2,a3,a4]
theorem still_loop(f:List Int)(hl:f.length≤9223372036854775807):∀(n i:Nat) (r:List Int),f.drop i=r→r.length<n→
  L_kiln_still 2 n ⟨[(0,.any),(2,.any),(4,.any),(5,.sl (f.map eI)),(6,I f.length),(7,I i)],[]⟩=
   if inL 2 r=true then some (.ret,⟨[(0,.any),(2,B true),(4,.any),(5,.any),(6,.any),(7,.any)],[]⟩) else some (.ex 0,⟨[(0,.any),(2,.any),(4,.any),(5,.any),(6,.any),(7,.any)],[]⟩)
 |0,_,_,_,hn=>by omega
 |n+1,i,[],hr,hn=>by
  rw[L_kiln_still_succ,R_kiln_still_eq]
  simp[dn hr,inL]
 |n+1,i,x::r,hr,hn=>by
  rw[L_kiln_still_succ,R_kiln_still_eq]
  obtain⟨h1,h3,hr',hi⟩:=dc (enc:=eI) hr
  have hw:=wrapN (n:=i) (by omega)
  have ih:=still_loop f hl n (i+1) r hr' (by simp at hn;omega)
  simp at ih
  by_cases g0:x=0
  ·subst g0;simp[h1,h3,hw,ih,inL]
  by_cases g1:x=1
  ·subst g1;simp[h1,h3,hw,ih,inL]
  by_cases g2:x=2
  ·subst g2;simp[h1,h3,hw,ih,inL]
  by_cases g3:x=3
  ·subst g3;simp[h1,h3,hw,ih,inL]
  have g2':¬2=x:=fun e=>g2 e.symm
  by_cases g4:0≤x
  ·have g5:¬x<4:=by omega
   simp[h1,h3,hw,ih,inL,g2',g4,g5]
  ·simp[h1,h3,hw,ih,inL,g2',g4]
theorem still_run(f:List Int)(hl:f.length≤9223372036854775807):F_kiln_still [.sl (f.map eI)]=some (B (inL 2 f)):=by
 rw[F_kiln_still_eq]
 have ih:=still_loop f hl bigL 0 f rfl (by have:=bigL_ge;omega)
 simp at ih
 cases h:inL 2 f<;>simp[ih,h]
theorem cloneG_run(l:List Stg)(h:l.length≤1000000):NF_slices_Clone_api_Stage_api_Stage [.sl (l.map eSg)]=some (.own true (l.map eSg)):=by
 cases l with
 |nil=>rw[NF_slices_Clone_api_Stage_api_Stage_sl];simp
 |cons x r=>
  have h2:(r.length+1)*33≤140737488355328:=by simp at h;omega
  rw[NF_slices_Clone_api_Stage_api_Stage_sl,if_neg (by simp),F_slices_Clone_api_Stage_api_Stage_eq]
  simp[h2]
theorem cloneT_run(l:List Itm)(h:l.length≤1000000):NF_slices_Clone_kiln_Item_kiln_Item [.sl (l.map eT)]=some (.own true (l.map eT)):=by
 cases l with
 |nil=>rw[NF_slices_Clone_kiln_Item_kiln_Item_sl];simp
 |cons x r=>
  have h2:(r.length+1)*33≤140737488355328:=by simp at h;omega
  rw[NF_slices_Clone_kiln_Item_kiln_Item_sl,if_neg (by simp),F_slices_Clone_kiln_Item_kiln_Item_eq]
  simp[h2]
theorem cloneTo_run(x:Itm)(r:List Itm)(h:r.length≤1000000):E_slices_Clone_kiln_Item_kiln_Item_obj [] [.sl (eT x::r.map eT)]=some (.row 2,[(2,.row 146 4 true (eT x::r.map eT))]):=by
 have h2:(r.length+1)*33≤140737488355328:=by omega
 rw[E_slices_Clone_kiln_Item_kiln_Item_obj_eq]
 simp[h2]
end Go.Proofs.YtbdgblipbpadeaaGreatDoor
