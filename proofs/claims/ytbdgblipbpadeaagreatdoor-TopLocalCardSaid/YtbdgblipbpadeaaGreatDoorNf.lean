/-
  Scans, sections and solids in plain words; their small functions, run abstractly.
-/
import Derived.Test.YtbdgblipbpadeaaGreatDoorMi
import Derived.Test.YtbdgblipbpadeaaGreatDoorMh
set_option linter.unusedSimpArgs false
set_option linter.unusedVariables false
set_option linter.defProp false
namespace Go.Proofs.YtbdgblipbpadeaaGreatDoor
open Go Go.Abs
set_option maxHeartbeats 4000000
set_option maxRecDepth 100000
theorem dcT{α:Type}{enc:α→List D}{l:List α}{i:Nat}{x:α}{r:List α}(h:l.drop i=x::r):(l.map enc)[i]? =some (enc x)∧(i:Int)<l.length∧l.drop (i+1)=r∧i<l.length:=by
 have hi:i<l.length:=by
  cases Nat.lt_or_ge i l.length with
  |inl h=>exact h
  |inr h'=>rw[List.drop_of_length_le h'] at h;cases h
 rw[List.drop_eq_getElem_cons hi] at h
 injection h with h1 h2
 exact⟨by simp[hi,h1],by omega,h2,hi⟩
theorem dnT{α:Type}{l:List α}{i:Nat}(h:l.drop i=[]):¬(i:Int)<l.length:=by
 have:=List.drop_eq_nil_iff.1 h
 omega
theorem lnd{α:Type}(enc:α→List D)(l:List α)(hl:l.length≤1000000000000)(P:Nat→Nat→List α→Prop)(h0:∀(n i:Nat),¬(i:Int)<l.length→P (n+1) i [])
  (h1:∀(n i:Nat) (x:α) (r:List α),(l.map enc)[i]? =some (enc x)→(i:Int)<l.length→IntKind.i64.wrap ((i:Int)+1)=(i:Int)+1→x∈l→P n (i+1) r→P (n+1) i (x::r)):∀(n i:Nat) (r:List α),l.drop i=r→r.length<n→P n i r:=by
 intro n
 induction n with
 |zero=>intro i r hr hn;omega
 |succ n ih=>
  intro i r hr hn
  cases r with
  |nil=>exact h0 n i (dnT hr)
  |cons x r=>
   obtain⟨a,b,hr',hi⟩:=dcT (enc:=enc) hr
   exact h1 n i x r a b (wrapN (by omega)) (List.mem_of_mem_drop (hr▸List.mem_cons_self:x∈l.drop i)) (ih (i+1) r hr' (by simp at hn;omega))
def allP{α:Type}(p:α→Bool):List α→Bool
 |[]=>true
 |x::r=>p x&&allP p r
@[simp] theorem allP_nil{α:Type}(p:α→Bool):allP p []=true:=rfl
theorem allP_iff{α:Type}{p:α→Bool}{l:List α}:allP p l=true↔∀x∈l,p x=true:=by
 induction l with
 |nil=>simp
 |cons x r ih=>simp[allP,ih]
theorem set_next{α:Type}(a:List α)(x y:α)(b:List α)(k:Nat)(hk:a.length=k):(a++x::b).set k y=a++y::b:=by
 subst hk
 simp
abbrev Sp:=Int×Int
structure Sec where
 low:Int
 rows:List Sp
def eSc(s:Sec):List D:=[I s.low,.sl (s.rows.map eP)]
@[simp] theorem eSc_eq(s:Sec):eSc s=[I s.low,.sl (s.rows.map eP)]:=rfl
structure Slc where
 len:Int
 sec:Sec
def eSl(s:Slc):List D:=[I s.len,I s.sec.low,.sl (s.sec.rows.map eP)]
@[simp] theorem eSl_eq(s:Slc):eSl s=[I s.len,I s.sec.low,.sl (s.sec.rows.map eP)]:=rfl
structure Rd where
 x:Int
 y:Int
 ok:Bool
def eRd(r:Rd):List D:=[I r.x,I r.y,B r.ok]
@[simp] theorem eRd_eq(r:Rd):eRd r=[I r.x,I r.y,B r.ok]:=rfl
structure Rg where
 z:Int
 rd:List Rd
def eRg(g:Rg):List D:=[I g.z,.sl (g.rd.map eRd)]
@[simp] theorem eRg_eq(g:Rg):eRg g=[I g.z,.sl (g.rd.map eRd)]:=rfl
structure Bx where
 xa:Int
 xb:Int
 ya:Int
 yb:Int
 za:Int
 zb:Int
def eBx(b:Bx):List D:=[I b.xa,I b.xb,I b.ya,I b.yb,I b.za,I b.zb]
@[simp] theorem eBx_eq(b:Bx):eBx b=[I b.xa,I b.xb,I b.ya,I b.yb,I b.za,I b.zb]:=rfl
def rowIn(p:Sp):Bool:=decide (-600≤(if p.2<p.1 then p.2 else p.1))&&decide ((if p.1<p.2 then p.2 else p.1)≤600)
theorem rowIn_iff{p:Sp}:rowIn p=true↔(-600≤p.1∧p.1≤600)∧-600≤p.2∧p.2≤600:=by
 unfold rowIn
 simp only[Bool.and_eq_true,decide_eq_true_eq]
 split<;>split<;>omega
theorem secIn_run(p:Sp):F_section_inRange [.agg [I p.1,I p.2]]=some (B (rowIn p)):=by
 rw[F_section_inRange_eq]
 unfold rowIn
 simp
theorem secEmpty_run(a b:Int):F_section_isEmpty [.agg [I a,I b]]=some (B (decide (b≤a))):=by
 rw[F_section_isEmpty_eq]
 simp
theorem heights_run(a b:Int):F_section_heights [I a,I b]=some (.agg [I (IntKind.i64.wrap (10*a)),I (IntKind.i64.wrap (10*b))]):=by
 rw[F_section_heights_eq]
 simp
def rowOk(p:Sp):Bool:=!decide (p.2≤p.1)||(decide (p.1=0)&&decide (p.2=0))
theorem secCheck1_loop(s:Sec)(hl:s.rows.length≤1000000):∀(n i:Nat) (r:List Sp),s.rows.drop i=r→r.length<n→
  L_section_Check 7 n ⟨[(0,.any),(1,.ptr 1 0),(2,.any),(3,I s.rows.length),(5,.any),(7,.any),(24,.sl (s.rows.map eP)),(25,I s.rows.length),(26,I i),(54,.any),(55,.any),(56,.any)],[(1,.box 137 (eSc s))]⟩=
   if allP rowIn r=true then some (.ex 0,⟨[(0,.any),(1,.ptr 1 0),(2,.any),(3,I s.rows.length),(5,.any),(7,.any),(24,.any),(25,.any),(26,.any),(54,.any),(55,.any),(56,.any)],[(1,.box 137 (eSc s))]⟩)
   else some (.ret,⟨[(0,.any),(1,.any),(2,I 9),(3,.any),(5,.any),(7,.any),(24,.any),(25,.any),(26,.any),(54,.any),(55,.any),(56,.any)],[]⟩):=by
 refine lnd eP s.rows (by omega) _ ?_ ?_
 ·intro n i h
  rw[L_section_Check_succ,R_section_Check_eq]
  simp[h]
 ·intro n i x r h1 h3 hw _ ih
  rw[L_section_Check_succ,R_section_Check_eq]
  have hp:=secIn_run x
  simp at ih
  cases a:rowIn x
  ·simp[h1,h3,hp,a,allP]
  ·simp[h1,h3,hp,a,allP,hw,ih]
theorem secCheck2_loop(s:Sec)(hl:s.rows.length≤1000000):∀(n i:Nat) (r:List Sp),s.rows.drop i=r→r.length<n→
  L_section_Check 19 n ⟨[(0,.any),(1,.any),(2,.any),(3,.any),(5,.any),(7,.any),(24,.any),(25,.any),(26,.any),(54,.sl (s.rows.map eP)),(55,I s.rows.length),(56,I i)],[]⟩=
   if allP rowOk r=true then some (.ex 2,⟨[(0,.any),(1,.any),(2,.any),(3,.any),(5,.any),(7,.any),(24,.any),(25,.any),(26,.any),(54,.any),(55,.any),(56,.any)],[]⟩)
   else some (.ret,⟨[(0,.any),(1,.any),(2,I 19),(3,.any),(5,.any),(7,.any),(24,.any),(25,.any),(26,.any),(54,.any),(55,.any),(56,.any)],[]⟩):=by
 refine lnd eP s.rows (by omega) _ ?_ ?_
 ·intro n i h
  rw[L_section_Check_succ,R_section_Check_eq]
  simp[h]
 ·intro n i x r h1 h3 hw _ ih
  rw[L_section_Check_succ,R_section_Check_eq]
  obtain⟨u,v⟩:=x
  have hp:=secEmpty_run u v
  simp at ih h1
  by_cases a:v≤u
  ·by_cases b:u=0
   ·subst b
    by_cases c:v=0
    ·subst c
     simp[h1,h3,hp,allP,rowOk,hw,ih]
    ·simp[h1,h3,hp,a,allP,rowOk,c]
   ·simp[h1,h3,hp,a,allP,rowOk,b]
  ·simp[h1,h3,hp,a,allP,rowOk,hw,ih]
def emptyO:Option Sp→Bool
 |some p=>decide (p.2≤p.1)
 |none=>true
def secE(s:Sec):Int:=if 120<(s.rows.length:Int) then 4 else if s.low< -60 then 9 else if 60-(s.rows.length:Int)<s.low then 9 else if allP rowIn s.rows=false then 9 else
 if s.rows.length=0 then(if s.low=0 then 0 else 19) else if emptyO s.rows[0]? =true then 19 else if emptyO s.rows[s.rows.length-1]? =true then 19 else if allP rowOk s.rows=true then 0 else 19
theorem secE_zero{s:Sec}(h:secE s=0):s.rows.length≤120∧-60≤s.low∧s.low+s.rows.length≤60∧∀p∈s.rows,(-600≤p.1∧p.1≤600)∧-600≤p.2∧p.2≤600:=by
 unfold secE at h
 split at h
 ·cases h
 split at h
 ·cases h
 split at h
 ·cases h
 split at h
 ·cases h
 rename_i a1 a2 a3 a4
 refine⟨by omega,by omega,by omega,fun p hp=>rowIn_iff.1 (allP_iff.1 (by simpa using a4) p hp)⟩
theorem secCheck_run(s:Sec):F_section_Check [.agg (eSc s)]=some (I (secE s)):=by
 rw[F_section_Check_eq]
 unfold secE
 by_cases a1:120<(s.rows.length:Int)
 ·simp[a1]
 have w1:IntKind.i64.wrap (60-(s.rows.length:Int))=60-s.rows.length:=wrap64 (by omega) (by omega)
 by_cases a2:s.low< -60
 ·have:¬-60≤s.low:=by omega
  simp[a1,a2,this]
 have a2': -60≤s.low:=by omega
 by_cases a3:60-(s.rows.length:Int)<s.low
 ·simp[a1,a2,a2',w1,a3]
 have l1:=secCheck1_loop s (by omega) bigL 0 s.rows rfl (by have:=bigL_ge;omega)
 cases a4:allP rowIn s.rows
 ·simp[a4] at l1
  simp[a1,a2,a2',w1,a3,l1]
 simp[a4] at l1
 by_cases a5:s.rows.length=0
 ·have e0:s.rows=[]:=List.eq_nil_of_length_eq_zero a5
  by_cases a6:s.low=0
  ·simp[e0,a6] at l1
   simp[e0,l1,a6]
  ·simp[e0] at l1 a3
   simp[e0,l1,a6,a2,a2',a3]
 have hx:s.rows[0]? =some (s.rows[0]'(by omega)):=List.getElem?_eq_getElem (by omega)
 have hy:s.rows[s.rows.length-1]? =some (s.rows[s.rows.length-1]'(by omega)):=List.getElem?_eq_getElem (by omega)
 have hp:=wrapP (n:=s.rows.length) (by omega) (by omega)
 have l2:=secCheck2_loop s (by omega) bigL 0 s.rows rfl (by have:=bigL_ge;omega)
 simp only[hx,hy,emptyO]
 have k1:(s.rows.map eP)[0]? =some (eP (s.rows[0]'(by omega))):=by rw[List.getElem?_map,hx];rfl
 have k2:(s.rows.map eP)[s.rows.length-1]? =some (eP (s.rows[s.rows.length-1]'(by omega))):=by rw[List.getElem?_map,hy];rfl
 generalize s.rows[0]'(by omega)=x at*
 generalize s.rows[s.rows.length-1]'(by omega)=y at*
 have e1:=secEmpty_run x.1 x.2
 have e2:=secEmpty_run y.1 y.2
 have k4:((s.rows.length-1:Nat):Int)<s.rows.length:=by omega
 simp at l2
 by_cases b1:x.2≤x.1
 ·simp[a1,a2,a2',w1,a3,a4,a5,l1,hp,k1,k2,k4,e1,e2,b1]
 by_cases b2:y.2≤y.1
 ·simp[a1,a2,a2',w1,a3,a4,a5,l1,hp,k1,k2,k4,e1,e2,b1,b2]
 cases b3:allP rowOk s.rows
 ·simp[b3] at l2
  simp[a1,a2,a2',w1,a3,a4,a5,l1,hp,k1,k2,k4,e1,e2,b1,b2,l2,b3]
 ·simp[b3] at l2
  simp[a1,a2,a2',w1,a3,a4,a5,l1,hp,k1,k2,k4,e1,e2,b1,b2,l2,b3]
theorem secValid_run(s:Sec):F_section_valid [.agg (eSc s)]=some (.agg (if secE s=0 then eSc s else[I 0,.own true []])):=by
 rw[F_section_valid_eq]
 have h:=secCheck_run s
 by_cases a:secE s=0
 ·simp at h
  simp[h,a]
 ·simp at h
  simp[h,a]
end Go.Proofs.YtbdgblipbpadeaaGreatDoor
