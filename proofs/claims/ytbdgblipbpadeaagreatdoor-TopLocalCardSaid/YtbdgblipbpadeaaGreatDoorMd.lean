/-
  Functions of the library that work on one row in place, as contracts: slices.Sort, slices.Compact at strings and at numbers.
-/
import Derived.Test.YtbdgblipbpadeaaGreatDoorMc
import Derived.Sort.OwnSorted
import Derived.Sort.EncStr
import Derived.Lib.OwnBridge
import Derived.Lib.RowBridge
import Derived.Defers
import Derived.RangeFuncNested
import Derived.RangeFuncLeaves
import Derived.RangeFuncRecord
import Derived.Deep.LoopGhost
set_option linter.unusedSimpArgs false
set_option linter.unusedVariables false
set_option linter.defProp false
namespace Go.Abs
open Go Go.RowKit
def eV(v:Value):List D:=[.x v]
theorem cells_of_row{w:World}{B:Nat}{ι:Inj}{v:Value}{e:TypeId}{fl:Bool}{vals:List Value}(h:ObjRel w B ι v (.row e 1 fl (vals.map eV))):w.ownsRow 0 e 1 v vals.length vals∧(∀b,blk v=some b→wrB B ι b)∧∀c∈vals,c.oneCell'=true:=by
 obtain⟨xs,_,⟨h1,h2⟩,_,h4,h5,_⟩:=h
 have e1:xs=vals:=by
  apply List.ext_getElem?
  intro i
  have hl:xs.length=vals.length:=by have:=h1.1;simpa using this
  by_cases hi:i<vals.length
  ·have hx:xs[i]? =some (xs[i]'(by omega)):=List.getElem?_eq_getElem (by omega)
   have:=h4 i (eV vals[i]) 0 (.x vals[i]) (xs[i]'(by omega)) (by simp[hi]) rfl (by rw[Nat.mul_one,Nat.add_zero];exact hx)
   rw[hx,List.getElem?_eq_getElem hi]
   generalize xs[i]'(by omega)=u at this
   cases this
   rfl
  ·rw[List.getElem?_eq_none (by omega),List.getElem?_eq_none (by omega)]
 subst e1
 exact⟨by simpa using h1,h2,h5⟩
theorem row_of_cells{w:World}{B:Nat}{ι:Inj}{v:Value}{e:TypeId}{fl:Bool}{vals:List Value}(h1:w.ownsRow 0 e 1 v vals.length vals)(h2:∀b,blk v=some b→wrB B ι b)(h3:∀c∈vals,c.oneCell'=true):ObjRel w B ι v (.row e 1 fl (vals.map eV)):=by
 refine⟨vals,by omega,⟨by simpa using h1,h2⟩,by simp[eV],fun i x j d c hx hd hc=>?_,h3, ?_, ?_⟩
 ·rw[List.getElem?_map] at hx
  simp only[Option.map_eq_some_iff] at hx
  obtain⟨u,hu,rfl⟩:=hx
  cases j with
  |zero=>
   simp[eV] at hd
   subst hd
   rw[Nat.mul_one,Nat.add_zero,hu] at hc
   cases hc
   exact .x _
  |succ j=>simp[eV] at hd
 ·intro x hx d hd
  simp only[List.mem_map] at hx
  obtain⟨u,_,rfl⟩:=hx
  simp[eV] at hd
  subst hd
  rfl
 ·intro _ x hx d hd
  simp only[List.mem_map] at hx
  obtain⟨u,_,rfl⟩:=hx
  simp[eV] at hd
  exact⟨u,hd⟩
section
variable {P:Program}{G:Nat→Option (List D)}{f:FuncId}
theorem rowE_same(hent:∀(args:Array Value) (w:World),(callFunc f args).run P w= .ok (.enter f args) w){e:TypeId}{fl:Bool}{vals vals':List Value}(h1':(∀c∈vals,c.oneCell'=true)→∀c∈vals',c.oneCell'=true)
  (hrun:∀(w:World) (v:Value),w.ownsRow 0 e 1 v vals.length vals→Calls P f #[v] w fun en w'=>en= .returned (.tuple #[])∧w.grownBy w' (blk v)∧w'.ownsRow 0 e 1 v vals'.length vals'):
  ContractE P G f [(1000,.row e 1 fl (vals.map eV))] [.row 1000] (.tup []) [(1000,.row e 1 fl (vals'.map eV))]:=by
 refine⟨hent,fun w ι args hobjs hglob hargs=>?_⟩
 obtain⟨v,hv,hobj⟩:=hobjs.obj 1000 _ rfl
 obtain⟨g1,g2,g3⟩:=cells_of_row hobj
 have ha:args= #[v]:=by
  obtain⟨hl,hc⟩:=hargs
  match args,hl with
  |⟨[u]⟩,_=>
   have:=(row_inv (hc 0 u _ rfl rfl)).1
   rw[hv] at this
   cases this
   rfl
 subst ha
 refine(hrun w v g1).mono ?_
 rintro en w' ⟨he,hg,ho⟩
 refine⟨_,ι,he,(BelowZ.refl _ _ w).grown hg (Nat.le_refl _) (fun k hk=>g2 k hk),rfl,rfl,⟨fun id o ho'=>?_,fun id u hu=>?_,hobjs.inj,hobjs.fresh⟩,.inr (.inr ⟨_,rfl,#[],rfl,rfl,fun i c d h=>by simp at h⟩),fun id u hu _ _=> .inr hu⟩
 ·simp only[getH] at ho'
  split at ho'
  ·rename_i e;subst e;cases ho'
   exact⟨v,hv,row_of_cells ho g2 (h1' g3)⟩
  ·cases ho'
 ·obtain⟨o,ho'⟩:=hobjs.dom id u hu
  simp only[getH] at ho'⊢
  split at ho'
  ·rename_i e;subst e;exact⟨_,if_pos rfl⟩
  ·cases ho'
theorem rowE_back(hent:∀(args:Array Value) (w:World),(callFunc f args).run P w= .ok (.enter f args) w){e:TypeId}{fl:Bool}{vals vals':List Value}(h1':(∀c∈vals,c.oneCell'=true)→∀c∈vals',c.oneCell'=true)
  (hrun:∀(w:World) (v:Value),w.ownsRow 0 e 1 v vals.length vals→Calls P f #[v] w fun en w'=>∃v',en= .returned v'∧w.grownBy w' (blk v)∧w'.ownsRow 0 e 1 v' vals'.length vals'∧blk v'=blk v):
  ContractE P G f [(1000,.row e 1 fl (vals.map eV))] [.row 1000] (.row 0) [(0,.row e 1 fl (vals'.map eV))]:=by
 refine⟨hent,fun w ι args hobjs hglob hargs=>?_⟩
 obtain⟨v,hv,hobj⟩:=hobjs.obj 1000 _ rfl
 obtain⟨g1,g2,g3⟩:=cells_of_row hobj
 have ha:args= #[v]:=by
  obtain⟨hl,hc⟩:=hargs
  match args,hl with
  |⟨[u]⟩,_=>
   have:=(row_inv (hc 0 u _ rfl rfl)).1
   rw[hv] at this
   cases this
   rfl
 subst ha
 refine(hrun w v g1).mono ?_
 rintro en w' ⟨v',he,hg,ho,hb⟩
 refine⟨v',⟨fun k=>if k=0 then some v' else none,ι.K,ι.Z⟩,he,(BelowZ.refl _ _ w).grown hg (Nat.le_refl _) (fun k hk=>g2 k hk),rfl,rfl,⟨fun id o ho'=>?_,fun id u hu=>?_,fun id id' u u' b h1 h2 _ _=>?_,hobjs.fresh⟩,.inl (.inr ⟨by simp, ?_⟩),fun id u hu h1 _=> .inl ?_⟩
 ·simp only[getH] at ho'
  split at ho'
  ·rename_i e;subst e;cases ho'
   exact⟨v',by simp,row_of_cells ho (fun b hb'=>g2 b (by rw[←hb];exact hb')) (h1' g3)⟩
  ·cases ho'
 ·simp only[] at hu
  split at hu
  ·rename_i e;subst e;exact⟨_,if_pos rfl⟩
  ·cases hu
 ·simp only[] at h1 h2
  split at h1
  ·split at h2
   ·omega
   ·cases h2
  ·cases h1
 ·rcases ho.2 with⟨rfl,_⟩|⟨g,cap,cur,rfl,_⟩<;>exact⟨_,_,_,rfl⟩
 ·simp only[]
  rw[if_neg (by omega)]
end
def eS(s:ByteArray):List D:=[.x (.string s)]
@[simp] theorem eS_eq(s:ByteArray):eS s=[.x (.string s)]:=rfl
def strsOf:List (List D)→Option (List ByteArray)
 |[]=>some []
 |[.x (.string s)]::r=>match strsOf r with
  |some l=>some (s::l)
  |none=>none
 |_=>none
def bytesL(s:ByteArray):List UInt8:=s.data.toList
def ofBytesL(l:List UInt8):ByteArray:=⟨l.toArray⟩
@[simp] theorem ofBytesL_bytesL(s:ByteArray):ofBytesL (bytesL s)=s:=rfl
@[simp] theorem bytesL_ofBytesL(l:List UInt8):bytesL (ofBytesL l)=l:=rfl
def sortS(l:List ByteArray):List ByteArray:=((l.map bytesL).mergeSort (fun x y=>decide (x≤y))).map ofBytesL
noncomputable def E_sortS(hs:List (Nat×O))(ds:List D):Option (D×List (Nat×O)):=match hs,ds with
 |[(1000,.row e 1 fl es)],[.row 1000]=>match strsOf es with
  |some l=>if l.length<4611686018427387904 then some (.tup [],[(1000,.row e 1 fl ((sortS l).map eS))]) else none
  |none=>none
 |_,_=>none
open Go.Proofs Go.Sort in
theorem holds_own{α:Type}{enc:α→Value}[Inhabited α]{w:World}{e:TypeId}{g n cap:Nat}{zs:List α}(h:w.ownsRow 0 e 1 (.slice (some ⟨g,0,none⟩) n cap) n (zs.map enc)):Holds enc w g 0 zs.toArray:=by
 rcases h.2 with⟨e0,_⟩|⟨g',cap',cur,e0,hb,hg,hn,hm,hs,ht⟩
 ·cases e0
 ·injection e0 with e1 _ e3
  injection e1 with e1
  injection e1 with e1
  subst e1 e3
  have hl:zs.length=n:=by have:=h.1;simpa using this
  intro j hj
  simp only[List.size_toArray] at hj
  have hc:=h.cells (g:=g) rfl j (enc zs[j]) (by simp[hj])
  rw[Addr.add_lit] at hc
  refine⟨by rw[hc];simp[hj], ?_⟩
  simp[World.frozen?,hg]
section
variable {P:Program}{G:Nat→Option (List D)}{f:FuncId}
open Go.Proofs Go.Sort
end
end Go.Abs
namespace Go.Abs
open Go Go.RowKit
def eJ(n:Int):List D:=[.x (.int .i64 n)]
@[simp] theorem eJ_eq(n:Int):eJ n=[.x (.int .i64 n)]:=rfl
def intsOf:List (List D)→Option (List Int)
 |[]=>some []
 |[.x (.int .i64 s)]::r=>match intsOf r with
  |some l=>some (s::l)
  |none=>none
 |_=>none
@[simp] theorem intsOf_map(l:List Int):intsOf (l.map eJ)=some l:=by
 induction l with
 |nil=>rfl
 |cons s r ih=>simp[intsOf,eJ] at ih⊢;simp[ih]
theorem intsOf_some:∀{es:List (List D)} {l:List Int},intsOf es=some l→es=l.map eJ
 |[],l,h=>by cases h;rfl
 |x::r,l,h=>by
  unfold intsOf at h
  split at h
  ·rename_i e;cases e
  ·rename_i s r' e
   cases e
   split at h
   ·rename_i l' hl
    cases h
    rw[intsOf_some hl]
    rfl
   ·cases h
  ·cases h
def sortI(l:List Int):List Int:=l.mergeSort (fun x y=>decide (x≤y))
def compactI(l:List Int):List Int:=Lib.compact l
theorem sortI_length(l:List Int):(sortI l).length=l.length:=by simp[sortI]
theorem compactI_length(l:List Int):(compactI l).length≤l.length:=Lib.compact_length_le l
noncomputable def E_sortI(hs:List (Nat×O))(ds:List D):Option (D×List (Nat×O)):=match hs,ds with
 |[(1000,.row e 1 fl es)],[.row 1000]=>match intsOf es with
  |some l=>if l.length<4611686018427387904 then some (.tup [],[(1000,.row e 1 fl ((sortI l).map eJ))]) else none
  |none=>none
 |_,_=>none
noncomputable def E_compactI(hs:List (Nat×O))(ds:List D):Option (D×List (Nat×O)):=match hs,ds with
 |[(1000,.row e 1 fl es)],[.row 1000]=>match intsOf es with
  |some l=>if l.length<4611686018427387904 then some (.row 0,[(0,.row e 1 fl ((compactI l).map eJ))]) else none
  |none=>none
 |_,_=>none
theorem E_sortI_eq(e:TypeId)(fl:Bool)(l:List Int)(h:l.length<4611686018427387904):E_sortI [(1000,.row e 1 fl (l.map eJ))] [.row 1000]=some (.tup [],[(1000,.row e 1 fl ((sortI l).map eJ))]):=by
 simp only[E_sortI,intsOf_map,h,if_true]
theorem E_compactI_eq(e:TypeId)(fl:Bool)(l:List Int)(h:l.length<4611686018427387904):E_compactI [(1000,.row e 1 fl (l.map eJ))] [.row 1000]=some (.row 0,[(0,.row e 1 fl ((compactI l).map eJ))]):=by
 simp only[E_compactI,intsOf_map,h,if_true]
section
variable {P:Program}{G:Nat→Option (List D)}{f:FuncId}
open Go.Proofs Go.Sort
theorem CE_sortI_of(hent:∀(args:Array Value) (w:World),(callFunc f args).run P w= .ok (.enter f args) w)
  (hsort:∀(blk off cap:Nat) (ss:List Int) (w:World),Holds (Value.int .i64) w blk off ss.toArray→blk<w.heap.size→ss.length<4611686018427387904→
   Calls P f #[.slice (some ⟨blk,off,none⟩) ss.length cap] w fun e w'=>e= .returned (.tuple #[])∧∃n os,w'=grow (putRow (Value.int .i64) (Sort.ahead w n) blk off (ss.mergeSort fun x y=>decide (x≤y)).toArray) os)
  (hnone:∀(p:Option Addr) (cap:Nat) (w:World),Calls P f #[.slice p 0 cap] w fun e w'=>e= .returned (.tuple #[])∧w'=w)
  (hs:List (Nat×O))(ds:List D)(r:D)(hs':List (Nat×O))(h:E_sortI hs ds=some (r,hs')):ContractE P G f hs ds r hs':=by
 unfold E_sortI at h
 split at h
 ·rename_i e fl es
  split at h
  ·rename_i l hl
   split at h
   ·rename_i hlen
    cases h
    rw[intsOf_some hl]
    have e1:∀l:List Int,l.map eJ=(l.map (Value.int .i64)).map eV:=fun l=>by simp[eV,Function.comp_def]
    rw[e1,e1]
    refine rowE_same hent (fun _ c hc=>by simp only[List.mem_map] at hc;obtain⟨s,_,rfl⟩:=hc;rfl) (fun w v ho=>?_)
    rcases ho.2 with⟨rfl,h0⟩|⟨g,cap,cur,rfl,hb,hg,hn,hm,hcs,ht⟩
    ·refine(hnone none 0 w).mono ?_
     rintro en w' ⟨he,rfl⟩
     have:l=[]:=List.eq_nil_of_length_eq_zero (by simpa using h0)
     subst this
     exact⟨he,World.grownBy.refl _ _,by simpa[sortI] using ho⟩
    ·simp only[List.length_map] at ho hn⊢
     have hH:=holds_own ho
     have hlt:=(Array.getElem?_eq_some_iff.1 hg).1
     have:=hsort g 0 cap l w hH hlt hlen
     refine this.mono ?_
     rintro en w' ⟨he,n,os,rfl⟩
     refine⟨he,⟨rfl,rfl,rfl,by simp[grow,putRow,mapBlock,Sort.ahead],fun k hk' hne=>?_⟩, ?_⟩
     ·have hk2:g≠k:=fun e=>hne (by rw[e];rfl)
      rw[heap_grow_old _ _ (by simpa[putRow,mapBlock,Sort.ahead] using hk')]
      simp[putRow,mapBlock,Sort.ahead,Array.getElem?_modify,hk2]
     ·rw[sortI_length]
      have h2:=Lib.ownsRow_putRow (q:=n) (k:=l.length) (ys:=l.mergeSort (fun x y=>decide (x≤y))) ho (by simp) (Nat.le_refl _)
      have h3:(l.mergeSort (fun x y=>decide (x≤y))).take l.length=sortI l:=by
       rw[List.take_of_length_le (by simp)]
       rfl
      rw[h3] at h2
      exact ownsRow_ext h2 ⟨rfl,rfl,rfl,by simp[grow],fun k hk=>heap_grow_old _ _ hk⟩
   ·cases h
  ·cases h
 ·cases h
theorem CE_compactI_of(hent:∀(args:Array Value) (w:World),(callFunc f args).run P w= .ok (.enter f args) w)
  (hcomp:∀(blk off cap:Nat) (zs:List Int) (w:World),Holds (Value.int .i64) w blk off zs.toArray→zs.length≤9223372036854775807→zs.length≤cap→
   Calls P f #[.slice (some ⟨blk,off,none⟩) zs.length cap] w fun e w'=>e= .returned (.slice (some ⟨blk,off,none⟩) (Lib.compact zs).length cap)∧∃q,w'=putRow (Value.int .i64) (Sort.ahead w q) blk off (Lib.compact zs++List.replicate (zs.length-(Lib.compact zs).length) 0).toArray)
  (hnone:∀(a:Option Addr) (cap:Nat) (w:World),Calls P f #[.slice a 0 cap] w fun e w'=>e= .returned (.slice a 0 cap)∧w'=w)
  (hs:List (Nat×O))(ds:List D)(r:D)(hs':List (Nat×O))(h:E_compactI hs ds=some (r,hs')):ContractE P G f hs ds r hs':=by
 unfold E_compactI at h
 split at h
 ·rename_i e fl es
  split at h
  ·rename_i l hl
   split at h
   ·rename_i hlen
    cases h
    rw[intsOf_some hl]
    have e1:∀l:List Int,l.map eJ=(l.map (Value.int .i64)).map eV:=fun l=>by simp[eV,Function.comp_def]
    rw[e1,e1]
    refine rowE_back hent (fun _ c hc=>by simp only[List.mem_map] at hc;obtain⟨s,_,rfl⟩:=hc;rfl) (fun w v ho=>?_)
    rcases ho.2 with⟨rfl,h0⟩|⟨g,cap,cur,rfl,hb,hg,hn,hm,hcs,ht⟩
    ·refine(hnone none 0 w).mono ?_
     rintro en w' ⟨he,rfl⟩
     have:l=[]:=List.eq_nil_of_length_eq_zero (by simpa using h0)
     subst this
     exact⟨_,he,World.grownBy.refl _ _,by simpa[compactI,Lib.compact,Lib.compactUpTo] using ho,rfl⟩
    ·simp only[List.length_map] at ho hn⊢
     have hH:=holds_own ho
     have hle:=Lib.compact_length_le l
     have:=hcomp g 0 cap l w hH (by omega) hn
     refine this.mono ?_
     rintro en w' ⟨he,q,rfl⟩
     have hk:(Lib.compact l).length≤l.length:=hle
     refine⟨_,he,⟨rfl,rfl,rfl,by simp[putRow,mapBlock,Sort.ahead],fun k hk' hne=>?_⟩, ?_,rfl⟩
     ·have:g≠k:=fun e=>hne (by rw[e];rfl)
      simp[putRow,mapBlock,Sort.ahead,Array.getElem?_modify,this]
     ·have:=Lib.ownsRow_putRow (q:=q) (k:=(Lib.compact l).length) (ys:=Lib.compact l++List.replicate (l.length-(Lib.compact l).length) 0) ho (by simp;omega) hk
      rw[List.take_left] at this
      simpa[compactI] using this
   ·cases h
  ·cases h
 ·cases h
end
end Go.Abs
namespace Go.Abs
open Go Go.RowKit
abbrev Pnt:=Int×Int
def ePt(p:Pnt):List D:=[.x (.int .i64 p.1),.x (.int .i64 p.2)]
@[simp] theorem ePt_eq(p:Pnt):ePt p=[.x (.int .i64 p.1),.x (.int .i64 p.2)]:=rfl
def ptsOf:List (List D)→Option (List Pnt)
 |[]=>some []
 |[.x (.int .i64 s),.x (.int .i64 t)]::r=>match ptsOf r with
  |some l=>some ((s,t)::l)
  |none=>none
 |_=>none
@[simp] theorem ptsOf_map(l:List Pnt):ptsOf (l.map ePt)=some l:=by
 induction l with
 |nil=>rfl
 |cons s r ih=>simp[ptsOf,ePt] at ih⊢;simp[ih]
theorem ptsOf_some:∀{es:List (List D)} {l:List Pnt},ptsOf es=some l→es=l.map ePt
 |[],l,h=>by cases h;rfl
 |x::r,l,h=>by
  unfold ptsOf at h
  split at h
  ·rename_i e;cases e
  ·rename_i s t r' e
   cases e
   split at h
   ·rename_i l' hl
    cases h
    rw[ptsOf_some hl]
    rfl
   ·cases h
  ·cases h
def ptLt(a b:Pnt):Bool:=decide (a.1<b.1∨a.1=b.1∧a.2<b.2)
def sortP(l:List Pnt):List Pnt:=l.mergeSort fun x y=>!ptLt y x
@[simp] theorem sortP_length(l:List Pnt):(sortP l).length=l.length:=by unfold sortP;exact(List.mergeSort_perm _ _).length_eq
def compactP(l:List Pnt):List Pnt:=Lib.compact l
theorem compactP_length(l:List Pnt):(compactP l).length≤l.length:=Lib.compact_length_le l
noncomputable def E_compactPt(hs:List (Nat×O))(ds:List D):Option (D×List (Nat×O)):=match hs,ds with
 |[(1000,.row e 2 fl es)],[.row 1000]=>match ptsOf es with
  |some l=>if l.length<4611686018427387904 then some (.row 0,[(0,.row e 2 fl ((compactP l).map ePt))]) else none
  |none=>none
 |_,_=>none
theorem E_compactPt_eq(e:TypeId)(fl:Bool)(l:List Pnt)(h:l.length<4611686018427387904):E_compactPt [(1000,.row e 2 fl (l.map ePt))] [.row 1000]=some (.row 0,[(0,.row e 2 fl ((compactP l).map ePt))]):=by
 simp only[E_compactPt,ptsOf_map,h,if_true]
end Go.Abs
namespace Go.Abs
open Go
def piD(π:Nat→Nat):D→D
 | .ptr id off=> .ptr (π id) off
 | .row id=> .row (π id)
 | .rel id sz i off=> .rel (π id) sz i off
 | .bsl id off n sz=> .bsl (π id) off n sz
 | .clo f ids=> .clo f (ids.map π)
 | .mp id=> .mp (π id)
 |d=>d
def piO(π:Nat→Nat):O→O
 | .box ty cs=> .box ty (cs.map (piD π))
 |o=>o
def piI(π:Nat→Nat)(ι:Inj):Inj:=⟨fun id=>ι (π id),ι.K,ι.Z⟩
section
variable {π:Nat→Nat}(hπ:∀k,π (π k)=k)
include hπ
theorem okB_pi(ι:Inj):okB (piI π ι)=okB ι:=by
 funext b
 apply propext
 constructor
 ·rintro⟨h1,h2⟩
  exact⟨h1,fun id v hv=>h2 (π id) v (by show ι (π (π id))=some v;rw[hπ];exact hv)⟩
 ·rintro⟨h1,h2⟩
  exact⟨h1,fun id v hv=>h2 (π id) v hv⟩
theorem frB_pi(B:Nat)(ι:Inj):frB B (piI π ι)=frB B ι:=by
 funext b
 unfold frB
 rw[okB_pi hπ]
 rfl
theorem Ref.pi{ι:Inj}{v:Value}{d:D}(h:Ref ι v d):Ref (piI π ι) v (piD π d):=by
 have e:∀id,(piI π ι) (π id)=ι id:=fun id=>by show ι (π (π id))=ι id;rw[hπ]
 cases d with
 |ptr id off=>obtain⟨b,h1,h2⟩:=h;exact⟨b,by rw[e];exact h1,h2⟩
 |row id=>exact⟨by rw[e];exact h.1,h.2⟩
 |rel id sz i off=>obtain⟨b,n,c,h1,h2⟩:=h;exact⟨b,n,c,by rw[e];exact h1,h2⟩
 |bsl id off n sz=>obtain⟨b,c,h1,h2⟩:=h;exact⟨b,c,by rw[e];exact h1,h2⟩
 |clo f ids=>
  obtain⟨cap,h1,h2,h3⟩:=h
  refine⟨cap,h1,by simpa using h2,fun i c id hc hi=>?_⟩
  simp only[List.getElem?_map,Option.map_eq_some_iff] at hi
  obtain⟨id',hi,rfl⟩:=hi
  rw[e]
  exact h3 i c id' hc hi
 |mp id=>exact⟨by rw[e];exact h.1,h.2⟩
 |_=>exact h.elim
theorem Rep1.pi{w:World}{B:Nat}{ι:Inj}{v:Value}{d:D}(h:Rep1 w B ι v d):Rep1 w B (piI π ι) v (piD π d):=by
 rcases h with h|h
 ·left
  rw[okB_pi hπ,frB_pi hπ]
  have e:piD π d=d:=by cases h<;>rfl
  rw[e]
  exact h
 ·exact .inr (h.pi hπ)
theorem Rep.pi{w:World}{B:Nat}{ι:Inj}{v:Value}{d:D}(h:Rep w B ι v d):Rep w B (piI π ι) v (Abs.mapT (piD π) d):=
 h.mapT (fun v d h _=>Rep1.pi hπ h) (fun v cs h=>Rep1.pi hπ (.inl h))
theorem ObjRel.pi{w:World}{B:Nat}{ι:Inj}{v:Value}{o:O}(h:ObjRel w B ι v o):ObjRel w B (piI π ι) v (piO π o):=by
 cases o with
 |box ty cs=>
  obtain⟨b,cur,h1,h2,h3,h4,h5⟩:=h
  refine⟨b,cur,h1,h2,h3,by simpa using h4,fun j c d hc hd=>?_⟩
  simp only[List.getElem?_map,Option.map_eq_some_iff] at hd
  obtain⟨d',hd,rfl⟩:=hd
  exact⟨(h5 j c d' hc hd).1.pi hπ,(h5 j c d' hc hd).2⟩
 |row ety sz fl es=>
  obtain⟨xs,h1,h2,h3,h4,h5⟩:=h
  refine⟨xs,h1,h2,h3, ?_,h5⟩
  rw[okB_pi hπ,frB_pi hπ]
  exact h4
 |mp es=>exact h
theorem Rel.pi{N B:Nat}{w0:Bs}{ι:Inj}{ρ:Nat→D}{η:Nat→Option O}{a:Act}{w:World}(h:Rel N B w0 ι ρ η a w):
  Rel N B {w0 with f:=(piI π ι).f} (piI π ι) (fun t=>mapT (piD π) (ρ t)) (fun id=>(η (π id)).map (piO π)) a w where
 defers:=h.defers
 size:=h.size
 tmp:=fun t=>(h.tmp t).pi hπ
 obj:=fun id o ho=>by
  simp only[Option.map_eq_some_iff] at ho
  obtain⟨o',ho,rfl⟩:=ho
  obtain⟨v,hv,hr⟩:=h.obj _ _ ho
  exact⟨v,hv,hr.pi hπ⟩
 dom:=fun id v hv=>by
  obtain⟨o,ho⟩:=h.dom (π id) v hv
  exact⟨_,by rw[ho];rfl⟩
 inj:=fun id id' v v' b h1 h2 h3 h4=>by
  have:=h.inj (π id) (π id') v v' b h1 h2 h3 h4
  have:=congrArg π this
  rwa[hπ,hπ] at this
 below:=h.below
 base:=h.base
 fresh:=h.fresh
 kk:=h.kk
 zz:=h.zz
 k0:=fun id v hv _ _=> .inr hv
 nn:=h.nn
 glob:=by
  rw[okB_pi hπ,frB_pi hπ]
  exact h.glob
end
def stPi(π:Nat→Nat)(s:St):St:=⟨s.t.map fun p=>(p.1,mapT (piD π) p.2),s.h.map fun p=>(π p.1,piO π p.2)⟩
theorem getT_pi(π:Nat→Nat):∀(l:List (Nat×D)) (t:Nat),getT (l.map fun p=>(p.1,mapT (piD π) p.2)) t=mapT (piD π) (getT l t)
 |[],t=>rfl
 |(k,d)::r,t=>by
  simp only[List.map_cons,getT]
  split
  ·rfl
  ·exact getT_pi π r t
theorem getH_pi{π:Nat→Nat}(hπ:∀k,π (π k)=k):∀(l:List (Nat×O)) (k:Nat),getH (l.map fun p=>(π p.1,piO π p.2)) k=(getH l (π k)).map (piO π)
 |[],t=>rfl
 |(k,d)::r,t=>by
  simp only[List.map_cons,getH]
  by_cases h:k=π t
  ·rw[if_pos (by rw[h,hπ]),if_pos h];rfl
  ·rw[if_neg (fun e=>h (by rw[←e,hπ])),if_neg h]
   exact getH_pi hπ r t
theorem Rel.stPi{π:Nat→Nat}(hπ:∀k,π (π k)=k){N B:Nat}{w0:Bs}{ι:Inj}{s:St}{a:Act}{w:World}(h:Rel N B w0 ι (getT s.t) (getH s.h) a w):
  Rel N B {w0 with f:=(piI π ι).f} (piI π ι) (getT (stPi π s).t) (getH (stPi π s).h) a w:=by
 have:=h.pi hπ
 have e1:getT (Abs.stPi π s).t=fun t=>mapT (piD π) (getT s.t t):=funext fun t=>getT_pi π s.t t
 have e2:getH (Abs.stPi π s).h=fun id=>(getH s.h (π id)).map (piO π):=funext fun id=>getH_pi hπ s.h id
 rw[e1,e2]
 exact this
theorem Rel.df{N B:Nat}{w0:Bs}{ι:Inj}{ρ:Nat→D}{η:Nat→Option O}{a:Act}{w:World}(h:Rel N B w0 ι ρ η a w)(ds:List Deferred):
 Rel N B {w0 with Df:=ds} ι ρ η {a with defers:=ds} w:={h with defers:=rfl}
def ContractD(P:Program)(G:Nat→Option (List D))(g:FuncId)(hs:List (Nat×O))(ds:List D)(r:D)(hs':List (Nat×O)):Prop:=
 (∀(args:Array Value) (w:World),(callFunc g args).run P w= .ok (.enter g args) w)∧
 ∀(w:World) (ι:Inj) (args:Array Value),Objs w w.heap.size ι hs→Globs G w (okB ι) (frB w.heap.size ι)→CellsRel (Rep w w.heap.size ι) args ds→
  ∀u,CallsD P g args u w fun e u' w'=>u'=u∧EPost w ι r hs' e w'
section
variable {P:Program}{call:CT}{an:Ann}
theorem contractDE_of(hmix:P.follows .mixedOrders=true){f:FuncId}{fn:Func}{body:Code}(hf:P.funcs[f]? =some fn)(hb:fn.body=some body)(hname:(fn.name== "runtime.NumGoroutine")=false)(hok:okCode an body=true)
  (hN:fn.ntmps≤1000)(hcall:CTok P call){hs:List (Nat×O)}{ds:List D}{r:D}{hs':List (Nat×O)}(h:runE P call an fn.ntmps body fn.results.toList hs ds=some (r,hs')):ContractD P call.g f hs ds r hs':=by
 refine⟨fun args w=>?_,fun w ι args hobjs hglob hargs u=>callsD_of_wp hf hb (wpE_of hmix hok hN hcall h w ι args hobjs hglob hargs)⟩
 have hn:¬fn.name= "runtime.NumGoroutine" :=by simpa using hname
 simp[callFunc,hf,hn,hb]
theorem Rep.clo_inv{w:World}{B:Nat}{ι:Inj}{v:Value}{g:FuncId}{ids:List Nat}(h:Rep w B ι v (.clo g ids)):Ref ι v (.clo g ids):=by
 rcases h with h|⟨_,h,_⟩|⟨_,h,_⟩
 ·rcases h with h|h
  ·cases h
  ·exact h
 ·cases h
 ·cases h
theorem contractD_of(hmix:P.follows .mixedOrders=true){f:FuncId}{fn:Func}{A0 A1 A2 rest:Code}{rid:Nat}{ops:Array Oper}{o1 o2:Oper}{c:Go.Call}{tc:Nat}{g:FuncId}{ids:List Nat}{π:Nat→Nat}{E:ED}
  (hf:P.funcs[f]? =some fn)(hb:fn.body=some (.seq A0 (.seq A1 (.seq A2 (.seq (.region rid ops false) rest)))))(hname:(fn.name== "runtime.NumGoroutine")=false)
  (k0:okCode an A0=true)(k1:okCode an A1=true)(k2:okCode an A2=true)(k4:okCode an rest=true)
  (hN:fn.ntmps≤1000)(hcall:CTok P call)(hπ:∀k,π (π k)=k)
  (hops:ops.toList=[o1,o2])(hop:o2.op= .defer c)(hc:c.callee= .value (.tmp tc))(hca:c.args= #[])(hdst:o2.dst=none)(hgd:o2.guard=none)
  (hgc:∀(args:Array Value) (w:World),(callFunc g args).run P w= .ok (.enter g args) w)(hE:∀hs ds r hs',E hs ds=some (r,hs')→ContractD P call.g g hs ds r hs')
  {ds:List D}{r:D}{s1 s2 s3 s4 s5 s6:St}(hle:ds.length≤fn.ntmps)
  (h0:runC P call an fn.ntmps A0 (init an ds)=some (.norm,s1))(h1:runC P call an fn.ntmps A1 s1=some (.norm,s2))(h2:runC P call an fn.ntmps A2 s2=some (.norm,s3))
  (h3:stepG P call an fn.ntmps ops s3 o1=some s4)(ht:getT s4.t tc= .clo g ids)(h4:runC P call an fn.ntmps rest (stPi π s4)=some (.ret,s5))
  (hlive:∀i∈ids,1000≤π i∧π i<10000∧∃o,getH s5.h (π i)=some o)
  (h5:ecall ⟨call.p,fun _=>E,call.g⟩ s5 none g (ids.map fun i=> .ptr (π i) 0)=some s6)(h6:resultD P s6 fn.results.toList=some r):Contract P call.g f ds r:=by
 refine⟨fun args w=>?_,fun w ok args hglob hargs=>?_⟩
 ·have hn:¬fn.name= "runtime.NumGoroutine" :=by simpa using hname
  simp[callFunc,hf,hn,hb]
 refine calls_of_wp_defers hf hb ?_
 have imm:∀{v:Value} {d:D},RepI w ok (fun _=>False) v d→RepI w (okB ⟨fun _=>none,fun b=>ok b∨w.heap.size≤b,fun _=>False⟩) (frB w.heap.size ⟨fun _=>none,fun b=>ok b∨w.heap.size≤b,fun _=>False⟩) v d:=
  fun hr=>hr.mono (Nat.le_refl _) (fun b _ ho=>⟨⟨.inl ho,(fun id v hv=>nomatch hv)⟩,rfl⟩) (fun b _ ho=>ho.elim)
 have hrel:SRel fn.ntmps w.heap.size ⟨w,fun b=>ok b∨w.heap.size≤b,fun _=>False,fun _=>none,call.g,[]⟩ (init an ds) {tmps:=args++Array.replicate (fn.ntmps-args.size) undef,defers:=[]} w:=by
  refine⟨⟨fun _=>none,fun b=>ok b∨w.heap.size≤b,fun _=>False⟩,{
   defers:=rfl
   size:=by have:=hargs.1;simp;omega
   tmp:=fun t=>?_
   obj:=(fun id o ho=>nomatch ho)
   dom:=(fun id v hv=>nomatch hv)
   inj:=(fun id id' v v' b hv=>nomatch hv)
   below:=BelowZ.refl _ _ _
   base:=Nat.le_refl _
   fresh:=fun b hb=> .inr (hb.elim id (fun h=>h.elim))
   kk:=rfl
   zz:=rfl
   k0:=(fun id v hv=>nomatch hv)
   nn:=hN
   glob:=fun g cs hg=>(hglob g cs hg).to (imm (hglob g cs hg).rep) rfl}⟩
  simp only[init,argsT_get,keepT_get]
  split
  ·rename_i ht
   have hlt:t<ds.length:=by omega
   have hd:ds[t]? =some ds[t]:=List.getElem?_eq_getElem hlt
   have hal:t<args.size:=by rw[hargs.1];exact hlt
   have hav:args[t]? =some args[t]:=Array.getElem?_eq_getElem hal
   have hr:=hargs.2 t _ _ hav hd
   have e1:(args++Array.replicate (fn.ntmps-args.size) undef).getD t undef=args[t]:=by
    simp[Array.getElem?_append_left hal,hav]
   rw[e1]
   simp only[Nat.sub_zero,List.getD,hd,Option.getD_some]
   exact .inl (.inl (imm hr))
  ·exact .inl (.inl (.any _))
 apply wp_seq
 refine wp_mono (runC_sound hmix hcall rfl A0 k0 _ _ _ _ _ h0 hrel) ?_
 rintro x a1 w1 ⟨rfl,hr1⟩
 change (Code.seq A1 _).wp P _ a1 w1
 apply wp_seq
 refine wp_mono (runC_sound hmix hcall rfl A1 k1 _ _ _ _ _ h1 hr1) ?_
 rintro x a2 w2 ⟨rfl,hr2⟩
 change (Code.seq A2 _).wp P _ a2 w2
 apply wp_seq
 refine wp_mono (runC_sound hmix hcall rfl A2 k2 _ _ _ _ _ h2 hr2) ?_
 rintro x a3 w3 ⟨rfl,hr3⟩
 change (Code.seq (.region rid ops false) rest).wp P _ a3 w3
 apply wp_seq
 apply wp_region
 have hsz:ops= #[o1,o2]:=by
  apply Array.ext'
  simpa using hops
 have hrg:List.range ops.size=[0,1]:=by rw[hsz];rfl
 rw[hrg,wpOps_cons]
 refine stepG_sound hcall rfl (by rw[hsz];rfl) hr3 h3 (fun a4 w4 hr4=>?_)
 rw[wpOps_cons]
 unfold wpOp
 have ho2:ops[1]? =some o2:=by rw[hsz];rfl
 simp only[ho2]
 rw[if_pos (by simp[Region.wanted,hgd])]
 left
 obtain⟨ι4,hr4⟩:=hr4
 have hclo:=hr4.tmp tc
 rw[ht] at hclo
 obtain⟨cap,hv,hcs,hcap⟩:=hclo.clo_inv
 have hex:(execOp a4.eval o2).run P w4= .ok (.defer ⟨.fn (.func g) cap,#[]⟩) w4:=by
  have hv':a4.eval (.tmp tc)= .func (.func g) #[] cap:=hv
  simp[execOp,hop,resolve,hc,hca,hv',Deferred.ofValue]
 unfold Oper.wp
 rw[hex,Oper.upon_defer,hdst,put_none]
 change Code.wp P rest _ _ w4
 have hd4:a4.defers=[]:=hr4.defers
 rw[hd4]
 have hr4':=(hr4.stPi hπ).df [(⟨.fn (.func g) cap,#[]⟩:Deferred)]
 refine wp_mono (runC_sound hmix hcall rfl rest k4 _ _ _ _ _ h4 ⟨_,hr4'⟩) ?_
 rintro x a5 w5 ⟨rfl,hr5⟩
 have hd5:a5.defers=[(⟨.fn (.func g) cap,#[]⟩:Deferred)]:=hr5.choose_spec.defers
 change Leaves P fn a5.tmps _ a5.defers .returning w5
 rw[hd5]
 have hcl:CTok P ⟨call.p,fun _ _ _=>none,call.g⟩:=⟨hcall.1,fun f hs ds r hs' h=>by cases h⟩
 refine leaves_cons (by simp) (f:=g) (args:=cap) ?_ ?_
 ·simp[invoke,hgc]
 have hrun:=ecall_soundT (call:=⟨call.p,fun _=>E,call.g⟩) (C:=fun args w R=>CallsD P g args .returning w fun e u' w'=>u'= .returning∧R e w') (fun args w R R' h hr=>h.mono fun e u' w' h=>⟨h.1,hr _ _ h.2⟩)
  (g:=g) (fun hs ds r hs' he w ι args h1 h2 h3=>(hE hs ds r hs' he).2 w ι args h1 h2 h3 .returning) rfl (dst:=none) (fun t h=>by cases h) (args:=cap) (w:=w5) hr5 (fun ι hι=>by
   refine⟨by simpa using hcs,fun i c d hci hdi=>?_⟩
   simp only[List.getElem?_map,Option.map_eq_some_iff] at hdi
   obtain⟨id,hid,rfl⟩:=hdi
   obtain⟨p1,b,rfl⟩:=hcap i c id hci hid
   obtain⟨l1,l2,o,ho⟩:=hlive id (List.mem_of_getElem? hid)
   obtain⟨v,hv1,-⟩:=hι.obj _ _ ho
   have p2:(piI π ι4) (π id)=some (.pointer (some ⟨b,0,none⟩)):=by
    show ι4 (π (π id))=_
    rw[hπ]
    exact p1
   rcases hι.k0 (π id) _ p2 l1 l2 with h|h
   ·rw[h] at hv1;cases hv1
   ·exact .inl (.inr ⟨b,h,rfl⟩)) h5
 refine CallsD.mono hrun ?_
 rintro e u' w6 ⟨rfl,v,rfl,hr6⟩
 rw[put_none] at hr6
 obtain⟨ι6,hr6⟩:=hr6
 obtain⟨v,hv,hrep⟩:=result_sound hr6 h6
 refine⟨v,hv,v,rfl,⟨hr6.below.os,hr6.below.tape,hr6.below.output,hr6.below.size,fun k hk=>hr6.below.block k hk (fun h=>h)⟩, ?_⟩
 have hkk:=hr6.kk
 have hzz:=hr6.zz
 simp only at hkk hzz
 rw[hkk] at hrep
 exact hrep.mono (Nat.le_refl _) (fun b _ ho=>⟨ho,rfl⟩) (fun b _ ho=>⟨ho.elim id (fun h=>by rw[hzz] at h;exact h.elim),rfl⟩)
end
@[simp] def sw(k:Nat):Nat:=if k<100 then k+1000 else if 1000≤k∧k<1100 then k-1000 else k
theorem sw_sw(k:Nat):sw (sw k)=k:=by
 unfold sw
 split
 ·rw[if_neg (by omega),if_pos (by omega)];omega
 ·split
  ·rw[if_pos (by omega)];omega
  ·rfl
attribute [simp] piD piO stPi
@[simp] def liveI(h:List (Nat×O)):List Nat→Bool
 |[]=>true
 |i::r=>decide (1000≤sw i)&&decide (sw i<10000)&&(getH h (sw i)).isSome&&liveI h r
theorem liveI_mem{h:List (Nat×O)}:∀{ids:List Nat},liveI h ids=true→∀i∈ids,1000≤sw i∧sw i<10000∧∃o,getH h (sw i)=some o
 |j::r,hl,i,hi=>by
  simp only[liveI,Bool.and_eq_true,decide_eq_true_eq,Option.isSome_iff_exists] at hl
  rcases List.mem_cons.1 hi with rfl|hi
  ·exact⟨hl.1.1.1,hl.1.1.2,hl.1.2⟩
  ·exact liveI_mem hl.2 i hi
section
variable (P:Program)(call:CT)(L:Nat→St→OS)(an:Ann)(N:Nat)(g:FuncId)(E:ED)(rs:List ResultVar)
noncomputable def dfrW:Option St→Option D
 |some s6=>resultD P s6 rs
 |none=>none
noncomputable def dfrZ(ids:List Nat):OS→Option D
 |some (.ret,s5)=>if liveI s5.h ids=true then dfrW P rs (ecall ⟨call.p,fun _=>E,call.g⟩ s5 none g (ids.map fun i=> .ptr (sw i) 0)) else none
 |_=>none
noncomputable def dfrY(rest:Code)(tc:Nat):Option St→Option D
 |some s4=>match getT s4.t tc with
  | .clo f ids=>if f=g then dfrZ P call g E rs ids (runS P call L an N rest (stPi sw s4)) else none
  |_=>none
 |none=>none
noncomputable def dfrX(rest:Code)(tc:Nat)(ops:Array Oper)(o1:Oper):OS→Option D
 |some (.norm,s3)=>dfrY P call L an N g E rs rest tc (runSeq P call an N ops [o1] s3)
 |_=>none
def dfrO(ops:Array Oper):Option (Oper×Nat):=match ops.toList with
 |[o1,o2]=>match o2.op,o2.dst,o2.guard with
  | .defer c,none,none=>match c.callee with
   | .value (.tmp tc)=>if c.args.size=0 then some (o1,tc) else none
   |_=>none
  |_,_,_=>none
 |_=>none
noncomputable def runDf(c:Code)(ds:List D):Option D:=match c with
 | .seq A0 (.seq A1 (.seq A2 (.seq (.region _ ops false) rest)))=>match dfrO ops with
  |some (o1,tc)=>if ds.length≤N then dfrX P call L an N g E rs rest tc ops o1 (andThen (andThen (runS P call L an N A0 (init an ds)) (runS P call L an N A1)) (runS P call L an N A2)) else none
  |none=>none
 |_=>none
end
section
variable {P:Program}{G:Nat→Option (List D)}{k:Pk}{g:FuncId}{E:ED}
variable (P G k g E) in
@[simp] noncomputable def DP(ds:List D):Option D:=runDf P (ctP G k) (HP P G k bigL) k.an k.N g E k.rs (bodyOf k.fn) ds
attribute [simp] runDf dfrO dfrX dfrY dfrZ dfrW
theorem andThen_inv{x:OS}{f:St→OS}{s:St}(h:andThen x f=some (.norm,s)):∃s1,x=some (.norm,s1)∧f s1=some (.norm,s):=by
 cases x with
 |none=>cases h
 |some p=>
  obtain⟨e,s1⟩:=p
  cases e with
  |norm=>exact⟨s1,rfl,h⟩
  |ret=>cases h
  |ex i=>cases h
theorem dfrX_inv{call:CT}{L:Nat→St→OS}{an:Ann}{N:Nat}{rs:List ResultVar}{rest:Code}{tc:Nat}{ops:Array Oper}{o1:Oper}{x:OS}{r:D}(h:dfrX P call L an N g E rs rest tc ops o1 x=some r):
  ∃s3,x=some (.norm,s3)∧dfrY P call L an N g E rs rest tc (runSeq P call an N ops [o1] s3)=some r:=by
 unfold dfrX at h
 split at h
 ·exact⟨_,rfl,h⟩
 ·cases h
theorem dfrO_inv{ops:Array Oper}{o1:Oper}{tc:Nat}(h:dfrO ops=some (o1,tc)):∃o2 c,ops.toList=[o1,o2]∧o2.op= .defer c∧c.callee= .value (.tmp tc)∧c.args= #[]∧o2.dst=none∧o2.guard=none:=by
 unfold dfrO at h
 split at h
 ·rename_i p o2 hops
  split at h
  ·rename_i c h1 h2 h3
   split at h
   ·rename_i t hc
    split at h
    ·rename_i hz
     cases h
     exact⟨o2,c,hops,h1,hc,Array.eq_empty_of_size_eq_zero hz,h2,h3⟩
    ·cases h
   ·cases h
  ·cases h
 ·cases h
theorem CDP(hmix:P.follows .mixedOrders=true){f:FuncId}{fn:Func}(hf:P.funcs[f]? =some fn)(h1:k.fn=fn)(h2':k.rs=fn.results.toList)(h:okPk k=true)(hl:okLoops (bodyOf k.fn)=true)(hc:CallsOk P G k.cl)(he:CallsOkE P G k.ce)
  (hgc:∀(args:Array Value) (w:World),(callFunc g args).run P w= .ok (.enter g args) w)(hE:∀hs ds r hs',E hs ds=some (r,hs')→ContractD P G g hs ds r hs'):
  Cn P G f (DP P G k g E):=by
 intro ds r hr
 unfold DP at hr
 obtain⟨q1,q2,q3,q4,q5⟩:=okPk_of h
 have hrun:=fun c hc s=>runS_eq (P:=P) (call:=ctP G k) (an:=k.an) (N:=k.N) hl c hc s
 subst h1
 unfold runDf at hr
 split at hr
 ·rename_i A0 A1 A2 rid ops rest hbody
  split at hr
  ·rename_i o1 tc ho
   split at hr
   ·rename_i hle
    have l0:=hrun A0 (fun z hz=>by rw[hbody];simp[loopsIn,hz])
    have l1:=hrun A1 (fun z hz=>by rw[hbody];simp[loopsIn,hz])
    have l2:=hrun A2 (fun z hz=>by rw[hbody];simp[loopsIn,hz])
    have l4:=hrun rest (fun z hz=>by rw[hbody];simp[loopsIn,hz])
    unfold HP at hr
    rw[l0,funext l1,funext l2] at hr
    obtain⟨s3,hx,hr⟩:=dfrX_inv hr
    obtain⟨s2,hx,h2⟩:=andThen_inv hx
    obtain⟨s1,h0,h1⟩:=andThen_inv hx
    obtain⟨s4,h3,hr⟩:∃s4,stepG P (ctP G k) k.an k.N ops s3 o1=some s4∧dfrY P (ctP G k) (atH P (ctP G k) k.an k.N (bodyOf k.fn) bigL) k.an k.N g E k.rs rest tc (some s4)=some r:=by
     unfold runSeq at hr
     cases hs:stepG P (ctP G k) k.an k.N ops s3 o1 with
     |none=>rw[hs] at hr;cases hr
     |some s4=>rw[hs] at hr;exact⟨s4,rfl,hr⟩
    unfold dfrY at hr
    simp only at hr
    split at hr
    ·rename_i f' ids ht
     split at hr
     ·rename_i hfg
      subst hfg
      rw[l4] at hr
      obtain⟨s5,h4,hr⟩:∃s5,runC P (ctP G k) k.an k.N rest (stPi sw s4)=some (.ret,s5)∧dfrZ P (ctP G k) f' E k.rs ids (some (.ret,s5))=some r:=by
       cases hx:runC P (ctP G k) k.an k.N rest (stPi sw s4) with
       |none=>rw[hx] at hr;cases hr
       |some p=>
        obtain⟨e,s5⟩:=p
        rw[hx] at hr
        cases e with
        |ret=>exact⟨s5,rfl,hr⟩
        |norm=>cases hr
        |ex i=>cases hr
      unfold dfrZ at hr
      simp only at hr
      split at hr
      ·rename_i hlv
       unfold dfrW at hr
       split at hr
       ·rename_i s6 h5
        obtain⟨o2,c,g1,g2,g3,g4,g5,g6⟩:=dfrO_inv ho
        have hb:k.fn.body=some (.seq A0 (.seq A1 (.seq A2 (.seq (.region rid ops false) rest)))):=by rw[q1,hbody]
        rw[hbody] at q3
        simp only[okCode,Bool.and_eq_true] at q3
        obtain⟨k0,k1,k2,_,k4⟩:=q3
        rw[q5] at h0 h1 h2 h3 h4 hle
        rw[h2'] at hr
        exact contractD_of hmix hf hb q2 k0 k1 k2 k4 q4 (call:=ctP G k) ⟨callOf_ok _ hc,callOfE_ok _ he⟩ sw_sw g1 g2 g3 g4 g5 g6 hgc hE hle h0 h1 h2 h3 ht h4 (liveI_mem hlv) h5 hr
       ·cases hr
      ·cases hr
     ·cases hr
    ·cases hr
   ·cases hr
  ·cases hr
 ·cases hr
theorem CEDP(hmix:P.follows .mixedOrders=true){f:FuncId}{fn:Func}(hf:P.funcs[f]? =some fn)(h1:k.fn=fn)(h2:k.rs=fn.results.toList)(h:okPk k=true)(hc:CallsOk P G k.cl)(he:CallsOkE P G k.ce):
  ∀hs ds r hs',EP P G k hs ds=some (r,hs')→ContractD P G f hs ds r hs':=by
 intro hs ds r hs' hr
 obtain⟨q1,q2,q3,q4,q5⟩:=okPk_of h
 subst h1
 unfold EP at hr
 rw[q5,h2] at hr
 exact contractDE_of hmix hf q1 q2 q3 q4 (call:=ctP G k) ⟨callOf_ok _ hc,callOfE_ok _ he⟩ hr
theorem enterP{f:FuncId}{fn:Func}(hf:P.funcs[f]? =some fn)(h1:k.fn=fn)(h:okPk k=true)(args:Array Value)(w:World):(callFunc f args).run P w= .ok (.enter f args) w:=by
 obtain⟨q1,q2,q3,q4,q5⟩:=okPk_of h
 subst h1
 have hn:¬k.fn.name= "runtime.NumGoroutine" :=by simpa using q2
 cases hb:k.fn.body with
 |none=>rw[hb] at q1;cases q1
 |some b=>simp[callFunc,hf,hn,hb]
end
end Go.Abs
namespace Go.Abs
open Go Go.RowKit
section
variable {P:Program}{B:Nat}{N:Nat}{w0:Bs}{call:CT}{an:Ann}{a:Act}{w:World}
theorem Oper.wp.inRound{o:Oper}{K:Act→World→Prop}{Q:Exit→Act→World→Prop}(hd:∀c,o.op≠ .defer c)(h:o.wp P a w K Q)(l n:Nat):o.wpIn (Fence.wide.inRound l) n P a w K Q:=by
 refine⟨fun _ _=>trivial, ?_⟩
 unfold Oper.wp at h
 rw[Fence.inRound_round,Oper.semAt_eq _ _ _ hd]
 generalize(execOp a.eval o).run P w=x at*
 cases x with
 |halt s w'=>cases s<;>first|exact h|exact h.elim
 |ok nx w'=>
  cases nx with
  |value v=>exact h
  |skip=>exact h
  |defer d=>exact h
  |enter f args=>exact⟨fun hn=>(by cases hn),CallsIn.inRound l (callsIn_wide.2 h)⟩
  |row row args=>
   refine⟨fun hn=>(by cases hn),fun c cs _=>?_⟩
   obtain⟨v,w'',r,s⟩:=h c cs
   exact⟨v,w'',r,stepsIn_wide.2 s⟩
  |_=>exact h.elim
def noDefer(ops:Array Oper):Bool:=ops.toList.all fun o=>match o.op with
 | .defer _=>false
 |_=>true
def inCode:Code→Bool
 | .skip| .exit _| .ret| .label _=>true
 | .region _ ops draw=>!draw&&noDefer ops
 | .seq x y=>inCode x&&inCode y
 | .cond (.tmp _) x y=>inCode x&&inCode y
 | .block _ x=>inCode x
 |_=>false
theorem noDefer_get{ops:Array Oper}(h:noDefer ops=true){i:Nat}{o:Oper}(hi:ops[i]? =some o):∀c,o.op≠ .defer c:=by
 intro c hc
 unfold noDefer at h
 rw[List.all_eq_true] at h
 have:=h o (by
  rw[←Array.getElem?_toList] at hi
  exact List.mem_of_getElem? hi)
 rw[hc] at this
 cases this
theorem runSeq_soundIn(hcall:CTok P call)(hG:w0.G=call.g){ops:Array Oper}(hnd:noDefer ops=true)(lr n:Nat){Q:Exit→Act→World→Prop}{s':St}(hk:∀a' w',SRel N B w0 s' a' w'→Q .normal a' w'):
  ∀(l:List Oper) (k:Nat) (s:St) (a:Act) (w:World),(∀j,l[j]? =ops[k+j]?)→SRel N B w0 s a w→runSeq P call an N ops l s=some s'→wpOpsIn (Fence.wide.inRound lr) n P ops Q (List.range' k l.length) a w
 |[],k,s,a,w,_,h,hs=>by
  cases hs
  exact hk _ _ h
 |o::l,k,s,a,w,hl,h,hs=>by
  unfold runSeq at hs
  split at hs
  ·rename_i s1 h1
   have h0:ops[k]? =some o:=by have:=hl 0;simpa using this.symm
   have next:∀a' w',SRel N B w0 s1 a' w'→wpOpsIn (Fence.wide.inRound lr) n P ops Q (List.range' (k+1) l.length) a' w':=fun a' w' h'=>
    runSeq_soundIn hcall hG hnd lr n hk l (k+1) s1 a' w' (fun j=>by have:=hl (j+1);simpa[Nat.add_assoc,Nat.add_comm 1 j] using this) h' hs
   rw[List.length_cons,List.range'_succ]
   unfold wpOpsIn
   simp only[h0]
   unfold stepG at h1
   obtain⟨ι,hrel⟩:=h
   split at h1
   ·rename_i hg
    rw[if_pos (guard_sound hrel hg)]
    exact Oper.wp.inRound (noDefer_get hnd h0) (eop_sound hcall hG ⟨ι,hrel⟩ h1 next) lr n
   ·rename_i hg
    rw[if_neg (by rw[guard_sound hrel hg];simp)]
    refine⟨fun _ _=>trivial, ?_⟩
    split at h1
    ·rename_i t hd
     split at h1
     ·rename_i ht
      cases h1
      rw[hd]
      exact next _ _ (SRel.good_put hrel ht ⟨Below.refl _ _,.inl (.inl (.x _))⟩)
     ·cases h1
    ·rename_i hd
     cases h1
     rw[hd,put_none]
     exact next _ _ ⟨ι,hrel⟩
   ·cases h1
  ·cases hs
theorem region_soundIn(hcall:CTok P call)(hG:w0.G=call.g){ops:Array Oper}(hnd:noDefer ops=true){id:Nat}(lr n:Nat){Q:Exit→Act→World→Prop}{s s':St}(h:SRel N B w0 s a w)(hs:runSeq P call an N ops ops.toList s=some s')
  (hk:∀a' w',SRel N B w0 s' a' w'→Q .normal a' w'):(Code.region id ops false).wpIn (Fence.wide.inRound lr) n P Q a w:=by
 apply wpIn_region
 rw[List.range_eq_range']
 exact runSeq_soundIn hcall hG hnd lr n hk ops.toList 0 s a w (fun j=>by simp) h hs
theorem runC_soundIn(hcall:CTok P call)(hG:w0.G=call.g)(lr n:Nat):∀(c:Code),inCode c=true→∀(s:St) (e:E) (s':St) (a:Act) (w:World),runC P call an N c s=some (e,s')→SRel N B w0 s a w→
  c.wpIn (Fence.wide.inRound lr) n P (PostC N B w0 e s') a w:=by
 intro c
 induction c with
 |skip=>
  intro _ s e s' a w h hrel
  cases h
  exact wpIn_skip ⟨rfl,hrel⟩
 |region id ops draw=>
  intro hok s e s' a w h hrel
  simp only[inCode,Bool.and_eq_true,Bool.not_eq_true'] at hok
  obtain⟨rfl,hnd⟩:=hok
  unfold runC at h
  split at h
  ·rename_i s1 h1
   cases h
   unfold runR at h1
   split at h1
   ·rename_i tr htr
    simp[tailN] at htr
   ·split at h1
    ·rename_i s2 h2
     cases h1
     simp only[Bool.false_eq_true,if_false] at h2
     exact region_soundIn hcall hG hnd lr n hrel h2 (fun a' w' hr=>⟨rfl,endR_sound _ _ hr⟩)
    ·cases h1
  ·cases h
 |seq x y ihx ihy=>
  intro hok s e s' a w h hrel
  simp only[inCode,Bool.and_eq_true] at hok
  unfold runC at h
  apply wpIn_seq
  split at h
  ·rename_i s1 h1
   refine wpIn_mono (ihx hok.1 s _ _ a w h1 hrel) ?_
   rintro ex a' w' ⟨rfl,hr⟩
   exact ihy hok.2 s1 e s' a' w' h hr
  ·rename_i hne
   rw[h] at hne
   refine wpIn_mono (ihx hok.1 s _ _ a w h hrel) ?_
   rintro ex a' w' ⟨rfl,hr⟩
   cases e with
   |norm=>exact absurd rfl (hne s')
   |ex id=>exact⟨rfl,hr⟩
   |ret=>exact⟨rfl,hr⟩
 |cond c x y ihx ihy=>
  intro hok s e s' a w h hrel
  cases c with
  |tmp t=>
   simp only[inCode,Bool.and_eq_true] at hok
   simp only[runC] at h
   split at h
   ·rename_i b hb
    have hc:a.eval (.tmp t)= .bool b:=by
     obtain⟨ι,hr⟩:=hrel
     have:=hr.tmp t
     rw[hb] at this
     exact this.x_inv
    have hrel':SRel N B w0 (if an.cond.contains t=true then⟨delT s.t t,s.h⟩ else s) a w:=by
     split
     ·exact hrel.del t
     ·exact hrel
    refine wpIn_cond hc ?_
    cases b
    ·simp only[Bool.false_eq_true,if_false] at h⊢
     exact ihy hok.2 _ e s' a w h hrel'
    ·simp only[if_true] at h⊢
     exact ihx hok.1 _ e s' a w h hrel'
   ·cases h
  |_=>cases hok
 |block id c ih=>
  intro hok s e s' a w h hrel
  unfold runC at h
  apply wpIn_block
  split at h
  ·rename_i i s1 h1
   refine wpIn_mono (ih hok s _ _ a w h1 hrel) ?_
   rintro ex a' w' ⟨rfl,hr⟩
   split at h
   ·rename_i hi
    cases h
    simp only[E.toExit,Exit.inBlock,hi,if_true]
    exact⟨rfl,hr⟩
   ·rename_i hi
    cases h
    simp only[E.toExit,Exit.inBlock,hi,if_false]
    exact⟨rfl,hr⟩
  ·rename_i hne
   rw[h] at hne
   refine wpIn_mono (ih hok s _ _ a w h hrel) ?_
   rintro ex a' w' ⟨rfl,hr⟩
   cases e with
   |norm=>exact⟨rfl,hr⟩
   |ex id=>exact absurd rfl (hne id s')
   |ret=>exact⟨rfl,hr⟩
 |exit id=>
  intro _ s e s' a w h hrel
  cases h
  exact wpIn_exit ⟨rfl,headOf_sound _ hrel⟩
 |ret=>
  intro _ s e s' a w h hrel
  cases h
  exact wpIn_ret ⟨rfl,headOf_sound _ hrel⟩
 |label l=>
  intro _ s e s' a w h hrel
  cases h
  exact wpIn_label ⟨rfl,hrel⟩
 |_=>intro hok;cases hok
end
end Go.Abs
namespace Go.Abs
open Go Go.RowKit
def noOwn1:D→Bool
 | .any| .x _| .emp| .sl _| .elt _| .ptr _ _| .row _| .clo _ _| .mp _| .mpv _| .cap0=>true
 |_=>false
def noOwnA:D→Bool
 | .agg cs=>cs.all noOwn1
 |d=>noOwn1 d
def noOwnO:O→Bool
 | .box _ cs=>cs.all noOwn1
 |_=>true
def noOwnT:List (Nat×D)→Bool
 |[]=>true
 |(_,d)::r=>noOwnA d&&noOwnT r
def noOwnH:List (Nat×O)→Bool
 |[]=>true
 |(_,o)::r=>noOwnO o&&noOwnH r
def noOwnS(s:St):Bool:=noOwnT s.t&&noOwnH s.h
theorem noOwnT_get:∀{l:List (Nat×D)},noOwnT l=true→∀t,noOwnA (getT l t)=true
 |[],_,_=>rfl
 |(k,d)::r,h,t=>by
  simp only[noOwnT,Bool.and_eq_true] at h
  unfold getT
  split
  ·exact h.1
  ·exact noOwnT_get h.2 t
theorem noOwnH_get:∀{l:List (Nat×O)},noOwnH l=true→∀{t o},getH l t=some o→noOwnO o=true
 |[],_,_,_,e=>by cases e
 |(k,d)::r,h,t,o,e=>by
  simp only[noOwnH,Bool.and_eq_true] at h
  unfold getH at e
  split at e
  ·cases e;exact h.1
  ·exact noOwnH_get h.2 e
section
variable {w w':World}{B B':Nat}{ι ι':Inj}
theorem RepI.re{ok fr ok' fr':Nat→Prop}{v:Value}{d:D}(h:RepI w ok fr v d)(hd:noOwn1 d=true)(hs:w.heap.size≤w'.heap.size)
  (hok:∀b,b<w.heap.size→ok b→ok' b∧w'.heap[b]? =w.heap[b]?):RepI w' ok' fr' v d:=by
 have wk:∀{d},RepI w ok (fun _=>False) v d→RepI w' ok' fr' v d:=fun h=>h.mono hs hok (fun b _ hb=>hb.elim)
 cases d with
 |any=>exact .any v
 |x u=>cases h;exact .x _
 |emp=>exact wk ((h.cell _).1 rfl)
 |sl es=>exact wk ((h.cell _).1 rfl)
 |elt cs=>exact wk ((h.cell _).2.1 _ rfl)
 |mpv es=>exact wk ((h.cell _).1 rfl)
 |cap0=>cases h;exact .cap0 _
 |ptr _ _=>cases h
 |row _=>cases h
 |clo _ _=>cases h
 |mp _=>cases h
 |_=>cases hd
theorem Ref.re{v:Value}{d:D}(h:Ref ι v d)(hd:noOwn1 d=true)(hr:∀id∈refs1 d,∀u,ι id=some u→ι' id=some u):Ref ι' v d:=by
 cases d with
 |ptr id off=>obtain⟨b,h1,h2⟩:=h;exact⟨b,hr id (by simp[refs1]) _ h1,h2⟩
 |row id=>exact⟨hr id (by simp[refs1]) _ h.1,h.2⟩
 |clo f ids=>
  obtain⟨cap,h1,h2,h3⟩:=h
  exact⟨cap,h1,h2,fun i c id hc hi=>⟨hr id (List.mem_of_getElem? hi) _ (h3 i c id hc hi).1,(h3 i c id hc hi).2⟩⟩
 |mp id=>exact⟨hr id (by simp[refs1]) _ h.1,h.2⟩
 |rel _ _ _ _=>cases hd
 |bsl _ _ _ _=>cases hd
 |_=>exact h.elim
theorem Rep1.re{v:Value}{d:D}(h:Rep1 w B ι v d)(hd:noOwn1 d=true)(hs:w.heap.size≤w'.heap.size)
  (hok:∀b,b<w.heap.size→okB ι b→okB ι' b∧w'.heap[b]? =w.heap[b]?)(hr:∀id∈refs1 d,∀u,ι id=some u→ι' id=some u):Rep1 w' B' ι' v d:=
 h.imp (fun h=>h.re hd hs hok) (fun h=>h.re hd hr)
theorem refsC_mem:∀{cs:List D} {i:Nat} {d:D},cs[i]? =some d→∀id∈refs1 d,id∈refsC cs
 |[],i,d,h,_,_=>by simp at h
 |c::r,i,d,h,id,hi=>by
  cases i with
  |zero=>simp at h;subst h;exact List.mem_append_left _ hi
  |succ i=>exact List.mem_append_right _ (refsC_mem (by simpa using h) id hi)
theorem Rep.re{v:Value}{d:D}(h:Rep w B ι v d)(hd:noOwnA d=true)(hs:w.heap.size≤w'.heap.size)
  (hok:∀b,b<w.heap.size→okB ι b→okB ι' b∧w'.heap[b]? =w.heap[b]?)(hr:∀id∈refsA d,∀u,ι id=some u→ι' id=some u):Rep w' B' ι' v d:=by
 have one:∀{d},(∀ds,d≠ .agg ds)→(∀ds,d≠ .tup ds)→noOwn1 d=true→(∀id∈refs1 d,∀u,ι id=some u→ι' id=some u)→Rep w B ι v d→Rep w' B' ι' v d:=
  fun h1 h2 h3 h4 h=> .inl ((h.one_inv h1 h2).re h3 hs hok h4)
 cases d with
 |agg cs=>
  obtain⟨cv,rfl,h1,h2⟩:=h.agg_inv
  refine .inr (.inl ⟨cs,rfl,cv,rfl,h1,fun i c d hc hd'=>?_⟩)
  simp only[noOwnA,List.all_eq_true] at hd
  exact(h2 i c d hc hd').re (hd d (List.mem_of_getElem? hd')) hs hok (fun id hi=>hr id (refsC_mem hd' id hi))
 |tup _=>cases hd
 |_=>exact one (by intro _ e;cases e) (by intro _ e;cases e) hd hr h
theorem ownsRow_re{e:TypeId}{sz:Nat}{v:Value}{n:Nat}{xs:List Value}(h:w.ownsRow 0 e sz v n xs)(hx:∀b,blk v=some b→b<w.heap.size→w'.heap[b]? =w.heap[b]?):w'.ownsRow 0 e sz v n xs:=by
 refine⟨h.1, ?_⟩
 rcases h.2 with h|⟨g,cap,cur,h1,h2,h3,h4⟩
 ·exact .inl h
 ·exact .inr ⟨g,cap,cur,h1,h2,by rw[hx g (by rw[h1];rfl) (Array.getElem?_eq_some_iff.1 h3).1];exact h3,h4⟩
theorem ObjRel.re{v:Value}{o:O}(h:ObjRel w B ι v o)(hd:noOwnO o=true)(hs:w.heap.size≤w'.heap.size)
  (hok:∀b,b<w.heap.size→okB ι b→okB ι' b∧w'.heap[b]? =w.heap[b]?)(hr:∀id u,ι id=some u→ι' id=some u)
  (hw:∀b,blk v=some b→b<w.heap.size→wrB B' ι' b∧w'.heap[b]? =w.heap[b]?):ObjRel w' B' ι' v o:=by
 cases o with
 |box ty cs=>
  obtain⟨b,cur,rfl,h2,h3,h4,h5⟩:=h
  obtain⟨g1,g2⟩:=hw b rfl (Array.getElem?_eq_some_iff.1 h3).1
  simp only[noOwnO,List.all_eq_true] at hd
  exact⟨b,cur,rfl,g1,by rw[g2];exact h3,h4,fun j c d hc hd'=>⟨(h5 j c d hc hd').1.re (hd d (List.mem_of_getElem? hd')) hs hok (fun id _=>hr id),(h5 j c d hc hd').2⟩⟩
 |row ety sz fl es=>
  obtain⟨xs,h1,h2,h3,h4,h5,h6,h7⟩:=h
  refine⟨xs,h1,⟨ownsRow_re h2.1 (fun b hb hl=>(hw b hb hl).2),fun b hb=>?_⟩,h3,fun i e j d c he hd hc=>?_,h5,h6,h7⟩
  ·rcases h2.1.2 with⟨rfl,_⟩|⟨g,cap,cur,rfl,_,g3,_⟩
   ·cases hb
   ·cases hb;exact(hw g rfl (Array.getElem?_eq_some_iff.1 g3).1).1
  ·have hc':=h6 e (List.mem_of_getElem? he) d (List.mem_of_getElem? hd)
   refine(h4 i e j d c he hd hc).re ?_ hs hok
   cases d<;>first|rfl|cases hc'
 |mp es=>
  obtain⟨r,ms,ck,rfl,h2,h3,h4⟩:=h
  obtain⟨g1,g2⟩:=hw r rfl (Array.getElem?_eq_some_iff.1 h3).1
  exact⟨r,ms,ck,rfl,g1,by rw[g2];exact h3,h4⟩
end
section
variable {N B:Nat}{w0:Bs}{ι:Inj}{a:Act}{W W':World}
theorem Rel.rebase{s:St}{K' Z':Nat→Prop}{f':Nat→Option Value}(h:Rel N B w0 ι (getT s.t) (getH s.h) a W)(hs:W.heap.size≤W'.heap.size)
  (hK:∀k,k<W.heap.size→ι.K k→K' k∧W'.heap[k]? =W.heap[k]?)(hZ:∀id v b,ι id=some v→blk v=some b→Z' b)
  (hZK:∀b,(W'.heap.size≤b∨Z' b)→K' b)(hno:noOwnS s=true)
  (hf:∀id v,f' id=some v→1000≤id→id<10000→ι id=none∨ι id=some v):
  Rel N W'.heap.size ⟨W',K',Z',f',w0.G,w0.Df⟩ ⟨ι.f,K',Z'⟩ (getT s.t) (getH s.h) a W':=by
 simp only[noOwnS,Bool.and_eq_true] at hno
 have hok:∀b,b<W.heap.size→okB ι b→okB ⟨ι.f,K',Z'⟩ b∧W'.heap[b]? =W.heap[b]? :=fun b hb ho=>⟨⟨(hK b hb ho.1).1,ho.2⟩,(hK b hb ho.1).2⟩
 exact{
  defers:=h.defers
  size:=h.size
  tmp:=fun t=>(h.tmp t).re (noOwnT_get hno.1 t) hs hok (fun _ _ _ hu=>hu)
  obj:=fun id o ho=>by
   obtain⟨v,hv,hr⟩:=h.obj id o ho
   refine⟨v,hv,hr.re (noOwnH_get hno.2 ho) hs hok (fun _ _ hu=>hu) (fun b hb hl=>⟨.inr (hZ id v b hv hb),(hK b hl (h.fresh b (hr.blk_lt b hb).1)).2⟩)⟩
  dom:=h.dom
  inj:=h.inj
  below:=BelowZ.refl _ _ _
  base:=Nat.le_refl _
  fresh:=hZK
  kk:=rfl
  zz:=rfl
  k0:=hf
  nn:=h.nn
  glob:=fun g cs hg=>(h.glob g cs hg).to ((h.glob g cs hg).rep.re rfl hs hok) (hok g (h.glob g cs hg).lt (h.glob g cs hg).ok).2}
theorem Rel.same{ρ:Nat→D}{η:Nat→Option O}{v0:World}(h:Rel N B w0 ι ρ η a W)(hs:W.heap.size≤W'.heap.size)(hK:∀k,k<W.heap.size→ι.K k→W'.heap[k]? =W.heap[k]?)
  (hb:BelowZ B w0.Z v0 W'):Rel N B {w0 with w:=v0} ι ρ η a W':=by
 have hok:∀b,b<W.heap.size→okB ι b→okB ι b∧W'.heap[b]? =W.heap[b]? :=fun b hb ho=>⟨ho,hK b hb ho.1⟩
 have hfr:∀b,b<W.heap.size→frB B ι b→frB B ι b∧W'.heap[b]? =W.heap[b]? :=fun b hb ho=>⟨ho,hK b hb ho.2.1⟩
 have h1:∀{v d},Rep1 W B ι v d→Rep1 W' B ι v d:=fun h=>h.imp (fun h=>h.mono hs hok hfr) id
 have hw:∀{v:Value} {o:O},ObjRel W B ι v o→ObjRel W' B ι v o:=by
  intro v o h0
  have hk:∀b,blk v=some b→b<W.heap.size→W'.heap[b]? =W.heap[b]? :=fun b hb hl=>hK b hl (h.fresh b (h0.blk_lt b hb).1)
  cases o with
  |box ty cs=>
   obtain⟨b,cur,rfl,h2,h3,h4,h5⟩:=h0
   exact⟨b,cur,rfl,h2,by rw[hk b rfl (Array.getElem?_eq_some_iff.1 h3).1];exact h3,h4,fun j c d hc hd=>⟨h1 (h5 j c d hc hd).1,(h5 j c d hc hd).2⟩⟩
  |row ety sz fl es=>
   obtain⟨xs,g1,g2,g3,g4,g5⟩:=h0
   exact⟨xs,g1,⟨ownsRow_re g2.1 hk,g2.2⟩,g3,fun i e j d c he hd hc=>(g4 i e j d c he hd hc).mono hs hok hfr,g5⟩
  |mp es=>
   obtain⟨r,ms,ck,rfl,h2,h3,h4⟩:=h0
   exact⟨r,ms,ck,rfl,h2,by rw[hk r rfl (Array.getElem?_eq_some_iff.1 h3).1];exact h3,h4⟩
 exact{
  defers:=h.defers
  size:=h.size
  tmp:=fun t=>by
   have:=(h.tmp t).mapT (w':=W') (B':=B) (ι':=ι) (f:=fun d=>d) (fun v d h _=>h1 h) (fun v cs h=>h1 (.inl h))
   rwa[mapT_id] at this
  obj:=fun id o ho=>let⟨v,hv,hr⟩:=h.obj id o ho;⟨v,hv,hw hr⟩
  dom:=h.dom
  inj:=h.inj
  below:=hb
  base:=Nat.le_trans h.base hs
  fresh:=h.fresh
  kk:=h.kk
  zz:=h.zz
  k0:=h.k0
  nn:=h.nn
  glob:=fun g cs hg=>(h.glob g cs hg).to ((h.glob g cs hg).rep.mono hs hok hfr) (hok g (h.glob g cs hg).lt (h.glob g cs hg).ok).2}
def maskD1(h:List (Nat×O))(d:D):D:=if((refsA d).all fun id=>decide (1000≤id)&&decide (id<10000)&&(getH h id).isSome)=true then d else .any
def maskR(h:List (Nat×O)):List (Nat×D)→List (Nat×D)
 |[]=>[]
 |(k,d)::r=>(k,maskD1 h d)::maskR h r
theorem getT_mask(h:List (Nat×O)):∀(l:List (Nat×D)) (t:Nat),getT (maskR h l) t=maskD1 h (getT l t)
 |[],_=>rfl
 |(k,d)::r,t=>by
  unfold maskR getT
  split
  ·rfl
  ·exact getT_mask h r t
theorem noOwnT_mask(h:List (Nat×O)):∀{l:List (Nat×D)},noOwnT l=true→noOwnT (maskR h l)=true
 |[],_=>rfl
 |(k,d)::r,hl=>by
  simp only[noOwnT,Bool.and_eq_true] at hl
  simp only[maskR,noOwnT,Bool.and_eq_true]
  refine⟨?_,noOwnT_mask h hl.2⟩
  unfold maskD1
  split
  ·exact hl.1
  ·rfl
theorem Rel.back{s s2:St}{ι2:Inj}{a2:Act}{W2:World}{v0:World}(h:Rel N B w0 ι (getT s.t) (getH s.h) a W)(h2:Rel N W.heap.size {w0 with w:=v0} ι2 (getT s2.t) (getH s2.h) a2 W2)
  (hs:W.heap.size≤W2.heap.size)(hsame:∀b,b<W.heap.size→ι.K b→¬w0.Z b→W2.heap[b]? =W.heap[b]?)(hZ:∀b,w0.Z b→∃id v,ι id=some v∧blk v=some b)
  (hno:noOwnT s.t=true)(hd:a.defers=w0.Df)
  (hf:∀id u,ι id=some u→1000≤id→id<10000→w0.f id=some u):Rel N W.heap.size {w0 with w:=v0} ι2 (getT (maskR s2.h s.t)) (getH s2.h) a W2:=by
 have hnz:∀b,okB ι b→¬w0.Z b:=fun b ho hz=>by
  obtain⟨id,v,h1,h2⟩:=hZ b hz
  exact ho.2 id v h1 h2
 have hok:∀b,b<W.heap.size→okB ι b→okB ι2 b∧W2.heap[b]? =W.heap[b]? :=fun b hb ho=>by
  refine⟨⟨by rw[h2.kk];have:=ho.1;rw[h.kk] at this;exact this,fun id v hv hbl=>?_⟩,hsame b hb ho.1 (hnz b ho)⟩
  rcases(h2.blk_lt hv hbl).1 with h|h
  ·omega
  ·rw[h2.zz] at h;exact hnz b ho h
 exact{
  defers:=hd
  size:=h.size
  tmp:=fun t=>by
   rw[getT_mask]
   unfold maskD1
   by_cases hh:((refsA (getT s.t t)).all fun id=>decide (1000≤id)&&decide (id<10000)&&(getH s2.h id).isSome)=true
   case neg=>rw[if_neg hh];exact .inl (.inl (.any _))
   rw[if_pos hh]
   refine(h.tmp t).re (noOwnT_get hno t) hs hok (fun id hi u hu=>?_)
   have:=List.all_eq_true.1 hh id hi
   simp only[Bool.and_eq_true,decide_eq_true_eq,Option.isSome_iff_exists] at this
   obtain⟨⟨l1,l2⟩,o,ho⟩:=this
   obtain⟨v,hv,_⟩:=h2.obj id o ho
   rcases h2.k0 id u (hf id u hu l1 l2) l1 l2 with e|e
   ·rw[e] at hv;cases hv
   ·exact e
  obj:=h2.obj
  dom:=h2.dom
  inj:=h2.inj
  below:=h2.below
  base:=h2.base
  fresh:=h2.fresh
  kk:=h2.kk
  zz:=h2.zz
  k0:=h2.k0
  nn:=h.nn
  glob:=h2.glob}
end
structure Keeps(p:Nat→Prop)(W W':World):Prop where
 os:W'.os=W.os
 tape:W'.tape=W.tape
 output:W'.output=W.output
 size:W.heap.size≤W'.heap.size
 block:∀k,k<W.heap.size→p k→W'.heap[k]? =W.heap[k]?
def grow(Y:Nat→Prop)(W W':World)(k:Nat):Prop:=Y k∨(W.heap.size≤k∧k<W'.heap.size)
abbrev RX:=List Value
def IterOK(P:Program)(G:Nat→Option (List D))(gf:FuncId)(lbds:List D)(xs:List RX):Prop:=
 (∀(args:Array Value) (w:World),(callFunc gf args).run P w= .ok (.enter gf args) w)∧
 ∀(w:World) (K:Nat→Prop) (lb:Array Value) (l:Nat) (J Jx:(Nat→Prop)→List RX→World→Prop),
  Globs G w K (fun _=>False)→CellsRel (RepI w K (fun _=>False)) lb lbds→
  (∀Y pre W W',J Y pre W→Keeps (fun k=>¬Y k) W W'→J (grow Y W W') pre W')→(∀Y pre W W',Jx Y pre W→Keeps (fun k=>¬Y k) W W'→Jx (grow Y W W') pre W')→
  (∀Y pre x post W,xs=pre++x::post→J Y pre W→YieldAt Fence.wide 0 P l x.toArray W fun e W'=>
   Keeps (fun k=>K k∨Y k) W W'∧((e= .returned (.bool true)∧J Y (pre++[x]) W')∨(e= .returned (.bool false)∧Jx Y (pre++[x]) W')))→
  J (fun _=>False) [] w→
  Calls P gf (#[.func (.yield l) #[] #[]]++lb) w fun e W'=>(∃v,e= .returned v)∧((∃Y,J Y xs W')∨∃Y pre,Jx Y pre W')
def setTs:List (Nat×D)→List Nat→List Value→List (Nat×D)
 |l,p::ps,v::vs=>setTs (setT l p (ofV v)) ps vs
 |l,_,_=>l
def putTs:Array Value→List Nat→List Value→Array Value
 |a,p::ps,v::vs=>putTs (a.setIfInBounds p v) ps vs
 |a,_,_=>a
theorem putTs_foldl:∀(ps:List Nat) (vs:List Value) (a:Array Value),((ps.zip vs).foldl (fun t (p,v)=>t.setIfInBounds p v) a)=putTs a ps vs
 |[],vs,a=>by cases vs<;>rfl
 |p::ps,[],a=>rfl
 |p::ps,v::vs,a=>by
  simp only[List.zip_cons_cons,List.foldl_cons,putTs]
  exact putTs_foldl ps vs _
section
variable {P:Program}{call:CT}{an:Ann}{N B:Nat}{w0:Bs}{ι:Inj}{a:Act}{W:World}
theorem Rel.setTs{η:Nat→Option O}:∀(ps:List Nat) (vs:List Value) (l:List (Nat×D)) (tm:Array Value),Rel N B w0 ι (getT l) η {a with tmps:=tm} W→(∀p∈ps,p<N)→Rel N B w0 ι (getT (Abs.setTs l ps vs)) η {a with tmps:=putTs tm ps vs} W
 |[],vs,l,tm,h,_=>by cases vs<;>exact h
 |p::ps,[],l,tm,h,_=>h
 |p::ps,v::vs,l,tm,h,hp=>by
  unfold Abs.setTs putTs
  refine Rel.setTs ps vs _ _ ?_ (fun q hq=>hp q (List.mem_cons_of_mem _ hq))
  rw[getT_set]
  exact h.put (hp p List.mem_cons_self) (rep_ofV v)
def lowK:List (Nat×O)→St→St
 |[],s=>s
 |(k,_)::r,s=>if k<1000 then lowK r (s.kill k) else lowK r s
theorem SRel.lowK:∀(l:List (Nat×O)) (s:St),SRel N B w0 s a W→SRel N B w0 (Abs.lowK l s) a W
 |[],_,h=>h
 |(k,o)::r,s,h=>by
  unfold Abs.lowK
  split
  ·exact SRel.lowK r _ (h.kill k)
  ·exact SRel.lowK r _ h
def lowO:Option (E×St)→Option (E×St)
 |some (e,s)=>some (e,Abs.lowK s.h s)
 |none=>none
def normThen(x:Option (E×St))(f:St→Option (E×St)):Option (E×St):=match x with
 |some (.norm,s)=>f s
 |_=>none
def lowB(fb:St→Option (E×St))(s:St):Option (E×St):=lowO (fb s)
def roundR(fa fb:St→Option (E×St))(ps:List Nat)(s:St)(x:RX):Option (E×St):=normThen (fa ⟨setTs s.t ps x,s.h⟩) (lowB fb)
theorem roundR_inv{fa fb:St→Option (E×St)}{ps:List Nat}{s:St}{x:RX}{e:E}{s2:St}(h:roundR fa fb ps s x=some (e,s2)):
  ∃s1 s3,fa ⟨setTs s.t ps x,s.h⟩=some (.norm,s1)∧fb s1=some (e,s3)∧s2=Abs.lowK s3.h s3:=by
 unfold roundR normThen at h
 split at h
 ·rename_i s1 h1
  unfold lowB lowO at h
  split at h
  ·rename_i e' s3 h3
   cases h
   exact⟨s1,s3,h1,h3,rfl⟩
  ·cases h
 ·cases h
def okHead(s s2:St):Bool:=noOwnT s.t&&noOwnH s2.h
def rgRun(rd:St→RX→Option (E×St)):List RX→St→Option (E×St)
 |[],s=>some (.norm,s)
 |x::r,s=>match rd s x with
  |some (.norm,s2)=>if okHead s s2=true then rgRun rd r ⟨maskR s2.h s.t,s2.h⟩ else none
  |some (e,s2)=>if okHead s s2=true then some (e,⟨maskR s2.h s.t,s2.h⟩) else none
  |none=>none
def mrg(f g:Nat→Option Value)(id:Nat):Option Value:=match f id with
 |some v=>some v
 |none=>g id
theorem mrg_k0{f:Nat→Option Value}{ι:Inj}(h:∀id v,f id=some v→1000≤id→id<10000→ι id=none∨ι id=some v):∀id v,mrg f ι.f id=some v→1000≤id→id<10000→ι id=none∨ι id=some v:=by
 intro id v hv h1 h2
 unfold mrg at hv
 split at hv
 ·rename_i u hu
  cases hv
  exact h id _ hu h1 h2
 ·exact .inr hv
theorem mrg_in{f:Nat→Option Value}{ι:Inj}(h:∀id v,f id=some v→1000≤id→id<10000→ι id=none∨ι id=some v):∀id u,ι id=some u→1000≤id→id<10000→mrg f ι.f id=some u:=by
 intro id u hu h1 h2
 unfold mrg
 split
 ·rename_i v hv
  rcases h id v hv h1 h2 with e|e
  ·rw[e] at hu;cases hu
  ·rw[←e,hu]
 ·exact hu
theorem mrg_of{f:Nat→Option Value}{ι:Inj}{g:Nat→Option Value}(h:∀id v,mrg f g id=some v→1000≤id→id<10000→ι id=none∨ι id=some v):∀id v,f id=some v→1000≤id→id<10000→ι id=none∨ι id=some v:=
 fun id v hv=>h id v (by unfold mrg;rw[hv])
structure Thr(N S B:Nat)(wb:Bs)(Kit:Nat→Prop)(s:St)(a:Act)(K Z:Nat→Prop)(ι:Inj)(Y:Nat→Prop)(W:World):Prop where
 rel:Rel N W.heap.size ⟨W,K,Z,mrg wb.f ι.f,wb.G,[]⟩ ι (getT s.t) (getH s.h) a W
 kt:∀id v,wb.f id=some v→1000≤id→id<10000→ι id=none∨ι id=some v
 no:noOwnS s=true
 k:∀k,k<W.heap.size→K k→wb.K k∧¬Y k∧k≠S∧k≠S+1
 z:∀b,Z b→∃id v,ι id=some v∧blk v=some b
 zi:∀b,Z b→¬Kit b∧(B≤b∨wb.Z b)∧b<W.heap.size
 below:BelowZ B wb.Z wb.w W
 y:∀k,Y k→S+2≤k∧k<W.heap.size
variable {S:Nat}{wb:Bs}{Kit K Z Y:Nat→Prop}{s:St}{W':World}
theorem Thr.turn(h:Thr N S B wb Kit s a K Z ι Y W)(hS:S+2≤W.heap.size)(hB:B≤S)(hx:Keeps (fun k=>¬Y k∧k≠S∧k≠S+1) W W'):∃K',Thr N S B wb Kit s a K' Z ⟨ι.f,K',Z⟩ (grow Y W W') W':=by
 have hKK:ι.K=K:=h.rel.kk
 have hZK:∀b,Z b→K b:=fun b hb=>by
  have:=h.rel.fresh b (.inr (by rw[h.rel.zz];exact hb))
  rwa[hKK] at this
 refine⟨fun k=>(k<W.heap.size∧K k)∨W'.heap.size≤k, ?_,h.kt,h.no, ?_,h.z,fun b hb=>⟨(h.zi b hb).1,(h.zi b hb).2.1,Nat.lt_of_lt_of_le (h.zi b hb).2.2 hx.size⟩, ?_, ?_⟩
 ·refine h.rel.rebase hx.size (fun k hk hkK=>?_) (fun id v b hv hb=>?_) (fun b hb=>?_) h.no (mrg_k0 h.kt)
  ·rw[hKK] at hkK
   exact⟨.inl ⟨hk,hkK⟩,hx.block k hk (h.k k hk hkK).2⟩
  ·rcases(h.rel.blk_lt hv hb).1 with g|g
   ·have:=(h.rel.blk_lt hv hb).2;omega
   ·rw[h.rel.zz] at g;exact g
  ·rcases hb with hb|hb
   ·exact .inr hb
   ·exact .inl ⟨(h.zi b hb).2.2,hZK b hb⟩
 ·rintro k hk (⟨h1,h2⟩|h1)
  ·obtain⟨g1,g2,g3,g4⟩:=h.k k h1 h2
   exact⟨g1,fun hy=>hy.elim g2 (fun h=>by omega),g3,g4⟩
  ·omega
 ·refine⟨hx.os.trans h.below.os,hx.tape.trans h.below.tape,hx.output.trans h.below.output,Nat.le_trans h.below.size hx.size,fun k hk hz=>?_⟩
  rw[hx.block k (by omega) ⟨fun hy=>by have:=(h.y k hy).1;omega,by omega,by omega⟩]
  exact h.below.block k hk hz
 ·rintro k (hy|⟨h1,h2⟩)
  ·exact⟨(h.y k hy).1,Nat.lt_of_lt_of_le (h.y k hy).2 hx.size⟩
  ·exact⟨by omega,h2⟩
def jumpOf:E→Option Code
 | .norm=>none
 | .ret=>some .ret
 | .ex id=>some (.exit id)
theorem Thr.round(hcall:CTok P call)(hG:wb.G=call.g){ps:List Nat}{assign body:Code}(ha:inCode assign=true)(hb:inCode body=true)(hps:∀p∈ps,p<N)(h:Thr N S B wb Kit s a K Z ι Y W)(hB:B≤S)(hS:S+2≤W.heap.size)
  (hfresh:∀b,B≤b→wb.K b)(hKit:∀k,Kit k→k<S)(had:a.defers=[]){r:Loop}(hr:W.heap[S+1]? =some (.loop r))(hst:r.state= .ready){x:RX}{e:E}{s2:St}(hrun:roundR (runC P call an N assign) (runC P call an N body) ps s x=some (e,s2))(hh:okHead s s2=true)
  {R:Ending→World→Prop}{n:Nat}(hR:∀W4 K2 Z2 ι2,Thr N S B wb Kit ⟨maskR s2.h s.t,s2.h⟩ a K2 Z2 ι2 Y W4→Keeps (fun k=>Kit k∨Y k) W W4→W4.heap[S+1]? =some (.loop {r with state:=if(jumpOf e).isNone then .ready else .done,pending:=jumpOf e})→
   W4.heap[S]? =W.heap[S]? →R (.returned (.bool (jumpOf e).isNone)) W4):
  assign.wpIn (Fence.wide.inRound (S+1)) n P (Exit.then (fun a₁ w₁=>∃w₂,(Instr.beginRound (S+1)).run P w₁= .ok () w₂∧body.wpIn (Fence.wide.inRound (S+1)) n P (roundPost P (S+1) R) a₁ w₂) (fun _ _ _=>False))
   {tmps:=putTs a.tmps ps x,defers:=[]} W:=by
 have hKK:ι.K=K:=h.rel.kk
 have hKb:∀b,W.heap.size≤b∨Z b→K b:=fun b hb=>by
  have:=h.rel.fresh b (hb.imp id (fun hb=>by rw[h.rel.zz];exact hb))
  rwa[hKK] at this
 have hnZ:∀k,k=S∨k=S+1→¬Z k:=fun k hk hz=>by
  have:=h.k k (by omega) (hKb k (.inr hz))
  omega
 obtain⟨s1,s3,h1,hrun,hs23⟩:=roundR_inv hrun
 ·have hrel0:Rel N W.heap.size ⟨W,K,Z,mrg wb.f ι.f,wb.G,[]⟩ ι (getT (Abs.setTs s.t ps x)) (getH s.h) {tmps:=putTs a.tmps ps x,defers:=[]} W:=by
   have h0:Rel N W.heap.size ⟨W,K,Z,mrg wb.f ι.f,wb.G,[]⟩ ι (getT s.t) (getH s.h) {a with tmps:=a.tmps} W:=h.rel
   have:=Rel.setTs ps x s.t a.tmps h0 hps
   rw[had] at this
   exact this
  refine wpIn_mono (runC_soundIn hcall (w0:=⟨W,K,Z,mrg wb.f ι.f,wb.G,[]⟩) hG (S+1) n assign ha _ _ _ _ _ h1 ⟨ι,hrel0⟩) ?_
  rintro ex a1 Wa ⟨rfl,ιa,hra⟩
  show∃w₂,_
  have hla:Wa.heap[S+1]? =some (.loop r):=(hra.below.block _ (by omega) (hnZ _ (.inr rfl))).trans hr
  refine⟨_,run_beginRound hla hst, ?_⟩
  have hlt:S+1<Wa.heap.size:=(Array.getElem?_eq_some_iff.1 hla).1
  have hrb:Rel N W.heap.size ⟨W.putObj (S+1) (.loop {r with state:= .busy}),K,Z,mrg wb.f ι.f,wb.G,[]⟩ ιa (getT s1.t) (getH s1.h) a1 (Wa.putObj (S+1) (.loop {r with state:= .busy})):=by
   refine hra.same (v0:=W.putObj (S+1) (.loop {r with state:= .busy})) (by simp) (fun k hk hkK=>?_) ⟨hra.below.os,hra.below.tape,hra.below.output,by simpa using hra.below.size,fun k hk hz=>?_⟩
   ·rw[hra.kk] at hkK
    refine World.putObj_heap_other (fun e=>?_)
    have:=h.k k (by omega) hkK
    omega
   ·by_cases e:k=S+1
    ·subst e
     rw[World.putObj_heap_same hlt,World.putObj_heap_same (by omega)]
    ·rw[World.putObj_heap_other e,World.putObj_heap_other e]
     exact hra.below.block k hk hz
  refine wpIn_mono (runC_soundIn hcall (w0:=⟨W.putObj (S+1) (.loop {r with state:= .busy}),K,Z,mrg wb.f ι.f,wb.G,[]⟩) hG (S+1) n body hb _ _ _ _ _ hrun ⟨ιa,hrb⟩) ?_
  rintro ex a3 W3 ⟨rfl,hr3⟩
  obtain⟨ι3,hr3⟩:=SRel.lowK s3.h s3 hr3
  rw[←hs23] at hr3
  have hsz:W.heap.size≤W3.heap.size:=by simpa using hr3.below.size
  have hl3:W3.heap[S+1]? =some (.loop {r with state:= .busy}):=(hr3.below.block _ (by omega) (hnZ _ (.inr rfl))).trans (World.putObj_heap_same (by omega))
  have hsame:∀b,b<W.heap.size→b≠S+1→¬Z b→W3.heap[b]? =W.heap[b]? :=fun b hb hne hz=>(hr3.below.block b hb hz).trans (World.putObj_heap_other hne)
  simp only[okHead,Bool.and_eq_true] at hh
  have hback:Rel N W.heap.size ⟨W.putObj (S+1) (.loop {r with state:= .busy}),K,Z,mrg wb.f ι.f,wb.G,[]⟩ ι3 (getT (maskR s2.h s.t)) (getH s2.h) a W3:=
   Rel.back (w0:=⟨W,K,Z,mrg wb.f ι.f,wb.G,[]⟩) (v0:=W.putObj (S+1) (.loop {r with state:= .busy})) h.rel hr3 hsz (fun b hb hk hz=>hsame b hb (fun e=>by rw[hKK] at hk;have:=h.k b hb hk;omega) hz) h.z hh.1 had (mrg_in h.kt)
  have hno:noOwnS ⟨maskR s2.h s.t,s2.h⟩=true:=by simp[noOwnS,noOwnT_mask _ hh.1,hh.2]
  have hlt3:S+1<W3.heap.size:=(Array.getElem?_eq_some_iff.1 hl3).1
  have hK3:ι3.K=K:=hr3.kk
  have hZ3:ι3.Z=Z:=hr3.zz
  have hkt3:=mrg_of hback.k0
  have fin:∀o:Obj,∃K2 Z2 ι2,Thr N S B wb Kit ⟨maskR s2.h s.t,s2.h⟩ a K2 Z2 ι2 Y (W3.putObj (S+1) o):=fun o=>by
   have hbk:∀{id v b},ι3 id=some v→blk v=some b→(W.heap.size≤b∨Z b)∧b<W3.heap.size:=fun{id v b} h1 h2=>by
    have:=hback.blk_lt h1 h2
    refine⟨this.1.imp (fun h=>h) (fun h=>by rw[hZ3] at h;exact h),this.2⟩
   refine⟨fun k=>(k<W3.heap.size∧K k)∨W3.heap.size≤k,fun b=>∃id v,ι3 id=some v∧blk v=some b,⟨ι3.f,fun k=>(k<W3.heap.size∧K k)∨W3.heap.size≤k,fun b=>∃id v,ι3 id=some v∧blk v=some b⟩, ?_,hkt3,hno, ?_,fun b hb=>hb, ?_, ?_,fun k hk=>⟨(h.y k hk).1,by have:=(h.y k hk).2;simp;omega⟩⟩
   ·have:=hback.rebase (s:=⟨maskR s2.h s.t,s2.h⟩) (W':=W3.putObj (S+1) o) (K':=fun k=>(k<W3.heap.size∧K k)∨W3.heap.size≤k) (Z':=fun b=>∃id v,ι3 id=some v∧blk v=some b) (by simp) (fun k hk hkK=>?_) (fun id v b h1 h2=>⟨id,v,h1,h2⟩) (fun b hb=>?_) hno (mrg_k0 hkt3)
    ·exact this
    ·rw[hK3] at hkK
     refine⟨.inl ⟨hk,hkK⟩,World.putObj_heap_other (fun e=>?_)⟩
     have:=h.k k (by omega) hkK
     omega
    ·rcases hb with hb|⟨id,v,h1,h2⟩
     ·exact .inr (by simpa using hb)
     ·exact .inl ⟨(hbk h1 h2).2,hKb b (hbk h1 h2).1⟩
   ·rintro k hk (⟨h1,h2⟩|h1)
    ·by_cases hkW:k<W.heap.size
     ·exact h.k k hkW h2
     ·exact⟨hfresh k (by omega),fun hy=>by have:=(h.y k hy).2;omega,by omega,by omega⟩
    ·simp at hk;omega
   ·rintro b ⟨id,v,h1,h2⟩
    obtain⟨g1,g2⟩:=hbk h1 h2
    refine⟨?_, ?_,by simpa using g2⟩
    ·rcases g1 with g|g
     ·intro hk;have:=hKit b hk;omega
     ·exact(h.zi b g).1
    ·rcases g1 with g|g
     ·exact .inl (by omega)
     ·exact(h.zi b g).2.1
   ·refine⟨hr3.below.os.trans h.below.os,hr3.below.tape.trans h.below.tape,hr3.below.output.trans h.below.output,by simpa using Nat.le_trans h.below.size hsz,fun k hk hz=>?_⟩
    rw[World.putObj_heap_other (by omega),hsame k (by omega) (by omega) (fun hzk=>by have:=(h.zi k hzk).2.1;rcases this with g|g;omega;exact hz g)]
    exact h.below.block k hk hz
  have keep:∀o:Obj,Keeps (fun k=>Kit k∨Y k) W (W3.putObj (S+1) o):=fun o=>by
   refine⟨hr3.below.os,hr3.below.tape,hr3.below.output,by simpa using hsz,fun k hk hy=>?_⟩
   have hne:k≠S+1:=by rcases hy with g|g;have:=hKit k g;omega;have:=(h.y k g).1;omega
   rw[World.putObj_heap_other hne]
   refine hsame k hk hne (fun hz=>?_)
   rcases hy with g|g
   ·exact(h.zi k hz).1 g
   ·exact(h.k k hk (hKb k (.inr hz))).2.1 g
  have hS3:∀o:Obj,(W3.putObj (S+1) o).heap[S]? =W.heap[S]? :=fun o=>by
   rw[World.putObj_heap_other (by omega)]
   exact hsame S (by omega) (by omega) (hnZ S (.inl rfl))
  have he:=run_endRound (P:=P) (jumpOf e) hl3
  have hgo:=fun o=>fin o
  obtain⟨K2,Z2,ι2,ht⟩:=fin (.loop {r with state:=if(jumpOf e).isNone then .ready else .done,pending:=jumpOf e})
  have hfin:=hR _ K2 Z2 ι2 ht (keep _) (World.putObj_heap_same hlt3) (hS3 _)
  cases e with
  |norm=>exact⟨_,_,he,hfin⟩
  |ret=>exact⟨_,_,he,hfin⟩
  |ex id=>exact⟨_,_,he,hfin⟩
def boxesOf(h:List (Nat×O)):List Nat→Option (List D)
 |[]=>some []
 |id::r=>match getH h id,boxesOf h r with
  |some (.box _ cs),some l=>if cs.all isCell=true then some (.elt cs::l) else none
  |_,_=>none
def killAll:List Nat→St→St
 |[],s=>s
 |id::r,s=>killAll r (s.kill id)
def delAll:List Nat→Inj→Inj
 |[],ι=>ι
 |id::r,ι=>delAll r (Abs.del ι id)
theorem delAll_some:∀{ids:List Nat} {ι:Inj} {i:Nat} {v:Value},delAll ids ι i=some v→i∉ids∧ι i=some v
 |[],ι,i,v,h=>⟨by simp,h⟩
 |id::r,ι,i,v,h=>by
  obtain⟨h1,h2⟩:=delAll_some (ids:=r) h
  obtain⟨h3,h4⟩:=del_some h2
  exact⟨by simp[h1,h3],h4⟩
theorem delAll_K:∀(ids:List Nat) (ι:Inj),(delAll ids ι).K=ι.K∧(delAll ids ι).Z=ι.Z
 |[],ι=>⟨rfl,rfl⟩
 |id::r,ι=>delAll_K r (Abs.del ι id)
theorem Rel.killAll:∀(ids:List Nat) (s:St) (ι:Inj),Rel N B w0 ι (getT s.t) (getH s.h) a W→Rel N B w0 (delAll ids ι) (getT (Abs.killAll ids s).t) (getH (Abs.killAll ids s).h) a W
 |[],s,ι,h=>h
 |id::r,s,ι,h=>by
  refine Rel.killAll r (s.kill id) (Abs.del ι id) ?_
  rw[St.kill,getT_kill,getH_kill]
  exact h.kill id
theorem boxesOf_len{h:List (Nat×O)}:∀{ids:List Nat} {l:List D},boxesOf h ids=some l→l.length=ids.length∧∀(i id:Nat),ids[i]? =some id→∃ty cs,getH h id=some (.box ty cs)∧cs.all isCell=true∧l[i]? =some (.elt cs)
 |[],l,h=>by cases h;exact⟨rfl,fun i id h=>by simp at h⟩
 |k::r,l,h=>by
  unfold boxesOf at h
  split at h
  ·rename_i ty cs l' h1 h2
   split at h
   ·rename_i hc
    cases h
    obtain⟨g1,g2⟩:=boxesOf_len h2
    refine⟨by simp[g1],fun i id hi=>?_⟩
    cases i with
    |zero=>simp at hi;subst hi;exact⟨ty,cs,h1,hc,rfl⟩
    |succ i=>exact g2 i id (by simpa using hi)
   ·cases h
  ·cases h
def RgPost(N B:Nat)(wb:Bs)(e:E)(s':St)(a:Act):Exit→Act→World→Prop:=fun x a' w'=>
 x=e.toExit∧∃Dd K Z ι,a'={a with defers:={target:= .collected Dd,args:= #[]}::a.defers}∧w'.heap[Dd]? =some (.deferred (some []))∧¬K Dd∧¬Z Dd∧B≤Dd∧
  Rel N w'.heap.size ⟨w',K,Z,mrg wb.f ι.f,wb.G,a'.defers⟩ ι (getT s'.t) (getH s'.h) a' w'∧(∀id v,wb.f id=some v→1000≤id→id<10000→ι id=none∨ι id=some v)∧(∀k,k<w'.heap.size→K k→wb.K k)∧(∀b,Z b→B≤b∨wb.Z b)∧BelowZ B wb.Z wb.w w'
theorem rangeFunc_sound(hcall:CTok P call)(hG:wb.G=call.g){g:Nat}{ps:Array Nat}{assign body:Code}(ha:inCode assign=true)(hb:inCode body=true){gf:FuncId}{ids:List Nat}{lbds:List D}{xs:List RX}
  (hit:IterOK P call.g gf lbds xs){s':St}{e:E}(hps:∀p∈ps.toList,p<N)(hxs:∀x∈xs,x.length=ps.size)(hclo:getT s.t g= .clo gf ids)(hbx:boxesOf s.h ids=some lbds)(hno:noOwnS (killAll ids s)=true)
  (hrun:rgRun (roundR (runC P call an N assign) (runC P call an N body) ps.toList) xs (killAll ids s)=some (e,s')){w:World}(hrel:SRel N B wb s a w)(n:Nat):
  (Code.rangeFunc (.tmp g) ps assign body).wpIn Fence.wide n P (RgPost N B wb e s' a) a w:=by
 obtain⟨ι,hrel⟩:=hrel
 have hcl:=hrel.tmp g
 rw[hclo] at hcl
 obtain⟨cap,hv,hcs,hcap⟩:=hcl.clo_inv
 have hrel1:=Rel.killAll ids s ι hrel
 have hBw:B≤w.heap.size:=hrel.base
 have hfresh:∀b,B≤b→wb.K b:=fun b hb=>by have:=hrel.fresh b (.inl hb);rwa[hrel.kk] at this
 obtain⟨Kit,hKit⟩:∃Kit:Nat→Prop,Kit=fun k=>k<w.heap.size∧okB (delAll ids ι) k:=⟨_,rfl⟩
 obtain⟨a0,ha0⟩:∃a0:Act,a0={a with defers:=[]}:=⟨_,rfl⟩
 obtain⟨rd,hrd⟩:∃rd,rd=roundR (runC P call an N assign) (runC P call an N body) ps.toList:=⟨_,rfl⟩
 rw[←hrd] at hrun
 refine wpIn_rangeFunc ?_
 intro fn hfn
 obtain⟨rec,hrec⟩:∃rec:LoopState→Option Code→Loop,rec=fun st pe=>{state:=st,pending:=pe,fn,tmps:=a.tmps,params:=ps,assign,body,defers:=w.heap.size}:=⟨_,rfl⟩
 obtain⟨W1,hW1⟩:∃W1,(w.alloc (.deferred (some []))).alloc (.loop (rec .ready none))=W1:=⟨_,rfl⟩
 have hL1:W1.heap[w.heap.size+1]? =some (.loop (rec .ready none)):=by
  rw[←hW1];have:=World.alloc_heap_new (w.alloc (.deferred (some []))) (.loop (rec .ready none));rwa[World.size_alloc] at this
 have hD1:W1.heap[w.heap.size]? =some (.deferred (some [])):=by
  rw[←hW1];exact(Below.heap_alloc _ _ _ (by simp)).trans (World.alloc_heap_new w _)
 have hx1:Ext w W1:=by
  rw[←hW1];exact((Below.refl _ w).alloc (Nat.le_refl _) _).alloc (by simp) _
 have hs1:W1.heap.size=w.heap.size+2:=by rw[←hW1];simp
 have ev:a.eval (.tmp g)= .func (.func gf) #[] cap:=hv
 refine⟨w.heap.size+1,[{target:= .collected w.heap.size,args:= #[]}],W1,{target:= .fn (.func gf) cap,args:= #[.func (.yield (w.heap.size+1)) #[] #[]]},W1,gf,
  #[.func (.yield (w.heap.size+1)) #[] #[]]++cap,W1, ?_, ?_,fun _ _=>trivial, ?_,(fun h=>by cases h), ?_⟩
 ·rw[←hW1,hrec];exact run_enterLoop_outer _ _ _ _ _
 ·simp only[resolve,ev]
  simp[go_sem]
 ·simp[invoke,go_sem,hit.1]
 obtain⟨J,hJ⟩:∃J:(Nat→Prop)→List RX→World→Prop,J=fun Y pre W=>∃sp K Z ι,(∀rest,xs=pre++rest→rgRun rd rest sp=some (e,s'))∧Thr N w.heap.size B wb Kit sp a0 K Z ι Y W∧W.heap[w.heap.size+1]? =some (.loop (rec .ready none))∧W.heap[w.heap.size]? =some (.deferred (some [])):=⟨_,rfl⟩
 obtain⟨Jx,hJx⟩:∃Jx:(Nat→Prop)→List RX→World→Prop,Jx=fun Y pre W=>∃K Z ι,e≠ .norm∧Thr N w.heap.size B wb Kit s' a0 K Z ι Y W∧W.heap[w.heap.size+1]? =some (.loop (rec .done (jumpOf e)))∧W.heap[w.heap.size]? =some (.deferred (some [])):=⟨_,rfl⟩
 have hKlt:∀k,Kit k→k<w.heap.size:=fun k hk=>by rw[hKit] at hk;exact hk.1
 have himm:∀{v:Value} {d:D},noOwn1 d=true→RepI w (okB (delAll ids ι)) (frB B (delAll ids ι)) v d→RepI W1 Kit (fun _=>False) v d:=fun hd h=>
  h.re hd hx1.size (fun b hb ho=>⟨by rw[hKit];exact⟨hb,ho⟩,hx1.block b hb⟩)
 have hglob:Globs call.g W1 Kit (fun _=>False):=fun gg cs hg=>by
  have hgl:=hrel1.glob gg cs (by rw[hG];exact hg)
  exact hgl.to (himm rfl hgl.rep) (hx1.block gg hgl.lt)
 have hcells:CellsRel (RepI W1 Kit (fun _=>False)) cap lbds:=by
  obtain⟨g1,g2⟩:=boxesOf_len hbx
  refine⟨hcs.trans g1.symm,fun i c d hc hd=>?_⟩
  have hi:i<ids.length:=by have:=(List.getElem?_eq_some_iff.1 hd).1;omega
  obtain⟨ty,cs,h1,h2,h3⟩:=g2 i _ (List.getElem?_eq_getElem hi)
  rw[hd] at h3
  cases h3
  obtain⟨h4,b,rfl⟩:=hcap i c _ hc (List.getElem?_eq_getElem hi)
  obtain⟨v,hv',hobj⟩:=hrel.obj _ _ h1
  rw[h4] at hv'
  cases hv'
  obtain⟨b',cur,hb',k2,k3,k4,k5⟩:=hobj
  cases hb'
  have hlt:=(Array.getElem?_eq_some_iff.1 k3).1
  have hokb:okB (delAll ids ι) b:=⟨by rw[(delAll_K ids ι).1];exact hrel.fresh b k2,fun id' v' hv' hbl=>by
   obtain⟨n1,n2⟩:=delAll_some hv'
   exact n1 (hrel.inj _ _ _ _ b n2 h4 hbl rfl▸List.getElem_mem hi)⟩
  have hmono:∀b,okB ι b→okB (delAll ids ι) b:=fun b ho=>⟨by rw[(delAll_K ids ι).1];exact ho.1,fun id' v' hv'=>ho.2 id' v' (delAll_some hv').2⟩
  have hKb:Kit b:=by rw[hKit];exact⟨hlt,hokb⟩
  rw[List.all_eq_true] at h2
  have hcell:∀j,W1.cell? ((⟨b,0,none⟩:Addr).add j)=cur[j]? :=fun j=>by
   rw[World.cell?_of_block (w:=w) (by rw[add_block];exact hx1.block b hlt)]
   by_cases hj0:j=0
   ·subst hj0;simp[World.cell?,Addr.add,k3]
   ·simp[World.cell?,Addr.add,hj0,k3]
  refine .elt hKb (Nat.lt_of_lt_of_le hlt hx1.size) h2 (fun j hj=>?_) (fun j d u hd hu=>?_)
  ·have hj':j<cur.size:=by omega
   refine⟨cur[j],by rw[hcell,Array.getElem?_eq_getElem hj'], ?_⟩
   exact(k5 j _ _ (Array.getElem?_eq_getElem hj') (List.getElem?_eq_getElem hj)).2
  ·rw[hcell] at hu
   have hic:=h2 d (List.mem_of_getElem? hd)
   have hr:=(k5 j u d hu hd).1
   have hrI:RepI w (okB ι) (frB B ι) u d:=by
    rcases hr with hr|hr
    ·exact hr
    ·cases d<;>first|exact False.elim hr|cases hic
   refine hrI.re ?_ hx1.size (fun b hb ho=>⟨by rw[hKit];exact⟨hb,hmono b ho⟩,hx1.block b hb⟩)
   cases d<;>first|rfl|cases hic
 have hmK:∀{Y:Nat→Prop} {W W':World},Keeps (fun k=>¬Y k) W W'→Keeps (fun k=>¬Y k∧k≠w.heap.size∧k≠w.heap.size+1) W W':=fun h=>⟨h.os,h.tape,h.output,h.size,fun k hk hy=>h.block k hk hy.1⟩
 have h0:J (fun _=>False) [] W1:=by
  rw[hJ]
  refine⟨killAll ids s,fun k=>(k<w.heap.size∧wb.K k)∨W1.heap.size≤k,fun b=>∃id v,delAll ids ι id=some v∧blk v=some b,⟨(delAll ids ι).f,fun k=>(k<w.heap.size∧wb.K k)∨W1.heap.size≤k,fun b=>∃id v,delAll ids ι id=some v∧blk v=some b⟩,fun rest hr=>by simp at hr;rw[←hr];exact hrun, ?_,hL1,hD1⟩
  have hK1:(delAll ids ι).K=wb.K:=(delAll_K ids ι).1.trans hrel.kk
  refine⟨?_,hrel1.k0,hno, ?_,fun b hb=>hb, ?_,hrel1.below.ext hrel1.base hx1,fun k hk=>hk.elim⟩
  ·have:=(hrel1.rebase (s:=killAll ids s) (W':=W1) (K':=fun k=>(k<w.heap.size∧wb.K k)∨W1.heap.size≤k) (Z':=fun b=>∃id v,delAll ids ι id=some v∧blk v=some b) hx1.size (fun k hk hkK=>?_) (fun id v b h1 h2=>⟨id,v,h1,h2⟩) (fun b hb=>?_) hno (mrg_k0 hrel1.k0)).df []
   ·rw[ha0];exact this
   ·rw[hK1] at hkK
    exact⟨.inl ⟨hk,hkK⟩,hx1.block k hk⟩
   ·rcases hb with hb|⟨id,v,h1,h2⟩
    ·exact .inr hb
    ·have:=hrel1.blk_lt h1 h2
     exact .inl ⟨this.2,by rw[←hK1];exact hrel1.fresh b this.1⟩
  ·rintro k hk (⟨h1,h2⟩|h1)
   ·exact⟨h2,fun h=>h.elim,by omega,by omega⟩
   ·omega
  ·rintro b ⟨id,v,h1,h2⟩
   have:=hrel1.blk_lt h1 h2
   refine⟨fun hk=>?_,this.1.imp (fun h=>h) (fun h=>?_),by omega⟩
   ·rw[hKit] at hk
    exact hk.2.2 id v h1 h2
   ·rw[(delAll_K ids ι).2,hrel.zz] at h;exact h
 have hS2:∀{W:World} {o:Obj},W.heap[w.heap.size+1]? =some o→w.heap.size+2≤W.heap.size:=fun h=>by have:=(Array.getElem?_eq_some_iff.1 h).1;omega
 refine callsIn_wide.2 (Calls.mono (hit.2 W1 Kit cap (w.heap.size+1) J Jx hglob hcells ?_ ?_ ?_ h0) ?_)
 ·intro Y pre W W' hj hk
  rw[hJ] at hj⊢
  obtain⟨sp,K,Z,ι',h1,h2,h3,h4⟩:=hj
  obtain⟨K',ht⟩:=h2.turn (hS2 h3) hBw (hmK hk)
  exact⟨sp,K',Z,_,h1,ht,(hk.block _ (by have:=hS2 h3;omega) (fun hy=>by have:=(h2.y _ hy).1;omega)).trans h3,(hk.block _ (by have:=hS2 h3;omega) (fun hy=>by have:=(h2.y _ hy).1;omega)).trans h4⟩
 ·intro Y pre W W' hj hk
  rw[hJx] at hj⊢
  obtain⟨K,Z,ι',h1,h2,h3,h4⟩:=hj
  obtain⟨K',ht⟩:=h2.turn (hS2 h3) hBw (hmK hk)
  exact⟨K',Z,_,h1,ht,(hk.block _ (by have:=hS2 h3;omega) (fun hy=>by have:=(h2.y _ hy).1;omega)).trans h3,(hk.block _ (by have:=hS2 h3;omega) (fun hy=>by have:=(h2.y _ hy).1;omega)).trans h4⟩
 ·intro Y pre x post W hx hj
  rw[hJ] at hj
  obtain⟨sp,K,Z,ι',h1,h2,h3,h4⟩:=hj
  have hr:=h1 (x::post) hx
  have hxl:x.length=ps.size:=hxs x (by rw[hx];simp)
  have hy:=run_yield (P:=P) (args:=x.toArray) h3 (by rw[hrec];simpa using hxl)
  have htm:((rec .ready none).params.zip x.toArray).foldl (fun tmps (t,a)=>tmps.setIfInBounds t a) (rec .ready none).tmps=putTs a0.tmps ps.toList x:=by
   rw[hrec,ha0,←putTs_foldl,←Array.foldl_toList,Array.toList_zip]
  rw[htm] at hy
  refine⟨_,_,_,_,hy,roundIn_of_wpIn trivial ?_⟩
  unfold rgRun at hr
  have e1:(rec .ready none).assign=assign:=by rw[hrec]
  have e2:(rec .ready none).body=body:=by rw[hrec]
  have e3:(rec .ready none).state= .ready:=by rw[hrec]
  rw[e1,e2]
  split at hr
  ·rename_i s2 hrun1
   split at hr
   ·rename_i hok
    rw[hrd] at hrun1
    refine h2.round hcall hG ha hb hps hBw (hS2 h3) hfresh hKlt (by rw[ha0]) h3 e3 hrun1 hok (fun W4 K2 Z2 ι2 ht hkp hl hd=>⟨hkp,.inl ⟨rfl, ?_⟩⟩)
    rw[hJ]
    refine⟨_,K2,Z2,ι2,fun rest hre=>?_,ht,by rw[hl,hrec];rfl,hd.trans h4⟩
    have:post=rest:=by
     rw[hx,List.append_assoc] at hre
     simpa using hre
    rw[←this];exact hr
   ·cases hr
  ·rename_i e' s2 hne hrun1
   split at hr
   ·rename_i hok
    cases hr
    rw[hrd] at hrun1
    have hne':e≠ .norm:=hne
    have hj:(jumpOf e).isNone=false:=by cases e<;>first|rfl|exact absurd rfl hne'
    refine h2.round hcall hG ha hb hps hBw (hS2 h3) hfresh hKlt (by rw[ha0]) h3 e3 hrun1 hok (fun W4 K2 Z2 ι2 ht hkp hl hd=>⟨hkp,.inr ⟨by rw[hj], ?_⟩⟩)
    rw[hJx]
    exact⟨K2,Z2,ι2,hne',ht,by rw[hl,hj,hrec];rfl,hd.trans h4⟩
   ·cases hr
  ·cases hr
 ·
  rintro en W2 ⟨⟨v,rfl⟩,hend⟩
  have fin:∀(st:LoopState) (sp:St) (K Z:Nat→Prop) (ι':Inj) (Y:Nat→Prop),Thr N w.heap.size B wb Kit sp a0 K Z ι' Y W2→W2.heap[w.heap.size+1]? =some (.loop (rec st (jumpOf e)))→W2.heap[w.heap.size]? =some (.deferred (some []))→st≠ .busy→sp=s'→
    ∃W5,(Instr.endLoop (w.heap.size+1)).run P W2= .ok (jumpOf e) W5∧RgPost N B wb e s' a e.toExit {a with defers:=[{target:= .collected w.heap.size,args:= #[]}]++a.defers} W5:=by
   intro st sp K Z ι' Y h2 h3 h4 hst hsp
   subst hsp
   have hlt:=(Array.getElem?_eq_some_iff.1 h3).1
   have he:=run_endLoop (P:=P) h3 (by rw[hrec];exact hst)
   have hpe:(rec st (jumpOf e)).pending=jumpOf e:=by rw[hrec]
   obtain⟨W5,hW5⟩:∃W5,W2.putObj (w.heap.size+1) (.loop {rec st (jumpOf e) with state:= .exhausted})=W5:=⟨_,rfl⟩
   rw[hW5,hpe] at he
   have h45:W5.heap[w.heap.size]? =some (.deferred (some [])):=by rw[←hW5];exact(World.putObj_heap_other (by omega)).trans h4
   have hz5:W5.heap.size=W2.heap.size:=by rw[←hW5];simp
   obtain⟨K',ht⟩:=h2.turn (hS2 h3) hBw (W':=W5) (by rw[←hW5];exact⟨rfl,rfl,rfl,by simp,fun k hk hy=>World.putObj_heap_other hy.2.2⟩)
   refine⟨_,he,rfl,w.heap.size,K',Z,_,rfl,h45,fun hk=>(ht.k _ (by omega) hk).2.2.1 rfl,fun hz=>?_,hBw, ?_,ht.kt,fun k hk hkK=>(ht.k k hk hkK).1,fun b hb=>(ht.zi b hb).2.1,ht.below⟩
   ·have:=ht.rel.fresh _ (.inr hz)
    exact(ht.k _ (by omega) this).2.2.1 rfl
   ·have:=ht.rel.df ([{target:= .collected w.heap.size,args:= #[]}]++a.defers)
    rw[ha0] at this
    exact this
  rcases hend with⟨Y,hj⟩|⟨Y,pre,hj⟩
  ·rw[hJ] at hj
   obtain⟨sp,K,Z,ι',h1,h2,h3,h4⟩:=hj
   have hr:=h1 [] (by simp)
   simp only[rgRun,Option.some.injEq,Prod.mk.injEq] at hr
   obtain⟨rfl,hsp⟩:=hr
   obtain⟨W5,g1,g2⟩:=fin .ready sp K Z ι' Y h2 h3 h4 (by simp) hsp
   exact⟨_,W5,g1,g2⟩
  ·rw[hJx] at hj
   obtain⟨K,Z,ι',h1,h2,h3,h4⟩:=hj
   obtain⟨W5,g1,g2⟩:=fin .done s' K Z ι' Y h2 h3 h4 (by simp) rfl
   refine⟨_,W5,g1, ?_⟩
   cases e with
   |norm=>exact absurd rfl h1
   |ret=>exact wpIn_ret g2
   |ex id=>exact wpIn_exit g2
@[simp] def sw2(k:Nat):Nat:=if k<100 then k+2000 else if 2000≤k∧k<2100 then k-2000 else if 10000≤k∧k<20000 then k+200000 else if 210000≤k∧k<220000 then k-200000 else k
theorem sw2_sw2(k:Nat):sw2 (sw2 k)=k:=by
 unfold sw2
 repeat' split
 all_goals omega
theorem Rel.fOf{ρ:Nat→D}{η:Nat→Option O}{f':Nat→Option Value}(h:Rel N B w0 ι ρ η a W)(hf:∀id v,f' id=some v→1000≤id→id<10000→ι id=none∨ι id=some v):Rel N B {w0 with f:=f'} ι ρ η a W:={h with k0:=hf}
theorem Rel.sw2(h:Rel N B w0 ι (getT s.t) (getH s.h) a W)(hm:∀id,2000≤id→id<2100→w0.f id=none):Rel N B w0 (piI Abs.sw2 ι) (getT (Abs.stPi Abs.sw2 s).t) (getH (Abs.stPi Abs.sw2 s).h) a W:=by
 refine(h.stPi sw2_sw2).fOf (fun id v hv h1 h2=>?_)
 have e:Abs.sw2 id=id:=by
  unfold Abs.sw2
  rw[if_neg (by omega)]
  split
  ·rename_i h
   rw[hm id h.1 h.2] at hv;cases hv
  ·rw[if_neg (by omega),if_neg (by omega)]
 show ι (Abs.sw2 id)=none∨ι (Abs.sw2 id)=some v
 rw[e]
 exact h.k0 id v hv h1 h2
section
variable (rd:St→RX→OS)(fr:St→OS)(its:FuncId→List D→Option (List RX))
def rgE(id:Nat):OS→OS
 |some (.norm,s)=>fr (stPi sw2 s)
 |some (.ex j,s)=>if j=id then fr (stPi sw2 s) else none
 |some (.ret,s)=>some (.ret,stPi sw2 s)
 |none=>none
def lensR(n:Nat):List RX→Bool
 |[]=>true
 |x::r=>decide (x.length=n)&&lensR n r
def rgZ(ps:Array Nat)(id:Nat)(s:St)(ids:List Nat):Option (List RX)→OS
 |some xs=>if noOwnS (killAll ids s)=true∧lensR ps.size xs=true then rgE fr id (rgRun rd xs (killAll ids s)) else none
 |none=>none
def rgY(ps:Array Nat)(id:Nat)(s:St)(gf:FuncId)(ids:List Nat):Option (List D)→OS
 |some lb=>rgZ rd fr ps id s ids (its gf lb)
 |none=>none
def rgX(g:Nat)(ps:Array Nat)(id:Nat)(s:St):OS:=match getT s.t g with
 | .clo gf ids=>rgY rd fr its ps id s gf ids (boxesOf s.h ids)
 |_=>none
def rgW(g:Nat)(ps:Array Nat)(id:Nat)(s:St):OS:=rgX rd fr its g ps id (stPi sw2 s)
end
section
variable (run:Code→St→OS)(its:FuncId→List D→Option (List RX))
def runRg:Code→St→OS
 | .seq (.seq r (.block id (.rangeFunc (.tmp g) ps assign body))) rest,s=>normThen (run r s) (rgW (roundR (run assign) (run body) ps.toList) (run rest) its g ps id)
 | .seq x y,s=>andThen (run x s) (runRg y)
 |_,_=>none
def rdOf:Code→St→RX→OS
 | .seq (.seq _ (.block _ (.rangeFunc (.tmp _) ps assign body))) _=>roundR (run assign) (run body) ps.toList
 | .seq _ y=>rdOf y
 |_=>fun _ _=>none
def runRd(rd:St→RX→OS):Code→St→OS
 | .seq (.seq r (.block id (.rangeFunc (.tmp g) ps _ _))) rest,s=>normThen (run r s) (rgW rd (run rest) its g ps id)
 | .seq x y,s=>andThen (run x s) (runRd rd y)
 |_,_=>none
theorem runRd_eq(c:Code):∀s,runRd run its (rdOf run c) c s=runRg run its c s:=by
 fun_induction rdOf run c with
 |case1 r id g ps assign body rest=>intro s;rw[runRd,runRg]
 |case2 x y hx ih=>
  intro s
  rw[runRd,runRg,funext ih]
  all_goals exact fun r id g ps assign body hh=>hx r id g ps assign body hh
 |case3 c h1 h2=>
  intro s
  cases c<;>first|rfl|exact absurd rfl (h2 _ _)
end
def okRg(an:Ann)(N:Nat):Code→Bool
 | .seq (.seq r (.block _ (.rangeFunc (.tmp _) ps assign body))) rest=>okCode an r&&inCode assign&&inCode body&&okCode an rest&&ps.toList.all fun p=>decide (p<N)
 | .seq x y=>okCode an x&&okRg an N y
 |_=>false
theorem lensR_mem{n:Nat}:∀{xs:List RX},lensR n xs=true→∀x∈xs,x.length=n
 |y::r,h,x,hx=>by
  simp only[lensR,Bool.and_eq_true,decide_eq_true_eq] at h
  rcases List.mem_cons.1 hx with rfl|hx
  ·exact h.1
  ·exact lensR_mem h.2 x hx
theorem normThen_inv{x:OS}{f:St→OS}{r:E×St}(h:normThen x f=some r):∃s1,x=some (.norm,s1)∧f s1=some r:=by
 unfold normThen at h
 split at h
 ·exact⟨_,rfl,h⟩
 ·cases h
def RgEnd(N B:Nat)(wb:Bs)(e:E)(s':St):Exit→Act→World→Prop:=fun x a' w'=>x=e.toExit∧
 (SRel N B wb s' a' w'∨∃Dd w1,SRel N w1.w.heap.size w1 s' a' w'∧w1.Df=[{target:= .collected Dd,args:= #[]}]∧w1.G=wb.G∧w1.w.heap[Dd]? =some (.deferred (some []))∧¬w1.K Dd∧¬w1.Z Dd∧B≤Dd∧
  (∀k,k<w1.w.heap.size→w1.K k→wb.K k)∧(∀b,w1.Z b→B≤b∨wb.Z b)∧BelowZ B wb.Z wb.w w1.w∧w1.f=wb.f)
theorem wpRg(
       hmix:P.follows .mixedOrders=true)(hcall:CTok P call)(hG:wb.G=call.g)(hDf:wb.Df=[])(hm:∀id,2000≤id→id<2100→wb.f id=none){its:FuncId→List D→Option (List RX)}
  (hits:∀gf lb xs,its gf lb=some xs→IterOK P call.g gf lb xs)(n:Nat):∀(c:Code),okRg an N c=true→∀(s:St) (e:E) (s':St) (a:Act) (w:World),runRg (runC P call an N) its c s=some (e,s')→SRel N B wb s a w→
  c.wpIn Fence.wide n P (RgEnd N B wb e s') a w:=by
 have plain:∀(x y:Code),okCode an x=true→(∀(s:St) (e:E) (s':St) (a:Act) (w:World),runRg (runC P call an N) its y s=some (e,s')→SRel N B wb s a w→y.wpIn Fence.wide n P (RgEnd N B wb e s') a w)→
   ∀(s:St) (e:E) (s':St) (a:Act) (w:World),andThen (runC P call an N x s) (runRg (runC P call an N) its y)=some (e,s')→SRel N B wb s a w→(Code.seq x y).wpIn Fence.wide n P (RgEnd N B wb e s') a w:=by
  intro x y hx hy s e s' a w h hrel
  apply wpIn_seq
  cases hrun:runC P call an N x s with
  |none=>rw[hrun] at h;cases h
  |some q=>
   obtain⟨e1,s1⟩:=q
   rw[hrun] at h
   refine wpIn_mono (wpIn_wide.2 (runC_sound hmix hcall hG x hx _ _ _ _ _ hrun hrel)) ?_
   rintro ex a' w' ⟨rfl,hr⟩
   cases e1 with
   |norm=>exact hy s1 e s' a' w' h hr
   |ex id=>cases h;exact⟨rfl,.inl hr⟩
   |ret=>cases h;exact⟨rfl,.inl hr⟩
 intro c
 fun_induction okRg an N c with
 |case1 r id g ps assign body rest=>
  intro hok s e s' a w h hrel
  simp only[Bool.and_eq_true,List.all_eq_true,decide_eq_true_eq] at hok
  obtain⟨⟨⟨⟨k1,k2⟩,k3⟩,k4⟩,k5⟩:=hok
  unfold runRg at h
  obtain⟨s1,h1,hh⟩:=normThen_inv h
  clear h
  have h:=hh
  clear hh
  apply wpIn_seq
  apply wpIn_seq
  refine wpIn_mono (wpIn_wide.2 (runC_sound hmix hcall hG r k1 _ _ _ _ _ h1 hrel)) ?_
  rintro ex a1 w1 ⟨rfl,ι1,hr1⟩
  have hr2:=hr1.sw2 hm
  unfold rgW rgX at h
  split at h
  ·rename_i gf ids hclo
   unfold rgY at h
   split at h
   ·rename_i lb hlb
    unfold rgZ at h
    split at h
    ·rename_i xs hxs
     split at h
     ·rename_i hno
      have key:∀e1 s2,rgRun (roundR (runC P call an N assign) (runC P call an N body) ps.toList) xs (killAll ids (stPi Abs.sw2 s1))=some (e1,s2)→(Code.rangeFunc (.tmp g) ps assign body).wpIn Fence.wide n P (RgPost N B wb e1 s2 a1) a1 w1:=
       fun e1 s2 hrun=>rangeFunc_sound hcall hG k2 k3 (hits gf lb xs hxs) k5 (lensR_mem hno.2) hclo hlb hno.1 hrun ⟨_,hr2⟩ n
      have after:∀e1 s2 x a' w',RgPost N B wb e1 s2 a1 x a' w'→∃Dd wl,SRel N wl.w.heap.size wl (stPi Abs.sw2 s2) a' w'∧wl.w=w'∧wl.Df=[{target:= .collected Dd,args:= #[]}]∧wl.G=wb.G∧wl.w.heap[Dd]? =some (.deferred (some []))∧¬wl.K Dd∧¬wl.Z Dd∧B≤Dd∧
        (∀k,k<wl.w.heap.size→wl.K k→wb.K k)∧(∀b,wl.Z b→B≤b∨wb.Z b)∧BelowZ B wb.Z wb.w wl.w∧wl.f=wb.f:=by
       rintro e1 s2 x a' w' ⟨-,Dd,K,Z,ι,ha',g1,g2,g3,g4,g5,g6,g7,g8,g9⟩
       have hd1:a1.defers=[]:=hr1.defers.trans hDf
       refine⟨Dd,⟨w',K,Z,wb.f,wb.G,a'.defers⟩,⟨_,(g5.fOf g6).sw2 hm⟩,rfl, ?_,rfl,g1,g2,g3,g4,g7,g8,g9,rfl⟩
       rw[ha',hd1]
      have tail:∀s2 a' w',(∃Dd wl,SRel N wl.w.heap.size wl (stPi Abs.sw2 s2) a' w'∧wl.w=w'∧wl.Df=[{target:= .collected Dd,args:= #[]}]∧wl.G=wb.G∧wl.w.heap[Dd]? =some (.deferred (some []))∧¬wl.K Dd∧¬wl.Z Dd∧B≤Dd∧
        (∀k,k<wl.w.heap.size→wl.K k→wb.K k)∧(∀b,wl.Z b→B≤b∨wb.Z b)∧BelowZ B wb.Z wb.w wl.w∧wl.f=wb.f)→runC P call an N rest (stPi Abs.sw2 s2)=some (e,s')→rest.wpIn Fence.wide n P (RgEnd N B wb e s') a' w':=by
       rintro s2 a' w' ⟨Dd,wl,g0,rfl,g1,g2,g3⟩ hrest
       refine wpIn_mono (wpIn_wide.2 (runC_sound hmix hcall (g2.trans hG) rest k4 _ _ _ _ _ hrest g0)) ?_
       rintro ex a2 w2 ⟨rfl,hr⟩
       exact⟨rfl,.inr ⟨Dd,wl,hr,g1,g2,g3⟩⟩
      show(Code.block id (.rangeFunc (.tmp g) ps assign body)).wpIn Fence.wide n P _ a1 w1
      apply wpIn_block
      cases hrun:rgRun (roundR (runC P call an N assign) (runC P call an N body) ps.toList) xs (killAll ids (stPi Abs.sw2 s1)) with
      |none=>rw[hrun] at h;cases h
      |some q=>
       obtain⟨e1,s2⟩:=q
       rw[hrun] at h
       refine wpIn_mono (key e1 s2 hrun) ?_
       intro x a' w' hp
       have hx:=hp.1
       subst hx
       have ha:=after e1 s2 _ a' w' hp
       cases e1 with
       |norm=>exact tail s2 a' w' ha h
       |ret=>
        cases h
        obtain⟨Dd,wl,g0,_,g1⟩:=ha
        exact⟨rfl,.inr ⟨Dd,wl,g0,g1⟩⟩
       |ex j=>
        simp only[rgE] at h
        split at h
        ·rename_i hj
         subst hj
         simp only[E.toExit,Exit.inBlock,if_true]
         exact tail s2 a' w' ha h
        ·cases h
     ·cases h
    ·cases h
   ·cases h
  ·cases h
 |case2 x y hx ih=>
  intro hok s e s' a w h hrel
  simp only[Bool.and_eq_true] at hok
  have h':andThen (runC P call an N x s) (runRg (runC P call an N) its y)=some (e,s'):=by
   rw[←h,runRg]
   exact fun r id g ps assign body hh=>hx r id g ps assign body hh
  exact plain x y hok.1 (ih hok.2) s e s' a w h' hrel
 |case3=>intro hok;cases hok
def noMid:List (Nat×O)→Bool
 |[]=>true
 |(k,_)::r=>!(decide (2000≤k)&&decide (k<2100))&&noMid r
theorem noMid_get:∀{l:List (Nat×O)},noMid l=true→∀id,2000≤id→id<2100→getH l id=none
 |[],_,_,_,_=>rfl
 |(k,o)::r,h,id,h1,h2=>by
  simp only[noMid,Bool.and_eq_true,Bool.not_eq_true',Bool.and_eq_false_iff,decide_eq_false_iff_not] at h
  unfold getH
  rw[if_neg (by omega)]
  exact noMid_get h.2 id h1 h2
def endRg(P:Program)(an:Ann)(rs:List ResultVar):OS→Option (D×List (Nat×O))
 |some (.norm,s)=>prunedE an (resultE P (headOf an.rets s) rs)
 |some (.ret,s)=>prunedE an (resultE P s rs)
 |_=>none
noncomputable def runRgE(P:Program)(run:Code→St→OS)(an:Ann)(N:Nat)(its:FuncId→List D→Option (List RX))(body:Code)(rs:List ResultVar)(hs:List (Nat×O))(ds:List D):Option (D×List (Nat×O)):=
 if ds.length≤N∧noMid hs=true then endRg P an rs (runRg run its body (initE an hs ds)) else none
theorem contractRg_of(hmix:P.follows .mixedOrders=true){f:FuncId}{fn:Func}{body:Code}(hf:P.funcs[f]? =some fn)(hb:fn.body=some body)(hname:(fn.name== "runtime.NumGoroutine")=false)(hok:okRg an fn.ntmps body=true)
  (hN:fn.ntmps≤1000)(hcall:CTok P call){its:FuncId→List D→Option (List RX)}(hits:∀gf lb xs,its gf lb=some xs→IterOK P call.g gf lb xs)
  {hs:List (Nat×O)}{ds:List D}{r:D}{hs':List (Nat×O)}(h:runRgE P (runC P call an fn.ntmps) an fn.ntmps its body fn.results.toList hs ds=some (r,hs')):ContractE P call.g f hs ds r hs':=by
 refine⟨fun args w=>?_,fun w ι args hobjs hglob hargs=>callsIn_wide.1 (callsIn_of_wp_marks (n:=0) hf hb trivial ?_)⟩
 ·have hn:¬fn.name= "runtime.NumGoroutine" :=by simpa using hname
  simp[callFunc,hf,hn,hb]
 unfold runRgE at h
 split at h
 ·rename_i hle
  have hrel:SRel fn.ntmps w.heap.size ⟨w,ι.K,ι.Z,ι.f,call.g,[]⟩ (initE an hs ds) {tmps:=args++Array.replicate (fn.ntmps-args.size) undef,defers:=[]} w:=by
   refine⟨ι,{
    defers:=rfl
    size:=by have:=hargs.1;simp;omega
    tmp:=fun t=>?_
    obj:=hobjs.obj
    dom:=hobjs.dom
    inj:=hobjs.inj
    below:=BelowZ.refl _ _ _
    base:=Nat.le_refl _
    fresh:=hobjs.fresh
    kk:=rfl
    zz:=rfl
    k0:=fun id v hv _ _=> .inr hv
    nn:=hN
    glob:=hglob}⟩
   simp only[initE,argsT_get,keepT_get]
   split
   ·rename_i ht
    have hlt:t<ds.length:=by omega
    have hd:ds[t]? =some ds[t]:=List.getElem?_eq_getElem hlt
    have hal:t<args.size:=by rw[hargs.1];exact hlt
    have hav:args[t]? =some args[t]:=Array.getElem?_eq_getElem hal
    have hr:=hargs.2 t _ _ hav hd
    have e1:(args++Array.replicate (fn.ntmps-args.size) undef).getD t undef=args[t]:=by
     simp[Array.getElem?_append_left hal,hav]
    rw[e1]
    simp only[Nat.sub_zero,List.getD,hd,Option.getD_some]
    exact hr
   ·exact .inl (.inl (.any _))
  have hmid:∀id,2000≤id→id<2100→ι id=none:=fun id h1 h2=>by
   cases hv:ι id with
   |none=>rfl
   |some v=>
    obtain⟨o,ho⟩:=hobjs.dom id v hv
    rw[noMid_get hle.2 id h1 h2] at ho;cases ho
  have fin:∀e s s1,runRg (runC P call an fn.ntmps) its body (initE an hs ds)=some (e,s)→(e= .norm∨e= .ret)→(s1=s∨s1=headOf an.rets s)→prunedE an (resultE P s1 fn.results.toList)=some (r,hs')→
    body.wpIn Fence.wide 0 P (bodyPostM Fence.wide 0 P fn (fun e w'=>EPost w ι r hs' e w')) {tmps:=args++Array.replicate (fn.ntmps-args.size) undef,defers:=[]} w:=by
   intro e s s1 hrun he hs1 hpr
   obtain⟨d0,h0,hres⟩:∃d0 h0,resultE P s1 fn.results.toList=some (d0,h0):=by
    cases hx:resultE P s1 fn.results.toList with
    |none=>rw[hx] at hpr;cases hpr
    |some p=>exact⟨p.1,p.2,rfl⟩
   rw[hres] at hpr
   refine wpIn_mono (wpRg hmix hcall rfl rfl hmid hits 0 body hok _ _ _ _ _ hrun hrel) ?_
   rintro x a' w' ⟨rfl,hend⟩
   have goal:LeavesInM Fence.wide 0 P fn a'.tmps (fun e w'=>EPost w ι r hs' e w') a'.defers .returning w':=by
    rcases hend with hr|⟨Dd,w1,hr,g1,g2,g3,g4,g5,g6,g7,g8,g9,g10⟩
    ·have hr1:SRel fn.ntmps w.heap.size ⟨w,ι.K,ι.Z,ι.f,call.g,[]⟩ s1 a' w':=by
      rcases hs1 with rfl|rfl
      ·exact hr
      ·exact headOf_sound _ hr
     obtain⟨ι',hr⟩:=hr1
     obtain⟨rfl,v,hv,hrep⟩:=resultE_sound hr hres
     obtain⟨ι2,k1,k2,k3,k4,k5⟩:=prunedE_sound an (ι0:=ι) rfl hpr ⟨hr.obj,hr.dom,hr.inj,hr.fresh⟩ hrep hr.k0
     rw[hr.defers]
     exact⟨v,hv,v,ι2,rfl,hr.below,k1.trans hr.kk,k2.trans hr.zz,k3,k4,k5⟩
    ·have hr1:SRel fn.ntmps w1.w.heap.size w1 s1 a' w':=by
      rcases hs1 with rfl|rfl
      ·exact hr
      ·exact headOf_sound _ hr
     obtain⟨ι',hr⟩:=hr1
     have hDlt:=(Array.getElem?_eq_some_iff.1 g3).1
     have hD:w'.heap[Dd]? =some (.deferred (some [])):=(hr.below.block Dd hDlt g5).trans g3
     have hDlt':=(Array.getElem?_eq_some_iff.1 hD).1
     rw[hr.defers,g1]
     refine⟨by simp,.inl ⟨Dd,_,rfl,run_takeDeferred hD, ?_⟩⟩
     have hr2:Rel fn.ntmps w1.w.heap.size {w1 with w:=w1.w.putObj Dd (.deferred none)} ι' (getT s1.t) (getH s1.h) a' (w'.putObj Dd (.deferred none)):=by
      refine hr.same (v0:=w1.w.putObj Dd (.deferred none)) (by simp) (fun k hk hkK=>World.putObj_heap_other (fun e=>?_)) ⟨hr.below.os,hr.below.tape,hr.below.output,by simpa using hr.below.size,fun k hk hz=>?_⟩
      ·subst e
       rw[hr.kk] at hkK
       exact g4 hkK
      ·by_cases e:k=Dd
       ·subst e
        rw[World.putObj_heap_same hDlt',World.putObj_heap_same hDlt]
       ·rw[World.putObj_heap_other e,World.putObj_heap_other e]
        exact hr.below.block k hk hz
     obtain⟨rfl,v,hv,hrep⟩:=resultE_sound hr2 hres
     obtain⟨ι2,k1,k2,k3,k4,k5⟩:=prunedE_sound an (ι0:=ι) rfl hpr ⟨hr2.obj,hr2.dom,hr2.inj,hr2.fresh⟩ hrep (fun id v hv=>hr2.k0 id v (by show w1.f id=some v;rw[g10];exact hv))
     refine⟨v,hv,v,⟨ι2.f,ι.K,ι.Z⟩,rfl, ?_,rfl,rfl, ?_⟩
     ·refine⟨hr.below.os.trans g9.os,hr.below.tape.trans g9.tape,hr.below.output.trans g9.output,by simpa using Nat.le_trans g9.size hr.below.size,fun k hk hz=>?_⟩
      have hks:k<w1.w.heap.size:=Nat.lt_of_lt_of_le hk g9.size
      rw[World.putObj_heap_other (by omega),hr.below.block k hks (fun h=>(g8 k h).elim (fun h=>by omega) hz)]
      exact g9.block k hk hz
     ·have hK2:ι2.K=w1.K:=k1.trans hr2.kk
      have hZ2:ι2.Z=w1.Z:=k2.trans hr2.zz
      have hw2:∀b,wrB w1.w.heap.size ι2 b→wrB w.heap.size ⟨ι2.f,ι.K,ι.Z⟩ b:=fun b hb=>by
       rcases hb with hb|hb
       ·exact .inl (Nat.le_trans g9.size hb)
       ·rw[hZ2] at hb;exact g8 b hb
      have hKK:∀b,ι2.K b→ι.K b:=fun b hb=>by
       rw[hK2] at hb
       by_cases hl:b<w1.w.heap.size
       ·exact g7 b hl hb
       ·exact hobjs.fresh b (.inl (Nat.le_trans g9.size (by omega)))
      have hok:∀b,b<(w'.putObj Dd (.deferred none)).heap.size→okB ι2 b→okB ⟨ι2.f,ι.K,ι.Z⟩ b∧(w'.putObj Dd (.deferred none)).heap[b]? =(w'.putObj Dd (.deferred none)).heap[b]? :=fun b _ ho=>⟨⟨hKK b ho.1,ho.2⟩,rfl⟩
      have hfr:∀b,b<(w'.putObj Dd (.deferred none)).heap.size→frB w1.w.heap.size ι2 b→frB w.heap.size ⟨ι2.f,ι.K,ι.Z⟩ b∧(w'.putObj Dd (.deferred none)).heap[b]? =(w'.putObj Dd (.deferred none)).heap[b]? :=
       fun b hb ho=>⟨⟨hw2 b ho.1,(hok b hb ho.2).1⟩,rfl⟩
      have h1:∀{v d},Rep1 (w'.putObj Dd (.deferred none)) w1.w.heap.size ι2 v d→Rep1 (w'.putObj Dd (.deferred none)) w.heap.size ⟨ι2.f,ι.K,ι.Z⟩ v d:=fun h=>h.imp (fun h=>h.mono (Nat.le_refl _) hok hfr) id
      refine⟨⟨fun id o ho=>?_,k3.dom,k3.inj,hobjs.fresh⟩, ?_,k5⟩
      ·obtain⟨v,hv,hob⟩:=k3.obj id o ho
       refine⟨v,hv, ?_⟩
       cases o with
       |box ty cs=>
        obtain⟨b,cur,e1,e2,e3,e4,e5⟩:=hob
        exact⟨b,cur,e1,hw2 b e2,e3,e4,fun j c d hc hd=>⟨h1 (e5 j c d hc hd).1,(e5 j c d hc hd).2⟩⟩
       |row ety sz fl es=>
        obtain⟨xs,e1,e2,e3,e4,e5⟩:=hob
        exact⟨xs,e1,⟨e2.1,fun b hb=>hw2 b (e2.2 b hb)⟩,e3,fun i e j d c he hd hc=>(e4 i e j d c he hd hc).mono (Nat.le_refl _) hok hfr,e5⟩
       |mp es=>
        obtain⟨rr,ms,ck,e1,e2,e3⟩:=hob
        exact⟨rr,ms,ck,e1,hw2 rr e2,e3⟩
      ·have:=k4.mapT (w':=w'.putObj Dd (.deferred none)) (B':=w.heap.size) (ι':=⟨ι2.f,ι.K,ι.Z⟩) (f:=fun d=>d) (fun v d h _=>h1 h) (fun v cs h=>h1 (.inl h))
       rwa[mapT_id] at this
   rcases he with rfl|rfl
   ·exact goal
   ·exact goal
  unfold endRg at h
  split at h
  ·rename_i s hs
   exact fin _ s _ hs (.inl rfl) (.inr rfl) h
  ·rename_i s hs
   exact fin _ s _ hs (.inr rfl) (.inl rfl) h
  ·cases h
 ·cases h
end
theorem inCode_loops:∀{c:Code},inCode c=true→loopsIn c=[]
 | .skip,_=>rfl
 | .exit _,_=>rfl
 | .ret,_=>rfl
 | .label _,_=>rfl
 | .region _ _ _,_=>rfl
 | .seq x y,h=>by
  simp only[inCode,Bool.and_eq_true] at h
  simp[loopsIn,inCode_loops h.1,inCode_loops h.2]
 | .cond (.tmp t) x y,h=>by
  simp only[inCode,Bool.and_eq_true] at h
  simp[loopsIn,inCode_loops h.1,inCode_loops h.2]
 | .block _ x,h=>by
  simp only[inCode] at h
  simp[loopsIn,inCode_loops h]
section
variable {P:Program}{G:Nat→Option (List D)}{k:Pk}{its:FuncId→List D→Option (List RX)}
theorem runRg_eq{call:CT}{an:Ann}{N:Nat}{body:Code}(hl:okLoops body=true):∀(c:Code),okRg an N c=true→(∀x∈loopsIn c,x∈loopsIn body)→∀s,runRg (runS P call (atH P call an N body bigL) an N) its c s=runRg (runC P call an N) its c s:=by
 intro c
 fun_induction okRg an N c with
 |case1 r id g ps assign body' rest=>
  intro hok hs s
  simp only[Bool.and_eq_true] at hok
  obtain⟨⟨⟨⟨k1,k2⟩,k3⟩,k4⟩,k5⟩:=hok
  unfold runRg
  have e1:=runS_eq (P:=P) (call:=call) (an:=an) (N:=N) hl r (fun z hz=>hs z (by simp[loopsIn,hz]))
  have e2:runS P call (atH P call an N body bigL) an N rest=runC P call an N rest:=funext (runS_eq hl rest (fun z hz=>hs z (by simp[loopsIn,hz])))
  have e3:runS P call (atH P call an N body bigL) an N assign=runC P call an N assign:=funext (runS_eq hl assign (fun z hz=>by rw[inCode_loops k2] at hz;cases hz))
  have e4:runS P call (atH P call an N body bigL) an N body'=runC P call an N body':=funext (runS_eq hl body' (fun z hz=>by rw[inCode_loops k3] at hz;cases hz))
  rw[e1,e2,e3,e4]
 |case2 x y hx ih=>
  intro hok hs s
  simp only[Bool.and_eq_true] at hok
  have q:∀run:Code→St→OS,runRg run its (x.seq y) s=andThen (run x s) (runRg run its y):=fun run=>by
   rw[runRg]
   exact fun r id g ps assign body hh=>hx r id g ps assign body hh
  rw[q,q,runS_eq hl x (fun z hz=>hs z (by simp[loopsIn,hz])),funext (ih hok.2 (fun z hz=>hs z (by simp[loopsIn,hz])))]
 |case3=>intro hok;cases hok
variable (P G k its) in
noncomputable def RgP(hs:List (Nat×O))(ds:List D):Option (D×List (Nat×O)):=runRgE P (runC P (ctP G k) k.an k.N) k.an k.N its (bodyOf k.fn) k.rs hs ds
variable (P G k) in
noncomputable def RRP:St→RX→OS:=rdOf (runS P (ctP G k) (HP P G k bigL) k.an k.N) (bodyOf k.fn)
theorem RRP_eq(s:St)(x:RX):RRP P G k s x=rdOf (runS P (ctP G k) (HP P G k bigL) k.an k.N) (bodyOf k.fn) s x:=Eq.trans rfl rfl
variable (P G k its) in
@[simp] noncomputable def RgGP(hs:List (Nat×O))(ds:List D):Option (D×List (Nat×O)):=
 if ds.length≤k.N∧noMid hs=true then endRg P k.an k.rs (runRd (runS P (ctP G k) (HP P G k bigL) k.an k.N) its (RRP P G k) (bodyOf k.fn) (initE k.an hs ds)) else none
def okPkR(k:Pk):Bool:=k.fn.body.isSome&&!(k.fn.name== "runtime.NumGoroutine")&&okRg k.an k.N (bodyOf k.fn)&&decide (k.fn.ntmps≤1000)&&(k.N==k.fn.ntmps)
theorem RgP_eq(h:(okPkR k&&okLoops (bodyOf k.fn))=true)(hs:List (Nat×O))(ds:List D):RgP P G k its hs ds=RgGP P G k its hs ds:=by
 simp only[okPkR,Bool.and_eq_true] at h
 unfold RgP RgGP runRgE RRP
 rw[runRd_eq]
 have:=runRg_eq (P:=P) (its:=its) (call:=ctP G k) h.2 (bodyOf k.fn) h.1.1.1.2 (fun _ h=>h) (initE k.an hs ds)
 unfold HP
 rw[this]
theorem CERg(hmix:P.follows .mixedOrders=true){f:FuncId}{fn:Func}(hf:P.funcs[f]? =some fn)(h1:k.fn=fn)(h2:k.rs=fn.results.toList)(h:okPkR k=true)(hc:CallsOk P G k.cl)(he:CallsOkE P G k.ce)
  (hits:∀gf lb xs,its gf lb=some xs→IterOK P G gf lb xs):CEn P G f (RgP P G k its):=by
 intro hs ds r hs' hr
 unfold okPkR at h
 simp only[Bool.and_eq_true,Bool.not_eq_true',decide_eq_true_eq,beq_iff_eq] at h
 obtain⟨⟨⟨⟨q0,q2⟩,q3⟩,q4⟩,q5⟩:=h
 have q1:k.fn.body=some (bodyOf k.fn):=by
  unfold bodyOf
  cases hb:k.fn.body with
  |none=>rw[hb] at q0;cases q0
  |some b=>rfl
 subst h1
 unfold RgP at hr
 rw[q5] at hr q3
 rw[h2] at hr
 exact contractRg_of hmix hf q1 q2 q3 q4 (call:=ctP G k) ⟨callOf_ok _ hc,callOfE_ok _ he⟩ hits hr
end
attribute [simp] lowK lowB roundR okHead noOwn1 noOwnA noOwnO noOwnT noOwnH noOwnS maskR maskD1 refsA refsC refs1 setTs boxesOf killAll rgZ rgY rgX rgW runRd rdOf noMid
section
variable (rd:St→RX→OS)(fr:St→OS)(id:Nat)(s:St)(P:Program)(an:Ann)(rs:List ResultVar)(f:St→OS)(x:RX)(r:List RX)
@[simp] theorem lowO_some(e:E):lowO (some (e,s))=some (e,lowK s.h s):=Eq.trans rfl rfl
@[simp] theorem lowO_ite{c:Prop}[Decidable c](a b:OS):lowO (if c then a else b)=if c then lowO a else lowO b:=by split<;>rfl
@[simp] theorem normThen_norm:normThen (some (.norm,s)) f=f s:=Eq.trans rfl rfl
@[simp] theorem normThen_ite{c:Prop}[Decidable c](a b:OS):normThen (if c then a else b) f=if c then normThen a f else normThen b f:=by split<;>rfl
@[simp] theorem rgE_norm:rgE fr id (some (.norm,s))=fr (stPi sw2 s):=Eq.trans rfl rfl
@[simp] theorem rgE_ret:rgE fr id (some (.ret,s))=some (.ret,stPi sw2 s):=Eq.trans rfl rfl
@[simp] theorem rgE_ex(j:Nat):rgE fr id (some (.ex j,s))=if j=id then fr (stPi sw2 s) else none:=Eq.trans rfl rfl
@[simp] theorem rgE_ite{c:Prop}[Decidable c](a b:OS):rgE fr id (if c then a else b)=if c then rgE fr id a else rgE fr id b:=by split<;>rfl
@[simp] theorem endRg_norm:endRg P an rs (some (.norm,s))=prunedE an (resultE P (headOf an.rets s) rs):=Eq.trans rfl rfl
@[simp] theorem endRg_ret:endRg P an rs (some (.ret,s))=prunedE an (resultE P s rs):=Eq.trans rfl rfl
@[simp] theorem endRg_ite{c:Prop}[Decidable c](a b:OS):endRg P an rs (if c then a else b)=if c then endRg P an rs a else endRg P an rs b:=by split<;>rfl
def rgN(r:List RX)(s:St):OS→OS
 |some (.norm,s2)=>if okHead s s2=true then rgRun rd r ⟨maskR s2.h s.t,s2.h⟩ else none
 |some (e,s2)=>if okHead s s2=true then some (e,⟨maskR s2.h s.t,s2.h⟩) else none
 |none=>none
theorem rgRun_nil:rgRun rd [] s=some (.norm,s):=rfl
theorem rgRun_cons:rgRun rd (x::r) s=rgN rd r s (rd s x):=rfl
@[simp] theorem rgN_norm(s2:St):rgN rd r s (some (.norm,s2))=if okHead s s2=true then rgRun rd r ⟨maskR s2.h s.t,s2.h⟩ else none:=Eq.trans rfl rfl
@[simp] theorem rgN_ret(s2:St):rgN rd r s (some (.ret,s2))=if okHead s s2=true then some (.ret,⟨maskR s2.h s.t,s2.h⟩) else none:=Eq.trans rfl rfl
@[simp] theorem rgN_ite{c:Prop}[Decidable c](a b:OS):rgN rd r s (if c then a else b)=if c then rgN rd r s a else rgN rd r s b:=by split<;>rfl
end
theorem ContractE.pi{P:Program}{G:Nat→Option (List D)}{f:FuncId}{hs:List (Nat×O)}{ds:List D}{r:D}{hs':List (Nat×O)}{π:Nat→Nat}(hπ:∀k,π (π k)=k)(hfix:∀id,1000≤id→id<10000→π id=id)
  (h:ContractE P G f hs ds r hs'):ContractE P G f hs ds (mapT (piD π) r) (hs'.map fun p=>(π p.1,piO π p.2)):=by
 refine⟨h.1,fun w ι args h1 h2 h3=>Calls.mono (h.2 w ι args h1 h2 h3) ?_⟩
 rintro e w' ⟨v,ι',rfl,g1,g2,g3,g4,g5,g6⟩
 refine⟨v,piI π ι',rfl,g1,g2,g3,⟨fun id o ho=>?_,fun id v hv=>?_,fun id id' v v' b e1 e2 e3 e4=>?_,g4.fresh⟩,g5.pi hπ,fun id v hv l1 l2=>?_⟩
 ·rw[getH_pi hπ] at ho
  simp only[Option.map_eq_some_iff] at ho
  obtain⟨o',ho,rfl⟩:=ho
  obtain⟨v,hv,hr⟩:=g4.obj _ _ ho
  exact⟨v,hv,hr.pi hπ⟩
 ·obtain⟨o,ho⟩:=g4.dom (π id) v hv
  exact⟨_,by rw[getH_pi hπ,ho];rfl⟩
 ·have:=congrArg π (g4.inj (π id) (π id') v v' b e1 e2 e3 e4)
  rwa[hπ,hπ] at this
 ·show ι' (π id)=none∨ι' (π id)=some v
  rw[hfix id l1 l2]
  exact g6 id v hv l1 l2
noncomputable def EPi(π:Nat→Nat)(E:ED)(hs:List (Nat×O))(ds:List D):Option (D×List (Nat×O)):=match E hs ds with
 |some (r,hs')=>some (mapT (piD π) r,hs'.map fun p=>(π p.1,piO π p.2))
 |none=>none
theorem EPi_ok{P:Program}{G:Nat→Option (List D)}{f:FuncId}{π:Nat→Nat}{E:ED}(hπ:∀k,π (π k)=k)(hfix:∀id,1000≤id→id<10000→π id=id)(hE:CEn P G f E):CEn P G f (EPi π E):=by
 intro hs ds r hs' h
 unfold EPi at h
 split at h
 ·rename_i r0 h0 h1
  cases h
  exact(hE _ _ _ _ h1).pi hπ hfix
 ·cases h
@[simp] def swA(a b k:Nat):Nat:=if k=a then b else if k=b then a else k
theorem swA_swA(a b k:Nat):swA a b (swA a b k)=k:=by
 unfold swA
 split
 ·rename_i h
  subst h
  by_cases e:b=k
  ·rw[if_pos e];exact e
  ·rw[if_neg e,if_pos rfl]
 ·split
  ·rename_i h;rw[if_pos rfl];exact h.symm
  ·rfl
end Go.Abs
namespace Go.Abs
open Go Go.RowKit
section
variable {P:Program}{B:Nat}{N:Nat}{w0:Bs}{call:CT}{an:Ann}{a:Act}{w:World}
theorem Oper.wp.inWide{o:Oper}{K:Act→World→Prop}{Q:Exit→Act→World→Prop}(hd:∀c,o.op≠ .defer c)(h:o.wp P a w K Q)(n:Nat):o.wpIn Fence.wide n P a w K Q:=by
 refine⟨fun _ _=>trivial, ?_⟩
 unfold Oper.wp at h
 rw[Oper.semAt_eq _ _ _ hd]
 generalize(execOp a.eval o).run P w=x at*
 cases x with
 |halt s w'=>cases s<;>first|exact h|exact h.elim
 |ok nx w'=>
  cases nx with
  |value v=>exact h
  |skip=>exact h
  |defer d=>exact h
  |enter f args=>exact⟨fun hn=>(by cases hn),callsIn_wide.2 h⟩
  |row row args=>
   refine⟨fun hn=>(by cases hn),fun c cs _=>?_⟩
   obtain⟨v,w'',r,s⟩:=h c cs
   exact⟨v,w'',r,stepsIn_wide.2 s⟩
  |_=>exact h.elim
theorem runSeq_soundW(hcall:CTok P call)(hG:w0.G=call.g){ops:Array Oper}(hnd:noDefer ops=true)(n:Nat){Q:Exit→Act→World→Prop}{s':St}(tail:List Nat)(hk:∀a' w',SRel N B w0 s' a' w'→wpOpsIn Fence.wide n P ops Q tail a' w'):
  ∀(l:List Oper) (k:Nat) (s:St) (a:Act) (w:World),(∀j,j<l.length→l[j]? =ops[k+j]?)→SRel N B w0 s a w→runSeq P call an N ops l s=some s'→wpOpsIn Fence.wide n P ops Q (List.range' k l.length++tail) a w
 |[],k,s,a,w,_,h,hs=>by
  cases hs
  exact hk _ _ h
 |o::l,k,s,a,w,hl,h,hs=>by
  unfold runSeq at hs
  split at hs
  ·rename_i s1 h1
   have h0:ops[k]? =some o:=by have:=hl 0 (by simp);simpa using this.symm
   have next:∀a' w',SRel N B w0 s1 a' w'→wpOpsIn Fence.wide n P ops Q (List.range' (k+1) l.length++tail) a' w':=fun a' w' h'=>
    runSeq_soundW hcall hG hnd n tail hk l (k+1) s1 a' w' (fun j hj=>by have:=hl (j+1) (by simpa using hj);simpa[Nat.add_assoc,Nat.add_comm 1 j] using this) h' hs
   rw[List.length_cons,List.range'_succ,List.cons_append]
   unfold wpOpsIn
   simp only[h0]
   unfold stepG at h1
   obtain⟨ι,hrel⟩:=h
   split at h1
   ·rename_i hg
    rw[if_pos (guard_sound hrel hg)]
    exact Oper.wp.inWide (noDefer_get hnd h0) (eop_sound hcall hG ⟨ι,hrel⟩ h1 next) n
   ·rename_i hg
    rw[if_neg (by rw[guard_sound hrel hg];simp)]
    refine⟨fun _ _=>trivial, ?_⟩
    split at h1
    ·rename_i t hd
     split at h1
     ·rename_i ht
      cases h1
      rw[hd]
      exact next _ _ (SRel.good_put hrel ht ⟨Below.refl _ _,.inl (.inl (.x _))⟩)
     ·cases h1
    ·rename_i hd
     cases h1
     rw[hd,put_none]
     exact next _ _ ⟨ι,hrel⟩
   ·cases h1
  ·cases hs
end
def valC:List D→Option (List Value)
 |[]=>some []
 | .x v::r=>(valC r).map (v::·)
 |_=>none
def valD:D→Option Value
 | .x v=>some v
 | .agg ds=>(valC ds).map fun l=> .agg l.toArray
 |_=>none
def valL:List D→Option (List Value)
 |[]=>some []
 |d::r=>match valD d,valL r with
  |some v,some l=>some (v::l)
  |_,_=>none
theorem valC_rep{w:World}{B:Nat}{ι:Inj}:∀{ds:List D} {l:List Value},valC ds=some l→∀{cs:List Value},cs.length=ds.length→(∀(i:Nat) (c:Value) (d:D),cs[i]? =some c→ds[i]? =some d→Rep1 w B ι c d)→cs=l
 |[],l,h,cs,hl,_=>by cases h;exact List.eq_nil_of_length_eq_zero hl
 |d::r,l,h,[],hl,_=>by simp at hl
 |d::r,l,h,c::cs,hl,hr=>by
  cases d with
  |x v=>
   simp only[valC,Option.map_eq_some_iff] at h
   obtain⟨l',h',rfl⟩:=h
   have e1:=valC_rep (w:=w) (B:=B) (ι:=ι) h' (cs:=cs) (by simpa using hl) (fun i c d hc hd=>hr (i+1) c d (by simpa using hc) (by simpa using hd))
   have e2:=(hr 0 c (.x v) rfl rfl).x_inv
   rw[e1,e2]
  |_=>cases h
theorem valD_rep{w:World}{B:Nat}{ι:Inj}{d:D}{u v:Value}(h:valD d=some u)(hr:Rep w B ι v d):v=u:=by
 cases d with
 |x x=>cases h;exact hr.x_inv
 |agg ds=>
  simp only[valD,Option.map_eq_some_iff] at h
  obtain⟨l,h,rfl⟩:=h
  obtain⟨cs,rfl,h1,h2⟩:=hr.agg_inv
  have:=valC_rep h (cs:=cs.toList) (by simpa using h1) (fun i c d hc hd=>h2 i c d (by simpa using hc) hd)
  subst this
  rfl
 |_=>cases h
theorem valL_eval{N B:Nat}{w0:Bs}{ι:Inj}{ρ:Nat→D}{η:Nat→Option O}{a:Act}{w:World}(h:Rel N B w0 ι ρ η a w):∀{xs:List Operand} {l:List Value},valL (xs.map (ev ρ))=some l→xs.map a.eval=l
 |[],l,e=>by cases e;rfl
 |x::r,l,e=>by
  simp only[List.map_cons,valL] at e
  split at e
  ·rename_i v l' h1 h2
   cases e
   rw[List.map_cons,valD_rep h1 (h.ev x),valL_eval h h2]
  ·cases e
abbrev YR:=Option (List RX)
@[simp] def endF(an:Ann)(ops:List Oper)(s:St):St:=endR an s ops
section
variable (run:Code→St→OS)(rops:List Oper→St→Option St)(fin:St→St)
def yA(b0:Nat)(k:St→YR):OS→YR
 |some (.ex b,_)=>if b=b0 then some [] else none
 |some (.norm,s)=>k s
 |_=>none
def yN(k:St→YR):OS→YR
 |some (.norm,s)=>k s
 |_=>none
def yO(k:St→YR):Option St→YR
 |some s=>k s
 |none=>none
def yE:OS→Bool
 |some (.ret,_)=>true
 |_=>false
def yF(C6:Code):Option St→Bool
 |some s=>yE (run C6 (fin s))
 |none=>false
def yC(x:RX):YR→YR
 |some l=>some (x::l)
 |none=>none
def yH(lv:Option (List Nat))(k:St→YR)(s:St):YR:=k (headOf lv s)
def yR3(R3:Code)(lv:Option (List Nat))(k:St→YR)(s:St):YR:=yN (yH lv k) (run R3 s)
def yR(x:RX)(rest R3:Code)(lv:Option (List Nat))(k:St→YR):OS→YR
 |some (.ret,_)=>some [x]
 |some (.norm,s)=>yC x (yN (yR3 run R3 lv k) (run rest s))
 |_=>none
def yT(x:RX)(C6 rest R3:Code)(lv:Option (List Nat))(k:St→YR):Option St→YR
 |some s=>yR run x rest R3 lv k (run C6 (fin s))
 |none=>none
def isYield(l:Nat):D→Bool
 | .x (.func (.yield k) f c)=>decide (k=l)&&decide (f.size=0)&&decide (c.size=0)
 |_=>false
def yX(td:Nat)(l2:List Oper)(C6 rest R3:Code)(lv:Option (List Nat))(k:St→YR)(s:St):Option (List Value)→YR
 |some x=>if yF run fin C6 (rops l2 (s.put td (.x (.bool false))))=true then yT run fin x C6 rest R3 lv k (rops l2 (s.put td (.x (.bool true)))) else none
 |none=>none
def yY(l ty td:Nat)(args:List Operand)(l2:List Oper)(C6 rest R3:Code)(lv:Option (List Nat))(k:St→YR)(s:St):YR:=
 if noOwnS s=true∧isYield l (getT s.t ty)=true then yX run rops fin td l2 C6 rest R3 lv k s (valL (args.map (ev (getT s.t)))) else none
def y3(l:Nat)(l1:List Oper)(ty td:Nat)(args:List Operand)(l2:List Oper)(C6 rest R3:Code)(lv:Option (List Nat))(k:St→YR)(s:St):YR:=yO (yY run rops fin l ty td args l2 C6 rest R3 lv k) (rops l1 s)
def y2(l:Nat)(D2:Code)(l1:List Oper)(ty td:Nat)(args:List Operand)(l2:List Oper)(C6 rest R3:Code)(lv:Option (List Nat))(k:St→YR)(s:St):YR:=yN (y3 run rops fin l l1 ty td args l2 C6 rest R3 lv k) (run D2 s)
def y1(l:Nat)(D1 D2:Code)(l1:List Oper)(ty td:Nat)(args:List Operand)(l2:List Oper)(C6 rest R3:Code)(lv:Option (List Nat))(k:St→YR)(s:St):YR:=yN (y2 run rops fin l D2 l1 ty td args l2 C6 rest R3 lv k) (run D1 s)
def yStep(l b0:Nat)(C1 D1 D2:Code)(l1:List Oper)(ty td:Nat)(args:List Operand)(l2:List Oper)(C6 rest R3:Code)(lv:Option (List Nat))(k:St→YR)(s:St):YR:=
 if noOwnS s=true then yA b0 (y1 run rops fin l D1 D2 l1 ty td args l2 C6 rest R3 lv k) (run C1 s) else none
def yRun(l b0:Nat)(C1 D1 D2:Code)(l1:List Oper)(ty td:Nat)(args:List Operand)(l2:List Oper)(C6 rest R3:Code)(lv:Option (List Nat)):Nat→St→YR
 |0,_=>none
 |n+1,s=>yStep run rops fin l b0 C1 D1 D2 l1 ty td args l2 C6 rest R3 lv (yRun l b0 C1 D1 D2 l1 ty td args l2 C6 rest R3 lv n) s
end
def ItF(N:Nat)(G:Nat→Option (List D))(K0:Nat→Prop)(J:(Nat→Prop)→List RX→World→Prop)(s:St)(pre:List RX)(a:Act)(W:World):Prop:=
 ∃Y K Z ι,Rel N W.heap.size ⟨W,K,Z,ι.f,G,[]⟩ ι (getT s.t) (getH s.h) a W∧(∀k,k<W.heap.size→K k→K0 k∨Y k)∧(∀b,Z b→Y b)∧J Y pre W
section
variable {P:Program}{call:CT}{an:Ann}{N:Nat}{K0:Nat→Prop}{J Jx:(Nat→Prop)→List RX→World→Prop}{a a':Act}{W W':World}{pre:List RX}{s s':St}
theorem ItF.step{G:Nat→Option (List D)}{Y K Z f:Nat→Prop}{ff:Nat→Option Value}(hJ:∀Y pre W W',J Y pre W→Keeps (fun k=>¬Y k) W W'→J (grow Y W W') pre W')(hk:∀k,k<W.heap.size→K k→K0 k∨Y k)(hz:∀b,Z b→Y b)
  (hj:J Y pre W)(h2:SRel N W.heap.size ⟨W,K,Z,ff,G,[]⟩ s' a' W')(hno:noOwnS s'=true):ItF N G K0 J s' pre a' W':=by
 obtain⟨ι,h2⟩:=h2
 have hKK:ι.K=K:=h2.kk
 have hZZ:ι.Z=Z:=h2.zz
 have hkp:Keeps (fun k=>¬Y k) W W':=⟨h2.below.os,h2.below.tape,h2.below.output,h2.below.size,fun k hk hy=>h2.below.block k hk (fun h=>hy (hz k h))⟩
 have hbk:∀{id v b},ι id=some v→blk v=some b→grow Y W W' b∧b<W'.heap.size∧K b:=fun{id v b} h1 h3=>by
  have:=h2.blk_lt h1 h3
  refine⟨?_,this.2,by have:=h2.fresh b this.1;rwa[hKK] at this⟩
  rcases this.1 with g|g
  ·exact .inr ⟨g,this.2⟩
  ·rw[hZZ] at g;exact .inl (hz b g)
 refine⟨grow Y W W',fun k=>(k<W'.heap.size∧K k)∨W'.heap.size≤k,fun b=>∃id v,ι id=some v∧blk v=some b,⟨ι.f,fun k=>(k<W'.heap.size∧K k)∨W'.heap.size≤k,fun b=>∃id v,ι id=some v∧blk v=some b⟩, ?_, ?_, ?_,hJ Y pre W W' hj hkp⟩
 ·refine h2.rebase (Nat.le_refl _) (fun k hk hkK=>?_) (fun id v b h1 h3=>⟨id,v,h1,h3⟩) (fun b hb=>?_) hno (fun id v h _ _=> .inr h)
  ·rw[hKK] at hkK;exact⟨.inl ⟨hk,hkK⟩,rfl⟩
  ·rcases hb with hb|⟨id,v,h1,h3⟩
   ·exact .inr hb
   ·exact .inl ⟨(hbk h1 h3).2.1,(hbk h1 h3).2.2⟩
 ·rintro k hk1 (⟨_,h3⟩|h3)
  ·by_cases hl:k<W.heap.size
   ·exact(hk k hl h3).imp (fun h=>h) (fun h=> .inl h)
   ·exact .inr (.inr ⟨by omega,hk1⟩)
  ·omega
 ·rintro b ⟨id,v,h1,h3⟩
  exact(hbk h1 h3).1
theorem ItF.next{G:Nat→Option (List D)}{x:RX}{J':(Nat→Prop)→List RX→World→Prop}{Y K Z:Nat→Prop}{ι:Inj}(hrel:Rel N W.heap.size ⟨W,K,Z,ι.f,G,[]⟩ ι (getT s.t) (getH s.h) a W)(hno:noOwnS s=true)
  (hk:∀k,k<W.heap.size→K k→K0 k∨Y k)(hz:∀b,Z b→Y b)(hkp:Keeps (fun k=>K0 k∨Y k) W W')(hj:J' Y (pre++[x]) W'){td:Nat}(ht:td<N)(v:Value):ItF N G K0 J' (s.put td (.x v)) (pre++[x]) (a.put (some td) v) W':=by
 have hKK:ι.K=K:=hrel.kk
 have hbk:∀{id v b},ι id=some v→blk v=some b→Z b∧b<W.heap.size∧K b:=fun{id v b} h1 h3=>by
  have:=hrel.blk_lt h1 h3
  refine⟨?_,this.2,by have:=hrel.fresh b this.1;rwa[hKK] at this⟩
  rcases this.1 with g|g
  ·omega
  ·rw[hrel.zz] at g;exact g
 refine⟨Y,fun k=>(k<W.heap.size∧K k)∨W'.heap.size≤k,fun b=>∃id v,ι id=some v∧blk v=some b,⟨ι.f,fun k=>(k<W.heap.size∧K k)∨W'.heap.size≤k,fun b=>∃id v,ι id=some v∧blk v=some b⟩, ?_, ?_, ?_,hj⟩
 ·have h1:=hrel.rebase (W':=W') (K':=fun k=>(k<W.heap.size∧K k)∨W'.heap.size≤k) (Z':=fun b=>∃id v,ι id=some v∧blk v=some b) (f':=ι.f) hkp.size (fun k hl hkK=>?_) (fun id v b h1 h3=>⟨id,v,h1,h3⟩) (fun b hb=>?_) hno (fun id v h _ _=> .inr h)
  ·have:=h1.put ht (v:=v) (d:= .x v) (.inl (.inl (.x v)))
   show Rel _ _ _ _ (getT (setT s.t td (.x v))) _ _ _
   rw[getT_set]
   exact this
  ·rw[hKK] at hkK
   exact⟨.inl ⟨hl,hkK⟩,hkp.block k hl (hk k hl hkK)⟩
  ·rcases hb with hb|⟨id,v,h1,h3⟩
   ·exact .inr hb
   ·exact .inl ⟨(hbk h1 h3).2.1,(hbk h1 h3).2.2⟩
 ·rintro k hk1 (⟨h2,h3⟩|h3)
  ·exact hk k h2 h3
  ·omega
 ·rintro b ⟨id,v,h1,h3⟩
  exact hz b (hbk h1 h3).1
theorem yN_inv{k:St→YR}{x:OS}{l:List RX}(h:yN k x=some l):∃s,x=some (.norm,s)∧k s=some l:=by
 unfold yN at h
 split at h
 ·exact⟨_,rfl,h⟩
 ·cases h
theorem yC_inv{x:RX}{y:YR}{l:List RX}(h:yC x y=some l):∃l',l=x::l'∧y=some l':=by
 unfold yC at h
 split at h
 ·cases h;exact⟨_,rfl,rfl⟩
 ·cases h
theorem iterOK_of(hmix:P.follows .mixedOrders=true){f:FuncId}{fn:Func}{A0 A1 C1 D1 D2 C6 rest R3:Code}{b0 b1 rid:Nat}{ops:Array Oper}{j:Nat}{yo:Oper}{c:Go.Call}{ty td:Nat}{lv:Option (List Nat)}{run:Code→St→OS}{lbds:List D}{xs:List RX}
  (hf:P.funcs[f]? =some fn)(hb:fn.body=some (.seq A0 (.seq A1 (.block b0 (.loop (.seq C1 (.seq (.block b1 (.seq D1 (.seq D2 (.seq (.seq (.region rid ops false) C6) rest)))) R3)))))))
  (hname:(fn.name== "runtime.NumGoroutine")=false)(hres:fn.results= #[])(hN:fn.ntmps≤1000)(hcall:CTok P call)
  (hok:(okCode an A0&&okCode an A1&&okCode an C1&&okCode an D1&&okCode an D2&&okCode an C6&&okCode an rest&&okCode an R3&&noDefer ops)=true)
  (hrun:∀x∈[A0,A1,C1,D1,D2,C6,rest,R3],∀s,run x s=runC P call an fn.ntmps x s)
  (hy:ops[j]? =some yo)(hop:yo.op= .call c)(hc:c.callee= .value (.tmp ty))(hdst:yo.dst=some td)(hgd:yo.guard=none)(htd:td<fn.ntmps)(hlen:lbds.length+1≤fn.ntmps)
  (hgo:∀l:Nat,∃s1 s2 n,run A0 (init an (.x (.func (.yield l) #[] #[])::lbds))=some (.norm,s1)∧run A1 s1=some (.norm,s2)∧noOwnS (headOf lv s2)=true∧
   yRun run (runSeq P call an fn.ntmps ops) (endF an ops.toList) l b0 C1 D1 D2 (ops.toList.take j) ty td c.args.toList (ops.toList.drop (j+1)) C6 rest R3 lv n (headOf lv s2)=some xs):IterOK P call.g f lbds xs:=by
 refine⟨fun args w=>?_,fun w K0 lb l J Jx hglob hlb hJ hJx hround h0=>?_⟩
 ·have hn:¬fn.name= "runtime.NumGoroutine" :=by simpa using hname
  simp[callFunc,hf,hn,hb]
 obtain⟨s1,s2,n,hA0,hA1,hno2,hgo⟩:=hgo l
 simp only[Bool.and_eq_true] at hok
 obtain⟨⟨⟨⟨⟨⟨⟨⟨k0,k1⟩,k2⟩,k3⟩,k4⟩,k5⟩,k6⟩,k7⟩,k8⟩:=hok
 have hR:∀x∈[A0,A1,C1,D1,D2,C6,rest,R3],∀{s e s'},run x s=some (e,s')→runC P call an fn.ntmps x s=some (e,s'):=fun x hx s e s' h=>by rw[←hrun x hx s];exact h
 have hK0:∀{v:Value} {d:D},RepI w K0 (fun _=>False) v d→RepI w (okB ⟨fun _=>none,fun b=>K0 b∨w.heap.size≤b,fun _=>False⟩) (frB w.heap.size ⟨fun _=>none,fun b=>K0 b∨w.heap.size≤b,fun _=>False⟩) v d:=
  fun hr=>hr.mono (Nat.le_refl _) (fun b _ ho=>⟨⟨.inl ho,(fun id v hv=>nomatch hv)⟩,rfl⟩) (fun b _ ho=>ho.elim)
 have hrel:Rel fn.ntmps w.heap.size ⟨w,fun b=>K0 b∨w.heap.size≤b,fun _=>False,fun _=>none,call.g,[]⟩ ⟨fun _=>none,fun b=>K0 b∨w.heap.size≤b,fun _=>False⟩ (getT (init an (.x (.func (.yield l) #[] #[])::lbds)).t) (getH (init an (.x (.func (.yield l) #[] #[])::lbds)).h)
   {tmps:=(#[Value.func (.yield l) #[] #[]]++lb)++Array.replicate (fn.ntmps-(#[Value.func (.yield l) #[] #[]]++lb).size) undef,defers:=[]} w:={
   defers:=rfl
   size:=by have:=hlb.1;simp;omega
   tmp:=fun t=>by
    have hargs:CellsRel (RepI w (okB ⟨fun _=>none,fun b=>K0 b∨w.heap.size≤b,fun _=>False⟩) (frB w.heap.size ⟨fun _=>none,fun b=>K0 b∨w.heap.size≤b,fun _=>False⟩)) (#[.func (.yield l) #[] #[]]++lb) (.x (.func (.yield l) #[] #[])::lbds):=by
     refine⟨by have:=hlb.1;simp;omega,fun i c d hc hd=>?_⟩
     cases i with
     |zero=>
      have hc':Value.func (.yield l) #[] #[]=c:=by
       rw[Array.getElem?_append_left (by simp)] at hc
       simpa using hc
      simp at hd
      subst hc' hd
      exact .x _
     |succ i=>
      have hc':lb[i]? =some c:=by
       rw[Array.getElem?_append_right (by simp)] at hc
       simpa using hc
      exact hK0 (hlb.2 i c d hc' (by simpa using hd))
    generalize(#[Value.func (.yield l) #[] #[]]++lb)=args at hargs
    have hle:(.x (.func (.yield l) #[] #[])::lbds:List D).length≤fn.ntmps:=by simpa using hlen
    generalize(.x (.func (.yield l) #[] #[])::lbds:List D)=ds at hargs hle
    simp only[init,argsT_get,keepT_get]
    split
    ·rename_i ht
     have hlt:t<ds.length:=by omega
     have hd:ds[t]? =some ds[t]:=List.getElem?_eq_getElem hlt
     have hal:t<args.size:=by rw[hargs.1];exact hlt
     have hav:args[t]? =some args[t]:=Array.getElem?_eq_getElem hal
     have hr:=hargs.2 t _ _ hav hd
     have e1:(args++Array.replicate (fn.ntmps-args.size) undef).getD t undef=args[t]:=by
      simp[Array.getElem?_append_left hal,hav]
     rw[e1]
     simp only[Nat.sub_zero,List.getD,hd,Option.getD_some]
     exact .inl (.inl hr)
    ·exact .inl (.inl (.any _))
   obj:=(fun id o ho=>nomatch ho)
   dom:=(fun id v hv=>nomatch hv)
   inj:=(fun id id' v v' b hv=>nomatch hv)
   below:=BelowZ.refl _ _ _
   base:=Nat.le_refl _
   fresh:=fun b hb=> .inr (hb.elim id (fun h=>h.elim))
   kk:=rfl
   zz:=rfl
   k0:=(fun id v hv=>nomatch hv)
   nn:=hN
   glob:=fun g cs hg=>(hglob g cs hg).to (hK0 (hglob g cs hg).rep) rfl}
 have hstart:∀k,k<w.heap.size→(K0 k∨w.heap.size≤k)→K0 k∨(fun _=>False) k:=fun k hk h=>h.imp id (fun h=>by omega)
 obtain⟨Qf,hQf⟩:∃Qf:World→Prop,Qf=fun W'=>(∃Y,J Y xs W')∨∃Y pre,Jx Y pre W':=⟨_,rfl⟩
 have hresR:∀(tm:Array Value) (W:World),∃v,(results fn tm).run P W= .ok v W:=fun tm W=>⟨.tuple #[],by simp[results,hres]⟩
 have hfin:∀{J':(Nat→Prop)→List RX→World→Prop} {Y K Z:Nat→Prop} {ff:Nat→Option Value} {pre:List RX} {W:World} {s':St} {a':Act} {W':World},(∀Y pre W W',J' Y pre W→Keeps (fun k=>¬Y k) W W'→J' (grow Y W W') pre W')→(∀b,Z b→Y b)→J' Y pre W→
   SRel fn.ntmps W.heap.size ⟨W,K,Z,ff,call.g,[]⟩ s' a' W'→(∀Y,J' Y pre W'→Qf W')→a'.defers=[]∧∃v,(results fn a'.tmps).run P W'= .ok v W'∧((∃u,Ending.returned v= .returned u)∧((∃Y,J Y xs W')∨∃Y pre,Jx Y pre W')):=by
  intro J' Y K Z ff pre W s' a' W' hJ' hz hj h2 hq
  obtain⟨ι,h2⟩:=h2
  obtain⟨v,hv⟩:=hresR a'.tmps W'
  have:=hq _ (hJ' Y pre W W' hj ⟨h2.below.os,h2.below.tape,h2.below.output,h2.below.size,fun k hk hy=>h2.below.block k hk (fun h=>hy (hz k h))⟩)
  rw[hQf] at this
  exact⟨h2.defers,v,hv,⟨v,rfl⟩,this⟩
 refine calls_of_wp hf hb (wpIn_wide (n:=0)|>.1 ?_)
 apply wpIn_seq
 refine wpIn_mono (wpIn_wide.2 (runC_sound hmix hcall rfl A0 k0 _ _ _ _ _ (hR A0 (by simp) hA0) ⟨_,hrel⟩)) ?_
 rintro x a1 W1 ⟨rfl,hr1⟩
 show(Code.seq A1 _).wpIn Fence.wide 0 P _ a1 W1
 apply wpIn_seq
 refine wpIn_mono (wpIn_wide.2 (runC_sound hmix hcall rfl A1 k1 _ _ _ _ _ (hR A1 (by simp) hA1) hr1)) ?_
 rintro x a2 W2 ⟨rfl,hr2⟩
 have hstep2:ItF fn.ntmps call.g K0 J (headOf lv s2) [] a2 W2:=ItF.step (f:=fun _=>True) hJ (hstart) (fun b h=>h) h0 (headOf_sound lv hr2) hno2
 show(Code.block b0 _).wpIn Fence.wide 0 P _ a2 W2
 apply wpIn_block
 refine wpIn_wide.2 ?_
 refine wp_loop_ghost (fun m a W=>∃s pre lx,ItF fn.ntmps call.g K0 J s pre a W∧xs=pre++lx∧yRun run (runSeq P call an fn.ntmps ops) (endF an ops.toList) l b0 C1 D1 D2 (ops.toList.take j) ty td c.args.toList (ops.toList.drop (j+1)) C6 rest R3 lv m s=some lx) n ⟨_,[],xs,hstep2,rfl,hgo⟩ ?_
 rintro m a W ⟨s,pre,l',hit,hxs,hm⟩
 cases m with
 |zero=>cases hm
 |succ m=>
  unfold yRun yStep at hm
  split at hm
  ·rename_i hnos
   refine(wpIn_wide (n:=0)).1 ?_
   obtain⟨Y,K,Z,ι,hrel,hk,hz,hj⟩:=hit
   have hS0:SRel fn.ntmps W.heap.size ⟨W,K,Z,ι.f,call.g,[]⟩ s a W:=⟨ι,hrel⟩
   apply wpIn_seq
   unfold yA at hm
   split at hm
   ·rename_i b sx hC1
    split at hm
    ·rename_i hbb
     subst hbb
     cases hm
     refine wpIn_mono (wpIn_wide.2 (runC_sound hmix hcall rfl C1 k2 _ _ _ _ _ (hR C1 (by simp) hC1) hS0)) ?_
     rintro x a3 W3 ⟨rfl,hr3⟩
     simp only[E.toExit,Exit.then,Exit.inBlock,if_true]
     refine hfin hJ hz hj hr3 (fun Y hY=>?_)
     rw[hQf,hxs,List.append_nil]
     exact .inl ⟨Y,hY⟩
    ·cases hm
   ·rename_i t1 hC1
    obtain⟨t2,hD1,hm⟩:=yN_inv hm
    obtain⟨t3,hD2,hm⟩:=yN_inv hm
    unfold y3 yO at hm
    split at hm
    ·rename_i t4 hl1
     unfold yY at hm
     split at hm
     ·rename_i hny
      obtain⟨hno4,hisy⟩:=hny
      unfold yX at hm
      split at hm
      ·rename_i x hx
       split at hm
       ·rename_i hfalse
        refine wpIn_mono (wpIn_wide.2 (runC_sound hmix hcall rfl C1 k2 _ _ _ _ _ (hR C1 (by simp) hC1) hS0)) ?_
        rintro ex a3 W3 ⟨rfl,hr3⟩
        show(Code.seq (.block b1 _) R3).wpIn Fence.wide 0 P _ a3 W3
        apply wpIn_seq
        apply wpIn_block
        apply wpIn_seq
        refine wpIn_mono (wpIn_wide.2 (runC_sound hmix hcall rfl D1 k3 _ _ _ _ _ (hR D1 (by simp) hD1) hr3)) ?_
        rintro ex a4 W4 ⟨rfl,hr4⟩
        show(Code.seq D2 _).wpIn Fence.wide 0 P _ a4 W4
        apply wpIn_seq
        refine wpIn_mono (wpIn_wide.2 (runC_sound hmix hcall rfl D2 k4 _ _ _ _ _ (hR D2 (by simp) hD2) hr4)) ?_
        rintro ex a5 W5 ⟨rfl,hr5⟩
        show(Code.seq (.seq (.region rid ops false) C6) rest).wpIn Fence.wide 0 P _ a5 W5
        apply wpIn_seq
        apply wpIn_seq
        apply wpIn_region
        have hjs:j<ops.size:=(Array.getElem?_eq_some_iff.1 hy).1
        have htl:(ops.toList.take j).length=j:=by simp;omega
        have hdl:(ops.toList.drop (j+1)).length=ops.size-(j+1):=by simp
        have hrange:List.range ops.size=List.range' 0 (ops.toList.take j).length++(j::(List.range' (j+1) (ops.toList.drop (j+1)).length++[])):=by
         rw[htl,hdl,List.append_nil,←List.range'_succ,List.range_eq_range']
         have:=List.range'_append (s:=0) (m:=j) (n:=ops.size-(j+1)+1) (step:=1)
         simp only[Nat.one_mul,Nat.zero_add] at this
         rw[this]
         congr 1
         omega
        rw[hrange]
        refine runSeq_soundW hcall rfl k8 0 _ ?_ (ops.toList.take j) 0 t3 a5 W5 (fun i hi=>?_) hr5 hl1
        ·intro a6 W6 hr6
         have hit6:=ItF.step (f:=fun _=>True) hJ hk hz hj hr6 hno4
         obtain⟨Y6,K6,Z6,ι6,hrel6,hk6,hz6,hj6⟩:=hit6
         unfold wpOpsIn
         simp only[hy]
         rw[if_pos (by simp[Region.wanted,hgd])]
         refine⟨fun _ _=>trivial, ?_⟩
         have hv:=hrel6.tmp ty
         have hval:a6.eval (.tmp ty)= .func (.yield l) #[] #[]:=by
          unfold isYield at hisy
          split at hisy
          ·rename_i k fa ca heq
           simp only[Bool.and_eq_true,decide_eq_true_eq] at hisy
           rw[heq] at hv
           have:=hv.x_inv
           obtain⟨⟨rfl,e1⟩,e2⟩:=hisy
           rw[Array.eq_empty_of_size_eq_zero e1,Array.eq_empty_of_size_eq_zero e2] at this
           exact this
          ·cases hisy
         have hargs:c.args.map a6.eval=x.toArray:=by
          apply Array.ext'
          rw[Array.toList_map,valL_eval hrel6 hx]
         have hxp:∃post,xs=pre++x::post:=by
          unfold yT at hm
          split at hm
          ·unfold yR at hm
           split at hm
           ·cases hm;exact⟨_,hxs⟩
           ·obtain⟨l2,rfl,_⟩:=yC_inv hm
            exact⟨_,hxs⟩
           ·cases hm
          ·cases hm
         obtain⟨post,hpost⟩:=hxp
         obtain⟨fr,tmr,asr,bdr,hyr,hRI⟩:=hround Y6 pre x post W6 hpost hj6
         have hex:(execOp a6.eval yo).run P W6= .ok (.round l fr tmr asr bdr) W6:=by
          simp[execOp,hop,resolve,hc,hval,hargs,invoke,Deferred.ofValue,hyr]
         rw[Oper.semAt_eq _ _ _ (by rw[hop];simp),hex,Oper.uponIn_round]
         refine⟨fun h=>(by cases h),RoundIn.mono hRI ?_⟩
         rintro e W7 ⟨hkp,(⟨rfl,hj7⟩|⟨rfl,hj7⟩)⟩
         ·
          have hit7:=ItF.next (x:=x) hrel6 hno4 hk6 hz6 hkp hj7 htd (.bool true)
          show wpOpsIn _ _ _ _ _ _ (a6.put yo.dst (.bool true)) W7
          rw[hdst]
          obtain⟨Y7,K7,Z7,ι7,hrel7,hk7,hz7,hj7⟩:=hit7
          unfold yT at hm
          split at hm
          ·rename_i t5 hl2
           refine runSeq_soundW hcall rfl k8 0 _ ?_ (ops.toList.drop (j+1)) (j+1) _ _ W7 (fun i hi=>by simp) ⟨_,hrel7⟩ hl2
           intro a8 W8 hr8
           have hr8:=endR_sound (an:=an) ops.toList _ hr8
           show C6.wpIn Fence.wide 0 P _ a8 W8
           unfold yR at hm
           split at hm
           ·rename_i t6 hC6
            cases hm
            refine wpIn_mono (wpIn_wide.2 (runC_sound hmix hcall rfl C6 k5 _ _ _ _ _ (hR C6 (by simp) hC6) hr8)) ?_
            rintro ex a9 W9 ⟨rfl,hr9⟩
            refine hfin hJ hz7 hj7 hr9 (fun Y hY=>?_)
            rw[hQf,hxs]
            exact .inl ⟨Y,hY⟩
           ·rename_i t6 hC6
            obtain⟨l2,hle,hm2⟩:=yC_inv hm
            clear hm
            subst hle
            obtain⟨t7,hrest,hm3⟩:=yN_inv hm2
            obtain⟨t8,hR3,hm⟩:=yN_inv hm3
            clear hm2 hm3
            refine wpIn_mono (wpIn_wide.2 (runC_sound hmix hcall rfl C6 k5 _ _ _ _ _ (hR C6 (by simp) hC6) hr8)) ?_
            rintro ex a9 W9 ⟨rfl,hr9⟩
            show rest.wpIn Fence.wide 0 P _ a9 W9
            refine wpIn_mono (wpIn_wide.2 (runC_sound hmix hcall rfl rest k6 _ _ _ _ _ (hR rest (by simp) hrest) hr9)) ?_
            rintro ex a10 W10 ⟨rfl,hr10⟩
            show R3.wpIn Fence.wide 0 P _ a10 W10
            refine wpIn_mono (wpIn_wide.2 (runC_sound hmix hcall rfl R3 k7 _ _ _ _ _ (hR R3 (by simp) hR3) hr10)) ?_
            rintro ex a11 W11 ⟨rfl,hr11⟩
            unfold yH at hm
            have hnoh:noOwnS (headOf lv t8)=true:=by
             cases m with
             |zero=>cases hm
             |succ m=>
              unfold yRun yStep at hm
              split at hm
              ·assumption
              ·cases hm
            exact⟨m,by omega,_,pre++[x],l2,ItF.step (f:=fun _=>True) hJ hk7 hz7 hj7 (headOf_sound lv hr11) hnoh,by rw[hxs];simp,hm⟩
           ·cases hm
          ·cases hm
         ·
          have hit7:=ItF.next (x:=x) hrel6 hno4 hk6 hz6 hkp hj7 htd (.bool false)
          show wpOpsIn _ _ _ _ _ _ (a6.put yo.dst (.bool false)) W7
          rw[hdst]
          obtain⟨Y7,K7,Z7,ι7,hrel7,hk7,hz7,hj7⟩:=hit7
          unfold yF at hfalse
          split at hfalse
          ·rename_i t5 hl2
           unfold yE at hfalse
           split at hfalse
           ·rename_i t6 hC6
            refine runSeq_soundW hcall rfl k8 0 _ ?_ (ops.toList.drop (j+1)) (j+1) _ _ W7 (fun i hi=>by simp) ⟨_,hrel7⟩ hl2
            intro a8 W8 hr8
            have hr8:=endR_sound (an:=an) ops.toList _ hr8
            show C6.wpIn Fence.wide 0 P _ a8 W8
            refine wpIn_mono (wpIn_wide.2 (runC_sound hmix hcall rfl C6 k5 _ _ _ _ _ (hR C6 (by simp) hC6) hr8)) ?_
            rintro ex a9 W9 ⟨rfl,hr9⟩
            refine hfin hJx hz7 hj7 hr9 (fun Y hY=>?_)
            rw[hQf]
            exact .inr ⟨Y,_,hY⟩
           ·cases hfalse
          ·cases hfalse
        ·rw[htl] at hi
         rw[List.getElem?_take_of_lt hi,Nat.zero_add,Array.getElem?_toList]
       ·cases hm
      ·cases hm
     ·cases hm
    ·cases hm
   ·cases hm
  ·cases hm
end
structure Ipt where
 A0:Code
 A1:Code
 C1:Code
 D1:Code
 D2:Code
 C6:Code
 rest:Code
 R3:Code
 b0:Nat
 b1:Nat
 rid:Nat
 ops:Array Oper
def iptOf:Code→Option Ipt
 | .seq A0 (.seq A1 (.block b0 (.loop (.seq C1 (.seq (.block b1 (.seq D1 (.seq D2 (.seq (.seq (.region rid ops false) C6) rest)))) R3)))))=>some ⟨A0,A1,C1,D1,D2,C6,rest,R3,b0,b1,rid,ops⟩
 |_=>none
theorem iptOf_some{c:Code}{p:Ipt}(h:iptOf c=some p):c= .seq p.A0 (.seq p.A1 (.block p.b0 (.loop (.seq p.C1 (.seq (.block p.b1 (.seq p.D1 (.seq p.D2 (.seq (.seq (.region p.rid p.ops false) p.C6) p.rest)))) p.R3))))):=by
 unfold iptOf at h
 split at h
 ·cases h;rfl
 ·cases h
def yopOf(ops:Array Oper)(j:Nat):Option (Nat×Nat×List Operand):=match ops[j]? with
 |some o=>match o.op,o.dst,o.guard with
  | .call c,some td,none=>match c.callee with
   | .value (.tmp ty)=>some (ty,td,c.args.toList)
   |_=>none
  |_,_,_=>none
 |none=>none
theorem yopOf_some{ops:Array Oper}{j ty td:Nat}{args:List Operand}(h:yopOf ops j=some (ty,td,args)):∃o c,ops[j]? =some o∧o.op= .call c∧c.callee= .value (.tmp ty)∧o.dst=some td∧o.guard=none∧c.args.toList=args:=by
 unfold yopOf at h
 split at h
 ·rename_i o ho
  split at h
  ·rename_i c t h1 h2 h3
   split at h
   ·rename_i ty' hc
    cases h
    exact⟨o,c,ho,h1,hc,h2,h3,rfl⟩
   ·cases h
  ·cases h
 ·cases h
section
variable (P:Program)(G:Nat→Option (List D))(k:Pk)(j i0:Nat)
noncomputable def YSP(l:Nat)(kk:St→YR)(s:St):YR:=match iptOf (bodyOf k.fn) with
 |some p=>match yopOf p.ops j with
  |some (ty,td,args)=>yStep (runS P (ctP G k) (HP P G k bigL) k.an k.N) (runSeq P (ctP G k) k.an k.N p.ops) (endF k.an p.ops.toList) l p.b0 p.C1 p.D1 p.D2 (p.ops.toList.take j) ty td args (p.ops.toList.drop (j+1)) p.C6 p.rest p.R3 (k.an.loops.lookup i0) kk s
  |none=>none
 |none=>none
noncomputable def YP(l:Nat):Nat→St→YR
 |0,_=>none
 |n+1,s=>YSP P G k j i0 l (YP l n) s
noncomputable def YS0(l:Nat)(lbds:List D):Option St:=match iptOf (bodyOf k.fn) with
 |some p=>match andThen (runS P (ctP G k) (HP P G k bigL) k.an k.N p.A0 (init k.an (.x (.func (.yield l) #[] #[])::lbds))) (runS P (ctP G k) (HP P G k bigL) k.an k.N p.A1) with
  |some (.norm,s)=>some (headOf (k.an.loops.lookup i0) s)
  |_=>none
 |none=>none
def okIpt:Bool:=k.fn.body.isSome&&!(k.fn.name== "runtime.NumGoroutine")&&(k.fn.results.size==0)&&decide (k.fn.ntmps≤1000)&&(k.N==k.fn.ntmps)&&(match iptOf (bodyOf k.fn) with
 |some p=>(okCode k.an p.A0&&okCode k.an p.A1&&okCode k.an p.C1&&okCode k.an p.D1&&okCode k.an p.D2&&okCode k.an p.C6&&okCode k.an p.rest&&okCode k.an p.R3&&noDefer p.ops)&&(match yopOf p.ops j with
  |some (_,td,_)=>decide (td<k.N)
  |none=>false)
 |none=>false)
end
theorem YP_eq{P:Program}{G:Nat→Option (List D)}{k:Pk}{j i0 l:Nat}{p:Ipt}{ty td:Nat}{args:List Operand}(hp:iptOf (bodyOf k.fn)=some p)(hy:yopOf p.ops j=some (ty,td,args)):∀n s,
  YP P G k j i0 l n s=yRun (runS P (ctP G k) (HP P G k bigL) k.an k.N) (runSeq P (ctP G k) k.an k.N p.ops) (endF k.an p.ops.toList) l p.b0 p.C1 p.D1 p.D2 (p.ops.toList.take j) ty td args (p.ops.toList.drop (j+1)) p.C6 p.rest p.R3 (k.an.loops.lookup i0) n s
 |0,s=>rfl
 |n+1,s=>by
  unfold YP yRun YSP
  simp only[hp,hy]
  rw[funext (YP_eq hp hy n)]
theorem itP{P:Program}{G:Nat→Option (List D)}{k:Pk}{j i0:Nat}{lbds:List D}{xs:List RX}(hmix:P.follows .mixedOrders=true){f:FuncId}{fn:Func}(hf:P.funcs[f]? =some fn)(h1:k.fn=fn)(h:okIpt k j=true)(hl:okLoops (bodyOf k.fn)=true)
  (hc:CallsOk P G k.cl)(he:CallsOkE P G k.ce)(hlen:lbds.length+1≤k.N)(hgo:∀l:Nat,∃s n,YS0 P G k i0 l lbds=some s∧YP P G k j i0 l n s=some xs):IterOK P G f lbds xs:=by
 subst h1
 unfold okIpt at h
 simp only[Bool.and_eq_true,Bool.not_eq_true',decide_eq_true_eq,beq_iff_eq] at h
 obtain⟨⟨⟨⟨⟨q0,q1⟩,q2⟩,q3⟩,q4⟩,q5⟩:=h
 have hb:k.fn.body=some (bodyOf k.fn):=by
  unfold bodyOf
  cases hb:k.fn.body with
  |none=>rw[hb] at q0;cases q0
  |some b=>rfl
 split at q5
 ·rename_i p hp
  simp only[Bool.and_eq_true] at q5
  obtain⟨q5,q6⟩:=q5
  split at q6
  ·rename_i ty td args hy
   obtain⟨o,c,g1,g2,g3,g4,g5,rfl⟩:=yopOf_some hy
   have hbody:=iptOf_some hp
   have hsub:∀x∈[p.A0,p.A1,p.C1,p.D1,p.D2,p.C6,p.rest,p.R3],∀s,runS P (ctP G k) (HP P G k bigL) k.an k.N x s=runC P (ctP G k) k.an k.fn.ntmps x s:=by
    intro x hx s
    rw[←q4]
    refine runS_eq hl x (fun z hz=>?_) s
    rw[hbody]
    simp only[loopsIn,List.mem_append,List.mem_cons]
    simp only[List.mem_cons,List.not_mem_nil,or_false] at hx
    rcases hx with rfl|rfl|rfl|rfl|rfl|rfl|rfl|rfl
    all_goals simp[hz]
   rw[q4] at hlen q6
   refine iterOK_of (call:=ctP G k) (an:=k.an) (run:=runS P (ctP G k) (HP P G k bigL) k.an k.N) (lv:=k.an.loops.lookup i0) hmix hf (hb.trans (by rw[hbody])) q1 (Array.eq_empty_of_size_eq_zero q2) q3 ⟨callOf_ok _ hc,callOfE_ok _ he⟩
    (by simp only[Bool.and_eq_true];exact q5) hsub g1 g2 g3 g4 g5 (by simpa using q6) hlen (fun l=>?_)
   obtain⟨s,n,h2,h3⟩:=hgo l
   unfold YS0 at h2
   rw[hp] at h2
   simp only at h2
   split at h2
   ·rename_i s2 hs2
    cases h2
    obtain⟨s1,e1,e2⟩:=andThen_inv hs2
    rw[YP_eq hp hy n,q4] at h3
    rw[q4] at e1 e2
    refine⟨s1,s2,n,by rw[q4];exact e1,by rw[q4];exact e2, ?_,by rw[q4];exact h3⟩
    cases n with
    |zero=>cases h3
    |succ n=>
     unfold yRun yStep at h3
     split at h3
     ·assumption
     ·cases h3
   ·cases h2
  ·cases q6
 ·cases q5
attribute [simp] iptOf yopOf YSP YS0 yStep y1 y2 y3 yY yH yR3 isYield valL valD valC
section
variable (run:Code→St→OS)(rops:List Oper→St→Option St)(fin:St→St)(b0:Nat)(k:St→YR)(x:RX)(C6 rest R3:Code)(lv:Option (List Nat))(td:Nat)(l2:List Oper)(s:St)
@[simp] theorem yA_ex(b:Nat):yA b0 k (some (.ex b,s))=if b=b0 then some [] else none:=Eq.trans rfl rfl
@[simp] theorem yA_norm:yA b0 k (some (.norm,s))=k s:=Eq.trans rfl rfl
@[simp] theorem yA_ite{c:Prop}[Decidable c](a b:OS):yA b0 k (if c then a else b)=if c then yA b0 k a else yA b0 k b:=by split<;>rfl
@[simp] theorem yN_norm:yN k (some (.norm,s))=k s:=Eq.trans rfl rfl
@[simp] theorem yN_ite{c:Prop}[Decidable c](a b:OS):yN k (if c then a else b)=if c then yN k a else yN k b:=by split<;>rfl
@[simp] theorem yO_some:yO k (some s)=k s:=Eq.trans rfl rfl
@[simp] theorem yO_ite{c:Prop}[Decidable c](a b:Option St):yO k (if c then a else b)=if c then yO k a else yO k b:=by split<;>rfl
@[simp] theorem yE_ret:yE (some (.ret,s))=true:=Eq.trans rfl rfl
@[simp] theorem yF_some:yF run fin C6 (some s)=yE (run C6 (fin s)):=Eq.trans rfl rfl
@[simp] theorem yR_ret:yR run x rest R3 lv k (some (.ret,s))=some [x]:=Eq.trans rfl rfl
@[simp] theorem yR_norm:yR run x rest R3 lv k (some (.norm,s))=yC x (yN (yR3 run R3 lv k) (run rest s)):=Eq.trans rfl rfl
@[simp] theorem yR_ite{c:Prop}[Decidable c](a b:OS):yR run x rest R3 lv k (if c then a else b)=if c then yR run x rest R3 lv k a else yR run x rest R3 lv k b:=by split<;>rfl
@[simp] theorem yT_some:yT run fin x C6 rest R3 lv k (some s)=yR run x rest R3 lv k (run C6 (fin s)):=Eq.trans rfl rfl
@[simp] theorem yT_ite{c:Prop}[Decidable c](a b:Option St):yT run fin x C6 rest R3 lv k (if c then a else b)=if c then yT run fin x C6 rest R3 lv k a else yT run fin x C6 rest R3 lv k b:=by split<;>rfl
@[simp] theorem yX_some:yX run rops fin td l2 C6 rest R3 lv k s (some x)=if yF run fin C6 (rops l2 (s.put td (.x (.bool false))))=true then yT run fin x C6 rest R3 lv k (rops l2 (s.put td (.x (.bool true)))) else none:=Eq.trans rfl rfl
@[simp] theorem yC_some(l:List RX):yC x (some l)=some (x::l):=Eq.trans rfl rfl
end
end Go.Abs
