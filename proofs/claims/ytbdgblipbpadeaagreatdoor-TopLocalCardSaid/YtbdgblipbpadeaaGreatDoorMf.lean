/-
  slices.SortFunc and slices.Compact at points, as contracts.
-/
import Derived.Test.YtbdgblipbpadeaaGreatDoorMd
import Derived.Shelf.SlSortCmp.NoneTotal
import Derived.Test.YtbdgblipbpadeaaGreatDoorRows
import Derived.Test.YtbdgblipbpadeaaGreatDoorMe
set_option linter.unusedSimpArgs false
set_option linter.unusedVariables false
set_option linter.defProp false
namespace Go.Abs
open Go Go.RowKit Go.Proofs Go.Sort
set_option maxRecDepth 100000
def encPt(x:Int×Int):List Value:=[.int .i64 x.1,.int .i64 x.2]
def flatP(l:List Pnt):List Value:=(flatK encPt 2 l.toArray).toList
@[simp] theorem flatP_len(l:List Pnt):(flatP l).length=l.length*2:=by simp[flatP]
theorem flatP_get(l:List Pnt)(t:Nat)(h:t<l.length*2):(flatP l)[t]? =some ((encPt (l[t/2]'(by omega)))[t% 2]!):=by
 have h1:t/2<l.length:=by omega
 unfold flatP
 rw[Array.getElem?_toList,Array.getElem?_eq_getElem (by simpa using h)]
 have:=get_flatK encPt 2 l.toArray t (by simpa using h)
 rw[getElem!_pos _ t (by simpa using h)] at this
 rw[this]
 simp[getElem!_pos,h1]
theorem enc_get(p:Pnt)(t:Nat)(h:t<2):(ePt p)[t]? =some (.x ((encPt p)[t]!)):=by
 match t,h with
 |0,_=>rfl
 |1,_=>rfl
theorem flatP_one(l:List Pnt):∀c∈flatP l,c.oneCell'=true:=by
 intro c hc
 obtain⟨t,ht,rfl⟩:=List.getElem_of_mem hc
 have ht':t<l.length*2:=by simpa using ht
 have:=flatP_get l t ht'
 rw[List.getElem?_eq_getElem ht] at this
 injection this with this
 rw[this]
 have h2:t% 2<2:=Nat.mod_lt _ (by omega)
 generalize t% 2=j at*
 match j,h2 with
 |0,_=>rfl
 |1,_=>rfl
theorem cells_of_rowP{w:World}{B:Nat}{ι:Inj}{v:Value}{e:TypeId}{fl:Bool}{l:List Pnt}(h:ObjRel w B ι v (.row e 2 fl (l.map ePt))):w.ownsRow 0 e 2 v l.length (flatP l)∧∀b,blk v=some b→wrB B ι b:=by
 obtain⟨xs,_,⟨h1,h2⟩,_,h4,h5,_⟩:=h
 have hl:xs.length=l.length*2:=by have:=h1.1;simpa using this
 have e1:xs=flatP l:=by
  apply List.ext_getElem?
  intro t
  by_cases hi:t<l.length*2
  ·have hx:xs[t]? =some (xs[t]'(by omega)):=List.getElem?_eq_getElem (by omega)
   have hd:t/2<l.length:=by omega
   have:=h4 (t/2) (ePt l[t/2]) (t% 2) _ (xs[t]'(by omega)) (by simp[hd]) (enc_get _ _ (Nat.mod_lt _ (by omega))) (by rw[Nat.mul_comm,Nat.div_add_mod];exact hx)
   rw[hx,flatP_get l t hi]
   generalize xs[t]'(by omega)=u at this
   cases this
   rfl
  ·rw[List.getElem?_eq_none (by omega),List.getElem?_eq_none (by simp;omega)]
 subst e1
 exact⟨by simpa using h1,h2⟩
theorem row_of_cellsP{w:World}{B:Nat}{ι:Inj}{v:Value}{e:TypeId}{fl:Bool}{l:List Pnt}(h1:w.ownsRow 0 e 2 v l.length (flatP l))(h2:∀b,blk v=some b→wrB B ι b):ObjRel w B ι v (.row e 2 fl (l.map ePt)):=by
 refine⟨flatP l,by omega,⟨by simpa using h1,h2⟩,(fun x hx=>by simp only[List.mem_map] at hx;obtain⟨u,_,rfl⟩:=hx;rfl),fun i x j d c hx hd hc=>?_,flatP_one l, ?_, ?_⟩
 ·rw[List.getElem?_map] at hx
  simp only[Option.map_eq_some_iff] at hx
  obtain⟨u,hu,rfl⟩:=hx
  have hj:j<2:=by
   have:=(List.getElem?_eq_some_iff.1 hd).1
   simpa[ePt] using this
  have hi:i<l.length:=(List.getElem?_eq_some_iff.1 hu).1
  rw[enc_get u j hj] at hd
  cases hd
  rw[flatP_get l _ (by omega)] at hc
  have q1:(i*2+j)/2=i:=by omega
  have q2:(i*2+j)% 2=j:=by omega
  have e2:l[i]=u:=(List.getElem?_eq_some_iff.1 hu).2
  simp only[q1,q2,e2] at hc
  cases hc
  exact .x _
 ·intro x hx d hd
  simp only[List.mem_map] at hx
  obtain⟨u,_,rfl⟩:=hx
  simp[ePt] at hd
  rcases hd with rfl|rfl<;>rfl
 ·intro _ x hx d hd
  simp only[List.mem_map] at hx
  obtain⟨u,_,rfl⟩:=hx
  simp[ePt] at hd
  rcases hd with rfl|rfl
  ·exact⟨_,rfl⟩
  ·exact⟨_,rfl⟩
theorem holdsP_own{w:World}{e:TypeId}{g n cap:Nat}{l:List Pnt}(h:w.ownsRow 0 e 2 (.slice (some ⟨g,0,none⟩) n cap) n (flatP l)):HoldsK encPt 2 w g 0 l.toArray:=by
 rcases h.2 with⟨e0,_⟩|⟨g',cap',cur,e0,hb,hg,hn,hm,hs,ht⟩
 ·cases e0
 ·injection e0 with e1 _ e3
  injection e1 with e1
  injection e1 with e1
  subst e1 e3
  have hl:l.length=n:=by have:=h.1;simp at this;omega
  intro j hj
  have hj':j<l.length*2:=by simpa using hj
  have hc:cur[j]? =(flatP l)[j]? :=by
   rw[←ht,List.getElem?_take,if_pos (by omega),Array.getElem?_toList]
  have hf:(flatP l)[j]? =some (id (flatK encPt 2 l.toArray)[j]!):=by
   unfold flatP
   rw[Array.getElem?_toList,Array.getElem?_eq_getElem hj,getElem!_pos _ j hj]
   rfl
  refine⟨?_,by simp[World.frozen?,hg]⟩
  simp only[World.cell?,hg,Nat.zero_add]
  rw[hc,hf]
  rfl
theorem ownsP_put{w:World}{e:TypeId}{g n cap q k:Nat}{l ys:List Pnt}(h:w.ownsRow 0 e 2 (.slice (some ⟨g,0,none⟩) n cap) n (flatP l))(hy:ys.length=n)(hk:k≤n):
  (putRowK encPt 2 (Sort.ahead w q) g 0 ys.toArray).ownsRow 0 e 2 (.slice (some ⟨g,0,none⟩) k cap) k (flatP (ys.take k)):=by
 rcases h.2 with⟨e0,_⟩|⟨g',cap',cur,e0,hb,hg,hn,hm,hs,ht⟩
 ·cases e0
 ·injection e0 with e1 _ e3
  injection e1 with e1
  injection e1 with e1
  subst e1;subst e3
  refine⟨by simp;omega,.inr ⟨g,cap,putCells id 0 (flatK encPt 2 ys.toArray) cur,rfl,hb, ?_,by omega,hm,by simpa[putCells] using hs, ?_⟩⟩
  ·simp[putRowK,putRow,mapBlock,Sort.ahead,Array.getElem?_modify,hg,onCells]
  ·apply List.ext_getElem?
   intro j
   rw[List.getElem?_take,Array.getElem?_toList]
   by_cases hj:j<k*2
   ·have hjc:j<cur.size:=by omega
    have hjy:j<ys.length*2:=by omega
    have hjt:j<(ys.take k).length*2:=by simp;omega
    rw[if_pos hj,flatP_get _ _ hjt]
    simp only[putCells,Array.getElem?_mapIdx,Array.getElem?_eq_getElem hjc,Option.map_some]
    rw[if_pos (by simp;omega)]
    have:=get_flatK encPt 2 ys.toArray j (by simpa using hjy)
    simp only[Nat.sub_zero,id]
    rw[this]
    have h5:j/2<ys.length:=by omega
    simp[getElem!_pos,h5]
   ·rw[if_neg hj,List.getElem?_eq_none (by simp;omega)]
noncomputable def E_sortPg(g:FuncId)(hs:List (Nat×O))(ds:List D):Option (D×List (Nat×O)):=match hs,ds with
 |[(1000,.row e 2 fl es)],[.row 1000,.x (.func (.func g') ⟨[]⟩ ⟨[]⟩)]=>if g'=g then match ptsOf es with
  |some l=>if l.length<4611686018427387904 then some (.tup [],[(1000,.row e 2 fl ((sortP l).map ePt))]) else none
  |none=>none else none
 |_,_=>none
theorem E_sortPg_eq(g:FuncId)(e:TypeId)(fl:Bool)(l:List Pnt)(h:l.length<4611686018427387904):E_sortPg g [(1000,.row e 2 fl (l.map ePt))] [.row 1000,.x (.func (.func g) #[] #[])]=some (.tup [],[(1000,.row e 2 fl ((sortP l).map ePt))]):=by
 simp only[E_sortPg,ptsOf_map,h,if_true]
section
variable {P:Program}{G:Nat→Option (List D)}{f:FuncId}
theorem CE_sortPt_of(g:FuncId)(hent:∀(args:Array Value) (w:World),(callFunc f args).run P w= .ok (.enter f args) w)
  (hsort:∀(blk off cap:Nat) (d:Array Pnt) (w:World),HoldsK encPt 2 w blk off d→blk<w.heap.size→d.size<4611686018427387904→
   Calls P f #[.slice (some ⟨blk,off,none⟩) d.size cap,.func (.func g) #[] #[]] w fun e w'=>e= .returned (.tuple #[])∧∃n os,w'=sortWorldK encPt 2 w blk off n (d.toList.mergeSort fun x y=>!ptLt y x).toArray os)
  (hnone:∀(p:Option Addr) (cap:Nat) (fv:Value) (w:World),Calls P f #[.slice p 0 cap,fv] w fun e w'=>e= .returned (.tuple #[])∧w'=w)
  (hs:List (Nat×O))(ds:List D)(r:D)(hs':List (Nat×O))(h:E_sortPg g hs ds=some (r,hs')):ContractE P G f hs ds r hs':=by
 unfold E_sortPg at h
 split at h
 ·rename_i e fl es g'
  split at h
  ·rename_i hgg
   subst hgg
   split at h
   ·rename_i l hl
    split at h
    ·rename_i hlen
     cases h
     rw[ptsOf_some hl]
     refine⟨hent,fun w ι args hobjs hglob hargs=>?_⟩
     obtain⟨v,hv,hobj⟩:=hobjs.obj 1000 _ rfl
     obtain⟨g1,g2⟩:=cells_of_rowP hobj
     have ha:args= #[v,.func (.func g') #[] #[]]:=by
      obtain⟨hl,hc⟩:=hargs
      match args,hl with
      |⟨[u,u2]⟩,_=>
       have h1:=(row_inv (hc 0 u _ rfl rfl)).1
       have h2:u2= .func (.func g') #[] #[]:=by
        rcases hc 1 u2 _ rfl rfl with(h|h)|⟨_,h,_⟩|⟨_,h,_⟩
        ·cases h;rfl
        ·exact h.elim
        ·cases h
        ·cases h
       rw[hv] at h1
       cases h1
       rw[h2]
     subst ha
     have key:Calls P f #[v,.func (.func g') #[] #[]] w fun en w'=>en= .returned (.tuple #[])∧w.grownBy w' (blk v)∧w'.ownsRow 0 e 2 v (sortP l).length (flatP (sortP l)):=by
      rcases g1.2 with⟨rfl,h0⟩|⟨k,cap,cur,rfl,hb,hg,hn,hm,hcs,ht⟩
      ·refine(hnone none 0 _ w).mono ?_
       rintro en w' ⟨he,rfl⟩
       have:l=[]:=List.eq_nil_of_length_eq_zero (by simpa using h0)
       subst this
       exact⟨he,World.grownBy.refl _ _,by simpa[sortP] using g1⟩
      ·have hH:=holdsP_own g1
       have hlt:=(Array.getElem?_eq_some_iff.1 hg).1
       have:=hsort k 0 cap l.toArray w hH hlt (by simpa using hlen)
       rw[List.size_toArray] at this
       refine this.mono ?_
       rintro en w' ⟨he,n,os,rfl⟩
       refine⟨he,⟨rfl,rfl,rfl,by simp[sortWorldK,grow,putRowK,putRow,mapBlock,Sort.ahead],fun j hk' hne=>?_⟩, ?_⟩
       ·have hk2:k≠j:=fun e=>hne (by rw[e];rfl)
        unfold sortWorldK
        rw[heap_grow_old _ _ (by simpa[putRowK,putRow,mapBlock,Sort.ahead] using hk')]
        simp[putRowK,putRow,mapBlock,Sort.ahead,Array.getElem?_modify,hk2]
       ·have h2:=ownsP_put (q:=n) (k:=l.length) (ys:=sortP l) g1 (by simp) (Nat.le_refl _)
        rw[List.take_of_length_le (by simp)] at h2
        rw[sortP_length]
        exact ownsRow_ext h2 ⟨rfl,rfl,rfl,by unfold sortWorldK;rw[size_grow];exact Nat.le_add_right _ _,fun j hk=>heap_grow_old _ _ hk⟩
     refine key.mono ?_
     rintro en w' ⟨he,hg,ho⟩
     refine⟨_,ι,he,(BelowZ.refl _ _ w).grown hg (Nat.le_refl _) (fun k hk=>g2 k hk),rfl,rfl,⟨fun id o ho'=>?_,fun id u hu=>?_,hobjs.inj,hobjs.fresh⟩,.inr (.inr ⟨_,rfl,#[],rfl,rfl,fun i c d h=>by simp at h⟩),fun id u hu _ _=> .inr hu⟩
     ·simp only[getH] at ho'
      split at ho'
      ·rename_i e;subst e;cases ho'
       exact⟨v,hv,row_of_cellsP ho g2⟩
      ·cases ho'
     ·obtain⟨o,ho'⟩:=hobjs.dom id u hu
      simp only[getH] at ho'⊢
      split at ho'
      ·rename_i e;subst e;exact⟨_,if_pos rfl⟩
      ·cases ho'
    ·cases h
   ·cases h
  ·cases h
 ·cases h
theorem CE_compactPt_of(hent:∀(args:Array Value) (w:World),(callFunc f args).run P w= .ok (.enter f args) w)
  (hcomp:∀(blk off cap:Nat) (d:Array Pnt) (w:World),HoldsK encPt 2 w blk off d→d.size≤4611686018427387903→d.size≤cap→
   Calls P f #[.slice (some ⟨blk,off,none⟩) d.size cap] w fun e w'=>e= .returned (.slice (some ⟨blk,off,none⟩) (Lib.compactUpTo d d.size).length cap)∧∃q,w'=putRowK encPt 2 (Sort.ahead w q) blk off (Lib.compactUpTo d d.size++List.replicate (d.size-(Lib.compactUpTo d d.size).length) (0,0)).toArray)
  (hnone:∀(a:Option Addr) (cap:Nat) (w:World),Calls P f #[.slice a 0 cap] w fun e w'=>e= .returned (.slice a 0 cap)∧w'=w)
  (hs:List (Nat×O))(ds:List D)(r:D)(hs':List (Nat×O))(h:E_compactPt hs ds=some (r,hs')):ContractE P G f hs ds r hs':=by
 unfold E_compactPt at h
 split at h
 ·rename_i e fl es
  split at h
  ·rename_i l hl
   split at h
   ·rename_i hlen
    cases h
    rw[ptsOf_some hl]
    refine⟨hent,fun w ι args hobjs hglob hargs=>?_⟩
    obtain⟨v,hv,hobj⟩:=hobjs.obj 1000 _ rfl
    obtain⟨g1,g2⟩:=cells_of_rowP hobj
    have ha:args= #[v]:=by
     obtain⟨hl,hc⟩:=hargs
     match args,hl with
     |⟨[u]⟩,_=>
      have:=(row_inv (hc 0 u _ rfl rfl)).1
      rw[hv] at this
      cases this
      rfl
    subst ha
    have key:Calls P f #[v] w fun en w'=>∃v',en= .returned v'∧w.grownBy w' (blk v)∧w'.ownsRow 0 e 2 v' (compactP l).length (flatP (compactP l))∧blk v'=blk v:=by
     rcases g1.2 with⟨rfl,h0⟩|⟨k,cap,cur,rfl,hb,hg,hn,hm,hcs,ht⟩
     ·refine(hnone none 0 w).mono ?_
      rintro en w' ⟨he,rfl⟩
      have:l=[]:=List.eq_nil_of_length_eq_zero (by simpa using h0)
      subst this
      exact⟨_,he,World.grownBy.refl _ _,by simpa[compactP,Lib.compact,Lib.compactUpTo] using g1,rfl⟩
     ·have hH:=holdsP_own g1
      have hle:=Lib.compact_length_le l
      have:=hcomp k 0 cap l.toArray w hH (by simp;omega) (by simpa using hn)
      rw[List.size_toArray] at this
      refine this.mono ?_
      rintro en w' ⟨he,q,rfl⟩
      refine⟨_,he,⟨rfl,rfl,rfl,by simp[putRowK,putRow,mapBlock,Sort.ahead],fun j hk' hne=>?_⟩, ?_,rfl⟩
      ·have:k≠j:=fun e=>hne (by rw[e];rfl)
       simp[putRowK,putRow,mapBlock,Sort.ahead,Array.getElem?_modify,this]
      ·have:=ownsP_put (q:=q) (k:=(Lib.compact l).length) (ys:=Lib.compact l++List.replicate (l.length-(Lib.compact l).length) (0,0)) g1 (by simp;omega) hle
       rw[List.take_left] at this
       exact this
    refine key.mono ?_
    rintro en w' ⟨v',he,hg,ho,hb⟩
    refine⟨v',⟨fun k=>if k=0 then some v' else none,ι.K,ι.Z⟩,he,(BelowZ.refl _ _ w).grown hg (Nat.le_refl _) (fun k hk=>g2 k hk),rfl,rfl,⟨fun id o ho'=>?_,fun id u hu=>?_,fun id id' u u' b h1 h2 _ _=>?_,hobjs.fresh⟩,.inl (.inr ⟨by simp, ?_⟩),fun id u hu h1 _=> .inl ?_⟩
    ·simp only[getH] at ho'
     split at ho'
     ·rename_i e;subst e;cases ho'
      exact⟨v',by simp,row_of_cellsP ho (fun b hb'=>g2 b (by rw[←hb];exact hb'))⟩
     ·cases ho'
    ·simp only[] at hu
     split at hu
     ·rename_i e;subst e;exact⟨_,if_pos rfl⟩
     ·cases hu
    ·simp only[] at h1 h2
     split at h1
     ·split at h2
      ·omega
      ·cases h2
     ·cases h1
    ·rcases ho.2 with⟨rfl,_⟩|⟨g,cap,cur,rfl,_⟩<;>exact⟨_,_,_,rfl⟩
    ·simp only[]
     rw[if_neg (by omega)]
   ·cases h
  ·cases h
 ·cases h
end
end Go.Abs
namespace Go.Proofs.YtbdgblipbpadeaaGreatDoor
open Go Go.Abs
@[simp] noncomputable def gl(g:Nat):Option (List D):=if g=0 then some [.x (.int .i64 1),.x (.int .i64 0),.x (.int .i64 0),.x (.int .i64 1),.x (.int .i64 (-1)),.x (.int .i64 0),.x (.int .i64 0),.x (.int .i64 (-1))] else
 if g=1 then some [.x (.int .i64 (-1)),.x (.int .i64 1)] else if g=2 then some [.x (.bool false),.x (.bool false),.x (.bool true),.x (.bool false)] else none
theorem ent_of{f:FuncId}{fn:Func}(hf:Tryz.prog.funcs[f]? =some fn)(hb:fn.body.isNone=false)(hname:(fn.name== "runtime.NumGoroutine")=false)(args:Array Value)(w:World):(callFunc f args).run Tryz.prog w= .ok (.enter f args) w:=by
 have hn:¬fn.name= "runtime.NumGoroutine" :=by simpa using hname
 have hb':¬fn.body=none:=fun e=>by rw[e] at hb;cases hb
 simp[callFunc,hf,hn,hb']
theorem CE_sortI(hs:List (Nat×O))(ds:List D)(r:D)(hs':List (Nat×O))(h:E_sortI hs ds=some (r,hs')):ContractE Tryz.prog gl 174 hs ds r hs':=
 CE_sortI_of (ent_of Tryz.func174 (by kernel_rfl) (by kernel_rfl)) Tryz.slices_Sort_int Tryz.slices_Sort_int_none hs ds r hs' h
theorem CE_compactI(hs:List (Nat×O))(ds:List D)(r:D)(hs':List (Nat×O))(h:E_compactI hs ds=some (r,hs')):ContractE Tryz.prog gl 175 hs ds r hs':=
 CE_compactI_of (ent_of Tryz.func175 (by kernel_rfl) (by kernel_rfl)) Tryz.slices_Compact_int Tryz.slices_Compact_int_empty hs ds r hs' h
noncomputable def E_sortPh:=E_sortPg 251
theorem E_sortPh_eq(e:TypeId)(fl:Bool)(l:List Pnt)(h:l.length<4611686018427387904):E_sortPh [(1000,.row e 2 fl (l.map ePt))] [.row 1000,.x (.func (.func 251) #[] #[])]=some (.tup [],[(1000,.row e 2 fl ((sortP l).map ePt))]):=E_sortPg_eq _ e fl l h
theorem aggPt(w:World):(isAgg 81).run Tryz.prog w= .ok true w:=by go_simp
theorem sizPt(w:World):(Go.sizeOf 81).run Tryz.prog w= .ok 2 w:=by go_simp
theorem ltPt_eq:ltOf cmpPt=ptLt:=by
 funext x y
 rw[ltPt]
 rfl
theorem CE_sortPt(hs:List (Nat×O))(ds:List D)(r:D)(hs':List (Nat×O))(h:E_sortPh hs ds=some (r,hs')):ContractE Tryz.prog gl 250 hs ds r hs':=
 CE_sortPt_of 251 (ent_of Tryz.func250 (by kernel_rfl) (by kernel_rfl))
  (fun blk off cap d w hH hb hs=>by
   have:=Tryz.slices_SortFunc_Pt aggPt sizPt encP encP_len encP_one cmpPt swoPt 251 #[] blk off cap d w (ent_of Tryz.func251 (by kernel_rfl) (by kernel_rfl)) (Tryz.hullLays blk off d.size w) hH hb hs onePt
   rw[ltPt_eq] at this
   exact this)
  Tryz.slices_SortFunc_Pt_none hs ds r hs' h
theorem CE_compactPt(hs:List (Nat×O))(ds:List D)(r:D)(hs':List (Nat×O))(h:E_compactPt hs ds=some (r,hs')):ContractE Tryz.prog gl 254 hs ds r hs':=
 CE_compactPt_of (ent_of Tryz.func254 (by kernel_rfl) (by kernel_rfl)) (fun blk off cap d w hH hs hc=>Tryz.compactPt blk off cap d w hH hs hc) Tryz.compactPt_empty hs ds r hs' h
end Go.Proofs.YtbdgblipbpadeaaGreatDoor
