/-
  The abstract values of an interpreter with value semantics, and how they read a world: definitions and first lemmas.
-/
import Derived.WalkKit
import Derived.Maps.AppendAt
import Derived.Maps.Range
import Derived.MapKept
import Derived.ChangeKeysEq
import Derived.Laws.StructEq
import Derived.Laws.Slices
import Derived.Laws.Strings2
import Derived.Laws.Strings3
import Derived.Laws.MakeOwn
import Derived.Laws.Cells
import Derived.Laws.Tables
import Derived.Laws.CopyRow
import Derived.Laws.BytesString
import Derived.Lib.ConvBytes
import Derived.Laws.AppendOwn
set_option linter.unusedSimpArgs false
set_option linter.unusedVariables false
set_option linter.defProp false
namespace Go.Abs
open Go Go.RowKit
inductive D where
 |any
 |x (v:Value)
 |agg (cs:List D)
 |tup (ds:List D)
 |emp
 |sl (es:List (List D))
 |own (fl:Bool) (es:List (List D))
 |elt (cs:List D)
 |ptr (id off:Nat)
 |row (id:Nat)
 |rel (id sz i off:Nat)
 |bsl (id off n sz:Nat)
 |clo (f:FuncId) (ids:List Nat)
 |mp (id:Nat)
 |mpv (es:List (Value×Value))
 |it (es l:List (Value×Value))
 |fnm (f:FuncId) (es:List (Value×Value))
 |cap0
inductive O where
 |box (ty:TypeId) (cs:List D)
 |row (ety:TypeId) (sz:Nat) (fl:Bool) (es:List (List D))
 |mp (es:List (Value×Value))
def getH:List (Nat×O)→Nat→Option O
 |[],_=>none
 |(k,d)::r,t=>if k=t then some d else getH r t
def upd{α:Type}(f:Nat→α)(k:Nat)(x:α):Nat→α:=fun i=>if i=k then x else f i
@[simp] theorem upd_same{α:Type}(f:Nat→α)(k:Nat)(x:α):upd f k x k=x:=by simp[upd]
theorem upd_upd{α:Type}(f:Nat→α)(k:Nat)(x y:α):upd (upd f k x) k y=upd f k y:=by funext i;simp only[upd];split<;>rfl
theorem upd_ne{α:Type}(f:Nat→α){k i:Nat}(x:α)(h:i≠k):upd f k x i=f i:=by simp[upd,h]
structure Inj where
 f:Nat→Option Value
 K:Nat→Prop
 Z:Nat→Prop
instance :CoeFun Inj (fun _=>Nat→Option Value):=⟨Inj.f⟩
def updI(ι:Inj)(k:Nat)(x:Option Value):Inj:=⟨upd ι.f k x,ι.K,ι.Z⟩
@[simp] theorem updI_same(ι:Inj)(k:Nat)(x:Option Value):(updI ι k x) k=x:=by simp[updI]
theorem updI_ne(ι:Inj){k i:Nat}(x:Option Value)(h:i≠k):(updI ι k x) i=ι i:=by simp[updI,upd,h]
def blk:Value→Option Nat
 | .pointer (some a)=>some a.block
 | .slice (some a) _ _=>some a.block
 | .map (some r)=>some r
 |_=>none
def okB(ι:Inj)(b:Nat):Prop:=ι.K b∧∀id v,ι id=some v→blk v≠some b
def wrB(B:Nat)(ι:Inj)(b:Nat):Prop:=B≤b∨ι.Z b
def frB(B:Nat)(ι:Inj)(b:Nat):Prop:=wrB B ι b∧okB ι b
def isCell:D→Bool
 | .x _=>true
 | .emp=>true
 | .sl _=>true
 | .any=>true
 | .mpv _=>true
 |_=>false
def MapAt(ms:Array MapEntry)(ck:Nat)(es:List (Value×Value)):Prop:=(ms.toList.map fun e=>(e.key,e.val)).Perm es∧MapKept.Stamped ms ck
def SeenAt(ms:Array MapEntry)(ck:Nat)(seen:Array Nat)(c0:Nat)(l:List (Value×Value)):Prop:=
 (∀x∈ms.toList,seen.contains x.born=true↔(x.key,x.val)∈l)∧∀e r,l=e::r→c0=ck∧∃s x,seen=Array.push s x.born∧x∈ms.toList∧(x.key,x.val)=e
inductive RepI(w:World)(ok fr:Nat→Prop):Value→D→Prop
 |any (v:Value):RepI w ok fr v .any
 |x (v:Value):RepI w ok fr v (.x v)
 |agg {cs:Array Value} {ds:List D} (hl:cs.size=ds.length)
  (h:∀(i:Nat) (c:Value) (d:D),cs[i]? =some c→ds[i]? =some d→RepI w ok fr c d):RepI w ok fr (.agg cs) (.agg ds)
 |tup {cs:Array Value} {ds:List D} (hl:cs.size=ds.length)
  (h:∀(i:Nat) (c:Value) (d:D),cs[i]? =some c→ds[i]? =some d→RepI w ok fr c d):RepI w ok fr (.tuple cs) (.tup ds)
 |emp:RepI w ok fr (.slice none 0 0) .emp
 |sl0 (A:Option Addr) (c:Nat):RepI w ok fr (.slice A 0 c) (.sl [])
 |own0 (A:Option Addr) (c:Nat) (fl:Bool):RepI w ok fr (.slice A 0 c) (.own fl [])
 |sl {a:Addr} {c sz:Nat} {es:List (List D)} (hb:ok a.block) (hlt:a.block<w.heap.size) (hcap:es.length≤c) (hic:∀e∈es,∀d∈e,isCell d=true) (hsz:∀e∈es,e.length=sz)
  (hcell:∀i j,i<es.length→j<sz→∃u,w.cell? (a.add (i*sz+j))=some u∧u.oneCell'=true)
  (hrep:∀(i:Nat) (e:List D) (j:Nat) (d:D) (u:Value),es[i]? =some e→e[j]? =some d→w.cell? (a.add (i*sz+j))=some u→RepI w ok fr u d):
  RepI w ok fr (.slice (some a) es.length c) (.sl es)
 |own {a:Addr} {c sz:Nat} {fl:Bool} {es:List (List D)} (hb:fr a.block) (hlt:a.block<w.heap.size) (hcap:es.length≤c) (hic:∀e∈es,∀d∈e,isCell d=true) (hsz:∀e∈es,e.length=sz)
  (hcell:∀i j,i<es.length→j<sz→∃u,w.cell? (a.add (i*sz+j))=some u∧u.oneCell'=true)
  (hrep:∀(i:Nat) (e:List D) (j:Nat) (d:D) (u:Value),es[i]? =some e→e[j]? =some d→w.cell? (a.add (i*sz+j))=some u→RepI w ok fr u d)
  (hfl:fl=true→∀e∈es,∀d∈e,∃v,d= .x v):
  RepI w ok fr (.slice (some a) es.length c) (.own fl es)
 |elt {a:Addr} {cs:List D} (hb:ok a.block) (hlt:a.block<w.heap.size) (hic:∀d∈cs,isCell d=true)
  (hcell:∀j,j<cs.length→∃u,w.cell? (a.add j)=some u∧u.oneCell'=true)
  (hrep:∀(j:Nat) (d:D) (u:Value),cs[j]? =some d→w.cell? (a.add j)=some u→RepI w ok fr u d):RepI w ok fr (.pointer (some a)) (.elt cs)
 |mpv {r:Nat} {ms:Array MapEntry} {ck:Nat} {es:List (Value×Value)} (hb:ok r) (hh:w.heap[r]? =some (.map ms ck)) (hm:MapAt ms ck es):RepI w ok fr (.map (some r)) (.mpv es)
 |it {r b:Nat} {ms:Array MapEntry} {ck since c0:Nat} {seen:Array Nat} {es l:List (Value×Value)} (hb:fr r) (hb2:ok b) (hr:w.heap[r]? =some (.mapIter (some b) since seen c0)) (hh:w.heap[b]? =some (.map ms ck)) (hm:MapAt ms ck es)
  (ho:∀x∈ms.toList,x.born<since) (hs:since≤c0) (hk:since≤ck) (hl:SeenAt ms ck seen c0 l):RepI w ok fr (.pointer (some ⟨r,0,none⟩)) (.it es l)
 |fnm {f b r:Nat} {ms:Array MapEntry} {ck:Nat} {e:TypeId} {es:List (Value×Value)} (hb:ok b) (hb2:ok r) (hc:w.heap[b]? =some (.cells #[.map (some r)] e)) (hh:w.heap[r]? =some (.map ms ck)) (hm:MapAt ms ck es):RepI w ok fr (.func (.func f) #[] #[.pointer (some ⟨b,0,none⟩)]) (.fnm f es)
 |cap0 (A:Option Addr):RepI w ok fr (.slice A 0 0) .cap0
theorem RepI.mono{w w':World}{ok fr ok' fr':Nat→Prop}{v:Value}{d:D}(h:RepI w ok fr v d)
  (hs:w.heap.size≤w'.heap.size)
  (hok:∀b,b<w.heap.size→ok b→ok' b∧w'.heap[b]? =w.heap[b]?)
  (hfr:∀b,b<w.heap.size→fr b→fr' b∧w'.heap[b]? =w.heap[b]?):RepI w' ok' fr' v d:=by
 induction h with
 |any v=>exact .any v
 |x v=>exact .x v
 |agg hl _ ih=>exact .agg hl ih
 |tup hl _ ih=>exact .tup hl ih
 |emp=>exact .emp
 |sl0 A c=>exact .sl0 A c
 |own0 A c fl=>exact .own0 A c fl
 | @sl a c sz es hb hlt hcap hic hsz hcell _ ih=>
  obtain⟨h1,h2⟩:=hok _ hlt hb
  have hc:∀n,w'.cell? (a.add n)=w.cell? (a.add n):=fun n=>World.cell?_of_block (by
   have:(a.add n).block=a.block:=by unfold Addr.add;split<;>rfl
   rw[this];exact h2)
  exact .sl h1 (Nat.lt_of_lt_of_le hlt hs) hcap hic hsz (fun i j hi hj=>by rw[hc];exact hcell i j hi hj)
   (fun i e j d u he hd hu=>ih i e j d u he hd (by rw[←hc];exact hu))
 | @own a c sz fl es hb hlt hcap hic hsz hcell _ hfl ih=>
  obtain⟨h1,h2⟩:=hfr _ hlt hb
  have hc:∀n,w'.cell? (a.add n)=w.cell? (a.add n):=fun n=>World.cell?_of_block (by
   have:(a.add n).block=a.block:=by unfold Addr.add;split<;>rfl
   rw[this];exact h2)
  exact .own h1 (Nat.lt_of_lt_of_le hlt hs) hcap hic hsz (fun i j hi hj=>by rw[hc];exact hcell i j hi hj)
   (fun i e j d u he hd hu=>ih i e j d u he hd (by rw[←hc];exact hu)) hfl
 | @elt a cs hb hlt hic hcell _ ih=>
  obtain⟨h1,h2⟩:=hok _ hlt hb
  have hc:∀n,w'.cell? (a.add n)=w.cell? (a.add n):=fun n=>World.cell?_of_block (by
   have:(a.add n).block=a.block:=by unfold Addr.add;split<;>rfl
   rw[this];exact h2)
  exact .elt h1 (Nat.lt_of_lt_of_le hlt hs) hic (fun j hj=>by rw[hc];exact hcell j hj)
   (fun j d u hd hu=>ih j d u hd (by rw[←hc];exact hu))
 | @mpv r ms ck es hb hh hm=>
  obtain⟨h1,h2⟩:=hok _ (Array.getElem?_eq_some_iff.1 hh).1 hb
  exact .mpv h1 (by rw[h2];exact hh) hm
 |it hb hb2 hr hh hm ho hs hk hl=>
  obtain⟨h1,h2⟩:=hfr _ (Array.getElem?_eq_some_iff.1 hr).1 hb
  obtain⟨h3,h4⟩:=hok _ (Array.getElem?_eq_some_iff.1 hh).1 hb2
  exact .it h1 h3 (by rw[h2];exact hr) (by rw[h4];exact hh) hm ho hs hk hl
 |fnm hb hb2 hc hh hm=>
  obtain⟨h1,h2⟩:=hok _ (Array.getElem?_eq_some_iff.1 hc).1 hb
  obtain⟨h3,h4⟩:=hok _ (Array.getElem?_eq_some_iff.1 hh).1 hb2
  exact .fnm h1 h3 (by rw[h2];exact hc) (by rw[h4];exact hh) hm
 |cap0 A=>exact .cap0 A
theorem RepI.cell{w:World}{ok fr:Nat→Prop}{v:Value}{d:D}(h:RepI w ok fr v d)(fr':Nat→Prop):
  (isCell d=true→RepI w ok fr' v d)∧(∀cs,d= .elt cs→RepI w ok fr' v d)∧(∀fl es,d= .own fl es→RepI w (fun b=>ok b∨fr b) fr' v (.sl es)):=by
 have wk:∀{u:Value} {e:D},RepI w ok fr' u e→RepI w (fun b=>ok b∨fr b) fr' u e:=fun h=>
  h.mono (Nat.le_refl _) (fun b _ ho=>⟨.inl ho,rfl⟩) (fun b _ ho=>⟨ho,rfl⟩)
 induction h with
 |any v=>exact⟨fun _=> .any v,fun cs h=>(nomatch h),fun fl es h=>(nomatch h)⟩
 |x v=>exact⟨fun _=> .x v,fun cs h=>(nomatch h),fun fl es h=>(nomatch h)⟩
 |agg hl _ _=>exact⟨fun h=>(nomatch h),fun cs h=>(nomatch h),fun fl es h=>(nomatch h)⟩
 |tup hl _ _=>exact⟨fun h=>(nomatch h),fun cs h=>(nomatch h),fun fl es h=>(nomatch h)⟩
 |emp=>exact⟨fun _=> .emp,fun cs h=>(nomatch h),fun fl es h=>(nomatch h)⟩
 |sl0 A c=>exact⟨fun _=> .sl0 A c,fun cs h=>(nomatch h),fun fl es h=>(nomatch h)⟩
 |own0 A c fl=>exact⟨fun h=>(nomatch h),fun cs h=>(nomatch h),fun fl' es h=>by cases h;exact .sl0 A c⟩
 | @sl a c sz es hb hlt hcap hic hsz hcell _ ih=>
  refine⟨fun _=> .sl hb hlt hcap hic hsz hcell (fun i e j d u he hd hu=>(ih i e j d u he hd hu).1 ?_),fun cs h=>(nomatch h),fun fl es h=>(nomatch h)⟩
  exact hic e (List.mem_of_getElem? he) d (List.mem_of_getElem? hd)
 | @own a c sz fl es hb hlt hcap hic hsz hcell _ hfl ih=>
  refine⟨fun h=>(nomatch h),fun cs h=>(nomatch h),fun fl' es' h=>?_⟩
  cases h
  exact .sl (.inr hb) hlt hcap hic hsz hcell (fun i e j d u he hd hu=>wk ((ih i e j d u he hd hu).1 (hic e (List.mem_of_getElem? he) d (List.mem_of_getElem? hd))))
 | @elt a cs hb hlt hic hcell _ ih=>
  refine⟨fun h=>(nomatch h),fun cs' h=>?_,fun fl es h=>(nomatch h)⟩
  exact .elt hb hlt hic hcell (fun j d u hd hu=>(ih j d u hd hu).1 (hic d (List.mem_of_getElem? hd)))
 |mpv hb hh hm=>exact⟨fun _=> .mpv hb hh hm,fun cs h=>(nomatch h),fun fl es h=>(nomatch h)⟩
 |it hb hb2 hr hh hm ho hs hk hl=>exact⟨fun h=>(nomatch h),fun cs h=>(nomatch h),fun fl es h=>(nomatch h)⟩
 |fnm hb hb2 hc hh hm=>exact⟨fun h=>(nomatch h),fun cs h=>(nomatch h),fun fl es h=>(nomatch h)⟩
 |cap0 A=>exact⟨fun h=>(nomatch h),fun cs h=>(nomatch h),fun fl es h=>(nomatch h)⟩
def Ref(ι:Inj)(v:Value):D→Prop
 | .ptr id off=>∃b,ι id=some (.pointer (some ⟨b,0,none⟩))∧v= .pointer (some ⟨b,off,none⟩)
 | .row id=>ι id=some v∧∃A n c,v= .slice A n c
 | .rel id sz i off=>∃b n c,ι id=some (.slice (some ⟨b,0,none⟩) n c)∧v= .pointer (some ⟨b,i*sz+off,none⟩)
 | .bsl id off n _=>∃b c,ι id=some (.pointer (some ⟨b,0,none⟩))∧v= .slice (some ⟨b,off,none⟩) n c∧n≤c
 | .clo f ids=>∃cap:Array Value,v= .func (.func f) #[] cap∧cap.size=ids.length∧∀(i:Nat) (c:Value) (id:Nat),cap[i]? =some c→ids[i]? =some id→ι id=some c∧∃b,c= .pointer (some ⟨b,0,none⟩)
 | .mp id=>ι id=some v∧∃r,v= .map (some r)
 |_=>False
def Rep1(w:World)(B:Nat)(ι:Inj)(v:Value)(d:D):Prop:=RepI w (okB ι) (frB B ι) v d∨Ref ι v d
def RepA(w:World)(B:Nat)(ι:Inj)(v:Value)(ds:List D):Prop:=
 ∃cs:Array Value,v= .agg cs∧cs.size=ds.length∧∀(i:Nat) (c:Value) (d:D),cs[i]? =some c→ds[i]? =some d→Rep1 w B ι c d
def Rep0(w:World)(B:Nat)(ι:Inj)(v:Value)(d:D):Prop:=Rep1 w B ι v d∨∃ds,d= .agg ds∧RepA w B ι v ds
def RepT(w:World)(B:Nat)(ι:Inj)(v:Value)(ds:List D):Prop:=
 ∃cs:Array Value,v= .tuple cs∧cs.size=ds.length∧∀(i:Nat) (c:Value) (d:D),cs[i]? =some c→ds[i]? =some d→Rep0 w B ι c d
def Rep(w:World)(B:Nat)(ι:Inj)(v:Value)(d:D):Prop:=Rep1 w B ι v d∨(∃ds,d= .agg ds∧RepA w B ι v ds)∨∃ds,d= .tup ds∧RepT w B ι v ds
def mapA(f:D→D):D→D
 | .agg cs=> .agg (cs.map f)
 |d=>f d
def mapT(f:D→D):D→D
 | .tup ds=> .tup (ds.map (mapA f))
 |d=>mapA f d
theorem Rep0.mapA{w w':World}{B B':Nat}{ι ι':Inj}{v:Value}{d:D}{f:D→D}(h:Rep0 w B ι v d)(hf:∀v d,Rep1 w B ι v d→(∀cs,d≠ .agg cs)→Rep1 w' B' ι' v (f d))
  (hc:∀v cs,RepI w (okB ι) (frB B ι) v (.agg cs)→Rep1 w' B' ι' v (f (.agg cs))):Rep0 w' B' ι' v (mapA f d):=by
 have agg:∀(cs:Array Value) (ds:List D),cs.size=ds.length→(∀(i:Nat) (c:Value) (d:D),cs[i]? =some c→ds[i]? =some d→Rep1 w B ι c d)→Rep0 w' B' ι' (.agg cs) (Abs.mapA f (.agg ds)):=by
  intro cs ds hl hc'
  refine .inr ⟨_,rfl,cs,rfl,by simpa using hl,fun i c d h1 h2=>?_⟩
  simp only[List.getElem?_map,Option.map_eq_some_iff] at h2
  obtain⟨d',h2,rfl⟩:=h2
  have:=hc' i c d' h1 h2
  by_cases hd:∃ds,d'= .agg ds
  ·obtain⟨ds,rfl⟩:=hd
   exact hc c ds (this.resolve_right (fun h=>h.elim))
  ·exact hf c d' this (fun ds e=>hd ⟨ds,e⟩)
 by_cases hd:∃ds,d= .agg ds
 ·obtain⟨ds,rfl⟩:=hd
  rcases h with h|⟨_,e,cs,rfl,hl,hc'⟩
  ·rcases h with h|h
   ·cases h with
    |agg hl hc'=>exact agg _ _ hl (fun i c d h1 h2=> .inl (hc' i c d h1 h2))
   ·exact h.elim
  ·cases e
   exact agg cs ds hl hc'
 ·have e:Abs.mapA f d=f d:=by cases d<;>first|rfl|exact absurd ⟨_,rfl⟩ hd
  rw[e]
  rcases h with h|⟨ds,e,_⟩
  ·exact .inl (hf v d h (fun ds e=>hd ⟨ds,e⟩))
  ·exact absurd ⟨ds,e⟩ hd
theorem Rep0.of{w:World}{B:Nat}{ι:Inj}{v:Value}{d:D}(h:Rep0 w B ι v d):Rep w B ι v d:=h.imp (fun h=>h) .inl
theorem Rep.mapT{w w':World}{B B':Nat}{ι ι':Inj}{v:Value}{d:D}{f:D→D}(h:Rep w B ι v d)(hf:∀v d,Rep1 w B ι v d→(∀cs,d≠ .agg cs)→Rep1 w' B' ι' v (f d))
  (hc:∀v cs,RepI w (okB ι) (frB B ι) v (.agg cs)→Rep1 w' B' ι' v (f (.agg cs))):Rep w' B' ι' v (mapT f d):=by
 have tup:∀(cs:Array Value) (ds:List D),cs.size=ds.length→(∀(i:Nat) (c:Value) (d:D),cs[i]? =some c→ds[i]? =some d→Rep0 w B ι c d)→Rep w' B' ι' (.tuple cs) (Abs.mapT f (.tup ds)):=by
  intro cs ds hl hc'
  refine .inr (.inr ⟨_,rfl,cs,rfl,by simpa using hl,fun i c d h1 h2=>?_⟩)
  simp only[List.getElem?_map,Option.map_eq_some_iff] at h2
  obtain⟨d',h2,rfl⟩:=h2
  exact(hc' i c d' h1 h2).mapA hf hc
 by_cases hd:∃ds,d= .tup ds
 ·obtain⟨ds,rfl⟩:=hd
  rcases h with h|⟨_,e,_⟩|⟨_,e,cs,rfl,hl,hc'⟩
  ·rcases h with h|h
   ·cases h with
    |tup hl hc'=>exact tup _ _ hl (fun i c d h1 h2=> .inl (.inl (hc' i c d h1 h2)))
   ·exact h.elim
  ·cases e
  ·cases e
   exact tup cs ds hl hc'
 ·have e:Abs.mapT f d=Abs.mapA f d:=by cases d<;>first|rfl|exact absurd ⟨_,rfl⟩ hd
  rw[e]
  rcases h with h|h|⟨ds,e,_⟩
  ·exact(Rep0.mapA (.inl h) hf hc).of
  ·exact(Rep0.mapA (.inr h) hf hc).of
  ·exact absurd ⟨ds,e⟩ hd
theorem mapT_id(d:D):mapT (fun d=>d) d=d:=by
 have e:∀d,mapA (fun d=>d) d=d:=by intro d;cases d<;>simp[mapA]
 have e':mapA (fun d=>d)=fun d=>d:=funext e
 cases d<;>simp[mapT,e']
 all_goals exact e _
def ObjRel(w:World)(B:Nat)(ι:Inj)(v:Value):O→Prop
 | .box ty cs=>∃b cur,v= .pointer (some ⟨b,0,none⟩)∧wrB B ι b∧w.heap[b]? =some (.cells cur ty (0,0))∧cur.size=cs.length∧
  ∀(j:Nat) (c:Value) (d:D),cur[j]? =some c→cs[j]? =some d→Rep1 w B ι c d∧c.oneCell'=true
 | .row ety sz fl es=>∃xs,0<sz∧(w.ownsRow 0 ety sz v es.length xs∧∀b,blk v=some b→wrB B ι b)∧(∀e∈es,e.length=sz)∧
  (∀(i:Nat) (e:List D) (j:Nat) (d:D) (c:Value),es[i]? =some e→e[j]? =some d→xs[i*sz+j]? =some c→
   RepI w (okB ι) (frB B ι) c d)∧(∀c∈xs,c.oneCell'=true)∧(∀e∈es,∀d∈e,isCell d=true)∧
  (fl=true→∀e∈es,∀d∈e,∃v,d= .x v)
 | .mp es=>∃r ms ck,v= .map (some r)∧wrB B ι r∧w.heap[r]? =some (.map ms ck)∧MapAt ms ck es
structure Bs where
 w:World
 K:Nat→Prop
 Z:Nat→Prop
 f:Nat→Option Value
 G:Nat→Option (List D)
 Df:List Deferred
structure BelowZ(B:Nat)(Z:Nat→Prop)(w w':World):Prop where
 os:w'.os=w.os
 tape:w'.tape=w.tape
 output:w'.output=w.output
 size:w.heap.size≤w'.heap.size
 block:∀k,k<B→¬Z k→w'.heap[k]? =w.heap[k]?
theorem BelowZ.refl(B:Nat)(Z:Nat→Prop)(w:World):BelowZ B Z w w:=⟨rfl,rfl,rfl,Nat.le_refl _,fun _ _ _=>rfl⟩
theorem BelowZ.ext{B:Nat}{Z:Nat→Prop}{w w' w'':World}(h:BelowZ B Z w w')(hB:B≤w'.heap.size)(hx:Below w'.heap.size w' w''):BelowZ B Z w w'':=
 ⟨hx.os.trans h.os,hx.tape.trans h.tape,hx.output.trans h.output,Nat.le_trans h.size hx.size,fun k hk hz=>(hx.block k (Nat.lt_of_lt_of_le hk hB)).trans (h.block k hk hz)⟩
structure GlobAt(w:World)(ok fr:Nat→Prop)(g:Nat)(cs:List D):Prop where
 rep:RepI w ok fr (.pointer (some ⟨g,0,none⟩)) (.elt cs)
 ok:ok g
 lt:g<w.heap.size
 all:∃o t m,w.heap[g]? =some (.cells o t m)∧o.size=cs.length
theorem GlobAt.to{w w':World}{ok fr ok' fr':Nat→Prop}{g:Nat}{cs:List D}(h:GlobAt w ok fr g cs)(hr:RepI w' ok' fr' (.pointer (some ⟨g,0,none⟩)) (.elt cs))(hh:w'.heap[g]? =w.heap[g]?):GlobAt w' ok' fr' g cs:=by
 refine⟨hr, ?_, ?_,by rw[hh];exact h.all⟩
 ·cases hr;assumption
 ·cases hr;assumption
structure Rel(N B:Nat)(w0:Bs)(ι:Inj)(ρ:Nat→D)(η:Nat→Option O)(a:Act)(w:World):Prop where
 defers:a.defers=w0.Df
 size:a.tmps.size=N
 tmp:∀t,Rep w B ι (a.tmps.getD t undef) (ρ t)
 obj:∀id o,η id=some o→∃v,ι id=some v∧ObjRel w B ι v o
 dom:∀id v,ι id=some v→∃o,η id=some o
 inj:∀id id' v v' b,ι id=some v→ι id'=some v'→blk v=some b→blk v'=some b→id=id'
 below:BelowZ B w0.Z w0.w w
 base:B≤w.heap.size
 fresh:∀b,wrB B ι b→ι.K b
 kk:ι.K=w0.K
 zz:ι.Z=w0.Z
 k0:∀id v,w0.f id=some v→1000≤id→id<10000→ι id=none∨ι id=some v
 nn:N≤1000
 glob:∀g cs,w0.G g=some cs→GlobAt w (okB ι) (frB B ι) g cs
theorem ObjRel.blk_lt{w:World}{B:Nat}{ι:Inj}{v:Value}{o:O}(h:ObjRel w B ι v o):∀b,blk v=some b→wrB B ι b∧b<w.heap.size:=by
 intro b hb
 cases o with
 |box ty cs=>
  obtain⟨b',cur,rfl,hB,hh,_⟩:=h
  simp[blk] at hb
  subst hb
  exact⟨hB,(Array.getElem?_eq_some_iff.1 hh).1⟩
 |row ety sz fl es=>
  obtain⟨xs,_,⟨hown,hwr⟩,_⟩:=h
  refine⟨hwr b hb,(hown.lt b ?_).2⟩
  rcases hown.2 with⟨rfl,_⟩|⟨g,cap,cur,rfl,_⟩
  ·simp[blk] at hb
  ·simpa[blk,Value.ownBlock] using hb
 |mp es=>
  obtain⟨r,ms,ck,rfl,hB,hh,_⟩:=h
  simp[blk] at hb
  subst hb
  exact⟨hB,(Array.getElem?_eq_some_iff.1 hh).1⟩
theorem Rel.blk_lt{N B:Nat}{w0:Bs}{ι:Inj}{ρ:Nat→D}{η:Nat→Option O}{a:Act}{w:World}(h:Rel N B w0 ι ρ η a w)
  {id:Nat}{v:Value}(hv:ι id=some v){b:Nat}(hb:blk v=some b):wrB B ι b∧b<w.heap.size:=by
 obtain⟨o,ho⟩:=h.dom id v hv
 obtain⟨v',hv',hr⟩:=h.obj id o ho
 rw[hv] at hv'
 cases hv'
 exact hr.blk_lt b hb
abbrev Ext(w w':World):Prop:=Below w.heap.size w w'
theorem Rep1.ext{w w':World}{B:Nat}{ι:Inj}{v:Value}{d:D}(h:Rep1 w B ι v d)(hx:Ext w w'):Rep1 w' B ι v d:=by
 rcases h with h|h
 ·exact .inl (h.mono hx.size (fun b hb ho=>⟨ho,hx.block b hb⟩) (fun b hb ho=>⟨ho,hx.block b hb⟩))
 ·exact .inr h
theorem Rep.ext{w w':World}{B:Nat}{ι:Inj}{v:Value}{d:D}(h:Rep w B ι v d)(hx:Ext w w'):Rep w' B ι v d:=by
 have:=h.mapT (f:=fun d=>d) (fun v d h _=>h.ext hx) (fun v cs h=>(Rep1.ext (.inl h) hx))
 rwa[mapT_id] at this
theorem ownsRow_ext{w w':World}{B:Nat}{e:TypeId}{sz:Nat}{v:Value}{n:Nat}{xs:List Value}(h:w.ownsRow B e sz v n xs)(hx:Ext w w'):w'.ownsRow B e sz v n xs:=by
 refine⟨h.1, ?_⟩
 rcases h.2 with h|⟨g,cap,cur,h1,h2,h3,h4⟩
 ·exact .inl h
 ·exact .inr ⟨g,cap,cur,h1,h2,by rw[hx.block g (Array.getElem?_eq_some_iff.1 h3).1];exact h3,h4⟩
theorem ObjRel.ext{w w':World}{B:Nat}{ι:Inj}{v:Value}{o:O}(h:ObjRel w B ι v o)(hx:Ext w w'):ObjRel w' B ι v o:=by
 cases o with
 |box ty cs=>
  obtain⟨b,cur,h1,h2,h3,h4,h5⟩:=h
  exact⟨b,cur,h1,h2,by rw[hx.block b (Array.getElem?_eq_some_iff.1 h3).1];exact h3,h4,fun j c d hc hd=>⟨(h5 j c d hc hd).1.ext hx,(h5 j c d hc hd).2⟩⟩
 |row ety sz fl es=>
  obtain⟨xs,h1,h2,h3,h4,h5⟩:=h
  exact⟨xs,h1,⟨ownsRow_ext h2.1 hx,h2.2⟩,h3,fun i e j d c he hd hc=>(h4 i e j d c he hd hc).mono hx.size (fun b hb ho=>⟨ho,hx.block b hb⟩) (fun b hb ho=>⟨ho,hx.block b hb⟩),h5⟩
 |mp es=>
  obtain⟨r,ms,ck,h1,h2,h3,h4⟩:=h
  exact⟨r,ms,ck,h1,h2,by rw[hx.block r (Array.getElem?_eq_some_iff.1 h3).1];exact h3,h4⟩
theorem Rel.ext{N B:Nat}{w0:Bs}{ι:Inj}{ρ:Nat→D}{η:Nat→Option O}{a:Act}{w w':World}(h:Rel N B w0 ι ρ η a w)(hx:Ext w w'):
  Rel N B w0 ι ρ η a w' where
 defers:=h.defers
 size:=h.size
 tmp t:=(h.tmp t).ext hx
 obj id o ho:=let⟨v,hv,hr⟩:=h.obj id o ho;⟨v,hv,hr.ext hx⟩
 dom:=h.dom
 inj:=h.inj
 below:=h.below.ext h.base hx
 base:=Nat.le_trans h.base hx.size
 fresh:=h.fresh
 kk:=h.kk
 zz:=h.zz
 k0:=h.k0
 nn:=h.nn
 glob g cs hg:=(h.glob g cs hg).to ((h.glob g cs hg).rep.mono hx.size (fun b hb ho=>⟨ho,hx.block b hb⟩) (fun b hb ho=>⟨ho,hx.block b hb⟩)) (hx.block g (h.glob g cs hg).lt)
theorem getD_put{a:Act}{t:Nat}{v:Value}(ht:t<a.tmps.size)(i:Nat):(a.put (some t) v).tmps.getD i undef=if i=t then v else a.tmps.getD i undef:=by
 simp only[Act.put]
 by_cases h:i=t
 ·subst h;simp[ht]
 ·simp[h,Array.getElem?_setIfInBounds_ne (Ne.symm h)]
theorem Rel.put{N B:Nat}{w0:Bs}{ι:Inj}{ρ:Nat→D}{η:Nat→Option O}{a:Act}{w:World}(h:Rel N B w0 ι ρ η a w){t:Nat}(ht:t<N){v:Value}{d:D}
  (hv:Rep w B ι v d):Rel N B w0 ι (upd ρ t d) η (a.put (some t) v) w where
 defers:=h.defers
 size:=by simp[Act.put,h.size]
 tmp i:=by
  rw[getD_put (by rw[h.size];exact ht)]
  by_cases hi:i=t
  ·subst hi;simpa using hv
  ·rw[upd_ne _ _ hi,if_neg hi];exact h.tmp i
 obj:=h.obj
 dom:=h.dom
 inj:=h.inj
 below:=h.below
 base:=h.base
 fresh:=h.fresh
 kk:=h.kk
 zz:=h.zz
 k0:=h.k0
 nn:=h.nn
 glob:=h.glob
theorem Rel.weak{N B:Nat}{w0:Bs}{ι:Inj}{ρ ρ':Nat→D}{η:Nat→Option O}{a:Act}{w:World}(h:Rel N B w0 ι ρ η a w)(hρ:∀t,ρ' t=ρ t∨ρ' t= .any):
  Rel N B w0 ι ρ' η a w where
 defers:=h.defers
 size:=h.size
 tmp t:=by
  rcases hρ t with e|e
  ·rw[e];exact h.tmp t
  ·rw[e];exact .inl (.inl (.any _))
 obj:=h.obj
 dom:=h.dom
 inj:=h.inj
 below:=h.below
 base:=h.base
 fresh:=h.fresh
 kk:=h.kk
 zz:=h.zz
 k0:=h.k0
 nn:=h.nn
 glob:=h.glob
def del(ι:Inj)(id:Nat):Inj:=updI ι id none
theorem del_some{ι:Inj}{id i:Nat}{v:Value}(h:del ι id i=some v):i≠id∧ι i=some v:=by
 unfold del at h
 by_cases hi:i=id
 ·subst hi;simp at h
 ·rw[updI_ne _ _ hi] at h;exact⟨hi,h⟩
theorem del_ne(ι:Inj){id i:Nat}(h:i≠id):del ι id i=ι i:=updI_ne ι _ h
theorem okB_del{ι:Inj}{id b:Nat}(h:okB ι b):okB (del ι id) b:=by
 exact⟨h.1,fun i v hv=>h.2 i v (del_some hv).2⟩
def refsTo(id:Nat):D→Bool
 | .ptr i _=>i==id
 | .row i=>i==id
 | .rel i _ _ _=>i==id
 | .bsl i _ _ _=>i==id
 | .clo _ ids=>ids.contains id
 | .mp i=>i==id
 |_=>false
def kill1(id:Nat)(d:D):D:=if refsTo id d then .any else d
def killD(id:Nat):D→D:=mapT (kill1 id)
def killO(id:Nat):O→O
 | .box ty cs=> .box ty (cs.map (kill1 id))
 |o=>o
def killH(id:Nat)(η:Nat→Option O):Nat→Option O:=fun i=>if i=id then none else(η i).map (killO id)
theorem RepI.del{w:World}{B:Nat}{ι:Inj}{v:Value}{d:D}(id:Nat)(h:RepI w (okB ι) (frB B ι) v d):RepI w (okB (del ι id)) (frB B (del ι id)) v d:=
 h.mono (Nat.le_refl _) (fun _ _ ho=>⟨okB_del ho,rfl⟩) (fun _ _ ho=>⟨⟨ho.1,okB_del ho.2⟩,rfl⟩)
theorem Rep1.kill{w:World}{B:Nat}{ι:Inj}{v:Value}{d:D}(id:Nat)(h:Rep1 w B ι v d):Rep1 w B (del ι id) v (kill1 id d):=by
 unfold kill1
 split
 ·exact .inl (.any _)
 ·rename_i hr
  rcases h with h|h
  ·exact .inl (h.del id)
  ·refine .inr ?_
   cases d<;>simp only[Ref] at h⊢<;>simp only[refsTo,beq_iff_eq] at hr
   case ptr i off=>rw[del_ne ι hr];exact h
   case row i=>rw[del_ne ι hr];exact h
   case rel i sz k off=>rw[del_ne ι hr];exact h
   case bsl i off n sz=>rw[del_ne ι hr];exact h
   case clo f ids=>
    obtain⟨cap,h1,h2,h3⟩:=h
    refine⟨cap,h1,h2,fun i c k hc hk=>?_⟩
    have:k≠id:=by
     rintro rfl
     exact hr (by simp[List.contains_eq_mem,List.mem_of_getElem? hk])
    rw[del_ne ι this]
    exact h3 i c k hc hk
   case mp i=>rw[del_ne ι hr];exact h
theorem Rep.kill{w:World}{B:Nat}{ι:Inj}{v:Value}{d:D}(id:Nat)(h:Rep w B ι v d):Rep w B (del ι id) v (killD id d):=
 h.mapT (fun v d h _=>h.kill id) (fun v cs h=>Rep1.kill id (.inl h))
theorem ObjRel.kill{w:World}{B:Nat}{ι:Inj}{v:Value}{o:O}(id:Nat)(h:ObjRel w B ι v o):ObjRel w B (del ι id) v (killO id o):=by
 cases o with
 |box ty cs=>
  obtain⟨b,cur,h1,h2,h3,h4,h5⟩:=h
  refine⟨b,cur,h1,h2,h3,by simpa using h4,fun j c d hc hd=>?_⟩
  simp only[List.getElem?_map,Option.map_eq_some_iff] at hd
  obtain⟨d',hd,rfl⟩:=hd
  exact⟨(h5 j c d' hc hd).1.kill id,(h5 j c d' hc hd).2⟩
 |row ety sz fl es=>
  obtain⟨xs,h1,h2,h3,h4,h5⟩:=h
  exact⟨xs,h1,h2,h3,fun i e j d c he hd hc=>(h4 i e j d c he hd hc).del id,h5⟩
 |mp es=>exact h
theorem Rel.kill{N B:Nat}{w0:Bs}{ι:Inj}{ρ:Nat→D}{η:Nat→Option O}{a:Act}{w:World}(h:Rel N B w0 ι ρ η a w)(id:Nat):
  Rel N B w0 (del ι id) (fun t=>killD id (ρ t)) (killH id η) a w where
 defers:=h.defers
 size:=h.size
 tmp t:=(h.tmp t).kill id
 obj i o ho:=by
  unfold killH at ho
  split at ho
  ·cases ho
  ·rename_i hi
   simp only[Option.map_eq_some_iff] at ho
   obtain⟨o',ho,rfl⟩:=ho
   obtain⟨v,hv,hr⟩:=h.obj i o' ho
   exact⟨v,by rw[del_ne ι hi];exact hv,hr.kill id⟩
 dom i v hv:=by
  obtain⟨hi,hv⟩:=del_some hv
  obtain⟨o,ho⟩:=h.dom i v hv
  exact⟨killO id o,by simp[killH,hi,ho]⟩
 inj i i' v v' b h1 h2 h3 h4:=by
  exact h.inj i i' v v' b (del_some h1).2 (del_some h2).2 h3 h4
 below:=h.below
 base:=h.base
 fresh:=h.fresh
 kk:=h.kk
 zz:=h.zz
 k0 i v hv h1 h2:=by
  by_cases hi:i=id
  ·subst hi;left;simp[Abs.del]
  ·rw[del_ne ι hi];exact h.k0 i v hv h1 h2
 nn:=h.nn
 glob g cs hg:=(h.glob g cs hg).to ((h.glob g cs hg).rep.del id) rfl
end Go.Abs
namespace Go.Abs
open Go Go.RowKit
def ofV1:Value→D
 | .slice none 0 0=> .emp
 |v=> .x v
def ofV:Value→D
 | .agg cs=> .agg (cs.toList.map ofV1)
 |v=>ofV1 v
def ev(ρ:Nat→D):Operand→D
 | .tmp t=>ρ t
 | .const v=>ofV v
 | .global g=> .x (.pointer (some ⟨g,0,none⟩))
 | .func f=> .x (.func (.func f) #[] #[])
def cellsD:D→List D
 | .agg cs=>cs
 |d=>[d]
def one:D→Bool
 | .x v=>v.oneCell'
 | .emp=>true
 | .sl _=>true
 | .own _ _=>true
 | .elt _=>true
 | .ptr _ _=>true
 | .row _=>true
 | .rel _ _ _ _=>true
 | .bsl _ _ _ _=>true
 | .mp _=>true
 | .mpv _=>true
 | .cap0=>true
 | .clo _ _=>true
 |_=>false
def szT(P:Program)(t:TypeId):Option Nat:=(P.info? t).map (·.size)
def aggT(P:Program)(t:TypeId):Option Bool:=
 match P.underlying t with
 |some (.struct _)=>some true
 |some (.array _ _)=>some true
 |some _=>some false
 |none=>none
def partD(P:Program)(t:TypeId)(cs:List D)(off:Nat):Option D:=
 match aggT P t,szT P t with
 |some true,some n=>if off+n≤cs.length then some (.agg ((cs.drop off).take n)) else none
 |some false,_=>cs[off]?
 |_,_=>none
def zeroD(P:Program)(t:TypeId):Option (List D):=
 match P.info? t with
 |some i=>match i.zero with
  |some z=>some (z.cells.toList.map ofV1)
  |none=>none
 |none=>none
section
variable {P:Program}{w:World}{B:Nat}{ι:Inj}
theorem rep_ofV1(v:Value)(ok fr:Nat→Prop):RepI w ok fr v (ofV1 v):=by
 unfold ofV1
 split
 ·exact .emp
 ·exact .x _
theorem rep_ofV(v:Value):Rep w B ι v (ofV v):=by
 unfold ofV
 split
 ·rename_i cs
  refine .inr (.inl ⟨_,rfl,cs,rfl,by simp,fun i c d h1 h2=>?_⟩)
  rw[List.getElem?_map,Array.getElem?_toList,h1] at h2
  simp only[Option.map_some,Option.some.injEq] at h2
  subst h2
  exact .inl (rep_ofV1 c _ _)
 ·exact .inl (.inl (rep_ofV1 v _ _))
theorem Rel.ev{N:Nat}{w0:Bs}{ρ:Nat→D}{η:Nat→Option O}{a:Act}(h:Rel N B w0 ι ρ η a w)(x:Operand):Rep w B ι (a.eval x) (ev ρ x):=by
 cases x with
 |tmp t=>exact h.tmp t
 |const v=>exact rep_ofV v
 |global g=>exact .inl (.inl (.x _))
 |func f=>exact .inl (.inl (.x _))
theorem Rep.x_inv{v u:Value}(h:Rep w B ι v (.x u)):v=u:=by
 rcases h with(h|h)|⟨ds,h,_⟩|⟨ds,h,_⟩
 ·cases h;rfl
 ·exact h.elim
 ·cases h
 ·cases h
theorem Rep1.x_inv{v u:Value}(h:Rep1 w B ι v (.x u)):v=u:=Rep.x_inv (.inl h)
theorem Rep.agg_inv{v:Value}{ds:List D}(h:Rep w B ι v (.agg ds)):RepA w B ι v ds:=by
 rcases h with(h|h)|⟨ds',h,h'⟩|⟨ds',h,_⟩
 ·cases h with
  |agg hl hc=>exact⟨_,rfl,hl,fun i c d h1 h2=> .inl (hc i c d h1 h2)⟩
 ·exact h.elim
 ·cases h;exact h'
 ·cases h
theorem Rep.tup_inv{v:Value}{ds:List D}(h:Rep w B ι v (.tup ds)):RepT w B ι v ds:=by
 rcases h with(h|h)|⟨ds',h,_⟩|⟨ds',h,h'⟩
 ·cases h with
  |tup hl hc=>exact⟨_,rfl,hl,fun i c d h1 h2=> .inl (.inl (hc i c d h1 h2))⟩
 ·exact h.elim
 ·cases h
 ·cases h;exact h'
theorem Rep.one_inv{v:Value}{d:D}(h:Rep w B ι v d)(hd:∀ds,d≠ .agg ds)(ht:∀ds,d≠ .tup ds:=by intro ds e;cases e):Rep1 w B ι v d:=by
 rcases h with h|⟨ds,e,_⟩|⟨ds,e,_⟩
 ·exact h
 ·exact absurd e (hd ds)
 ·exact absurd e (ht ds)
theorem Rep1.one{v:Value}{d:D}(h:Rep1 w B ι v d)(h1:one d=true):v.oneCell'=true:=by
 rcases h with h|h
 ·cases h<;>first|exact h1|rfl|cases h1
 ·cases d<;>simp only[Ref] at h
  case ptr=>obtain⟨b,_,rfl⟩:=h;rfl
  case row=>obtain⟨_,A,n,c,rfl⟩:=h;rfl
  case rel=>obtain⟨b,n,c,_,rfl⟩:=h;rfl
  case bsl=>obtain⟨b,c,_,rfl,_⟩:=h;rfl
  case clo=>obtain⟨cap,rfl,_⟩:=h;rfl
  case mp=>obtain⟨_,r,rfl⟩:=h;rfl
theorem Rep.ptr_inv{v:Value}{id off:Nat}(h:Rep w B ι v (.ptr id off)):∃b,ι id=some (.pointer (some ⟨b,0,none⟩))∧v= .pointer (some ⟨b,off,none⟩):=by
 rcases h with(h|h)|⟨_,h,_⟩|⟨_,h,_⟩
 ·cases h
 ·exact h
 ·cases h
 ·cases h
theorem Rep.elt_ptr{v:Value}{cs:List D}(h:Rep w B ι v (.elt cs)):∃A,v= .pointer (some A):=by
 rcases h with(h|h)|⟨_,h,_⟩|⟨_,h,_⟩
 ·cases h;exact⟨_,rfl⟩
 ·exact h.elim
 ·cases h
 ·cases h
theorem add_block(a:Addr)(n:Nat):(a.add n).block=a.block:=by unfold Addr.add;split<;>rfl
theorem add_add'(a:Addr)(i j:Nat):(a.add i).add j=a.add (i+j):=by
 unfold Addr.add
 by_cases hi:i=0<;>by_cases hj:j=0<;>simp[hi,hj,Nat.add_assoc]
theorem run_sizeOf{t:TypeId}{n:Nat}(h:szT P t=some n):(Go.sizeOf t).run P w= .ok n w:=by
 unfold szT at h
 simp only[Option.map_eq_some_iff] at h
 obtain⟨i,hi,rfl⟩:=h
 simp[Go.sizeOf,typeInfo,hi]
theorem run_isAgg{t:TypeId}{b:Bool}(h:aggT P t=some b):(isAgg t).run P w= .ok b w:=by
 unfold aggT at h
 split at h<;>rename_i hu<;>first|cases h|skip
 ·simp[isAgg,run_underlying hu]
 ·simp[isAgg,run_underlying hu]
 ·rename_i d hs ha
  unfold isAgg
  rw[Sem.run_bind,run_underlying hu]
  simp only[Result.andThen_ok]
  cases d<;>simp_all
def CellsRel(R:Value→D→Prop)(cs:Array Value)(ds:List D):Prop:=cs.size=ds.length∧∀(i:Nat) (c:Value) (d:D),cs[i]? =some c→ds[i]? =some d→R c d
theorem part_sound{t:TypeId}{cs:Array Value}{ds:List D}{off:Nat}{d:D}(hc:CellsRel (Rep1 w B ι) cs ds)(h:partD P t ds off=some d):
  ∃v,(part t cs off).run P w= .ok v w∧Rep w B ι v d:=by
 unfold partD at h
 split at h
 ·rename_i n ha hs
  split at h
  ·rename_i hle
   cases h
   refine⟨.agg (cs.extract off (off+n)),by simp[part,run_isAgg ha,run_sizeOf hs],.inr (.inl ⟨_,rfl,_,rfl, ?_,fun i c d h1 h2=>?_⟩)⟩
   ·have:=hc.1
    simp
    omega
   ·have hi:i<n:=by
     have:=(List.getElem?_eq_some_iff.1 h2).1
     simp at this
     omega
    rw[List.getElem?_take_of_lt hi,List.getElem?_drop] at h2
    rw[Array.getElem?_extract] at h1
    have hcs:=hc.1
    rw[if_pos (by omega)] at h1
    exact hc.2 (off+i) c d h1 h2
  ·cases h
 ·rename_i ha
  have hlt:=(List.getElem?_eq_some_iff.1 h).1
  have hcs:=hc.1
  have hget:cs[off]? =some (cs[off]'(by omega)):=Array.getElem?_eq_getElem (by omega)
  exact⟨_,by simp[part,run_isAgg ha,hget],.inl (hc.2 off _ d hget h)⟩
 ·cases h
def eqFs(P:Program)(cmp:TypeId→D→D→Option Bool)(xs ys:List D):List Field→Option Bool
 |[]=>some true
 |f::fs=>
  if f.name= "_" then eqFs P cmp xs ys fs
  else match partD P f.type xs f.offset,partD P f.type ys f.offset with
   |some a,some b=>match cmp f.type a b,eqFs P cmp xs ys fs with
    |some r,some s=>some (r&&s)
    |_,_=>none
   |_,_=>none
def eqIs(P:Program)(cmp:D→D→Option Bool)(e:TypeId)(sz:Nat)(xs ys:List D):Nat→Nat→Option Bool
 |_,0=>some true
 |i,n+1=>match partD P e xs (i*sz),partD P e ys (i*sz) with
  |some a,some b=>match cmp a b,eqIs P cmp e sz xs ys (i+1) n with
   |some r,some s=>some (r&&s)
   |_,_=>none
  |_,_=>none
def eqD(P:Program):Nat→TypeId→D→D→Option Bool
 |0,_,_,_=>none
 |n+1,t,x,y=>
  match P.underlying t,x,y with
  |some .bool,.x (.bool a),.x (.bool b)=>some (a==b)
  |some (.int _),.x (.int k a),.x (.int k' b)=>if k=k' then some (a==b) else none
  |some .string,.x (.string a),.x (.string b)=>some (a.toList==b.toList)
  |some (.struct fs),.agg xs,.agg ys=>if P.stoodInHeld t then none else eqFs P (eqD P n) xs ys fs.toList
  |some (.array m e),.agg xs,.agg ys=>match szT P e with
   |some sz=>eqIs P (eqD P n e) e sz xs ys 0 m
   |none=>none
  |some (.pointer _),.x (.pointer none),.x (.pointer none)=>some true
  |some (.pointer _),.ptr _ _,.x (.pointer none)=>some false
  |some (.pointer _),.x (.pointer none),.ptr _ _=>some false
  |some (.pointer _),.elt _,.x (.pointer none)=>some false
  |some (.pointer _),.x (.pointer none),.elt _=>some false
  |some (.slice _),.emp,.emp=>some true
  |some (.slice _),.sl es,.emp=>if 0<es.length then some false else none
  |some (.slice _),.own _ es,.emp=>if 0<es.length then some false else none
  |some (.slice _),.x (.slice A _ _),.emp=>some A.isNone
  |_,_,_=>none
theorem eqFs_sound{cmp:TypeId→D→D→Option Bool}{d:Nat}(hcmp:∀t x y r vx vy,cmp t x y=some r→Rep w B ι vx x→Rep w B ι vy y→(Op.equalIn d t vx vy).run P w= .ok r w)
  {xs ys:List D}{cx cy:Array Value}(hx:CellsRel (Rep1 w B ι) cx xs)(hy:CellsRel (Rep1 w B ι) cy ys):
  ∀(fs:List Field) (r:Bool),eqFs P cmp xs ys fs=some r→(Op.eqFields d cx cy fs).run P w= .ok r w
 |[],r,h=>by cases h;simp[Op.eqFields]
 |f::fs,r,h=>by
  unfold eqFs at h
  split at h
  ·rename_i hn
   simp only[Op.eqFields,hn,ne_eq,not_true_eq_false,if_false]
   exact eqFs_sound hcmp hx hy fs r h
  ·rename_i hn
   split at h
   ·rename_i a b ha hb
    split at h
    ·rename_i r1 r2 h1 h2
     cases h
     obtain⟨va,hva,ra⟩:=part_sound hx ha
     obtain⟨vb,hvb,rb⟩:=part_sound hy hb
     have e:=hcmp f.type a b r1 va vb h1 ra rb
     have ih:=eqFs_sound hcmp hx hy fs r2 h2
     simp only[Op.eqFields,hn,ne_eq,not_false_eq_true,if_true,Sem.run_bind,hva,hvb,Result.andThen_ok,e]
     cases r1
     ·simp
     ·simpa using ih
    ·cases h
   ·cases h
theorem eqIs_sound{cmp:D→D→Option Bool}{d:Nat}{e:TypeId}{sz:Nat}(hcmp:∀x y r vx vy,cmp x y=some r→Rep w B ι vx x→Rep w B ι vy y→(Op.equalIn d e vx vy).run P w= .ok r w)
  {xs ys:List D}{cx cy:Array Value}(hx:CellsRel (Rep1 w B ι) cx xs)(hy:CellsRel (Rep1 w B ι) cy ys):
  ∀(n i:Nat) (r:Bool),eqIs P cmp e sz xs ys i n=some r→(Op.eqItems d e sz cx cy (List.range' i n)).run P w= .ok r w
 |0,i,r,h=>by cases h;simp[Op.eqItems]
 |n+1,i,r,h=>by
  unfold eqIs at h
  split at h
  ·rename_i a b ha hb
   split at h
   ·rename_i r1 r2 h1 h2
    cases h
    obtain⟨va,hva,ra⟩:=part_sound hx ha
    obtain⟨vb,hvb,rb⟩:=part_sound hy hb
    have e:=hcmp a b r1 va vb h1 ra rb
    have ih:=eqIs_sound hcmp hx hy n (i+1) r2 h2
    rw[List.range'_succ]
    simp only[Op.eqItems,Sem.run_bind,hva,hvb,Result.andThen_ok,e]
    cases r1
    ·simp
    ·simpa using ih
   ·cases h
  ·cases h
theorem Rep.emp_inv{v:Value}(h:Rep w B ι v .emp):v= .slice none 0 0:=by
 have h:=(h.one_inv (fun _ e=>by cases e)).resolve_right (fun h=>h.elim)
 cases h
 rfl
theorem Rep.sl_inv{v:Value}{es:List (List D)}(h:Rep w B ι v (.sl es)):∃A n c,v= .slice A n c∧(0<es.length→∃a,A=some a):=by
 have h:=(h.one_inv (fun _ e=>by cases e)).resolve_right (fun h=>h.elim)
 cases h with
 |sl0 A c=>exact⟨A,0,c,rfl,fun h=>by simp at h⟩
 |sl=>exact⟨_,_,_,rfl,fun _=>⟨_,rfl⟩⟩
theorem Rep.own_inv{v:Value}{fl:Bool}{es:List (List D)}(h:Rep w B ι v (.own fl es)):∃A n c,v= .slice A n c∧(0<es.length→∃a,A=some a):=by
 have h:=(h.one_inv (fun _ e=>by cases e)).resolve_right (fun h=>h.elim)
 cases h with
 |own0 A c=>exact⟨A,0,c,rfl,fun h=>by simp at h⟩
 |own=>exact⟨_,_,_,rfl,fun _=>⟨_,rfl⟩⟩
theorem eqD_sound:∀(n d:Nat) (t:TypeId) (x y:D) (r:Bool) (vx vy:Value),eqD P n t x y=some r→n≤d→Rep w B ι vx x→Rep w B ι vy y→
  (Op.equalIn d t vx vy).run P w= .ok r w
 |0,_,_,_,_,_,_,_,h,_,_,_=>by cases h
 |n+1,0,_,_,_,_,_,_,_,h,_,_=>by omega
 |n+1,d+1,t,x,y,r,vx,vy,h,hnd,hx,hy=>by
  unfold eqD at h
  split at h
  ·rename_i a b hu
   cases h
   rw[hx.x_inv,hy.x_inv]
   exact run_equalIn_bool w d t a b hu
  ·rename_i k0 k a k' b hu
   split at h
   ·rename_i hk
    cases h
    subst hk
    rw[hx.x_inv,hy.x_inv]
    exact run_equalIn_int w d t k k0 a b hu
   ·cases h
  ·rename_i a b hu
   cases h
   rw[hx.x_inv,hy.x_inv]
   exact run_equalIn_string w d t a b hu
  ·rename_i fs xs ys hu
   split at h
   ·cases h
   ·rename_i hp
    obtain⟨cx,rfl,hcx⟩:=hx.agg_inv
    obtain⟨cy,rfl,hcy⟩:=hy.agg_inv
    have hf:P.fieldsOf t=fs:=by simp[Program.fieldsOf,hu]
    rw[run_equalIn_struct w d t cx cy (by rw[hf];exact hu) (by simpa using hp),hf]
    exact eqFs_sound (fun t x y r vx vy h hx hy=>eqD_sound n d t x y r vx vy h (by omega) hx hy) hcx hcy fs.toList r h
  ·rename_i m e xs ys hu
   split at h
   ·rename_i sz hs
    obtain⟨cx,rfl,hcx⟩:=hx.agg_inv
    obtain⟨cy,rfl,hcy⟩:=hy.agg_inv
    unfold szT at hs
    rw[Option.map_eq_some_iff] at hs
    obtain⟨i,hi,rfl⟩:=hs
    rw[run_equalIn_array w d cx cy hu hi,List.range_eq_range']
    have he:P.cellsOf e=i.size:=by simp[Program.cellsOf,hi]
    rw[he]
    exact eqIs_sound (fun x y r vx vy h hx hy=>eqD_sound n d e x y r vx vy h (by omega) hx hy) hcx hcy m 0 r h
   ·cases h
  ·rename_i e hu
   cases h
   rw[hx.x_inv,hy.x_inv]
   simp[Op.equalIn,run_underlying hu]
  ·rename_i e id off hu
   cases h
   rw[hy.x_inv]
   obtain⟨b,_,rfl⟩:=hx.ptr_inv
   simp[Op.equalIn,run_underlying hu]
  ·rename_i e id off hu
   cases h
   rw[hx.x_inv]
   obtain⟨b,_,rfl⟩:=hy.ptr_inv
   simp[Op.equalIn,run_underlying hu]
  ·rename_i e cs hu
   cases h
   rw[hy.x_inv]
   obtain⟨A,rfl⟩:=hx.elt_ptr
   simp[Op.equalIn,run_underlying hu]
  ·rename_i e cs hu
   cases h
   rw[hx.x_inv]
   obtain⟨A,rfl⟩:=hy.elt_ptr
   simp[Op.equalIn,run_underlying hu]
  ·rename_i e hu
   cases h
   rw[hx.emp_inv,hy.emp_inv]
   simp[Op.equalIn,run_underlying hu]
  ·rename_i e es hu
   split at h
   ·rename_i hl
    cases h
    obtain⟨A,n,c,rfl,ha⟩:=hx.sl_inv
    obtain⟨a,rfl⟩:=ha hl
    rw[hy.emp_inv]
    simp[Op.equalIn,run_underlying hu]
   ·cases h
  ·rename_i e fl es hu
   split at h
   ·rename_i hl
    cases h
    obtain⟨A,n,c,rfl,ha⟩:=hx.own_inv
    obtain⟨a,rfl⟩:=ha hl
    rw[hy.emp_inv]
    simp[Op.equalIn,run_underlying hu]
   ·cases h
  ·rename_i e A n c hu
   cases h
   rw[hx.x_inv,hy.emp_inv]
   cases A<;>simp[Op.equalIn,run_underlying hu]
  ·cases h
def intBin(op:BinOp)(k:IntKind)(a b:Int):Option D:=
 match op with
 | .add=>some (.x (.int k (k.wrap (a+b))))
 | .sub=>some (.x (.int k (k.wrap (a-b))))
 | .mul=>some (.x (.int k (k.wrap (a*b))))
 | .quo=>if b=0 then none else some (.x (.int k (k.wrap (a.tdiv b))))
 | .rem=>if b=0 then none else some (.x (.int k (a.tmod b)))
 | .and=>some (.x (.int k (bits .and k a b)))
 | .or=>some (.x (.int k (bits .or k a b)))
 | .xor=>some (.x (.int k (bits .xor k a b)))
 | .eql=>some (.x (.bool (a==b)))
 | .neq=>some (.x (.bool (a !=b)))
 | .lss=>some (.x (.bool (decide (a<b))))
 | .leq=>some (.x (.bool (decide (a≤b))))
 | .gtr=>some (.x (.bool (decide (b<a))))
 | .geq=>some (.x (.bool (decide (b≤a))))
 |_=>none
def strBin(op:BinOp)(a b:ByteArray):Option D:=
 match op with
 | .add=>if((a.size+b.size:Nat):Int)>IntKind.i64.max then none else some (.x (.string (a++b)))
 | .eql=>some (.x (.bool (a.toList==b.toList)))
 | .neq=>some (.x (.bool (!(a.toList==b.toList))))
 | .lss=>some (.x (.bool (Op.bytesLess a.toList b.toList)))
 | .leq=>some (.x (.bool (Op.bytesLess a.toList b.toList||a.toList==b.toList)))
 | .gtr=>some (.x (.bool (!(Op.bytesLess a.toList b.toList||a.toList==b.toList))))
 | .geq=>some (.x (.bool (!Op.bytesLess a.toList b.toList)))
 |_=>none
def guardT(P:Program)(t:TypeId):D→D→Bool
 | .agg _,.agg _=>!P.eqGuardType P.depth t
 | .x (.bool _),_=>true
 | .x (.pointer _),_=>true
 | .ptr _ _,_=>true
 | .elt _,_=>true
 | .emp,_=>true
 | .sl _,_=>true
 | .own _ _,_=>true
 | .x (.slice _ _ _),_=>true
 |_,_=>false
def binD(P:Program)(op:BinOp)(t:TypeId)(x y:D):Option D:=
 match x,y with
 | .x (.int k a),.x (.int k' b)=>
  match op with
  | .shl=>if 0≤b∧b≤k.bits then some (.x (.int k (k.wrap (a*2^b.toNat)))) else none
  | .shr=>if 0≤b∧b≤k.bits then some (.x (.int k (a/2^b.toNat))) else none
  |op=>if k=k' then intBin op k a b else none
 | .x (.string a),.x (.string b)=>strBin op a b
 |x,y=>
  if guardT P t x y then
   match op with
   | .eql=>(eqD P 8 t x y).map fun r=> .x (.bool r)
   | .neq=>(eqD P 8 t x y).map fun r=> .x (.bool !r)
   |_=>none
  else none
theorem intBin_sound{op:BinOp}{k:IntKind}{a b:Int}{d:D}(h:intBin op k a b=some d)(t:TypeId)(x y:Operand):
  ∃v,(do eqGuard op t x y (.int k a) (.int k b);binOp op t (.int k a) (.int k b):Sem Value).run P w= .ok v w∧d= .x v:=by
 cases op<;>simp only[intBin] at h<;>first
  |(cases h;done)
  |(cases h;exact⟨_,by simp[eqGuard_at_int,binOp,Op.intArith,Op.intCmp,Op.intBits,bits],rfl⟩)
  |(
   split at h
   ·cases h
   ·cases h;exact⟨_,by simp[eqGuard_at_int,binOp,Op.intDiv, *],rfl⟩)
theorem strBin_sound{op:BinOp}{a b:ByteArray}{d:D}(h:strBin op a b=some d)(t:TypeId)(x y:Operand):
  ∃v,(do eqGuard op t x y (.string a) (.string b);binOp op t (.string a) (.string b):Sem Value).run P w= .ok v w∧d= .x v:=by
 cases op<;>simp only[strBin] at h<;>first
  |(cases h;done)
  |(cases h;exact⟨_,by simp[eqGuard_at_string,binOp,Op.stringOp],rfl⟩)
  |(
   split at h
   ·cases h
   ·rename_i hn
    cases h
    exact⟨_,by simp only[eqGuard_at_string,binOp,Op.stringOp,if_neg hn,Sem.run_bind,Sem.run_pure,Result.andThen_ok],rfl⟩)
theorem eqOp_run{t:TypeId}{vx vy:Value}{r:Bool}(h:(Op.equalIn 10000 t vx vy).run P w= .ok r w)
  (hi:∀k a k' b,¬(vx= .int k a∧vy= .int k' b))(hf:∀k a k' b,¬(vx= .float k a∧vy= .float k' b))(hc:∀k a b k' c d,¬(vx= .complex k a b∧vy= .complex k' c d))(hs:∀a b,¬(vx= .string a∧vy= .string b)):
  (binOp .eql t vx vy).run P w= .ok (.bool r) w∧(binOp .neq t vx vy).run P w= .ok (.bool !r) w:=by
 have h':(Op.equal t vx vy).run P w= .ok r w:=h
 constructor
 ·cases vx<;>cases vy<;>simp only[binOp]<;>first
   |exact absurd ⟨rfl,rfl⟩ (hi _ _ _ _)
   |exact absurd ⟨rfl,rfl⟩ (hf _ _ _ _)
   |exact absurd ⟨rfl,rfl⟩ (hc _ _ _ _ _ _)
   |exact absurd ⟨rfl,rfl⟩ (hs _ _)
   |simp[h']
 ·cases vx<;>cases vy<;>simp only[binOp]<;>first
   |exact absurd ⟨rfl,rfl⟩ (hi _ _ _ _)
   |exact absurd ⟨rfl,rfl⟩ (hf _ _ _ _)
   |exact absurd ⟨rfl,rfl⟩ (hc _ _ _ _ _ _)
   |exact absurd ⟨rfl,rfl⟩ (hs _ _)
   |simp[h']
theorem guard_run{op:BinOp}{t:TypeId}{dx dy:D}{vx vy:Value}(h:guardT P t dx dy=true)(hx:Rep w B ι vx dx)(hy:Rep w B ι vy dy)(x y:Operand):
  (eqGuard op t x y vx vy).run P w= .ok () w∧(∀k a k' b,¬(vx= .int k a∧vy= .int k' b))∧(∀k a k' b,¬(vx= .float k a∧vy= .float k' b))∧(∀k a b k' c d,¬(vx= .complex k a b∧vy= .complex k' c d))∧(∀a b,¬(vx= .string a∧vy= .string b)):=by
 unfold guardT at h
 split at h
 ·obtain⟨cx,rfl,_⟩:=hx.agg_inv
  obtain⟨cy,rfl,_⟩:=hy.agg_inv
  exact⟨run_eqGuard_agg w op t x y cx cy (by simpa using h),by simp,by simp,by simp,by simp⟩
 ·rw[hx.x_inv]
  exact⟨by simp[eqGuard_at_bool],by simp,by simp,by simp,by simp⟩
 ·rw[hx.x_inv]
  exact⟨by simp[eqGuard_at_pointer],by simp,by simp,by simp,by simp⟩
 ·obtain⟨b,_,rfl⟩:=hx.ptr_inv
  exact⟨by simp[eqGuard_at_pointer],by simp,by simp,by simp,by simp⟩
 ·obtain⟨A,rfl⟩:=hx.elt_ptr
  exact⟨by simp[eqGuard_at_pointer],by simp,by simp,by simp,by simp⟩
 ·rw[hx.emp_inv]
  exact⟨by simp[eqGuard_at_slice],by simp,by simp,by simp,by simp⟩
 ·obtain⟨A,n,c,rfl,_⟩:=hx.sl_inv
  exact⟨by simp[eqGuard_at_slice],by simp,by simp,by simp,by simp⟩
 ·obtain⟨A,n,c,rfl,_⟩:=hx.own_inv
  exact⟨by simp[eqGuard_at_slice],by simp,by simp,by simp,by simp⟩
 ·rw[hx.x_inv]
  exact⟨by simp[eqGuard_at_slice],by simp,by simp,by simp,by simp⟩
 ·cases h
theorem bin_sound{op:BinOp}{t:TypeId}{dx dy d:D}{vx vy:Value}(h:binD P op t dx dy=some d)(hx:Rep w B ι vx dx)(hy:Rep w B ι vy dy)(x y:Operand):
  ∃v,(do eqGuard op t x y vx vy;binOp op t vx vy:Sem Value).run P w= .ok v w∧Rep w B ι v d:=by
 unfold binD at h
 split at h
 ·rename_i k a k' b
  rw[hx.x_inv,hy.x_inv]
  split at h
  ·split at h
   ·rename_i hb
    cases h
    exact⟨_,by simp[eqGuard_at_int,binOp,shift_shl k k' a b hb.1 hb.2],.inl (.inl (.x _))⟩
   ·cases h
  ·split at h
   ·rename_i hb
    cases h
    exact⟨_,by simp[eqGuard_at_int,binOp,shift_shr k k' a b hb.1 hb.2],.inl (.inl (.x _))⟩
   ·cases h
  ·split at h
   ·rename_i hk
    subst hk
    obtain⟨v,hv,rfl⟩:=intBin_sound h t x y
    exact⟨v,hv,.inl (.inl (.x _))⟩
   ·cases h
 ·rw[hx.x_inv,hy.x_inv]
  obtain⟨v,hv,rfl⟩:=strBin_sound h t x y
  exact⟨v,hv,.inl (.inl (.x _))⟩
 ·split at h
  ·rename_i hg
   obtain⟨g1,g2,g3,g4,g5⟩:=guard_run (op:=op) hg hx hy x y
   split at h
   ·simp only[Option.map_eq_some_iff] at h
    obtain⟨r,hr,rfl⟩:=h
    have:=(eqOp_run (eqD_sound 8 10000 t dx dy r vx vy hr (by omega) hx hy) g2 g3 g4 g5).1
    exact⟨_,by rw[Sem.run_bind,g1];exact this,.inl (.inl (.x _))⟩
   ·simp only[Option.map_eq_some_iff] at h
    obtain⟨r,hr,rfl⟩:=h
    have:=(eqOp_run (eqD_sound 8 10000 t dx dy r vx vy hr (by omega) hx hy) g2 g3 g4 g5).2
    exact⟨_,by rw[Sem.run_bind,g1];exact this,.inl (.inl (.x _))⟩
   ·cases h
  ·cases h
def unD(op:UnOp):D→Option D
 | .x (.int k n)=>match op with
  | .neg=>some (.x (.int k (k.wrap (0-n))))
  |_=>none
 | .x (.bool b)=>match op with
  | .not=>some (.x (.bool !b))
  |_=>none
 |_=>none
theorem un_sound{op:UnOp}{dx d:D}{vx:Value}(h:unD op dx=some d)(hx:Rep w B ι vx dx):∃v,(Op.unary op vx).run P w= .ok v w∧Rep w B ι v d:=by
 unfold unD at h
 split at h
 ·rw[hx.x_inv]
  split at h
  ·cases h;exact⟨_,by simp[Op.unary,Op.intArith],.inl (.inl (.x _))⟩
  ·cases h
 ·rw[hx.x_inv]
  split at h
  ·cases h;exact⟨_,by simp[Op.unary],.inl (.inl (.x _))⟩
  ·cases h
 ·cases h
def convD(P:Program)(s t:TypeId)(x:D):Option D:=
 match P.underlying s,P.underlying t,x with
 |some _,some (.int k),.x (.int _ n)=>some (.x (.int k (k.wrap n)))
 |some _,some .string,.x (.string a)=>some (.x (.string a))
 |_,_,_=>none
theorem conv_sound{s t:TypeId}{dx d:D}{vx:Value}(h:convD P s t dx=some d)(hx:Rep w B ι vx dx):∃v,(convert s t vx).run P w= .ok v w∧Rep w B ι v d:=by
 unfold convD at h
 split at h
 ·rename_i hs ht
  cases h
  rw[hx.x_inv]
  exact⟨_,by simp[convert,run_underlying hs,run_underlying ht,Conv.intToInt],.inl (.inl (.x _))⟩
 ·rename_i hs ht
  cases h
  rw[hx.x_inv]
  exact⟨_,by simp[convert,run_underlying hs,run_underlying ht],.inl (.inl (.x _))⟩
 ·cases h
end
end Go.Abs
namespace Go.Abs
open Go Go.RowKit
def chunk(sz n:Nat)(cs:List D):List (List D):=(List.range n).map fun i=>(cs.drop (i*sz)).take sz
section
variable {P:Program}{w:World}{B:Nat}{ι:Inj}
def loadD(P:Program)(η:Nat→Option O)(t:TypeId):D→Option D
 | .ptr id off=>match η id with
  |some (.box _ cs)=>partD P t cs off
  |_=>none
 | .elt cs=>partD P t cs 0
 | .rel id sz i off=>match η id with
  |some (.row _ _ _ es)=>match es[i]? with
   |some e=>if e.length=sz then partD P t e off else none
   |none=>none
  |_=>none
 |_=>none
theorem load_at{A:Addr}{t:TypeId}{ds:List D}{off:Nat}{d:D}(hc:∀j e,ds[off+j]? =some e→∃u,w.cell? (A.add j)=some u∧Rep1 w B ι u e)
  (h:partD P t ds off=some d):∃v,(loadVar t A).run P w= .ok v w∧Rep w B ι v d:=by
 unfold partD at h
 split at h
 ·rename_i n ha hs
  split at h
  ·rename_i hle
   cases h
   have hcell:∀j,j<n→w.cell? (A.add j)=some ((w.cell? (A.add j)).getD undef):=by
    intro j hj
    obtain⟨u,hu,_⟩:=hc j _ (List.getElem?_eq_getElem (by omega:off+j<ds.length))
    simp[hu]
   refine⟨.agg ((List.range n).map fun j=>(w.cell? (A.add j)).getD undef).toArray, ?_,.inr (.inl ⟨_,rfl,_,rfl, ?_,fun i c d h1 h2=>?_⟩)⟩
   ·simp[loadVar,run_isAgg ha,run_sizeOf hs,run_loadCells w A n _ hcell]
   ·simp;omega
   ·have hi:i<n:=by
     have:=(List.getElem?_eq_some_iff.1 h2).1
     simp at this
     omega
    rw[List.getElem?_take_of_lt hi,List.getElem?_drop] at h2
    obtain⟨u,hu,hr⟩:=hc i d h2
    simp[hi,hu] at h1
    subst h1
    exact hr
  ·cases h
 ·rename_i ha
  obtain⟨u,hu,hr⟩:=hc 0 d (by simpa using h)
  rw[Addr.add_zero'] at hu
  exact⟨u,by simp[loadVar,run_isAgg ha,run_load,hu],.inl hr⟩
 ·cases h
theorem elt_cells{v:Value}{cs:List D}(h:Rep w B ι v (.elt cs)):∃A:Addr,v= .pointer (some A)∧okB ι A.block∧A.block<w.heap.size∧(∀d∈cs,isCell d=true)∧
  (∀j,j<cs.length→∃u,w.cell? (A.add j)=some u∧u.oneCell'=true)∧(∀(j:Nat) (d:D) (u:Value),cs[j]? =some d→w.cell? (A.add j)=some u→RepI w (okB ι) (frB B ι) u d):=by
 rcases h with(h|h)|⟨_,h,_⟩|⟨_,h,_⟩
 ·cases h with
  |elt hb hlt hic hcell hrep=>exact⟨_,rfl,hb,hlt,hic,hcell,hrep⟩
 ·exact h.elim
 ·cases h
 ·cases h
theorem rel_inv{v:Value}{id sz i off:Nat}(h:Rep w B ι v (.rel id sz i off)):∃b n c,ι id=some (.slice (some ⟨b,0,none⟩) n c)∧v= .pointer (some ⟨b,i*sz+off,none⟩):=by
 rcases h with(h|h)|⟨_,h,_⟩|⟨_,h,_⟩
 ·cases h
 ·exact h
 ·cases h
 ·cases h
theorem row_inv{v:Value}{id:Nat}(h:Rep w B ι v (.row id)):ι id=some v∧∃A n c,v= .slice A n c:=by
 rcases h with(h|h)|⟨_,h,_⟩|⟨_,h,_⟩
 ·cases h
 ·exact h
 ·cases h
 ·cases h
theorem bsl_inv{v:Value}{id off n sz:Nat}(h:Rep w B ι v (.bsl id off n sz)):∃b c,ι id=some (.pointer (some ⟨b,0,none⟩))∧v= .slice (some ⟨b,off,none⟩) n c∧n≤c:=by
 rcases h with(h|h)|⟨_,h,_⟩|⟨_,h,_⟩
 ·cases h
 ·exact h
 ·cases h
 ·cases h
theorem row_cells{b n c:Nat}{ety:TypeId}{sz:Nat}{fl:Bool}{es:List (List D)}(h:ObjRel w B ι (.slice (some ⟨b,0,none⟩) n c) (.row ety sz fl es)):
  n=es.length∧n≤c∧b<w.heap.size∧∀(i:Nat) (e:List D) (j:Nat) (d:D),es[i]? =some e→e[j]? =some d→∃u,w.cell? ⟨b,i*e.length+j,none⟩=some u∧RepI w (okB ι) (frB B ι) u d∧u.oneCell'=true:=by
 obtain⟨xs,hsz,⟨hown,hwr⟩,hlen,hrep,hone,_⟩:=h
 rcases hown.2 with⟨h,_⟩|⟨g,cap,cur,hv,hB,hh,hle,_,hcs,hxs⟩
 ·cases h
 ·injection hv with h1 h2 h3
  injection h1 with h1
  injection h1 with h1
  subst h1 h3
  refine⟨h2,by omega,(Array.getElem?_eq_some_iff.1 hh).1,fun i e j d he hd=>?_⟩
  have hel:=hlen e (List.mem_of_getElem? he)
  have hj:=(List.getElem?_eq_some_iff.1 hd).1
  have hi:=(List.getElem?_eq_some_iff.1 he).1
  have hx:i*sz+j<xs.length:=by
   rw[hown.1]
   have:(i+1)*sz≤es.length*sz:=Nat.mul_le_mul_right _ hi
   rw[Nat.add_mul,Nat.one_mul] at this
   omega
  obtain⟨u,hxj⟩:∃u,xs[i*sz+j]? =some u:=⟨_,List.getElem?_eq_getElem hx⟩
  refine⟨u, ?_,hrep i e j d _ he hd hxj,hone _ (List.mem_of_getElem? hxj)⟩
  rw[hel]
  have hx':=hx
  rw[hown.1] at hx'
  rw[←hxs,List.getElem?_take_of_lt hx',Array.getElem?_toList] at hxj
  simp[World.cell?,hh,hxj]
theorem load_sound{N:Nat}{w0:Bs}{ρ:Nat→D}{η:Nat→Option O}{a:Act}(hrel:Rel N B w0 ι ρ η a w){t:TypeId}{dx d:D}{vx:Value}(hx:Rep w B ι vx dx)
  (h:loadD P η t dx=some d):∃v,(Instr.loadAt t vx).run P w= .ok v w∧Rep w B ι v d:=by
 unfold loadD at h
 split at h
 ·rename_i id off
  split at h
  ·rename_i ty cs hη
   obtain⟨b,hι,rfl⟩:=hx.ptr_inv
   obtain⟨v,hv,hobj⟩:=hrel.obj id _ hη
   rw[hι] at hv
   cases hv
   obtain⟨b',cur,e,hB,hh,hsz,hcells⟩:=hobj
   injection e with e;injection e with e;injection e with e
   subst e
   have:∃v,(loadVar t ⟨b,off,none⟩).run P w= .ok v w∧Rep w B ι v d:=by
    refine load_at (fun j e he=>?_) h
    have hlt:=(List.getElem?_eq_some_iff.1 he).1
    have hcur:cur[off+j]? =some (cur[off+j]'(by omega)):=Array.getElem?_eq_getElem (by omega)
    refine⟨_, ?_,(hcells (off+j) _ e hcur he).1⟩
    rw[Addr.add_lit]
    simp[World.cell?,hh,hcur]
   simpa[Instr.loadAt,Instr.sureAddr] using this
  ·cases h
 ·obtain⟨A,rfl,_,_,_,hcell,hrep⟩:=elt_cells hx
  have:∃v,(loadVar t A).run P w= .ok v w∧Rep w B ι v d:=by
   refine load_at (fun j e he=>?_) h
   simp only[Nat.zero_add] at he
   obtain⟨u,hu,_⟩:=hcell j (List.getElem?_eq_some_iff.1 he).1
   exact⟨u,hu,.inl (hrep j e u he hu)⟩
  simpa[Instr.loadAt,Instr.sureAddr] using this
 ·rename_i id sz i off
  split at h
  ·rename_i ety sz0 fl es hη
   split at h
   ·rename_i e he
    split at h
    ·rename_i hel
     obtain⟨b,n,c,hι,rfl⟩:=rel_inv hx
     obtain⟨v,hv,hobj⟩:=hrel.obj id _ hη
     rw[hι] at hv
     cases hv
     have hc:=(row_cells hobj).2.2.2
     have:∃v,(loadVar t ⟨b,i*sz+off,none⟩).run P w= .ok v w∧Rep w B ι v d:=by
      refine load_at (fun j e' he'=>?_) h
      obtain⟨u,hu,hr,_⟩:=hc i e (off+j) e' he he'
      refine⟨u, ?_,.inl hr⟩
      rw[Addr.add_lit]
      rw[hel] at hu
      rw[Nat.add_assoc]
      exact hu
     simpa[Instr.loadAt,Instr.sureAddr] using this
    ·cases h
   ·cases h
  ·cases h
 ·cases h
def fieldAddrD(P:Program)(s:TypeId)(f:Nat)(x:D):Option D:=
 match P.underlying s with
 |some (.struct fs)=>match fs[f]? with
  |some fld=>match szT P fld.type with
   |some (_+1)=>match x with
    | .ptr id off=>some (.ptr id (off+fld.offset))
    | .elt cs=>some (.elt (cs.drop fld.offset))
    | .rel id sz i off=>some (.rel id sz i (off+fld.offset))
    |_=>none
   |_=>none
  |none=>none
 |_=>none
theorem elt_drop{A:Addr}{cs:List D}{k:Nat}(hb:okB ι A.block)(hlt:A.block<w.heap.size)(hic:∀d∈cs,isCell d=true)
  (hcell:∀j,j<cs.length→∃u,w.cell? (A.add j)=some u∧u.oneCell'=true)(hrep:∀(j:Nat) (d:D) (u:Value),cs[j]? =some d→w.cell? (A.add j)=some u→RepI w (okB ι) (frB B ι) u d):
  Rep w B ι (.pointer (some (A.add k))) (.elt (cs.drop k)):=by
 refine .inl (.inl (.elt (by rw[add_block];exact hb) (by rw[add_block];exact hlt) (fun d hd=>hic d (List.mem_of_mem_drop hd)) (fun j hj=>?_) (fun j d u hd hu=>?_)))
 ·rw[add_add']
  simp at hj
  exact hcell (k+j) (by omega)
 ·rw[add_add'] at hu
  rw[List.getElem?_drop] at hd
  exact hrep (k+j) d u hd hu
theorem fieldAddr_sound{s:TypeId}{f:Nat}{dx d:D}{vx:Value}(hx:Rep w B ι vx dx)(h:fieldAddrD P s f dx=some d):∃v,(Instr.fieldAt s vx f).run P w= .ok v w∧Rep w B ι v d:=by
 unfold fieldAddrD at h
 split at h
 ·rename_i fs hu
  split at h
  ·rename_i fld hf
   split at h
   ·rename_i n hs
    have place:∀A:Addr,(fieldPlace A fld).run P w= .ok (A.add fld.offset) w:=fun A=>by simp[fieldPlace,run_sizeOf hs]
    have run:∀A:Addr,(Instr.fieldAt s (.pointer (some A)) f).run P w= .ok (.pointer (some (A.add fld.offset))) w:=fun A=>by
     simp[Instr.fieldAt,run_underlying hu,hf,Instr.sureAddr,place]
    split at h
    ·cases h
     obtain⟨b,hι,rfl⟩:=hx.ptr_inv
     exact⟨_,run _,.inl (.inr ⟨b,hι,by rw[Addr.add_lit]⟩)⟩
    ·cases h
     obtain⟨A,rfl,hb,hlt,hic,hcell,hrep⟩:=elt_cells hx
     exact⟨_,run _,elt_drop hb hlt hic hcell hrep⟩
    ·cases h
     obtain⟨b,n,c,hι,rfl⟩:=rel_inv hx
     exact⟨_,run _,.inl (.inr ⟨b,n,c,hι,by rw[Addr.add_lit,Nat.add_assoc]⟩)⟩
    ·cases h
   ·cases h
  ·cases h
 ·cases h
def fieldD(P:Program)(t:TypeId)(f:Nat)(x:D):Option D:=
 match P.underlying t with
 |some (.struct fs)=>match fs[f]?,x with
  |some fld,.agg cs=>partD P fld.type cs fld.offset
  |_,_=>none
 |_=>none
theorem field_sound{t:TypeId}{f:Nat}{dx d:D}{vx:Value}(hx:Rep w B ι vx dx)(h:fieldD P t f dx=some d):∃v,(Instr.field t vx f).run P w= .ok v w∧Rep w B ι v d:=by
 unfold fieldD at h
 split at h
 ·rename_i fs hu
  split at h
  ·rename_i fld cs hf
   obtain⟨cx,rfl,hc⟩:=hx.agg_inv
   obtain⟨v,hv,hr⟩:=part_sound hc h
   exact⟨v,by simp[Instr.field,run_underlying hu,hf,asAgg,hv],hr⟩
  ·cases h
 ·cases h
theorem slice_cells{v:Value}{d:D}{es:List (List D)}(h:Rep w B ι v d)(hd:d= .sl es∨∃fl,d= .own fl es):
  (es=[]∧∃A c,v= .slice A 0 c)∨∃(A:Addr) (c sz:Nat),v= .slice (some A) es.length c∧okB ι A.block∧A.block<w.heap.size∧es.length≤c∧(∀e∈es,∀d∈e,isCell d=true)∧(∀e∈es,e.length=sz)∧
   (∀i j,i<es.length→j<sz→∃u,w.cell? (A.add (i*sz+j))=some u∧u.oneCell'=true)∧
   (∀(i:Nat) (e:List D) (j:Nat) (d:D) (u:Value),es[i]? =some e→e[j]? =some d→w.cell? (A.add (i*sz+j))=some u→RepI w (okB ι) (frB B ι) u d):=by
 rcases h with(h|h)|⟨_,h,_⟩|⟨_,h,_⟩
 ·rcases hd with rfl|⟨fl,rfl⟩
  ·cases h with
   |sl0 A c=>exact .inl ⟨rfl,A,c,rfl⟩
   |sl hb hlt hcap hic hsz hcell hrep=>exact .inr ⟨_,_,_,rfl,hb,hlt,hcap,hic,hsz,hcell,hrep⟩
  ·cases h with
   |own0 A c=>exact .inl ⟨rfl,A,c,rfl⟩
   |own hb hlt hcap hic hsz hcell hrep hfl=>exact .inr ⟨_,_,_,rfl,hb.2,hlt,hcap,hic,hsz,hcell,hrep⟩
 ·rcases hd with rfl|⟨fl,rfl⟩<;>exact h.elim
 ·rcases hd with rfl|⟨fl,rfl⟩<;>cases h
 ·rcases hd with rfl|⟨fl,rfl⟩<;>cases h
def eltAt(es:List (List D))(i:Int)(sz:Nat):Option D:=
 match es[i.toNat]? with
 |some c=>if c.length=sz then some (.elt c) else none
 |none=>none
def indexAddrD(P:Program)(η:Nat→Option O)(t:TypeId)(x ix:D):Option D:=
 match ix with
 | .x (
    .int _ i)=>
  if 0≤i then
   match P.underlying t with
   |some (
       .slice e)=>match szT P e with
    |some sz=>match x with
     | .sl es=>eltAt es i sz
     | .own _ es=>eltAt es i sz
     | .row id=>match η id with
      |some (.row _ _ _ es)=>match es[i.toNat]? with
       |some c=>if c.length=sz then some (.rel id sz i.toNat 0) else none
       |none=>none
      |_=>none
     | .bsl id off n sz'=>if sz'=sz∧i<(n:Int) then some (.ptr id (off+i.toNat*sz)) else none
     |_=>none
    |none=>none
   |some (.array n e)=>match szT P e with
    |some sz=>if i<(n:Int) then
      match x with
      | .ptr id off=>some (.ptr id (off+i.toNat*sz))
      | .elt cs=>some (.elt (cs.drop (i.toNat*sz)))
      |_=>none
     else none
    |none=>none
   |_=>none
  else none
 |_=>none
theorem run_indexAt_slice'{t e:TypeId}(hu:P.underlying t=some (.slice e)){sz:Nat}(hs:szT P e=some sz)(A:Addr)(len cap:Nat)(k:IntKind)(i:Int)(h0:0≤i)(h1:i<len):
  (Instr.indexAt t (.slice (some A) len cap) (.int k i)).run P w= .ok (.pointer (some (A.add (i.toNat*sz)))) w:=by
 simp[Instr.indexAt,run_underlying hu,asIntOf,h0,h1,run_sizeOf hs]
theorem elt_at{v:Value}{dx:D}{es:List (List D)}(hx:Rep w B ι v dx)(hd:dx= .sl es∨∃fl,dx= .own fl es){t e:TypeId}(hu:P.underlying t=some (.slice e)){sz:Nat}(hs:szT P e=some sz)
  {k:IntKind}{i:Int}(h0:0≤i){d:D}(h:eltAt es i sz=some d):∃u,(Instr.indexAt t v (.int k i)).run P w= .ok u w∧Rep w B ι u d:=by
 unfold eltAt at h
 split at h
 ·rename_i c hc
  split at h
  ·rename_i hl
   cases h
   have hlt:=(List.getElem?_eq_some_iff.1 hc).1
   rcases slice_cells hx hd with⟨rfl,_⟩|⟨A,cp,sz',rfl,hb,hAlt,hcap,hic,hsz,hcell,hrep⟩
   ·simp at hlt
   ·have hsz':sz'=sz:=by rw[←hsz c (List.mem_of_getElem? hc),hl]
    subst hsz'
    refine⟨_,run_indexAt_slice' hu hs A _ _ k i h0 (by omega),.inl (.inl (.elt (by rw[add_block];exact hb) (by rw[add_block];exact hAlt) (hic c (List.mem_of_getElem? hc)) (fun j hj=>?_) (fun j d u hd hu=>?_)))⟩
    ·rw[add_add']
     exact hcell _ j hlt (by omega)
    ·rw[add_add'] at hu
     exact hrep _ c j d u hc hd hu
  ·cases h
 ·cases h
theorem indexAddr_sound{N:Nat}{w0:Bs}{ρ:Nat→D}{η:Nat→Option O}{a:Act}(hrel:Rel N B w0 ι ρ η a w){t:TypeId}{dx dy d:D}{vx vy:Value}(hx:Rep w B ι vx dx)(hy:Rep w B ι vy dy)
  (h:indexAddrD P η t dx dy=some d):∃v,(Instr.indexAt t vx vy).run P w= .ok v w∧Rep w B ι v d:=by
 unfold indexAddrD at h
 split at h
 ·rename_i k i
  rw[hy.x_inv]
  split at h
  ·rename_i h0
   split at h
   ·rename_i e hu
    split at h
    ·rename_i sz hs
     split at h
     ·exact elt_at hx (.inl rfl) hu hs h0 h
     ·exact elt_at hx (.inr ⟨_,rfl⟩) hu hs h0 h
     ·rename_i id
      split at h
      ·rename_i ety sz0 fl es hη
       split at h
       ·rename_i c hc
        split at h
        ·rename_i hl
         cases h
         obtain⟨hι,A,n,cp,rfl⟩:=row_inv hx
         obtain⟨v,hv,hobj⟩:=hrel.obj id _ hη
         rw[hι] at hv
         cases hv
         have hlt:=(List.getElem?_eq_some_iff.1 hc).1
         obtain⟨b,rfl⟩:∃b,A=some ⟨b,0,none⟩:=by
          obtain⟨xs,_,⟨hown,hwr⟩,_⟩:=hobj
          rcases hown.2 with⟨h,h'⟩|⟨g,cap,cur,hv,_⟩
          ·omega
          ·injection hv with h1;exact⟨g,h1⟩
         have hn:=(row_cells hobj).1
         refine⟨_,run_indexAt_slice' hu hs _ n cp k i h0 (by omega),.inl (.inr ⟨b,n,cp,hι, ?_⟩)⟩
         rw[Addr.add_lit]
         simp
        ·cases h
       ·cases h
      ·cases h
     ·rename_i id off n sz'
      split at h
      ·rename_i hc
       obtain⟨rfl,hin⟩:=hc
       cases h
       obtain⟨b,c,hι,rfl,_⟩:=bsl_inv hx
       refine⟨_,run_indexAt_slice' hu hs _ n c k i h0 hin,.inl (.inr ⟨b,hι, ?_⟩)⟩
       rw[Addr.add_lit]
      ·cases h
     ·cases h
    ·cases h
   ·rename_i n e hu
    split at h
    ·rename_i sz hs
     split at h
     ·rename_i hin
      have run:∀A:Addr,(Instr.indexAt t (.pointer (some A)) (.int k i)).run P w= .ok (.pointer (some (A.add (i.toNat*sz)))) w:=fun A=>by
       simp[Instr.indexAt,run_underlying hu,asIntOf,Instr.sureAddr,h0,hin,run_sizeOf hs]
      split at h
      ·cases h
       obtain⟨b,hι,rfl⟩:=hx.ptr_inv
       exact⟨_,run _,.inl (.inr ⟨b,hι,by rw[Addr.add_lit]⟩)⟩
      ·cases h
       obtain⟨A,rfl,hb,hlt,hic,hcell,hrep⟩:=elt_cells hx
       exact⟨_,run _,elt_drop hb hlt hic hcell hrep⟩
      ·cases h
     ·cases h
    ·cases h
   ·cases h
  ·cases h
 ·cases h
def indexD(P:Program)(t:TypeId)(x ix:D):Option D:=
 match ix with
 | .x (
    .int _ i)=>
  if 0≤i then
   match P.underlying t,x with
   |some (.array n e),.agg cs=>match szT P e with
    |some sz=>if i<(n:Int) then partD P e cs (i.toNat*sz) else none
    |none=>none
   |some .string,.x (.string s)=>match s[i.toNat]? with
    |some b=>some (.x (.int .u8 b.toNat))
    |none=>none
   |_,_=>none
  else none
 |_=>none
theorem index_sound{t:TypeId}{dx dy d:D}{vx vy:Value}(hx:Rep w B ι vx dx)(hy:Rep w B ι vy dy)(h:indexD P t dx dy=some d):∃v,(Instr.index t vx vy).run P w= .ok v w∧Rep w B ι v d:=by
 unfold indexD at h
 split at h
 ·rename_i k i
  rw[hy.x_inv]
  split at h
  ·rename_i h0
   split at h
   ·rename_i n e cs hu
    split at h
    ·rename_i sz hs
     split at h
     ·rename_i hin
      obtain⟨cx,rfl,hc⟩:=hx.agg_inv
      obtain⟨v,hv,hr⟩:=part_sound hc h
      exact⟨v,by simp[Instr.index,asIntOf,run_underlying hu,h0,hin,run_sizeOf hs,hv],hr⟩
     ·cases h
    ·cases h
   ·rename_i s hu
    rw[hx.x_inv]
    split at h
    ·rename_i b hb
     cases h
     exact⟨_,by simp[Instr.index,asIntOf,run_underlying hu,h0,hb],.inl (.inl (.x _))⟩
    ·cases h
   ·cases h
  ·cases h
 ·cases h
def lenD(η:Nat→Option O):D→Option Nat
 | .emp=>some 0
 | .sl es=>some es.length
 | .own _ es=>some es.length
 | .row id=>match η id with
  |some (.row _ _ _ es)=>some es.length
  |_=>none
 | .bsl _ _ n _=>some n
 |_=>none
theorem len_inv{N:Nat}{w0:Bs}{ρ:Nat→D}{η:Nat→Option O}{a:Act}(hrel:Rel N B w0 ι ρ η a w){dx:D}{vx:Value}(hx:Rep w B ι vx dx){n:Nat}(h:lenD η dx=some n):∃A c,vx= .slice A n c∧n≤c:=by
 unfold lenD at h
 split at h
 ·cases h
  rcases hx with(h|h)|⟨_,h,_⟩|⟨_,h,_⟩
  ·cases h;exact⟨_,_,rfl,Nat.le_refl _⟩
  ·exact h.elim
  ·cases h
  ·cases h
 ·cases h
  rcases slice_cells hx (.inl rfl) with⟨rfl,A,c,rfl⟩|⟨A,c,sz,rfl,_,_,hc,_⟩
  ·exact⟨_,_,rfl,Nat.zero_le _⟩
  ·exact⟨_,_,rfl,hc⟩
 ·cases h
  rcases slice_cells hx (.inr ⟨_,rfl⟩) with⟨rfl,A,c,rfl⟩|⟨A,c,sz,rfl,_,_,hc,_⟩
  ·exact⟨_,_,rfl,Nat.zero_le _⟩
  ·exact⟨_,_,rfl,hc⟩
 ·rename_i id
  split at h
  ·rename_i ety sz0 fl es hη
   cases h
   obtain⟨hι,A,n,cp,rfl⟩:=row_inv hx
   obtain⟨v,hv,hobj⟩:=hrel.obj id _ hη
   rw[hι] at hv
   cases hv
   obtain⟨xs,_,⟨hown,hwr⟩,_⟩:=hobj
   rcases hown.2 with⟨h1,h2⟩|⟨g,cap,cur,hv,_,_,hle,_⟩
   ·injection h1 with h1 h3 h4
    exact⟨A,cp,by rw[h3,h2],by omega⟩
   ·injection hv with h1 h3 h4
    subst h3 h4
    exact⟨A,_,rfl,hle⟩
  ·cases h
 ·cases h
  obtain⟨b,c,_,rfl,hc⟩:=bsl_inv hx
  exact⟨_,_,rfl,hc⟩
 ·cases h
def lenOp(P:Program)(η:Nat→Option O)(t:TypeId)(x:D):Option D:=
 match P.underlying t with
 |some .string=>match x with
  | .x (.string s)=>some (.x (.int .i64 s.size))
  |_=>none
 |some (.array n _)=>some (.x (.int .i64 n))
 |some (.slice _)=>match lenD η x with
  |some n=>some (.x (.int .i64 n))
  |none=>none
 |_=>none
theorem len_sound{N:Nat}{w0:Bs}{ρ:Nat→D}{η:Nat→Option O}{a:Act}(hrel:Rel N B w0 ι ρ η a w){t:TypeId}{dx d:D}{vx:Value}(hx:Rep w B ι vx dx)(h:lenOp P η t dx=some d)(ts:Array TypeId)(hts:ts[0]? =some t)(ty:TypeId):
  ∃v,(Builtin.len_ ts ty #[vx]).run P w= .ok v w∧Rep w B ι v d:=by
 unfold lenOp at h
 split at h
 ·rename_i hu
  split at h
  ·cases h
   rw[hx.x_inv]
   exact⟨_,by simp[Builtin.len_,hts,run_underlying hu,goInt],.inl (.inl (.x _))⟩
  ·cases h
 ·rename_i n e hu
  cases h
  refine⟨.int .i64 n, ?_,.inl (.inl (.x _))⟩
  unfold Builtin.len_
  simp only[hts,List.getElem?_toArray,List.getElem?_cons_zero,Sem.run_bind,run_underlying hu,Result.andThen_ok]
  simp[goInt]
 ·rename_i e hu
  split at h
  ·rename_i n hn
   cases h
   obtain⟨A,c,rfl,_⟩:=len_inv hrel hx hn
   exact⟨_,by simp[Builtin.len_,hts,run_underlying hu,goInt],.inl (.inl (.x _))⟩
  ·cases h
 ·cases h
def min2D:D→D→Option D
 | .x (.int k a),.x (.int _ b)=>some (.x (.int k (if b<a then b else a)))
 |_,_=>none
def max2D:D→D→Option D
 | .x (.int k a),.x (.int _ b)=>some (.x (.int k (if a<b then b else a)))
 |_,_=>none
def foldD(f:D→D→Option D):D→List D→Option D
 |d,[]=>some d
 |d,e::r=>match f d e with
  |some d'=>foldD f d' r
  |none=>none
theorem fold_sound{f:D→D→Option D}{g:Value→Value→Sem Value}(hfg:∀d e r vd ve,f d e=some r→Rep w B ι vd d→Rep w B ι ve e→∃v,(g vd ve).run P w= .ok v w∧Rep w B ι v r):
  ∀(es:List D) (vs:List Value) (d:D) (v:Value) (r:D),es.length=vs.length→(∀(i:Nat) (e:D) (u:Value),es[i]? =some e→vs[i]? =some u→Rep w B ι u e)→Rep w B ι v d→foldD f d es=some r→
   ∃u,(vs.foldlM g v).run P w= .ok u w∧Rep w B ι u r
 |[],[],d,v,r,_,_,hv,h=>by cases h;exact⟨v,by simp,hv⟩
 |[],_::_,_,_,_,h,_,_,_=>by cases h
 |_::_,[],_,_,_,h,_,_,_=>by cases h
 |e::es,u::vs,d,v,r,hl,hr,hv,h=>by
  unfold foldD at h
  split at h
  ·rename_i d' hd'
   obtain⟨v',hv',hr'⟩:=hfg d e d' v u hd' hv (hr 0 e u rfl rfl)
   obtain⟨u',hu',hru⟩:=fold_sound hfg es vs d' v' r (by simpa using hl) (fun i e u h1 h2=>hr (i+1) e u (by simpa using h1) (by simpa using h2)) hr' h
   exact⟨u',by simp[List.foldlM_cons,hv',hu'],hru⟩
  ·cases h
theorem min2_sound(d e r:D)(vd ve:Value)(h:min2D d e=some r)(hd:Rep w B ι vd d)(he:Rep w B ι ve e):∃v,(Builtin.min2 vd ve).run P w= .ok v w∧Rep w B ι v r:=by
 unfold min2D at h
 split at h
 ·cases h
  rw[hd.x_inv,he.x_inv]
  exact⟨_,by simp[Builtin.min2],.inl (.inl (.x _))⟩
 ·cases h
theorem max2_sound(d e r:D)(vd ve:Value)(h:max2D d e=some r)(hd:Rep w B ι vd d)(he:Rep w B ι ve e):∃v,(Builtin.max2 vd ve).run P w= .ok v w∧Rep w B ι v r:=by
 unfold max2D at h
 split at h
 ·cases h
  rw[hd.x_inv,he.x_inv]
  exact⟨_,by simp[Builtin.max2],.inl (.inl (.x _))⟩
 ·cases h
end
end Go.Abs
namespace Go.Abs
open Go Go.RowKit
section
variable {P:Program}{w:World}{B:Nat}{ι:Inj}
def bnd(dflt:Nat):Option D→Option Int
 |none=>some dflt
 |some (.x (.int _ i))=>some i
 |_=>none
def cutD(es:List (List D))(l h:Int):List (List D):=(es.take h.toNat).drop l.toNat
def sliceD(P:Program)(t:TypeId)(x:D)(lo hi:Option D):Option D:=
 match P.underlying t with
 |some .string=>match x with
  | .x (.string s)=>match bnd 0 lo,bnd s.size hi with
   |some l,some h=>if 0≤l∧l≤h∧h≤(s.size:Int) then some (.x (.string (s.extract l.toNat h.toNat))) else none
   |_,_=>none
  |_=>none
 |some (.slice e)=>match szT P e with
  |some sz=>match x with
   | .sl es=>match bnd 0 lo,bnd es.length hi with
    |some l,some h=>if es.all (fun c=>c.length==sz)=true∧0≤l∧l≤h∧h≤(es.length:Int) then some (.sl (cutD es l h)) else none
    |_,_=>none
   | .own fl es=>match bnd 0 lo,bnd es.length hi with
    |some l,some h=>if es.all (fun c=>c.length==sz)=true∧0≤l∧l≤h∧h≤(es.length:Int) then some (.own fl (cutD es l h)) else none
    |_,_=>none
   |_=>none
  |none=>none
 |some (.array n e)=>match szT P e,x,lo,hi with
  |some sz,.ptr id off,none,none=>some (.bsl id off n sz)
  |_,_,_,_=>none
 |_=>none
def BndRel(w:World)(B:Nat)(ι:Inj):Option Value→Option D→Prop
 |none,none=>True
 |some v,some d=>Rep w B ι v d
 |_,_=>False
theorem bounds_run{isS:Bool}{len cap:Nat}{lo hi:Option D}{vlo vhi:Option Value}(hlo:BndRel w B ι vlo lo)(hhi:BndRel w B ι vhi hi){l h:Int}(el:bnd 0 lo=some l)(eh:bnd len hi=some h)
  (h0:0≤l)(h1:l≤h)(h2:h≤(len:Int))(hc:len≤cap):(Instr.sliceBounds isS len cap vlo vhi none).run P w= .ok (l.toNat,h.toNat,cap) w:=by
 have dl:(vlo=none∧l=0)∨∃k,vlo=some (.int k l):=by
  cases vlo<;>cases lo<;>simp only[BndRel] at hlo
  ·simp[bnd] at el;exact .inl ⟨rfl,el.symm⟩
  ·rename_i v d
   unfold bnd at el
   split at el
   ·rename_i e;cases e
   ·rename_i k i e
    cases el;cases e
    exact .inr ⟨k,by rw[hlo.x_inv]⟩
   ·cases el
 have dh:(vhi=none∧h=len)∨∃k,vhi=some (.int k h):=by
  cases vhi<;>cases hi<;>simp only[BndRel] at hhi
  ·simp[bnd] at eh;exact .inl ⟨rfl,eh.symm⟩
  ·rename_i v d
   unfold bnd at eh
   split at eh
   ·rename_i e;cases e
   ·rename_i k i e
    cases eh;cases e
    exact .inr ⟨k,by rw[hhi.x_inv]⟩
   ·cases eh
 have hn:(h.toNat:Int)=h:=Int.toNat_of_nonneg (by omega)
 rcases dl with⟨rfl,rfl⟩|⟨kl,rfl⟩<;>rcases dh with⟨rfl,rfl⟩|⟨kh,rfl⟩
 ·simp[Instr.sliceBounds]
 ·simp[Instr.sliceBounds,run_sliceBound w kh h cap _ (by omega) (by omega)]
 ·simp[Instr.sliceBounds,run_sliceBound w kl l len _ (by omega) (by omega)]
 ·simp[Instr.sliceBounds,run_sliceBound w kh h cap _ (by omega) (by omega),run_sliceBound w kl l h.toNat _ (by omega) (by omega)]
theorem cut_rep{v:Value}{dx:D}{es:List (List D)}(hx:Rep w B ι v dx)(hd:dx= .sl es∨∃fl,dx= .own fl es){l h:Int}(h0:0≤l)(h1:l≤h)(h2:h≤(es.length:Int)){e:TypeId}{sz0:Nat}(hs0:sz0=sz0)
  {A:Option Addr}{n c:Nat}(hv:v= .slice A n c)(hsz0:∀(i:Nat) (x:List D),es[i]? =some x→x.length=sz0):
  (dx= .sl es→Rep w B ι (sliced A l.toNat h.toNat c sz0) (.sl (cutD es l h)))∧(∀fl,dx= .own fl es→Rep w B ι (sliced A l.toNat h.toNat c sz0) (.own fl (cutD es l h))):=by
 have hlen:(cutD es l h).length=h.toNat-l.toNat:=by
  unfold cutD
  simp
  omega
 have hget:∀i x,(cutD es l h)[i]? =some x→es[l.toNat+i]? =some x:=by
  intro i x hi
  have hlt:=(List.getElem?_eq_some_iff.1 hi).1
  rw[hlen] at hlt
  unfold cutD at hi
  rw[List.getElem?_drop,List.getElem?_take_of_lt (by omega)] at hi
  exact hi
 rcases slice_cells hx hd with⟨rfl,A',c',rfl⟩|⟨A',c',sz,rfl,hb,hlt,hcap,hic,hsz,hcell,hrep⟩
 ·have e0:cutD [] l h=[]:=by simp[cutD]
  have e1:h.toNat-l.toNat=0:=by simp at h2;omega
  cases hv
  constructor
  ·intro _;rw[e0];unfold sliced;rw[e1];exact .inl (.inl (.sl0 _ _))
  ·intro fl _;rw[e0];unfold sliced;rw[e1];exact .inl (.inl (.own0 _ _ _))
 ·cases hv
  by_cases hz:(cutD es l h).length=0
  ·have e0:cutD es l h=[]:=List.eq_nil_of_length_eq_zero hz
   have e1:h.toNat-l.toNat=0:=by omega
   constructor
   ·intro _;rw[e0];unfold sliced;rw[e1];exact .inl (.inl (.sl0 _ _))
   ·intro fl _;rw[e0];unfold sliced;rw[e1];exact .inl (.inl (.own0 _ _ _))
  ·have hne:c≠l.toNat:=by omega
   have hszz:sz=sz0:=by
    have hl:0<es.length:=by omega
    rw[←hsz0 0 es[0] (List.getElem?_eq_getElem hl),hsz _ (List.getElem_mem hl)]
   subst hszz
   have hval:sliced (some A') l.toNat h.toNat c sz= .slice (some (A'.add (l.toNat*sz))) (cutD es l h).length (c-l.toNat):=by
    unfold sliced
    rw[if_neg hne,hlen]
    rfl
   have hcap':(cutD es l h).length≤c-l.toNat:=by omega
   have mem:∀x,x∈cutD es l h→x∈es:=fun x hx=>List.mem_of_mem_take (List.mem_of_mem_drop hx)
   have hcell':∀i j,i<(cutD es l h).length→j<sz→∃u,w.cell? ((A'.add (l.toNat*sz)).add (i*sz+j))=some u∧u.oneCell'=true:=by
    intro i j hi hj
    rw[add_add',←Nat.add_assoc,←Nat.add_mul]
    exact hcell (l.toNat+i) j (by omega) hj
   have hrep':∀(i:Nat) (e:List D) (j:Nat) (d:D) (u:Value),(cutD es l h)[i]? =some e→e[j]? =some d→w.cell? ((A'.add (l.toNat*sz)).add (i*sz+j))=some u→RepI w (okB ι) (frB B ι) u d:=by
    intro i e j d u he hd hu
    rw[add_add',←Nat.add_assoc,←Nat.add_mul] at hu
    exact hrep (l.toNat+i) e j d u (hget i e he) hd hu
   constructor
   ·intro _
    rw[hval]
    exact .inl (.inl (.sl (by rw[add_block];exact hb) (by rw[add_block];exact hlt) hcap' (fun x hx=>hic x (mem x hx)) (fun x hx=>hsz x (mem x hx)) hcell' hrep'))
   ·rintro fl rfl
    rw[hval]
    have hfr:frB B ι A'.block∧(fl=true→∀e∈es,∀d∈e,∃v,d= .x v):=by
     rcases hx with(hx|hx)|⟨_,hx,_⟩|⟨_,hx,_⟩
     ·generalize hvv:Value.slice (some A') es.length c=vv at hx
      cases hx with
      |own0 A c=>cases hvv;simp at hz;simp[cutD] at hz
      |own hb _ _ _ _ _ _ hfl=>cases hvv;exact⟨hb,hfl⟩
     ·exact hx.elim
     ·cases hx
     ·cases hx
    exact .inl (.inl (.own (by rw[add_block];exact hfr.1) (by rw[add_block];exact hlt) hcap' (fun x hx=>hic x (mem x hx)) (fun x hx=>hsz x (mem x hx)) hcell' hrep' (fun h x hx=>hfr.2 h x (mem x hx))))
theorem slice_sound{t:TypeId}{dx d:D}{vx:Value}{lo hi:Option D}{vlo vhi:Option Value}(hx:Rep w B ι vx dx)(hlo:BndRel w B ι vlo lo)(hhi:BndRel w B ι vhi hi)(h:sliceD P t dx lo hi=some d):
  ∃v,(Instr.sliceAt t vx vlo vhi none).run P w= .ok v w∧Rep w B ι v d:=by
 unfold sliceD at h
 split at h
 ·rename_i hu
  split at h
  ·rename_i s
   rw[hx.x_inv]
   split at h
   ·rename_i l hh el eh
    split at h
    ·rename_i hb
     cases h
     have:=bounds_run (P:=P) (isS:=false) (cap:=s.size) hlo hhi el eh hb.1 hb.2.1 hb.2.2 (Nat.le_refl _)
     exact⟨_,by simp[Instr.sliceAt,Instr.slice,run_underlying hu,this],.inl (.inl (.x _))⟩
    ·cases h
   ·cases h
  ·cases h
 ·rename_i e hu
  split at h
  ·rename_i sz hs
   have run:∀(A:Option Addr) (n c:Nat) (l h:Int),(Instr.sliceBounds true n c vlo vhi none).run P w= .ok (l.toNat,h.toNat,c) w→
     (Instr.sliceAt t (.slice A n c) vlo vhi none).run P w= .ok (sliced A l.toNat h.toNat c sz) w:=by
    intro A n c l h hb
    simp[Instr.sliceAt,Instr.slice,run_underlying hu,hb,run_sizeOf hs,sliced]
   have hall:∀{es:List (List D)},es.all (fun c=>c.length==sz)=true→∀(i:Nat) (x:List D),es[i]? =some x→x.length=sz:=by
    intro es hes i x hi
    have:=List.all_eq_true.1 hes x (List.mem_of_getElem? hi)
    simpa using this
   split at h
   ·rename_i es
    split at h
    ·rename_i l hh el eh
     split at h
     ·rename_i hb
      cases h
      have hcap:∃A c,vx= .slice A es.length c∧es.length≤c:=by
       rcases slice_cells hx (.inl rfl) with⟨rfl,A,c,rfl⟩|⟨A,c,sz,rfl,_,_,hc,_⟩
       ·exact⟨_,_,rfl,Nat.zero_le _⟩
       ·exact⟨_,_,rfl,hc⟩
      obtain⟨A,c,rfl,hc⟩:=hcap
      exact⟨_,run A _ c l hh (bounds_run hlo hhi el eh hb.2.1 hb.2.2.1 hb.2.2.2 hc),(cut_rep hx (.inl rfl) hb.2.1 hb.2.2.1 hb.2.2.2 (e:=e) rfl rfl (hall hb.1)).1 rfl⟩
     ·cases h
    ·cases h
   ·rename_i fl es
    split at h
    ·rename_i l hh el eh
     split at h
     ·rename_i hb
      cases h
      have hcap:∃A c,vx= .slice A es.length c∧es.length≤c:=by
       rcases slice_cells hx (.inr ⟨_,rfl⟩) with⟨rfl,A,c,rfl⟩|⟨A,c,sz,rfl,_,_,hc,_⟩
       ·exact⟨_,_,rfl,Nat.zero_le _⟩
       ·exact⟨_,_,rfl,hc⟩
      obtain⟨A,c,rfl,hc⟩:=hcap
      exact⟨_,run A _ c l hh (bounds_run hlo hhi el eh hb.2.1 hb.2.2.1 hb.2.2.2 hc),(cut_rep hx (.inr ⟨_,rfl⟩) hb.2.1 hb.2.2.1 hb.2.2.2 (e:=e) rfl rfl (hall hb.1)).2 fl rfl⟩
     ·cases h
    ·cases h
   ·cases h
  ·cases h
 ·rename_i n e hu
  split at h
  ·rename_i sz id off hs
   cases h
   cases vlo<;>simp only[BndRel] at hlo
   cases vhi<;>simp only[BndRel] at hhi
   obtain⟨b,hι,rfl⟩:=hx.ptr_inv
   exact⟨.slice (some ⟨b,off,none⟩) n n,by simp[Instr.sliceAt,Instr.sureAddr,run_underlying hu,Instr.sliceBounds,run_sizeOf hs,Addr.add],.inl (.inr ⟨b,n,hι,rfl,Nat.le_refl n⟩)⟩
  ·cases h
 ·cases h
def slice3D(P:Program)(t:TypeId)(x:D)(lo hi:Option D)(mx:D):Option D:=
 match P.underlying t with
 |some (.slice e)=>match szT P e,bnd 0 lo,hi,mx with
  |some _,some l,some (.x (.int _ h)),.x (.int _ m)=>if l=0∧h=0∧m=0 then
    match x with
    | .sl _=>some .cap0
    | .own _ _=>some .cap0
    | .emp=>some .cap0
    |_=>none
   else none
  |_,_,_,_=>none
 |_=>none
theorem slice3_sound{t:TypeId}{dx d:D}{vx:Value}{lo hi:Option D}{vlo vhi:Option Value}{dm:D}{vm:Value}(hx:Rep w B ι vx dx)(hlo:BndRel w B ι vlo lo)(hhi:BndRel w B ι vhi hi)(hm:Rep w B ι vm dm)(h:slice3D P t dx lo hi dm=some d):
  ∃v,(Instr.sliceAt t vx vlo vhi (some vm)).run P w= .ok v w∧Rep w B ι v d:=by
 unfold slice3D at h
 split at h
 ·rename_i e hu
  split at h
  ·rename_i sz l k hh k' m hs hl
   split at h
   ·rename_i h0
    obtain⟨rfl,rfl,rfl⟩:=h0
    have run:∀(A:Option Addr) (n c:Nat),vx= .slice A n c→∃v,(Instr.sliceAt t vx vlo vhi (some vm)).run P w= .ok v w∧Rep w B ι v .cap0:=by
     rintro A n c rfl
     refine⟨.slice A 0 0, ?_,.inl (.inl (.cap0 A))⟩
     rw[hm.x_inv]
     cases vhi with
     |none=>simp[BndRel] at hhi
     |some vh=>
      have hvh:vh= .int k 0:=Rep.x_inv hhi
      subst hvh
      have hlow:vlo=none∨∃k0,vlo=some (.int k0 0):=by
       cases lo with
       |none=>cases vlo<;>simp[BndRel] at hlo⊢
       |some dl=>
        cases vlo with
        |none=>simp[BndRel] at hlo
        |some vl=>
         right
         unfold bnd at hl
         split at hl
         ·rename_i e;cases e
         ·rename_i kk i e
          cases hl;cases e
          exact⟨kk,by rw[Rep.x_inv hlo]⟩
         ·cases hl
      have b0:∀(k:IntKind) (n:Nat) (code:BoundsCode),(Instr.sliceBound (.int k 0) n code).run P w= .ok 0 w:=fun k n code=>by
       have:=run_sliceBound (P:=P) w k 0 n code (by omega) (by omega)
       simpa using this
      rcases hlow with rfl|⟨k0,rfl⟩<;>simp[Instr.sliceAt,Instr.slice,run_underlying hu,Instr.sliceBounds,b0,run_sizeOf hs]
    split at h
    ·cases h
     rcases slice_cells hx (.inl rfl) with⟨rfl,A,c,rfl⟩|⟨A,c,sz,rfl,_⟩
     ·exact run _ _ _ rfl
     ·exact run _ _ _ rfl
    ·cases h
     rcases slice_cells hx (.inr ⟨_,rfl⟩) with⟨rfl,A,c,rfl⟩|⟨A,c,sz,rfl,_⟩
     ·exact run _ _ _ rfl
     ·exact run _ _ _ rfl
    ·cases h
     have:=(hx.one_inv (fun _ e=>by cases e)).resolve_right (fun h=>h.elim)
     cases this
     exact run _ _ _ rfl
    ·cases h
   ·cases h
  ·cases h
 ·cases h
def shapeOk:D→Bool
 | .agg _=>true
 |d=>one d
theorem cells_rel{v:Value}{d:D}(h:Rep w B ι v d)(hs:shapeOk d=true):CellsRel (Rep1 w B ι) v.cells (cellsD d):=by
 by_cases hd:∃ds,d= .agg ds
 ·obtain⟨ds,rfl⟩:=hd
  obtain⟨cs,rfl,hl,hc⟩:=h.agg_inv
  exact⟨hl,hc⟩
 ·have hne:∀ds,d≠ .agg ds:=fun ds e=>hd ⟨ds,e⟩
  have h1:one d=true:=by cases d<;>first|exact hs|exact absurd rfl (hne _)
  have hr:=h.one_inv hne (by rintro ds rfl;cases h1)
  have hv:=hr.one h1
  have e1:v.cells= #[v]:=by cases v<;>first|rfl|cases hv
  have e2:cellsD d=[d]:=by cases d<;>first|rfl|exact absurd rfl (hne _)
  rw[e1,e2]
  refine⟨rfl,fun i c e h1 h2=>?_⟩
  cases i with
  |zero=>simp at h1 h2;subst h1 h2;exact hr
  |succ i=>simp at h2
def fillD(place:Nat→Option (Nat×Nat))(cs:List D):List (Nat×List D)→Option (List D)
 |[]=>some cs
 |(i,e)::r=>match place i with
  |none=>none
  |some (off,n)=>if e.length=n∧off+n≤cs.length then fillD place (cs.take off++(e++cs.drop (off+n))) r else none
theorem splice_get(vs:List Value):∀(off:Nat) (k0:Nat) (cs:Array Value) (k:Nat),off+k0+vs.length≤cs.size→
  ((vs.zipIdx k0).foldl (fun(cs:Array Value) (p:Value×Nat)=>cs.setIfInBounds (off+p.2) p.1) cs)[k]? =if off+k0≤k∧k<off+k0+vs.length then vs[k-(off+k0)]? else cs[k]? :=by
 induction vs with
 |nil=>intro off k0 cs k h;simp;intro h1 h2;omega
 |cons v vs ih=>
  intro off k0 cs k h
  simp only[List.zipIdx_cons,List.foldl_cons]
  rw[ih off (k0+1) _ k (by simp at h⊢;omega)]
  by_cases h1:k=off+k0
  ·subst h1
   rw[if_neg (by omega),if_pos (by simp),Array.getElem?_setIfInBounds_self_of_lt (by simp at h;omega)]
   simp
  ·rw[Array.getElem?_setIfInBounds_ne (by omega)]
   by_cases h2:off+(k0+1)≤k∧k<off+(k0+1)+vs.length
   ·rw[if_pos h2,if_pos (by simp;omega),show k-(off+k0)=k-(off+(k0+1))+1 by omega,List.getElem?_cons_succ]
   ·rw[if_neg h2,if_neg (by simp;omega)]
theorem splice_size(vs:List (Value×Nat)):∀(off:Nat) (cs:Array Value),(vs.foldl (fun(cs:Array Value) (p:Value×Nat)=>cs.setIfInBounds (off+p.2) p.1) cs).size=cs.size:=by
 induction vs with
 |nil=>intro off cs;rfl
 |cons v vs ih=>intro off cs;simp[ih]
theorem fill_sound{R:Value→D→Prop}{place:Nat→Option (Nat×Nat)}:∀(pv:List (Nat×Value)) (pd:List (Nat×List D)) (cs:Array Value) (ds ds':List D),CellsRel R cs ds→
  pv.length=pd.length→(∀(k:Nat) (p:Nat×Value) (q:Nat×List D),pv[k]? =some p→pd[k]? =some q→p.1=q.1∧CellsRel R p.2.cells q.2)→fillD place ds pd=some ds'→
  ∃cs',Instr.fill place cs pv=some cs'∧CellsRel R cs' ds'
 |[],[],cs,ds,ds',hc,_,_,h=>by cases h;exact⟨cs,rfl,hc⟩
 |[],_::_,_,_,_,_,h,_,_=>by cases h
 |_::_,[],_,_,_,_,h,_,_=>by cases h
 |(i,v)::pv,(i',e)::pd,cs,ds,ds',hc,hl,hp,h=>by
  obtain⟨h1,h2⟩:=hp 0 (i,v) (i',e) rfl rfl
  simp only at h1 h2
  subst h1
  unfold fillD at h
  split at h
  ·cases h
  ·rename_i off n hpl
   split at h
   ·rename_i hb
    have hvn:v.cells.size=n:=by rw[h2.1];exact hb.1
    have hcs:=hc.1
    let cs1:=v.cells.zipIdx.foldl (fun cs (p:Value×Nat)=>cs.setIfInBounds (off+p.2) p.1) cs
    have hget:∀k,cs1[k]? =if off≤k∧k<off+n then v.cells[k-off]? else cs[k]? :=by
     intro k
     have:=splice_get v.cells.toList off 0 cs k (by simp;omega)
     simp only[Nat.add_zero,Array.length_toList,hvn] at this
     show(v.cells.zipIdx.foldl _ cs)[k]? =_
     rw[←Array.foldl_toList,Array.toList_zipIdx]
     rw[this]
     simp
    have hrel1:CellsRel R cs1 (ds.take off++(e++ds.drop (off+n))):=by
     have hsz:cs1.size=cs.size:=by
      show(v.cells.zipIdx.foldl _ cs).size=_
      rw[←Array.foldl_toList,Array.toList_zipIdx]
      exact splice_size _ _ _
     refine⟨by rw[hsz];simp;omega,fun k c d hk hd=>?_⟩
     rw[hget] at hk
     by_cases hin:off≤k∧k<off+n
     ·rw[if_pos hin] at hk
      rw[List.getElem?_append_right (by simp;omega)] at hd
      have hlt:(ds.take off).length=off:=by simp;omega
      rw[hlt,List.getElem?_append_left (by omega)] at hd
      exact h2.2 _ c d hk hd
     ·rw[if_neg hin] at hk
      by_cases hlt:k<off
      ·rw[List.getElem?_append_left (by simp;omega),List.getElem?_take_of_lt hlt] at hd
       exact hc.2 k c d hk hd
      ·have hlen:(ds.take off).length=off:=by simp;omega
       rw[List.getElem?_append_right (by omega),hlen,List.getElem?_append_right (by omega),List.getElem?_drop,show off+n+(k-off-e.length)=k by omega] at hd
       exact hc.2 k c d hk hd
    obtain⟨cs',hf,hr⟩:=fill_sound pv pd cs1 _ ds' hrel1 (by simpa using hl) (fun k p q h3 h4=>hp (k+1) p q (by simpa using h3) (by simpa using h4)) h
    refine⟨cs', ?_,hr⟩
    unfold Instr.fill
    simp only[hpl]
    rw[if_neg (by simp;omega)]
    exact hf
   ·cases h
end
end Go.Abs
namespace Go.Abs
open Go Go.RowKit
section
variable {P:Program}{w:World}{B:Nat}{ι:Inj}
theorem okB_new{t b:Nat}{vr:Value}(h:okB ι b)(hb:blk vr≠some b):okB (updI ι t (some vr)) b:=by
 refine⟨h.1,fun i v hv=>?_⟩
 by_cases hi:i=t
 ·subst hi;simp at hv;subst hv;exact hb
 ·rw[updI_ne _ _ hi] at hv;exact h.2 i v hv
theorem RepI.grow{w':World}{v vr:Value}{d:D}{t:Nat}(h:RepI w (okB ι) (frB B ι) v d)(hx:Ext w w')(hf:∀b,blk vr=some b→w.heap.size≤b):RepI w' (okB (updI ι t (some vr))) (frB B (updI ι t (some vr))) v d:=
 h.mono hx.size
  (fun b hb ho=>⟨okB_new ho (fun e=>by have:=hf b e;omega),hx.block b hb⟩)
  (fun b hb ho=>⟨⟨ho.1,okB_new ho.2 (fun e=>by have:=hf b e;omega)⟩,hx.block b hb⟩)
theorem Rep1.grow{w':World}{v vr:Value}{d:D}{t:Nat}(h:Rep1 w B ι v d)(ht:ι t=none)(hx:Ext w w')(hf:∀b,blk vr=some b→w.heap.size≤b):Rep1 w' B (updI ι t (some vr)) v d:=by
 rcases h with h|h
 ·exact .inl (h.grow hx hf)
 ·refine .inr ?_
  have key:∀i u,ι i=some u→updI ι t (some vr) i=some u:=by
   intro i u hi
   rw[updI_ne]
   ·exact hi
   ·rintro rfl;rw[ht] at hi;cases hi
  cases d<;>simp only[Ref] at h⊢
  case ptr=>obtain⟨b,h1,h2⟩:=h;exact⟨b,key _ _ h1,h2⟩
  case row=>exact⟨key _ _ h.1,h.2⟩
  case rel=>obtain⟨b,n,c,h1,h2⟩:=h;exact⟨b,n,c,key _ _ h1,h2⟩
  case bsl=>obtain⟨b,c,h1,h2⟩:=h;exact⟨b,c,key _ _ h1,h2⟩
  case clo=>obtain⟨cap,h1,h2,h3⟩:=h;exact⟨cap,h1,h2,fun i c k hc hk=>⟨key _ _ (h3 i c k hc hk).1,(h3 i c k hc hk).2⟩⟩
  case mp=>exact⟨key _ _ h.1,h.2⟩
theorem Rep.grow{w':World}{v vr:Value}{d:D}{t:Nat}(h:Rep w B ι v d)(ht:ι t=none)(hx:Ext w w')(hf:∀b,blk vr=some b→w.heap.size≤b):Rep w' B (updI ι t (some vr)) v d:=by
 have:=h.mapT (f:=fun d=>d) (fun v d h _=>h.grow ht hx hf) (fun v cs h=>(Rep1.grow (.inl h) ht hx hf))
 rwa[mapT_id] at this
theorem ObjRel.grow{w':World}{v vr:Value}{o:O}{t:Nat}(h:ObjRel w B ι v o)(ht:ι t=none)(hx:Ext w w')(hf:∀b,blk vr=some b→w.heap.size≤b):ObjRel w' B (updI ι t (some vr)) v o:=by
 cases o with
 |box ty cs=>
  obtain⟨b,cur,h1,h2,h3,h4,h5⟩:=h
  exact⟨b,cur,h1,h2,by rw[hx.block b (Array.getElem?_eq_some_iff.1 h3).1];exact h3,h4,fun j c d hc hd=>⟨(h5 j c d hc hd).1.grow ht hx hf,(h5 j c d hc hd).2⟩⟩
 |row ety sz fl es=>
  obtain⟨xs,h1,h2,h3,h4,h5⟩:=h
  exact⟨xs,h1,⟨ownsRow_ext h2.1 hx,h2.2⟩,h3,fun i e j d c he hd hc=>(h4 i e j d c he hd hc).grow hx hf,h5⟩
 |mp es=>
  obtain⟨r,ms,ck,h1,h2,h3,h4⟩:=h
  exact⟨r,ms,ck,h1,h2,by rw[hx.block r (Array.getElem?_eq_some_iff.1 h3).1];exact h3,h4⟩
theorem Rel.none_of{N:Nat}{w0:Bs}{ρ:Nat→D}{η:Nat→Option O}{a:Act}(h:Rel N B w0 ι ρ η a w){t:Nat}(ht:η t=none):ι t=none:=by
 cases hi:ι t with
 |none=>rfl
 |some v=>obtain⟨o,ho⟩:=h.dom t v hi;rw[ht] at ho;cases ho
theorem Rel.newO{N:Nat}{w0:Bs}{ρ:Nat→D}{η:Nat→Option O}{a:Act}{w':World}(h:Rel N B w0 ι ρ η a w){t:Nat}(ht:t<1000∨10000≤t)(hη:η t=none)(hx:Ext w w'){vr:Value}{ob:O}
  (hf:∀b,blk vr=some b→w.heap.size≤b)(ho:ObjRel w' B (updI ι t (some vr)) vr ob):
  Rel N B w0 (updI ι t (some vr)) ρ (upd η t (some ob)) a w' where
 defers:=h.defers
 size:=h.size
 tmp i:=(h.tmp i).grow (h.none_of hη) hx hf
 obj i o hi:=by
  by_cases hit:i=t
  ·subst hit
   simp at hi
   subst hi
   exact⟨vr,by simp,ho⟩
  ·rw[upd_ne _ _ hit] at hi
   obtain⟨u,hu,hr⟩:=h.obj i o hi
   exact⟨u,by rw[updI_ne _ _ hit];exact hu,hr.grow (h.none_of hη) hx hf⟩
 dom i u hi:=by
  by_cases hit:i=t
  ·subst hit;exact⟨ob,by simp⟩
  ·rw[updI_ne _ _ hit] at hi
   rw[upd_ne _ _ hit]
   exact h.dom i u hi
 inj i i' u u' b h1 h2 h3 h4:=by
  by_cases hi:i=t<;>by_cases hi':i'=t
  ·rw[hi,hi']
  ·subst hi
   simp at h1;subst h1
   rw[updI_ne _ _ hi'] at h2
   have:=(h.blk_lt h2 h4).2
   have:=hf b h3
   omega
  ·subst hi'
   simp at h2;subst h2
   rw[updI_ne _ _ hi] at h1
   have:=(h.blk_lt h1 h3).2
   have:=hf b h4
   omega
  ·rw[updI_ne _ _ hi] at h1
   rw[updI_ne _ _ hi'] at h2
   exact h.inj i i' u u' b h1 h2 h3 h4
 below:=h.below.ext h.base hx
 base:=Nat.le_trans h.base hx.size
 fresh:=h.fresh
 kk:=h.kk
 zz:=h.zz
 k0 i v hv h1 h2:=by
  rw[updI_ne _ _ (by rintro rfl;omega)]
  exact h.k0 i v hv h1 h2
 nn:=h.nn
 glob g cs hg:=(h.glob g cs hg).to ((h.glob g cs hg).rep.grow hx hf) (hx.block g (h.glob g cs hg).lt)
theorem Rel.new{N:Nat}{w0:Bs}{ρ:Nat→D}{η:Nat→Option O}{a:Act}{w':World}(h:Rel N B w0 ι ρ η a w){t:Nat}(ht:t<N)(hη:η t=none)(hx:Ext w w'){v vr:Value}{d:D}{ob:O}
  (hf:∀b,blk vr=some b→w.heap.size≤b)(ho:ObjRel w' B (updI ι t (some vr)) vr ob)(hv:Rep w' B (updI ι t (some vr)) v d):
  Rel N B w0 (updI ι t (some vr)) (upd ρ t d) (upd η t (some ob)) (a.put (some t) v) w':=
 (h.newO (.inl (Nat.lt_of_lt_of_le ht h.nn)) hη hx hf ho).put ht hv
def Good(B:Nat)(ι:Inj)(t:Nat)(w w':World)(v:Value)(d:D):Option O→Prop
 |none=>Ext w w'∧Rep w' B ι v d
 |some ob=>∃vr,Ext w w'∧(∀b,blk vr=some b→w.heap.size≤b)∧ObjRel w' B (updI ι t (some vr)) vr ob∧Rep w' B (updI ι t (some vr)) v d
theorem good_same{t:Nat}{v:Value}{d:D}(h:Rep w B ι v d):Good B ι t w w v d none:=⟨Below.refl _ _,h⟩
theorem ext_alloc(w:World)(o:Obj):Ext w (w.alloc o):=(Below.refl _ _).alloc (Nat.le_refl _) _
theorem box_good{N:Nat}{w0:Bs}{ρ:Nat→D}{η:Nat→Option O}{a:Act}(hrel:Rel N B w0 ι ρ η a w){t:Nat}(hη:η t=none){cells:Array Value}{cs:List D}(e:TypeId)
  (hc:CellsRel (Rep1 w B ι) cells cs)(h1:cs.all one=true):
  Good B ι t w (w.alloc (.cells cells e)) (.pointer (some ⟨w.heap.size,0,none⟩)) (.ptr t 0) (some (.box e cs)):=by
 have hx:=ext_alloc w (.cells cells e)
 have hf:∀b,blk (.pointer (some ⟨w.heap.size,0,none⟩))=some b→w.heap.size≤b:=by intro b hb;simp[blk] at hb;omega
 refine⟨.pointer (some ⟨w.heap.size,0,none⟩),hx,hf,⟨w.heap.size,cells,rfl,.inl hrel.base,heap_alloc_new w _,hc.1,fun j c d hj hd=>?_⟩,.inl (.inr ⟨w.heap.size,by simp,rfl⟩)⟩
 have hr:=hc.2 j c d hj hd
 exact⟨hr.grow (hrel.none_of hη) hx hf,hr.one (List.all_eq_true.1 h1 d (List.mem_of_getElem? hd))⟩
theorem zero_run{t:TypeId}{cs:List D}(h:zeroD P t=some cs):∃z:Value,(zeroValue t).run P w= .ok z w∧cs=z.cells.toList.map ofV1:=by
 unfold zeroD at h
 split at h
 ·rename_i i hi
  split at h
  ·rename_i z hz
   cases h
   exact⟨z,by simp[zeroValue,typeInfo,hi,hz],rfl⟩
  ·cases h
 ·cases h
theorem zero_cells(z:Value):CellsRel (Rep1 w B ι) z.cells (z.cells.toList.map ofV1):=by
 refine⟨by simp,fun i c d h1 h2=>?_⟩
 rw[List.getElem?_map,Array.getElem?_toList,h1] at h2
 simp at h2
 subst h2
 exact .inl (rep_ofV1 c _ _)
def buildT(P:Program)(t:TypeId):Option (List (Nat×Nat)×List D):=
 match P.underlying t,zeroD P t with
 |some (.struct fs),some zs=>match fs.toList.mapM (fun f=>(szT P f.type).map fun n=>(f.offset,n)) with
  |some pl=>some (pl,zs)
  |none=>none
 |some (.array n e),some zs=>match szT P e with
  |some sz=>some ((List.range n).map (fun i=>(i*sz,sz)),zs)
  |none=>none
 |_,_=>none
def partsD(ρ:Nat→D):List (Nat×Operand)→Option (List (Nat×List D))
 |[]=>some []
 |(i,x)::r=>if shapeOk (ev ρ x) then match partsD ρ r with
   |some ps=>some ((i,cellsD (ev ρ x))::ps)
   |none=>none
  else none
def buildD(P:Program)(ρ:Nat→D)(t:TypeId)(parts:Array (Nat×Operand)):Option D:=
 match buildT P t,partsD ρ parts.toList with
 |some (pl,zs),some ps=>match fillD (fun i=>pl[i]?) zs ps with
  |some cs=>some (.agg cs)
  |none=>none
 |_,_=>none
theorem fillD_mono{p q:Nat→Option (Nat×Nat)}(hpq:∀i x,p i=some x→q i=some x):∀(ps:List (Nat×List D)) (cs cs':List D),fillD p cs ps=some cs'→fillD q cs ps=some cs'
 |[],_,_,h=>h
 |(i,e)::r,cs,cs',h=>by
  unfold fillD at h⊢
  split at h
  ·cases h
  ·rename_i off n hp
   rw[hpq i _ hp]
   simp only
   split at h
   ·rename_i hb
    rw[if_pos hb]
    exact fillD_mono hpq r _ _ h
   ·cases h
theorem parts_rel{N:Nat}{w0:Bs}{ρ:Nat→D}{η:Nat→Option O}{a:Act}(hrel:Rel N B w0 ι ρ η a w):∀(ps:List (Nat×Operand)) (qs:List (Nat×List D)),partsD ρ ps=some qs→
  (ps.map fun p=>(p.1,a.eval p.2)).length=qs.length∧∀(k:Nat) (p:Nat×Value) (q:Nat×List D),(ps.map fun p=>(p.1,a.eval p.2))[k]? =some p→qs[k]? =some q→p.1=q.1∧CellsRel (Rep1 w B ι) p.2.cells q.2
 |[],qs,h=>by cases h;exact⟨rfl,fun k p q h1 _=>by simp at h1⟩
 |(i,x)::r,qs,h=>by
  unfold partsD at h
  split at h
  ·rename_i hs
   split at h
   ·rename_i ps hp
    cases h
    obtain⟨h1,h2⟩:=parts_rel hrel r ps hp
    refine⟨by simpa using h1,fun k p q hk hq=>?_⟩
    cases k with
    |zero=>
     simp at hk hq
     subst hk hq
     exact⟨rfl,cells_rel (hrel.ev x) hs⟩
    |succ k=>exact h2 k p q (by simpa using hk) (by simpa using hq)
   ·cases h
  ·cases h
theorem places_run{α:Type}{f:Field→Option α}{g:Field→Sem α}(hfg:∀x y,f x=some y→(g x).run P w= .ok y w):∀(fs:List Field) (pl:List α),fs.mapM f=some pl→(fs.mapM g).run P w= .ok pl w
 |[],pl,h=>by simp at h;subst h;simp
 |x::r,pl,h=>by
  simp only[List.mapM_cons] at h⊢
  cases hx:f x with
  |none=>simp[hx] at h
  |some y=>
   cases hr:r.mapM f with
   |none=>simp[hx,hr] at h
   |some ys=>
    simp[hx,hr] at h
    subst h
    simp[hfg x y hx,places_run hfg r ys hr]
theorem build_sound{N:Nat}{w0:Bs}{ρ:Nat→D}{η:Nat→Option O}{a:Act}(hrel:Rel N B w0 ι ρ η a w){t:TypeId}{parts:Array (Nat×Operand)}{d:D}(h:buildD P ρ t parts=some d):
  ∃v,(Instr.build t (parts.map fun(i,x)=>(i,a.eval x))).run P w= .ok v w∧Rep w B ι v d:=by
 unfold buildD at h
 split at h
 ·rename_i pl zs ps hb hp
  split at h
  ·rename_i cs hfill
   cases h
   obtain⟨hl,hpr⟩:=parts_rel hrel parts.toList ps hp
   have hmap:(parts.map fun(p:Nat×Operand)=>(p.1,a.eval p.2)).toList=parts.toList.map fun p=>(p.1,a.eval p.2):=by simp
   unfold buildT at hb
   split at hb
   ·rename_i fs zs' hu hz
    split at hb
    ·rename_i pl' hm
     cases hb
     obtain⟨z,hzr,rfl⟩:=zero_run (w:=w) hz
     obtain⟨cs',hcs',hr⟩:=fill_sound _ ps z.cells _ cs (zero_cells z) hl hpr hfill
     have hplaces:(fs.mapM fun(f:Field)=>(do pure (f.offset,←Go.sizeOf f.type):Sem (Nat×Nat))).run P w= .ok pl.toArray w:=by
      rw[Array.mapM_eq_mapM_toList]
      have:=places_run (P:=P) (w:=w) (f:=fun f=>(szT P f.type).map fun n=>(f.offset,n)) (g:=fun f=>(do pure (f.offset,←Go.sizeOf f.type):Sem (Nat×Nat)))
       (fun x y hy=>by
        simp only[Option.map_eq_some_iff] at hy
        obtain⟨n,hn,rfl⟩:=hy
        simp[run_sizeOf hn]) fs.toList pl hm
      rw[map_eq_pure_bind,Sem.run_bind,this]
      rfl
     refine⟨.agg cs', ?_,.inr (.inl ⟨cs,rfl,cs',rfl,hr⟩)⟩
     have hfill':Instr.fill (fun i=>pl.toArray[i]?) z.cells (parts.toList.map fun p=>(p.1,a.eval p.2))=some cs':=by
      rw[←hcs']
      congr 1
      funext i
      simp
     simp only[Instr.build,Sem.run_bind,hzr,Result.andThen_ok,run_underlying hu,hplaces]
     simp only[Array.toList_map,hfill']
     simp
    ·cases hb
   ·rename_i n e zs' hu hz
    split at hb
    ·rename_i sz hs
     cases hb
     obtain⟨z,hzr,rfl⟩:=zero_run (w:=w) hz
     have hfill2:=fillD_mono (q:=fun i=>some (i*sz,sz)) (fun i x hx=>by
      rw[List.getElem?_map] at hx
      simp only[Option.map_eq_some_iff] at hx
      obtain⟨k,hk,rfl⟩:=hx
      have hk2:=List.getElem?_eq_some_iff.1 hk
      obtain⟨_,hk2⟩:=hk2
      simp at hk2
      subst hk2
      rfl) ps _ cs hfill
     obtain⟨cs',hcs',hr⟩:=fill_sound _ ps z.cells _ cs (zero_cells z) hl hpr hfill2
     refine⟨.agg cs', ?_,.inr (.inl ⟨cs,rfl,cs',rfl,hr⟩)⟩
     simp only[Instr.build,Sem.run_bind,hzr,Result.andThen_ok,run_underlying hu,run_sizeOf hs]
     simp only[Array.toList_map,hcs']
     simp
    ·cases hb
   ·cases hb
  ·cases h
 ·cases h
end
end Go.Abs
namespace Go.Abs
open Go Go.RowKit
section
variable {P:Program}{w:World}{B:Nat}{ι:Inj}
def cellI:D→Option D
 | .x v=>if v.oneCell' then some (.x v) else none
 | .emp=>some .emp
 | .sl es=>some (.sl es)
 | .own _ es=>some (.sl es)
 |_=>none
def cellsI:List D→Option (List D)
 |[]=>some []
 |d::r=>match cellI d,cellsI r with
  |some d',some r'=>some (d'::r')
  |_,_=>none
def rowsI:List (List D)→Option (List (List D))
 |[]=>some []
 |d::r=>match cellsI d,rowsI r with
  |some d',some r'=>some (d'::r')
  |_,_=>none
def isX:D→Bool
 | .x _=>true
 |_=>false
def flat(es:List (List D)):Bool:=es.all fun e=>e.all isX
def RowCell(w:World)(B:Nat)(ι:Inj)(c:Value)(d:D):Prop:=RepI w (okB ι) (frB B ι) c d∧c.oneCell'=true∧isCell d=true
theorem cellI_sound{c:Value}{d d':D}(h:Rep1 w B ι c d)(hd:cellI d=some d'):RowCell w B ι c d':=by
 unfold cellI at hd
 split at hd
 ·split at hd
  ·rename_i h1
   cases hd
   rw[h.x_inv]
   exact⟨.x _,h1,rfl⟩
  ·cases hd
 ·cases hd
  exact⟨h.resolve_right (fun h=>h.elim),h.one rfl,rfl⟩
 ·cases hd
  exact⟨h.resolve_right (fun h=>h.elim),h.one rfl,rfl⟩
 ·cases hd
  refine⟨?_,h.one rfl,rfl⟩
  have:=((h.resolve_right (fun h=>h.elim)).cell (frB B ι)).2.2 _ _ rfl
  exact this.mono (Nat.le_refl _) (fun b _ ho=>⟨ho.elim id (·.2),rfl⟩) (fun b _ ho=>⟨ho,rfl⟩)
 ·cases hd
theorem cellsI_get:∀(ds ds':List D),cellsI ds=some ds'→ds'.length=ds.length∧∀(i:Nat) (d':D),ds'[i]? =some d'→∃d,ds[i]? =some d∧cellI d=some d'
 |[],ds',h=>by cases h;exact⟨rfl,fun i d' h=>by simp at h⟩
 |d::r,ds',h=>by
  unfold cellsI at h
  split at h
  ·rename_i x y hx hy
   cases h
   obtain⟨h1,h2⟩:=cellsI_get r y hy
   refine⟨by simp[h1],fun i d' hi=>?_⟩
   cases i with
   |zero=>simp at hi;subst hi;exact⟨d,rfl,hx⟩
   |succ i=>simpa using h2 i d' (by simpa using hi)
  ·cases h
theorem cells_rowCell{cs:Array Value}{ds ds':List D}(h:CellsRel (Rep1 w B ι) cs ds)(hd:cellsI ds=some ds'):CellsRel (RowCell w B ι) cs ds':=by
 obtain⟨h1,h2⟩:=cellsI_get ds ds' hd
 refine⟨by rw[h.1,h1],fun i c d hc hdi=>?_⟩
 obtain⟨d0,hd0,hci⟩:=h2 i d hdi
 exact cellI_sound (h.2 i c d0 hc hd0) hci
def zeroI(P:Program)(e:TypeId):Option (List D):=match zeroD P e with
 |some zs=>cellsI zs
 |none=>none
def partsI(ρ:Nat→D):List (Nat×Operand)→Option (List (Nat×List D))
 |[]=>some []
 |(i,x)::r=>if shapeOk (ev ρ x) then match cellsI (cellsD (ev ρ x)),partsI ρ r with
   |some cs,some ps=>some ((i,cs)::ps)
   |_,_=>none
  else none
def zrep(n:Nat)(zs:List D):List D:=(List.range n).map fun k=>(zs[k% zs.length]?).getD .any
def mkT(P:Program)(t:TypeId):Option (TypeId×Nat×Nat×List D):=
 match P.underlying t with
 |some (.slice e)=>match P.info? e,zeroI P e with
  |some i,some zs=>if 0<i.size∧zs.length=i.size then some (e,i.size,i.bytes,zs) else none
  |_,_=>none
 |_=>none
theorem mkT_some{t e:TypeId}{sz by_:Nat}{zs:List D}(h:mkT P t=some (e,sz,by_,zs)):P.underlying t=some (.slice e)∧zeroI P e=some zs∧0<sz∧zs.length=sz∧szT P e=some sz∧∃i,P.info? e=some i∧i.size=sz∧i.bytes=by_:=by
 unfold mkT at h
 split at h
 ·rename_i e' hu
  split at h
  ·rename_i i zs' hi hz
   split at h
   ·rename_i hb
    cases h
    exact⟨hu,hz,hb.1,hb.2,by simp[szT,hi],i,hi,rfl,rfl⟩
   ·cases h
  ·cases h
 ·cases h
def buildSliceD(P:Program)(ρ:Nat→D)(t:TypeId)(len:Nat)(parts:Array (Nat×Operand)):Option (TypeId×Nat×List (List D)):=
 match mkT P t,partsI ρ parts.toList with
 |some (e,sz,_,zs),some ps=>if len*sz≤16777216 then
   match fillD (fun i=>some (i*sz,sz)) (zrep (len*sz) zs) ps with
   |some cs=>some (e,sz,chunk sz len cs)
   |none=>none
  else none
 |_,_=>none
theorem partsI_rel{N:Nat}{w0:Bs}{ρ:Nat→D}{η:Nat→Option O}{a:Act}(hrel:Rel N B w0 ι ρ η a w):∀(ps:List (Nat×Operand)) (qs:List (Nat×List D)),partsI ρ ps=some qs→
  (ps.map fun p=>(p.1,a.eval p.2)).length=qs.length∧∀(k:Nat) (p:Nat×Value) (q:Nat×List D),(ps.map fun p=>(p.1,a.eval p.2))[k]? =some p→qs[k]? =some q→p.1=q.1∧CellsRel (RowCell w B ι) p.2.cells q.2
 |[],qs,h=>by cases h;exact⟨rfl,fun k p q h1 _=>by simp at h1⟩
 |(i,x)::r,qs,h=>by
  unfold partsI at h
  split at h
  ·rename_i hs
   split at h
   ·rename_i cs ps hc hp
    cases h
    obtain⟨h1,h2⟩:=partsI_rel hrel r ps hp
    refine⟨by simpa using h1,fun k p q hk hq=>?_⟩
    cases k with
    |zero=>
     simp at hk hq
     subst hk hq
     exact⟨rfl,cells_rowCell (cells_rel (hrel.ev x) hs) hc⟩
    |succ k=>exact h2 k p q (by simpa using hk) (by simpa using hq)
   ·cases h
  ·cases h
theorem chunk_get{sz n:Nat}{cs:List D}{i:Nat}{e:List D}(h:(chunk sz n cs)[i]? =some e):i<n∧e=(cs.drop (i*sz)).take sz:=by
 unfold chunk at h
 rw[List.getElem?_map] at h
 simp only[Option.map_eq_some_iff] at h
 obtain⟨k,hk,rfl⟩:=h
 obtain⟨hlt,hk2⟩:=List.getElem?_eq_some_iff.1 hk
 simp at hk2 hlt
 subst hk2
 exact⟨hlt,rfl⟩
theorem chunk_length(sz n:Nat)(cs:List D):(chunk sz n cs).length=n:=by simp[chunk]
theorem flat_x{es:List (List D)}(h:flat es=true):∀e∈es,∀d∈e,∃v,d= .x v:=by
 intro e he d hd
 have:=List.all_eq_true.1 (List.all_eq_true.1 h e he) d hd
 cases d<;>first|exact⟨_,rfl⟩|cases this
theorem row_good{N:Nat}{w0:Bs}{ρ:Nat→D}{η:Nat→Option O}{a:Act}(hrel:Rel N B w0 ι ρ η a w){t:Nat}{cells:Array Value}{es:List (List D)}(e:TypeId){sz n c:Nat}(hsz:0<sz)
  (hes:es.length=n)(hel:∀x∈es,x.length=sz)(hcell:∀(i:Nat) (x:List D) (j:Nat) (d:D) (u:Value),es[i]? =some x→x[j]? =some d→cells[i*sz+j]? =some u→RowCell w B ι u d)
  (h1:∀u∈cells.toList.take (n*sz),u.oneCell'=true)(hcs:cells.size=c*sz)(hnc:n≤c)(hc:c≤maxLen)(hic:∀x∈es,∀d∈x,isCell d=true):
  Good B ι t w (w.alloc (.cells cells e)) (.slice (some ⟨w.heap.size,0,none⟩) n c) (.row t) (some (.row e sz (flat es) es)):=by
 have hx:=ext_alloc w (.cells cells e)
 have hf:∀b,blk (.slice (some ⟨w.heap.size,0,none⟩) n c)=some b→w.heap.size≤b:=by intro b hb;simp[blk] at hb;omega
 have hle:n*sz≤c*sz:=Nat.mul_le_mul_right _ hnc
 refine⟨.slice (some ⟨w.heap.size,0,none⟩) n c,hx,hf,⟨cells.toList.take (n*sz),hsz,⟨⟨by rw[hes];simp;omega,.inr ⟨w.heap.size,c,cells,by rw[hes],Nat.zero_le _,heap_alloc_new w _,by omega,hc,hcs,by rw[hes]⟩⟩,fun b hb=> .inl (Nat.le_trans hrel.base (hf b hb))⟩,hel, ?_,h1,hic,fun h=>flat_x h⟩,.inl (.inr ⟨by simp,_,_,_,rfl⟩)⟩
 intro i x j d u hi hd hu
 have hlt:i*sz+j<n*sz:=by
  have h1:=(List.getElem?_eq_some_iff.1 hi).1
  have h2:=(List.getElem?_eq_some_iff.1 hd).1
  rw[hel x (List.mem_of_getElem? hi)] at h2
  have:(i+1)*sz≤n*sz:=Nat.mul_le_mul_right _ (by omega)
  rw[Nat.add_mul,Nat.one_mul] at this
  omega
 rw[List.getElem?_take_of_lt hlt,Array.getElem?_toList] at hu
 exact(hcell i x j d u hi hd hu).1.grow hx hf
theorem flatten_chunk(sz:Nat):∀(n:Nat) (cs:List D),cs.length=n*sz→(chunk sz n cs).flatten=cs
 |0,cs,h=>by
  have:cs=[]:=List.eq_nil_of_length_eq_zero (by omega)
  subst this
  rfl
 |n+1,cs,h=>by
  have ih:=flatten_chunk sz n (cs.drop sz) (by rw[List.length_drop,h,Nat.add_mul,Nat.one_mul];omega)
  have e:chunk sz (n+1) cs=cs.take sz::chunk sz n (cs.drop sz):=by
   unfold chunk
   rw[List.range_succ_eq_map,List.map_cons,List.map_map]
   simp only[Nat.zero_mul,List.drop_zero,List.cons.injEq,true_and]
   apply List.map_congr_left
   intro i _
   simp only[Function.comp,List.drop_drop]
   rw[Nat.succ_mul,Nat.add_comm]
  rw[e,List.flatten_cons,ih,List.take_append_drop]
theorem buildSlice_run{N:Nat}{w0:Bs}{ρ:Nat→D}{η:Nat→Option O}{a:Act}(hrel:Rel N B w0 ι ρ η a w){t len:Nat}{parts:Array (Nat×Operand)}{e:TypeId}{sz:Nat}{es:List (List D)}(h:buildSliceD P ρ t len parts=some (e,sz,es)):
  ∃(cells:Array Value) (cs:List D),es=chunk sz len cs∧cs.length=len*sz∧0<sz∧len≤maxLen∧CellsRel (RowCell w B ι) cells cs∧
   (Instr.buildSlice t len (parts.map fun(i,x)=>(i,a.eval x))).run P w= .ok (.slice (some ⟨w.heap.size,0,none⟩) len len) (w.alloc (.cells cells e)):=by
 unfold buildSliceD at h
 split at h
 ·rename_i e' sz0 by0 zs ps hmk hp
  obtain⟨hu,hz,hb0,hb1,hs,_⟩:=mkT_some hmk
  ·split at h
   ·rename_i hb2
    have hb:=And.intro hb0 (And.intro hb1 hb2)
    split at h
    ·rename_i cs hfill
     cases h
     obtain⟨hl,hpr⟩:=partsI_rel hrel parts.toList ps hp
     unfold zeroI at hz
     split at hz
     ·rename_i zs0 hz0
      obtain⟨z,hzr,rfl⟩:=zero_run (w:=w) hz0
      have hzc:=cells_rowCell (zero_cells (w:=w) (B:=B) (ι:=ι) z) hz
      have hzsz:z.cells.size=sz:=by rw[hzc.1];exact hb.2.1
      have hinit:CellsRel (RowCell w B ι) ((Array.range (len*sz)).map (z.cells[·% z.cells.size]!)) (zrep (len*sz) zs):=by
       refine⟨by simp[zrep],fun k c d h1 h2=>?_⟩
       have hk:k<len*sz:=by
        have:=(Array.getElem?_eq_some_iff.1 h1).1
        simpa using this
       have hm:k% sz<sz:=Nat.mod_lt _ hb.1
       unfold zrep at h2
       simp[hk] at h1 h2
       rw[hzsz] at h1
       rw[hb.2.1] at h2
       have e1:z.cells[k% sz]? =some c:=by
        rw[←h1]
        simp[hzsz,hm]
       have e2:zs[k% sz]? =some d:=by
        rw[←h2]
        simp[hb.2.1,hm]
       exact hzc.2 _ c d e1 e2
      obtain⟨cs',hcs',hr⟩:=fill_sound _ ps _ _ cs hinit hl hpr hfill
      have hsz':cs'.size=len*sz:=by
       rw[hr.1]
       have hlen:∀(ps:List (Nat×List D)) (c c':List D),fillD (fun i=>some (i*sz,sz)) c ps=some c'→c'.length=c.length:=by
        intro ps
        induction ps with
        |nil=>intro c c' h;cases h;rfl
        |cons q r ih=>
         intro c c' h
         obtain⟨i,e⟩:=q
         simp only[fillD] at h
         split at h
         ·rename_i hc
          rw[ih _ _ h]
          simp
          omega
         ·cases h
       rw[hlen ps _ cs hfill]
       simp[zrep]
      have hcl:cs.length=len*sz:=by rw[←hr.1];exact hsz'
      refine⟨cs',cs,rfl,hcl,hb.1, ?_,hr, ?_⟩
      ·have:len≤len*sz:=Nat.le_mul_of_pos_right _ hb.1
       unfold maxLen
       omega
      ·have hmap:(parts.map fun(p:Nat×Operand)=>(p.1,a.eval p.2)).toList=parts.toList.map fun p=>(p.1,a.eval p.2):=by simp
       by_cases hzero:len*sz=0
       ·have hempty:(Array.range (len*sz)).map (fun k=>(#[]:Array Value)[k% (#[]:Array Value).size]!)=(Array.range (len*sz)).map (z.cells[·% z.cells.size]!):=by
         rw[hzero,Array.range_zero'];simp
        simp only[Instr.buildSlice,Sem.run_bind,run_underlying hu,Result.andThen_ok,run_sizeOf hs]
        rw[if_neg (by omega),if_pos hzero]
        simp only[Sem.run_pure,Result.andThen_ok,Sem.run_bind]
        rw[hmap,hempty,hcs']
        simp[newRow]
       ·simp only[Instr.buildSlice,Sem.run_bind,run_underlying hu,Result.andThen_ok,run_sizeOf hs]
        rw[if_neg (by omega),if_neg hzero]
        simp only[Sem.run_pure,Result.andThen_ok,Sem.run_bind,hzr]
        rw[hmap,hcs']
        simp[newRow]
     ·cases hz
    ·cases h
   ·cases h
 ·cases h
theorem buildSlice_sound{N:Nat}{w0:Bs}{ρ:Nat→D}{η:Nat→Option O}{a:Act}(hrel:Rel N B w0 ι ρ η a w){t len:Nat}{parts:Array (Nat×Operand)}{s:Nat}{e:TypeId}{sz:Nat}{es:List (List D)}(h:buildSliceD P ρ t len parts=some (e,sz,es)):
  ∃v w',(Instr.buildSlice t len (parts.map fun(i,x)=>(i,a.eval x))).run P w= .ok v w'∧Good B ι s w w' v (.row s) (some (.row e sz (flat es) es)):=by
 obtain⟨cells,cs,rfl,hcl,hsz,hmx,hr,hrun⟩:=buildSlice_run hrel h
 refine⟨_,_,hrun,row_good hrel (cells:=cells) (es:=chunk sz len cs) _ (sz:=sz) (n:=len) (c:=len) hsz (chunk_length _ _ _) ?_ ?_ ?_ (by rw[hr.1];exact hcl) (Nat.le_refl _) hmx ?_⟩
 ·intro x hx
  obtain⟨i,hi⟩:=List.getElem?_of_mem hx
  obtain⟨hlt,rfl⟩:=chunk_get hi
  have:(i+1)*sz≤len*sz:=Nat.mul_le_mul_right _ hlt
  rw[Nat.add_mul,Nat.one_mul] at this
  simp
  omega
 ·intro i x j d u hi hd hu
  obtain⟨hlt,rfl⟩:=chunk_get hi
  have hj:=(List.getElem?_eq_some_iff.1 hd).1
  rw[List.getElem?_take_of_lt (by simp at hj;omega),List.getElem?_drop] at hd
  exact hr.2 _ u d hu hd
 ·intro u hu
  have hu:=List.mem_of_mem_take hu
  obtain⟨k,hk⟩:=List.getElem?_of_mem hu
  rw[Array.getElem?_toList] at hk
  have hkl:=(Array.getElem?_eq_some_iff.1 hk).1
  exact(hr.2 k u _ hk (List.getElem?_eq_getElem (by rw[←hr.1];exact hkl))).2.1
 ·intro x hx d hd
  obtain⟨i,hi⟩:=List.getElem?_of_mem hx
  obtain⟨hlt,rfl⟩:=chunk_get hi
  have hd:=List.mem_of_mem_drop (List.mem_of_mem_take hd)
  obtain⟨k,hk⟩:=List.getElem?_of_mem hd
  have hkl:=(List.getElem?_eq_some_iff.1 hk).1
  exact(hr.2 k _ d (Array.getElem?_eq_getElem (by rw[hr.1];exact hkl)) hk).2.2
theorem buildBox_sound{N:Nat}{w0:Bs}{ρ:Nat→D}{η:Nat→Option O}{a:Act}(hrel:Rel N B w0 ι ρ η a w){t len:Nat}{parts:Array (Nat×Operand)}{s:Nat}(hη:η s=none){e:TypeId}{sz:Nat}{es:List (List D)}(h:buildSliceD P ρ t len parts=some (e,sz,es)):
  ∃v w',(Instr.buildSlice t len (parts.map fun(i,x)=>(i,a.eval x))).run P w= .ok v w'∧Good B ι s w w' v (.bsl s 0 len sz) (some (.box e es.flatten)):=by
 obtain⟨cells,cs,rfl,hcl,hsz,hmx,hr,hrun⟩:=buildSlice_run hrel h
 rw[flatten_chunk sz len cs hcl]
 refine⟨_,_,hrun, ?_⟩
 have hx:=ext_alloc w (.cells cells e)
 have hf:∀b,blk (.pointer (some ⟨w.heap.size,0,none⟩))=some b→w.heap.size≤b:=by intro b hb;simp[blk] at hb;omega
 refine⟨.pointer (some ⟨w.heap.size,0,none⟩),hx,hf,⟨w.heap.size,cells,rfl,.inl hrel.base,heap_alloc_new w _,hr.1,fun j c d hj hd=>?_⟩,.inl (.inr ⟨w.heap.size,len,by simp,rfl,Nat.le_refl _⟩)⟩
 obtain⟨h1,h2,_⟩:=hr.2 j c d hj hd
 exact⟨Rep1.grow (.inl h1) (hrel.none_of hη) hx hf,h2⟩
def makeSliceD(P:Program)(t:TypeId)(l c:D):Option (TypeId×Nat×List (List D)):=
 match l,c with
 | .x (.int _ l),.x (.int _ c)=>match mkT P t with
  |some (e,sz,by_,zs)=>if 0≤l∧l≤c∧(by_:Int)*c≤281474976710656∧c≤1000000000000000000 then some (e,sz,List.replicate l.toNat zs) else none
  |none=>none
 |_,_=>none
theorem makeSlice_sound{N:Nat}{w0:Bs}{ρ:Nat→D}{η:Nat→Option O}{a:Act}(hrel:Rel N B w0 ι ρ η a w){t:TypeId}{s:Nat}{dl dc:D}{vl vc:Value}(hl:Rep w B ι vl dl)(hc:Rep w B ι vc dc){e:TypeId}{sz:Nat}{es:List (List D)}(h:makeSliceD P t dl dc=some (e,sz,es)):
  ∃v w',(Instr.makeSlice t vl vc).run P w= .ok v w'∧Good B ι s w w' v (.row s) (some (.row e sz (flat es) es)):=by
 unfold makeSliceD at h
 split at h
 ·rename_i kl l kc c
  rw[hl.x_inv,hc.x_inv]
  split at h
  ·rename_i e' sz0 by0 zs hmk
   obtain⟨hu,hz,hb0,hb1,_,i,hi,rfl,rfl⟩:=mkT_some hmk
   ·split at h
    ·rename_i hb
     obtain⟨hb2,hb3,hb4,hb5⟩:=hb
     cases h
     unfold zeroI at hz
     split at hz
     ·rename_i zs0 hz0
      have hz0':=hz0
      unfold zeroD at hz0'
      rw[hi] at hz0'
      simp only at hz0'
      split at hz0'
      ·rename_i z hzz
       cases hz0'
       have hzc:=cells_rowCell (zero_cells (w:=w) (B:=B) (ι:=ι) z) hz
       have hzsz:z.cells.size=i.size:=by rw[hzc.1];exact hb1
       have hrun:=run_make (P:=P) w t _ i z hu hi hzz kl kc l c hb2 hb3 hb4 (by omega)
       have hget:∀k u,(madeCells z.cells (c.toNat*i.size))[k]? =some u→z.cells[k% i.size]? =some u:=by
        intro k u hk
        have hk0:=(Array.getElem?_eq_some_iff.1 hk).1
        rw[size_madeCells] at hk0
        unfold madeCells at hk
        simp[hk0] at hk
        rw[hzsz] at hk
        have hm:k% i.size<i.size:=Nat.mod_lt _ hb0
        rw[←hk]
        simp[hzsz,hm]
       refine⟨_,_,hrun,row_good hrel (es:=List.replicate l.toNat zs) _ (sz:=i.size) (n:=l.toNat) (c:=c.toNat) hb0 (by simp) ?_ ?_ ?_ (size_madeCells _ _) (by omega) (by unfold maxLen;omega) ?_⟩
       ·intro x hx
        rw[(List.mem_replicate.1 hx).2]
        exact hb1
       ·intro k x j d u hk hd hu'
        have hx:=List.mem_of_getElem? hk
        rw[(List.mem_replicate.1 hx).2] at hd
        have hj:=(List.getElem?_eq_some_iff.1 hd).1
        have:=hget _ u hu'
        rw[Nat.mul_add_mod_of_lt (by omega)] at this
        exact hzc.2 j u d this hd
       ·intro u hu'
        have hu':=List.mem_of_mem_take hu'
        obtain⟨k,hk⟩:=List.getElem?_of_mem hu'
        rw[Array.getElem?_toList] at hk
        have:=hget k u hk
        have hkl:=(Array.getElem?_eq_some_iff.1 this).1
        exact(hzc.2 _ u _ this (List.getElem?_eq_getElem (by rw[←hzc.1];exact hkl))).2.1
       ·intro x hx d hd
        rw[(List.mem_replicate.1 hx).2] at hd
        obtain⟨k,hk⟩:=List.getElem?_of_mem hd
        have hkl:=(List.getElem?_eq_some_iff.1 hk).1
        exact(hzc.2 k _ d (Array.getElem?_eq_getElem (by rw[hzc.1];exact hkl)) hk).2.2
      ·cases hz0'
     ·cases hz
    ·cases h
  ·cases h
 ·cases h
end
end Go.Abs
namespace Go.Abs
open Go Go.RowKit
section
variable {P:Program}{w:World}{B:Nat}{ι:Inj}{N:Nat}{w0:Bs}{ρ:Nat→D}{η:Nat→Option O}{a:Act}
def srcD(η:Nat→Option O):D→Option (List (List D)×Bool)
 | .emp=>some ([],true)
 | .sl es=>some (es,flat es)
 | .own fl es=>some (es,fl)
 | .row id=>match η id with
  |some (.row _ _ fl es)=>some (es,fl)
  |_=>none
 | .x (.slice _ n _)=>if n=0 then some ([],true) else none
 |_=>none
structure Src(w:World)(B:Nat)(ι:Inj)(sz:Nat)(es:List (List D))(v:Value)(A:Option Addr)(c:Nat)(news:List Value):Prop where
 val:v= .slice A es.length c
 len:news.length=es.length*sz
 nil:A=none→es=[]
 cell:∀ad,A=some ad→∀(j:Nat) (u:Value),news[j]? =some u→w.cell? (ad.add j)=some u
 one:∀u∈news,u.oneCell'=true
 rep:∀(i:Nat) (e:List D) (j:Nat) (d:D) (u:Value),es[i]? =some e→e[j]? =some d→news[i*sz+j]? =some u→RepI w (okB ι) (frB B ι) u d
 ic:∀e∈es,∀d∈e,isCell d=true
theorem src_sl{sz:Nat}{es:List (List D)}{v:Value}{d:D}(h:Rep w B ι v d)(hd:d= .sl es∨∃fl,d= .own fl es)(hsz:0<sz)(hlen:∀e∈es,e.length=sz):∃A c news,Src w B ι sz es v A c news:=by
 rcases slice_cells h hd with⟨rfl,A,c,rfl⟩|⟨A,c,sz',rfl,hb,hlt,hcap,hic,hsz',hcell,hrep⟩
 ·exact⟨A,c,[],rfl,by simp,fun _=>rfl,fun ad _ j u h=>by simp at h,fun u h=>by simp at h,fun i e j d u h=>by simp at h,fun e h=>by simp at h⟩
 ·by_cases hz:es=[]
  ·subst hz
   exact⟨some A,c,[],rfl,by simp,fun _=>rfl,fun ad _ j u h=>by simp at h,fun u h=>by simp at h,fun i e j d u h=>by simp at h,fun e h=>by simp at h⟩
  ·have e0:sz'=sz:=by
    obtain⟨x,hx⟩:=List.exists_mem_of_ne_nil es hz
    rw[←hsz' x hx,hlen x hx]
   subst e0
   have hk:∀k,k<es.length*sz'→∃u,w.cell? (A.add k)=some u∧u.oneCell'=true:=by
    intro k hk
    have h1:k/sz'<es.length:=Nat.div_lt_of_lt_mul (by rw[Nat.mul_comm];exact hk)
    have h2:k% sz'<sz':=Nat.mod_lt _ hsz
    have:=hcell (k/sz') (k% sz') h1 h2
    rwa[Nat.div_add_mod' k sz'] at this
   refine⟨some A,c,(List.range (es.length*sz')).map fun k=>(w.cell? (A.add k)).getD undef,rfl,by simp,(fun e=>nomatch e), ?_, ?_, ?_,hic⟩
   ·rintro ad ⟨⟩ j u hu
    rw[List.getElem?_map] at hu
    simp only[Option.map_eq_some_iff] at hu
    obtain⟨k,hk1,rfl⟩:=hu
    obtain⟨hk2,hk3⟩:=List.getElem?_eq_some_iff.1 hk1
    simp at hk2 hk3
    subst hk3
    obtain⟨u,hu,_⟩:=hk j hk2
    simp[hu]
   ·intro u hu
    rw[List.mem_map] at hu
    obtain⟨k,hk1,rfl⟩:=hu
    obtain⟨u,hu,h1⟩:=hk k (List.mem_range.1 hk1)
    simp[hu,h1]
   ·intro i e j d u he hd hu
    rw[List.getElem?_map] at hu
    simp only[Option.map_eq_some_iff] at hu
    obtain⟨k,hk1,rfl⟩:=hu
    obtain⟨hk2,hk3⟩:=List.getElem?_eq_some_iff.1 hk1
    simp at hk2 hk3
    subst hk3
    obtain⟨u,hu,_⟩:=hk _ hk2
    rw[hu]
    exact hrep i e j d u he hd hu
theorem src_sound(hrel:Rel N B w0 ι ρ η a w){sz:Nat}{es:List (List D)}{fl:Bool}{v:Value}{d:D}(h:Rep w B ι v d)(hd:srcD η d=some (es,fl))(hsz:0<sz)(hlen:∀e∈es,e.length=sz):
  (∃A c news,Src w B ι sz es v A c news)∧(fl=true→∀e∈es,∀d∈e,∃v,d= .x v):=by
 unfold srcD at hd
 split at hd
 ·cases hd
  have h:=(h.one_inv (fun _ e=>by cases e)).resolve_right (fun h=>h.elim)
  cases h
  exact⟨⟨none,0,[],rfl,by simp,fun _=>rfl,fun ad _ j u h=>by simp at h,fun u h=>by simp at h,fun i e j d u h=>by simp at h,fun e h=>by simp at h⟩,fun _ e h=>by simp at h⟩
 ·cases hd
  exact⟨src_sl h (.inl rfl) hsz hlen,fun h=>flat_x h⟩
 ·cases hd
  refine⟨src_sl h (.inr ⟨_,rfl⟩) hsz hlen,fun hfl=>?_⟩
  have h:=(h.one_inv (fun _ e=>by cases e)).resolve_right (fun h=>h.elim)
  cases h with
  |own0=>intro e h;simp at h
  |own _ _ _ _ _ _ _ hf=>exact hf hfl
 ·rename_i id
  split at hd
  ·rename_i ety sz0 fl0 es0 hη
   cases hd
   obtain⟨hι,A,n,c,rfl⟩:=row_inv h
   obtain⟨v,hv,hobj⟩:=hrel.obj id _ hη
   rw[hι] at hv
   cases hv
   have hobj':=hobj
   obtain⟨xs,hsz0,⟨hown,hwr⟩,hlen0,hrep,hone,hic,hfl⟩:=hobj
   refine⟨?_,hfl⟩
   rcases hown.2 with⟨h1,h2⟩|⟨g,cap,cur,hv,hB,hh,hle,hmx,hcs,hxs⟩
   ·cases h1
    have:es=[]:=List.eq_nil_of_length_eq_zero h2
    subst this
    exact⟨none,0,[],rfl,by simp,fun _=>rfl,fun ad _ j u h=>by simp at h,fun u h=>by simp at h,fun i e j d u h=>by simp at h,fun e h=>by simp at h⟩
   ·injection hv with h1 h2 h3
    subst h1 h2 h3
    by_cases hz:es=[]
    ·subst hz
     exact⟨_,_,[],rfl,by simp,fun _=>rfl,fun ad _ j u h=>by simp at h,fun u h=>by simp at h,fun i e j d u h=>by simp at h,fun e h=>by simp at h⟩
    ·have e0:sz0=sz:=by
      obtain⟨x,hx⟩:=List.exists_mem_of_ne_nil es hz
      rw[←hlen0 x hx,hlen x hx]
     subst e0
     refine⟨_,_,xs,rfl,hown.1,(fun e=>nomatch e), ?_,hone,fun i e j d u he hd hu=>hrep i e j d u he hd hu,hic⟩
     rintro ad ⟨⟩ j u hu
     exact hown.cells (g:=g) rfl j u hu
  ·cases hd
 ·rename_i A n c
  split at hd
  ·rename_i h0
   subst h0
   cases hd
   rw[h.x_inv]
   exact⟨⟨A,c,[],rfl,by simp,fun _=>rfl,fun ad _ j u h=>by simp at h,fun u h=>by simp at h,fun i e j d u h=>by simp at h,fun e h=>by simp at h⟩,fun _ e h=>by simp at h⟩
  ·cases hd
 ·cases hd
def bytesOf:List (List D)→Option (List UInt8)
 |[]=>some []
 |[.x (.int .u8 n)]::r=>match bytesOf r with
  |some l=>some (UInt8.ofNat n.toNat::l)
  |none=>none
 |_=>none
theorem bytesOf_sound:∀(es:List (List D)) (l:List UInt8),bytesOf es=some l→∃ns:List Int,es=ns.map (fun n=>[.x (.int .u8 n)])∧l=ns.map (fun n=>UInt8.ofNat n.toNat)
 |[],l,h=>by
  cases h
  exact⟨[],rfl,rfl⟩
 |e::r,l,h=>by
  unfold bytesOf at h
  split at h
  ·cases h;exact⟨[],by simp_all,rfl⟩
  ·rename_i n r' he
   split at h
   ·rename_i l' hl
    cases h
    cases he
    obtain⟨ns,h1,h2⟩:=bytesOf_sound _ _ hl
    exact⟨n::ns,by simp[h1],by simp[h2]⟩
   ·cases h
  ·cases h
theorem push_fold:∀(ns:List Int) (s:ByteArray),ns.foldl (fun r n=>r.push (UInt8.ofNat n.toNat)) s=⟨(s.data.toList++ns.map (fun n=>UInt8.ofNat n.toNat)).toArray⟩
 |[],s=>by simp
 |n::ns,s=>by
  rw[List.foldl_cons,push_fold ns]
  simp[ByteArray.push]
def bytesR(s:ByteArray):List (List D):=s.data.toList.map fun c=>[.x (.int .u8 c.toNat)]
theorem bytes_ext(w:World)(e:TypeId)(s:ByteArray):Ext w (Lib.bytesWorld w e s):=by
 refine⟨?_, ?_, ?_, ?_,fun k hk=>Lib.bytesWorld_at_old w e s k hk⟩
 ·simp[Lib.bytesWorld,World.freeze,World.alloc,World.drew,-World.alloc_eq,-World.drew_eq]
 ·simp[Lib.bytesWorld,World.freeze,World.alloc,World.drew,-World.alloc_eq,-World.drew_eq]
 ·simp[Lib.bytesWorld,World.freeze,World.alloc,World.drew,-World.alloc_eq,-World.drew_eq]
 ·rw[Lib.bytesWorld_size];omega
theorem bytes_good(hrel:Rel N B w0 ι ρ η a w)(e:TypeId)(s:ByteArray){t0:Nat}:Go.Abs.Good B ι t0 w (Lib.bytesWorld w e s) (.slice (some ⟨w.heap.size,0,none⟩) s.size (grownCap w s.size 0 e)) (.own true (bytesR s)) none:=by
 refine⟨bytes_ext w e s,.inl (.inl ?_)⟩
 have hnew:frB B ι w.heap.size:=⟨.inl hrel.base,hrel.fresh _ (.inl hrel.base),fun id v hv hb=>by
  have:=(hrel.blk_lt hv hb).2
  omega⟩
 have hlen:(bytesR s).length=s.size:=by simp[bytesR]
 have hcell:∀i c,s.data.toList[i]? =some c→(Lib.bytesWorld w e s).cell? ((Addr.mk w.heap.size 0 none).add (i*1+0))=some (.int .u8 c.toNat):=by
  intro i c hc
  have hi:i<s.size:=by
   have:=(List.getElem?_eq_some_iff.1 hc).1
   simpa using this
  have ea:(Addr.mk w.heap.size 0 none).add (i*1+0)=⟨w.heap.size,i,none⟩:=by rw[Addr.add_lit];simp
  rw[ea,Lib.bytesWorld_cell w e s i hi,List.getD_eq_getElem?_getD,hc]
  rfl
 have hcap:s.size≤grownCap w s.size 0 e:=grownCap_ge w _ _ _
 rw[←hlen]
 refine .own (sz:=1) hnew (by rw[Lib.bytesWorld_size];simp) (by rw[hlen];exact hcap) ?_ ?_ ?_ ?_ ?_
 ·intro x hx d hd
  obtain⟨c,_,rfl⟩:=List.mem_map.1 hx
  simp at hd;subst hd;rfl
 ·intro x hx
  obtain⟨c,_,rfl⟩:=List.mem_map.1 hx
  rfl
 ·intro i j hi hj
  have hi':i<s.data.toList.length:=by simpa[bytesR] using hi
  have hj0:j=0:=by omega
  subst hj0
  exact⟨_,hcell i _ (List.getElem?_eq_getElem hi'),rfl⟩
 ·intro i x j d u hx hd hu
  simp only[bytesR,List.getElem?_map,Option.map_eq_some_iff] at hx
  obtain⟨c,hc,rfl⟩:=hx
  cases j with
  |succ j=>simp at hd
  |zero=>
   simp at hd
   subst hd
   rw[hcell i c hc] at hu
   cases hu
   exact .x _
 ·intro _ x hx d hd
  obtain⟨c,_,rfl⟩:=List.mem_map.1 hx
  simp at hd
  exact⟨_,hd⟩
def srcC(η:Nat→Option O):D→Option (List (List D))
 | .bsl id off n sz=>match η id with
  |some (.box _ cs)=>if off+n*sz≤cs.length then rowsI (chunk sz n (cs.drop off)) else none
  |_=>none
 |d=>(srcD η d).map (·.1)
theorem rowsI_get0:∀(es es':List (List D)),rowsI es=some es'→es'.length=es.length∧∀(i:Nat) (e':List D),es'[i]? =some e'→∃e,es[i]? =some e∧cellsI e=some e'
 |[],es',h=>by cases h;exact⟨rfl,fun i d' h=>by simp at h⟩
 |d::r,es',h=>by
  unfold rowsI at h
  split at h
  ·rename_i x y hx hy
   cases h
   obtain⟨h1,h2⟩:=rowsI_get0 r y hy
   refine⟨by simp[h1],fun i d' hi=>?_⟩
   cases i with
   |zero=>simp at hi;subst hi;exact⟨d,rfl,hx⟩
   |succ i=>simpa using h2 i d' (by simpa using hi)
  ·cases h
theorem srcC_sound(hrel:Rel N B w0 ι ρ η a w){es:List (List D)}{v:Value}{d:D}(h:Rep w B ι v d)(hd:srcC η d=some es)(hlen1:∀e∈es,e.length=1):∃A c news,Src w B ι 1 es v A c news:=by
 unfold srcC at hd
 split at hd
 ·rename_i id off n sz
  split at hd
  ·rename_i ty cs hη
   split at hd
   ·rename_i hle
    obtain⟨b,c,hι,rfl,hnc⟩:=bsl_inv h
    obtain⟨v,hv,hobj⟩:=hrel.obj id _ hη
    rw[hι] at hv
    cases hv
    obtain⟨b',cur,e,hB,hh,hsz,hcells⟩:=hobj
    injection e with e;injection e with e;injection e with e
    subst e
    obtain⟨hl,hg⟩:=rowsI_get0 _ _ hd
    rw[chunk_length] at hl
    subst hl
    have cell:∀(i:Nat) (e:List D) (j:Nat) (d:D),es[i]? =some e→e[j]? =some d→e.length=sz∧∃u,cur[off+(i*sz+j)]? =some u∧RowCell w B ι u d:=by
     intro i e j d he hd
     obtain⟨e0,he0,hce⟩:=hg i e he
     obtain⟨hlt,rfl⟩:=chunk_get he0
     obtain⟨hl2,hg2⟩:=cellsI_get _ _ hce
     have:(i+1)*sz≤es.length*sz:=Nat.mul_le_mul_right _ hlt
     rw[Nat.add_mul,Nat.one_mul] at this
     have hel:e.length=sz:=by rw[hl2];simp;omega
     obtain⟨d0,hd0,hci⟩:=hg2 j d hd
     have hj:=(List.getElem?_eq_some_iff.1 hd).1
     rw[List.getElem?_take_of_lt (by omega),List.getElem?_drop,List.getElem?_drop] at hd0
     have hlt2:=(List.getElem?_eq_some_iff.1 hd0).1
     have hcur:cur[off+(i*sz+j)]? =some (cur[off+(i*sz+j)]'(by omega)):=Array.getElem?_eq_getElem (by omega)
     exact⟨hel,_,hcur,cellI_sound (hcells _ _ d0 hcur hd0).1 hci⟩
    by_cases hz:es=[]
    ·subst hz
     exact⟨some ⟨b,off,none⟩,c,[],rfl,by simp,(fun e=>nomatch e),fun ad _ j u h=>by simp at h,fun u h=>by simp at h,fun i e j d u h=>by simp at h,fun e h=>by simp at h⟩
    ·have e1:sz=1:=by
      obtain⟨x,hx⟩:=List.exists_mem_of_ne_nil es hz
      obtain⟨i,hi⟩:=List.getElem?_of_mem hx
      have h1:=hlen1 x hx
      have:=(cell i x 0 _ hi (List.getElem?_eq_getElem (by omega))).1
      omega
     subst e1
     have hat:∀i,i<es.length→∃d u,es[i]? =some [d]∧cur[off+i]? =some u∧RowCell w B ι u d:=by
      intro i hi
      have he:es[i]? =some es[i]:=List.getElem?_eq_getElem hi
      have h1:=hlen1 _ (List.getElem_mem hi)
      obtain⟨d,hd⟩:∃d,es[i]=[d]:=by
       match hx:es[i],h1 with
       |[d],_=>exact⟨d,rfl⟩
      rw[hd] at he
      obtain⟨_,u,hu,hr⟩:=cell i [d] 0 d he rfl
      exact⟨d,u,he,by simpa using hu,hr⟩
     refine⟨some ⟨b,off,none⟩,c,(List.range es.length).map fun i=>(cur[off+i]?).getD undef,rfl,by simp,(fun e=>nomatch e), ?_, ?_, ?_, ?_⟩
     ·rintro ad ⟨⟩ j u hu
      rw[List.getElem?_map,Option.map_eq_some_iff] at hu
      obtain⟨k,hk,rfl⟩:=hu
      obtain⟨hk1,hk2⟩:=List.getElem?_eq_some_iff.1 hk
      simp at hk1 hk2
      subst hk2
      obtain⟨d,u,_,hu,_⟩:=hat j hk1
      rw[Addr.add_lit]
      simp[World.cell?,hh,hu]
     ·intro u hu
      rw[List.mem_map] at hu
      obtain⟨k,hk,rfl⟩:=hu
      obtain⟨d,u,_,hu,hr⟩:=hat k (by simpa using hk)
      simpa[hu] using hr.2.1
     ·intro i e j d u he hd hu
      have hi:=(List.getElem?_eq_some_iff.1 he).1
      obtain⟨d0,u0,he0,hu0,hr⟩:=hat i hi
      rw[he] at he0
      cases he0
      cases j with
      |succ j=>simp at hd
      |zero=>
       simp at hd
       subst hd
       simp[hi,hu0] at hu
       subst hu
       exact hr.1
     ·intro e he d hd
      obtain⟨i,hi⟩:=List.getElem?_of_mem he
      obtain⟨j,hj⟩:=List.getElem?_of_mem hd
      obtain⟨_,u,_,hr⟩:=cell i e j d hi hj
      exact hr.2.2
   ·cases hd
  ·cases hd
 ·rw[Option.map_eq_some_iff] at hd
  obtain⟨⟨es',fl⟩,h1,rfl⟩:=hd
  exact(src_sound hrel h h1 (by decide) hlen1).1
def convS(P:Program)(η:Nat→Option O)(s t:TypeId)(x:D):Option D:=
 match P.underlying s,P.underlying t with
 |some (.slice e),some .string=>match P.underlying e with
  |some (.int .u8)=>match srcC η x with
   |some es=>match bytesOf es with
    |some l=>some (.x (.string ⟨l.toArray⟩))
    |none=>none
   |none=>none
  |_=>none
 |some .string,some (.slice e)=>match P.underlying e,x with
  |some (.int .u8),.x (.string str)=>some (.own true (bytesR str))
  |_,_=>none
 |_,_=>convD P s t x
theorem convS_sound(hrel:Rel N B w0 ι ρ η a w){s t:TypeId}{dx d:D}{vx:Value}(h:convS P η s t dx=some d)(hx:Rep w B ι vx dx)(t0:Nat):∃v w',(convert s t vx).run P w= .ok v w'∧Go.Abs.Good B ι t0 w w' v d none:=by
 unfold convS at h
 split at h
 ·rename_i e hs ht
  split at h
  ·rename_i he
   split at h
   ·rename_i es hsrc
    split at h
    ·rename_i l hl
     cases h
     obtain⟨ns,rfl,rfl⟩:=bytesOf_sound _ _ hl
     obtain⟨A,c,news,hS⟩:=srcC_sound hrel hx hsrc (fun e he=>by
      rw[List.mem_map] at he
      obtain⟨n,_,rfl⟩:=he
      rfl)
     have hv:=hS.val
     subst hv
     have hnews:news=ns.map (Value.int .u8):=by
      have hlen:=hS.len
      simp at hlen
      apply List.ext_getElem?
      intro i
      by_cases hi:i<ns.length
      ·obtain⟨u,hu⟩:∃u,news[i]? =some u:=⟨_,List.getElem?_eq_getElem (by omega)⟩
       have:=hS.rep i [.x (.int .u8 ns[i])] 0 (.x (.int .u8 ns[i])) u (by simp[hi]) rfl (by simpa using hu)
       cases this
       rw[hu]
       simp[hi]
      ·rw[List.getElem?_eq_none (by omega),List.getElem?_eq_none (by simp;omega)]
     subst hnews
     refine⟨_,w, ?_,good_same (.inl (.inl (.x _)))⟩
     rw[run_convert_bytes_string w s t e _ _ _ hs he ht]
     cases A with
     |none=>
      have:=hS.nil rfl
      simp at this
      subst this
      simp[Conv.bytesToString]
      rfl
     |some ad=>
      have hlc:=run_loadCells_list (P:=P) w ad (ns.map (Value.int .u8)) (hS.cell ad rfl)
      rw[run_bytesToString w ad _ c ns (by simpa using hlc),push_fold]
      simp
    ·cases h
   ·cases h
  ·cases h
 ·rename_i e hs ht
  split at h
  ·rename_i str he
   cases h
   rw[hx.x_inv]
   exact⟨_,_,Lib.run_convert_string_bytes w s t e str hs ht he,bytes_good hrel e str⟩
  ·cases h
 ·obtain⟨v,h1,h2⟩:=conv_sound h hx
  exact⟨v,w,h1,good_same h2⟩
end
end Go.Abs
namespace Go.Abs
open Go Go.RowKit
abbrev Es:=List (Value×Value)
def allS:Es→Bool
 |[]=>true
 |(.string _,_)::r=>allS r
 |_=>false
def lookM(k:ByteArray):Es→Nat→Option (Nat×Value)
 |[],_=>none
 |(.string s,v)::r,i=>if k=s then some (i,v) else lookM k r (i+1)
 |_::r,i=>lookM k r (i+1)
def putM(k:ByteArray)(v:Value):Es→Es
 |[]=>[(.string k,v)]
 |(.string s,u)::r=>if k=s then(.string s,v)::r else(.string s,u)::putM k v r
 |x::r=>x::putM k v r
def setM(i:Nat)(v:Value)(es:Es):Es:=es.modify i fun e=>(e.1,v)
def pairs(ms:Array MapEntry):Es:=ms.toList.map fun e=>(e.key,e.val)
def valM(k:ByteArray):Es→Option Value
 |[]=>none
 |(.string s,v)::r=>if k=s then some v else valM k r
 |_::r=>valM k r
theorem lookM_val(k:ByteArray):∀(es:Es) (i:Nat),(lookM k es i).map (·.2)=valM k es
 |[],_=>rfl
 |(c,v)::r,i=>by
  cases c<;>simp only[lookM,valM]<;>first
   |exact lookM_val k r (i+1)
   |(split<;>first|rfl|exact lookM_val k r (i+1))
theorem allS_iff:∀es:Es,allS es=true↔∀e∈es,∃s,e.1= .string s
 |[]=>by simp[allS]
 |(c,v)::r=>by
  have ih:=allS_iff r
  cases c<;>simp[allS,ih]
theorem allS_perm{es es':Es}(h:es.Perm es'):allS es=allS es':=by
 rw[Bool.eq_iff_iff,allS_iff,allS_iff]
 exact⟨fun h1 e he=>h1 e (h.mem_iff.2 he),fun h1 e he=>h1 e (h.mem_iff.1 he)⟩
def keysNd(es:Es):Prop:=es.Pairwise fun x y=>x.1≠y.1
theorem keysNd_perm{es es':Es}(h:es.Perm es'):keysNd es↔keysNd es':=h.pairwise_iff (fun{_ _} h=>Ne.symm h)
theorem valM_perm(k:ByteArray){es es':Es}(h:es.Perm es'):keysNd es→valM k es=valM k es':=by
 induction h with
 |nil=>intro _;rfl
 |cons x _ ih=>
  intro hn
  have ih:=ih (List.pairwise_cons.1 hn).2
  obtain⟨c,v⟩:=x
  cases c<;>simp only[valM,ih]
 |swap x y l=>
  intro hn
  have hne:y.1≠x.1:=(List.pairwise_cons.1 hn).1 x (by simp)
  obtain⟨c,v⟩:=x
  obtain⟨c',v'⟩:=y
  cases c<;>cases c'<;>simp only[valM]<;>try rfl
  rename_i s s'
  by_cases h1:k=s
  ·by_cases h2:k=s'
   ·exact absurd (by rw[←h1,←h2]) hne
   ·rw[if_neg h2,if_pos h1,if_pos h1]
  ·by_cases h2:k=s'
   ·rw[if_pos h2,if_neg h1,if_pos h2]
   ·rw[if_neg h2,if_neg h1,if_neg h1,if_neg h2]
 |trans h1 _ ih1 ih2=>
  intro hn
  exact(ih1 hn).trans (ih2 ((keysNd_perm h1).1 hn))
theorem putM_perm(k:ByteArray)(u:Value){es es':Es}(h:es.Perm es'):keysNd es→(putM k u es).Perm (putM k u es'):=by
 induction h with
 |nil=>intro _;exact .refl _
 | @cons x l1 l2 hp ih=>
  intro hn
  have ih:=ih (List.pairwise_cons.1 hn).2
  obtain⟨c,v⟩:=x
  cases c<;>simp only[putM]<;>first
   |exact ih.cons _
   |(split<;>first|exact hp.cons _|exact ih.cons _)
 |swap x y l=>
  intro hn
  have hne:y.1≠x.1:=(List.pairwise_cons.1 hn).1 x (by simp)
  obtain⟨c,v⟩:=x
  obtain⟨c',v'⟩:=y
  cases c<;>cases c'<;>simp only[putM]<;>(repeat' split)<;>first
   |exact List.Perm.swap _ _ _
   |(rename_i h1 h2;exact absurd (by rw[←h1,←h2]) hne)
 |trans h1 _ ih1 ih2=>
  intro hn
  exact(ih1 hn).trans (ih2 ((keysNd_perm h1).1 hn))
theorem pairs_nd{ms:Array MapEntry}{ck:Nat}(h:MapKept.Stamped ms ck):keysNd (pairs ms):=by
 have:=((MapKept.stamped_iff ms ck).1 h).2.2
 unfold keysNd pairs
 rw[List.pairwise_map]
 exact this
theorem MapAt.nd{ms:Array MapEntry}{ck:Nat}{es:Es}(h:MapAt ms ck es):keysNd es:=(keysNd_perm h.1).1 (pairs_nd h.2)
theorem MapAt.val{ms:Array MapEntry}{ck:Nat}{es:Es}(h:MapAt ms ck es)(k:ByteArray):valM k (pairs ms)=valM k es:=valM_perm k h.1 (pairs_nd h.2)
theorem beqB(a b:ByteArray):(a==b)=decide (a=b):=by
 show a.beq b=_
 rw[Bool.eq_iff_iff]
 unfold ByteArray.beq
 cases a;cases b
 simp
theorem find_now(k:ByteArray):∀(l:List MapEntry) (i:Nat),allS (l.map fun e=>(e.key,e.val))=true→
  Instr.findNow .string (.string k) l i=some (lookM k (l.map fun e=>(e.key,e.val)) i)
 |[],i,_=>rfl
 |e::r,i,h=>by
  obtain⟨key,val,born⟩:=e
  cases key with
  |string s=>
   simp only[List.map_cons,allS] at h
   have ih:=find_now k r (i+1) h
   simp only[List.map_cons,lookM,Instr.findNow,Instr.sameNow]
   by_cases hs:k=s
   ·subst hs
    rw[beqB,decide_eq_true rfl,if_pos rfl]
   ·rw[beqB,decide_eq_false hs,if_neg hs]
    exact ih
  |_=>simp[allS] at h
section
variable {P:Program}{w:World}
theorem checkKey_str{b:Bool}{n:Nat}{kt:TypeId}{v:Value}(hk:P.underlying kt=some .string):(Instr.checkKey b (n+1) kt v).run P w= .ok () w:=by
 unfold Instr.checkKey
 simp[run_underlying hk]
theorem findKey_run{kt:TypeId}(hk:P.underlying kt=some .string)(k:ByteArray)(ms:Array MapEntry)(h:allS (pairs ms)=true):(Instr.findKey kt (.string k) ms.toList).run P w= .ok (lookM k (pairs ms) 0) w:=by
 unfold Instr.findKey
 simp[run_underlying hk,find_now k ms.toList 0 h]
 rfl
def lookV(k:ByteArray)(z:Value)(es:Es):Value×Bool:=match valM k es with
 |some v=>(v,true)
 |none=>(z,false)
theorem lookup_run{t kt et:TypeId}{r:Nat}{ms:Array MapEntry}{ck:Nat}(ht:P.underlying t=some (.map kt et))(hk:P.underlying kt=some .string)(hh:w.heap[r]? =some (.map ms ck))(h:allS (pairs ms)=true)
  {z:Value}(hz:(zeroValue et).run P w= .ok z w)(k:ByteArray)(ok:Bool):
  (Instr.lookup t (.map (some r)) (.string k) ok).run P w= .ok (if ok=true then .tuple #[(lookV k z (pairs ms)).1,.bool (lookV k z (pairs ms)).2] else(lookV k z (pairs ms)).1) w:=by
 unfold Instr.lookup lookV
 simp only[Sem.run_bind,run_underlying ht,Result.andThen_ok]
 have e1:(getObj r:Sem Obj).run P w= .ok (.map ms ck) w:=by simp[getObj,Sem.run,hh]
 simp only[e1,Result.andThen_ok,Sem.run_bind,Sem.run_pure]
 have hf:=findKey_run (w:=w) hk k ms h
 rw[show(10000:Nat)=9999+1 from rfl,checkKey_str hk]
 simp only[Result.andThen_ok,hf]
 rw[←lookM_val k (pairs ms) 0]
 cases hl:lookM k (pairs ms) 0 with
 |none=>cases ok<;>simp[hz]
 |some p=>cases ok<;>simp
theorem sameBits_str(n:Nat)(s:ByteArray):Instr.sameBits n (.string s) (.string s)=true:=by
 unfold Instr.sameBits
 simp only[beqB,decide_true]
def putW(w:World)(r:Nat)(o:Obj):World:={w with heap:=w.heap.setIfInBounds r o}
theorem setObj_run{r:Nat}{ms0:Array MapEntry}{ck0:Nat}(hh:w.heap[r]? =some (.map ms0 ck0))(o:Obj):(setObj r o).run P w= .ok () (putW w r o):=by
 simp[setObj,Sem.run,putW,hh]
theorem lookM_some:∀(es:Es) (k:ByteArray) (i j:Nat) (v:Value),allS es=true→lookM k es i=some (j,v)→i≤j∧es[j-i]? =some (.string k,v)
 |[],k,i,j,v,_,h=>by cases h
 |(.string s,u)::r,k,i,j,v,ha,h=>by
  simp only[lookM] at h
  split at h
  ·rename_i e
   subst e
   cases h
   exact⟨Nat.le_refl _,by simp⟩
  ·obtain⟨h1,h2⟩:=lookM_some r k (i+1) j v ha h
   refine⟨by omega, ?_⟩
   have e:j-i=(j-(i+1))+1:=by omega
   rw[e,List.getElem?_cons_succ]
   exact h2
theorem putM_some:∀(es:Es) (k:ByteArray) (i j:Nat) (u v:Value),allS es=true→lookM k es i=some (j,u)→putM k v es=setM (j-i) v es
 |[],k,i,j,u,v,_,h=>by cases h
 |(.string s,u0)::r,k,i,j,u,v,ha,h=>by
  simp only[lookM] at h
  simp only[putM]
  split at h
  ·rename_i e
   subst e
   cases h
   simp[setM]
  ·rename_i e
   rw[if_neg e]
   obtain⟨h1,_⟩:=lookM_some r k (i+1) j u ha h
   have e2:j-i=(j-(i+1))+1:=by omega
   rw[putM_some r k (i+1) j u v ha h,e2]
   simp[setM]
theorem putM_none:∀(es:Es) (k:ByteArray) (i:Nat) (v:Value),allS es=true→lookM k es i=none→putM k v es=es++[(.string k,v)]
 |[],k,i,v,_,h=>rfl
 |(.string s,u0)::r,k,i,v,ha,h=>by
  simp only[lookM] at h
  simp only[putM]
  split at h
  ·cases h
  ·rename_i e
   rw[if_neg e,putM_none r k (i+1) v ha h]
   rfl
theorem pairs_modify(ms:Array MapEntry)(j:Nat)(k:ByteArray)(v:Value){u:Value}(hj:(pairs ms)[j]? =some (.string k,u)):pairs (ms.modify j fun e=>{e with key:= .string k,val:=v})=setM j v (pairs ms):=by
 apply List.ext_getElem?
 intro i
 simp only[pairs,setM,List.getElem?_map,Array.getElem?_toList,Array.getElem?_modify,List.getElem?_modify]
 simp only[pairs,List.getElem?_map,Array.getElem?_toList] at hj
 by_cases e:j=i
 ·subst e
  rw[if_pos rfl]
  cases hm:ms[j]? with
  |none=>rw[hm] at hj;cases hj
  |some x=>
   rw[hm] at hj
   simp only[Option.map_some,Option.some.injEq,Prod.mk.injEq] at hj
   simp[hj.1.symm]
 ·rw[if_neg e]
  cases ms[i]? <;>simp[e]
theorem pairs_push(ms:Array MapEntry)(k v:Value)(b:Nat):pairs (ms.push ⟨k,v,b⟩)=pairs ms++[(k,v)]:=by simp[pairs]
theorem valM_none_mem{es:Es}{k:ByteArray}:allS es=true→valM k es=none→∀v,(Value.string k,v)∉es:=by
 induction es with
 |nil=>intro _ _ v h;cases h
 |cons x r ih=>
  obtain⟨c,u⟩:=x
  intro ha hv v hm
  cases c<;>simp only[allS] at ha<;>first|cases ha|skip
  rename_i s
  simp only[valM] at hv
  split at hv
  ·cases hv
  ·rename_i hne
   rcases List.mem_cons.1 hm with e|hm
   ·cases e;exact hne rfl
   ·exact ih ha hv v hm
theorem update_run{t kt et:TypeId}{r:Nat}{ms:Array MapEntry}{ck:Nat}{es:Es}(ht:P.underlying t=some (.map kt et))(hk:P.underlying kt=some .string)(hh:w.heap[r]? =some (.map ms ck))(h0:allS es=true)(hn:MapAt ms ck es)
  (k:ByteArray)(v:Value):∃ms' ck',(Instr.mapUpdate t (.map (some r)) (.string k) v).run P w= .ok () (putW w r (.map ms' ck'))∧MapAt ms' ck' (putM k v es):=by
 have h:allS (pairs ms)=true:=by rw[←h0];exact allS_perm hn.1
 unfold Instr.mapUpdate
 simp only[Sem.run_bind,run_underlying ht,Result.andThen_ok]
 have e1:(getObj r:Sem Obj).run P w= .ok (.map ms ck) w:=by simp[getObj,Sem.run,hh]
 have hf:=findKey_run (w:=w) hk k ms h
 simp only[e1,Result.andThen_ok]
 have ec:(Instr.checkKey false 10000 kt (.string k)).run P w= .ok () w:=checkKey_str hk
 simp only[Sem.run_bind,ec,Result.andThen_ok,hf]
 have hpp:=putM_perm k v hn.1 (pairs_nd hn.2)
 cases hl:lookM k (pairs ms) 0 with
 |none=>
  have hv:valM k (pairs ms)=none:=by rw[←lookM_val k _ 0,hl];rfl
  refine⟨_,_,setObj_run hh _, ?_,MapKept.stamped_push hn.2 (fun x hx=>?_)⟩
  ·show(pairs _).Perm _
   rw[pairs_push,←putM_none _ _ _ _ h hl]
   exact hpp
  ·intro e
   exact valM_none_mem (es:=pairs ms) h hv x.val (by rw[←e];exact List.mem_map.2 ⟨x,hx,rfl⟩)
 |some p=>
  obtain⟨j,u⟩:=p
  obtain⟨_,hj⟩:=lookM_some _ _ _ _ _ h hl
  rw[Nat.sub_zero] at hj
  have hkx:∀x,ms[j]? =some x→x.key= .string k:=by
   intro x hx
   simp only[pairs,List.getElem?_map,Array.getElem?_toList,hx,Option.map_some,Option.some.injEq,Prod.mk.injEq] at hj
   exact hj.1
  have hkey:((ms[j]?).map (·.key)).getD (.string k)= .string k:=by
   cases hm:ms[j]? with
   |none=>rfl
   |some x=>simp[hkx x hm]
  have hstay:(Instr.keyThatStays (.string k) (.string k)).run P w= .ok (.string k) w:=by
   unfold Instr.keyThatStays
   rw[sameBits_str,if_pos rfl]
   rfl
  simp only[Sem.run_bind,hkey,hstay,Result.andThen_ok]
  refine⟨_,_,setObj_run hh _, ?_,MapKept.stamped_modify hn.2 _ _ (fun _ _=>rfl) (fun e _ he=>(hkx e he).symm)⟩
  show(pairs _).Perm _
  have e:=putM_some _ _ _ _ _ v h hl
  rw[Nat.sub_zero] at e
  rw[pairs_modify ms j k v hj,←e]
  exact hpp
theorem lookup_nil{t kt et:TypeId}(ht:P.underlying t=some (.map kt et))(hk:P.underlying kt=some .string){z:Value}(hz:(zeroValue et).run P w= .ok z w)(k:ByteArray)(ok:Bool):
  (Instr.lookup t (.map none) (.string k) ok).run P w= .ok (if ok=true then .tuple #[(lookV k z []).1,.bool (lookV k z []).2] else(lookV k z []).1) w:=by
 unfold Instr.lookup lookV
 simp only[Sem.run_bind,run_underlying ht,Result.andThen_ok,Sem.run_pure]
 have ec:(Instr.checkKey (#[]:Array MapEntry).isEmpty 10000 kt (.string k)).run P w= .ok () w:=checkKey_str hk
 have hf:=findKey_run (w:=w) hk k #[] rfl
 simp only[Sem.run_bind,ec,Result.andThen_ok,hf,pairs,List.map_nil,lookM]
 cases ok<;>simp[hz,lookM,valM]
def zeroV(P:Program)(t:TypeId):Option Value:=(P.info? t).bind (·.zero)
theorem zeroV_run{t:TypeId}{z:Value}(h:zeroV P t=some z):(zeroValue t).run P w= .ok z w:=by
 unfold zeroV at h
 cases hi:P.info? t with
 |none=>rw[hi] at h;cases h
 |some i=>
  rw[hi] at h
  simp only[Option.bind_some] at h
  simp[zeroValue,typeInfo,hi,h]
def mapES(η:Nat→Option O):D→Option Es
 | .mp id=>match η id with
  |some (.mp es)=>some es
  |_=>none
 | .mpv es=>some es
 | .x (.map none)=>some []
 |_=>none
def lookupD(P:Program)(η:Nat→Option O)(t:TypeId)(x k:D)(ok:Bool):Option D:=match P.underlying t with
 |some (.map kt et)=>match P.underlying kt,k,mapES η x,zeroV P et with
  |some .string,.x (.string s),some es,some z=>if allS es=true then some (if ok=true then .tup [.x (lookV s z es).1,.x (.bool (lookV s z es).2)] else .x (lookV s z es).1) else none
  |_,_,_,_=>none
 |_=>none
variable {B:Nat}{ι:Inj}{N:Nat}{w0:Bs}{ρ:Nat→D}{η:Nat→Option O}{a:Act}
theorem mapES_inv(hrel:Rel N B w0 ι ρ η a w){v:Value}{d:D}(hv:Rep w B ι v d){es:Es}(h:mapES η d=some es):(v= .map none∧es=[])∨∃r ms ck,v= .map (some r)∧w.heap[r]? =some (.map ms ck)∧MapAt ms ck es:=by
 unfold mapES at h
 split at h
 ·rename_i id
  split at h
  ·rename_i es' hη
   cases h
   obtain⟨u,hu,r,ms,ck,rfl,_,hh,he⟩:=hrel.obj id _ hη
   have hr:ι id=some v:=by
    rcases hv.one_inv (fun _ e=>by cases e) with h|h
    ·cases h
    ·exact h.1
   rw[hu] at hr
   cases hr
   exact .inr ⟨r,ms,ck,rfl,hh,he⟩
  ·cases h
 ·cases h
  rcases hv.one_inv (fun _ e=>by cases e) with h|h
  ·cases h with
   |mpv hb hh hm=>exact .inr ⟨_,_,_,rfl,hh,hm⟩
  ·exact h.elim
 ·cases h
  exact .inl ⟨hv.x_inv,rfl⟩
 ·cases h
theorem lookupD_sound(hrel:Rel N B w0 ι ρ η a w){t:TypeId}{x k d:D}{vx vk:Value}{ok:Bool}(hx:Rep w B ι vx x)(hk:Rep w B ι vk k)(h:lookupD P η t x k ok=some d):
  ∃v,(Instr.lookup t vx vk ok).run P w= .ok v w∧Rep w B ι v d:=by
 unfold lookupD at h
 split at h
 ·rename_i kt et ht
  split at h
  ·rename_i s es z hkt hes hz
   split at h
   ·rename_i hall
    cases h
    rw[hk.x_inv]
    have hz':=zeroV_run (w:=w) hz
    have key:∀v:Value×Bool,Rep w B ι (if ok=true then .tuple #[v.1,.bool v.2] else v.1) (if ok=true then .tup [.x v.1,.x (.bool v.2)] else .x v.1):=by
     intro v
     cases ok
     ·exact .inl (.inl (.x _))
     ·refine .inl (.inl (.tup rfl (fun i c d hc hd=>?_)))
      match i,hc,hd with
      |0,hc,hd=>cases hc;cases hd;exact .x _
      |1,hc,hd=>cases hc;cases hd;exact .x _
    rcases mapES_inv hrel hx hes with⟨rfl,rfl⟩|⟨r,ms,ck,rfl,hh,hm⟩
    ·exact⟨_,lookup_nil ht hkt hz' s ok,key _⟩
    ·have h1:allS (pairs ms)=true:=by rw[←hall];exact allS_perm hm.1
     have h2:=lookup_run ht hkt hh h1 hz' s ok
     have e:lookV s z (pairs ms)=lookV s z es:=by unfold lookV;rw[hm.val]
     rw[e] at h2
     exact⟨_,h2,key _⟩
   ·cases h
  ·cases h
 ·cases h
theorem makeMap_run(t:TypeId):(Instr.makeMap t none).run P w= .ok (.map (some w.heap.size)) (w.alloc (.map #[] 0)):=by
 simp[Instr.makeMap,newObj,Sem.run]
theorem map_good(hrel:Rel N B w0 ι ρ η a w){t:Nat}(hη:η t=none):Go.Abs.Good B ι t w (w.alloc (.map #[] 0)) (.map (some w.heap.size)) (.mp t) (some (.mp [])):=by
 have hx:=ext_alloc w (.map #[] 0)
 have hf:∀b,blk (.map (some w.heap.size))=some b→w.heap.size≤b:=by intro b hb;simp[blk] at hb;omega
 exact⟨.map (some w.heap.size),hx,hf,⟨w.heap.size,#[],0,rfl,.inl hrel.base,heap_alloc_new w _,.refl _,MapKept.stamped_empty 0⟩,.inl (.inr ⟨by simp,w.heap.size,rfl⟩)⟩
def rangeD(P:Program)(t:TypeId)(x:D):Option D:=match P.underlying t,x with
 |some (.map _ _),.mpv es=>some (.it es [])
 |_,_=>none
theorem range_good(hrel:Rel N B w0 ι ρ η a w){t:Nat}{ty:TypeId}{x d:D}{vx:Value}(hx:Rep w B ι vx x)(h:rangeD P ty x=some d):
  ∃v w',(Instr.range ty vx).run P w= .ok v w'∧Go.Abs.Good B ι t w w' v d none:=by
 unfold rangeD at h
 split at h
 ·rename_i k e es hu
  cases h
  rcases hx.one_inv (fun _ e=>by cases e) with hx|hx
  ·cases hx with
   | @mpv r ms ck _ hb hh hm=>
    refine⟨_,_,run_range_map w ty k e r ms ck hu hh,ext_alloc w _,.inl (.inl ?_)⟩
    have hnew:frB B ι w.heap.size:=⟨.inl hrel.base,hrel.fresh _ (.inl hrel.base),fun id v hv hb=>by
     have:=(hrel.blk_lt hv hb).2
     omega⟩
    have hlt:=(Array.getElem?_eq_some_iff.1 hh).1
    refine .it hnew hb (heap_alloc_new w _) (by rw[heap_alloc_old w _ hlt];exact hh) hm hm.2.1 (Nat.le_refl _) (Nat.le_refl _) ⟨fun x hx=>by simp,fun e r he=>by cases he⟩
  ·exact hx.elim
 ·cases h
def entryD:D→Option D
 | .it _ (e::_)=>some (.tup [.x e.1,.x e.2])
 |_=>none
theorem entryD_sound{x d:D}{vx:Value}(hx:Rep w B ι vx x)(h:entryD x=some d):∃v,(Instr.entry vx).run P w= .ok v w∧Rep w B ι v d:=by
 unfold entryD at h
 split at h
 ·rename_i es e l
  cases h
  rcases hx.one_inv (fun _ e=>by cases e) with hx|hx
  ·cases hx with
   | @it r b ms ck since c0 seen _ _ hb hb2 hr hh hm ho hs hk hl=>
    obtain⟨rfl,s,x,rfl,hxm,rfl⟩:=hl.2 e l rfl
    refine⟨_,run_entry_at w r b since s ms c0 x hr hh hxm hm.2.2.1,.inl (.inl (.tup rfl (fun i c d hc hd=>by
     match i,hc,hd with
     |0,hc,hd=>cases hc;cases hd;exact .x _
     |1,hc,hd=>cases hc;cases hd;exact .x _)))⟩
  ·exact hx.elim
 ·cases h
end
end Go.Abs
namespace Go.Abs
open Go Go.RowKit
def Globs(G:Nat→Option (List D))(w:World)(ok fr:Nat→Prop):Prop:=∀g cs,G g=some cs→GlobAt w ok fr g cs
def Contract(P:Program)(G:Nat→Option (List D))(f:FuncId)(ds:List D)(r:D):Prop:=
 (∀(args:Array Value) (w:World),(callFunc f args).run P w= .ok (.enter f args) w)∧
 ∀(w:World) (ok:Nat→Prop) (args:Array Value),Globs G w ok (fun _=>False)→CellsRel (RepI w ok (fun _=>False)) args ds→
  Calls P f args w fun e w'=>∃v,e= .returned v∧Ext w w'∧RepI w' (fun b=>ok b∨w.heap.size≤b) (fun b=>w.heap.size≤b) v r
structure Objs(w:World)(B:Nat)(ι:Inj)(hs:List (Nat×O)):Prop where
 obj:∀id o,getH hs id=some o→∃v,ι id=some v∧ObjRel w B ι v o
 dom:∀id v,ι id=some v→∃o,getH hs id=some o
 inj:∀id id' v v' b,ι id=some v→ι id'=some v'→blk v=some b→blk v'=some b→id=id'
 fresh:∀b,wrB B ι b→ι.K b
def ContractE(P:Program)(G:Nat→Option (List D))(f:FuncId)(hs:List (Nat×O))(ds:List D)(r:D)(hs':List (Nat×O)):Prop:=
 (∀(args:Array Value) (w:World),(callFunc f args).run P w= .ok (.enter f args) w)∧
 ∀(w:World) (ι:Inj) (args:Array Value),Objs w w.heap.size ι hs→Globs G w (okB ι) (frB w.heap.size ι)→CellsRel (Rep w w.heap.size ι) args ds→
  Calls P f args w fun e w'=>∃v ι',e= .returned v∧BelowZ w.heap.size ι.Z w w'∧ι'.K=ι.K∧ι'.Z=ι.Z∧Objs w' w.heap.size ι' hs'∧Rep w' w.heap.size ι' v r∧
   ∀id v,ι id=some v→1000≤id→id<10000→ι' id=none∨ι' id=some v
structure CT where
 p:FuncId→List D→Option D
 e:FuncId→List (Nat×O)→List D→Option (D×List (Nat×O))
 g:Nat→Option (List D)
def CTok(P:Program)(call:CT):Prop:=
 (∀f ds r,call.p f ds=some r→Contract P call.g f ds r)∧∀f hs ds r hs',call.e f hs ds=some (r,hs')→ContractE P call.g f hs ds r hs'
section
variable {P:Program}{w:World}{B:Nat}{ι:Inj}
def resA(η:Nat→Option O):D→Option (D×Bool)
 | .row id=>match η id with
  |some (.row _ _ _ es)=>some (.sl es,true)
  |_=>none
 | .bsl id off n sz=>match η id with
  |some (.box _ cs)=>if off+n*sz≤cs.length then
    match rowsI (chunk sz n (cs.drop off)) with
    |some es=>some (.sl es,true)
    |none=>none
   else none
  |_=>none
 | .emp=>some (.sl [],false)
 | .own _ es=>some (.sl es,false)
 | .x v=>some (.x v,false)
 | .sl es=>some (.sl es,false)
 | .any=>some (.any,false)
 | .elt cs=>some (.elt cs,false)
 | .mp id=>match η id with
  |some (.mp es)=>some (.mpv es,true)
  |_=>none
 | .mpv es=>some (.mpv es,false)
 | .fnm f es=>some (.fnm f es,false)
 |_=>none
def resB(η:Nat→Option O):List D→Option (List D)
 |[]=>some []
 |d::r=>match resA η d,resB η r with
  |some (d',_),some r'=>if isCell d'=true then some (d'::r') else none
  |_,_=>none
def res1(η:Nat→Option O):D→Option (D×Bool)
 | .ptr id off=>if off=0 then
   match η id with
   |some (.box _ cs)=>match resB η cs with
    |some cs'=>some (.elt cs',true)
    |none=>none
   |_=>none
  else none
 | .bsl id off n sz=>match resA η (.bsl id off n sz) with
  |some r=>some r
  |none=>match η id with
   |some (.box _ cs)=>match resB η cs with
    |some cs'=>if off+n*sz≤cs'.length then some (.sl (chunk sz n (cs'.drop off)),true) else none
    |none=>none
   |_=>none
 |d=>resA η d
def resC(η:Nat→Option O):List D→Option (List D×Bool)
 |[]=>some ([],false)
 |d::r=>match res1 η d,resC η r with
  |some (d',u),some (r',u')=>some (d'::r',u||u')
  |_,_=>none
def resD(η:Nat→Option O):D→Option (D×Bool)
 | .agg cs=>match resC η cs with
  |some (cs',u)=>some (.agg cs',u)
  |none=>none
 |d=>res1 η d
def resL(η:Nat→Option O):List D→Option (List D×Bool)
 |[]=>some ([],false)
 |d::r=>match resD η d,resL η r with
  |some (d',u),some (r',u')=>some (d'::r',u||u')
  |_,_=>none
def okU(ι:Inj)(u:Bool)(b:Nat):Prop:=u=true∨okB ι b
theorem rep_okU{v:Value}{d:D}{fr:Nat→Prop}(u:Bool)(h:RepI w (okB ι) fr v d):RepI w (okU ι u) fr v d:=
 h.mono (Nat.le_refl _) (fun _ _ ho=>⟨.inr ho,rfl⟩) (fun _ _ ho=>⟨ho,rfl⟩)
theorem okU_or{v:Value}{d:D}{fr:Nat→Prop}{u u':Bool}(h:RepI w (okU ι u) fr v d)(hu:u=true→u'=true):RepI w (okU ι u') fr v d:=
 h.mono (Nat.le_refl _) (fun _ _ ho=>⟨ho.imp hu id,rfl⟩) (fun _ _ ho=>⟨ho,rfl⟩)
theorem rowsI_get:∀(es es':List (List D)),rowsI es=some es'→es'.length=es.length∧∀(i:Nat) (e':List D),es'[i]? =some e'→∃e,es[i]? =some e∧cellsI e=some e'
 |[],es',h=>by cases h;exact⟨rfl,fun i d' h=>by simp at h⟩
 |d::r,es',h=>by
  unfold rowsI at h
  split at h
  ·rename_i x y hx hy
   cases h
   obtain⟨h1,h2⟩:=rowsI_get r y hy
   refine⟨by simp[h1],fun i d' hi=>?_⟩
   cases i with
   |zero=>simp at hi;subst hi;exact⟨d,rfl,hx⟩
   |succ i=>simpa using h2 i d' (by simpa using hi)
  ·cases h
theorem resA_sound{N:Nat}{w0:Bs}{ρ:Nat→D}{η:Nat→Option O}{a:Act}(hrel:Rel N B w0 ι ρ η a w){v:Value}{d d':D}{u:Bool}(h:Rep1 w B ι v d)(hd:resA η d=some (d',u)):
  RepI w (okU ι u) (fun _=>False) v d':=by
 have imm:∀{v:Value} {e:D},RepI w (okB ι) (frB B ι) v e→isCell e=true→RepI w (okU ι u) (fun _=>False) v e:=fun h hc=>rep_okU u ((h.cell _).1 hc)
 unfold resA at hd
 split at hd
 ·rename_i id
  split at hd
  ·rename_i ety sz fl es hη
   cases hd
   obtain⟨hι,A,n,c,rfl⟩:=row_inv (.inl h)
   obtain⟨v,hv,hobj⟩:=hrel.obj id _ hη
   rw[hι] at hv
   cases hv
   have hobj':=hobj
   obtain⟨xs,hsz,⟨hown,hwr⟩,hlen,hrep,hone,hic,hfl⟩:=hobj
   rcases hown.2 with⟨h1,h2⟩|⟨g,cap,cur,hv,hB,hh,hle,hmx,hcs,hxs⟩
   ·cases h1
    have:es=[]:=List.eq_nil_of_length_eq_zero h2
    subst this
    exact .sl0 _ _
   ·injection hv with h1 h2 h3
    subst h1 h2 h3
    have hcells:=(row_cells hobj').2.2.2
    refine .sl (sz:=sz) (.inl rfl) (Array.getElem?_eq_some_iff.1 hh).1 hle hic hlen (fun i j hi hj=>?_) (fun i e j d u he hd hu=>?_)
    ·have he:es[i]? =some es[i]:=List.getElem?_eq_getElem hi
     have hel:=hlen _ (List.getElem_mem hi)
     obtain⟨u,hu,_,h1⟩:=hcells i _ j _ he (List.getElem?_eq_getElem (by omega:j<es[i].length))
     rw[Addr.add_lit,Nat.zero_add]
     rw[hel] at hu
     exact⟨u,hu,h1⟩
    ·obtain⟨u',hu',hr,_⟩:=hcells i e j d he hd
     rw[Addr.add_lit,Nat.zero_add] at hu
     rw[hlen e (List.mem_of_getElem? he),hu] at hu'
     cases hu'
     exact imm hr (hic e (List.mem_of_getElem? he) d (List.mem_of_getElem? hd))
  ·cases hd
 ·rename_i id off n sz
  split at hd
  ·rename_i ty cs hη
   split at hd
   ·rename_i hle
    split at hd
    ·rename_i es hes
     cases hd
     obtain⟨b,c,hι,rfl,hnc⟩:=bsl_inv (.inl h)
     obtain⟨v,hv,hobj⟩:=hrel.obj id _ hη
     rw[hι] at hv
     cases hv
     obtain⟨b',cur,e,hB,hh,hsz,hcells⟩:=hobj
     injection e with e;injection e with e;injection e with e
     subst e
     obtain⟨hl,hg⟩:=rowsI_get _ _ hes
     rw[chunk_length] at hl
     subst hl
     have cell:∀(i:Nat) (e:List D) (j:Nat) (d:D),es[i]? =some e→e[j]? =some d→e.length=sz∧∃u,cur[off+(i*sz+j)]? =some u∧RowCell w B ι u d:=by
      intro i e j d he hd
      obtain⟨e0,he0,hce⟩:=hg i e he
      obtain⟨hlt,rfl⟩:=chunk_get he0
      obtain⟨hl2,hg2⟩:=cellsI_get _ _ hce
      have:(i+1)*sz≤es.length*sz:=Nat.mul_le_mul_right _ hlt
      rw[Nat.add_mul,Nat.one_mul] at this
      have hel:e.length=sz:=by rw[hl2];simp;omega
      obtain⟨d0,hd0,hci⟩:=hg2 j d hd
      have hj:=(List.getElem?_eq_some_iff.1 hd).1
      rw[List.getElem?_take_of_lt (by omega),List.getElem?_drop,List.getElem?_drop] at hd0
      have hlt2:=(List.getElem?_eq_some_iff.1 hd0).1
      have hcur:cur[off+(i*sz+j)]? =some (cur[off+(i*sz+j)]'(by omega)):=Array.getElem?_eq_getElem (by omega)
      exact⟨hel,_,hcur,cellI_sound (hcells _ _ d0 hcur hd0).1 hci⟩
     have len:∀e∈es,e.length=sz:=by
      intro e he
      obtain⟨i,hi⟩:=List.getElem?_of_mem he
      obtain⟨e0,he0,hce⟩:=hg i e hi
      obtain⟨hlt,rfl⟩:=chunk_get he0
      have:=(cellsI_get _ _ hce).1
      have:(i+1)*sz≤es.length*sz:=Nat.mul_le_mul_right _ hlt
      rw[Nat.add_mul,Nat.one_mul] at this
      simp at*
      omega
     refine .sl (sz:=sz) (.inl rfl) (Array.getElem?_eq_some_iff.1 hh).1 hnc (fun e he d hd=>?_) len (fun i j hi hj=>?_) (fun i e j d u he hd hu=>?_)
     ·obtain⟨i,hi⟩:=List.getElem?_of_mem he
      obtain⟨j,hj⟩:=List.getElem?_of_mem hd
      obtain⟨_,u,_,hr⟩:=cell i e j d hi hj
      exact hr.2.2
     ·have he:es[i]? =some es[i]:=List.getElem?_eq_getElem hi
      have hel:=len _ (List.getElem_mem hi)
      obtain⟨_,u,hu,hr⟩:=cell i _ j _ he (List.getElem?_eq_getElem (by omega:j<es[i].length))
      refine⟨u, ?_,hr.2.1⟩
      rw[Addr.add_lit]
      simp[World.cell?,hh,hu]
     ·obtain⟨_,u',hu',hr⟩:=cell i e j d he hd
      rw[Addr.add_lit] at hu
      simp[World.cell?,hh,hu'] at hu
      subst hu
      exact imm hr.1 hr.2.2
    ·cases hd
   ·cases hd
  ·cases hd
 ·cases hd
  have h:=h.resolve_right (fun h=>h.elim)
  cases h
  exact .sl0 _ _
 ·cases hd
  have:=((h.resolve_right (fun h=>h.elim)).cell (fun _=>False)).2.2 _ _ rfl
  exact this.mono (Nat.le_refl _) (fun b _ ho=>⟨.inr (ho.elim id (·.2)),rfl⟩) (fun b _ ho=>⟨ho,rfl⟩)
 ·cases hd;exact imm (h.resolve_right (fun h=>h.elim)) rfl
 ·cases hd;exact imm (h.resolve_right (fun h=>h.elim)) rfl
 ·cases hd;exact .any _
 ·cases hd
  exact rep_okU false (((h.resolve_right (fun h=>h.elim)).cell _).2.1 _ rfl)
 ·rename_i id
  split at hd
  ·rename_i es hη
   cases hd
   rcases h with h|h
   ·cases h
   ·obtain⟨hι,r,rfl⟩:=h
    obtain⟨v,hv,hobj⟩:=hrel.obj id _ hη
    rw[hι] at hv
    cases hv
    obtain⟨r',ms,ck,e,hB,hh,he⟩:=hobj
    injection e with e;injection e with e
    subst e
    exact .mpv (.inl rfl) hh he
  ·cases hd
 ·cases hd;exact imm (h.resolve_right (fun h=>h.elim)) rfl
 ·cases hd
  have h:=h.resolve_right (fun h=>h.elim)
  cases h with
  |fnm hb hb2 hc hh hm=>exact .fnm (.inr hb) (.inr hb2) hc hh hm
 ·cases hd
theorem resB_sound{N:Nat}{w0:Bs}{ρ:Nat→D}{η:Nat→Option O}{a:Act}(hrel:Rel N B w0 ι ρ η a w):∀(ds ds':List D),resB η ds=some ds'→
  ds'.length=ds.length∧(∀d∈ds',isCell d=true)∧∀(i:Nat) (d:D) (d':D) (c:Value),ds[i]? =some d→ds'[i]? =some d'→Rep1 w B ι c d→RepI w (okU ι true) (fun _=>False) c d'
 |[],ds',h=>by cases h;exact⟨rfl,fun d h=>by simp at h,fun i d d' c h=>by simp at h⟩
 |d::r,ds',h=>by
  unfold resB at h
  split at h
  ·rename_i x ux y hx hy
   split at h
   ·rename_i hi
    cases h
    obtain⟨h1,h2,h3⟩:=resB_sound hrel r y hy
    refine⟨by simp[h1],fun d hd=>?_,fun i e e' c hi hi' hc=>?_⟩
    ·rcases List.mem_cons.1 hd with rfl|hd
     ·exact hi
     ·exact h2 d hd
    ·cases i with
     |zero=>simp at hi hi';subst hi hi';exact okU_or (resA_sound hrel hc hx) (fun _=>rfl)
     |succ i=>exact h3 i e e' c (by simpa using hi) (by simpa using hi') hc
   ·cases h
  ·cases h
theorem res1_sound{N:Nat}{w0:Bs}{ρ:Nat→D}{η:Nat→Option O}{a:Act}(hrel:Rel N B w0 ι ρ η a w){v:Value}{d d':D}{u:Bool}(h:Rep1 w B ι v d)(hd:res1 η d=some (d',u)):
  RepI w (okU ι u) (fun _=>False) v d':=by
 unfold res1 at hd
 split at hd
 ·rename_i id off
  split at hd
  ·rename_i h0
   subst h0
   split at hd
   ·rename_i ty cs hη
    split at hd
    ·rename_i cs' hcs
     cases hd
     obtain⟨b,hι,rfl⟩:=Rep.ptr_inv (.inl h)
     obtain⟨v,hv,hobj⟩:=hrel.obj id _ hη
     rw[hι] at hv
     cases hv
     obtain⟨b',cur,e,hB,hh,hsz,hcells⟩:=hobj
     injection e with e;injection e with e;injection e with e
     subst e
     obtain⟨h1,h2,h3⟩:=resB_sound hrel cs cs' hcs
     refine .elt (.inl rfl) (Array.getElem?_eq_some_iff.1 hh).1 h2 (fun j hj=>?_) (fun j d u hd hu=>?_)
     ·have hcur:cur[j]? =some (cur[j]'(by omega)):=Array.getElem?_eq_getElem (by omega)
      refine⟨_,by rw[Addr.add_lit,Nat.zero_add];simp only[World.cell?,hh];exact hcur,(hcells j _ _ hcur (List.getElem?_eq_getElem (by omega))).2⟩
     ·have hjl:=(List.getElem?_eq_some_iff.1 hd).1
      have hcs0:cs[j]? =some (cs[j]'(by omega)):=List.getElem?_eq_getElem (by omega)
      rw[Addr.add_lit,Nat.zero_add] at hu
      simp only[World.cell?,hh] at hu
      exact h3 j _ d u hcs0 hd (hcells j u _ hu hcs0).1
    ·cases hd
   ·cases hd
  ·cases hd
 ·rename_i id off n sz
  split at hd
  ·rename_i r hr
   cases hd
   exact resA_sound hrel h hr
  split at hd
  ·rename_i ty cs hη
   split at hd
   ·rename_i cs' hcs
    split at hd
    ·rename_i hle
     cases hd
     obtain⟨b,c,hι,rfl,hnc⟩:=bsl_inv (.inl h)
     obtain⟨v,hv,hobj⟩:=hrel.obj id _ hη
     rw[hι] at hv
     cases hv
     obtain⟨b',cur,e,hB,hh,hsz,hcells⟩:=hobj
     injection e with e;injection e with e;injection e with e
     subst e
     obtain⟨h1,h2,h3⟩:=resB_sound hrel cs cs' hcs
     have len:∀e∈chunk sz n (cs'.drop off),e.length=sz:=by
      intro e he
      obtain⟨i,hi⟩:=List.getElem?_of_mem he
      obtain⟨hlt,rfl⟩:=chunk_get hi
      have:(i+1)*sz≤n*sz:=Nat.mul_le_mul_right _ hlt
      rw[Nat.add_mul,Nat.one_mul] at this
      simp
      omega
     have get:∀(i:Nat) (e:List D) (j:Nat) (d:D),(chunk sz n (cs'.drop off))[i]? =some e→e[j]? =some d→
       ∃u,cur[off+(i*sz+j)]? =some u∧u.oneCell'=true∧RepI w (okU ι true) (fun _=>False) u d:=by
      intro i e j d he hd
      have hel:=len e (List.mem_of_getElem? he)
      obtain⟨hlt,rfl⟩:=chunk_get he
      have:(i+1)*sz≤n*sz:=Nat.mul_le_mul_right _ hlt
      rw[Nat.add_mul,Nat.one_mul] at this
      have hj:=(List.getElem?_eq_some_iff.1 hd).1
      rw[List.getElem?_take_of_lt (by omega),List.getElem?_drop,List.getElem?_drop] at hd
      have hlt2:=(List.getElem?_eq_some_iff.1 hd).1
      have hcs0:cs[off+(i*sz+j)]? =some (cs[off+(i*sz+j)]'(by omega)):=List.getElem?_eq_getElem (by omega)
      have hcur:cur[off+(i*sz+j)]? =some (cur[off+(i*sz+j)]'(by omega)):=Array.getElem?_eq_getElem (by omega)
      exact⟨_,hcur,(hcells _ _ _ hcur hcs0).2,h3 _ _ d _ hcs0 hd (hcells _ _ _ hcur hcs0).1⟩
     obtain⟨es,hes⟩:∃es,es=chunk sz n (cs'.drop off):=⟨_,rfl⟩
     have hlen:n=es.length:=by rw[hes];exact(chunk_length _ _ _).symm
     have hmem:∀e∈es,∀d∈e,isCell d=true:=by
      intro e he d hd
      rw[hes] at he
      obtain⟨i,hi⟩:=List.getElem?_of_mem he
      obtain⟨_,rfl⟩:=chunk_get hi
      exact h2 d (List.mem_of_mem_drop (List.mem_of_mem_drop (List.mem_of_mem_take hd)))
     rw[←hes] at len get⊢
     clear hes
     subst hlen
     refine .sl (sz:=sz) (.inl rfl) (Array.getElem?_eq_some_iff.1 hh).1 hnc hmem len (fun i j hi hj=>?_) (fun i e j d u he hd hu=>?_)
     ·have he:es[i]? =some es[i]:=List.getElem?_eq_getElem hi
      have hel:=len _ (List.mem_of_getElem? he)
      obtain⟨u,hu,h1,_⟩:=get i _ j _ he (List.getElem?_eq_getElem (by omega))
      refine⟨u, ?_,h1⟩
      rw[Addr.add_lit]
      simp[World.cell?,hh,hu]
     ·obtain⟨u',hu',_,hr⟩:=get i e j d he hd
      rw[Addr.add_lit] at hu
      simp[World.cell?,hh,hu'] at hu
      subst hu
      exact hr
    ·cases hd
   ·cases hd
  ·cases hd
 ·exact resA_sound hrel h hd
theorem resC_sound{N:Nat}{w0:Bs}{ρ:Nat→D}{η:Nat→Option O}{a:Act}(hrel:Rel N B w0 ι ρ η a w):∀(ds ds':List D) (u:Bool),resC η ds=some (ds',u)→
  ds'.length=ds.length∧∀(i:Nat) (d:D) (d':D) (c:Value),ds[i]? =some d→ds'[i]? =some d'→Rep1 w B ι c d→RepI w (okU ι u) (fun _=>False) c d'
 |[],ds',u,h=>by cases h;exact⟨rfl,fun i d d' c h=>by simp at h⟩
 |d::r,ds',u,h=>by
  unfold resC at h
  split at h
  ·rename_i x ux y uy hx hy
   cases h
   obtain⟨h1,h2⟩:=resC_sound hrel r y uy hy
   refine⟨by simp[h1],fun i e e' c hi hi' hc=>?_⟩
   cases i with
   |zero=>simp at hi hi';subst hi hi';exact okU_or (res1_sound hrel hc hx) (fun h=>by simp[h])
   |succ i=>exact okU_or (h2 i e e' c (by simpa using hi) (by simpa using hi') hc) (fun h=>by simp[h])
  ·cases h
theorem resD_sound{N:Nat}{w0:Bs}{ρ:Nat→D}{η:Nat→Option O}{a:Act}(hrel:Rel N B w0 ι ρ η a w){v:Value}{d d':D}{u:Bool}(h:Rep w B ι v d)(hd:resD η d=some (d',u)):
  RepI w (okU ι u) (fun _=>False) v d':=by
 by_cases ha:∃cs,d= .agg cs
 ·obtain⟨cs,rfl⟩:=ha
  unfold resD at hd
  simp only at hd
  split at hd
  ·rename_i cs' u' hc
   cases hd
   obtain⟨vs,rfl,hl,hcs⟩:=h.agg_inv
   obtain⟨h1,h2⟩:=resC_sound hrel cs cs' u hc
   refine .agg (by omega) (fun i c e hi he=>?_)
   have hlt:=(List.getElem?_eq_some_iff.1 he).1
   have hcs':cs[i]? =some (cs[i]'(by omega)):=List.getElem?_eq_getElem (by omega)
   exact h2 i _ e c hcs' he (hcs i c _ hi hcs')
  ·cases hd
 ·have e1:resD η d=res1 η d:=by cases d<;>first|rfl|exact absurd ⟨_,rfl⟩ ha
  rw[e1] at hd
  exact res1_sound hrel (h.one_inv (fun ds e=>ha ⟨ds,e⟩) (by rintro ds rfl;simp[res1,resA] at hd)) hd
theorem resL_sound{N:Nat}{w0:Bs}{ρ:Nat→D}{η:Nat→Option O}{a:Act}(hrel:Rel N B w0 ι ρ η a w):∀(ds ds':List D) (u:Bool),resL η ds=some (ds',u)→
  ds'.length=ds.length∧∀(i:Nat) (d:D) (d':D) (c:Value),ds[i]? =some d→ds'[i]? =some d'→Rep w B ι c d→RepI w (okU ι u) (fun _=>False) c d'
 |[],ds',u,h=>by cases h;exact⟨rfl,fun i d d' c h=>by simp at h⟩
 |d::r,ds',u,h=>by
  unfold resL at h
  split at h
  ·rename_i x ux y uy hx hy
   cases h
   obtain⟨h1,h2⟩:=resL_sound hrel r y uy hy
   refine⟨by simp[h1],fun i e e' c hi hi' hc=>?_⟩
   cases i with
   |zero=>simp at hi hi';subst hi hi';exact okU_or (resD_sound hrel hc hx) (fun h=>by simp[h])
   |succ i=>exact okU_or (h2 i e e' c (by simpa using hi) (by simpa using hi') hc) (fun h=>by simp[h])
  ·cases h
def mf1:D→Bool
 | .x _=>true
 | .own fl _=>fl
 | .any=>true
 |_=>false
def mf2:D→Bool
 | .agg cs=>cs.all mf1
 |d=>mf1 d
def memfree:D→Bool
 | .tup ds=>ds.all mf2
 |d=>mf2 d
theorem RepI.mf1{ok fr ok' fr':Nat→Prop}{v:Value}{d:D}(h:RepI w ok fr v d)(hm:Abs.mf1 d=true)(hfr:∀b,fr b→fr' b):RepI w ok' fr' v d:=by
 cases h with
 |any=>exact .any _
 |x=>exact .x _
 |own0=>exact .own0 _ _ _
 |own hb hlt hcap hic hsz hcell hrep hfl=>
  refine .own (hfr _ hb) hlt hcap hic hsz hcell (fun i e j d u he hd hu=>?_) hfl
  obtain⟨v,rfl⟩:=hfl hm e (List.mem_of_getElem? he) d (List.mem_of_getElem? hd)
  have:=hrep i e j _ u he hd hu
  cases this
  exact .x _
 |_=>cases hm
theorem RepI.mf2{ok fr ok' fr':Nat→Prop}{v:Value}{d:D}(h:RepI w ok fr v d)(hm:Abs.mf2 d=true)(hfr:∀b,fr b→fr' b):RepI w ok' fr' v d:=by
 by_cases ha:∃cs,d= .agg cs
 ·obtain⟨cs,rfl⟩:=ha
  cases h with
  |agg hl hc=>exact .agg hl (fun i c e hi he=>(hc i c e hi he).mf1 (List.all_eq_true.1 hm e (List.mem_of_getElem? he)) hfr)
 ·exact h.mf1 (by cases d<;>first|exact hm|exact absurd ⟨_,rfl⟩ ha) hfr
theorem RepI.mf{ok fr ok' fr':Nat→Prop}{v:Value}{d:D}(h:RepI w ok fr v d)(hm:memfree d=true)(hfr:∀b,fr b→fr' b):RepI w ok' fr' v d:=by
 by_cases ha:∃ds,d= .tup ds
 ·obtain⟨cs,rfl⟩:=ha
  cases h with
  |tup hl hc=>exact .tup hl (fun i c e hi he=>(hc i c e hi he).mf2 (List.all_eq_true.1 hm e (List.mem_of_getElem? he)) hfr)
 ·exact h.mf2 (by cases d<;>first|exact hm|exact absurd ⟨_,rfl⟩ ha) hfr
def callD(call:CT)(ρ:Nat→D)(η:Nat→Option O)(P:Program)(c:Go.Call):Option D:=
 match c.callee with
 | .value f=>match ev ρ f with
  | .x (
     .func (.func g) first cap)=>if first.size=0∧cap.size=0 then
    match resL η (c.args.toList.map (ev ρ)) with
    |some (ds,u)=>match call.p g ds with
     |some r=>if u=true∧memfree r=false then none else some r
     |none=>none
    |none=>none
   else none
  |_=>none
 | .builtin b=>match b,c.args.toList.map (ev ρ) with
  | .len,[x]=>match c.argTypes[0]? with
   |some t=>lenOp P η t x
   |none=>none
  | .min,x::r=>foldD min2D x r
  | .max,x::r=>foldD max2D x r
  |_,_=>none
 |_=>none
def nilS:D→D
 | .emp=> .sl []
 |d=>d
theorem nilS_rep{v:Value}{d:D}(h:Rep w B ι v d):Rep w B ι v (nilS d):=by
 unfold nilS
 split
 ·have h:=(h.one_inv (fun _ e=>by cases e)).resolve_right (fun h=>h.elim)
  cases h
  exact .inl (.inl (.sl0 _ _))
 ·exact h
def evG(call:CT)(ρ:Nat→D)(x:Operand):D:=match x with
 | .global g=>match call.g g with
  |some cs=> .elt cs
  |none=>ev ρ x
 |_=>ev ρ x
def capD(ρ:Nat→D):List Operand→Option (List Nat)
 |[]=>some []
 |x::r=>match ev ρ x,capD ρ r with
  | .ptr id off,some ids=>if off=0 then some (id::ids) else none
  |_,_=>none
def makeFuncD(ρ:Nat→D)(fn:Fn)(first captured:Array Operand):Option D:=match fn with
 | .func f=>if first.size=0 then
   match capD ρ captured.toList with
   |some ids=>some (.clo f ids)
   |none=>none
  else none
 |_=>none
def noneOf(d:Option D):Option (D×Option O):=match d with
 |some d=>some (d,none)
 |none=>none
def nilVal:Value→Bool
 | .slice none _ _=>true
 |_=>false
def nilOp:Operand→Bool
 | .const v=>nilVal v
 | .tmp _=>false
 | .global _=>false
 | .func _=>false
def nilPart:List (Nat×Operand)→Bool
 |[]=>false
 |(_,x)::r=>nilOp x&&r.isEmpty
def aop(P:Program)(call:CT)(ρ:Nat→D)(η:Nat→Option O)(t:Nat)(op:Op):Option (D×Option O):=
 match op with
 | .move x=>some (ev ρ x,none)
 | .assign x=>match ev ρ x with
  | .row _=>none
  |d=>some (d,none)
 | .pick c a b=>match ev ρ c with
  | .x (.bool p)=>some (if p=true then ev ρ a else ev ρ b,none)
  |_=>none
 | .alloc e=>match zeroD P e with
  |some cs=>if cs.all one=true then some (.ptr t 0,some (.box e cs)) else none
  |none=>none
 | .box e x=>if shapeOk (ev ρ x)=true∧(cellsD (ev ρ x)).all one=true then some (.ptr t 0,some (.box e (cellsD (ev ρ x)))) else none
 | .build ty parts=>noneOf (buildD P ρ ty parts)
 | .buildSlice ty len parts=>match buildSliceD P ρ ty len parts with
  |some (e,sz,es)=>if nilPart parts.toList=true then some (.bsl t 0 len sz,some (.box e es.flatten)) else some (.row t,some (.row e sz (flat es) es))
  |none=>none
 | .load ty x=>noneOf (loadD P η ty (evG call ρ x))
 | .nilCheck x=>match ev ρ x with
  | .ptr i off=>some (.ptr i off,none)
  | .elt cs=>some (.elt cs,none)
  | .rel i sz k off=>some (.rel i sz k off,none)
  | .clo f ids=>some (.clo f ids,none)
  | .x (.func (.func f) first cap)=>some (.x (.func (.func f) first cap),none)
  |_=>none
 | .makeFunc fn first captured=>noneOf (makeFuncD ρ fn first captured)
 | .binOp o ty x y _=>noneOf (binD P o ty (ev ρ x) (ev ρ y))
 | .unOp o _ x=>noneOf (unD o (ev ρ x))
 | .convert s d x=>noneOf (convS P η s d (ev ρ x))
 | .slice ty x lo hi mx=>match mx with
  |none=>noneOf (sliceD P ty (nilS (ev ρ x)) (lo.map (ev ρ)) (hi.map (ev ρ)))
  |some m=>noneOf (slice3D P ty (ev ρ x) (lo.map (ev ρ)) (hi.map (ev ρ)) (ev ρ m))
 | .fieldAddr s x f=>noneOf (fieldAddrD P s f (evG call ρ x))
 | .field s x f=>noneOf (fieldD P s f (ev ρ x))
 | .indexAddr ty x i=>noneOf (indexAddrD P η ty (evG call ρ x) (ev ρ i))
 | .index ty x i=>noneOf (indexD P ty (ev ρ x) (ev ρ i))
 | .extract x i=>match ev ρ x with
  | .tup ds=>noneOf ds[i]?
  |_=>none
 | .makeSlice ty l c=>match makeSliceD P ty (ev ρ l) (ev ρ c) with
  |some (e,sz,es)=>some (.row t,some (.row e sz (flat es) es))
  |none=>none
 | .makeMap _ r=>match r with
  |none=>some (.mp t,some (.mp []))
  |some _=>none
 | .lookup ty x k ok=>noneOf (lookupD P η ty (ev ρ x) (ev ρ k) ok)
 | .range ty x=>noneOf (rangeD P ty (ev ρ x))
 | .entry x=>noneOf (entryD (ev ρ x))
 | .call c=>noneOf (callD call ρ η P c)
 |_=>none
def Outcome(P:Program)(B:Nat)(ι:Inj)(t:Nat)(w:World)(d:D)(oo:Option O)(r:Result Next):Prop:=
 (∃v w',r= .ok (.value v) w'∧Good B ι t w w' v d oo)∨
 ∃f args,r= .ok (.enter f args) w∧Calls P f args w fun e w'=>∃v,e= .returned v∧Good B ι t w w' v d oo
theorem out_value{t:Nat}{d:D}{s:Sem Value}(h:∃v,s.run P w= .ok v w∧Rep w B ι v d):
  Outcome P B ι t w d none ((do pure (Next.value (←s)):Sem Next).run P w):=by
 obtain⟨v,hv,hr⟩:=h
 exact .inl ⟨v,w,by simp[hv],good_same hr⟩
theorem out_new{t:Nat}{d:D}{oo:Option O}{s:Sem Value}(h:∃v w',s.run P w= .ok v w'∧Good B ι t w w' v d oo):
  Outcome P B ι t w d oo ((do pure (Next.value (←s)):Sem Next).run P w):=by
 obtain⟨v,w',hv,hr⟩:=h
 exact .inl ⟨v,w',by simp[hv],hr⟩
theorem noneOf_some{x:Option D}{d:D}{oo:Option O}(h:noneOf x=some (d,oo)):x=some d∧oo=none:=by
 unfold noneOf at h
 split at h
 ·cases h;exact⟨rfl,rfl⟩
 ·cases h
theorem bnd_rel{N:Nat}{w0:Bs}{ρ:Nat→D}{η:Nat→Option O}{a:Act}(hrel:Rel N B w0 ι ρ η a w)(x:Option Operand):BndRel w B ι (x.map a.eval) (x.map (ev ρ)):=by
 cases x with
 |none=>trivial
 |some x=>exact hrel.ev x
theorem args_rel{N:Nat}{w0:Bs}{ρ:Nat→D}{η:Nat→Option O}{a:Act}(hrel:Rel N B w0 ι ρ η a w)(xs:Array Operand)(i:Nat)(e:D)(u:Value)(he:(xs.toList.map (ev ρ))[i]? =some e)(hu:(xs.map a.eval)[i]? =some u):Rep w B ι u e:=by
 rw[List.getElem?_map] at he
 rw[Array.getElem?_map] at hu
 simp only[Option.map_eq_some_iff] at he hu
 obtain⟨x,hx,rfl⟩:=he
 obtain⟨y,hy,rfl⟩:=hu
 rw[Array.getElem?_toList,hy] at hx
 cases hx
 exact hrel.ev _
theorem args_cons{ρ:Nat→D}{a:Act}(xs:Array Operand){x:D}{r:List D}(hx:xs.toList.map (ev ρ)=x::r):∃v0 vs,(xs.map a.eval).toList=v0::vs∧r.length=vs.length:=by
 have hl:(xs.map a.eval).toList.length=(xs.toList.map (ev ρ)).length:=by simp
 cases hc:(xs.map a.eval).toList with
 |nil=>rw[hc,hx] at hl;simp at hl
 |cons v0 vs=>rw[hc,hx] at hl;simp at hl;exact⟨v0,vs,rfl,hl.symm⟩
theorem call_sound{N:Nat}{w0:Bs}{ρ:Nat→D}{η:Nat→Option O}{a:Act}(hrel:Rel N B w0 ι ρ η a w){call:CT}(hcall:CTok P call)(hG:w0.G=call.g){t:Nat}{c:Go.Call}{d:D}{ty:TypeId}
  (h:callD call ρ η P c=some d):Outcome P B ι t w d none ((do let x ←resolve a.eval c ty;invoke x.target x.args:Sem Next).run P w):=by
 unfold callD at h
 split at h
 ·rename_i f hf
  split at h
  ·rename_i g first cap hg
   split at h
   ·rename_i h0
    split at h
    ·rename_i ds u hres
     split at h
     ·rename_i r hr
      split at h
      ·cases h
      ·rename_i hu
       cases h
       have he:a.eval f= .func (.func g) first cap:=by
        have:=hrel.ev f
        rw[hg] at this
        exact this.x_inv
       have e1:first= #[]:=Array.eq_empty_of_size_eq_zero h0.1
       have e2:cap= #[]:=Array.eq_empty_of_size_eq_zero h0.2
       subst e1 e2
       obtain⟨c1,c2⟩:=hcall.1 g ds d hr
       refine .inr ⟨g,c.args.map a.eval, ?_, ?_⟩
       ·simp[resolve,hf,he,Deferred.ofValue,invoke,c1]
       ·obtain⟨hl,hrs⟩:=resL_sound hrel _ _ _ hres
        have hcells:CellsRel (RepI w (okU ι u) (fun _=>False)) (c.args.map a.eval) ds:=by
         refine⟨by rw[hl];simp,fun i v e hi he=>?_⟩
         have hlt:=(List.getElem?_eq_some_iff.1 he).1
         have hds:(c.args.toList.map (ev ρ))[i]? =some _:=List.getElem?_eq_getElem (by omega)
         exact hrs i _ e v hds he (args_rel hrel c.args i _ v hds hi)
        refine(c2 w (okU ι u) _ (fun g cs hg=>(hrel.glob g cs (by rw[hG];exact hg)).to (rep_okU u (((hrel.glob g cs (by rw[hG];exact hg)).rep.cell _).2.1 _ rfl)) rfl) hcells).mono fun e w' ⟨v,hv,hx,hrep⟩=>⟨v,hv,hx, ?_⟩
        have fresh:∀b,w.heap.size≤b→frB B ι b:=fun b hb=>⟨.inl (Nat.le_trans hrel.base hb),hrel.fresh b (.inl (Nat.le_trans hrel.base hb)),fun id vv hvv hbb=>by
         have:=(hrel.blk_lt hvv hbb).2
         omega⟩
        by_cases huu:u=true
        ·have hm:memfree d=true:=by
          cases hmm:memfree d with
          |true=>rfl
          |false=>exact absurd ⟨huu,hmm⟩ hu
         exact .inl (.inl (hrep.mf hm fresh))
        ·exact .inl (.inl (hrep.mono (Nat.le_refl _) (fun b _ ho=>⟨by
          rcases ho with(ho|ho)|ho
          ·exact absurd ho huu
          ·exact ho
          ·exact(fresh b ho).2,rfl⟩) (fun b _ ho=>⟨fresh b ho,rfl⟩)))
     ·cases h
    ·cases h
   ·cases h
  ·cases h
 ·rename_i b hb
  have hrun:∀bb,b=bb→(do let x ←resolve a.eval c ty;invoke x.target x.args:Sem Next).run P w=(builtin bb c.argTypes ty (c.args.map fun| .const _=>true|_=>false) (c.args.map a.eval)).run P w:=by
   rintro bb rfl
   simp[resolve,hb,invoke]
   rfl
  have hargs:=fun i e u=>args_rel hrel c.args i e u
  split at h
  ·rename_i x hx
   split at h
   ·rename_i t' ht
    rw[hrun _ rfl]
    obtain⟨v0,hv0⟩:∃v0,c.args.map a.eval= #[v0]:=by
     obtain⟨v0,vs,hv0,hl⟩:=args_cons (a:=a) c.args hx
     have:vs=[]:=List.eq_nil_of_length_eq_zero (by rw[←hl];rfl)
     subst this
     exact⟨v0,Array.ext' (by rw[hv0])⟩
    have hr0:=hargs 0 x v0 (by rw[hx];rfl) (by rw[hv0];rfl)
    rw[hv0]
    exact out_value (len_sound hrel hr0 h c.argTypes ht ty)
   ·cases h
  ·rename_i x r hx
   rw[hrun _ rfl]
   obtain⟨v0,vs,hv0,hl⟩:=args_cons (a:=a) c.args hx
   have:=fold_sound (P:=P) (w:=w) (B:=B) (ι:=ι) min2_sound r vs x v0 d hl (fun i e u h1 h2=>hargs (i+1) e u (by rw[hx];exact h1) (by rw[←Array.getElem?_toList,hv0];exact h2)) (hargs 0 x v0 (by rw[hx];rfl) (by rw[←Array.getElem?_toList,hv0];rfl)) h
   refine out_value ?_
   obtain⟨u,hu,hr⟩:=this
   exact⟨u,by simp only[Builtin.min_,hv0];exact hu,hr⟩
  ·rename_i x r hx
   rw[hrun _ rfl]
   obtain⟨v0,vs,hv0,hl⟩:=args_cons (a:=a) c.args hx
   have:=fold_sound (P:=P) (w:=w) (B:=B) (ι:=ι) max2_sound r vs x v0 d hl (fun i e u h1 h2=>hargs (i+1) e u (by rw[hx];exact h1) (by rw[←Array.getElem?_toList,hv0];exact h2)) (hargs 0 x v0 (by rw[hx];rfl) (by rw[←Array.getElem?_toList,hv0];rfl)) h
   refine out_value ?_
   obtain⟨u,hu,hr⟩:=this
   exact⟨u,by simp only[Builtin.max_,hv0];exact hu,hr⟩
  ·cases h
 ·cases h
theorem evG_rep{N:Nat}{w0:Bs}{ρ:Nat→D}{η:Nat→Option O}{a:Act}(hrel:Rel N B w0 ι ρ η a w){call:CT}(hG:w0.G=call.g)(x:Operand):Rep w B ι (a.eval x) (evG call ρ x):=by
 unfold evG
 split
 ·rename_i g
  split
  ·rename_i cs hg
   exact .inl (.inl (hrel.glob g cs (by rw[hG];exact hg)).rep)
  ·exact hrel.ev _
 ·exact hrel.ev x
theorem capD_rel{N:Nat}{w0:Bs}{ρ:Nat→D}{η:Nat→Option O}{a:Act}(hrel:Rel N B w0 ι ρ η a w):∀(xs:List Operand) (ids:List Nat),capD ρ xs=some ids→
  (xs.map a.eval).length=ids.length∧∀(i:Nat) (c:Value) (id:Nat),(xs.map a.eval)[i]? =some c→ids[i]? =some id→ι id=some c∧∃b,c= .pointer (some ⟨b,0,none⟩)
 |[],ids,h=>by cases h;exact⟨rfl,fun i c id h=>by simp at h⟩
 |x::r,ids,h=>by
  unfold capD at h
  split at h
  ·rename_i id off ids' hx hr
   split at h
   ·rename_i h0
    subst h0
    cases h
    obtain⟨h1,h2⟩:=capD_rel hrel r ids' hr
    refine⟨by simpa using h1,fun i c k hc hk=>?_⟩
    cases i with
    |zero=>
     simp at hc hk
     subst hc hk
     have:=hrel.ev x
     rw[hx] at this
     obtain⟨b,hb,hv⟩:=this.ptr_inv
     rw[hv]
     exact⟨hb,b,rfl⟩
    |succ i=>exact h2 i c k (by simpa using hc) (by simpa using hk)
   ·cases h
  ·cases h
theorem aop_sound{N:Nat}{w0:Bs}{ρ:Nat→D}{η:Nat→Option O}{a:Act}(hrel:Rel N B w0 ι ρ η a w){call:CT}(hcall:CTok P call)(hG:w0.G=call.g){t:Nat}{o:Oper}{d:D}{oo:Option O}
  (hη:oo.isSome=true→η t=none)(h:aop P call ρ η t o.op=some (d,oo)):Outcome P B ι t w d oo ((execOp a.eval o).run P w):=by
 unfold aop at h
 split at h
 ·rename_i x hop
  cases h
  exact .inl ⟨_,w,by simp[execOp,hop],good_same (hrel.ev x)⟩
 ·rename_i x hop
  split at h
  ·cases h
  ·cases h
   exact .inl ⟨_,w,by simp[execOp,hop],good_same (hrel.ev x)⟩
 ·rename_i c x y hop
  split at h
  ·rename_i p hp
   cases h
   have hc:=hrel.ev c
   rw[hp] at hc
   have hc:=hc.x_inv
   refine .inl ⟨if p=true then a.eval x else a.eval y,w,by simp[execOp,hop,hc,asBool],good_same ?_⟩
   cases p
   ·exact hrel.ev y
   ·exact hrel.ev x
  ·cases h
 ·rename_i e hop
  split at h
  ·rename_i cs hz
   split at h
   ·rename_i h1
    cases h
    obtain⟨z,hzr,rfl⟩:=zero_run (w:=w) hz
    have:=box_good hrel (t:=t) (hη rfl) e (zero_cells z) h1
    exact .inl ⟨_,_,by simp[execOp,hop,Instr.alloc,hzr,newVar,newRow],this⟩
   ·cases h
  ·cases h
 ·rename_i e x hop
  split at h
  ·rename_i h1
   cases h
   have:=box_good hrel (t:=t) (hη rfl) e (cells_rel (hrel.ev x) h1.1) h1.2
   exact .inl ⟨_,_,by simp[execOp,hop,Instr.box,newVar,newRow],this⟩
  ·cases h
 ·rename_i ty parts hop
  obtain⟨h',rfl⟩:=noneOf_some h
  simp only[execOp,hop]
  exact out_value (build_sound hrel h')
 ·rename_i ty len parts hop
  split at h
  ·rename_i e sz es hb
   split at h
   ·cases h
    simp only[execOp,hop]
    exact out_new (buildBox_sound hrel (hη rfl) hb)
   ·cases h
    simp only[execOp,hop]
    exact out_new (buildSlice_sound hrel hb)
  ·cases h
 ·rename_i ty x hop
  obtain⟨h',rfl⟩:=noneOf_some h
  simp only[execOp,hop]
  exact out_value (load_sound hrel (evG_rep hrel hG x) h')
 ·rename_i x hop
  have hx:=hrel.ev x
  split at h
  ·rename_i i off hi
   cases h
   rw[hi] at hx
   obtain⟨b,_,hv⟩:=hx.ptr_inv
   exact .inl ⟨a.eval x,w,by simp[execOp,hop,hv],good_same (hi▸hrel.ev x)⟩
  ·rename_i cs hi
   cases h
   rw[hi] at hx
   obtain⟨A,hv,_⟩:=elt_cells hx
   exact .inl ⟨a.eval x,w,by simp[execOp,hop,hv],good_same (hi▸hrel.ev x)⟩
  ·rename_i i sz k off hi
   cases h
   rw[hi] at hx
   obtain⟨b,n,c,_,hv⟩:=rel_inv hx
   exact .inl ⟨a.eval x,w,by simp[execOp,hop,hv],good_same (hi▸hrel.ev x)⟩
  ·rename_i f ids hi
   cases h
   rw[hi] at hx
   obtain⟨cap,hv,_⟩:Ref ι (a.eval x) (.clo f ids):=by
    rcases hx.one_inv (fun _ e=>by cases e) with h|h
    ·generalize a.eval x=v at h
     cases h
    ·exact h
   exact .inl ⟨a.eval x,w,by simp[execOp,hop,hv],good_same (hi▸hrel.ev x)⟩
  ·rename_i f first cap hi
   cases h
   rw[hi] at hx
   have hv:=hx.x_inv
   exact .inl ⟨a.eval x,w,by simp[execOp,hop,hv],good_same (hi▸hrel.ev x)⟩
  ·cases h
 ·rename_i fn first captured hop
  obtain⟨h',rfl⟩:=noneOf_some h
  unfold makeFuncD at h'
  split at h'
  ·rename_i f
   split at h'
   ·rename_i h0
    split at h'
    ·rename_i ids hc
     cases h'
     have e1:first= #[]:=Array.eq_empty_of_size_eq_zero h0
     subst e1
     obtain⟨h1,h2⟩:=capD_rel hrel _ _ hc
     refine .inl ⟨.func (.func f) #[] (captured.map a.eval),w,by simp[execOp,hop,Instr.makeFunc],good_same (.inl (.inr ⟨_,rfl,by simpa using h1,fun i c id hi hid=>h2 i c id ?_ hid⟩))⟩
     rw[←hi,←Array.getElem?_toList,Array.toList_map]
    ·cases h'
   ·cases h'
  ·cases h'
 ·rename_i op ty x y ty' hop
  obtain⟨h',rfl⟩:=noneOf_some h
  simp only[execOp,hop]
  exact out_value (bin_sound h' (hrel.ev x) (hrel.ev y) x y)
 ·rename_i op ty x hop
  obtain⟨h',rfl⟩:=noneOf_some h
  simp only[execOp,hop]
  exact out_value (un_sound h' (hrel.ev x))
 ·rename_i s dd x hop
  obtain⟨h',rfl⟩:=noneOf_some h
  simp only[execOp,hop]
  exact out_new (convS_sound hrel h' (hrel.ev x) t)
 ·rename_i ty x lo hi mx hop
  split at h
  ·obtain⟨h',rfl⟩:=noneOf_some h
   simp only[execOp,hop]
   exact out_value (slice_sound (nilS_rep (hrel.ev x)) (bnd_rel hrel lo) (bnd_rel hrel hi) h')
  ·rename_i m
   obtain⟨h',rfl⟩:=noneOf_some h
   simp only[execOp,hop]
   exact out_value (slice3_sound (hrel.ev x) (bnd_rel hrel lo) (bnd_rel hrel hi) (hrel.ev m) h')
 ·rename_i s x f hop
  obtain⟨h',rfl⟩:=noneOf_some h
  simp only[execOp,hop]
  exact out_value (fieldAddr_sound (evG_rep hrel hG x) h')
 ·rename_i s x f hop
  obtain⟨h',rfl⟩:=noneOf_some h
  simp only[execOp,hop]
  exact out_value (field_sound (hrel.ev x) h')
 ·rename_i ty x i hop
  obtain⟨h',rfl⟩:=noneOf_some h
  simp only[execOp,hop]
  exact out_value (indexAddr_sound hrel (evG_rep hrel hG x) (hrel.ev i) h')
 ·rename_i ty x i hop
  obtain⟨h',rfl⟩:=noneOf_some h
  simp only[execOp,hop]
  exact out_value (index_sound (hrel.ev x) (hrel.ev i) h')
 ·rename_i x i hop
  split at h
  ·rename_i ds hi
   obtain⟨h',rfl⟩:=noneOf_some h
   have hx:=hrel.ev x
   rw[hi] at hx
   obtain⟨cs,hv,hl,hc⟩:=hx.tup_inv
   have hlt:=(List.getElem?_eq_some_iff.1 h').1
   have hget:cs[i]? =some (cs[i]'(by omega)):=Array.getElem?_eq_getElem (by omega)
   exact .inl ⟨_,w,by simp[execOp,hop,hv,Instr.extract,hget],good_same (hc i _ d hget h').of⟩
  ·cases h
 ·rename_i ty l c hop
  split at h
  ·rename_i e sz es hb
   cases h
   simp only[execOp,hop]
   exact out_new (makeSlice_sound hrel (hrel.ev l) (hrel.ev c) hb)
  ·cases h
 ·rename_i ty r hop
  cases r with
  |some r=>cases h
  |none=>
  cases h
  simp only[execOp,hop,Option.map_none]
  exact out_new ⟨_,_,makeMap_run ty,map_good hrel (hη rfl)⟩
 ·rename_i ty x k ok hop
  obtain⟨h',rfl⟩:=noneOf_some h
  simp only[execOp,hop]
  exact out_value (lookupD_sound hrel (hrel.ev x) (hrel.ev k) h')
 ·rename_i ty x hop
  obtain⟨h',rfl⟩:=noneOf_some h
  simp only[execOp,hop]
  exact out_new (range_good hrel (hrel.ev x) h')
 ·rename_i x hop
  obtain⟨h',rfl⟩:=noneOf_some h
  simp only[execOp,hop]
  exact out_value (entryD_sound (hrel.ev x) h')
 ·rename_i c hop
  obtain⟨h',rfl⟩:=noneOf_some h
  simp only[execOp,hop]
  exact call_sound hrel hcall hG h'
 ·cases h
end
end Go.Abs
namespace Go.Abs
open Go Go.RowKit
section
variable {P:Program}{w:World}{B:Nat}{ι:Inj}{N:Nat}{w0:Bs}{ρ:Nat→D}{η:Nat→Option O}{a:Act}
theorem Rel.freeze_rep(h:Rel N B w0 ι ρ η a w){id:Nat}{ety:TypeId}{sz:Nat}{fl:Bool}{es:List (List D)}{v:Value}(hη:η id=some (.row ety sz fl es))(hv:ι id=some v):
  RepI w (okB (del ι id)) (frB B (del ι id)) v (.own fl es):=by
 obtain⟨v',hv',hobj⟩:=h.obj id _ hη
 rw[hv] at hv'
 cases hv'
 have hobj':=hobj
 obtain⟨xs,hsz,⟨hown,hwr⟩,hlen,hrep,hone,hic,hfl⟩:=hobj
 rcases hown.2 with⟨rfl,h2⟩|⟨g,cap,cur,rfl,hB,hh,hle,hmx,hcs,hxs⟩
 ·have:es=[]:=List.eq_nil_of_length_eq_zero h2
  subst this
  exact .own0 _ _ _
 ·have hcells:=(row_cells hobj').2.2.2
  have hB':wrB B ι g:=hwr g rfl
  have hok:okB (Abs.del ι id) g:=by
   refine⟨h.fresh g hB',fun i u hu hb=>?_⟩
   obtain⟨hi,hu⟩:=del_some hu
   exact hi (h.inj i id u _ g hu hv hb rfl)
  refine .own (sz:=sz) ⟨hB',hok⟩ (Array.getElem?_eq_some_iff.1 hh).1 hle hic hlen (fun i j hi hj=>?_) (fun i e j d u he hd hu=>?_) hfl
  ·have he:es[i]? =some es[i]:=List.getElem?_eq_getElem hi
   have hel:=hlen _ (List.getElem_mem hi)
   obtain⟨u,hu,_,h1⟩:=hcells i _ j _ he (List.getElem?_eq_getElem (by omega:j<es[i].length))
   rw[Addr.add_lit,Nat.zero_add]
   rw[hel] at hu
   exact⟨u,hu,h1⟩
  ·obtain⟨u',hu',hr,_⟩:=hcells i e j d he hd
   rw[Addr.add_lit,Nat.zero_add] at hu
   rw[hlen e (List.mem_of_getElem? he),hu] at hu'
   cases hu'
   exact hr.del id
theorem not_ok{id b:Nat}{v:Value}(hv:ι id=some v)(hb:blk v=some b):¬okB ι b:=fun h=>h.2 id v hv hb
theorem touch_RepI{w':World}{row:Option Nat}(hr:∀b,row=some b→¬okB ι b)(hg:w.grownBy w' row){u:Value}{d:D}(h:RepI w (okB ι) (frB B ι) u d):RepI w' (okB ι) (frB B ι) u d:=
 h.mono hg.size (fun b hb ho=>⟨ho,hg.block b hb (fun e=>hr b e.symm ho)⟩) (fun b hb ho=>⟨ho,hg.block b hb (fun e=>hr b e.symm ho.2)⟩)
theorem touch_Rep1{w':World}{row:Option Nat}(hr:∀b,row=some b→¬okB ι b)(hg:w.grownBy w' row){u:Value}{d:D}(h:Rep1 w B ι u d):Rep1 w' B ι u d:=h.imp (touch_RepI hr hg) id
theorem touch_Rep{w':World}{row:Option Nat}(hr:∀b,row=some b→¬okB ι b)(hg:w.grownBy w' row){u:Value}{d:D}(h:Rep w B ι u d):Rep w' B ι u d:=by
 have:=h.mapT (f:=fun d=>d) (fun v d h _=>touch_Rep1 hr hg h) (fun v cs h=>touch_Rep1 hr hg (.inl h))
 rwa[mapT_id] at this
theorem touch_Obj{w':World}{row:Option Nat}(hr:∀b,row=some b→¬okB ι b)(hg:w.grownBy w' row){v:Value}{o:O}(hne:∀b,blk v=some b→row≠some b)(h:ObjRel w B ι v o):ObjRel w' B ι v o:=by
 cases o with
 |box ty cs=>
  obtain⟨b,cur,rfl,h2,h3,h4,h5⟩:=h
  exact⟨b,cur,rfl,h2,by rw[hg.block b (Array.getElem?_eq_some_iff.1 h3).1 (fun e=>hne b rfl e.symm)];exact h3,h4,fun j c d hc hd=>⟨touch_Rep1 hr hg (h5 j c d hc hd).1,(h5 j c d hc hd).2⟩⟩
 |row ety sz fl es=>
  obtain⟨xs,h1,h2,h3,h4,h5⟩:=h
  refine⟨xs,h1,⟨?_,h2.2⟩,h3,fun i e j d c he hd hc=>touch_RepI hr hg (h4 i e j d c he hd hc),h5⟩
  refine⟨h2.1.1, ?_⟩
  rcases h2.1.2 with h|⟨g,cap,cur,e1,e2,e3,e4⟩
  ·exact .inl h
  ·exact .inr ⟨g,cap,cur,e1,e2,by rw[hg.block g (Array.getElem?_eq_some_iff.1 e3).1 (fun e=>hne g (by rw[e1];rfl) e.symm)];exact e3,e4⟩
 |mp es=>
  obtain⟨r,ms,ck,rfl,h2,h3,h4⟩:=h
  exact⟨r,ms,ck,rfl,h2,by rw[hg.block r (Array.getElem?_eq_some_iff.1 h3).1 (fun e=>hne r rfl e.symm)];exact h3,h4⟩
theorem BelowZ.grown{B:Nat}{Z:Nat→Prop}{w w' w'':World}{row:Option Nat}(h:BelowZ B Z w w')(hg:w'.grownBy w'' row)(hB:B≤w'.heap.size)(hr:∀k,row=some k→B≤k∨Z k):BelowZ B Z w w'':=
 ⟨hg.os.trans h.os,hg.tape.trans h.tape,hg.output.trans h.output,Nat.le_trans h.size hg.size,fun k hk hz=>(hg.block k (Nat.lt_of_lt_of_le hk hB) (fun e=>(hr k e.symm).elim (fun h=>by omega) hz)).trans (h.block k hk hz)⟩
theorem Rel.set{w':World}(h:Rel N B w0 ι ρ η a w){id:Nat}{v:Value}{ob:O}(hv:ι id=some v)(hg:w.grownBy w' (blk v))(ho:ObjRel w' B ι v ob):Rel N B w0 ι ρ (upd η id (some ob)) a w':=by
 have hr:∀b,blk v=some b→¬okB ι b:=fun b hb=>not_ok hv hb
 exact{
  defers:=h.defers
  size:=h.size
  tmp:=fun t=>touch_Rep hr hg (h.tmp t)
  obj:=fun i o hi=>by
   by_cases hit:i=id
   ·subst hit
    simp at hi
    subst hi
    exact⟨v,hv,ho⟩
   ·rw[upd_ne _ _ hit] at hi
    obtain⟨u,hu,hr'⟩:=h.obj i o hi
    exact⟨u,hu,touch_Obj hr hg (fun b hb e=>hit (h.inj i id u v b hu hv hb e)) hr'⟩
  dom:=fun i u hi=>by
   by_cases hit:i=id
   ·subst hit;exact⟨ob,by simp⟩
   ·rw[upd_ne _ _ hit];exact h.dom i u hi
  inj:=h.inj
  below:=h.below.grown hg h.base (fun k hk=>by have:=(h.blk_lt hv hk).1;unfold wrB at this;rwa[h.zz] at this)
  base:=Nat.le_trans h.base hg.size
  fresh:=h.fresh
  kk:=h.kk
  zz:=h.zz
  k0:=h.k0
  nn:=h.nn
  glob:=fun g cs hgl=>(h.glob g cs hgl).to (touch_RepI hr hg (h.glob g cs hgl).rep) (hg.block g (h.glob g cs hgl).lt (fun e=>hr g e.symm (h.glob g cs hgl).ok))}
def moved(ι:Inj)(id t:Nat)(v':Value):Inj:=updI (del ι id) t (some v')
theorem moved_some{id t i:Nat}{v' u:Value}(h:moved ι id t v' i=some u):(i=t∧u=v')∨(i≠t∧i≠id∧ι i=some u):=by
 unfold moved at h
 by_cases hi:i=t
 ·subst hi;simp at h;exact .inl ⟨rfl,h.symm⟩
 ·rw[updI_ne _ _ hi] at h
  exact .inr ⟨hi,del_some h⟩
theorem moved_ne{id t i:Nat}{v':Value}(h1:i≠t)(h2:i≠id):moved ι id t v' i=ι i:=by
 unfold moved
 rw[updI_ne _ _ h1,del_ne ι h2]
theorem okB_moved{id t b:Nat}{v v':Value}(hv:ι id=some v)(hb:b<w.heap.size)(hn:blk v'=blk v∨∀b,blk v'=some b→w.heap.size≤b)(h:okB ι b):okB (moved ι id t v') b:=by
 refine⟨h.1,fun i u hu=>?_⟩
 rcases moved_some hu with⟨_,rfl⟩|⟨_,_,hu⟩
 ·rcases hn with e|e
  ·rw[e];exact h.2 id v hv
  ·intro hbb
   have:=e b hbb
   omega
 ·exact h.2 i u hu
theorem moved_RepI{w':World}{id t:Nat}{v v':Value}(hv:ι id=some v)(hn:blk v'=blk v∨∀b,blk v'=some b→w.heap.size≤b)(hg:w.grownBy w' (blk v)){u:Value}{d:D}(h:RepI w (okB ι) (frB B ι) u d):
  RepI w' (okB (moved ι id t v')) (frB B (moved ι id t v')) u d:=
 h.mono hg.size (fun b hb ho=>⟨okB_moved hv hb hn ho,hg.block b hb (fun e=>ho.2 id v hv e.symm)⟩) (fun b hb ho=>⟨⟨ho.1,okB_moved hv hb hn ho.2⟩,hg.block b hb (fun e=>ho.2.2 id v hv e.symm)⟩)
theorem moved_Rep1{w':World}{id t:Nat}{v v':Value}(hv:ι id=some v)(ht:t=id∨ι t=none)(hn:blk v'=blk v∨∀b,blk v'=some b→w.heap.size≤b)(hg:w.grownBy w' (blk v)){u:Value}{d:D}(h:Rep1 w B ι u d):
  Rep1 w' B (moved ι id t v') u (kill1 id d):=by
 unfold kill1
 split
 ·exact .inl (.any _)
 ·rename_i hr
  rcases h with h|h
  ·exact .inl (moved_RepI hv hn hg h)
  ·refine .inr ?_
   have key:∀i u,i≠id→ι i=some u→moved ι id t v' i=some u:=by
    intro i u hi hu
    have hit:i≠t:=by
     rintro rfl
     rcases ht with rfl|ht
     ·exact hi rfl
     ·rw[ht] at hu;cases hu
    rw[moved_ne hit hi]
    exact hu
   cases d<;>simp only[Ref] at h⊢<;>simp only[refsTo,beq_iff_eq] at hr
   case ptr i off=>obtain⟨b,h1,h2⟩:=h;exact⟨b,key _ _ hr h1,h2⟩
   case row i=>exact⟨key _ _ hr h.1,h.2⟩
   case rel i sz k off=>obtain⟨b,n,c,h1,h2⟩:=h;exact⟨b,n,c,key _ _ hr h1,h2⟩
   case bsl i off n sz=>obtain⟨b,c,h1,h2⟩:=h;exact⟨b,c,key _ _ hr h1,h2⟩
   case clo f ids=>
    obtain⟨cap,h1,h2,h3⟩:=h
    refine⟨cap,h1,h2,fun i c k hc hk=>⟨key _ _ ?_ (h3 i c k hc hk).1,(h3 i c k hc hk).2⟩⟩
    rintro rfl
    exact hr (by simp[List.contains_eq_mem,List.mem_of_getElem? hk])
   case mp i=>exact⟨key _ _ hr h.1,h.2⟩
theorem moved_Rep{w':World}{id t:Nat}{v v':Value}(hv:ι id=some v)(ht:t=id∨ι t=none)(hn:blk v'=blk v∨∀b,blk v'=some b→w.heap.size≤b)(hg:w.grownBy w' (blk v)){u:Value}{d:D}(h:Rep w B ι u d):
  Rep w' B (moved ι id t v') u (killD id d):=
 h.mapT (fun _ _ h _=>moved_Rep1 hv ht hn hg h) (fun _ _ h=>moved_Rep1 hv ht hn hg (.inl h))
theorem moved_Obj{w':World}{id t:Nat}{v v':Value}(hv:ι id=some v)(ht:t=id∨ι t=none)(hn:blk v'=blk v∨∀b,blk v'=some b→w.heap.size≤b)(hg:w.grownBy w' (blk v)){u:Value}{o:O}(hne:∀b,blk u=some b→blk v≠some b)(h:ObjRel w B ι u o):
  ObjRel w' B (moved ι id t v') u (killO id o):=by
 cases o with
 |box ty cs=>
  obtain⟨b,cur,rfl,h2,h3,h4,h5⟩:=h
  refine⟨b,cur,rfl,h2,by rw[hg.block b (Array.getElem?_eq_some_iff.1 h3).1 (fun e=>hne b rfl e.symm)];exact h3,by simpa using h4,fun j c d hc hd=>?_⟩
  simp only[List.getElem?_map,Option.map_eq_some_iff] at hd
  obtain⟨d',hd,rfl⟩:=hd
  exact⟨moved_Rep1 hv ht hn hg (h5 j c d' hc hd).1,(h5 j c d' hc hd).2⟩
 |row ety sz fl es=>
  obtain⟨xs,h1,h2,h3,h4,h5⟩:=h
  refine⟨xs,h1,⟨⟨h2.1.1, ?_⟩,h2.2⟩,h3,fun i e j d c he hd hc=>moved_RepI hv hn hg (h4 i e j d c he hd hc),h5⟩
  rcases h2.1.2 with h|⟨g,cap,cur,e1,e2,e3,e4⟩
  ·exact .inl h
  ·exact .inr ⟨g,cap,cur,e1,e2,by rw[hg.block g (Array.getElem?_eq_some_iff.1 e3).1 (fun e=>hne g (by rw[e1];rfl) e.symm)];exact e3,e4⟩
 |mp es=>
  obtain⟨r,ms,ck,rfl,h2,h3,h4⟩:=h
  exact⟨r,ms,ck,rfl,h2,by rw[hg.block r (Array.getElem?_eq_some_iff.1 h3).1 (fun e=>hne r rfl e.symm)];exact h3,h4⟩
theorem Rel.move{w':World}(h:Rel N B w0 ι ρ η a w){id t:Nat}{v v':Value}{ob:O}(hv:ι id=some v)(hid:t<1000∨10000≤t)(ht:t=id∨η t=none)(hn:blk v'=blk v∨∀b,blk v'=some b→w.heap.size≤b)(hg:w.grownBy w' (blk v))
  (ho:ObjRel w' B (moved ι id t v') v' ob):Rel N B w0 (moved ι id t v') (fun s=>killD id (ρ s)) (upd (killH id η) t (some ob)) a w':=by
 have ht':t=id∨ι t=none:=ht.imp (fun e=>e) (fun e=>h.none_of e)
 have cases_of:∀i u,moved ι id t v' i=some u→(i=t∧u=v')∨(i≠t∧i≠id∧ι i=some u):=by
  intro i u hu
  exact moved_some hu
 exact{
  defers:=h.defers
  size:=h.size
  tmp:=fun s=>moved_Rep hv ht' hn hg (h.tmp s)
  obj:=fun i o hi=>by
   by_cases hit:i=t
   ·subst hit
    simp at hi
    subst hi
    exact⟨v',by simp[moved],ho⟩
   ·rw[upd_ne _ _ hit] at hi
    unfold killH at hi
    split at hi
    ·cases hi
    ·rename_i hid
     simp only[Option.map_eq_some_iff] at hi
     obtain⟨o',ho',rfl⟩:=hi
     obtain⟨u,hu,hr⟩:=h.obj i o' ho'
     exact⟨u,by rw[moved_ne hit hid];exact hu,moved_Obj hv ht' hn hg (fun b hb e=>hid (h.inj i id u v b hu hv hb e)) hr⟩
  dom:=fun i u hi=>by
   rcases cases_of i u hi with⟨rfl,_⟩|⟨h1,h2,h3⟩
   ·exact⟨ob,by simp⟩
   ·obtain⟨o,ho⟩:=h.dom i u h3
    exact⟨killO id o,by rw[upd_ne _ _ h1];simp[killH,h2,ho]⟩
  inj:=fun i i' u u' b h1 h2 h3 h4=>by
   rcases cases_of i u h1 with⟨rfl,rfl⟩|⟨e1,e2,e3⟩<;>rcases cases_of i' u' h2 with⟨rfl,rfl⟩|⟨e4,e5,e6⟩
   ·rfl
   ·rcases hn with e|e
    ·rw[e] at h3;exact absurd (h.inj i' id u' v b e6 hv h4 h3) e5
    ·have h7:=e b h3
     have h8:=(h.blk_lt e6 h4).2
     omega
   ·rcases hn with e|e
    ·rw[e] at h4;exact absurd (h.inj i id u v b e3 hv h3 h4) e2
    ·have h7:=e b h4
     have h8:=(h.blk_lt e3 h3).2
     omega
   ·exact h.inj i i' u u' b e3 e6 h3 h4
  below:=h.below.grown hg h.base (fun k hk=>by have:=(h.blk_lt hv hk).1;unfold wrB at this;rwa[h.zz] at this)
  base:=Nat.le_trans h.base hg.size
  fresh:=h.fresh
  kk:=h.kk
  zz:=h.zz
  k0:=fun i u hu h1 h2=>by
   by_cases hi:i=id
   ·subst hi
    left
    unfold moved
    rw[updI_ne _ _ (by rintro rfl;omega)]
    simp[Abs.del]
   ·rw[moved_ne (by rintro rfl;omega) hi]
    exact h.k0 i u hu h1 h2
  nn:=h.nn
  glob:=fun g cs hgl=>(h.glob g cs hgl).to (moved_RepI hv hn hg (h.glob g cs hgl).rep) (hg.block g (h.glob g cs hgl).lt (fun e=>(h.glob g cs hgl).ok.2 id v hv e.symm))}
theorem ownsRow_ownBlock{e:TypeId}{sz n:Nat}{v:Value}{xs:List Value}(h:w.ownsRow B e sz v n xs):v.ownBlock=blk v:=by
 rcases h.2 with⟨rfl,_⟩|⟨g,cap,cur,rfl,_⟩<;>rfl
theorem run_append_nil(base:Nat)(t ty e:TypeId)(i:TypeInfo)(size:Nat)(ht:P.underlying t=some (.slice e))(hi:P.info? e=some i)
  (v:Value)(n:Nat)(xs:List Value)(hown:w.ownsRow base e size v n xs)(c:Nat):(Builtin.append_ #[t,t] ty #[v,.slice none 0 c]).run P w= .ok v w:=by
 rcases hown.2 with⟨rfl,rfl⟩|⟨g,cap,cur,rfl,_,_,hnc,_⟩
 ·simp[Builtin.append_,run_underlying ht,Go.sizeOf,typeInfo,hi,Builtin.lenOf,Builtin.firstCells]
 ·simp[Builtin.append_,run_underlying ht,Go.sizeOf,typeInfo,hi,Builtin.lenOf,Builtin.firstCells,hnc,storeCells]
theorem append_run{B0:Nat}(hbase:B0≤w.heap.size){t ty e:TypeId}{i:TypeInfo}{z:Value}(ht:P.underlying t=some (.slice e))(hi:P.info? e=some i)(hz:i.zero=some z)(hzs:z.cells.size=i.size)(hsz:0<i.size)
  {v:Value}{n:Nat}{xs:List Value}(hown:w.ownsRow B0 e i.size v n xs){es:List (List D)}{u:Value}{A:Option Addr}{c:Nat}{news:List Value}(hs:Src w B ι i.size es u A c news)
  (h63:n+es.length≤maxLen)(hbytes:(n+es.length)*i.bytes≤140737488355328):
  ∃v' w',(Builtin.append_ #[t,t] ty #[v,u]).run P w= .ok v' w'∧w'.ownsRow B0 e i.size v' (n+es.length) (xs++news)∧w.grownBy w' v.ownBlock∧(v'.ownBlock=v.ownBlock∨v'.ownBlock=some w.heap.size):=by
 rw[hs.val]
 cases A with
 |none=>
  have he:=hs.nil rfl
  subst he
  have hn:news=[]:=List.eq_nil_of_length_eq_zero (by rw[hs.len];simp)
  subst hn
  exact⟨v,w,run_append_nil B0 t ty e i i.size ht hi v n xs hown c,by simpa using hown,World.grownBy.refl w _,.inl rfl⟩
 |some ad=>
  obtain⟨v',w',hrun,h2,h3,_,h5⟩:=run_append_own_at (P:=P) w B0 t ty e i z i.size i.bytes ht hi hz rfl rfl hzs hsz v n xs hown ad es.length c news hs.len (hs.cell ad rfl) hs.one h63 hbytes hbase
  exact⟨v',w',hrun,h2,h3,h5⟩
theorem append_get{xs ys:List Value}{n sz i j:Nat}{es es':List (List D)}(hx:xs.length=n*sz)(hes:es.length=n){e:List D}{u:Value}(he:(es++es')[i]? =some e)(hj:j<sz)(hu:(xs++ys)[i*sz+j]? =some u):
  (es[i]? =some e∧xs[i*sz+j]? =some u)∨(es'[i-n]? =some e∧ys[(i-n)*sz+j]? =some u):=by
 by_cases hi:i<n
 ·left
  have:(i+1)*sz≤n*sz:=Nat.mul_le_mul_right _ hi
  rw[Nat.add_mul,Nat.one_mul] at this
  rw[List.getElem?_append_left (by omega)] at he hu
  exact⟨he,hu⟩
 ·right
  have:n*sz≤i*sz:=Nat.mul_le_mul_right _ (by omega)
  rw[List.getElem?_append_right (by omega),hes] at he
  rw[List.getElem?_append_right (by omega),hx] at hu
  refine⟨he, ?_⟩
  rw[Nat.sub_mul,←hu]
  congr 1
  omega
theorem append_obj{w':World}{ι':Inj}{e:TypeId}{sz n:Nat}{v':Value}{xs news:List Value}{es es':List (List D)}{fl fl':Bool}(hn:es.length=n)(hsz:0<sz)(hxl:xs.length=n*sz)
  (hown:w'.ownsRow 0 e sz v' (n+es'.length) (xs++news))(hwr:∀b,blk v'=some b→wrB B ι' b)
  (h1:∀x∈es,x.length=sz)(h1':∀x∈es',x.length=sz)
  (h2:∀(i:Nat) (x:List D) (j:Nat) (d:D) (u:Value),es[i]? =some x→x[j]? =some d→xs[i*sz+j]? =some u→RepI w' (okB ι') (frB B ι') u d)
  (h2':∀(i:Nat) (x:List D) (j:Nat) (d:D) (u:Value),es'[i]? =some x→x[j]? =some d→news[i*sz+j]? =some u→RepI w' (okB ι') (frB B ι') u d)
  (h3:∀u∈xs,u.oneCell'=true)(h3':∀u∈news,u.oneCell'=true)(h4:∀x∈es,∀d∈x,isCell d=true)(h4':∀x∈es',∀d∈x,isCell d=true)
  (h5:fl=true→∀x∈es,∀d∈x,∃v,d= .x v)(h5':fl'=true→∀x∈es',∀d∈x,∃v,d= .x v):ObjRel w' B ι' v' (.row e sz (fl&&fl') (es++es')):=by
 refine⟨xs++news,hsz,⟨by rw[List.length_append,hn];exact hown,hwr⟩,fun x hx=>?_,fun i x j d u hi hd hu=>?_,fun u hu=>?_,fun x hx=>?_,fun hf x hx=>?_⟩
 ·exact(List.mem_append.1 hx).elim (h1 x) (h1' x)
 ·have hxl':x.length=sz:=(List.mem_append.1 (List.mem_of_getElem? hi)).elim (h1 x) (h1' x)
  have hj:=(List.getElem?_eq_some_iff.1 hd).1
  rcases append_get hxl hn hi (by omega) hu with⟨k1,k2⟩|⟨k1,k2⟩
  ·exact h2 i x j d u k1 hd k2
  ·exact h2' _ x j d u k1 hd k2
 ·exact(List.mem_append.1 hu).elim (h3 u) (h3' u)
 ·exact(List.mem_append.1 hx).elim (h4 x) (h4' x)
 ·simp only[Bool.and_eq_true] at hf
  exact(List.mem_append.1 hx).elim (h5 hf.1 x) (h5' hf.2 x)
end
end Go.Abs
