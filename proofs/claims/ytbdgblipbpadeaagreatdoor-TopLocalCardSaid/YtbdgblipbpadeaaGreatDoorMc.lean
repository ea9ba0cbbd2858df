/-
  Regions that draw their order, of which the operations behind a free beginning are tried in every order that may be drawn.
-/
import Derived.Test.YtbdgblipbpadeaaGreatDoorMb
import Derived.Deep.LoopGhost
import Derived.Scope
import Derived.ProofKit
import Derived.OpenShut
import Derived.Carry
import Derived.KernelRfl
set_option linter.unusedSimpArgs false
set_option linter.unusedVariables false
set_option linter.defProp false
namespace Go.Abs
open Go Go.RowKit
def runFree(P:Program)(call:CT)(N:Nat)(ops:Array Oper)(m:Nat):Nat→List Oper→St→Option St
 |_,[],s=>some s
 |k,o::r,s=>match dstep P call N ops m k s o with
  |some s'=>runFree P call N ops m (k+1) r s'
  |none=>none
def stepAt(P:Program)(call:CT)(an:Ann)(N:Nat)(ops:Array Oper)(i:Nat)(s:St):Option St:=match ops[i]? with
 |some o=>stepG P call an N ops s o
 |none=>none
def Tr.isLeaf:Tr→Bool
 | .leaf=>true
 | .alt _ _ _=>false
 | .dag _=>false
def altOf:Tr→Nat→Option Tr
 | .leaf,_=>none
 | .dag _,_=>none
 | .alt i sub rest,j=>if i=j then some sub else altOf rest j
def insK{α:Type}(k:Nat)(v:α):List (Nat×α)→List (Nat×α)
 |[]=>[(k,v)]
 |(q,u)::r=>if k≤q then(k,v)::(q,u)::r else(q,u)::insK k v r
def sortK{α:Type}:List (Nat×α)→List (Nat×α)
 |[]=>[]
 |(k,v)::r=>insK k v (sortK r)
def St.sorted(s:St):St:=⟨sortK s.t,sortK s.h⟩
def sortedS(s:St):Option St:=some s.sorted
def bindP(x:Option St)(f:St→Option St):Option St:=match x with
 |some s=>f s
 |none=>none
def dagAt(P:Program)(call:CT)(an:Ann)(N:Nat)(ops:Array Oper)(prev:List St)(x:Nat×Nat):Option St:=match prev[x.1]? with
 |some s=>bindP (stepAt P call an N ops x.2 s) sortedS
 |none=>none
noncomputable def joinD(x y:Option St):Option St:=match x,y with
 |some a,some b=>open Classical in if a=b then some a else none
 |_,_=>none
noncomputable def dagNode(P:Program)(call:CT)(an:Ann)(N:Nat)(ops:Array Oper)(prev:List St):List (Nat×Nat)→Option St
 |[]=>none
 |x::r=>match r with
  |[]=>dagAt P call an N ops prev x
  |_::_=>joinD (dagAt P call an N ops prev x) (dagNode P call an N ops prev r)
noncomputable def runLay(P:Program)(call:CT)(an:Ann)(N:Nat)(ops:Array Oper)(k:List St→Option St)(prev:List St):List (List (Nat×Nat))→List St→Option St
 |[],acc=>k acc.reverse
 |n::l,acc=>bindP (dagNode P call an N ops prev n) (fun s=>runLay P call an N ops k prev l (s::acc))
def lastK(fin:St→St):List St→Option St
 |[s]=>some (fin s)
 |_=>none
noncomputable def runDag(P:Program)(call:CT)(an:Ann)(N:Nat)(ops:Array Oper)(fin:St→St):List (List (List (Nat×Nat)))→List St→Option St
 |[],prev=>lastK fin prev
 |l::r,prev=>runLay P call an N ops (runDag P call an N ops fin r) prev l []
def maskAt(ms:List (Array Bool))(x:Nat×Nat):Array Bool:=((ms[x.1]?).getD #[]).setIfInBounds x.2 true
def maskOf(ms:List (Array Bool)):List (Nat×Nat)→Array Bool
 |[]=> #[]
 |x::_=>maskAt ms x
def okDag(ops:Array Oper):List (Array Bool)→List (List (List (Nat×Nat)))→Bool
 |ms,[]=>ms.all fun m=>(Region.ready .any ops m).isEmpty
 |ms,l::r=>(l.all fun n=>n.all fun x=>decide (maskAt ms x=maskOf ms n))&&
  ((
   List.range ms.length).all fun p=>match ms[p]? with
   |some m=>!(Region.ready .any ops m).isEmpty&&(Region.ready .any ops m).all fun i=>l.any fun n=>n.contains (p,i)
   |none=>false)&&
  okDag ops (l.map (maskOf ms)) r
open Classical in
noncomputable def runTr(P:Program)(call:CT)(an:Ann)(N:Nat)(ops:Array Oper)(fin:St→St):Tr→St→Option St
 | .leaf,s=>some (fin s)
 | .dag d,s=>runDag P call an N ops fin d [s]
 | .alt i sub rest,s=>match stepAt P call an N ops i s with
  |none=>none
  |some s1=>match runTr P call an N ops fin sub s1 with
   |none=>none
   |some a=>if rest.isLeaf=true then some a else match runTr P call an N ops fin rest s with
    |none=>none
    |some b=>if a=b then some a else none
def hoistB(ops:Array Oper)(i:Nat)(listed:Array Bool):Bool:=match ops[i]? with
 |some o=>(match o.op,o.guard with
  | .move _,none=>true
  |_,_=>false)&&((Region.ready .any ops listed).contains i&&(Region.noSelect ops&&(List.range ops.size).all fun j=>match ops[j]? with
   |some oj=>j==i||listed.getD j true||oj.after.any (fun e=>Region.binds .any e&&e.on==i)||o.apart ops oj
   |none=>true))
 |none=>false
def okTr(ops:Array Oper):Bool→Tr→Array Bool→Bool
 |top,.leaf,listed=>!top||(Region.ready .any ops listed).isEmpty
 |top,.dag d,listed=>top&&okDag ops [listed] d
 |top,.alt i sub rest,listed=>(!top||((Region.ready .any ops listed).all (fun j=>(altOf (.alt i sub rest) j).isSome)&&!(Region.ready .any ops listed).isEmpty)||(rest.isLeaf&&hoistB ops i listed))&&(okTr ops true sub (listed.setIfInBounds i true)&&okTr ops false rest listed)
noncomputable def runTl(P:Program)(call:CT)(an:Ann)(N:Nat)(ops:Array Oper)(fin:St→St)(tr:Tr)(s:St):Option St:=match tr with
 | .dag d=>runDag P call an N ops fin d [s]
 |tr=>runTr P call an N ops fin tr s
def okTl(ops:Array Oper)(tr:Tr)(listed:Array Bool):Bool:=match tr with
 | .dag d=>okDag ops [listed] d
 |tr=>okTr ops true tr listed
def okDraw2(ops:Array Oper)(m:Nat)(tr:Tr):Bool:=
 (decide (m≤ops.size)&&(match masks ops.toList [] with
 |ms=>
     (List.range ops.size).all fun i=>match ops[i]? with
  |none=>false
  |some o=>(aft o).all (fun j=>decide (j<i))&&
   (if i<m then
    (List.range m).all fun j=>j==i||(match ops[j]? with
     |none=>false
     |some oj=>okPair ops i j o oj)
   else(List.range m).all fun j=>(ms.getD i 0).testBit j)))&&
 okTl ops tr ((List.range ops.size).map (fun i=>decide (i<m))).toArray
section
variable {P:Program}{B:Nat}{N:Nat}{w0:Bs}{call:CT}{an:Ann}{ops:Array Oper}{F:Nat→St}{m:Nat}
theorem okTr_alt{sub:Tr}{j:Nat}{listed:Array Bool}:∀{tr:Tr} {top:Bool},okTr ops top tr listed=true→altOf tr j=some sub→okTr ops true sub (listed.setIfInBounds j true)=true
 | .leaf,_,_,h=>by cases h
 | .dag _,_,_,h=>by cases h
 | .alt i s r,top,hok,h=>by
  simp only[okTr,Bool.and_eq_true] at hok
  unfold altOf at h
  split at h
  ·rename_i e
   cases h
   subst e
   exact hok.2.1
  ·exact okTr_alt hok.2.2 h
theorem runTr_alt{fin:St→St}{s s':St}{sub:Tr}{j:Nat}:∀{tr:Tr},runTr P call an N ops fin tr s=some s'→altOf tr j=some sub→∃s1,stepAt P call an N ops j s=some s1∧runTr P call an N ops fin sub s1=some s'
 | .leaf,_,h=>by cases h
 | .dag _,_,h=>by cases h
 | .alt i sb r,hr,h=>by
  unfold runTr at hr
  unfold altOf at h
  split at hr
  ·cases hr
  ·rename_i s1 h1
   split at hr
   ·cases hr
   ·rename_i a h2
    by_cases hl:r.isLeaf=true
    ·rw[if_pos hl] at hr
     cases hr
     split at h
     ·rename_i e
      cases h
      subst e
      exact⟨s1,h1,h2⟩
     ·cases r with
      |leaf=>cases h
      |dag _=>cases h
      |alt _ _ _=>cases hl
    ·rw[if_neg hl] at hr
     split at hr
     ·cases hr
     ·rename_i b h3
      split at hr
      ·rename_i e
       cases hr
       subst e
       split at h
       ·rename_i e
        cases h
        subst e
        exact⟨s1,h1,h2⟩
       ·exact runTr_alt h3 h
      ·cases hr
theorem ready_all{listed:Array Bool}(h:∀i,i<ops.size→listed.getD i false=true)(hsz:listed.size=ops.size):Region.ready .any ops listed=[]:=by
 rw[List.eq_nil_iff_forall_not_mem]
 intro i hi
 rw[mem_ready] at hi
 obtain⟨h1,o,ho,_⟩:=hi
 have hlt:=(Array.getElem?_eq_some_iff.1 ho).1
 have h2:=h i hlt
 have hil:i<listed.size:=by omega
 simp[hil] at h1 h2
 rw[h1] at h2
 cases h2
theorem all_of_count{listed:Array Bool}(h:(List.range ops.size).countP (fun i=>!listed.getD i false)=0):∀i,i<ops.size→listed.getD i false=true:=by
 intro i hi
 rw[List.countP_eq_zero] at h
 have:=h i (by simpa using hi)
 simpa using this
theorem count_set{listed:Array Bool}{i fuel:Nat}(hlt:i<ops.size)(hsz:listed.size=ops.size)(hli:listed.getD i false=false)(hcount:(List.range ops.size).countP (fun i=>!listed.getD i false)≤fuel+1):
  (List.range ops.size).countP (fun k=>!(listed.setIfInBounds i true).getD k false)≤fuel:=by
 have hil:i<listed.size:=by omega
 have:=countP_lt (fun k=>!listed.getD k false) (fun k=>!(listed.setIfInBounds i true).getD k false) (List.range ops.size)
  (fun k _ hq=>by
   cases hlk:listed.getD k false with
   |false=>simp
   |true=>
    simp only[getD_set_true hlk] at hq
    cases hq)
  ⟨i,by simpa using hlt,by simp only[hli];rfl,by simp[hil]⟩
 omega
theorem hoist_spec{i:Nat}{listed:Array Bool}(h:hoistB ops i listed=true):∃o x,ops[i]? =some o∧o.op= .move x∧o.guard=none∧i∈Region.ready .any ops listed∧Region.noSelect ops=true∧
  ∀j oj,ops[j]? =some oj→j≠i→listed.getD j true=false→(∀e∈oj.after,Region.binds .any e=true→e.on≠i)→o.apart ops oj=true:=by
 unfold hoistB at h
 split at h
 ·rename_i o ho
  simp only[Bool.and_eq_true] at h
  obtain⟨h1,h2,h3,h4⟩:=h
  split at h1
  ·rename_i x hx hg
   refine⟨o,x,ho,hx,hg,by simpa using h2,h3,fun j oj hoj hne hl hno=>?_⟩
   have:=List.all_eq_true.1 h4 j (by simpa using(Array.getElem?_eq_some_iff.1 hoj).1)
   simp only[hoj,hl,Bool.or_false,Bool.or_eq_true,beq_iff_eq] at this
   rcases this with(this|this)|this
   ·exact absurd this hne
   ·rw[←Array.any_toList,List.any_eq_true] at this
    obtain⟨e,he,hb⟩:=this
    replace he:e∈oj.after:=by simpa using he
    simp only[Bool.and_eq_true,beq_iff_eq] at hb
    exact absurd hb.2 (hno e he hb.1)
   ·exact this
  ·cases h1
 ·cases h
theorem hoist_step{i:Nat}{o:Oper}{x:Operand}{s s1:St}{a:Act}{w:World}(ho:ops[i]? =some o)(hop:o.op= .move x)(hg:o.guard=none)(hrel:SRel N B w0 s a w)(h:stepG P call an N ops s o=some s1):SRel N B w0 s1 (a.put o.dst (a.eval x)) w:=by
 obtain⟨ι,hrel⟩:=hrel
 simp only[stepG,hg,guardV] at h
 unfold eop at h
 rw[hop] at h
 simp only[fstep,hop,creates,aop] at h
 cases hd:o.dst with
 |none=>
  rw[hd] at h
  simp only[Option.some.injEq] at h
  subst h
  exact⟨ι,hrel⟩
 |some t=>
  rw[hd] at h
  simp only[Bool.false_eq_true,if_false] at h
  split at h
  ·rename_i ht
   simp only[Option.some.injEq] at h
   subst h
   exact SRel.good_put hrel ht ⟨Below.refl _ _,hrel.ev x⟩
  ·cases h
theorem getT_ins(k q:Nat)(v:D):∀l:List (Nat×D),getT (insK k v l) q=if k=q then v else getT l q
 |[]=>rfl
 |(x,u)::r=>by
  have ih:=getT_ins k q v r
  simp only[insK]
  split
  ·rfl
  ·rename_i hk
   simp only[getT,ih]
   by_cases h1:x=q
   ·have:¬k=q:=by omega
    simp[h1,this]
   ·simp[h1]
theorem getT_sort:∀(l:List (Nat×D)) (q:Nat),getT (sortK l) q=getT l q
 |[],_=>rfl
 |(k,v)::r,q=>by simp only[sortK,getT_ins,getT_sort r q];rfl
theorem getH_ins(k q:Nat)(v:O):∀l:List (Nat×O),getH (insK k v l) q=if k=q then some v else getH l q
 |[]=>rfl
 |(x,u)::r=>by
  have ih:=getH_ins k q v r
  simp only[insK]
  split
  ·rfl
  ·rename_i hk
   simp only[getH,ih]
   by_cases h1:x=q
   ·have:¬k=q:=by omega
    simp[h1,this]
   ·simp[h1]
theorem getH_sort:∀(l:List (Nat×O)) (q:Nat),getH (sortK l) q=getH l q
 |[],_=>rfl
 |(k,v)::r,q=>by simp only[sortK,getH_ins,getH_sort r q];rfl
theorem SRel.sorted{s:St}{a:Act}{w:World}(h:SRel N B w0 s a w):SRel N B w0 s.sorted a w:=by
 obtain⟨ι,h⟩:=h
 refine⟨ι, ?_⟩
 have e1:getT s.sorted.t=getT s.t:=funext fun q=>getT_sort s.t q
 have e2:getH s.sorted.h=getH s.h:=funext fun q=>getH_sort s.h q
 rw[e1,e2]
 exact h
theorem dagAt_some{prev:List St}{x:Nat×Nat}{s':St}(h:dagAt P call an N ops prev x=some s'):∃s s1,prev[x.1]? =some s∧stepAt P call an N ops x.2 s=some s1∧s1.sorted=s':=by
 unfold dagAt at h
 split at h
 ·rename_i s hs
  unfold bindP at h
  split at h
  ·rename_i s1 hs1
   exact⟨s,s1,hs,hs1,Option.some.inj h⟩
  ·cases h
 ·cases h
theorem dagNode_some{prev:List St}{s':St}:∀{n:List (Nat×Nat)},dagNode P call an N ops prev n=some s'→∀x∈n,∃s s1,prev[x.1]? =some s∧stepAt P call an N ops x.2 s=some s1∧s1.sorted=s'
 |[],h=>by cases h
 |x::r,h=>by
  intro y hy
  cases r with
  |nil=>
   simp at hy
   subst hy
   exact dagAt_some h
  |cons z r=>
   replace h:joinD (dagAt P call an N ops prev x) (dagNode P call an N ops prev (z::r))=some s':=h
   unfold joinD at h
   split at h
   ·rename_i a b ha hb
    split at h
    ·rename_i e
     cases h
     rcases List.mem_cons.1 hy with rfl|hy
     ·exact dagAt_some ha
     ·subst e
      exact dagNode_some hb y hy
    ·cases h
   ·cases h
theorem runLay_some{k:List St→Option St}{prev:List St}{s':St}:∀{l:List (List (Nat×Nat))} {acc:List St},runLay P call an N ops k prev l acc=some s'→∃next:List St,k (acc.reverse++next)=some s'∧next.length=l.length∧∀(q:Nat) n,l[q]? =some n→∃s,next[q]? =some s∧dagNode P call an N ops prev n=some s
 |[],acc,h=>⟨[],by simpa[runLay] using h,rfl,fun q n hq=>by simp at hq⟩
 |n::l,acc,h=>by
  simp only[runLay,bindP] at h
  split at h
  ·rename_i s hs
   obtain⟨next,h1,h2,h3⟩:=runLay_some h
   refine⟨s::next,by simpa using h1,by simp[h2],fun q m hq=>?_⟩
   cases q with
   |zero=>
    simp at hq
    subst hq
    exact⟨s,rfl,hs⟩
   |succ q=>
    simp at hq
    simpa using h3 q m hq
  ·cases h
theorem dag_any(hcall:CTok P call)(hG:w0.G=call.g){fin:St→St}(hfin:∀s a w,SRel N B w0 s a w→SRel N B w0 (fin s) a w){s':St}{Q:Exit→Act→World→Prop}(hk:∀a' w',SRel N B w0 s' a' w'→Q .normal a' w'):
  ∀(ls:List (List (List (Nat×Nat)))) (fuel:Nat) (ms:List (Array Bool)) (prev:List St),okDag ops ms ls=true→ms.length=prev.length→runDag P call an N ops fin ls prev=some s'→
   ∀(p:Nat) (m:Array Bool) (s:St) (a:Act) (w:World),ms[p]? =some m→prev[p]? =some s→m.size=ops.size→(List.range ops.size).countP (fun i=>!m.getD i false)≤fuel→SRel N B w0 s a w→wpAny P .any ops Q fuel m a w
 |[],fuel,ms,prev,hok,hlen,hrun,p,m,s,a,w,hm,hs,hsz,hcount,hrel=>by
  have hr:Region.ready .any ops m=[]:=by
   have:=List.all_eq_true.1 hok m (List.mem_of_getElem? hm)
   simpa using this
  have hq:Q .normal a w:=by
   simp only[runDag] at hrun
   unfold lastK at hrun
   split at hrun
   ·rename_i s0
    cases hrun
    cases p with
    |zero=>
     simp at hs
     subst hs
     exact hk _ _ (hfin _ _ _ hrel)
    |succ p=>simp at hs
   ·cases hrun
  cases fuel with
  |zero=>exact⟨hr,hq⟩
  |succ fuel=>exact⟨fun _=>hq,fun i hi=>by rw[hr] at hi;cases hi⟩
 |l::ls,fuel,ms,prev,hok,hlen,hrun,p,m,s,a,w,hm,hs,hsz,hcount,hrel=>by
  simp only[okDag,Bool.and_eq_true] at hok
  obtain⟨⟨hag,hcov⟩,hrest⟩:=hok
  have hp:p<ms.length:=(List.getElem?_eq_some_iff.1 hm).1
  have hcp:=List.all_eq_true.1 hcov p (by simpa using hp)
  simp only[hm,Bool.and_eq_true,Bool.not_eq_true',List.isEmpty_eq_false_iff] at hcp
  obtain⟨hne,hall⟩:=hcp
  cases fuel with
  |zero=>exact absurd (ready_all (all_of_count (by omega)) hsz) hne
  |succ fuel=>
   refine⟨fun hr=>absurd hr hne,fun i hi=>?_⟩
   have hi':=hi
   rw[mem_ready] at hi
   obtain⟨h1,o,ho,_⟩:=hi
   have hlt:=(Array.getElem?_eq_some_iff.1 ho).1
   have hil:i<m.size:=by omega
   have hli:m.getD i false=false:=by
    simp[hil] at h1⊢
    exact h1
   have hany:=List.all_eq_true.1 hall i hi'
   rw[List.any_eq_true] at hany
   obtain⟨n,hn,hpn⟩:=hany
   obtain⟨q,hq⟩:=List.getElem?_of_mem hn
   obtain⟨next,hk2,hl2,hnx⟩:=runLay_some (show runLay P call an N ops (runDag P call an N ops fin ls) prev l []=some s' from hrun)
   obtain⟨s2,hs2,hnode⟩:=hnx q n hq
   have hmem:(p,i)∈n:=by simpa using hpn
   obtain⟨s0,s1,e0,e1,e2⟩:=dagNode_some hnode (p,i) hmem
   simp only at e0 e1
   rw[hs] at e0
   cases e0
   have hmq:(l.map (maskOf ms))[q]? =some (m.setIfInBounds i true):=by
    rw[List.getElem?_map,hq]
    have:=List.all_eq_true.1 (List.all_eq_true.1 hag n hn) (p,i) hmem
    rw[decide_eq_true_eq] at this
    simp only[Option.map_some,←this,maskAt,hm,Option.getD_some]
   simp only[stepAt,ho] at e1
   refine stepG_sound hcall hG ho hrel e1 (fun a' w' h'=>?_)
   exact dag_any hcall hG hfin hk ls fuel _ next hrest (by simp[hl2]) (by simpa using hk2) q _ s2 a' w' hmq hs2 (by simpa using hsz) (count_set hlt hsz hli hcount) (e2▸h'.sorted)
theorem tr_any(hcall:CTok P call)(hG:w0.G=call.g){fin:St→St}(hfin:∀s a w,SRel N B w0 s a w→SRel N B w0 (fin s) a w){s':St}{Q:Exit→Act→World→Prop}(hQ:∀c a w,¬Q (.panic c) a w)(hk:∀a' w',SRel N B w0 s' a' w'→Q .normal a' w'):
  ∀(fuel:Nat) (tr:Tr) (listed:Array Bool) (a:Act) (w:World) (s:St),okTr ops true tr listed=true→listed.size=ops.size→(List.range ops.size).countP (fun i=>!listed.getD i false)≤fuel→SRel N B w0 s a w→
   runTr P call an N ops fin tr s=some s'→wpAny P .any ops Q fuel listed a w:=by
 have leaf:∀(tr:Tr) (listed:Array Bool) (a:Act) (w:World) (s:St),(∀d,tr≠ .dag d)→okTr ops true tr listed=true→Region.ready .any ops listed=[]→SRel N B w0 s a w→runTr P call an N ops fin tr s=some s'→Q .normal a w:=by
  intro tr listed a w s hnd hok hr hrel hrun
  cases tr with
  |dag d=>exact absurd rfl (hnd d)
  |leaf=>
   simp only[runTr,Option.some.injEq] at hrun
   exact hk _ _ (hrun▸hfin _ _ _ hrel)
  |alt i sub rest=>
   simp only[okTr,Bool.and_eq_true,Bool.or_eq_true] at hok
   rcases hok.1 with(h|h)|h
   ·cases h
   ·rw[hr] at h
    simp at h
   ·obtain⟨o,x,_,_,_,hm,_⟩:=hoist_spec h.2
    rw[hr] at hm
    cases hm
 intro fuel
 induction fuel with
 |zero=>
  intro tr listed a w s hok hsz hcount hrel hrun
  by_cases hd:∃d,tr= .dag d
  ·obtain⟨d,rfl⟩:=hd
   exact dag_any (an:=an) hcall hG hfin hk d 0 [listed] [s] (by simpa[okTr] using hok) rfl hrun 0 listed s a w rfl rfl hsz hcount hrel
  have hr:=ready_all (all_of_count (by omega)) hsz
  exact⟨hr,leaf tr listed a w s (fun d e=>hd ⟨d,e⟩) hok hr hrel hrun⟩
 |succ fuel ih=>
  intro tr listed a w s hok hsz hcount hrel hrun
  by_cases hd:∃d,tr= .dag d
  ·obtain⟨d,rfl⟩:=hd
   exact dag_any (an:=an) hcall hG hfin hk d (fuel+1) [listed] [s] (by simpa[okTr] using hok) rfl hrun 0 listed s a w rfl rfl hsz hcount hrel
  by_cases hh:∃i sub,tr= .alt i sub .leaf∧hoistB ops i listed=true
  ·obtain⟨i,sub,rfl,hb⟩:=hh
   obtain⟨o,x,ho,hop,hg,hm,hs,hfree⟩:=hoist_spec hb
   have hi:=hm
   rw[mem_ready] at hi
   obtain⟨h1,_⟩:=hi
   have hlt:=(Array.getElem?_eq_some_iff.1 ho).1
   have hil:i<listed.size:=by omega
   have hli:listed.getD i false=false:=by
    simp[hil] at h1⊢
    exact h1
   obtain⟨s1,hs1,hrun1⟩:=runTr_alt hrun (j:=i) (sub:=sub) (by simp[altOf])
   simp only[stepAt,ho] at hs1
   have hsub:=okTr_alt hok (j:=i) (sub:=sub) (by simp[altOf])
   refine wpAny_first (v:=a.eval x) ho (Region.noSelect_spec hs) (fun c a w h=>absurd h (hQ c _ w)) fuel listed a w hfree hm (.inl ⟨?_,fun w=>by simp[execOp,hop]⟩) ?_
   ·unfold Region.wanted
    rw[hg]
   ·exact ih sub _ _ w s1 hsub (by simpa using hsz) (count_set hlt hsz hli hcount) (hoist_step ho hop hg hrel hs1) hrun1
  refine⟨fun hr=>leaf tr listed a w s (fun d e=>hd ⟨d,e⟩) hok hr hrel hrun,fun i hi=>?_⟩
  have hi':=hi
  rw[mem_ready] at hi
  obtain⟨h1,o,ho,hall⟩:=hi
  have hlt:=(Array.getElem?_eq_some_iff.1 ho).1
  have hil:i<listed.size:=by omega
  have hli:listed.getD i false=false:=by
   simp[hil] at h1⊢
   exact h1
  obtain⟨sub,hsub⟩:∃sub,altOf tr i=some sub:=by
   cases tr with
   |dag d=>exact absurd ⟨d,rfl⟩ hd
   |leaf=>
    simp[okTr] at hok
    rw[hok] at hi'
    cases hi'
   |alt j sb rest=>
    simp only[okTr,Bool.and_eq_true,Bool.not_true,Bool.false_or,Bool.or_eq_true] at hok
    rcases hok.1 with h|h
    ·have:=List.all_eq_true.1 h.1 i hi'
     exact Option.isSome_iff_exists.1 this
    ·refine absurd ⟨j,sb, ?_,h.2⟩ hh
     cases rest with
     |leaf=>rfl
     |dag _=>cases h.1
     |alt _ _ _=>cases h.1
  obtain⟨s1,hs1,hrun1⟩:=runTr_alt hrun hsub
  simp only[stepAt,ho] at hs1
  exact stepG_sound hcall hG ho hrel hs1 (fun a' w' h'=>ih sub _ a' w' s1 (okTr_alt hok hsub) (by simpa using hsz) (count_set hlt hsz hli hcount) h' hrun1)
theorem free_states{s':St}:∀(l:List Oper) (k:Nat) (s:St),runFree P call N ops m k l s=some s'→(∀j,j<l.length→l[j]? =ops[k+j]?)→
  ∃F:Nat→St,F k=s∧F (k+l.length)=s'∧∀i,k≤i→i<k+l.length→∃o,ops[i]? =some o∧dstep P call N ops m i (F i) o=some (F (i+1))
 |[],k,s,h,_=>by injection h with h;exact⟨fun _=>s,rfl,h,fun i h1 h2=>by simp at h2;omega⟩
 |o::l,k,s,h,hl=>by
  unfold runFree at h
  split at h
  ·rename_i s1 h1
   obtain⟨F,e1,e2,e3⟩:=free_states l (k+1) s1 h (fun j hj=>by have:=hl (j+1) (by simp;omega);simpa[Nat.add_assoc,Nat.add_comm 1 j] using this)
   refine⟨fun i=>if i=k then s else F i,by simp, ?_,fun i hi1 hi2=>?_⟩
   ·show(if k+(o::l).length=k then s else F (k+(o::l).length))=s'
    rw[List.length_cons,if_neg (by omega),←e2]
    congr 1
    omega
   ·by_cases hik:i=k
    ·subst hik
     have h0:ops[i]? =some o:=by have:=hl 0 (by simp);simpa using this.symm
     refine⟨o,h0, ?_⟩
     simp only[if_true]
     rw[if_neg (by omega),e1]
     exact h1
    ·obtain⟨o',ho',hs⟩:=e3 i (by omega) (by simp at hi2;omega)
     refine⟨o',ho', ?_⟩
     simp only
     rw[if_neg hik,if_neg (by omega)]
     exact hs
  ·cases h
theorem draw2_any(hF:Free P call N ops F m)(hcall:CTok P call)(hG:w0.G=call.g)
  (htail:∀(i:Nat) (o:Oper),m≤i→ops[i]? =some o→∀listed:Array Bool,Closed ops listed→(∀j∈aft o,listed.getD j false=true)→∀j,j<m→listed.getD j false=true)
  {Q:Exit→Act→World→Prop}(hT:∀(fuel:Nat) (listed:Array Bool) (a:Act) (w:World),listed=((List.range ops.size).map (fun i=>decide (i<m))).toArray→listed.size=ops.size→(List.range ops.size).countP (fun i=>!listed.getD i false)≤fuel→SRel N B w0 (F m) a w→wpAny P .any ops Q fuel listed a w):
  ∀(fuel:Nat) (listed:Array Bool) (a:Act) (w:World),listed.size=ops.size→Closed ops listed→(List.range ops.size).countP (fun i=>!listed.getD i false)≤fuel→InvA B N w0 ops F m listed a w→wpAny P .any ops Q fuel listed a w:=by
 intro fuel
 induction fuel with
 |zero=>
  intro listed a w hsz hc hcount hinv
  have hall:=all_of_count (ops:=ops) (listed:=listed) (by omega)
  obtain⟨⟨ι,hrel⟩,hno⟩:=hinv
  have hle:=hF.le
  have hm:m=ops.size:=by
   rcases Nat.lt_or_ge m ops.size with h|h
   ·have:=hno m (Nat.le_refl m)
    rw[hall m h] at this
    cases this
   ·omega
  obtain⟨e1,e2⟩:=hF.all (listed:=listed) (fun i hi=>hall i (by omega))
  rw[e1,e2] at hrel
  have el:listed=((List.range ops.size).map (fun i=>decide (i<m))).toArray:=by
   apply Array.ext
   ·simp[hsz]
   ·intro i h1 h2
    have:=hall i (by omega)
    simp[h1] at this
    simp[this]
    omega
  exact hT 0 listed a w el hsz hcount ⟨ι,hrel⟩
 |succ fuel ih=>
  intro listed a w hsz hc hcount hinv
  obtain⟨hrel,hno⟩:=hinv
  by_cases hpre:∀j,j<m→listed.getD j false=true
  ·obtain⟨ι,hrel⟩:=hrel
   obtain⟨e1,e2⟩:=hF.all hpre
   rw[e1,e2] at hrel
   have el:listed=((List.range ops.size).map (fun i=>decide (i<m))).toArray:=by
    apply Array.ext
    ·simp[hsz]
    ·intro i h1 h2
     by_cases him:i<m
     ·have:=hpre i him
      simp[h1] at this
      simp[this,him]
     ·have:=hno i (by omega)
      simp[h1] at this
      simp[this]
      omega
   exact hT (fuel+1) listed a w el hsz hcount ⟨ι,hrel⟩
  ·refine⟨fun hr=>?_,fun i hi=>?_⟩
   ·exfalso
    apply hpre
    have key:∀i,i<ops.size→listed.getD i false=true:=by
     intro i
     induction i using Nat.strongRecOn with
     |_ i ihi=>
      intro hi
      cases hli:listed.getD i false with
      |true=>rfl
      |false=>
       exfalso
       have hmem:i∈Region.ready .any ops listed:=by
        rw[mem_ready]
        have ho:ops[i]? =some ops[i]:=Array.getElem?_eq_getElem hi
        refine⟨?_,_,ho,fun e he hb=>?_⟩
        ·have hil:i<listed.size:=by omega
         simp[hil] at hli⊢
         exact hli
        ·have hj:e.on∈aft ops[i]:=mem_aft.2 ⟨e,he,hb,rfl⟩
         have hlt:=hF.back i _ ho _ hj
         exact ihi _ hlt (by omega)
       rw[hr] at hmem
       cases hmem
    exact fun j hj=>key j (by have:=hF.le;omega)
   ·rw[mem_ready] at hi
    obtain⟨h1,o,ho,hall⟩:=hi
    have hlt:=(Array.getElem?_eq_some_iff.1 ho).1
    have hil:i<listed.size:=by omega
    have hli:listed.getD i false=false:=by
     simp[hil] at h1⊢
     exact h1
    have haft:∀j∈aft o,listed.getD j false=true:=by
     intro j hj
     obtain⟨e,he,hb,rfl⟩:=mem_aft.1 hj
     exact hall e he hb
    have him:i<m:=by
     rcases Nat.lt_or_ge i m with h|h
     ·exact h
     ·exact absurd (htail i o h ho listed hc haft) hpre
    have hc':Closed ops (listed.setIfInBounds i true):=by
     intro k ok hok hlk j hj
     by_cases hik:i=k
     ·subst hik
      rw[ho] at hok
      cases hok
      exact getD_set_true (haft j hj)
     ·rw[getD_set_ne false hik] at hlk
      exact getD_set_true (hc k ok hok hlk j hj)
    refine hF.stepAny hcall hG hsz hc him ho hli haft hrel (fun a' w' h'=>ih _ a' w' (by simpa using hsz) hc' (count_set hlt hsz hli hcount) ⟨h',fun q hq=>?_⟩)
    rw[getD_set_ne false (by omega)]
    exact hno q hq
theorem draw2_sound(hmix:P.follows .mixedOrders=true){m:Nat}{tr:Tr}(hok:okDraw2 ops m tr=true)(hcall:CTok P call)(hG:w0.G=call.g){fin:St→St}(hfin:∀s a w,SRel N B w0 s a w→SRel N B w0 (fin s) a w){id:Nat}{Q:Exit→Act→World→Prop}{s s1 s':St}{a:Act}{w:World}(h:SRel N B w0 s a w)
  (hs:runFree P call N ops m 0 (ops.toList.take m) s=some s1)(hrun:runTl P call an N ops fin tr s1=some s')(hQ:∀c a w,¬Q (.panic c) a w)(hk:∀a' w',SRel N B w0 s' a' w'→Q .normal a' w'):(Code.region id ops true).wp P Q a w:=by
 simp only[okDraw2,Bool.and_eq_true,decide_eq_true_eq] at hok
 obtain⟨⟨hm,hok⟩,htr⟩:=hok
 obtain⟨F,hF0,hFn,hst⟩:=free_states (ops.toList.take m) 0 s hs (fun j hj=>by
  simp only[List.length_take,Array.length_toList] at hj
  rw[List.getElem?_take,if_pos (by omega)]
  simp)
 have hlen:(ops.toList.take m).length=m:=by simp;omega
 rw[hlen,Nat.zero_add] at hFn
 rw[hlen] at hst
 simp only[Nat.zero_add] at hst
 have hcheck:∀(i:Nat) (o:Oper),ops[i]? =some o→((∀j∈aft o,j<i)∧(i<m→∀j oj,j<m→i≠j→ops[j]? =some oj→okPair ops i j o oj=true)∧(m≤i→∀j,j<m→((masks ops.toList []).getD i 0).testBit j=true)):=by
  intro i o ho
  have hlt:=(Array.getElem?_eq_some_iff.1 ho).1
  have:=List.all_eq_true.1 hok i (by simpa using hlt)
  simp only[ho,Bool.and_eq_true] at this
  obtain⟨h1,h2⟩:=this
  refine⟨fun j hj=>by simpa using List.all_eq_true.1 h1 j hj,fun him j oj hj hij hoj=>?_,fun him j hj=>?_⟩
  ·rw[if_pos him] at h2
   have:=List.all_eq_true.1 h2 j (by simpa using hj)
   simp only[hoj,Bool.or_eq_true,beq_iff_eq] at this
   rcases this with h|h
   ·exact absurd h.symm hij
   ·exact h
  ·rw[if_neg (by omega)] at h2
   exact List.all_eq_true.1 h2 j (by simpa using hj)
 have hFree:Free P call N ops F m:={
  le:=hm
  step:=fun i hi=>hst i (Nat.zero_le _) hi
  apart:=fun i j o oj hi hj hij ho hoj=>(hcheck i o ho).2.1 hi j oj hj hij hoj
  back:=fun i o ho=>(hcheck i o ho).1}
 apply wp_region_any hmix
 have nothing:∀i,(Array.replicate ops.size false).getD i false=false:=by
  intro i
  by_cases hi:i<ops.size<;>simp[hi]
 have hT:∀(fuel:Nat) (listed:Array Bool) (a:Act) (w:World),listed=((List.range ops.size).map (fun i=>decide (i<m))).toArray→listed.size=ops.size→(List.range ops.size).countP (fun i=>!listed.getD i false)≤fuel→SRel N B w0 (F m) a w→wpAny P .any ops Q fuel listed a w:=by
  intro fuel listed a w el hsz hcount hrel
  rw[hFn] at hrel
  by_cases hd:∃d,tr= .dag d
  ·obtain⟨d,rfl⟩:=hd
   exact dag_any (an:=an) hcall hG hfin hk d fuel [listed] [s1] (el▸htr) rfl hrun 0 listed s1 a w rfl rfl hsz hcount hrel
  ·have h1:okTl ops tr listed=okTr ops true tr listed:=by cases tr<;>first|rfl|exact absurd ⟨_,rfl⟩ hd
   have h2:runTl P call an N ops fin tr s1=runTr P call an N ops fin tr s1:=by cases tr<;>first|rfl|exact absurd ⟨_,rfl⟩ hd
   exact tr_any hcall hG hfin hQ hk fuel tr listed a w s1 (by rw[←h1];exact el▸htr) hsz hcount hrel (by rw[←h2];exact hrun)
 refine draw2_any hFree hcall hG (fun i o hi ho listed hc hr j hj=>up_masks hc ops.toList [] (fun j=>by simp) (fun k _ j hj=>by simp at hj) (fun k o hk=>by simp at hk) i o ho hr j ((hcheck i o ho).2.2 hi j hj)) hT ops.size _ a _ (by simp) ?_ ?_ ⟨?_,fun i _=>nothing i⟩
 ·intro i o ho hl
  rw[nothing] at hl
  cases hl
 ·exact Nat.le_trans List.countP_le_length (by simp)
 ·obtain⟨ι,hrel⟩:=h
  obtain⟨e1,e2⟩:=rhoS_none (ops:=ops) (F:=F) (m:=m) (listed:=Array.replicate ops.size false) nothing
  rw[e1,e2,hF0]
  refine⟨ι,hrel.ext ?_⟩
  exact⟨rfl,rfl,rfl,Nat.le_refl _,fun _ _=>rfl⟩
end
end Go.Abs
namespace Go.Abs
open Go Go.RowKit
inductive E where
 |norm
 |ex (id:Nat)
 |ret
def E.toExit:E→Exit
 | .norm=> .normal
 | .ex id=> .exit id
 | .ret=> .ret
def clearT(lv:List Nat):List (Nat×D)→List (Nat×D)
 |[]=>[]
 |(k,d)::r=>(k,if lv.contains k=true then d else .any)::clearT lv r
def usedC(k:Nat):List D→Bool
 |[]=>false
 |d::r=>refsTo k d||usedC k r
def usedA(k:Nat):D→Bool
 | .agg cs=>usedC k cs
 |d=>refsTo k d
def usedL(k:Nat):List D→Bool
 |[]=>false
 |d::r=>usedA k d||usedL k r
def usedD(k:Nat):D→Bool
 | .tup ds=>usedL k ds
 |d=>usedA k d
def usedH(k:Nat):List (Nat×O)→Bool
 |[]=>false
 |(_,.box _ cs)::r=>usedC k cs||usedH k r
 |_::r=>usedH k r
def usedT(k:Nat):List (Nat×D)→Bool
 |[]=>false
 |(_,d)::r=>usedD k d||usedT k r
def dropIds(lv:List Nat)(s:St):List (Nat×O)→St
 |[]=>s
 |(k,_)::r=>if(1000≤k∧k<10000)∨usedT k s.t=true∨usedH k s.h=true then dropIds lv s r else dropIds lv (s.drop k) r
def clearTo(lv:List Nat)(s:St):St:=dropIds lv ⟨clearT lv s.t,s.h⟩ s.h
def headOf(lv:Option (List Nat))(s:St):St:=match lv with
 |none=>s
 |some l=>clearTo l s
def endR(an:Ann)(s:St):List Oper→St
 |[]=>s
 |o::r=>match o.dst with
  |some t=>if an.keep.contains t=true∨an.cond.contains t=true then endR an s r else
   match getH s.h t with
   |none=>endR an ⟨delT s.t t,s.h⟩ r
   |some _=>if usedT t (delT s.t t)=true∨usedH t s.h=true then endR an ⟨delT s.t t,s.h⟩ r else endR an ⟨delT (s.dropB t).t t,(s.dropB t).h⟩ r
  |none=>endR an s r
def rid:Code→Option Nat
 | .region id _ _=>some id
 | .seq a b=>match rid a with
  |some i=>some i
  |none=>rid b
 | .cond _ a b=>match rid a with
  |some i=>some i
  |none=>rid b
 | .block _ a=>rid a
 | .scope a=>rid a
 | .loop a=>rid a
 |_=>none
def liveOf(an:Ann)(c:Code):Option (List Nat):=match rid c with
 |some i=>an.loops.lookup i
 |none=>none
def loopN(f:St→Option (E×St))(lv:Option (List Nat)):Nat→St→Option (E×St)
 |0,_=>none
 |n+1,s=>match f s with
  |some (.norm,s')=>loopN f lv n (headOf lv s')
  |r=>r
@[irreducible] def bigL:Nat:=2^70
theorem bigL_ge:2^64≤bigL:=by unfold bigL;decide
def drawN(an:Ann)(id:Nat):Nat:=match an.draws.lookup id with
 |some m=>m
 |none=>0
def finE(an:Ann)(l:List Oper)(s:St):St:=endR an s l
def tailN(an:Ann)(draw:Bool)(id:Nat):Option Tr:=if draw=true then an.tails.lookup id else none
noncomputable def runR(P:Program)(call:CT)(an:Ann)(N id:Nat)(ops:Array Oper)(draw:Bool)(s:St):Option St:=
 match tailN an draw id with
 |some tr=>match runFree P call N ops (drawN an id) 0 (ops.toList.take (drawN an id)) s with
  |some s1=>runTl P call an N ops (finE an ops.toList) tr s1
  |none=>none
 |none=>match(if draw=true then runDraw P call an N ops (drawN an id) 0 ops.toList s else runSeq P call an N ops ops.toList s) with
  |some s'=>some (endR an s' ops.toList)
  |none=>none
def itHead(ops:Array Oper):Option (Nat×Nat):=match ops.toList with
 |o::_=>match o.dst,o.op,o.guard with
  |some t,.next (.tmp it) false,none=>some (t,it)
  |_,_,_=>none
 |[]=>none
def itOf:Code→Option (Nat×Nat×Array Oper×Code)
 | .seq (.region _ ops false) y=>match itHead ops with
  |some (t,it)=>some (t,it,ops,y)
  |none=>none
 |_=>none
def itSt(s:St)(it:Nat)(es l:Es):St:=⟨setT s.t it (.it es l),s.h⟩
def itStep(s:St)(t it:Nat)(es l:Es)(e:Value×Value):St:=⟨setT (setT s.t it (.it es (e::l))) t (.tup [.x (.bool true),.x e.1,.x e.2]),s.h⟩
def itOver(s:St)(t it:Nat)(es l:Es):St:=⟨setT (setT s.t it (.it es l)) t (.tup [.x (.bool false)]),s.h⟩
def ItCont(f:St→Option (E×St))(lv:Option (List Nat))(s:St)(t it:Nat)(es l:Es)(e:Value×Value):Prop:=∃s',f (itStep s t it es l e)=some (.norm,s')∧headOf lv s'=itSt s it es (e::l)
def ItRes(f:St→Option (E×St))(lv:Option (List Nat))(s:St)(t it:Nat)(es:Es)(R:E×St):Prop:=
 (∀s',R≠(.norm,s'))∧(∀l,∀e∈es,ItCont f lv s t it es l e∨f (itStep s t it es l e)=some R)∧
  (((∀l,∀e∈es,ItCont f lv s t it es l e)∧∀l,f (itOver s t it es l)=some R)∨∃e∈es,∀l,f (itStep s t it es l e)=some R)
noncomputable def itLoop(N:Nat)(f:St→Option (E×St))(lv:Option (List Nat))(t it:Nat)(s:St):Option (E×St):=match getT s.t it with
 | .it es []=>open Classical in if h:(t<N∧it<N∧t≠it∧noItT it s.t=true∧noItH s.h=true)∧∃R,ItRes f lv s t it es R then some (Classical.choose h.2) else none
 |_=>none
noncomputable def runC(P:Program)(call:CT)(an:Ann)(N:Nat):Code→St→Option (E×St)
 | .skip,s=>some (.norm,s)
 | .region id ops draw,s=>match runR P call an N id ops draw s with
  |some s'=>some (.norm,s')
  |none=>none
 | .seq x y,s=>match runC P call an N x s with
  |some (.norm,s')=>runC P call an N y s'
  |r=>r
 | .cond (.tmp t) x y,s=>match getT s.t t with
  | .x (.bool b)=>if b=true then runC P call an N x (if an.cond.contains t=true then⟨delT s.t t,s.h⟩ else s) else runC P call an N y (if an.cond.contains t=true then⟨delT s.t t,s.h⟩ else s)
  |_=>none
 | .block id c,s=>match runC P call an N c s with
  |some (.ex i,s')=>if i=id then some (.norm,s') else some (.ex i,s')
  |r=>r
 | .loop (.seq (.region id ops false) y),s=>match itHead ops with
  |some (t,it)=>itLoop N (fun s=>match runSeq P call an N ops ops.toList.tail s with
   |some s'=>runC P call an N y (endR an s' ops.toList)
   |none=>none) (liveOf an (.seq (.region id ops false) y)) t it (headOf (liveOf an (.seq (.region id ops false) y)) s)
  |none=>loopN (runC P call an N (.seq (.region id ops false) y)) (liveOf an (.seq (.region id ops false) y)) bigL (headOf (liveOf an (.seq (.region id ops false) y)) s)
 | .loop c,s=>loopN (runC P call an N c) (liveOf an c) bigL (headOf (liveOf an c) s)
 | .exit id,s=>some (.ex id,headOf (an.exits.lookup id) s)
 | .ret,s=>some (.ret,headOf an.rets s)
 | .scope c,s=>runC P call an N c s
 | .label _,s=>some (.norm,s)
 |_,_=>none
def okCode(an:Ann):Code→Bool
 | .region id ops draw=>!draw||(match an.tails.lookup id with
  |some tr=>okDraw2 ops (drawN an id) tr
  |none=>okDraw ops (drawN an id))
 | .seq a b=>okCode an a&&okCode an b
 | .cond _ a b=>okCode an a&&okCode an b
 | .block _ a=>okCode an a
 | .scope a=>okCode an a
 | .loop a=>okCode an a
 |_=>true
section
variable {P:Program}{B:Nat}{N:Nat}{w0:Bs}{call:CT}{an:Ann}
theorem clearT_get(lv:List Nat)(l:List (Nat×D))(t:Nat):getT (clearT lv l) t=getT l t∨getT (clearT lv l) t= .any:=by
 induction l with
 |nil=>exact .inl rfl
 |cons p r ih=>
  obtain⟨k,d⟩:=p
  simp only[clearT,getT]
  split
  ·split
   ·exact .inl rfl
   ·exact .inr rfl
  ·exact ih
theorem dropIds_sound{a:Act}{w:World}(lv:List Nat):∀(l:List (Nat×O)) (s:St),SRel N B w0 s a w→SRel N B w0 (dropIds lv s l) a w
 |[],_,h=>h
 |(k,o)::r,s,h=>by
  unfold dropIds
  split
  ·exact dropIds_sound lv r s h
  ·exact dropIds_sound lv r _ (h.drop k)
theorem headOf_sound{a:Act}{w:World}(lv:Option (List Nat)){s:St}(h:SRel N B w0 s a w):SRel N B w0 (headOf lv s) a w:=by
 unfold headOf
 split
 ·exact h
 ·rename_i l
  refine dropIds_sound l s.h _ ?_
  obtain⟨ι,hrel⟩:=h
  exact⟨ι,hrel.weak (fun t=>clearT_get l s.t t)⟩
theorem endR_sound{a:Act}{w:World}:∀(ops:List Oper) (s:St),SRel N B w0 s a w→SRel N B w0 (endR an s ops) a w
 |[],_,h=>h
 |o::r,s,h=>by
  unfold endR
  split
  ·rename_i t _
   split
   ·exact endR_sound r s h
   ·split
    ·exact endR_sound r _ (h.del t)
    ·split
     ·exact endR_sound r _ (h.del t)
     ·exact endR_sound r _ ((h.dropB t).del t)
  ·exact endR_sound r s h
noncomputable def itRest(P:Program)(call:CT)(an:Ann)(N:Nat)(ops:Array Oper)(y:Code)(s:St):Option (E×St):=match runSeq P call an N ops ops.toList.tail s with
 |some s'=>runC P call an N y (endR an s' ops.toList)
 |none=>none
noncomputable def loopX(P:Program)(call:CT)(an:Ann)(N:Nat)(c:Code)(lv:Option (List Nat))(n:Nat)(s:St):Option (E×St):=match itOf c with
 |some (t,it,ops,y)=>itLoop N (itRest P call an N ops y) lv t it s
 |none=>loopN (runC P call an N c) lv n s
theorem runC_loop(c:Code)(s:St):runC P call an N (.loop c) s=loopX P call an N c (liveOf an c) bigL (headOf (liveOf an c) s):=by
 unfold loopX
 cases c with
 |seq x y=>
  cases x with
  |region id ops draw=>
   cases draw with
   |true=>simp only[runC,itOf]
   |false=>
    simp only[itOf]
    rw[runC]
    cases itHead ops with
    |none=>rfl
    |some p=>rfl
  |_=>simp only[runC,itOf]
 |_=>simp only[runC,itOf]
theorem itOf_some{c y:Code}{t it:Nat}{ops:Array Oper}(h:itOf c=some (t,it,ops,y)):∃id,c= .seq (.region id ops false) y∧itHead ops=some (t,it):=by
 unfold itOf at h
 split at h
 ·rename_i id ops' y'
  split at h
  ·rename_i t' it' hh
   cases h
   exact⟨id,rfl,hh⟩
  ·cases h
 ·cases h
theorem itLoop_inv{f:St→Option (E×St)}{lv:Option (List Nat)}{s:St}{t it:Nat}{R:E×St}(h:itLoop N f lv t it s=some R):∃es,getT s.t it= .it es []∧(t<N∧it<N∧t≠it∧noItT it s.t=true∧noItH s.h=true)∧ItRes f lv s t it es R:=by
 unfold itLoop at h
 split at h
 ·rename_i es hs
  split at h
  ·rename_i hx
   cases h
   exact⟨es,hs,hx.1,Classical.choose_spec hx.2⟩
  ·cases h
 ·cases h
def PostC(N B:Nat)(w0:Bs)(e:E)(s:St):Exit→Act→World→Prop:=fun x a w=>x=e.toExit∧SRel N B w0 s a w
theorem loopN_sound{c:Code}{f:St→Option (E×St)}{lv:Option (List Nat)}{e:E}{s':St}(hf:∀s e s' a w,f s=some (e,s')→SRel N B w0 s a w→c.wp P (PostC N B w0 e s') a w)(n:Nat){s:St}{a:Act}{w:World}
  (h:loopN f lv n s=some (e,s'))(hrel:SRel N B w0 s a w):(Code.loop c).wp P (PostC N B w0 e s') a w:=by
 refine wp_loop_ghost (fun n a w=>∃s,loopN f lv n s=some (e,s')∧SRel N B w0 s a w) n ⟨s,h,hrel⟩ ?_
 rintro n a w ⟨s,h,hrel⟩
 cases n with
 |zero=>cases h
 |succ n=>
  unfold loopN at h
  split at h
  ·rename_i s1 h1
   refine wp_mono (hf _ _ _ a w h1 hrel) ?_
   rintro x a' w' ⟨rfl,hr⟩
   exact⟨n,by omega,_,h,headOf_sound lv hr⟩
  ·rename_i hne
   rw[h] at hne
   refine wp_mono (hf _ _ _ a w h hrel) ?_
   rintro x a' w' ⟨rfl,hr⟩
   cases e with
   |norm=>exact absurd rfl (hne s')
   |ex id=>exact⟨rfl,hr⟩
   |ret=>exact⟨rfl,hr⟩
theorem nodup_le{α:Type}:∀{l es:List α},l.Nodup→(∀e∈l,e∈es)→l.length≤es.length
 |[],es,_,_=>Nat.zero_le _
 |a::r,es,hn,hs=>by
  obtain⟨p,q,rfl⟩:=List.append_of_mem (hs a (by simp))
  obtain⟨h1,h2⟩:=List.nodup_cons.1 hn
  have:=nodup_le (l:=r) (es:=p++q) h2 (fun e he=>by
   have:=hs e (by simp[he])
   simp only[List.mem_append,List.mem_cons] at this⊢
   rcases this with h|rfl|h
   ·exact .inl h
   ·exact absurd he h1
   ·exact .inr h)
  simp at this⊢
  omega
theorem next_sound{ι:Inj}{s:St}{t it:Nat}{es l:Es}{a:Act}{w:World}(ty:TypeId)(hrel:Rel N B w0 ι (getT (itSt s it es l).t) (getH s.h) a w)(ht:t<N)(hne:t≠it)(h1:noItT it s.t=true)(h2:noItH s.h=true):
  ((∀e∈es,e∈l)∧∃v,(Instr.next (a.eval (.tmp it)) false ty).run P w= .ok v w∧Rel N B w0 ι (getT (itOver s t it es l).t) (getH s.h) (a.put (some t) v) w)∨
  ∃e∈es,e∉l∧∃v w',(Instr.next (a.eval (.tmp it)) false ty).run P w= .ok v w'∧Rel N B w0 ι (getT (itStep s t it es l e).t) (getH s.h) (a.put (some t) v) w':=by
 have hv:=hrel.tmp it
 rw[show getT (itSt s it es l).t it= .it es l by simp[itSt,getT_set]] at hv
 have hv':=(hv.one_inv (fun _ e=>by cases e)).resolve_right (fun h=>h.elim)
 have hev:a.eval (.tmp it)=a.tmps.getD it undef:=rfl
 rw[hev]
 obtain⟨vit,hvit⟩:∃u,a.tmps.getD it undef=u:=⟨_,rfl⟩
 rw[hvit] at hv'⊢
 cases hv' with
 | @it r b ms ck since c0 seen _ _ hb hb2 hr hh hm ho hs hk hl=>
  have hmem:∀e,e∈es↔∃x∈ms.toList,(x.key,x.val)=e:=fun e=>by
   rw[←hm.1.mem_iff,List.mem_map]
  rcases run_next_at (P:=P) w ty r b since c0 seen ms ck hr hh ho hs with⟨h0,hrun⟩|⟨x,hx,w1,hal,hrun⟩
  ·refine .inl ⟨fun e he=>?_,_,hrun, ?_⟩
   ·obtain⟨x,hx,rfl⟩:=(hmem e).1 he
    exact(hl.1 x hx).1 (all_seen ms seen h0 x hx)
   ·have:=hrel.put ht (v:= .tuple #[.bool false]) (d:= .tup [.x (.bool false)]) (.inl (.inl (.tup rfl (fun i c d hc hd=>by
     match i,hc,hd with
     |0,hc,hd=>cases hc;cases hd;exact .x _))))
    simpa only[itOver,itSt,getT_set] using this
  ·obtain⟨hxm,hxs⟩:=mem_left hx
   have hnl:(x.key,x.val)∉l:=fun h=>by
    rw[(hl.1 x hxm).2 h] at hxs
    cases hxs
   refine .inr ⟨(x.key,x.val),(hmem _).2 ⟨x,hxm,rfl⟩,hnl,_,_,hrun, ?_⟩
   have hr1:w1.heap[r]? =some (.mapIter (some b) since seen c0):=by rcases hal with rfl|rfl<;>exact hr
   have hrb:r≠b:=by
    rintro rfl
    rw[hr] at hh
    cases hh
   have hw1:w1.heap=w.heap:=by rcases hal with rfl|rfl<;>rfl
   have hst:ItStep w (ChangeMaps.setBlock w1 r (.mapIter (some b) since (seen.push x.born) ck)) r:=by
    refine⟨⟨_,_,_,_,hr⟩,fun k hk=>?_,by simp[ChangeMaps.setBlock,hw1], ?_, ?_, ?_⟩
    ·simp only[ChangeMaps.setBlock,hw1]
     rw[Array.getElem?_setIfInBounds_ne (Ne.symm hk)]
    all_goals rcases hal with rfl|rfl<;>rfl
   have hlt:=(Array.getElem?_eq_some_iff.1 hr).1
   have hnew:(ChangeMaps.setBlock w1 r (.mapIter (some b) since (seen.push x.born) ck)).heap[r]? =some (.mapIter (some b) since (seen.push x.born) ck):=by
    simp[ChangeMaps.setBlock,hw1,hlt]
   have hrel':=Rel.itStep hst hrel hb.1 (upd (getT (itSt s it es l).t) it (.it es ((x.key,x.val)::l))) (fun q=>by
    by_cases hq:q=it
    ·subst hq
     refine .inr ?_
     rw[upd_same]
     rw[hvit]
     refine .inl (.inl (.it hb hb2 hnew (hst.cells hh (fun _ _ _ _ e=>by cases e)) hm ho hk hk ⟨fun y hy=>?_,fun e rest he=>?_⟩))
     ·have hnd:=(MapKept.stamped_iff ms ck).1 hm.2
      rw[Array.contains_push,Bool.or_eq_true,List.mem_cons,hl.1 y hy]
      constructor
      ·rintro(h|h)
       ·exact .inr h
       ·refine .inl ?_
        rw[born_inj hnd.2.1 hy hxm (by have:=eq_of_beq h;omega)]
      ·rintro(h|h)
       ·refine .inr ?_
        rw[entry_eq_of_key hnd.2.2 hy hxm (congrArg Prod.fst h)]
        simp
       ·exact .inl h
     ·cases he
      exact⟨rfl,seen,x,rfl,hxm,rfl⟩
    ·refine .inl ?_
     rw[upd_ne _ _ hq]
     refine⟨rfl, ?_⟩
     simp only[itSt,getT_set]
     rw[upd_ne _ _ hq]
     exact noItT_get h1 q hq) (fun id ty cs hi=>noItH_get h2 id ty cs hi)
   have:=hrel'.put ht (v:= .tuple #[.bool true,x.key,x.val]) (d:= .tup [.x (.bool true),.x x.key,.x x.val]) (.inl (.inl (.tup rfl (fun i c d hc hd=>by
    match i,hc,hd with
    |0,hc,hd=>cases hc;cases hd;exact .x _
    |1,hc,hd=>cases hc;cases hd;exact .x _
    |2,hc,hd=>cases hc;cases hd;exact .x _))))
   simpa only[itStep,itSt,getT_set,upd_upd] using this
def SoundC(P:Program)(call:CT)(an:Ann)(N B:Nat)(w0:Bs)(c:Code):Prop:=okCode an c=true→∀(s:St) (e:E) (s':St) (a:Act) (w:World),runC P call an N c s=some (e,s')→SRel N B w0 s a w→c.wp P (PostC N B w0 e s') a w
theorem itLoop_sound(hcall:CTok P call)(hG:w0.G=call.g){id t it:Nat}{ops:Array Oper}{y:Code}(hh:itHead ops=some (t,it))(hy:SoundC P call an N B w0 y)(hok:okCode an y=true){lv:Option (List Nat)}{s:St}{e:E}{s':St}{a:Act}{w:World}
  (h:itLoop N (itRest P call an N ops y) lv t it s=some (e,s'))(hrel:SRel N B w0 s a w):(Code.loop (.seq (.region id ops false) y)).wp P (PostC N B w0 e s') a w:=by
 obtain⟨es,hs,⟨ht,hit,hne,h1,h2⟩,hn,hc,hd⟩:=itLoop_inv h
 have hst:getT (itSt s it es []).t=getT s.t:=by
  funext q
  simp only[itSt,getT_set]
  by_cases hq:q=it
  ·subst hq;simp[hs]
  ·rw[upd_ne _ _ hq]
 refine wp_loop_ghost (fun n a w=>∃l,SRel N B w0 (itSt s it es l) a w∧l.Nodup∧(∀e∈l,e∈es)∧es.length<n+l.length∧∀e∈l,∃l',ItCont (itRest P call an N ops y) lv s t it es l' e) (es.length+1) ⟨[], ?_,.nil,by simp,by simp,by simp⟩ ?_
 ·obtain⟨ι,hr⟩:=hrel
  exact⟨ι,by rw[hst];exact hr⟩
 rintro n a w ⟨l,⟨ι,hr⟩,hnd,hsub,hlen,hcont⟩
 obtain⟨o,tl,hops,hdst,hop,hgd⟩:∃o tl,ops.toList=o::tl∧o.dst=some t∧o.op= .next (.tmp it) false∧o.guard=none:=by
  unfold itHead at hh
  split at hh
  ·rename_i o tl hops
   split at hh
   ·rename_i t' it' e1 e2 e3
    cases hh
    exact⟨o,tl,hops,e1,e2,e3⟩
   ·cases hh
  ·cases hh
 have hsz:ops.size=tl.length+1:=by rw[←Array.length_toList,hops];rfl
 have h0:ops[0]? =some o:=by rw[←Array.getElem?_toList,hops];rfl
 apply wp_seq
 apply wp_region
 rw[List.range_eq_range',hsz,List.range'_succ,wpOps_cons]
 unfold wpOp
 simp only[h0]
 rw[if_pos (guard_sound hr (by rw[hgd];rfl))]
 refine .inl ?_
 have fin:∀(s1:St) (e1:E) (s3:St) (a1:Act) (w1:World) (K:Exit→Act→World→Prop),itRest P call an N ops y s1=some (e1,s3)→SRel N B w0 s1 a1 w1→(∀a w,SRel N B w0 s3 a w→K e1.toExit a w)→
   wpOps P ops (Exit.then (y.wp P K) K) (List.range' (0+1) tl.length) a1 w1:=by
  intro s1 e1 s3 a1 w1 K hf hr1 hK
  unfold itRest at hf
  split at hf
  ·rename_i s2 hs2
   rw[hops] at hs2
   refine runSeq_sound hcall hG (Q:=Exit.then (y.wp P K) K) (fun a' w' hr2=>?_) tl (0+1) s1 a1 w1 (fun j=>?_) hr1 hs2
   ·show y.wp P K a' w'
    refine wp_mono (hy hok _ _ _ a' w' hf (endR_sound _ _ hr2)) ?_
    rintro ex a3 w3 ⟨rfl,hr3⟩
    exact hK a3 w3 hr3
   ·rw[←Array.getElem?_toList,hops,show 0+1+j=j+1 by omega,List.getElem?_cons_succ]
  ·cases hf
 rcases next_sound (P:=P) o.type hr ht hne h1 h2 with⟨hall,v,hrun,hr'⟩|⟨e0,he,hnl,v,w',hrun,hr'⟩
 ·have hR:itRest P call an N ops y (itOver s t it es l)=some (e,s'):=by
   rcases hd with⟨_,ho⟩|⟨e0,he0,hx⟩
   ·exact ho l
   ·obtain⟨l',s1,hs1,_⟩:=hcont e0 (hall e0 he0)
    rw[hx l'] at hs1
    cases hs1
    exact absurd rfl (hn _)
  simp only[Oper.wp,execOp,hop,Sem.run_bind,hrun,Result.andThen_ok,Sem.run_pure]
  rw[Oper.upon_value,hdst]
  refine fin _ _ _ _ _ _ hR ⟨ι,hr'⟩ (fun a w hrf=>?_)
  cases e with
  |norm=>exact absurd rfl (hn s')
  |ex id=>exact⟨rfl,hrf⟩
  |ret=>exact⟨rfl,hrf⟩
 ·simp only[Oper.wp,execOp,hop,Sem.run_bind,hrun,Result.andThen_ok,Sem.run_pure]
  rw[Oper.upon_value,hdst]
  rcases hc l e0 he with hcn|hR
  ·have hcn':=hcn
   obtain⟨s1,hs1,hs2⟩:=hcn'
   refine fin _ _ _ _ _ _ hs1 ⟨ι,hr'⟩ (fun a w hrf=>?_)
   have hsub':∀e∈e0::l,e∈es:=fun e hm=>by
    rcases List.mem_cons.1 hm with rfl|hm
    ·exact he
    ·exact hsub e hm
   have hnd':(e0::l).Nodup:=List.nodup_cons.2 ⟨hnl,hnd⟩
   have hle:=nodup_le hnd' hsub'
   simp only[List.length_cons] at hle
   refine⟨n-1,by omega,e0::l, ?_,hnd',hsub',by simp only[List.length_cons];omega,fun e hm=>?_⟩
   ·rw[←hs2]
    exact headOf_sound lv hrf
   ·rcases List.mem_cons.1 hm with rfl|hm
    ·exact⟨l,hcn⟩
    ·exact hcont e hm
  ·refine fin _ _ _ _ _ _ hR ⟨ι,hr'⟩ (fun a w hrf=>?_)
   cases e with
   |norm=>exact absurd rfl (hn s')
   |ex id=>exact⟨rfl,hrf⟩
   |ret=>exact⟨rfl,hrf⟩
theorem runC_sound2(hmix:P.follows .mixedOrders=true)(hcall:CTok P call)(hG:w0.G=call.g):∀(c:Code),SoundC P call an N B w0 c∧∀x y,c= .seq x y→SoundC P call an N B w0 y:=by
 intro c
 induction c with
 |skip=>
  refine⟨?_,fun _ _ e=>by cases e⟩
  intro _ s e s' a w h hrel
  cases h
  exact wp_skip ⟨rfl,hrel⟩
 |region id ops draw=>
  refine⟨?_,fun _ _ e=>by cases e⟩
  intro hok s e s' a w h hrel
  unfold runC at h
  split at h
  ·rename_i s1 h1
   cases h
   unfold runR at h1
   split at h1
   ·rename_i tr htr
    split at h1
    ·rename_i s2 h2
     unfold tailN at htr
     cases draw with
     |true=>
      simp only[if_true] at htr
      refine draw2_sound hmix (tr:=tr) (by simpa[okCode,htr] using hok) hcall hG (fun s a w hr=>endR_sound _ _ hr) hrel h2 h1 (fun c a w h=>by cases h.1) (fun a' w' hr=>⟨rfl,hr⟩)
     |false=>simp at htr
    ·cases h1
   ·rename_i htr
    split at h1
    ·rename_i s2 h2
     cases h1
     cases draw with
     |true=>
      unfold tailN at htr
      simp only[if_true] at htr h2
      exact draw_sound hmix (by simpa[okCode,htr] using hok) hcall hG hrel h2 (fun a' w' hr=>⟨rfl,endR_sound _ _ hr⟩)
     |false=>
      simp only[Bool.false_eq_true,if_false] at h2
      exact region_sound hcall hG hrel h2 (fun a' w' hr=>⟨rfl,endR_sound _ _ hr⟩)
    ·cases h1
  ·cases h
 |seq x y ihx ihy=>
  refine⟨?_,fun _ _ e=>by cases e;exact ihy.1⟩
  replace ihx:=ihx.1
  replace ihy:=ihy.1
  intro hok s e s' a w h hrel
  simp only[okCode,Bool.and_eq_true] at hok
  unfold runC at h
  apply wp_seq
  split at h
  ·rename_i s1 h1
   refine wp_mono (ihx hok.1 s _ _ a w h1 hrel) ?_
   rintro ex a' w' ⟨rfl,hr⟩
   exact ihy hok.2 s1 e s' a' w' h hr
  ·rename_i hne
   rw[h] at hne
   refine wp_mono (ihx hok.1 s _ _ a w h hrel) ?_
   rintro ex a' w' ⟨rfl,hr⟩
   cases e with
   |norm=>exact absurd rfl (hne s')
   |ex id=>exact⟨rfl,hr⟩
   |ret=>exact⟨rfl,hr⟩
 |cond c x y ihx ihy=>
  refine⟨?_,fun _ _ e=>by cases e⟩
  replace ihx:=ihx.1
  replace ihy:=ihy.1
  intro hok s e s' a w h hrel
  simp only[okCode,Bool.and_eq_true] at hok
  cases c with
  |tmp t=>
   simp only[runC] at h
   split at h
   ·rename_i b hb
    have hc:a.eval (.tmp t)= .bool b:=by
     obtain⟨ι,hr⟩:=hrel
     have:=hr.tmp t
     rw[hb] at this
     exact this.x_inv
    have hrel':SRel N B w0 (if an.cond.contains t=true then⟨delT s.t t,s.h⟩ else s) a w:=by
     split
     ·exact hrel.del t
     ·exact hrel
    refine wp_cond hc ?_
    cases b
    ·simp only[Bool.false_eq_true,if_false] at h⊢
     exact ihy hok.2 _ e s' a w h hrel'
    ·simp only[if_true] at h⊢
     exact ihx hok.1 _ e s' a w h hrel'
   ·cases h
  |const v=>simp[runC] at h
  |global g=>simp[runC] at h
  |func f=>simp[runC] at h
 |block id c ih=>
  refine⟨?_,fun _ _ e=>by cases e⟩
  replace ih:=ih.1
  intro hok s e s' a w h hrel
  unfold runC at h
  apply wp_block
  split at h
  ·rename_i i s1 h1
   refine wp_mono (ih hok s _ _ a w h1 hrel) ?_
   rintro ex a' w' ⟨rfl,hr⟩
   split at h
   ·rename_i hi
    cases h
    simp only[E.toExit,Exit.inBlock,hi,if_true]
    exact⟨rfl,hr⟩
   ·rename_i hi
    cases h
    simp only[E.toExit,Exit.inBlock,hi,if_false]
    exact⟨rfl,hr⟩
  ·rename_i hne
   rw[h] at hne
   refine wp_mono (ih hok s _ _ a w h hrel) ?_
   rintro ex a' w' ⟨rfl,hr⟩
   cases e with
   |norm=>exact⟨rfl,hr⟩
   |ex id=>exact absurd rfl (hne id s')
   |ret=>exact⟨rfl,hr⟩
 |loop c ih=>
  refine⟨?_,fun _ _ e=>by cases e⟩
  intro hok s e s' a w h hrel
  rw[runC_loop] at h
  unfold loopX at h
  split at h
  ·rename_i t it ops y hit
   obtain⟨id,rfl,hh⟩:=itOf_some hit
   have hok':okCode an y=true:=by
    simp only[okCode,Bool.and_eq_true] at hok
    exact hok.2
   exact itLoop_sound hcall hG hh (ih.2 _ _ rfl) hok' h (headOf_sound _ hrel)
  ·exact loopN_sound (fun s e s' a w h hr=>ih.1 hok s e s' a w h hr) bigL h (headOf_sound _ hrel)
 |exit id=>
  refine⟨?_,fun _ _ e=>by cases e⟩
  intro _ s e s' a w h hrel
  cases h
  exact wp_exit ⟨rfl,headOf_sound _ hrel⟩
 |ret=>
  refine⟨?_,fun _ _ e=>by cases e⟩
  intro _ s e s' a w h hrel
  cases h
  exact wp_ret ⟨rfl,headOf_sound _ hrel⟩
 |rangeFunc f ps asg b _ _=>exact⟨fun _ s e s' a w h hrel=>by simp[runC] at h,fun _ _ e=>by cases e⟩
 |scope b ih=>
  refine⟨?_,fun _ _ e=>by cases e⟩
  replace ih:=ih.1
  intro hok s e s' a w h hrel
  unfold runC at h
  apply wp_scope_straight
  refine wp_mono (ih hok s e s' a w h hrel) ?_
  rintro x a' w' ⟨rfl,hr⟩
  cases e with
  |norm=>exact⟨rfl,hr⟩
  |ex id=>exact⟨rfl,hr⟩
  |ret=>exact⟨rfl,hr⟩
 |label l=>
  refine⟨?_,fun _ _ e=>by cases e⟩
  intro _ s e s' a w h hrel
  cases h
  exact wp_label ⟨rfl,hrel⟩
 |goto l=>exact⟨fun _ s e s' a w h hrel=>by simp[runC] at h,fun _ _ e=>by cases e⟩
 |refuse y=>exact⟨fun _ s e s' a w h hrel=>by simp[runC] at h,fun _ _ e=>by cases e⟩
theorem runC_sound(hmix:P.follows .mixedOrders=true)(hcall:CTok P call)(hG:w0.G=call.g)(c:Code):SoundC P call an N B w0 c:=(runC_sound2 hmix hcall hG c).1
def exp1(η:Nat→Option O):D→Option D
 | .row id=>match η id with
  |some (.row _ _ fl es)=>some (.own fl es)
  |_=>none
 | .emp=>some (.own true [])
 | .own fl es=>some (.own fl es)
 | .sl es=>some (.sl es)
 | .x v=>some (.x v)
 | .elt cs=>some (.elt cs)
 | .any=>some .any
 |_=>none
def expC(η:Nat→Option O):List D→Option (List D)
 |[]=>some []
 |d::r=>match exp1 η d,expC η r with
  |some d',some r'=>some (d'::r')
  |_,_=>none
def expD(η:Nat→Option O):D→Option D
 | .agg cs=>match expC η cs with
  |some cs'=>some (.agg cs')
  |none=>none
 |d=>exp1 η d
def resV(P:Program)(s:St):ResultVar→Option D
 | .tmp t=>expD (getH s.h) (getT s.t t)
 | .cell p ty=>match loadD P (getH s.h) ty (getT s.t p) with
  |some d=>expD (getH s.h) d
  |none=>none
def resVs(P:Program)(s:St):List ResultVar→Option (List D)
 |[]=>some []
 |v::r=>match resV P s v,resVs P s r with
  |some d,some ds=>some (d::ds)
  |_,_=>none
def resultD(P:Program)(s:St)(vs:List ResultVar):Option D:=match resVs P s vs with
 |some [d]=>some d
 |some ds=>some (.tup ds)
 |none=>none
def argsT:Nat→List D→List (Nat×D)
 |_,[]=>[]
 |k,d::r=>(k,d)::argsT (k+1) r
def keepT(n:Nat):List Nat→List (Nat×D)
 |[]=>[]
 |k::r=>if k<n then keepT n r else(k,.any)::keepT n r
def init(an:Ann)(ds:List D):St:=⟨argsT 0 ds++keepT ds.length an.keep,[]⟩
noncomputable def runF(P:Program)(call:CT)(an:Ann)(N:Nat)(body:Code)(results:List ResultVar)(ds:List D):Option D:=
 if ds.length≤N then
  match runC P call an N body (init an ds) with
  |some (.norm,s)=>resultD P s results
  |some (.ret,s)=>resultD P s results
  |_=>none
 else none
end
end Go.Abs
namespace Go.Abs
open Go Go.RowKit
section
variable {P:Program}{B:Nat}{N:Nat}{w0:Bs}{w:World}{call:CT}{an:Ann}{ι:Inj}{ρ:Nat→D}{η:Nat→Option O}{a:Act}
theorem exp_imm{v:Value}{d:D}(h:RepI w (okB ι) (frB B ι) v d):RepI w ι.K (wrB B ι) v d:=
 h.mono (Nat.le_refl _) (fun _ _ ho=>⟨ho.1,rfl⟩) (fun _ _ ho=>⟨ho.1,rfl⟩)
theorem exp1_sound(hrel:Rel N B w0 ι ρ η a w){v:Value}{d d':D}(h:Rep1 w B ι v d)(hd:exp1 η d=some d'):RepI w ι.K (wrB B ι) v d':=by
 unfold exp1 at hd
 split at hd
 ·rename_i id
  split at hd
  ·rename_i e sz fl es hη
   cases hd
   obtain⟨hι,_⟩:=row_inv (.inl h)
   have:=hrel.freeze_rep hη hι
   exact this.mono (Nat.le_refl _) (fun _ _ ho=>⟨ho.1,rfl⟩) (fun _ _ ho=>⟨ho.1,rfl⟩)
  ·cases hd
 ·cases hd
  have h:=h.resolve_right (fun h=>h.elim)
  cases h
  exact .own0 _ _ _
 ·cases hd;exact exp_imm (h.resolve_right (fun h=>h.elim))
 ·cases hd;exact exp_imm (h.resolve_right (fun h=>h.elim))
 ·cases hd;exact exp_imm (h.resolve_right (fun h=>h.elim))
 ·cases hd;exact exp_imm (h.resolve_right (fun h=>h.elim))
 ·cases hd;exact .any _
 ·cases hd
theorem expC_sound(hrel:Rel N B w0 ι ρ η a w):∀(ds ds':List D),expC η ds=some ds'→ds'.length=ds.length∧∀(i:Nat) (d d':D) (c:Value),ds[i]? =some d→ds'[i]? =some d'→Rep1 w B ι c d→RepI w ι.K (wrB B ι) c d'
 |[],ds',h=>by cases h;exact⟨rfl,fun i d d' c h=>by simp at h⟩
 |d::r,ds',h=>by
  unfold expC at h
  split at h
  ·rename_i x y hx hy
   cases h
   obtain⟨h1,h2⟩:=expC_sound hrel r y hy
   refine⟨by simp[h1],fun i e e' c hi hi' hc=>?_⟩
   cases i with
   |zero=>simp at hi hi';subst hi hi';exact exp1_sound hrel hc hx
   |succ i=>exact h2 i e e' c (by simpa using hi) (by simpa using hi') hc
  ·cases h
theorem expD_sound(hrel:Rel N B w0 ι ρ η a w){v:Value}{d d':D}(h:Rep w B ι v d)(hd:expD η d=some d'):RepI w ι.K (wrB B ι) v d':=by
 by_cases ha:∃cs,d= .agg cs
 ·obtain⟨cs,rfl⟩:=ha
  unfold expD at hd
  simp only at hd
  split at hd
  ·rename_i cs' hc
   cases hd
   obtain⟨vs,rfl,hl,hcs⟩:=h.agg_inv
   obtain⟨h1,h2⟩:=expC_sound hrel cs cs' hc
   refine .agg (by omega) (fun i c e hi he=>?_)
   have hlt:=(List.getElem?_eq_some_iff.1 he).1
   have hcs':cs[i]? =some (cs[i]'(by omega)):=List.getElem?_eq_getElem (by omega)
   exact h2 i _ e c hcs' he (hcs i c _ hi hcs')
  ·cases hd
 ·have e1:expD η d=exp1 η d:=by cases d<;>first|rfl|exact absurd ⟨_,rfl⟩ ha
  rw[e1] at hd
  exact exp1_sound hrel (h.one_inv (fun ds e=>ha ⟨ds,e⟩) (by rintro ds rfl;cases hd)) hd
theorem load_ptr{t:TypeId}{x d:D}{v:Value}(h:loadD P η t x=some d)(hx:Rep w B ι v x):∃A,v= .pointer (some A):=by
 unfold loadD at h
 split at h
 ·obtain⟨b,_,rfl⟩:=hx.ptr_inv;exact⟨_,rfl⟩
 ·obtain⟨A,rfl,_⟩:=elt_cells hx;exact⟨_,rfl⟩
 ·obtain⟨b,n,c,_,rfl⟩:=rel_inv hx;exact⟨_,rfl⟩
 ·cases h
def resultOf(tmps:Array Value):ResultVar→Sem Value
 | .tmp t=>pure (tmps.getD t undef)
 | .cell a t=>do loadVar t (←asAddr (tmps.getD a undef))
theorem resV_sound{s:St}(hrel:Rel N B w0 ι (getT s.t) (getH s.h) a w){rv:ResultVar}{d:D}(h:resV P s rv=some d):∃v,(resultOf a.tmps rv).run P w= .ok v w∧RepI w ι.K (wrB B ι) v d:=by
 cases rv with
 |tmp t=>exact⟨_,by simp[resultOf],expD_sound hrel (hrel.tmp t) h⟩
 |cell p ty=>
  simp only[resV] at h
  split at h
  ·rename_i d0 hd0
   obtain⟨A,hA⟩:=load_ptr hd0 (hrel.tmp p)
   obtain⟨v,hv,hr⟩:=load_sound (P:=P) hrel (hrel.tmp p) hd0
   rw[hA] at hv
   refine⟨v, ?_,expD_sound hrel hr h⟩
   simp only[Instr.loadAt,Instr.sureAddr,Sem.run_bind,Sem.run_pure,Result.andThen_ok] at hv
   simp only[resultOf,hA,asAddr,Sem.run_bind,Sem.run_pure,Result.andThen_ok]
   exact hv
  ·cases h
theorem resVs_sound{s:St}(hrel:Rel N B w0 ι (getT s.t) (getH s.h) a w):∀(vs:List ResultVar) (ds:List D),resVs P s vs=some ds→∃us:List Value,(vs.mapM (resultOf a.tmps)).run P w= .ok us w∧us.length=ds.length∧
  ∀(i:Nat) (u:Value) (d:D),us[i]? =some u→ds[i]? =some d→RepI w ι.K (wrB B ι) u d
 |[],ds,h=>by cases h;exact⟨[],by simp,rfl,fun i u d h=>by simp at h⟩
 |v::r,ds,h=>by
  unfold resVs at h
  split at h
  ·rename_i d ds' hd hds
   cases h
   obtain⟨u,hu,hr⟩:=resV_sound hrel hd
   obtain⟨us,hus,hl,hrs⟩:=resVs_sound hrel r ds' hds
   refine⟨u::us,by simp[List.mapM_cons,hu,hus],by simp[hl],fun i x e hx he=>?_⟩
   cases i with
   |zero=>simp at hx he;subst hx he;exact hr
   |succ i=>exact hrs i x e (by simpa using hx) (by simpa using he)
  ·cases h
theorem results_eq(fn:Func)(tmps:Array Value):results fn tmps=(do
  let vs ←fn.results.mapM (resultOf tmps)
  pure (if h:vs.size=1 then vs[0] else .tuple vs)):=by
 unfold results
 congr 1
theorem result_sound{fn:Func}{s:St}(hrel:Rel N B w0 ι (getT s.t) (getH s.h) a w){d:D}(h:resultD P s fn.results.toList=some d):∃v,(results fn a.tmps).run P w= .ok v w∧RepI w ι.K (wrB B ι) v d:=by
 unfold resultD at h
 have key:∀ds,resVs P s fn.results.toList=some ds→∃us:List Value,(results fn a.tmps).run P w= .ok (if h:us.toArray.size=1 then us.toArray[0] else .tuple us.toArray) w∧us.length=ds.length∧
   ∀(i:Nat) (u:Value) (d:D),us[i]? =some u→ds[i]? =some d→RepI w ι.K (wrB B ι) u d:=by
  intro ds hds
  obtain⟨us,h1,h2,h3⟩:=resVs_sound hrel _ _ hds
  refine⟨us, ?_,h2,h3⟩
  rw[results_eq,Array.mapM_eq_mapM_toList]
  rw[Sem.run_bind,map_eq_pure_bind,Sem.run_bind,h1]
  rfl
 split at h
 ·rename_i d0 hds
  cases h
  obtain⟨us,h1,h2,h3⟩:=key _ hds
  match us,h2 with
  |[u],_=>exact⟨u,by simpa using h1,h3 0 u d rfl rfl⟩
 ·rename_i ds hne hds
  cases h
  obtain⟨us,h1,h2,h3⟩:=key _ hds
  have hl:us.length≠1:=by
   intro e
   rw[h2] at e
   match ds,e with
   |[d0],_=>exact hne d0 rfl
  refine⟨.tuple us.toArray,by rw[h1,dif_neg (by simpa using hl)],.tup (by simpa using h2) (fun i c e hc he=>h3 i c e (by simpa using hc) he)⟩
 ·cases h
theorem argsT_get:∀(ds:List D) (k t:Nat) (r:List (Nat×D)),getT (argsT k ds++r) t=if k≤t∧t<k+ds.length then ds.getD (t-k) .any else getT r t
 |[],k,t,r=>by simp[argsT];intro h1 h2;omega
 |d::ds,k,t,r=>by
  simp only[argsT,List.cons_append,getT]
  by_cases h:k=t
  ·subst h
   simp
  ·rw[if_neg h,argsT_get ds (k+1) t r]
   by_cases h2:k+1≤t∧t<k+1+ds.length
   ·rw[if_pos h2,if_pos (by simp;omega),show t-k=t-(k+1)+1 by omega]
    rfl
   ·rw[if_neg h2,if_neg (by simp;omega)]
theorem keepT_get(n t:Nat):∀ks:List Nat,getT (keepT n ks) t= .any
 |[]=>rfl
 |k::ks=>by
  unfold keepT
  split
  ·exact keepT_get n t ks
  ·simp only[getT]
   split
   ·rfl
   ·exact keepT_get n t ks
theorem contract_of(hmix:P.follows .mixedOrders=true){f:FuncId}{fn:Func}{body:Code}(hf:P.funcs[f]? =some fn)(hb:fn.body=some body)(hname:(fn.name== "runtime.NumGoroutine")=false)(hok:okCode an body=true)
  (hN:fn.ntmps≤1000)(hcall:CTok P call){ds:List D}{r:D}(h:runF P call an fn.ntmps body fn.results.toList ds=some r):Contract P call.g f ds r:=by
 refine⟨fun args w=>?_,fun w ok args hglob hargs=>?_⟩
 ·have hn:¬fn.name= "runtime.NumGoroutine" :=by simpa using hname
  simp[callFunc,hf,hn,hb]
 ·unfold runF at h
  split at h
  ·rename_i hle
   refine calls_of_wp hf hb ?_
   have imm:∀{v:Value} {d:D},RepI w ok (fun _=>False) v d→RepI w (okB ⟨fun _=>none,fun b=>ok b∨w.heap.size≤b,fun _=>False⟩) (frB w.heap.size ⟨fun _=>none,fun b=>ok b∨w.heap.size≤b,fun _=>False⟩) v d:=
    fun hr=>hr.mono (Nat.le_refl _) (fun b _ ho=>⟨⟨.inl ho,(fun id v hv=>nomatch hv)⟩,rfl⟩) (fun b _ ho=>ho.elim)
   have hrel:SRel fn.ntmps w.heap.size ⟨w,fun b=>ok b∨w.heap.size≤b,fun _=>False,fun _=>none,call.g,[]⟩ (init an ds) {tmps:=args++Array.replicate (fn.ntmps-args.size) undef,defers:=[]} w:=by
    refine⟨⟨fun _=>none,fun b=>ok b∨w.heap.size≤b,fun _=>False⟩,{
     defers:=rfl
     size:=by have:=hargs.1;simp;omega
     tmp:=fun t=>?_
     obj:=(fun id o ho=>nomatch ho)
     dom:=(fun id v hv=>nomatch hv)
     inj:=(fun id id' v v' b hv=>nomatch hv)
     below:=BelowZ.refl _ _ _
     base:=Nat.le_refl _
     fresh:=fun b hb=> .inr (hb.elim id (fun h=>h.elim))
     kk:=rfl
     zz:=rfl
     k0:=(fun id v hv=>nomatch hv)
     nn:=hN
     glob:=fun g cs hg=>(hglob g cs hg).to (imm (hglob g cs hg).rep) rfl}⟩
    simp only[init,argsT_get,keepT_get]
    split
    ·rename_i ht
     have hlt:t<ds.length:=by omega
     have hd:ds[t]? =some ds[t]:=List.getElem?_eq_getElem hlt
     have hal:t<args.size:=by rw[hargs.1];exact hlt
     have hav:args[t]? =some args[t]:=Array.getElem?_eq_getElem hal
     have hr:=hargs.2 t _ _ hav hd
     have e1:(args++Array.replicate (fn.ntmps-args.size) undef).getD t undef=args[t]:=by
      simp[Array.getElem?_append_left hal,hav]
     rw[e1]
     simp only[Nat.sub_zero,List.getD,hd,Option.getD_some]
     exact .inl (.inl (imm hr))
    ·exact .inl (.inl (.any _))
   have fin:∀e s,runC P call an fn.ntmps body (init an ds)=some (e,s)→(e= .norm∨e= .ret)→resultD P s fn.results.toList=some r→
     body.wp P (bodyPost P fn fun e w'=>∃v,e= .returned v∧Ext w w'∧RepI w' (fun b=>ok b∨w.heap.size≤b) (fun b=>w.heap.size≤b) v r) {tmps:=args++Array.replicate (fn.ntmps-args.size) undef,defers:=[]} w:=by
    intro e s hrun he hres
    refine wp_mono (runC_sound hmix hcall rfl body hok _ _ _ _ _ hrun hrel) ?_
    rintro x a' w' ⟨rfl,ι,hr⟩
    obtain⟨v,hv,hrep⟩:=result_sound hr hres
    have hkk:=hr.kk
    have hzz:=hr.zz
    simp only at hkk hzz
    rw[hkk] at hrep
    have hrep:RepI w' (fun b=>ok b∨w.heap.size≤b) (fun b=>w.heap.size≤b) v r:=hrep.mono (Nat.le_refl _) (fun b _ ho=>⟨ho,rfl⟩) (fun b _ ho=>⟨ho.elim id (fun h=>by rw[hzz] at h;exact h.elim),rfl⟩)
    have hx:Ext w w':=⟨hr.below.os,hr.below.tape,hr.below.output,hr.below.size,fun k hk=>hr.below.block k hk (fun h=>h)⟩
    rcases he with rfl|rfl
    ·exact⟨hr.defers,v,hv,v,rfl,hx,hrep⟩
    ·exact⟨hr.defers,v,hv,v,rfl,hx,hrep⟩
   split at h
   ·rename_i s hs
    exact fin _ s hs (.inl rfl) h
   ·rename_i s hs
    exact fin _ s hs (.inr rfl) h
   ·cases h
  ·cases h
def resE(P:Program)(s:St):ResultVar→Option D
 | .tmp t=>some (getT s.t t)
 | .cell p ty=>loadD P (getH s.h) ty (getT s.t p)
def noTup:D→Bool
 | .tup _=>false
 |_=>true
def resEs(P:Program)(s:St):List ResultVar→Option (List D)
 |[]=>some []
 |v::r=>match resE P s v,resEs P s r with
  |some d,some ds=>if noTup d=true then some (d::ds) else none
  |_,_=>none
def resultE(P:Program)(s:St)(vs:List ResultVar):Option (D×List (Nat×O)):=match resEs P s vs with
 |some [d]=>some (d,s.h)
 |some ds=>some (.tup ds,s.h)
 |none=>none
def initE(an:Ann)(hs:List (Nat×O))(ds:List D):St:=⟨argsT 0 ds++keepT ds.length an.keep,hs⟩
def pruneR:List (Nat×O)→D→List (Nat×O)→D×List (Nat×O)
 |[],d,h=>(d,h)
 |(k,_)::r,d,h=>if(1000≤k∧k<10000)∨usedD k d=true∨usedH k h=true then pruneR r d h else pruneR r (killD k d) (killL k h)
def prunedE(an:Ann)(x:Option (D×List (Nat×O))):Option (D×List (Nat×O)):=match x with
 |some (d,h)=>if an.cuts.contains 1000000=true then some (pruneR h d h) else some (d,h)
 |none=>none
noncomputable def runE(P:Program)(call:CT)(an:Ann)(N:Nat)(body:Code)(results:List ResultVar)(hs:List (Nat×O))(ds:List D):Option (D×List (Nat×O)):=
 if ds.length≤N then
  prunedE an (match runC P call an N body (initE an hs ds) with
  |some (.norm,s)=>resultE P (headOf an.rets s) results
  |some (.ret,s)=>resultE P s results
  |_=>none)
 else none
theorem noTup_rep{v:Value}{d:D}(h:Rep w B ι v d)(hd:noTup d=true):Rep0 w B ι v d:=by
 rcases h with h|h|⟨_,rfl,_⟩
 ·exact .inl h
 ·exact .inr h
 ·cases hd
theorem resE_sound{s:St}(hrel:Rel N B w0 ι (getT s.t) (getH s.h) a w){rv:ResultVar}{d:D}(h:resE P s rv=some d):∃v,(resultOf a.tmps rv).run P w= .ok v w∧Rep w B ι v d:=by
 cases rv with
 |tmp t=>cases h;exact⟨_,by simp[resultOf],hrel.tmp t⟩
 |cell p ty=>
  simp only[resE] at h
  obtain⟨A,hA⟩:=load_ptr h (hrel.tmp p)
  obtain⟨v,hv,hr⟩:=load_sound (P:=P) hrel (hrel.tmp p) h
  rw[hA] at hv
  refine⟨v, ?_,hr⟩
  simp only[Instr.loadAt,Instr.sureAddr,Sem.run_bind,Sem.run_pure,Result.andThen_ok] at hv
  simp only[resultOf,hA,asAddr,Sem.run_bind,Sem.run_pure,Result.andThen_ok]
  exact hv
theorem resEs_sound{s:St}(hrel:Rel N B w0 ι (getT s.t) (getH s.h) a w):∀(vs:List ResultVar) (ds:List D),resEs P s vs=some ds→∃us:List Value,(vs.mapM (resultOf a.tmps)).run P w= .ok us w∧us.length=ds.length∧
  ∀(i:Nat) (u:Value) (d:D),us[i]? =some u→ds[i]? =some d→Rep0 w B ι u d
 |[],ds,h=>by cases h;exact⟨[],by simp,rfl,fun i u d h=>by simp at h⟩
 |v::r,ds,h=>by
  unfold resEs at h
  split at h
  ·rename_i d ds' hd hds
   split at h
   ·rename_i hn
    cases h
    obtain⟨u,hu,hr⟩:=resE_sound hrel hd
    obtain⟨us,hus,hl,hrs⟩:=resEs_sound hrel r ds' hds
    refine⟨u::us,by simp[List.mapM_cons,hu,hus],by simp[hl],fun i x e hx he=>?_⟩
    cases i with
    |zero=>simp at hx he;subst hx he;exact noTup_rep hr hn
    |succ i=>exact hrs i x e (by simpa using hx) (by simpa using he)
   ·cases h
  ·cases h
theorem resultE_sound{fn:Func}{s:St}(hrel:Rel N B w0 ι (getT s.t) (getH s.h) a w){d:D}{hs':List (Nat×O)}(h:resultE P s fn.results.toList=some (d,hs')):hs'=s.h∧∃v,(results fn a.tmps).run P w= .ok v w∧Rep w B ι v d:=by
 unfold resultE at h
 have key:∀ds,resEs P s fn.results.toList=some ds→∃us:List Value,(results fn a.tmps).run P w= .ok (if h:us.toArray.size=1 then us.toArray[0] else .tuple us.toArray) w∧us.length=ds.length∧
   ∀(i:Nat) (u:Value) (d:D),us[i]? =some u→ds[i]? =some d→Rep0 w B ι u d:=by
  intro ds hds
  obtain⟨us,h1,h2,h3⟩:=resEs_sound hrel _ _ hds
  refine⟨us, ?_,h2,h3⟩
  rw[results_eq,Array.mapM_eq_mapM_toList]
  rw[Sem.run_bind,map_eq_pure_bind,Sem.run_bind,h1]
  rfl
 split at h
 ·rename_i d0 hds
  cases h
  obtain⟨us,h1,h2,h3⟩:=key _ hds
  match us,h2 with
  |[u],_=>exact⟨rfl,u,by simpa using h1,(h3 0 u d rfl rfl).of⟩
 ·rename_i ds hne hds
  cases h
  obtain⟨us,h1,h2,h3⟩:=key _ hds
  have hl:us.length≠1:=by
   intro e
   rw[h2] at e
   match ds,e with
   |[d0],_=>exact hne d0 rfl
  refine⟨rfl,.tuple us.toArray,by rw[h1,dif_neg (by simpa using hl)],.inr (.inr ⟨_,rfl,_,rfl,by simpa using h2,fun i c e hc he=>h3 i c e (by simpa using hc) he⟩)⟩
 ·cases h
theorem pruneR_sound(ι0:Inj):∀(l:List (Nat×O)) (d:D) (h:List (Nat×O)) (ι:Inj) (v:Value),Objs w B ι h→Rep w B ι v d→(∀id v,ι0 id=some v→1000≤id→id<10000→ι id=none∨ι id=some v)→
  ∃ι':Inj,ι'.K=ι.K∧ι'.Z=ι.Z∧Objs w B ι' (pruneR l d h).2∧Rep w B ι' v (pruneR l d h).1∧∀id v,ι0 id=some v→1000≤id→id<10000→ι' id=none∨ι' id=some v
 |[],d,h,ι,v,ho,hr,hk=>⟨ι,rfl,rfl,ho,hr,hk⟩
 |(k,o)::r,d,h,ι,v,ho,hr,hk=>by
  unfold pruneR
  split
  ·exact pruneR_sound ι0 r d h ι v ho hr hk
  ·have ho2:Objs w B (Abs.del ι k) (killL k h):={
    obj:=fun i o hi=>by
     rw[getH_kill] at hi
     unfold killH at hi
     split at hi
     ·cases hi
     ·rename_i hik
      simp only[Option.map_eq_some_iff] at hi
      obtain⟨o',ho',rfl⟩:=hi
      obtain⟨u,hu,hr⟩:=ho.obj i o' ho'
      exact⟨u,by rw[del_ne ι hik];exact hu,hr.kill k⟩
    dom:=fun i u hi=>by
     obtain⟨hik,hi⟩:=del_some hi
     obtain⟨o,ho⟩:=ho.dom i u hi
     exact⟨killO k o,by rw[getH_kill];simp[killH,hik,ho]⟩
    inj:=fun i j u u' b hi hj h1 h2=>ho.inj i j u u' b (del_some hi).2 (del_some hj).2 h1 h2
    fresh:=ho.fresh}
   obtain⟨ι',h1,h2,h3,h4,h5⟩:=pruneR_sound ι0 r (killD k d) (killL k h) (Abs.del ι k) v ho2 (hr.kill k) (fun i u hi ha hb=>by
    by_cases hik:i=k
    ·subst hik;left;simp[Abs.del]
    ·rw[del_ne ι hik];exact hk i u hi ha hb)
   exact⟨ι',h1,h2,h3,h4,h5⟩
theorem prunedE_sound(an:Ann){ι0 ι:Inj}{x:Option (D×List (Nat×O))}{d0 d:D}{h0 h:List (Nat×O)}{v:Value}(hx:x=some (d0,h0))(hp:prunedE an x=some (d,h))(ho:Objs w B ι h0)(hr:Rep w B ι v d0)
  (hk:∀id v,ι0 id=some v→1000≤id→id<10000→ι id=none∨ι id=some v):
  ∃ι':Inj,ι'.K=ι.K∧ι'.Z=ι.Z∧Objs w B ι' h∧Rep w B ι' v d∧∀id v,ι0 id=some v→1000≤id→id<10000→ι' id=none∨ι' id=some v:=by
 subst hx
 unfold prunedE at hp
 simp only at hp
 split at hp
 ·have:=pruneR_sound ι0 h0 d0 h0 ι v ho hr hk
  rw[Option.some.inj hp] at this
  exact this
 ·injection hp with hp
  injection hp with e1 e2
  subst e1 e2
  exact⟨ι,rfl,rfl,ho,hr,hk⟩
theorem wpE_of(hmix:P.follows .mixedOrders=true){fn:Func}{body:Code}(hok:okCode an body=true)
 (hN:fn.ntmps≤1000)(hcall:CTok P call){hs:List (Nat×O)}{ds:List D}{r:D}{hs':List (Nat×O)}(h:runE P call an fn.ntmps body fn.results.toList hs ds=some (r,hs'))
 (w:World)(ι:Inj)(args:Array Value)(hobjs:Objs w w.heap.size ι hs)(hglob:Globs call.g w (okB ι) (frB w.heap.size ι))(hargs:CellsRel (Rep w w.heap.size ι) args ds):
 body.wp P (bodyPost P fn (EPost w ι r hs')) {tmps:=args++Array.replicate (fn.ntmps-args.size) undef,defers:=[]} w:=by
 unfold runE at h
 split at h
 ·rename_i hle
  have hrel:SRel fn.ntmps w.heap.size ⟨w,ι.K,ι.Z,ι.f,call.g,[]⟩ (initE an hs ds) {tmps:=args++Array.replicate (fn.ntmps-args.size) undef,defers:=[]} w:=by
   refine⟨ι,{
    defers:=rfl
    size:=by have:=hargs.1;simp;omega
    tmp:=fun t=>?_
    obj:=hobjs.obj
    dom:=hobjs.dom
    inj:=hobjs.inj
    below:=BelowZ.refl _ _ _
    base:=Nat.le_refl _
    fresh:=hobjs.fresh
    kk:=rfl
    zz:=rfl
    k0:=fun id v hv _ _=> .inr hv
    nn:=hN
    glob:=hglob}⟩
   simp only[initE,argsT_get,keepT_get]
   split
   ·rename_i ht
    have hlt:t<ds.length:=by omega
    have hd:ds[t]? =some ds[t]:=List.getElem?_eq_getElem hlt
    have hal:t<args.size:=by rw[hargs.1];exact hlt
    have hav:args[t]? =some args[t]:=Array.getElem?_eq_getElem hal
    have hr:=hargs.2 t _ _ hav hd
    have e1:(args++Array.replicate (fn.ntmps-args.size) undef).getD t undef=args[t]:=by
     simp[Array.getElem?_append_left hal,hav]
    rw[e1]
    simp only[Nat.sub_zero,List.getD,hd,Option.getD_some]
    exact hr
   ·exact .inl (.inl (.any _))
  have fin:∀e s s1 d0 h0,runC P call an fn.ntmps body (initE an hs ds)=some (e,s)→(e= .norm∨e= .ret)→(s1=s∨s1=headOf an.rets s)→resultE P s1 fn.results.toList=some (d0,h0)→prunedE an (some (d0,h0))=some (r,hs')→
    body.wp P (bodyPost P fn (EPost w ι r hs')) {tmps:=args++Array.replicate (fn.ntmps-args.size) undef,defers:=[]} w:=by
   intro e s s1 d0 h0 hrun he hs1 hres hpr
   refine wp_mono (runC_sound hmix hcall rfl body hok _ _ _ _ _ hrun hrel) ?_
   rintro x a' w' ⟨rfl,hr⟩
   have hr1:SRel fn.ntmps w.heap.size ⟨w,ι.K,ι.Z,ι.f,call.g,[]⟩ s1 a' w':=by
    rcases hs1 with rfl|rfl
    ·exact hr
    ·exact headOf_sound _ hr
   obtain⟨ι',hr⟩:=hr1
   obtain⟨rfl,v,hv,hrep⟩:=resultE_sound hr hres
   obtain⟨ι2,k1,k2,k3,k4,k5⟩:=prunedE_sound an (ι0:=ι) rfl hpr ⟨hr.obj,hr.dom,hr.inj,hr.fresh⟩ hrep hr.k0
   have fin:∃v' ι'',Ending.returned v= .returned v'∧BelowZ w.heap.size ι.Z w w'∧ι''.K=ι.K∧ι''.Z=ι.Z∧Objs w' w.heap.size ι'' hs'∧Rep w' w.heap.size ι'' v' r∧
     ∀id v,ι id=some v→1000≤id→id<10000→ι'' id=none∨ι'' id=some v:=
    ⟨v,ι2,rfl,hr.below,k1.trans hr.kk,k2.trans hr.zz,k3,k4,k5⟩
   rcases he with rfl|rfl
   ·exact⟨hr.defers,v,hv,fin⟩
   ·exact⟨hr.defers,v,hv,fin⟩
  have some_of:∀x:Option (D×List (Nat×O)),prunedE an x=some (r,hs')→∃d0 h0,x=some (d0,h0):=by
   intro x hx
   cases x with
   |none=>cases hx
   |some p=>exact⟨p.1,p.2,rfl⟩
  obtain⟨d0,h0,hd0⟩:=some_of _ h
  rw[hd0] at h
  split at hd0
  ·rename_i s hs
   exact fin _ s _ d0 h0 hs (.inl rfl) (.inr rfl) hd0 h
  ·rename_i s hs
   exact fin _ s _ d0 h0 hs (.inr rfl) (.inl rfl) hd0 h
  ·cases hd0
 ·cases h
theorem contractE_of(hmix:P.follows .mixedOrders=true){f:FuncId}{fn:Func}{body:Code}(hf:P.funcs[f]? =some fn)(hb:fn.body=some body)(hname:(fn.name== "runtime.NumGoroutine")=false)(hok:okCode an body=true)
  (hN:fn.ntmps≤1000)(hcall:CTok P call){hs:List (Nat×O)}{ds:List D}{r:D}{hs':List (Nat×O)}(h:runE P call an fn.ntmps body fn.results.toList hs ds=some (r,hs')):ContractE P call.g f hs ds r hs':=by
 refine⟨fun args w=>?_,fun w ι args hobjs hglob hargs=>calls_of_wp hf hb (wpE_of hmix hok hN hcall h w ι args hobjs hglob hargs)⟩
 have hn:¬fn.name= "runtime.NumGoroutine" :=by simpa using hname
 simp[callFunc,hf,hn,hb]
end
end Go.Abs
namespace Go.Abs
open Go
attribute [simp] init argsT keepT eop assignD fstep aop aopF appF ev ofV ofV1 getT setT delT getH setH killT killL St.put St.putO St.drop St.kill endR creates binD intBin strBin unD convD convS srcC bytesR bytesOf noneOf frz frzAgg frzAll
 killD mapT mapA kill1 killO refsTo isAppend storeS preStore moveO cidOf crow0 crow1 crowsS isCrow dropCells St.dropB newRowS slice3D evG capD makeFuncD eCallee frzArgs estep estep1 ecall lookN swp hasN nodupN lookAll ren1 renC renA renL renT renO refs1 refsC refsA addNew rootsE pairAll cellPairs rootPairs handed backN backs renHs gone loose hits kill1s killDs killOs killTs clearH setHs freeN emp0 putD resE noTup resEs resultE initE storeBox storeRow spliceD cellsD one shapeOk partsD partsI fillD buildD buildSliceD makeSliceD cellI cellsI rowsI chunk zrep flat isX loadD fieldAddrD fieldD indexAddrD indexD eltAt lenOp lenD min2D max2D foldD callD
 mapES lookupD mapUpdS frzM mpT rangeD entryD resL resD resC res1 resA resB isCell memfree mf2 mf1 appendD srcD moveRow cutRow pruneR maskH drawN dstore storeTgt baseL resultD resVs resV expD expC exp1 liveOf rid headOf clearTo clearT dropIds usedC usedA usedL usedD usedH usedT sliceD nilS nilPart nilOp nilVal bnd cutD partD eqD eqFs eqIs guardT undef List.lookup Value.oneCell'
@[simp] theorem prunedE_none(an:Ann):prunedE an none=none:=rfl
@[simp] theorem prunedE_some(an:Ann)(d:D)(h:List (Nat×O)):prunedE an (some (d,h))=if an.cuts.contains 1000000=true then some (pruneR h d h) else some (d,h):=Eq.trans rfl rfl
@[simp] theorem prunedE_ite(an:Ann){c:Prop}[Decidable c](x y:Option (D×List (Nat×O))):prunedE an (if c then x else y)=if c then prunedE an x else prunedE an y:=by split<;>rfl
def loopsIn:Code→List Code
 | .loop c=>c::loopsIn c
 | .seq a b=>loopsIn a++loopsIn b
 | .cond _ a b=>loopsIn a++loopsIn b
 | .block _ a=>loopsIn a
 | .scope a=>loopsIn a
 |_=>[]
def bodyOf(fn:Func):Code:=fn.body.getD .skip
theorem bigL_succ(k:Nat)(hk:k≤1000):∃m,bigL=m+k:=by
 have h1:=bigL_ge
 have h2:1000≤(2:Nat)^64:=by decide
 exact⟨bigL-k,by omega⟩
theorem wrap64{n:Int}(h1: -9223372036854775808≤n)(h2:n≤9223372036854775807):IntKind.i64.wrap n=n:=by
 rw[IntKind.wrap_i64];omega
@[simp] theorem wrap_lit{n:Int}(h:(decide (-9223372036854775808≤n)&&decide (n≤9223372036854775807))=true):IntKind.i64.wrap n=n:=by
 simp at h
 exact wrap64 h.1 h.2
@[simp] theorem str_eq(a b:ByteArray):(a.toList==b.toList)=decide (a=b):=by
 by_cases h:a=b
 ·subst h;simp
 ·have:a.toList≠b.toList:=fun e=>h (by
   rw[Go.ByteArray.toList_eq,Go.ByteArray.toList_eq] at e
   cases a
   cases b
   exact congrArg ByteArray.mk (Array.toList_inj.1 e))
  simp[h,this]
@[simp] theorem int_beq(a b:Int):(a==b)=decide (a=b):=by by_cases h:a=b<;>simp[h]
@[simp] theorem int_bne(a b:Int):(a !=b)=!decide (a=b):=by by_cases h:a=b<;>simp[h,bne]
attribute [simp] List.range_succ
end Go.Abs
namespace Go.Abs
open Go Go.RowKit Go.ChangeShapes Go.WideShapes Go.ChangeAt
def TyC(P:Program):Nat→TypeId→List D→Prop
 |0,_,_=>False
 |n+1,t,cs=>match P.underlying t with
  |some .bool=>∃b,cs=[.x (.bool b)]
  |some (.int k)=>∃v,cs=[.x (.int k v)]∧(Lit.int k v).wf=true
  |some .string=>∃s,cs=[.x (.string s)]∧s.size≤maxLen
  |some (.slice e)=>∃es:List (List D),cs=[.sl es]∧es.length≤maxLen∧∀x∈es,TyC P n e x
  |some (.struct fs)=>cs.length=P.cellsOf t∧∀f∈fs.toList,TyC P n f.type ((cs.drop f.offset).take (P.cellsOf f.type))
  |some (.array m e)=>cs.length=P.cellsOf t∧∀i,i<m→TyC P n e ((cs.drop (i*P.cellsOf e)).take (P.cellsOf e))
  |_=>False
def fieldsOk(P:Program)(S:List TypeId)(tot:Nat):Nat→List Field→Bool
 |o,[]=>o==tot
 |o,f::r=>f.offset==o&&S.contains f.type&&fieldsOk P S tot (o+P.cellsOf f.type) r
def okS(P:Program)(S:List TypeId):Bool:=S.all fun t=>match P.underlying t with
 |some .bool=>P.cellsOf t==1
 |some (.int _)=>P.cellsOf t==1
 |some .string=>P.cellsOf t==1
 |some (.slice e)=>P.cellsOf t==1&&S.contains e&&decide (0<P.cellsOf e)
 |some (.struct fs)=>fieldsOk P S (P.cellsOf t) 0 fs.toList
 |some (.array m e)=>P.cellsOf t==m*P.cellsOf e&&S.contains e
 |_=>false
section
variable {H:Type}{enc:TypeId×Value→H}{P:Program}{w:World}{base:Nat}{spare:Nat→Bool}{held:Bool}
def InC(w:World)(c:Value)(d:D):Prop:=RepI w (fun _=>True) (fun _=>False) c d∧c.oneCell'=true∧isCell d=true
def LRel(R:Value→D→Prop)(cs:List Value)(ds:List D):Prop:=cs.length=ds.length∧∀(i:Nat) (c:Value) (d:D),cs[i]? =some c→ds[i]? =some d→R c d
theorem LRel.one{R:Value→D→Prop}{c:Value}{d:D}(h:R c d):LRel R [c] [d]:=by
 refine⟨rfl,fun i c' d' h1 h2=>?_⟩
 cases i with
 |zero=>simp at h1 h2;subst h1 h2;exact h
 |succ i=>simp at h1
theorem LRel.append{R:Value→D→Prop}{a b:List Value}{x y:List D}(h:LRel R a x)(k:LRel R b y):LRel R (a++b) (x++y):=by
 refine⟨by simp[h.1,k.1],fun i c d h1 h2=>?_⟩
 by_cases hi:i<a.length
 ·rw[List.getElem?_append_left hi] at h1
  rw[List.getElem?_append_left (by rw[←h.1];exact hi)] at h2
  exact h.2 i c d h1 h2
 ·rw[List.getElem?_append_right (by omega)] at h1
  rw[List.getElem?_append_right (by rw[←h.1];omega),←h.1] at h2
  exact k.2 _ c d h1 h2
theorem struct_abs{n:Nat}{S:List TypeId}(cs:List Value)(tot:Nat)(hcs:cs.length=tot)
  (part:∀f:Field,f.type∈S→(∃x,DataW.trod enc P w base spare held n f.type ((cs.drop f.offset).take (P.cellsOf f.type))=some x)→∃ds,TyC P n f.type ds∧LRel (InC w) ((cs.drop f.offset).take (P.cellsOf f.type)) ds):
  ∀(fs:List Field) (o:Nat),o≤tot→fieldsOk P S tot o fs=true→(∀f∈fs,∃x,DataW.trod enc P w base spare held n f.type ((cs.drop f.offset).take (P.cellsOf f.type))=some x)→
   ∃ds,LRel (InC w) (cs.drop o) ds∧∀f∈fs,o≤f.offset∧TyC P n f.type ((ds.drop (f.offset-o)).take (P.cellsOf f.type))
 |[],o,ho,hok,_=>by
  simp only[fieldsOk,beq_iff_eq] at hok
  refine⟨[],⟨by simp;omega,fun i c d h1 h2=>by simp at h2⟩,fun f hf=>by simp at hf⟩
 |f::fs,o,ho,hok,hx=>by
  simp only[fieldsOk,Bool.and_eq_true,beq_iff_eq,List.contains_eq_mem,decide_eq_true_eq] at hok
  obtain⟨⟨h1,h2⟩,h3⟩:=hok
  have hmono:∀(fs:List Field) (o:Nat),fieldsOk P S tot o fs=true→o≤tot:=by
   intro fs
   induction fs with
   |nil=>intro o h;simp only[fieldsOk,beq_iff_eq] at h;omega
   |cons g r ih=>
    intro o h
    simp only[fieldsOk,Bool.and_eq_true] at h
    have:=ih _ h.2
    omega
  have hle:=hmono fs _ h3
  obtain⟨d0,t0,r0⟩:=part f h2 (hx f (by simp))
  obtain⟨ds,hr,hf⟩:=struct_abs cs tot hcs part fs (o+P.cellsOf f.type) hle h3 (fun g hg=>hx g (by simp[hg]))
  subst h1
  have hl0:d0.length=P.cellsOf f.type:=by
   rw[←r0.1]
   simp
   omega
  refine⟨d0++ds, ?_,fun g hg=>?_⟩
  ·have:=r0.append hr
   have e:(cs.drop f.offset).take (P.cellsOf f.type)++cs.drop (f.offset+P.cellsOf f.type)=cs.drop f.offset:=by
    rw[←List.drop_drop,List.take_append_drop]
   rwa[e] at this
  ·rcases List.mem_cons.1 hg with rfl|hg
   ·refine⟨Nat.le_refl _, ?_⟩
    rw[Nat.sub_self,List.drop_zero,List.take_append_of_le_length (by omega),List.take_of_length_le (by omega)]
    exact t0
   ·obtain⟨h4,h5⟩:=hf g hg
    refine⟨by omega, ?_⟩
    rw[List.drop_append_of_le_length' d0 ds (by omega)]
    have:g.offset-f.offset-d0.length=g.offset-(f.offset+P.cellsOf f.type):=by omega
    rw[this]
    exact h5
where
 List.drop_append_of_le_length' {α:Type} (l₁ l₂:List α) {n:Nat} (h:l₁.length≤n):(l₁++l₂).drop n=l₂.drop (n-l₁.length):=by
  rw[List.drop_append,List.drop_of_length_le h,List.nil_append]
theorem array_abs{n sz:Nat}{e:TypeId}(cs:List Value)(hsz:sz=P.cellsOf e)(part:∀i,(∃x,DataW.trod enc P w base spare held n e ((cs.drop (i*sz)).take sz)=some x)→∃ds,TyC P n e ds∧LRel (InC w) ((cs.drop (i*sz)).take sz) ds):
  ∀(m k:Nat),cs.length=(k+m)*sz→(∀i,i<m→∃x,DataW.trod enc P w base spare held n e ((cs.drop ((k+i)*sz)).take sz)=some x)→
   ∃ds,LRel (InC w) (cs.drop (k*sz)) ds∧∀i,i<m→TyC P n e ((ds.drop (i*sz)).take sz)
 |0,k,hcs,_=>⟨[],⟨by simp at hcs;simp[hcs],fun i c d h1 h2=>by simp at h2⟩,fun i hi=>by omega⟩
 |m+1,k,hcs,hx=>by
  obtain⟨d0,t0,r0⟩:=part k (by have:=hx 0 (by omega);simpa using this)
  obtain⟨ds,hr,hf⟩:=array_abs cs hsz part m (k+1) (by rw[hcs];congr 1;omega) (fun i hi=>by have:=hx (i+1) (by omega);rwa[show k+(i+1)=k+1+i by omega] at this)
  have hl0:d0.length=sz:=by
   rw[←r0.1]
   have:(k+1)*sz≤(k+(m+1))*sz:=Nat.mul_le_mul_right _ (by omega)
   rw[Nat.add_mul,Nat.one_mul] at this
   simp
   omega
  refine⟨d0++ds, ?_,fun i hi=>?_⟩
  ·have:=r0.append hr
   have e:(cs.drop (k*sz)).take sz++cs.drop ((k+1)*sz)=cs.drop (k*sz):=by
    rw[Nat.add_mul,Nat.one_mul,←List.drop_drop,List.take_append_drop]
   rwa[e] at this
  ·cases i with
   |zero=>
    rw[Nat.zero_mul,List.drop_zero,List.take_append_of_le_length (by omega),List.take_of_length_le (by omega)]
    exact t0
   |succ i=>
    have hle:d0.length≤(i+1)*sz:=by rw[Nat.add_mul,Nat.one_mul];omega
    rw[List.drop_append,List.drop_of_length_le hle,List.nil_append,hl0,Nat.add_mul,Nat.one_mul,Nat.add_sub_cancel]
    exact hf i (by omega)
theorem trod_abs{S:List TypeId}(hS:okS P S=true):∀(fuel:Nat) (t:TypeId) (cs:List Value) (x:DataW H×List MemPlace),t∈S→DataW.trod enc P w base spare held fuel t cs=some x→
  ∃ds,TyC P fuel t ds∧LRel (InC w) cs ds
 |0,_,_,_,_,h=>by simp[DataW.trod] at h
 |fuel+1,t,cs,x,ht,h=>by
  have hok:=List.all_eq_true.1 hS t ht
  have ih:=fun t' cs' x'=>trod_abs hS fuel t' cs' x'
  cases hu:P.underlying t with
  |none=>rw[hu] at hok;cases hok
  |some td=>
   rw[hu] at hok
   cases td with
   |bool=>
    obtain⟨b,rfl,_⟩:=DataW.trod_bool hu h
    exact⟨[.x (.bool b)],by unfold TyC;rw[hu];exact⟨b,rfl⟩,LRel.one ⟨.x _,rfl,rfl⟩⟩
   |int k=>
    obtain⟨n,rfl,_,wf⟩:=DataW.trod_int hu h
    exact⟨[.x (.int k n)],by unfold TyC;rw[hu];exact⟨n,rfl,wf⟩,LRel.one ⟨.x _,rfl,rfl⟩⟩
   |string=>
    obtain⟨s,rfl,_,hs⟩:=DataW.trod_string hu h
    exact⟨[.x (.string s)],by unfold TyC;rw[hu];exact⟨s,rfl,hs⟩,LRel.one ⟨.x _,rfl,rfl⟩⟩
   |slice e=>
    simp only[Bool.and_eq_true,beq_iff_eq,List.contains_eq_mem,decide_eq_true_eq] at hok
    obtain⟨⟨_,he⟩,hpos⟩:=hok
    rcases DataW.trod_slice hu h with⟨rfl,_⟩|⟨a,len,cap,elems,rest,n,hn,rfl,_,hb,hl,hm,hlen,hel,_,_⟩
    ·exact⟨[.sl []],by unfold TyC;rw[hu];exact⟨[],rfl,by simp[maxLen],fun x hx=>by simp at hx⟩,LRel.one ⟨.sl0 _ _,rfl,rfl⟩⟩
    ·injection hn with hn
     subst hn
     have hex:∀i,i<len→∃cs' ds,w.cells? base (a.add (i*P.cellsOf e)) (P.cellsOf e)=some cs'∧TyC P fuel e ds∧LRel (InC w) cs' ds:=by
      intro i hi
      have h1:=hel i hi
      have h2:elems[i]? =some (elems[i]'(by omega)):=List.getElem?_eq_getElem (by omega)
      rw[h2] at h1
      simp only[Option.bind_eq_some_iff] at h1
      obtain⟨cs',hc,ht'⟩:=h1
      obtain⟨ds,h3,h4⟩:=ih e cs' _ he ht'
      exact⟨cs',ds,hc,h3,h4⟩
     have hch:∃g:Nat→List D,∀i,i<len→∃cs',w.cells? base (a.add (i*P.cellsOf e)) (P.cellsOf e)=some cs'∧TyC P fuel e (g i)∧LRel (InC w) cs' (g i):=by
      classical
      refine⟨fun i=>if hi:i<len then Classical.choose (Classical.choose_spec (hex i hi)) else[],fun i hi=>?_⟩
      have:=Classical.choose_spec (Classical.choose_spec (hex i hi))
      simp only[dif_pos hi]
      exact⟨_,this⟩
     obtain⟨g,hg⟩:=hch
     have hget:∀i x,((List.range len).map g)[i]? =some x→i<len∧x=g i:=by
      intro i x hx
      rw[List.getElem?_map] at hx
      simp only[Option.map_eq_some_iff] at hx
      obtain⟨k,hk,rfl⟩:=hx
      obtain⟨h1,h2⟩:=List.getElem?_eq_some_iff.1 hk
      simp at h1 h2
      subst h2
      exact⟨h1,rfl⟩
     have hlenD:((List.range len).map g).length=len:=by simp
     refine⟨[.sl ((List.range len).map g)], ?_,LRel.one ⟨?_,rfl,rfl⟩⟩
     ·unfold TyC
      rw[hu]
      refine⟨_,rfl,by omega,fun x hx=>?_⟩
      obtain⟨i,hi⟩:=List.getElem?_of_mem hx
      obtain⟨h1,rfl⟩:=hget i x hi
      obtain⟨_,_,h2,_⟩:=hg i h1
      exact h2
     ·have cell:∀i j,i<len→j<P.cellsOf e→∃u d,w.cell? (a.add (i*P.cellsOf e+j))=some u∧(g i)[j]? =some d∧InC w u d:=by
       intro i j hi hj
       obtain⟨cs',hc,_,hr⟩:=hg i hi
       obtain⟨_,hcl,hcs⟩:=World.cells?_some hc
       have h1:=hcs j hj
       have h2:cs'[j]? =some (cs'[j]'(by omega)):=List.getElem?_eq_getElem (by omega)
       have hgl:j<(g i).length:=by rw[←hr.1];omega
       have h3:(g i)[j]? =some (g i)[j]:=List.getElem?_eq_getElem hgl
       rw[add_add',h2] at h1
       exact⟨_,_,h1,h3,hr.2 j _ _ h2 h3⟩
      have glen:∀i,i<len→(g i).length=P.cellsOf e:=by
       intro i hi
       obtain⟨cs',hc,_,hr⟩:=hg i hi
       obtain⟨_,hcl,_⟩:=World.cells?_some hc
       rw[←hr.1,hcl]
      by_cases hz:len=0
      ·subst hz
       exact .sl0 _ _
      ·have hblk:a.block<w.heap.size:=by
        obtain⟨u,_,hu',_⟩:=cell 0 0 (by omega) hpos
        rcases Nat.lt_or_ge a.block w.heap.size with h'|h'
        ·exact h'
        ·unfold World.cell? at hu'
         rw[add_block,Array.getElem?_eq_none h'] at hu'
         cases hu'
       have:= @RepI.sl w (fun _=>True) (fun _=>False) a cap (P.cellsOf e) ((List.range len).map g) trivial hblk (by omega) (fun x hx d hd=>by
         obtain⟨i,hi⟩:=List.getElem?_of_mem hx
         obtain⟨h1,rfl⟩:=hget i x hi
         obtain⟨j,hj⟩:=List.getElem?_of_mem hd
         have hjl:=(List.getElem?_eq_some_iff.1 hj).1
         obtain⟨u,d',_,h2,h3⟩:=cell i j h1 (by rw[←glen i h1];exact hjl)
         rw[hj] at h2
         cases h2
         exact h3.2.2) (fun x hx=>by
         obtain⟨i,hi⟩:=List.getElem?_of_mem hx
         obtain⟨h1,rfl⟩:=hget i x hi
         exact glen i h1) (fun i j hi hj=>by
         obtain⟨u,d,h1,_,h3⟩:=cell i j (by omega) hj
         exact⟨u,h1,h3.2.1⟩) (fun i x j d u hx hd hu'=>by
         obtain⟨h1,rfl⟩:=hget i x hx
         have hjl:=(List.getElem?_eq_some_iff.1 hd).1
         obtain⟨u',d',h4,h5,h6⟩:=cell i j h1 (by rw[←glen i h1];exact hjl)
         rw[hu'] at h4
         cases h4
         rw[hd] at h5
         cases h5
         exact h6.1)
       rwa[hlenD] at this
   |struct fs=>
    obtain⟨xs,n,hn,_,hcl,hxl,hf⟩:=DataW.trod_struct hu h
    injection hn with hn
    subst hn
    obtain⟨ds,hr,hty⟩:=struct_abs (n:=fuel) (S:=S) cs (P.cellsOf t) hcl (fun f hfS ⟨x,hx⟩=>ih f.type _ x hfS hx) fs.toList 0 (Nat.zero_le _) hok (fun f hfm=>by
     obtain⟨i,hi⟩:=List.getElem?_of_mem hfm
     rw[Array.getElem?_toList] at hi
     have hil:=(Array.getElem?_eq_some_iff.1 hi).1
     exact⟨_,(hf i f hi).trans (List.getElem?_eq_getElem (by omega))⟩)
    refine⟨ds, ?_,by simpa using hr⟩
    unfold TyC
    rw[hu]
    refine⟨by rw[←hcl];have:=hr.1;simpa using this.symm,fun f hfm=>?_⟩
    have:=(hty f hfm).2
    simpa using this
   |array m e=>
    simp only[Bool.and_eq_true,beq_iff_eq,List.contains_eq_mem,decide_eq_true_eq] at hok
    obtain⟨xs,n,hn,_,hcl,hxl,hf⟩:=DataW.trod_array hu h
    injection hn with hn
    subst hn
    obtain⟨ds,hr,hty⟩:=array_abs (n:=fuel) (e:=e) cs rfl (fun i ⟨x,hx⟩=>ih e _ x hok.2 hx) m 0 (by rw[hcl,hok.1];simp) (fun i hi=>by
     have h1:=hf i hi
     exact⟨_,by rw[Nat.zero_add];exact h1.trans (List.getElem?_eq_getElem (by omega))⟩)
    refine⟨ds, ?_,by simpa using hr⟩
    unfold TyC
    rw[hu]
    exact⟨by rw[←hcl];have:=hr.1;simpa using this.symm,hty⟩
   |_=>cases hok
end
end Go.Abs
namespace Go.Abs
open Go Go.RowKit Go.ChangeShapes Go.WideShapes Go.ChangeAt
def TyV(P:Program)(t:TypeId)(d:D):Prop:=∃n cs,TyC P n t cs∧match P.underlying t with
 |some (.struct _)|some (.array _ _)=>d= .agg cs
 |_=>cs=[d]
def TyArgs(P:Program):List TypeId→List D→Prop
 |[],ds=>ds=[]
 |t::ts,ds=>∃d r,ds=d::r∧TyV P t d∧TyArgs P ts r
section
variable {H:Type}{enc:TypeId×Value→H}{P:Program}{w:World}{base:Nat}{spare:Nat→Bool}{held:Bool}
theorem arg_abs{S:List TypeId}(hS:okS P S=true){r:Reach}{b:Nat}{t:TypeId}{v:Value}{d:DataW H}{ps:List MemPlace}(ht:t∈S)(hv:Value.okWide P w r b t v)
  (h:DataW.Trod enc P w base spare held t v d ps):∃x,TyV P t x∧RepI w (fun _=>True) (fun _=>False) v x:=by
 obtain⟨fuel,h⟩:=h
 obtain⟨ds,h1,h2⟩:=trod_abs hS fuel t _ _ ht h
 have hok:=List.all_eq_true.1 hS t ht
 have agg:∀cs:Array Value,v= .agg cs→RepI w (fun _=>True) (fun _=>False) v (.agg ds):=by
  rintro cs rfl
  have hl:=h2.1
  simp only[Value.cells,Array.length_toList] at hl
  refine .agg hl fun i c d hc hd=>(h2.2 i c d ?_ hd).1
  simpa[Value.cells] using hc
 have one:∀x:Value,v=x→x.cells= #[x]→ds.length=1→∃d,ds=[d]∧RepI w (fun _=>True) (fun _=>False) v d:=by
  rintro x rfl hx hl
  match ds,hl with
  |[d],_=>exact⟨d,rfl,(h2.2 0 v d (by simp[hx]) rfl).1⟩
 cases fuel with
 |zero=>exact absurd h1 (by simp[TyC])
 |succ fuel=>
  have h1':=h1
  unfold TyC at h1
  cases hu:P.underlying t with
  |none=>rw[hu] at hok;cases hok
  |some td=>
   rw[hu] at hok h1
   cases td with
   |bool=>
    obtain⟨x,rfl⟩:=okWide_bool hu hv
    obtain⟨b,rfl⟩:=h1
    obtain⟨d,e,hr⟩:=one _ rfl rfl rfl
    exact⟨d,⟨_,_,h1',by rw[hu];exact e⟩,hr⟩
   |int k=>
    obtain⟨x,rfl⟩:=okWide_int hu hv
    obtain⟨b,rfl,_⟩:=h1
    obtain⟨d,e,hr⟩:=one _ rfl rfl rfl
    exact⟨d,⟨_,_,h1',by rw[hu];exact e⟩,hr⟩
   |string=>
    obtain⟨x,rfl⟩:=okWide_string hu hv
    obtain⟨b,rfl,_⟩:=h1
    obtain⟨d,e,hr⟩:=one _ rfl rfl rfl
    exact⟨d,⟨_,_,h1',by rw[hu];exact e⟩,hr⟩
   |slice e=>
    obtain⟨a,l,c,rfl⟩:=okWide_slice hu hv
    obtain⟨es,rfl,_⟩:=h1
    obtain⟨d,e,hr⟩:=one _ rfl rfl rfl
    exact⟨d,⟨_,_,h1',by rw[hu];exact e⟩,hr⟩
   |struct fs=>
    obtain⟨cs,rfl,_⟩:=okWide_struct hu hv
    exact⟨_,⟨_,_,h1',by rw[hu]⟩,agg cs rfl⟩
   |array m e=>
    simp only[Value.okWide,hu] at hv
    obtain⟨cs,rfl,_⟩:=hv
    exact⟨_,⟨_,_,h1',by rw[hu]⟩,agg cs rfl⟩
   |_=>cases hok
theorem args_abs{S:List TypeId}(hS:okS P S=true){r:Reach}{b:Nat}:∀(ts:List TypeId) (vs:List Value) (ds:List (DataW H)) (ps:List MemPlace),(∀t∈ts,t∈S)→
  (∀(j:Nat) t v,ts[j]? =some t→vs[j]? =some v→Value.okWide P w r b t v)→DataW.TrodAll enc P w base spare held ts vs ds ps→
  ∃xs,TyArgs P ts xs∧LRel (RepI w (fun _=>True) (fun _=>False)) vs xs
 |[],[],[],_,_,_,_=>⟨[],rfl,rfl,fun i c d h1 _=>by simp at h1⟩
 |t::ts,v::vs,d::ds,ps,hts,hv,h=>by
  obtain⟨p,q,h1,h2,rfl⟩:=h
  obtain⟨x,hx,hr⟩:=arg_abs hS (hts t (by simp)) (hv 0 t v rfl rfl) h1
  obtain⟨xs,hxs,hrs⟩:=args_abs hS ts vs ds q (fun t' h'=>hts t' (by simp[h'])) (fun j t' v' hj hv'=>hv (j+1) t' v' hj hv') h2
  exact⟨x::xs,⟨x,xs,rfl,hx,hxs⟩,(LRel.one hr).append hrs⟩
 |[],_::_,_,_,_,_,h=>by simp[DataW.TrodAll] at h
 |[],[],_::_,_,_,_,h=>by simp[DataW.TrodAll] at h
 |_::_,[],_,_,_,_,h=>by simp[DataW.TrodAll] at h
 |_::_,_::_,[],_,_,_,h=>by simp[DataW.TrodAll] at h
theorem trodAll_below(hl:laidOutB P=true){W W':World}(hb:Below W.heap.size W W'):∀(ts:List TypeId) (vs:List Value) (ds:List (DataW H)) (ps:List MemPlace),
  (∀t∈ts,P.readableRec t=true∧t<P.types.size)→(∀x∈ps,x.block<W.heap.size)→DataW.TrodAll enc P W 0 (fun _=>true) true ts vs ds ps→
  DataW.TrodAll enc P W' 0 (fun b=>decide (b<W.heap.size)) true ts vs ds ps
 |[],[],[],_,_,_,h=>h
 |t::ts,v::vs,d::ds,ps,hts,hlt,h=>by
  obtain⟨p,q,h1,h2,rfl⟩:=h
  exact⟨p,q,Below.trod hl (hts t (by simp)).1 (hts t (by simp)).2 h1 hb (fun x hx=>hlt x (by simp[hx])),
   trodAll_below hl hb ts vs ds q (fun t' h'=>hts t' (by simp[h'])) (fun x hx=>hlt x (by simp[hx])) h2,rfl⟩
 |[],_::_,_,_,_,_,h=>by simp[DataW.TrodAll] at h
 |[],[],_::_,_,_,_,h=>by simp[DataW.TrodAll] at h
 |_::_,[],_,_,_,_,h=>by simp[DataW.TrodAll] at h
 |_::_,_::_,[],_,_,_,h=>by simp[DataW.TrodAll] at h
theorem trodAll_len{spare:Nat→Bool}{held:Bool}{base:Nat}:∀(ts:List TypeId) (vs:List Value) (ds:List (DataW H)) (ps:List MemPlace),DataW.TrodAll enc P w base spare held ts vs ds ps→ds.length=ts.length
 |[],[],[],_,_=>rfl
 |_::ts,_::vs,_::ds,_,h=>by
  obtain⟨p,q,_,h2,_⟩:=h
  simp[trodAll_len ts vs ds q h2]
 |[],_::_,_,_,h=>by simp[DataW.TrodAll] at h
 |[],[],_::_,_,h=>by simp[DataW.TrodAll] at h
 |_::_,[],_,_,h=>by simp[DataW.TrodAll] at h
 |_::_,_::_,[],_,h=>by simp[DataW.TrodAll] at h
theorem law_calls{S:List TypeId}{f:FuncId}{fn:Func}{s:ChangeSpec}{tb:TypeId}{W:World}{base:Nat}{r:Reach}{args:Array Value}{ds gs:List (DataW H)}{before:List MemPlace}
  (hlaid:laidOutB P=true)(hS:okS P S=true)(hts:∀t∈fn.params.toList,t∈S∧P.readableRec t=true∧t<P.types.size)
  (htb:P.underlying tb=some .bool)(hres:fn.resultTypes= #[tb])(hvars:s.vars=[])
  {G:Nat→Option (List D)}(hglob:Globs G W (fun _=>True) (fun _=>False))
  (hlaw:∀xs,TyArgs P fn.params.toList xs→Contract P G f xs (.x (.bool true)))
  (hval:∀(j:Nat) t v,fn.params[j]? =some t→args[j]? =some v→Value.okWide P W r base t v)
  (hW:DataW.Whole enc P fn.params.toList s.vars false W args.toList ds gs before)
  (hfn:∀l,l.length=fn.params.size→s.fn H l={results:=[.lit (.bool true)],args:=l}):
  Calls P f args W fun e W'=>∃v,e= .returned v∧s.post enc P fn false true false false W args v W':=by
 have hlt:=hW.lt
 have hW':=hW
 obtain⟨p,q,hA,hV,rfl,hfz,hnd⟩:=hW
 obtain⟨xs,hx,hr⟩:=args_abs hS fn.params.toList args.toList ds p (fun t ht=>(hts t ht).1) (fun j t v hj hv=>hval j t v (by simpa using hj) (by simpa using hv)) hA
 have hrel:CellsRel (RepI W (fun _=>True) (fun _=>False)) args xs:=⟨by have:=hr.1;simpa using this,fun i c d hc hd=>hr.2 i c d (by simpa using hc) hd⟩
 have hdl:=trodAll_len _ _ _ _ hA
 rw[hvars] at hV
 obtain⟨rfl,rfl⟩:=trodVars_none hV
 refine((hlaw xs hx).2 W _ args hglob hrel).mono fun e W' ⟨v,he,hb,hv⟩=>?_
 cases hv
 have hf:=hfn (ds++[]) (by simp[hdl])
 refine⟨_,he,ds,[],p++[],[],p,[],hW', ?_, ?_, ?_,hb.frame _,fun h=>nomatch h⟩
 ·rw[hf,hres]
  exact trodAll_mk1 (shut_bool htb _)
 ·rw[hf]
  simp only[List.append_nil]
  exact trodAll_below hlaid hb _ _ _ _ (fun t ht=>(hts t ht).2) (fun x hx=>hlt x (by simp[hx])) hA
 ·rw[hf,hvars]
  rfl
end
end Go.Abs
namespace Go.Abs
open Go
def callOf:List (Nat×(List D→Option D))→FuncId→List D→Option D
 |[],_,_=>none
 |(g,F)::r,f,ds=>if f=g then F ds else callOf r f ds
def CallsOk(P:Program)(G:Nat→Option (List D)):List (Nat×(List D→Option D))→Prop
 |[]=>True
 |(g,F)::r=>(∀ds r,F ds=some r→Contract P G g ds r)∧CallsOk P G r
theorem callOf_ok{P:Program}{G:Nat→Option (List D)}:∀(l:List (Nat×(List D→Option D))),CallsOk P G l→∀f ds r,callOf l f ds=some r→Contract P G f ds r
 |[],_,f,ds,r,h=>by cases h
 |(g,F)::l,hl,f,ds,r,h=>by
  unfold callOf at h
  split at h
  ·rename_i e;subst e;exact hl.1 ds r h
  ·exact callOf_ok l hl.2 f ds r h
def callOfE:List (Nat×(List (Nat×O)→List D→Option (D×List (Nat×O))))→FuncId→List (Nat×O)→List D→Option (D×List (Nat×O))
 |[],_,_,_=>none
 |(g,F)::r,f,hs,ds=>if f=g then F hs ds else callOfE r f hs ds
def CallsOkE(P:Program)(G:Nat→Option (List D)):List (Nat×(List (Nat×O)→List D→Option (D×List (Nat×O))))→Prop
 |[]=>True
 |(g,F)::r=>(∀hs ds r hs',F hs ds=some (r,hs')→ContractE P G g hs ds r hs')∧CallsOkE P G r
theorem callOfE_ok{P:Program}{G:Nat→Option (List D)}:∀(l:List (Nat×(List (Nat×O)→List D→Option (D×List (Nat×O))))),CallsOkE P G l→∀f hs ds r hs',callOfE l f hs ds=some (r,hs')→ContractE P G f hs ds r hs'
 |[],_,f,hs,ds,r,hs',h=>by cases h
 |(g,F)::l,hl,f,hs,ds,r,hs',h=>by
  unfold callOfE at h
  split at h
  ·rename_i e;subst e;exact hl.1 hs ds r hs' h
  ·exact callOfE_ok l hl.2 f hs ds r hs' h
def nilF(F:List D→Option D)(r0:D):List D→Option D
 |[.sl es]=>if es.length=0 then some r0 else F [.sl es]
 |ds=>F ds
theorem contract_nil{P:Program}{G:Nat→Option (List D)}{f:FuncId}{r:D}(h:∀A c,Contract P G f [.x (.slice A 0 c)] r):Contract P G f [.sl []] r:=by
 refine⟨(h none 0).1,fun w ok args hg hr=>?_⟩
 obtain⟨hl,hr'⟩:=hr
 have h1:args.size=1:=by simpa using hl
 have h0:=hr' 0 args[0] (.sl []) (by simp) (by simp)
 have key:∃A c,args[0]= .slice A 0 c:=by
  generalize args[0]=v at h0
  cases h0 with
  |sl0 A c=>exact⟨A,c,rfl⟩
  |sl=>exact⟨_,_,rfl⟩
 obtain⟨A,c,hv⟩:=key
 refine(h A c).2 w ok args hg ⟨by simpa using hl,fun i u d hu hd=>?_⟩
 match i,hd with
 |0,hd=>
  simp at hd
  subst hd
  rw[Array.getElem?_eq_getElem (by omega)] at hu
  injection hu with hu
  rw[←hu,hv]
  exact .x _
theorem nilF_ok{P:Program}{G:Nat→Option (List D)}{f:FuncId}{F:List D→Option D}{r0:D}(hF:∀ds r,F ds=some r→Contract P G f ds r)(h0:∀A c,F [.x (.slice A 0 c)]=some r0):∀ds r,nilF F r0 ds=some r→Contract P G f ds r:=by
 intro ds r h
 unfold nilF at h
 split at h
 ·rename_i es
  split at h
  ·rename_i he
   injection h with h
   subst h
   rw[List.eq_nil_of_length_eq_zero he]
   exact contract_nil (fun A c=>hF _ _ (h0 A c))
  ·exact hF _ _ h
 ·exact hF _ _ h
def andThen(r:Option (E×St))(k:St→Option (E×St)):Option (E×St):=match r with
 |some (.norm,s)=>k s
 |r=>r
def blockS(id:Nat)(r:Option (E×St)):Option (E×St):=match r with
 |some (.ex i,s)=>if i=id then some (.norm,s) else some (.ex i,s)
 |r=>r
def normS(r:Option St):Option (E×St):=match r with
 |some s=>some (.norm,s)
 |none=>none
def endS(P:Program)(results:List ResultVar)(r:Option (E×St)):Option D:=match r with
 |some (.norm,s)=>resultD P s results
 |some (.ret,s)=>resultD P s results
 |_=>none
def endE(P:Program)(rets:Option (List Nat))(results:List ResultVar)(r:Option (E×St)):Option (D×List (Nat×O)):=match r with
 |some (.norm,s)=>resultE P (headOf rets s) results
 |some (.ret,s)=>resultE P s results
 |_=>none
def bindS(r:Option St)(k:St→Option St):Option St:=match r with
 |some s=>k s
 |none=>none
def guardK(g:Option Bool)(a b:Option St):Option St:=match g with
 |some true=>a
 |some false=>b
 |none=>none
def endK(an:Ann)(ops:List Oper)(s:St):Option St:=some (endR an s ops)
@[simp] theorem endK_eq(an:Ann)(ops:List Oper)(s:St):endK an ops s=some (endR an s ops):=by cases s;rfl
section
variable {P:Program}{c:Prop}[Decidable c]{s:St}{i id:Nat}
@[congr] theorem andThen_congr{r r':Option (E×St)}(h:r=r')(k:St→Option (E×St)):andThen r k=andThen r' k:=by rw[h]
@[congr] theorem bindS_congr{r r':Option St}(h:r=r')(k:St→Option St):bindS r k=bindS r' k:=by rw[h]
@[simp] theorem andThen_norm(k:St→Option (E×St)):andThen (some (.norm,s)) k=k s:=by cases s;rfl
@[simp] theorem andThen_ex(k:St→Option (E×St)):andThen (some (.ex i,s)) k=some (.ex i,s):=by cases s;rfl
@[simp] theorem andThen_ret(k:St→Option (E×St)):andThen (some (.ret,s)) k=some (.ret,s):=by cases s;rfl
@[simp] theorem andThen_none(k:St→Option (E×St)):andThen none k=none:=Eq.trans (b:=none) rfl rfl
@[simp] theorem andThen_ite(a b:Option (E×St))(k:St→Option (E×St)):andThen (if c then a else b) k=if c then andThen a k else andThen b k:=by split<;>rfl
@[simp] theorem blockS_norm:blockS id (some (.norm,s))=some (.norm,s):=by cases s;rfl
@[simp] theorem blockS_ex:blockS id (some (.ex i,s))=if i=id then some (.norm,s) else some (.ex i,s):=by cases s;rfl
@[simp] theorem blockS_ret:blockS id (some (.ret,s))=some (.ret,s):=by cases s;rfl
@[simp] theorem blockS_none:blockS id none=none:=rfl
@[simp] theorem blockS_ite(a b:Option (E×St)):blockS id (if c then a else b)=if c then blockS id a else blockS id b:=by split<;>rfl
@[simp] theorem normS_some:normS (some s)=some (.norm,s):=by cases s;rfl
@[simp] theorem normS_none:normS none=none:=rfl
@[simp] theorem normS_ite(a b:Option St):normS (if c then a else b)=if c then normS a else normS b:=by split<;>rfl
@[simp] theorem endS_norm(rs:List ResultVar):endS P rs (some (.norm,s))=resultD P s rs:=by cases s;rfl
@[simp] theorem endS_ret(rs:List ResultVar):endS P rs (some (.ret,s))=resultD P s rs:=by cases s;rfl
@[simp] theorem endS_none(rs:List ResultVar):endS P rs none=none:=rfl
@[simp] theorem endS_ite(rs:List ResultVar)(a b:Option (E×St)):endS P rs (if c then a else b)=if c then endS P rs a else endS P rs b:=by split<;>rfl
@[simp] theorem endE_norm(rt:Option (List Nat))(rs:List ResultVar):endE P rt rs (some (.norm,s))=resultE P (headOf rt s) rs:=by cases s;rfl
@[simp] theorem endE_ret(rt:Option (List Nat))(rs:List ResultVar):endE P rt rs (some (.ret,s))=resultE P s rs:=by cases s;rfl
@[simp] theorem endE_none(rt:Option (List Nat))(rs:List ResultVar):endE P rt rs none=none:=rfl
@[simp] theorem endE_ite(rt:Option (List Nat))(rs:List ResultVar)(a b:Option (E×St)):endE P rt rs (if c then a else b)=if c then endE P rt rs a else endE P rt rs b:=by split<;>rfl
@[simp] theorem eres_none(s0:St)(dst:Option Nat)(σ:List (Nat×Nat)):eres s0 dst σ none=none:=rfl
@[simp] theorem eres_ite(s0:St)(dst:Option Nat)(σ:List (Nat×Nat))(a b:Option (D×List (Nat×O))):eres s0 dst σ (if c then a else b)=if c then eres s0 dst σ a else eres s0 dst σ b:=by split<;>rfl
@[simp] theorem eres_some(s0:St)(dst:Option Nat)(σ:List (Nat×Nat))(r:D)(hs':List (Nat×O)):eres s0 dst σ (some (r,hs'))=match backs σ (dst.getD 999) hs' with
 |τ=>if nodupN τ=true∧nodupN (swp τ)=true∧freeN s0.h σ τ=true then
   match renT false τ r,renHs τ hs' with
   |some r',some hs''=>some (putD dst ⟨killTs (loose hs' σ) s0.t,setHs (clearH (loose hs' σ) (gone hs' σ) s0.h) hs''⟩ r')
   |_,_=>none
  else none:=by cases s0;rfl
@[simp] theorem bindS_some(k:St→Option St):bindS (some s) k=k s:=by cases s;rfl
@[simp] theorem bindS_none(k:St→Option St):bindS none k=none:=Eq.trans (b:=none) rfl rfl
@[simp] theorem bindS_ite(a b:Option St)(k:St→Option St):bindS (if c then a else b) k=if c then bindS a k else bindS b k:=by split<;>rfl
end
section
variable {P:Program}{call:CT}{an:Ann}{N:Nat}{ops:Array Oper}
def skipO(N:Nat)(o:Oper)(s:St):Option St:=match o.dst with
 |some t=>if t<N then some (s.put t (.x undef)) else none
 |none=>some s
def eopO(P:Program)(call:CT)(an:Ann)(N:Nat)(o:Oper)(s:St):Option St:=eop P call an N s o
def guardC(s:St)(t:Nat)(want:Bool)(v:D)(a b:St→Option St):Option St:=match v with
 | .x (.bool p)=>if p=want then a (s.put t (.x (.bool want))) else b (s.put t (.x (.bool !want)))
 | .x (.tuple _)=>b s
 |_=>none
def guardG(ops:Array Oper)(s:St)(g:Option (Nat×Bool))(a b:St→Option St):Option St:=match g with
 |none=>a s
 |some (j,want)=>match ops[j]? with
  |some oj=>match oj.dst with
   |some t=>guardC s t want (getT s.t t) a b
   |none=>b s
  |none=>b s
theorem setT_same{l:List (Nat×D)}{t:Nat}{v:Value}(h:getT l t= .x v):setT l t (.x v)=l:=by
 induction l with
 |nil=>cases h
 |cons x r ih=>
  obtain⟨k,d⟩:=x
  unfold getT at h
  unfold setT
  split at h
  ·rename_i e;rw[if_pos e,h]
  ·rename_i e;rw[if_neg e,ih h]
theorem guardG_eq(s:St)(g:Option (Nat×Bool))(a b:St→Option St):guardK (guardV ops (getT s.t) g) (a s) (b s)=guardG ops s g a b:=by
 unfold guardG guardV
 rcases g with _|⟨j,want⟩
 ·rfl
 ·simp only[]
  rcases ops[j]? with _|oj
  ·rfl
  ·simp only[]
   rcases oj.dst with _|t
   ·rfl
   ·simp only[]
    unfold guardC
    cases hv:getT s.t t with
    |x v=>
     cases v with
     |bool p=>
      simp only[St.put]
      by_cases hp:p=want
      ·subst hp
       rw[setT_same hv,if_pos rfl,show(p==p)=true by simp]
       rfl
      ·have e:p=!want:=by cases p<;>cases want<;>simp_all
       rw[if_neg hp,←e,setT_same hv,show(p==want)=false by simp[hp]]
       rfl
     |_=>rfl
    |_=>rfl
@[simp] theorem stepG_eq(s:St)(o:Oper):stepG P call an N ops s o=guardG ops s o.guard (eopO P call an N o) (skipO N o):=by
 rw[←guardG_eq]
 unfold stepG guardK
 rcases guardV ops (getT s.t) o.guard with _|(_|_)<;>rfl
@[simp] theorem skipO_eq(o:Oper)(s:St):skipO N o s=match o.dst with
 |some t=>if t<N then some (s.put t (.x undef)) else none
 |none=>some s:=by cases s;rfl
@[simp] theorem eopO_eq(o:Oper)(s:St):eopO P call an N o s=eop P call an N s o:=by cases s;rfl
@[simp] theorem guardC_bool(s:St)(t:Nat)(want p:Bool)(a b:St→Option St):guardC s t want (.x (.bool p)) a b=if p=want then a (s.put t (.x (.bool want))) else b (s.put t (.x (.bool !want))):=by cases s;rfl
@[simp] theorem guardC_tuple(s:St)(t:Nat)(want:Bool)(p:Array Value)(a b:St→Option St):guardC s t want (.x (.tuple p)) a b=b s:=by cases s;rfl
@[simp] theorem guardG_none(s:St)(a b:St→Option St):guardG ops s none a b=a s:=by cases s;rfl
@[simp] theorem guardG_some(s:St)(j:Nat)(want:Bool)(a b:St→Option St):guardG ops s (some (j,want)) a b=match ops[j]? with
 |some oj=>match oj.dst with
  |some t=>guardC s t want (getT s.t t) a b
  |none=>b s
 |none=>b s:=by cases s;rfl
@[simp] theorem runSeq_nil(s:St):runSeq P call an N ops [] s=some s:=by cases s;rfl
@[simp] theorem runSeq_cons(o:Oper)(r:List Oper)(s:St):runSeq P call an N ops (o::r) s=bindS (stepG P call an N ops s o) (runSeq P call an N ops r):=by
 rw[runSeq,bindS.eq_def]
 all_goals rcases stepG P call an N ops s o with _|_<;>rfl
def dopO(
    P:Program)(call:CT)(N:Nat)(ops:Array Oper)(m i:Nat)(o:Oper)(s:St):Option St:=match storeTgt ops o with
 |some t=>dstore P s t o.op
 |none=>match o.dst with
  |some t=>if t<N then
    match aopF P call (getT s.t) (maskH ops m i o (getH s.h)) t o.op with
    |some (d,none)=>some (s.put t d)
    |some (d,some ob)=>match getH s.h t with
     |none=>some (s.putO t d ob)
     |some _=>none
    |none=>none
   else none
  |none=>match aopF P call (getT s.t) (maskH ops m i o (getH s.h)) 0 o.op with
   |some (_,none)=>some s
   |_=>none
@[simp] theorem dopO_eq(m i:Nat)(o:Oper)(s:St):dopO P call N ops m i o s=match storeTgt ops o with
 |some t=>dstore P s t o.op
 |none=>match o.dst with
  |some t=>if t<N then
    match aopF P call (getT s.t) (maskH ops m i o (getH s.h)) t o.op with
    |some (d,none)=>some (s.put t d)
    |some (d,some ob)=>match getH s.h t with
     |none=>some (s.putO t d ob)
     |some _=>none
    |none=>none
   else none
  |none=>match aopF P call (getT s.t) (maskH ops m i o (getH s.h)) 0 o.op with
   |some (_,none)=>some s
   |_=>none:=by cases s;rfl
@[simp] theorem dstep_eq(m i:Nat)(s:St)(o:Oper):dstep P call N ops m i s o=guardG ops s o.guard (dopO P call N ops m i o) (skipO N o):=by
 rw[←guardG_eq]
 unfold dstep guardK
 rcases guardV ops (getT s.t) o.guard with _|(_|_)<;>rfl
@[simp] theorem runDraw_nil(m k:Nat)(s:St):runDraw P call an N ops m k [] s=some s:=by cases s;rfl
@[simp] theorem runDraw_cons(m k:Nat)(o:Oper)(r:List Oper)(s:St):runDraw P call an N ops m k (o::r) s=if k<m then bindS (dstep P call N ops m k s o) (runDraw P call an N ops m (k+1) r) else runSeq P call an N ops (o::r) s:=by
 rw[runDraw,bindS.eq_def]
 all_goals rcases dstep P call N ops m k s o with _|_<;>rfl
@[simp] theorem runFree_nil(m k:Nat)(s:St):runFree P call N ops m k [] s=some s:=by cases s;rfl
@[simp] theorem runFree_cons(m k:Nat)(o:Oper)(r:List Oper)(s:St):runFree P call N ops m k (o::r) s=bindS (dstep P call N ops m k s o) (runFree P call N ops m (k+1) r):=by
 rw[runFree,bindS.eq_def]
 all_goals rcases dstep P call N ops m k s o with _|_<;>rfl
noncomputable def joinT(lf:Bool)(x y:Option St):Option St:=if lf=true then x else match x,y with
 |some a,some b=>open Classical in if a=b then some a else none
 |_,_=>none
@[simp] theorem joinT_true(x y:Option St):joinT true x y=x:=by cases x<;>rfl
@[simp] theorem joinT_ite(lf:Bool)(c:Prop)[Decidable c](a b x y:Option St):joinT lf (if c then a else b) (if c then x else y)=if c then joinT lf a x else joinT lf b y:=by split<;>rfl
@[simp] theorem finE_eq(l:List Oper)(s:St):finE an l s=endR an s l:=by cases s;rfl
@[simp] theorem isLeaf_leaf:Tr.isLeaf .leaf=true:=by simp[Tr.isLeaf]
@[simp] theorem stepAt_eq(i:Nat)(s:St):stepAt P call an N ops i s=match ops[i]? with
 |some o=>stepG P call an N ops s o
 |none=>none:=by cases s;rfl
@[simp] theorem runTr_leaf(fin:St→St)(s:St):runTr P call an N ops fin .leaf s=some (fin s):=by cases s;rfl
@[simp] theorem runTr_alt_eq(fin:St→St)(i:Nat)(sub rest:Tr)(s:St):runTr P call an N ops fin (.alt i sub rest) s=joinT rest.isLeaf (bindS (stepAt P call an N ops i s) (runTr P call an N ops fin sub)) (runTr P call an N ops fin rest s):=by
 rw[runTr,bindS.eq_def]
 unfold joinT
 rcases stepAt P call an N ops i s with _|s1
 ·cases rest<;>simp[Tr.isLeaf]
 ·dsimp only
  rcases runTr P call an N ops fin sub s1 with _|a
  ·cases rest<;>simp[Tr.isLeaf]
  ·dsimp only
   rcases runTr P call an N ops fin rest s with _|b<;>cases rest<;>simp[Tr.isLeaf]
@[simp] theorem runTl_leaf(fin:St→St)(s:St):runTl P call an N ops fin .leaf s=runTr P call an N ops fin .leaf s:=rfl
@[simp] theorem runTl_alt(fin:St→St)(i:Nat)(x y:Tr)(s:St):runTl P call an N ops fin (.alt i x y) s=runTr P call an N ops fin (.alt i x y) s:=rfl
@[simp] theorem runTl_dag(fin:St→St)(d:List (List (List (Nat×Nat))))(s:St):runTl P call an N ops fin (.dag d) s=runDag P call an N ops fin d [s]:=by cases s;rfl
@[simp] theorem runTr_dag(fin:St→St)(d:List (List (List (Nat×Nat))))(s:St):runTr P call an N ops fin (.dag d) s=runDag P call an N ops fin d [s]:=by cases s;rfl
@[simp] theorem runDag_nil(fin:St→St)(s:St):runDag P call an N ops fin [] [s]=some (fin s):=by cases s;rfl
@[simp] theorem runDag_cons(fin:St→St)(l:List (List (Nat×Nat)))(r:List (List (List (Nat×Nat))))(prev:List St):runDag P call an N ops fin (l::r) prev=runLay P call an N ops (runDag P call an N ops fin r) prev l []:=by cases prev<;>rfl
@[simp] theorem runLay_nil(k:List St→Option St)(prev acc:List St):runLay P call an N ops k prev [] acc=k acc.reverse:=by cases acc<;>rfl
noncomputable def layK(P:Program)(call:CT)(an:Ann)(N:Nat)(ops:Array Oper)(k:List St→Option St)(prev:List St)(l:List (List (Nat×Nat)))(acc:List St)(s:St):Option St:=runLay P call an N ops k prev l (s::acc)
@[simp] theorem layK_eq(k:List St→Option St)(prev:List St)(l:List (List (Nat×Nat)))(acc:List St)(s:St):layK P call an N ops k prev l acc s=runLay P call an N ops k prev l (s::acc):=by cases s;rfl
theorem bindP_eq(x:Option St)(f:St→Option St):bindP x f=bindS x f:=by
 rw[bindS.eq_def]
 cases x<;>rfl
@[simp] theorem runLay_cons(k:List St→Option St)(prev:List St)(n:List (Nat×Nat))(l:List (List (Nat×Nat)))(acc:List St):runLay P call an N ops k prev (n::l) acc=bindS (dagNode P call an N ops prev n) (layK P call an N ops k prev l acc):=by
 rw[runLay,bindP_eq]
 rfl
@[simp] theorem dagNode_one(prev:List St)(x:Nat×Nat):dagNode P call an N ops prev [x]=dagAt P call an N ops prev x:=by cases x;rfl
@[simp] theorem dagNode_more(prev:List St)(x y:Nat×Nat)(r:List (Nat×Nat)):dagNode P call an N ops prev (x::y::r)=joinD (dagAt P call an N ops prev x) (dagNode P call an N ops prev (y::r)):=by cases x;rfl
@[simp] theorem dagAt_eq(prev:List St)(p i:Nat):dagAt P call an N ops prev (p,i)=match prev[p]? with
  |some s=>bindS (stepAt P call an N ops i s) sortedS
  |none=>none:=by
 unfold dagAt
 cases prev[p]? with
 |none=>rfl
 |some s=>exact bindP_eq _ _
@[simp] theorem joinD_same(x:Option St):joinD x x=x:=by cases x<;>simp[joinD]
@[simp] theorem sortedS_eq(t:List (Nat×D))(h:List (Nat×O)):sortedS ⟨t,h⟩=some ⟨sortK t,sortK h⟩:=by cases t<;>rfl
@[simp] theorem sortK_nil{α:Type}:sortK (α:=α) []=[]:=by simp[sortK]
@[simp] theorem sortK_cons{α:Type}(k:Nat)(v:α)(r:List (Nat×α)):sortK ((k,v)::r)=insK k v (sortK r):=by simp[sortK]
@[simp] theorem insK_nil{α:Type}(k:Nat)(v:α):insK k v []=[(k,v)]:=by simp[insK]
@[simp] theorem insK_cons{α:Type}(k q:Nat)(v u:α)(r:List (Nat×α)):insK k v ((q,u)::r)=if k≤q then(k,v)::(q,u)::r else(q,u)::insK k v r:=by simp[insK]
@[simp] theorem tailN_false(id:Nat):tailN an false id=none:=by simp[tailN]
@[simp] theorem tailN_true(id:Nat):tailN an true id=an.tails.lookup id:=by simp[tailN]
@[simp] theorem runR_eq(id:Nat)(draw:Bool)(s:St):runR P call an N id ops draw s=match tailN an draw id with
 |some tr=>bindS (runFree P call N ops (drawN an id) 0 (ops.toList.take (drawN an id)) s) (runTl P call an N ops (finE an ops.toList) tr)
 |none=>bindS (if draw=true then runDraw P call an N ops (drawN an id) 0 ops.toList s else runSeq P call an N ops ops.toList s) (endK an ops.toList):=by
 unfold runR bindS
 rcases tailN an draw id with _|tr
 ·dsimp only
  rcases(if draw=true then runDraw P call an N ops (drawN an id) 0 ops.toList s else runSeq P call an N ops ops.toList s) with _|_<;>rfl
 ·dsimp only
  all_goals rcases runFree P call N ops (drawN an id) 0 (ops.toList.take (drawN an id)) s with _|_<;>rfl
end
noncomputable def runS(P:Program)(call:CT)(L:Nat→St→Option (E×St))(an:Ann)(N:Nat):Code→St→Option (E×St)
 | .skip,s=>some (.norm,s)
 | .region id ops draw,s=>normS (runR P call an N id ops draw s)
 | .seq x y,s=>andThen (runS P call L an N x s) (runS P call L an N y)
 | .cond (.tmp t) x y,s=>match getT s.t t with
  | .x (.bool b)=>if b=true then runS P call L an N x (if an.cond.contains t=true then⟨delT s.t t,s.h⟩ else s) else runS P call L an N y (if an.cond.contains t=true then⟨delT s.t t,s.h⟩ else s)
  |_=>none
 | .block id c,s=>blockS id (runS P call L an N c s)
 | .loop c,s=>match rid c with
  |some i=>L i s
  |none=>none
 | .exit id,s=>some (.ex id,headOf (an.exits.lookup id) s)
 | .ret,s=>some (.ret,headOf an.rets s)
 | .scope c,s=>runS P call L an N c s
 | .label _,s=>some (.norm,s)
 |_,_=>none
def loopAt(body:Code)(i:Nat):Code:=((loopsIn body).find? (fun c=>rid c==some i)).getD .skip
def okLoops(body:Code):Bool:=(loopsIn body).all (fun c=>(rid c).isSome)&&((loopsIn body).map rid).Nodup
noncomputable def atN(P:Program)(call:CT)(an:Ann)(N:Nat)(body:Code)(i n:Nat)(s:St):Option (E×St):=loopX P call an N (loopAt body i) (an.loops.lookup i) n s
noncomputable def atH(P:Program)(call:CT)(an:Ann)(N:Nat)(body:Code)(n i:Nat)(s:St):Option (E×St):=atN P call an N body i n (headOf (an.loops.lookup i) s)
noncomputable def stepL(P:Program)(call:CT)(an:Ann)(N:Nat)(body:Code)(i:Nat)(s:St):Option (E×St):=
 runS P call (atH P call an N body bigL) an N (loopAt body i) s
section
variable {P:Program}{call:CT}{an:Ann}{N:Nat}{body:Code}
theorem find_rid{l:List Code}(hnd:(l.map rid).Nodup){c:Code}(hc:c∈l){i:Nat}(hi:rid c=some i):l.find? (fun c=>rid c==some i)=some c:=by
 induction l with
 |nil=>cases hc
 |cons x r ih=>
  simp only[List.map_cons,List.nodup_cons] at hnd
  rcases List.mem_cons.1 hc with rfl|hc
  ·simp[List.find?,hi]
  ·have hx:rid x≠some i:=fun e=>hnd.1 (by rw[e,←hi];exact List.mem_map_of_mem hc)
   have:(rid x==some i)=false:=by simpa using hx
   rw[List.find?_cons,this]
   exact ih hnd.2 hc
theorem loopAt_of(hok:okLoops body=true){c:Code}(hc:c∈loopsIn body){i:Nat}(hi:rid c=some i):loopAt body i=c:=by
 simp only[okLoops,Bool.and_eq_true,decide_eq_true_eq] at hok
 rw[loopAt,find_rid hok.2 hc hi]
 rfl
theorem runS_eq(hok:okLoops body=true):∀(c:Code),(∀x∈loopsIn c,x∈loopsIn body)→∀s,runS P call (atH P call an N body bigL) an N c s=runC P call an N c s:=by
 intro c
 induction c with
 |seq x y ihx ihy=>
  intro hs s
  simp only[loopsIn,List.mem_append] at hs
  unfold runS runC
  have e1:=ihx (fun z hz=>hs z (.inl hz))
  have e2:runS P call (atH P call an N body bigL) an N y=runC P call an N y:=funext (ihy (fun z hz=>hs z (.inr hz)))
  simp only[e1,e2]
  unfold andThen
  rcases runC P call an N x s with _|⟨_|_|_,_⟩<;>rfl
 |cond c x y ihx ihy=>
  intro hs s
  simp only[loopsIn,List.mem_append] at hs
  cases c with
  |tmp t=>
   have e1:=ihx (fun z hz=>hs z (.inl hz))
   have e2:=ihy (fun z hz=>hs z (.inr hz))
   simp only[runS,runC,e1,e2]
   all_goals rfl
  |_=>simp[runS,runC]
 |scope c ih=>
  intro hs s
  have e1:=ih hs s
  simp only[runS,runC]
  exact e1
 |block id c ih=>
  intro hs s
  have e1:=ih hs
  simp only[runS,runC,e1]
  unfold blockS
  rcases runC P call an N c s with _|⟨_|_|_,_⟩<;>rfl
 |loop c ih=>
  intro hs s
  simp only[loopsIn,List.mem_cons,forall_eq_or_imp] at hs
  rw[runC_loop]
  unfold runS
  have h1:=hok
  simp only[okLoops,Bool.and_eq_true,List.all_eq_true] at h1
  have h2:=h1.1 c hs.1
  cases hr:rid c with
  |none=>rw[hr] at h2;cases h2
  |some i=>
   simp only[atH,atN,loopAt_of hok hs.1 hr,liveOf,hr]
 |region id ops draw=>
  intro _ s
  unfold runS runC normS
  rcases runR P call an N id ops draw s with _|_<;>rfl
 |_=>intro _ s;simp[runS,runC]
theorem loopsIn_mem:∀(b c:Code),c∈loopsIn b→∀x∈loopsIn c,x∈loopsIn b:=by
 intro b
 induction b with
 |seq x y ihx ihy=>
  intro c hc z hz
  simp only[loopsIn,List.mem_append] at hc⊢
  exact hc.imp (fun h=>ihx c h z hz) (fun h=>ihy c h z hz)
 |cond _ x y ihx ihy=>
  intro c hc z hz
  simp only[loopsIn,List.mem_append] at hc⊢
  exact hc.imp (fun h=>ihx c h z hz) (fun h=>ihy c h z hz)
 |block _ c ih=>exact ih
 |scope c ih=>exact ih
 |loop b ih=>
  intro c hc z hz
  simp only[loopsIn,List.mem_cons] at hc⊢
  rcases hc with rfl|hc
  ·exact .inr hz
  ·exact .inr (ih c hc z hz)
 |_=>intro c hc;simp[loopsIn] at hc
theorem loopAt_loops(i:Nat):∀x∈loopsIn (loopAt body i),x∈loopsIn body:=by
 unfold loopAt
 cases h:(loopsIn body).find? (fun c=>rid c==some i) with
 |none=>intro x hx;simp[loopsIn] at hx
 |some c=>exact loopsIn_mem body c (List.mem_of_find?_eq_some h)
def noItL(body:Code):Bool:=(loopsIn body).all fun c=>(itOf c).isNone
theorem itOf_loopAt(h:noItL body=true)(i:Nat):(itOf (loopAt body i)).isNone=true:=by
 unfold loopAt
 cases hf:(loopsIn body).find? (fun c=>rid c==some i) with
 |none=>rfl
 |some c=>exact List.all_eq_true.1 h c (List.mem_of_find?_eq_some hf)
theorem atN_succ1(hok:okLoops body=true)(i n:Nat)(hi:(itOf (loopAt body i)).isNone=true)(s:St):atN P call an N body i (n+1) s=andThen (stepL P call an N body i s) (atH P call an N body n i):=by
 have e:itOf (loopAt body i)=none:=Option.isNone_iff_eq_none.1 hi
 unfold stepL andThen
 rw[runS_eq hok _ (loopAt_loops i)]
 simp only[atH,atN,loopX,e,loopN]
theorem atN_succ(hok:okLoops body=true)(hi:noItL body=true)(i n:Nat)(s:St):atN P call an N body i (n+1) s=andThen (stepL P call an N body i s) (atH P call an N body n i):=atN_succ1 hok i n (itOf_loopAt hi i) s
noncomputable def restS(P:Program)(call:CT)(L:Nat→St→Option (E×St))(an:Ann)(N:Nat)(q:Option (Nat×Nat×Array Oper×Code))(s:St):Option (E×St):=match q with
 |some (_,_,ops,y)=>andThen (normS (bindS (runSeq P call an N ops ops.toList.tail s) (endK an ops.toList))) (runS P call L an N y)
 |none=>none
noncomputable def runG(P:Program)(call:CT)(L:Nat→St→Option (E×St))(an:Ann)(N:Nat)(body:Code)(results:List ResultVar)(ds:List D):Option D:=
 if ds.length≤N then
  endS P results (runS P call L an N body (init an ds))
 else none
theorem runG_eq(hok:okLoops body=true)(results:List ResultVar)(ds:List D):runF P call an N body results ds=runG P call (atH P call an N body bigL) an N body results ds:=by
 unfold runF runG endS
 rw[runS_eq hok body (fun _ h=>h)]
 all_goals split<;>first|rfl|(rcases runC P call an N body (init an ds) with _|⟨_|_|_,_⟩<;>rfl)
noncomputable def runGE(P:Program)(call:CT)(L:Nat→St→Option (E×St))(an:Ann)(N:Nat)(body:Code)(results:List ResultVar)(hs:List (Nat×O))(ds:List D):Option (D×List (Nat×O)):=
 if ds.length≤N then
  prunedE an (endE P an.rets results (runS P call L an N body (initE an hs ds)))
 else none
theorem runGE_eq(hok:okLoops body=true)(results:List ResultVar)(hs:List (Nat×O))(ds:List D):runE P call an N body results hs ds=runGE P call (atH P call an N body bigL) an N body results hs ds:=by
 unfold runE runGE endE
 rw[runS_eq hok body (fun _ h=>h)]
 all_goals split<;>first|rfl|(rcases runC P call an N body (initE an hs ds) with _|⟨_|_|_,_⟩<;>rfl)
end
def aftB(o:Oper)(j:Nat):Bool:=(aft o).contains j
def blkL(ops:Array Oper)(id i:Nat)(a:Oper):Nat→Nat→List Oper→Bool
 |0,_,_=>false
 |_+1,_,[]=>false
 |m+1,j,o::r=>if o.dst=some id∨storeTgt ops o=some id then((j !=i&&!(aftB a j||aftB o i))||blkL ops id i a m (j+1) r) else blkL ops id i a m (j+1) r
theorem blkL_eq(ops:Array Oper)(id i:Nat)(a:Oper):∀(m j:Nat) (l:List Oper),blkL ops id i a m j l=(List.range m).any fun k=>match l[k]? with
  |some o=>(j+k) !=i&&wrs ops o id&&!ordered i (j+k) a o
  |none=>false
 |0,_,_=>rfl
 |m+1,j,[]=>by simp[blkL]
 |m+1,j,o::r=>by
  rw[blkL,blkL_eq ops id i a m (j+1) r,List.range_succ_eq_map,List.any_cons,List.any_map]
  have e:(fun k=>match r[k]? with
    |some o=>(j+1+k) !=i&&wrs ops o id&&!ordered i (j+1+k) a o
    |none=>false)=((fun k=>match(o::r)[k]? with
    |some o=>(j+k) !=i&&wrs ops o id&&!ordered i (j+k) a o
    |none=>false)∘Nat.succ):=by
   funext k
   simp only[Function.comp,List.getElem?_cons_succ,Nat.succ_eq_add_one]
   rw[show j+1+k=j+(k+1) by omega]
  rw[e]
  have hw:wrs ops o id=decide (o.dst=some id∨storeTgt ops o=some id):=by
   rw[Bool.eq_iff_iff]
   simp only[wrs,Bool.or_eq_true,beq_iff_eq,decide_eq_true_eq]
  by_cases h:o.dst=some id∨storeTgt ops o=some id
  ·simp only[h,if_true,List.getElem?_cons_zero,hw,decide_true,Nat.add_zero,Bool.and_true]
   rfl
  ·simp only[h,if_false,List.getElem?_cons_zero,hw,decide_false,Nat.add_zero,Bool.and_false,Bool.false_and,Bool.false_or]
theorem blocked_eq(ops:Array Oper)(m i:Nat)(o:Oper)(id:Nat):blocked ops m i o id=blkL ops id i o m 0 ops.toList:=by
 rw[blkL_eq]
 unfold blocked
 congr 1
 funext k
 simp
 all_goals rfl
attribute [simp] blocked_eq blkL aftB aft Region.binds
section
variable (P:Program)(call:CT)(L:Nat→St→Option (E×St))(an:Ann)(N:Nat)(s:St)
@[simp] theorem runS_skip:runS P call L an N .skip s=some (.norm,s):=by cases s;rfl
@[simp] theorem runS_region(id:Nat)(ops:Array Oper)(draw:Bool):runS P call L an N (.region id ops draw) s=normS (runR P call an N id ops draw s):=by cases s;rfl
@[simp] theorem runS_seq(x y:Code):runS P call L an N (.seq x y) s=andThen (runS P call L an N x s) (runS P call L an N y):=by cases s;rfl
@[simp] theorem runS_cond(t:Nat)(x y:Code):runS P call L an N (.cond (.tmp t) x y) s=match getT s.t t with
 | .x (.bool b)=>if b=true then runS P call L an N x (if an.cond.contains t=true then⟨delT s.t t,s.h⟩ else s) else runS P call L an N y (if an.cond.contains t=true then⟨delT s.t t,s.h⟩ else s)
 |_=>none:=by cases s;rfl
@[simp] theorem runS_scope(c:Code):runS P call L an N (.scope c) s=runS P call L an N c s:=by cases s;rfl
@[simp] theorem runS_label(l:Nat):runS P call L an N (.label l) s=some (.norm,s):=by cases s;rfl
@[simp] theorem runS_block(id:Nat)(c:Code):runS P call L an N (.block id c) s=blockS id (runS P call L an N c s):=by cases s;rfl
@[simp] theorem runS_loop(c:Code):runS P call L an N (.loop c) s=match rid c with
 |some i=>L i s
 |none=>none:=by cases s;rfl
@[simp] theorem runS_exit(id:Nat):runS P call L an N (.exit id) s=some (.ex id,headOf (an.exits.lookup id) s):=by cases s;rfl
@[simp] theorem runS_ret:runS P call L an N .ret s=some (.ret,headOf an.rets s):=by cases s;rfl
end
section
variable {c:Prop}[Decidable c]
@[simp] theorem ite_int(k:IntKind)(a b:Int):(if c then some (D.x (.int k a)) else some (D.x (.int k b)))=some (D.x (.int k (if c then a else b))):=by split<;>rfl
@[simp] theorem ite_bool(a b:Bool):(if c then some (D.x (.bool a)) else some (D.x (.bool b)))=some (D.x (.bool (if c then a else b))):=by split<;>rfl
@[simp] theorem ite_string(a b:ByteArray):(if c then some (D.x (.string a)) else some (D.x (.string b)))=some (D.x (.string (if c then a else b))):=by split<;>rfl
@[simp] theorem ite_tup(a b:List D):(if c then some (D.tup a) else some (D.tup b))=some (D.tup (if c then a else b)):=by split<;>rfl
@[simp] theorem ite_agg(a b:List D):(if c then some (D.agg a) else some (D.agg b))=some (D.agg (if c then a else b)):=by split<;>rfl
@[simp] theorem ite_own(f:Bool)(a b:List (List D)):(if c then some (D.own f a) else some (D.own f b))=some (D.own f (if c then a else b)):=by split<;>rfl
@[simp] theorem ite_cons(x y:D)(a b:List D):(if c then x::a else y::b)=(if c then x else y)::(if c then a else b):=by split<;>rfl
@[simp] theorem iteD_int(k:IntKind)(a b:Int):(if c then D.x (.int k a) else D.x (.int k b))=D.x (.int k (if c then a else b)):=by split<;>rfl
@[simp] theorem iteD_bool(a b:Bool):(if c then D.x (.bool a) else D.x (.bool b))=D.x (.bool (if c then a else b)):=by split<;>rfl
@[simp] theorem iteD_string(a b:ByteArray):(if c then D.x (.string a) else D.x (.string b))=D.x (.string (if c then a else b)):=by split<;>rfl
@[simp] theorem iteD_agg(a b:List D):(if c then D.agg a else D.agg b)=D.agg (if c then a else b):=by split<;>rfl
@[simp] theorem iteD_own(f:Bool)(a b:List (List D)):(if c then D.own f a else D.own f b)=D.own f (if c then a else b):=by split<;>rfl
end
attribute [simp] bodyOf callOf callOfE runG runGE stepL loopAt loopsIn restS itOf itHead itStep itOver itSt
end Go.Abs
namespace Go.Abs
open Go
section
variable {P:Program}{n:Nat}{t e:TypeId}{cs:List D}
theorem TyC.int{k:IntKind}(hu:P.underlying t=some (.int k))(h:TyC P n t cs):∃v,cs=[.x (.int k v)]∧(Lit.int k v).wf=true:=by
 cases n with
 |zero=>exact absurd h (by simp[TyC])
 |succ n=>unfold TyC at h;rw[hu] at h;exact h
theorem TyC.i64(hu:P.underlying t=some (.int .i64))(h:TyC P n t cs):∃v:Int,cs=[.x (.int .i64 v)]∧-9223372036854775808≤v∧v≤9223372036854775807:=by
 obtain⟨v,h1,h2⟩:=TyC.int hu h
 simp[Lit.wf,IntKind.min,IntKind.max,IntKind.signed,IntKind.bits] at h2
 exact⟨v,h1,by omega,by omega⟩
theorem TyC.bool(hu:P.underlying t=some .bool)(h:TyC P n t cs):∃b,cs=[.x (.bool b)]:=by
 cases n with
 |zero=>exact absurd h (by simp[TyC])
 |succ n=>unfold TyC at h;rw[hu] at h;exact h
theorem TyC.string(hu:P.underlying t=some .string)(h:TyC P n t cs):∃s:ByteArray,cs=[.x (.string s)]∧s.size≤9223372036854775807:=by
 cases n with
 |zero=>exact absurd h (by simp[TyC])
 |succ n=>unfold TyC at h;rw[hu] at h;exact h
theorem TyC.slice(hu:P.underlying t=some (.slice e))(h:TyC P n t cs):∃(es:List (List D)) (m:Nat),cs=[.sl es]∧es.length≤9223372036854775807∧∀x∈es,TyC P m e x:=by
 cases n with
 |zero=>exact absurd h (by simp[TyC])
 |succ n=>
  unfold TyC at h
  rw[hu] at h
  obtain⟨es,h1,h2,h3⟩:=h
  exact⟨es,n,h1,h2,h3⟩
theorem TyC.struct{fs:Array Field}(hu:P.underlying t=some (.struct fs))(h:TyC P n t cs):cs.length=P.cellsOf t∧∃m,∀f∈fs.toList,TyC P m f.type ((cs.drop f.offset).take (P.cellsOf f.type)):=by
 cases n with
 |zero=>exact absurd h (by simp[TyC])
 |succ n=>unfold TyC at h;rw[hu] at h;exact⟨h.1,n,h.2⟩
theorem TyC.array{m:Nat}(hu:P.underlying t=some (.array m e))(h:TyC P n t cs):cs.length=P.cellsOf t∧∃k,∀i,i<m→TyC P k e ((cs.drop (i*P.cellsOf e)).take (P.cellsOf e)):=by
 cases n with
 |zero=>exact absurd h (by simp[TyC])
 |succ n=>unfold TyC at h;rw[hu] at h;exact⟨h.1,n,h.2⟩
theorem TyV.cell{d:D}(ha:aggT P t=some false)(h:TyV P t d):∃n,TyC P n t [d]:=by
 obtain⟨n,cs,h1,h2⟩:=h
 unfold aggT at ha
 split at ha
 ·cases ha
 ·cases ha
 ·rename_i d' h3 h4 h5
  rw[h5] at h2
  split at h2
  ·rename_i fs he
   injection he with he
   exact absurd he (h3 fs)
  ·rename_i m e he
   injection he with he
   exact absurd he (h4 m e)
  ·subst h2;exact⟨n,h1⟩
 ·cases ha
theorem TyV.agg{d:D}(ha:aggT P t=some true)(h:TyV P t d):∃n cs,d= .agg cs∧TyC P n t cs:=by
 obtain⟨n,cs,h1,h2⟩:=h
 unfold aggT at ha
 split at ha
 ·rename_i h3;rw[h3] at h2;exact⟨n,cs,h2,h1⟩
 ·rename_i h3;rw[h3] at h2;exact⟨n,cs,h2,h1⟩
 ·cases ha
 ·cases ha
end
end Go.Abs
namespace Go.Abs
open Go Go.RowKit
def okA:D→Bool
 | .agg cs=>cs.all isCell
 |d=>isCell d
section
variable {P:Program}{G:Nat→Option (List D)}{f:FuncId}
theorem contractE_pure{ds:List D}{r:D}(h:Contract P G f ds r)(hd:ds.all okA=true):ContractE P G f [] ds r []:=by
 refine⟨h.1,fun w ι args hobjs hglob hargs=>?_⟩
 have hn:∀id,ι id=none:=by
  intro id
  cases hv:ι id with
  |none=>rfl
  |some v=>
   obtain⟨o,ho⟩:=hobjs.dom id v hv
   simp[getH] at ho
 have one:∀{v:Value} {d:D},Rep1 w w.heap.size ι v d→isCell d=true→RepI w (okB ι) (fun _=>False) v d:=by
  intro v d h1 hc
  rcases h1 with h1|h1
  ·exact(h1.cell _).1 hc
  ·cases d<;>simp[isCell] at hc<;>exact h1.elim
 have hr:CellsRel (RepI w (okB ι) (fun _=>False)) args ds:=by
  obtain⟨hl,hc⟩:=hargs
  refine⟨hl,fun i c d h1 h2=>?_⟩
  have hrep:=hc i c d h1 h2
  have hok:=List.all_eq_true.1 hd d (List.mem_of_getElem? h2)
  by_cases ha:∃cs,d= .agg cs
  ·obtain⟨cs,rfl⟩:=ha
   have hcs:∀x∈cs,isCell x=true:=fun x hx=>List.all_eq_true.1 hok x hx
   rcases hrep with hrep|⟨ds',e,arr,rfl,hl',hc'⟩|⟨ds',e,_⟩
   ·rcases hrep with hrep|hrep
    ·cases hrep with
     |agg hl' hc'=>exact .agg hl' (fun j u e h3 h4=>one (.inl (hc' j u e h3 h4)) (hcs e (List.mem_of_getElem? h4)))
    ·exact hrep.elim
   ·cases e
    exact .agg hl' (fun j u e h3 h4=>one (hc' j u e h3 h4) (hcs e (List.mem_of_getElem? h4)))
   ·cases e
  ·have hcell:isCell d=true:=by
    cases d<;>first|exact hok|exact absurd ⟨_,rfl⟩ ha
   rcases hrep with hrep|⟨ds',e,_⟩|⟨ds',e,_⟩
   ·exact one hrep hcell
   ·exact absurd ⟨_,e⟩ ha
   ·subst e;cases hcell
 refine(h.2 w (okB ι) args (fun g cs hg=>(hglob g cs hg).to (((hglob g cs hg).rep.cell _).2.1 cs rfl) rfl) hr).mono ?_
 rintro e w' ⟨v,h1,h2,h3⟩
 have okF:∀b,w.heap.size≤b→okB ι b:=fun b hb=>⟨hobjs.fresh b (.inl hb),fun id u hu=>(by rw[hn] at hu;cases hu)⟩
 refine⟨v,ι,h1,⟨h2.os,h2.tape,h2.output,h2.size,fun k hk _=>h2.block k hk⟩,rfl,rfl,⟨fun id o ho=>(by simp[getH] at ho),fun id u hu=>(by rw[hn] at hu;cases hu),fun id id' u u' b hu=>(by rw[hn] at hu;cases hu),hobjs.fresh⟩,
  .inl (.inl (h3.mono (Nat.le_refl _) (fun b _ ho=>⟨ho.elim id (okF b),rfl⟩) (fun b _ ho=>⟨⟨.inl ho,okF b ho⟩,rfl⟩))),fun id u hu=>by rw[hn] at hu;cases hu⟩
noncomputable def pureE(F:List D→Option D)(hs:List (Nat×O))(ds:List D):Option (D×List (Nat×O)):=match hs with
 |[]=>if ds.all okA=true then(F ds).map (fun r=>(r,[])) else none
 |_=>none
theorem pureE_ok{F:List D→Option D}(hF:∀ds r,F ds=some r→Contract P G f ds r)(hs:List (Nat×O))(ds:List D)(r:D)(hs':List (Nat×O))(h:pureE F hs ds=some (r,hs')):ContractE P G f hs ds r hs':=by
 unfold pureE at h
 split at h
 ·split at h
  ·rename_i hd
   rw[Option.map_eq_some_iff] at h
   obtain⟨r0,h1,h2⟩:=h
   cases h2
   exact contractE_pure (hF _ _ h1) hd
  ·cases h
 ·cases h
end
end Go.Abs
namespace Go.Abs
open Go
abbrev FD:=List D→Option D
abbrev ED:=List (Nat×O)→List D→Option (D×List (Nat×O))
abbrev OS:=Option (E×St)
structure Pk where
 an:Ann
 cl:List (Nat×FD)
 ce:List (Nat×ED)
 N:Nat
 fn:Func
 rs:List ResultVar
theorem pkS{k:Pk}{k1 k2 k3:List Nat}{k4 k5:List (Nat×List Nat)}{k6:Option (List Nat)}{k7:List (Nat×Nat)}{k8:List (Nat×Bool)}{k9:List (Nat×Nat×Nat×Nat)}{k10:List (Nat×Tr)}{k11:List Nat}{cl:List (Nat×FD)}{ce:List (Nat×ED)}{N:Nat}{fn:Func}{rs:List ResultVar}
  (h:k=⟨⟨k1,k2,k3,k4,k5,k6,k7,k8,k9,k10,k11⟩,cl,ce,N,fn,rs⟩):
  k.an.keep=k1∧k.an.cond=k2∧k.an.rows=k3∧k.an.loops=k4∧k.an.exits=k5∧k.an.rets=k6∧k.an.draws=k7∧k.an.ecalls=k8∧k.an.crows=k9∧k.an.tails=k10∧k.an.cuts=k11∧k.cl=cl∧k.ce=ce∧k.N=N∧k.fn=fn∧k.rs=rs:=by
 subst h
 exact⟨rfl,rfl,rfl,rfl,rfl,rfl,rfl,rfl,rfl,rfl,rfl,rfl,rfl,rfl,rfl,rfl⟩
section
variable (P:Program)(G:Nat→Option (List D))(k:Pk)
def ctP:CT:=⟨callOf k.cl,callOfE k.ce,G⟩
@[simp] theorem ctP_p(f:FuncId)(ds:List D):(ctP G k).p f ds=callOf k.cl f ds:=Eq.trans rfl rfl
@[simp] theorem ctP_e(f:FuncId)(hs:List (Nat×O))(ds:List D):(ctP G k).e f hs ds=callOfE k.ce f hs ds:=Eq.trans rfl rfl
@[simp] theorem ctP_g(g:Nat):(ctP G k).g g=G g:=Eq.trans rfl rfl
noncomputable def LP(i n:Nat)(s:St):OS:=atN P (ctP G k) k.an k.N (bodyOf k.fn) i n s
noncomputable def HP(n i:Nat)(s:St):OS:=atH P (ctP G k) k.an k.N (bodyOf k.fn) n i s
@[simp] theorem HP_eq(n i:Nat)(s:St):HP P G k n i s=LP P G k i n (headOf (k.an.loops.lookup i) s):=Eq.trans rfl rfl
noncomputable def RP(i:Nat)(s:St):OS:=stepL P (ctP G k) k.an k.N (bodyOf k.fn) i s
noncomputable def FP(ds:List D):Option D:=runF P (ctP G k) k.an k.N (bodyOf k.fn) k.rs ds
noncomputable def EP(hs:List (Nat×O))(ds:List D):Option (D×List (Nat×O)):=runE P (ctP G k) k.an k.N (bodyOf k.fn) k.rs hs ds
@[simp] noncomputable def GP(ds:List D):Option D:=runG P (ctP G k) (HP P G k bigL) k.an k.N (bodyOf k.fn) k.rs ds
@[simp] noncomputable def GEP(hs:List (Nat×O))(ds:List D):Option (D×List (Nat×O)):=runGE P (ctP G k) (HP P G k bigL) k.an k.N (bodyOf k.fn) k.rs hs ds
@[simp] noncomputable def SP(i:Nat)(s:St):OS:=runS P (ctP G k) (HP P G k bigL) k.an k.N (loopAt (bodyOf k.fn) i) s
end
section
variable {P:Program}{G:Nat→Option (List D)}{k:Pk}
theorem FP_eq(hok:okLoops (bodyOf k.fn)=true)(ds:List D):FP P G k ds=GP P G k ds:=runG_eq hok _ ds
theorem EP_eq(hok:okLoops (bodyOf k.fn)=true)(hs:List (Nat×O))(ds:List D):EP P G k hs ds=GEP P G k hs ds:=runGE_eq hok _ hs ds
theorem LP_succ(hok:(okLoops (bodyOf k.fn)&&noItL (bodyOf k.fn))=true)(i n:Nat)(s:St):LP P G k i (n+1) s=andThen (RP P G k i s) (HP P G k n i):=by
 rw[Bool.and_eq_true] at hok
 exact atN_succ hok.1 hok.2 i n s
def okPk(k:Pk):Bool:=k.fn.body.isSome&&!(k.fn.name== "runtime.NumGoroutine")&&okCode k.an (bodyOf k.fn)&&decide (k.fn.ntmps≤1000)&&(k.N==k.fn.ntmps)
theorem okPk_of(h:okPk k=true):k.fn.body=some (bodyOf k.fn)∧(k.fn.name== "runtime.NumGoroutine")=false∧okCode k.an (bodyOf k.fn)=true∧k.fn.ntmps≤1000∧k.N=k.fn.ntmps:=by
 unfold okPk at h
 simp only[Bool.and_eq_true,Bool.not_eq_true',decide_eq_true_eq,beq_iff_eq] at h
 obtain⟨⟨⟨⟨h1,h2⟩,h3⟩,h4⟩,h5⟩:=h
 refine⟨?_,h2,h3,h4,h5⟩
 unfold bodyOf
 cases hb:k.fn.body with
 |none=>rw[hb] at h1;cases h1
 |some b=>rfl
abbrev Cn(P:Program)(G:Nat→Option (List D))(f:FuncId)(F:FD):Prop:=∀ds r,F ds=some r→Contract P G f ds r
abbrev CEn(P:Program)(G:Nat→Option (List D))(f:FuncId)(F:ED):Prop:=∀hs ds r hs',F hs ds=some (r,hs')→ContractE P G f hs ds r hs'
theorem CP(hmix:P.follows .mixedOrders=true){f:FuncId}{fn:Func}(hf:P.funcs[f]? =some fn)(h1:k.fn=fn)(h2:k.rs=fn.results.toList)(h:okPk k=true)(hc:CallsOk P G k.cl)(he:CallsOkE P G k.ce):Cn P G f (FP P G k):=by
 intro ds r hr
 obtain⟨q1,q2,q3,q4,q5⟩:=okPk_of h
 subst h1
 unfold FP at hr
 rw[q5,h2] at hr
 exact contract_of hmix hf q1 q2 q3 q4 (call:=ctP G k) ⟨callOf_ok _ hc,callOfE_ok _ he⟩ hr
theorem CEP(hmix:P.follows .mixedOrders=true){f:FuncId}{fn:Func}(hf:P.funcs[f]? =some fn)(h1:k.fn=fn)(h2:k.rs=fn.results.toList)(h:okPk k=true)(hc:CallsOk P G k.cl)(he:CallsOkE P G k.ce):CEn P G f (EP P G k):=by
 intro hs ds r hs' hr
 obtain⟨q1,q2,q3,q4,q5⟩:=okPk_of h
 subst h1
 unfold EP at hr
 rw[q5,h2] at hr
 exact contractE_of hmix hf q1 q2 q3 q4 (call:=ctP G k) ⟨callOf_ok _ hc,callOfE_ok _ he⟩ hr
end
noncomputable def nilE(r0:D)(E:ED):ED:=fun hs ds=>match hs,ds with
 |[],[.sl es]=>if es.length=0 then some (r0,[]) else E [] [.sl es]
 |_,_=>none
theorem nilE_ok{P:Program}{G:Nat→Option (List D)}{f:FuncId}{r0:D}{F:FD}{E:ED}(hF:Cn P G f F)(h0:F [.sl []]=some r0)(hE:CEn P G f E):CEn P G f (nilE r0 E):=by
 intro hs ds r hs' h
 unfold nilE at h
 split at h
 ·rename_i es
  split at h
  ·rename_i hl
   cases h
   have:es=[]:=List.eq_nil_of_length_eq_zero hl
   subst this
   exact contractE_pure (hF _ _ h0) (by simp[okA,isCell])
  ·exact hE _ _ _ _ h
 ·cases h
def zz:List Nat→List D
 |[]=>[]
 |k::r=>(match k with
  |0=> .x (.int .i64 0)
  |1=> .x (.string ByteArray.empty)
  |2=> .emp
  |3=> .x (.bool false)
  |4=> .x (.int .u64 0)
  |5=> .x (.int .u8 0)
  |6=> .x (.pointer none)
  |7=> .x .nilFunc
  |8=> .x .nilIface
  |9=> .x (.map none)
  |10=> .x (.int .u32 0)
  |_=> .any)::zz r
@[simp] theorem zz_nil:zz []=[]:=rfl
@[simp] theorem zz_0(r:List Nat):zz (0::r)= .x (.int .i64 0)::zz r:=rfl
@[simp] theorem zz_1(r:List Nat):zz (1::r)= .x (.string ByteArray.empty)::zz r:=rfl
@[simp] theorem zz_2(r:List Nat):zz (2::r)= .emp::zz r:=rfl
@[simp] theorem zz_3(r:List Nat):zz (3::r)= .x (.bool false)::zz r:=rfl
@[simp] theorem zz_4(r:List Nat):zz (4::r)= .x (.int .u64 0)::zz r:=rfl
@[simp] theorem zz_5(r:List Nat):zz (5::r)= .x (.int .u8 0)::zz r:=rfl
@[simp] theorem zz_6(r:List Nat):zz (6::r)= .x (.pointer none)::zz r:=rfl
@[simp] theorem zz_7(r:List Nat):zz (7::r)= .x .nilFunc::zz r:=rfl
@[simp] theorem zz_8(r:List Nat):zz (8::r)= .x .nilIface::zz r:=rfl
@[simp] theorem zz_9(r:List Nat):zz (9::r)= .x (.map none)::zz r:=rfl
@[simp] theorem zz_10(r:List Nat):zz (10::r)= .x (.int .u32 0)::zz r:=rfl
theorem ty1{P:Program}{t n:Nat}{b:Bool}{zs:List D}(h:(szT P t,P.cellsOf t,aggT P t,zeroD P t)=(some n,n,some b,some zs)):szT P t=some n∧P.cellsOf t=n∧aggT P t=some b∧zeroD P t=some zs:=by
 simpa using h
theorem ty2{P:Program}{t n:Nat}{b c e:Bool}{zs:List D}{pl:List (Nat×Nat)}(h:(szT P t,P.cellsOf t,aggT P t,buildT P t,P.stoodInHeld t,P.eqGuardType P.depth t)=(some n,n,some b,some (pl,zs),c,e)):
  szT P t=some n∧P.cellsOf t=n∧aggT P t=some b∧zeroD P t=some zs∧buildT P t=some (pl,zs)∧P.stoodInHeld t=c∧P.eqGuardType P.depth t=e:=by
 simp only[Prod.mk.injEq] at h
 obtain⟨h1,h2,h3,h4,h5,h6⟩:=h
 refine⟨h1,h2,h3, ?_,h4,h5,h6⟩
 unfold buildT at h4
 split at h4
 ·rename_i hz
  split at h4
  ·simp only[Option.some.injEq,Prod.mk.injEq] at h4
   rw[hz,h4.2]
  ·cases h4
 ·rename_i hz
  split at h4
  ·simp only[Option.some.injEq,Prod.mk.injEq] at h4
   rw[hz,h4.2]
  ·cases h4
 ·cases h4
theorem ty3{P:Program}{t n:Nat}{b:Bool}{zs:List D}{e s y:Nat}{ez:List D}(h:(szT P t,P.cellsOf t,aggT P t,zeroD P t,mkT P t,appT P t)=(some n,n,some b,some zs,some (e,s,y,ez),some (e,s,y))):
  szT P t=some n∧P.cellsOf t=n∧aggT P t=some b∧zeroD P t=some zs∧mkT P t=some (e,s,y,ez)∧appT P t=some (e,s,y):=by
 simpa using h
end Go.Abs
