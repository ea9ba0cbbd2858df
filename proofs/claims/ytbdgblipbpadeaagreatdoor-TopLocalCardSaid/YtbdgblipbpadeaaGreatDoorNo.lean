/-
  The places of a pattern, one by one: the iterator's contract.
-/
import Derived.Test.YtbdgblipbpadeaaGreatDoorNf
import Derived.Test.YtbdgblipbpadeaaGreatDoorMd
import Derived.Test.YtbdgblipbpadeaaGreatDoorMf
set_option linter.unusedSimpArgs false
set_option linter.unusedVariables false
set_option linter.defProp false
namespace Go.Proofs.YtbdgblipbpadeaaGreatDoor
open Go Go.Abs
set_option maxHeartbeats 4000000
set_option maxRecDepth 100000
structure Rc where
 xa:Int
 xb:Int
 ya:Int
 yb:Int
def eRc(r:Rc):List D:=[I r.xa,I r.xb,I r.ya,I r.yb]
@[simp] theorem eRc_eq(r:Rc):eRc r=[I r.xa,I r.xb,I r.ya,I r.yb]:=rfl
structure Nd where
 kind:Int
 at':Int
def eNd(n:Nd):List D:=[I n.kind,I n.at']
@[simp] theorem eNd_eq(n:Nd):eNd n=[I n.kind,I n.at']:=rfl
structure Plc where
 r:Rc
 lvl:Int
def ePlc(p:Plc):List D:=[I p.r.xa,I p.r.xb,I p.r.ya,I p.r.yb,I p.lvl]
@[simp] theorem ePlc_eq(p:Plc):ePlc p=[I p.r.xa,I p.r.xb,I p.r.ya,I p.r.yb,I p.lvl]:=rfl
def isRipM(k:Int):Bool:=decide (k=2)||decide (k=3)
theorem isRip_run(k:Int):F_pattern_isRip [I k]=some (B (isRipM k)):=by
 rw[F_pattern_isRip_eq]
 unfold isRipM
 by_cases h:k=2
 ·simp[h]
 ·simp[h]
def alongM(r:Rc)(k:Int):Int×Int:=if k=2 then(r.xa,r.xb) else(r.ya,r.yb)
theorem palong_run(r:Rc)(k:Int):F_pattern_along [.agg (eRc r),I k]=some (.agg (eP (alongM r k))):=by
 rw[F_pattern_along_eq]
 unfold alongM
 by_cases h:k=2
 ·simp[h]
 ·simp[h]
def withM(r:Rc)(k:Int)(s:Int×Int):Rc:=if k=2 then⟨s.1,s.2,r.ya,r.yb⟩ else⟨r.xa,r.xb,s.1,s.2⟩
theorem with_run(r:Rc)(k:Int)(s:Int×Int):F_pattern_with [.agg (eRc r),I k,.agg (eP s)]=some (.agg (eRc (withM r k s))):=by
 rw[F_pattern_with_eq]
 unfold withM
 by_cases h:k=2
 ·simp[h]
 ·simp[h]
def endM(r:Rc)(n:Nd)(kerf:Int):Int:=if(alongM r n.kind).2<IntKind.i64.wrap (n.at'+kerf) then(alongM r n.kind).2 else IntKind.i64.wrap (n.at'+kerf)
def midM(r:Rc)(n:Nd)(kerf:Int):Rc:=withM r n.kind (n.at',endM r n kerf)
def fstM(r:Rc)(n:Nd):Rc:=withM r n.kind ((alongM r n.kind).1,n.at')
def sndM(r:Rc)(n:Nd)(kerf:Int):Rc:=withM r n.kind (endM r n kerf,(alongM r n.kind).2)
theorem pparts_run(r:Rc)(n:Nd)(kerf:Int):F_pattern_parts [.agg (eRc r),.agg (eNd n),I kerf]=some (.tup [.agg (eRc (fstM r n)),.agg (eRc (midM r n kerf)),.agg (eRc (sndM r n kerf))]):=by
 have h1:=palong_run r n.kind
 have h2:=with_run r n.kind ((alongM r n.kind).1,n.at')
 have h3:=with_run r n.kind (n.at',endM r n kerf)
 have h4:=with_run r n.kind (endM r n kerf,(alongM r n.kind).2)
 unfold fstM midM sndM
 generalize withM r n.kind ((alongM r n.kind).1,n.at')=x2 at*
 generalize withM r n.kind (n.at',endM r n kerf)=x3 at*
 generalize withM r n.kind (endM r n kerf,(alongM r n.kind).2)=x4 at*
 unfold endM at h3 h4
 simp at h1 h2 h3 h4
 rw[F_pattern_parts_eq]
 simp[h1,h2,h3,h4]
def xP(p:Int×Plc):RX:=[.int .i64 p.1,.agg #[.int .i64 p.2.r.xa,.int .i64 p.2.r.xb,.int .i64 p.2.r.ya,.int .i64 p.2.r.yb,.int .i64 p.2.lvl]]
@[simp] theorem xP_eq(p:Int×Plc):xP p=[.int .i64 p.1,.agg #[.int .i64 p.2.r.xa,.int .i64 p.2.r.xb,.int .i64 p.2.r.ya,.int .i64 p.2.r.yb,.int .i64 p.2.lvl]]:=rfl
def pushM(kerf:Int)(n:Nd)(x:Plc)(o:List Plc):List Plc:=if isRipM n.kind=true then⟨fstM x.r n,IntKind.i64.wrap (x.lvl+1)⟩::⟨sndM x.r n kerf,IntKind.i64.wrap (x.lvl+1)⟩::o else o
def plcs(kerf:Int):List Nd→Int→List Plc→List (Int×Plc)
 |_,_,[]=>[]
 |[],i,x::_=>[(i,x)]
 |n::r,i,x::o=>(i,x)::plcs kerf r (i+1) (pushM kerf n x o)
theorem plcs_nil(kerf:Int)(l:List Nd)(i:Int):plcs kerf l i []=[]:=by cases l<;>rfl
theorem getTop(o:List Plc)(e:List D):((List.map ePlc o).reverse++[e])[o.length]? =some e:=by
 rw[List.getElem?_append_right (by simp)]
 simp
theorem cutTop(o:List Plc)(e:List D):List.take o.length ((List.map ePlc o).reverse++[e])=(List.map ePlc o).reverse:=by
 rw[List.take_append_of_le_length (by simp),List.take_of_length_le (by simp)]
theorem plc_loop(l:Nat)(r:Rc)(nd:List Nd)(kerf:Int)(hl:nd.length≤1000):∀(m i:Nat) (rest:List Nd) (o:List Plc) (fl:Bool),nd.drop i=rest→rest.length+2≤m→o.length≤i+1→i≤nd.length→
  YP Tryz.prog gl q192 3 2 l m ⟨[(0,.x (.func (.yield l) #[] #[])),(1,.elt [I r.xa,I r.xb,I r.ya,I r.yb,.sl (List.map eNd nd)]),(2,.elt [I kerf]),(4,.row 4),(5,I i),(6,.any),(7,.any),(8,.any),(10,.any)],[(4,.row 255 5 fl (o.reverse.map ePlc))]⟩=some ((plcs kerf rest i o).map xP):=by
 intro m
 induction m with
 |zero=>intro i rest o fl _ h;omega
 |succ m ih=>
  intro i rest o fl hr hm ho hi
  rw[YP]
  cases o with
  |nil=>
   rw[plcs_nil]
   simp
  |cons x o=>
   have h1:=getTop o (ePlc x)
   have h2:=cutTop o (ePlc x)
   simp only[List.length_cons] at ho
   have hw:IntKind.i64.wrap (o.length:Int)=o.length:=wrap64 (by omega) (by omega)
   have hb:(o.length:Int)≤o.length+1:=by omega
   simp at h1 h2
   cases rest with
   |nil=>
    have hi':(nd.length:Int)≤i:=dnT hr|>fun h=>by omega
    simp[h1,h2,hw,hi',hb,plcs]
   |cons n rest=>
    obtain⟨g1,g2,g3,g4⟩:=dcT (enc:=eNd) hr
    have hi':¬(nd.length:Int)≤i:=by omega
    have hwi:IntKind.i64.wrap ((i:Int)+1)=i+1:=wrap64 (by omega) (by omega)
    have hrip:=isRip_run n.kind
    have g5:nd[i]? =some n:=by have:=congrArg List.head? hr;simpa using this
    simp only[List.length_cons] at hm
    cases hk:isRipM n.kind
    ·have:=ih (i+1) rest o fl g3 (by omega) (by omega) (by omega)
     simp at this
     simp[hk] at hrip
     simp[h1,h2,hw,hi',hb,plcs,g2,hrip,hk,hwi,pushM,this,g5]
    ·have hp:=pparts_run x.r n kerf
     have:=ih (i+1) rest (pushM kerf n x o) fl g3 (by omega) (by simp[pushM,hk];omega) (by omega)
     have hb2:(o.length+2)*41≤140737488355328:=by omega
     simp[pushM,hk] at this
     simp[hk] at hrip
     simp at hp
     simp[h1,h2,hw,hi',hb,plcs,g2,hrip,hk,hwi,pushM,hp,this,g5,hb2]
theorem plc_it(r:Rc)(nd:List Nd)(kerf:Int)(hl:nd.length≤1000):IterOK Tryz.prog gl 192 [.elt [I r.xa,I r.xb,I r.ya,I r.yb,.sl (nd.map eNd)],.elt [I kerf]] ((plcs kerf nd 0 [⟨r,1⟩]).map xP):=by
 refine itP (k:=q192) (j:=3) (i0:=2) mix Tryz.func192 rfl (by kernel_rfl) (by kernel_rfl) ⟨C_pattern_isRip,C_pattern_parts,trivial⟩ trivial (by simp) (fun l=>?_)
 have h:=plc_loop l r nd kerf hl (nd.length+2) 0 nd [⟨r,1⟩] true rfl (by omega) (by simp) (by omega)
 refine⟨_,_, ?_,h⟩
 simp
def ndsOf:List (List D)→Option (List Nd)
 |[]=>some []
 |[.x (.int .i64 a),.x (.int .i64 b)]::r=>match ndsOf r with
  |some l=>some (⟨a,b⟩::l)
  |none=>none
 |_=>none
theorem ndsOf_some:∀{es:List (List D)} {l:List Nd},ndsOf es=some l→es=l.map eNd
 |[],l,h=>by cases h;rfl
 |e::r,l,h=>by
  unfold ndsOf at h
  split at h
  ·cases h;rename_i h1;cases h1
  ·rename_i a b r' h1
   cases h1
   split at h
   ·rename_i l' h2
    cases h
    rw[ndsOf_some h2]
    rfl
   ·cases h
  ·cases h
theorem ndsOf_map:∀(l:List Nd),ndsOf (l.map eNd)=some l
 |[]=>rfl
 |n::r=>by simp only[List.map_cons,eNd_eq,ndsOf,ndsOf_map r]
def itsP(gf:FuncId)(lb:List D):Option (List RX):=match lb with
 |[.elt [.x (.int .i64 a),.x (.int .i64 b),.x (.int .i64 c),.x (.int .i64 d),.sl es],.elt [.x (.int .i64 k)]]=>match ndsOf es with
  |some nd=>if gf=192∧nd.length≤1000 then some ((plcs k nd 0 [⟨⟨a,b,c,d⟩,1⟩]).map xP) else none
  |none=>none
 |_=>none
theorem itsP_run(r:Rc)(nd:List Nd)(k:Int)(hl:nd.length≤1000):itsP 192 [.elt [I r.xa,I r.xb,I r.ya,I r.yb,.sl (nd.map eNd)],.elt [I k]]=some ((plcs k nd 0 [⟨r,1⟩]).map xP):=by
 simp only[itsP,ndsOf_map]
 rw[if_pos ⟨trivial,hl⟩]
theorem itsP_ok(gf:FuncId)(lb:List D)(xs:List RX)(h:itsP gf lb=some xs):IterOK Tryz.prog gl gf lb xs:=by
 unfold itsP at h
 split at h
 ·rename_i a b c d es k
  split at h
  ·rename_i nd hnd
   split at h
   ·rename_i hg
    obtain⟨rfl,hl⟩:=hg
    cases h
    rw[ndsOf_some hnd]
    exact plc_it ⟨a,b,c,d⟩ nd k hl
   ·cases h
  ·cases h
 ·cases h
end Go.Proofs.YtbdgblipbpadeaaGreatDoor
namespace Go.Proofs.YtbdgblipbpadeaaGreatDoor
open Go Go.Abs
set_option maxRecDepth 100000
noncomputable def q129:Pk:=⟨⟨[2,3,4],[],[],[],[],some [4],[],[],cr,[],[]⟩,[(192,F_pattern_places_1)],[],6,Tryz.f129,[.tmp 4]⟩
@[simp] def s129:=pkS (q129.eq_1)
attribute [simp] Tryz.f129
noncomputable def E_pattern_places:ED:=zep q129
theorem E_pattern_places_eq(hs:List (Nat×O))(ds:List D):E_pattern_places hs ds=zge q129 hs ds:=EP_eq (by kernel_rfl) hs ds
theorem CE_pattern_places:CE_ 129 E_pattern_places:=CEP mix Tryz.func129 rfl rfl (by kernel_rfl) ⟨C_pattern_places_1,trivial⟩ trivial
noncomputable def E2_pattern_places:ED:=EPi (swA 3 10203) E_pattern_places
theorem CE2_pattern_places:CE_ 129 E2_pattern_places:=EPi_ok (swA_swA 3 10203) (fun id h1 h2=>by unfold swA;rw[if_neg (by omega),if_neg (by omega)]) CE_pattern_places
noncomputable def q127:Pk:=⟨⟨[1,3,5,6,7,8,9,10,11,28],[15,21,25,35,50,58,66],[],[],[(0,[3,6,7]),(1,[])],some [6],[],[(129,false),(189,false)],cr,[],[1000000]⟩,[(128,F_pattern_anyBoard),(190,F_pattern_isFrame),(191,F_pattern_checkNode)],[(129,E2_pattern_places),(189,E_pattern_Check_1)],67,Tryz.f127,[.cell 6 58]⟩
@[simp] def s127:=pkS (q127.eq_1)
attribute [simp] Tryz.f127
noncomputable def E_pattern_check:ED:=RgP Tryz.prog gl q127 itsP
theorem E_pattern_check_eq(hs:List (Nat×O))(ds:List D):E_pattern_check hs ds=RgGP Tryz.prog gl q127 itsP hs ds:=RgP_eq (by kernel_rfl) hs ds
theorem CE_pattern_check:CE_ 127 E_pattern_check:=CERg mix Tryz.func127 rfl rfl (by kernel_rfl) ⟨C_pattern_anyBoard,C_pattern_isFrame,C_pattern_checkNode,trivial⟩ ⟨CE2_pattern_places,CE_pattern_Check_1,trivial⟩ itsP_ok
noncomputable def q126:Pk:=⟨⟨[3,4,6],[],[],[],[],some [6],[],[(127,false),(189,false)],cr,[],[]⟩,[],[(127,E_pattern_check),(189,E_pattern_Check_1)],11,Tryz.f126,[.tmp 6]⟩
@[simp] def s126:=pkS (q126.eq_1)
attribute [simp] Tryz.f126
noncomputable def F_pattern_Check:FD:=zfp q126
theorem F_pattern_Check_eq(ds:List D):F_pattern_Check ds=zgp q126 ds:=FP_eq (by kernel_rfl) ds
theorem C_pattern_Check:C_ 126 F_pattern_Check:=CP mix Tryz.func126 rfl rfl (by kernel_rfl) trivial ⟨CE_pattern_check,CE_pattern_Check_1,trivial⟩
noncomputable def q59:Pk:=⟨⟨[2,9,10,11,12,13,14,15,16],[20,25,30,36],[],[],[],some [12],[],[],cr,[],[]⟩,[(72,F_defect_Check),(76,F_solid_Check),(81,F_product_Check),(125,F_worth_Check),(126,F_pattern_Check)],[],43,Tryz.f59,[.tmp 12]⟩
@[simp] def s59:=pkS (q59.eq_1)
attribute [simp] Tryz.f59
noncomputable def F_sawline_check:FD:=zfp q59
theorem F_sawline_check_eq(ds:List D):F_sawline_check ds=zgp q59 ds:=FP_eq (by kernel_rfl) ds
theorem C_sawline_check:C_ 59 F_sawline_check:=CP mix Tryz.func59 rfl rfl (by kernel_rfl) ⟨C_defect_Check,C_solid_Check,C_product_Check,C_worth_Check,C_pattern_Check,trivial⟩ trivial
noncomputable def q60:Pk:=⟨⟨[1,2,4,5,6,7,8,9,10,19,28],[15,29,37],[31,39],[],[(0,[7]),(1,[]),(2,[])],some [4,5],[],[(127,false),(129,false)],[(115,0,208,2),(167,0,181,5)],[],[1000000]⟩,[(128,F_pattern_anyBoard)],[(127,E_pattern_check),(129,E2_pattern_places)],48,Tryz.f60,[.tmp 4,.tmp 5]⟩
@[simp] def s60:=pkS (q60.eq_1)
attribute [simp] Tryz.f60
noncomputable def E_pattern_Leaves:ED:=RgP Tryz.prog gl q60 itsP
theorem E_pattern_Leaves_eq(hs:List (Nat×O))(ds:List D):E_pattern_Leaves hs ds=RgGP Tryz.prog gl q60 itsP hs ds:=RgP_eq (by kernel_rfl) hs ds
theorem CE_pattern_Leaves:CE_ 60 E_pattern_Leaves:=CERg mix Tryz.func60 rfl rfl (by kernel_rfl) ⟨C_pattern_anyBoard,trivial⟩ ⟨CE_pattern_check,CE2_pattern_places,trivial⟩ itsP_ok
noncomputable def q25:Pk:=⟨⟨[0,1,2,9,10,11,12,13,14,15,16,17,18,19,20,21,55,56,57],[30,40,58,74],[79,99],[(10,[9,15,17,18,55,56,57])],[(0,[9,17]),(1,[9,15,17,18,55,56,57])],some [12,13],[(7,10),(15,8),(17,0)],[(60,false),(64,false),(65,false)],[(115,0,208,2),(175,11,179,24),(175,12,3,1),(175,13,36,4)],[(17,(.alt 0 (.alt 1 (.dag [[[(0,2)],[(0,5)]],[[(0,3)],[(0,5),(1,2)],[(1,6)]],[[(0,4)],[(0,5),(1,3)],[(1,6),(2,2)]],[[(0,5),(1,4)],[(1,6),(2,3)]],[[(0,6),(1,4)]],[[(0,7)]],[[(0,8)]],[[(0,9)]],[[(0,10)]]]) .leaf) .leaf))],[1000000]⟩,[(24,NF_slices_Clone_api_Defect_api_Defect),(59,F_sawline_check),(61,F_sawline_cloneSolid),(62,F_sawline_cloneCatalog),(63,F_solid_Length)],[(60,E_pattern_Leaves),(64,E_sawline_Line_link),(65,E_sawline_Line_stand)],113,Tryz.f25,[.tmp 12,.tmp 13]⟩
@[simp] def s25:=pkS (q25.eq_1)
attribute [simp] Tryz.f25
noncomputable def L_sawline_New:LD:=zlp q25
noncomputable def R_sawline_New:RD:=zrp q25
@[simp] theorem l25:LP Tryz.prog gl q25=L_sawline_New:=rfl
theorem L_sawline_New_succ(i n:Nat)(s:St):L_sawline_New i (n+1) s=andThen (R_sawline_New i s) (zhp q25 n i):=LP_succ (by kernel_rfl) i n s
theorem R_sawline_New_eq(i:Nat)(s:St):R_sawline_New i s=zsp q25 i s:=rfl
noncomputable def E_sawline_New:ED:=zep q25
theorem E_sawline_New_eq(hs:List (Nat×O))(ds:List D):E_sawline_New hs ds=zge q25 hs ds:=EP_eq (by kernel_rfl) hs ds
theorem CE_sawline_New:CE_ 25 E_sawline_New:=CEP mix Tryz.func25 rfl rfl (by kernel_rfl) ⟨NC_slices_Clone_api_Defect_api_Defect,C_sawline_check,C_sawline_cloneSolid,C_sawline_cloneCatalog,C_solid_Length,trivial⟩ ⟨CE_pattern_Leaves,CE_sawline_Line_link,CE_sawline_Line_stand,trivial⟩
noncomputable def q8:Pk:=⟨⟨[2,3,4,5,6,7,8,9,10,11,12,13],[28,49,55,70],[12],[(8,[3,6,7,9,10]),(14,[3,6,7,11,12,13])],[(0,[3,6,7,9]),(1,[3,6,7,9,10]),(2,[12]),(3,[3,6,7,11,12,13])],some [4,5],[(16,17)],[(25,false),(26,false)],cr,[],[]⟩,[(7,F_turns_Place),(10,F_board_New),(27,F_sawline_Line_Boards)],[(25,E_sawline_New),(26,E_sawline_Line_Cut)],92,Tryz.f8,[.tmp 4,.tmp 5]⟩
@[simp] def s8:=pkS (q8.eq_1)
attribute [simp] Tryz.f8
noncomputable def L_top_boards:LD:=zlp q8
noncomputable def R_top_boards:RD:=zrp q8
@[simp] theorem l8:LP Tryz.prog gl q8=L_top_boards:=rfl
theorem L_top_boards_succ(i n:Nat)(s:St):L_top_boards i (n+1) s=andThen (R_top_boards i s) (zhp q8 n i):=LP_succ (by kernel_rfl) i n s
theorem R_top_boards_eq(i:Nat)(s:St):R_top_boards i s=zsp q8 i s:=rfl
noncomputable def F_top_boards:FD:=zfp q8
theorem F_top_boards_eq(ds:List D):F_top_boards ds=zgp q8 ds:=FP_eq (by kernel_rfl) ds
theorem C_top_boards:C_ 8 F_top_boards:=CP mix Tryz.func8 rfl rfl (by kernel_rfl) ⟨C_turns_Place,C_board_New,C_sawline_Line_Boards,trivial⟩ ⟨CE_sawline_New,CE_sawline_Line_Cut,trivial⟩
noncomputable def EP_turns_Place(hs:List (Nat×O))(ds:List D):Option (D×List (Nat×O)):=pureE F_turns_Place hs ds
theorem EP_turns_Place_eq(ds:List D):EP_turns_Place [] ds=if ds.all okA=true then(F_turns_Place ds).map (fun r=>(r,[])) else none:=Eq.trans rfl rfl
theorem CEP_turns_Place(hs:List (Nat×O))(ds:List D)(r:D)(hs':List (Nat×O))(h:EP_turns_Place hs ds=some (r,hs')):ContractE Tryz.prog gl 7 hs ds r hs':=pureE_ok C_turns_Place hs ds r hs' h
noncomputable def q3:Pk:=⟨⟨[3,4,5,6,7,8,9,11,12,13,14,15,16,17,18,19,20,21,22,23,24],[39,87,96,105,114,189],[8],[(17,[3,4,5,9,12,13,15,16])],[(0,[]),(1,[3,4,5,9,12,13,15,16])],some [6],[(19,6),(20,18),(21,16)],[(7,false)],cr,[],[]⟩,[(4,F_top_small),(5,F_top_short),(6,F_top_gradeAwake),(8,F_top_boards),(9,F_ref13_Touches),(10,F_board_New),(11,F_grading_Of),(12,F_board_Same)],[(7,EP_turns_Place)],191,Tryz.f3,[.tmp 6]⟩
@[simp] def s3:=pkS (q3.eq_1)
attribute [simp] Tryz.f3
noncomputable def L_top_TopLocal:LD:=zlp q3
noncomputable def R_top_TopLocal:RD:=zrp q3
@[simp] theorem l3:LP Tryz.prog gl q3=L_top_TopLocal:=rfl
theorem L_top_TopLocal_succ(i n:Nat)(s:St):L_top_TopLocal i (n+1) s=andThen (R_top_TopLocal i s) (zhp q3 n i):=LP_succ (by kernel_rfl) i n s
theorem R_top_TopLocal_eq(i:Nat)(s:St):R_top_TopLocal i s=zsp q3 i s:=rfl
noncomputable def F_top_TopLocal:FD:=zfp q3
theorem F_top_TopLocal_eq(ds:List D):F_top_TopLocal ds=zgp q3 ds:=FP_eq (by kernel_rfl) ds
theorem C_top_TopLocal:C_ 3 F_top_TopLocal:=CP mix Tryz.func3 rfl rfl (by kernel_rfl) ⟨C_top_small,C_top_short,C_top_gradeAwake,C_top_boards,C_ref13_Touches,C_board_New,C_grading_Of,C_board_Same,trivial⟩ ⟨CEP_turns_Place,trivial⟩
end Go.Proofs.YtbdgblipbpadeaaGreatDoor
