/-
  The inputs of the chapter's statements.
-/
import Derived.Test.YtbdgblipbpadeaaGreatDoorNb
import Derived.Test.YtbdgblipbpadeaaGreatDoorNc
import Derived.Test.YtbdgblipbpadeaaGreatDoorMc
import Derived.Test.YtbdgblipbpadeaaGreatDoorMi
import Derived.Test.YtbdgblipbpadeaaGreatDoorNx
set_option linter.unusedSimpArgs false
set_option linter.unusedVariables false
set_option linter.defProp false
namespace Go.Proofs.YtbdgblipbpadeaaGreatDoor.Rl
open Go Go.Abs
set_option maxRecDepth 100000
theorem rows_of{α:Type}{enc:α→List D}{p:α→Prop}:∀(es:List (List D)),(∀x∈es,∃a,x=enc a∧p a)→∃l:List α,es=l.map enc∧∀a∈l,p a
 |[],_=>⟨[],rfl,by simp⟩
 |x::r,h=>by
  obtain⟨a,ha,hp⟩:=h x (by simp)
  obtain⟨l,hl,hq⟩:=rows_of r (fun y hy=>h y (by simp[hy]))
  exact⟨a::l,by simp[ha,hl],by simpa using⟨hp,hq⟩⟩
theorem tyEx:∀(n:Nat) (cs:List D),TyC Tryz.prog n 132 cs→∃e,cs=eX e∧Fits e:=by
 intro n
 induction n using Nat.strongRecOn with
 |ind n ih=>
  intro cs h
  match n,h with
  |n+1,h=>
   have h0:=h
   obtain⟨hl,_⟩:=TyC.struct Tryz.underlying132 h0
   rw[(t132).2.1] at hl
   match cs,hl with
   |[x0,x1,x2,x3],_=>
    simp only[TyC,Tryz.underlying132] at h
    simp at h
    obtain⟨h0,h1,h2,h3⟩:=h
    obtain⟨a0,e0,b0⟩:=TyC.i64 Tryz.underlying3 h0
    obtain⟨a1,e1,b1⟩:=TyC.i64 Tryz.underlying3 h1
    obtain⟨a2,e2,b2⟩:=TyC.string Tryz.underlying9 h2
    match n,h3 with
    |k+1,h3=>
     simp only[TyC,Tryz.underlying130] at h3
     obtain⟨es,e3,b3,hx⟩:=h3
     obtain⟨l,rfl,hp⟩:=rows_of (enc:=eX) es (fun x hx'=>ih k (by omega) x (hx x hx'))
     injection e0 with e0;injection e1 with e1;injection e2 with e2;injection e3 with e3
     refine⟨.mk a0 a1 a2 l, ?_,.mk b0 b1 b2 (by simpa[maxLen,Ex.args] using b3) hp⟩
     rw[eX_eq,e0,e1,e2,e3]
     rfl
theorem tyRule{n:Nat}{cs:List D}(h:TyC Tryz.prog n 134 cs):∃r:Int×Ex,cs=eR r∧(Fits r.2∧-9223372036854775808≤r.1∧r.1≤9223372036854775807):=by
 obtain⟨hl,m,h⟩:=TyC.struct Tryz.underlying134 h
 rw[(t134).2.1] at hl
 match cs,hl with
 |[x0,x1,x2,x3,x4],_=>
  simp at h
  obtain⟨h0,h1⟩:=h
  obtain⟨a0,e0,b0⟩:=TyC.i64 Tryz.underlying3 h0
  obtain⟨e,he,hf⟩:=tyEx m _ h1
  injection e0 with e0
  exact⟨(a0,e),by rw[e0,he];rfl,hf,b0⟩
end Go.Proofs.YtbdgblipbpadeaaGreatDoor.Rl
namespace Go.Proofs.YtbdgblipbpadeaaGreatDoor
open Go Go.Abs
set_option maxRecDepth 100000
structure Tk where
 rg:List Rg
 df:List Dfc
 pds:List Pd
 a:Int
 b:Int
 c:Int
 d:Int
 e:Int
 f:Int
 g:Int
 lim:Int
 gap:Int
def eTk(t:Tk):List D:=trkC t.rg t.df t.pds t.a t.b t.c t.d t.e t.f t.g t.lim t.gap
structure Lfe where
 q:Int
 r:Rc
 nd:List Nd
 sh:List Int
 w:Spc
 nm:ByteArray
 rmp:Int
 sg:List (List D)
 fl:List (List D)
 tk:Int
 rs:Rls
def eLfe(x:Lfe):List D:=I x.q::(lifeC x.r x.nd x.sh x.w x.nm x.rmp x.tk (x.sg.map id) (x.fl.map id) (x.rs.map Rl.eR)).tail
structure okLfe(x:Lfe):Prop where
 fit:∀y∈x.rs,Rl.Fits y.2
 r:I64R x.r
 nd:∀n∈x.nd,i64 n.at'
theorem tyAny{T n:Nat}{cs:List D}(h:TyC Tryz.prog n T cs):∃x:List D,cs=id x∧True:=⟨cs,rfl,trivial⟩
theorem tyDfc{n:Nat}{cs:List D}(h:TyC Tryz.prog n 53 cs):∃x:Dfc,cs=eDf x∧True:=by
 obtain⟨hl,m,h⟩:=TyC.struct Tryz.underlying53 h
 rw[(t53).2.1] at hl
 match cs,hl with
 |[y0,y1,y2,y3,y4,y5,y6],_=>
  simp at h
  obtain⟨h_0,h_1⟩:=h
  obtain⟨a0,e0,b0⟩:=tyInt h_0
  obtain⟨_,_,h_1⟩:=TyC.struct Tryz.underlying51 h_1
  simp at h_1
  obtain⟨h_1_0,h_1_1,h_1_2⟩:=h_1
  obtain⟨_,_,h_1_0⟩:=TyC.struct Tryz.underlying34 h_1_0
  simp at h_1_0
  obtain⟨h_1_0_0,h_1_0_1⟩:=h_1_0
  obtain⟨a1,e1,b1⟩:=tyInt h_1_0_0
  obtain⟨a2,e2,b2⟩:=tyInt h_1_0_1
  obtain⟨_,_,h_1_1⟩:=TyC.struct Tryz.underlying34 h_1_1
  simp at h_1_1
  obtain⟨h_1_1_0,h_1_1_1⟩:=h_1_1
  obtain⟨a3,e3,b3⟩:=tyInt h_1_1_0
  obtain⟨a4,e4,b4⟩:=tyInt h_1_1_1
  obtain⟨_,_,h_1_2⟩:=TyC.struct Tryz.underlying34 h_1_2
  simp at h_1_2
  obtain⟨h_1_2_0,h_1_2_1⟩:=h_1_2
  obtain⟨a5,e5,b5⟩:=tyInt h_1_2_0
  obtain⟨a6,e6,b6⟩:=tyInt h_1_2_1
  injection e0 with e0;injection e1 with e1;injection e2 with e2;injection e3 with e3;injection e4 with e4;injection e5 with e5;injection e6 with e6
  exact⟨⟨a0,a1,a2,a3,a4,a5,a6⟩,by rw[e0,e1,e2,e3,e4,e5,e6];rfl,trivial⟩
theorem tyDfcV{d:D}(h:TyV Tryz.prog 53 d):∃x:Dfc,d= .agg (eDf x)∧True:=by
 obtain⟨n,cs,rfl,hc⟩:=TyV.agg (t53).2.2.1 h;clear h
 obtain⟨hl,m,h⟩:=TyC.struct Tryz.underlying53 hc
 rw[(t53).2.1] at hl
 match cs,hl with
 |[y0,y1,y2,y3,y4,y5,y6],_=>
  simp at h
  obtain⟨h_0,h_1⟩:=h
  obtain⟨a0,e0,b0⟩:=tyInt h_0
  obtain⟨_,_,h_1⟩:=TyC.struct Tryz.underlying51 h_1
  simp at h_1
  obtain⟨h_1_0,h_1_1,h_1_2⟩:=h_1
  obtain⟨_,_,h_1_0⟩:=TyC.struct Tryz.underlying34 h_1_0
  simp at h_1_0
  obtain⟨h_1_0_0,h_1_0_1⟩:=h_1_0
  obtain⟨a1,e1,b1⟩:=tyInt h_1_0_0
  obtain⟨a2,e2,b2⟩:=tyInt h_1_0_1
  obtain⟨_,_,h_1_1⟩:=TyC.struct Tryz.underlying34 h_1_1
  simp at h_1_1
  obtain⟨h_1_1_0,h_1_1_1⟩:=h_1_1
  obtain⟨a3,e3,b3⟩:=tyInt h_1_1_0
  obtain⟨a4,e4,b4⟩:=tyInt h_1_1_1
  obtain⟨_,_,h_1_2⟩:=TyC.struct Tryz.underlying34 h_1_2
  simp at h_1_2
  obtain⟨h_1_2_0,h_1_2_1⟩:=h_1_2
  obtain⟨a5,e5,b5⟩:=tyInt h_1_2_0
  obtain⟨a6,e6,b6⟩:=tyInt h_1_2_1
  injection e0 with e0;injection e1 with e1;injection e2 with e2;injection e3 with e3;injection e4 with e4;injection e5 with e5;injection e6 with e6
  exact⟨⟨a0,a1,a2,a3,a4,a5,a6⟩,by rw[e0,e1,e2,e3,e4,e5,e6];rfl,trivial⟩
theorem tyPd{n:Nat}{cs:List D}(h:TyC Tryz.prog n 125 cs):∃x:Pd,cs=ePd x∧True:=by
 obtain⟨hl,m,h⟩:=TyC.struct Tryz.underlying125 h
 rw[(t125).2.1] at hl
 match cs,hl with
 |[y0,y1,y2,y3,y4,y5,y6],_=>
  simp at h
  obtain⟨h_0,h_1,h_2,h_3,h_4,h_5,h_6⟩:=h
  obtain⟨a0,e0,b0⟩:=TyC.string Tryz.underlying9 h_0
  obtain⟨a1,e1,b1⟩:=tyInt h_1
  obtain⟨a2,e2,b2⟩:=tyInt h_2
  obtain⟨a3,e3,b3⟩:=tyInt h_3
  obtain⟨a4,e4,b4⟩:=tyInt h_4
  obtain⟨s5,m5,e5,l5,x5'⟩:=TyC.slice Tryz.underlying40 h_5
  obtain⟨a5,rfl,b5⟩:=rows_of s5 (fun x hx'=>tyInt (x5' x hx'))
  obtain⟨s6,m6,e6,l6,x6'⟩:=TyC.slice Tryz.underlying40 h_6
  obtain⟨a6,rfl,b6⟩:=rows_of s6 (fun x hx'=>tyInt (x6' x hx'))
  injection e0 with e0;injection e1 with e1;injection e2 with e2;injection e3 with e3;injection e4 with e4;injection e5 with e5;injection e6 with e6
  exact⟨⟨a0,a1,a2,a3,a4,a5,a6⟩,by rw[e0,e1,e2,e3,e4,e5,e6];rfl,trivial⟩
theorem tyRd{n:Nat}{cs:List D}(h:TyC Tryz.prog n 83 cs):∃x:Rd,cs=eRd x∧True:=by
 obtain⟨hl,m,h⟩:=TyC.struct Tryz.underlying83 h
 rw[(t83).2.1] at hl
 match cs,hl with
 |[y0,y1,y2],_=>
  simp at h
  obtain⟨h_0,h_1⟩:=h
  obtain⟨_,_,h_0⟩:=TyC.struct Tryz.underlying81 h_0
  simp at h_0
  obtain⟨h_0_0,h_0_1⟩:=h_0
  obtain⟨a0,e0,b0⟩:=tyInt h_0_0
  obtain⟨a1,e1,b1⟩:=tyInt h_0_1
  obtain⟨a2,e2⟩:=TyC.bool Tryz.underlying4 h_1
  injection e0 with e0;injection e1 with e1;injection e2 with e2
  exact⟨⟨a0,a1,a2⟩,by rw[e0,e1,e2];rfl,trivial⟩
theorem tyRg{n:Nat}{cs:List D}(h:TyC Tryz.prog n 79 cs):∃x:Rg,cs=eRg x∧True:=by
 obtain⟨hl,m,h⟩:=TyC.struct Tryz.underlying79 h
 rw[(t79).2.1] at hl
 match cs,hl with
 |[y0,y1],_=>
  simp at h
  obtain⟨h_0,h_1⟩:=h
  obtain⟨a0,e0,b0⟩:=tyInt h_0
  obtain⟨s1,m1,e1,l1,x1'⟩:=TyC.slice Tryz.underlying77 h_1
  obtain⟨a1,rfl,b1⟩:=rows_of s1 (fun x hx'=>tyRd (x1' x hx'))
  injection e0 with e0;injection e1 with e1
  exact⟨⟨a0,a1⟩,by rw[e0,e1];rfl,trivial⟩
theorem tyNd{n:Nat}{cs:List D}(h:TyC Tryz.prog n 177 cs):∃x:Nd,cs=eNd x∧i64 x.at':=by
 obtain⟨hl,m,h⟩:=TyC.struct Tryz.underlying177 h
 rw[(t177).2.1] at hl
 match cs,hl with
 |[y0,y1],_=>
  simp at h
  obtain⟨h_0,h_1⟩:=h
  obtain⟨a0,e0,b0⟩:=tyInt h_0
  obtain⟨a1,e1,b1⟩:=tyInt h_1
  injection e0 with e0;injection e1 with e1
  exact⟨⟨a0,a1⟩,by rw[e0,e1];rfl,b1⟩
theorem tyTk{d:D}(h:TyV Tryz.prog 32 d):∃x:Tk,d= .agg (eTk x)∧True:=by
 obtain⟨n,cs,rfl,hc⟩:=TyV.agg (t32).2.2.1 h;clear h
 obtain⟨hl,m,h⟩:=TyC.struct Tryz.underlying32 hc
 rw[(t32).2.1] at hl
 match cs,hl with
 |[y0,y1,y2,y3,y4,y5,y6,y7,y8,y9,y10,y11],_=>
  simp at h
  obtain⟨h_0,h_1,h_2,h_3,h_4,h_5⟩:=h
  obtain⟨_,_,h_0⟩:=TyC.struct Tryz.underlying25 h_0
  simp at h_0
  obtain⟨h_0_0,h_0_1⟩:=h_0
  obtain⟨s0,m0,e0,l0,x0'⟩:=TyC.slice Tryz.underlying22 h_0_0
  obtain⟨a0,rfl,b0⟩:=rows_of s0 (fun x hx'=>tyRg (x0' x hx'))
  obtain⟨s1,m1,e1,l1,x1'⟩:=TyC.slice Tryz.underlying23 h_0_1
  obtain⟨a1,rfl,b1⟩:=rows_of s1 (fun x hx'=>tyDfc (x1' x hx'))
  obtain⟨s2,m2,e2,l2,x2'⟩:=TyC.slice Tryz.underlying26 h_1
  obtain⟨a2,rfl,b2⟩:=rows_of s2 (fun x hx'=>tyPd (x2' x hx'))
  obtain⟨_,_,h_2⟩:=TyC.struct Tryz.underlying28 h_2
  simp at h_2
  obtain⟨h_2_0,h_2_1,h_2_2,h_2_3⟩:=h_2
  obtain⟨a3,e3,b3⟩:=tyInt h_2_0
  obtain⟨a4,e4,b4⟩:=tyInt h_2_1
  obtain⟨a5,e5,b5⟩:=tyInt h_2_2
  obtain⟨a6,e6,b6⟩:=tyInt h_2_3
  obtain⟨_,_,h_3⟩:=TyC.struct Tryz.underlying30 h_3
  simp at h_3
  obtain⟨h_3_0,h_3_1,h_3_2⟩:=h_3
  obtain⟨a7,e7,b7⟩:=tyInt h_3_0
  obtain⟨a8,e8,b8⟩:=tyInt h_3_1
  obtain⟨a9,e9,b9⟩:=tyInt h_3_2
  obtain⟨a10,e10,b10⟩:=tyInt h_4
  obtain⟨a11,e11,b11⟩:=tyInt h_5
  injection e0 with e0;injection e1 with e1;injection e2 with e2;injection e3 with e3;injection e4 with e4;injection e5 with e5;injection e6 with e6;injection e7 with e7;injection e8 with e8;injection e9 with e9;injection e10 with e10;injection e11 with e11
  exact⟨⟨a0,a1,a2,a3,a4,a5,a6,a7,a8,a9,a10,a11⟩,by rw[e0,e1,e2,e3,e4,e5,e6,e7,e8,e9,e10,e11];rfl,trivial⟩
theorem tyLfe{d:D}(h:TyV Tryz.prog 49 d):∃x:Lfe,d= .agg (eLfe x)∧okLfe x:=by
 obtain⟨n,cs,rfl,hc⟩:=TyV.agg (t49).2.2.1 h;clear h
 obtain⟨hl,m,h⟩:=TyC.struct Tryz.underlying49 hc
 rw[(t49).2.1] at hl
 match cs,hl with
 |[y0,y1,y2,y3,y4,y5,y6,y7,y8,y9,y10,y11,y12,y13,y14,y15,y16,y17,y18,y19,y20,y21,y22,y23,y24,y25],_=>
  simp at h
  obtain⟨h_0,h_1,h_2,h_3,h_4,h_5,h_6,h_7⟩:=h
  obtain⟨a0,e0,b0⟩:=tyInt h_0
  obtain⟨_,_,h_1⟩:=TyC.struct Tryz.underlying39 h_1
  simp at h_1
  obtain⟨h_1_0,h_1_1⟩:=h_1
  obtain⟨_,_,h_1_0⟩:=TyC.struct Tryz.underlying36 h_1_0
  simp at h_1_0
  obtain⟨h_1_0_0,h_1_0_1⟩:=h_1_0
  obtain⟨_,_,h_1_0_0⟩:=TyC.struct Tryz.underlying34 h_1_0_0
  simp at h_1_0_0
  obtain⟨h_1_0_0_0,h_1_0_0_1⟩:=h_1_0_0
  obtain⟨a1,e1,b1⟩:=tyInt h_1_0_0_0
  obtain⟨a2,e2,b2⟩:=tyInt h_1_0_0_1
  obtain⟨_,_,h_1_0_1⟩:=TyC.struct Tryz.underlying34 h_1_0_1
  simp at h_1_0_1
  obtain⟨h_1_0_1_0,h_1_0_1_1⟩:=h_1_0_1
  obtain⟨a3,e3,b3⟩:=tyInt h_1_0_1_0
  obtain⟨a4,e4,b4⟩:=tyInt h_1_0_1_1
  obtain⟨s5,m5,e5,l5,x5'⟩:=TyC.slice Tryz.underlying37 h_1_1
  obtain⟨a5,rfl,b5⟩:=rows_of s5 (fun x hx'=>tyNd (x5' x hx'))
  obtain⟨s6,m6,e6,l6,x6'⟩:=TyC.slice Tryz.underlying40 h_2
  obtain⟨a6,rfl,b6⟩:=rows_of s6 (fun x hx'=>tyInt (x6' x hx'))
  obtain⟨_,_,h_3⟩:=TyC.struct Tryz.underlying42 h_3
  simp at h_3
  obtain⟨h_3_0,h_3_1,h_3_2,h_3_3,h_3_4,h_3_5,h_3_6,h_3_7,h_3_8,h_3_9,h_3_10,h_3_11,h_3_12⟩:=h_3
  obtain⟨a7,e7,b7⟩:=TyC.string Tryz.underlying9 h_3_0
  obtain⟨a8,e8,b8⟩:=tyInt h_3_1
  obtain⟨a9,e9,b9⟩:=tyInt h_3_2
  obtain⟨a10,e10,b10⟩:=tyInt h_3_3
  obtain⟨a11,e11,b11⟩:=tyInt h_3_4
  obtain⟨a12,e12,b12⟩:=tyInt h_3_5
  obtain⟨a13,e13,b13⟩:=tyInt h_3_6
  obtain⟨a14,e14,b14⟩:=tyInt h_3_7
  obtain⟨a15,e15,b15⟩:=tyInt h_3_8
  obtain⟨a16,e16,b16⟩:=tyInt h_3_9
  obtain⟨a17,e17,b17⟩:=tyInt h_3_10
  obtain⟨a18,e18,b18⟩:=tyInt h_3_11
  obtain⟨a19,e19,b19⟩:=tyInt h_3_12
  obtain⟨_,_,h_4⟩:=TyC.struct Tryz.underlying45 h_4
  simp at h_4
  obtain⟨h_4_0,h_4_1,h_4_2⟩:=h_4
  obtain⟨a20,e20,b20⟩:=TyC.string Tryz.underlying9 h_4_0
  obtain⟨a21,e21,b21⟩:=tyInt h_4_1
  obtain⟨s22,m22,e22,l22,x22'⟩:=TyC.slice Tryz.underlying43 h_4_2
  obtain⟨a22,rfl,b22⟩:=rows_of s22 (fun x hx'=>tyAny (x22' x hx'))
  obtain⟨s23,m23,e23,l23,x23'⟩:=TyC.slice Tryz.underlying46 h_5
  obtain⟨a23,rfl,b23⟩:=rows_of s23 (fun x hx'=>tyAny (x23' x hx'))
  obtain⟨a24,e24,b24⟩:=tyInt h_6
  obtain⟨s25,m25,e25,l25,x25'⟩:=TyC.slice Tryz.underlying47 h_7
  obtain⟨a25,rfl,b25⟩:=rows_of s25 (fun x hx'=>Rl.tyRule (x25' x hx'))
  injection e0 with e0;injection e1 with e1;injection e2 with e2;injection e3 with e3;injection e4 with e4;injection e5 with e5;injection e6 with e6;injection e7 with e7;injection e8 with e8;injection e9 with e9;injection e10 with e10;injection e11 with e11;injection e12 with e12;injection e13 with e13;injection e14 with e14;injection e15 with e15;injection e16 with e16;injection e17 with e17;injection e18 with e18;injection e19 with e19;injection e20 with e20;injection e21 with e21;injection e22 with e22;injection e23 with e23;injection e24 with e24;injection e25 with e25
  exact⟨⟨a0,⟨a1,a2,a3,a4⟩,a5,a6,⟨a7,a8,a9,a10,a11,a12,a13,a14,a15,a16,a17,a18,a19⟩,a20,a21,a22,a23,a24,a25⟩,by rw[e0,e1,e2,e3,e4,e5,e6,e7,e8,e9,e10,e11,e12,e13,e14,e15,e16,e17,e18,e19,e20,e21,e22,e23,e24,e25];rfl,⟨fun y hy=>(b25 y hy).1,⟨b1,b2,b3,b4⟩,fun n hn=>b5 n hn⟩⟩
theorem topLocal_abs(xs:List D)(h:TyArgs Tryz.prog Tryz.f3.params.toList xs):Contract Tryz.prog gl 3 xs (.x (.bool true)):=by
 simp[TyArgs] at h
 obtain⟨d1,r,rfl,h1,d2,r2,rfl,h2,d3,rfl,h3⟩:=h
 obtain⟨t,rfl,_⟩:=tyTk h1
 obtain⟨x,rfl,ok⟩:=tyLfe h2
 obtain⟨d,rfl,_⟩:=tyDfcV h3
 exact C_top_TopLocal _ _ (topLocal_run t.rg t.df t.pds t.a t.b t.c t.d t.e t.f t.g t.lim t.gap x.r x.nd x.sh x.w x.nm x.rmp x.tk x.q (x.sg.map id) (x.fl.map id) x.rs ok.fit ok.r ok.nd d)
end Go.Proofs.YtbdgblipbpadeaaGreatDoor
