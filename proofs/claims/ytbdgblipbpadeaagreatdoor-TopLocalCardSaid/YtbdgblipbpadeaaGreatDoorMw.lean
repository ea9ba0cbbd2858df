/-
  The reference's defects and the boards' boxes, run abstractly.
-/
import Derived.Test.YtbdgblipbpadeaaGreatDoorMt
import Derived.Test.YtbdgblipbpadeaaGreatDoorMv
set_option linter.unusedSimpArgs false
set_option linter.unusedVariables false
set_option linter.defProp false
namespace Go.Proofs.YtbdgblipbpadeaaGreatDoor
open Go Go.Abs
set_option maxHeartbeats 8000000
set_option maxRecDepth 100000
theorem rempty_run(xa xb ya yb za zb:Int):F_ref13_Empty [.agg [I xa,I xb,I ya,I yb,I za,I zb]]=some (B (decide (xb≤xa)||(decide (yb≤ya)||decide (zb≤za)))):=by
 rw[F_ref13_Empty_eq]
 have e:∀a b:Int,decide (b≤a)=!decide (a<b):=by
  intro a b
  by_cases h:a<b
  ·have h':¬b≤a:=by omega
   simp[h,h']
  ·have h':b≤a:=by omega
   simp[h,h']
 rw[e xa xb,e ya yb]
 simp
end Go.Proofs.YtbdgblipbpadeaaGreatDoor
namespace Go.Proofs.YtbdgblipbpadeaaGreatDoor
open Go Go.Abs
set_option maxHeartbeats 8000000
set_option maxRecDepth 100000
theorem lind{α:Type}(l:List α)(P:Nat→Nat→List α→Prop)(h0:∀n i,l.drop i=[]→P (n+1) i [])
  (h1:∀n i x r,l.drop i=x::r→i<l.length→P n (i+1) r→P (n+1) i (x::r)):∀(n i:Nat) (r:List α),l.drop i=r→r.length<n→P n i r:=by
 intro n
 induction n with
 |zero=>intro i r hr hn;omega
 |succ n ih=>
  intro i r hr hn
  cases r with
  |nil=>exact h0 n i hr
  |cons x r=>
   obtain⟨_,_,hr',hi⟩:=dc (enc:=fun _=>[]) hr
   exact h1 n i x r hr hi (ih (i+1) r hr' (by simp at hn;omega))
def alongB(a b:Int):Bool:=decide (0≤a∧b≤20000∧a<b)
def crossB(a b:Int):Bool:=decide (-600≤a∧b≤600∧a<b)
theorem boxB_eq(b:Bd):boxB b=(crossB b.xa b.xb&&(crossB b.ya b.yb&&alongB b.za b.zb)):=by
 unfold boxB crossB alongB
 simp only[Bool.decide_and]
theorem along_run(a b:Int):F_board_isAlong [.agg [I a,I b]]=some (B (alongB a b)):=by
 rw[F_board_isAlong_eq]
 unfold alongB
 simp
theorem blength_run(a b:Int):F_board_length [.agg [I a,I b]]=some (I (IntKind.i64.wrap (b-a))):=by
 rw[F_board_length_eq]
 simp
theorem binside_run(a b n:Int):F_board_inside [.agg [I a,I b],I n]=some (B (insideB a b n)):=by
 rw[F_board_inside_eq]
 unfold insideB
 simp
theorem isMoist_run(n:Int):F_board_isMoist [I n]=some (B (decide (0≤n)&&decide (n≤20000))):=by
 rw[F_board_isMoist_eq]
 simp
theorem isBox_run(xa xb ya yb za zb:Int):F_board_isBox [.agg [I xa,I xb,I ya,I yb,I za,I zb]]=some (B (crossB xa xb&&(crossB ya yb&&alongB za zb))):=by
 rw[F_board_isBox_eq]
 obtain⟨m,hm⟩:=bigL_succ 3 (by omega)
 first|rw[hm]|simp only[zgp,GP,zge,GEP,hm]
 have ha:=along_run za zb
 simp[ha]
 iterate 3 (rw[L_board_isBox_succ,R_board_isBox_eq];simp[ha])
 unfold crossB
 by_cases a1: -600≤xa∧xb≤600∧xa<xb
 ·have a2:¬xa< -600:=by omega
  have a3:¬600<xb:=by omega
  have a4:¬xb≤xa:=by omega
  by_cases b1: -600≤ya∧yb≤600∧ya<yb
  ·have b2:¬ya< -600:=by omega
   have b3:¬600<yb:=by omega
   have b4:¬yb≤ya:=by omega
   simp[a1,b1,a4,b4]
  ·simp[a1,b1]
   omega
 ·simp[a1]
  omega
end Go.Proofs.YtbdgblipbpadeaaGreatDoor
namespace Go.Proofs.YtbdgblipbpadeaaGreatDoor
open Go Go.Abs
set_option maxHeartbeats 8000000
set_option maxRecDepth 100000
theorem cross_bnd{a b:Int}(h:crossB a b=true):IntKind.i64.wrap (b-a)=b-a∧0<b-a∧b-a≤1200:=by
 simp[crossB] at h
 exact⟨wrap64 (by omega) (by omega),by omega,by omega⟩
theorem along_bnd{a b:Int}(h:alongB a b=true):IntKind.i64.wrap (b-a)=b-a∧0<b-a∧b-a≤20000:=by
 simp[alongB] at h
 exact⟨wrap64 (by omega) (by omega),by omega,by omega⟩
theorem box_bnd{b:Bd}(h:boxB b=true):crossB b.xa b.xb=true∧crossB b.ya b.yb=true∧alongB b.za b.zb=true:=by
 rw[boxB_eq] at h
 simpa using h
theorem vol_bnd{x y z:Int}(hx:0<x∧x≤1200)(hy:0<y∧y≤1200)(hz:0<z∧z≤20000):IntKind.i64.wrap (x*y)=x*y∧IntKind.i64.wrap (x*y*z)=x*y*z:=by
 have h1:x*y≤1200*1200:=Int.mul_le_mul hx.2 hy.2 (by omega) (by omega)
 have h2:0<x*y:=Int.mul_pos hx.1 hy.1
 have h3:x*y*z≤1440000*20000:=Int.mul_le_mul (by omega) hz.2 (by omega) (by omega)
 have h4:0<x*y*z:=Int.mul_pos h2 hz.1
 exact⟨wrap64 (by omega) (by omega),wrap64 (by omega) (by omega)⟩
theorem bvolume_run(b:Bd):F_board_Volume [.agg (eBd b)]=some (I (volB b)):=by
 rw[F_board_Volume_eq]
 have h:=isBox_run b.xa b.xb b.ya b.yb b.za b.zb
 rw[←boxB_eq] at h
 unfold volB
 cases hb:boxB b
 ·simp[h,hb]
 ·obtain⟨h1,h2,h3⟩:=box_bnd hb
  have l1:=blength_run b.xa b.xb
  have l2:=blength_run b.ya b.yb
  have l3:=blength_run b.za b.zb
  obtain⟨w1,p1⟩:=cross_bnd h1
  obtain⟨w2,p2⟩:=cross_bnd h2
  obtain⟨w3,p3⟩:=along_bnd h3
  obtain⟨v1,v2⟩:=vol_bnd p1 p2 p3
  rw[w1] at l1
  rw[w2] at l2
  rw[w3] at l3
  simp[h,hb,l1,l2,l3,v1,v2]
end Go.Proofs.YtbdgblipbpadeaaGreatDoor
