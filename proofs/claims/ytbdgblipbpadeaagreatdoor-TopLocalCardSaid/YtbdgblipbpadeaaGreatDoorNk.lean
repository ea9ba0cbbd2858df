/-
  Chords of polygons, run abstractly.
-/
import Derived.Test.YtbdgblipbpadeaaGreatDoorNj
set_option linter.unusedSimpArgs false
set_option linter.unusedVariables false
set_option linter.defProp false
namespace Go.Proofs.YtbdgblipbpadeaaGreatDoor
open Go Go.Abs
set_option maxHeartbeats 4000000
set_option maxRecDepth 100000
theorem pfloor_run(a b:Int)(h:¬b=0):F_poly_floor [I a,I b]=some (I (flrD a b)):=by
 rw[F_poly_floor_eq]
 unfold flrD
 simp[h]
theorem chord1_loop(h:List Pnt)(hl:h.length≤2000)(hi:inAll h)(y a b c d:Int):∀(n i:Nat) (r:List Pnt),h.drop i=r→r.length<n→∀(u v:Int),∃u' v':Int,
  L_poly_Chord_1 3 n ⟨[(0,I y),(1,.any),(2,.ptr 1001 0),(4,.any),(5,.any),(6,I u),(7,I v),(8,.any),(9,.any),(10,.any),(17,.sl (h.map eP)),(18,I h.length),(19,I i)],[(1000,.box 36 [I a,I b,I c,I d]),(1001,.box 238 [.sl (h.map eP)])]⟩=
   some (.ex 0,⟨[(0,.any),(1,.any),(2,.any),(4,.any),(5,.any),(6,I u'),(7,I v'),(8,.any),(9,.any),(10,.any),(17,.any),(18,.any),(19,.any)],[(1000,.box 36 [I a,I b,I c,I d]),(1001,.box 238 [.sl (h.map eP)])]⟩):=by
 refine lnd eP h (by omega) _ ?_ ?_
 ·intro n i h3 u v
  refine⟨u,v, ?_⟩
  rw[L_poly_Chord_1_succ,R_poly_Chord_1_eq]
  simp[h3]
 ·intro n i x r h1 h3 hw hm ih u v
  have bx:=hi x hm
  obtain⟨q,hq,e1⟩:=around (L:=h.length) (by omega) (a:=(i:Int)+1) (by omega)
  have hy:(h.map eP)[q]? =some (eP (h[q]'hq)):=by simp[hq]
  have by_:=hi _ (List.getElem_mem hq)
  generalize h[q]'hq=z at*
  have n0:¬h=[]:=by intro e;subst e;simp at hq
  have w1:IntKind.i64.wrap (z.2-x.2)=z.2-x.2:=wrap64 (by omega) (by omega)
  have w2:IntKind.i64.wrap (x.2-z.2)=x.2-z.2:=wrap64 (by omega) (by omega)
  by_cases a1:x.2<z.2
  ·have f1:=pfloor_run (IntKind.i64.wrap (IntKind.i64.wrap (z.1-x.1)*IntKind.i64.wrap (y-x.2))) (z.2-x.2) (by omega)
   generalize flrD (IntKind.i64.wrap (IntKind.i64.wrap (z.1-x.1)*IntKind.i64.wrap (y-x.2))) (z.2-x.2)=k at*
   have a2:¬z.2<x.2:=by omega
   by_cases a3:x.2≤y
   ·by_cases a4:y≤z.2
    ·obtain⟨u',v',ih⟩:=ih u (IntKind.i64.wrap (x.1+k))
     refine⟨u',v', ?_⟩
     rw[L_poly_Chord_1_succ,R_poly_Chord_1_eq]
     simp at ih
     simp[h1,h3,hw,e1,hy,n0,w1,w2,a1,a2,a3,a4,f1,ih]
    ·obtain⟨u',v',ih⟩:=ih u v
     refine⟨u',v', ?_⟩
     rw[L_poly_Chord_1_succ,R_poly_Chord_1_eq]
     simp at ih
     simp[h1,h3,hw,e1,hy,n0,w1,w2,a1,a2,a3,a4,ih]
   ·obtain⟨u',v',ih⟩:=ih u v
    refine⟨u',v', ?_⟩
    rw[L_poly_Chord_1_succ,R_poly_Chord_1_eq]
    simp at ih
    simp[h1,h3,hw,e1,hy,n0,w1,w2,a1,a2,a3,ih]
  ·by_cases a2:z.2<x.2
   ·have f1:=pfloor_run (IntKind.i64.wrap (IntKind.i64.wrap (z.1-x.1)*IntKind.i64.wrap (y-z.2))) (x.2-z.2) (by omega)
    generalize flrD (IntKind.i64.wrap (IntKind.i64.wrap (z.1-x.1)*IntKind.i64.wrap (y-z.2))) (x.2-z.2)=k at*
    by_cases a3:z.2≤y
    ·by_cases a4:y≤x.2
     ·obtain⟨u',v',ih⟩:=ih (IntKind.i64.wrap (z.1-k)) v
      refine⟨u',v', ?_⟩
      rw[L_poly_Chord_1_succ,R_poly_Chord_1_eq]
      simp at ih
      simp[h1,h3,hw,e1,hy,n0,w1,w2,a1,a2,a3,a4,f1,ih]
     ·obtain⟨u',v',ih⟩:=ih u v
      refine⟨u',v', ?_⟩
      rw[L_poly_Chord_1_succ,R_poly_Chord_1_eq]
      simp at ih
      simp[h1,h3,hw,e1,hy,n0,w1,w2,a1,a2,a3,a4,ih]
    ·obtain⟨u',v',ih⟩:=ih u v
     refine⟨u',v', ?_⟩
     rw[L_poly_Chord_1_succ,R_poly_Chord_1_eq]
     simp at ih
     simp[h1,h3,hw,e1,hy,n0,w1,w2,a1,a2,a3,ih]
   ·obtain⟨u',v',ih⟩:=ih u v
    refine⟨u',v', ?_⟩
    rw[L_poly_Chord_1_succ,R_poly_Chord_1_eq]
    simp at ih
    simp[h1,h3,hw,e1,hy,n0,w1,w2,a1,a2,ih]
theorem chord1_run(h:List Pnt)(hl:h.length≤2000)(hi:inAll h)(y a b c d:Int):∃u v:Int,
  E_poly_Chord_1 [(1000,.box 36 [I a,I b,I c,I d]),(1001,.box 238 [.sl (h.map eP)])] [I y,.ptr 1000 0,.ptr 1001 0]=
   some (.tup [I u,I v],[(1000,.box 36 [I a,I b,I c,I d]),(1001,.box 238 [.sl (h.map eP)])]):=by
 obtain⟨u,v,l1⟩:=chord1_loop h hl hi y a b c d bigL 0 h rfl (by have:=bigL_ge;omega) a b
 refine⟨u,v, ?_⟩
 rw[E_poly_Chord_1_eq]
 simp at l1
 simp[l1]
theorem chord_run(p:List Pnt)(hp:p.length≤1000)(hi:inAll p)(lo hi':Int):∃a b:Int,F_poly_Chord [.sl (p.map eP),I lo,I hi']=some (.agg [I a,I b]):=by
 obtain⟨h,hl,hh,hH⟩:=hull_run p hp
 obtain⟨a,b,c,d,hB⟩:=pbounds_run h (by omega)
 have hh:=hh hi
 by_cases a0:h=[]
 ·refine⟨0,0, ?_⟩
  subst a0
  simp at hH hB
  rw[F_poly_Chord_eq]
  simp[hH,hB]
 by_cases a1:hi'≤lo
 ·refine⟨0,0, ?_⟩
  rw[F_poly_Chord_eq]
  simp[hH,hB,a0,a1]
 have a1':lo<hi':=by omega
 by_cases a2:lo<c
 ·refine⟨0,0, ?_⟩
  rw[F_poly_Chord_eq]
  simp[hH,hB,a0,a1,a1',a2]
 by_cases a3:d<hi'
 ·refine⟨0,0, ?_⟩
  rw[F_poly_Chord_eq]
  simp[hH,hB,a0,a1,a1',a2,a3]
 obtain⟨u1,v1,h1⟩:=chord1_run h hl hh lo a b c d
 obtain⟨u2,v2,h2⟩:=chord1_run h hl hh hi' a b c d
 by_cases a4:(if v2<v1 then v2 else v1)≤(if u1<u2 then u2 else u1)
 ·refine⟨0,0, ?_⟩
  rw[F_poly_Chord_eq]
  simp[hH,hB,a0,a1,a1',a2,a3,h1,h2,a4]
 ·refine⟨if u1<u2 then u2 else u1,if v2<v1 then v2 else v1, ?_⟩
  rw[F_poly_Chord_eq]
  simp[hH,hB,a0,a1,a1',a2,a3,h1,h2,a4]
end Go.Proofs.YtbdgblipbpadeaaGreatDoor
