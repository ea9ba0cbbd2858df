/-
  Codes, run abstractly: the program's Split and Is.
-/
import Derived.Test.YtbdgblipbpadeaaGreatDoorMt
set_option linter.unusedSimpArgs false
set_option linter.unusedVariables false
set_option linter.defProp false
namespace Go.Proofs.YtbdgblipbpadeaaGreatDoor
open Go Go.Abs
set_option maxHeartbeats 8000000
set_option maxRecDepth 100000
theorem split2(s:ByteArray)(n:Nat):L_ident_Split 4 (n+1) ⟨[(0,S s),(2,.any),(3,.any),(4,.any),(6,.any),(7,.any),(8,.any),(9,.any),(13,.own true [prtC,prtD]),(14,I 2),(15,I 2)],[]⟩=
  some (.ex 0,⟨[(0,S s),(2,.any),(3,.any),(4,.any),(6,.any),(7,.any),(8,.any),(9,.any),(13,.any),(14,.any),(15,.any)],[]⟩):=by
 rw[L_ident_Split_succ,R_ident_Split_eq]
 simp
theorem split1(s:ByteArray)(hs:s.size=8)(n:Nat):L_ident_Split 4 (n+2) ⟨[(0,S s),(2,.any),(3,.any),(4,.any),(6,.any),(7,.any),(8,.any),(9,.any),(13,.own true [prtC,prtD]),(14,I 2),(15,I 1)],[]⟩=
  if allB digitB (((byt s).take 7).drop 1)=true then some (.ex 0,⟨[(0,S s),(2,.any),(3,.any),(4,.any),(6,.any),(7,.any),(8,.any),(9,.any),(13,.any),(14,.any),(15,.any)],[]⟩)
  else some (.ret,⟨[(0,.any),(2,Y 0),(3,I 0),(4,I 5),(6,.any),(7,.any),(8,.any),(9,.any),(13,.any),(14,.any),(15,.any)],[]⟩):=by
 rw[show n+2=(n+1)+1 by omega,L_ident_Split_succ,R_ident_Split_eq]
 have iD:=splitD_loop s hs 1 bigL 1 _ rfl (by have:=bigL_ge;simp;omega)
 have i2:=split2 s n
 generalize allB digitB (((byt s).take 7).drop 1)=b at*
 cases b
 ·simp at iD i2
  simp[iD]
 ·simp at iD i2
  simp[iD,i2]
theorem split0(s:ByteArray)(hs:s.size=8)(n:Nat):L_ident_Split 4 (n+3) ⟨[(0,S s),(2,.any),(3,.any),(4,.any),(6,.any),(7,.any),(8,.any),(9,.any),(13,.own true [prtC,prtD]),(14,I 2),(15,I 0)],[]⟩=
  if allB capB ((byt s).take 1)=true then if allB digitB (((byt s).take 7).drop 1)=true then some (.ex 0,⟨[(0,S s),(2,.any),(3,.any),(4,.any),(6,.any),(7,.any),(8,.any),(9,.any),(13,.any),(14,.any),(15,.any)],[]⟩)
  else some (.ret,⟨[(0,.any),(2,Y 0),(3,I 0),(4,I 5),(6,.any),(7,.any),(8,.any),(9,.any),(13,.any),(14,.any),(15,.any)],[]⟩)
  else some (.ret,⟨[(0,.any),(2,Y 0),(3,I 0),(4,I 10),(6,.any),(7,.any),(8,.any),(9,.any),(13,.any),(14,.any),(15,.any)],[]⟩):=by
 rw[show n+3=(n+2)+1 by omega,L_ident_Split_succ,R_ident_Split_eq]
 have iC:=splitC_loop s hs 0 bigL 0 _ rfl (by have:=bigL_ge;simp;omega)
 have i1:=split1 s hs n
 rw[List.drop_zero] at iC
 generalize allB digitB (((byt s).take 7).drop 1)=b at*
 generalize allB capB ((byt s).take 1)=c at*
 cases c
 ·simp at iC i1
  simp[iC]
 ·simp at iC i1
  simp[iC,i1]
theorem splitN(s:ByteArray)(hs:s.size=8):∀(n i k:Nat) (m:Int),i+k=7→k<n→∃m',L_ident_Split 16 n ⟨[(0,S s),(2,.any),(3,.any),(4,.any),(6,.any),(7,.any),(8,I m),(9,I i),(13,.any),(14,.any),(15,.any)],[]⟩=
  some (.ex 4,⟨[(0,S s),(2,.any),(3,.any),(4,.any),(6,.any),(7,.any),(8,I m'),(9,.any),(13,.any),(14,.any),(15,.any)],[]⟩)
 |0,_,_,_,_,hn=>by omega
 |n+1,i,0,m,hk,hn=>by
  refine⟨m, ?_⟩
  rw[L_ident_Split_succ,R_ident_Split_eq]
  have h:¬(i:Int)≤6:=by omega
  have h':¬i≤6:=by omega
  simp[h,h']
 |n+1,i,k+1,m,hk,hn=>by
  have h2:i<s.size:=by omega
  obtain⟨m',ih⟩:=splitN s hs n (i+1) k (IntKind.i64.wrap (IntKind.i64.wrap (m*10)+IntKind.i64.wrap (IntKind.u8.wrap ((s[i]'h2).toNat-48)))) (by omega) (by omega)
  refine⟨m', ?_⟩
  rw[L_ident_Split_succ,R_ident_Split_eq]
  have h:(i:Int)≤6:=by omega
  have h':i≤6:=by omega
  have hw:=wrapN (n:=i) (by omega)
  simp at ih
  simp[h,h',h2,hw,ih]
end Go.Proofs.YtbdgblipbpadeaaGreatDoor
namespace Go.Proofs.YtbdgblipbpadeaaGreatDoor
open Go Go.Abs
set_option maxHeartbeats 8000000
set_option maxRecDepth 100000
theorem byt_take(s:ByteArray)(k:Nat):byt (s.extract 0 k)=(byt s).take k:=by
 unfold byt
 rw[ByteArray.data_extract]
 simp[List.extract_eq_take_drop]
def capM(s:ByteArray):Bool:=allB capB ((byt s).take 1)
def digM(s:ByteArray):Bool:=allB digitB (((byt s).take 7).drop 1)
def letM(s:ByteArray):Int:=65+letS 0 0 ((byt s).take 7)
def codeB(s:ByteArray):Bool:=decide (s.size=8)&&(capM s&&(digM s&&decide (letM s=(((byt s)[7]?.getD 0).toNat:Int))))
theorem split0'(s:ByteArray)(hs:s.size=8):L_ident_Split 4 bigL ⟨[(0,S s),(2,.any),(3,.any),(4,.any),(6,.any),(7,.any),(8,.any),(9,.any),(13,.own true [prtC,prtD]),(14,I 2),(15,I 0)],[]⟩=
  if capM s=true then if digM s=true then some (.ex 0,⟨[(0,S s),(2,.any),(3,.any),(4,.any),(6,.any),(7,.any),(8,.any),(9,.any),(13,.any),(14,.any),(15,.any)],[]⟩)
  else some (.ret,⟨[(0,.any),(2,Y 0),(3,I 0),(4,I 5),(6,.any),(7,.any),(8,.any),(9,.any),(13,.any),(14,.any),(15,.any)],[]⟩)
  else some (.ret,⟨[(0,.any),(2,Y 0),(3,I 0),(4,I 10),(6,.any),(7,.any),(8,.any),(9,.any),(13,.any),(14,.any),(15,.any)],[]⟩):=by
 obtain⟨m,hm⟩:=bigL_succ 3 (by omega)
 have i4:=split0 s hs m
 rw[←hm] at i4
 exact i4
theorem letM_run(s:ByteArray)(hs:s.size=8):F_ident_Letter [S (s.extract 0 7)]=some (Y (letM s)):=by
 have hl:=letter_run (s.extract 0 7) (by rw[byt_len,byt_take,List.length_take];omega)
 rw[byt_take] at hl
 exact hl
theorem split_run(s:ByteArray):∃k n e:Int,F_ident_Split [S s]=some (.tup [Y k,I n,I e])∧(e=0↔codeB s=true)∧(codeB s=true→k=(((byt s)[0]?.getD 0).toNat:Int)):=by
 by_cases hs:s.size=8
 ·have i4:=split0' s hs
  cases hc:capM s
  ·refine⟨0,0,10, ?_,by simp[codeB,hc],by simp[codeB,hc]⟩
   rw[F_ident_Split_eq]
   simp[hc] at i4
   simp[hs,parts_run,i4]
  ·cases hd:digM s
   ·refine⟨0,0,5, ?_,by simp[codeB,hd],by simp[codeB,hd]⟩
    rw[F_ident_Split_eq]
    simp[hc,hd] at i4
    simp[hs,parts_run,i4]
   ·have h7:7<s.size:=by omega
    have h0:0<s.size:=by omega
    have hl:=letM_run s hs
    have b7:(byt s)[7]? =some (s[7]'h7):=by rw[←byt_get,getElem?_pos s 7 h7]
    have b0:(byt s)[0]? =some (s[0]'h0):=by rw[←byt_get,getElem?_pos s 0 h0]
    obtain⟨m',i16⟩:=splitN s hs bigL 1 6 0 rfl (by have:=bigL_ge;omega)
    by_cases hq:letM s=((s[7]'h7).toNat:Int)
    ·refine⟨((s[0]'h0).toNat:Int),m',0, ?_,by simp[codeB,hs,hc,hd,b7,hq],by simp[b0]⟩
     rw[F_ident_Split_eq]
     simp[hc,hd] at i4
     simp at i16
     simp[hs,parts_run,i4,hl,hq,i16]
    ·refine⟨0,0,16, ?_,by simp[codeB,hs,hc,hd,b7,hq],by simp[codeB,hs,hc,hd,b7,hq]⟩
     rw[F_ident_Split_eq]
     simp[hc,hd] at i4
     simp[hs,parts_run,i4,hl,hq]
 ·refine⟨0,0,3, ?_,by simp[codeB,hs],by simp[codeB,hs]⟩
  rw[F_ident_Split_eq]
  have hs':¬(s.size:Int)=8:=by omega
  simp[hs,hs']
theorem is_run(s:ByteArray)(kind:Int):F_ident_Is [S s,Y kind]=some (B (codeB s&&decide (((((byt s)[0]?.getD 0).toNat:Nat):Int)=kind))):=by
 rw[F_ident_Is_eq]
 obtain⟨k,n,e,h1,h2,h3⟩:=split_run s
 by_cases he:e=0
 ·have hc:=h2.1 he
  have hk:=h3 hc
  rw[he,hk] at h1
  simp[h1,hc]
 ·have hc:codeB s=false:=by
   cases h:codeB s
   ·rfl
   ·exact absurd (h2.2 h) he
  simp[h1,he,hc]
end Go.Proofs.YtbdgblipbpadeaaGreatDoor
namespace Go.Proofs.YtbdgblipbpadeaaGreatDoor
open Go Go.Abs
set_option maxHeartbeats 8000000
set_option maxRecDepth 100000
end Go.Proofs.YtbdgblipbpadeaaGreatDoor
