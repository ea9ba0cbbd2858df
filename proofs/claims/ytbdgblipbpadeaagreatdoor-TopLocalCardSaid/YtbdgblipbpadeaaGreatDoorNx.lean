/-
  The example of the law, run abstractly.
-/
import Derived.Test.YtbdgblipbpadeaaGreatDoorNw
import Derived.Test.YtbdgblipbpadeaaGreatDoorMr
import Derived.Test.YtbdgblipbpadeaaGreatDoorNh
set_option linter.unusedSimpArgs false
set_option linter.unusedVariables false
set_option linter.defProp false
namespace Go.Proofs.YtbdgblipbpadeaaGreatDoor
open Go Go.Abs
set_option maxHeartbeats 8000000
set_option maxRecDepth 1000000
theorem dryP_run{ds:List D}{r:D}(hd:ds.all okA=true)(h:F_charge_Dry ds=some r):EP_charge_Dry [] ds=some (r,[]):=by
 rw[EP_charge_Dry_eq,if_pos hd,h];rfl
theorem gradeAwake_of(w:Spc)(b o:Bd)(L P T:List (List D))(r1 r2 r3 r4 r5 r6:Int)(nm:ByteArray)(SG:List (List D))(hb:F_law22_Block [I 3000,I (-10),I 20,.agg [I (-100),I 100]]=some (.own false L))
  (hn:F_board_New [S idB,S lgB,.agg (eS w),.sl L,.sl [],I 0,.agg [I (-50),I 55,I 0,I 42,I 0,I 2000]]=some (.agg (eBo b)))
  (hp:F_top_pine []=some (.agg (eS w)))
  (hs:F_top_soft []=some (.agg [S nm,I 20,.own true SG]))
  (hd:F_charge_Dry [.sl [eBd b],.agg (eS w),.agg [S nm,I 20,.sl SG],.sl [],I 400]=some (.tup [.own false [eBd o],.agg [I r1,I r2,I r3,I r4,I r5,I r6],I 0]))
  (hk:F_law45_Plank []=some (.own false P))(ht:F_law45_Table []=some (.own false T))
  (hg:F_grading_Of [.agg (eBd o),.sl P,.agg (eS w),.sl T]=some (.tup [I 1,I 0,I 0])):
  F_top_gradeAwake []=some (B true):=by
 rw[F_top_gradeAwake_eq]
 have hd':=dryP_run (by simp[okA,isCell]) hd
 clear hd
 simp only[eBo,eBd,idB,lgB,eS] at hn hp hd' hg
 simp[hb,hp,hs,hn,hd',hg,hk,ht]
def spine:Spc:=⟨⟨#[112,105,110,101]⟩,8000,400,60,300,900,5000,900,300,500,12000,500,70⟩
theorem tpine_run:F_top_pine []=some (.agg (eS spine)):=by
 rw[F_top_pine_eq];simp[spine]
def nSoft:ByteArray:=⟨#[115,111,102,116]⟩
theorem soft_run:F_top_soft []=some (.agg [S nSoft,I 20,.own true [[I 1500,I 0,I 600,I 200],[I 0,I 12,I 600,I 50]]]):=by
 rw[F_top_soft_eq];simp[nSoft]
def bLog:List Slc:=[⟨3000,⟨-10,List.replicate 20 ⟨-100,100⟩⟩⟩]
def bNew:Bd:=⟨idB,lgB,spine.name,0,-50,55,0,42,0,2000,8820000,[],0,⟨8000,8000,0⟩,false,0⟩
def cNew:Ch.Bd:=⟨idB,lgB,spine.name,0,-50,55,0,42,0,2000,8820000,[],0,⟨8000,8000,0⟩,false,0⟩
def gNew:Ch.Gv:=⟨[cNew],spine,nSoft,20,[⟨1500,0,600,200⟩,⟨0,12,600,50⟩],[],400⟩
def oNew:Bd:=⟨idB,lgB,spine.name,0,-50,55,0,42,0,2000,8820000,[],0,⟨5853,6673,45448⟩,true,0⟩
def dNew:Ch.Bd:=⟨idB,lgB,spine.name,0,-50,55,0,42,0,2000,8820000,[],0,⟨5853,6673,45448⟩,true,0⟩
theorem dry_out:Ch.outB gNew=[dNew]:=by kernel_rfl
theorem dry_err:Ch.errD gNew=0:=by kernel_rfl
theorem new_out:newB idB lgB spine bLog [] 0 ⟨-50,55,0,42,0,2000⟩=bNew:=by kernel_rfl
theorem grade_out:gOf oNew [plankE] spine tabE=(1,0,0):=by kernel_rfl
theorem block_run:F_law22_Block [I 3000,I (-10),I 20,.agg [I (-100),I 100]]=some (.own false (bLog.map eSl)):=by
 obtain⟨q,hq⟩:∃q,bigL=q+21:=⟨bigL-21,by have:=bigL_ge;omega⟩
 rw[F_law22_Block_eq];simp[hq]
 iterate 20 (rw[L_law22_Block_succ,R_law22_Block_eq];simp)
 rw[L_law22_Block_succ,R_law22_Block_eq];simp[bLog,List.replicate]
theorem dry_run(g:Ch.Gv)(e:g=gNew):F_charge_Dry [.sl (g.l.map Ch.eBd),.agg (eS g.w),.agg [S g.nm,I g.ramp,.sl (g.sg.map eSg)],.sl (g.fs.map Ch.eFl),I g.ticks]=some (.tup [.own false [Ch.eBd dNew],.agg (Ch.eRn (Ch.rnM g)),I 0]):=by
 have h:=Ch.dryGood_run g (by rw[e];decide) (by rw[e];simp[gNew,cNew,Ch.okBd,Ch.i64]) (by rw[e];simp[gNew,cNew]) (by rw[e];decide) (by rw[e];exact dry_err)
 have e2:Ch.outB g=[dNew]:=by rw[e];exact dry_out
 rw[e2] at h
 exact h
theorem fit0(op n:Int)(s:ByteArray)(h1:i64 op)(h2:i64 n)(h3:s.size≤100):Rl.Fits (.mk op n s []):= .mk h1 h2 (by simp[Rl.Ex.name];omega) (by simp[Rl.Ex.args]) (fun a ha=>by simp[Rl.Ex.args] at ha)
theorem fit2(op n:Int)(s:ByteArray)(a b:Rl.Ex)(h1:i64 op)(h2:i64 n)(h3:s.size≤100)(ha:Rl.Fits a)(hb:Rl.Fits b):Rl.Fits (.mk op n s [a,b]):= .mk h1 h2 (by simp[Rl.Ex.name];omega) (by simp[Rl.Ex.args]) (fun x hx=>by
 simp[Rl.Ex.args] at hx
 rcases hx with rfl|rfl
 ·exact ha
 ·exact hb)
theorem tabE_fits:∀x∈tabE,Rl.Fits x.2:=by
 intro x hx
 have k:∀n:Int,-10000≤n→n≤10000→i64 n:=fun n h0 h1=>⟨by omega,by omega⟩
 simp only[tabE,List.mem_cons,List.not_mem_nil,or_false] at hx
 rcases hx with rfl|rfl|rfl
 ·exact fit2 _ _ _ _ _ (k _ (by decide) (by decide)) (k _ (by decide) (by decide)) (by decide) (fit2 _ _ _ _ _ (k _ (by decide) (by decide)) (k _ (by decide) (by decide)) (by decide) (fit0 _ _ _ (k _ (by decide) (by decide)) (k _ (by decide) (by decide)) (by decide)) (fit0 _ _ _ (k _ (by decide) (by decide)) (k _ (by decide) (by decide)) (by decide))) (fit2 _ _ _ _ _ (k _ (by decide) (by decide)) (k _ (by decide) (by decide)) (by decide) (fit0 _ _ _ (k _ (by decide) (by decide)) (k _ (by decide) (by decide)) (by decide)) (fit0 _ _ _ (k _ (by decide) (by decide)) (k _ (by decide) (by decide)) (by decide)))
 ·exact fit2 _ _ _ _ _ (k _ (by decide) (by decide)) (k _ (by decide) (by decide)) (by decide) (fit0 _ _ _ (k _ (by decide) (by decide)) (k _ (by decide) (by decide)) (by decide)) (fit0 _ _ _ (k _ (by decide) (by decide)) (k _ (by decide) (by decide)) (by decide))
 ·exact fit2 _ _ _ _ _ (k _ (by decide) (by decide)) (k _ (by decide) (by decide)) (by decide) (fit0 _ _ _ (k _ (by decide) (by decide)) (k _ (by decide) (by decide)) (by decide)) (fit0 _ _ _ (k _ (by decide) (by decide)) (k _ (by decide) (by decide)) (by decide))
theorem gradeAwake_run:F_top_gradeAwake []=some (B true):=by
 have hn:=bnew_run idB lgB spine bLog [] 0 ⟨-50,55,0,42,0,2000⟩
 rw[new_out] at hn
 have hg:=gof_run oNew [plankE] spine tabE (by decide) tabE_fits
 rw[grade_out] at hg
 have hd:=dry_run gNew rfl
 exact gradeAwake_of spine bNew oNew (bLog.map eSl) ([plankE].map ePd) (tabE.map Rl.eR) _ _ _ _ _ _ nSoft [[I 1500,I 0,I 600,I 200],[I 0,I 12,I 600,I 50]] block_run hn tpine_run soft_run hd plank_run ltab_run hg
end Go.Proofs.YtbdgblipbpadeaaGreatDoor
namespace Go.Proofs.YtbdgblipbpadeaaGreatDoor
open Go Go.Abs
set_option maxHeartbeats 8000000
set_option maxRecDepth 100000
theorem clipL_app(b:Bx)(d:Dfc):∀l:List Dfc,clipL b (l++[d])=clipL b l++clipL b [d]
 |[]=>by simp[clipL]
 |x::r=>by
  have ih:=clipL_app b d r
  simp only[List.cons_append,clipL] at ih⊢
  split<;>simp[ih]
theorem newB_out(id lg:ByteArray)(w:Spc)(l:List Slc)(df:List Dfc)(d:Dfc)(prod:Int)(b:Bx)(h1:checkDf df=0)(h2:checkDf (df++[d])=0)(h:touchB (bxD d) b=false):newB id lg w l (df++[d]) prod b=newB id lg w l df prod b:=by
 have e:clipM (df++[d]) b=clipM df b:=by
  unfold clipM
  rw[if_pos h1,if_pos h2,clipL_app]
  simp[clipL,h]
 unfold newB
 rw[e]
theorem clipL_len(b:Bx):∀l:List Dfc,(clipL b l).length≤l.length
 |[]=>by simp[clipL]
 |x::r=>by
  have ih:=clipL_len b r
  simp only[clipL]
  split<;>simp<;>omega
theorem newB_dfs(id lg:ByteArray)(w:Spc)(l:List Slc)(df:List Dfc)(prod:Int)(b:Bx)(h:checkDf df=0):(newB id lg w l df prod b).dfs.length≤1000000:=by
 have e:(newB id lg w l df prod b).dfs=clipM df b:=rfl
 have h64:df.length≤64:=by
  unfold checkDf at h
  split at h<;>omega
 have:=clipL_len b df
 rw[e]
 unfold clipM
 repeat' split
 all_goals first|omega|simp
abbrev trkC(rg:List Rg)(df:List Dfc)(pds:List Pd)(a b c d e f g lim gap:Int):List D:=[.sl (rg.map eRg),.sl (df.map eDf),.sl (pds.map ePd),I a,I b,I c,I d,I e,I f,I g,I lim,I gap]
theorem local_loop(rg:List Rg)(df:List Dfc)(pds:List Pd)(a b c d' e f g lim gap:Int)(r:Rc)(nd:List Nd)(sh:List Int)(w:Spc)(nm:ByteArray)(rmp tk:Int)(SG FL:List (List D))(rs:Rls)(hrs:rs.length≤1000)(hf:∀x∈rs,Rl.Fits x.2)(ls:List Slc)(d:Dfc)(h1:checkDf df=0)(h2:checkDf (df++[d])=0)(q:List Bd)(fl:Bool):∀(n i:Nat),12<n+i→i≤12→
  L_top_TopLocal 17 n ⟨[(0,.any),(1,.any),(2,.any),(3,.ptr 3 0),(4,.ptr 4 0),(5,.ptr 5 0),(6,.any),(7,.any),(8,.any),(9,.sl (ls.map eSl)),(11,.any),(12,.sl (ls.map eSl)),(13,.sl ((df++[d]).map eDf)),(14,.any),(15,.own fl (q.map eBd)),(16,I i),(17,.any),(18,.any),(19,.any),(20,.any),(21,.any),(22,.any),(23,.any),(24,.any)],
   [(3,.box 32 (trkC rg df pds a b c d' e f g lim gap)),(4,.box 49 (lifeC r nd sh w nm rmp tk SG FL (rs.map Rl.eR))),(5,.box 53 (eDf d))]⟩=
   some (.ex 0,⟨[(0,.any),(1,.any),(2,.any),(3,.any),(4,.any),(5,.any),(6,.any),(7,.any),(8,.any),(9,.any),(11,.any),(12,.any),(13,.any),(14,.any),(15,.any),(16,.any),(17,.any),(18,.any),(19,.any),(20,.any),(21,.any),(22,.any),(23,.any),(24,.any)],[]⟩):=by
 intro n
 induction n with
 |zero=>intro i h0 h1;omega
 |succ n ih=>
 intro i h0 h12
 rw[L_top_TopLocal_succ,R_top_TopLocal_eq]
 rcases hr:q.drop i with _|⟨x,s⟩
 ·simp[trkC,dn hr]
 ·have ih:=ih (i+1)
  obtain⟨k1,k3,hr',_⟩:=dc (enc:=eBd) hr
  have hw:IntKind.i64.wrap ((i:Int)+1)=i+1:=wrap64 (by omega) (by omega)
  by_cases g12:(i:Int)<12
  ·have ih':=ih (by omega) (by omega)
   have ht:=rtouch_run d ⟨x.xa,x.xb,x.ya,x.yb,x.za,x.zb⟩
   cases hto:touchB (bxD d) ⟨x.xa,x.xb,x.ya,x.yb,x.za,x.zb⟩
   ·have n1:=bnew_run idB lgB w ls df x.prod ⟨x.xa,x.xb,x.ya,x.yb,x.za,x.zb⟩
    have n2:=bnew_run idB lgB w ls (df++[d]) x.prod ⟨x.xa,x.xb,x.ya,x.yb,x.za,x.zb⟩
    rw[newB_out idB lgB w ls df d x.prod _ h1 h2 hto] at n2
    have hl:(newB idB lgB w ls df x.prod ⟨x.xa,x.xb,x.ya,x.yb,x.za,x.zb⟩).dfs.length≤1000000:=newB_dfs idB lgB w ls df x.prod _ h1
    generalize newB idB lgB w ls df x.prod ⟨x.xa,x.xb,x.ya,x.yb,x.za,x.zb⟩=o at*
    have hs:=bsame_run o hl
    have hg:=gof_run o pds w rs hrs hf
    generalize ls.map eSl=S1 at*
    generalize gOf o pds w rs=G at*
    rw[hto] at ht
    simp only[trkC,lifeC,idB,lgB,eBo] at ih' n1 n2 hs hg ht⊢
    simp at ih' n1 n2 hs hg ht
    simp[k1,k3,g12,ht,n1,n2,hs,hg,hw,ih']
   ·rw[hto] at ht
    generalize ls.map eSl=S1 at*
    simp only[trkC,lifeC] at ih' ht⊢
    simp at ih' ht
    simp[k1,k3,g12,ht,hw,ih']
  ·simp[trkC,k1,g12]
theorem placeP_run{ds:List D}{r:D}(hd:ds.all okA=true)(h:F_turns_Place ds=some r):EP_turns_Place [] ds=some (r,[]):=by
 rw[EP_turns_Place_eq,if_pos hd,h];rfl
theorem topLocal_run(rg:List Rg)(df:List Dfc)(pds:List Pd)(a b c d' e f g lim gap:Int)(r:Rc)(nd:List Nd)(sh:List Int)(w:Spc)(nm:ByteArray)(rmp tk qu:Int)(SG FL:List (List D))(rs:Rls)(hf:∀x∈rs,Rl.Fits x.2)(hr:I64R r)(hn:∀n∈nd,i64 n.at')(d:Dfc):
  F_top_TopLocal [.agg (trkC rg df pds a b c d' e f g lim gap),.agg (I qu::(lifeC r nd sh w nm rmp tk SG FL (rs.map Rl.eR)).tail),.agg (eDf d)]=some (B true):=by
 rw[F_top_TopLocal_eq]
 have ga:=gradeAwake_run
 obtain⟨o1,h1,k1⟩:=smallT_run rg df pds a b c d' e f g lim gap
 obtain⟨o2,h2,k2⟩:=short_run r nd sh w nm rmp tk qu SG FL rs hf
 cases o1
 ·simp only[trkC,lifeC,List.tail_cons] at h2⊢
  simp[h1,ga]
 cases o2
 ·simp only[trkC,lifeC,List.tail_cons] at h2⊢
  simp[h1,h2,ga]
 by_cases h3:(64:Int)≤df.length
 ·simp only[trkC,lifeC,List.tail_cons] at h2⊢
  simp[h1,h2,h3,ga]
 obtain⟨k11,k12,k13⟩:=k1 rfl
 obtain⟨k21,k22,k23⟩:=k2 rfl
 obtain⟨ls,l1,l2,hp⟩:=place_run rg lim gap (by omega) (fun x hx=>by have:=k13 x hx;omega)
 obtain⟨e1,p1,q1⟩:=hp df (by omega)
 obtain⟨e2,p2,q2⟩:=hp (df++[d]) (by simp;omega)
 have p1':=placeP_run (by simp[okA,isCell]) p1
 have p2':=placeP_run (by simp[okA,isCell]) p2
 rw[List.map_append,List.map_cons,List.map_nil] at p2'
 have b1:df.length*57≤140737488355328:=by omega
 have b2:(df.length+1)*57≤140737488355328:=by omega
 by_cases g1:e1=0
 ·by_cases g2:e2=0
  ·have c1:=q1 g1
   have c2:=q2 g2
   subst g1 g2
   rw[if_pos rfl] at p1 p1' p2'
   rcases tboards_run rg df pds a b c d' e f g lim gap r nd sh (by omega) w nm rmp tk SG FL (rs.map Rl.eR) hr hn ls p1 with⟨x,hx,hb⟩|⟨q,fl,hb⟩
   ·simp only[trkC,lifeC,List.tail_cons] at h2 hb⊢
    clear p1 p2 hp q1 q2
    generalize ls.map eSl=S1 at*
    simp only[eDf] at p1' p2'
    simp[h1,h2,h3,ga,p1',p2',b1,b2,hb,hx]
   ·have hl:=local_loop rg df pds a b c d' e f g lim gap r nd sh w nm rmp tk SG FL rs (by omega) hf ls d c1 c2 q fl bigL 0 (by have:=bigL_ge;omega) (by omega)
    simp only[trkC,lifeC,List.tail_cons] at h2 hb hl⊢
    clear p1 p2 hp q1 q2
    rw[List.map_append,List.map_cons,List.map_nil] at hl
    generalize ls.map eSl=S1 at*
    simp only[eDf] at p1' p2' hl
    simp at hl
    simp[h1,h2,h3,ga,p1',p2',b1,b2,hb,hl]
  ·simp only[trkC,lifeC,List.tail_cons] at h2⊢
   clear p1 p2 hp
   subst g1
   rw[if_pos rfl] at p1'
   rw[if_neg g2] at p2'
   simp only[eDf] at p1' p2'
   simp[h1,h2,h3,ga,p1',p2',b1,b2,g2]
 ·simp only[trkC,lifeC,List.tail_cons] at h2⊢
  clear p1 p2 hp
  rw[if_neg g1] at p1'
  by_cases g2:e2=0
  ·subst g2
   rw[if_pos rfl] at p2'
   simp only[eDf] at p1' p2'
   simp[h1,h2,h3,ga,p1',p2',b1,b2,g1]
  ·rw[if_neg g2] at p2'
   simp only[eDf] at p1' p2'
   simp[h1,h2,h3,ga,p1',p2',b1,b2,g1]
end Go.Proofs.YtbdgblipbpadeaaGreatDoor
