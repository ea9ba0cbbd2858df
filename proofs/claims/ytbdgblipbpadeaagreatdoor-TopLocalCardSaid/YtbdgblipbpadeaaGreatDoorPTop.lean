/-
  The statement TopLocal, proved for every input.
-/
import Derived.Test.YtbdgblipbpadeaaGreatDoorMf
import Derived.Test.YtbdgblipbpadeaaGreatDoorNy
import Derived.Test.YtbdgblipbpadeaaGreatDoorMc
import Derived.ProofKit
import Derived.LaidMore
import Derived.OpenShut
import Derived.Stop.Joined
import Derived.SevenTiedAt
import Derived.Test.YtbdgblipbpadeaaGreatDoorCards
import Derived.Test.YtbdgblipbpadeaaGreatDoorTie
namespace Go.Proofs.YtbdgblipbpadeaaGreatDoor
set_option linter.unusedSimpArgs false
set_option linter.unusedVariables false
open Go Go.Abs Go.ChangeShapes Go.WideShapes Go.ChangeAt Go.WideMaps Go.WideElems Go.RowKit
set_option maxRecDepth 100000
abbrev vlist0:List (String×DataW Unit):=[("sawmill/poly.turns",Rows.laid_sawmill_poly_turns),("sawmill/ring.directions",Rows.laid_sawmill_ring_directions),("sawmill/kiln.stillAir",Rows.laid_sawmill_kiln_stillAir)]
theorem door_met(os:Os)(args:Array Value):laidMetH Tryz.prog [("sawmill/poly.turns",Rows.laid_sawmill_poly_turns),("sawmill/ring.directions",Rows.laid_sawmill_ring_directions),("sawmill/kiln.stillAir",Rows.laid_sawmill_kiln_stillAir)] ((World.doorLaid Tryz.prog 400 os).forCall (fun _ _=>0) ⟨#[],args,[]⟩).memory:=
 laidMetH_of_parts3 (fuel:=8) (laidMet_of_run' 8 (by kernel_rfl) (by kernel_rfl)) (by kernel_rfl) (by kernel_rfl)
theorem globAt_of{W:World}{g:Nat}{cs:List Value}{name:String}(hg0:Tryz.prog.globalNamed name=some g)(hv0:W.var? Tryz.prog name=some cs.toArray)(hc:∀c∈cs,c.oneCell'=true):GlobAt W (fun _=>True) (fun _=>False) g (cs.map D.x):=by
 have hcell:=fun off=>World.var?_cell hg0 hv0 off
 have hv:=hv0
 unfold World.var? at hv
 simp only[hg0,Option.bind_some] at hv
 split at hv
 ·rename_i o ty m hh
  injection hv with hv
  have hlt:g<W.heap.size:=(Array.getElem?_eq_some_iff.1 hh).1
  have hsz:o.size=(cs.map D.x).length:=by rw[hv];simp
  refine⟨.elt trivial hlt (fun d hd=>?_) (fun j hj=>?_) (fun j d u hd hu=>?_),trivial,hlt,⟨o,ty,m,hh,hsz⟩⟩
  ·simp only[List.mem_map] at hd
   obtain⟨z,hz,rfl⟩:=hd
   rfl
  ·have:=hcell j
   have e:(Addr.mk g 0 none).add j=⟨g,j,none⟩:=by simp[Addr.add];exact fun h=>h.symm
   have hj':j<cs.length:=by simpa using hj
   have e2:cs.toArray[j]? =some cs[j]:=by simp[hj']
   rw[e]
   exact⟨cs[j],by rw[this];exact e2,hc _ (List.getElem_mem hj')⟩
  ·have:=hcell j
   have e:(Addr.mk g 0 none).add j=⟨g,j,none⟩:=by simp[Addr.add];exact fun h=>h.symm
   rw[e,this] at hu
   have hu':cs[j]? =some u:=by simpa using hu
   rw[List.getElem?_map,hu'] at hd
   cases hd
   exact .x _
 ·cases hv
def Det(W:World)(t:TypeId)(d:DataW Unit)(vs:List Value):Prop:=∀(enc:TypeId×Value→Unit) (b:Nat) (sp:Nat→Bool) (hd:Bool) (fuel:Nat) (cs:List Value) (ps:List MemPlace),DataW.trod enc Tryz.prog W b sp hd fuel t cs=some (d,ps)→cs=vs
theorem det_int{W:World}{t:TypeId}{k:IntKind}{n:Int}(ht:Tryz.prog.underlying t=some (.int k)):Det W t (.lit (.int k n)) [.int k n]:=by
 intro enc b sp hd fuel cs ps h
 obtain⟨m,rfl,h2,_⟩:=DataW.trod_int ht h
 injection h2 with h2
 injection h2 with h2
 injection h2 with _ h2
 rw[h2]
theorem det_bool{W:World}{t:TypeId}{n:Bool}(ht:Tryz.prog.underlying t=some .bool):Det W t (.lit (.bool n)) [.bool n]:=by
 intro enc b sp hd fuel cs ps h
 obtain⟨m,rfl,h2⟩:=DataW.trod_bool ht h
 injection h2 with h2
 injection h2 with h2
 injection h2 with h2
 rw[h2]
theorem det_struct2{W:World}{t:TypeId}{f0 f1:Field}{d0 d1:DataW Unit}{v0 v1:Value}(ht:Tryz.prog.underlying t=some (.struct #[f0,f1]))(ho:f0.offset=0∧f1.offset=1)(hc:Tryz.prog.cellsOf t=2∧Tryz.prog.cellsOf f0.type=1∧Tryz.prog.cellsOf f1.type=1)
  (h0:Det W f0.type d0 [v0])(h1:Det W f1.type d1 [v1]):Det W t (.agg [d0,d1]) [v0,v1]:=by
 intro enc b sp hd fuel cs ps h
 obtain⟨⟨y0,p0⟩,⟨y1,p1⟩,n,hx,hl,e0,e1⟩:=trod_struct2 ht h
 injection hx with hx _
 injection hx with hx
 injection hx with hx0 hx
 injection hx with hx1 _
 subst hx0 hx1
 rw[ho.1,hc.2.1] at e0
 rw[ho.2,hc.2.2] at e1
 rw[hc.1] at hl
 match cs,hl with
 |[a,c],_=>
  have q0:=h0 _ _ _ _ _ _ _ e0
  have q1:=h1 _ _ _ _ _ _ _ e1
  simp at q0 q1
  rw[q0,q1]
theorem det_arr{W:World}{t e:TypeId}{n c:Nat}{ds:List (DataW Unit)}{vss:List (List Value)}(ht:Tryz.prog.underlying t=some (.array n e))(hc:Tryz.prog.cellsOf e=c)(hct:Tryz.prog.cellsOf t=n*c)(hn:vss.length=n)
  (hv:∀v∈vss,v.length=c)(hd:∀(i:Nat) (d:DataW Unit) (v:List Value),ds[i]? =some d→vss[i]? =some v→Det W e d v):Det W t (.agg ds) vss.flatten:=by
 intro enc b sp hd' fuel cs ps h
 obtain⟨xs,m,_,hx,hl,hxl,he⟩:=DataW.trod_array ht h
 injection hx with hx _
 injection hx with hx
 rw[hct] at hl
 rw[hc] at he
 have key:∀(k:Nat) (vss:List (List Value)) (cs:List Value),vss.length=k→cs.length=k*c→(∀i v,vss[i]? =some v→(cs.drop (i*c)).take c=v)→cs=vss.flatten:=by
  intro k
  induction k with
  |zero=>intro vss cs h1 h2 _;rw[List.eq_nil_of_length_eq_zero h1];simpa using h2
  |succ k ih=>
   intro vss cs h1 h2 h3
   match vss,h1 with
   |v::r,h1=>
    have a:=h3 0 v rfl
    simp at a
    have b:=ih r (cs.drop c) (by simpa using h1) (by rw[List.length_drop,h2,Nat.add_mul,Nat.one_mul];omega) (fun i u hu=>by
     have:=h3 (i+1) u (by simpa using hu)
     rw[List.drop_drop,Nat.add_comm c,←this,Nat.add_mul,Nat.one_mul])
    rw[List.flatten_cons,←b,←a,List.take_append_drop]
 refine key n vss cs hn hl (fun i v hv'=>?_)
 have hi:i<n:=by rw[←hn];exact(List.getElem?_eq_some_iff.1 hv').1
 have hxi:xs[i]? =some (xs[i]'(by omega)):=List.getElem?_eq_getElem (by omega)
 have e2:=he i hi
 rw[hxi] at e2
 exact hd i (xs[i]'(by omega)).1 v (by rw[hx];simp[hxi]) hv' _ _ _ _ _ _ _ e2
theorem det_turns(W:World):Det W 297 Rows.laid_sawmill_poly_turns [.int .i64 1,.int .i64 0,.int .i64 0,.int .i64 1,.int .i64 (-1),.int .i64 0,.int .i64 0,.int .i64 (-1)]:=by
 refine det_arr (n:=4) (c:=2) (e:=81) (vss:=[[.int .i64 1,.int .i64 0],[.int .i64 0,.int .i64 1],[.int .i64 (-1),.int .i64 0],[.int .i64 0,.int .i64 (-1)]]) Tryz.underlying297 (by kernel_rfl) (by kernel_rfl) rfl (by simp) (fun i d v h1 h2=>?_)
 have hp:∀a b:Int,Det W 81 (.agg [.lit (.int .i64 a),.lit (.int .i64 b)]) [.int .i64 a,.int .i64 b]:=fun a b=>det_struct2 Tryz.underlying81 ⟨rfl,rfl⟩ ⟨by kernel_rfl,by kernel_rfl,by kernel_rfl⟩ (det_int Tryz.underlying3) (det_int Tryz.underlying3)
 match i,h1,h2 with
 |0,h1,h2=>cases h1;cases h2;exact hp _ _
 |1,h1,h2=>cases h1;cases h2;exact hp _ _
 |2,h1,h2=>cases h1;cases h2;exact hp _ _
 |3,h1,h2=>cases h1;cases h2;exact hp _ _
theorem det_dirs(W:World):Det W 276 Rows.laid_sawmill_ring_directions [.int .i64 (-1),.int .i64 1]:=by
 refine det_arr (n:=2) (c:=1) (e:=3) (vss:=[[.int .i64 (-1)],[.int .i64 1]]) Tryz.underlying276 (by kernel_rfl) (by kernel_rfl) rfl (by simp) (fun i d v h1 h2=>?_)
 match i,h1,h2 with
 |0,h1,h2=>cases h1;cases h2;exact det_int Tryz.underlying3
 |1,h1,h2=>cases h1;cases h2;exact det_int Tryz.underlying3
theorem det_still(W:World):Det W 328 Rows.laid_sawmill_kiln_stillAir [.bool false,.bool false,.bool true,.bool false]:=by
 refine det_arr (n:=4) (c:=1) (e:=4) (vss:=[[.bool false],[.bool false],[.bool true],[.bool false]]) Tryz.underlying328 (by kernel_rfl) (by kernel_rfl) rfl (by simp) (fun i d v h1 h2=>?_)
 match i,h1,h2 with
 |0,h1,h2=>cases h1;cases h2;exact det_bool Tryz.underlying4
 |1,h1,h2=>cases h1;cases h2;exact det_bool Tryz.underlying4
 |2,h1,h2=>cases h1;cases h2;exact det_bool Tryz.underlying4
 |3,h1,h2=>cases h1;cases h2;exact det_bool Tryz.underlying4
theorem globs_of{W:World}(h:laidMetH Tryz.prog [("sawmill/poly.turns",Rows.laid_sawmill_poly_turns),("sawmill/ring.directions",Rows.laid_sawmill_ring_directions),("sawmill/kiln.stillAir",Rows.laid_sawmill_kiln_stillAir)] W):Globs gl W (fun _=>True) (fun _=>False):=by
 rw[MakeChecks.laidMetH_plain _ _ _ (by kernel_rfl)] at h
 obtain⟨_,⟨g0,t0,cs0,f0,p0,q0,hg0,ht0,hv0,hd0,⟨g1,t1,cs1,f1,p1,q1,hg1,ht1,hv1,hd1,⟨g2,t2,cs2,f2,p2,q2,hg2,ht2,hv2,hd2,_,_⟩,_⟩,_⟩,_,_⟩:=h
 obtain rfl:=Option.some.inj ((by kernel_rfl:Tryz.prog.globalNamed "sawmill/poly.turns" =some 0).symm.trans hg0)
 obtain rfl:=Option.some.inj ((by kernel_rfl:Tryz.prog.globalNamed "sawmill/ring.directions" =some 1).symm.trans hg1)
 obtain rfl:=Option.some.inj ((by kernel_rfl:Tryz.prog.globalNamed "sawmill/kiln.stillAir" =some 2).symm.trans hg2)
 obtain rfl:=Option.some.inj ((by kernel_rfl:(Tryz.prog.globals[0]?).map (·.type)=some 297).symm.trans ht0)
 have e0:=det_turns W _ _ _ _ _ _ _ hd0
 obtain rfl:=Option.some.inj ((by kernel_rfl:(Tryz.prog.globals[1]?).map (·.type)=some 276).symm.trans ht1)
 obtain rfl:=Option.some.inj ((by kernel_rfl:(Tryz.prog.globals[2]?).map (·.type)=some 328).symm.trans ht2)
 have e1:=det_dirs W _ _ _ _ _ _ _ hd1
 have e2:=det_still W _ _ _ _ _ _ _ hd2
 have b0:W.var? Tryz.prog "sawmill/poly.turns" =some cs0.toList.toArray:=by rw[hv0]
 have b1:W.var? Tryz.prog "sawmill/ring.directions" =some cs1.toList.toArray:=by rw[hv1]
 have b2:W.var? Tryz.prog "sawmill/kiln.stillAir" =some cs2.toList.toArray:=by rw[hv2]
 rw[e0] at b0
 rw[e1] at b1
 rw[e2] at b2
 intro g cs hg
 simp only[gl] at hg
 split at hg
 ·rename_i e;subst e;cases hg
  exact globAt_of hg0 b0 (by simp[Value.oneCell'])
 ·split at hg
  ·rename_i e;subst e;cases hg
   exact globAt_of hg1 b1 (by simp[Value.oneCell'])
  ·split at hg
   ·rename_i e;subst e;cases hg
    exact globAt_of hg2 b2 (by simp[Value.oneCell'])
   ·cases hg
end Go.Proofs.YtbdgblipbpadeaaGreatDoor
namespace Go.Proofs.YtbdgblipbpadeaaGreatDoor
open Go Go.Abs Go.ChangeShapes Go.WideShapes Go.ChangeAt Go.RowKit
set_option maxRecDepth 100000
set_option linter.unusedSimpArgs false
set_option linter.unusedVariables false
theorem topLocal_own : ownKnob Tryz.prog.godebug = none := by kernel_rfl
theorem topLocal_closed : okS Tryz.prog [32, 25, 22, 79, 3, 77, 83, 81, 4, 23, 53, 51, 34, 26, 125, 9, 40, 28, 30, 49, 39, 36, 37, 177, 42, 45, 43, 154, 46, 142, 47, 134, 132, 130] = true := by kernel_rfl
theorem topLocal_types : ∀ t ∈ Tryz.f3.params.toList, t ∈ [32, 25, 22, 79, 3, 77, 83, 81, 4, 23, 53, 51, 34, 26, 125, 9, 40, 28, 30, 49, 39, 36, 37, 177, 42, 45, 43, 154, 46, 142, 47, 134, 132, 130] ∧ Tryz.prog.readableRec t = true ∧ t < Tryz.prog.types.size := by
  have e : Tryz.f3.params.toList = [32, 49, 53] := rfl
  rw [e]
  intro t ht
  simp at ht
  rcases ht with rfl | rfl | rfl
  · exact ⟨by simp, by kernel_rfl, by decide +kernel⟩
  · exact ⟨by simp, by kernel_rfl, by decide +kernel⟩
  · exact ⟨by simp, by kernel_rfl, by decide +kernel⟩
theorem topLocal_lifted (os : Os) (started : os.Started) (H : Type) (enc : TypeId × Value → H) :
    ReturnsInHanded {} Tryz.checked os 3 .any (fun w args => (Rows.topLocalSpec.pre enc Tryz.prog Tryz.f3 [] false w args ∧ laidMetH Tryz.prog [("sawmill/poly.turns", Rows.laid_sawmill_poly_turns), ("sawmill/ring.directions", Rows.laid_sawmill_ring_directions), ("sawmill/kiln.stillAir", Rows.laid_sawmill_kiln_stillAir)] w) ∧ sizedMet enc Tryz.prog Tryz.f3 (OpenSpec.ofChange Rows.topLocalSpec) false w args)
      (Rows.topLocalSpec.post enc Tryz.prog Tryz.f3 false true false false) := by
  refine returnsInHanded_of_change_and (C := Tryz.checked) (X := fun w _ => laidMetH Tryz.prog [("sawmill/poly.turns", Rows.laid_sawmill_poly_turns), ("sawmill/ring.directions", Rows.laid_sawmill_ring_directions), ("sawmill/kiln.stillAir", Rows.laid_sawmill_kiln_stillAir)] w) (fun _ _ _ hh h => h.of_heap hh) topLocal_own started (by kernel_rfl) Tryz.func3
    (ChangeSpec.witness_shaped (enc := enc) (C := Tryz.checked) (os := os) (X := fun w _ => laidMetH Tryz.prog [("sawmill/poly.turns", Rows.laid_sawmill_poly_turns), ("sawmill/ring.directions", Rows.laid_sawmill_ring_directions), ("sawmill/kiln.stillAir", Rows.laid_sawmill_kiln_stillAir)] w) false (World.doorLaid Tryz.prog 400 os) #[.agg #[.slice none 0 0, .slice none 0 0, .slice none 0 0, .int .i64 0, .int .i64 0, .int .i64 0, .int .i64 0, .int .i64 0, .int .i64 0, .int .i64 0, .int .i64 0, .int .i64 0], .agg #[.int .i64 0, .int .i64 0, .int .i64 0, .int .i64 0, .int .i64 0, .slice none 0 0, .slice none 0 0, .string ByteArray.empty, .int .i64 0, .int .i64 0, .int .i64 0, .int .i64 0, .int .i64 0, .int .i64 0, .int .i64 0, .int .i64 0, .int .i64 0, .int .i64 0, .int .i64 0, .int .i64 0, .string ByteArray.empty, .int .i64 0, .slice none 0 0, .slice none 0 0, .int .i64 0, .slice none 0 0], .agg #[.int .i64 0, .int .i64 0, .int .i64 0, .int .i64 0, .int .i64 0, .int .i64 0, .int .i64 0]] 8 rfl (World.shaped_of_RefB (by kernel_rfl) (by kernel_rfl)) (by kernel_rfl) (by kernel_rfl) (by kernel_rfl) (door_met os _)) ?_
  intro W base args ds gs before hval0 hW _ _ hL _
  exact law_calls laid topLocal_closed topLocal_types Tryz.underlying4 rfl rfl (globs_of hL) topLocal_abs hval0 hW (fun l hl => by
    match l, hl with
    | [d1, d2, d3], _ => rfl)
theorem topLocal_andI {a b : Bool} (h : a = true) (k : b = true) : (a && b) = true := by rw [h, k]; rfl
set_option maxHeartbeats 40000000 in
theorem topLocal_joined : joinedFacts Tryz.checked.prog 3 Tryz.f3 Rows.topLocalSpec Rows.topLocalRow = true := by
  unfold joinedFacts
  repeat' (with_reducible refine topLocal_andI ?_ ?_)
  all_goals as_aux_lemma => kernel_rfl
theorem topLocal_row : Rows.TopLocalSaid :=
  OpenClaim.holds_of_wide 3 Tryz.f3 rfl rfl rfl rfl rfl rfl rfl ⟨rfl, rfl, rfl, rfl, rfl⟩ rfl rfl rfl rfl rfl (by kernel_rfl) Tryz.func3 topLocal_joined
    (of_decide_eq_true (by kernel_rfl)) (by unfold Func.isWrapper; first | (rw [if_pos (by decide +kernel)]; kernel_rfl) | (rw [if_neg (by decide +kernel)]; exact ⟨rfl, rfl⟩))
    (fun os started H enc _ => topLocal_lifted os started H enc)
theorem topLocal_holds : Rows.TopLocalCardSaid :=
  Claim7.holds_tied_plain_at .later [] [.data, .data, .data] true (true, "c487e2e5f9b3181daa0fe027d6f2577a6e316769654e704e4f3c58e06a040769") false
    topLocal_row (fun _ h => by cases h) (by kernel_rfl) (fun _ h => by cases h) topLocal_row_tie rfl ⟨rfl, rfl⟩ (by kernel_rfl) rfl
    (fun f fn hf hfn => by
      obtain rfl : f = 3 := Option.some.inj ((show Tryz.prog.funcNamed "sawmill/sawmilltop.TopLocal" = some 3 by kernel_rfl).symm.trans hf) |>.symm
      obtain rfl : fn = Tryz.f3 := (Option.some.inj (Tryz.func3.symm.trans hfn)).symm
      exact ⟨by kernel_rfl, fun j t ht => by
        have hp : Tryz.f3.params = #[32, 49, 53] := rfl
        rw [hp] at ht
        have hm : t ∈ [32, 49, 53] := by simpa using Array.mem_of_getElem? ht
        have hall : ([32, 49, 53].all fun u => !Tryz.prog.wantsStandIn u) = true := by kernel_rfl
        exact (show Tryz.prog.wantsStandIn t = false by simpa using List.all_eq_true.1 hall t hm)⟩)
    (by kernel_rfl)
#print axioms topLocal_holds
end Go.Proofs.YtbdgblipbpadeaaGreatDoor
