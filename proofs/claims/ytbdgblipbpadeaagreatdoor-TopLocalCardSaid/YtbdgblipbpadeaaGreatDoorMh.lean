/-
  Printed by gen2.py for this seat: more of the functions.
-/
import Derived.Test.YtbdgblipbpadeaaGreatDoorMg
set_option linter.unusedSimpArgs false
set_option linter.unusedVariables false
set_option linter.defProp false
namespace Go.Proofs.YtbdgblipbpadeaaGreatDoor
open Go Go.Abs
set_option maxRecDepth 100000
noncomputable def q39:Pk:=⟨⟨[2,3,4],[],[],[],[],some [4],[],[],cr,[],[]⟩,[],[],17,Tryz.f39,[.cell 4 122]⟩
@[simp] def s39:=pkS (q39.eq_1)
attribute [simp] Tryz.f39
noncomputable def F_top_given:FD:=zfp q39
theorem F_top_given_eq(ds:List D):F_top_given ds=zgp q39 ds:=FP_eq (by kernel_rfl) ds
theorem C_top_given:C_ 39 F_top_given:=CP mix Tryz.func39 rfl rfl (by kernel_rfl) trivial trivial
noncomputable def q98:Pk:=⟨⟨[1,2,3,4,5,6,7],[16,34,50],[],[(3,[1,3,4,5]),(7,[1,3,4,6])],[(0,[1,3,4]),(1,[1,3,4,5]),(2,[1,3,4]),(3,[1,3,4,6])],some [2],[],[],cr,[],[]⟩,[],[],73,Tryz.f98,[.tmp 2]⟩
@[simp] def s98:=pkS (q98.eq_1)
attribute [simp] Tryz.f98
noncomputable def L_law22_Work:LD:=zlp q98
noncomputable def R_law22_Work:RD:=zrp q98
@[simp] theorem l98:LP Tryz.prog gl q98=L_law22_Work:=rfl
theorem L_law22_Work_succ(i n:Nat)(s:St):L_law22_Work i (n+1) s=andThen (R_law22_Work i s) (zhp q98 n i):=LP_succ (by kernel_rfl) i n s
theorem R_law22_Work_eq(i:Nat)(s:St):R_law22_Work i s=zsp q98 i s:=rfl
noncomputable def F_law22_Work:FD:=zfp q98
theorem F_law22_Work_eq(ds:List D):F_law22_Work ds=zgp q98 ds:=FP_eq (by kernel_rfl) ds
theorem C_law22_Work:C_ 98 F_law22_Work:=CP mix Tryz.func98 rfl rfl (by kernel_rfl) trivial trivial
noncomputable def q38:Pk:=⟨⟨[1,2,3,4],[32,37,48,53,83],[],[(4,[1,3]),(9,[1,4])],[(0,[1]),(1,[1,3]),(2,[]),(3,[1,4])],some [2],[],[],cr,[],[]⟩,[(98,F_law22_Work)],[],84,Tryz.f38,[.tmp 2]⟩
@[simp] def s38:=pkS (q38.eq_1)
attribute [simp] Tryz.f38
noncomputable def L_law22_Small:LD:=zlp q38
noncomputable def R_law22_Small:RD:=zrp q38
@[simp] theorem l38:LP Tryz.prog gl q38=L_law22_Small:=rfl
theorem L_law22_Small_succ(i n:Nat)(s:St):L_law22_Small i (n+1) s=andThen (R_law22_Small i s) (zhp q38 n i):=LP_succ (by kernel_rfl) i n s
theorem R_law22_Small_eq(i:Nat)(s:St):R_law22_Small i s=zsp q38 i s:=rfl
noncomputable def F_law22_Small:FD:=zfp q38
theorem F_law22_Small_eq(ds:List D):F_law22_Small ds=zgp q38 ds:=FP_eq (by kernel_rfl) ds
theorem C_law22_Small:C_ 38 F_law22_Small:=CP mix Tryz.func38 rfl rfl (by kernel_rfl) ⟨C_law22_Work,trivial⟩ trivial
noncomputable def q163:Pk:=⟨⟨[2],[],[],[],[],some [2],[],[],cr,[],[]⟩,[],[],9,Tryz.f163,[.tmp 2]⟩
attribute [simp] Tryz.f163
noncomputable def F_ref10_beyond:FD:=zfp q163
theorem C_ref10_beyond:C_ 163 F_ref10_beyond:=CP mix Tryz.func163 rfl rfl (by kernel_rfl) trivial trivial
noncomputable def q164:Pk:=⟨⟨[1,2],[],[],[],[],some [2],[],[],cr,[],[]⟩,[],[],8,Tryz.f164,[.tmp 2]⟩
attribute [simp] Tryz.f164
noncomputable def F_ref10_empty:FD:=zfp q164
theorem C_ref10_empty:C_ 164 F_ref10_empty:=CP mix Tryz.func164 rfl rfl (by kernel_rfl) trivial trivial
noncomputable def q99:Pk:=⟨⟨[1,2,3,4,5],[10,20,23,41,43,46,60,63,80],[],[(7,[1,3,4]),(18,[1,3,5])],[(0,[1,3]),(1,[1,3,4]),(2,[]),(3,[1,3,5])],some [2],[],[],cr,[],[]⟩,[(163,F_ref10_beyond),(164,F_ref10_empty)],[],81,Tryz.f99,[.tmp 2]⟩
attribute [simp] Tryz.f99
noncomputable def L_ref10_Check:LD:=zlp q99
@[simp] theorem l99:LP Tryz.prog gl q99=L_ref10_Check:=rfl
noncomputable def F_ref10_Check:FD:=zfp q99
theorem C_ref10_Check:C_ 99 F_ref10_Check:=CP mix Tryz.func99 rfl rfl (by kernel_rfl) ⟨C_ref10_beyond,C_ref10_empty,trivial⟩ trivial
noncomputable def q40:Pk:=⟨⟨[0,2,3,4,5],[8,11,15,25,34,50],[],[(7,[0,3,4])],[(0,[]),(1,[0,3,4])],some [2],[],[],cr,[],[]⟩,[(99,F_ref10_Check)],[],58,Tryz.f40,[.tmp 2]⟩
@[simp] def s40:=pkS (q40.eq_1)
attribute [simp] Tryz.f40
noncomputable def L_ref11_Check:LD:=zlp q40
@[simp] theorem l40:LP Tryz.prog gl q40=L_ref11_Check:=rfl
noncomputable def F_ref11_Check:FD:=zfp q40
theorem F_ref11_Check_eq(ds:List D):F_ref11_Check ds=zgp q40 ds:=FP_eq (by kernel_rfl) ds
theorem C_ref11_Check:C_ 40 F_ref11_Check:=CP mix Tryz.func40 rfl rfl (by kernel_rfl) ⟨C_ref10_Check,trivial⟩ trivial
noncomputable def q165:Pk:=⟨⟨[1,2],[5],[],[],[],some [2],[],[],cr,[],[]⟩,[(99,F_ref10_Check)],[],8,Tryz.f165,[.cell 2 137]⟩
attribute [simp] Tryz.f165
noncomputable def F_ref10_Valid:FD:=zfp q165
theorem C_ref10_Valid:C_ 165 F_ref10_Valid:=CP mix Tryz.func165 rfl rfl (by kernel_rfl) ⟨C_ref10_Check,trivial⟩ trivial
noncomputable def q100:Pk:=⟨⟨[1,2,3,4],[10,20,29],[],[(6,[1,2,3,4])],[(0,[1,2,3]),(1,[1,2,3,4])],some [2],[(9,18)],[],cr,[],[]⟩,[(164,F_ref10_empty),(165,F_ref10_Valid)],[],62,Tryz.f100,[.cell 2 36]⟩
attribute [simp] Tryz.f100
noncomputable def L_ref10_Bounds:LD:=zlp q100
@[simp] theorem l100:LP Tryz.prog gl q100=L_ref10_Bounds:=rfl
noncomputable def F_ref10_Bounds:FD:=zfp q100
theorem C_ref10_Bounds:C_ 100 F_ref10_Bounds:=CP mix Tryz.func100 rfl rfl (by kernel_rfl) ⟨C_ref10_empty,C_ref10_Valid,trivial⟩ trivial
noncomputable def q41:Pk:=⟨⟨[0,2,3,4,5],[8,18],[],[(5,[0,2,3,4])],[(0,[2,3]),(1,[0,2,3,4])],some [2],[],[],cr,[],[]⟩,[(40,F_ref11_Check),(100,F_ref10_Bounds)],[],60,Tryz.f41,[.cell 2 36]⟩
attribute [simp] Tryz.f41
noncomputable def L_ref11_Bounds:LD:=zlp q41
@[simp] theorem l41:LP Tryz.prog gl q41=L_ref11_Bounds:=rfl
noncomputable def F_ref11_Bounds:FD:=zfp q41
theorem C_ref11_Bounds:C_ 41 F_ref11_Bounds:=CP mix Tryz.func41 rfl rfl (by kernel_rfl) ⟨C_ref11_Check,C_ref10_Bounds,trivial⟩ trivial
noncomputable def q42:Pk:=⟨⟨[0,2,3,4],[7,11],[],[(5,[0,3,4])],[(0,[3]),(1,[0,3,4])],some [2],[],[],cr,[],[]⟩,[(40,F_ref11_Check)],[],22,Tryz.f42,[.tmp 2]⟩
attribute [simp] Tryz.f42
noncomputable def L_ref11_Length:LD:=zlp q42
@[simp] theorem l42:LP Tryz.prog gl q42=L_ref11_Length:=rfl
noncomputable def F_ref11_Length:FD:=zfp q42
theorem C_ref11_Length:C_ 42 F_ref11_Length:=CP mix Tryz.func42 rfl rfl (by kernel_rfl) ⟨C_ref11_Check,trivial⟩ trivial
noncomputable def q13:Pk:=⟨⟨[1,2,3,4],[45,50,60,64],[],[(4,[1,3])],[(0,[1]),(1,[1,3])],some [2],[],[],cr,[],[]⟩,[(38,F_law22_Small),(39,F_top_given),(40,F_ref11_Check),(41,F_ref11_Bounds),(42,F_ref11_Length)],[],92,Tryz.f13,[.tmp 2]⟩
@[simp] def s13:=pkS (q13.eq_1)
attribute [simp] Tryz.f13
noncomputable def L_top_light:LD:=zlp q13
noncomputable def R_top_light:RD:=zrp q13
@[simp] theorem l13:LP Tryz.prog gl q13=L_top_light:=rfl
theorem L_top_light_succ(i n:Nat)(s:St):L_top_light i (n+1) s=andThen (R_top_light i s) (zhp q13 n i):=LP_succ (by kernel_rfl) i n s
theorem R_top_light_eq(i:Nat)(s:St):R_top_light i s=zsp q13 i s:=rfl
noncomputable def F_top_light:FD:=zfp q13
theorem F_top_light_eq(ds:List D):F_top_light ds=zgp q13 ds:=FP_eq (by kernel_rfl) ds
theorem C_top_light:C_ 13 F_top_light:=CP mix Tryz.func13 rfl rfl (by kernel_rfl) ⟨C_law22_Small,C_top_given,C_ref11_Check,C_ref11_Bounds,C_ref11_Length,trivial⟩ trivial
noncomputable def q4:Pk:=⟨⟨[1,2,3,4,5,6],[29,35,57,61,86],[],[(4,[1,3]),(10,[1,3,4,5])],[(0,[]),(1,[1,3]),(2,[1,3]),(3,[1,3,4,5])],some [2],[],[],cr,[],[]⟩,[(13,F_top_light)],[],87,Tryz.f4,[.tmp 2]⟩
@[simp] def s4:=pkS (q4.eq_1)
attribute [simp] Tryz.f4
noncomputable def L_top_small:LD:=zlp q4
noncomputable def R_top_small:RD:=zrp q4
@[simp] theorem l4:LP Tryz.prog gl q4=L_top_small:=rfl
theorem L_top_small_succ(i n:Nat)(s:St):L_top_small i (n+1) s=andThen (R_top_small i s) (zhp q4 n i):=LP_succ (by kernel_rfl) i n s
theorem R_top_small_eq(i:Nat)(s:St):R_top_small i s=zsp q4 i s:=rfl
noncomputable def F_top_small:FD:=zfp q4
theorem F_top_small_eq(ds:List D):F_top_small ds=zgp q4 ds:=FP_eq (by kernel_rfl) ds
theorem C_top_small:C_ 4 F_top_small:=CP mix Tryz.func4 rfl rfl (by kernel_rfl) ⟨C_top_light,trivial⟩ trivial
noncomputable def q5:Pk:=⟨⟨[1,2],[43],[],[],[],some [2],[],[],cr,[],[]⟩,[(14,F_law45_Small)],[],48,Tryz.f5,[.tmp 2]⟩
@[simp] def s5:=pkS (q5.eq_1)
attribute [simp] Tryz.f5
noncomputable def F_top_short:FD:=zfp q5
theorem F_top_short_eq(ds:List D):F_top_short ds=zgp q5 ds:=FP_eq (by kernel_rfl) ds
theorem C_top_short:C_ 5 F_top_short:=CP mix Tryz.func5 rfl rfl (by kernel_rfl) ⟨C_law45_Small,trivial⟩ trivial
noncomputable def q15:Pk:=⟨⟨[7,8,9,10],[17],[22],[(3,[2,7,9,10])],[(0,[9]),(1,[2,7,9,10])],some [8],[],[],[(115,0,208,2),(139,2,34,2)],[],[]⟩,[],[],30,Tryz.f15,[.tmp 8]⟩
@[simp] def s15:=pkS (q15.eq_1)
attribute [simp] Tryz.f15
noncomputable def L_law22_Block:LD:=zlp q15
noncomputable def R_law22_Block:RD:=zrp q15
@[simp] theorem l15:LP Tryz.prog gl q15=L_law22_Block:=rfl
theorem L_law22_Block_succ(i n:Nat)(s:St):L_law22_Block i (n+1) s=andThen (R_law22_Block i s) (zhp q15 n i):=LP_succ (by kernel_rfl) i n s
theorem R_law22_Block_eq(i:Nat)(s:St):R_law22_Block i s=zsp q15 i s:=rfl
noncomputable def F_law22_Block:FD:=zfp q15
theorem F_law22_Block_eq(ds:List D):F_law22_Block ds=zgp q15 ds:=FP_eq (by kernel_rfl) ds
theorem C_law22_Block:C_ 15 F_law22_Block:=CP mix Tryz.func15 rfl rfl (by kernel_rfl) trivial trivial
noncomputable def q16:Pk:=⟨⟨[0],[],[],[],[],some [0],[],[],cr,[],[]⟩,[],[],2,Tryz.f16,[.cell 0 42]⟩
@[simp] def s16:=pkS (q16.eq_1)
attribute [simp] Tryz.f16
noncomputable def F_top_pine:FD:=zfp q16
theorem F_top_pine_eq(ds:List D):F_top_pine ds=zgp q16 ds:=FP_eq (by kernel_rfl) ds
theorem C_top_pine:C_ 16 F_top_pine:=CP mix Tryz.func16 rfl rfl (by kernel_rfl) trivial trivial
noncomputable def q197:Pk:=⟨⟨[1,2],[],[],[],[],some [2],[],[],cr,[],[]⟩,[],[],17,Tryz.f197,[.tmp 2]⟩
@[simp] def s197:=pkS (q197.eq_1)
attribute [simp] Tryz.f197
noncomputable def F_section_inRange:FD:=zfp q197
theorem F_section_inRange_eq(ds:List D):F_section_inRange ds=zgp q197 ds:=FP_eq (by kernel_rfl) ds
theorem C_section_inRange:C_ 197 F_section_inRange:=CP mix Tryz.func197 rfl rfl (by kernel_rfl) trivial trivial
noncomputable def q186:Pk:=⟨⟨[1,2],[],[],[],[],some [2],[],[],cr,[],[]⟩,[],[],8,Tryz.f186,[.tmp 2]⟩
@[simp] def s186:=pkS (q186.eq_1)
attribute [simp] Tryz.f186
noncomputable def F_section_isEmpty:FD:=zfp q186
theorem F_section_isEmpty_eq(ds:List D):F_section_isEmpty ds=zgp q186 ds:=FP_eq (by kernel_rfl) ds
theorem C_section_isEmpty:C_ 186 F_section_isEmpty:=CP mix Tryz.func186 rfl rfl (by kernel_rfl) trivial trivial
noncomputable def q140:Pk:=⟨⟨[1,2,3,5,7,24,25,26,54,55,56],[12,22,27,32,35,38,52,57,66],[],[(7,[1,3,24,25,26]),(19,[54,55,56])],[(0,[1,3]),(1,[1,3,24,25,26]),(2,[]),(3,[54,55,56])],some [2],[],[],cr,[],[]⟩,[(186,F_section_isEmpty),(197,F_section_inRange)],[],68,Tryz.f140,[.tmp 2]⟩
@[simp] def s140:=pkS (q140.eq_1)
attribute [simp] Tryz.f140
noncomputable def L_section_Check:LD:=zlp q140
noncomputable def R_section_Check:RD:=zrp q140
@[simp] theorem l140:LP Tryz.prog gl q140=L_section_Check:=rfl
theorem L_section_Check_succ(i n:Nat)(s:St):L_section_Check i (n+1) s=andThen (R_section_Check i s) (zhp q140 n i):=LP_succ (by kernel_rfl) i n s
theorem R_section_Check_eq(i:Nat)(s:St):R_section_Check i s=zsp q140 i s:=rfl
noncomputable def F_section_Check:FD:=zfp q140
theorem F_section_Check_eq(ds:List D):F_section_Check ds=zgp q140 ds:=FP_eq (by kernel_rfl) ds
theorem C_section_Check:C_ 140 F_section_Check:=CP mix Tryz.func140 rfl rfl (by kernel_rfl) ⟨C_section_isEmpty,C_section_inRange,trivial⟩ trivial
noncomputable def q76:Pk:=⟨⟨[0,2,3,5,6,13,14,15],[9,12,16,23,29,39],[],[(7,[3,13,14,15])],[(0,[]),(1,[3,13,14,15])],some [2],[],[],cr,[],[]⟩,[(140,F_section_Check)],[],45,Tryz.f76,[.tmp 2]⟩
@[simp] def s76:=pkS (q76.eq_1)
attribute [simp] Tryz.f76
noncomputable def L_solid_Check:LD:=zlp q76
noncomputable def R_solid_Check:RD:=zrp q76
@[simp] theorem l76:LP Tryz.prog gl q76=L_solid_Check:=rfl
theorem L_solid_Check_succ(i n:Nat)(s:St):L_solid_Check i (n+1) s=andThen (R_solid_Check i s) (zhp q76 n i):=LP_succ (by kernel_rfl) i n s
theorem R_solid_Check_eq(i:Nat)(s:St):R_solid_Check i s=zsp q76 i s:=rfl
noncomputable def F_solid_Check:FD:=zfp q76
theorem F_solid_Check_eq(ds:List D):F_solid_Check ds=zgp q76 ds:=FP_eq (by kernel_rfl) ds
theorem C_solid_Check:C_ 76 F_solid_Check:=CP mix Tryz.func76 rfl rfl (by kernel_rfl) ⟨C_section_Check,trivial⟩ trivial
noncomputable def q67:Pk:=⟨⟨[0,2],[5],[],[],[],some [2],[],[],cr,[],[]⟩,[(76,F_solid_Check)],[],7,Tryz.f67,[.tmp 2]⟩
@[simp] def s67:=pkS (q67.eq_1)
attribute [simp] Tryz.f67
noncomputable def F_solid_valid:FD:=zfp q67
theorem F_solid_valid_eq(ds:List D):F_solid_valid ds=zgp q67 ds:=FP_eq (by kernel_rfl) ds
theorem C_solid_valid:C_ 67 F_solid_valid:=CP mix Tryz.func67 rfl rfl (by kernel_rfl) ⟨C_solid_Check,trivial⟩ trivial
noncomputable def q68:Pk:=⟨⟨[0,2,3,4,5,6,10,11,12],[13],[3],[(4,[3,4,10,11,12])],[(0,[3]),(1,[3,4,10,11,12])],some [2],[],[],cr,[],[]⟩,[],[],32,Tryz.f68,[.tmp 2]⟩
@[simp] def s68:=pkS (q68.eq_1)
attribute [simp] Tryz.f68
noncomputable def L_solid_extents:LD:=zlp q68
noncomputable def R_solid_extents:RD:=zrp q68
@[simp] theorem l68:LP Tryz.prog gl q68=L_solid_extents:=rfl
theorem L_solid_extents_succ(i n:Nat)(s:St):L_solid_extents i (n+1) s=andThen (R_solid_extents i s) (zhp q68 n i):=LP_succ (by kernel_rfl) i n s
theorem R_solid_extents_eq(i:Nat)(s:St):R_solid_extents i s=zsp q68 i s:=rfl
noncomputable def F_solid_extents:FD:=zfp q68
theorem F_solid_extents_eq(ds:List D):F_solid_extents ds=zgp q68 ds:=FP_eq (by kernel_rfl) ds
theorem C_solid_extents:C_ 68 F_solid_extents:=CP mix Tryz.func68 rfl rfl (by kernel_rfl) trivial trivial
noncomputable def q121:Pk:=⟨⟨[1,2],[5],[],[],[],some [2],[],[],cr,[],[]⟩,[(140,F_section_Check)],[],8,Tryz.f121,[.cell 2 137]⟩
@[simp] def s121:=pkS (q121.eq_1)
attribute [simp] Tryz.f121
noncomputable def F_section_valid:FD:=zfp q121
theorem F_section_valid_eq(ds:List D):F_section_valid ds=zgp q121 ds:=FP_eq (by kernel_rfl) ds
theorem C_section_valid:C_ 121 F_section_valid:=CP mix Tryz.func121 rfl rfl (by kernel_rfl) ⟨C_section_Check,trivial⟩ trivial
noncomputable def q137:Pk:=⟨⟨[4],[],[],[],[],some [4],[],[],cr,[],[]⟩,[],[],10,Tryz.f137,[.cell 4 34]⟩
@[simp] def s137:=pkS (q137.eq_1)
attribute [simp] Tryz.f137
noncomputable def F_section_heights:FD:=zfp q137
theorem F_section_heights_eq(ds:List D):F_section_heights ds=zgp q137 ds:=FP_eq (by kernel_rfl) ds
theorem C_section_heights:C_ 137 F_section_heights:=CP mix Tryz.func137 rfl rfl (by kernel_rfl) trivial trivial
noncomputable def q71:Pk:=⟨⟨[2,3,4,5,6,7,8,12,13,14],[15],[],[(4,[2,3,5,12,13,14])],[(0,[5]),(1,[2,3,5,12,13,14])],some [4],[(7,12)],[],cr,[],[]⟩,[(69,F_span_Len),(70,F_span_Meet),(121,F_section_valid),(137,F_section_heights)],[],44,Tryz.f71,[.tmp 4]⟩
@[simp] def s71:=pkS (q71.eq_1)
attribute [simp] Tryz.f71
noncomputable def L_section_Within:LD:=zlp q71
noncomputable def R_section_Within:RD:=zrp q71
@[simp] theorem l71:LP Tryz.prog gl q71=L_section_Within:=rfl
theorem L_section_Within_succ(i n:Nat)(s:St):L_section_Within i (n+1) s=andThen (R_section_Within i s) (zhp q71 n i):=LP_succ (by kernel_rfl) i n s
theorem R_section_Within_eq(i:Nat)(s:St):R_section_Within i s=zsp q71 i s:=rfl
noncomputable def F_section_Within:FD:=zfp q71
theorem F_section_Within_eq(ds:List D):F_section_Within ds=zgp q71 ds:=FP_eq (by kernel_rfl) ds
theorem C_section_Within:C_ 71 F_section_Within:=CP mix Tryz.func71 rfl rfl (by kernel_rfl) ⟨C_span_Len,C_span_Meet,C_section_valid,C_section_heights,trivial⟩ trivial
noncomputable def q30:Pk:=⟨⟨[0,3,4,5,6,7,8,12,13,14],[15,25],[],[(4,[0,3,5,12,13,14])],[(0,[5]),(1,[0,3,5,12,13,14])],some [4],[(8,14)],[],cr,[],[]⟩,[(67,F_solid_valid),(68,F_solid_extents),(69,F_span_Len),(70,F_span_Meet),(71,F_section_Within)],[],43,Tryz.f30,[.tmp 4]⟩
@[simp] def s30:=pkS (q30.eq_1)
attribute [simp] Tryz.f30
noncomputable def L_solid_Within:LD:=zlp q30
noncomputable def R_solid_Within:RD:=zrp q30
@[simp] theorem l30:LP Tryz.prog gl q30=L_solid_Within:=rfl
theorem L_solid_Within_succ(i n:Nat)(s:St):L_solid_Within i (n+1) s=andThen (R_solid_Within i s) (zhp q30 n i):=LP_succ (by kernel_rfl) i n s
theorem R_solid_Within_eq(i:Nat)(s:St):R_solid_Within i s=zsp q30 i s:=rfl
noncomputable def F_solid_Within:FD:=zfp q30
theorem F_solid_Within_eq(ds:List D):F_solid_Within ds=zgp q30 ds:=FP_eq (by kernel_rfl) ds
theorem C_solid_Within:C_ 30 F_solid_Within:=CP mix Tryz.func30 rfl rfl (by kernel_rfl) ⟨C_solid_valid,C_solid_extents,C_span_Len,C_span_Meet,C_section_Within,trivial⟩ trivial
noncomputable def q74:Pk:=⟨⟨[2,3,4,5,6],[35],[],[],[],some [4,5],[(1,17)],[],cr,[],[]⟩,[(70,F_span_Meet),(139,F_defect_isEmpty)],[],38,Tryz.f74,[.cell 4 51,.tmp 5]⟩
@[simp] def s74:=pkS (q74.eq_1)
attribute [simp] Tryz.f74
noncomputable def F_defect_meet:FD:=zfp q74
theorem F_defect_meet_eq(ds:List D):F_defect_meet ds=zgp q74 ds:=FP_eq (by kernel_rfl) ds
theorem C_defect_meet:C_ 74 F_defect_meet:=CP mix Tryz.func74 rfl rfl (by kernel_rfl) ⟨C_span_Meet,C_defect_isEmpty,trivial⟩ trivial
noncomputable def q75:Pk:=⟨⟨[2,4],[],[],[],[],some [4],[],[],cr,[],[]⟩,[],[],14,Tryz.f75,[.cell 4 34]⟩
@[simp] def s75:=pkS (q75.eq_1)
attribute [simp] Tryz.f75
noncomputable def F_defect_back:FD:=zfp q75
theorem F_defect_back_eq(ds:List D):F_defect_back ds=zgp q75 ds:=FP_eq (by kernel_rfl) ds
theorem C_defect_back:C_ 75 F_defect_back:=CP mix Tryz.func75 rfl rfl (by kernel_rfl) trivial trivial
noncomputable def q31:Pk:=⟨⟨[0,3,4,6,7,9,10,11,12,22,23,30,31,32],[15,24,28,33,43],[7],[(4,[0,3,22,23]),(11,[3,7,30,31,32])],[(0,[0,3]),(1,[0,3,22,23]),(2,[7]),(3,[3,7,30,31,32])],some [4],[(15,20)],[],cr,[],[]⟩,[(72,F_defect_Check),(73,F_defect_inside),(74,F_defect_meet),(75,F_defect_back)],[],72,Tryz.f31,[.tmp 4]⟩
@[simp] def s31:=pkS (q31.eq_1)
attribute [simp] Tryz.f31
noncomputable def L_defect_Clip:LD:=zlp q31
noncomputable def R_defect_Clip:RD:=zrp q31
@[simp] theorem l31:LP Tryz.prog gl q31=L_defect_Clip:=rfl
theorem L_defect_Clip_succ(i n:Nat)(s:St):L_defect_Clip i (n+1) s=andThen (R_defect_Clip i s) (zhp q31 n i):=LP_succ (by kernel_rfl) i n s
theorem R_defect_Clip_eq(i:Nat)(s:St):R_defect_Clip i s=zsp q31 i s:=rfl
noncomputable def F_defect_Clip:FD:=zfp q31
theorem F_defect_Clip_eq(ds:List D):F_defect_Clip ds=zgp q31 ds:=FP_eq (by kernel_rfl) ds
theorem C_defect_Clip:C_ 31 F_defect_Clip:=CP mix Tryz.func31 rfl rfl (by kernel_rfl) ⟨C_defect_Check,C_defect_inside,C_defect_meet,C_defect_back,trivial⟩ trivial
noncomputable def q77:Pk:=⟨⟨[1,2,4,9,10],[11,27],[],[(2,[9,10])],[(0,[]),(1,[9,10])],some [2],[],[],cr,[],[]⟩,[],[],29,Tryz.f77,[.tmp 2]⟩
@[simp] def s77:=pkS (q77.eq_1)
attribute [simp] Tryz.f77
noncomputable def L_worth_isRect:LD:=zlp q77
noncomputable def R_worth_isRect:RD:=zrp q77
@[simp] theorem l77:LP Tryz.prog gl q77=L_worth_isRect:=rfl
theorem L_worth_isRect_succ(i n:Nat)(s:St):L_worth_isRect i (n+1) s=andThen (R_worth_isRect i s) (zhp q77 n i):=LP_succ (by kernel_rfl) i n s
theorem R_worth_isRect_eq(i:Nat)(s:St):R_worth_isRect i s=zsp q77 i s:=rfl
noncomputable def F_worth_isRect:FD:=zfp q77
theorem F_worth_isRect_eq(ds:List D):F_worth_isRect ds=zgp q77 ds:=FP_eq (by kernel_rfl) ds
theorem C_worth_isRect:C_ 77 F_worth_isRect:=CP mix Tryz.func77 rfl rfl (by kernel_rfl) trivial trivial
noncomputable def q63:Pk:=⟨⟨[2,3,5,7,8,9],[10],[],[(3,[3,7,8,9])],[(0,[3]),(1,[3,7,8,9])],some [2],[],[],cr,[],[]⟩,[(67,F_solid_valid)],[],19,Tryz.f63,[.tmp 2]⟩
@[simp] def s63:=pkS (q63.eq_1)
attribute [simp] Tryz.f63
noncomputable def L_solid_Length:LD:=zlp q63
noncomputable def R_solid_Length:RD:=zrp q63
@[simp] theorem l63:LP Tryz.prog gl q63=L_solid_Length:=rfl
theorem L_solid_Length_succ(i n:Nat)(s:St):L_solid_Length i (n+1) s=andThen (R_solid_Length i s) (zhp q63 n i):=LP_succ (by kernel_rfl) i n s
theorem R_solid_Length_eq(i:Nat)(s:St):R_solid_Length i s=zsp q63 i s:=rfl
noncomputable def F_solid_Length:FD:=zfp q63
theorem F_solid_Length_eq(ds:List D):F_solid_Length ds=zgp q63 ds:=FP_eq (by kernel_rfl) ds
theorem C_solid_Length:C_ 63 F_solid_Length:=CP mix Tryz.func63 rfl rfl (by kernel_rfl) ⟨C_solid_valid,trivial⟩ trivial
noncomputable def q78:Pk:=⟨⟨[2,4],[],[],[],[],some [4],[],[],cr,[],[]⟩,[],[],21,Tryz.f78,[.tmp 4]⟩
@[simp] def s78:=pkS (q78.eq_1)
attribute [simp] Tryz.f78
noncomputable def F_worth_isWithin:FD:=zfp q78
theorem F_worth_isWithin_eq(ds:List D):F_worth_isWithin ds=zgp q78 ds:=FP_eq (by kernel_rfl) ds
theorem C_worth_isWithin:C_ 78 F_worth_isWithin:=CP mix Tryz.func78 rfl rfl (by kernel_rfl) trivial trivial
noncomputable def q80:Pk:=⟨⟨[3,4,5,6,7,9,10,11,27,28,29],[30],[6],[(5,[3,5,6,7,27,28,29])],[(0,[6]),(1,[3,5,6,7,27,28,29])],some [4],[(9,11)],[],cr,[],[]⟩,[(71,F_section_Within)],[],61,Tryz.f80,[.tmp 4]⟩
@[simp] def s80:=pkS (q80.eq_1)
attribute [simp] Tryz.f80
noncomputable def L_worth_lacks:LD:=zlp q80
noncomputable def R_worth_lacks:RD:=zrp q80
@[simp] theorem l80:LP Tryz.prog gl q80=L_worth_lacks:=rfl
theorem L_worth_lacks_succ(i n:Nat)(s:St):L_worth_lacks i (n+1) s=andThen (R_worth_lacks i s) (zhp q80 n i):=LP_succ (by kernel_rfl) i n s
theorem R_worth_lacks_eq(i:Nat)(s:St):R_worth_lacks i s=zsp q80 i s:=rfl
noncomputable def F_worth_lacks:FD:=zfp q80
theorem F_worth_lacks_eq(ds:List D):F_worth_lacks ds=zgp q80 ds:=FP_eq (by kernel_rfl) ds
theorem C_worth_lacks:C_ 80 F_worth_lacks:=CP mix Tryz.func80 rfl rfl (by kernel_rfl) ⟨C_section_Within,trivial⟩ trivial
noncomputable def q79:Pk:=⟨⟨[3,4,5,7,8,9,10],[11,27],[],[(3,[3,5,8,9,10])],[(0,[5]),(1,[3,5,8,9,10])],some [4],[],[],cr,[],[]⟩,[],[],34,Tryz.f79,[.tmp 4]⟩
@[simp] def s79:=pkS (q79.eq_1)
attribute [simp] Tryz.f79
noncomputable def L_worth_worst:LD:=zlp q79
noncomputable def R_worth_worst:RD:=zrp q79
@[simp] theorem l79:LP Tryz.prog gl q79=L_worth_worst:=rfl
theorem L_worth_worst_succ(i n:Nat)(s:St):L_worth_worst i (n+1) s=andThen (R_worth_worst i s) (zhp q79 n i):=LP_succ (by kernel_rfl) i n s
theorem R_worth_worst_eq(i:Nat)(s:St):R_worth_worst i s=zsp q79 i s:=rfl
noncomputable def F_worth_worst:FD:=zfp q79
theorem F_worth_worst_eq(ds:List D):F_worth_worst ds=zgp q79 ds:=FP_eq (by kernel_rfl) ds
theorem C_worth_worst:C_ 79 F_worth_worst:=CP mix Tryz.func79 rfl rfl (by kernel_rfl) trivial trivial
noncomputable def q32:Pk:=⟨⟨[0,3,4,5],[26],[],[],[],some [4],[(2,13),(4,5)],[],cr,[],[]⟩,[(63,F_solid_Length),(76,F_solid_Check),(77,F_worth_isRect),(78,F_worth_isWithin),(79,F_worth_worst),(80,F_worth_lacks)],[],33,Tryz.f32,[.tmp 4]⟩
@[simp] def s32:=pkS (q32.eq_1)
attribute [simp] Tryz.f32
noncomputable def F_worth_Wane:FD:=zfp q32
theorem F_worth_Wane_eq(ds:List D):F_worth_Wane ds=zgp q32 ds:=FP_eq (by kernel_rfl) ds
theorem C_worth_Wane:C_ 32 F_worth_Wane:=CP mix Tryz.func32 rfl rfl (by kernel_rfl) ⟨C_solid_Length,C_solid_Check,C_worth_isRect,C_worth_isWithin,C_worth_worst,C_worth_lacks,trivial⟩ trivial
noncomputable def q10:Pk:=⟨⟨[9,13,14],[],[],[],[],some [14],[(1,20)],[],cr,[],[]⟩,[(30,F_solid_Within),(31,F_defect_Clip),(32,F_worth_Wane)],[],36,Tryz.f10,[.cell 14 68]⟩
@[simp] def s10:=pkS (q10.eq_1)
attribute [simp] Tryz.f10
noncomputable def F_board_New:FD:=zfp q10
theorem F_board_New_eq(ds:List D):F_board_New ds=zgp q10 ds:=FP_eq (by kernel_rfl) ds
theorem C_board_New:C_ 10 F_board_New:=CP mix Tryz.func10 rfl rfl (by kernel_rfl) ⟨C_solid_Within,C_defect_Clip,C_worth_Wane,trivial⟩ trivial
noncomputable def q18:Pk:=⟨⟨[0],[],[],[],[],some [0],[],[],cr,[],[]⟩,[],[],5,Tryz.f18,[.cell 0 45]⟩
@[simp] def s18:=pkS (q18.eq_1)
attribute [simp] Tryz.f18
noncomputable def F_top_soft:FD:=zfp q18
theorem F_top_soft_eq(ds:List D):F_top_soft ds=zgp q18 ds:=FP_eq (by kernel_rfl) ds
theorem C_top_soft:C_ 18 F_top_soft:=CP mix Tryz.func18 rfl rfl (by kernel_rfl) trivial trivial
noncomputable def EP_charge_Dry(hs:List (Nat×O))(ds:List D):Option (D×List (Nat×O)):=pureE F_charge_Dry hs ds
theorem EP_charge_Dry_eq(ds:List D):EP_charge_Dry [] ds=if ds.all okA=true then(F_charge_Dry ds).map (fun r=>(r,[])) else none:=Eq.trans rfl rfl
theorem CEP_charge_Dry(hs:List (Nat×O))(ds:List D)(r:D)(hs':List (Nat×O))(h:EP_charge_Dry hs ds=some (r,hs')):ContractE Tryz.prog gl 17 hs ds r hs':=pureE_ok C_charge_Dry hs ds r hs' h
noncomputable def q6:Pk:=⟨⟨[0,1,2,3,5,6,7,8],[33],[],[],[],some [0],[(3,0),(6,13)],[(17,false)],cr,[(3,(.dag [[[(0,0)],[(0,2)],[(0,9)]],[[(0,1)],[(0,2),(1,0)],[(0,9),(2,0)],[(1,3)],[(1,9),(2,2)]],[[(0,2),(1,1)],[(0,9),(2,1)],[(1,3),(3,0)],[(1,9),(2,2),(4,0)],[(3,9),(4,3)]],[[(0,3),(2,1)],[(0,9),(1,2),(3,1)],[(2,9),(3,3),(4,0)]],[[(0,4)],[(0,9),(1,3),(2,1)]],[[(0,5)],[(0,9),(1,4)]],[[(0,6)],[(0,7)],[(0,8)],[(0,9),(1,5)]],[[(0,7),(1,6)],[(0,8),(2,6)],[(0,9),(3,6)],[(1,8),(2,7)],[(1,9),(3,7)],[(2,9),(3,8)]],[[(0,8),(1,7),(3,6)],[(0,9),(2,7),(4,6)],[(1,9),(2,8),(5,6)],[(2,10)],[(3,9),(4,8),(5,7)]],[[(0,9),(1,8),(2,7),(4,6)],[(1,10),(3,7)],[(2,10),(3,8)]],[[(0,10),(1,8),(2,7)],[(1,11)]],[[(0,11),(1,8)]],[[(0,12)]]]))],[]⟩,[(10,F_board_New),(11,F_grading_Of),(15,F_law22_Block),(16,F_top_pine),(18,F_top_soft),(19,F_law45_Plank),(20,F_law45_Table)],[(17,EP_charge_Dry)],55,Tryz.f6,[.tmp 0]⟩
@[simp] def s6:=pkS (q6.eq_1)
attribute [simp] Tryz.f6
noncomputable def F_top_gradeAwake:FD:=zfp q6
theorem F_top_gradeAwake_eq(ds:List D):F_top_gradeAwake ds=zgp q6 ds:=FP_eq (by kernel_rfl) ds
theorem C_top_gradeAwake:C_ 6 F_top_gradeAwake:=CP mix Tryz.func6 rfl rfl (by kernel_rfl) ⟨C_board_New,C_grading_Of,C_law22_Block,C_top_pine,C_top_soft,C_law45_Plank,C_law45_Table,trivial⟩ ⟨CEP_charge_Dry,trivial⟩
noncomputable def q176:Pk:=⟨⟨[2],[],[],[],[],some [2],[],[],cr,[],[]⟩,[],[],9,Tryz.f176,[.tmp 2]⟩
@[simp] def s176:=pkS (q176.eq_1)
attribute [simp] Tryz.f176
noncomputable def F_ring_within:FD:=zfp q176
theorem F_ring_within_eq(ds:List D):F_ring_within ds=zgp q176 ds:=FP_eq (by kernel_rfl) ds
theorem C_ring_within:C_ 176 F_ring_within:=CP mix Tryz.func176 rfl rfl (by kernel_rfl) trivial trivial
noncomputable def q113:Pk:=⟨⟨[1,2,4,22,23,24],[8,12,20,25,43,52],[],[(8,[22,23,24])],[(0,[]),(1,[22,23,24])],some [2],[],[],cr,[],[]⟩,[(176,F_ring_within)],[],54,Tryz.f113,[.tmp 2]⟩
@[simp] def s113:=pkS (q113.eq_1)
attribute [simp] Tryz.f113
noncomputable def L_ring_Check:LD:=zlp q113
noncomputable def R_ring_Check:RD:=zrp q113
@[simp] theorem l113:LP Tryz.prog gl q113=L_ring_Check:=rfl
theorem L_ring_Check_succ(i n:Nat)(s:St):L_ring_Check i (n+1) s=andThen (R_ring_Check i s) (zhp q113 n i):=LP_succ (by kernel_rfl) i n s
theorem R_ring_Check_eq(i:Nat)(s:St):R_ring_Check i s=zsp q113 i s:=rfl
noncomputable def F_ring_Check:FD:=zfp q113
theorem F_ring_Check_eq(ds:List D):F_ring_Check ds=zgp q113 ds:=FP_eq (by kernel_rfl) ds
theorem C_ring_Check:C_ 113 F_ring_Check:=CP mix Tryz.func113 rfl rfl (by kernel_rfl) ⟨C_ring_within,trivial⟩ trivial
noncomputable def q53:Pk:=⟨⟨[1,2,3,4,5,6,7,9,19,20,21,81,82,83],[13,17,22,29,53,63,69,84,92],[],[(6,[1,19,20,21]),(21,[7,81,82,83])],[(0,[1]),(1,[1,19,20,21]),(2,[]),(3,[7,81,82,83])],some [2],[(11,20),(13,9)],[],cr,[],[]⟩,[(72,F_defect_Check),(113,F_ring_Check)],[],94,Tryz.f53,[.tmp 2]⟩
@[simp] def s53:=pkS (q53.eq_1)
attribute [simp] Tryz.f53
noncomputable def L_scan_Check:LD:=zlp q53
noncomputable def R_scan_Check:RD:=zrp q53
@[simp] theorem l53:LP Tryz.prog gl q53=L_scan_Check:=rfl
theorem L_scan_Check_succ(i n:Nat)(s:St):L_scan_Check i (n+1) s=andThen (R_scan_Check i s) (zhp q53 n i):=LP_succ (by kernel_rfl) i n s
theorem R_scan_Check_eq(i:Nat)(s:St):R_scan_Check i s=zsp q53 i s:=rfl
noncomputable def F_scan_Check:FD:=zfp q53
theorem F_scan_Check_eq(ds:List D):F_scan_Check ds=zgp q53 ds:=FP_eq (by kernel_rfl) ds
theorem C_scan_Check:C_ 53 F_scan_Check:=CP mix Tryz.func53 rfl rfl (by kernel_rfl) ⟨C_defect_Check,C_ring_Check,trivial⟩ trivial
noncomputable def q114:Pk:=⟨⟨[0,2],[4],[5],[],[],some [2],[],[],cr,[],[]⟩,[],[],8,Tryz.f114,[.tmp 2]⟩
@[simp] def s114:=pkS (q114.eq_1)
attribute [simp] Tryz.f114
noncomputable def F_slices_Clone_api_Ring_api_Ring:FD:=zfp q114
theorem F_slices_Clone_api_Ring_api_Ring_eq(ds:List D):F_slices_Clone_api_Ring_api_Ring ds=zgp q114 ds:=FP_eq (by kernel_rfl) ds
theorem C_slices_Clone_api_Ring_api_Ring:C_ 114 F_slices_Clone_api_Ring_api_Ring:=CP mix Tryz.func114 rfl rfl (by kernel_rfl) trivial trivial
noncomputable def NF_slices_Clone_api_Ring_api_Ring(ds:List D):Option D:=nilF F_slices_Clone_api_Ring_api_Ring (.own true []) ds
theorem NF_slices_Clone_api_Ring_api_Ring_sl(es:List (List D)):NF_slices_Clone_api_Ring_api_Ring [.sl es]=if es.length=0 then some (.own true []) else F_slices_Clone_api_Ring_api_Ring [.sl es]:=Eq.trans rfl rfl
theorem NC_slices_Clone_api_Ring_api_Ring:C_ 114 NF_slices_Clone_api_Ring_api_Ring:=fun ds r h=>nilF_ok C_slices_Clone_api_Ring_api_Ring (fun A c=>by rw[F_slices_Clone_api_Ring_api_Ring_eq];cases A<;>simp) ds r h
noncomputable def q114e:Pk:=⟨⟨[0,2],[4],[2,5],[],[],some [2],[],[],cr,[],[]⟩,[],[],8,Tryz.f114,[.tmp 2]⟩
@[simp] def s114e:=pkS (q114e.eq_1)
noncomputable def E_slices_Clone_api_Ring_api_Ring_obj:ED:=zep q114e
theorem E_slices_Clone_api_Ring_api_Ring_obj_eq(hs:List (Nat×O))(ds:List D):E_slices_Clone_api_Ring_api_Ring_obj hs ds=zge q114e hs ds:=EP_eq (by kernel_rfl) hs ds
theorem CE_slices_Clone_api_Ring_api_Ring_obj:CE_ 114 E_slices_Clone_api_Ring_api_Ring_obj:=CEP mix Tryz.func114 rfl rfl (by kernel_rfl) trivial trivial
noncomputable def NE_slices_Clone_api_Ring_api_Ring:ED:=nilE (.own true []) E_slices_Clone_api_Ring_api_Ring_obj
theorem NCE_slices_Clone_api_Ring_api_Ring:CE_ 114 NE_slices_Clone_api_Ring_api_Ring:=nilE_ok NC_slices_Clone_api_Ring_api_Ring (by rw[NF_slices_Clone_api_Ring_api_Ring_sl];simp) CE_slices_Clone_api_Ring_api_Ring_obj
noncomputable def q115:Pk:=⟨⟨[0,2],[4],[5],[],[],some [2],[],[],cr,[],[]⟩,[],[],8,Tryz.f115,[.tmp 2]⟩
@[simp] def s115:=pkS (q115.eq_1)
attribute [simp] Tryz.f115
noncomputable def F_slices_Clone_api_Reading_api_Reading:FD:=zfp q115
theorem F_slices_Clone_api_Reading_api_Reading_eq(ds:List D):F_slices_Clone_api_Reading_api_Reading ds=zgp q115 ds:=FP_eq (by kernel_rfl) ds
theorem C_slices_Clone_api_Reading_api_Reading:C_ 115 F_slices_Clone_api_Reading_api_Reading:=CP mix Tryz.func115 rfl rfl (by kernel_rfl) trivial trivial
noncomputable def NF_slices_Clone_api_Reading_api_Reading(ds:List D):Option D:=nilF F_slices_Clone_api_Reading_api_Reading (.own true []) ds
theorem NF_slices_Clone_api_Reading_api_Reading_sl(es:List (List D)):NF_slices_Clone_api_Reading_api_Reading [.sl es]=if es.length=0 then some (.own true []) else F_slices_Clone_api_Reading_api_Reading [.sl es]:=Eq.trans rfl rfl
theorem NC_slices_Clone_api_Reading_api_Reading:C_ 115 NF_slices_Clone_api_Reading_api_Reading:=fun ds r h=>nilF_ok C_slices_Clone_api_Reading_api_Reading (fun A c=>by rw[F_slices_Clone_api_Reading_api_Reading_eq];cases A<;>simp) ds r h
noncomputable def q115e:Pk:=⟨⟨[0,2],[4],[2,5],[],[],some [2],[],[],cr,[],[]⟩,[],[],8,Tryz.f115,[.tmp 2]⟩
@[simp] def s115e:=pkS (q115e.eq_1)
noncomputable def E_slices_Clone_api_Reading_api_Reading_obj:ED:=zep q115e
theorem E_slices_Clone_api_Reading_api_Reading_obj_eq(hs:List (Nat×O))(ds:List D):E_slices_Clone_api_Reading_api_Reading_obj hs ds=zge q115e hs ds:=EP_eq (by kernel_rfl) hs ds
theorem CE_slices_Clone_api_Reading_api_Reading_obj:CE_ 115 E_slices_Clone_api_Reading_api_Reading_obj:=CEP mix Tryz.func115 rfl rfl (by kernel_rfl) trivial trivial
noncomputable def NE_slices_Clone_api_Reading_api_Reading:ED:=nilE (.own true []) E_slices_Clone_api_Reading_api_Reading_obj
theorem NCE_slices_Clone_api_Reading_api_Reading:CE_ 115 NE_slices_Clone_api_Reading_api_Reading:=nilE_ok NC_slices_Clone_api_Reading_api_Reading (by rw[NF_slices_Clone_api_Reading_api_Reading_sl];simp) CE_slices_Clone_api_Reading_api_Reading_obj
noncomputable def q54:Pk:=⟨⟨[1,2,3,4,7,14,15],[16],[19],[(3,[2,3,14,15])],[(0,[2,3]),(1,[2,3,14,15])],some [2],[(1,0),(5,10)],[(114,false)],cr,[(1,(.dag [[[(0,0)],[(0,3)],[(0,7)]],[[(0,1)],[(0,3),(1,0)],[(0,7),(2,0)],[(1,4)],[(1,7),(2,3)]],[[(0,2)],[(0,3),(1,1)],[(0,7),(2,1)],[(1,4),(3,0)],[(1,7),(2,3),(4,0)],[(3,7),(4,4)]],[[(0,3),(1,2)],[(0,7),(2,2)],[(1,4),(3,1)],[(1,7),(2,3),(4,1)],[(3,7),(4,4),(5,0)]],[[(0,4),(2,2)],[(0,7),(1,3),(3,2)],[(2,7),(3,4),(4,1)]],[[(0,5)],[(0,7),(1,4),(2,2)]],[[(0,6)],[(0,7),(1,5)]],[[(0,7),(1,6)]],[[(0,8)]]]))],[]⟩,[(24,NF_slices_Clone_api_Defect_api_Defect),(115,NF_slices_Clone_api_Reading_api_Reading)],[(114,NE_slices_Clone_api_Ring_api_Ring)],32,Tryz.f54,[.cell 2 25]⟩
@[simp] def s54:=pkS (q54.eq_1)
attribute [simp] Tryz.f54
noncomputable def L_scan_clone:LD:=zlp q54
noncomputable def R_scan_clone:RD:=zrp q54
@[simp] theorem l54:LP Tryz.prog gl q54=L_scan_clone:=rfl
theorem L_scan_clone_succ(i n:Nat)(s:St):L_scan_clone i (n+1) s=andThen (R_scan_clone i s) (zhp q54 n i):=LP_succ (by kernel_rfl) i n s
theorem R_scan_clone_eq(i:Nat)(s:St):R_scan_clone i s=zsp q54 i s:=rfl
noncomputable def F_scan_clone:FD:=zfp q54
theorem F_scan_clone_eq(ds:List D):F_scan_clone ds=zgp q54 ds:=FP_eq (by kernel_rfl) ds
theorem C_scan_clone:C_ 54 F_scan_clone:=CP mix Tryz.func54 rfl rfl (by kernel_rfl) ⟨NC_slices_Clone_api_Defect_api_Defect,NC_slices_Clone_api_Reading_api_Reading,trivial⟩ ⟨NCE_slices_Clone_api_Ring_api_Ring,trivial⟩
noncomputable def q55:Pk:=⟨⟨[0,1,4,5,6,7,18,19,20,25,26],[10,21,27],[5],[(6,[1,5,18,19,20]),(9,[1,5,6,7,18,19,20,25,26])],[(0,[5]),(1,[1,5,18,19,20]),(2,[1,5,6,7,18,19,20]),(3,[1,5,6,7,18,19,20,25,26])],some [4],[],[],cr,[],[]⟩,[(72,F_defect_Check)],[],53,Tryz.f55,[.tmp 4]⟩
@[simp] def s55:=pkS (q55.eq_1)
attribute [simp] Tryz.f55
noncomputable def L_defect_Turn:LD:=zlp q55
noncomputable def R_defect_Turn:RD:=zrp q55
@[simp] theorem l55:LP Tryz.prog gl q55=L_defect_Turn:=rfl
theorem L_defect_Turn_succ(i n:Nat)(s:St):L_defect_Turn i (n+1) s=andThen (R_defect_Turn i s) (zhp q55 n i):=LP_succ (by kernel_rfl) i n s
theorem R_defect_Turn_eq(i:Nat)(s:St):R_defect_Turn i s=zsp q55 i s:=rfl
noncomputable def F_defect_Turn:FD:=zfp q55
theorem F_defect_Turn_eq(ds:List D):F_defect_Turn ds=zgp q55 ds:=FP_eq (by kernel_rfl) ds
theorem C_defect_Turn:C_ 55 F_defect_Turn:=CP mix Tryz.func55 rfl rfl (by kernel_rfl) ⟨C_defect_Check,trivial⟩ trivial
noncomputable def q116:Pk:=⟨⟨[1,2,7],[],[],[],[],some [2],[(1,0)],[(115,false)],cr,[(1,(.dag [[[(0,0)],[(0,2)]],[[(0,1)],[(0,2),(1,0)],[(1,3)]],[[(0,2),(1,1)],[(1,3),(2,0)],[(2,4)]],[[(0,3),(1,1)],[(1,4),(2,0)]],[[(0,4),(1,1)]],[[(0,5)]],[[(0,6)]]]))],[1000000]⟩,[],[(115,NE_slices_Clone_api_Reading_api_Reading)],9,Tryz.f116,[.cell 2 79]⟩
@[simp] def s116:=pkS (q116.eq_1)
attribute [simp] Tryz.f116
noncomputable def E_ring_clone:ED:=zep q116
theorem E_ring_clone_eq(hs:List (Nat×O))(ds:List D):E_ring_clone hs ds=zge q116 hs ds:=EP_eq (by kernel_rfl) hs ds
theorem CE_ring_clone:CE_ 116 E_ring_clone:=CEP mix Tryz.func116 rfl rfl (by kernel_rfl) trivial ⟨NCE_slices_Clone_api_Reading_api_Reading,trivial⟩
noncomputable def q177:Pk:=⟨⟨[2,4,5,6,7],[8,18],[],[(2,[5,6,7])],[(0,[]),(1,[5,6,7])],some [2],[],[],cr,[],[]⟩,[],[],20,Tryz.f177,[.tmp 2]⟩
@[simp] def s177:=pkS (q177.eq_1)
attribute [simp] Tryz.f177
noncomputable def L_poly_canTurn:LD:=zlp q177
noncomputable def R_poly_canTurn:RD:=zrp q177
@[simp] theorem l177:LP Tryz.prog gl q177=L_poly_canTurn:=rfl
theorem L_poly_canTurn_succ(i n:Nat)(s:St):L_poly_canTurn i (n+1) s=andThen (R_poly_canTurn i s) (zhp q177 n i):=LP_succ (by kernel_rfl) i n s
theorem R_poly_canTurn_eq(i:Nat)(s:St):R_poly_canTurn i s=zsp q177 i s:=rfl
noncomputable def F_poly_canTurn:FD:=zfp q177
theorem F_poly_canTurn_eq(ds:List D):F_poly_canTurn ds=zgp q177 ds:=FP_eq (by kernel_rfl) ds
theorem C_poly_canTurn:C_ 177 F_poly_canTurn:=CP mix Tryz.func177 rfl rfl (by kernel_rfl) trivial trivial
noncomputable def q117:Pk:=⟨⟨[0,4,5,6,7,8,21,22,23],[11,24],[6],[(6,[5,6,21,22,23])],[(0,[6]),(1,[5,6,21,22,23])],some [4],[],[],cr,[],[]⟩,[(177,F_poly_canTurn)],[],56,Tryz.f117,[.tmp 4]⟩
@[simp] def s117:=pkS (q117.eq_1)
attribute [simp] Tryz.f117
noncomputable def L_poly_Turn:LD:=zlp q117
noncomputable def R_poly_Turn:RD:=zrp q117
@[simp] theorem l117:LP Tryz.prog gl q117=L_poly_Turn:=rfl
theorem L_poly_Turn_succ(i n:Nat)(s:St):L_poly_Turn i (n+1) s=andThen (R_poly_Turn i s) (zhp q117 n i):=LP_succ (by kernel_rfl) i n s
theorem R_poly_Turn_eq(i:Nat)(s:St):R_poly_Turn i s=zsp q117 i s:=rfl
noncomputable def F_poly_Turn:FD:=zfp q117
theorem F_poly_Turn_eq(ds:List D):F_poly_Turn ds=zgp q117 ds:=FP_eq (by kernel_rfl) ds
theorem C_poly_Turn:C_ 117 F_poly_Turn:=CP mix Tryz.func117 rfl rfl (by kernel_rfl) ⟨C_poly_canTurn,trivial⟩ trivial
noncomputable def q56:Pk:=⟨⟨[2,4,5,6,7,8,9,10,12,22,23,24,37,38,39],[15,25,40],[6,45],[(6,[1,4,5,6,22,23,24]),(11,[4,5,37,38,39])],[(0,[1,4,5,6]),(1,[1,4,5,6,22,23,24]),(2,[4,5]),(3,[4,5,37,38,39])],some [4],[],[(116,false)],cr,[],[]⟩,[(113,F_ring_Check),(117,F_poly_Turn)],[(116,E_ring_clone)],52,Tryz.f56,[.cell 4 79]⟩
@[simp] def s56:=pkS (q56.eq_1)
attribute [simp] Tryz.f56
noncomputable def L_ring_Turn:LD:=zlp q56
noncomputable def R_ring_Turn:RD:=zrp q56
@[simp] theorem l56:LP Tryz.prog gl q56=L_ring_Turn:=rfl
theorem L_ring_Turn_succ(i n:Nat)(s:St):L_ring_Turn i (n+1) s=andThen (R_ring_Turn i s) (zhp q56 n i):=LP_succ (by kernel_rfl) i n s
theorem R_ring_Turn_eq(i:Nat)(s:St):R_ring_Turn i s=zsp q56 i s:=rfl
noncomputable def F_ring_Turn:FD:=zfp q56
theorem F_ring_Turn_eq(ds:List D):F_ring_Turn ds=zgp q56 ds:=FP_eq (by kernel_rfl) ds
theorem C_ring_Turn:C_ 56 F_ring_Turn:=CP mix Tryz.func56 rfl rfl (by kernel_rfl) ⟨C_ring_Check,C_poly_Turn,trivial⟩ ⟨CE_ring_clone,trivial⟩
noncomputable def q21:Pk:=⟨⟨[1,2,4,5,6,15,23,24],[9,25],[28],[(5,[1,2,4,5,23,24])],[(0,[4,5]),(1,[1,2,4,5,23,24])],some [4],[(3,10),(7,10)],[],cr,[],[]⟩,[(53,F_scan_Check),(54,F_scan_clone),(55,F_defect_Turn),(56,F_ring_Turn)],[],40,Tryz.f21,[.cell 4 25]⟩
@[simp] def s21:=pkS (q21.eq_1)
attribute [simp] Tryz.f21
noncomputable def L_scan_Turn:LD:=zlp q21
noncomputable def R_scan_Turn:RD:=zrp q21
@[simp] theorem l21:LP Tryz.prog gl q21=L_scan_Turn:=rfl
theorem L_scan_Turn_succ(i n:Nat)(s:St):L_scan_Turn i (n+1) s=andThen (R_scan_Turn i s) (zhp q21 n i):=LP_succ (by kernel_rfl) i n s
theorem R_scan_Turn_eq(i:Nat)(s:St):R_scan_Turn i s=zsp q21 i s:=rfl
noncomputable def F_scan_Turn:FD:=zfp q21
theorem F_scan_Turn_eq(ds:List D):F_scan_Turn ds=zgp q21 ds:=FP_eq (by kernel_rfl) ds
theorem C_scan_Turn:C_ 21 F_scan_Turn:=CP mix Tryz.func21 rfl rfl (by kernel_rfl) ⟨C_scan_Check,C_scan_clone,C_defect_Turn,C_ring_Turn,trivial⟩ trivial
noncomputable def q178:Pk:=⟨⟨[1,2,3,4,5,7,8,9],[10,15],[3],[(3,[3,7,8,9])],[(0,[3]),(1,[3,7,8,9])],some [2],[],[],cr,[],[]⟩,[],[],22,Tryz.f178,[.tmp 2]⟩
@[simp] def s178:=pkS (q178.eq_1)
attribute [simp] Tryz.f178
noncomputable def L_ring_measured:LD:=zlp q178
noncomputable def R_ring_measured:RD:=zrp q178
@[simp] theorem l178:LP Tryz.prog gl q178=L_ring_measured:=rfl
theorem L_ring_measured_succ(i n:Nat)(s:St):L_ring_measured i (n+1) s=andThen (R_ring_measured i s) (zhp q178 n i):=LP_succ (by kernel_rfl) i n s
theorem R_ring_measured_eq(i:Nat)(s:St):R_ring_measured i s=zsp q178 i s:=rfl
noncomputable def F_ring_measured:FD:=zfp q178
theorem F_ring_measured_eq(ds:List D):F_ring_measured ds=zgp q178 ds:=FP_eq (by kernel_rfl) ds
theorem C_ring_measured:C_ 178 F_ring_measured:=CP mix Tryz.func178 rfl rfl (by kernel_rfl) trivial trivial
noncomputable def q182:Pk:=⟨⟨[3,4,6],[],[],[],[],some [6],[],[],cr,[],[]⟩,[],[],35,Tryz.f182,[.tmp 6]⟩
@[simp] def s182:=pkS (q182.eq_1)
attribute [simp] Tryz.f182
noncomputable def F_ring_far:FD:=zfp q182
theorem F_ring_far_eq(ds:List D):F_ring_far ds=zgp q182 ds:=FP_eq (by kernel_rfl) ds
theorem C_ring_far:C_ 182 F_ring_far:=CP mix Tryz.func182 rfl rfl (by kernel_rfl) trivial trivial
noncomputable def q119:Pk:=⟨⟨[1,2,4,5,6,7,8,9,11,12,14,30,31,32,37,38],[28,33,39,71],[73],[(6,[1,2,4,5,6,30,31,32]),(10,[1,2,4,5,6,7,8,9,30,31,32,37,38])],[(0,[4,5]),(1,[1,2,4,5,6,30,31,32]),(2,[1,2,4,5,6,8,9,30,31,32]),(3,[1,2,4,5,6,7,8,9,30,31,32,37,38])],some [4],[(12,18),(13,10)],[(116,false)],cr,[],[]⟩,[(113,F_ring_Check),(178,F_ring_measured),(182,F_ring_far)],[(116,E_ring_clone)],79,Tryz.f119,[.cell 4 79]⟩
@[simp] def s119:=pkS (q119.eq_1)
attribute [simp] Tryz.f119
noncomputable def L_ring_Clean:LD:=zlp q119
noncomputable def R_ring_Clean:RD:=zrp q119
@[simp] theorem l119:LP Tryz.prog gl q119=L_ring_Clean:=rfl
theorem L_ring_Clean_succ(i n:Nat)(s:St):L_ring_Clean i (n+1) s=andThen (R_ring_Clean i s) (zhp q119 n i):=LP_succ (by kernel_rfl) i n s
theorem R_ring_Clean_eq(i:Nat)(s:St):R_ring_Clean i s=zsp q119 i s:=rfl
noncomputable def F_ring_Clean:FD:=zfp q119
theorem F_ring_Clean_eq(ds:List D):F_ring_Clean ds=zgp q119 ds:=FP_eq (by kernel_rfl) ds
theorem C_ring_Clean:C_ 119 F_ring_Clean:=CP mix Tryz.func119 rfl rfl (by kernel_rfl) ⟨C_ring_Check,C_ring_measured,C_ring_far,trivial⟩ ⟨CE_ring_clone,trivial⟩
noncomputable def q180:Pk:=⟨⟨[1,2,3,6],[11],[],[],[],some [6],[(2,9),(3,11)],[],cr,[],[]⟩,[],[],36,Tryz.f180,[.tmp 6]⟩
@[simp] def s180:=pkS (q180.eq_1)
attribute [simp] Tryz.f180
noncomputable def F_ring_behind:FD:=zfp q180
theorem F_ring_behind_eq(ds:List D):F_ring_behind ds=zgp q180 ds:=FP_eq (by kernel_rfl) ds
theorem C_ring_behind:C_ 180 F_ring_behind:=CP mix Tryz.func180 rfl rfl (by kernel_rfl) trivial trivial
noncomputable def q179:Pk:=⟨⟨[1,2,3,4,5,6,7,22,23],[18,24],[],[(7,[1,4,5,6,22,23])],[(0,[5,6]),(1,[1,4,5,6,22,23])],some [2,3],[],[],cr,[],[]⟩,[(178,F_ring_measured),(180,F_ring_behind)],[],35,Tryz.f179,[.tmp 2,.tmp 3]⟩
@[simp] def s179:=pkS (q179.eq_1)
attribute [simp] Tryz.f179
noncomputable def L_ring_Gaps:LD:=zlp q179
noncomputable def R_ring_Gaps:RD:=zrp q179
@[simp] theorem l179:LP Tryz.prog gl q179=L_ring_Gaps:=rfl
theorem L_ring_Gaps_succ(i n:Nat)(s:St):L_ring_Gaps i (n+1) s=andThen (R_ring_Gaps i s) (zhp q179 n i):=LP_succ (by kernel_rfl) i n s
theorem R_ring_Gaps_eq(i:Nat)(s:St):R_ring_Gaps i s=zsp q179 i s:=rfl
noncomputable def F_ring_Gaps:FD:=zfp q179
theorem F_ring_Gaps_eq(ds:List D):F_ring_Gaps ds=zgp q179 ds:=FP_eq (by kernel_rfl) ds
theorem C_ring_Gaps:C_ 179 F_ring_Gaps:=CP mix Tryz.func179 rfl rfl (by kernel_rfl) ⟨C_ring_measured,C_ring_behind,trivial⟩ trivial
noncomputable def q181:Pk:=⟨⟨[0,1,4,5],[12],[],[],[],some [4],[],[],cr,[],[]⟩,[],[],16,Tryz.f181,[.tmp 4]⟩
@[simp] def s181:=pkS (q181.eq_1)
attribute [simp] Tryz.f181
noncomputable def F_ring_floor:FD:=zfp q181
theorem F_ring_floor_eq(ds:List D):F_ring_floor ds=zgp q181 ds:=FP_eq (by kernel_rfl) ds
theorem C_ring_floor:C_ 181 F_ring_floor:=CP mix Tryz.func181 rfl rfl (by kernel_rfl) trivial trivial
noncomputable def q118:Pk:=⟨⟨[2,4,5,6,7,8,9,10,11,12,13,14,15,16,45,46,47],[20,40,48,81],[10],[(10,[2,7,10,45,46,47]),(16,[2,7,10,12,13,14,15,16,45,46,47])],[(0,[10]),(1,[2,7,10,45,46,47]),(2,[2,7,10,45,46,47]),(3,[2,7,10,12,13,14,15,16,45,46,47])],some [4,5],[(12,22),(18,34)],[],cr,[],[]⟩,[(113,F_ring_Check),(178,F_ring_measured),(179,F_ring_Gaps),(180,F_ring_behind),(181,F_ring_floor)],[],121,Tryz.f118,[.tmp 4,.tmp 5]⟩
@[simp] def s118:=pkS (q118.eq_1)
attribute [simp] Tryz.f118
noncomputable def L_ring_Repair:LD:=zlp q118
noncomputable def R_ring_Repair:RD:=zrp q118
@[simp] theorem l118:LP Tryz.prog gl q118=L_ring_Repair:=rfl
theorem L_ring_Repair_succ(i n:Nat)(s:St):L_ring_Repair i (n+1) s=andThen (R_ring_Repair i s) (zhp q118 n i):=LP_succ (by kernel_rfl) i n s
theorem R_ring_Repair_eq(i:Nat)(s:St):R_ring_Repair i s=zsp q118 i s:=rfl
noncomputable def F_ring_Repair:FD:=zfp q118
theorem F_ring_Repair_eq(ds:List D):F_ring_Repair ds=zgp q118 ds:=FP_eq (by kernel_rfl) ds
theorem C_ring_Repair:C_ 118 F_ring_Repair:=CP mix Tryz.func118 rfl rfl (by kernel_rfl) ⟨C_ring_Check,C_ring_measured,C_ring_Gaps,C_ring_behind,C_ring_floor,trivial⟩ trivial
noncomputable def q248:Pk:=⟨⟨[2],[],[],[],[],some [2],[],[],cr,[],[]⟩,[],[],9,Tryz.f248,[.tmp 2]⟩
@[simp] def s248:=pkS (q248.eq_1)
attribute [simp] Tryz.f248
noncomputable def F_poly_within:FD:=zfp q248
theorem F_poly_within_eq(ds:List D):F_poly_within ds=zgp q248 ds:=FP_eq (by kernel_rfl) ds
theorem C_poly_within:C_ 248 F_poly_within:=CP mix Tryz.func248 rfl rfl (by kernel_rfl) trivial trivial
noncomputable def q218:Pk:=⟨⟨[2,4,5,6,7],[8,20],[],[(2,[5,6,7])],[(0,[]),(1,[5,6,7])],some [2],[],[],cr,[],[]⟩,[(248,F_poly_within)],[],22,Tryz.f218,[.tmp 2]⟩
@[simp] def s218:=pkS (q218.eq_1)
attribute [simp] Tryz.f218
noncomputable def L_poly_inRange:LD:=zlp q218
noncomputable def R_poly_inRange:RD:=zrp q218
@[simp] theorem l218:LP Tryz.prog gl q218=L_poly_inRange:=rfl
theorem L_poly_inRange_succ(i n:Nat)(s:St):L_poly_inRange i (n+1) s=andThen (R_poly_inRange i s) (zhp q218 n i):=LP_succ (by kernel_rfl) i n s
theorem R_poly_inRange_eq(i:Nat)(s:St):R_poly_inRange i s=zsp q218 i s:=rfl
noncomputable def F_poly_inRange:FD:=zfp q218
theorem F_poly_inRange_eq(ds:List D):F_poly_inRange ds=zgp q218 ds:=FP_eq (by kernel_rfl) ds
theorem C_poly_inRange:C_ 218 F_poly_inRange:=CP mix Tryz.func218 rfl rfl (by kernel_rfl) ⟨C_poly_within,trivial⟩ trivial
noncomputable def q219:Pk:=⟨⟨[0,2,3,4,5,6,15,16,17],[14,18],[],[(5,[0,3,15,16,17])],[(0,[3]),(1,[0,3,15,16,17])],some [2],[],[],cr,[],[]⟩,[(218,F_poly_inRange)],[],45,Tryz.f219,[.tmp 2]⟩
@[simp] def s219:=pkS (q219.eq_1)
attribute [simp] Tryz.f219
noncomputable def L_poly_Area2:LD:=zlp q219
noncomputable def R_poly_Area2:RD:=zrp q219
@[simp] theorem l219:LP Tryz.prog gl q219=L_poly_Area2:=rfl
theorem L_poly_Area2_succ(i n:Nat)(s:St):L_poly_Area2 i (n+1) s=andThen (R_poly_Area2 i s) (zhp q219 n i):=LP_succ (by kernel_rfl) i n s
theorem R_poly_Area2_eq(i:Nat)(s:St):R_poly_Area2 i s=zsp q219 i s:=rfl
noncomputable def F_poly_Area2:FD:=zfp q219
theorem F_poly_Area2_eq(ds:List D):F_poly_Area2 ds=zgp q219 ds:=FP_eq (by kernel_rfl) ds
theorem C_poly_Area2:C_ 219 F_poly_Area2:=CP mix Tryz.func219 rfl rfl (by kernel_rfl) ⟨C_poly_inRange,trivial⟩ trivial
noncomputable def q183:Pk:=⟨⟨[0,2],[3,7,11,15],[],[],[(0,[])],some [2],[],[],cr,[],[]⟩,[(218,F_poly_inRange),(219,F_poly_Area2)],[],19,Tryz.f183,[.tmp 2]⟩
@[simp] def s183:=pkS (q183.eq_1)
attribute [simp] Tryz.f183
noncomputable def F_poly_Check:FD:=zfp q183
theorem F_poly_Check_eq(ds:List D):F_poly_Check ds=zgp q183 ds:=FP_eq (by kernel_rfl) ds
theorem C_poly_Check:C_ 183 F_poly_Check:=CP mix Tryz.func183 rfl rfl (by kernel_rfl) ⟨C_poly_inRange,C_poly_Area2,trivial⟩ trivial
noncomputable def q249:Pk:=⟨⟨[0,2],[4],[5],[],[],some [2],[],[],cr,[],[]⟩,[],[],8,Tryz.f249,[.tmp 2]⟩
@[simp] def s249:=pkS (q249.eq_1)
attribute [simp] Tryz.f249
noncomputable def F_slices_Clone_api_Point_api_Point:FD:=zfp q249
theorem F_slices_Clone_api_Point_api_Point_eq(ds:List D):F_slices_Clone_api_Point_api_Point ds=zgp q249 ds:=FP_eq (by kernel_rfl) ds
theorem C_slices_Clone_api_Point_api_Point:C_ 249 F_slices_Clone_api_Point_api_Point:=CP mix Tryz.func249 rfl rfl (by kernel_rfl) trivial trivial
noncomputable def NF_slices_Clone_api_Point_api_Point(ds:List D):Option D:=nilF F_slices_Clone_api_Point_api_Point (.own true []) ds
theorem NF_slices_Clone_api_Point_api_Point_sl(es:List (List D)):NF_slices_Clone_api_Point_api_Point [.sl es]=if es.length=0 then some (.own true []) else F_slices_Clone_api_Point_api_Point [.sl es]:=Eq.trans rfl rfl
theorem NC_slices_Clone_api_Point_api_Point:C_ 249 NF_slices_Clone_api_Point_api_Point:=fun ds r h=>nilF_ok C_slices_Clone_api_Point_api_Point (fun A c=>by rw[F_slices_Clone_api_Point_api_Point_eq];cases A<;>simp) ds r h
noncomputable def q249e:Pk:=⟨⟨[0,2],[4],[2,5],[],[],some [2],[],[],cr,[],[]⟩,[],[],8,Tryz.f249,[.tmp 2]⟩
@[simp] def s249e:=pkS (q249e.eq_1)
noncomputable def E_slices_Clone_api_Point_api_Point_obj:ED:=zep q249e
theorem E_slices_Clone_api_Point_api_Point_obj_eq(hs:List (Nat×O))(ds:List D):E_slices_Clone_api_Point_api_Point_obj hs ds=zge q249e hs ds:=EP_eq (by kernel_rfl) hs ds
theorem CE_slices_Clone_api_Point_api_Point_obj:CE_ 249 E_slices_Clone_api_Point_api_Point_obj:=CEP mix Tryz.func249 rfl rfl (by kernel_rfl) trivial trivial
noncomputable def NE_slices_Clone_api_Point_api_Point:ED:=nilE (.own true []) E_slices_Clone_api_Point_api_Point_obj
theorem NCE_slices_Clone_api_Point_api_Point:CE_ 249 NE_slices_Clone_api_Point_api_Point:=nilE_ok NC_slices_Clone_api_Point_api_Point (by rw[NF_slices_Clone_api_Point_api_Point_sl];simp) CE_slices_Clone_api_Point_api_Point_obj
noncomputable def q269:Pk:=⟨⟨[2],[],[],[],[],some [2],[],[],cr,[],[]⟩,[],[],6,Tryz.f269,[.tmp 2]⟩
attribute [simp] Tryz.f269
noncomputable def F_cmp_isNaN_int:FD:=zfp q269
theorem C_cmp_isNaN_int:C_ 269 F_cmp_isNaN_int:=CP mix Tryz.func269 rfl rfl (by kernel_rfl) trivial trivial
noncomputable def q253:Pk:=⟨⟨[0,1,4,5,6],[11,12,13,16,19],[],[],[],some [4],[],[],cr,[],[]⟩,[(269,F_cmp_isNaN_int)],[],20,Tryz.f253,[.tmp 4]⟩
attribute [simp] Tryz.f253
noncomputable def F_cmp_Compare_int:FD:=zfp q253
theorem C_cmp_Compare_int:C_ 253 F_cmp_Compare_int:=CP mix Tryz.func253 rfl rfl (by kernel_rfl) ⟨C_cmp_isNaN_int,trivial⟩ trivial
noncomputable def q252:Pk:=⟨⟨[2,3,5,6,7,8],[9,14],[],[(3,[3,6,7,8])],[(0,[3]),(1,[3,6,7,8])],some [2],[],[],cr,[],[]⟩,[],[],18,Tryz.f252,[.tmp 2]⟩
attribute [simp] Tryz.f252
noncomputable def L_cmp_Or_int:LD:=zlp q252
@[simp] theorem l252:LP Tryz.prog gl q252=L_cmp_Or_int:=rfl
noncomputable def F_cmp_Or_int:FD:=zfp q252
theorem C_cmp_Or_int:C_ 252 F_cmp_Or_int:=CP mix Tryz.func252 rfl rfl (by kernel_rfl) trivial trivial
noncomputable def q251:Pk:=⟨⟨[2,3,4],[],[],[],[],some [4],[(1,9)],[],cr,[],[]⟩,[(252,F_cmp_Or_int),(253,F_cmp_Compare_int)],[],17,Tryz.f251,[.tmp 4]⟩
attribute [simp] Tryz.f251
noncomputable def F_poly_Hull_1:FD:=zfp q251
theorem C_poly_Hull_1:C_ 251 F_poly_Hull_1:=CP mix Tryz.func251 rfl rfl (by kernel_rfl) ⟨C_cmp_Or_int,C_cmp_Compare_int,trivial⟩ trivial
noncomputable def q271:Pk:=⟨⟨[3,4,5,6],[],[],[],[],some [6],[],[],cr,[],[]⟩,[],[],30,Tryz.f271,[.tmp 6]⟩
@[simp] def s271:=pkS (q271.eq_1)
attribute [simp] Tryz.f271
noncomputable def F_poly_cross:FD:=zfp q271
theorem F_poly_cross_eq(ds:List D):F_poly_cross ds=zgp q271 ds:=FP_eq (by kernel_rfl) ds
theorem C_poly_cross:C_ 271 F_poly_cross:=CP mix Tryz.func271 rfl rfl (by kernel_rfl) trivial trivial
noncomputable def q255:Pk:=⟨⟨[2,3,5,6,7,8],[9,31],[2,3],[(3,[3,6,7,8]),(5,[3,5,6,7,8])],[(0,[3]),(1,[3,6,7,8]),(2,[3,5,6,7,8]),(3,[3,5,6,7,8])],some [2],[(5,17)],[],cr,[],[36,46]⟩,[(271,F_poly_cross)],[],47,Tryz.f255,[.tmp 2]⟩
@[simp] def s255:=pkS (q255.eq_1)
attribute [simp] Tryz.f255
noncomputable def L_poly_chain:LD:=zlp q255
noncomputable def R_poly_chain:RD:=zrp q255
@[simp] theorem l255:LP Tryz.prog gl q255=L_poly_chain:=rfl
theorem L_poly_chain_succ(i n:Nat)(s:St):L_poly_chain i (n+1) s=andThen (R_poly_chain i s) (zhp q255 n i):=LP_succ (by kernel_rfl) i n s
theorem R_poly_chain_eq(i:Nat)(s:St):R_poly_chain i s=zsp q255 i s:=rfl
noncomputable def E_poly_chain:ED:=zep q255
theorem E_poly_chain_eq(hs:List (Nat×O))(ds:List D):E_poly_chain hs ds=zge q255 hs ds:=EP_eq (by kernel_rfl) hs ds
theorem CE_poly_chain:CE_ 255 E_poly_chain:=CEP mix Tryz.func255 rfl rfl (by kernel_rfl) ⟨C_poly_cross,trivial⟩ trivial
noncomputable def q256:Pk:=⟨⟨[0,2,3],[9],[0],[(1,[0,2,3])],[(0,[]),(1,[0,2,3])],some [],[(3,0)],[],cr,[(3,(.alt 0 (.alt 1 (.alt 2 (.alt 3 (.alt 4 (.alt 5 (.alt 8 (.alt 9 (.dag [[[(0,6)],[(0,10)]],[[(0,7)],[(0,10),(1,6)],[(1,11)]],[[(0,10),(1,7)],[(1,11),(2,6)]],[[(0,11),(1,7)]],[[(0,12)]],[[(0,13)]],[[(0,14)]],[[(0,15)]]]) .leaf) .leaf) .leaf) .leaf) .leaf) .leaf) .leaf) .leaf))],[]⟩,[],[],28,Tryz.f256,[]⟩
@[simp] def s256:=pkS (q256.eq_1)
attribute [simp] Tryz.f256
noncomputable def L_slices_Reverse_api_Point_api_Point:LD:=zlp q256
noncomputable def R_slices_Reverse_api_Point_api_Point:RD:=zrp q256
@[simp] theorem l256:LP Tryz.prog gl q256=L_slices_Reverse_api_Point_api_Point:=rfl
theorem L_slices_Reverse_api_Point_api_Point_succ(i n:Nat)(s:St):L_slices_Reverse_api_Point_api_Point i (n+1) s=andThen (R_slices_Reverse_api_Point_api_Point i s) (zhp q256 n i):=LP_succ (by kernel_rfl) i n s
theorem R_slices_Reverse_api_Point_api_Point_eq(i:Nat)(s:St):R_slices_Reverse_api_Point_api_Point i s=zsp q256 i s:=rfl
noncomputable def E_slices_Reverse_api_Point_api_Point:ED:=zep q256
theorem E_slices_Reverse_api_Point_api_Point_eq(hs:List (Nat×O))(ds:List D):E_slices_Reverse_api_Point_api_Point hs ds=zge q256 hs ds:=EP_eq (by kernel_rfl) hs ds
theorem CE_slices_Reverse_api_Point_api_Point:CE_ 256 E_slices_Reverse_api_Point_api_Point:=CEP mix Tryz.func256 rfl rfl (by kernel_rfl) trivial trivial
noncomputable def q220:Pk:=⟨⟨[0,2,3,4],[17,34],[3,4],[],[],some [2],[],[(249,false),(250,true),(254,true),(255,true),(256,true)],cr,[],[]⟩,[(218,F_poly_inRange),(251,F_poly_Hull_1)],[(249,NE_slices_Clone_api_Point_api_Point),(250,E_sortPh),(254,E_compactPt),(255,E_poly_chain),(256,E_slices_Reverse_api_Point_api_Point)],36,Tryz.f220,[.tmp 2]⟩
@[simp] def s220:=pkS (q220.eq_1)
attribute [simp] Tryz.f220
noncomputable def F_poly_Hull:FD:=zfp q220
theorem F_poly_Hull_eq(ds:List D):F_poly_Hull ds=zgp q220 ds:=FP_eq (by kernel_rfl) ds
theorem C_poly_Hull:C_ 220 F_poly_Hull:=CP mix Tryz.func220 rfl rfl (by kernel_rfl) ⟨C_poly_inRange,C_poly_Hull_1,trivial⟩ ⟨NCE_slices_Clone_api_Point_api_Point,CE_sortPt,CE_compactPt,CE_poly_chain,CE_slices_Reverse_api_Point_api_Point,trivial⟩
noncomputable def q221:Pk:=⟨⟨[0,2,3,5,29,30,31],[8,32],[],[(5,[2,3,29,30,31])],[(0,[2,3]),(1,[2,3,29,30,31])],some [2],[(3,20)],[],cr,[],[]⟩,[],[],65,Tryz.f221,[.cell 2 36]⟩
@[simp] def s221:=pkS (q221.eq_1)
attribute [simp] Tryz.f221
noncomputable def L_poly_Bounds:LD:=zlp q221
noncomputable def R_poly_Bounds:RD:=zrp q221
@[simp] theorem l221:LP Tryz.prog gl q221=L_poly_Bounds:=rfl
theorem L_poly_Bounds_succ(i n:Nat)(s:St):L_poly_Bounds i (n+1) s=andThen (R_poly_Bounds i s) (zhp q221 n i):=LP_succ (by kernel_rfl) i n s
theorem R_poly_Bounds_eq(i:Nat)(s:St):R_poly_Bounds i s=zsp q221 i s:=rfl
noncomputable def F_poly_Bounds:FD:=zfp q221
theorem F_poly_Bounds_eq(ds:List D):F_poly_Bounds ds=zgp q221 ds:=FP_eq (by kernel_rfl) ds
theorem C_poly_Bounds:C_ 221 F_poly_Bounds:=CP mix Tryz.func221 rfl rfl (by kernel_rfl) trivial trivial
noncomputable def q223:Pk:=⟨⟨[0,1,4,5],[12],[],[],[],some [4],[],[],cr,[],[]⟩,[],[],16,Tryz.f223,[.tmp 4]⟩
@[simp] def s223:=pkS (q223.eq_1)
attribute [simp] Tryz.f223
noncomputable def F_poly_floor:FD:=zfp q223
theorem F_poly_floor_eq(ds:List D):F_poly_floor ds=zgp q223 ds:=FP_eq (by kernel_rfl) ds
theorem C_poly_floor:C_ 223 F_poly_floor:=CP mix Tryz.func223 rfl rfl (by kernel_rfl) trivial trivial
noncomputable def q222:Pk:=⟨⟨[0,2,4,5,6,7,8,9,10,17,18,19],[20,32,69],[],[(3,[0,2,6,7,17,18,19])],[(0,[6,7]),(1,[0,2,6,7,17,18,19]),(2,[0,2,6,7,17,18,19])],some [4,5],[(1,7),(5,9),(7,18),(9,18)],[],cr,[],[1000000]⟩,[(223,F_poly_floor)],[],109,Tryz.f222,[.tmp 4,.tmp 5]⟩
@[simp] def s222:=pkS (q222.eq_1)
attribute [simp] Tryz.f222
noncomputable def L_poly_Chord_1:LD:=zlp q222
noncomputable def R_poly_Chord_1:RD:=zrp q222
@[simp] theorem l222:LP Tryz.prog gl q222=L_poly_Chord_1:=rfl
theorem L_poly_Chord_1_succ(i n:Nat)(s:St):L_poly_Chord_1 i (n+1) s=andThen (R_poly_Chord_1 i s) (zhp q222 n i):=LP_succ (by kernel_rfl) i n s
theorem R_poly_Chord_1_eq(i:Nat)(s:St):R_poly_Chord_1 i s=zsp q222 i s:=rfl
noncomputable def E_poly_Chord_1:ED:=zep q222
theorem E_poly_Chord_1_eq(hs:List (Nat×O))(ds:List D):E_poly_Chord_1 hs ds=zge q222 hs ds:=EP_eq (by kernel_rfl) hs ds
theorem CE_poly_Chord_1:CE_ 222 E_poly_Chord_1:=CEP mix Tryz.func222 rfl rfl (by kernel_rfl) ⟨C_poly_floor,trivial⟩ trivial
noncomputable def q185:Pk:=⟨⟨[1,2,6,7,8,9,10,11,12,13,14],[40,66],[],[],[],some [6],[],[(222,false)],cr,[],[]⟩,[(220,F_poly_Hull),(221,F_poly_Bounds)],[(222,E_poly_Chord_1)],69,Tryz.f185,[.cell 6 34]⟩
@[simp] def s185:=pkS (q185.eq_1)
attribute [simp] Tryz.f185
noncomputable def F_poly_Chord:FD:=zfp q185
theorem F_poly_Chord_eq(ds:List D):F_poly_Chord ds=zgp q185 ds:=FP_eq (by kernel_rfl) ds
theorem C_poly_Chord:C_ 185 F_poly_Chord:=CP mix Tryz.func185 rfl rfl (by kernel_rfl) ⟨C_poly_Hull,C_poly_Bounds,trivial⟩ ⟨CE_poly_Chord_1,trivial⟩
noncomputable def q184:Pk:=⟨⟨[3,4],[],[],[],[],some [3],[],[],cr,[],[1000000]⟩,[(137,F_section_heights),(185,F_poly_Chord)],[],15,Tryz.f184,[.cell 3 34]⟩
@[simp] def s184:=pkS (q184.eq_1)
attribute [simp] Tryz.f184
noncomputable def E_section_Of_1:ED:=zep q184
theorem E_section_Of_1_eq(hs:List (Nat×O))(ds:List D):E_section_Of_1 hs ds=zge q184 hs ds:=EP_eq (by kernel_rfl) hs ds
theorem CE_section_Of_1:CE_ 184 E_section_Of_1:=CEP mix Tryz.func184 rfl rfl (by kernel_rfl) ⟨C_section_heights,C_poly_Chord,trivial⟩ trivial
noncomputable def q124:Pk:=⟨⟨[1,2,4],[18],[],[],[],some [4],[],[],cr,[],[]⟩,[],[],28,Tryz.f124,[.cell 4 34]⟩
@[simp] def s124:=pkS (q124.eq_1)
attribute [simp] Tryz.f124
noncomputable def F_section_at:FD:=zfp q124
theorem F_section_at_eq(ds:List D):F_section_at ds=zgp q124 ds:=FP_eq (by kernel_rfl) ds
theorem C_section_at:C_ 124 F_section_at:=CP mix Tryz.func124 rfl rfl (by kernel_rfl) trivial trivial
noncomputable def q123:Pk:=⟨⟨[4],[],[],[],[],some [4],[(1,5)],[],cr,[],[1000000]⟩,[(70,F_span_Meet),(124,F_section_at)],[],12,Tryz.f123,[.cell 4 34]⟩
@[simp] def s123:=pkS (q123.eq_1)
attribute [simp] Tryz.f123
noncomputable def E_section_Meet_1:ED:=zep q123
theorem E_section_Meet_1_eq(hs:List (Nat×O))(ds:List D):E_section_Meet_1 hs ds=zge q123 hs ds:=EP_eq (by kernel_rfl) hs ds
theorem CE_section_Meet_1:CE_ 123 E_section_Meet_1:=CEP mix Tryz.func123 rfl rfl (by kernel_rfl) ⟨C_span_Meet,C_section_at,trivial⟩ trivial
noncomputable def q122:Pk:=⟨⟨[2,3,4,5,6],[8,14,19,31],[23,35],[(4,[0,2,3,4,5])],[(0,[2,3,4]),(1,[0,2,3,4,5]),(2,[0,2,3,4,5])],some [2],[],[(123,false),(184,false)],[(115,0,208,2),(137,1,34,2)],[],[43,1000000]⟩,[(186,F_section_isEmpty)],[(123,E_section_Meet_1),(184,E_section_Of_1)],46,Tryz.f122,[.cell 2 137]⟩
@[simp] def s122:=pkS (q122.eq_1)
attribute [simp] Tryz.f122
noncomputable def L_section_build:LD:=zlp q122
noncomputable def R_section_build:RD:=zrp q122
@[simp] theorem l122:LP Tryz.prog gl q122=L_section_build:=rfl
theorem L_section_build_succ(i n:Nat)(s:St):L_section_build i (n+1) s=andThen (R_section_build i s) (zhp q122 n i):=LP_succ (by kernel_rfl) i n s
theorem R_section_build_eq(i:Nat)(s:St):R_section_build i s=zsp q122 i s:=rfl
noncomputable def E_section_build:ED:=zep q122
theorem E_section_build_eq(hs:List (Nat×O))(ds:List D):E_section_build hs ds=zge q122 hs ds:=EP_eq (by kernel_rfl) hs ds
theorem CE_section_build:CE_ 122 E_section_build:=CEP mix Tryz.func122 rfl rfl (by kernel_rfl) ⟨C_section_isEmpty,trivial⟩ ⟨CE_section_Meet_1,CE_section_Of_1,trivial⟩
noncomputable def q120:Pk:=⟨⟨[1,2,3,4,5],[9,17],[],[],[],some [2,3],[],[(122,false),(184,false)],cr,[],[]⟩,[(183,F_poly_Check)],[(122,E_section_build),(184,E_section_Of_1)],20,Tryz.f120,[.cell 2 137,.tmp 3]⟩
@[simp] def s120:=pkS (q120.eq_1)
attribute [simp] Tryz.f120
noncomputable def F_section_Of:FD:=zfp q120
theorem F_section_Of_eq(ds:List D):F_section_Of ds=zgp q120 ds:=FP_eq (by kernel_rfl) ds
theorem C_section_Of:C_ 120 F_section_Of:=CP mix Tryz.func120 rfl rfl (by kernel_rfl) ⟨C_poly_Check,trivial⟩ ⟨CE_section_build,CE_section_Of_1,trivial⟩
noncomputable def q57:Pk:=⟨⟨[3,6,7,8,9],[19],[],[],[],some [6,7],[],[],cr,[],[]⟩,[(118,F_ring_Repair),(119,F_ring_Clean),(120,F_section_Of)],[],26,Tryz.f57,[.cell 6 137,.tmp 7]⟩
@[simp] def s57:=pkS (q57.eq_1)
attribute [simp] Tryz.f57
noncomputable def F_scan_sectionOf:FD:=zfp q57
theorem F_scan_sectionOf_eq(ds:List D):F_scan_sectionOf ds=zgp q57 ds:=FP_eq (by kernel_rfl) ds
theorem C_scan_sectionOf:C_ 57 F_scan_sectionOf:=CP mix Tryz.func57 rfl rfl (by kernel_rfl) ⟨C_ring_Repair,C_ring_Clean,C_section_Of,trivial⟩ trivial
noncomputable def q58:Pk:=⟨⟨[2,3,4],[],[],[],[],some [4],[(1,3)],[(122,false),(123,false)],cr,[],[]⟩,[(121,F_section_valid)],[(122,E_section_build),(123,E_section_Meet_1)],11,Tryz.f58,[.cell 4 137]⟩
@[simp] def s58:=pkS (q58.eq_1)
attribute [simp] Tryz.f58
noncomputable def F_section_Meet:FD:=zfp q58
theorem F_section_Meet_eq(ds:List D):F_section_Meet ds=zgp q58 ds:=FP_eq (by kernel_rfl) ds
theorem C_section_Meet:C_ 58 F_section_Meet:=CP mix Tryz.func58 rfl rfl (by kernel_rfl) ⟨C_section_valid,trivial⟩ ⟨CE_section_build,CE_section_Meet_1,trivial⟩
noncomputable def q22:Pk:=⟨⟨[3,6,7,8,9,10,11,12,13,14,15,27,28,55,56],[19,29,43,57,72],[9,13],[(6,[1,2,3,9,27,28]),(15,[3,9,13,55,56])],[(0,[3,9]),(1,[1,2,3,9,27,28]),(2,[13]),(3,[3,9,13,55,56])],some [6,7],[(17,11),(20,18)],[],cr,[],[]⟩,[(53,F_scan_Check),(57,F_scan_sectionOf),(58,F_section_Meet)],[],94,Tryz.f22,[.tmp 6,.tmp 7]⟩
@[simp] def s22:=pkS (q22.eq_1)
attribute [simp] Tryz.f22
noncomputable def L_scan_Build:LD:=zlp q22
noncomputable def R_scan_Build:RD:=zrp q22
@[simp] theorem l22:LP Tryz.prog gl q22=L_scan_Build:=rfl
theorem L_scan_Build_succ(i n:Nat)(s:St):L_scan_Build i (n+1) s=andThen (R_scan_Build i s) (zhp q22 n i):=LP_succ (by kernel_rfl) i n s
theorem R_scan_Build_eq(i:Nat)(s:St):R_scan_Build i s=zsp q22 i s:=rfl
noncomputable def F_scan_Build:FD:=zfp q22
theorem F_scan_Build_eq(ds:List D):F_scan_Build ds=zgp q22 ds:=FP_eq (by kernel_rfl) ds
theorem C_scan_Build:C_ 22 F_scan_Build:=CP mix Tryz.func22 rfl rfl (by kernel_rfl) ⟨C_scan_Check,C_scan_sectionOf,C_section_Meet,trivial⟩ trivial
noncomputable def q23:Pk:=⟨⟨[1],[6],[],[],[],some [],[],[],cr,[],[1000000]⟩,[],[],7,Tryz.f23,[]⟩
@[simp] def s23:=pkS (q23.eq_1)
attribute [simp] Tryz.f23
noncomputable def E_turns_Place_1:ED:=zep q23
theorem E_turns_Place_1_eq(hs:List (Nat×O))(ds:List D):E_turns_Place_1 hs ds=zge q23 hs ds:=EP_eq (by kernel_rfl) hs ds
theorem CE_turns_Place_1:CE_ 23 E_turns_Place_1:=CEP mix Tryz.func23 rfl rfl (by kernel_rfl) trivial trivial
noncomputable def q7:Pk:=⟨⟨[4,8,9,10,11,12],[],[],[],[],some [8,9,10,12],[(4,4)],[(23,false)],cr,[],[]⟩,[(21,F_scan_Turn),(22,F_scan_Build),(24,NF_slices_Clone_api_Defect_api_Defect)],[(23,E_turns_Place_1)],28,Tryz.f7,[.cell 8 57,.cell 9 23,.cell 10 58]⟩
@[simp] def s7:=pkS (q7.eq_1)
attribute [simp] Tryz.f7
noncomputable def F_turns_Place:FD:=zdp q7 23 E_turns_Place_1
theorem F_turns_Place_eq(ds:List D):F_turns_Place ds=zdp q7 23 E_turns_Place_1 ds:=Eq.trans rfl rfl
theorem C_turns_Place:C_ 7 F_turns_Place:=CDP mix Tryz.func7 rfl rfl (by kernel_rfl) (by kernel_rfl) ⟨C_scan_Turn,C_scan_Build,NC_slices_Clone_api_Defect_api_Defect,trivial⟩ ⟨CE_turns_Place_1,trivial⟩ (enterP (k:=q23) Tryz.func23 rfl (by kernel_rfl)) (CEDP (k:=q23) mix Tryz.func23 rfl rfl (by kernel_rfl) trivial trivial)
noncomputable def q187:Pk:=⟨⟨[2],[],[],[],[],some [2],[],[],cr,[],[]⟩,[],[],9,Tryz.f187,[.tmp 2]⟩
@[simp] def s187:=pkS (q187.eq_1)
attribute [simp] Tryz.f187
noncomputable def F_worth_isStep:FD:=zfp q187
theorem F_worth_isStep_eq(ds:List D):F_worth_isStep ds=zgp q187 ds:=FP_eq (by kernel_rfl) ds
theorem C_worth_isStep:C_ 187 F_worth_isStep:=CP mix Tryz.func187 rfl rfl (by kernel_rfl) trivial trivial
noncomputable def q188:Pk:=⟨⟨[2],[],[],[],[],some [2],[],[],cr,[],[]⟩,[],[],9,Tryz.f188,[.tmp 2]⟩
@[simp] def s188:=pkS (q188.eq_1)
attribute [simp] Tryz.f188
noncomputable def F_worth_isFine:FD:=zfp q188
theorem F_worth_isFine_eq(ds:List D):F_worth_isFine ds=zgp q188 ds:=FP_eq (by kernel_rfl) ds
theorem C_worth_isFine:C_ 188 F_worth_isFine:=CP mix Tryz.func188 rfl rfl (by kernel_rfl) trivial trivial
noncomputable def q125:Pk:=⟨⟨[2,3,4],[22,36,60],[],[],[],some [4],[],[],cr,[],[]⟩,[(187,F_worth_isStep),(188,F_worth_isFine)],[],61,Tryz.f125,[.tmp 4]⟩
@[simp] def s125:=pkS (q125.eq_1)
attribute [simp] Tryz.f125
noncomputable def F_worth_Check:FD:=zfp q125
theorem F_worth_Check_eq(ds:List D):F_worth_Check ds=zgp q125 ds:=FP_eq (by kernel_rfl) ds
theorem C_worth_Check:C_ 125 F_worth_Check:=CP mix Tryz.func125 rfl rfl (by kernel_rfl) ⟨C_worth_isStep,C_worth_isFine,trivial⟩ trivial
noncomputable def q189:Pk:=⟨⟨[1,2,3,5,6,7,8,9],[17,49],[],[],[],some [5],[(4,5)],[],cr,[],[1000000]⟩,[(69,F_span_Len),(147,F_product_Green)],[],50,Tryz.f189,[.tmp 5]⟩
@[simp] def s189:=pkS (q189.eq_1)
attribute [simp] Tryz.f189
noncomputable def E_pattern_Check_1:ED:=zep q189
theorem E_pattern_Check_1_eq(hs:List (Nat×O))(ds:List D):E_pattern_Check_1 hs ds=zge q189 hs ds:=EP_eq (by kernel_rfl) hs ds
theorem CE_pattern_Check_1:CE_ 189 E_pattern_Check_1:=CEP mix Tryz.func189 rfl rfl (by kernel_rfl) ⟨C_span_Len,C_product_Green,trivial⟩ trivial
noncomputable def q190:Pk:=⟨⟨[1,2,4,9,10],[11,27],[],[(2,[9,10])],[(0,[]),(1,[9,10])],some [2],[],[],cr,[],[]⟩,[],[],29,Tryz.f190,[.tmp 2]⟩
@[simp] def s190:=pkS (q190.eq_1)
attribute [simp] Tryz.f190
noncomputable def L_pattern_isFrame:LD:=zlp q190
noncomputable def R_pattern_isFrame:RD:=zrp q190
@[simp] theorem l190:LP Tryz.prog gl q190=L_pattern_isFrame:=rfl
theorem L_pattern_isFrame_succ(i n:Nat)(s:St):L_pattern_isFrame i (n+1) s=andThen (R_pattern_isFrame i s) (zhp q190 n i):=LP_succ (by kernel_rfl) i n s
theorem R_pattern_isFrame_eq(i:Nat)(s:St):R_pattern_isFrame i s=zsp q190 i s:=rfl
noncomputable def F_pattern_isFrame:FD:=zfp q190
theorem F_pattern_isFrame_eq(ds:List D):F_pattern_isFrame ds=zgp q190 ds:=FP_eq (by kernel_rfl) ds
theorem C_pattern_isFrame:C_ 190 F_pattern_isFrame:=CP mix Tryz.func190 rfl rfl (by kernel_rfl) trivial trivial
noncomputable def q193:Pk:=⟨⟨[2],[],[],[],[],some [2],[],[],cr,[],[]⟩,[],[],9,Tryz.f193,[.tmp 2]⟩
@[simp] def s193:=pkS (q193.eq_1)
attribute [simp] Tryz.f193
noncomputable def F_pattern_isRip:FD:=zfp q193
theorem F_pattern_isRip_eq(ds:List D):F_pattern_isRip ds=zgp q193 ds:=FP_eq (by kernel_rfl) ds
theorem C_pattern_isRip:C_ 193 F_pattern_isRip:=CP mix Tryz.func193 rfl rfl (by kernel_rfl) trivial trivial
noncomputable def q224:Pk:=⟨⟨[2,4],[6],[],[],[],some [4],[],[],cr,[],[]⟩,[],[],11,Tryz.f224,[.cell 4 34]⟩
@[simp] def s224:=pkS (q224.eq_1)
attribute [simp] Tryz.f224
noncomputable def F_pattern_along:FD:=zfp q224
theorem F_pattern_along_eq(ds:List D):F_pattern_along ds=zgp q224 ds:=FP_eq (by kernel_rfl) ds
theorem C_pattern_along:C_ 224 F_pattern_along:=CP mix Tryz.func224 rfl rfl (by kernel_rfl) trivial trivial
noncomputable def q225:Pk:=⟨⟨[3,5,6],[8],[],[],[],some [6],[],[],cr,[],[]⟩,[],[],14,Tryz.f225,[.cell 6 36]⟩
@[simp] def s225:=pkS (q225.eq_1)
attribute [simp] Tryz.f225
noncomputable def F_pattern_with:FD:=zfp q225
theorem F_pattern_with_eq(ds:List D):F_pattern_with ds=zgp q225 ds:=FP_eq (by kernel_rfl) ds
theorem C_pattern_with:C_ 225 F_pattern_with:=CP mix Tryz.func225 rfl rfl (by kernel_rfl) trivial trivial
noncomputable def q194:Pk:=⟨⟨[3,4,6,7,8,9,10],[],[],[],[],some [6,7,8],[(6,5)],[],cr,[],[]⟩,[(224,F_pattern_along),(225,F_pattern_with)],[],50,Tryz.f194,[.cell 6 36,.cell 7 36,.cell 8 36]⟩
@[simp] def s194:=pkS (q194.eq_1)
attribute [simp] Tryz.f194
noncomputable def F_pattern_parts:FD:=zfp q194
theorem F_pattern_parts_eq(ds:List D):F_pattern_parts ds=zgp q194 ds:=FP_eq (by kernel_rfl) ds
theorem C_pattern_parts:C_ 194 F_pattern_parts:=CP mix Tryz.func194 rfl rfl (by kernel_rfl) ⟨C_pattern_along,C_pattern_with,trivial⟩ trivial
noncomputable def q192:Pk:=⟨⟨[1,4,5,6,7,8,10],[17,42,50],[4],[(2,[0,1,2,4,5])],[(0,[]),(1,[0,1,2,4,5])],some [],[],[],cr,[],[30]⟩,[(193,F_pattern_isRip),(194,F_pattern_parts)],[],73,Tryz.f192,[]⟩
@[simp] def s192:=pkS (q192.eq_1)
attribute [simp] Tryz.f192
noncomputable def L_pattern_places_1:LD:=zlp q192
@[simp] theorem l192:LP Tryz.prog gl q192=L_pattern_places_1:=rfl
noncomputable def F_pattern_places_1:FD:=zfp q192
theorem C_pattern_places_1:C_ 192 F_pattern_places_1:=CP mix Tryz.func192 rfl rfl (by kernel_rfl) ⟨C_pattern_isRip,C_pattern_parts,trivial⟩ trivial
noncomputable def q191:Pk:=⟨⟨[2,3,4,5],[23,26,29,46],[],[],[],some [4],[],[],cr,[],[]⟩,[(193,F_pattern_isRip),(224,F_pattern_along)],[],47,Tryz.f191,[.tmp 4]⟩
@[simp] def s191:=pkS (q191.eq_1)
attribute [simp] Tryz.f191
noncomputable def F_pattern_checkNode:FD:=zfp q191
theorem F_pattern_checkNode_eq(ds:List D):F_pattern_checkNode ds=zgp q191 ds:=FP_eq (by kernel_rfl) ds
theorem C_pattern_checkNode:C_ 191 F_pattern_checkNode:=CP mix Tryz.func191 rfl rfl (by kernel_rfl) ⟨C_pattern_isRip,C_pattern_along,trivial⟩ trivial
noncomputable def q128:Pk:=⟨⟨[4],[10],[],[],[],some [4],[],[],cr,[],[]⟩,[],[],11,Tryz.f128,[.tmp 4]⟩
@[simp] def s128:=pkS (q128.eq_1)
attribute [simp] Tryz.f128
noncomputable def F_pattern_anyBoard:FD:=zfp q128
theorem F_pattern_anyBoard_eq(ds:List D):F_pattern_anyBoard ds=zgp q128 ds:=FP_eq (by kernel_rfl) ds
theorem C_pattern_anyBoard:C_ 128 F_pattern_anyBoard:=CP mix Tryz.func128 rfl rfl (by kernel_rfl) trivial trivial
noncomputable def q130:Pk:=⟨⟨[0,2],[4],[5],[],[],some [2],[],[],cr,[],[]⟩,[],[],8,Tryz.f130,[.tmp 2]⟩
@[simp] def s130:=pkS (q130.eq_1)
attribute [simp] Tryz.f130
noncomputable def F_slices_Clone_api_Slice_api_Slice:FD:=zfp q130
theorem F_slices_Clone_api_Slice_api_Slice_eq(ds:List D):F_slices_Clone_api_Slice_api_Slice ds=zgp q130 ds:=FP_eq (by kernel_rfl) ds
theorem C_slices_Clone_api_Slice_api_Slice:C_ 130 F_slices_Clone_api_Slice_api_Slice:=CP mix Tryz.func130 rfl rfl (by kernel_rfl) trivial trivial
noncomputable def NF_slices_Clone_api_Slice_api_Slice(ds:List D):Option D:=nilF F_slices_Clone_api_Slice_api_Slice (.own true []) ds
theorem NF_slices_Clone_api_Slice_api_Slice_sl(es:List (List D)):NF_slices_Clone_api_Slice_api_Slice [.sl es]=if es.length=0 then some (.own true []) else F_slices_Clone_api_Slice_api_Slice [.sl es]:=Eq.trans rfl rfl
theorem NC_slices_Clone_api_Slice_api_Slice:C_ 130 NF_slices_Clone_api_Slice_api_Slice:=fun ds r h=>nilF_ok C_slices_Clone_api_Slice_api_Slice (fun A c=>by rw[F_slices_Clone_api_Slice_api_Slice_eq];cases A<;>simp) ds r h
noncomputable def q130e:Pk:=⟨⟨[0,2],[4],[2,5],[],[],some [2],[],[],cr,[],[]⟩,[],[],8,Tryz.f130,[.tmp 2]⟩
@[simp] def s130e:=pkS (q130e.eq_1)
noncomputable def E_slices_Clone_api_Slice_api_Slice_obj:ED:=zep q130e
theorem E_slices_Clone_api_Slice_api_Slice_obj_eq(hs:List (Nat×O))(ds:List D):E_slices_Clone_api_Slice_api_Slice_obj hs ds=zge q130e hs ds:=EP_eq (by kernel_rfl) hs ds
theorem CE_slices_Clone_api_Slice_api_Slice_obj:CE_ 130 E_slices_Clone_api_Slice_api_Slice_obj:=CEP mix Tryz.func130 rfl rfl (by kernel_rfl) trivial trivial
noncomputable def NE_slices_Clone_api_Slice_api_Slice:ED:=nilE (.own true []) E_slices_Clone_api_Slice_api_Slice_obj
theorem NCE_slices_Clone_api_Slice_api_Slice:CE_ 130 NE_slices_Clone_api_Slice_api_Slice:=nilE_ok NC_slices_Clone_api_Slice_api_Slice (by rw[NF_slices_Clone_api_Slice_api_Slice_sl];simp) CE_slices_Clone_api_Slice_api_Slice_obj
noncomputable def q131:Pk:=⟨⟨[0,2],[4],[5],[],[],some [2],[],[],cr,[],[]⟩,[],[],8,Tryz.f131,[.tmp 2]⟩
@[simp] def s131:=pkS (q131.eq_1)
attribute [simp] Tryz.f131
noncomputable def F_slices_Clone_api_Span_api_Span:FD:=zfp q131
theorem F_slices_Clone_api_Span_api_Span_eq(ds:List D):F_slices_Clone_api_Span_api_Span ds=zgp q131 ds:=FP_eq (by kernel_rfl) ds
theorem C_slices_Clone_api_Span_api_Span:C_ 131 F_slices_Clone_api_Span_api_Span:=CP mix Tryz.func131 rfl rfl (by kernel_rfl) trivial trivial
noncomputable def NF_slices_Clone_api_Span_api_Span(ds:List D):Option D:=nilF F_slices_Clone_api_Span_api_Span (.own true []) ds
theorem NF_slices_Clone_api_Span_api_Span_sl(es:List (List D)):NF_slices_Clone_api_Span_api_Span [.sl es]=if es.length=0 then some (.own true []) else F_slices_Clone_api_Span_api_Span [.sl es]:=Eq.trans rfl rfl
theorem NC_slices_Clone_api_Span_api_Span:C_ 131 NF_slices_Clone_api_Span_api_Span:=fun ds r h=>nilF_ok C_slices_Clone_api_Span_api_Span (fun A c=>by rw[F_slices_Clone_api_Span_api_Span_eq];cases A<;>simp) ds r h
noncomputable def q61:Pk:=⟨⟨[0,2,3,7,8],[9],[0],[(3,[0,7,8])],[(0,[0]),(1,[0,7,8])],some [2],[],[(130,false)],cr,[],[]⟩,[(131,NF_slices_Clone_api_Span_api_Span)],[(130,NE_slices_Clone_api_Slice_api_Slice)],25,Tryz.f61,[.tmp 2]⟩
@[simp] def s61:=pkS (q61.eq_1)
attribute [simp] Tryz.f61
noncomputable def L_sawline_cloneSolid:LD:=zlp q61
noncomputable def R_sawline_cloneSolid:RD:=zrp q61
@[simp] theorem l61:LP Tryz.prog gl q61=L_sawline_cloneSolid:=rfl
theorem L_sawline_cloneSolid_succ(i n:Nat)(s:St):L_sawline_cloneSolid i (n+1) s=andThen (R_sawline_cloneSolid i s) (zhp q61 n i):=LP_succ (by kernel_rfl) i n s
theorem R_sawline_cloneSolid_eq(i:Nat)(s:St):R_sawline_cloneSolid i s=zsp q61 i s:=rfl
noncomputable def F_sawline_cloneSolid:FD:=zfp q61
theorem F_sawline_cloneSolid_eq(ds:List D):F_sawline_cloneSolid ds=zgp q61 ds:=FP_eq (by kernel_rfl) ds
theorem C_sawline_cloneSolid:C_ 61 F_sawline_cloneSolid:=CP mix Tryz.func61 rfl rfl (by kernel_rfl) ⟨NC_slices_Clone_api_Span_api_Span,trivial⟩ ⟨NCE_slices_Clone_api_Slice_api_Slice,trivial⟩
noncomputable def q132:Pk:=⟨⟨[0,2],[4],[5],[],[],some [2],[],[],cr,[],[]⟩,[],[],8,Tryz.f132,[.tmp 2]⟩
@[simp] def s132:=pkS (q132.eq_1)
attribute [simp] Tryz.f132
noncomputable def F_slices_Clone_api_Product_api_Product:FD:=zfp q132
theorem F_slices_Clone_api_Product_api_Product_eq(ds:List D):F_slices_Clone_api_Product_api_Product ds=zgp q132 ds:=FP_eq (by kernel_rfl) ds
theorem C_slices_Clone_api_Product_api_Product:C_ 132 F_slices_Clone_api_Product_api_Product:=CP mix Tryz.func132 rfl rfl (by kernel_rfl) trivial trivial
noncomputable def NF_slices_Clone_api_Product_api_Product(ds:List D):Option D:=nilF F_slices_Clone_api_Product_api_Product (.own true []) ds
theorem NF_slices_Clone_api_Product_api_Product_sl(es:List (List D)):NF_slices_Clone_api_Product_api_Product [.sl es]=if es.length=0 then some (.own true []) else F_slices_Clone_api_Product_api_Product [.sl es]:=Eq.trans rfl rfl
theorem NC_slices_Clone_api_Product_api_Product:C_ 132 NF_slices_Clone_api_Product_api_Product:=fun ds r h=>nilF_ok C_slices_Clone_api_Product_api_Product (fun A c=>by rw[F_slices_Clone_api_Product_api_Product_eq];cases A<;>simp) ds r h
noncomputable def q132e:Pk:=⟨⟨[0,2],[4],[2,5],[],[],some [2],[],[],cr,[],[]⟩,[],[],8,Tryz.f132,[.tmp 2]⟩
@[simp] def s132e:=pkS (q132e.eq_1)
noncomputable def E_slices_Clone_api_Product_api_Product_obj:ED:=zep q132e
theorem E_slices_Clone_api_Product_api_Product_obj_eq(hs:List (Nat×O))(ds:List D):E_slices_Clone_api_Product_api_Product_obj hs ds=zge q132e hs ds:=EP_eq (by kernel_rfl) hs ds
theorem CE_slices_Clone_api_Product_api_Product_obj:CE_ 132 E_slices_Clone_api_Product_api_Product_obj:=CEP mix Tryz.func132 rfl rfl (by kernel_rfl) trivial trivial
noncomputable def NE_slices_Clone_api_Product_api_Product:ED:=nilE (.own true []) E_slices_Clone_api_Product_api_Product_obj
theorem NCE_slices_Clone_api_Product_api_Product:CE_ 132 NE_slices_Clone_api_Product_api_Product:=nilE_ok NC_slices_Clone_api_Product_api_Product (by rw[NF_slices_Clone_api_Product_api_Product_sl];simp) CE_slices_Clone_api_Product_api_Product_obj
noncomputable def q133:Pk:=⟨⟨[0,2],[4],[5],[],[],some [2],[],[],cr,[],[]⟩,[],[],8,Tryz.f133,[.tmp 2]⟩
@[simp] def s133:=pkS (q133.eq_1)
attribute [simp] Tryz.f133
noncomputable def F_slices_Clone_int_int:FD:=zfp q133
theorem F_slices_Clone_int_int_eq(ds:List D):F_slices_Clone_int_int ds=zgp q133 ds:=FP_eq (by kernel_rfl) ds
theorem C_slices_Clone_int_int:C_ 133 F_slices_Clone_int_int:=CP mix Tryz.func133 rfl rfl (by kernel_rfl) trivial trivial
noncomputable def NF_slices_Clone_int_int(ds:List D):Option D:=nilF F_slices_Clone_int_int (.own true []) ds
theorem NF_slices_Clone_int_int_sl(es:List (List D)):NF_slices_Clone_int_int [.sl es]=if es.length=0 then some (.own true []) else F_slices_Clone_int_int [.sl es]:=Eq.trans rfl rfl
theorem NC_slices_Clone_int_int:C_ 133 NF_slices_Clone_int_int:=fun ds r h=>nilF_ok C_slices_Clone_int_int (fun A c=>by rw[F_slices_Clone_int_int_eq];cases A<;>simp) ds r h
noncomputable def q62:Pk:=⟨⟨[0,2,3,7,8],[9],[0],[(3,[0,7,8])],[(0,[0]),(1,[0,7,8])],some [2],[],[(132,false)],cr,[],[]⟩,[(133,NF_slices_Clone_int_int)],[(132,NE_slices_Clone_api_Product_api_Product)],33,Tryz.f62,[.tmp 2]⟩
@[simp] def s62:=pkS (q62.eq_1)
attribute [simp] Tryz.f62
noncomputable def L_sawline_cloneCatalog:LD:=zlp q62
noncomputable def R_sawline_cloneCatalog:RD:=zrp q62
@[simp] theorem l62:LP Tryz.prog gl q62=L_sawline_cloneCatalog:=rfl
theorem L_sawline_cloneCatalog_succ(i n:Nat)(s:St):L_sawline_cloneCatalog i (n+1) s=andThen (R_sawline_cloneCatalog i s) (zhp q62 n i):=LP_succ (by kernel_rfl) i n s
theorem R_sawline_cloneCatalog_eq(i:Nat)(s:St):R_sawline_cloneCatalog i s=zsp q62 i s:=rfl
noncomputable def F_sawline_cloneCatalog:FD:=zfp q62
theorem F_sawline_cloneCatalog_eq(ds:List D):F_sawline_cloneCatalog ds=zgp q62 ds:=FP_eq (by kernel_rfl) ds
theorem C_sawline_cloneCatalog:C_ 62 F_sawline_cloneCatalog:=CP mix Tryz.func62 rfl rfl (by kernel_rfl) ⟨NC_slices_Clone_int_int,trivial⟩ ⟨NCE_slices_Clone_api_Product_api_Product,trivial⟩
noncomputable def q64(self:ED):Pk:=⟨⟨[0,1,4,5],[23],[],[],[],some [4],[],[(64,false)],cr,[],[]⟩,[],[(64,self)],46,Tryz.f64,[.tmp 4]⟩
@[simp] def s64(self:ED):=pkS (q64.eq_1 self)
attribute [simp] Tryz.f64
noncomputable def EN_sawline_Line_link:Nat→ED
 |0=>fun _ _=>none
 |n+1=>zep (q64 (EN_sawline_Line_link n))
theorem EN_sawline_Line_link_eq(n:Nat)(hs:List (Nat×O))(ds:List D):EN_sawline_Line_link (n+1) hs ds=zge (q64 (EN_sawline_Line_link n)) hs ds:=EP_eq (by kernel_rfl) hs ds
theorem CEN_sawline_Line_link:∀n,CE_ 64 (EN_sawline_Line_link n)
 |0=>fun _ _ _ _ h=>by cases h
 |n+1=>CEP mix Tryz.func64 rfl rfl (by kernel_rfl) trivial ⟨CEN_sawline_Line_link n,trivial⟩
noncomputable def E_sawline_Line_link:ED:=EN_sawline_Line_link 100000
theorem CE_sawline_Line_link:CE_ 64 E_sawline_Line_link:=CEN_sawline_Line_link 100000
noncomputable def q226:Pk:=⟨⟨[2,3,4],[],[],[],[],some [4],[],[],cr,[],[]⟩,[],[],13,Tryz.f226,[.cell 4 51]⟩
@[simp] def s226:=pkS (q226.eq_1)
attribute [simp] Tryz.f226
noncomputable def F_worth_view_box:FD:=zfp q226
theorem F_worth_view_box_eq(ds:List D):F_worth_view_box ds=zgp q226 ds:=FP_eq (by kernel_rfl) ds
theorem C_worth_view_box:C_ 226 F_worth_view_box:=CP mix Tryz.func226 rfl rfl (by kernel_rfl) trivial trivial
noncomputable def q227:Pk:=⟨⟨[2,3,4,6],[],[],[],[],some [4],[],[],cr,[],[]⟩,[(74,F_defect_meet)],[],15,Tryz.f227,[.tmp 4]⟩
@[simp] def s227:=pkS (q227.eq_1)
attribute [simp] Tryz.f227
noncomputable def F_defect_Touches:FD:=zfp q227
theorem F_defect_Touches_eq(ds:List D):F_defect_Touches ds=zgp q227 ds:=FP_eq (by kernel_rfl) ds
theorem C_defect_Touches:C_ 227 F_defect_Touches:=CP mix Tryz.func227 rfl rfl (by kernel_rfl) ⟨C_defect_meet,trivial⟩ trivial
noncomputable def q195:Pk:=⟨⟨[0,1,6,7,8,9,10,11,12,13,14,16,83,84,85],[35,68,86,91],[93],[(10,[8,13,14,83,84,85])],[(0,[8,13]),(1,[8,13,14,83,84,85])],some [8,9],[(7,9)],[],[(115,0,208,2),(311,13,53,7)],[],[]⟩,[(63,F_solid_Length),(72,F_defect_Check),(76,F_solid_Check),(77,F_worth_isRect),(80,F_worth_lacks),(81,F_product_Check),(147,F_product_Green),(226,F_worth_view_box),(227,F_defect_Touches)],[],100,Tryz.f195,[.cell 8 311,.tmp 9]⟩
@[simp] def s195:=pkS (q195.eq_1)
attribute [simp] Tryz.f195
noncomputable def L_worth_look:LD:=zlp q195
noncomputable def R_worth_look:RD:=zrp q195
@[simp] theorem l195:LP Tryz.prog gl q195=L_worth_look:=rfl
theorem L_worth_look_succ(i n:Nat)(s:St):L_worth_look i (n+1) s=andThen (R_worth_look i s) (zhp q195 n i):=LP_succ (by kernel_rfl) i n s
theorem R_worth_look_eq(i:Nat)(s:St):R_worth_look i s=zsp q195 i s:=rfl
noncomputable def F_worth_look:FD:=zfp q195
theorem F_worth_look_eq(ds:List D):F_worth_look ds=zgp q195 ds:=FP_eq (by kernel_rfl) ds
theorem C_worth_look:C_ 195 F_worth_look:=CP mix Tryz.func195 rfl rfl (by kernel_rfl) ⟨C_solid_Length,C_defect_Check,C_solid_Check,C_worth_isRect,C_worth_lacks,C_product_Check,C_product_Green,C_worth_view_box,C_defect_Touches,trivial⟩ trivial
noncomputable def q228:Pk:=⟨⟨[2,4,5,6,7,9,10,11],[12,18,23],[],[(2,[1,2,9,10,11])],[(0,[]),(1,[1,2,9,10,11])],some [4,5],[],[],cr,[],[]⟩,[],[],30,Tryz.f228,[.tmp 4,.tmp 5]⟩
@[simp] def s228:=pkS (q228.eq_1)
attribute [simp] Tryz.f228
noncomputable def L_product_Price:LD:=zlp q228
noncomputable def R_product_Price:RD:=zrp q228
@[simp] theorem l228:LP Tryz.prog gl q228=L_product_Price:=rfl
theorem L_product_Price_succ(i n:Nat)(s:St):L_product_Price i (n+1) s=andThen (R_product_Price i s) (zhp q228 n i):=LP_succ (by kernel_rfl) i n s
theorem R_product_Price_eq(i:Nat)(s:St):R_product_Price i s=zsp q228 i s:=rfl
noncomputable def F_product_Price:FD:=zfp q228
theorem F_product_Price_eq(ds:List D):F_product_Price ds=zgp q228 ds:=FP_eq (by kernel_rfl) ds
theorem C_product_Price:C_ 228 F_product_Price:=CP mix Tryz.func228 rfl rfl (by kernel_rfl) trivial trivial
noncomputable def q196:Pk:=⟨⟨[3,4,6,7,8,9,10,12,45,46,47],[17,40,48,54,57],[],[(8,[2,8,10,45,46,47])],[(0,[8]),(1,[2,8,10,45,46,47])],some [6,7],[(4,10)],[],cr,[],[]⟩,[(78,F_worth_isWithin),(79,F_worth_worst),(226,F_worth_view_box),(227,F_defect_Touches),(228,F_product_Price)],[],64,Tryz.f196,[.tmp 6,.tmp 7]⟩
@[simp] def s196:=pkS (q196.eq_1)
attribute [simp] Tryz.f196
noncomputable def L_worth_view_worth:LD:=zlp q196
noncomputable def R_worth_view_worth:RD:=zrp q196
@[simp] theorem l196:LP Tryz.prog gl q196=L_worth_view_worth:=rfl
theorem L_worth_view_worth_succ(i n:Nat)(s:St):L_worth_view_worth i (n+1) s=andThen (R_worth_view_worth i s) (zhp q196 n i):=LP_succ (by kernel_rfl) i n s
theorem R_worth_view_worth_eq(i:Nat)(s:St):R_worth_view_worth i s=zsp q196 i s:=rfl
noncomputable def F_worth_view_worth:FD:=zfp q196
theorem F_worth_view_worth_eq(ds:List D):F_worth_view_worth ds=zgp q196 ds:=FP_eq (by kernel_rfl) ds
theorem C_worth_view_worth:C_ 196 F_worth_view_worth:=CP mix Tryz.func196 rfl rfl (by kernel_rfl) ⟨C_worth_isWithin,C_worth_worst,C_worth_view_box,C_defect_Touches,C_product_Price,trivial⟩ trivial
noncomputable def q134:Pk:=⟨⟨[4,5,8,9,12,13,14,15,16,17,18,19,20,22,23,24,25,54,55,56],[33,44,49,57,81],[],[(9,[4,5,8,12,15,17,18,19,20]),(12,[4,5,8,12,15,17,18,19,20,54,55,56])],[(0,[12,17,18,19]),(1,[4,5,8,12,15,17,18,19,20]),(2,[4,5,8,12,15,17,18,19,20]),(3,[4,5,8,12,15,17,18,19,20,54,55,56])],some [12,13,14],[],[],cr,[],[]⟩,[(187,F_worth_isStep),(188,F_worth_isFine),(195,F_worth_look),(196,F_worth_view_worth)],[],88,Tryz.f134,[.cell 12 34,.tmp 13,.tmp 14]⟩
@[simp] def s134:=pkS (q134.eq_1)
attribute [simp] Tryz.f134
noncomputable def L_worth_Best:LD:=zlp q134
noncomputable def R_worth_Best:RD:=zrp q134
@[simp] theorem l134:LP Tryz.prog gl q134=L_worth_Best:=rfl
theorem L_worth_Best_succ(i n:Nat)(s:St):L_worth_Best i (n+1) s=andThen (R_worth_Best i s) (zhp q134 n i):=LP_succ (by kernel_rfl) i n s
theorem R_worth_Best_eq(i:Nat)(s:St):R_worth_Best i s=zsp q134 i s:=rfl
noncomputable def F_worth_Best:FD:=zfp q134
theorem F_worth_Best_eq(ds:List D):F_worth_Best ds=zgp q134 ds:=FP_eq (by kernel_rfl) ds
theorem C_worth_Best:C_ 134 F_worth_Best:=CP mix Tryz.func134 rfl rfl (by kernel_rfl) ⟨C_worth_isStep,C_worth_isFine,C_worth_look,C_worth_view_worth,trivial⟩ trivial
noncomputable def q65:Pk:=⟨⟨[0,5,6,7,8,9,10,11],[29,75,125],[],[],[],some [],[(2,0),(4,27),(7,37),(10,17)],[],cr,[(2,(.alt 0 (.alt 1 (.dag [[[(0,2)],[(0,3)]],[[(0,3),(1,2)],[(1,4)]],[[(0,4),(1,2)],[(1,5)]],[[(0,5),(1,2)]],[[(0,6)]],[[(0,7)]],[[(0,8)]]]) .leaf) .leaf))],[1000000]⟩,[(134,F_worth_Best)],[],148,Tryz.f65,[]⟩
@[simp] def s65:=pkS (q65.eq_1)
attribute [simp] Tryz.f65
noncomputable def E_sawline_Line_stand:ED:=zep q65
theorem E_sawline_Line_stand_eq(hs:List (Nat×O))(ds:List D):E_sawline_Line_stand hs ds=zge q65 hs ds:=EP_eq (by kernel_rfl) hs ds
theorem CE_sawline_Line_stand:CE_ 65 E_sawline_Line_stand:=CEP mix Tryz.func65 rfl rfl (by kernel_rfl) ⟨C_worth_Best,trivial⟩ trivial
noncomputable def q26:Pk:=⟨⟨[0,1,4,5,6,7,8,9,10,11,12,13,14],[16,22,48,73],[118],[],[],some [4],[(5,13),(10,18),(13,11),(18,0)],[(65,false)],[(115,0,208,2),(175,13,36,4)],[(18,(.alt 0 (.alt 1 (.dag [[[(0,2)],[(0,5)]],[[(0,3)],[(0,5),(1,2)],[(1,6)]],[[(0,4)],[(0,5),(1,3)],[(1,6),(2,2)]],[[(0,5),(1,4)],[(1,6),(2,3)]],[[(0,6),(1,4)]],[[(0,7)]],[[(0,8)]],[[(0,9)]],[[(0,10)]]]) .leaf) .leaf))],[1000000]⟩,[],[(65,E_sawline_Line_stand)],134,Tryz.f26,[.tmp 4]⟩
@[simp] def s26:=pkS (q26.eq_1)
attribute [simp] Tryz.f26
noncomputable def E_sawline_Line_Cut:ED:=zep q26
theorem E_sawline_Line_Cut_eq(hs:List (Nat×O))(ds:List D):E_sawline_Line_Cut hs ds=zge q26 hs ds:=EP_eq (by kernel_rfl) hs ds
theorem CE_sawline_Line_Cut:CE_ 26 E_sawline_Line_Cut:=CEP mix Tryz.func26 rfl rfl (by kernel_rfl) trivial ⟨CE_sawline_Line_stand,trivial⟩
noncomputable def q27:Pk:=⟨⟨[0,2,3,5,11,12,13],[7,14,18],[3],[(5,[3,11,12,13])],[(0,[3]),(1,[3,11,12,13])],some [2],[],[],cr,[],[]⟩,[],[],26,Tryz.f27,[.tmp 2]⟩
@[simp] def s27:=pkS (q27.eq_1)
attribute [simp] Tryz.f27
noncomputable def L_sawline_Line_Boards:LD:=zlp q27
noncomputable def R_sawline_Line_Boards:RD:=zrp q27
@[simp] theorem l27:LP Tryz.prog gl q27=L_sawline_Line_Boards:=rfl
theorem L_sawline_Line_Boards_succ(i n:Nat)(s:St):L_sawline_Line_Boards i (n+1) s=andThen (R_sawline_Line_Boards i s) (zhp q27 n i):=LP_succ (by kernel_rfl) i n s
theorem R_sawline_Line_Boards_eq(i:Nat)(s:St):R_sawline_Line_Boards i s=zsp q27 i s:=rfl
noncomputable def F_sawline_Line_Boards:FD:=zfp q27
theorem F_sawline_Line_Boards_eq(ds:List D):F_sawline_Line_Boards ds=zgp q27 ds:=FP_eq (by kernel_rfl) ds
theorem C_sawline_Line_Boards:C_ 27 F_sawline_Line_Boards:=CP mix Tryz.func27 rfl rfl (by kernel_rfl) trivial trivial
noncomputable def q66:Pk:=⟨⟨[2,3,4,5],[21],[],[],[],some [4],[],[],cr,[],[]⟩,[],[],24,Tryz.f66,[.cell 4 34]⟩
@[simp] def s66:=pkS (q66.eq_1)
attribute [simp] Tryz.f66
noncomputable def F_ref03_Meet:FD:=zfp q66
theorem F_ref03_Meet_eq(ds:List D):F_ref03_Meet ds=zgp q66 ds:=FP_eq (by kernel_rfl) ds
theorem C_ref03_Meet:C_ 66 F_ref03_Meet:=CP mix Tryz.func66 rfl rfl (by kernel_rfl) trivial trivial
noncomputable def q29:Pk:=⟨⟨[2,3,4],[],[],[],[],some [4],[(1,14)],[],cr,[],[]⟩,[(66,F_ref03_Meet)],[],21,Tryz.f29,[.cell 4 51]⟩
@[simp] def s29:=pkS (q29.eq_1)
attribute [simp] Tryz.f29
noncomputable def F_ref13_Meet:FD:=zfp q29
theorem F_ref13_Meet_eq(ds:List D):F_ref13_Meet ds=zgp q29 ds:=FP_eq (by kernel_rfl) ds
theorem C_ref13_Meet:C_ 29 F_ref13_Meet:=CP mix Tryz.func29 rfl rfl (by kernel_rfl) ⟨C_ref03_Meet,trivial⟩ trivial
noncomputable def q9:Pk:=⟨⟨[2,3,4],[],[],[],[],some [4],[],[],cr,[],[]⟩,[(28,F_ref13_Empty),(29,F_ref13_Meet)],[],11,Tryz.f9,[.tmp 4]⟩
@[simp] def s9:=pkS (q9.eq_1)
attribute [simp] Tryz.f9
noncomputable def F_ref13_Touches:FD:=zfp q9
theorem F_ref13_Touches_eq(ds:List D):F_ref13_Touches ds=zgp q9 ds:=FP_eq (by kernel_rfl) ds
theorem C_ref13_Touches:C_ 9 F_ref13_Touches:=CP mix Tryz.func9 rfl rfl (by kernel_rfl) ⟨C_ref13_Empty,C_ref13_Meet,trivial⟩ trivial
noncomputable def q37:Pk:=⟨⟨[0,1,4,5,12,13],[10,14,24],[],[(4,[0,1,12,13])],[(0,[]),(1,[0,1,12,13])],some [4],[(6,8)],[],cr,[],[]⟩,[],[],26,Tryz.f37,[.tmp 4]⟩
@[simp] def s37:=pkS (q37.eq_1)
attribute [simp] Tryz.f37
noncomputable def L_slices_Equal_api_Defect_api_Defect:LD:=zlp q37
noncomputable def R_slices_Equal_api_Defect_api_Defect:RD:=zrp q37
@[simp] theorem l37:LP Tryz.prog gl q37=L_slices_Equal_api_Defect_api_Defect:=rfl
theorem L_slices_Equal_api_Defect_api_Defect_succ(i n:Nat)(s:St):L_slices_Equal_api_Defect_api_Defect i (n+1) s=andThen (R_slices_Equal_api_Defect_api_Defect i s) (zhp q37 n i):=LP_succ (by kernel_rfl) i n s
theorem R_slices_Equal_api_Defect_api_Defect_eq(i:Nat)(s:St):R_slices_Equal_api_Defect_api_Defect i s=zsp q37 i s:=rfl
noncomputable def F_slices_Equal_api_Defect_api_Defect:FD:=zfp q37
theorem F_slices_Equal_api_Defect_api_Defect_eq(ds:List D):F_slices_Equal_api_Defect_api_Defect ds=zgp q37 ds:=FP_eq (by kernel_rfl) ds
theorem C_slices_Equal_api_Defect_api_Defect:C_ 37 F_slices_Equal_api_Defect_api_Defect:=CP mix Tryz.func37 rfl rfl (by kernel_rfl) trivial trivial
noncomputable def q12:Pk:=⟨⟨[2,3,4],[],[],[],[],some [4],[],[],cr,[],[]⟩,[(37,F_slices_Equal_api_Defect_api_Defect)],[],80,Tryz.f12,[.tmp 4]⟩
@[simp] def s12:=pkS (q12.eq_1)
attribute [simp] Tryz.f12
noncomputable def F_board_Same:FD:=zfp q12
theorem F_board_Same_eq(ds:List D):F_board_Same ds=zgp q12 ds:=FP_eq (by kernel_rfl) ds
theorem C_board_Same:C_ 12 F_board_Same:=CP mix Tryz.func12 rfl rfl (by kernel_rfl) ⟨C_slices_Equal_api_Defect_api_Defect,trivial⟩ trivial
end Go.Proofs.YtbdgblipbpadeaaGreatDoor
