import Derived.Test.YtjackggnnjdhmaaGreatDoorCG15
import Derived.KernelRfl
namespace Go.Proofs.YtjackggnnjdhmaaGreatDoor
open Go.Ab
set_option linter.unusedVariables false
noncomputable def noRun : RunT := fun _ _ _ => false
theorem noRun_ok (f : FuncId) : RunOK Tryz.prog f noRun := fun _ _ _ _ _ _ _ hk => by cases hk
theorem r0_ok : EntOK Tryz.prog 80 r0 := entRun_ok (runOK_grun ovS_ok 60 80) (by kernel_rfl)
theorem r3_ok : EntOK Tryz.prog 80 r3 := entRun_ok (runOK_grun ovS_ok 60 80) (by kernel_rfl)
theorem r55_ok : EntOK Tryz.prog 80 r55 := entRun_ok (runOK_grun ovS_ok 60 80) (by kernel_rfl)
noncomputable def ov1 : Ovr := ovAdd 80 (eMemo [r0, r3, r55] noRun) ovS
theorem ov1_ok : OvrOK Tryz.prog ov1 := ovAdd_ok (eMemo_ok (by
 intro x hx
 simp only [List.mem_cons, List.not_mem_nil, or_false] at hx
 rcases hx with rfl | rfl | rfl
 ·exact r0_ok
 ·exact r3_ok
 ·exact r55_ok) (noRun_ok 80)) ovS_ok
theorem r7_ok : EntOK Tryz.prog 208 r7 := entRun_ok (runOK_grun ov1_ok 60 208) (by kernel_rfl)
theorem r9_ok : EntOK Tryz.prog 208 r9 := entRun_ok (runOK_grun ov1_ok 60 208) (by kernel_rfl)
theorem r11_ok : EntOK Tryz.prog 208 r11 := entRun_ok (runOK_grun ov1_ok 60 208) (by kernel_rfl)
theorem r13_ok : EntOK Tryz.prog 208 r13 := entRun_ok (runOK_grun ov1_ok 60 208) (by kernel_rfl)
theorem r15_ok : EntOK Tryz.prog 208 r15 := entRun_ok (runOK_grun ov1_ok 60 208) (by kernel_rfl)
theorem r17_ok : EntOK Tryz.prog 208 r17 := entRun_ok (runOK_grun ov1_ok 60 208) (by kernel_rfl)
theorem r19_ok : EntOK Tryz.prog 208 r19 := entRun_ok (runOK_grun ov1_ok 60 208) (by kernel_rfl)
theorem r21_ok : EntOK Tryz.prog 208 r21 := entRun_ok (runOK_grun ov1_ok 60 208) (by kernel_rfl)
theorem r23_ok : EntOK Tryz.prog 208 r23 := entRun_ok (runOK_grun ov1_ok 60 208) (by kernel_rfl)
theorem r25_ok : EntOK Tryz.prog 208 r25 := entRun_ok (runOK_grun ov1_ok 60 208) (by kernel_rfl)
theorem r5_ok : EntOK Tryz.prog 126 r5 := entRun_ok (runOK_grun ov1_ok 60 126) (by kernel_rfl)
theorem r54_ok : EntOK Tryz.prog 126 r54 := entRun_ok (runOK_grun ov1_ok 60 126) (by kernel_rfl)
theorem r6_ok : EntOK Tryz.prog 155 r6 := entRun_ok (runOK_grun ov1_ok 60 155) (by kernel_rfl)
noncomputable def ov2 : Ovr := ovAdd 208 (eMemo [r7, r9, r11, r13, r15, r17, r19, r21, r23, r25] noRun) ov1
theorem ov2_ok : OvrOK Tryz.prog ov2 := ovAdd_ok (eMemo_ok (by
 intro x hx
 simp only [List.mem_cons, List.not_mem_nil, or_false] at hx
 rcases hx with rfl | rfl | rfl | rfl | rfl | rfl | rfl | rfl | rfl | rfl
 ·exact r7_ok
 ·exact r9_ok
 ·exact r11_ok
 ·exact r13_ok
 ·exact r15_ok
 ·exact r17_ok
 ·exact r19_ok
 ·exact r21_ok
 ·exact r23_ok
 ·exact r25_ok) (noRun_ok 208)) ov1_ok
noncomputable def ov3 : Ovr := ovAdd 126 (eMemo [r5, r54] noRun) ov2
theorem ov3_ok : OvrOK Tryz.prog ov3 := ovAdd_ok (eMemo_ok (by
 intro x hx
 simp only [List.mem_cons, List.not_mem_nil, or_false] at hx
 rcases hx with rfl | rfl
 ·exact r5_ok
 ·exact r54_ok) (noRun_ok 126)) ov2_ok
noncomputable def ov4 : Ovr := ovAdd 155 (eMemo [r6] noRun) ov3
theorem ov4_ok : OvrOK Tryz.prog ov4 := ovAdd_ok (eMemo_ok (by
 intro x hx
 simp only [List.mem_cons, List.not_mem_nil, or_false] at hx
 subst hx
 exact r6_ok) (noRun_ok 155)) ov3_ok
theorem r8_ok : EntOK Tryz.prog 339 r8 := entRun_ok (runOK_grun ov4_ok 60 339) (by kernel_rfl)
theorem r10_ok : EntOK Tryz.prog 339 r10 := entRun_ok (runOK_grun ov4_ok 60 339) (by kernel_rfl)
theorem r12_ok : EntOK Tryz.prog 339 r12 := entRun_ok (runOK_grun ov4_ok 60 339) (by kernel_rfl)
theorem r14_ok : EntOK Tryz.prog 339 r14 := entRun_ok (runOK_grun ov4_ok 60 339) (by kernel_rfl)
theorem r16_ok : EntOK Tryz.prog 339 r16 := entRun_ok (runOK_grun ov4_ok 60 339) (by kernel_rfl)
theorem r18_ok : EntOK Tryz.prog 339 r18 := entRun_ok (runOK_grun ov4_ok 60 339) (by kernel_rfl)
theorem r20_ok : EntOK Tryz.prog 339 r20 := entRun_ok (runOK_grun ov4_ok 60 339) (by kernel_rfl)
theorem r22_ok : EntOK Tryz.prog 339 r22 := entRun_ok (runOK_grun ov4_ok 60 339) (by kernel_rfl)
theorem r24_ok : EntOK Tryz.prog 339 r24 := entRun_ok (runOK_grun ov4_ok 60 339) (by kernel_rfl)
theorem r26_ok : EntOK Tryz.prog 339 r26 := entRun_ok (runOK_grun ov4_ok 60 339) (by kernel_rfl)
noncomputable def ov5 : Ovr := ovAdd 339 (eMemo [r8, r10, r12, r14, r16, r18, r20, r22, r24, r26] noRun) ov4
theorem ov5_ok : OvrOK Tryz.prog ov5 := ovAdd_ok (eMemo_ok (by
 intro x hx
 simp only [List.mem_cons, List.not_mem_nil, or_false] at hx
 rcases hx with rfl | rfl | rfl | rfl | rfl | rfl | rfl | rfl | rfl | rfl
 ·exact r8_ok
 ·exact r10_ok
 ·exact r12_ok
 ·exact r14_ok
 ·exact r16_ok
 ·exact r18_ok
 ·exact r20_ok
 ·exact r22_ok
 ·exact r24_ok
 ·exact r26_ok) (noRun_ok 339)) ov4_ok
theorem r27_ok : EntOK Tryz.prog 273 r27 := entRun_ok (runOK_grun ov5_ok 60 273) (by kernel_rfl)
theorem r40_ok : EntOK Tryz.prog 430 r40 := entRun_ok (runOK_grun ov5_ok 60 430) (by kernel_rfl)
theorem r41_ok : EntOK Tryz.prog 419 r41 := entRun_ok (runOK_grun ov5_ok 60 419) (by kernel_rfl)
noncomputable def ov6 : Ovr := ovAdd 273 (eMemo [r27] noRun) ov5
theorem ov6_ok : OvrOK Tryz.prog ov6 := ovAdd_ok (eMemo_ok (by
 intro x hx
 simp only [List.mem_cons, List.not_mem_nil, or_false] at hx
 subst hx
 exact r27_ok) (noRun_ok 273)) ov5_ok
noncomputable def ov7 : Ovr := ovAdd 430 (eMemo [r40] noRun) ov6
theorem ov7_ok : OvrOK Tryz.prog ov7 := ovAdd_ok (eMemo_ok (by
 intro x hx
 simp only [List.mem_cons, List.not_mem_nil, or_false] at hx
 subst hx
 exact r40_ok) (noRun_ok 430)) ov6_ok
noncomputable def ov8 : Ovr := ovAdd 419 (eMemo [r41] noRun) ov7
theorem ov8_ok : OvrOK Tryz.prog ov8 := ovAdd_ok (eMemo_ok (by
 intro x hx
 simp only [List.mem_cons, List.not_mem_nil, or_false] at hx
 subst hx
 exact r41_ok) (noRun_ok 419)) ov7_ok
theorem r28_ok : EntOK Tryz.prog 156 r28 := entRun_ok (runOK_grun ov8_ok 60 156) (by kernel_rfl)
theorem r29_ok : EntOK Tryz.prog 156 r29 := entRun_ok (runOK_grun ov8_ok 60 156) (by kernel_rfl)
theorem r30_ok : EntOK Tryz.prog 156 r30 := entRun_ok (runOK_grun ov8_ok 60 156) (by kernel_rfl)
theorem r31_ok : EntOK Tryz.prog 156 r31 := entRun_ok (runOK_grun ov8_ok 60 156) (by kernel_rfl)
theorem r32_ok : EntOK Tryz.prog 156 r32 := entRun_ok (runOK_grun ov8_ok 60 156) (by kernel_rfl)
theorem r33_ok : EntOK Tryz.prog 156 r33 := entRun_ok (runOK_grun ov8_ok 60 156) (by kernel_rfl)
theorem r34_ok : EntOK Tryz.prog 156 r34 := entRun_ok (runOK_grun ov8_ok 60 156) (by kernel_rfl)
theorem r35_ok : EntOK Tryz.prog 156 r35 := entRun_ok (runOK_grun ov8_ok 60 156) (by kernel_rfl)
theorem r36_ok : EntOK Tryz.prog 156 r36 := entRun_ok (runOK_grun ov8_ok 60 156) (by kernel_rfl)
theorem r37_ok : EntOK Tryz.prog 156 r37 := entRun_ok (runOK_grun ov8_ok 60 156) (by kernel_rfl)
noncomputable def ov9 : Ovr := ovAdd 156 (eMemo [r28, r29, r30, r31, r32, r33, r34, r35, r36, r37] noRun) ov8
theorem ov9_ok : OvrOK Tryz.prog ov9 := ovAdd_ok (eMemo_ok (by
 intro x hx
 simp only [List.mem_cons, List.not_mem_nil, or_false] at hx
 rcases hx with rfl | rfl | rfl | rfl | rfl | rfl | rfl | rfl | rfl | rfl
 ·exact r28_ok
 ·exact r29_ok
 ·exact r30_ok
 ·exact r31_ok
 ·exact r32_ok
 ·exact r33_ok
 ·exact r34_ok
 ·exact r35_ok
 ·exact r36_ok
 ·exact r37_ok) (noRun_ok 156)) ov8_ok
noncomputable abbrev ovP : Ovr := ov9
theorem ovP_ok : OvrOK Tryz.prog ovP := ov9_ok
theorem espQ_ok (f : FuncId) : RunOK Tryz.prog f (espfun Tryz.prog slotsOf (grun Tryz.prog slotsOf ovP 60) f) := esp_ok ovP_ok f
noncomputable def ovQ : Ovr := ovAdd 178 (espfun Tryz.prog slotsOf (grun Tryz.prog slotsOf ovP 60) 178) (ovAdd 426 (espfun Tryz.prog slotsOf (grun Tryz.prog slotsOf ovP 60) 426) (ovAdd 429 (espfun Tryz.prog slotsOf (grun Tryz.prog slotsOf ovP 60) 429) (ovAdd 437 (espfun Tryz.prog slotsOf (grun Tryz.prog slotsOf ovP 60) 437) (ovAdd 682 (espfun Tryz.prog slotsOf (grun Tryz.prog slotsOf ovP 60) 682) ovP))))
theorem ovQ_ok : OvrOK Tryz.prog ovQ := (ovAdd_ok (espQ_ok 178) (ovAdd_ok (espQ_ok 426) (ovAdd_ok (espQ_ok 429) (ovAdd_ok (espQ_ok 437) (ovAdd_ok (espQ_ok 682) ovP_ok)))))
theorem espR_ok (f : FuncId) : RunOK Tryz.prog f (espfun Tryz.prog slotsOf (grun Tryz.prog slotsOf ovQ 60) f) := esp_ok ovQ_ok f
noncomputable def ovR : Ovr := ovAdd 178 (espfun Tryz.prog slotsOf (grun Tryz.prog slotsOf ovQ 60) 178) (ovAdd 426 (espfun Tryz.prog slotsOf (grun Tryz.prog slotsOf ovQ 60) 426) (ovAdd 429 (espfun Tryz.prog slotsOf (grun Tryz.prog slotsOf ovQ 60) 429) (ovAdd 437 (espfun Tryz.prog slotsOf (grun Tryz.prog slotsOf ovQ 60) 437) (ovAdd 682 (espfun Tryz.prog slotsOf (grun Tryz.prog slotsOf ovQ 60) 682) ovQ))))
theorem ovR_ok : OvrOK Tryz.prog ovR := (ovAdd_ok (espR_ok 178) (ovAdd_ok (espR_ok 426) (ovAdd_ok (espR_ok 429) (ovAdd_ok (espR_ok 437) (ovAdd_ok (espR_ok 682) ovQ_ok)))))
noncomputable def runP (f : FuncId) : RunT := grun Tryz.prog slotsOf ovR 60 f
theorem runP_ok (f : FuncId) : RunOK Tryz.prog f (runP f) := runOK_grun ovR_ok 60 f
end Go.Proofs.YtjackggnnjdhmaaGreatDoor
