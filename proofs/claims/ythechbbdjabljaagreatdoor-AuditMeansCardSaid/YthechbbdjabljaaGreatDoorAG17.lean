import Derived.Test.YthechbbdjabljaaGreatDoorAG16
import Derived.KernelRfl
open Go.Proofs.Tryz renaming prog->aa
open List renaming mem_cons->ae,not_mem_nil->ad
set_option linter.unusedVariables false
noncomputable section
namespace Go.Proofs.YthechbbdjabljaaGreatDoor
open Go.Ab
def U0:RunT:=λ_ _ _=>false
theorem UJ(f:FuncId):Vd aa f U0:=λ_ _ _ _ _ _ _ hk=>by cases hk
theorem alX:XH aa 47 r0:=Xz (Yl yG 60 47) (by kernel_rfl)
theorem alV:XH aa 47 r4:=Xz (Yl yG 60 47) (by kernel_rfl)
theorem aki:XH aa 47 r54:=Xz (Yl yG 60 47) (by kernel_rfl)
def ov1:Yb:=XT 47 (Pr [r0,r4,r54] U0) ovS
theorem R6:Xk aa ov1:=XI (Ny (by intro x hx;simp only[ae,ad,or_false]at hx;rcases hx with rfl|rfl|rfl;(·exact alX);(·exact alV);·exact aki) (UJ 47)) yG
theorem alS:XH aa 131 r8:=Xz (Yl R6 60 131) (by kernel_rfl)
theorem akN:XH aa 131 r10:=Xz (Yl R6 60 131) (by kernel_rfl)
theorem akL:XH aa 131 r12:=Xz (Yl R6 60 131) (by kernel_rfl)
theorem akJ:XH aa 131 r14:=Xz (Yl R6 60 131) (by kernel_rfl)
theorem akH:XH aa 131 r16:=Xz (Yl R6 60 131) (by kernel_rfl)
theorem akF:XH aa 131 r18:=Xz (Yl R6 60 131) (by kernel_rfl)
theorem akD:XH aa 131 r20:=Xz (Yl R6 60 131) (by kernel_rfl)
theorem akB:XH aa 131 r22:=Xz (Yl R6 60 131) (by kernel_rfl)
theorem akz:XH aa 131 r24:=Xz (Yl R6 60 131) (by kernel_rfl)
theorem akx:XH aa 131 r26:=Xz (Yl R6 60 131) (by kernel_rfl)
theorem alU:XH aa 94 r6:=Xz (Yl R6 60 94) (by kernel_rfl)
theorem alW:XH aa 20 r1:=Xz (Yl R6 60 20) (by kernel_rfl)
theorem alT:XH aa 20 r7:=Xz (Yl R6 60 20) (by kernel_rfl)
def ov2:Yb:=XT 131 (Pr [r8,r10,r12,r14,r16,r18,r20,r22,r24,r26] U0) ov1
theorem akV:Xk aa ov2:=XI (Ny (by intro x hx;simp only[ae,ad,or_false]at hx;rcases hx with rfl|rfl|rfl|rfl|rfl|rfl|rfl|rfl|rfl|rfl;(·exact alS);(·exact akN);(·exact akL);(·exact akJ);(·exact akH);(·exact akF);(·exact akD);(·exact akB);(·exact akz);·exact akx) (UJ 131)) R6
def ov3:Yb:=XT 94 (Pr [r6] U0) ov2
theorem akU:Xk aa ov3:=XI (Ny (by intro x hx;simp only[ae,ad,or_false]at hx;subst hx;exact alU) (UJ 94)) akV
def ov4:Yb:=XT 20 (Pr [r1,r7] U0) ov3
theorem PD:Xk aa ov4:=XI (Ny (by intro x hx;simp only[ae,ad,or_false]at hx;rcases hx with rfl|rfl;(·exact alW);·exact alT) (UJ 20)) akU
theorem alR:XH aa 235 r9:=Xz (Yl PD 60 235) (by kernel_rfl)
theorem akM:XH aa 235 r11:=Xz (Yl PD 60 235) (by kernel_rfl)
theorem akK:XH aa 235 r13:=Xz (Yl PD 60 235) (by kernel_rfl)
theorem akI:XH aa 235 r15:=Xz (Yl PD 60 235) (by kernel_rfl)
theorem akG:XH aa 235 r17:=Xz (Yl PD 60 235) (by kernel_rfl)
theorem akE:XH aa 235 r19:=Xz (Yl PD 60 235) (by kernel_rfl)
theorem akC:XH aa 235 r21:=Xz (Yl PD 60 235) (by kernel_rfl)
theorem akA:XH aa 235 r23:=Xz (Yl PD 60 235) (by kernel_rfl)
theorem aky:XH aa 235 r25:=Xz (Yl PD 60 235) (by kernel_rfl)
theorem akw:XH aa 235 r27:=Xz (Yl PD 60 235) (by kernel_rfl)
def ov5:Yb:=XT 235 (Pr [r9,r11,r13,r15,r17,r19,r21,r23,r25,r27] U0) ov4
theorem yF:Xk aa ov5:=XI (Ny (by intro x hx;simp only[ae,ad,or_false]at hx;rcases hx with rfl|rfl|rfl|rfl|rfl|rfl|rfl|rfl|rfl|rfl;(·exact alR);(·exact akM);(·exact akK);(·exact akI);(·exact akG);(·exact akE);(·exact akC);(·exact akA);(·exact aky);·exact akw) (UJ 235)) PD
theorem akv:XH aa 183 r28:=Xz (Yl yF 60 183) (by kernel_rfl)
theorem akk:XH aa 340 r41:=Xz (Yl yF 60 340) (by kernel_rfl)
theorem akj:XH aa 322 r42:=Xz (Yl yF 60 322) (by kernel_rfl)
def ov6:Yb:=XT 183 (Pr [r28] U0) ov5
theorem akT:Xk aa ov6:=XI (Ny (by intro x hx;simp only[ae,ad,or_false]at hx;subst hx;exact akv) (UJ 183)) yF
def ov7:Yb:=XT 340 (Pr [r41] U0) ov6
theorem akS:Xk aa ov7:=XI (Ny (by intro x hx;simp only[ae,ad,or_false]at hx;subst hx;exact akk) (UJ 340)) akT
def ov8:Yb:=XT 322 (Pr [r42] U0) ov7
theorem PE:Xk aa ov8:=XI (Ny (by intro x hx;simp only[ae,ad,or_false]at hx;subst hx;exact akj) (UJ 322)) akS
theorem aku:XH aa 95 r29:=Xz (Yl PE 60 95) (by kernel_rfl)
theorem akt:XH aa 95 r30:=Xz (Yl PE 60 95) (by kernel_rfl)
theorem aks:XH aa 95 r31:=Xz (Yl PE 60 95) (by kernel_rfl)
theorem akr:XH aa 95 r32:=Xz (Yl PE 60 95) (by kernel_rfl)
theorem akq:XH aa 95 r33:=Xz (Yl PE 60 95) (by kernel_rfl)
theorem akp:XH aa 95 r34:=Xz (Yl PE 60 95) (by kernel_rfl)
theorem ako:XH aa 95 r35:=Xz (Yl PE 60 95) (by kernel_rfl)
theorem akn:XH aa 95 r36:=Xz (Yl PE 60 95) (by kernel_rfl)
theorem akm:XH aa 95 r37:=Xz (Yl PE 60 95) (by kernel_rfl)
theorem akl:XH aa 95 r38:=Xz (Yl PE 60 95) (by kernel_rfl)
def ov9:Yb:=XT 95 (Pr [r29,r30,r31,r32,r33,r34,r35,r36,r37,r38] U0) ov8
theorem akR:Xk aa ov9:=XI (Ny (by intro x hx;simp only[ae,ad,or_false]at hx;rcases hx with rfl|rfl|rfl|rfl|rfl|rfl|rfl|rfl|rfl|rfl;(·exact aku);(·exact akt);(·exact aks);(·exact akr);(·exact akq);(·exact akp);(·exact ako);(·exact akn);(·exact akm);·exact akl) (UJ 95)) PE
abbrev Kp:Yb:=ov9
theorem aai:Xk aa Kp:=akR
theorem Dv(f:FuncId):Vd aa f (Um aa slotsOf (WX aa slotsOf Kp 60) f):=Qy aai f
def Kq:Yb:=XT 615 (Um aa slotsOf (WX aa slotsOf Kp 60) 615) (XT 337 (Um aa slotsOf (WX aa slotsOf Kp 60) 337) (XT 339 (Um aa slotsOf (WX aa slotsOf Kp 60) 339) (XT 347 (Um aa slotsOf (WX aa slotsOf Kp 60) 347) (XT 616 (Um aa slotsOf (WX aa slotsOf Kp 60) 616) Kp))))
theorem aah:Xk aa Kq:=(XI (Dv 615) (XI (Dv 337) (XI (Dv 339) (XI (Dv 347) (XI (Dv 616) aai)))))
theorem Dw(f:FuncId):Vd aa f (Um aa slotsOf (WX aa slotsOf Kq 60) f):=Qy aah f
def oG:Yb:=XT 615 (Um aa slotsOf (WX aa slotsOf Kq 60) 615) (XT 337 (Um aa slotsOf (WX aa slotsOf Kq 60) 337) (XT 339 (Um aa slotsOf (WX aa slotsOf Kq 60) 339) (XT 347 (Um aa slotsOf (WX aa slotsOf Kq 60) 347) (XT 616 (Um aa slotsOf (WX aa slotsOf Kq 60) 616) Kq))))
theorem aag:Xk aa oG:=(XI (Dw 615) (XI (Dw 337) (XI (Dw 339) (XI (Dw 347) (XI (Dw 616) aah)))))
def an7(f:FuncId):RunT:=WX aa slotsOf oG 60 f
theorem LL(f:FuncId):Vd aa f (an7 f):=Yl aag 60 f
end Go.Proofs.YthechbbdjabljaaGreatDoor
