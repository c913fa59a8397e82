import Derived.Test.YtafmabnolelknaaGreatDoorDG37
import Derived.Test.YtafmabnolelknaaGreatDoorDG39
import Derived.Test.YtafmabnolelknaaGreatDoorRows
import Derived.Test.YtafmabnolelknaaGreatDoorTie
import Derived.Test.YtafmabnolelknaaGreatDoorCards
import Derived.ChangeSame
import Derived.ChangeVars
import Derived.JoinedOf
import Derived.RowKit
import Derived.RowKitTokens
import Derived.LaidLaws
import Derived.LaidMore
import Derived.Lay
import Derived.LaidOnce
import Derived.Stop.Joined
namespace Go.Proofs.YtafmabnolelknaaGreatDoor
open Go.Ab
open Go.ChangeShapes Go.WideShapes Go.ChangeAt Go.RowKit
set_option linter.unusedVariables false
set_option linter.unusedSimpArgs false
abbrev zLW:List (String×DataW Unit):=Rows.storeNobodyRow.laid
def nums(l:List AV):List Int:=l.map λx=>match x with | .int _ n=>n|_=>0
def zJ8(i:Nat):String:=(Rows.storeNobodyRow.laid.map (·.1)).getD i ""
def zRE:List (String×DataW Unit):=[(zJ8 0,.agg ((nums tab3).map λn=>.lit (.int .u8 n))),(zJ8 1,.agg ((nums tab2).map λn=>.lit (.int .u8 n))),(zJ8 2,.agg ((nums tab0).map λn=>.lit (.int .u64 n))),(zJ8 3,.agg ((nums tab1).map λn=>.lit (.int .u32 n)))]
theorem laidL_T:zLW=zRE:=by kernel_rfl
theorem tab0_T:tab0=(nums tab0).map (.int .u64):=by kernel_rfl
theorem tab1_T:tab1=(nums tab1).map (.int .u32):=by kernel_rfl
theorem tab2_T:tab2=(nums tab2).map (.int .u8):=by kernel_rfl
theorem tab3_T:tab3=(nums tab3).map (.int .u8):=by kernel_rfl
theorem zRC {W:World}(h:laidMet Tryz.prog zLW W):∃μ:Ren,HRel μ (yL 0 gsAV) W:=by
 rw[laidL_T] at h
 refine zRD λg c hm=> ?_
 have r0:=Go.Lib.laidMet.reads h (n:=zJ8 2) (d:=.agg ((nums tab0).map λn=>.lit (.int .u64 n))) (by simp[zRE])
 have r1:=Go.Lib.laidMet.reads h (n:=zJ8 3) (d:=.agg ((nums tab1).map λn=>.lit (.int .u32 n))) (by simp[zRE])
 have r2:=Go.Lib.laidMet.reads h (n:=zJ8 0) (d:=.agg ((nums tab3).map λn=>.lit (.int .u8 n))) (by simp[zRE])
 have r3:=Go.Lib.laidMet.reads h (n:=zJ8 1) (d:=.agg ((nums tab2).map λn=>.lit (.int .u8 n))) (by simp[zRE])
 simp only[gsAV,List.mem_cons,Prod.mk.injEq,List.not_mem_nil,or_false] at hm
 rcases hm with⟨rfl,rfl⟩|⟨rfl,rfl⟩|⟨rfl,rfl⟩|⟨rfl,rfl⟩
 ·obtain⟨C,t,fz,k1,k2⟩:=vM (gi:=1) (ty:=496) (e:=71) (n:=16) r1 (by kernel_rfl) (by kernel_rfl) (by kernel_rfl) (by kernel_rfl) (by kernel_rfl) (by kernel_rfl) (by kernel_rfl)
  exact⟨_,_,C,t,fz,k1,k2,tab1_T⟩
 ·obtain⟨C,t,fz,k1,k2⟩:=vM (gi:=0) (ty:=466) (e:=383) (n:=20) r0 (by kernel_rfl) (by kernel_rfl) (by kernel_rfl) (by kernel_rfl) (by kernel_rfl) (by kernel_rfl) (by kernel_rfl)
  exact⟨_,_,C,t,fz,k1,k2,tab0_T⟩
 ·obtain⟨C,t,fz,k1,k2⟩:=vM (gi:=2) (ty:=499) (e:=5) (n:=32) r2 (by kernel_rfl) (by kernel_rfl) (by kernel_rfl) (by kernel_rfl) (by kernel_rfl) (by kernel_rfl) (by kernel_rfl)
  exact⟨_,_,C,t,fz,k1,k2,tab3_T⟩
 ·obtain⟨C,t,fz,k1,k2⟩:=vM (gi:=3) (ty:=174) (e:=5) (n:=64) r3 (by kernel_rfl) (by kernel_rfl) (by kernel_rfl) (by kernel_rfl) (by kernel_rfl) (by kernel_rfl) (by kernel_rfl)
  exact⟨_,_,C,t,fz,k1,k2,tab2_T⟩
end Go.Proofs.YtafmabnolelknaaGreatDoor
