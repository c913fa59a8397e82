import Derived.Test.YtafmabnolelknaaGreatDoorCG13
import Derived.Test.YtafmabnolelknaaGreatDoorCG14
import Derived.Test.YtafmabnolelknaaGreatDoorCG18
import Derived.Test.YtafmabnolelknaaGreatDoorCG37
namespace Go.Proofs.YtafmabnolelknaaGreatDoor
open Go.Ab
theorem zTD:tab1=zTC:=by kernel_rfl
theorem laid_w {t:Heap}:Laid (kJ 0 gsAV++t):=⟨rfl,by rw[<-zTD];rfl⟩
end Go.Proofs.YtafmabnolelknaaGreatDoor

