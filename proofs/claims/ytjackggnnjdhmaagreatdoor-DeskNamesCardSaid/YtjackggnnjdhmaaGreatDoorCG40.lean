import Derived.Test.YtjackggnnjdhmaaGreatDoorCG11
import Derived.Test.YtjackggnnjdhmaaGreatDoorCG38
import Derived.Test.YtjackggnnjdhmaaGreatDoorCG39
import Derived.KernelRfl
namespace Go.Proofs.YtjackggnnjdhmaaGreatDoor
open Go.Ab
def fe0 : FE := ⟨[112, 105, 99, 107, 32, 49, 32, 48], [[112, 105, 99, 107], [49], [48]], [.str [112, 105, 99, 107], .str [49], .str [48]], 3⟩
theorem fe0_ok : FEok fe0 := ⟨by decide, rfl, by decide, rfl, by kernel_rfl⟩
def fe1 : FE := ⟨[32, 115, 116, 97, 116, 117, 115, 32], [[115, 116, 97, 116, 117, 115]], [.str [115, 116, 97, 116, 117, 115]], 1⟩
theorem fe1_ok : FEok fe1 := ⟨by decide, rfl, by decide, rfl, by kernel_rfl⟩
def fe2 : FE := ⟨[114, 101, 97, 100, 121], [[114, 101, 97, 100, 121]], [.str [114, 101, 97, 100, 121]], 1⟩
theorem fe2_ok : FEok fe2 := ⟨by decide, rfl, by decide, rfl, by kernel_rfl⟩
def fe3 : FE := ⟨[112, 105, 99, 107, 32, 49], [[112, 105, 99, 107], [49]], [.str [112, 105, 99, 107], .str [49]], 2⟩
theorem fe3_ok : FEok fe3 := ⟨by decide, rfl, by decide, rfl, by kernel_rfl⟩
def fe4 : FE := ⟨[114, 117, 110, 32, 49, 48, 48, 48, 32, 48], [[114, 117, 110], [49, 48, 48, 48], [48]], [.str [114, 117, 110], .str [49, 48, 48, 48], .str [48]], 3⟩
theorem fe4_ok : FEok fe4 := ⟨by decide, rfl, by decide, rfl, by kernel_rfl⟩
def fe5 : FE := ⟨[111, 117, 116, 112, 117, 116, 32, 48], [[111, 117, 116, 112, 117, 116], [48]], [.str [111, 117, 116, 112, 117, 116], .str [48]], 2⟩
theorem fe5_ok : FEok fe5 := ⟨by decide, rfl, by decide, rfl, by kernel_rfl⟩
def fe6 : FE := ⟨[], [], [], 0⟩
theorem fe6_ok : FEok fe6 := ⟨by decide, rfl, by decide, rfl, by kernel_rfl⟩
def fe7 : FE := ⟨[110, 111, 110, 115, 101, 110, 115, 101], [[110, 111, 110, 115, 101, 110, 115, 101]], [.str [110, 111, 110, 115, 101, 110, 115, 101]], 1⟩
theorem fe7_ok : FEok fe7 := ⟨by decide, rfl, by decide, rfl, by kernel_rfl⟩
def fe8 : FE := ⟨[109, 97, 114, 107], [[109, 97, 114, 107]], [.str [109, 97, 114, 107]], 1⟩
theorem fe8_ok : FEok fe8 := ⟨by decide, rfl, by decide, rfl, by kernel_rfl⟩
def fe9 : FE := ⟨[112, 108, 97, 99, 101, 115], [[112, 108, 97, 99, 101, 115]], [.str [112, 108, 97, 99, 101, 115]], 1⟩
theorem fe9_ok : FEok fe9 := ⟨by decide, rfl, by decide, rfl, by kernel_rfl⟩
def fes : List FE := [fe0, fe1, fe2, fe3, fe4, fe5, fe6, fe7, fe8, fe9]
theorem fes_ok : ∀ x ∈ fes, FEok x := by
 intro x hx
 simp only [fes, List.mem_cons, List.not_mem_nil, or_false] at hx
 rcases hx with rfl | rfl | rfl | rfl | rfl | rfl | rfl | rfl | rfl | rfl
 ·exact fe0_ok
 ·exact fe1_ok
 ·exact fe2_ok
 ·exact fe3_ok
 ·exact fe4_ok
 ·exact fe5_ok
 ·exact fe6_ok
 ·exact fe7_ok
 ·exact fe8_ok
 ·exact fe9_ok
noncomputable def ovW : Ovr := ovAdd 99 (eMemoM [m43] noRun) (ovAdd 100 (eMemoM [m45, m53] noRun) ovU)
theorem ovW_ok : OvrOK Tryz.prog ovW := ovAdd_ok (eMemoM_ok (mm_one m43_ok) (noRun_ok 99)) (ovAdd_ok (eMemoM_ok (mm_cons m45_ok (mm_one m53_ok)) (noRun_ok 100)) ovU_ok)
noncomputable def ovX : Ovr := ovAdd 192 eIdx (ovAdd 131 eCnt (ovAdd 70 (eFields fes) (ovAdd 32 eWS (ovAdd 33 eST ovW))))
theorem ovX_ok : OvrOK Tryz.prog ovX := ovAdd_ok eIdx_ok (ovAdd_ok eCnt_ok (ovAdd_ok (eFields_ok fes_ok) (ovAdd_ok eWS_ok (ovAdd_ok eST_ok ovW_ok))))
end Go.Proofs.YtjackggnnjdhmaaGreatDoor
