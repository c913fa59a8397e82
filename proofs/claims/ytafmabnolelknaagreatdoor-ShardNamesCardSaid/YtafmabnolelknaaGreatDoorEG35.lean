import Derived.Test.YtafmabnolelknaaGreatDoorEG10
import Derived.Test.YtafmabnolelknaaGreatDoorEG21
import Derived.Test.YtafmabnolelknaaGreatDoorEG22
import Derived.Test.YtafmabnolelknaaGreatDoorEG29
import Derived.Test.YtafmabnolelknaaGreatDoorEG31
import Derived.Test.YtafmabnolelknaaGreatDoorEG33
import Derived.Test.YtafmabnolelknaaGreatDoorEG34









namespace Go.Proofs.YtafmabnolelknaaGreatDoor
open Go.Ab
open Go.Ent
open Go.Pool hiding Bs Ents set_at
set_option linter.unusedVariables false
set_option linter.unusedSimpArgs false
abbrev entZ (z : Nat → Prop) : EncZ := ⟨entE, z⟩
abbrev PC (z : Nat → Prop) := PoolC (entZ z)
end Go.Proofs.YtafmabnolelknaaGreatDoor


namespace Go.Proofs.YtafmabnolelknaaGreatDoor
open Go.Ab
open Go.Ent
open Go.Pool hiding Bs Ents set_at
set_option linter.unusedVariables false
set_option linter.unusedSimpArgs false
section
variable {z : Nat → Prop} {h h' : Heap} {Q : AV → Heap → Prop} {p fb mb : Nat} {rs : List RF} {es : List (AV × AV × Nat)} {cl : Nat} {P : PS}
theorem k64 {n : Nat} (hn : n ≤ 1024) (hQ : ∀ h', PC z h' (h.length + 2) h.length (h.length + 1) (List.replicate n ⟨[], 0, none, 0, false, false⟩) [] 0 (newP n) → Ext h h' → Q (.tup [.ptr (some ⟨h.length + 2, 0⟩), .int .i64 0]) h') : AC Tryz.prog 64 [.int .i64 (n : Nat)] h Q := ac64 (by
 unfold vc64 PMake PNew
 refine vif_mk (fun g => by have := of_decide_eq_true g; omega) (fun _ => vif_mk (fun g => by have := of_decide_eq_true g; omega) (fun _ => ?_))
 refine ⟨by omega, by omega, by omega, by simp only [maxI]; omega, ?_⟩
 simp only [Int.toNat_natCast, List.length_append, List.length_cons, List.length_nil]
 have hrep : (List.replicate n [AV.str [], .int .i64 0, .sl none, .int .i64 0, .bool false, .bool false]).flatten = rfE.all (List.replicate n ⟨[], 0, none, 0, false, false⟩) := by
  unfold Enc.all; rw [List.map_replicate]; rfl
 rw [hrep]
 have x : Ext h (((h ++ [Blk.cells (rfE.all (List.replicate n ⟨[], 0, none, 0, false, false⟩)) true]) ++ [Blk.mp [] 0]) ++ [Blk.cells [.sl (some ⟨h.length, 0, n, n, 0⟩), .map (some (h.length + (0 + 1))), .int .i64 0, .int .i64 0, .int .i64 0, .int .i64 0] true]) := ((Ext.app _ _).trans (.app _ _)).trans (.app _ _)
 refine hQ _ ⟨?_, ?_, ?_, ?_, ?_, by simp, ?_, by simp, ⟨?_, .inr rfl, by simp [newP]; omega⟩, by omega⟩ x
 ·simp [newP]
 ·simp
 ·simp
 ·simp [newP]
 ·intro k r f hr hf
  simp only [newP, List.getElem?_replicate] at hr hf
  by_cases hk : k < n
  ·rw [if_pos hk] at hr hf
   cases hr; cases hf
   exact ⟨rfl, rfl, rfl, rfl, rfl, rfl, fun s hs => by cases hs⟩
  ·rw [if_neg hk] at hr; cases hr
 ·intro k f hf hi
  simp only [newP, List.getElem?_replicate] at hf
  split at hf
  ·cases hf; cases hi
  ·cases hf
 ·intro j k f g hf hg hi
  simp only [newP, List.getElem?_replicate] at hf
  split at hf
  ·cases hf; cases hi
  ·cases hf)
end
end Go.Proofs.YtafmabnolelknaaGreatDoor









namespace Go.Proofs.YtafmabnolelknaaGreatDoor
open Go.Ab
open Go.Num hiding Bs snoc_ind
open Go.Ent Go.Cur
open Go.Page hiding Bs get
open Go.Dsk hiding Bs
open Go.Pool hiding Bs Ents set_at Fr least
set_option linter.unusedVariables false
set_option linter.unusedSimpArgs false
def Out (fl : Bs → Nat → Int × List Ent) (n : Nat) (C : List Pg) (s : Bs) (gs : List (List Ent)) (r : Nat → Int) : Prop := ∀ (i : Nat) (g : List Ent), gs[i]? = some g →
 (r i = 0 ∧ fl s i = (0, g) ∧ ((s, i) ∈ C ∨ dist C < n)) ∨ (r i ≠ 0 ∧ ((fl s i).1 = r i ∨ (r i = 90 ∧ fl s i = (0, g) ∧ (s, i) ∉ C ∧ dist C = n)))
end Go.Proofs.YtafmabnolelknaaGreatDoor












namespace Go.Proofs.YtafmabnolelknaaGreatDoor
open Go.Ab
open Go.Num hiding Bs snoc_ind
open Go.Ent Go.Cur
open Go.Page hiding Bs get
open Go.Dsk hiding Bs
open Go.Pool hiding Bs Ents set_at Fr least
set_option linter.unusedVariables false
set_option linter.unusedSimpArgs false
structure CurD where
 sp : Nat
 dp : Nat
 base : Nat
 count : Nat
 s : Bs
 q : Option SL
 heads : List Ent
 gs : List (List Ent)
 r : Nat → Int
structure Cu where
 cb : Nat
 d : CurD
 R : List Ent
 E : Int
 pg : Option Nat
end Go.Proofs.YtafmabnolelknaaGreatDoor
namespace Go.Proofs.YtafmabnolelknaaGreatDoor.Mer
open Go.Ab
open Go.Num hiding Bs snoc_ind
open Go.Ent Go.Cur
open Go.Page hiding Bs get
open Go.Dsk hiding Bs
open Go.Pool hiding Bs Ents set_at Fr least
set_option linter.unusedVariables false
set_option linter.unusedSimpArgs false
structure HD where
 hb : Nat
 lb : Nat
 k : Bool
 e : Ent
 r : List Ent
 rr : List Ent
 E : Int
inductive ZRole where
 | mrg | arr | head | lst | dat | cur
deriving DecidableEq
abbrev Roles := Nat → Option ZRole
section
variable {h h' : Heap} {ow ow' : Roles} {p : Nat} {qc : Option SL} {cbs : List Nat} {er : Int} {H H' : List HD} {x y : HD} {Q : AV → Heap → Prop}
abbrev hp (ow : Roles) : Nat → Prop := fun b => ow b = some .arr ∨ ow b = some .mrg
end
end Go.Proofs.YtafmabnolelknaaGreatDoor.Mer


namespace Go.Proofs.YtafmabnolelknaaGreatDoor.Mer
open Go.Ab
open Go.Num hiding Bs snoc_ind
open Go.Ent Go.Cur
open Go.Page hiding Bs get
open Go.Dsk hiding Bs
open Go.Pool hiding Bs Ents set_at Fr least
set_option linter.unusedVariables false
set_option linter.unusedSimpArgs false
section
section
variable {h h' hW : Heap} {ow ow' : Roles} {p pp fb mb n N N' : Nat} {qc : Option SL} {cbs : List Nat} {er : Int} {H H' : List HD} {x y : HD} {Q : AV → Heap → Prop} {q : Option SL} {z : Nat → Prop} {fl : Bs → Nat → Int × List Ent} {cs : List Cu} {P : PS}
attribute [local irreducible] vInvoke vCallF
abbrev codeOf (x : HD) : Int := if x.rr = [] then x.E else 0
end
end
end Go.Proofs.YtafmabnolelknaaGreatDoor.Mer







