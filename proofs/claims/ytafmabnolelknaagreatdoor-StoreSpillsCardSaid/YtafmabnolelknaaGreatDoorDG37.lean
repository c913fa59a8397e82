import Derived.Test.YtafmabnolelknaaGreatDoorDG13
import Derived.Test.YtafmabnolelknaaGreatDoorDG14
import Derived.Test.YtafmabnolelknaaGreatDoorDG17
import Derived.Test.YtafmabnolelknaaGreatDoorDG36
namespace Go.Proofs.YtafmabnolelknaaGreatDoor
open Go.Ab
theorem zS7:tab1=zS6:=by kernel_rfl
end Go.Proofs.YtafmabnolelknaaGreatDoor
namespace Go.Proofs.YtafmabnolelknaaGreatDoor
open Go.Ab
set_option linter.unusedVariables false
set_option linter.unusedSimpArgs false
def OverL(h:Heap):Prop:=∀(μ:Ren) (w:World),HRel μ h w->∃μ1,HRel μ1 (yL 0 gsAV) w
def zRK:AV->Bool
 | .int _ _=>true
 |_=>false
theorem zL0 {x:AV}(h:zRK x=true):∀(μ μ':Ren) (y:Value),x.rel μ y->x.rel μ' y:=by
 cases x<;>simp[zRK] at h
 intro μ μ' y h;exact h
theorem zFC:∀x∈tab0++tab1++tab3++tab2,zRK x=true:=by
 have:(tab0++tab1++tab3++tab2).all zRK=true:=by kernel_rfl
 exact List.all_eq_true.1 this
theorem zEG:∀(i:Nat) (B:Blk),(yL 0 gsAV)[i]?=some B->(∃g j,B= .gm g j/\j<8)∨∃c,B= .cells c false/\∀x∈c,zRK x=true:=by
 intro i B h
 match i with
 |0=>cases h;exact .inl ⟨_,_,rfl,by omega⟩
 |1=>cases h;exact .inr ⟨_,rfl,λx hx=>zFC x (by simp[hx])⟩
 |2=>cases h;exact .inl ⟨_,_,rfl,by omega⟩
 |3=>cases h;exact .inr ⟨_,rfl,λx hx=>zFC x (by simp[hx])⟩
 |4=>cases h;exact .inl ⟨_,_,rfl,by omega⟩
 |5=>cases h;exact .inr ⟨_,rfl,λx hx=>zFC x (by simp[hx])⟩
 |6=>cases h;exact .inl ⟨_,_,rfl,by omega⟩
 |7=>cases h;exact .inr ⟨_,rfl,λx hx=>zFC x (by simp[hx])⟩
 |i+8=>simp[yL,gsAV] at h
theorem zQQ (t:Heap):OverL (yL 0 gsAV++t):=by
 intro μ w hh
 have hlen:(yL 0 gsAV).length=8:=rfl
 refine⟨_,hh.pre (gs:=gsAV) (λi hi=>List.getElem?_append_left hi) (by rw[List.length_append];omega) ?_ ?_ ?_⟩
 ·intro i g j h
  rcases zEG i _ h with⟨g',j',e,hj⟩|⟨c,e,_⟩
  ·cases e;rw[hlen];exact hj
  ·cases e
 ·intro i c rw h x hx
  rcases zEG i _ h with⟨g',j',e,hj⟩|⟨c',e,hc⟩
  ·cases e
  ·cases e;exact zL0 (hc x hx)
 ·intro i B h
  rcases zEG i B h with⟨g',j',e,_⟩|⟨c',e,_⟩
  ·exact .inl ⟨_,_,e⟩
  ·exact .inr ⟨_,_,e⟩
end Go.Proofs.YtafmabnolelknaaGreatDoor
