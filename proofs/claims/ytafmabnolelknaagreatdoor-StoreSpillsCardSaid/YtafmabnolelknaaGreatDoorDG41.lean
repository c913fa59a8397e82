import Derived.Test.YtafmabnolelknaaGreatDoorDG14
import Derived.Test.YtafmabnolelknaaGreatDoorDG33
import Derived.Test.YtafmabnolelknaaGreatDoorDG40
namespace Go.Proofs.YtafmabnolelknaaGreatDoor
open Go.Ab hiding Bs
open Go.Ent Go.Sto
open Go.ChangeShapes Go.WideShapes Go.ChangeAt Go.RowKit
set_option linter.unusedVariables false
set_option linter.unusedSimpArgs false
section
variable{H:Type}{enc:TypeId×Value->H}{W:World}
set_option maxRecDepth 100000 in
theorem int_in (n:Nat)(cs':List Value)(y:DataW H×List MemPlace)(h:DataW.trod enc Tryz.prog W 0 (λ_=>true) true n 3 cs'=some y)(hl:cs'.length=intE.sz):∃a,∀μ,relL μ (intE.f a) cs':=by
 obtain⟨a,e0,_,_⟩:=DataW.trod_int Tryz.underlying3 h
 subst e0
 exact⟨a,fun μ=>⟨_,_,rfl,rfl,rfl⟩⟩
set_option maxRecDepth 100000 in
theorem ent_in (n:Nat)(cs':List Value)(y:DataW H×List MemPlace)(h:DataW.trod enc Tryz.prog W 0 (λ_=>true) true n 32 cs'=some y)(hl:cs'.length=entE.sz):∃a,∀μ,relL μ (entE.f a) cs':=by
 obtain⟨y0,y1,n',_,_,h0,h1⟩:=trod_struct2 Tryz.underlying32 h
 match cs',hl with
 | [c0,c1,c2,c3],_=>
  have h0:DataW.trod enc Tryz.prog W 0 (λ_=>true) true n' 24 [c0,c1]=some y0:=h0
  have h1:DataW.trod enc Tryz.prog W 0 (λ_=>true) true n' 30 [c2,c3]=some y1:=h1
  obtain⟨z0,z1,n2,_,_,g0,g1⟩:=trod_struct2 Tryz.underlying24 h0
  obtain⟨z2,z3,n3,_,_,g2,g3⟩:=trod_struct2 Tryz.underlying30 h1
  have g0:DataW.trod enc Tryz.prog W 0 (λ_=>true) true n2 3 [c0]=some z0:=g0
  have g1:DataW.trod enc Tryz.prog W 0 (λ_=>true) true n2 3 [c1]=some z1:=g1
  have g2:DataW.trod enc Tryz.prog W 0 (λ_=>true) true n3 3 [c2]=some z2:=g2
  have g3:DataW.trod enc Tryz.prog W 0 (λ_=>true) true n3 3 [c3]=some z3:=g3
  obtain⟨a,e0,_,_⟩:=DataW.trod_int Tryz.underlying3 g0
  obtain⟨b,e1,_,_⟩:=DataW.trod_int Tryz.underlying3 g1
  obtain⟨c,e2,_,_⟩:=DataW.trod_int Tryz.underlying3 g2
  obtain⟨d,e3,_,_⟩:=DataW.trod_int Tryz.underlying3 g3
  simp at e0 e1 e2 e3
  subst e0 e1 e2 e3
  exact⟨(a,b,c,d),fun μ=>⟨_,_,rfl,rfl,_,_,rfl,rfl,_,_,rfl,rfl,_,_,rfl,rfl,rfl⟩⟩
instance:Inhabited Mv:=⟨⟨0,(0,0,0,0),none,[],0,none⟩⟩
set_option maxRecDepth 100000 in
theorem okc28 {v:Value}{r:Reach}{base:Nat}(hv0:Value.okWide Tryz.prog W r base 28 v):Cell.okWide Tryz.prog W r base 28 v:=by
 unfold Value.okWide at hv0
 rw[Tryz.underlying28] at hv0
 exact hv0
set_option maxRecDepth 100000 in
theorem okc34 {v:Value}{r:Reach}{base:Nat}(hv0:Value.okWide Tryz.prog W r base 34 v):Cell.okWide Tryz.prog W r base 34 v:=by
 unfold Value.okWide at hv0
 rw[Tryz.underlying34] at hv0
 exact hv0
end
end Go.Proofs.YtafmabnolelknaaGreatDoor
