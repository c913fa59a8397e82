import Derived.Test.YtafmabnolelknaaGreatDoorCG15
import Derived.Test.YtafmabnolelknaaGreatDoorCG34
import Derived.Test.YtafmabnolelknaaGreatDoorCG40
namespace Go.Proofs.YtafmabnolelknaaGreatDoor
open Go.Ab hiding Bs
open Go.Ent Go.Sto
open Go.ChangeShapes Go.WideShapes Go.ChangeAt Go.RowKit
set_option linter.unusedVariables false
set_option linter.unusedSimpArgs false
set_option maxRecDepth 100000 in
theorem zPX {W:World}{base:Nat}{r:Reach}{v:Value}(hv:Value.okWide Tryz.prog W r base 24 v):∃a b:Int,v= .agg #[.int .i64 a,.int .i64 b]:=by
 obtain⟨cs,rfl,hl,hc⟩:=zQG (ts:=[3,3]) Tryz.underlying24 (.inl ⟨_,rfl⟩) hv (by kernel_rfl) (by kernel_rfl)
 obtain⟨x0,g0,h0⟩:=hc 0 3 rfl
 obtain⟨x1,g1,h1⟩:=hc 1 3 rfl
 obtain rfl:cs=[x0,x1]:=by
  match cs,hl with
  | [y0,y1],_=>simp at g0 g1;simp_all
 obtain⟨a,rfl⟩:=zNR Tryz.underlying3 h0
 obtain⟨b,rfl⟩:=zNR Tryz.underlying3 h1
 exact⟨a,b,rfl⟩
section
variable{H:Type}{enc:TypeId×Value->H}{W:World}
theorem zI6 {P:Program}{t:TypeId}{f0 f1 f2 f3 f4:Field}{fuel:Nat}{cs:List Value}{x:DataW H×List MemPlace}(ht:P.underlying t=some (.struct #[f0,f1,f2,f3,f4]))(h:DataW.trod enc P W 0 (λ_=>true) true fuel t cs=some x):
  ∃y0 y1 y2 y3 y4 n,DataW.trod enc P W 0 (λ_=>true) true n f0.type ((cs.drop f0.offset).take (P.cellsOf f0.type))=some y0/\
   DataW.trod enc P W 0 (λ_=>true) true n f1.type ((cs.drop f1.offset).take (P.cellsOf f1.type))=some y1/\DataW.trod enc P W 0 (λ_=>true) true n f2.type ((cs.drop f2.offset).take (P.cellsOf f2.type))=some y2/\
   DataW.trod enc P W 0 (λ_=>true) true n f3.type ((cs.drop f3.offset).take (P.cellsOf f3.type))=some y3/\DataW.trod enc P W 0 (λ_=>true) true n f4.type ((cs.drop f4.offset).take (P.cellsOf f4.type))=some y4:=by
 obtain⟨xs,n,_,rfl,hl,hlen,hf⟩:=DataW.trod_struct ht h
 match xs,hlen with
 | [y0,y1,y2,y3,y4],_=>exact⟨y0,y1,y2,y3,y4,n,by simpa using hf 0 f0 rfl,by simpa using hf 1 f1 rfl,by simpa using hf 2 f2 rfl,by simpa using hf 3 f3 rfl,by simpa using hf 4 f4 rfl⟩
set_option maxRecDepth 100000 in
theorem mm_in (n:Nat)(cs':List Value)(y:DataW H×List MemPlace)(h:DataW.trod enc Tryz.prog W 0 (λ_=>true) true n 24 cs'=some y)(hl:cs'.length=mmE.sz):∃a,∀μ,relL μ (mmE.f a) cs':=by
 obtain⟨y0,y1,n',_,_,h0,h1⟩:=trod_struct2 Tryz.underlying24 h
 match cs',hl with
 | [c0,c1],_=>
  have g0:DataW.trod enc Tryz.prog W 0 (λ_=>true) true n' 3 [c0]=some y0:=h0
  have g1:DataW.trod enc Tryz.prog W 0 (λ_=>true) true n' 3 [c1]=some y1:=h1
  obtain⟨a,e0,_,_⟩:=DataW.trod_int Tryz.underlying3 g0
  obtain⟨b,e1,_,_⟩:=DataW.trod_int Tryz.underlying3 g1
  simp at e0 e1
  subst e0 e1
  exact⟨(a,b),fun μ=>⟨_,_,rfl,rfl,_,_,rfl,rfl,rfl⟩⟩
set_option maxRecDepth 100000 in
theorem int_in (n:Nat)(cs':List Value)(y:DataW H×List MemPlace)(h:DataW.trod enc Tryz.prog W 0 (λ_=>true) true n 3 cs'=some y)(hl:cs'.length=intE.sz):∃a,∀μ,relL μ (intE.f a) cs':=by
 obtain⟨a,e0,_,_⟩:=DataW.trod_int Tryz.underlying3 h
 subst e0
 exact⟨a,fun μ=>⟨_,_,rfl,rfl,rfl⟩⟩
set_option maxRecDepth 100000 in
theorem ent_in (n:Nat)(cs':List Value)(y:DataW H×List MemPlace)(h:DataW.trod enc Tryz.prog W 0 (λ_=>true) true n 32 cs'=some y)(hl:cs'.length=entE.sz):∃a,∀μ,relL μ (entE.f a) cs':=by
 obtain⟨y0,y1,n',_,_,h0,h1⟩:=trod_struct2 Tryz.underlying32 h
 match cs',hl with
 | [c0,c1,c2,c3],_=>
  have h0:DataW.trod enc Tryz.prog W 0 (λ_=>true) true n' 24 [c0,c1]=some y0:=h0
  have h1:DataW.trod enc Tryz.prog W 0 (λ_=>true) true n' 30 [c2,c3]=some y1:=h1
  obtain⟨z0,z1,n2,_,_,g0,g1⟩:=trod_struct2 Tryz.underlying24 h0
  obtain⟨z2,z3,n3,_,_,g2,g3⟩:=trod_struct2 Tryz.underlying30 h1
  have g0:DataW.trod enc Tryz.prog W 0 (λ_=>true) true n2 3 [c0]=some z0:=g0
  have g1:DataW.trod enc Tryz.prog W 0 (λ_=>true) true n2 3 [c1]=some z1:=g1
  have g2:DataW.trod enc Tryz.prog W 0 (λ_=>true) true n3 3 [c2]=some z2:=g2
  have g3:DataW.trod enc Tryz.prog W 0 (λ_=>true) true n3 3 [c3]=some z3:=g3
  obtain⟨a,e0,_,_⟩:=DataW.trod_int Tryz.underlying3 g0
  obtain⟨b,e1,_,_⟩:=DataW.trod_int Tryz.underlying3 g1
  obtain⟨c,e2,_,_⟩:=DataW.trod_int Tryz.underlying3 g2
  obtain⟨d,e3,_,_⟩:=DataW.trod_int Tryz.underlying3 g3
  simp at e0 e1 e2 e3
  subst e0 e1 e2 e3
  exact⟨(a,b,c,d),fun μ=>⟨_,_,rfl,rfl,_,_,rfl,rfl,_,_,rfl,rfl,_,_,rfl,rfl,rfl⟩⟩
set_option maxRecDepth 100000 in
theorem zT4 {n:Nat}{cs':List Value}{y:DataW H×List MemPlace}(h:DataW.trod enc Tryz.prog W 0 (λ_=>true) true n 36 cs'=some y)(hl:cs'.length=8){μ:Ren}{hp:Heap}(HH:HRel μ hp W)(ro:xO hp){b0:Nat}{c0:List AV}{rw0:Bool}(hb0:hp[b0]?=some (.cells c0 rw0)):
  ∃(l1:Ren) (bs:Heap) (e:Mv),HRel (μ++l1) (hp++bs) W/\xO (hp++bs)/\relL (μ++l1) (mvE.f e) cs'/\HasL mmE (hp++bs) e.fq e.f:=by
 obtain⟨y0,y1,y2,y3,y4,n',h0,h1,h2,h3,h4⟩:=zI6 Tryz.underlying36 h
 match cs',hl with
 | [x0,x1,x2,x3,x4,x5,x6,x7],_=>
  have h0:DataW.trod enc Tryz.prog W 0 (λ_=>true) true n' 3 [x0]=some y0:=h0
  have h1:DataW.trod enc Tryz.prog W 0 (λ_=>true) true n' 32 [x1,x2,x3,x4]=some y1:=h1
  have h2:DataW.trod enc Tryz.prog W 0 (λ_=>true) true n' 33 [x5]=some y2:=h2
  have h3:DataW.trod enc Tryz.prog W 0 (λ_=>true) true n' 3 [x6]=some y3:=h3
  have h4:DataW.trod enc Tryz.prog W 0 (λ_=>true) true n' 34 [x7]=some y4:=h4
  obtain⟨k,e0,_,_⟩:=DataW.trod_int Tryz.underlying3 h0
  obtain⟨m,e3,_,_⟩:=DataW.trod_int Tryz.underlying3 h3
  obtain⟨en,hen⟩:=ent_in n' _ _ h1 rfl
  simp at e0 e3
  subst e0 e3
  obtain⟨l1,bs1,q,l,k1,k2,k3,k4⟩:=zJG mmE Tryz.underlying33 (by kernel_rfl) mm_in h2 HH ro hb0
  have hb1:(hp++bs1)[b0]?=some (.cells c0 rw0):=by rw[List.getElem?_append_left (zC hb0)];exact hb0
  obtain⟨l2,bs2,q8,L8,j1,j2,j3,j4⟩:=zJG intE Tryz.underlying34 (by kernel_rfl) int_in h4 k1 k2 hb1
  rw[List.append_assoc,List.append_assoc] at j1
  rw[List.append_assoc] at j2 j3 j4
  have k3':AV.rel (μ++(l1++l2)) (.sl q) x5:=by
   rw[<-List.append_assoc]
   exact AV.rel.mono (Ren.le_append _ l2) _ _ k3
  obtain⟨_,_,g1,r1,_,_,g2,r2,_,_,g3,r3,_,_,g4,r4,g5⟩:=hen (μ++(l1++l2))
  simp only[List.cons.injEq] at g1 g2 g3 g4
  obtain⟨rfl,rfl⟩:=g1
  obtain⟨rfl,rfl⟩:=g2
  obtain⟨rfl,rfl⟩:=g3
  obtain⟨rfl,_⟩:=g4
  refine⟨l1++l2,bs1++bs2,⟨k,en,q,l,m,q8⟩,j1,j2,⟨_,_,rfl,rfl,_,_,rfl,r1,_,_,rfl,r2,_,_,rfl,r3,_,_,rfl,r4,_,_,rfl,k3',_,_,rfl,rfl,_,_,rfl,j3,rfl⟩,?_⟩
  rw[<-List.append_assoc]
  exact k4.mono (.app _ _)
instance:Inhabited Mv:=⟨⟨0,(0,0,0,0),none,[],0,none⟩⟩
set_option maxRecDepth 100000 in
theorem ops_in {v:Value}{d:DataW H}{p:List MemPlace}{fuel:Nat}(hf:DataW.trod enc Tryz.prog W 0 (λ_=>true) true fuel 22 [v]=some (d,p)){μ:Ren}{hp:Heap}(HH:HRel μ hp W)(ro:xO hp){b0:Nat}{c0:List AV}{rw0:Bool}(hb0:hp[b0]?=some (.cells c0 rw0)):
  ∃(l1:Ren) (bs:Heap) (q:OSl) (l:List Mv),HRel (μ++l1) (hp++bs) W/\xO (hp++bs)/\AV.rel (μ++l1) (.sl q) v/\HasL mvE (hp++bs) q l/\∀m∈l,HasL mmE (hp++bs) m.fq m.f:=by
 obtain⟨l1,bs,q,L,l,k1,k2,k3,k4,k5,k6⟩:=zOK (δ:=Unit) mvE (λh (m:Mv) _=>HasL mmE h m.fq m.f) (λx R=>R.mono x) Tryz.underlying22 (by kernel_rfl) (λn cs' y _ hy hl μ hp HH ro b0 c0 rw0 hb=>by
  obtain⟨l1,bs,e,j1,j2,j3,j4⟩:=zT4 hy hl HH ro hb
  exact⟨l1,bs,e,(),j1,j2,j3,j4⟩) hf HH ro hb0
 refine⟨l1,bs,q,L,k1,k2,k3,k4,λm hm=> ?_⟩
 obtain⟨i,hi⟩:=List.getElem?_of_mem hm
 have hil:i<l.length:=by rw[<-k5];exact(List.getElem?_eq_some_iff.1 hi).1
 exact k6 i m _ hi (List.getElem?_eq_getElem hil)
end
end Go.Proofs.YtafmabnolelknaaGreatDoor
