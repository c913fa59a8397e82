import Derived.Test.YtafmabnolelknaaGreatDoorDG14
import Derived.Shelf.GgSortFunc.InsertionK
namespace Go.Ab
open Go.Proofs Go.Sort
set_option linter.unusedSimpArgs false
set_option linter.unusedVariables false
def zSY{α:Type}[Inhabited α](P:Program)(f:FuncId)(fv:Value)(enc:α->List Value)(k:Nat)(srt:List α->List α):Prop:=
 (∀(blk off cap:Nat) (d:Array α) (w:World),HoldsK enc k w blk off d->blk<w.heap.size->d.size<4611686018427387904->
  Calls P f #[.slice (some ⟨blk,off,none⟩) d.size cap,fv] w λe w'=>e= .returned (.tuple #[])/\∃n os,w'=sortWorldK enc k w blk off n (srt d.toList).toArray os)/\
 (∀(p:Option Addr) (cap:Nat) (w:World),Calls P f #[.slice p 0 cap,fv] w λe w'=>e= .returned (.tuple #[])/\w'=w)
theorem zF6 {α:Type}[Inhabited α]{enc:α->List Value}{k:Nat}{w:World}{blk off n:Nat}{d:Array α}{os:Array Obj}{r:Nat}(hr:r<w.heap.size):
  (sortWorldK enc k w blk off n d os).heap[r]?=if blk=r then(w.heap[r]?).map (onCells (putCells id off (flatK enc k d))) else w.heap[r]?:=by
 have hs:r<(putRowK enc k (Sort.ahead w n) blk off d).heap.size:=by
  have:(putRowK enc k (Sort.ahead w n) blk off d).heap.size=w.heap.size:=size_putRow _ _ _ _ _
  omega
 show((putRowK enc k (Sort.ahead w n) blk off d).heap++os)[r]?=_
 rw[Array.getElem?_append_left hs]
 show(w.heap.modify blk (onCells (putCells id off (flatK enc k d))))[r]?=_
 rw[Array.getElem?_modify]
section
variable{P:Program}{α:Type}[Inhabited α]{E:Enc α}{h:Heap}{q:OSl}{l:List α}{Q:AHp}{f:FuncId}{fv:Value}{fa:AV}{enc:α->List Value}{srt:List α->List α}
theorem sort_ac (hc:kM P f=true)(L:zSY P f fv enc E.sz srt)(hfa:∀μ v,fa.rel μ v->v=fv)
  (hlen:∀a,(enc a).length=E.sz)
  (hdet:∀(a:α) (μ:Ren) (t:Nat) (x:AV) (y:Value),(E.f a)[t]?=some x->x.rel μ y->(enc a)[t]?=some y)
  (henc:∀(a:α) (μ:Ren) (t:Nat) (x:AV) (y:Value),(E.f a)[t]?=some x->(enc a)[t]?=some y->x.rel μ y)
  (hsrt:∀l,(srt l).length=l.length)(A:AppJ E h q l)(hl:l.length<4611686018427387904)
  (hQ:∀h',AppJ E h' q (srt l)->zI (λb=>∃s,q=some s/\s.b=b) h h'->h'.length=h.length->Q (.tup []) h'):AC P f [.sl q,fa] h Q:=by
 refine⟨hc,fun μ w vs H hv=> ?_⟩
 obtain⟨v,u,rfl,hr,hf⟩:=zBZ hv
 obtain rfl:=hfa μ u hf
 have hz:l=[]->srt l=l:=λe=>by subst e;exact List.eq_nil_of_length_eq_zero (hsrt [])
 have done:l=[]->∀(p:Option Addr) (cap:Nat),v= .slice p 0 cap->Calls P f [v,u].toArray w (zDZ μ h w Q):=by
  intro hn p cap hv
  subst hv
  refine(L.2 p cap w).mono λe w' ⟨he,hw⟩=> ?_
  subst hw
  exact⟨_,.tup [],h,μ,he,hQ h (by rw[hz hn];exact A) (.refl _ _) rfl,Evo.refl _ _ _,H,⟨#[],rfl,rfl⟩⟩
 rcases A with⟨rfl,rfl⟩|⟨a,c,o,j,rfl,ho,hb,hj,hcl⟩
 ·exact done rfl none 0 hr
 have A:AppJ E h (some ⟨a,0,l.length,c,o⟩) l:=.inr ⟨a,c,o,j,rfl,ho,hb,hj,hcl⟩
 obtain⟨e,c',qa,h1,hveq,h3,h4,h5,h6⟩:=hr
 simp only at h1 hveq h3 h4 h5 h6
 by_cases hn:l=[]
 ·exact done hn (some qa) c' (by rw[hveq,hn];rfl)
 have hpos:0<l.length:=List.length_pos_iff.2 hn
 have hc0:c'≠0:=by
  rcases Nat.eq_zero_or_pos o with h0|h0
  ·have:=h5 h0;omega
  ·have:=(h6 (by omega)).1;omega
 have he:μ[a]?=some e:=by rcases h1 with h1|h1;exact h1;exact absurd h1 hc0
 obtain rfl:qa=⟨e.r,e.s+0,none⟩:=by rcases h4 with h4|h4;exact absurd h4 hc0;exact h4
 obtain⟨C,t,fz,hC,hCs,hcn,hone,hcell,hfz⟩:=H.blk _ _ _ hb he
 have hfz:=hfz rfl
 subst hfz
 have hk:=E.pos
 have hal:(E.all l).length=l.length*E.sz:=Enc.all_length
 have get:∀(l':List α) (i:Nat),i<l'.length*E.sz->∃a',l'[i/E.sz]?=some a'/\(E.all l')[i]?=(E.f a')[i%E.sz]?:=by
  intro l' i hi
  have hd:i/E.sz<l'.length:=Nat.div_lt_of_lt_mul (by rw[Nat.mul_comm];exact hi)
  have hg:l'[i/E.sz]?=some l'[i/E.sz]:=List.getElem?_eq_getElem hd
  refine⟨_,hg,?_⟩
  have hat:=Enc.all_at (E:=E) hg
  have hdm:i/E.sz*E.sz+i%E.sz=i:=by rw[Nat.mul_comm];exact Nat.div_add_mod _ _
  rw[<-hat,List.getElem?_take,if_pos (Nat.mod_lt _ hk),List.getElem?_drop,hdm]
 have flat:∀(l':List α) (i:Nat),i<l'.length*E.sz->∃a',l'[i/E.sz]?=some a'/\(flatK enc E.sz l'.toArray)[i]! =(enc a')[i%E.sz]! :=by
  intro l' i hi
  have hd:i/E.sz<l'.length:=Nat.div_lt_of_lt_mul (by rw[Nat.mul_comm];exact hi)
  have hg:l'[i/E.sz]?=some l'[i/E.sz]:=List.getElem?_eq_getElem hd
  refine⟨_,hg,?_⟩
  rw[get_flatK _ _ _ _ (by simpa using hi)]
  congr 2
  rw[getElem!_pos _ _ (by simpa using hd)]
  simp
 have enc_get:∀(a':α) (i:Nat),i<E.sz->(enc a')[i]?=some (enc a')[i]! :=by
  intro a' i hi
  rw[getElem!_pos _ _ (by rw[hlen];exact hi)]
  exact List.getElem?_eq_getElem _
 have hbr:e.r<w.heap.size:=H.bnd _ _ he
 have hold:HoldsK enc E.sz w e.r (e.s+0) l.toArray:=by
  intro i hi
  rw[size_flatK] at hi
  have hi:i<l.length*E.sz:=by simpa using hi
  obtain⟨a1,g1,g2⟩:=get l i hi
  obtain⟨a2,g3,g4⟩:=flat l i hi
  rw[g1] at g3;cases g3
  have hm:=Nat.mod_lt i hk
  obtain⟨x,hx⟩:∃x,(E.f a1)[i%E.sz]?=some x:=⟨_,List.getElem?_eq_getElem (by rw[E.len];exact hm)⟩
  have hx2:(E.all l++j)[i]?=some x:=by rw[List.getElem?_append_left (by omega),g2,hx]
  obtain⟨y,y1,y2⟩:=hcell i x hx2
  have hy:=hdet a1 μ _ x y hx y2
  have h0:=enc_get a1 _ hm
  rw[hy] at h0
  have hlt:=(Array.getElem?_eq_some_iff.1 y1).1
  constructor
  ·unfold World.cell?
   simp only[hC,Nat.add_zero]
   rw[y1,g4]
   exact h0
  ·unfold World.frozen?
   simp[hC]
 subst hveq
 have hcall:=L.1 e.r (e.s+0) c' l.toArray w hold hbr (by simpa using hl)
 simp only[List.size_toArray] at hcall
 refine hcall.mono λen w' hres=> ?_
 obtain⟨hen,n,os,rfl⟩:=hres
 generalize hw':sortWorldK enc E.sz w e.r (e.s+0) n (srt l.toArray.toList).toArray os=w'
 have hheap:∀r,r<w.heap.size->w'.heap[r]?=if e.r=r then(w.heap[r]?).map (onCells (putCells id (e.s+0) (flatK enc E.sz (srt l.toArray.toList).toArray))) else w.heap[r]?:=by
  intro r hr;rw[<-hw'];exact zF6 hr
 have hsz:w.heap.size<=w'.heap.size:=by
  rw[<-hw']
  unfold sortWorldK
  rw[size_grow]
  have:(putRowK enc E.sz (Sort.ahead w n) e.r (e.s+0) (srt l.toArray.toList).toArray).heap.size=w.heap.size:=size_putRow _ _ _ _ _
  omega
 have hrest:w'.os=w.os/\w'.tape=w.tape/\w'.output=w.output:=by rw[<-hw'];exact⟨rfl,rfl,rfl⟩
 have hll:(srt l).length=l.length:=hsrt l
 have hal':(E.all (srt l)).length=l.length*E.sz:=by rw[Enc.all_length,hll]
 generalize hh':h.set a (.cells (E.all (srt l)++j) true)=h'
 have hlen':h'.length=h.length:=by rw[<-hh'];simp
 have ha:=zD hb
 have hga:h'[a]?=some (.cells (E.all (srt l)++j) true):=by rw[<-hh'];exact List.getElem?_set_self ha
 have hgo:∀b,b≠a->h'[b]?=h[b]?:=λb hb=>by rw[<-hh',List.getElem?_set,if_neg (Ne.symm hb)]
 have back:∀(b:Nat) (B:Blk),h'[b]?=some B->∃B0,h[b]?=some B0/\B0.rw=B.rw/\B0.live=B.live:=by
  intro b B hB
  by_cases hba:b=a
  ·subst hba;rw[hga] at hB;cases hB;exact⟨_,hb,rfl,rfl⟩
  ·rw[hgo b hba] at hB;exact⟨B,hB,rfl,rfl⟩
 have other:∀r,r<w.heap.size->e.r≠r->w'.heap[r]?=w.heap[r]?:=λr hr hne=>by rw[hheap r hr,if_neg hne]
 refine⟨_,.tup [],h',μ,hen,hQ h' (.inr ⟨a,c,o,j,by rw[hll],ho,hga,by rw[hll];exact hj,by omega⟩) (λb B hX hB=> ?_) hlen',?_,?_,⟨#[],rfl,rfl⟩⟩
 ·rw[hgo b (λhba=>hX ⟨_,rfl,hba.symm⟩)];exact hB
 ·refine⟨.refl _,by omega,hsz,λr hr hne=>other r hr (hne a _ e hb rfl he),λb B e' hB hrw he'=> ?_,λb B e' hB hrw he'=> ?_,hrest.1,hrest.2.1,hrest.2.2⟩
  ·obtain⟨B0,g1,g2,g3⟩:=back b B hB
   exact .inr ⟨b,B0,e',g1,by rw[g2];exact hrw,he',rfl⟩
  ·obtain⟨B0,g1,g2,g3⟩:=back b B hB
   exact .inr ⟨b,B0,e',g1,by rw[g3];exact hrw,he',rfl⟩
 ·refine⟨by rw[hlen'];exact H.len,λb B e' hB he'=> ?_,λb1 b2 B1 B2 e1 e2 hne g1 g2 g3 g4 g5 g6=> ?_,λb e' he'=>Nat.lt_of_lt_of_le (H.bnd b e' he') hsz⟩
  ·by_cases hba:b=a
   ·subst hba
    rw[hga] at hB;cases hB
    rw[he] at he';cases he'
    have hw2:=hheap e.r hbr
    rw[if_pos rfl,hC] at hw2
    simp only[Option.map_some,onCells] at hw2
    refine⟨_,t,(0,0),hw2,by simp[putCells];exact hCs,by rw[List.length_append,hal'];rw[List.length_append,hal] at hcn;exact hcn,?_,?_,λ_=>rfl⟩
    ·simp only[zX,List.all_append,Bool.and_eq_true] at hone ⊢
     refine⟨?_,hone.2⟩
     rw[List.all_eq_true]
     intro x hx'
     simp only[Enc.all,List.mem_flatten,List.mem_map] at hx'
     obtain⟨l0,⟨a0,_,rfl⟩,h⟩:=hx'
     have:=E.one a0
     simp only[zX,List.all_eq_true] at this
     exact this x h
    ·intro i x hx
     have hi:=zD hx
     have hiC:e.s+i<C.size:=by
      rw[List.length_append,hal'] at hi;rw[List.length_append,hal] at hcn;omega
     by_cases hil:i<l.length*E.sz
     ·rw[List.getElem?_append_left (by omega)] at hx
      obtain⟨a1,g1,g2⟩:=get (srt l) i (by rw[hll];exact hil)
      obtain⟨a2,g3,g4⟩:=flat (srt l) i (by rw[hll];exact hil)
      rw[g1] at g3;cases g3
      rw[g2] at hx
      have hm:=Nat.mod_lt i hk
      refine⟨(enc a1)[i%E.sz]!,?_,henc a1 μ _ x _ hx (enc_get a1 _ hm)⟩
      rw[<-g4]
      simp only[putCells,Array.getElem?_mapIdx,Array.getElem?_eq_getElem hiC,Option.map_some,Nat.add_zero]
      rw[if_pos ⟨by omega,by simp[hll];omega⟩]
      simp
     ·rw[List.getElem?_append_right (by omega)] at hx
      have hx2:(E.all l++j)[i]?=some x:=by rw[List.getElem?_append_right (by omega),hal];rw[hal'] at hx;exact hx
      obtain⟨y,y1,y2⟩:=hcell i x hx2
      refine⟨y,?_,y2⟩
      simp only[putCells,Array.getElem?_mapIdx,y1,Option.map_some,Nat.add_zero]
      rw[if_neg]
      simp[hll];omega
   ·rw[hgo b hba] at hB
    cases hlv:B.live with
    |false=>exact(H.blk b B e' hB he').still hlv
    |true=>
     have hne:=H.sep a b _ B e e' (Ne.symm hba) hb hB rfl hlv he he'
     exact(H.blk b B e' hB he').world (other _ (H.bnd b e' he') hne)
  ·obtain⟨B10,x1,x2,x3⟩:=back b1 B1 g1
   obtain⟨B20,y1,y2,y3⟩:=back b2 B2 g2
   exact H.sep b1 b2 B10 B20 e1 e2 hne x1 y1 (by rw[x2];exact g3) (by rw[y3];exact g4) g5 g6
end
end Go.Ab
