import Derived.Test.YtafmabnolelknaaGreatDoorDG3
import Derived.Test.YtafmabnolelknaaGreatDoorDG5
import Derived.Test.YtafmabnolelknaaGreatDoorDG8
import Derived.Test.YtafmabnolelknaaGreatDoorDG12
import Derived.Test.YtafmabnolelknaaGreatDoorDG13
import Derived.Deep.Slices
import Derived.Deep.Strs
namespace Go.Ab
open Go.ChangeShapes Go.WideShapes Go.ChangeAt Go.RowKit
set_option linter.unusedSimpArgs false
set_option linter.unusedVariables false
def zCB(hp:Heap):Prop:=∀(b:Nat) (B:Blk),hp[b]?=some B->B.rw=false
theorem zCB.add {hp:Heap}(h:zCB hp){B:Blk}(hB:B.rw=false):zCB (hp++[B]):=by
 intro b B' hb
 rw[List.getElem?_append] at hb
 split at hb
 ·exact h b B' hb
 ·have:b-hp.length=0:=by have:=zD hb;simp at this;omega
  rw[this] at hb;simp at hb;subst hb;exact hB
theorem HRel.addRO {μ:Ren}{hp:Heap}{W:World}(H:HRel μ hp W)(ro:zCB hp){e:ME}{B:Blk}(hB:B.rw=false)(he:e.r<W.heap.size)(hb:vS (μ++[e]) W e B):HRel (μ++[e]) (hp++[B]) W:=by
 have ro':=ro.add hB
 have split2:∀{b:Nat} {B':Blk},(hp++[B])[b]?=some B'->(b<hp.length/\hp[b]?=some B')∨(b=hp.length/\B'=B):=by
  intro b B' hb
  rw[List.getElem?_append] at hb
  split at hb
  ·exact .inl ⟨by assumption,hb⟩
  ·have:b-hp.length=0:=by have:=zD hb;simp at this;omega
   rw[this] at hb;simp at hb
   exact .inr ⟨by omega,hb.symm⟩
 have splitm:∀{b:Nat} {e':ME},(μ++[e])[b]?=some e'->(b<μ.length/\μ[b]?=some e')∨(b=μ.length/\e'=e):=by
  intro b e' hb
  rw[List.getElem?_append] at hb
  split at hb
  ·exact .inl ⟨by assumption,hb⟩
  ·have:b-μ.length=0:=by have:=zD hb;simp at this;omega
   rw[this] at hb;simp at hb
   exact .inr ⟨by omega,hb.symm⟩
 have hlen:=H.len
 refine⟨by simp[hlen],?_,?_,?_⟩
 ·intro b B' e' h1 h2
  rcases split2 h1 with⟨g1,g2⟩|⟨g1,rfl⟩<;>rcases splitm h2 with⟨g3,g4⟩|⟨g3,rfl⟩
  ·exact(H.blk b B' e' g2 g4).mono (Ren.le_append _ _)
  ·omega
  ·omega
  ·exact hb
 ·intro b1 b2 B1 B2 e1 e2 hne h1 h2 hrw
  rw[ro' b1 B1 h1] at hrw;cases hrw
 ·intro b e' h2
  rcases splitm h2 with⟨g3,g4⟩|⟨g3,rfl⟩
  ·exact H.bnd b e' g4
  ·exact he
section
variable{H:Type}{enc:TypeId×Value->H}{P:Program}{W:World}{α:Type}
theorem zHY [Inhabited α](E:Enc α){t e:TypeId}{v:Value}{r:Reach}{base:Nat}{fuel:Nat}{x:DataW H×List MemPlace}(ht:P.underlying t=some (.slice e))(hC:P.cellsOf e=E.sz)
  (hel:∀(n:Nat) (cs':List Value) (y:DataW H×List MemPlace),DataW.trod enc P W 0 (λ_=>true) true n e cs'=some y->cs'.length=E.sz->∃a,∀μ,relL μ (E.f a) cs')
  (hv:Cell.okWide P W r base t v)(hf:DataW.trod enc P W 0 (λ_=>true) true fuel t [v]=some x){μ:Ren}{hp:Heap}(HH:HRel μ hp W)(ro:zCB hp):
  ∃(l1:Ren) (bs:Heap) (q:OSl) (l:List α),HRel (μ++l1) (hp++bs) W/\zCB (hp++bs)/\AV.rel (μ++l1) (.sl q) v/\HasL E (hp++bs) q l:=by
 have hμ:=HH.len
 rcases Deep.open_slice ht hf with⟨hcs,_⟩|⟨a,len,cap,m,n,D,Pl,hcs,_,hlc,hm,hmm,_,hx⟩
 ·simp at hcs
  subst hcs
  exact⟨[],[],none,[],by simpa using HH,by simpa using ro,rfl,rfl⟩
 ·simp at hcs
  subst hcs
  simp only[if_true] at hmm
  subst hmm
  rcases zPJ ht hv with hnil|⟨ab,ao,len',cap',heq,h1,hbl⟩
  ·cases hnil
  ·cases heq
   have hspot:∃C tt fz,W.heap[ab]?=some (.cells C tt fz):=by
    unfold Cell.okWide at hv
    rw[ht] at hv
    simp only[Cell.ok,ht] at hv
    obtain⟨_,_,_,_,row,cells,h3,_⟩:=hv
    unfold World.shape? at h3
    split at h3
    ·rename_i C tt fz hb;exact⟨C,tt,fz,hb⟩
    ·cases h3
   obtain⟨C,tt,fz,hb⟩:=hspot
   have hsz:=E.pos
   have each:∀i,i<m->∃a:α,∀(j:Nat) (x:AV),(E.f a)[j]?=some x->∃y,C[ao+i*E.sz+j]?=some y/\∀μ,x.rel μ y:=by
    intro i hi
    obtain⟨cs',hcl,htr⟩:=hx i hi
    rw[hC] at hcl
    obtain⟨_,hlen,hcell⟩:=World.cells?_some hcl
    obtain⟨a,ha⟩:=hel _ _ _ htr hlen
    refine⟨a,λj x hj=> ?_⟩
    have hjl:j<E.sz:=by have:=zD hj;rw[E.len] at this;exact this
    have hget:cs'[j]?=some (cs'[j]'(by omega)):=List.getElem?_eq_getElem _
    refine⟨cs'[j]'(by omega),?_,fun μ=> ?_⟩
    ·have:=hcell j hjl
     unfold World.cell? at this
     have eb:((Addr.add (Addr.add ⟨ab,ao,none⟩ (i*E.sz)) j))=⟨ab,ao+i*E.sz+j,none⟩:=by rw[kC,kC]
     rw[eb] at this
     simp only[hb] at this
     have this':C[ao+i*E.sz+j]?=cs'[j]?:=by simpa using this
     rw[this',hget]
    ·obtain⟨y,g1,g2⟩:=(ha μ).get hj
     rw[hget] at g1;cases g1;exact g2
   obtain⟨V,hV⟩:=Deep.choose_lt each
   generalize hl:(List.range len).map V=l
   have hll:l.length=len:=by subst hl;simp
   have hgetl:∀i,i<len->l[i]?=some (V i):=by
    intro i hi
    subst hl
    simp[hi]
   by_cases hcap:m=0
   ·have hnil:l=[]:=List.eq_nil_of_length_eq_zero (by omega)
    subst hnil
    refine⟨[⟨ab,0,C.size⟩],[.cells [] false],some ⟨hp.length,0,len,m,0⟩,[],HH.addRO ro rfl hbl ⟨C,tt,fz,hb,by simp,by simp,rfl,by simp,by simp⟩,ro.add rfl,?_,?_⟩
    ·exact⟨⟨ab,0,C.size⟩,m,_,.inr hcap,rfl,h1,.inl hcap,λ_=>rfl,λhn=>absurd rfl hn⟩
    ·refine⟨by simpa using hll.symm,h1,.inl rfl,?_⟩
     simp[zA,Enc.all]
   ·have lastc:∀i,i<m->ao+i*E.sz+E.sz<=C.size:=by
     intro i hi
     have hfl:(E.f (V i))[E.sz-1]?=some ((E.f (V i))[E.sz-1]'(by rw[E.len];omega)):=List.getElem?_eq_getElem _
     obtain⟨y,g1,_⟩:=hV i hi _ _ hfl
     have:=(Array.getElem?_eq_some_iff.1 g1).1
     omega
    have haoC:ao<=C.size:=by have:=lastc 0 (by omega);omega
    have hlenC:len*E.sz<=C.size-ao:=by
     rcases Nat.eq_zero_or_pos len with hz|hz
     ·subst hz;simp
     ·have:=lastc (len-1) (by omega)
      have e1:(len-1)*E.sz+E.sz=len*E.sz:=by
       rw[<-Nat.succ_mul];congr 1;omega
      omega
    refine⟨[⟨ab,ao,C.size-ao⟩],[.cells (E.all l) false],some ⟨hp.length,0,len,m,0⟩,l,HH.addRO ro rfl hbl ⟨C,tt,fz,hb,by simp;omega,by rw[Enc.all_length,hll];exact hlenC,?_,?_,by simp⟩,ro.add rfl,?_,?_⟩
    ·simp only[zX,List.all_eq_true]
     intro x hx'
     simp only[Enc.all,List.mem_flatten,List.mem_map] at hx'
     obtain⟨l0,⟨a,_,rfl⟩,h⟩:=hx'
     have:=E.one a
     simp only[zX,List.all_eq_true] at this
     exact this x h
    ·intro j x hj
     have hjl:=zD hj
     rw[Enc.all_length,hll] at hjl
     have hi:j/E.sz<len:=Nat.div_lt_of_lt_mul (by rw[Nat.mul_comm];exact hjl)
     have hdm:j/E.sz*E.sz+j%E.sz=j:=by rw[Nat.mul_comm];exact Nat.div_add_mod _ _
     have hml:j%E.sz<E.sz:=Nat.mod_lt _ hsz
     have hat:=Enc.all_at (E:=E) (hgetl _ hi)
     have:(E.f (V (j/E.sz)))[j%E.sz]?=some x:=by
      rw[<-hat,List.getElem?_take,if_pos hml,List.getElem?_drop,hdm,hj]
     obtain⟨y,g1,g2⟩:=hV _ (by omega) _ _ this
     refine⟨y,?_,g2 _⟩
     rw[<-g1]
     simp only
     congr 1
     omega
    ·exact⟨⟨ab,ao,C.size-ao⟩,m,_,.inl (by rw[<-hμ];simp),rfl,h1,.inr rfl,λ_=>rfl,λhn=>absurd rfl hn⟩
    ·refine⟨hll.symm,h1,.inl rfl,?_⟩
     rw[zP (C:=E.all l) (rw':=false) (by simp) (by simp[Enc.all_length])]
     simp[<-Enc.all_length]
end
end Go.Ab
namespace Go.Ab
set_option linter.unusedSimpArgs false
set_option linter.unusedVariables false
abbrev Bs:=List UInt8
def zI(X:Nat->Prop)(h h':Heap):Prop:=∀(b:Nat) (B:Blk),¬X b->h[b]?=some B->h'[b]?=some B
theorem zI.refl (X:Nat->Prop)(h:Heap):zI X h h:=λ_ _ _ e=>e
theorem zI.trans {X:Nat->Prop}{a b c:Heap}(h:zI X a b)(h':zI X b c):zI X a c:=λk B hk e=>h' k B hk (h k B hk e)
theorem zH {X:Nat->Prop}{h h':Heap}(e:Ext h h'):zI X h h':=λb B _ hb=>e b B hb
theorem zI.cells {X:Nat->Prop}{h h':Heap}(K:zI X h h'){p:PA}{n:Nat}{c:List AV}(hp:¬X p.b)(hc:zA h p n=some c):zA h' p n=some c:=by
 unfold zA at hc ⊢
 split at hc
 ·rename_i c' rw' hb
  rw[K _ _ hp hb];exact hc
 ·cases hc
theorem zI.hasL {α:Type}{E:Enc α}{X:Nat->Prop}{h h':Heap}(K:zI X h h'){q:OSl}{l:List α}(hq:∀s,q=some s->¬X s.b)(H:HasL E h q l):HasL E h' q l:=by
 cases q with
 |none=>exact H
 |some s=>exact⟨H.1,H.2.1,H.2.2.1,K.cells (hq s rfl) H.2.2.2⟩
theorem HasL.live {α:Type}{E:Enc α}{h:Heap}{q:OSl}{l:List α}(H:HasL E h q l):∀s,q=some s->s.b<h.length:=by
 intro s hs
 subst hs
 obtain⟨c,rw,hb,_⟩:=vQ H.2.2.2
 exact zD hb
theorem xQ {h:Heap}{p o k:Nat}{c:List AV}{rw':Bool}(hb:h[p]?=some (.cells c rw'))(ho:o+k<=c.length):zA h ⟨p,0+o⟩ k=some ((c.drop o).take k):=by
 rw[Nat.zero_add];exact zP (p:=⟨p,o⟩) hb ho
theorem zCF {h:Heap}{p o:Nat}{c xs:List AV}{K:Heap->Prop}(hb:h[p]?=some (.cells c true))(ho:o+xs.length<=c.length)(hK:K (h.set p (.cells (splice c o xs) true))):zL h ⟨p,0+o⟩ xs K:=by
 unfold zL
 simp only[hb,Nat.zero_add]
 exact⟨ho,hK⟩
theorem yP {h:Heap}{p o:Nat}{c xs:List AV}{K:Heap->Prop}(hb:h[p]?=some (.cells c true))(ho:o+xs.length<=c.length)(hK:K (h.set p (.cells (splice c o xs) true))):vPtr (some ⟨p,0⟩) λq=>zL h ⟨q.b,q.o+o⟩ xs K:=zCF hb ho hK
theorem zO {h:Heap}{p:Nat}{B:Blk}{X:Nat->Prop}(hp:X p):zI X h (h.set p B):=by
 intro b C hb hC
 rw[List.getElem?_set,if_neg]
 ·exact hC
 ·intro he;subst he;exact hb hp
def byE:Enc UInt8:=⟨1,λb=>[.int .u8 b.toNat],λ_=>rfl,by omega,λ_=>rfl⟩
def intE:Enc Int:=⟨1,λn=>[.int .i64 n],λ_=>rfl,by omega,λ_=>rfl⟩
def slE:Enc (OSl):=⟨1,λq=>[.sl q],λ_=>rfl,by omega,λ_=>rfl⟩
theorem zEM {l:Bs}:byE.all l=yG l:=by
 induction l with
 |nil=>rfl
 |cons x l ih=>rw[Enc.all_cons,ih];rfl
theorem zFM {l:Bs}:(yG l).length=l.length:=by simp[yG]
def Apd{α:Type}(E:Enc α)(h:Heap)(q:OSl)(l:List α):Prop:=
 (q=none/\l=[])∨∃a o,q=some ⟨a,0,l.length,l.length,o⟩/\(o=0∨o=E.sz)/\h[a]?=some (.cells (E.all l) true)
def New{α:Type}(E:Enc α)(h h':Heap)(q:OSl)(l:List α):Prop:=Ext h h'/\Apd E h' q l/\∀s,q=some s->h.length<=s.b
section
variable{α:Type}{E:Enc α}{h h':Heap}{q:OSl}{l m:List α}
theorem Apd.hasL (A:Apd E h q l):HasL E h q l:=by
 rcases A with⟨rfl,rfl⟩|⟨a,o,rfl,ho,hb⟩
 ·rfl
 ·refine⟨rfl,Nat.le_refl _,ho,?_⟩
  rw[zP (p:=⟨a,0⟩) hb (by simp[Enc.all_length])]
  simp[<-Enc.all_length]
theorem Apd.keeps {X:Nat->Prop}(A:Apd E h q l)(K:zI X h h')(hq:∀s,q=some s->¬X s.b):Apd E h' q l:=by
 rcases A with⟨rfl,rfl⟩|⟨a,o,rfl,ho,hb⟩
 ·exact .inl ⟨rfl,rfl⟩
 ·exact .inr ⟨a,o,rfl,ho,K _ _ (hq _ rfl) hb⟩
theorem Apd.ext (A:Apd E h q l)(K:Ext h h'):Apd E h' q l:=A.keeps (X:=λ_=>False) (zH K) (λ_ _ h=>h)
theorem Apd.mk {a o:Nat}{n:Nat}(hn:n=l.length)(ho:o=0∨o=E.sz)(hb:h[a]?=some (.cells (E.all l) true)):Apd E h (some ⟨a,0,n,n,o⟩) l:=by
 subst hn;exact .inr ⟨a,o,rfl,ho,hb⟩
theorem Apd.append0 {by':Nat}{K:OSl->Heap->Prop}(A:Apd E h q l)(hb:(l.length+m.length)*by'<=140737488355328)
  (hK:∀q' h',Apd E h' q' (l++m)->zI (λb=>∃s,q=some s/\s.b=b) h h'->h.length<=h'.length->(∀s',q'=some s'->h.length<=s'.b∨∃s,q=some s/\s.b=s'.b)->K q' h'):vZ E.sz by' q m.length (E.all m) h K:=by
 refine⟨by rw[Enc.all_length],?_⟩
 rcases A with⟨rfl,rfl⟩|⟨a,o,rfl,ho,hb5⟩
 ·simp only
  split
  ·rename_i hm
   have:m=[]:=List.eq_nil_of_length_eq_zero hm
   subst this
   exact hK _ _ (.inl ⟨rfl,rfl⟩) (.refl _ _) (Nat.le_refl _) (λs' h=>by cases h)
  ·refine⟨by simpa using hb,E.pos,hK _ _ (Apd.mk (by simp) (.inr rfl) (by simp)) (zH (Ext.app _ _)) (by simp) (λs' h=>by cases h;exact .inl (Nat.le_refl _))⟩
 ·simp only
  have hset:∀B:Blk,zI (λb=>∃s':SL,some (⟨a,0,l.length,l.length,o⟩:SL)=some s'/\s'.b=b) h (h.set a B):=by
   intro B b C hb hC
   rw[List.getElem?_set,if_neg]
   ·exact hC
   ·intro he;exact hb ⟨_,rfl,he⟩
  split
  ·rename_i hle
   have hm:m.length=0:=by omega
   have:m=[]:=List.eq_nil_of_length_eq_zero hm
   subst this
   rw[hb5]
   simp only
   have e0:E.all ([]:List α)=[]:=rfl
   refine⟨by simp[Enc.all_length,e0],hK _ _ (Apd.mk (by simp) ho ?_) (hset _) (by simp) (λs' h=>by cases h;exact .inr ⟨_,rfl,rfl⟩)⟩
   have hlt:=zD hb5
   rw[List.getElem?_set_self hlt]
   simp[Enc.all,splice,List.take_append_drop]
  ·have hold:zA h ⟨a,0⟩ (l.length*E.sz)=some (E.all l):=by
    rw[zP (p:=⟨a,0⟩) hb5 (by simp[Enc.all_length])]
    simp[<-Enc.all_length]
   refine⟨hb,E.pos,?_⟩
   rw[hold,hb5]
   simp only
   rcases ho with rfl|rfl
   ·rw[if_pos rfl]
    exact hK _ _ (Apd.mk (by simp) (.inr rfl) (by simp[Enc.all_append])) (zH (Ext.app _ _)) (by simp) (λs' h=>by cases h;exact .inl (Nat.le_refl _))
   ·have h0':¬E.sz=0:=by have:=E.pos;omega
    rw[if_neg h0']
    refine⟨trivial,rfl,hK _ _ (Apd.mk (by simp) (.inr rfl) ?_) ((hset _).trans (zH (Ext.app _ _))) (by simp) (λs' h=>by cases h;exact .inl (Nat.le_refl _))⟩
    rw[List.getElem?_append_right (by simp)]
    simp[Enc.all_append]
theorem Apd.append {src:OSl}{by':Nat}{K:OSl->Heap->Prop}(A:Apd E h q l)(H:HasL E h src m)(hb:(l.length+m.length)*by'<=140737488355328)
  (hK:∀q' h',Apd E h' q' (l++m)->zI (λb=>∃s,q=some s/\s.b=b) h h'->h.length<=h'.length->(∀s',q'=some s'->h.length<=s'.b∨∃s,q=some s/\s.b=s'.b)->K q' h'):zM E.sz by' q src h K:=by
 refine⟨E.all m,H.cells,?_⟩
 rw[H.len]
 exact A.append0 hb hK
theorem New.hasL (N:New E h h' q l):HasL E h' q l:=N.2.1.hasL
theorem New.ext {h2:Heap}(N:New E h h' q l)(K:Ext h' h2):New E h h2 q l:=⟨N.1.trans K,N.2.1.ext K,N.2.2⟩
theorem New.of {h0:Heap}(N:New E h h' q l)(K:Ext h0 h):New E h0 h' q l:=⟨K.trans N.1,N.2.1,λs hs=>by have:=N.2.2 s hs;have:=K.len;omega⟩
theorem New.append0 {by':Nat}{K:OSl->Heap->Prop}(N:New E h h' q l)(hb:(l.length+m.length)*by'<=140737488355328)
  (hK:∀q' h2,New E h h2 q' (l++m)->K q' h2):vZ E.sz by' q m.length (E.all m) h' K:=by
 refine N.2.1.append0 hb λq' h2 A2 K2 hl hq=>hK q' h2 ⟨?_,A2,?_⟩
 ·intro b B hB
  exact K2 b B (λ⟨s,a1,a2⟩=>by have:=N.2.2 s a1;have:=zD hB;omega) (N.1 _ _ hB)
 ·intro s hs
  have:=N.1.len
  rcases hq s hs with a|⟨s',a1,a2⟩
  ·omega
  ·have:=N.2.2 s' a1;omega
theorem New.append {src:OSl}{by':Nat}{K:OSl->Heap->Prop}(N:New E h h' q l)(H:HasL E h' src m)(hb:(l.length+m.length)*by'<=140737488355328)
  (hK:∀q' h2,New E h h2 q' (l++m)->K q' h2):zM E.sz by' q src h' K:=by
 refine⟨E.all m,H.cells,?_⟩
 rw[H.len]
 exact N.append0 hb hK
theorem New.mk1 {c:List AV}{n:Nat}(hn:n=l.length)(hc:c=E.all l):New E h (h++[.cells c true]) (some ⟨h.length,0,n,n,0⟩) l:=
 ⟨.app _ _,Apd.mk hn (.inl rfl) (by rw[<-hc];simp),λs hs=>by cases hs;exact Nat.le_refl _⟩
theorem New.none:New E h h none ([]:List α):=⟨.refl _,.inl ⟨rfl,rfl⟩,λs hs=>by cases hs⟩
end
theorem zLC {l:Bs}{i:Nat}{b:UInt8}(hi:i<l.length):splice (yG l) i [.int .u8 b.toNat]=yG (l.set i b):=by
 unfold splice yG
 rw[List.set_eq_take_append_cons_drop,if_pos hi]
 simp
theorem shr8 {n:Nat}:shrK .i64 (n:Int) 8=((n/256:Nat):Int):=by
 have e:min ((8:Int).toNat) IntKind.i64.bits=8:=by decide
 simp only[shrK,e]
 rw[Int.fdiv_eq_ediv_of_nonneg _ (by decide)]
 simp
theorem shrB {n k:Nat}(hk:k<=7):shrK .i64 (n:Int) ((8*k:Nat):Int)=((n/256^k:Nat):Int):=by
 have e:min (((8*k:Nat):Int).toNat) IntKind.i64.bits=8*k:=by
  have:IntKind.i64.bits=64:=rfl
  rw[this];omega
 simp only[shrK,e]
 rw[Int.fdiv_eq_ediv_of_nonneg _ (Int.pow_nonneg (by decide))]
 have:(256:Nat)^k=2^(8*k):=by rw[Nat.pow_mul]
 rw[this]
 simp
theorem u8c {n:Nat}:zC .u8 (n:Int)=((UInt8.ofNat (n%256)).toNat:Int):=by
 rw[zMQ];simp
theorem zUE {k:IntKind}{n:Nat}{b:Nat->Int}:cel k (n+1) b= .int k (b 0)::cel k n (λi=>b (i+1)):=by
 simp only[cel,List.range_succ_eq_map,List.map_cons,List.map_map]
 rfl
theorem zA5 {k:IntKind}{n:Nat}{b:Nat->Int}:(cel k n b).length=n:=by simp[cel]
theorem zKO {k:IntKind}:∀{n:Nat} {b:Nat->Int} {K:List AV->Prop},K (cel k n b)->exC k n K
 |0,b,K,h=>h
 |n+1,b,K,h=>⟨b 0,zKO (b:=λi=>b (i+1)) (by rw[zUE] at h;exact h)⟩
theorem zSJ {k:IntKind}{n:Nat}{b:Nat->Int}:zX (cel k n b)=true:=by
 simp[zX,cel,AV.one]
section
variable{α:Type}{E:Enc α}{h h':Heap}{q:OSl}{l m:List α}
def AppJ(E:Enc α)(h:Heap)(q:OSl)(l:List α):Prop:=
 (q=none/\l=[])∨∃(a c o:Nat) (j:List AV),q=some ⟨a,0,l.length,c,o⟩/\(o=0∨o=E.sz)/\h[a]?=some (.cells (E.all l++j) true)/\j.length=(c-l.length)*E.sz/\l.length<=c
theorem AppJ.hasL (A:AppJ E h q l):HasL E h q l:=by
 rcases A with⟨rfl,rfl⟩|⟨a,c,o,j,rfl,ho,hb,hj,hc⟩
 ·rfl
 ·refine⟨rfl,hc,ho,?_⟩
  rw[zP (p:=⟨a,0⟩) hb (by simp[Enc.all_length])]
  simp[<-Enc.all_length]
theorem AppJ.keeps {X:Nat->Prop}(A:AppJ E h q l)(K:zI X h h')(hq:∀s,q=some s->¬X s.b):AppJ E h' q l:=by
 rcases A with⟨rfl,rfl⟩|⟨a,c,o,j,rfl,ho,hb,hj,hc⟩
 ·exact .inl ⟨rfl,rfl⟩
 ·exact .inr ⟨a,c,o,j,rfl,ho,K _ _ (hq _ rfl) hb,hj,hc⟩
theorem AppJ.ext (A:AppJ E h q l)(K:Ext h h'):AppJ E h' q l:=A.keeps (X:=λ_=>False) (zH K) (λ_ _ h=>h)
theorem AppJ.of (A:Apd E h q l):AppJ E h q l:=by
 rcases A with⟨rfl,rfl⟩|⟨a,o,rfl,ho,hb⟩
 ·exact .inl ⟨rfl,rfl⟩
 ·exact .inr ⟨a,l.length,o,[],rfl,ho,by simpa using hb,by simp,Nat.le_refl _⟩
theorem AppJ.live (A:AppJ E h q l):∀s,q=some s->s.b<h.length:=by
 intro s hs
 rcases A with⟨rfl,rfl⟩|⟨a,c,o,j,rfl,ho,hb,hj,hc⟩
 ·cases hs
 ·cases hs;exact zD hb
theorem AppJ.append0 {by':Nat}{K:OSl->Heap->Prop}(A:AppJ E h q l)(hb:(l.length+m.length)*by'<=140737488355328)
  (hK:∀q' h',AppJ E h' q' (l++m)->zI (λb=>∃s,q=some s/\s.b=b) h h'->h.length<=h'.length->(∀s',q'=some s'->h.length<=s'.b∨∃s,q=some s/\s.b=s'.b)->K q' h'):vZ E.sz by' q m.length (E.all m) h K:=by
 refine⟨by rw[Enc.all_length],?_⟩
 rcases A with⟨rfl,rfl⟩|⟨a,c,o,j,rfl,ho,hb5,hj,hc⟩
 ·simp only
  split
  ·rename_i hm
   have:m=[]:=List.eq_nil_of_length_eq_zero hm
   subst this
   exact hK _ _ (.inl ⟨rfl,rfl⟩) (.refl _ _) (Nat.le_refl _) (λs' h=>by cases h)
  ·refine⟨by simpa using hb,E.pos,hK _ _ (.of (Apd.mk (by simp) (.inr rfl) (by simp))) (zH (Ext.app _ _)) (by simp) (λs' h=>by cases h;exact .inl (Nat.le_refl _))⟩
 ·simp only
  have hset:∀B:Blk,zI (λb=>∃s':SL,some (⟨a,0,l.length,c,o⟩:SL)=some s'/\s'.b=b) h (h.set a B):=by
   intro B b C hb hC
   rw[List.getElem?_set,if_neg]
   ·exact hC
   ·intro he;exact hb ⟨_,rfl,he⟩
  split
  ·rename_i hle
   rw[hb5]
   simp only
   have hl1:(E.all l).length=l.length*E.sz:=Enc.all_length
   have hm1:(E.all m).length=m.length*E.sz:=Enc.all_length
   have hmul:m.length*E.sz<=(c-l.length)*E.sz:=Nat.mul_le_mul_right _ (by omega)
   have hsub:(c-(l.length+m.length))*E.sz=(c-l.length)*E.sz-m.length*E.sz:=by rw[<-Nat.sub_mul];congr 1;omega
   refine⟨by rw[List.length_append,hl1,hm1,hj];omega,hK _ _ (.inr ⟨a,c,o,j.drop (m.length*E.sz),by simp,ho,?_,?_,by simp;omega⟩) (hset _) (by simp) (λs' h=>by cases h;exact .inr ⟨_,rfl,rfl⟩)⟩
   ·rw[List.getElem?_set_self (zD hb5)]
    congr 2
    rw[splice,Nat.zero_add,<-hl1,List.take_left' rfl,Enc.all_append,<-List.drop_drop,List.drop_left' rfl,hm1]
   ·rw[List.length_drop,hj,List.length_append,hsub]
  ·have hold:zA h ⟨a,0⟩ (l.length*E.sz)=some (E.all l):=by
    rw[zP (p:=⟨a,0⟩) hb5 (by simp[Enc.all_length])]
    simp[<-Enc.all_length]
   refine⟨hb,E.pos,?_⟩
   rw[hold,hb5]
   simp only
   rcases ho with rfl|rfl
   ·rw[if_pos rfl]
    exact hK _ _ (.of (Apd.mk (by simp) (.inr rfl) (by simp[Enc.all_append]))) (zH (Ext.app _ _)) (by simp) (λs' h=>by cases h;exact .inl (Nat.le_refl _))
   ·have h0':¬E.sz=0:=by have:=E.pos;omega
    rw[if_neg h0']
    refine⟨trivial,rfl,hK _ _ (.of (Apd.mk (by simp) (.inr rfl) ?_)) ((hset _).trans (zH (Ext.app _ _))) (by simp) (λs' h=>by cases h;exact .inl (Nat.le_refl _))⟩
    rw[List.getElem?_append_right (by simp)]
    simp[Enc.all_append]
theorem AppJ.append {src:OSl}{by':Nat}{K:OSl->Heap->Prop}(A:AppJ E h q l)(H:HasL E h src m)(hb:(l.length+m.length)*by'<=140737488355328)
  (hK:∀q' h',AppJ E h' q' (l++m)->zI (λb=>∃s,q=some s/\s.b=b) h h'->h.length<=h'.length->(∀s',q'=some s'->h.length<=s'.b∨∃s,q=some s/\s.b=s'.b)->K q' h'):zM E.sz by' q src h K:=by
 refine⟨E.all m,H.cells,?_⟩
 rw[H.len]
 exact A.append0 hb hK
theorem AppJ.store {i k:Nat}{r r':α}{xs:List AV}{K:Heap->Prop}(A:AppJ E h q l)(hi:l[i]?=some r)(hk:k+xs.length<=E.sz)(hr:E.f r'=splice (E.f r) k xs){p:PA}(hp:∀s,q=some s->p=⟨s.b,i*E.sz+k⟩)
  (hK:∀h',AppJ E h' q (l.set i r')->zI (λb=>∃s,q=some s/\s.b=b) h h'->h'.length=h.length->K h'):zL h p xs K:=by
 rcases A with⟨rfl,rfl⟩|⟨a,c,o,j,rfl,ho,hb5,hj,hc⟩
 ·simp at hi
 ·have hp:=hp _ rfl
  subst hp
  have hlt:=zD hi
  have hl1:(E.all l).length=l.length*E.sz:=Enc.all_length
  have hmul:(i+1)*E.sz<=l.length*E.sz:=Nat.mul_le_mul_right _ hlt
  rw[Nat.add_mul,Nat.one_mul] at hmul
  unfold zL
  simp only[hb5]
  refine⟨by rw[List.length_append,hl1];omega,hK _ (.inr ⟨a,c,o,j,by simp,ho,?_,by simpa using hj,by simpa using hc⟩) ?_ (by simp)⟩
  ·rw[List.getElem?_set_self (zD hb5)]
   congr 2
   have:=zGX (A:=[]) (B:=E.all l) (C:=j) (xs:=xs) (k:=i*E.sz+k) (by rw[hl1];omega)
   simp only[List.nil_append,List.length_nil,Nat.zero_add] at this
   rw[this,Go.Ab.splice_set hi hk hr]
  ·intro b C hb hC
   rw[List.getElem?_set,if_neg]
   ·exact hC
   ·intro he;exact hb ⟨_,rfl,he⟩
theorem AppJ.idx (A:AppJ E h q l){i:Int}{K:PA->Prop}(h0:0<=i)(h1:i<l.length)
  (hK:∀p x,l[i.toNat]?=some x->zA h p E.sz=some (E.f x)->(∀s,q=some s->p=⟨s.b,i.toNat*E.sz⟩)->K p):vIdx q i E.sz K:=by
 rcases A with⟨rfl,rfl⟩|⟨a,c,o,j,rfl,ho,hb5,hj,hc⟩
 ·simp at h1;omega
 ·have A':AppJ E h (some ⟨a,0,l.length,c,o⟩) l:=.inr ⟨a,c,o,j,rfl,ho,hb5,hj,hc⟩
  have hi:i.toNat<l.length:=by omega
  refine⟨h0,h1,hK _ _ (List.getElem?_eq_getElem hi) ?_ (λs hs=>by cases hs;simp)⟩
  have h2:i.toNat*E.sz+E.sz<=l.length*E.sz:=by
   have:(i.toNat+1)*E.sz<=l.length*E.sz:=Nat.mul_le_mul_right _ hi
   rw[Nat.add_mul,Nat.one_mul] at this;exact this
  have hc2:=A'.hasL.2.2.2
  rw[zA4 hc2 h2,Enc.all_at (List.getElem?_eq_getElem hi)]
end
theorem zOH {sz:Nat}{q:OSl}{lo:Int}{hi mx:Option Int}{K K2:OSl->Prop}(P:zW sz q lo hi mx K)(hK:∀q',K q'->(∀s',q'=some s'->∃s,q=some s/\s'.b=s.b)->K2 q'):zW sz q lo hi mx K2:=by
 unfold zW at P ⊢
 cases q with
 |none=>exact⟨P.1,P.2.1,P.2.2.1,hK _ P.2.2.2 (λs' h=>by cases h)⟩
 |some s=>exact⟨P.1,P.2.1,P.2.2.1,P.2.2.2.1,P.2.2.2.2.1,hK _ P.2.2.2.2.2 (λs' h=>by cases h;exact⟨s,rfl,rfl⟩)⟩
theorem HasL.slice2 {α:Type}{E:Enc α}{h:Heap}{q:OSl}{l:List α}(H:HasL E h q l){lo:Int}{hi:Option Int}{K:OSl->Prop}(h0:0<=lo)(h1:lo<=hi.getD l.length)(h2:hi.getD l.length<=l.length)
  (hK:∀q',HasL E h q' ((l.take (hi.getD l.length).toNat).drop lo.toNat)->(∀s',q'=some s'->∃s,q=some s/\s'.b=s.b)->K q'):zW E.sz q lo hi none K:=
 zOH (H.slice (K:=λq'=>HasL E h q' ((l.take (hi.getD l.length).toNat).drop lo.toNat)) h0 h1 h2 λ_ h=>h) hK
end Go.Ab

namespace Go.Ab
set_option linter.unusedSimpArgs false
set_option linter.unusedVariables false
section
variable{α:Type}{E:Enc α}{h h' h2:Heap}{q q':OSl}{l m:List α}
theorem AppJ.cut (A:AppJ E h q l){n:Nat}(hn:n<=l.length){K:OSl->Prop}(hK:∀q',AppJ E h q' (l.take n)->(∀s',q'=some s'->∃s,q=some s/\s.b=s'.b)->K q'):zW E.sz q 0 (some (n:Int)) none K:=by
 rcases A with⟨rfl,rfl⟩|⟨a,c,o,j,rfl,ho,hb,hj,hc⟩
 ·simp at hn;subst hn
  exact⟨rfl,rfl,rfl,hK none (.inl ⟨rfl,by simp⟩) (λs hs=>by cases hs)⟩
 ·refine⟨ho,by omega,by simp,by simp;omega,by simp,?_⟩
  simp only[Option.getD_some,Option.getD_none,Int.toNat_natCast,Int.toNat_zero,Nat.zero_mul,Nat.add_zero,Int.sub_zero,Option.isNone_none,if_true]
  have hl:(l.take n).length=n:=by rw[List.length_take];omega
  refine hK _ (.inr ⟨a,c,o,E.all (l.drop n)++j,by rw[hl],ho,?_,?_,by omega⟩) (λs' hs'=>by cases hs';exact⟨_,rfl,rfl⟩)
  ·rw[<-List.append_assoc,<-Enc.all_append,List.take_append_drop];exact hb
  ·rw[List.length_append,Enc.all_length,hj,hl,List.length_drop,<-Nat.add_mul];congr 1;omega
theorem zGS {n:Nat}{z:α}:(List.replicate n (E.f z)).flatten=E.all (List.replicate n z):=by
 simp[Enc.all,List.map_replicate]
theorem AppJ.clear (A:AppJ E h q m){n:Nat}(hn:n<=m.length){lo:Int}(hlo:lo=n){z:α}{K:Heap->Prop}(hK:∀h',AppJ E h' q (m.take n++List.replicate (m.length-n) z)->zI (λb=>∃s,q=some s/\s.b=b) h h'->h'.length=h.length->K h'):
  zW E.sz q lo none none λq'=>zGI (E.f z) q' h K:=by
 subst hlo
 rcases A with⟨rfl,rfl⟩|⟨a,c,o,j,rfl,ho,hb,hj,hc⟩
 ·simp at hn;subst hn
  exact⟨rfl,rfl,rfl,hK h (.inl ⟨rfl,by simp⟩) (.refl _ _) rfl⟩
 ·refine⟨ho,by omega,by simp;omega,by simp;omega,by simp,?_⟩
  simp only[Option.getD_none,Int.toNat_natCast,Nat.zero_add]
  have hl1:(E.all m).length=m.length*E.sz:=Enc.all_length
  have e0:(((m.length:Nat):Int) - (n:Int)).toNat=m.length-n:=by omega
  unfold zGI
  simp only[e0]
  split
  ·rename_i hz
   have hnm:n=m.length:=by omega
   refine hK h (.inr ⟨a,c,o,j,?_,ho,?_,?_,?_⟩) (.refl _ _) rfl
   ·simp[hnm]
   ·rw[hz];simp[hnm];exact hb
   ·rw[hz];simp[hnm];rw[hj]
   ·simp[hnm];exact hc
  ·rename_i k hz
   rw[show k+1=m.length-n from hz.symm,zGS]
   refine zZ (E.one z) ?_
   unfold zL
   simp only[hb]
   have hl2:(E.all (List.replicate (m.length-n) z)).length=(m.length-n)*E.sz:=by rw[Enc.all_length];simp
   have hadd:n*E.sz+(m.length-n)*E.sz=m.length*E.sz:=by rw[<-Nat.add_mul];congr 1;omega
   refine⟨by rw[List.length_append,hl1,hl2];omega,hK _ (.inr ⟨a,c,o,j,?_,ho,?_,?_,?_⟩) ?_ (by simp)⟩
   ·congr 2;simp;omega
   ·rw[List.getElem?_set_self (zD hb)]
    congr 2
    unfold splice
    rw[hl2,hadd,List.drop_left' hl1,List.take_append_of_le_length (by omega),Enc.all_append]
    congr 2
    conv=>lhs;rw[<-List.take_append_drop n m,Enc.all_append]
    exact List.take_left' (by rw[Enc.all_length,List.length_take];congr 1;omega)
   ·rw[hj];congr 2;simp;omega
   ·simp;omega
   ·intro b C hbb hC
    rw[List.getElem?_set,if_neg]
    ·exact hC
    ·intro he;exact hbb ⟨_,rfl,he⟩
def NewJ(E:Enc α)(h h':Heap)(q:OSl)(l:List α):Prop:=Ext h h'/\AppJ E h' q l/\∀s,q=some s->h.length<=s.b
theorem NewJ.of (N:New E h h' q l):NewJ E h h' q l:=⟨N.1,.of N.2.1,N.2.2⟩
theorem NewJ.hasL (N:NewJ E h h' q l):HasL E h' q l:=N.2.1.hasL
theorem NewJ.inplace (N:NewJ E h h' q l)(A:AppJ E h2 q' m)(K:zI (λb=>∃s,q=some s/\s.b=b) h' h2)(hq:∀s',q'=some s'->∃s,q=some s/\s.b=s'.b):NewJ E h h2 q' m:=by
 refine⟨λb B hB=>K b B (λ⟨s,a1,a2⟩=> ?_) (N.1 b B hB),A,λs' hs'=> ?_⟩
 ·have:=N.2.2 s a1;have:=zD hB;omega
 ·obtain⟨s,a1,a2⟩:=hq s' hs'
  have:=N.2.2 s a1;omega
end
end Go.Ab
namespace Go.Ab
set_option linter.unusedVariables false
set_option linter.unusedSimpArgs false
def OwnL{α:Type}(E:Enc α)(h:Heap)(q:OSl)(l:List α):Prop:=(l=[]/\∃a,q=some ⟨a,0,0,0,0⟩/\h[a]?=some (.cells [] true))∨(l≠ []/\∃a,q=some ⟨a,0,l.length,l.length,E.sz⟩/\h[a]?=some (.cells (E.all l) true))
theorem OwnL.hasL {α:Type}{E:Enc α}{h:Heap}{q:OSl}{l:List α}(O:OwnL E h q l):HasL E h q l:=by
 rcases O with⟨rfl,a,rfl,hb⟩|⟨hne,a,rfl,hb⟩
 ·refine⟨rfl,Nat.le_refl _,.inl rfl,?_⟩
  simp[zA,hb,Enc.all]
 ·refine⟨rfl,Nat.le_refl _,.inr rfl,?_⟩
  rw[zP (p:=⟨a,0⟩) hb (by simp[Enc.all_length])]
  simp[<-Enc.all_length]
theorem copy0 {α:Type}{E:Enc α}{h:Heap}{a:Nat}{q:OSl}{l:List α}{by':Nat}{K:OSl->Heap->Prop}(ha:h[a]?=some (.cells [] true))(H:HasL E h q l)(hb:l.length*by'<=140737488355328)
  (hK:∀q' h',Ext h h'->OwnL E h' q' l->(∀s,q'=some s->s.b=a∨h.length<=s.b)->K q' h'):zM E.sz by' (some ⟨a,0,0,0,0⟩) q h K:=by
 refine⟨E.all l,H.cells,by rw[Enc.all_length,H.len],?_⟩
 rw[H.len]
 simp only[Nat.zero_add,Nat.zero_mul]
 split
 ·rename_i h0
  have:l=[]:=List.eq_nil_of_length_eq_zero (by omega)
  subst this
  rw[ha]
  have e0:E.all ([]:List α)=[]:=rfl
  simp only[e0,zAF,List.length_nil]
  have hs:h.set a (.cells [] true)=h:=zH0 ha
  rw[hs]
  exact⟨by simp,hK _ _ (.refl _) (.inl ⟨rfl,a,rfl,ha⟩) (λs hs=>by cases hs;exact .inl rfl)⟩
 ·rename_i h0
  refine⟨hb,E.pos,?_⟩
  have hc:zA h ⟨a,0⟩ 0=some []:=by simp[zA,ha]
  rw[hc,ha]
  simp only[if_true,List.nil_append]
  refine hK _ _ (.app _ _) (.inr ⟨λh=>h0 (by rw[h];simp),h.length,rfl,by simp⟩) (λs hs=>by cases hs;exact .inr (Nat.le_refl _))
theorem OwnL.apd {α:Type}{E:Enc α}{h:Heap}{q:OSl}{l:List α}(O:OwnL E h q l):Apd E h q l:=by
 rcases O with⟨rfl,a,rfl,hb⟩|⟨hne,a,rfl,hb⟩
 ·exact .inr ⟨a,0,rfl,.inl rfl,by simpa[Enc.all] using hb⟩
 ·exact .inr ⟨a,E.sz,rfl,.inr rfl,hb⟩
theorem zIX {α:Type}{E:Enc α}{h:Heap}{q:OSl}{l:List α}{by':Nat}{K:OSl->Heap->Prop}(H:HasL E h q l)(hb:l.length*by'<=140737488355328)
  (hK:∀q' h',New E h h' q' l->K q' h'):zM E.sz by' (some ⟨h.length,0,0,0,0⟩) q (h++[.cells [] true]) K:=by
 refine copy0 (by simp) (H.mono (.app _ _)) hb λq' h' x O hq=>hK q' h' ⟨(Ext.app _ _).trans x,O.apd,λs hs=> ?_⟩
 have:=hq s hs
 simp at this
 omega
def Lls{α:Type}(E:Enc α)(h:Heap)(q:OSl)(ls:List (List α)):Prop:=
 ∃qs:List (OSl),HasL slE h q qs/\qs.length=ls.length/\∀(i:Nat) (s:OSl) (l:List α),qs[i]?=some s->ls[i]?=some l->HasL E h s l
section
variable{α:Type}{E:Enc α}{h0 h h':Heap}{q:OSl}{ls:List (List α)}
theorem Lls.mono (I:Lls E h q ls)(x:Ext h h'):Lls E h' q ls:=by
 obtain⟨qs,a,b,c⟩:=I
 exact⟨qs,a.mono x,b,λi s l h1 h2=>(c i s l h1 h2).mono x⟩
theorem Lls.len (I:Lls E h q ls):zJ q=ls.length:=by
 obtain⟨qs,a,b,c⟩:=I
 rw[a.len,b]
theorem Lls.idx (I:Lls E h q ls){i:Int}{K:PA->Prop}(h0:0<=i)(h1:i<ls.length)(hK:∀p s l,ls[i.toNat]?=some l->zA h p 1=some [.sl s]->HasL E h s l->K p):vIdx q i 1 K:=by
 obtain⟨qs,a,b,c⟩:=I
 refine HasL.idx (E:=slE) a h0 (by omega) λp s hs hc=> ?_
 have hl:ls[i.toNat]?=some (ls[i.toNat]'(by omega)):=List.getElem?_eq_getElem _
 exact hK p s _ hl hc (c _ _ _ hs hl)
end
structure LL{α:Type}(E:Enc α)(h0 h:Heap)(out:OSl)(qs:List (OSl))(ls:List (List α)):Prop where
 ext:Ext h0 h
 oa:Apd slE h out qs
 ob:∀s,out=some s->h0.length<=s.b
 len:qs.length=ls.length
 el:∀(i:Nat) (s:OSl) (l:List α),qs[i]?=some s->ls[i]?=some l->HasL E h s l
 eb:∀(i:Nat) (t:SL),qs[i]?=some (some t)->h0.length<=t.b/\∀o,out=some o->o.b≠t.b
section
variable{α:Type}{E:Enc α}{h0 h h':Heap}{out:OSl}{qs:List (OSl)}{ls:List (List α)}
theorem LL.nil (h:Heap):LL E h h none [] []:=⟨.refl _,.inl ⟨rfl,rfl⟩,by simp,rfl,by simp,by simp⟩
theorem LL.lls (L:LL E h0 h out qs ls):Lls E h out ls:=⟨qs,L.oa.hasL,L.len,L.el⟩
theorem LL.grow (L:LL E h0 h out qs ls)(x:Ext h h'):LL E h0 h' out qs ls:=
 ⟨L.ext.trans x,L.oa.ext x,L.ob,L.len,λi s l h1 h2=>(L.el i s l h1 h2).mono x,L.eb⟩
theorem LL.live (L:LL E h0 h out qs ls){i:Nat}{t:SL}(ht:qs[i]?=some (some t)):t.b<h.length:=by
 have hi:=(List.getElem?_eq_some_iff.1 ht).1
 have hl:ls[i]?=some (ls[i]'(by rw[<-L.len];exact hi)):=List.getElem?_eq_getElem _
 exact HasL.live (L.el i _ _ ht hl) t rfl
theorem LL.keeps {X:Nat->Prop}(L:LL E h0 h out qs ls)(K:zI X h h')(h1:∀b,X b->h0.length<=b)(h2:∀o,out=some o->¬X o.b)(h3:∀(i:Nat) (t:SL),qs[i]?=some (some t)->¬X t.b):LL E h0 h' out qs ls:=by
 refine⟨λb B hB=>K b B (λhX=> ?_) (L.ext _ _ hB),L.oa.keeps K h2,L.ob,L.len,λi s l g1 g2=>K.hasL (λt ht=>h3 i t (by rw[g1,ht])) (L.el i s l g1 g2),L.eb⟩
 have:=h1 b hX
 have:=zD hB
 omega
theorem LL.push {s:OSl}{l:List α}{by':Nat}{K:OSl->Heap->Prop}(L:LL E h0 h out qs ls)(H:HasL E h s l)(hs:∀t,s=some t->h0.length<=t.b/\∀o,out=some o->o.b≠t.b)(hb:(qs.length+1)*by'<=140737488355328)
  (hK:∀out' h',LL E h0 h' out' (qs++[s]) (ls++[l])->zI (λb=>∃o,out=some o/\o.b=b) h h'->h.length<=h'.length->(∀o',out'=some o'->h.length<=o'.b∨∃o,out=some o/\o.b=o'.b)->K out' h'):
  zM 1 by' out (some ⟨h.length,0,1,1,0⟩) (h++[.cells [.sl s] true]) K:=by
 have hx:Ext h (h++[Blk.cells [.sl s] true]):=.app _ _
 have L1:=L.grow hx
 refine Apd.append (E:=slE) L1.oa (m:=[s]) (HasL.new (E:=slE) (l:=[s]) (n:=1) rfl rfl) hb λout' h' A K1 hl ho=> ?_
 have Kall:zI (λb=>∃o,out=some o/\o.b=b) h h':=(zH hx).trans K1
 have hlen:h.length<=h'.length:=by have:=hx.len;omega
 have ho':∀o',out'=some o'->h.length<=o'.b∨∃o,out=some o/\o.b=o'.b:=λo' h1=>(ho o' h1).imp (λh=>by have:=hx.len;omega) id
 have hne:∀{t:SL},t.b<h.length->(∀o,out=some o->o.b≠t.b)->∀o',out'=some o'->o'.b≠t.b:=λhlt hn o' h1=>by
  rcases ho' o' h1 with h2|⟨o,h2,h3⟩
  ·omega
  ·rw[<-h3];exact hn o h2
 have notX:∀{t:SL},(∀o,out=some o->o.b≠t.b)->¬ ∃o,out=some o/\o.b=t.b:=λhn ⟨o,h1,h2⟩=>hn o h1 h2
 refine hK out' h' ⟨?_,A,?_,by simp[L.len],?_,?_⟩ Kall hlen ho'
 ·intro b B hB
  refine Kall b B (λ⟨o,h1,h2⟩=> ?_) (L.ext _ _ hB)
  have:=L.ob o h1;have:=zD hB;omega
 ·intro o' h1
  rcases ho' o' h1 with h2|⟨o,h2,h3⟩
  ·have:=L.ext.len;omega
  ·rw[<-h3];exact L.ob o h2
 ·intro i s' l' g1 g2
  rw[List.getElem?_append] at g1 g2
  have hll:=L.len
  split at g1
  ·rename_i hi
   rw[if_pos (by omega)] at g2
   exact Kall.hasL (λt ht=>notX (L.eb i t (by rw[g1,ht])).2) (L.el i s' l' g1 g2)
  ·rename_i hi
   rw[if_neg (by omega)] at g2
   have hz:i-qs.length=0:=by
    have:=(List.getElem?_eq_some_iff.1 g1).1;simp at this;omega
   rw[hz] at g1
   rw[<-hll,hz] at g2
   simp at g1 g2
   subst g1 g2
   exact Kall.hasL (λt ht=>notX (hs t ht).2) H
 ·intro i t g1
  rw[List.getElem?_append] at g1
  split at g1
  ·rename_i hi
   exact⟨(L.eb i t g1).1,hne (L.live g1) (L.eb i t g1).2⟩
  ·rename_i hi
   have hz:i-qs.length=0:=by
    have:=(List.getElem?_eq_some_iff.1 g1).1;simp at this;omega
   rw[hz] at g1
   simp at g1
   exact⟨(hs t g1).1,hne (HasL.live H t g1) (hs t g1).2⟩
theorem LL.set {s:OSl}{l:List α}{i:Nat}{ix:Int}{K:Heap->Prop}(L:LL E h0 h out qs ls)(hix:ix=i)(hi:i<ls.length)(H:HasL E h s l)(hs:∀t,s=some t->h0.length<=t.b/\∀o,out=some o->o.b≠t.b)
  (hK:∀h',LL E h0 h' out (qs.set i s) (ls.set i l)->zI (λb=>∃o,out=some o/\o.b=b) h h'->h'.length=h.length->K h'):vIdx out ix 1 λp=>zL h p [.sl s] K:=by
 subst hix
 have hql:=L.len
 rcases L.oa with⟨rfl,h2⟩|⟨a,o,ho,h2,hb⟩
 ·rw[h2] at hql;simp at hql;omega
 ·have hidx:(((i:Nat):Int)).toNat=i:=by simp
  rw[ho]
  refine⟨by omega,by simp only;omega,?_⟩
  simp only[hidx,Nat.zero_add]
  have hlen:(slE.all qs).length=qs.length:=by rw[Enc.all_length];exact Nat.mul_one _
  unfold zL
  simp only
  rw[hb]
  refine⟨by simp;omega,?_⟩
  have hsp:splice (slE.all qs) (i*1) [.sl s]=slE.all (qs.set i s):=by
   have hg:qs[i]?=some (qs[i]'(by omega)):=List.getElem?_eq_getElem _
   have:=splice_set (E:=slE) (k:=0) (r':=s) (xs:=[.sl s]) hg (by simp[slE]) rfl
   simpa[slE] using this
  rw[hsp]
  have hK1:zI (λb=>∃o,out=some o/\o.b=b) h (h.set a (.cells (slE.all (qs.set i s)) true)):=zO ⟨_,ho,rfl⟩
  have hlt:=zD hb
  have notX:∀{t:SL},(∀o,out=some o->o.b≠t.b)->¬ ∃o,out=some o/\o.b=t.b:=λhn ⟨o,h1,h2⟩=>hn o h1 h2
  refine hK _ ⟨?_,.inr ⟨a,o,by rw[ho,List.length_set],h2,by rw[List.getElem?_set_self hlt]⟩,L.ob,by simp[hql],?_,?_⟩ hK1 (by simp)
  ·intro b B hB
   refine hK1 b B (λ⟨o',h1,h2⟩=> ?_) (L.ext _ _ hB)
   have:=L.ob o' h1;have:=zD hB;omega
  ·intro k s' l' g1 g2
   rw[List.getElem?_set] at g1 g2
   by_cases hk:i=k
   ·subst hk
    rw[if_pos rfl,if_pos (by omega)] at g1 g2
    cases g1;cases g2
    exact hK1.hasL (λt ht=>notX (hs t ht).2) H
   ·rw[if_neg hk] at g1 g2
    exact hK1.hasL (λt ht=>notX (L.eb k t (by rw[g1,ht])).2) (L.el k s' l' g1 g2)
  ·intro k t g1
   rw[List.getElem?_set] at g1
   by_cases hk:i=k
   ·subst hk
    rw[if_pos rfl,if_pos (by omega)] at g1
    cases g1
    exact hs t rfl
   ·rw[if_neg hk] at g1
    exact L.eb k t g1
end
end Go.Ab
namespace Go.Pool
open Go.Ab hiding Bs
open Go.Ent
set_option linter.unusedVariables false
set_option linter.unusedSimpArgs false
theorem zEN {P:PS}(hk:P.ok){s:Bs}{i:Int}{k:Nat}{f:Fr}(hf:P.fr[k]?=some f)(h1:f.is=true)(h2:f.name=s)(h3:f.i=i):P.at s i=some k:=by
 unfold PS.at
 obtain⟨hl,rfl⟩:=List.getElem?_eq_some_iff.1 hf
 rw[List.findIdx?_eq_some_iff_getElem]
 refine⟨hl,by simp[Fr.at,h1,h2,h3],λj hj hc=> ?_⟩
 simp only[Fr.at,Bool.and_eq_true,beq_iff_eq] at hc
 have:=hk.one j k _ _ (List.getElem?_eq_getElem (Nat.lt_trans hj hl)) hf hc.1 h1 (by rw[hc.2.1,h2]) (by rw[hc.2.2,h3])
 omega
theorem zLR {P:PS}{s:Bs}{i:Int}{k:Nat}(h:P.at s i=some k):∃f,P.fr[k]?=some f/\f.is=true/\f.name=s/\f.i=i:=by
 unfold PS.at at h
 rw[List.findIdx?_eq_some_iff_getElem] at h
 obtain⟨hl,h1,_⟩:=h
 simp only[Fr.at,Bool.and_eq_true,beq_iff_eq] at h1
 exact⟨_,List.getElem?_eq_getElem hl,h1.1,h1.2.1,h1.2.2⟩
theorem zSO {P:PS}{s:Bs}{i:Int}(h:∀f∈P.fr,f.is=true->f.name=s->f.i≠i):P.at s i=none:=by
 cases he:P.at s i with
 |none=>rfl
 |some k=>
  obtain⟨f,hf,h1,h2,h3⟩:=zLR he
  exact absurd h3 (h f (List.mem_of_getElem? hf) h1 h2)
theorem zSN {P:PS}{s:Bs}{i:Int}(hk:P.ok)(h:P.at s i=none):∀(k:Nat) (f:Fr),P.fr[k]?=some f->f.is=true->f.name=s->f.i≠i:=by
 intro k f hf h1 h2 h3
 rw[zEN hk hf h1 h2 h3] at h;cases h
structure RF where
 name:Bs
 i:Int
 q:OSl
 held:Nat
 mark:Bool
 is:Bool
def rfE:Enc RF:=⟨6,λf=>[.str f.name,.int .i64 f.i,.sl f.q,.int .i64 (f.held:Nat),.bool f.mark,.bool f.is],λ_=>rfl,by omega,λ_=>rfl⟩
abbrev kN(s:Bs)(i:Int):AV:=.agg [.str s,.int .i64 i]
abbrev Ents:=List (AV×AV×Nat)
structure EncZ where
 e:Enc Ent
 z:Nat->Prop
structure RelF(E:EncZ)(h:Heap)(p fb mb:Nat)(r:RF)(f:Fr):Prop where
 name:r.name=f.name
 i:r.i=f.i
 held:r.held=f.held
 mark:r.mark=f.mark
 is:r.is=f.is
 l:HasL E.e h r.q f.l
 sep:∀s,r.q=some s->s.b≠p/\s.b≠fb/\s.b≠mb/\¬E.z s.b
abbrev zAU(fb mb n hand hits reads losses:Nat):Blk:=.cells [.sl (some ⟨fb,0,n,n,0⟩),.map (some mb),.int .i64 (hand:Nat),.int .i64 (hits:Nat),.int .i64 (reads:Nat),.int .i64 (losses:Nat)] true
structure kE(E:EncZ)(h:Heap)(p fb mb:Nat)(rs:List RF)(es:Ents)(cl:Nat)(P:PS):Prop where
 pb:h[p]?=some (zAU fb mb P.fr.length P.hand P.hits P.reads P.losses)
 fbk:h[fb]?=some (.cells (rfE.all rs) true)
 mbk:h[mb]?=some (.mp es cl)
 rl:rs.length=P.fr.length
 rel:∀(k:Nat) (r:RF) (f:Fr),rs[k]?=some r->P.fr[k]?=some f->RelF E h p fb mb r f
 keys:∀e∈es,∃(k:Nat) (f:Fr),P.fr[k]?=some f/\f.is=true/\e.1=kN f.name f.i/\e.2.1= .int .i64 (k:Nat)
 all:∀(k:Nat) (f:Fr),P.fr[k]?=some f->f.is=true->∃n,(kN f.name f.i,AV.int .i64 (k:Nat),n)∈es
 nd:(es.map (·.1)).Nodup
 ok:P.ok
 ne:p≠fb/\p≠mb/\fb≠mb
def zE8(E:EncZ)(h:Heap)(p fb mb:Nat)(P:PS):Prop:=∃rs es cl,kE E h p fb mb rs es cl P
abbrev pbl(p fb mb:Nat):Nat->Prop:=λb=>b=p∨b=fb∨b=mb
structure PS.lt(P:PS)(N:Nat):Prop where
 held:∀f∈P.fr,f.held<=N
 hits:P.hits<=N
 reads:P.reads<=N
 losses:P.losses<=N
theorem PS.lt.mono {P:PS}{N M:Nat}(h:P.lt N)(hm:N<=M):P.lt M:=⟨λf hf=>Nat.le_trans (h.held f hf) hm,Nat.le_trans h.hits hm,Nat.le_trans h.reads hm,Nat.le_trans h.losses hm⟩
section
variable{E:EncZ}{h h':Heap}{p fb mb:Nat}{rs:List RF}{es:Ents}{cl:Nat}{P:PS}
theorem RelF.keeps {X:Nat->Prop}{r:RF}{f:Fr}(R:RelF E h p fb mb r f)(K:zI X h h')(hX:∀b,b≠p->b≠fb->b≠mb->b<h.length->¬X b):RelF E h' p fb mb r f:=
 ⟨R.name,R.i,R.held,R.mark,R.is,K.hasL (λs hs=>let⟨a,b,c,d⟩:=R.sep s hs;hX _ a b c (HasL.live R.l s hs)) R.l,R.sep⟩
theorem RelF.keepsZ {X:Nat->Prop}{r:RF}{f:Fr}(R:RelF E h p fb mb r f)(K:zI X h h')(hX:∀b,X b->E.z b):RelF E h' p fb mb r f:=
 ⟨R.name,R.i,R.held,R.mark,R.is,K.hasL (λs hs hc=>(R.sep s hs).2.2.2 (hX _ hc)) R.l,R.sep⟩
theorem kE.keepsZ {X:Nat->Prop}(C:kE E h p fb mb rs es cl P)(K:zI X h h')(hX:∀b,X b->E.z b)(hp:¬X p/\¬X fb/\¬X mb):kE E h' p fb mb rs es cl P:=
 {C with
  pb:=K _ _ hp.1 C.pb
  fbk:=K _ _ hp.2.1 C.fbk
  mbk:=K _ _ hp.2.2 C.mbk
  rel:=λk r f hr hf=>(C.rel k r f hr hf).keepsZ K hX}
theorem kE.more {z:Nat->Prop}(C:kE E h p fb mb rs es cl P)(hz:∀b,z b->E.z b∨h.length<=b):kE ⟨E.e,z⟩ h p fb mb rs es cl P:=
 {C with rel:=λk r f hr hf=>
   let R:=C.rel k r f hr hf
   ⟨R.name,R.i,R.held,R.mark,R.is,R.l,λs hs=>let⟨a,b,c,d⟩:=R.sep s hs;⟨a,b,c,λhc=>by
    rcases hz _ hc with h1|h1
    ·exact d h1
    ·have:=HasL.live R.l s hs;omega⟩⟩}
theorem kE.keeps {X:Nat->Prop}(C:kE E h p fb mb rs es cl P)(K:zI X h h')(hX:∀b,b<h.length->¬X b):kE E h' p fb mb rs es cl P:=
 {C with
  pb:=K _ _ (hX _ (zD C.pb)) C.pb
  fbk:=K _ _ (hX _ (zD C.fbk)) C.fbk
  mbk:=K _ _ (hX _ (zD C.mbk)) C.mbk
  rel:=λk r f hr hf=>(C.rel k r f hr hf).keeps K (λb _ _ _ hb=>hX b hb)}
theorem zE8.ext (R:zE8 E h p fb mb P)(K:Ext h h'):zE8 E h' p fb mb P:=by
 obtain⟨rs,es,cl,C⟩:=R
 exact⟨rs,es,cl,C.keeps (X:=λ_=>False) (zH K) (λ_ _ h=>h)⟩
theorem kE.at (C:kE E h p fb mb rs es cl P){k:Nat}{x:AV}(hx: [AV.sl (some ⟨fb,0,P.fr.length,P.fr.length,0⟩),.map (some mb),.int .i64 (P.hand:Nat),.int .i64 (P.hits:Nat),.int .i64 (P.reads:Nat),.int .i64 (P.losses:Nat)][k]?=some x):zA h ⟨p,0+k⟩ 1=some [x]:=by
 have hk:k<6:=by
  have:=(List.getElem?_eq_some_iff.1 hx).1
  simpa using this
 rw[xQ C.pb (by simp only[List.length_cons,List.length_nil];omega)]
 match k,hk with
 |0,_|1,_|2,_|3,_|4,_|5,_=>cases hx;rfl
theorem zEL {Pg:Program}{kt:TypeId}(hK:∀(s s':Bs) (i i':Int) (K:Bool->Prop),K ((s==s')&&(i==i'))->vW Pg kt (kN s i) (kN s' i') K){s:Bs}{i:Int}{K:Option (Nat×AV×Nat)->Prop}:∀{es:Ents} {n0:Nat},
  (∀e∈es,∃s' i',e.1=kN s' i')->((∀e∈es,e.1≠kN s i)->K none)->(∀j v n,es[j]?=some (kN s i,v,n)->K (some (n0+j,v,n)))->jP Pg kt (kN s i) es n0 K
 | [],n0,_,h0,_=>h0 (by simp)
 |(k',v,n)::es,n0,hes,h0,h1=>by
  obtain⟨s',i',rfl⟩:∃s' i',k'=kN s' i':=hes (k',v,n) (by simp)
  refine hK _ _ _ _ _ ?_
  by_cases he:s=s'/\i=i'
  ·obtain⟨rfl,rfl⟩:=he
   simp only[beq_self_eq_true,Bool.and_self,vif]
   have:=h1 0 v n rfl
   rwa[Nat.add_zero] at this
  ·have hb:((s==s')&&(i==i'))=false:=by
    rw[Bool.and_eq_false_iff]
    rcases Decidable.em (s=s') with h|h
    ·exact .inr (by simpa using λhi=>he ⟨h,hi⟩)
    ·exact .inl (by simpa using h)
   rw[hb]
   simp only[vif]
   refine zEL hK (λe hm=>hes e (by simp[hm])) (λhn=>h0 λe hm=> ?_) λj v' n' hj=> ?_
   ·rcases List.mem_cons.1 hm with rfl|hm
    ·intro hc
     simp only[AV.agg.injEq,List.cons.injEq,AV.str.injEq,AV.int.injEq,true_and,and_true] at hc
     exact he ⟨hc.1.symm,hc.2.symm⟩
    ·exact hn e hm
   ·have:=h1 (j+1) v' n' hj
    rwa[show n0+(j+1)=n0+1+j by omega] at this
theorem kE.find (C:kE E h p fb mb rs es cl P){Pg:Program}{kt:TypeId}(hK:∀(s s':Bs) (i i':Int) (K:Bool->Prop),K ((s==s')&&(i==i'))->vW Pg kt (kN s i) (kN s' i') K){s:Bs}{i:Int}{K:Option (Nat×AV×Nat)->Prop}
  (h0:P.at s i=none->K none)(h1:∀j k n,P.at s i=some k->es[j]?=some (kN s i,.int .i64 (k:Nat),n)->K (some (j,.int .i64 (k:Nat),n))):jP Pg kt (kN s i) es 0 K:=by
 refine zEL hK (λe he=>let⟨k,f,_,_,h3,_⟩:=C.keys e he;⟨_,_,h3⟩) (λhn=>h0 (zSO λf hf h1 h2 h3=> ?_)) λj v n hj=> ?_
 ·obtain⟨k,hk⟩:=List.getElem?_of_mem hf
  obtain⟨n,hm⟩:=C.all k f hk h1
  exact hn _ hm (by rw[h2,h3])
 ·obtain⟨k,f,hf,hi,e1,e2⟩:=C.keys _ (List.mem_of_getElem? hj)
  simp only at e1 e2
  subst e2
  simp only[AV.agg.injEq,List.cons.injEq,AV.str.injEq,AV.int.injEq,true_and,and_true] at e1
  rw[Nat.zero_add]
  exact h1 j k n (zEN C.ok hf hi e1.1.symm e1.2.symm) hj
end
theorem zT {α:Type}{l:List α}{k j:Nat}{a g:α}(h:(l.set k a)[j]?=some g):(j=k/\g=a)∨(j≠k/\l[j]?=some g):=by
 rw[List.getElem?_set] at h
 by_cases hj:k=j
 ·subst hj
  rw[if_pos rfl] at h
  by_cases hl:k<l.length
  ·rw[if_pos hl] at h;cases h;exact .inl ⟨rfl,rfl⟩
  ·rw[if_neg hl] at h;cases h
 ·rw[if_neg hj] at h;exact .inr ⟨λhc=>hj hc.symm,h⟩
section
variable{E:EncZ}{h h':Heap}{p fb mb:Nat}{rs:List RF}{es:Ents}{cl:Nat}{P P':PS}
theorem PS.ok.setF (o:P.ok){k:Nat}{f f':Fr}(hf:P.fr[k]?=some f)(h1:f'.name=f.name)(h2:f'.i=f.i)(h3:f'.is=f.is):PS.ok {P with fr:=P.fr.set k f'}:=by
 have key:∀(j:Nat) (g:Fr),(P.fr.set k f')[j]?=some g->∃g0,P.fr[j]?=some g0/\g.name=g0.name/\g.i=g0.i/\g.is=g0.is:=by
  intro j g hg
  rcases zT hg with⟨rfl,rfl⟩|⟨_,hg⟩
  ·exact⟨f,hf,h1,h2,h3⟩
  ·exact⟨g,hg,rfl,rfl,rfl⟩
 refine⟨λj1 j2 f1 f2 e1 e2 i1 i2 n1 n2=> ?_,by simp only[List.length_set];exact o.hand,by simp only[List.length_set];exact o.few⟩
 obtain⟨g1,a1,a2,a3,a4⟩:=key j1 f1 e1
 obtain⟨g2,b1,b2,b3,b4⟩:=key j2 f2 e2
 exact o.one j1 j2 g1 g2 a1 b1 (by rw[<-a4];exact i1) (by rw[<-b4];exact i2) (by rw[<-a2,<-b2];exact n1) (by rw[<-a3,<-b3];exact n2)
theorem fb_set (C:kE E h p fb mb rs es cl P){B:Blk}:zI (λb=>b=fb) h (h.set fb B):=zO rfl
theorem kE.setF (C:kE E h p fb mb rs es cl P){k:Nat}{r':RF}{f f':Fr}(hf:P.fr[k]?=some f)(R':RelF E h p fb mb r' f')(h1:f'.name=f.name)(h2:f'.i=f.i)(h3:f'.is=f.is):
  kE E (h.set fb (.cells (rfE.all (rs.set k r')) true)) p fb mb (rs.set k r') es cl {P with fr:=P.fr.set k f'}:=by
 have hfl:=zD C.fbk
 have hkl:=(List.getElem?_eq_some_iff.1 hf).1
 have K:=fb_set C (B:=.cells (rfE.all (rs.set k r')) true)
 have key:∀(j:Nat) (g:Fr),(P.fr.set k f')[j]?=some g->∃g0,P.fr[j]?=some g0/\g.name=g0.name/\g.i=g0.i/\g.is=g0.is:=by
  intro j g hg
  rcases zT hg with⟨rfl,rfl⟩|⟨_,hg⟩
  ·exact⟨f,hf,h1,h2,h3⟩
  ·exact⟨g,hg,rfl,rfl,rfl⟩
 refine⟨?_,by rw[List.getElem?_set_self hfl],K _ _ (λhx=>C.ne.2.2 hx.symm) C.mbk,by rw[List.length_set,List.length_set];exact C.rl,?_,?_,?_,C.nd,C.ok.setF hf h1 h2 h3,C.ne⟩
 ·simp only[List.length_set]
  exact K _ _ C.ne.1 C.pb
 ·intro j r g hr hg
  rw[List.getElem?_set] at hr
  simp only at hg
  rw[List.getElem?_set] at hg
  by_cases hj:k=j
  ·subst hj
   rw[if_pos rfl] at hr hg
   rw[if_pos (by rw[C.rl];exact hkl)] at hr
   rw[if_pos hkl] at hg
   cases hr;cases hg
   exact R'.keeps K (λb _ hb _ _ hx=>hb hx)
  ·rw[if_neg hj] at hr hg
   exact(C.rel j r g hr hg).keeps K (λb _ hb _ _ hx=>hb hx)
 ·intro e he
  obtain⟨j,g,hg,hi,e1,e2⟩:=C.keys e he
  by_cases hj:k=j
  ·subst hj
   rw[hf] at hg;cases hg
   exact⟨k,f',by simp[hkl],by rw[h3];exact hi,by rw[h1,h2];exact e1,e2⟩
  ·exact⟨j,g,by simp only;rw[List.getElem?_set,if_neg hj];exact hg,hi,e1,e2⟩
 ·intro j g hg hi
  obtain⟨g0,a1,a2,a3,a4⟩:=key j g hg
  obtain⟨n,hn⟩:=C.all j g0 a1 (by rw[<-a4];exact hi)
  exact⟨n,by rw[a2,a3];exact hn⟩
theorem kE.setP (C:kE E h p fb mb rs es cl P)(hfr:P'.fr=P.fr)(hh:P'.hand<P.fr.length∨P'.hand=0):kE E (h.set p (zAU fb mb P.fr.length P'.hand P'.hits P'.reads P'.losses)) p fb mb rs es cl P':=by
 have hpl:=zD C.pb
 have K:zI (λb=>b=p) h (h.set p (zAU fb mb P.fr.length P'.hand P'.hits P'.reads P'.losses)):=zO rfl
 refine⟨by rw[hfr,List.getElem?_set_self hpl],K _ _ (λhx=>C.ne.1 hx.symm) C.fbk,K _ _ (λhx=>C.ne.2.1 hx.symm) C.mbk,by rw[hfr];exact C.rl,?_,?_,?_,C.nd,⟨by rw[hfr];exact C.ok.one,by rw[hfr];exact hh,by rw[hfr];exact C.ok.few⟩,C.ne⟩
 ·intro k r f hr hf
  rw[hfr] at hf
  exact(C.rel k r f hr hf).keeps K (λb hb _ _ _ hx=>hb hx)
 ·intro e he
  rw[hfr];exact C.keys e he
 ·intro k f hf hi
  rw[hfr] at hf;exact C.all k f hf hi
theorem kE.setK (C:kE E h p fb mb rs es cl P){k:Nat}{r':RF}{f f':Fr}(hf:P.fr[k]?=some f)(R':RelF E h p fb mb r' f'){es':Ents}{cl':Nat}{B:Blk}(hB:B= .mp es' cl')
  (hkeys:∀e∈es',(f'.is=true/\e.1=kN f'.name f'.i/\e.2.1= .int .i64 (k:Nat))∨(e∈es/\¬(f.is=true/\e.1=kN f.name f.i)))
  (hnew:f'.is=true->∃n,(kN f'.name f'.i,AV.int .i64 (k:Nat),n)∈es')(hold:∀e∈es,¬(f.is=true/\e.1=kN f.name f.i)->e∈es')(hnd:(es'.map (·.1)).Nodup)
  (hne:f'.is=true->∀(j:Nat) (g:Fr),j≠k->P.fr[j]?=some g->g.is=true->g.name=f'.name->g.i≠f'.i):
  kE E ((h.set fb (.cells (rfE.all (rs.set k r')) true)).set mb B) p fb mb (rs.set k r') es' cl' {P with fr:=P.fr.set k f'}:=by
 subst hB
 have hfl:=zD C.fbk
 have hml:=zD C.mbk
 have hkl:=(List.getElem?_eq_some_iff.1 hf).1
 have K:zI (λb=>b=fb∨b=mb) h ((h.set fb (.cells (rfE.all (rs.set k r')) true)).set mb (.mp es' cl')):=by
  refine zI.trans (b:=h.set fb (.cells (rfE.all (rs.set k r')) true)) (zO (.inl rfl)) (zO (.inr rfl))
 have at1:∀(j:Nat) (g:Fr),(P.fr.set k f')[j]?=some g->(j=k/\g=f')∨(j≠k/\P.fr[j]?=some g):=λj g hg=>zT hg
 refine⟨?_,?_,?_,by rw[List.length_set,List.length_set];exact C.rl,?_,?_,?_,hnd,⟨?_,by simp only[List.length_set];exact C.ok.hand,by simp only[List.length_set];exact C.ok.few⟩,C.ne⟩
 ·simp only[List.length_set]
  exact K _ _ (λhx=>by rcases hx with hx|hx;exact C.ne.1 hx;exact C.ne.2.1 hx) C.pb
 ·rw[List.getElem?_set,if_neg (λhx=>C.ne.2.2 hx.symm),List.getElem?_set_self hfl]
 ·rw[List.getElem?_set_self (by rw[List.length_set];exact hml)]
 ·intro j r g hr hg
  rw[List.getElem?_set] at hr
  rcases at1 j g hg with⟨rfl,rfl⟩|⟨hj,hg⟩
  ·rw[if_pos rfl,if_pos (by rw[C.rl];exact hkl)] at hr
   cases hr
   exact R'.keeps K (λb _ h1 h2 _ hx=>by rcases hx with hx|hx;exact h1 hx;exact h2 hx)
  ·rw[if_neg (λhc=>hj hc.symm)] at hr
   exact(C.rel j r g hr hg).keeps K (λb _ h1 h2 _ hx=>by rcases hx with hx|hx;exact h1 hx;exact h2 hx)
 ·intro e he
  rcases hkeys e he with⟨a,b,c⟩|⟨a,b⟩
  ·exact⟨k,f',by simp[hkl],a,b,c⟩
  ·obtain⟨j,g,hg,hi,e1,e2⟩:=C.keys e a
   have hj:j≠k:=by
    rintro rfl
    rw[hf] at hg;cases hg
    exact b ⟨hi,e1⟩
   exact⟨j,g,by simp only;rw[List.getElem?_set,if_neg (λhc=>hj hc.symm)];exact hg,hi,e1,e2⟩
 ·intro j g hg hi
  rcases at1 j g hg with⟨rfl,rfl⟩|⟨hj,hg⟩
  ·exact hnew hi
  ·obtain⟨n,hn⟩:=C.all j g hg hi
   refine⟨n,hold _ hn λhc=> ?_⟩
   have h2:=hc.2
   simp only[AV.agg.injEq,List.cons.injEq,AV.str.injEq,AV.int.injEq,true_and,and_true] at h2
   exact hj (C.ok.one j k g f hg hf hi hc.1 h2.1 h2.2)
 ·intro j1 j2 f1 f2 e1 e2 i1 i2 n1 n2
  rcases at1 j1 f1 e1 with⟨rfl,rfl⟩|⟨a1,a2⟩
  ·rcases at1 j2 f2 e2 with⟨rfl,rfl⟩|⟨b1,b2⟩
   ·rfl
   ·exact absurd n2.symm (hne i1 j2 f2 b1 b2 i2 n1.symm)
  ·rcases at1 j2 f2 e2 with⟨rfl,rfl⟩|⟨b1,b2⟩
   ·exact absurd n2 (hne i2 j1 f1 a1 a2 i1 n1)
   ·exact C.ok.one j1 j2 f1 f2 a2 b2 i1 i2 n1 n2
theorem zHH (C:kE E h p fb mb rs es cl P){j:Nat}{e0:AV×AV×Nat}(hj:es[j]?=some e0):(∀e∈es.eraseIdx j,e∈es/\e.1≠e0.1)/\(∀e∈es,e.1≠e0.1->e∈es.eraseIdx j)/\((es.eraseIdx j).map (·.1)).Nodup:=by
 have hjl:=(List.getElem?_eq_some_iff.1 hj).1
 have hsub:((es.eraseIdx j).map (·.1)).Nodup:=C.nd.sublist ((List.eraseIdx_sublist es j).map _)
 have hmem:∀e,e∈es.eraseIdx j↔∃i,i≠j/\es[i]?=some e:=λe=>by
  rw[List.mem_eraseIdx_iff_getElem?]
 refine⟨λe he=> ?_,λe he hne=> ?_,hsub⟩
 ·obtain⟨i,hi,hie⟩:=(hmem e).1 he
  refine⟨List.mem_of_getElem? hie,λhc=>hi ?_⟩
  have h1:(es.map (·.1))[i]?=some e.1:=by rw[List.getElem?_map,hie];rfl
  have h2:(es.map (·.1))[j]?=some e0.1:=by rw[List.getElem?_map,hj];rfl
  obtain⟨hil,g1⟩:=List.getElem?_eq_some_iff.1 h1
  obtain⟨hjl2,g2⟩:=List.getElem?_eq_some_iff.1 h2
  have hh:=List.pairwise_iff_getElem.1 C.nd
  rcases Nat.lt_trichotomy i j with hlt|heq|hlt
  ·exact absurd (by rw[g1,g2,hc]) (hh i j hil hjl2 hlt)
  ·exact heq
  ·exact absurd (by rw[g1,g2,hc]) (hh j i hjl2 hil hlt)
 ·obtain⟨i,hi⟩:=List.getElem?_of_mem he
  refine(hmem e).2 ⟨i,?_,hi⟩
  rintro rfl
  rw[hj] at hi;cases hi
  exact hne rfl
end
theorem zIS {p:Nat->Prop}(h:∃n,p n):∃n,p n/\∀m,p m->n<=m:=by
 obtain⟨n,hn⟩:=h
 induction n using Nat.strongRecOn with
 |_ n ih=>
  by_cases hc:∃m,m<n/\p m
  ·obtain⟨m,h1,h2⟩:=hc
   exact ih m h1 h2
  ·exact⟨n,hn,λm hm=>by
    rcases Nat.lt_or_ge m n with h|h
    ·exact absurd ⟨m,h,hm⟩ hc
    ·exact h⟩
open Classical in
noncomputable def least (p:Nat->Prop):Nat:=if h:∃n,p n then Classical.choose (zIS h) else 0
theorem zTX {p:Nat->Prop}(h:∃n,p n):p (least p):=by
 unfold least;rw[dif_pos h];exact(Classical.choose_spec (zIS h)).1
theorem zNE {p:Nat->Prop}{n:Nat}(h:p n):least p<=n:=by
 unfold least;rw[dif_pos ⟨n,h⟩];exact(Classical.choose_spec (zIS ⟨n,h⟩)).2 n h
structure zK2(E:EncZ)(h:Heap)(p fb mb:Nat)(k0:Nat)(rs:List RF)(es:Ents)(cl:Nat)(P:PS):Prop where
 pb:h[p]?=some (zAU fb mb P.fr.length P.hand P.hits P.reads P.losses)
 fbk:h[fb]?=some (.cells (rfE.all rs) true)
 mbk:h[mb]?=some (.mp es cl)
 rl:rs.length=P.fr.length
 rel:∀(k:Nat) (r:RF) (f:Fr),rs[k]?=some r->P.fr[k]?=some f->RelF E h p fb mb r f
 keys:∀e∈es,∃(k:Nat) (f:Fr),k≠k0/\P.fr[k]?=some f/\f.is=true/\e.1=kN f.name f.i/\e.2.1= .int .i64 (k:Nat)
 all:∀(k:Nat) (f:Fr),k≠k0->P.fr[k]?=some f->f.is=true->∃n,(kN f.name f.i,AV.int .i64 (k:Nat),n)∈es
 nd:(es.map (·.1)).Nodup
 ok:P.ok
 ne:p≠fb/\p≠mb/\fb≠mb
 k0:k0<P.fr.length
section
variable{E:EncZ}{h h':Heap}{p fb mb k:Nat}{rs:List RF}{es:Ents}{cl:Nat}{P P':PS}
theorem kE.empty (C:kE E h p fb mb rs es cl P){f:Fr}(hf:P.fr[k]?=some f)(hi:f.is=false):zK2 E h p fb mb k rs es cl P:=by
 refine⟨C.pb,C.fbk,C.mbk,C.rl,C.rel,λe he=> ?_,λj g _ h1 h2=>C.all j g h1 h2,C.nd,C.ok,C.ne,(List.getElem?_eq_some_iff.1 hf).1⟩
 obtain⟨j,g,h1,h2,h3,h4⟩:=C.keys e he
 refine⟨j,g,?_,h1,h2,h3,h4⟩
 rintro rfl
 rw[hf] at h1;cases h1
 rw[hi] at h2;cases h2
theorem kE.forget (C:kE E h p fb mb rs es cl P){f:Fr}(hf:P.fr[k]?=some f){j:Nat}{n:Nat}(hj:es[j]?=some (kN f.name f.i,.int .i64 (k:Nat),n)):zK2 E (h.set mb (.mp (es.eraseIdx j) cl)) p fb mb k rs (es.eraseIdx j) cl P:=by
 have hml:=zD C.mbk
 have K:zI (λb=>b=mb) h (h.set mb (.mp (es.eraseIdx j) cl)):=zO rfl
 obtain⟨e1,e2,e3⟩:=zHH C hj
 obtain⟨k',f',hk',hi',h1,h2⟩:=C.keys _ (List.mem_of_getElem? hj)
 have hkk:k'=k:=by
  simp only[AV.int.injEq,true_and] at h2
  omega
 subst hkk
 rw[hf] at hk';cases hk'
 refine⟨K _ _ C.ne.2.1 C.pb,K _ _ C.ne.2.2 C.fbk,by rw[List.getElem?_set_self hml],C.rl,λj r g hr hg=>(C.rel j r g hr hg).keeps K (λb _ _ h3 _ hx=>h3 hx),λe he=> ?_,λj g hjk hg hi=> ?_,e3,C.ok,C.ne,(List.getElem?_eq_some_iff.1 hf).1⟩
 ·obtain⟨a,b⟩:=e1 e he
  obtain⟨k2,f2,a1,a2,a3,a4⟩:=C.keys e a
  refine⟨k2,f2,?_,a1,a2,a3,a4⟩
  rintro rfl
  rw[hf] at a1;cases a1
  exact b a3
 ·obtain⟨n2,hn2⟩:=C.all j g hg hi
  refine⟨n2,e2 _ hn2 λhc=>hjk ?_⟩
  simp only[AV.agg.injEq,List.cons.injEq,AV.str.injEq,AV.int.injEq,true_and,and_true] at hc
  exact C.ok.one j k' g f hg hf hi hi' hc.1 hc.2
theorem zK2.setP (C:zK2 E h p fb mb k rs es cl P)(hfr:P'.fr=P.fr)(hh:P'.hand<P.fr.length∨P'.hand=0):zK2 E (h.set p (zAU fb mb P.fr.length P'.hand P'.hits P'.reads P'.losses)) p fb mb k rs es cl P':=by
 have hpl:=zD C.pb
 have K:zI (λb=>b=p) h (h.set p (zAU fb mb P.fr.length P'.hand P'.hits P'.reads P'.losses)):=zO rfl
 refine⟨by rw[hfr,List.getElem?_set_self hpl],K _ _ (λhx=>C.ne.1 hx.symm) C.fbk,K _ _ (λhx=>C.ne.2.1 hx.symm) C.mbk,by rw[hfr];exact C.rl,?_,?_,?_,C.nd,⟨by rw[hfr];exact C.ok.one,by rw[hfr];exact hh,by rw[hfr];exact C.ok.few⟩,C.ne,by rw[hfr];exact C.k0⟩
 ·intro k r f hr hf
  rw[hfr] at hf
  exact(C.rel k r f hr hf).keeps K (λb hb _ _ _ hx=>hb hx)
 ·intro e he
  rw[hfr];exact C.keys e he
 ·intro k f hk hf hi
  rw[hfr] at hf;exact C.all k f hk hf hi
theorem zK2.take (C:zK2 E h p fb mb k rs es cl P){r':RF}{f':Fr}(R':RelF E h p fb mb r' f')(hi:f'.is=true)(hne:∀(j:Nat) (g:Fr),j≠k->P.fr[j]?=some g->g.is=true->g.name=f'.name->g.i≠f'.i):
  kE E ((h.set fb (.cells (rfE.all (rs.set k r')) true)).set mb (.mp (es++[(kN f'.name f'.i,.int .i64 (k:Nat),cl)]) (cl+1))) p fb mb (rs.set k r') (es++[(kN f'.name f'.i,.int .i64 (k:Nat),cl)]) (cl+1) {P with fr:=P.fr.set k f'}:=by
 have hfl:=zD C.fbk
 have hml:=zD C.mbk
 have hkl:=C.k0
 have K:zI (λb=>b=fb∨b=mb) h ((h.set fb (.cells (rfE.all (rs.set k r')) true)).set mb (.mp (es++[(kN f'.name f'.i,.int .i64 (k:Nat),cl)]) (cl+1))):=by
  refine zI.trans (b:=h.set fb (.cells (rfE.all (rs.set k r')) true)) (zO (.inl rfl)) (zO (.inr rfl))
 refine⟨?_,?_,?_,by rw[List.length_set,List.length_set];exact C.rl,?_,?_,?_,?_,⟨?_,by simp only[List.length_set];exact C.ok.hand,by simp only[List.length_set];exact C.ok.few⟩,C.ne⟩
 ·simp only[List.length_set]
  exact K _ _ (λhx=>by rcases hx with hx|hx;exact C.ne.1 hx;exact C.ne.2.1 hx) C.pb
 ·rw[List.getElem?_set,if_neg (λhx=>C.ne.2.2 hx.symm),List.getElem?_set_self hfl]
 ·rw[List.getElem?_set_self (by rw[List.length_set];exact hml)]
 ·intro j r g hr hg
  rcases zT hg with⟨rfl,rfl⟩|⟨hj,hg⟩
  ·rcases zT hr with⟨_,rfl⟩|⟨hc,_⟩
   ·exact R'.keeps K (λb _ h1 h2 _ hx=>by rcases hx with hx|hx;exact h1 hx;exact h2 hx)
   ·exact absurd rfl hc
  ·rcases zT hr with⟨hc,_⟩|⟨_,hr⟩
   ·exact absurd hc hj
   ·exact(C.rel j r g hr hg).keeps K (λb _ h1 h2 _ hx=>by rcases hx with hx|hx;exact h1 hx;exact h2 hx)
 ·intro e he
  rcases List.mem_append.1 he with he|he
  ·obtain⟨j,g,hj,hg,hi',e1,e2⟩:=C.keys e he
   exact⟨j,g,by simp only;rw[List.getElem?_set,if_neg (λhc=>hj hc.symm)];exact hg,hi',e1,e2⟩
  ·simp only[List.mem_cons,List.not_mem_nil,or_false] at he
   subst he
   exact⟨k,f',by simp[hkl],hi,rfl,rfl⟩
 ·intro j g hg hi'
  rcases zT hg with⟨rfl,rfl⟩|⟨hj,hg⟩
  ·exact⟨cl,by simp⟩
  ·obtain⟨n,hn⟩:=C.all j g hj hg hi'
   exact⟨n,List.mem_append_left _ hn⟩
 ·rw[List.map_append,List.nodup_append]
  refine⟨C.nd,by simp,λa ha b hb=> ?_⟩
  simp only[List.map_cons,List.map_nil,List.mem_cons,List.not_mem_nil,or_false] at hb
  subst hb
  rintro rfl
  obtain⟨e,he,hea⟩:=List.mem_map.1 ha
  obtain⟨j,g,hj,hg,hi',e1,_⟩:=C.keys e he
  rw[hea] at e1
  simp only[AV.agg.injEq,List.cons.injEq,AV.str.injEq,AV.int.injEq,true_and,and_true] at e1
  exact hne j g hj hg hi' e1.1.symm e1.2.symm
 ·intro j1 j2 f1 f2 e1 e2 i1 i2 n1 n2
  rcases zT e1 with⟨rfl,rfl⟩|⟨a1,a2⟩
  ·rcases zT e2 with⟨rfl,rfl⟩|⟨b1,b2⟩
   ·rfl
   ·exact absurd n2.symm (hne j2 f2 b1 b2 i2 n1.symm)
  ·rcases zT e2 with⟨rfl,rfl⟩|⟨b1,b2⟩
   ·exact absurd n2 (hne j1 f1 a1 a2 i1 n1)
   ·exact C.ok.one j1 j2 f1 f2 a2 b2 i1 i2 n1 n2
end
section
variable{h h':Heap}{fb k n:Nat}{rs:List RF}{r r':RF}
theorem fidx {i:Int}(hi:i=(k:Nat))(hk:k<n){K:PA->Prop}(hK:K ⟨fb,k*6⟩):vIdx (some ⟨fb,0,n,n,0⟩) i 6 K:=by
 subst hi
 refine⟨by omega,by simp only;omega,?_⟩
 simp only[Int.toNat_natCast,Nat.zero_add]
 exact hK
theorem zT6 (hb:h[fb]?=some (.cells (rfE.all rs) true))(hr:rs[k]?=some r){j m:Nat}(hj:j+m<=6):zA h ⟨fb,k*6+j⟩ m=some (((rfE.f r).drop j).take m):=by
 have hk:=(List.getElem?_eq_some_iff.1 hr).1
 have h6:rfE.sz=6:=rfl
 have hl:(rfE.all rs).length=rs.length*6:=Enc.all_length
 have h2:k*6+6<=rs.length*6:=by omega
 rw[zP (p:=⟨fb,k*6+j⟩) hb (by simp only;omega)]
 have e:=Enc.all_at (E:=rfE) hr
 rw[h6] at e
 rw[<-e,List.drop_take,List.take_take,List.drop_drop]
 congr 2
 omega
theorem zCE (hb:h[fb]?=some (.cells (rfE.all rs) true))(hr:rs[k]?=some r){j:Nat}{x:AV}(hx:(rfE.f r)[j]?=some x):zA h ⟨fb,k*6+j⟩ 1=some [x]:=by
 have hj:j<6:=(List.getElem?_eq_some_iff.1 hx).1
 rw[zT6 hb hr (by omega)]
 obtain⟨hl,rfl⟩:=List.getElem?_eq_some_iff.1 hx
 rw[List.drop_eq_getElem_cons hl]
 rfl
theorem zNK (hb:h[fb]?=some (.cells (rfE.all rs) true))(hr:rs[k]?=some r){j:Nat}{xs:List AV}(hj:j+xs.length<=6)(hr':rfE.f r'=splice (rfE.f r) j xs){K:Heap->Prop}(hK:K (h.set fb (.cells (rfE.all (rs.set k r')) true))):zL h ⟨fb,k*6+j⟩ xs K:=by
 have hk:=(List.getElem?_eq_some_iff.1 hr).1
 have hl:(rfE.all rs).length=rs.length*6:=Enc.all_length
 unfold zL
 simp only[hb]
 refine⟨by omega,?_⟩
 have:=splice_set (E:=rfE) (i:=k) (k:=j) (xs:=xs) (r':=r') hr hj hr'
 have h6:rfE.sz=6:=rfl
 rw[h6] at this
 rw[this]
 exact hK
theorem zB0 {p fb mb n hand hits reads losses:Nat}(hb:h[p]?=some (zAU fb mb n hand hits reads losses)){j:Nat}{x:AV}(hj:j<6){K:Heap->Prop}(hK:K (h.set p (.cells (splice [AV.sl (some ⟨fb,0,n,n,0⟩),.map (some mb),.int .i64 (hand:Nat),.int .i64 (hits:Nat),.int .i64 (reads:Nat),.int .i64 (losses:Nat)] j [x]) true))):zL h ⟨p,0+j⟩ [x] K:=
 zCF hb (by simp;omega) hK
theorem zGB {α:Type}{l:List α}{i:Nat}{x:α}(q:α->Bool)(hx:l[i]?=some x):(l.take (i+1)).countP q=(l.take i).countP q+if q x then 1 else 0:=by
 rw[List.take_add_one,hx]
 simp only[Option.toList,List.countP_append,List.countP_cons,List.countP_nil,Nat.zero_add]
theorem zKN {α:Type}{l:List α}{q:α->Bool}(h:∀x∈l,q x=false):l.findIdx? q=none:=by
 rw[List.findIdx?_eq_none_iff];exact h
theorem zOV {α:Type}{l:List α}{q:α->Bool}{k:Nat}{x:α}(h0:∀y∈l.take k,q y=false)(hx:l[k]?=some x)(h1:q x=true):l.findIdx? q=some k:=by
 obtain⟨hl,rfl⟩:=List.getElem?_eq_some_iff.1 hx
 rw[List.findIdx?_eq_some_iff_getElem]
 refine⟨hl,h1,λj hj=> ?_⟩
 have:l[j]∈l.take k:=List.mem_of_getElem? (i:=j) (by rw[List.getElem?_take,if_pos hj];exact List.getElem?_eq_getElem _)
 simp[h0 _ this]
end
end Go.Pool
namespace Go.Ab
set_option linter.unusedVariables false
set_option linter.unusedSimpArgs false
open Go.Crc hiding Bs
abbrev u32(c:W):AV:=.int .u32 ((c.toNat:Nat):Int)
theorem zPR {n:Nat}(h:n<4294967296):IntKind.wrap .u32 (n:Int)=n:=by
 have:IntKind.wrap .u32 (n:Int)=(n:Int)%4294967296:=by rfl
 rw[this];omega
theorem of32 (a:W):BitVec.ofInt 32 ((a.toNat:Nat):Int)=a:=by
 rw[BitVec.ofInt_natCast,BitVec.ofNat_toNat];simp
theorem x32 (a b:W):yU .u32 ((a.toNat:Nat):Int) ((b.toNat:Nat):Int)=(((a^^^b).toNat:Nat):Int):=by
 unfold yU
 show IntKind.wrap .u32 (((BitVec.ofInt 32 ((a.toNat:Nat):Int)^^^BitVec.ofInt 32 ((b.toNat:Nat):Int)).toNat:Nat):Int)=_
 rw[of32,of32,zPR (BitVec.isLt _)]
theorem and32 (a b:W):kY .u32 ((a.toNat:Nat):Int) ((b.toNat:Nat):Int)=(((a&&& b).toNat:Nat):Int):=by
 unfold kY
 show IntKind.wrap .u32 (((BitVec.ofInt 32 ((a.toNat:Nat):Int)&&& BitVec.ofInt 32 ((b.toNat:Nat):Int)).toNat:Nat):Int)=_
 rw[of32,of32,zPR (BitVec.isLt _)]
theorem not32 (a:W):yU .u32 4294967295 ((a.toNat:Nat):Int)=(((~~~ a).toNat:Nat):Int):=by
 have:=x32 (BitVec.allOnes 32) a
 rw[BitVec.allOnes_xor] at this
 exact this
theorem shr32 (a:W)(k:Nat)(hk:k<=32):shrK .u32 ((a.toNat:Nat):Int) ((k:Nat):Int)=(((a>>>k).toNat:Nat):Int):=by
 unfold shrK
 have e:min ((k:Nat):Int).toNat (IntKind.bits .u32)=k:=by
  show min ((k:Nat):Int).toNat 32=k
  simp;omega
 rw[e,BitVec.toNat_ushiftRight,Nat.shiftRight_eq_div_pow]
 have h2:((2:Int)^k)=((2^k:Nat):Int):=by simp
 rw[h2,Int.fdiv_eq_ediv_of_nonneg _ (Int.natCast_nonneg _)]
 rfl
theorem wrapB (b:UInt8):zC .u32 ((b.toNat:Nat):Int)=(((ofB b).toNat:Nat):Int):=by
 have:=b.toNat_lt
 show IntKind.wrap .u32 _=_
 rw[zPR (by omega)]
 unfold ofB
 rw[BitVec.toNat_ofNat,Nat.mod_eq_of_lt (by omega)]
theorem and15 (c:W):kY .u32 ((c.toNat:Nat):Int) 15=((c.toNat%16:Nat):Int):=by
 have:=and32 c 15#32
 have e:(c&&& 15#32).toNat=c.toNat%16:=by
  rw[BitVec.toNat_and]
  exact Nat.and_two_pow_sub_one_eq_mod c.toNat 4
 rw[e] at this
 exact this
end Go.Ab
namespace Go.Pool
open Go.Ent
set_option linter.unusedVariables false
set_option linter.unusedSimpArgs false
structure PS.sm(P:PS)(N:Nat):Prop where
 lt:P.lt N
 l:∀f∈P.fr,f.l.length<=1000
theorem PS.sm.mono {P:PS}{N M:Nat}(h:P.sm N)(hm:N<=M):P.sm M:=⟨h.lt.mono hm,h.l⟩
theorem sm_new {n:Nat}:(newP n).sm 0:=by
 refine⟨⟨λf hf=> ?_,Nat.le_refl _,Nat.le_refl _,Nat.le_refl _⟩,λf hf=> ?_⟩
 ·rw[List.eq_of_mem_replicate hf];exact Nat.le_refl _
 ·rw[List.eq_of_mem_replicate hf];exact Nat.zero_le _
theorem zIW {fr fr':List Fr}(hc:fr'.map core=fr.map core){f:Fr}(hf:f∈fr'):∃g∈fr,core f=core g:=by
 have:core f∈fr.map core:=by rw[<-hc];exact List.mem_map_of_mem hf
 obtain⟨g,hg,he⟩:=List.mem_map.1 this
 exact⟨g,hg,he.symm⟩
theorem zG3 {P P':PS}{k:Nat}(h:P.place=some (k,P'))(hh:P.hand<P.fr.length∨P.hand=0):P'.fr.map core=P.fr.map core/\P'.hits=P.hits/\P'.reads=P.reads/\P'.losses<=P.losses+1:=by
 unfold PS.place at h
 split at h
 ·cases h;exact⟨rfl,rfl,rfl,Nat.le_succ _⟩
 ·split at h
  ·cases h
  ·rename_i hne
   split at h
   ·rename_i k2 fr2 hd2 hsp
    cases h
    have hlt:P.hand<P.fr.length:=by
     rcases hh with h1|h1
     ·exact h1
     ·rcases Nat.eq_zero_or_pos P.fr.length with h2|h2
      ·exfalso
       apply hne
       unfold PS.held
       rw[List.eq_nil_of_length_eq_zero h2];rfl
      ·omega
    exact⟨(zFV hsp hlt).1,rfl,rfl,Nat.le_refl _⟩
   ·cases h
theorem hold_sm {P:PS}{N:Nat}(h:P.sm N)(hh:P.hand<P.fr.length∨P.hand=0){s:Bs}{i:Int}{r:Int×List Ent}(hr:r.2.length<=1000):(P.hold s i r).2.2.sm (N+1):=by
 unfold PS.hold
 split
 ·rename_i k hk
  refine⟨⟨λf hf=> ?_,Nat.succ_le_succ h.lt.hits,Nat.le_succ_of_le h.lt.reads,Nat.le_succ_of_le h.lt.losses⟩,λf hf=> ?_⟩
  ·simp only[up] at hf
   split at hf
   ·rename_i g hg
    rcases List.mem_or_eq_of_mem_set hf with hf|rfl
    ·exact Nat.le_succ_of_le (h.lt.held f hf)
    ·exact Nat.succ_le_succ (h.lt.held g (List.mem_of_getElem? hg))
   ·exact Nat.le_succ_of_le (h.lt.held f hf)
  ·simp only[up] at hf
   split at hf
   ·rename_i g hg
    rcases List.mem_or_eq_of_mem_set hf with hf|rfl
    ·exact h.l f hf
    ·exact h.l g (List.mem_of_getElem? hg)
   ·exact h.l f hf
 ·split
  ·exact h.mono (Nat.le_succ _)
  ·split
   ·exact h.mono (Nat.le_succ _)
   ·rename_i k P' hp
    obtain⟨c1,c2,c3,c4⟩:=zG3 hp hh
    refine⟨⟨λf hf=> ?_,by show P'.hits<=_;rw[c2];exact Nat.le_succ_of_le h.lt.hits,by show P'.reads+1<=_;rw[c3];exact Nat.succ_le_succ h.lt.reads,by show P'.losses<=_;exact Nat.le_trans c4 (Nat.succ_le_succ h.lt.losses)⟩,λf hf=> ?_⟩
    ·rcases List.mem_or_eq_of_mem_set hf with hf|rfl
     ·obtain⟨g,hg,he⟩:=zIW c1 hf
      simp only[core,Prod.mk.injEq] at he
      rw[he.2.2.2.1];exact Nat.le_succ_of_le (h.lt.held g hg)
     ·show 1<=N+1;omega
    ·rcases List.mem_or_eq_of_mem_set hf with hf|rfl
     ·obtain⟨g,hg,he⟩:=zIW c1 hf
      simp only[core,Prod.mk.injEq] at he
      rw[he.2.2.1];exact h.l g hg
     ·exact hr
theorem free_sm {P:PS}{N:Nat}(h:P.sm N){s:Bs}{i:Int}:(P.free s i).2.sm N:=by
 unfold PS.free
 split
 ·exact h
 ·split
  ·split
   ·exact h
   ·rename_i k _ f hf _
    refine⟨⟨λg hg=> ?_,h.lt.hits,h.lt.reads,h.lt.losses⟩,λg hg=> ?_⟩
    ·rcases List.mem_or_eq_of_mem_set hg with hg|rfl
     ·exact h.lt.held g hg
     ·have:=h.lt.held f (List.mem_of_getElem? hf)
      show f.held-1<=N;omega
    ·rcases List.mem_or_eq_of_mem_set hg with hg|rfl
     ·exact h.l g hg
     ·exact h.l f (List.mem_of_getElem? hf)
  ·exact h
theorem zB7 {α:Type}{q:α->Bool}:∀{l:List α} {k:Nat} {a b:α},l[k]?=some a->(l.set k b).countP q+(if q a then 1 else 0)=l.countP q+(if q b then 1 else 0)
 | [],k,a,b,h=>by simp at h
 |x::l,0,a,b,h=>by
  simp only[List.getElem?_cons_zero,Option.some.injEq] at h
  subst h
  simp only[List.set_cons_zero,List.countP_cons]
  omega
 |x::l,k+1,a,b,h=>by
  simp only[List.getElem?_cons_succ] at h
  have:=zB7 (q:=q) (b:=b) h
  simp only[List.set_cons_succ,List.countP_cons]
  omega
structure Kp(s:Bs)(i:Int)(P:PS)(k:Nat):Prop where
 me:∃f,P.fr[k]?=some f/\f.is=true/\f.name=s/\f.i=i/\f.held=1
 other:∀(j:Nat) (g:Fr),j≠k->P.fr[j]?=some g->g.held=0
section
variable{s:Bs}{i:Int}{P:PS}{k:Nat}
theorem zT4 {fr fr':List Fr}(h:fr'.map core=fr.map core){j:Nat}{g:Fr}(hg:fr'[j]?=some g):∃g0,fr[j]?=some g0/\core g=core g0:=by
 have:(fr'.map core)[j]?=(fr.map core)[j]?:=by rw[h]
 rw[List.getElem?_map,hg,List.getElem?_map] at this
 cases hg0:fr[j]? with
 |none=>rw[hg0] at this;cases this
 |some g0=>
  rw[hg0] at this
  simp only[Option.map_some,Option.some.injEq] at this
  exact⟨g0,rfl,this⟩
end
def Own(pg:Nat->List Ent)(s:Bs)(pages:Nat)(P:PS):Prop:=∀f∈P.fr,f.is=true->f.name=s/\∃j:Nat,j<pages/\f.i=(j:Nat)/\f.l=pg j
section
variable{pg:Nat->List Ent}{s:Bs}{P:PS}{n pages i:Nat}
theorem zRP {r:List Ent}{i:Int}(ha:P.at s i=none)(hf:∀f∈P.fr,f.is=true)(hh:P.held=P.fr.length):P.hold s i (0,r)=(90,[],P):=by
 have hp:P.place=none:=by
  unfold PS.place
  rw[findIdx_none' hf]
  simp only
  rw[if_pos hh]
 simp[PS.hold,ha,hp]
where
 findIdx_none' (hf:∀f∈P.fr,f.is=true):P.fr.findIdx? (λf=> !f.is)=none:=by
  rw[List.findIdx?_eq_none_iff]
  intro x hx
  simp[hf x hx]
end
abbrev Pg:=Bs×Nat
def dist:List Pg->Nat
 | []=>0
 |x::xs=>if x∈xs then dist xs else dist xs+1
theorem zR9 {a b:List Pg}(h:a.Perm b):dist a=dist b:=by
 induction h with
 |nil=>rfl
 |cons x h ih=>simp only[dist,h.mem_iff,ih]
 |swap x y l=>
  by_cases hxy:x=y
  ·subst hxy;rfl
  ·simp only[dist,List.mem_cons,hxy,Ne.symm hxy,false_or]
   have hyx:¬y=x:=λh=>hxy h.symm
   by_cases hx:x∈l<;>by_cases hy:y∈l<;>simp[hx,hy,hxy,hyx]
 |trans h1 h2 ih1 ih2=>exact ih1.trans ih2
structure HP(fl:Bs->Nat->Int×List Ent)(n:Nat)(H:List Pg)(P:PS):Prop where
 len:P.fr.length=n
 own:∀f∈P.fr,f.is=true->∃j:Nat,f.i=(j:Nat)/\fl f.name j=(0,f.l)
 held:∀f∈P.fr,f.is=true->∀j:Nat,f.i=(j:Nat)->f.held=H.count (f.name,j)
 off:∀f∈P.fr,f.is=false->f.held=0
 has:∀x∈H,∃f∈P.fr,f.is=true/\f.name=x.1/\f.i=(x.2:Nat)
 cnt:P.held=dist H
section
variable{fl:Bs->Nat->Int×List Ent}{n:Nat}{H H':List Pg}{P:PS}{s:Bs}{i:Nat}
theorem HP.perm (A:HP fl n H P)(h:H.Perm H'):HP fl n H' P:=
 ⟨A.len,A.own,λf hf hi j hj=>by rw[A.held f hf hi j hj,h.count_eq],A.off,λx hx=>A.has x (h.mem_iff.2 hx),by rw[A.cnt,zR9 h]⟩
theorem hp_new:HP fl n [] (newP n):=by
 have hm:∀f∈(newP n).fr,f=Fr.none:=λf hf=>List.eq_of_mem_replicate hf
 refine⟨by simp[newP],λf hf hi=>by(rw[hm f hf] at hi;cases hi),λf hf hi=>by(rw[hm f hf] at hi;cases hi),λf hf _=>by rw[hm f hf];rfl,λx hx=>by simp at hx,?_⟩
 exact List.countP_eq_zero.2 λf hf=>by rw[hm f hf];decide
theorem HP.at (A:HP fl n H P)(ok:P.ok)(hx:(s,i)∈H):∃k f,P.at s (i:Nat)=some k/\P.fr[k]?=some f/\f.is=true/\f.name=s/\f.i=(i:Nat)/\f.held=H.count (s,i)/\fl s i=(0,f.l):=by
 obtain⟨f,hf,h1,h2,h3⟩:=A.has _ hx
 obtain⟨k,hk⟩:=List.getElem?_of_mem hf
 obtain⟨j,hj,hl⟩:=A.own f hf h1
 have hij:j=i:=by
  have h3:f.i=(i:Nat):=h3
  omega
 subst hij
 have h2:f.name=s:=h2
 refine⟨k,f,zEN ok hk h1 h2 hj,hk,h1,h2,hj,?_,by rw[<-h2];exact hl⟩
 rw[A.held f hf h1 j hj,h2]
theorem HP.hold_at (A:HP fl n H P)(ok:P.ok){k:Nat}{x:Int×List Ent}(ha:P.at s (i:Nat)=some k):∃P1 l,fl s i=(0,l)/\P.hold s (i:Nat) x=(0,l,P1)/\HP fl n ((s,i)::H) P1:=by
 obtain⟨f,hf,his,hfn,hfi⟩:=zLR ha
 have hfm:=List.mem_of_getElem? hf
 have hk:=(List.getElem?_eq_some_iff.1 hf).1
 obtain⟨j,hj,hl⟩:=A.own f hfm his
 have hij:j=i:=by omega
 subst hij
 rw[hfn] at hl
 have hheld:=A.held f hfm his j hj
 rw[hfn] at hheld
 let f':Fr:={f with held:=f.held+1,mark:=true}
 have hcnt:=zB7 (q:=λf:Fr=>decide (0<f.held)) (b:=f') hf
 rw[if_pos (show decide (0<f'.held)=true by simp[f'])] at hcnt
 refine⟨{P with fr:=P.fr.set k f',hits:=P.hits+1},f.l,hl,by simp only[PS.hold,ha,hf,up];rfl,?_,?_,?_,?_,?_,?_⟩
 ·simp only[List.length_set];exact A.len
 ·intro g hg hgi
  rcases List.mem_or_eq_of_mem_set hg with hg|rfl
  ·exact A.own g hg hgi
  ·exact⟨j,hj,by rw[show f'.name=s from hfn];exact hl⟩
 ·intro g hg hgi m hm
  obtain⟨a,ha'⟩:=List.getElem?_of_mem hg
  rcases zT ha' with⟨rfl,rfl⟩|⟨hne,hg'⟩
  ·have:m=j:=by have:f'.i=f.i:=rfl;omega
   subst this
   rw[show f'.name=s from hfn,List.count_cons_self,<-hheld]
  ·rw[A.held g (List.mem_of_getElem? hg') hgi m hm,List.count_cons_of_ne]
   intro he
   cases he
   exact hne (ok.one a k g f hg' hf hgi his (by rw[hfn]) (by rw[hm,hj]))
 ·intro g hg hgi
  rcases List.mem_or_eq_of_mem_set hg with hg|rfl
  ·exact A.off g hg hgi
  ·rw[show f'.is=f.is from rfl,his] at hgi;cases hgi
 ·have keep:∀g0∈P.fr,∃g∈P.fr.set k f',g.is=g0.is/\g.name=g0.name/\g.i=g0.i:=λg0 hg0=>by
   obtain⟨a,ha'⟩:=List.getElem?_of_mem hg0
   by_cases hak:a=k
   ·subst hak
    rw[hf] at ha';cases ha'
    exact⟨f',List.mem_of_getElem? (List.getElem?_set_self hk),rfl,rfl,rfl⟩
   ·exact⟨g0,List.mem_of_getElem? (by rw[List.getElem?_set,if_neg (Ne.symm hak)];exact ha'),rfl,rfl,rfl⟩
  intro y hy
  rcases List.mem_cons.1 hy with rfl|hy
  ·obtain⟨g,hg,e1,e2,e3⟩:=keep f hfm
   exact⟨g,hg,by rw[e1];exact his,by rw[e2];exact hfn,by rw[e3];exact hj⟩
  ·obtain⟨g0,hg0,h1,h2,h3⟩:=A.has y hy
   obtain⟨g,hg,e1,e2,e3⟩:=keep g0 hg0
   exact⟨g,hg,by rw[e1];exact h1,by rw[e2];exact h2,by rw[e3];exact h3⟩
 ·have h0:P.held=dist H:=A.cnt
  unfold PS.held at h0 ⊢
  simp only[dist]
  by_cases hx:(s,j)∈H
  ·rw[if_pos hx]
   have:0<f.held:=by rw[hheld];exact List.count_pos_iff.2 hx
   rw[if_pos (decide_eq_true this)] at hcnt
   omega
  ·rw[if_neg hx]
   have:f.held=0:=by rw[hheld];exact List.count_eq_zero.2 hx
   rw[if_neg (by simp[this])] at hcnt
   omega
theorem HP.room (A:HP fl n H P)(ok:P.ok)(hn:dist H<n):∃k P',P.place=some (k,P')/\k<P'.fr.length/\P'.fr.map core=P.fr.map core/\∀f,P'.fr[k]?=some f->f.held=0:=by
 have hheld:P.held≠P.fr.length:=by rw[A.cnt,A.len];omega
 cases hfi:P.fr.findIdx? (λf=> !f.is) with
 |some k=>
  rw[List.findIdx?_eq_some_iff_getElem] at hfi
  obtain⟨hl,h1,h2⟩:=hfi
  refine⟨k,P,?_,hl,rfl,λf hf=> ?_⟩
  ·unfold PS.place
   rw[List.findIdx?_eq_some_iff_getElem.2 ⟨hl,h1,h2⟩]
  ·rw[List.getElem?_eq_getElem hl] at hf
   cases hf
   exact A.off _ (List.getElem_mem hl) (by simpa using h1)
 |none=>
  have hpos:0<P.fr.length:=by rw[A.len];omega
  have hhand:P.hand<P.fr.length:=by rcases ok.hand with h|h<;>omega
  have hex:∃f∈P.fr,f.held=0:=by
   apply Classical.byContradiction
   intro hc
   refine hheld ?_
   exact List.countP_eq_length.2 λf hf=>by
    have:f.held≠0:=λh0=>hc ⟨f,hf,h0⟩
    simp;omega
  obtain⟨⟨k,fr',hd⟩,hsp⟩:=zJF hhand hex
  obtain⟨c1,c2,_,c4⟩:=zFV hsp hhand
  refine⟨k,{P with fr:=fr',hand:=hd,losses:=P.losses+1},?_,?_,c1,c4⟩
  ·unfold PS.place
   rw[hfi];simp only;rw[if_neg hheld,hsp]
  ·have:=congrArg List.length c1
   rw[List.length_map,List.length_map] at this
   show k<fr'.length;omega
theorem zRQ {fr fr':List Fr}(hc:fr'.map core=fr.map core):fr'.countP (λf=>decide (0<f.held))=fr.countP λf=>decide (0<f.held):=by
 have e:∀l:List Fr,l.countP (λf=>decide (0<f.held))=(l.map core).countP λc=>decide (0<c.2.2.2.1):=λl=>by rw[List.countP_map];rfl
 rw[e,e,hc]
theorem HP.hold_new (A:HP fl n H P)(ok:P.ok)(hn:dist H<n){l:List Ent}(ha:P.at s (i:Nat)=none)(hl:fl s i=(0,l)):∃P1,P.hold s (i:Nat) (0,l)=(0,l,P1)/\HP fl n ((s,i)::H) P1:=by
 obtain⟨k,P',hp,hkn,hcore,hk0⟩:=A.room ok hn
 have hxH:(s,i)∉H:=λhx=>by
  obtain⟨k',f,h1,_⟩:=A.at ok hx
  rw[ha] at h1;cases h1
 have hnot:∀g∈P.fr,g.is=true->¬(g.name=s/\g.i=(i:Nat)):=λg hg hgi hc=>by
  obtain⟨a,ha'⟩:=List.getElem?_of_mem hg
  rw[zEN ok ha' hgi hc.1 hc.2] at ha;cases ha
 let nf:Fr:=⟨s,(i:Nat),l,1,true,true⟩
 have hkf:P'.fr[k]?=some P'.fr[k]:=List.getElem?_eq_getElem hkn
 have h0k:=hk0 _ hkf
 have hcnt:=zB7 (q:=λf:Fr=>decide (0<f.held)) (b:=nf) hkf
 rw[if_pos (show decide (0<nf.held)=true from rfl),if_neg (by simp[h0k])] at hcnt
 have back:∀{g:Fr},g∈P'.fr->∃g0∈P.fr,g.name=g0.name/\g.i=g0.i/\g.l=g0.l/\g.held=g0.held/\g.is=g0.is:=λhg=>by
  obtain⟨g0,hg0,he⟩:=zIW hcore hg
  simp only[core,Prod.mk.injEq] at he
  exact⟨g0,hg0,he.1,he.2.1,he.2.2.1,he.2.2.2.1,he.2.2.2.2⟩
 refine⟨P'.take k s i l,by simp[PS.hold,ha,hp],?_,?_,?_,?_,?_,?_⟩
 ·have:=congrArg List.length hcore
  rw[List.length_map,List.length_map,A.len] at this
  show(P'.fr.set k _).length=n
  rw[List.length_set];exact this
 ·intro g hg hgi
  rcases List.mem_or_eq_of_mem_set hg with hg|rfl
  ·obtain⟨g0,hg0,e1,e2,e3,_,e5⟩:=back hg
   rw[e1,e2,e3]
   exact A.own g0 hg0 (by rw[<-e5];exact hgi)
  ·exact⟨i,rfl,hl⟩
 ·intro g hg hgi m hm
  rcases List.mem_or_eq_of_mem_set hg with hg|rfl
  ·obtain⟨g0,hg0,e1,e2,e3,e4,e5⟩:=back hg
   have hg0i:g0.is=true:=by rw[<-e5];exact hgi
   rw[e4,e1,A.held g0 hg0 hg0i m (by rw[<-e2];exact hm),List.count_cons_of_ne]
   intro he
   cases he
   exact hnot g0 hg0 hg0i ⟨rfl,by rw[<-e2];exact hm⟩
  ·have:m=i:=by
    have:((i:Nat):Int)=(m:Nat):=hm
    omega
   subst this
   show 1=_
   rw[List.count_cons_self,List.count_eq_zero.2 hxH]
 ·intro g hg hgi
  rcases List.mem_or_eq_of_mem_set hg with hg|rfl
  ·obtain⟨g0,hg0,e1,e2,e3,e4,e5⟩:=back hg
   rw[e4];exact A.off g0 hg0 (by rw[<-e5];exact hgi)
  ·cases hgi
 ·intro y hy
  rcases List.mem_cons.1 hy with rfl|hy
  ·exact⟨nf,List.mem_of_getElem? (List.getElem?_set_self hkn),rfl,rfl,rfl⟩
  ·obtain⟨g0,hg0,h1,h2,h3⟩:=A.has y hy
   obtain⟨a,ha'⟩:=List.getElem?_of_mem hg0
   obtain⟨g,hg,he⟩:=zT4 hcore.symm ha'
   simp only[core,Prod.mk.injEq] at he
   obtain⟨e1,e2,e3,e4,e5⟩:=he
   refine⟨g,List.mem_of_getElem? (i:=a) ?_,by rw[<-e5];exact h1,by rw[<-e1];exact h2,by rw[<-e2];exact h3⟩
   show(P'.fr.set k _)[a]?=some g
   rw[List.getElem?_set,if_neg]
   ·exact hg
   ·intro hka
    subst hka
    have:=hk0 g hg
    rw[<-e4,A.held g0 hg0 h1 y.2 h3,h2] at this
    exact absurd hy (List.count_eq_zero.1 this)
 ·have h0:P.held=dist H:=A.cnt
  have h1:=zRQ hcore
  unfold PS.held at h0
  simp only[dist]
  rw[if_neg hxH]
  show(P'.fr.set k nf).countP _=_
  omega
theorem HP.hold (A:HP fl n H P)(ok:P.ok){l:List Ent}(hl:fl s i=(0,l))(hr:(s,i)∈H∨dist H<n):∃P1,P.hold s (i:Nat) (0,l)=(0,l,P1)/\HP fl n ((s,i)::H) P1:=by
 cases ha:P.at s (i:Nat) with
 |some k=>
  obtain⟨P1,l',e1,e2,e3⟩:=A.hold_at (x:=(0,l)) ok ha
  rw[hl] at e1
  obtain rfl:l=l':=by simpa using e1
  exact⟨P1,e2,e3⟩
 |none=>
  rcases hr with hx|hn
  ·obtain⟨k',f,h1,_⟩:=A.at ok hx
   rw[ha] at h1;cases h1
  ·exact A.hold_new ok hn ha hl
theorem HP.bad (A:HP fl n H P){x:Int×List Ent}(hl:fl s i=x)(hx:x.1≠0):P.hold s (i:Nat) x=(x.1,[],P):=by
 have hat:P.at s (i:Nat)=none:=by
  cases ha:P.at s (i:Nat) with
  |none=>rfl
  |some k=>
   obtain⟨f,hf,his,hfn,hfi⟩:=zLR ha
   obtain⟨j,hj,hl'⟩:=A.own f (List.mem_of_getElem? hf) his
   have hij:j=i:=by omega
   subst hij
   rw[hfn,hl] at hl'
   rw[hl'] at hx
   exact absurd rfl hx
 simp only[PS.hold,hat]
 rw[if_pos hx]
theorem HP.full (A:HP fl n H P)(ok:P.ok){l:List Ent}(hx:(s,i)∉H)(hn:dist H=n):P.hold s (i:Nat) (0,l)=(90,[],P):=by
 have hall:∀f∈P.fr,0<f.held:=by
  have hc:=A.cnt
  rw[hn,<-A.len] at hc
  unfold PS.held at hc
  rw[List.countP_eq_length] at hc
  exact λf hf=>by simpa using hc f hf
 have his:∀f∈P.fr,f.is=true:=λf hf=>by
  cases h:f.is with
  |true=>rfl
  |false=>have:=A.off f hf h;have:=hall f hf;omega
 have hat:P.at s (i:Nat)=none:=by
  cases ha:P.at s (i:Nat) with
  |none=>rfl
  |some k=>
   obtain⟨f,hf,h1,hfn,hfi⟩:=zLR ha
   have hm:=List.mem_of_getElem? hf
   have:=A.held f hm h1 i hfi
   rw[hfn,List.count_eq_zero.2 hx] at this
   have:=hall f hm;omega
 exact zRP hat his (by rw[A.cnt,hn,A.len])
theorem HP.free (A:HP fl n ((s,i)::H) P)(ok:P.ok):∃P1,P.free s (i:Nat)=(0,P1)/\HP fl n H P1:=by
 obtain⟨k,f,ha,hf,his,hfn,hfi,hheld,hl⟩:=A.at (s:=s) (i:=i) ok (by simp)
 have hfm:=List.mem_of_getElem? hf
 have hk:=(List.getElem?_eq_some_iff.1 hf).1
 rw[List.count_cons_self] at hheld
 let f':Fr:={f with held:=f.held-1}
 have hcnt:=zB7 (q:=λf:Fr=>decide (0<f.held)) (b:=f') hf
 rw[if_pos (show decide (0<f.held)=true by simp[hheld])] at hcnt
 refine⟨{P with fr:=P.fr.set k f'},?_,?_,?_,?_,?_,?_,?_⟩
 ·simp only[PS.free,ha,hf]
  rw[if_neg (by omega)]
 ·simp only[List.length_set];exact A.len
 ·intro g hg hgi
  rcases List.mem_or_eq_of_mem_set hg with hg|rfl
  ·exact A.own g hg hgi
  ·exact⟨i,hfi,by rw[show f'.name=s from hfn];exact hl⟩
 ·intro g hg hgi m hm
  obtain⟨a,ha'⟩:=List.getElem?_of_mem hg
  rcases zT ha' with⟨rfl,rfl⟩|⟨hne,hg'⟩
  ·have:m=i:=by have:f'.i=f.i:=rfl;omega
   subst this
   rw[show f'.name=s from hfn]
   show f.held-1=_
   omega
  ·rw[A.held g (List.mem_of_getElem? hg') hgi m hm,List.count_cons_of_ne]
   intro he
   cases he
   exact hne (ok.one a k g f hg' hf hgi his (by rw[hfn]) (by rw[hm,hfi]))
 ·intro g hg hgi
  rcases List.mem_or_eq_of_mem_set hg with hg|rfl
  ·exact A.off g hg hgi
  ·rw[show f'.is=f.is from rfl,his] at hgi;cases hgi
 ·have keep:∀g0∈P.fr,∃g∈P.fr.set k f',g.is=g0.is/\g.name=g0.name/\g.i=g0.i:=λg0 hg0=>by
   obtain⟨a,ha'⟩:=List.getElem?_of_mem hg0
   by_cases hak:a=k
   ·subst hak
    rw[hf] at ha';cases ha'
    exact⟨f',List.mem_of_getElem? (List.getElem?_set_self hk),rfl,rfl,rfl⟩
   ·exact⟨g0,List.mem_of_getElem? (by rw[List.getElem?_set,if_neg (Ne.symm hak)];exact ha'),rfl,rfl,rfl⟩
  intro y hy
  obtain⟨g0,hg0,h1,h2,h3⟩:=A.has y (List.mem_cons_of_mem _ hy)
  obtain⟨g,hg,e1,e2,e3⟩:=keep g0 hg0
  exact⟨g,hg,by rw[e1];exact h1,by rw[e2];exact h2,by rw[e3];exact h3⟩
 ·have h0:P.held=dist ((s,i)::H):=A.cnt
  unfold PS.held at h0 ⊢
  simp only[dist] at h0
  by_cases hx:(s,i)∈H
  ·rw[if_pos hx] at h0
   have h1:0<f'.held:=by
    have:=List.count_pos_iff.2 hx
    show 0<f.held-1
    omega
   rw[if_pos (decide_eq_true h1)] at hcnt
   show(P.fr.set k f').countP _=_
   omega
  ·rw[if_neg hx] at h0
   have h1:f'.held=0:=by
    have:=List.count_eq_zero.2 hx
    show f.held-1=0
    omega
   rw[if_neg (by simp[h1])] at hcnt
   show(P.fr.set k f').countP _=_
   omega
theorem HP.cnt0 (A:HP fl n [] P):P.held=0:=A.cnt
end
end Go.Pool
namespace Go.Cur
open Go.Ent Go.Pool
set_option linter.unusedSimpArgs false
set_option linter.unusedVariables false
variable{fl fl':Bs->Nat->Int×List Ent}{n:Nat}{P:PS}{s:Bs}
theorem HP.swap {H:List Pg}(A:HP fl n H P)(h:∀f∈P.fr,f.is=true->∀j l,fl f.name j=(0,l)->fl' f.name j=(0,l)):HP fl' n H P:=
 {A with own:=λf hf hi=>let⟨j,h1,h2⟩:=A.own f hf hi;⟨j,h1,h f hf hi j _ h2⟩}
theorem HP.drop (A:HP fl n [] P):HP fl n [] (P.drop s).2/\∀f∈(P.drop s).2.fr,f.is=true->f.name≠s:=by
 have key:∀f∈(P.drop s).2.fr,f.is=true->f∈P.fr/\f.name≠s:=by
  intro f hf hi
  obtain⟨g,hg,rfl⟩:=List.mem_map.1 hf
  by_cases hgo:gone s g=true
  ·rw[if_pos hgo] at hi;cases hi
  ·rw[if_neg hgo] at hi ⊢
   refine⟨hg,λhe=>hgo ?_⟩
   have h0:g.held=0:=by
    obtain⟨j,h1,h2⟩:=A.own g hg hi
    have:=A.held g hg hi j h1
    simpa using this
   unfold gone
   rw[hi,he,h0];simp
 have off:∀f∈(P.drop s).2.fr,f.held=0:=by
  intro f hf
  cases hi:f.is with
  |true=>
   have hm:=(key f hf hi).1
   obtain⟨j,h1,h2⟩:=A.own f hm hi
   have:=A.held f hm hi j h1
   simpa using this
  |false=>
   obtain⟨g,hg,rfl⟩:=List.mem_map.1 hf
   by_cases hgo:gone s g=true
   ·rw[if_pos hgo];rfl
   ·rw[if_neg hgo] at hi ⊢;exact A.off g hg hi
 refine⟨⟨?_,λf hf hi=>A.own f (key f hf hi).1 hi,λf hf hi=>A.held f (key f hf hi).1 hi,λf hf hi=>off f hf,(λx hx=>by cases hx),?_⟩,λf hf hi=>(key f hf hi).2⟩
 ·show(P.fr.map _).length=n
  rw[List.length_map];exact A.len
 ·show((P.drop s).2.fr.countP λf=>decide (0<f.held))=0
  rw[List.countP_eq_zero]
  intro f hf
  rw[off f hf];simp
end Go.Cur
namespace Go.Cur
open Go.Ent Go.Seg Go.Pool
set_option linter.unusedVariables false
set_option linter.unusedSimpArgs false
def xP(r:Nat->Int):List (List Ent)->Nat->List Ent×Int
 | [],_=>([],0)
 |g::gs,j=>if r j=0 then(g++(xP r gs (j+1)).1,(xP r gs (j+1)).2) else([],r j)
section
variable{r:Nat->Int}{gs:List (List Ent)}{g:List Ent}{i j:Nat}{e:Ent}
theorem zNR {α:Type}{l:List α}{i:Nat}{x:α}(h:l[i]?=some x):l.drop i=x::l.drop (i+1):=by
 obtain⟨hi,rfl⟩:=List.getElem?_eq_some_iff.1 h
 exact List.drop_eq_getElem_cons hi
theorem zI7:∀{gs:List (List Ent)} {j:Nat},(∀k,j<=k->r k=0)->xP r gs j=(gs.flatten,0)
 | [],j,h=>rfl
 |g::gs,j,h=>by
  rw[xP,if_pos (h j (Nat.le_refl _)),zI7 (j:=j+1) λk hk=>h k (by omega)]
  rfl
theorem zP1 (hg:gs[i]?=some g)(h0:r i=0):xP r (gs.drop i) i=(g++(xP r (gs.drop (i+1)) (i+1)).1,(xP r (gs.drop (i+1)) (i+1)).2):=by
 rw[zNR hg,xP,if_pos h0]
theorem zM0 (hi:i<gs.length)(h0:r i≠0):xP r (gs.drop i) i=([],r i):=by
 rw[zNR (List.getElem?_eq_getElem hi),xP,if_neg h0]
theorem zHT (hi:gs.length<=i):xP r (gs.drop i) i=([],0):=by
 rw[List.drop_eq_nil_of_le hi];rfl
end
def flG(l:List Ent)(i:Nat):Int×List Ent:=match(zR l)[i]? with |some g=>(0,g)|none=>(80,[])
section
variable{l:List Ent}{e:Ent}{i k:Nat}
theorem zJZ (hok:∀e∈l,yH e=true){g:List Ent}(h:(zR l)[i]?=some g):g.length<=10:=(zCU (S:=yS 7 l) (base:=7) (zF0 hok h)).1
theorem flG_ten (hok:∀e∈l,yH e=true):(flG l i).2.length<=10:=by
 unfold flG
 split
 ·rename_i g hg;exact zJZ hok hg
 ·simp
theorem zRY {g:List Ent}(h:(zR l)[i]?=some g):flG l i=(0,g):=by unfold flG;rw[h]
theorem zBN (hok:∀e∈l,yH e=true):(zV (zR l)).length=(zR l).length:=vD λg hg=>(yR hok g hg).1
theorem zKG (hok:∀e∈l,yH e=true)(hs:zN l){r:Nat->Int}(hr:∀i,r i=0):
  xP r ((zR l).drop (jI (zV (zR l)) e)) (jI (zV (zR l)) e)=(((zR l).drop (jI (zV (zR l)) e)).flatten,0)/\kS ((zR l).drop (jI (zV (zR l)) e)).flatten e=kS l e:=by
 refine⟨zI7 λk _=>hr k,?_⟩
 have ha:=zMI (gs:=zR l) (e:=e) (by rw[yX];exact hs) λg hg=>(yR hok g hg).1
 have:=zEK (b:=((zR l).drop (jI (zV (zR l)) e)).flatten) ha
 rw[<-List.flatten_append,List.take_append_drop,yX] at this
 exact this.symm
theorem zQ2 (h:yH e=true):¬ltE e (0,0,0,0):=by
 have:=of_decide_eq_true h
 unfold ltE
 simp only
 omega
theorem zHB {l:List Ent}(h:∀x∈l,¬ltE x e):kS l e=l:=by
 cases l with
 |nil=>rfl
 |cons x l=>exact zHC (a:=[]) (by simp) (h x (by simp))
end
end Go.Cur

