import Derived.Test.YtafmabnolelknaaGreatDoorCG14
namespace Go.Ab
open Go.ChangeShapes Go.WideShapes Go.ChangeAt Go.RowKit
set_option linter.unusedSimpArgs false
set_option linter.unusedVariables false
section
variable{P:Program}{W:World}{H:Type}{enc:TypeId×Value->H}{α δ:Type}
theorem zJH {l m:List (DataW H)}{d:DataW H}(h:d∈l):SizeOf.sizeOf d<SizeOf.sizeOf (DataW.slice l m):=by
 have:=List.sizeOf_lt_of_mem h
 simp only[DataW.slice.sizeOf_spec]
 omega
set_option maxRecDepth 100000 in
theorem zOK [Inhabited α][Inhabited δ](E:Enc α)(R:Heap->α->δ->Prop)(hR:∀{h h':Heap} {a:α} {d:δ},Ext h h'->R h a d->R h' a d)
  {t e:TypeId}{v:Value}{fuel:Nat}{x:DataW H×List MemPlace}(ht:P.underlying t=some (.slice e))(hC:P.cellsOf e=E.sz)
  (hel:∀(n:Nat) (cs':List Value) (y:DataW H×List MemPlace),SizeOf.sizeOf y.1<SizeOf.sizeOf x.1->DataW.trod enc P W 0 (λ_=>true) true n e cs'=some y->cs'.length=E.sz->∀(μ:Ren) (hp:Heap),HRel μ hp W->xO hp->∀(b0:Nat) (c0:List AV) (rw0:Bool),hp[b0]?=some (.cells c0 rw0)->
   ∃(l1:Ren) (bs:Heap) (a:α) (d:δ),HRel (μ++l1) (hp++bs) W/\xO (hp++bs)/\relL (μ++l1) (E.f a) cs'/\R (hp++bs) a d)
  (hf:DataW.trod enc P W 0 (λ_=>true) true fuel t [v]=some x){μ0:Ren}{hp0:Heap}(HH:HRel μ0 hp0 W)(ro:xO hp0){b0:Nat}{c0:List AV}{rw0:Bool}(hb0:hp0[b0]?=some (.cells c0 rw0)):
  ∃(l1:Ren) (bs:Heap) (q:OSl) (L:List α) (l:List δ),HRel (μ0++l1) (hp0++bs) W/\xO (hp0++bs)/\AV.rel (μ0++l1) (.sl q) v/\HasL E (hp0++bs) q L/\L.length=l.length/\
   ∀(j:Nat) (a:α) (d:δ),L[j]?=some a->l[j]?=some d->R (hp0++bs) a d:=by
 have hsz:=E.pos
 rcases Deep.open_slice ht hf with⟨hcs,_⟩|⟨a,len0,cap,m,n,D,Pl,hcs,_,hlc,hm,hmm,hxe,hx⟩
 ·simp at hcs
  subst hcs
  exact⟨[],[],none,[],[],by simpa using HH,by simpa using ro,rfl,rfl,rfl,by simp⟩
 ·simp at hcs
  subst hcs
  simp only[if_true] at hmm
  subst hmm
  by_cases hcap:m=0
  ·have hl0:len0=0:=by omega
   subst hcap hl0
   refine⟨[],[],some ⟨b0,0,0,0,0⟩,[],[],by simpa using HH,by simpa using ro,⟨⟨0,0,0⟩,0,_,.inr rfl,rfl,Nat.le_refl _,.inl rfl,λ_=>rfl,λhn=>absurd rfl hn⟩,⟨rfl,Nat.le_refl _,.inl rfl,?_⟩,rfl,by simp⟩
   simp[zA,hb0,Enc.all]
  ·have h1:=hlc
   have hsp:∃(ab ao:Nat) (C:Array Value) (tt:TypeId) (fz:Nat×Nat),a=⟨ab,ao,none⟩/\W.heap[ab]?=some (.cells C tt fz)/\ao<=C.size:=by
    obtain⟨cs',hcl,htr⟩:=hx 0 (by omega)
    rw[hC] at hcl
    obtain⟨_,hlen,hcell⟩:=World.cells?_some hcl
    have h0:=hcell 0 E.pos
    have hpos:=E.pos
    have hget:cs'[0]?=some (cs'[0]'(by omega)):=List.getElem?_eq_getElem _
    rw[hget] at h0
    obtain⟨ab,ao,sp⟩:=a
    have e0:Addr.add (Addr.add ⟨ab,ao,sp⟩ (0*E.sz)) 0=⟨ab,ao,sp⟩:=by simp[Addr.add]
    rw[e0] at h0
    unfold World.cell? at h0
    split at h0
    ·rename_i C tt fz hb
     cases sp with
     |none=>
      refine⟨ab,ao,C,tt,fz,rfl,hb,?_⟩
      exact Nat.le_of_lt (Array.getElem?_eq_some_iff.1 h0).1
     |some sp=>simp at h0
    ·cases h0
   obtain⟨ab,ao,C,tt,fz,rfl,hb,haoC⟩:=hsp
   have hbl:=kQ hb
   have inner:∀k,k<=len0->∃(l1:Ren) (bs:Heap) (L:List α) (l:List δ),HRel (μ0++l1) (hp0++bs) W/\xO (hp0++bs)/\L.length=k/\l.length=k/\
     (∀(j:Nat) (e:α),L[j]?=some e->∀(t:Nat) (x:AV),(E.f e)[t]?=some x->∃y,C[ao+j*E.sz+t]?=some y/\x.rel (μ0++l1) y)/\(∀(j:Nat) (e:α) (d:δ),L[j]?=some e->l[j]?=some d->R (hp0++bs) e d):=by
    intro k
    induction k with
    |zero=>intro _;exact⟨[],[],[],[],by simpa using HH,by simpa using ro,rfl,rfl,by simp,by simp⟩
    |succ k ih=>
     intro hk
     obtain⟨l1,bs,L,l,i1,i2,i4,i5,i6,i7⟩:=ih (by omega)
     have i3:(hp0++bs)[b0]?=some (.cells c0 rw0):=by rw[List.getElem?_append_left (zC hb0)];exact hb0
     obtain⟨cs',hcl,htr⟩:=hx k (by omega)
     rw[hC] at hcl
     obtain⟨_,hlen,hcell⟩:=World.cells?_some hcl
     have hsd:SizeOf.sizeOf (D k,Pl k).1<SizeOf.sizeOf x.1:=by
      rw[hxe]
      exact zJH (List.mem_map.2 ⟨k,List.mem_range.2 (by omega),rfl⟩)
     obtain⟨l2,bs2,e,d,k1,k2,k3,k4⟩:=hel n cs' _ hsd htr hlen _ _ i1 i2 _ _ _ i3
     rw[List.append_assoc,List.append_assoc] at k1
     rw[List.append_assoc] at k2 k3 k4
     refine⟨l1++l2,bs++bs2,L++[e],l++[d],k1,k2,by simp[i4],by simp[i5],?_,?_⟩
     ·intro j x hj t z hz
      rw[List.getElem?_append] at hj
      split at hj
      ·obtain⟨y,g1,g2⟩:=i6 j x hj t z hz
       exact⟨y,g1,AV.rel.mono (by rw[<-List.append_assoc];exact Ren.le_append _ _) _ _ g2⟩
      ·have hj0:j-L.length=0:=by have:=zC hj;simp at this;omega
       rw[hj0] at hj
       simp at hj
       subst hj
       have hjk:j=k:=by omega
       subst hjk
       obtain⟨y,g1,g2⟩:=k3.get hz
       have ht:t<E.sz:=by have:=zC hz;rw[E.len] at this;exact this
       refine⟨y,?_,g2⟩
       have:=hcell t ht
       rw[xN,xN] at this
       unfold World.cell? at this
       simp only[hb] at this
       rw[<-g1,<-this]
       simp
     ·intro j x z hj hz
      rw[List.getElem?_append] at hj hz
      split at hj
      ·rw[if_pos (by omega)] at hz
       exact hR (by rw[<-List.append_assoc];exact Ext.app _ _) (i7 j x z hj hz)
      ·rw[if_neg (by omega)] at hz
       have hj0:j-L.length=0:=by have:=zC hj;simp at this;omega
       have hz0:j-l.length=0:=by omega
       rw[hj0] at hj
       rw[hz0] at hz
       simp at hj hz
       subst hj hz
       exact k4
   obtain⟨l1,bs,L,l,i1,i2,i4,i5,i6,i7⟩:=inner len0 (Nat.le_refl _)
   have hμ:=i1.len
   have lastc:∀i,i<len0->ao+i*E.sz+E.sz<=C.size:=by
    intro i hi
    have hLi:L[i]?=some (L[i]'(by omega)):=List.getElem?_eq_getElem _
    have hlast:(E.f (L[i]'(by omega)))[E.sz-1]?=some ((E.f (L[i]'(by omega)))[E.sz-1]'(by rw[E.len];omega)):=List.getElem?_eq_getElem _
    obtain⟨y,g1,_⟩:=i6 i _ hLi (E.sz-1) _ hlast
    have:=(Array.getElem?_eq_some_iff.1 g1).1
    omega
   have hlenC:len0*E.sz<=C.size-ao:=by
    rcases Nat.eq_zero_or_pos len0 with hz|hz
    ·subst hz;simp
    ·have:=lastc (len0-1) (by omega)
     have e1:(len0-1)*E.sz+E.sz=len0*E.sz:=by
      rw[<-Nat.succ_mul];congr 1;omega
     omega
   have HB:HRel (μ0++l1++[⟨ab,ao,C.size-ao⟩]) (hp0++bs++[.cells (E.all L) false]) W:=by
    refine i1.addRO (e:=⟨ab,ao,C.size-ao⟩) (B:=.cells (E.all L) false) i2 rfl hbl ⟨C,tt,fz,hb,?_,?_,?_,?_,?_⟩
    ·show C.size=ao+(C.size-ao);omega
    ·rw[Enc.all_length,i4];exact hlenC
    ·simp only[zW,List.all_eq_true]
     intro x hx'
     simp only[Enc.all,List.mem_flatten,List.mem_map] at hx'
     obtain⟨l0,⟨a,_,rfl⟩,h⟩:=hx'
     have:=E.one a
     simp only[zW,List.all_eq_true] at this
     exact this x h
    ·intro j x hj
     have hjl:=zC hj
     rw[Enc.all_length,i4] at hjl
     have hi:j/E.sz<len0:=Nat.div_lt_of_lt_mul (by rw[Nat.mul_comm];exact hjl)
     have hLi:L[j/E.sz]?=some (L[j/E.sz]'(by omega)):=List.getElem?_eq_getElem _
     have hat:=Enc.all_at (E:=E) hLi
     have hdm:j/E.sz*E.sz+j%E.sz=j:=by rw[Nat.mul_comm];exact Nat.div_add_mod _ _
     have hml:j%E.sz<E.sz:=Nat.mod_lt _ hsz
     have:(E.f (L[j/E.sz]'(by omega)))[j%E.sz]?=some x:=by
      rw[<-hat,List.getElem?_take,if_pos hml,List.getElem?_drop,hdm,hj]
     obtain⟨y,g1,g2⟩:=i6 _ _ hLi _ _ this
     refine⟨y,?_,AV.rel.mono (Ren.le_append _ _) _ _ g2⟩
     rw[<-g1]
     simp only
     congr 1
     omega
    ·intro hrw;cases hrw
   have ea:μ0++l1++[(⟨ab,ao,C.size-ao⟩:ME)]=μ0++(l1++[⟨ab,ao,C.size-ao⟩]):=List.append_assoc _ _ _
   have eb:hp0++bs++[Blk.cells (E.all L) false]=hp0++(bs++[.cells (E.all L) false]):=List.append_assoc _ _ _
   refine⟨l1++[⟨ab,ao,C.size-ao⟩],bs++[.cells (E.all L) false],some ⟨(hp0++bs).length,0,len0,m,0⟩,L,l,?_,?_,?_,?_,by omega,?_⟩
   ·rw[<-ea,<-eb];exact HB
   ·rw[<-eb];exact i2.add rfl
   ·rw[<-ea]
    exact⟨⟨ab,ao,C.size-ao⟩,m,_,.inl (by rw[<-hμ];simp),rfl,h1,.inr rfl,λ_=>rfl,λhn=>absurd rfl hn⟩
   ·rw[<-eb]
    refine⟨i4.symm,h1,.inl rfl,?_⟩
    rw[zP (C:=E.all L) (rw':=false) (by simp) (by simp[Enc.all_length])]
    simp[<-Enc.all_length]
   ·intro j e d hj hd
    rw[<-eb]
    exact hR (Ext.app _ _) (i7 j e d hj hd)
end
end Go.Ab
