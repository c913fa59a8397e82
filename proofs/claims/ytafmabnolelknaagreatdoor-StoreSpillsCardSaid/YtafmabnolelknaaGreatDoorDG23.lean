import Derived.Test.YtafmabnolelknaaGreatDoorDG9
import Derived.Test.YtafmabnolelknaaGreatDoorDG10
import Derived.Test.YtafmabnolelknaaGreatDoorDG12
import Derived.Test.YtafmabnolelknaaGreatDoorDG14
import Derived.Test.YtafmabnolelknaaGreatDoorDG15
import Derived.Test.YtafmabnolelknaaGreatDoorDG17
import Derived.Test.YtafmabnolelknaaGreatDoorDG21
import Derived.Test.YtafmabnolelknaaGreatDoorDG22
namespace Go.Proofs.YtafmabnolelknaaGreatDoor
open Go.Ab
open Go.Num hiding Bs snoc_ind
open Go.Ent Go.Seg
open Go.Page hiding Bs get
open Go.Dsk hiding Bs
open Go.Man (xE jN jY zFG zL5 zBD)
set_option linter.unusedVariables false
set_option linter.unusedSimpArgs false
section
attribute [local irreducible] xU xT
def LlsB{α:Type}(E:Enc α)(h:Heap)(q:OSl)(ls:List (List α))(lo hi:Nat):Prop:=
 ∃qs:List (OSl),HasL slE h q qs/\qs.length=ls.length/\(∀(i:Nat) (s:OSl) (l:List α),qs[i]?=some s->ls[i]?=some l->HasL E h s l)/\
  (∀s,q=some s->lo<=s.b/\s.b<hi)/\∀(i:Nat) (t:SL),qs[i]?=some (some t)->lo<=t.b/\t.b<hi
theorem LL.llsB {α:Type}{E:Enc α}{h0 h:Heap}{out:OSl}{qs:List (OSl)}{ls:List (List α)}(L:LL E h0 h out qs ls):LlsB E h out ls h0.length h.length:=
 ⟨qs,L.oa.hasL,L.len,L.el,λs hs=>⟨L.ob s hs,HasL.live L.oa.hasL s hs⟩,λi t ht=>⟨(L.eb i t ht).1,L.live ht⟩⟩
theorem LlsB.keeps {α:Type}{E:Enc α}{h h':Heap}{q:OSl}{ls:List (List α)}{lo hi:Nat}{X:Nat->Prop}(I:LlsB E h q ls lo hi)(K:zI X h h')(hX:∀b,lo<=b->b<hi->¬X b):LlsB E h' q ls lo hi:=by
 obtain⟨qs,a,b,c,d,e⟩:=I
 exact⟨qs,K.hasL (λs hs=>hX _ (d s hs).1 (d s hs).2) a,b,λi s l h1 h2=>K.hasL (λt ht=>hX _ (e i t (by rw[h1,ht])).1 (e i t (by rw[h1,ht])).2) (c i s l h1 h2),d,e⟩
theorem LlsB.idx {α:Type}{E:Enc α}{h:Heap}{q:OSl}{ls:List (List α)}{lo hi:Nat}(I:LlsB E h q ls lo hi){i:Int}{K:PA->Prop}(h0:0<=i)(h1:i<ls.length)
  (hK:∀p s l,ls[i.toNat]?=some l->zA h p 1=some [.sl s]->HasL E h s l->(∀t,s=some t->lo<=t.b/\t.b<hi)->K p):vIdx q i 1 K:=by
 obtain⟨qs,a,b,c,d,e⟩:=I
 refine HasL.idx (E:=slE) a h0 (by omega) λp s hs hc=> ?_
 have hl:ls[i.toNat]?=some (ls[i.toNat]'(by omega)):=List.getElem?_eq_getElem _
 exact hK p s _ hl hc (c _ _ _ hs hl) λt ht=>e _ t (by rw[hs,ht])
theorem LlsB.len {α:Type}{E:Enc α}{h:Heap}{q:OSl}{ls:List (List α)}{lo hi:Nat}(I:LlsB E h q ls lo hi):zJ q=ls.length:=by
 obtain⟨qs,a,b,_⟩:=I
 rw[a.len,b]
theorem zDG {base:Nat}{l:List Ent}(hok:∀e∈l,yH e=true)(hl:l.length<=16384):∀s∈yS base l,s.length=64:=λs hs=>by
 obtain⟨i,hi⟩:=List.getElem?_of_mem hs
 obtain⟨b,hb,_,rfl⟩:=zLH hi
 exact zLK (zD7 hok hl b hb)
section
variable{h:Heap}{Q:AHp}{ow:yC}{p:Nat}
theorem zG6 {n:Int}{l:List Ent}:(zAN n=false/\mayS n l=1)∨(zAN n=true/\mayE l≠0/\mayS n l=mayE l)∨(zAN n=true/\mayE l=0/\¬zN l/\mayS n l=1)∨(zAN n=true/\mayE l=0/\zN l/\mayS n l=0):=by
 unfold mayS
 by_cases h1:zAN n=false
 ·exact .inl ⟨h1,by rw[if_pos h1]⟩
 have h1':zAN n=true:=by simpa using h1
 by_cases h2:mayE l≠0
 ·exact .inr (.inl ⟨h1',h2,by rw[if_neg h1,if_pos h2]⟩)
 by_cases h3:zN l
 ·exact .inr (.inr (.inr ⟨h1',by simpa using h2,h3,by rw[if_neg h1,if_neg h2,if_pos h3]⟩))
 ·exact .inr (.inr (.inl ⟨h1',by simpa using h2,h3,by rw[if_neg h1,if_neg h2,if_neg h3]⟩))
end
end
end Go.Proofs.YtafmabnolelknaaGreatDoor
namespace Go.Proofs.YtafmabnolelknaaGreatDoor
open Go.Ab
open Go.Num hiding Bs snoc_ind
open Go.Ent Go.Seg
open Go.Page hiding Bs get
open Go.Dsk hiding Bs
set_option linter.unusedVariables false
set_option linter.unusedSimpArgs false
section
attribute [local irreducible] xU xT
structure Lies(D:DS)(s:Bs)(S:List Bs):Prop where
 on:D.off=false
 is:∃f,D.find s=some f/\S=f.now.map pad
section
variable{h h':Heap}{Q:AHp}{ow:yC}{dp:Nat}{D:DS}{s:Bs}{S:List Bs}
theorem k289 {base i:Nat}(L:Laid h)(R:xB h ow dp D)(Z:Lies D s S)(b1:1<=base)(b2:base+i<=kV){x:Bs}(hx:S[i]?=some x)(hb:base<=2305843009213693952)(hi:i<=1000000)
  (h0:Go.Page.get x (base+i)=none->∀h',Ext h h'->Q (.tup [.sl none,.int .i64 80]) h')
  (h1:∀b q h',Go.Page.get x (base+i)=some b->Ext h h'->HasL byE h' q b->(∀s,q=some s->h.length<=s.b)->Q (.tup [.sl q,.int .i64 0]) h'):
  AC Tryz.prog 289 [.agg [.ptr (some ⟨dp,0⟩),.str s,.int .i64 (base:Nat)],.int .i64 (i:Nat)] h Q:=ac289 (by
 unfold vc289
 obtain⟨f,hf,rfl⟩:=Z.is
 have hx':∃y,f.now[i]?=some y/\x=pad y:=by
  rw[List.getElem?_map] at hx
  obtain⟨y,h1,h2⟩:=Option.map_eq_some_iff.1 hx
  exact⟨y,h1,h2.symm⟩
 obtain⟨y,hy,rfl⟩:=hx'
 have hil:=(List.getElem?_eq_some_iff.1 hy).1
 refine d160 R (λv _ _ hn=> ?_) λf' y' q7 h6 _ hf' _ hy' x6 H7 f7=>⟨_,_,rfl,zB (λg=>by simp at g) (λ_=> ?_)⟩
 ·exact absurd ⟨by omega,by omega⟩ (hn Z.on f hf)
 rw[hf] at hf';cases hf'
 have:y'=y:=by
  have:f.now[((i:Nat):Int).toNat]?=some y':=hy'
  simp only[Int.toNat_natCast] at this
  rw[hy] at this;cases this;rfl
 subst this
 have e:zC .i64 (((base:Nat):Int)+((i:Nat):Int))=((base+i:Nat):Int):=by rw[zF ⟨by omega,by omega⟩];omega
 rw[e]
 refine k350 (L.ext x6) H7 (by rw[zD8];omega) (by omega) b2 (λhg e h10 he x10=>⟨_,_,rfl,zB (λ_=>h0 hg _ (x6.trans x10)) (λg=>absurd (by simpa using g) he)⟩) λb q11 h10 hg x10 H11 f11=>⟨_,_,rfl,zB (λg=>by simp at g) (λ_=> ?_)⟩
 exact h1 _ _ _ hg (x6.trans x10) H11 λt ht=>by have:=f11 t ht;have:=x6.len;omega)
theorem k290 {base i:Nat}(L:Laid h)(R:xB h ow dp D)(Z:Lies D s S)(b1:1<=base)(b2:base+i<=kV)(hil:i<S.length)(hb:base<=2305843009213693952)(hi:i<=1000000)
  (h0:kQ S base i=none->∀h',Ext h h'->Q (.tup [.sl none,.int .i64 80]) h')
  (h1:∀l q h',kQ S base i=some l->Ext h h'->Apd entE h' q l->(∀s,q=some s->h.length<=s.b)->(∀e∈l,yH e=true)->l.length<=43->Q (.tup [.sl q,.int .i64 0]) h'):
  AC Tryz.prog 290 [.agg [.ptr (some ⟨dp,0⟩),.str s,.int .i64 (base:Nat)],.int .i64 (i:Nat)] h Q:=ac290 (by
 unfold vc290
 have hx:S[i]?=some S[i]:=List.getElem?_eq_getElem hil
 have hp:kQ S base i=(Go.Page.get S[i] (base+i)).bind jL:=by unfold kQ;rw[hx];rfl
 refine k289 L R Z b1 b2 hx hb hi (λhg h' x'=>⟨_,_,rfl,zB (λ_=>h0 (by rw[hp,hg];rfl) _ x') (λg=>by simp at g)⟩) λb q7 h6 hg x6 H7 f7=>⟨_,_,rfl,zB (λg=>by simp at g) (λ_=> ?_)⟩
 have hbl:b.length<=43:=(zDV.1 hg).1
 refine k294 H7 (by omega) (λhu e h10 he x10=>⟨_,_,rfl,zB (λ_=>h0 ?_ _ (x6.trans x10)) (λg=>absurd (by simpa using g) he)⟩) λl q11 h10 _ hu x10 A11 f11=>⟨_,_,rfl,zB (λg=>by simp at g) (λ_=> ?_)⟩
 ·rcases hu with hu|hu
  ·omega
  ·rw[hp,hg];exact hu
 ·obtain⟨hb',hok⟩:=vB.1 hu
  refine h1 l _ _ (by rw[hp,hg];exact hu) (x6.trans x10) A11 (λt ht=>by have:=f11 t ht;have:=x6.len;omega) hok ?_
  have h2:∀l:List Ent,l.length<=(encL l).length:=by
   intro l
   induction l with
   |nil=>simp
   |cons a l ih=>have:=vA (e:=a);simp only[encL,List.flatMap_cons,List.length_append,List.length_cons] at*;omega
  have:=h2 l
  rw[<-hb'] at this;omega)
end
end
section
attribute [local irreducible] xU xT
abbrev segC(dp:Nat)(s:Bs)(base count:Nat)(qh:OSl):Blk:=.cells [.ptr (some ⟨dp,0⟩),.str s,.int .i64 (base:Nat),.int .i64 (count:Nat),.sl qh] true
section
variable{h h':Heap}{Q:AHp}{ow:yC}{dp sp:Nat}{D:DS}{s:Bs}{S:List Bs}{base:Nat}
theorem zAH {count:Nat}{qh:OSl}(hs:h[sp]?=some (segC dp s base count qh)){k:Nat}{x:AV}(hx: [AV.ptr (some ⟨dp,0⟩),.str s,.int .i64 (base:Nat),.int .i64 (count:Nat),.sl qh][k]?=some x):zA h ⟨sp,0+k⟩ 1=some [x]:=by
 have hk:=(List.getElem?_eq_some_iff.1 hx).1
 rw[xQ hs (by simp at hk ⊢;omega)]
 congr 1
 have hd: [AV.ptr (some ⟨dp,0⟩),.str s,.int .i64 (base:Nat),.int .i64 (count:Nat),.sl qh].drop k=x::[AV.ptr (some ⟨dp,0⟩),.str s,.int .i64 (base:Nat),.int .i64 (count:Nat),.sl qh].drop (k+1):=by
  obtain⟨_,rfl⟩:=List.getElem?_eq_some_iff.1 hx
  exact List.drop_eq_getElem_cons hk
 rw[hd];rfl
theorem zLG {count:Nat}{qh:OSl}(hs:h[sp]?=some (segC dp s base count qh)):zA h ⟨sp,0+0⟩ 3=some [.ptr (some ⟨dp,0⟩),.str s,.int .i64 (base:Nat)]:=by
 rw[xQ hs (by simp)];rfl
theorem zQK {l b:Bs}{n:Nat}(h:rdN l=some (n,b)):n<M63:=(zB1 h).2
def endV:Option Bs->Int|none=>10|some l=>if l=[] then 0 else 10
theorem e250w {p:Nat}{o:Option Bs}(R:Rd h p o)(hQ:Q (.int .i64 (endV o)) h):AC Tryz.prog 250 [.ptr (some ⟨p,0⟩)] h Q:=e250 R (by cases o<;>exact hQ)
theorem k226 (L:Laid h)(R:xB h ow dp D)(Z:Lies D s S)(b1:1<=base)(hb:base<=2305843009213693952)(hS:S.length<=100000){qh:OSl}(hs:h[sp]?=some (segC dp s base 0 qh))
  (h0:zGQ S base=none->∀h',Ext h h'->Q (.tup [.int .i64 0,.int .i64 0,.int .i64 80]) h')
  (h1:∀c d x h1 h',zGQ S base=some (c,d,x)->Ext h h1->h'=h1.set sp (segC dp s base c qh)->Q (.tup [.int .i64 (d:Nat),.int .i64 (x:Nat),.int .i64 0]) h'):
  AC Tryz.prog 226 [.ptr (some ⟨sp,0⟩),.int .i64 (S.length:Nat)] h Q:=ac226 (by
 unfold vc226
 refine zB (λg=> ?_) (λg=> ?_)
 ·have g:S.length=0:=by simpa using g
  exact h0 (by unfold zGQ;rw[if_pos (List.eq_nil_of_length_eq_zero g)]) _ (.refl _)
 have g:S.length≠0:=by simpa using g
 have hne:S≠ []:=λh=>g (by rw[h];rfl)
 have hx:S[S.length-1]?=some (S[S.length-1]'(by omega)):=List.getElem?_eq_getElem _
 generalize S[S.length-1]'(by omega)=x at hx
 have hlast:∀b,Go.Page.get x (base+(S.length-1))=some b->zGQ S base=(rd3 b).bind λr=>if r.2.1+r.2.2+1=S.length then some r else none:=λb hg=>by
  unfold zGQ;rw[if_neg hne,hx,Option.bind_some,hg];rfl
 refine⟨_,_,_,zLG hs,?_⟩
 have e1:zC .i64 (((S.length:Nat):Int) - 1)=((S.length-1:Nat):Int):=by rw[zF ⟨by omega,by omega⟩];omega
 rw[e1]
 refine k289 L R Z b1 (by simp only[kV];omega) hx hb (by omega) (λhg h' x'=>⟨_,_,rfl,zB (λ_=>h0 ?_ _ x') (λg=>by simp at g)⟩) λb q9 h8 hg x8 H9 f9=>⟨_,_,rfl,zB (λg=>by simp at g) (λ_=> ?_)⟩
 ·unfold zGQ;rw[if_neg hne,hx,Option.bind_some,hg];rfl
 have hl:=hlast b hg
 have hbl:b.length<=43:=(zDV.1 hg).1
 refine e247 H9 (by omega) λp h12 x12 hp Rd0=>⟨_,rfl,?_⟩
 have bd0:Bd (some b):=λl hl=>by cases hl;omega
 refine e249 Rd0 bd0 λh15 F15 R15=>⟨_,rfl,?_⟩
 refine e249 R15 bd0.nm λh18 F18 R18=>⟨_,rfl,?_⟩
 refine e249 R18 bd0.nm.nm λh21 F21 R21=>⟨_,rfl,?_⟩
 have x21:Ext h h21:=by
  have:=((F15.trans F18).trans F21).ext x12 hp
  exact x8.trans this
 refine e250w R21 ⟨_,rfl,?_⟩
 have no:∀{h'},Ext h h'->rd3 b=none->Q (.tup [.int .i64 0,.int .i64 0,.int .i64 80]) h':=λhx' hr=>h0 (by rw[hl,hr];rfl) _ hx'
 have h1':nm (some b)=rdN b:=rfl
 cases n1:rdN b with
 |none=>
  have o3:stO (nm (stO (nm (stO (nm (some b))))))=none:=by rw[h1',n1];rfl
  rw[o3]
  exact zB (λ_=>no x21 (by unfold rd3;rw[n1])) (λg=>by simp[endV] at g)
 |some r1=>
  obtain⟨c,l1⟩:=r1
  have v1:valN (nm (some b))=c:=by rw[h1',n1];rfl
  have s1:stO (nm (some b))=some l1:=by rw[h1',n1];rfl
  rw[s1,v1]
  have h2':nm (some l1)=rdN l1:=rfl
  cases n2:rdN l1 with
  |none=>
   have o3:stO (nm (stO (nm (some l1))))=none:=by rw[h2',n2];rfl
   rw[o3]
   exact zB (λ_=>no x21 (by unfold rd3;rw[n1];simp only;rw[n2])) (λg=>by simp[endV] at g)
  |some r2=>
   obtain⟨d,l2⟩:=r2
   have v2:valN (nm (some l1))=d:=by rw[h2',n2];rfl
   have s2:stO (nm (some l1))=some l2:=by rw[h2',n2];rfl
   rw[s2,v2]
   have h3':nm (some l2)=rdN l2:=rfl
   cases n3:rdN l2 with
   |none=>
    have o3:stO (nm (some l2))=none:=by rw[h3',n3];rfl
    rw[o3]
    exact zB (λ_=>no x21 (by unfold rd3;rw[n1];simp only;rw[n2];simp only;rw[n3])) (λg=>by simp[endV] at g)
   |some r3=>
    obtain⟨z,l3⟩:=r3
    have v3:valN (nm (some l2))=z:=by rw[h3',n3];rfl
    have s3:stO (nm (some l2))=some l3:=by rw[h3',n3];rfl
    rw[s3,v3]
    have c1:=zQK n1
    have c2:=zQK n2
    have c3:=zQK n3
    simp only[M63] at c1 c2 c3
    by_cases hl3:l3=[]
    ·have hr:rd3 b=some (c,d,z):=by unfold rd3;rw[n1];simp only;rw[n2];simp only;rw[n3];simp only;rw[if_pos hl3]
     rw[hr] at hl
     simp only[Option.bind_some] at hl
     have bad:d+z+1≠S.length->∀h',Ext h h'->Q (.tup [.int .i64 0,.int .i64 0,.int .i64 80]) h':=λhne h' hx'=>h0 (by rw[hl,if_neg hne]) _ hx'
     refine zB (λg=>by simp[endV,hl3] at g) (λ_=> ?_)
     refine zB (λg=> ?_) (λg2=> ?_)
     ·have:=of_decide_eq_true g
      exact bad (by omega) _ x21
     replace g2:=of_decide_eq_false g2
     refine zB (λg=> ?_) (λg3=> ?_)
     ·have:=of_decide_eq_true g
      exact bad (by omega) _ x21
     replace g3:=of_decide_eq_false g3
     rw[zF (n:=((d:Nat):Int)+((z:Nat):Int)) ⟨by omega,by omega⟩,zF ⟨by omega,by omega⟩]
     refine zB (λg=> ?_) (λg4=> ?_)
     ·have:d+z+1≠S.length:=by intro he;rw[bne_iff_ne] at g;omega
      exact bad this _ x21
     have g4:d+z+1=S.length:=by rw[bne_eq_false_iff_eq] at g4;omega
     have hs21:=x21 _ _ hs
     refine yP (o:=3) hs21 (by simp) ?_
     refine h1 c d z h21 _ (by rw[hl,if_pos g4]) x21 ?_
     rfl
    ·have hr:rd3 b=none:=by unfold rd3;rw[n1];simp only;rw[n2];simp only;rw[n3];simp only;rw[if_neg hl3]
     exact zB (λ_=>no x21 hr) (λg=>by simp[endV,hl3] at g))
end
end
section
attribute [local irreducible] xU xT
section
variable{h h':Heap}{Q:AHp}
abbrev zIK(gs:Gs):List Int:=gs.map λg=>((g.length:Nat):Int)
theorem k291 {q q2:OSl}{l:List Ent}{gs:Gs}(H:HasL entE h q l)(hl:l.length<=16384)(hok:∀e∈l,yH e=true)(H2:HasL intE h q2 (zIK gs))(hg:l=gs.flatten)
  (hQ:∀h',Ext h h'->Q (.bool (decide (zR l=gs))) h'):AC Tryz.prog 291 [.sl q,.sl q2] h Q:=ac291 (by
 unfold vc291
 have hno:zR l≠gs->∀h',Ext h h'->Q (.bool false) h':=λhne h' x=>by
  have:=hQ h' x
  rwa[decide_eq_false hne] at this
 have hyes:zR l=gs->∀h',Ext h h'->Q (.bool true) h':=λhe h' x=>by
  have:=hQ h' x
  rwa[decide_eq_true he] at this
 have hm:mayE l=0:=zBG.2 ⟨hok,hl⟩
 refine k230 H (by omega) (λhne=>absurd hm hne) λ_ q5 qs h4 LLx=>⟨_,_,rfl,zB (λg=>by simp at g) (λ_=> ?_)⟩
 have x4:Ext h h4:=LLx.ext
 have I:=LL.llsB LLx
 have hpl:(zR l).length<=l.length:=kI hok
 have hl5:zJ q5=(zR l).length:=by rw[I.len,encP,List.length_map]
 have hl2:zJ q2=gs.length:=by rw[H2.len,zIK,List.length_map]
 rw[hl5,hl2]
 refine zB (λg=>hno (λhe=>by rw[he] at g;simp at g) _ x4) (λg=> ?_)
 have hlen:(zR l).length=gs.length:=by
  rw[bne_eq_false_iff_eq] at g
  omega
 refine⟨λxs h10=>∃i:Nat,xs=[.int .i64 i]/\i<=gs.length/\Ext h4 h10/\∀j,j<i->((zR l)[j]?).map List.length=(gs[j]?).map List.length,λxs _=>match xs with | [.int _ i]=>(gs.length-i).toNat|_=>0,⟨0,rfl,by omega,.refl _,λj hj=>by omega⟩,?_⟩
 rintro n7 h10 ⟨i,hxs,hi,x10,hsame⟩
 simp only[List.cons.injEq,AV.int.injEq,true_and,and_true] at hxs
 subst hxs
 refine zB (λg=> ?_) (λg=> ?_)
 ·have hin:i<gs.length:=by have:=of_decide_eq_true g;omega
  have I10:LlsB byE h10 q5 (encP (zR l)) h.length h4.length:=I.keeps (X:=λ_=>False) (zH x10) (λ_ _ _ h=>h)
  refine I10.idx (by omega) (by simp only[encP,List.length_map];omega) λp s b hb hc Hb _=>⟨_,hc,?_⟩
  rw[Int.toNat_natCast] at hb
  simp only[encP,List.getElem?_map,Option.map_eq_some_iff] at hb
  obtain⟨gp,hgp,rfl⟩:=hb
  have hgm:gp∈zR l:=List.mem_of_getElem? hgp
  obtain⟨hne,hfit⟩:=yR hok gp hgm
  have hu:jL (encL gp)=some gp:=zAD (zDN hok gp hgm)
  refine k294 Hb (by omega) (λhbad=>absurd hbad (by rw[hu];simp;omega)) λl' q15 h14 _ hl' x14 A15 _=>⟨_,_,rfl,?_⟩
  obtain rfl:l'=gp:=by rw[hu] at hl';exact(Option.some.inj hl').symm
  have hg2:gs[i]?=some (gs[i]'hin):=List.getElem?_eq_getElem hin
  refine HasL.idx (E:=intE) (H2.mono (x4.trans (x10.trans x14))) (by omega) (by simp;omega) λp z hz hc=> ?_
  rw[Int.toNat_natCast,zIK,List.getElem?_map,hg2] at hz
  cases hz
  refine⟨_,hc,?_⟩
  rw[A15.hasL.len]
  refine zB (λg3=>hno (λhe=> ?_) _ (x4.trans (x10.trans x14))) (λg3=> ?_)
  ·rw[he,hg2] at hgp
   cases hgp
   simp at g3
  ·have e1:zC .i64 (((i:Nat):Int)+1)=((i+1:Nat):Int):=by rw[zF ⟨by omega,by omega⟩];omega
   rw[e1]
   refine⟨trivial,⟨i+1,rfl,by omega,x10.trans x14,λj hj=> ?_⟩,?_⟩
   ·by_cases hji:j=i
    ·subst hji
     rw[hgp,hg2]
     have:l'.length=(gs[j]'hin).length:=by
      rw[bne_eq_false_iff_eq] at g3
      have g4:((l'.length:Nat):Int)=(((gs[j]'hin).length:Nat):Int):=g3
      omega
     simp only[Option.map_some,this]
    ·exact hsame j (by omega)
   ·simp only
    omega
 ·have hin:¬i<gs.length:=by have:=of_decide_eq_false g;omega
  refine hyes (zHD (by rw[yX];exact hg) (List.ext_getElem? λj=> ?_)) _ (x4.trans x10)
  rw[List.getElem?_map,List.getElem?_map]
  by_cases hj:j<i
  ·exact hsame j hj
  ·rw[List.getElem?_eq_none (by omega),List.getElem?_eq_none (by omega)])
end
end
section
attribute [local irreducible] xU xT
abbrev segX(h:Heap)(sp:Nat):Nat->Prop:=λb=>b=sp∨h.length<=b
structure IxI(h:Heap)(S:List Bs)(base data count dp sp:Nat)(s:Bs)(h8:Heap)(q4:OSl)(i:Nat)(gs:Gs)(q:OSl):Prop where
 pk:yN S base data i=some gs
 len:gs.length=i
 kp:zI (segX h sp) h h8
 hl:h.length<=h8.length
 at':h8[sp]?=some (segC dp s base count q)
 hd:Apd entE h8 q gs.flatten
 hq:∀t,q=some t->h.length<=t.b
 sz:Apd intE h8 q4 (zIK gs)
 sq:∀t,q4=some t->h.length<=t.b
 dj:∀t u,q=some t->q4=some u->t.b≠u.b
 ok:∀e∈gs.flatten,yH e=true
 fl:gs.flatten.length<=43*i
section
variable{h:Heap}{Q:AHp}{ow:yC}{dp sp:Nat}{D:DS}{s:Bs}{S:List Bs}{base:Nat}
theorem zQF (R:xB h ow dp D)(hsp:ow sp=none){h8:Heap}(K:zI (segX h sp) h h8)(hl:h.length<=h8.length):xB h8 ow dp D:=by
 refine R.ext (λb B hb hB=>K b B (λhx=> ?_) hB) hl
 rcases hx with rfl|hx
 ·exact hb hsp
 ·have:=R.live b hb;omega
theorem zQE (L:Laid h)(h2:2<=sp){h8:Heap}(K:zI (segX h sp) h h8):Laid h8:=by
 have:=L.len
 exact L.keeps K (λhx=>by rcases hx with hx|hx<;>omega) (λhx=>by rcases hx with hx|hx<;>omega)
theorem k227 {data index count:Nat}(L:Laid h)(R:xB h ow dp D)(Z:Lies D s S)(b1:1<=base)(hb:base<=2305843009213693952)(hS:S.length<=16384)(hdi:data+index+1=S.length)
  (hs:h[sp]?=some (segC dp s base count none))(hsp:ow sp=none)(h2:2<=sp)
  (h0:(∀gs,yN S base data index=some gs->¬(gs.flatten.length=data/\zN gs.flatten/\zR gs.flatten=gs))->∀h',zI (segX h sp) h h'->h.length<=h'.length->Q (.int .i64 80) h')
  (h1:∀gs q h',yN S base data index=some gs->gs.flatten.length=data->zN gs.flatten->zR gs.flatten=gs->zI (segX h sp) h h'->h.length<=h'.length->h'[sp]?=some (segC dp s base count q)->Apd entE h' q gs.flatten->
   (∀t,q=some t->h.length<=t.b)->(∀e∈gs.flatten,yH e=true)->Q (.int .i64 0) h'):
  AC Tryz.prog 227 [.ptr (some ⟨sp,0⟩),.int .i64 (data:Nat),.int .i64 (index:Nat)] h Q:=ac227 (by
 unfold vc227 PNew
 have hspl:=zD hs
 refine⟨λxs h8=>∃(q4:OSl) (i:Nat) (gs:Gs) (q:OSl),xs=[.sl q4,.int .i64 ((data+i:Nat):Int)]/\i<=index/\IxI h S base data count dp sp s h8 q4 i gs q,λxs _=>match xs with | [_,.int _ n]=>((data+index:Nat) - n).toNat|_=>0,
  ⟨none,0,[],none,rfl,by omega,rfl,rfl,.refl _ _,Nat.le_refl _,hs,.inl ⟨rfl,rfl⟩,(by intro t h;cases h),.inl ⟨rfl,rfl⟩,(by intro t h;cases h),(by intro t u h;cases h),by simp,by simp⟩,?_⟩
 rintro q4 n5 h8 ⟨q4',i,gs,q,hxs,hi,I⟩
 simp only[List.cons.injEq,AV.int.injEq,AV.sl.injEq,true_and,and_true] at hxs
 obtain⟨rfl,rfl⟩:=hxs
 have e0:zC .i64 (((data:Nat):Int)+((index:Nat):Int))=((data+index:Nat):Int):=by rw[zF ⟨by omega,by omega⟩];omega
 rw[e0]
 refine zB (λg=> ?_) (λg=> ?_)
 ·have hin:i<index:=by have:=of_decide_eq_true g;omega
  refine⟨_,_,_,zLG I.at',?_⟩
  have R8:=zQF R hsp I.kp I.hl
  have L8:=zQE L h2 I.kp
  refine k290 L8 R8 Z b1 (by simp only[kV];omega) (by omega) hb (by omega) (λhn h14 x14=>⟨_,_,rfl,zB (λ_=>h0 (λgs' hgs'=> ?_) _ (I.kp.trans (zH x14)) (by have:=x14.len;have:=I.hl;omega)) (λg=>by simp at g)⟩)
   λl q15 h14 hl x14 A15 f15 hok hll=>⟨_,_,rfl,zB (λg=>by simp at g) (λ_=> ?_)⟩
  ·rw[zCI hin hn] at hgs';cases hgs'
  have at14:=x14 _ _ I.at'
  have hd14:=I.hd.ext x14
  have sz14:=I.sz.ext x14
  have l8:=I.hl
  have l14:=x14.len
  refine⟨q,zAH at14 (k:=4) rfl,?_⟩
  refine Apd.append (E:=entE) (by':=32) hd14 A15.hasL (by have:=I.fl;omega) λq19 h20 A20 K20 l20 f20=> ?_
  have hnsp:∀t:SL,q=some t->t.b≠sp:=λt ht he=>by have:=I.hq t ht;omega
  have at20:h20[sp]?=some (segC dp s base count q):=K20 _ _ (λ⟨t,ht,he⟩=>hnsp t ht he) at14
  have sz20:Apd intE h20 q4 (zIK gs):=sz14.keeps K20 λu hu ⟨t,ht,he⟩=>I.dj t u ht hu he
  have hq19:∀t,q19=some t->h.length<=t.b/\∀u,q4=some u->t.b≠u.b:=λt ht=>by
   rcases f20 t ht with hf|⟨t',ht',he⟩
   ·exact⟨by omega,λu hu he=>by
     have:=HasL.live sz14.hasL u hu
     omega⟩
   ·exact⟨by have:=I.hq t' ht';omega,λu hu=>by rw[<-he];exact I.dj t' u ht' hu⟩
  refine yP (o:=4) at20 (by simp) ?_
  have hset:(splice [AV.ptr (some ⟨dp,0⟩),.str s,.int .i64 (base:Nat),.int .i64 (count:Nat),.sl q] 4 [.sl q19])=[AV.ptr (some ⟨dp,0⟩),.str s,.int .i64 (base:Nat),.int .i64 (count:Nat),.sl q19]:=rfl
  rw[hset]
  generalize hh22:h20.set sp (.cells [AV.ptr (some ⟨dp,0⟩),.str s,.int .i64 (base:Nat),.int .i64 (count:Nat),.sl q19] true)=h22
  have K22:zI (λb=>b=sp) h20 h22:=by rw[<-hh22];exact zO rfl
  have l22:h22.length=h20.length:=by rw[<-hh22,List.length_set]
  have at22:h22[sp]?=some (segC dp s base count q19):=by rw[<-hh22,List.getElem?_set,if_pos rfl,if_pos (zD at20)]
  have A22:Apd entE h22 q19 (gs.flatten++l):=A20.keeps K22 λt ht he=>by have:=(hq19 t ht).1;omega
  have sz22:Apd intE h22 q4 (zIK gs):=sz20.keeps K22 λu hu he=>by have:=I.sq u hu;omega
  rw[A15.hasL.len]
  have H24:=HasL.new (E:=intE) (h:=h22) (l:=[((l.length:Nat):Int)]) (n:=1) rfl (c:=[.int .i64 ((l.length:Nat):Int)]) rfl
  have x24:Ext h22 (h22++[.cells [.int .i64 ((l.length:Nat):Int)] true]):=.app _ _
  refine Apd.append (E:=intE) (by':=8) (sz22.ext x24) H24 (by have:=I.len;simp;omega) λq25 h26 A26 K26 l26 f26=> ?_
  have l24:=x24.len
  have e1:zC .i64 (((data+i:Nat):Int)+1)=((data+(i+1):Nat):Int):=by rw[zF ⟨by omega,by omega⟩];omega
  rw[e1]
  have hfl:(gs++[l]).flatten=gs.flatten++l:=by simp
  refine⟨trivial,⟨q25,i+1,gs++[l],q19,rfl,by omega,zCH I.pk hl,by simp[I.len],?_,by omega,?_,?_,λt ht=>(hq19 t ht).1,?_,λt ht=> ?_,λt u ht hu=> ?_,?_,?_⟩,?_⟩
  ·refine I.kp.trans ?_
   intro b B hx hB
   have hx1:¬b=sp:=λh=>hx (.inl h)
   have hx2:b<h.length:=by rcases Nat.lt_or_ge b h.length with h|h;exact h;exact absurd (.inr h) hx
   refine K26 _ _ (λ⟨u,hu,he⟩=>by have:=I.sq u hu;omega) (x24 _ _ (K22 _ _ hx1 (K20 _ _ (λ⟨t,ht,he⟩=>by have:=I.hq t ht;omega) (x14 _ _ hB))))
  ·exact K26 _ _ (λ⟨u,hu,he⟩=>by have:=I.sq u hu;omega) (x24 _ _ at22)
  ·rw[hfl]
   exact(A22.ext x24).keeps K26 λt ht ⟨u,hu,he⟩=>(hq19 t ht).2 u hu he.symm
  ·have:zIK (gs++[l])=zIK gs++[((l.length:Nat):Int)]:=by simp[zIK]
   rw[this];exact A26
  ·rcases f26 t ht with hf|⟨u,hu,he⟩
   ·omega
   ·have:=I.sq u hu;omega
  ·rcases f26 u hu with hf|⟨u',hu',he⟩
   ·have:=HasL.live A22.hasL t ht;omega
   ·rw[<-he];exact(hq19 t ht).2 u' hu'
  ·rw[hfl];intro e he
   rcases List.mem_append.1 he with he|he
   ·exact I.ok e he
   ·exact hok e he
  ·rw[hfl,List.length_append];have:=I.fl;omega
  ·simp only;omega
 ·have hin:i=index:=by have:=of_decide_eq_false g;omega
  subst hin
  have bad:¬(gs.flatten.length=data/\zN gs.flatten/\zR gs.flatten=gs)->∀h',Ext h8 h'->Q (.int .i64 80) h':=λhn h' x=>h0 (λgs' hgs'=>by
   rw[I.pk] at hgs';cases hgs';exact hn) _ (I.kp.trans (zH x)) (by have:=x.len;have:=I.hl;omega)
  refine⟨q,zAH I.at' (k:=4) rfl,?_⟩
  rw[I.hd.hasL.len]
  refine zB (λg=>bad (λ⟨hh,_⟩=>by rw[hh] at g;simp at g) _ (.refl _)) (λg=> ?_)
  have hlen:gs.flatten.length=data:=by rw[bne_eq_false_iff_eq] at g;omega
  refine⟨q,zAH I.at' (k:=4) rfl,?_⟩
  refine z194 I.hd.hasL (by omega) λh32 x32=>⟨_,rfl,?_⟩
  refine zB (λg=>bad (λ⟨_,hh,_⟩=>by simp[hh] at g) _ x32) (λg=> ?_)
  have hso:zN gs.flatten:=by simpa using g
  refine⟨q,zAH (x32 _ _ I.at') (k:=4) rfl,?_⟩
  refine k291 (gs:=gs) (I.hd.ext x32).hasL (by omega) I.ok (I.sz.ext x32).hasL rfl λh37 x37=>⟨_,rfl,?_⟩
  refine zB (λg=>bad (λ⟨_,_,hh⟩=>by simp[hh] at g) _ (x32.trans x37)) (λg=> ?_)
  have hpk:zR gs.flatten=gs:=by simpa using g
  have x:=x32.trans x37
  exact h1 gs q h37 I.pk hlen hso hpk (I.kp.trans (zH x)) (by have:=x.len;have:=I.hl;omega) (x _ _ I.at') (I.hd.ext x) I.hq I.ok)
end
end
section
attribute [local irreducible] xU xT
section
variable{h:Heap}{Q:AHp}{ow:yC}{dp:Nat}{D:DS}{s:Bs}{S:List Bs}{base:Nat}
structure SegO(h h':Heap)(dp sp:Nat)(s:Bs)(base count:Nat)(heads:List Ent)(q:OSl):Prop where
 keep:Ext h h'
 new:h.length<=sp
 at':h'[sp]?=some (segC dp s base count q)
 hd:Apd entE h' q heads
 hq:∀t,q=some t->h.length<=t.b
 ok:∀e∈heads,yH e=true
theorem k155 (L:Laid h)(R:xB h ow dp D)(Z:Lies D s S)(b1:1<=base)(hb:base<=2305843009213693952)(hS:S.length<=16384)
  (h0:zJ5 S base=none->∀h',Ext h h'->Q (.tup [.ptr none,.int .i64 80]) h')
  (h1:∀c heads sp q h',zJ5 S base=some (c,heads)->SegO h h' dp sp s base c heads q->Q (.tup [.ptr (some ⟨sp,0⟩),.int .i64 0]) h'):
  AC Tryz.prog 155 [.ptr (some ⟨dp,0⟩),.str s,.int .i64 (base:Nat)] h Q:=ac155 (by
 unfold vc155 PNew
 have hbo:zAN (base:Int)=true:=decide_eq_true ⟨by omega,by omega⟩
 refine k193 ⟨_,rfl,?_⟩
 rw[hbo]
 refine zB (λg=>by simp at g) (λ_=> ?_)
 obtain⟨f0,hf0,hS0⟩:=Z.is
 have hsl:f0.now.length=S.length:=by rw[hS0,List.length_map]
 refine d159 R (λhn=>by rw[hf0] at hn;cases hn) λf hf=>⟨_,_,rfl,zB (λg=>by simp at g) (λ_=> ?_)⟩
 obtain rfl:f=f0:=by rw[hf0] at hf;exact(Option.some.inj hf).symm
 rw[hsl]
 have x12:Ext h (h++[segC dp s base 0 none]):=.app _ _
 have hs:(h++[segC dp s base 0 none])[h.length]?=some (segC dp s base 0 none):=by simp
 have hl2:=L.len
 have hnone:ow h.length=none:=by
  cases ho:ow h.length with
  |none=>rfl
  |some r=>have:=R.live h.length (by rw[ho];simp);omega
 refine k226 (L.ext x12) (R.grow x12) Z b1 hb (by omega) hs (λhn h' x'=>⟨_,_,_,rfl,zB (λg=>by simp at g) (λ_=>zB (λ_=>h0 (by unfold zJ5;rw[hn];rfl) _ (x12.trans x')) (λg=>by simp at g))⟩) ?_
 intro c d x hh1 h14 hlast x1 he14
 refine⟨_,_,_,rfl,zB (λ_=> ?_) (λg=>by simp at g)⟩
 have hl1:h.length+1<=hh1.length:=by
  have:=x1.len
  rw[List.length_append] at this
  exact this
 have K14:Ext h h14:=by
  intro b B hB
  have hbl:=zD hB
  rw[he14,List.getElem?_set,if_neg (by omega)]
  exact x1 _ _ (x12 _ _ hB)
 have l14:h14.length=hh1.length:=by rw[he14,List.length_set]
 have at14:h14[h.length]?=some (segC dp s base c none):=by rw[he14,List.getElem?_set,if_pos rfl,if_pos (by omega)]
 have hdx:d+x+1=S.length:=by
  unfold zGQ at hlast
  split at hlast
  ·cases hlast
  ·obtain⟨r,_,hr⟩:=Option.bind_eq_some_iff.1 hlast
   split at hr
   ·rename_i hr2;cases hr;exact hr2
   ·cases hr
 have hop:zJ5 S base=(yN S base d x).bind λgs=>if gs.flatten.length=d/\zN gs.flatten/\zR gs.flatten=gs then some (c,gs.flatten) else none:=by unfold zJ5;rw[hlast];rfl
 have ext:∀{h'},zI (segX h14 h.length) h14 h'->Ext h h':=λK b B hB=>by
  have hbl:=zD hB
  exact K _ _ (λhx=>by rcases hx with hx|hx<;>omega) (K14 _ _ hB)
 refine k227 (L.ext K14) (R.grow K14) Z b1 hb hS hdx at14 hnone hl2 (λhno h' K l'=>⟨_,rfl,zB (λ_=>h0 ?_ _ (ext K)) (λg=>by simp at g)⟩)
  λgs q h' hpk hg1 hg2 hg3 K l' at' hd hq hok=>⟨_,rfl,zB (λg=>by simp at g) (λ_=>h1 c gs.flatten h.length q h' ?_ ⟨ext K,Nat.le_refl _,at',hd,λt ht=>by have:=hq t ht;omega,hok⟩)⟩
 ·rw[hop]
  cases hp:yN S base d x with
  |none=>rfl
  |some gs=>simp only[Option.bind_some];rw[if_neg (hno gs hp)]
 ·rw[hop,hpk,Option.bind_some,if_pos ⟨hg1,hg2,hg3⟩])
end
end
section
variable{h:Heap}{Q:AHp}{dp sp:Nat}{s:Bs}{base count:Nat}{q:OSl}{heads:List Ent}
theorem k141 (hs:h[sp]?=some (segC dp s base count q))(hQ:Q (.str s) h):AC Tryz.prog 141 [.ptr (some ⟨sp,0⟩)] h Q:=ac141 (by
 unfold vc141
 exact zB (λg=>by simp at g) (λ_=>⟨_,zAH hs (k:=1) rfl,hQ⟩))
theorem k204 (hs:h[sp]?=some (segC dp s base count q))(H:HasL entE h q heads)(hQ:Q (.int .i64 (heads.length:Nat)) h):AC Tryz.prog 204 [.ptr (some ⟨sp,0⟩)] h Q:=ac204 (by
 unfold vc204
 refine zB (λg=>by simp at g) (λ_=>⟨_,zAH hs (k:=4) rfl,?_⟩)
 rw[H.len];exact hQ)
end
section
variable{h:Heap}{Q:AHp}{dp sp:Nat}{s:Bs}{base count:Nat}{q:OSl}{heads:List Ent}
theorem k292 {n:Int}(hs:h[sp]?=some (segC dp s base count q))(H:HasL entE h q heads)
  (h0:¬(0<=n/\n<heads.length)->Q (.tup [entV (0,0,0,0),.bool false]) h)
  (h1:∀e,0<=n->heads[n.toNat]?=some e->Q (.tup [entV e,.bool true]) h):AC Tryz.prog 292 [.ptr (some ⟨sp,0⟩),.int .i64 n] h Q:=ac292 (by
 unfold vc292
 refine zB (λg=>h0 (by have:=of_decide_eq_true g;omega)) (λg=> ?_)
 have hn:=of_decide_eq_false g
 refine k204 hs H ⟨_,rfl,?_⟩
 refine zB (λg=>h0 (by have:=of_decide_eq_true g;omega)) (λg2=> ?_)
 have hn2:=of_decide_eq_false g2
 refine⟨_,zAH hs (k:=4) rfl,?_⟩
 refine HasL.idx (E:=entE) H (by omega) (by omega) λp e he hc=> ?_
 exact⟨_,_,_,_,hc,h1 e (by omega) he⟩)
end
section
variable{h:Heap}{Q:AHp}{ow:yC}{dp sp:Nat}{D:DS}{s:Bs}{S:List Bs}{base count:Nat}{q:OSl}{heads:List Ent}
theorem k228 {i:Nat}(L:Laid h)(R:xB h ow dp D)(Z:Lies D s S)(b1:1<=base)(hb:base<=2305843009213693952)(hS:S.length<=16384)(hs:h[sp]?=some (segC dp s base count q))(H:HasL entE h q heads)(hh:heads.length<=S.length)(hi:i<heads.length)
  (h0:zDL S base heads i=none->∀h',Ext h h'->Q (.tup [.sl none,.int .i64 80]) h')
  (h1:∀l q' h',zDL S base heads i=some l->Ext h h'->Apd entE h' q' l->(∀t,q'=some t->h.length<=t.b)->Q (.tup [.sl q',.int .i64 0]) h'):AC Tryz.prog 228 [.ptr (some ⟨sp,0⟩),.int .i64 (i:Nat)] h Q:=ac228 (by
 unfold vc228
 refine zB (λg=>by simp at g) (λ_=>⟨_,zAH hs (k:=0) rfl,zB (λg=>by simp at g) (λ_=> ?_)⟩)
 refine k292 hs H (λhn=>absurd ⟨by omega,by omega⟩ hn) λe _ he=>⟨_,_,_,_,_,rfl,zB (λg=>by simp at g) (λ_=>⟨_,_,_,zLG hs,?_⟩)⟩
 rw[Int.toNat_natCast] at he
 have hp:∀l,kQ S base i=some l->zDL S base heads i=if l≠ []/\zN l/\l.head?=some e then some l else none:=λl hl=>by
  unfold zDL;rw[hl,Option.bind_some,he]
 refine k290 L R Z b1 (by simp only[kV];omega) (by omega) hb (by omega) (λhn h17 x17=>⟨_,_,rfl,zB (λ_=>h0 (by unfold zDL;rw[hn];rfl) _ x17) (λg=>by simp at g)⟩)
  λl q18 h17 hl x17 A17 f17 hok hll=>⟨_,_,rfl,zB (λg=>by simp at g) (λ_=> ?_)⟩
 have hpl:=hp l hl
 rw[A17.hasL.len]
 refine zB (λg=>h0 ?_ _ x17) (λg=> ?_)
 ·have:l=[]:=List.eq_nil_of_length_eq_zero (by have:=eq_of_beq g;omega)
  rw[hpl,if_neg (λhc=>hc.1 this)]
 have hne:l≠ []:=λhc=>by subst hc;simp at g
 refine z194 A17.hasL (by omega) λh21 x21=>⟨_,rfl,?_⟩
 refine zB (λg=>h0 ?_ _ (x17.trans x21)) (λg=> ?_)
 ·rw[hpl,if_neg (λhc=>by simp[hc.2.1] at g)]
 have hso:zN l:=by simpa using g
 have hpos:0<l.length:=List.length_pos_iff.2 hne
 refine HasL.idx (E:=entE) (A17.ext x21).hasL (by omega) (by omega) λp y hy hc=> ?_
 have hy':l.head?=some y:=by
  rw[List.head?_eq_getElem?];exact hy
 refine⟨_,_,_,_,hc,?_⟩
 obtain⟨y1,y2,y3,y4⟩:=y
 obtain⟨e1,e2,e3,e4⟩:=e
 refine zB (λg=>h0 ?_ _ (x17.trans x21)) (λg=> ?_)
 ·rw[hpl,if_neg (λhc=> ?_)]
  have:=hc.2.2
  rw[hy'] at this
  cases this
  simp at g
 ·have:(y1,y2,y3,y4)=(e1,e2,e3,e4):=by simp at g ⊢;omega
  exact h1 l q18 h21 (by rw[hpl,if_pos ⟨hne,hso,by rw[hy',this]⟩]) (x17.trans x21) (A17.ext x21) f17)
end
end Go.Proofs.YtafmabnolelknaaGreatDoor
namespace Go.Proofs.YtafmabnolelknaaGreatDoor
open Go.Ab
open Go.Ent Go.Seg
open Go.Pool hiding Bs Ents zT
set_option linter.unusedVariables false
set_option linter.unusedSimpArgs false
abbrev entZ(z:Nat->Prop):EncZ:=⟨entE,z⟩
abbrev PC(z:Nat->Prop):=kE (entZ z)
abbrev PD2(z:Nat->Prop):=zK2 (entZ z)
set_option maxRecDepth 100000 in
theorem spot_in:Tryz.prog.stoodInHeld 180=false:=by kernel_rfl
theorem zFE (s s':Bs)(i i':Int)(K:Bool->Prop)(hK:K ((s==s')&&(i==i'))):vW Tryz.prog 180 (kN s i) (kN s' i') K:=by
 unfold vW
 rw[Tryz.underlying180]
 simp only[keyS,spot_in,zAZ,zG9,Tryz.underlying9,Tryz.underlying3]
 simpa using hK
theorem zHV (s:Bs)(i:Int):zBK Tryz.prog 180 (kN s i)=true:=by
 unfold zBK
 rw[Tryz.underlying180]
 simp[zAY,zCK,Tryz.underlying9,Tryz.underlying3]
section
variable{z:Nat->Prop}{h h':Heap}{Q:AHp}{p fb mb:Nat}{rs:List RF}{es:List (AV×AV×Nat)}{cl:Nat}{P:PS}
theorem k171 (C:PC z h p fb mb rs es cl P)(hQ:Q (.bool true) h):AC Tryz.prog 171 [.ptr (some ⟨p,0⟩)] h Q:=ac171 (by
 unfold vc171
 exact zB (λ_=>⟨_,C.at (k:=1) rfl,hQ⟩) (λg=>by simp at g))
attribute [local irreducible] jP vW in
theorem k345 {s:Bs}{i:Int}(C:PC z h p fb mb rs es cl P)(h0:P.at s i=none->Q (.ptr none) h)(h1:∀k,P.at s i=some k->Q (.ptr (some ⟨fb,k*6⟩)) h):AC Tryz.prog 345 [.ptr (some ⟨p,0⟩),.str s,.int .i64 i] h Q:=ac345 (by
 unfold vc345
 refine k171 C ⟨_,rfl,zB (λg=>by simp at g) (λ_=>⟨_,C.at (k:=1) rfl,?_⟩)⟩
 unfold xO
 have hm:zE7 h (some mb)=some es:=by simp only[zE7,C.mbk]
 have hz:tz Tryz.prog 3=some (.int .i64 0):=by kernel_rfl
 rw[hm,hz]
 simp only
 have hko:=zHV s i
 simp only[hko,need]
 refine C.find zFE ?_ ?_
 ·intro hn
  exact⟨_,_,rfl,zB (λ_=>h0 hn) (λg=>by simp at g)⟩
 intro j k n hk hj
 refine⟨_,_,rfl,zB (λg=>by simp at g) (λ_=>⟨_,C.at (k:=0) rfl,?_⟩)⟩
 obtain⟨f,hf,_⟩:=zLR hk
 exact fidx rfl (List.getElem?_eq_some_iff.1 hf).1 (h1 k hk))
theorem k131 {q:OSl}{l:List Ent}(H:HasL entE h q l)(hl:l.length<=1000000)(hQ:∀q' h',New entE h h' q' l->Q (.sl q') h'):AC Tryz.prog 131 [.sl q] h Q:=ac131 (by
 unfold vc131 PNew
 refine zB (λg=> ?_) (λg=> ?_)
 ·cases q with
  |none=>
   have:l=[]:=H
   subst this
   exact hQ none h New.none
  |some s=>simp at g
 ·exact zIX (E:=entE) H (by omega) hQ)
theorem k105 {r:RF}{k:Nat}(hb:h[fb]?=some (.cells (rfE.all rs) true))(hr:rs[k]?=some r)(hQ:Q (.bool (decide (0<r.held))) h):AC Tryz.prog 105 [.ptr (some ⟨fb,k*6⟩)] h Q:=ac105 (by
 unfold vc105
 refine⟨_,zCE hb hr (j:=3) rfl,?_⟩
 have e:decide (((r.held:Nat):Int)>0)=decide (0<r.held):=decide_eq_decide.2 ⟨λh=>by omega,λh=>by omega⟩
 rw[e];exact hQ)
theorem zG2 (C:PC z h p fb mb rs es cl P){k:Nat}{f:Pool.Fr}(hf:P.fr[k]?=some f):∃r,rs[k]?=some r/\RelF (entZ z) h p fb mb r f:=by
 have hk:=(List.getElem?_eq_some_iff.1 hf).1
 have hr:rs[k]?=some (rs[k]'(by rw[C.rl];exact hk)):=List.getElem?_eq_getElem _
 exact⟨_,hr,C.rel k _ f hr hf⟩
theorem k38 (C:PC z h p fb mb rs es cl P)(hQ:Q (.int .i64 (P.held:Nat)) h):AC Tryz.prog 38 [.ptr (some ⟨p,0⟩)] h Q:=ac38 (by
 unfold vc38
 refine ac104h ?_
 unfold vc104h
 have few:=C.ok.few
 refine k171 C ⟨_,rfl,zB (λg=>by simp at g) (λ_=>⟨_,C.at (k:=0) rfl,?_⟩)⟩
 refine⟨λxs h11=>h11=h/\∃i:Nat,xs=[.int .i64 ((P.fr.take i).countP λf=>decide (0<f.held):Nat),.int .i64 (i:Nat)]/\i<=P.fr.length,λxs _=>match xs with | [_,.int _ i]=>(P.fr.length-i).toNat|_=>0,⟨rfl,0,rfl,by omega⟩,?_⟩
 rintro n7 n8 h11 ⟨rfl,i,hx,hi⟩
 simp only[List.cons.injEq,AV.int.injEq,true_and,and_true] at hx
 obtain⟨rfl,rfl⟩:=hx
 have hc:((P.fr.take i).countP λf=>decide (0<f.held))<=i:=by
  have:=List.countP_le_length (p:=λf:Pool.Fr=>decide (0<f.held)) (l:=P.fr.take i)
  rw[List.length_take] at this;omega
 refine zB (λg=> ?_) (λg=> ?_)
 ·have g:i<P.fr.length:=by have:=of_decide_eq_true g;simp only[zJ] at this;omega
  refine⟨_,C.at (k:=0) rfl,fidx rfl g ?_⟩
  have hf:P.fr[i]?=some P.fr[i]:=List.getElem?_eq_getElem g
  obtain⟨r,hr,R⟩:=zG2 C hf
  refine k105 C.fbk hr ⟨_,rfl,?_⟩
  have ct:=zGB (λf:Pool.Fr=>decide (0<f.held)) hf
  rw[<-R.held] at ct
  rw[zF (n:=(i:Int)+1) ⟨by omega,by omega⟩]
  refine zB (λg2=> ?_) (λg2=> ?_)
  ·rw[if_pos g2] at ct
   rw[zF ⟨by omega,by omega⟩]
   exact⟨trivial,⟨rfl,i+1,by rw[ct];simp,by omega⟩,by simp only;omega⟩
  ·rw[if_neg (by simp[g2])] at ct
   exact⟨trivial,⟨rfl,i+1,by rw[ct];simp,by omega⟩,by simp only;omega⟩
 ·have g:¬i<P.fr.length:=by have:=of_decide_eq_false g;simp only[zJ] at this;omega
  have:i=P.fr.length:=by omega
  subst this
  rw[List.take_length]
  exact⟨_,rfl,hQ⟩)
theorem k393 (C:PC z h p fb mb rs es cl P)(h0:P.fr.findIdx? (λf=> !f.is)=none->Q (.int .i64 (-1)) h)(h1:∀k,P.fr.findIdx? (λf=> !f.is)=some k->Q (.int .i64 (k:Nat)) h):
  AC Tryz.prog 393 [.sl (some ⟨fb,0,P.fr.length,P.fr.length,0⟩),.func (.func 392) [] []] h Q:=ac393 (by
 unfold vc393
 have few:=C.ok.few
 refine⟨λxs h5=>h5=h/\∃i:Nat,xs=[.int .i64 (i:Nat)]/\i<=P.fr.length/\∀f∈P.fr.take i,(!f.is)=false,λxs _=>match xs with | [.int _ i]=>(P.fr.length-i).toNat|_=>0,⟨rfl,0,rfl,by omega,by simp⟩,?_⟩
 rintro n2 h5 ⟨rfl,i,hx,hi,hn⟩
 simp only[List.cons.injEq,AV.int.injEq,true_and,and_true] at hx
 subst hx
 refine zB (λg=> ?_) (λg=> ?_)
 ·have g:i<P.fr.length:=by have:=of_decide_eq_true g;simp only[zJ] at this;omega
  refine fidx rfl g ?_
  have hf:P.fr[i]?=some P.fr[i]:=List.getElem?_eq_getElem g
  obtain⟨r,hr,R⟩:=zG2 C hf
  have hc:zA h5 ⟨fb,i*6⟩ 6=some [.str r.name,.int .i64 r.i,.sl r.q,.int .i64 (r.held:Nat),.bool r.mark,.bool r.is]:=by
   have:=zT6 C.fbk hr (j:=0) (m:=6) (by omega)
   rwa[Nat.add_zero] at this
  refine⟨_,_,_,_,_,_,hc,ac392 ?_⟩
  unfold vc392
  refine⟨_,rfl,?_⟩
  rw[R.is]
  refine zB (λg2=>h1 i (zOV hn hf g2)) (λg2=> ?_)
  rw[zF ⟨by omega,by omega⟩]
  refine⟨trivial,⟨rfl,i+1,by simp,by omega,λf hfm=> ?_⟩,by simp only;omega⟩
  rw[List.take_add_one,hf] at hfm
  rcases List.mem_append.1 hfm with hm|hm
  ·exact hn f hm
  ·simp at hm;subst hm;exact g2
 ·have g:¬i<P.fr.length:=by have:=of_decide_eq_false g;simp only[zJ] at this;omega
  have:i=P.fr.length:=by omega
  subst this
  rw[List.take_length] at hn
  exact h0 (zKN hn))
theorem k221 (C:PC z h p fb mb rs es cl P)(hh:P.hand<P.fr.length)(hQ:∀h',PC z h' p fb mb rs es cl {P with hand:=(P.hand+1)%P.fr.length}->zI (pbl p fb mb) h h'->h'.length=h.length->Q (.int .i64 (P.hand:Nat)) h'):
  AC Tryz.prog 394 [.ptr (some ⟨p,0⟩)] h Q:=ac394 (by
 unfold vc394
 have few:=C.ok.few
 refine⟨_,C.at (k:=2) rfl,_,C.at (k:=2) rfl,_,C.at (k:=0) rfl,?_⟩
 refine zNA.2 ⟨by simp only[zJ];simp;intro hc;rw[hc] at hh;simp at hh,?_⟩
 have e:Int.tmod (zC .i64 ((P.hand:Int)+1)) ((zJ (some ⟨fb,0,P.fr.length,P.fr.length,0⟩):Nat):Int)=(((P.hand+1)%P.fr.length:Nat):Int):=by
  rw[zF ⟨by omega,by omega⟩,Int.tmod_eq_emod_of_nonneg (by omega)]
  simp[zJ]
 rw[e]
 refine zB0 (j:=2) C.pb (by omega) ?_
 refine hQ _ (C.setP (P':={P with hand:=(P.hand+1)%P.fr.length}) rfl (.inl (Nat.mod_lt _ (by omega)))) (zO (.inl rfl)) (by rw[List.length_set]))
end
end Go.Proofs.YtafmabnolelknaaGreatDoor
namespace Go.Proofs.YtafmabnolelknaaGreatDoor
open Go.Ab
open Go.Ent Go.Sto
set_option linter.unusedVariables false
set_option linter.unusedSimpArgs false
abbrev mmV(m:Mom):AV:=.agg [.int .i64 m.1,.int .i64 m.2]
def mmE:Enc Mom:=⟨2,λm=>[.int .i64 m.1,.int .i64 m.2],λ_=>rfl,by omega,λ_=>rfl⟩
abbrev inq(q:OSl):Nat->Prop:=λc=>∃s,q=some s/\s.b=c
section
variable{h h':Heap}{Q:AHp}{q:OSl}{l:List Ent}{f:List Mom}{m m':Mom}{a:Nat}
theorem gk147 (hQ:Q (.bool (decide (m.1<=m'.1)&&decide (m.2<=m'.2))) h):AC Tryz.prog 147 [mmV m,mmV m'] h Q:=ac147 (by
 unfold vc147
 refine zB (λg=> ?_) (λg=> ?_)
 ·rw[g,Bool.true_and] at hQ;exact hQ
 ·rw[g,Bool.false_and] at hQ;exact hQ)
theorem gk146 (hb:h[a]?=some (.cells [.int .i64 m'.1,.int .i64 m'.2] true))(hQ:Q (.bool (decide (m.1<=m'.1)&&decide (m.2<=m'.2))) h):AC Tryz.prog 146 [mmV m,.ptr (some ⟨a,0⟩)] h Q:=ac146 (by
 unfold vc146
 exact⟨_,_,by rw[zP (p:=⟨a,0⟩) hb (by simp)];rfl,gk147 ⟨_,rfl,hQ⟩⟩)
theorem gk80 (H:HasL mmE h q f)(hl:f.length<=1000000)(hQ:∀h',Ext h h'->Q (.bool (covB f m)) h'):AC Tryz.prog 80 [.sl q,mmV m] h Q:=ac80 (by
 unfold vc80 PNew
 have x1:Ext h (h++[Blk.cells [.int .i64 m.1,.int .i64 m.2] true]):=.app _ _
 have hb:(h++[Blk.cells [.int .i64 m.1,.int .i64 m.2] true])[h.length]?=some (.cells [.int .i64 m.1,.int .i64 m.2] true):=by simp
 have H1:=H.mono x1
 have hQ1:=hQ _ x1
 generalize h++[Blk.cells [.int .i64 m.1,.int .i64 m.2] true]=h1 at*
 refine ac145 ?_
 unfold vc145
 refine ac220 ?_
 unfold vc220
 have hlen:=H1.len
 refine⟨λxs h6=>h6=h1/\∃i:Nat,xs=[.int .i64 i]/\i<=f.length/\covB (f.take i) m=false,λxs _=>match xs with | [.int _ i]=>(f.length-i).toNat|_=>0,⟨rfl,0,rfl,by omega,rfl⟩,?_⟩
 rintro n3 h6 ⟨rfl,i,hx,hi,hn⟩
 simp only[List.cons.injEq,AV.int.injEq,true_and,and_true] at hx
 subst hx
 have take1:∀x,f[i]?=some x->covB (f.take (i+1)) m=(decide (x.1<=m.1)&&decide (x.2<=m.2)):=by
  intro x hx
  unfold covB at hn ⊢
  rw[List.take_add_one,hx,List.any_append,hn]
  simp
 refine zB (λg=> ?_) (λg=> ?_)
 ·replace g:=of_decide_eq_true g
  refine HasL.idx (E:=mmE) H1 (by omega) (by omega) λpp x hx hc=>⟨x.1,x.2,hc,?_⟩
  have hx':f[i]?=some x:=by simpa using hx
  have t1:=take1 x hx'
  refine gk146 (m:=x) (m':=m) hb ⟨_,rfl,zB (λg2=> ?_) (λg2=> ?_)⟩
  ·refine⟨_,rfl,⟨_,rfl,?_⟩⟩
   have:covB f m=true:=by
    rw[g2] at t1
    unfold covB at t1 ⊢
    rw[List.any_eq_true] at t1 ⊢
    obtain⟨y,hy,hc⟩:=t1
    exact⟨y,List.mem_of_mem_take hy,hc⟩
   rw[this] at hQ1
   rw[decide_eq_true (by omega:(i:Int)≥0)]
   exact hQ1
  ·rw[g2] at t1
   rw[zF ⟨by omega,by omega⟩]
   exact⟨trivial,⟨rfl,i+1,by simp,by omega,t1⟩,by simp only;omega⟩
 ·replace g:=of_decide_eq_false g
  have:i=f.length:=by omega
  subst this
  rw[List.take_length] at hn
  rw[hn] at hQ1
  exact⟨_,rfl,⟨_,rfl,hQ1⟩⟩)
theorem gk229 (hQ:Q (mmV (joinM m m')) h):AC Tryz.prog 229 [mmV m,mmV m'] h Q:=ac229 (by
 unfold vc229
 have e:∀a b:Int,zEF a b=max a b:=λa b=>by unfold zEF;omega
 rw[e,e]
 exact hQ)
theorem gk212 {v:AV}{del:Ent->Bool}(A:AppJ entE h q l)(hl:l.length<=1000000)
  (F:∀e∈l,∀h2,zI (inq q) h h2->h.length<=h2.length->∀K:AHp,(∀h3,Ext h2 h3->K (.bool (del e)) h3)->yV Tryz.prog (AC Tryz.prog) v [entV e] h2 K)
  (h0:(∀x∈l,del x=false)->∀h',Ext h h'->Q (.int .i64 (-1)) h')(h1:∀k x,l[k]?=some x->del x=true->(∀y∈l.take k,del y=false)->∀h',Ext h h'->Q (.int .i64 (k:Nat)) h'):AC Tryz.prog 212 [.sl q,v] h Q:=ac212 (by
 unfold vc212
 have hlen:=A.hasL.len
 refine⟨λxs h6=>Ext h h6/\∃i:Nat,xs=[.int .i64 i]/\i<=l.length/\∀y∈l.take i,del y=false,λxs _=>match xs with | [.int _ i]=>(l.length-i).toNat|_=>0,⟨.refl _,0,rfl,by omega,by simp⟩,?_⟩
 rintro n3 h6 ⟨x6,i,hx,hi,hn⟩
 simp only[List.cons.injEq,AV.int.injEq,true_and,and_true] at hx
 subst hx
 refine zB (λg=> ?_) (λg=> ?_)
 ·replace g:=of_decide_eq_true g
  refine AppJ.idx (E:=entE) (A.ext x6) (by omega) (by omega) λpp x hx0 hc _=>⟨x.1,x.2.1,x.2.2.1,x.2.2.2,hc,?_⟩
  have hx':l[i]?=some x:=by simpa using hx0
  refine F x (List.mem_of_getElem? hx') h6 (zH x6) x6.len _ λh7 x7=>⟨_,rfl,zB (λg2=> ?_) (λg2=> ?_)⟩
  ·exact h1 i x hx' g2 hn h7 (x6.trans x7)
  ·rw[zF ⟨by omega,by omega⟩]
   refine⟨trivial,⟨x6.trans x7,i+1,by simp,by omega,?_⟩,by simp only;omega⟩
   intro y hy
   rw[List.take_add_one,hx'] at hy
   rcases List.mem_append.1 hy with hy|hy
   ·exact hn y hy
   ·simp at hy;subst hy;exact g2
 ·replace g:=of_decide_eq_false g
  have:i=l.length:=by omega
  subst this
  rw[List.take_length] at hn
  exact h0 hn _ x6)
end
section
variable{h h':Heap}{Q:AHp}{q:OSl}{l:List Ent}{f:List Mom}{m m':Mom}{a:Nat}
theorem zGA {del:Ent->Bool}{l:List Ent}(h:∀x∈l,del x=false):(l.filter λe=> !del e)=l:=List.filter_eq_self.2 λx hx=>by rw[h x hx];rfl
theorem gk136 {v:AV}{del:Ent->Bool}(A:AppJ entE h q l)(hl:l.length<=1000000)
  (F:∀e∈l,∀h2,zI (inq q) h h2->h.length<=h2.length->∀K:AHp,(∀h3,Ext h2 h3->K (.bool (del e)) h3)->yV Tryz.prog (AC Tryz.prog) v [entV e] h2 K)
  (hQ:∀q' h',AppJ entE h' q' (l.filter λe=> !del e)->zI (inq q) h h'->h.length<=h'.length->(∀s',q'=some s'->∃s,q=some s/\s.b=s'.b)->Q (.sl q') h'):AC Tryz.prog 136 [.sl q,v] h Q:=ac136 (by
 unfold vc136
 have hlen:=A.hasL.len
 refine gk212 A hl F (λhn h4 x4=>⟨_,rfl,?_⟩) λk x0 hk hkd hn h4 x4=>⟨_,rfl,?_⟩
 ·have:=hQ q h4
  rw[zGA hn] at this
  exact zB (λ_=>this (A.ext x4) (zH x4) x4.len (λs hs=>⟨s,hs,rfl⟩)) (λg=>by simp at g)
 have hkl:=zD hk
 refine zB (λg=> ?_) (λ_=> ?_)
 ·have:=eq_of_beq g;omega
 rw[zF ⟨by omega,by omega⟩]
 have h0:((l.take (k+1)).filter λe=> !del e)=l.take k:=by
  rw[List.take_add_one,hk,List.filter_append,zGA hn]
  simp[hkd]
 let I:Heap->Nat->Nat->Prop:=λh10 i j=>∃cur:List Ent,AppJ entE h10 q cur/\cur.length=l.length/\cur.take i=((l.take j).filter λe=> !del e)/\i<j/\j<=l.length/\cur.drop j=l.drop j/\zI (inq q) h h10/\h.length<=h10.length
 refine⟨λxs h10=>∃i j:Nat,xs=[.int .i64 i,.int .i64 j]/\I h10 i j,λxs _=>match xs with | [_,.int _ j]=>(l.length-j).toNat|_=>0,⟨k,k+1,by simp,l,A.ext x4,rfl,h0.symm,by omega,by omega,rfl,zH x4,x4.len⟩,?_⟩
 rintro n6 n7 h10 ⟨i,j,hxs,cur,A10,hcl,hti,hij,hj,hdj,K10,hl10⟩
 simp only[List.cons.injEq,AV.int.injEq,true_and,and_true] at hxs
 obtain⟨rfl,rfl⟩:=hxs
 refine zB (λg=> ?_) (λg=> ?_)
 ·replace g:=of_decide_eq_true g
  refine AppJ.idx (E:=entE) A10 (by omega) (by omega) λpp x hx0 hc hpp=>⟨x.1,x.2.1,x.2.2.1,x.2.2.2,hc,?_⟩
  have hx1:cur[j]?=some x:=by simpa using hx0
  have hx':l[j]?=some x:=by
   have e1:(cur.drop j)[0]?=cur[j]?:=by rw[List.getElem?_drop];simp
   have e2:(l.drop j)[0]?=l[j]?:=by rw[List.getElem?_drop];simp
   rw[<-e2,<-hdj,e1,hx1]
  have hxm:=List.mem_of_getElem? hx'
  have hd:cur.drop (j+1)=l.drop (j+1):=by
   have:=congrArg (List.drop 1) hdj
   simpa[List.drop_drop] using this
  refine F x hxm h10 K10 hl10 _ λh11 x11=>⟨_,rfl,?_⟩
  have A11:=A10.ext x11
  have K11:=K10.trans (zH (X:=inq q) x11)
  have l11:=x11.len
  refine zB (λg2=> ?_) (λg2=> ?_)
  ·have g2:del x=false:=by simpa using g2
   refine AppJ.idx (E:=entE) A11 (by omega) (by omega) λpp2 y hy hcy hpp2=> ?_
   refine AppJ.store (E:=entE) (k:=0) (r':=x) (xs:=entE.f x) A11 (i:=i) (r:=y) (by simpa using hy) (by rw[Nat.zero_add,entE.len];exact Nat.le_refl _) (by rw[zCQ (by rw[entE.len,entE.len])]) (λs' hs'=>by rw[hpp2 s' hs'];simp) λh19 A19 K19 hl19=> ?_
   rw[zF (n:=(i:Int)+1) ⟨by omega,by omega⟩,zF (n:=(j:Int)+1) ⟨by omega,by omega⟩]
   refine⟨trivial,⟨i+1,j+1,by simp,cur.set i x,A19,by simp[hcl],?_,by omega,by omega,?_,K11.trans K19,by omega⟩,by simp only;omega⟩
   ·rw[List.take_add_one,List.take_set_of_le (Nat.le_refl _),hti,List.getElem?_set_self (by omega),List.take_add_one,hx',List.filter_append]
    simp[g2]
   ·rw[List.drop_set_of_lt (by omega),hd]
  ·have g2:del x=true:=by simpa using g2
   rw[zF (n:=(j:Int)+1) ⟨by omega,by omega⟩]
   refine⟨trivial,⟨i,j+1,by simp,cur,A11,hcl,?_,by omega,by omega,hd,K11,by omega⟩,by simp only;omega⟩
   rw[hti,List.take_add_one,hx',List.filter_append]
   simp[g2]
 ·replace g:=of_decide_eq_false g
  have hje:j=l.length:=by omega
  subst hje
  rw[List.take_length] at hti
  have hil:i<=cur.length:=by omega
  refine AppJ.clear (E:=entE) A10 (n:=i) hil rfl (z:=(0,0,0,0)) (K:=λh22=>zW 4 q 0 (some (i:Int)) none λq23=>Q (.sl q23) h22) λh22 A22 K22 hl22=> ?_
  refine AppJ.cut (E:=entE) A22 (n:=i) (by simp;omega) λq23 A23 b23=> ?_
  have e:(cur.take i++List.replicate (cur.length-i) ((0,0,0,0):Ent)).take i=cur.take i:=by
   rw[List.take_append_of_le_length (by rw[List.length_take];omega),List.take_take,Nat.min_self]
  rw[e,hti] at A23
  exact hQ q23 h22 A23 (K10.trans K22) (by omega) b23)
end
end Go.Proofs.YtafmabnolelknaaGreatDoor
namespace Go.Proofs.YtafmabnolelknaaGreatDoor
open Go.Ab
open Go.Ent Go.Seg
open Go.Pool hiding Bs Ents zT
set_option linter.unusedVariables false
set_option linter.unusedSimpArgs false
theorem zM4 {r:RF}{n:Nat}:rfE.f {r with held:=n}=splice (rfE.f r) 3 [.int .i64 (n:Nat)]:=rfl
theorem zTE {r:RF}{b:Bool}:rfE.f {r with mark:=b}=splice (rfE.f r) 4 [.bool b]:=rfl
theorem zLF {α:Type}{l:List α}{k:Nat}{a:α}(hk:k<l.length):(l.set k a)[k]?=some a:=by
 rw[List.getElem?_set_self hk]
theorem zL4 {h:Heap}{fb k:Nat}{rs:List RF}{r r':RF}(hb:h[fb]?=some (.cells (rfE.all rs) true))(hr:rs[k]?=some r){j:Nat}{xs:List AV}(hj:j+xs.length<=6)(hr':rfE.f r'=splice (rfE.f r) j xs){K:Heap->Prop}(hK:K (h.set fb (.cells (rfE.all (rs.set k r')) true))):vPtr (some ⟨fb,k*6⟩) λq=>zL h ⟨q.b,q.o+j⟩ xs K:=zNK hb hr hj hr' hK
theorem zTI {h:Heap}{p fb mb n hand hits reads losses x:Nat}(hb:h[p]?=some (zAU fb mb n hand hits reads losses)){K:Heap->Prop}(hK:K (h.set p (zAU fb mb n hand x reads losses))):vPtr (some ⟨p,0⟩) λq=>zL h ⟨q.b,q.o+3⟩ [.int .i64 (x:Nat)] K:=zB0 (j:=3) hb (by omega) hK
theorem zQN {h:Heap}{p fb mb n hand hits reads losses x:Nat}(hb:h[p]?=some (zAU fb mb n hand hits reads losses)){K:Heap->Prop}(hK:K (h.set p (zAU fb mb n hand hits x losses))):vPtr (some ⟨p,0⟩) λq=>zL h ⟨q.b,q.o+4⟩ [.int .i64 (x:Nat)] K:=zB0 (j:=4) hb (by omega) hK
theorem zOG {h:Heap}{p fb mb n hand hits reads losses x:Nat}(hb:h[p]?=some (zAU fb mb n hand hits reads losses)){K:Heap->Prop}(hK:K (h.set p (zAU fb mb n hand hits reads x))):vPtr (some ⟨p,0⟩) λq=>zL h ⟨q.b,q.o+5⟩ [.int .i64 (x:Nat)] K:=zB0 (j:=5) hb (by omega) hK
section
variable{z:Nat->Prop}{h h':Heap}{Q:AHp}{p fb mb:Nat}{rs:List RF}{es:List (AV×AV×Nat)}{cl:Nat}{P:PS}
theorem relF_up {r:RF}{f:Pool.Fr}(R:RelF (entZ z) h p fb mb r f){n:Nat}{b:Bool}:RelF (entZ z) h p fb mb {r with held:=n,mark:=b} {f with held:=n,mark:=b}:=⟨R.name,R.i,rfl,rfl,R.is,R.l,R.sep⟩
theorem k146 {k N:Nat}{f:Pool.Fr}(C:PC z h p fb mb rs es cl P)(hf:P.fr[k]?=some f)(hN:P.lt N)(hs:N<=1000000000)(hl:f.l.length<=1000000)
  (hQ:∀q' h' rs',PC z h' p fb mb rs' es cl {P with fr:=P.fr.set k {f with held:=f.held+1,mark:=true},hits:=P.hits+1}->zI (pbl p fb mb) h h'->h.length<=h'.length->HasL entE h' q' f.l->(∀t,q'=some t->h.length<=t.b)->Q (.sl q') h'):
  AC Tryz.prog 346 [.ptr (some ⟨p,0⟩),.ptr (some ⟨fb,k*6⟩)] h Q:=ac346 (by
 unfold vc346
 obtain⟨r,hr,R⟩:=zG2 C hf
 have hk:=(List.getElem?_eq_some_iff.1 hf).1
 have hkr:=(List.getElem?_eq_some_iff.1 hr).1
 have hh:=hN.held f (List.mem_of_getElem? hf)
 have hhit:=hN.hits
 refine⟨_,zCE C.fbk hr (j:=3) rfl,?_⟩
 have e1:zC .i64 (((r.held:Nat):Int)+1)=((f.held+1:Nat):Int):=by rw[R.held,zF ⟨by omega,by omega⟩];omega
 rw[e1]
 have hfl:=zD C.fbk
 refine zL4 (r':={r with held:=f.held+1}) C.fbk hr (by simp) zM4 ?_
 have b6:(h.set fb (.cells (rfE.all (rs.set k {r with held:=f.held+1})) true))[fb]?=some (.cells (rfE.all (rs.set k {r with held:=f.held+1})) true):=List.getElem?_set_self hfl
 refine zL4 (r:={r with held:=f.held+1}) (r':={r with held:=f.held+1,mark:=true}) b6 (zLF hkr) (by simp) rfl ?_
 rw[List.set_set,List.set_set]
 have C8:=C.setF (r':={r with held:=f.held+1,mark:=true}) (f':={f with held:=f.held+1,mark:=true}) hf (relF_up R) rfl rfl rfl
 have K8:zI (pbl p fb mb) h (h.set fb (.cells (rfE.all (rs.set k {r with held:=f.held+1,mark:=true})) true)):=zO (.inr (.inl rfl))
 have l8:(h.set fb (.cells (rfE.all (rs.set k {r with held:=f.held+1,mark:=true})) true)).length=h.length:=List.length_set
 generalize h.set fb (.cells (rfE.all (rs.set k {r with held:=f.held+1,mark:=true})) true)=h8 at*
 refine⟨_,C8.at (k:=3) rfl,?_⟩
 have e2:zC .i64 (((P.hits:Nat):Int)+1)=((P.hits+1:Nat):Int):=by rw[zF ⟨by omega,by omega⟩];omega
 simp only at e2 ⊢
 rw[e2]
 refine zTI C8.pb ?_
 have C12:=C8.setP (P':={P with fr:=P.fr.set k {f with held:=f.held+1,mark:=true},hits:=P.hits+1}) rfl C8.ok.hand
 have K12:zI (pbl p fb mb) h8 (h8.set p (zAU fb mb (P.fr.set k {f with held:=f.held+1,mark:=true}).length P.hand (P.hits+1) P.reads P.losses)):=zO (.inl rfl)
 have l12:(h8.set p (zAU fb mb (P.fr.set k {f with held:=f.held+1,mark:=true}).length P.hand (P.hits+1) P.reads P.losses)).length=h8.length:=List.length_set
 generalize h8.set p (zAU fb mb (P.fr.set k {f with held:=f.held+1,mark:=true}).length P.hand (P.hits+1) P.reads P.losses)=h12 at*
 have hr12:(rs.set k {r with held:=f.held+1,mark:=true})[k]?=some {r with held:=f.held+1,mark:=true}:=zLF hkr
 refine⟨r.q,zCE C12.fbk hr12 (j:=2) rfl,?_⟩
 have R12:=C12.rel k _ _ hr12 (zLF hk)
 refine k131 R12.l hl λq' h16 N16=>⟨q',rfl,?_⟩
 exact hQ q' h16 _ (C12.keeps (X:=λ_=>False) (zH N16.1) (λ_ _ h=>h)) ((K8.trans K12).trans (zH N16.1)) (by have:=N16.1.len;omega) N16.hasL (λt ht=>by have:=N16.2.2 t ht;omega))
theorem k282 {N:Nat}{s:Bs}{i:Int}(C:PC z h p fb mb rs es cl P)(hN:P.lt N)(hs:N<=1000000000)
  (hQ:∀h' rs',PC z h' p fb mb rs' es cl (P.free s i).2->zI (pbl p fb mb) h h'->h'.length=h.length->Q (.int .i64 (P.free s i).1) h'):AC Tryz.prog 282 [.ptr (some ⟨p,0⟩),.str s,.int .i64 i] h Q:=ac282 (by
 unfold vc282
 unfold PS.free at hQ
 refine k171 C ⟨_,rfl,zB (λg=>by simp at g) (λ_=> ?_)⟩
 refine k345 C (λhn=>⟨_,rfl,zB (λ_=> ?_) (λg=>by simp at g)⟩) λk hk=>⟨_,rfl,zB (λg=>by simp at g) (λ_=> ?_)⟩
 ·rw[hn] at hQ;exact hQ h rs C (.refl _ _) rfl
 rw[hk] at hQ
 obtain⟨f,hf,_⟩:=zLR hk
 simp only[hf] at hQ
 obtain⟨r,hr,R⟩:=zG2 C hf
 have hh:=hN.held f (List.mem_of_getElem? hf)
 refine⟨_,zCE C.fbk hr (j:=3) rfl,?_⟩
 rw[R.held]
 refine zB (λg=> ?_) (λg=> ?_)
 ·have g:f.held=0:=by simpa using g
  rw[if_pos g] at hQ
  exact hQ h rs C (.refl _ _) rfl
 ·have g:f.held≠0:=by simpa using g
  rw[if_neg g] at hQ
  refine⟨_,zCE C.fbk hr (j:=3) rfl,?_⟩
  have e1:zC .i64 (((r.held:Nat):Int) - 1)=((f.held-1:Nat):Int):=by rw[R.held,zF ⟨by omega,by omega⟩];omega
  rw[e1]
  refine zL4 (r':={r with held:=f.held-1}) C.fbk hr (by simp) zM4 ?_
  exact hQ _ _ (C.setF (f':={f with held:=f.held-1}) hf ⟨R.name,R.i,rfl,R.mark,R.is,R.l,R.sep⟩ rfl rfl rfl) (zO (.inr (.inl rfl))) List.length_set)
theorem k64 {n:Nat}(hn:n<=1024)(hQ:∀h',PC z h' (h.length+2) h.length (h.length+1) (List.replicate n ⟨[],0,none,0,false,false⟩) [] 0 (newP n)->Ext h h'->Q (.tup [.ptr (some ⟨h.length+2,0⟩),.int .i64 0]) h'):AC Tryz.prog 64 [.int .i64 (n:Nat)] h Q:=ac64 (by
 unfold vc64 zML PNew
 refine zB (λg=>by have:=of_decide_eq_true g;omega) (λ_=>zB (λg=>by have:=of_decide_eq_true g;omega) (λ_=> ?_))
 refine⟨by omega,by omega,by omega,by simp only[maxI];omega,?_⟩
 simp only[Int.toNat_natCast,List.length_append,List.length_cons,List.length_nil]
 have hrep:(List.replicate n [AV.str [],.int .i64 0,.sl none,.int .i64 0,.bool false,.bool false]).flatten=rfE.all (List.replicate n ⟨[],0,none,0,false,false⟩):=by
  unfold Enc.all;rw[List.map_replicate];rfl
 rw[hrep]
 have x:Ext h (((h++[Blk.cells (rfE.all (List.replicate n ⟨[],0,none,0,false,false⟩)) true])++[Blk.mp [] 0])++[Blk.cells [.sl (some ⟨h.length,0,n,n,0⟩),.map (some (h.length+(0+1))),.int .i64 0,.int .i64 0,.int .i64 0,.int .i64 0] true]):=((Ext.app _ _).trans (.app _ _)).trans (.app _ _)
 refine hQ _ ⟨?_,?_,?_,?_,?_,by simp,?_,by simp,⟨?_,.inr rfl,by simp[newP];omega⟩,by omega⟩ x
 ·simp[newP]
 ·simp
 ·simp
 ·simp[newP]
 ·intro k r f hr hf
  simp only[newP,List.getElem?_replicate] at hr hf
  by_cases hk:k<n
  ·rw[if_pos hk] at hr hf
   cases hr;cases hf
   exact⟨rfl,rfl,rfl,rfl,rfl,rfl,λs hs=>by cases hs⟩
  ·rw[if_neg hk] at hr;cases hr
 ·intro k f hf hi
  simp only[newP,List.getElem?_replicate] at hf
  split at hf
  ·cases hf;cases hi
  ·cases hf
 ·intro j k f g hf hg hi
  simp only[newP,List.getElem?_replicate] at hf
  split at hf
  ·cases hf;cases hi
  ·cases hf)
end
section
variable{z:Nat->Prop}{h h':Heap}{Q:AHp}{p fb mb:Nat}{rs:List RF}{es:List (AV×AV×Nat)}{cl:Nat}{P:PS}
structure PlJ(z:Nat->Prop)(h10 h:Heap)(p fb mb:Nat)(es:List (AV×AV×Nat))(cl:Nat)(P0:PS)(r0:Nat×List Pool.Fr×Nat)(n:Nat):Prop where
 ex:∃rs P,PC z h p fb mb rs es cl P/\spin n P.fr P.hand=some r0/\P.hand<P.fr.length/\P.fr.length=P0.fr.length/\P.hits=P0.hits/\P.reads=P0.reads/\P.losses=P0.losses
 keep:zI (pbl p fb mb) h10 h
 len:h.length=h10.length
attribute [local irreducible] jP vW in
theorem k347 {N:Nat}(C:PC z h p fb mb rs es cl P)(hN:P.lt N)(hs:N<=1000000000)(h0:P.place=none->Q (.tup [.int .i64 0,.bool false]) h)
  (h1:∀k P' rs' es' h',P.place=some (k,P')->PD2 z h' p fb mb k rs' es' cl P'->zI (pbl p fb mb) h h'->h'.length=h.length->Q (.tup [.int .i64 (k:Nat),.bool true]) h'):
  AC Tryz.prog 347 [.ptr (some ⟨p,0⟩)] h Q:=ac347 (by
 unfold vc347
 have few:=C.ok.few
 refine⟨_,C.at (k:=0) rfl,?_⟩
 refine k393 C (λhn=>⟨_,rfl,zB (λg=>by simp at g) (λ_=> ?_)⟩) λk hk=>⟨_,rfl,zB (λ_=> ?_) (λg=>by have:=of_decide_eq_false g;omega)⟩
 rotate_left
 ·rw[List.findIdx?_eq_some_iff_getElem] at hk
  obtain⟨hl,hi,_⟩:=hk
  refine h1 k P rs es h ?_ (C.empty (List.getElem?_eq_getElem hl) (by simpa using hi)) (.refl _ _) rfl
  unfold PS.place
  rw[List.findIdx?_eq_some_iff_getElem.2 ⟨hl,hi,by assumption⟩]
 have hfull:∀f∈P.fr,f.is=true:=λf hf=>by simpa using(List.findIdx?_eq_none_iff.1 hn) f hf
 refine⟨_,C.at (k:=0) rfl,?_⟩
 refine k38 C ⟨_,rfl,⟨_,C.at (k:=0) rfl,rfl⟩,?_⟩
 refine zB (λg=>h0 ?_) (λg=> ?_)
 ·have g:P.held=P.fr.length:=by have:((P.held:Nat):Int)=((P.fr.length:Nat):Int):=(by simpa[zJ] using g);omega
  unfold PS.place
  rw[hn];simp only;rw[if_pos g]
 have g:P.held≠P.fr.length:=λhc=>by rw[hc] at g;simp[zJ] at g
 have hun:∃f∈P.fr,f.held=0:=by
  apply Classical.byContradiction
  intro hc
  apply g
  unfold PS.held
  rw[List.countP_eq_length]
  intro f hf
  simp only[decide_eq_true_eq]
  apply Classical.byContradiction
  intro h2
  exact hc ⟨f,hf,by omega⟩
 have hne:0<P.fr.length:=by
  obtain⟨f,hf,_⟩:=hun
  exact List.length_pos_of_mem hf
 have hhand:P.hand<P.fr.length:=by rcases C.ok.hand with h2|h2<;>omega
 obtain⟨⟨k0,fr0,hand0⟩,hsp⟩:=zJF hhand hun
 have hpl:P.place=some (k0,{P with fr:=fr0,hand:=hand0,losses:=P.losses+1}):=by
  unfold PS.place
  rw[hn];simp only;rw[if_neg g,hsp]
 have J0:PlJ z h h p fb mb es cl P (k0,fr0,hand0) (2*P.fr.length+1):=⟨⟨rs,P,C,hsp,hhand,rfl,rfl,rfl,rfl⟩,.refl _ _,rfl⟩
 refine⟨λxs h14=>xs=[]/\∃n,PlJ z h h14 p fb mb es cl P (k0,fr0,hand0) n,λ_ h14=>least λn=>PlJ z h h14 p fb mb es cl P (k0,fr0,hand0) n,⟨rfl,_,J0⟩,?_⟩
 rintro h14 ⟨_,hex⟩
 have J:=zTX hex
 generalize hm:least (λn=>PlJ z h h14 p fb mb es cl P (k0,fr0,hand0) n)=n at*
 obtain⟨⟨rs1,P1,C1,hs1,hh1,hl1,e1,e2,e3⟩,K1,l1⟩:=J
 cases n with
 |zero=>simp[spin] at hs1
 |succ n=>
  have hf:P1.fr[P1.hand]?=some P1.fr[P1.hand]:=List.getElem?_eq_getElem hh1
  generalize P1.fr[P1.hand]=f at hf
  have hs2:=hs1
  simp only[spin,hf] at hs1
  refine k221 C1 hh1 λh16 C16 K16 l16=>⟨_,rfl,?_⟩
  have hhn:(P1.hand+1)%P1.fr.length<P1.fr.length:=Nat.mod_lt _ (by omega)
  obtain⟨r,hr,R⟩:=zG2 (P:={P1 with hand:=(P1.hand+1)%P1.fr.length}) C16 hf
  refine⟨_,C16.at (k:=0) rfl,fidx rfl hh1 ?_⟩
  refine⟨_,zCE C16.fbk hr (j:=3) rfl,?_⟩
  rw[R.held]
  refine zB (λgh=> ?_) (λgh=> ?_)
  ·have gh:0<f.held:=by have:=of_decide_eq_true gh;omega
   rw[if_pos gh] at hs1
   have J16:PlJ z h h16 p fb mb es cl P (k0,fr0,hand0) n:=⟨⟨rs1,_,C16,hs1,hhn,hl1,e1,e2,e3⟩,K1.trans K16,by omega⟩
   refine⟨trivial,⟨rfl,n,J16⟩,?_⟩
   have:=zNE (p:=λn=>PlJ z h h16 p fb mb es cl P (k0,fr0,hand0) n) J16
   show Pool.least _<Pool.least _
   rw[hm]
   omega
  ·have gh:f.held=0:=by have:=of_decide_eq_false gh;omega
   rw[if_neg (by omega)] at hs1
   refine⟨_,zCE C16.fbk hr (j:=4) rfl,?_⟩
   rw[R.mark]
   refine zB (λgm=> ?_) (λgm=> ?_)
   ·rw[if_pos gm] at hs1
    refine zNK (r':={r with mark:=false}) C16.fbk hr (by simp) zTE ?_
    have C23:=C16.setF (r':={r with mark:=false}) (f':={f with mark:=false}) hf ⟨R.name,R.i,R.held,rfl,R.is,R.l,R.sep⟩ rfl rfl rfl
    have K23:zI (pbl p fb mb) h16 (h16.set fb (.cells (rfE.all (rs1.set P1.hand {r with mark:=false})) true)):=zO (.inr (.inl rfl))
    have l23:(h16.set fb (.cells (rfE.all (rs1.set P1.hand {r with mark:=false})) true)).length=h16.length:=List.length_set
    generalize h16.set fb (.cells (rfE.all (rs1.set P1.hand {r with mark:=false})) true)=h23 at*
    have J23:PlJ z h h23 p fb mb es cl P (k0,fr0,hand0) n:=⟨⟨_,_,C23,hs1,by simp only[List.length_set];exact hhn,by simp only[List.length_set];exact hl1,e1,e2,e3⟩,(K1.trans K16).trans K23,by omega⟩
    refine⟨trivial,⟨rfl,n,J23⟩,?_⟩
    have:=zNE (p:=λn=>PlJ z h h23 p fb mb es cl P (k0,fr0,hand0) n) J23
    show Pool.least _<Pool.least _
    rw[hm]
    omega
   ·rw[if_neg (by simp[gm])] at hs1
    simp only[Option.some.injEq,Prod.mk.injEq] at hs1
    obtain⟨rfl,rfl,rfl⟩:=hs1
    have hfm:=List.mem_of_getElem? hf
    refine⟨_,C16.at (k:=1) rfl,_,_,zT6 C16.fbk hr (j:=0) (m:=2) (by omega),?_⟩
    have hfi:f.is=true:=by
     have hc:=(zFV hsp hhand).1
     have:(P1.fr.map core)[P1.hand]?=(P.fr.map core)[P1.hand]?:=by rw[hc]
     rw[List.getElem?_map,hf,List.getElem?_map] at this
     cases hg:P.fr[P1.hand]? with
     |none=>rw[hg] at this;cases this
     |some f2=>
      rw[hg] at this
      simp only[Option.map_some,Option.some.injEq,core,Prod.mk.injEq] at this
      rw[this.2.2.2.2];exact hfull f2 (List.mem_of_getElem? hg)
    rw[R.name,R.i]
    show vY Tryz.prog 180 (some mb) (.agg [.str f.name,.int .i64 f.i]) h16 _
    unfold vY
    simp only[C16.mbk]
    have hko:=zHV f.name f.i
    simp only[hko,need]
    have hat:PS.at {P1 with hand:=(P1.hand+1)%P1.fr.length} f.name f.i=some P1.hand:=zEN C16.ok hf hfi rfl rfl
    refine C16.find zFE ?_ ?_
    ·intro hn2;rw[hat] at hn2;cases hn2
    intro j k2 n2 hk2 hj
    rw[hat] at hk2;cases hk2
    have D28:=C16.forget hf hj
    have K28:zI (pbl p fb mb) h16 (h16.set mb (.mp (es.eraseIdx j) cl)):=zO (.inr (.inr rfl))
    have l28:(h16.set mb (.mp (es.eraseIdx j) cl)).length=h16.length:=List.length_set
    have hc30:zA (h16.set mb (.mp (es.eraseIdx j) cl)) ⟨p,0+3+2⟩ 1=some [.int .i64 (P1.losses:Nat)]:=by
     rw[show 0+3+2=0+5 from rfl,xQ D28.pb (by simp)];rfl
    refine⟨_,hc30,?_⟩
    have hls:=hN.losses
    have e5:zC .i64 (((P1.losses:Nat):Int)+1)=((P1.losses+1:Nat):Int):=by rw[zF ⟨by omega,by omega⟩];omega
    rw[e5]
    refine zOG D28.pb ?_
    have D32:=D28.setP (P':={P with fr:=P1.fr,hand:=(P1.hand+1)%P1.fr.length,losses:=P.losses+1}) rfl (.inl hhn)
    have:=h1 P1.hand _ _ _ _ hpl (by rw[<-e3,<-e1,<-e2] at D32;simp only[e1,e2,e3] at D32 ⊢;exact D32) (((K1.trans K16).trans K28).trans (zO (.inl rfl))) (by rw[List.length_set];omega)
    simp only[e1,e2,e3] at this ⊢
    exact this)
end
theorem at_core {P P':PS}(hk:P.ok)(hc:P'.fr.map core=P.fr.map core){s:Bs}{n:Int}(h:P.at s n=none):P'.at s n=none:=by
 refine zSO λf hf h1 h2 h3=> ?_
 obtain⟨k,hk1⟩:=List.getElem?_of_mem hf
 have:(P'.fr.map core)[k]?=(P.fr.map core)[k]?:=by rw[hc]
 rw[List.getElem?_map,hk1,List.getElem?_map] at this
 cases hg:P.fr[k]? with
 |none=>rw[hg] at this;cases this
 |some f2=>
  rw[hg] at this
  simp only[Option.map_some,Option.some.injEq,core,Prod.mk.injEq] at this
  exact zSN hk h k f2 hg (by rw[<-this.2.2.2.2];exact h1) (by rw[<-this.1];exact h2) (by rw[<-this.2.1];exact h3)
section
variable{z:Nat->Prop}{h h':Heap}{Q:AHp}{p fb mb:Nat}{rs:List RF}{es:List (AV×AV×Nat)}{cl:Nat}{P:PS}
attribute [local irreducible] jP vW in
set_option maxHeartbeats 1000000 in
theorem k281 {N dp sp base count:Nat}{q0:OSl}{s:Bs}{n:Int}{r:Int×List Ent}(C:PC z h p fb mb rs es cl P)(hN:P.lt N)(hs:N<=1000000000)(hfl:∀f∈P.fr,f.l.length<=1000000)(hrl:r.2.length<=1000000)(hz:∀b,z b->b<h.length)
  (hsp:h[sp]?=some (segC dp s base count q0))(hne:¬pbl p fb mb sp)
  (page:∀{h':Heap} {K:AHp},Ext h h'->(r.1≠0->∀h2,Ext h' h2->K (.tup [.sl none,.int .i64 r.1]) h2)->(r.1=0->∀q h2,Ext h' h2->HasL entE h2 q r.2->(∀t,q=some t->h'.length<=t.b)->K (.tup [.sl q,.int .i64 0]) h2)->AC Tryz.prog 228 [.ptr (some ⟨sp,0⟩),.int .i64 n] h' K)
  (hQ:∀q' h',zE8 (entZ z) h' p fb mb (P.hold s n r).2.2->zI (pbl p fb mb) h h'->h.length<=h'.length->((P.hold s n r).1=0->HasL entE h' q' (P.hold s n r).2.1/\∀t,q'=some t->h.length<=t.b)->((P.hold s n r).1≠0->q'=none)->Q (.tup [.sl q',.int .i64 (P.hold s n r).1]) h'):
  AC Tryz.prog 281 [.ptr (some ⟨p,0⟩),.ptr (some ⟨sp,0⟩),.int .i64 n] h Q:=ac281 (by
 unfold vc281
 unfold PS.hold at hQ
 have few:=C.ok.few
 refine k171 C ⟨_,rfl,zB (λg=>by simp at g) (λ_=> ?_)⟩
 refine k141 hsp ⟨_,rfl,?_⟩
 refine k345 C (λhn=>⟨_,rfl,zB (λg=>by simp at g) (λ_=> ?_)⟩) λk hk=>⟨_,rfl,zB (λ_=>zB (λ_=> ?_) (λg=>by simp at g)) (λg=>by simp at g)⟩
 rotate_left
 ·
  rw[hk] at hQ
  obtain⟨f,hf,_⟩:=zLR hk
  simp only[hf,up] at hQ
  refine k146 C hf hN hs (hfl f (List.mem_of_getElem? hf)) λq' h14 rs' C' K' l' H' f'=>⟨q',rfl,?_⟩
  exact hQ q' h14 ⟨rs',es,cl,C'⟩ K' l' (λ_=>⟨H',f'⟩) (λhc=>absurd rfl hc)
 rw[hn] at hQ
 simp only at hQ
 refine page (.refl _) (λhe h43 x43=>⟨_,_,rfl,zB (λ_=> ?_) (λg=>absurd (by simpa using g) he)⟩) λhe q44 h43 x43 H44 f44=>⟨_,_,rfl,zB (λg=>by simp at g) (λ_=> ?_)⟩
 ·rw[if_pos he] at hQ
  exact hQ none h43 (zE8.ext (E:=entZ z) ⟨rs,es,cl,C⟩ x43) (zH x43) x43.len (λhc=>absurd hc he) (λ_=>rfl)
 rw[if_neg (by simp[he])] at hQ
 have C43:=C.keeps (X:=λ_=>False) (zH x43) (λ_ _ h=>h)
 refine k347 C43 hN hs (λhp=>⟨_,_,rfl,zB (λ_=> ?_) (λg=>by simp at g)⟩) λk P' rs' es' h47 hp D47 K47 l47=>⟨_,_,rfl,zB (λg=>by simp at g) (λ_=> ?_)⟩
 ·rw[hp] at hQ
  exact hQ none h43 ⟨rs,es,cl,C43⟩ (zH x43) x43.len (λhc=>absurd hc (by simp)) (λ_=>rfl)
 rw[hp] at hQ
 simp only at hQ
 obtain⟨hcore,ph,pr,pl⟩:=zG3 hp C.ok.hand
 have hat:=at_core C.ok hcore hn
 have lpb:=zD C.pb
 have lfb:=zD C.fbk
 have lmb:=zD C.mbk
 have x43l:=x43.len
 have hsp47:h47[sp]?=some (segC dp s base count q0):=K47 _ _ hne (x43 _ _ hsp)
 refine k141 hsp47 ⟨_,rfl,?_⟩
 have fr44:∀t,q44=some t->¬pbl p fb mb t.b:=λt ht hc=>by
  have:=f44 t ht
  rcases hc with hc|hc|hc<;>omega
 have H47:HasL entE h47 q44 r.2:=K47.hasL (λt ht=>fr44 t ht) H44
 obtain⟨r0,hr0⟩:∃r0,rs'[k]?=some r0:=⟨_,List.getElem?_eq_getElem (by rw[D47.rl];exact D47.k0)⟩
 have c0:zA h47 ⟨p,0+0⟩ 1=some [.sl (some ⟨fb,0,P'.fr.length,P'.fr.length,0⟩)]:=by rw[xQ D47.pb (by simp)];rfl
 refine⟨_,c0,fidx rfl D47.k0 ?_⟩
 refine zNK (j:=0) (r':=⟨s,n,q44,1,true,true⟩) D47.fbk hr0 (by simp) rfl ?_
 have R':RelF (entZ z) h47 p fb mb ⟨s,n,q44,1,true,true⟩ ⟨s,n,r.2,1,true,true⟩:=⟨rfl,rfl,rfl,rfl,rfl,H47,λt ht=>⟨λhc=>fr44 t ht (.inl hc),λhc=>fr44 t ht (.inr (.inl hc)),λhc=>fr44 t ht (.inr (.inr hc)),λhc=>by have:=f44 t ht;have:=hz _ hc;omega⟩⟩
 have C59:=D47.take R' rfl λj g hj hg hi hn1 hn2=>zSN D47.ok hat j g hg hi hn1 hn2
 have b56p:(h47.set fb (.cells (rfE.all (rs'.set k ⟨s,n,q44,1,true,true⟩)) true))[p]?=some (zAU fb mb P'.fr.length P'.hand P'.hits P'.reads P'.losses):=by
  rw[List.getElem?_set,if_neg (λhc=>D47.ne.1 hc.symm)];exact D47.pb
 have b56m:(h47.set fb (.cells (rfE.all (rs'.set k ⟨s,n,q44,1,true,true⟩)) true))[mb]?=some (.mp es' cl):=by
  rw[List.getElem?_set,if_neg D47.ne.2.2];exact D47.mbk
 have K59:zI (pbl p fb mb) h47 ((h47.set fb (.cells (rfE.all (rs'.set k ⟨s,n,q44,1,true,true⟩)) true)).set mb (.mp (es'++[(kN s n,.int .i64 (k:Nat),cl)]) (cl+1))):=
  zI.trans (b:=h47.set fb (.cells (rfE.all (rs'.set k ⟨s,n,q44,1,true,true⟩)) true)) (zO (.inr (.inl rfl))) (zO (.inr (.inr rfl)))
 have l59:((h47.set fb (.cells (rfE.all (rs'.set k ⟨s,n,q44,1,true,true⟩)) true)).set mb (.mp (es'++[(kN s n,.int .i64 (k:Nat),cl)]) (cl+1))).length=h47.length:=by rw[List.length_set,List.length_set]
 have c1:zA (h47.set fb (.cells (rfE.all (rs'.set k ⟨s,n,q44,1,true,true⟩)) true)) ⟨p,0+1⟩ 1=some [.map (some mb)]:=by rw[xQ b56p (by simp)];rfl
 refine⟨_,c1,?_⟩
 simp only[vMap]
 unfold vX
 simp only[b56m]
 have hko:=zHV s n
 simp only[hko,zLY,Bool.not_false,Bool.and_true,need]
 refine zEL zFE ?_ ?_ ?_
 ·intro e he
  obtain⟨_,f,_,_,_,e1,_⟩:=D47.keys e he
  exact⟨_,_,e1⟩
 rotate_left
 ·intro j v n2 hj
  exfalso
  obtain⟨k2,f,_,hf,hi,e1,_⟩:=D47.keys _ (List.mem_of_getElem? hj)
  simp only[AV.agg.injEq,List.cons.injEq,AV.str.injEq,AV.int.injEq,true_and,and_true] at e1
  exact zSN D47.ok hat k2 f hf hi e1.1.symm e1.2.symm
 intro _
 simp only at C59
 have c4:zA ((h47.set fb (.cells (rfE.all (rs'.set k ⟨s,n,q44,1,true,true⟩)) true)).set mb (.mp (es'++[(kN s n,.int .i64 (k:Nat),cl)]) (cl+1))) ⟨p,0+3+1⟩ 1=some [.int .i64 (P'.reads:Nat)]:=by
  rw[show 0+3+1=0+4 from rfl,xQ C59.pb (by simp)];rfl
 refine⟨_,c4,?_⟩
 have hrd:=hN.reads
 have e6:zC .i64 (((P'.reads:Nat):Int)+1)=((P'.reads+1:Nat):Int):=by rw[pr,zF ⟨by omega,by omega⟩];omega
 rw[e6]
 refine zQN C59.pb ?_
 have C64:=C59.setP (P':=P'.take k s n r.2) rfl C59.ok.hand
 have H59:HasL entE ((h47.set fb (.cells (rfE.all (rs'.set k ⟨s,n,q44,1,true,true⟩)) true)).set mb (.mp (es'++[(kN s n,.int .i64 (k:Nat),cl)]) (cl+1))) q44 r.2:=K59.hasL (λt ht=>fr44 t ht) H47
 generalize(h47.set fb (.cells (rfE.all (rs'.set k ⟨s,n,q44,1,true,true⟩)) true)).set mb (.mp (es'++[(kN s n,.int .i64 (k:Nat),cl)]) (cl+1))=h59 at*
 have K64:zI (pbl p fb mb) h59 (h59.set p (zAU fb mb (P'.fr.set k ⟨s,n,r.2,1,true,true⟩).length P'.hand P'.hits (P'.reads+1) P'.losses)):=zO (.inl rfl)
 have l64:(h59.set p (zAU fb mb (P'.fr.set k ⟨s,n,r.2,1,true,true⟩).length P'.hand P'.hits (P'.reads+1) P'.losses)).length=h59.length:=List.length_set
 refine k131 (K64.hasL (λt ht=>fr44 t ht) H59) hrl λq' h66 N66=>⟨q',rfl,?_⟩
 have n66:h59.length<=h66.length:=by have:=N66.1.len;rw[List.length_set] at this;exact this
 refine hQ q' h66 (zE8.ext (E:=entZ z) ⟨_,_,_,C64⟩ N66.1) ((((zH x43).trans K47).trans K59).trans (K64.trans (zH N66.1))) (by omega) (λ_=>⟨N66.hasL,λt ht=> ?_⟩) (λhc=>absurd rfl hc)
 have h7:=N66.2.2 t ht
 rw[List.length_set] at h7
 omega)
end
def gf(s:Bs)(f:Pool.Fr):Pool.Fr:=if gone s f then Fr.none else f
def zBS(fr:List Pool.Fr)(s:Bs)(i:Nat):List Pool.Fr:=(fr.take i).map (gf s)++fr.drop i
theorem zKT {fr:List Pool.Fr}{s:Bs}{i:Nat}:(zBS fr s i).length=fr.length:=by
 unfold zBS
 rw[List.length_append,List.length_map,List.length_take,List.length_drop];omega
theorem zKU {fr:List Pool.Fr}{s:Bs}{i:Nat}(hi:i<fr.length):(zBS fr s i)[i]?=fr[i]?:=by
 unfold zBS
 have:((fr.take i).map (gf s)).length=i:=by rw[List.length_map,List.length_take];omega
 rw[List.getElem?_append_right (by omega),this,Nat.sub_self,List.getElem?_drop,Nat.add_zero]
theorem zKS {fr:List Pool.Fr}{s:Bs}{i:Nat}{f:Pool.Fr}(hf:fr[i]?=some f):(zBS fr s i).set i (gf s f)=zBS fr s (i+1):=by
 obtain⟨hi,rfl⟩:=List.getElem?_eq_some_iff.1 hf
 unfold zBS
 have hl:((fr.take i).map (gf s)).length=i:=by rw[List.length_map,List.length_take];omega
 rw[List.set_append_right _ _ (by omega),hl,Nat.sub_self,List.drop_eq_getElem_cons hi,List.set_cons_zero,List.take_add_one,hf]
 simp only[Option.toList,List.map_append,List.map_cons,List.map_nil,List.append_assoc,List.cons_append,List.nil_append]
theorem zOW {fr:List Pool.Fr}{s:Bs}{i:Nat}{f:Pool.Fr}(hf:fr[i]?=some f)(hg:gone s f=false):zBS fr s (i+1)=zBS fr s i:=by
 have hi:=(List.getElem?_eq_some_iff.1 hf).1
 rw[<-zKS hf]
 have:gf s f=f:=by unfold gf;rw[hg];rfl
 rw[this]
 apply List.ext_getElem?
 intro j
 rw[List.getElem?_set]
 by_cases hj:i=j
 ·subst hj
  rw[if_pos rfl,if_pos (by rw[zKT];exact hi),zKU hi,hf]
 ·rw[if_neg hj]
theorem zR7 {fr:List Pool.Fr}{s:Bs}:zBS fr s fr.length=fr.map (gf s):=by simp[zBS]
section
variable{z:Nat->Prop}{h h':Heap}{Q:AHp}{p fb mb:Nat}{rs:List RF}{es:List (AV×AV×Nat)}{cl:Nat}{P:PS}
attribute [local irreducible] jP vW in
theorem k140 {s:Bs}(C:PC z h p fb mb rs es cl P)(hQ:∀h',zE8 (entZ z) h' p fb mb (P.drop s).2->zI (pbl p fb mb) h h'->h'.length=h.length->Q (.int .i64 ((P.drop s).1:Nat)) h'):AC Tryz.prog 140 [.ptr (some ⟨p,0⟩),.str s] h Q:=ac140 (by
 unfold vc140
 have few:=C.ok.few
 refine k171 C ⟨_,rfl,zB (λg=>by simp at g) (λ_=>⟨_,C.at (k:=0) rfl,?_⟩)⟩
 refine⟨λxs h12=>∃i:Nat,xs=[.int .i64 ((P.fr.take i).countP (gone s):Nat),.int .i64 (i:Nat)]/\i<=P.fr.length/\zE8 (entZ z) h12 p fb mb {P with fr:=zBS P.fr s i}/\zI (pbl p fb mb) h h12/\h12.length=h.length,
  λxs _=>match xs with | [_,.int _ i]=>(P.fr.length-i).toNat|_=>0,⟨0,rfl,by omega,⟨rs,es,cl,by simpa[zBS] using C⟩,.refl _ _,rfl⟩,?_⟩
 rintro n8 n9 h12 ⟨i,hx,hi,⟨rs1,es1,cl1,C1⟩,K1,l1⟩
 simp only[List.cons.injEq,AV.int.injEq,true_and,and_true] at hx
 obtain⟨rfl,rfl⟩:=hx
 have hc:((P.fr.take i).countP (gone s))<=i:=by
  have:=List.countP_le_length (p:=gone s) (l:=P.fr.take i)
  rw[List.length_take] at this;omega
 refine zB (λg=> ?_) (λg=> ?_)
 ·have g:i<P.fr.length:=by have:=of_decide_eq_true g;simp only[zJ] at this;omega
  have hf:P.fr[i]?=some P.fr[i]:=List.getElem?_eq_getElem g
  generalize P.fr[i]=f at hf
  have hf1:(zBS P.fr s i)[i]?=some f:=by rw[zKU g];exact hf
  have hi1:i<(zBS P.fr s i).length:=by rw[zKT];exact g
  obtain⟨r,hr,R⟩:=zG2 C1 hf1
  have ct:=zGB (gone s) hf
  rw[zF (n:=(i:Int)+1) ⟨by omega,by omega⟩]
  have stay:gone s f=false->True/\(∃i':Nat,[AV.int .i64 ((P.fr.take i).countP (gone s):Nat),.int .i64 ((i:Int)+1)]=[.int .i64 ((P.fr.take i').countP (gone s):Nat),.int .i64 (i':Nat)]/\i'<=P.fr.length/\zE8 (entZ z) h12 p fb mb {P with fr:=zBS P.fr s i'}/\zI (pbl p fb mb) h h12/\h12.length=h.length)/\((P.fr.length:Int) - ((i:Int)+1)).toNat<((P.fr.length:Int) - (i:Int)).toNat:=λhg=>by
   rw[hg] at ct
   refine⟨trivial,⟨i+1,by rw[ct];simp,by omega,⟨rs1,es1,cl1,by rw[zOW hf hg];exact C1⟩,K1,l1⟩,by omega⟩
  refine⟨_,C1.at (k:=0) rfl,fidx rfl hi1 ?_⟩
  refine⟨_,zCE C1.fbk hr (j:=5) rfl,?_⟩
  rw[R.is]
  refine zB (λg1=>stay (by unfold gone;simp at g1;rw[g1];rfl)) (λg1=> ?_)
  have g1:f.is=true:=by simpa using g1
  refine⟨_,zCE C1.fbk hr (j:=0) rfl,?_⟩
  rw[R.name]
  refine zB (λg2=>stay (by unfold gone;simp at g2;simp[g2])) (λg2=> ?_)
  have g2:f.name=s:=by simpa using g2
  refine⟨_,zCE C1.fbk hr (j:=3) rfl,?_⟩
  rw[R.held]
  refine zB (λg3=>stay (by have:=of_decide_eq_true g3;unfold gone;simp;omega)) (λg3=> ?_)
  have g3:f.held=0:=by have:=of_decide_eq_false g3;omega
  have hgo:gone s f=true:=by unfold gone;rw[g1,g2,g3];simp
  rw[hgo] at ct
  refine⟨_,C1.at (k:=1) rfl,_,_,zT6 C1.fbk hr (j:=0) (m:=2) (by omega),?_⟩
  rw[R.name,R.i]
  unfold vY
  simp only[C1.mbk]
  have hko:=zHV f.name f.i
  simp only[hko,need]
  have hat:PS.at {P with fr:=zBS P.fr s i} f.name f.i=some i:=zEN C1.ok hf1 g1 rfl rfl
  refine C1.find zFE ?_ ?_
  ·intro hn2;rw[hat] at hn2;cases hn2
  intro j k2 n2 hk2 hj
  rw[hat] at hk2;cases hk2
  obtain⟨e1,e2,e3⟩:=zHH C1 hj
  have hml:=zD C1.mbk
  have hfb2:(h12.set mb (.mp (es1.eraseIdx j) cl1))[fb]?=some (.cells (rfE.all rs1) true):=by
   rw[List.getElem?_set,if_neg (λhc=>C1.ne.2.2 hc.symm)];exact C1.fbk
  have CK:=C1.setK (k:=i) (r':=⟨[],0,none,0,false,false⟩) (f':=Fr.none) hf1 ⟨rfl,rfl,rfl,rfl,rfl,rfl,λs hs=>by cases hs⟩ (es':=es1.eraseIdx j) (cl':=cl1) (B:=.mp (es1.eraseIdx j) cl1) rfl
   (λe he=>.inr ⟨(e1 e he).1,λhc=>(e1 e he).2 hc.2⟩) (λhc=>by cases hc) (λe he hc=>e2 e he (λhc2=>hc ⟨g1,hc2⟩)) e3 (λhc=>by cases hc)
  rw[List.set_comm _ _ C1.ne.2.2] at CK
  refine zNK (j:=0) (r':=⟨[],0,none,0,false,false⟩) hfb2 hr (by simp) rfl ?_
  have e7:zC .i64 ((((P.fr.take i).countP (gone s):Nat):Int)+1)=(((P.fr.take i).countP (gone s)+1:Nat):Int):=by rw[zF ⟨by omega,by omega⟩];omega
  rw[e7]
  refine⟨trivial,⟨i+1,by rw[ct];simp,by omega,⟨rs1.set i ⟨[],0,none,0,false,false⟩,es1.eraseIdx j,cl1,?_⟩,K1.trans (zI.trans (b:=h12.set mb (.mp (es1.eraseIdx j) cl1)) (zO (.inr (.inr rfl))) (zO (.inr (.inl rfl)))),by rw[List.length_set,List.length_set];exact l1⟩,by omega⟩
  have hgf:gf s f=Fr.none:=by unfold gf;rw[hgo];rfl
  have hds:=zKS (s:=s) hf
  rw[hgf] at hds
  rw[<-hds]
  exact CK
 ·have g:¬i<P.fr.length:=by have:=of_decide_eq_false g;simp only[zJ] at this;omega
  have:i=P.fr.length:=by omega
  subst this
  rw[List.take_length] at*
  rw[zR7] at C1
  exact hQ h12 ⟨rs1,es1,cl1,C1⟩ K1 l1)
end
end Go.Proofs.YtafmabnolelknaaGreatDoor

namespace Go.Proofs.YtafmabnolelknaaGreatDoor
open Go.Ab
open Go.Num hiding Bs snoc_ind
open Go.Ent Go.Seg
open Go.Page hiding Bs get
open Go.Dsk hiding Bs
set_option linter.unusedVariables false
set_option linter.unusedSimpArgs false
theorem mid_eq {i j:Nat}(hi:i<=1000000)(hj:j<=1000000):zC .i64 (shrK .u64 (zC .u64 (zC .i64 ((i:Int)+(j:Int)))) 1)=(((i+j)/2:Nat):Int):=by
 rw[zF (n:=(i:Int)+(j:Int)) ⟨by omega,by omega⟩]
 have e1:zC .u64 ((i:Int)+(j:Int))=((i+j:Nat):Int):=by
  rw[zA7 ⟨by omega,by omega⟩];omega
 rw[e1]
 have e2:shrK .u64 ((i+j:Nat):Int) 1=(((i+j)/2:Nat):Int):=by
  unfold shrK
  have e:min ((1:Int).toNat) IntKind.u64.bits=1:=by decide
  rw[e,Int.fdiv_eq_ediv_of_nonneg _ (by decide)]
  omega
 rw[e2,zF ⟨by omega,by omega⟩]
section
variable{h:Heap}{Q:AHp}{dp sp:Nat}{s:Bs}{base count:Nat}{q:OSl}{heads:List Ent}{e:Ent}{a6 a8:Nat}
theorem k280 {i:Nat}{x:Ent}(c6:zA h ⟨a6,0⟩ 1=some [.ptr (some ⟨sp,0⟩)])(c8:zA h ⟨a8,0⟩ 4=some (entE.f e))(hs:h[sp]?=some (segC dp s base count q))(H:HasL entE h q heads)(hx:heads[i]?=some x)
  (hQ:∀h',Ext h h'->Q (.bool (decide (¬ltE x e))) h'):AC Tryz.prog 280 [.int .i64 (i:Nat),.ptr (some ⟨a6,0⟩),.ptr (some ⟨a8,0⟩)] h Q:=ac280 (by
 unfold vc280
 have hil:=(List.getElem?_eq_some_iff.1 hx).1
 refine⟨_,c6,_,zAH hs (k:=4) rfl,?_⟩
 refine idx4 H hx rfl λp hc=>⟨_,_,_,_,hc,_,_,_,_,c8,?_⟩
 refine z133 (a:=x) (b:=e) λh' x'=>⟨_,rfl,?_⟩
 have:=hQ h' x'
 have e1:decide (cmpE x e≥0)=decide (¬ltE x e):=decide_eq_decide.2 ⟨λg hc=>by have:=cmpE_lt.2 hc;omega,λg=>by
  rcases Int.lt_or_le (cmpE x e) 0 with h1|h1
  ·exact absurd (cmpE_lt.1 h1) g
  ·exact h1⟩
 rw[e1];exact this)
theorem k206 (c6:zA h ⟨a6,0⟩ 1=some [.ptr (some ⟨sp,0⟩)])(c8:zA h ⟨a8,0⟩ 4=some (entE.f e))(hs:h[sp]?=some (segC dp s base count q))(H:HasL entE h q heads)(hso:zN heads)(hl:heads.length<=100000)
  (hQ:∀k h',Ext h h'->k<=heads.length->(∀i x,i<k->heads[i]?=some x->ltE x e)->(∀i x,k<=i->heads[i]?=some x->¬ltE x e)->Q (.int .i64 (k:Nat)) h'):
  AC Tryz.prog 206 [.int .i64 (heads.length:Nat),.func (.func 280) [] [.ptr (some ⟨a6,0⟩),.ptr (some ⟨a8,0⟩)]] h Q:=ac206b (by
 unfold vc206b
 refine⟨λxs h8=>∃i j:Nat,xs=[.int .i64 (i:Nat),.int .i64 (j:Nat)]/\i<=j/\j<=heads.length/\Ext h h8/\(∀k x,k<i->heads[k]?=some x->ltE x e)/\(∀k x,j<=k->heads[k]?=some x->¬ltE x e),
  λxs _=>match xs with | [.int _ i,.int _ j]=>(j-i).toNat|_=>0,⟨0,heads.length,rfl,by omega,by omega,.refl _,by omega,λk x hk hx=>by have:=(List.getElem?_eq_some_iff.1 hx).1;omega⟩,?_⟩
 rintro n4 n5 h8 ⟨i,j,hx,hij,hj,x8,hlo,hhi⟩
 simp only[List.cons.injEq,AV.int.injEq,true_and,and_true] at hx
 obtain⟨rfl,rfl⟩:=hx
 refine zB (λg=> ?_) (λg=> ?_)
 ·replace g:=of_decide_eq_true g
  rw[mid_eq (by omega) (by omega)]
  have hm:(i+j)/2<heads.length:=by omega
  have hmx:heads[(i+j)/2]?=some heads[(i+j)/2]:=List.getElem?_eq_getElem hm
  refine k280 (x8.cells c6) (x8.cells c8) (x8 _ _ hs) (H.mono x8) hmx λh10 x10=>⟨_,rfl,?_⟩
  refine zB (λg2=> ?_) (λg2=> ?_)
  ·have g2:ltE heads[(i+j)/2] e:=by simpa using g2
   rw[zF ⟨by omega,by omega⟩]
   exact⟨trivial,⟨(i+j)/2+1,j,by simp,by omega,hj,x8.trans x10,λk x hk hx=>zAK (zAG hso (by omega) hx hmx) g2,hhi⟩,by simp only;omega⟩
  ·have g2:¬ltE heads[(i+j)/2] e:=by simpa using g2
   exact⟨trivial,⟨i,(i+j)/2,by simp,by omega,by omega,x8.trans x10,hlo,λk x hk hx=>λhc=>g2 (zAK (zAG hso hk hmx hx) hc)⟩,by simp only;omega⟩
 ·replace g:=of_decide_eq_false g
  have:i=j:=by omega
  subst this
  exact hQ i h8 x8 hj hlo hhi)
theorem k203 (hs:h[sp]?=some (segC dp s base count q))(H:HasL entE h q heads)(hso:zN heads)(hl:heads.length<=100000)(hQ:∀h',Ext h h'->Q (.int .i64 (jI heads e:Nat)) h'):
  AC Tryz.prog 203 [.ptr (some ⟨sp,0⟩),entV e] h Q:=ac203 (by
 unfold vc203 PNew
 dsimp only
 have x7:Ext h (h++[Blk.cells [.ptr (some ⟨sp,0⟩)] true]):=.app _ _
 have x9:=x7.trans (.app (h++[Blk.cells [.ptr (some ⟨sp,0⟩)] true]) [Blk.cells [.int .i64 e.1,.int .i64 e.2.1,.int .i64 e.2.2.1,.int .i64 e.2.2.2] true])
 generalize hh9:h++[Blk.cells [.ptr (some ⟨sp,0⟩)] true]++[Blk.cells [.int .i64 e.1,.int .i64 e.2.1,.int .i64 e.2.2.1,.int .i64 e.2.2.2] true]=h9 at*
 have b6:h9[h.length]?=some (.cells [.ptr (some ⟨sp,0⟩)] true):=by rw[<-hh9];simp
 have b8:h9[h.length+1]?=some (.cells (entE.f e) true):=by rw[<-hh9];simp[entE]
 have c6:zA h9 ⟨h.length,0⟩ 1=some [.ptr (some ⟨sp,0⟩)]:=by rw[zP (p:=⟨h.length,0⟩) b6 (by simp)];rfl
 have c8:zA h9 ⟨h.length+1,0⟩ 4=some (entE.f e):=by rw[zP (p:=⟨h.length+1,0⟩) b8 (by simp[entE])];rfl
 refine⟨_,c6,?_⟩
 refine k204 (x9 _ _ hs) (H.mono x9) ⟨_,rfl,?_⟩
 rw[show(h++[Blk.cells [.ptr (some ⟨sp,0⟩)] true]).length=h.length+1 by simp]
 refine k206 c6 c8 (x9 _ _ hs) (H.mono x9) hso hl λk h15 x15 hk h1 h2=>⟨_,rfl,?_⟩
 have e1:zEF 0 (zC .i64 ((k:Int) - 1))=((jI heads e:Nat):Int):=by
  rw[zR1 hk h1 h2,zF ⟨by omega,by omega⟩]
  unfold zEF
  split<;>omega
 rw[e1]
 exact hQ _ (x9.trans x15))
end
end Go.Proofs.YtafmabnolelknaaGreatDoor
namespace Go.Proofs.YtafmabnolelknaaGreatDoor
open Go.Ab
open Go.Num hiding Bs snoc_ind
open Go.Ent Go.Seg
open Go.Page hiding Bs get
open Go.Dsk hiding Bs
open Go.Pool hiding Bs Ents zT Fr least
set_option linter.unusedVariables false
set_option linter.unusedSimpArgs false
structure CW(hW:Heap)(dp sp p fb mb:Nat)(s:Bs)(base count:Nat)(q:OSl)(heads:List Ent)(pg:Nat->Int×List Ent):Prop where
 laid:Laid hW
 nl:¬pbl p fb mb 0/\¬pbl p fb mb 1
 np:¬pbl p fb mb sp
 nq:∀t,q=some t->¬pbl p fb mb t.b
 at':hW[sp]?=some (segC dp s base count q)
 hd:HasL entE hW q heads
 few:heads.length<=9000
 so:zN heads
 short:∀i,(pg i).2.length<=10
 page:∀(i:Nat),i<heads.length->∀(h:Heap) (K:AHp),zI (pbl p fb mb) hW h->hW.length<=h.length->((pg i).1≠0->∀h2,Ext h h2->K (.tup [.sl none,.int .i64 (pg i).1]) h2)->((pg i).1=0->∀q h2,Ext h h2->HasL entE h2 q (pg i).2->(∀t,q=some t->h.length<=t.b)->K (.tup [.sl q,.int .i64 0]) h2)->AC Tryz.prog 228 [.ptr (some ⟨sp,0⟩),.int .i64 (i:Nat)] h K
structure CP(z:Nat->Prop)(hW h:Heap)(p fb mb:Nat)(P:PS)(N:Nat):Prop where
 x:zI (pbl p fb mb) hW h
 xl:hW.length<=h.length
 R:zE8 (entZ z) h p fb mb P
 sm:P.sm N
 zl:∀b,z b->b<h.length
 zp:∀b,z b->¬pbl p fb mb b
abbrev curC(p sp i:Nat)(ql:OSl)(at' e:Int):Blk:=.cells [.ptr (some ⟨p,0⟩),.ptr (some ⟨sp,0⟩),.int .i64 (i:Nat),.sl ql,.int .i64 at',.int .i64 e] true
section
variable{z:Nat->Prop}{hW h h':Heap}{Q:AHp}{dp sp base count p fb mb cb i N:Nat}{s:Bs}{q ql:OSl}{heads l:List Ent}{pg:Nat->Int×List Ent}{P P1:PS}{at' e:Int}
theorem yW (hc:h[cb]?=some (curC p sp i ql at' e)){k:Nat}{x:AV}(hx: [AV.ptr (some ⟨p,0⟩),.ptr (some ⟨sp,0⟩),.int .i64 (i:Nat),.sl ql,.int .i64 at',.int .i64 e][k]?=some x):zA h ⟨cb,0+k⟩ 1=some [x]:=by
 have hk:k<6:=by
  have:=(List.getElem?_eq_some_iff.1 hx).1
  simpa using this
 rw[xQ hc (by simp only[List.length_cons,List.length_nil];omega)]
 match k,hk with
 |0,_|1,_|2,_|3,_|4,_|5,_=>cases hx;rfl
theorem CP.seg (C:CP z hW h p fb mb P N)(W:CW hW dp sp p fb mb s base count q heads pg):h[sp]?=some (segC dp s base count q):=C.x _ _ W.np W.at'
theorem CP.hds (C:CP z hW h p fb mb P N)(W:CW hW dp sp p fb mb s base count q heads pg):HasL entE h q heads:=C.x.hasL (λt ht=>W.nq t ht) W.hd
theorem CP.ok (C:CP z hW h p fb mb P N):P.ok:=by
 obtain⟨rs,es,cl,R⟩:=C.R
 exact R.ok
theorem CP.grow (C:CP z hW h p fb mb P N)(x:Ext h h'):CP z hW h' p fb mb P N:=⟨λb B hb hB=>x _ _ (C.x _ _ hb hB),by have:=C.xl;have:=x.len;omega,C.R.ext x,C.sm,λb hb=>by have:=C.zl b hb;have:=x.len;omega,C.zp⟩
theorem CP.other (C:CP z hW h p fb mb P N){X:Nat->Prop}(K:zI X h h')(hX:∀b,X b->z b)(hN:∀b,X b->hW.length<=b)(hl:h.length<=h'.length):CP z hW h' p fb mb P N:=by
 obtain⟨rs,es,cl,R⟩:=C.R
 refine⟨λb B hb hB=>K _ _ (λhc=>by have:=hN b hc;have:=zD hB;omega) (C.x _ _ hb hB),by have:=C.xl;omega,⟨rs,es,cl,?_⟩,C.sm,λb hb=>by have:=C.zl b hb;omega,C.zp⟩
 exact R.keepsZ K hX ⟨λhc=>C.zp _ (hX _ hc) (.inl rfl),λhc=>C.zp _ (hX _ hc) (.inr (.inl rfl)),λhc=>C.zp _ (hX _ hc) (.inr (.inr rfl))⟩
theorem CP.more (C:CP z hW h p fb mb P N){c:Nat}(x:Ext h h')(hc:h.length<=c)(hc':c<h'.length):CP (λb=>z b∨b=c) hW h' p fb mb P N:=by
 obtain⟨rs,es,cl,R⟩:=C.R
 have R1:kE (entZ λb=>z b∨b=c) h p fb mb rs es cl P:=R.more (z:=λb=>z b∨b=c) λb hb=>by
  rcases hb with hb|hb
  ·exact .inl hb
  ·right;omega
 have pl:∀b,pbl p fb mb b->b<h.length:=λb hb=>by
  rcases hb with rfl|rfl|rfl
  ·exact zD R.pb
  ·exact zD R.fbk
  ·exact zD R.mbk
 refine⟨λb B hb hB=>x _ _ (C.x _ _ hb hB),by have:=C.xl;have:=x.len;omega,zE8.ext ⟨_,_,_,R1⟩ x,C.sm,λb hb=> ?_,λb hb hp=> ?_⟩
 ·rcases hb with hb|hb
  ·have:=C.zl b hb;have:=x.len;omega
  ·omega
 ·rcases hb with hb|hb
  ·exact C.zp b hb hp
  ·have:=pl b hp;omega
theorem CP.pool_lt (C:CP z hW h p fb mb P N){b:Nat}(hb:pbl p fb mb b):b<h.length:=by
 obtain⟨rs,es,cl,R⟩:=C.R
 rcases hb with rfl|rfl|rfl
 ·exact zD R.pb
 ·exact zD R.fbk
 ·exact zD R.mbk
theorem CP.hold {r1:Int}{l1:List Ent}(C:CP z hW h p fb mb P N)(W:CW hW dp sp p fb mb s base count q heads pg)(hi:i<heads.length)(hN:N<=1000000)(e1:P.hold s (i:Int) (pg i)=(r1,l1,P1))
  (hQ:∀q' h',CP z hW h' p fb mb P1 (N+1)->zI (pbl p fb mb) h h'->h.length<=h'.length->(r1=0->HasL entE h' q' l1/\∀t,q'=some t->h.length<=t.b)->(r1≠0->q'=none)->Q (.tup [.sl q',.int .i64 r1]) h'):
  AC Tryz.prog 281 [.ptr (some ⟨p,0⟩),.ptr (some ⟨sp,0⟩),.int .i64 (i:Nat)] h Q:=by
 obtain⟨rs,es,cl,R⟩:=C.R
 have hk:=hold_sm C.sm R.ok.hand (s:=s) (i:=(i:Int)) (r:=pg i) (by have:=W.short i;omega)
 refine k281 (s:=s) (base:=base) (count:=count) (q0:=q) (dp:=dp) (r:=pg i) R C.sm.lt (by omega) (λf hf=>by have:=C.sm.l f hf;omega) (by have:=W.short i;omega) C.zl (C.seg W) W.np
  (fun{h2} {K} x hE hK=>W.page i hi h2 K (λb B hb hB=>x _ _ (C.x _ _ hb hB)) (by have:=C.xl;have:=x.len;omega) hE hK) λq' h' R' K' l' a1 a2=> ?_
 rw[e1] at R' a1 a2 hk
 rw[e1]
 exact hQ q' h' ⟨λb B hb hB=>K' _ _ hb (C.x _ _ hb hB),by have:=C.xl;omega,R',hk,λb hb=>by have:=C.zl b hb;omega,C.zp⟩ K' l' a1 a2
theorem CP.free {n r1:Int}(C:CP z hW h p fb mb P N)(hN:N<=1000000)(e1:P.free s n=(r1,P1))
  (hQ:∀h',CP z hW h' p fb mb P1 N->zI (pbl p fb mb) h h'->h'.length=h.length->Q (.int .i64 r1) h'):AC Tryz.prog 282 [.ptr (some ⟨p,0⟩),.str s,.int .i64 n] h Q:=by
 obtain⟨rs,es,cl,R⟩:=C.R
 have hk:=free_sm C.sm (s:=s) (i:=n)
 refine k282 R C.sm.lt (by omega) λh' rs' C' K' l'=> ?_
 rw[e1] at C' hk ⊢
 exact hQ h' ⟨λb B hb hB=>K' _ _ hb (C.x _ _ hb hB),by have:=C.xl;omega,⟨_,_,_,C'⟩,hk,λb hb=>by have:=C.zl b hb;omega,C.zp⟩ K' l'
end
end Go.Proofs.YtafmabnolelknaaGreatDoor
