import Derived.Test.YtafmabnolelknaaGreatDoorDG14
import Derived.Test.YtafmabnolelknaaGreatDoorDG21
import Derived.Test.YtafmabnolelknaaGreatDoorDG23
import Derived.Test.YtafmabnolelknaaGreatDoorDG24
import Derived.Test.YtafmabnolelknaaGreatDoorDG25
import Derived.Test.YtafmabnolelknaaGreatDoorDG26
import Derived.Test.YtafmabnolelknaaGreatDoorDG27
namespace Go.Proofs.YtafmabnolelknaaGreatDoor
open Go.Ab
open Go.Ent Go.Sto
set_option linter.unusedVariables false
set_option linter.unusedSimpArgs false
open Go.Sort Go.Proofs in
theorem sortX (l:List Ent):(l.mergeSort λx y=> !(ltOf cmpX) y x)=yA l:=by
 unfold yA
 congr 1
 funext a b
 rw[Tryz.ltX]
 unfold leEb leE
 by_cases h:ltE b a<;>simp[h]
theorem zTA:zSY Tryz.prog 132 (.func (.func 133) #[] #[]) Go.Proofs.encX 4 yA:=by
 refine⟨λblk off cap d w hH hblk hsz=> ?_,λp cap w=>Tryz.sortFunc132_none p cap w⟩
 have:=Tryz.sortFunc132 blk off cap d w hH hblk hsz
 rw[sortX] at this
 exact this
structure OS(O:Nat->Prop)(h:Heap)(O':Nat->Prop)(h':Heap):Prop where
 k:zI O h h'
 l:h.length<=h'.length
 a:∀b,O b->O' b
 n:∀b,O' b->O b∨h.length<=b
theorem OS.trans {O O1 O2:Nat->Prop}{h h1 h2:Heap}(a:OS O h O1 h1)(b:OS O1 h1 O2 h2):OS O h O2 h2 where
 k:=λc B hc hB=>by
  have h1:=a.k c B hc hB
  refine b.k c B (λhc1=> ?_) h1
  rcases a.n c hc1 with h3|h3
  ·exact hc h3
  ·have:=zD hB;omega
 l:=Nat.le_trans a.l b.l
 a:=λc hc=>b.a c (a.a c hc)
 n:=λc hc=>by
  rcases b.n c hc with h|h
  ·exact a.n c h
  ·exact .inr (Nat.le_trans a.l h)
theorem OS.ext {O:Nat->Prop}{h h':Heap}(x:Ext h h'):OS O h O h':=⟨zH x,x.len,λ_ h=>h,λ_ h=>.inl h⟩
section
variable{h h':Heap}{Q:AHp}{q:OSl}{l:List Ent}{f:List Mom}{m m':Mom}{a rb lim:Nat}{O:Nat->Prop}
theorem gk132 (A:AppJ entE h q l)(hl:l.length<4611686018427387904)
  (hQ:∀h',AppJ entE h' q (yA l)->zI (inq q) h h'->h'.length=h.length->Q (.tup []) h'):AC Tryz.prog 132 [.sl q,.func (.func 133) [] []] h Q:=by
 refine sort_ac (E:=entE) (by kernel_rfl) zTA (fun μ v hv=> ?_) (λ_=>rfl) (λa μ t x y hx hr=> ?_) (λa μ t x y hx hy=> ?_) (λl=>(zS l).length_eq) A hl hQ
 ·obtain⟨f',c',rfl,h1,h2⟩:=hv
  have e1:f'= #[]:=by apply Array.ext';exact h1
  have e2:c'= #[]:=by apply Array.ext';exact h2
  rw[e1,e2]
 ·match t,hx with
  |0,hx=>cases hx;have hr:y= .int .i64 a.1:=hr;subst hr;rfl
  |1,hx=>cases hx;have hr:y= .int .i64 a.2.1:=hr;subst hr;rfl
  |2,hx=>cases hx;have hr:y= .int .i64 a.2.2.1:=hr;subst hr;rfl
  |3,hx=>cases hx;have hr:y= .int .i64 a.2.2.2:=hr;subst hr;rfl
 ·match t,hx with
  |0,hx=>cases hx;cases hy;rfl
  |1,hx=>cases hx;cases hy;rfl
  |2,hx=>cases hx;cases hy;rfl
  |3,hx=>cases hx;cases hy;rfl
theorem NewJ.sorted {q:OSl}(N:New entE h h' q l){h2:Heap}(A:AppJ entE h2 q (yA l))(K:zI (inq q) h' h2):NewJ entE h h2 q (yA l):=
 (NewJ.of N).inplace A K (λs' hs=>⟨s',hs,rfl⟩)
structure RunR(h:Heap)(rb lim:Nat)(l:List Ent)(O:Nat->Prop):Prop where
 ow:O rb
 lv:∀b,O b->b<h.length
 l1:1<=lim/\lim<=4096
 few:l.length<=lim
 at':∃(ql:OSl) (mo:Int),h[rb]?=some (.cells [.sl ql,.int .i64 (lim:Nat),.int .i64 mo] true)/\AppJ entE h ql l/\∀s,ql=some s->O s.b/\s.b≠rb
theorem RunR.keeps (R:RunR h rb lim l O){O':Nat->Prop}{X:Nat->Prop}(K:zI X h h')(hX:∀b,O b->¬X b)(hl:h.length<=h'.length)(ho:∀b,O b->O' b)(hn:∀b,O' b->b<h'.length):RunR h' rb lim l O':=by
 obtain⟨ql,mo,h1,h2,h3⟩:=R.at'
 exact⟨ho _ R.ow,hn,R.l1,R.few,ql,mo,K _ _ (hX _ R.ow) h1,h2.keeps K (λs hs=>hX _ (h3 s hs).1),λs hs=>⟨ho _ (h3 s hs).1,(h3 s hs).2⟩⟩
theorem RunR.grow (R:RunR h rb lim l O)(x:Ext h h'):RunR h' rb lim l O:=R.keeps (X:=λ_=>False) (zH x) (λ_ _ h=>h) x.len (λ_ h=>h) (λb hb=>Nat.lt_of_lt_of_le (R.lv b hb) x.len)
theorem zU {b:Nat}{c:List AV}{rw':Bool}(hb:h[b]?=some (.cells c rw')){k:Nat}{x:AV}(hx:c[k]?=some x):zA h ⟨b,0+k⟩ 1=some [x]:=by
 have hk:=zD hx
 rw[zP (p:=⟨b,0+k⟩) hb (by simp only;omega)]
 simp only[Nat.zero_add]
 rw[List.drop_eq_getElem_cons hk]
 rw[List.getElem?_eq_getElem hk] at hx
 cases hx
 rfl
theorem zOR (R:RunR h rb lim l O)(hQ:Q (.bool true) h):AC Tryz.prog 129 [.ptr (some ⟨rb,0⟩)] h Q:=ac129 (by
 unfold vc129
 obtain⟨ql,mo,h1,h2,h3⟩:=R.at'
 have:=R.l1
 refine zB (λ_=>⟨_,zU h1 (k:=1) rfl,?_⟩) (λg=>by simp at g)
 rw[decide_eq_true (by omega)]
 exact hQ)
theorem gk70 (R:RunR h rb lim l O)(hQ:Q (.int .i64 (l.length:Nat)) h):AC Tryz.prog 70 [.ptr (some ⟨rb,0⟩)] h Q:=ac70 (by
 unfold vc70
 obtain⟨ql,mo,h1,h2,h3⟩:=R.at'
 refine zOR R ⟨_,rfl,zB (λg=>by simp at g) (λ_=>⟨_,zU h1 (k:=0) rfl,?_⟩)⟩
 rw[h2.hasL.len]
 exact hQ)
theorem gk71 (R:RunR h rb lim l O)(hQ:Q (.int .i64 (lim:Nat)) h):AC Tryz.prog 71 [.ptr (some ⟨rb,0⟩)] h Q:=ac71 (by
 unfold vc71
 obtain⟨ql,mo,h1,h2,h3⟩:=R.at'
 exact zOR R ⟨_,rfl,zB (λg=>by simp at g) (λ_=>⟨_,zU h1 (k:=1) rfl,hQ⟩)⟩)
theorem gk74 (R:RunR h rb lim l O)(hQ:∀q' h',NewJ entE h h' q' (yA l)->Q (.sl q') h'):AC Tryz.prog 74 [.ptr (some ⟨rb,0⟩)] h Q:=ac74 (by
 unfold vc74
 obtain⟨ql,mo,h1,h2,h3⟩:=R.at'
 have:=R.l1
 have:=R.few
 refine zOR R ⟨_,rfl,zB (λg=>by simp at g) (λ_=>⟨_,zU h1 (k:=0) rfl,?_⟩)⟩
 refine k131 h2.hasL (by omega) λq9 h8 N8=>⟨_,rfl,?_⟩
 refine gk132 (.of N8.2.1) (by omega) λh11 A11 K11 l11=>⟨rfl,hQ _ _ (NewJ.sorted N8 A11 K11)⟩)
theorem RunR.clear (R:RunR h rb lim l O){ql:OSl}{mo:Int}(hb:h[rb]?=some (.cells [.sl ql,.int .i64 (lim:Nat),.int .i64 mo] true)):RunR (h.set rb (.cells [.sl none,.int .i64 (lim:Nat),.int .i64 mo] true)) rb lim [] O/\OS O h O (h.set rb (.cells [.sl none,.int .i64 (lim:Nat),.int .i64 mo] true)):=by
 have hlt:=zD hb
 refine⟨⟨R.ow,λb hb=>by rw[List.length_set];exact R.lv b hb,R.l1,by simp,none,mo,by rw[List.getElem?_set_self hlt],.inl ⟨rfl,rfl⟩,λs hs=>by cases hs⟩,⟨λc B hc hB=> ?_,by simp,λ_ h=>h,λ_ h=>.inl h⟩⟩
 rw[List.getElem?_set,if_neg (show ¬rb=c from λhe=>hc (by rw[<-he];exact R.ow))]
 exact hB
theorem gk75 (R:RunR h rb lim l O)(hQ:∀q' h',RunR h' rb lim [] O->OS O h O h'->Q (.sl q') h'):AC Tryz.prog 75 [.ptr (some ⟨rb,0⟩)] h Q:=ac75 (by
 unfold vc75
 refine gk74 R λq4 h3 N3=>⟨_,rfl,?_⟩
 have R3:=R.grow N3.1
 obtain⟨ql,mo,h1,h2,h4⟩:=R3.at'
 refine zOR R3 ⟨_,rfl,zB (λ_=> ?_) (λg=>by simp at g)⟩
 obtain⟨c1,c2⟩:=R3.clear h1
 refine zCF (o:=0+0) (xs:=[.sl none]) h1 (by simp) ?_
 exact hQ _ _ c1 ((OS.ext N3.1).trans c2))
end
section
variable{h h':Heap}{Q:AHp}{q:OSl}{l:List Ent}{f:List Mom}{m m':Mom}{a rb lim:Nat}{O:Nat->Prop}
theorem gk101 {n:Int}(h0:(n<1∨n>4096)->Q (.tup [.ptr none,.int .i64 1]) h)(h1:∀lim:Nat,n=lim->1<=lim->lim<=4096->∀h',Ext h h'->RunR h' h.length lim [] (λb=>b=h.length)->Q (.tup [.ptr (some ⟨h.length,0⟩),.int .i64 0]) h'):AC Tryz.prog 101 [.int .i64 n] h Q:=ac101 (by
 unfold vc101 PNew
 refine zB (λg=>h0 (.inl (of_decide_eq_true g))) (λg=>zB (λg2=>h0 (.inr (of_decide_eq_true g2))) (λg2=> ?_))
 replace g:=of_decide_eq_false g
 replace g2:=of_decide_eq_false g2
 obtain⟨lim,rfl⟩:∃k:Nat,n=k:=⟨n.toNat,by omega⟩
 refine h1 lim rfl (by omega) (by omega) _ (.app _ _) ⟨rfl,λb hb=>by subst hb;simp,⟨by omega,by omega⟩,by simp,none,0,by simp,.inl ⟨rfl,rfl⟩,λs hs=>by cases hs⟩)
theorem gk72 {e:Ent}(R:RunR h rb lim l O)(h0:yM e≠0->Q (.int .i64 (yM e)) h)(h2:yM e=0->lim<=l.length->Q (.int .i64 2) h)
  (h1:yM e=0->l.length<lim->∀h' O',RunR h' rb lim (l++[e]) O'->OS O h O' h'->Q (.int .i64 0) h'):AC Tryz.prog 72 [.ptr (some ⟨rb,0⟩),entV e] h Q:=ac72 (by
 unfold vc72
 have l1:=R.l1
 have few:=R.few
 refine zOR R ⟨_,rfl,zB (λg=>by simp at g) (λ_=> ?_)⟩
 refine k69 ⟨_,rfl,zB (λg=>h0 (by simpa using g)) (λg=> ?_)⟩
 have he:yM e=0:=by simpa using g
 obtain⟨ql,mo,hb,A,hs⟩:=R.at'
 refine⟨ql,zU hb (k:=0) rfl,lim,zU hb (k:=1) rfl,?_⟩
 rw[A.hasL.len]
 refine zB (λg2=>h2 he (by have:=of_decide_eq_true g2;omega)) (λg2=> ?_)
 replace g2:=of_decide_eq_false g2
 refine⟨ql,zU hb (k:=0) rfl,?_⟩
 unfold PNew
 have x1:Ext h (h++[Blk.cells (entE.f e) true]):=.app _ _
 have Hn:HasL entE (h++[Blk.cells (entE.f e) true]) (some ⟨h.length,0,1,1,0⟩) [e]:=HasL.new (E:=entE) (l:=[e]) (n:=1) rfl (by simp[Enc.all])
 have hb1:=x1 _ _ hb
 have A1:=A.ext x1
 have hl1:(h++[Blk.cells (entE.f e) true]).length=h.length+1:=by simp
 change (∃q30:OSl,zA (h++[Blk.cells (entE.f e) true]) ⟨rb,0+0⟩ 1=some [.sl q30]/\LV.val (.sl q30)=LV.val (.sl ql))/\zM 4 32 ql (some ⟨h.length,0,1,1,0⟩) (h++[Blk.cells (entE.f e) true]) _
 generalize h++[Blk.cells (entE.f e) true]=hx at*
 refine⟨⟨ql,x1.cells (zU hb (k:=0) rfl),rfl⟩,?_⟩
 refine AppJ.append (E:=entE) A1 Hn (by simp;omega) λq20 h21 A21 K21 l21 b21=> ?_
 have hrb:¬inq ql rb:=λ⟨s,h3,h4⟩=>(hs s h3).2 h4
 have hb21:=K21 _ _ hrb hb1
 have hlt:=zD hb21
 refine yP (o:=0) (xs:=[.sl q20]) hb21 (by simp) ?_
 have q20rb:∀s,q20=some s->s.b≠rb:=λs h3 hc=>by
  rcases b21 s h3 with h4|⟨s',h4,h5⟩
  ·have:=zD hb;omega
  ·exact hrb ⟨s',h4,by rw[h5,hc]⟩
 have hb23:(h21.set rb (.cells (splice [.sl ql,.int .i64 (lim:Nat),.int .i64 mo] 0 [.sl q20]) true))[rb]?=some (.cells [.sl q20,.int .i64 (lim:Nat),.int .i64 mo] true):=by rw[List.getElem?_set_self hlt];rfl
 have A23:AppJ entE (h21.set rb (.cells (splice [.sl ql,.int .i64 (lim:Nat),.int .i64 mo] 0 [.sl q20]) true)) q20 (l++[e]):=A21.keeps (X:=λb=>b=rb) (λc B hc hB=>by rw[List.getElem?_set,if_neg (show ¬rb=c from λhe=>hc he.symm)];exact hB) (λs h3=>q20rb s h3)
 have K23:zI (λb=>b=rb) h21 (h21.set rb (.cells (splice [.sl ql,.int .i64 (lim:Nat),.int .i64 mo] 0 [.sl q20]) true)):=λc B hc hB=>by rw[List.getElem?_set,if_neg (show ¬rb=c from λhe=>hc he.symm)];exact hB
 have l23:(h21.set rb (.cells (splice [.sl ql,.int .i64 (lim:Nat),.int .i64 mo] 0 [.sl q20]) true)).length=h21.length:=by simp
 generalize h21.set rb (.cells (splice [.sl ql,.int .i64 (lim:Nat),.int .i64 mo] 0 [.sl q20]) true)=h23 at*
 refine⟨mo,zU hb23 (k:=2) rfl,q20,zU hb23 (k:=0) rfl,?_⟩
 refine yP (o:=2) (xs:=[.int .i64 (zEF mo (zJ q20:Int))]) hb23 (by simp) ?_
 have hlt3:=zD hb23
 refine h1 he (by omega) _ (λb=>O b∨inq q20 b) ⟨.inl R.ow,?_,l1,by simp;omega,q20,zEF mo (zJ q20:Int),by rw[List.getElem?_set_self hlt3];rfl,?_,λs h3=>⟨.inr ⟨s,h3,rfl⟩,q20rb s h3⟩⟩ ⟨?_,by simp;omega,λb hb=>.inl hb,?_⟩
 ·intro b hb
  rw[List.length_set]
  rcases hb with hb|⟨s,h3,h4⟩
  ·have:=R.lv b hb;omega
  ·have:=A23.live s h3;omega
 ·exact A23.keeps (X:=λb=>b=rb) (λc B hc hB=>by rw[List.getElem?_set,if_neg (show ¬rb=c from λhe=>hc he.symm)];exact hB) (λs h3=>q20rb s h3)
 ·intro c B hc hB
  have h3:=x1 _ _ hB
  have h4:=K21 c B (λ⟨s,h5,h6⟩=>hc (h6▸(hs s h5).1)) h3
  have h5:=K23 c B (λhe=>hc (by rw[he];exact R.ow)) h4
  rw[List.getElem?_set,if_neg (show ¬rb=c from λhe=>hc (by rw[<-he];exact R.ow))]
  exact h5
 ·intro b hb
  rcases hb with hb|⟨s,h3,h4⟩
  ·exact .inl hb
  ·rcases b21 s h3 with h5|⟨s',h5,h6⟩
   ·exact .inr (by omega)
   ·exact .inl (by rw[<-h4,<-h6];exact(hs s' h5).1))
theorem zTR {a2:Nat}(A:AppJ entE h q l)(hl:l.length<=1000000)(hf:f.length<=1000000){q2:OSl}(hb:h[a2]?=some (.cells [.sl q2] true))(ha:¬inq q a2)(Hf:HasL mmE h q2 f)(hn:∀s,q2=some s->¬inq q s.b)
  (hQ:∀q' h',AppJ entE h' q' (l.filter λe=>covB f (momE e))->zI (inq q) h h'->h.length<=h'.length->(∀s',q'=some s'->∃s,q=some s/\s.b=s'.b)->Q (.sl q') h'):
  AC Tryz.prog 143 [.sl q,.func (.func 144) [] [.ptr (some ⟨a2,0⟩)]] h Q:=ac143 (by
 unfold vc143 PNew
 have x1:Ext h (h++[Blk.cells [.func (.func 144) [] [.ptr (some ⟨a2,0⟩)]] true]):=.app _ _
 have hb3:(h++[Blk.cells [.func (.func 144) [] [.ptr (some ⟨a2,0⟩)]] true])[h.length]?=some (.cells [.func (.func 144) [] [.ptr (some ⟨a2,0⟩)]] true):=by simp
 have n3:¬inq q h.length:=λ⟨s,h3,h4⟩=>by have:=A.live s h3;omega
 have A1:=A.ext x1
 have hb1:=x1 _ _ hb
 have H1:=Hf.mono x1
 generalize h++[Blk.cells [.func (.func 144) [] [.ptr (some ⟨a2,0⟩)]] true]=h1 at*
 refine gk136 (del:=λe=> !covB f (momE e)) A1 hl (λe he h2 K2 l2 K hK=> ?_) λq' h' A' K' l' b'=>⟨_,rfl,?_⟩
 ·show AC Tryz.prog 219 [entV e,.ptr (some ⟨h.length,0⟩)] h2 K
  refine ac219 ?_
  unfold vc219
  refine⟨.func (.func 144) [] [.ptr (some ⟨a2,0⟩)],rfl,by rw[zP (p:=⟨h.length,0⟩) (K2 _ _ n3 hb3) (by simp)];rfl,?_⟩
  show AC Tryz.prog 144 [entV e,.ptr (some ⟨a2,0⟩)] h2 _
  refine ac144 ?_
  unfold vc144
  refine⟨q2,by rw[zP (p:=⟨a2,0⟩) (K2 _ _ ha hb1) (by simp)];rfl,?_⟩
  exact gk80 (m:=momE e) (K2.hasL (λs hs hc=>hn s hs hc) H1) hf λh3 x3=>⟨_,rfl,⟨_,rfl,hK h3 x3⟩⟩
 ·have e:(l.filter λe=> !(λe=> !covB f (momE e)) e)=l.filter λe=>covB f (momE e):=by simp
  rw[e] at A'
  exact hQ q' h' A' (λc B hc hB=>K' c B hc (x1 _ _ hB)) (Nat.le_trans x1.len l') b')
theorem only_at (A:AppJ entE h q l)(hl:l.length<=1000000)
  (hQ:∀q' h',AppJ entE h' q' (l.filter (atM m))->zI (inq q) h h'->h.length<=h'.length->(∀s',q'=some s'->∃s,q=some s/\s.b=s'.b)->Q (.sl q') h'):
  AC Tryz.prog 143 [.sl q,.func (.func 154) [mmV m] []] h Q:=ac143b (by
 unfold vc143b PNew
 have x1:Ext h (h++[Blk.cells [.func (.func 154) [mmV m] []] true]):=.app _ _
 have hb3:(h++[Blk.cells [.func (.func 154) [mmV m] []] true])[h.length]?=some (.cells [.func (.func 154) [mmV m] []] true):=by simp
 have n3:¬inq q h.length:=λ⟨s,h3,h4⟩=>by have:=A.live s h3;omega
 have A1:=A.ext x1
 generalize h++[Blk.cells [.func (.func 154) [mmV m] []] true]=h1 at*
 refine gk136 (del:=λe=> !atM m e) A1 hl (λe he h2 K2 l2 K hK=> ?_) λq' h' A' K' l' b'=>⟨_,rfl,?_⟩
 ·show AC Tryz.prog 219 [entV e,.ptr (some ⟨h.length,0⟩)] h2 K
  refine ac219 ?_
  unfold vc219
  refine⟨.func (.func 154) [mmV m] [],rfl,by rw[zP (p:=⟨h.length,0⟩) (K2 _ _ n3 hb3) (by simp)];rfl,?_⟩
  show AC Tryz.prog 154 [mmV m,entV e] h2 _
  refine ac154 ?_
  unfold vc154
  refine⟨_,rfl,?_⟩
  have:=hK h2 (.refl _)
  have e2:((e.1==m.1)&&((e.2.1==m.2)&&true))=atM m e:=by
   unfold atM
   rw[Bool.and_true]
   rfl
  rw[e2]
  exact this
 ·have e:(l.filter λe=> !(λe=> !atM m e) e)=l.filter (atM m):=by simp
  rw[e] at A'
  exact hQ q' h' A' (λc B hc hB=>K' c B hc (x1 _ _ hB)) (Nat.le_trans x1.len l') b')
theorem gk89 (R:RunR h rb lim l O)(hQ:∀q' h',NewJ entE h h' q' ((yA l).filter (atM m))->Q (.sl q') h'):AC Tryz.prog 89 [.ptr (some ⟨rb,0⟩),mmV m] h Q:=ac89 (by
 unfold vc89
 have:=R.l1
 have:=R.few
 refine gk74 R λq6 h5 N5=>⟨_,rfl,rfl,?_⟩
 refine only_at (m:=m) N5.2.1 (by rw[(zS l).length_eq];omega) λq9 h8 A8 K8 l8 b8=>⟨_,rfl,hQ _ _ (N5.inplace A8 K8 b8)⟩)
theorem gk79 (R:RunR h rb lim l O){q2:OSl}(Hf:HasL mmE h q2 f)(hf:f.length<=1000000)(hn:∀s,q2=some s->¬O s.b)
  (hQ:∀h',RunR h' rb lim (l.filter λe=>covB f (momE e)) O->OS O h O h'->Q (.int .i64 ((l.length:Int) - ((l.filter λe=>covB f (momE e)).length:Nat))) h'):AC Tryz.prog 79 [.ptr (some ⟨rb,0⟩),.sl q2] h Q:=ac79 (by
 unfold vc79 PNew
 have l1:=R.l1
 have few:=R.few
 have x1:Ext h (h++[Blk.cells [.sl q2] true]):=.app _ _
 have hb3:(h++[Blk.cells [.sl q2] true])[h.length]?=some (.cells [.sl q2] true):=by simp
 have R1:=R.grow x1
 have H1:=Hf.mono x1
 have lv:=R.lv
 generalize h++[Blk.cells [.sl q2] true]=h1 at*
 refine zOR R1 ⟨_,rfl,zB (λg=>by simp at g) (λ_=> ?_)⟩
 obtain⟨ql,mo,hb,A,hs⟩:=R1.at'
 refine⟨ql,zU hb (k:=0) rfl,ql,zU hb (k:=0) rfl,?_⟩
 refine zTR A (by omega) hf hb3 (λ⟨s,h3,h4⟩=>by have:=lv _ (hs s h3).1;omega) H1 (λs h3 ⟨s',h4,h5⟩=>hn s h3 (by rw[<-h5];exact(hs s' h4).1)) λq14 h13 A13 K13 l13 b13=>⟨_,rfl,?_⟩
 have hrb:¬inq ql rb:=λ⟨s,h3,h4⟩=>(hs s h3).2 h4
 have hb13:=K13 _ _ hrb hb
 have hlt:=zD hb13
 refine yP (o:=0) (xs:=[.sl q14]) hb13 (by simp) ?_
 have q14rb:∀s,q14=some s->s.b≠rb:=λs h3 hc=>by
  obtain⟨s',h4,h5⟩:=b13 s h3
  exact hrb ⟨s',h4,by rw[h5,hc]⟩
 have hb16:(h13.set rb (.cells (splice [.sl ql,.int .i64 (lim:Nat),.int .i64 mo] 0 [.sl q14]) true))[rb]?=some (.cells [.sl q14,.int .i64 (lim:Nat),.int .i64 mo] true):=by rw[List.getElem?_set_self hlt];rfl
 have K16:zI (λb=>b=rb) h13 (h13.set rb (.cells (splice [.sl ql,.int .i64 (lim:Nat),.int .i64 mo] 0 [.sl q14]) true)):=λc B hc hB=>by rw[List.getElem?_set,if_neg (show ¬rb=c from λhe=>hc he.symm)];exact hB
 have A16:=A13.keeps K16 (λs h3=>q14rb s h3)
 have l16:(h13.set rb (.cells (splice [.sl ql,.int .i64 (lim:Nat),.int .i64 mo] 0 [.sl q14]) true)).length=h13.length:=by simp
 generalize h13.set rb (.cells (splice [.sl ql,.int .i64 (lim:Nat),.int .i64 mo] 0 [.sl q14]) true)=h16 at*
 refine⟨q14,zU hb16 (k:=0) rfl,?_⟩
 have fl:(l.filter λe=>covB f (momE e)).length<=l.length:=List.length_filter_le _ _
 rw[A.hasL.len,A16.hasL.len,zF ⟨by omega,by omega⟩]
 have x1l:=x1.len
 refine hQ h16 ⟨R.ow,λb hb=>by have:=lv b hb;omega,l1,by omega,q14,mo,hb16,A16,λs h3=>⟨?_,q14rb s h3⟩⟩ ⟨λc B hc hB=> ?_,by omega,λ_ h=>h,λ_ h=>.inl h⟩
 ·obtain⟨s',h4,h5⟩:=b13 s h3
  rw[<-h5];exact(hs s' h4).1
 ·exact K16 c B (λhe=>hc (by rw[he];exact R.ow)) (K13 c B (λ⟨s,h5,h6⟩=>hc (h6▸(hs s h5).1)) (x1 _ _ hB)))
end
end Go.Proofs.YtafmabnolelknaaGreatDoor
namespace Go.Proofs.YtafmabnolelknaaGreatDoor
open Go.Ab
open Go.Num hiding Bs snoc_ind
open Go.Ent Go.Seg Go.Sto
open Go.Page hiding Bs get
open Go.Dsk hiding Bs
open Go.Pool hiding Bs Ents zT Fr least
open Go.Cur
set_option linter.unusedVariables false
set_option linter.unusedSimpArgs false
structure GF where
 b:Nat
 nm:List UInt8
 base:Nat
 l:List Ent
def GF.S(x:GF):List (List UInt8):=yS x.base x.l
def GF.fa(x:GF):FA:=⟨x.b,x.nm,x.S,x.S⟩
structure GF.ok(x:GF):Prop where
 n:mayN x.nm=true
 b1:1<=x.base
 b2:x.base<=2305843009213693952
 e:∀e∈x.l,yH e=true
 so:zN x.l
 few:x.l.length<=500
 ne:x.l≠ []
def flE(gs:List GF)(nm:List UInt8)(i:Nat):Int×List Ent:=match gs.find? (λx=>x.nm==nm) with |some x=>flG x.l i|none=>(80,[])
structure Env where
 dp:Nat
 p:Nat
 fb:Nat
 mb:Nat
 ow:yC
 gs:List GF
 P:PS
 N:Nat
 room:Nat
 F:Nat->Prop
abbrev Env.D(e:Env):DS:=kX (e.gs.map GF.fa) e.room
abbrev Env.pb(e:Env):Nat->Prop:=pbl e.p e.fb e.mb
abbrev EZ(z:Nat->Prop)(e:Env):Nat->Prop:=λb=>z b∨e.F b
structure EV(z:Nat->Prop)(h:Heap)(e:Env):Prop where
 L:Laid h
 R:xB h e.ow e.dp e.D
 C:zE8 (entZ (EZ z e)) h e.p e.fb e.mb e.P
 sm:e.P.sm e.N
 A:HP (flE e.gs) 64 [] e.P
 zo:∀b,e.ow b≠none->z b
 zl:∀b,z b->b<h.length
 zp:∀b,z b->¬e.pb b
 ok:∀x∈e.gs,x.ok
 nl:(¬z 0/\¬z 1)/\¬e.pb 0/\¬e.pb 1
 fz:∀b,e.F b->¬z b/\¬e.pb b/\b<h.length
theorem GF.fit {x:GF}(o:x.ok):(∀y∈x.S,y.length=64)/\x.S.length<=16384/\(zV (zR x.l)).length<=x.S.length/\(zV (zR x.l)).length<=500:=by
 have h1:=kI o.e
 have h2:=zC2 o.e
 have h3:=zBN o.e
 have hf:=o.few
 unfold GF.S
 refine⟨zDG o.e (by omega),?_,?_,by omega⟩<;>rw[zAP]<;>omega
section
variable{z z':Nat->Prop}{h h':Heap}{e e':Env}{x:GF}{Q:AHp}
theorem EV.own (E:EV z h e):∀b,e.pb b->e.ow b=none:=λb hc=>by
 cases ho:e.ow b with
 |none=>rfl
 |some r=>exact absurd hc (E.zp b (E.zo b (by rw[ho];simp)))
theorem EV.names (E:EV z h e):(e.gs.map GF.nm).Nodup:=by
 obtain⟨m,qp,es,cl,C⟩:=E.R
 have:=C.names
 show(e.gs.map GF.nm).Nodup
 have e1:(e.D.files.map (·.name))=e.gs.map GF.nm:=by
  show((e.gs.map GF.fa).map (·.name))=_
  rw[List.map_map];rfl
 rw[<-e1];exact this
theorem zF8:∀{gs:List GF} {x:GF},(gs.map GF.nm).Nodup->x∈gs->gs.find? (λy=>y.nm==x.nm)=some x
 | [],x,_,h=>by cases h
 |y::gs,x,hn,h=>by
  rw[List.map_cons,List.nodup_cons] at hn
  rw[List.find?_cons]
  rcases List.mem_cons.1 h with rfl|h
  ·simp
  ·have:(y.nm==x.nm)=false:=by
    cases hc:y.nm==x.nm with
    |false=>rfl
    |true=>exact absurd (by rw[eq_of_beq hc];exact List.mem_map_of_mem h) hn.1
   rw[this]
   exact zF8 hn.2 h
theorem EV.find (E:EV z h e)(hx:x∈e.gs):e.gs.find? (λy=>y.nm==x.nm)=some x:=zF8 E.names hx
theorem EV.lies (E:EV z h e)(hx:x∈e.gs):Lies e.D x.nm x.S:=by
 refine⟨rfl,x.fa,?_,(zQ7 (GF.fit (E.ok x hx)).1).symm⟩
 show(e.gs.map GF.fa).find? (λf=>f.name==x.nm)=_
 rw[List.find?_map]
 have:((λf:FA=>f.name==x.nm)∘GF.fa)=λy=>y.nm==x.nm:=rfl
 rw[this,E.find hx]
 rfl
theorem EV.fl (E:EV z h e)(hx:x∈e.gs):flE e.gs x.nm=flG x.l:=by
 funext i
 unfold flE
 rw[E.find hx]
structure SegR(z:Nat->Prop)(h:Heap)(e:Env)(sp:Nat)(q:OSl)(x:GF):Prop where
 at':h[sp]?=some (segC e.dp x.nm x.base x.l.length q)
 hd:HasL entE h q (zV (zR x.l))
 n1:¬EZ z e sp/\¬e.pb sp
 n2:∀t,q=some t->¬EZ z e t.b/\¬e.pb t.b
variable{sp:Nat}{q:OSl}
theorem EV.cp (E:EV z h e):CP (EZ z e) h h e.p e.fb e.mb e.P e.N:=⟨.refl _ _,Nat.le_refl _,E.C,E.sm,λb hb=>hb.elim (E.zl b) λhb=>(E.fz b hb).2.2,λb hb=>hb.elim (E.zp b) λhb=>(E.fz b hb).2.1⟩
theorem EV.cw (E:EV z h e)(hx:x∈e.gs)(S:SegR z h e sp q x):CW h e.dp sp e.p e.fb e.mb x.nm x.base x.l.length q (zV (zR x.l)) (flE e.gs x.nm) where
 laid:=E.L
 nl:=E.nl.2
 np:=S.n1.2
 nq:=λt ht=>(S.n2 t ht).2
 at':=S.at'
 hd:=S.hd
 few:=by have:=(GF.fit (E.ok x hx)).2.2.2;omega
 so:=zA1 (gs:=zR x.l) (by rw[yX];exact(E.ok x hx).so)
 short:=λi=>by rw[E.fl hx];exact flG_ten (E.ok x hx).e
 page:=λi hi h2 K k2 l2 hE hK=>by
  have o:=E.ok x hx
  obtain⟨a1,a2,a3,a4⟩:=GF.fit o
  rw[E.fl hx] at hE hK
  have hpg:zDL x.S x.base (zV (zR x.l)) i=some ((flG x.l i).2)/\(flG x.l i).1=0:=by
   rw[zBN o.e] at hi
   have hg:=List.getElem?_eq_getElem hi
   rw[zRY hg]
   exact⟨zDK o.e o.so hg,rfl⟩
  have K3:zI (λb=>e.ow b=none) h h2:=λb B hb hB=>k2 _ _ (λhc=>hb (E.own b hc)) hB
  refine k228 (base:=x.base) (E.L.keeps k2 E.nl.2.1 E.nl.2.2) (E.R.ext K3 l2) (E.lies hx) o.b1 o.b2 a2 (k2 _ _ S.n1.2 S.at') (k2.hasL (λt ht=>(S.n2 t ht).2) S.hd) a3 hi (λhn h3 x3=> ?_) (λg q' h3 hg x3 A3 f3=> ?_)
  ·rw[hpg.1] at hn;cases hn
  ·rw[hpg.1] at hg
   cases hg
   exact hK hpg.2 q' h3 x3 A3.hasL f3
theorem EV.back (E:EV z h e){P:PS}{N:Nat}{z2:Nat->Prop}(C:CP z2 h h' e.p e.fb e.mb P N)(hz:∀b,EZ z e b->z2 b)(A:HP (flE e.gs) 64 [] P):EV z h' {e with P:=P,N:=N}:=by
 have K3:zI (λb=>e.ow b=none) h h':=λb B hb hB=>C.x _ _ (λhc=>hb (E.own b hc)) hB
 obtain⟨rs,es,cl,R⟩:=C.R
 exact⟨E.L.keeps C.x E.nl.2.1 E.nl.2.2,E.R.ext K3 C.xl,⟨rs,es,cl,R.more λb hb=>.inl (hz b hb)⟩,C.sm,A,E.zo,λb hb=>Nat.lt_of_lt_of_le (E.zl b hb) C.xl,E.zp,E.ok,E.nl,λb hb=>⟨(E.fz b hb).1,(E.fz b hb).2.1,Nat.lt_of_lt_of_le (E.fz b hb).2.2 C.xl⟩⟩
theorem EV.grow (E:EV z h e)(x:Ext h h'):EV z h' e:=by
 have:=E.back (E.cp.grow x) (λ_ h=>h) E.A
 exact this
end
end Go.Proofs.YtafmabnolelknaaGreatDoor
