import Derived.Test.YtafmabnolelknaaGreatDoorDG11
import Derived.Test.YtafmabnolelknaaGreatDoorDG14
import Derived.Test.YtafmabnolelknaaGreatDoorDG17
import Derived.Test.YtafmabnolelknaaGreatDoorDG21
import Derived.Test.YtafmabnolelknaaGreatDoorDG22
import Derived.Test.YtafmabnolelknaaGreatDoorDG23
namespace Go.Proofs.YtafmabnolelknaaGreatDoor
open Go.Ab
open Go.Num hiding Bs snoc_ind
open Go.Ent Go.Seg
open Go.Page hiding Bs get
open Go.Dsk hiding Bs
open Go.Pool hiding Bs Ents zT Fr least
set_option linter.unusedVariables false
set_option linter.unusedSimpArgs false
structure CS(z:Nat->Prop)(hW h:Heap)(sp p fb mb cb i:Nat)(l:List Ent)(at':Nat)(e:Int)(P:PS)(N:Nat):Prop where
 C:CP z hW h p fb mb P N
 cell:∃ql,h[cb]?=some (curC p sp i ql (at':Nat) e)/\HasL entE h ql l/\∀t,ql=some t->¬z t.b/\¬pbl p fb mb t.b
 zc:z cb
 nw:hW.length<=cb
section
variable{z:Nat->Prop}{hW h h':Heap}{Q:AHp}{dp sp base count p fb mb cb i N at':Nat}{s:Bs}{q ql:OSl}{heads l:List Ent}{pg:Nat->Int×List Ent}{P P1:PS}{e:Int}
theorem CS.grow (S:CS z hW h sp p fb mb cb i l at' e P N)(x:Ext h h'):CS z hW h' sp p fb mb cb i l at' e P N:=by
 obtain⟨ql,a,b,c⟩:=S.cell
 exact⟨S.C.grow x,⟨ql,x _ _ a,b.mono x,c⟩,S.zc,S.nw⟩
theorem c205 {at0 e0 r1:Int}{l1:List Ent}(C:CP z hW h p fb mb P N)(W:CW hW dp sp p fb mb s base count q heads pg)(hc:h[cb]?=some (curC p sp i ql at0 e0))(zc:z cb)(nw:hW.length<=cb)(hi:i<heads.length)(hN:N<=1000000)(e1:P.hold s (i:Int) (pg i)=(r1,l1,P1))(hl1:r1≠0->l1=[])
  (hQ:∀h',CS z hW h' sp p fb mb cb i l1 0 r1 P1 (N+1)->zI (λb=>pbl p fb mb b∨b=cb) h h'->h.length<=h'.length->Q (.int .i64 r1) h'):AC Tryz.prog 205 [.ptr (some ⟨cb,0⟩)] h Q:=ac205 (by
 unfold vc205
 refine⟨_,yW hc (k:=0) rfl,⟨_,yW hc (k:=1) rfl,⟨_,yW hc (k:=2) rfl,?_⟩⟩⟩
 refine C.hold W hi hN e1 λq' h9 C9 K9 l9 a1 a2=>⟨_,_,rfl,?_⟩
 have hc9:=K9 _ _ (C.zp _ zc) hc
 have hl9:=zD hc9
 refine yP (o:=5) hc9 (by simp) ?_
 rw[show splice [AV.ptr (some ⟨p,0⟩),.ptr (some ⟨sp,0⟩),.int .i64 (i:Nat),.sl ql,.int .i64 at0,.int .i64 e0] 5 [.int .i64 r1]=[AV.ptr (some ⟨p,0⟩),.ptr (some ⟨sp,0⟩),.int .i64 (i:Nat),.sl ql,.int .i64 at0,.int .i64 r1] from rfl]
 refine yP (o:=3) (List.getElem?_set_self hl9) (by simp) ?_
 rw[List.set_set,show splice [AV.ptr (some ⟨p,0⟩),.ptr (some ⟨sp,0⟩),.int .i64 (i:Nat),.sl ql,.int .i64 at0,.int .i64 r1] 3 [.sl q']=[AV.ptr (some ⟨p,0⟩),.ptr (some ⟨sp,0⟩),.int .i64 (i:Nat),.sl q',.int .i64 at0,.int .i64 r1] from rfl]
 refine yP (o:=4) (List.getElem?_set_self hl9) (by simp) ?_
 rw[List.set_set,show splice [AV.ptr (some ⟨p,0⟩),.ptr (some ⟨sp,0⟩),.int .i64 (i:Nat),.sl q',.int .i64 at0,.int .i64 r1] 4 [.int .i64 0]=[AV.ptr (some ⟨p,0⟩),.ptr (some ⟨sp,0⟩),.int .i64 (i:Nat),.sl q',.int .i64 0,.int .i64 r1] from rfl]
 have K2:zI (λb=>b=cb) h9 (h9.set cb (curC p sp i q' 0 r1)):=zO rfl
 have zlt:=C.zl _ zc
 have hq:HasL entE h9 q' l1/\∀t,q'=some t->h.length<=t.b:=by
  by_cases hr:r1=0
  ·exact a1 hr
  ·rw[a2 hr,hl1 hr];exact⟨rfl,by simp⟩
 refine hQ _ ⟨C9.other K2 (λb hb=>by rw[hb];exact zc) (λb hb=>by rw[hb];exact nw) (by rw[List.length_set];omega),⟨q',List.getElem?_set_self hl9,K2.hasL (λt ht hb=>by have:=hq.2 t ht;omega) hq.1,λt ht=>⟨λhz=>by have:=C.zl _ hz;have:=hq.2 t ht;omega,λhp=>by have:=C.pool_lt hp;have:=hq.2 t ht;omega⟩⟩,zc,nw⟩ (λb B hb hB=>K2 _ _ (λhc=>hb (.inr hc)) (K9 _ _ (λhc=>hb (.inl hc)) hB)) (by rw[List.length_set];omega))
theorem c209 {at0 e0 r1:Int}(C:CP z hW h p fb mb P N)(W:CW hW dp sp p fb mb s base count q heads pg)(hc:h[cb]?=some (curC p sp i ql at0 e0))(zc:z cb)(nw:hW.length<=cb)(hN:N<=1000000)(e1:P.free s (i:Int)=(r1,P1))
  (hQ:∀h',CP z hW h' p fb mb P1 N->h'[cb]?=some (curC p sp i none at0 e0)->zI (λb=>pbl p fb mb b∨b=cb) h h'->h'.length=h.length->Q (.tup []) h'):AC Tryz.prog 209 [.ptr (some ⟨cb,0⟩)] h Q:=ac209 (by
 unfold vc209
 refine⟨_,yW hc (k:=0) rfl,⟨_,yW hc (k:=1) rfl,⟨_,yW hc (k:=2) rfl,?_⟩⟩⟩
 refine k141 (C.seg W) ⟨_,rfl,⟨_,yW hc (k:=2) rfl,rfl⟩,⟨_,yW hc (k:=0) rfl,rfl⟩,?_⟩
 refine C.free hN e1 λh12 C12 K12 l12=>⟨_,rfl,?_⟩
 have hc12:=K12 _ _ (C.zp _ zc) hc
 have hl12:=zD hc12
 refine yP (o:=3) hc12 (by simp) ?_
 rw[show splice [AV.ptr (some ⟨p,0⟩),.ptr (some ⟨sp,0⟩),.int .i64 (i:Nat),.sl ql,.int .i64 at0,.int .i64 e0] 3 [.sl none]=[AV.ptr (some ⟨p,0⟩),.ptr (some ⟨sp,0⟩),.int .i64 (i:Nat),.sl none,.int .i64 at0,.int .i64 e0] from rfl]
 have K2:zI (λb=>b=cb) h12 (h12.set cb (curC p sp i none at0 e0)):=zO rfl
 exact hQ _ (C12.other K2 (λb hb=>by rw[hb];exact zc) (λb hb=>by rw[hb];exact nw) (by rw[List.length_set];omega)) (List.getElem?_set_self hl12) (λb B hb hB=>K2 _ _ (λhc=>hb (.inr hc)) (K12 _ _ (λhc=>hb (.inl hc)) hB)) (by rw[List.length_set];omega))
theorem c210 (S:CS z hW h sp p fb mb cb i l at' e P N)(hl:l.length<=1000)(h0:l.length<=at'->Q (.tup [entV (0,0,0,0),.bool false]) h)(h1:∀x,l[at']?=some x->Q (.tup [entV x,.bool true]) h):AC Tryz.prog 210 [.ptr (some ⟨cb,0⟩)] h Q:=ac210 (by
 unfold vc210
 obtain⟨ql,hc,H,_⟩:=S.cell
 refine zB (λg=>by simp at g) (λ_=>⟨_,yW hc (k:=4) rfl,⟨_,yW hc (k:=3) rfl,?_⟩⟩)
 rw[H.len]
 refine zB (λg=>h0 (by have:=of_decide_eq_true g;omega)) (λg=> ?_)
 replace g:=of_decide_eq_false g
 refine⟨_,yW hc (k:=3) rfl,⟨_,yW hc (k:=4) rfl,?_⟩⟩
 refine HasL.idx (E:=entE) H (by omega) (by omega) λp10 x hx hc10=>⟨_,_,_,_,hc10,?_⟩
 rw[Int.toNat_natCast] at hx
 exact h1 x hx)
theorem c208e (S:CS z hW h sp p fb mb cb i [] at' e P N)(hQ:Q (.tup []) h):AC Tryz.prog 208 [.ptr (some ⟨cb,0⟩)] h Q:=ac208 (by
 unfold vc208
 obtain⟨ql,hc,H,_⟩:=S.cell
 refine zB (λ_=>⟨_,yW hc (k:=3) rfl,?_⟩) (λ_=>hQ)
 rw[H.len]
 exact zB (λg=>by simp at g) (λ_=>hQ))
theorem c208 {r1:Int}(S:CS z hW h sp p fb mb cb i l at' e P N)(W:CW hW dp sp p fb mb s base count q heads pg)(hl:l≠ [])(hN:N<=1000000)(e1:P.free s (i:Int)=(r1,P1))
  (hQ:∀h',CS z hW h' sp p fb mb cb i [] 0 e P1 N->zI (λb=>pbl p fb mb b∨b=cb) h h'->h'.length=h.length->Q (.tup []) h'):AC Tryz.prog 208 [.ptr (some ⟨cb,0⟩)] h Q:=ac208 (by
 unfold vc208
 obtain⟨ql,hc,H,_⟩:=S.cell
 refine zB (λ_=>⟨_,yW hc (k:=3) rfl,?_⟩) (λg=>by simp at g)
 rw[H.len]
 have hlp:0<l.length:=by
  cases l with
  |nil=>exact absurd rfl hl
  |cons a l=>simp
 refine zB (λ_=> ?_) (λg=>by have:=of_decide_eq_false g;omega)
 refine c209 S.C W hc S.zc S.nw hN e1 λh5 C5 hc5 K5 l5=>⟨rfl,?_⟩
 have hl5:=zD hc5
 refine yP (o:=4) hc5 (by simp) ?_
 rw[show splice [AV.ptr (some ⟨p,0⟩),.ptr (some ⟨sp,0⟩),.int .i64 (i:Nat),.sl none,.int .i64 (at':Nat),.int .i64 e] 4 [.int .i64 0]=[AV.ptr (some ⟨p,0⟩),.ptr (some ⟨sp,0⟩),.int .i64 (i:Nat),.sl none,.int .i64 0,.int .i64 e] from rfl]
 have K2:zI (λb=>b=cb) h5 (h5.set cb (curC p sp i none 0 e)):=zO rfl
 exact hQ _ ⟨C5.other K2 (λb hb=>by rw[hb];exact S.zc) (λb hb=>by rw[hb];exact S.nw) (by rw[List.length_set];omega),⟨none,List.getElem?_set_self hl5,rfl,by simp⟩,S.zc,S.nw⟩ (λb B hb hB=>K2 _ _ (λhc=>hb (.inr hc)) (K5 _ _ hb hB)) (by rw[List.length_set];omega))
end
theorem zT2 {P P1:PS}{s:Bs}{i r1:Int}{r:Int×List Ent}{l1:List Ent}(e:P.hold s i r=(r1,l1,P1))(h:r1≠0):l1=[]:=by
 unfold PS.hold at e
 split at e
 ·cases e;exact absurd rfl h
 ·split at e
  ·cases e;rfl
  ·split at e
   ·cases e;rfl
   ·cases e;exact absurd rfl h
section
variable{z:Nat->Prop}{hW h h':Heap}{Q:AHp}{dp sp base count p fb mb cb i N at':Nat}{s:Bs}{q ql:OSl}{heads l:List Ent}{pg:Nat->Int×List Ent}{P P1:PS}{e:Int}
theorem c211e (S:CS z hW h sp p fb mb cb i [] at' e P N)(hQ:Q (.int .i64 4) h):AC Tryz.prog 211 [.ptr (some ⟨cb,0⟩)] h Q:=ac211 (by
 unfold vc211
 obtain⟨ql,hc,H,_⟩:=S.cell
 refine zB (λg=>by simp at g) (λ_=>⟨_,yW hc (k:=3) rfl,?_⟩)
 rw[H.len]
 exact zB (λ_=>hQ) (λg=>by simp at g))
set_option maxHeartbeats 1000000 in
theorem c211 (S:CS z hW h sp p fb mb cb i l at' e P N)(W:CW hW dp sp p fb mb s base count q heads pg)(hl:at'<l.length)(hl2:l.length<=1000)(hi:i<heads.length)(hN:N<=1000000)
  (h1:at'+1<l.length->∀h',CS z hW h' sp p fb mb cb i l (at'+1) e P N->zI (λb=>pbl p fb mb b∨b=cb) h h'->h.length<=h'.length->Q (.int .i64 0) h')
  (h2:at'+1=l.length->¬i+1<heads.length->∀r P1,P.free s (i:Int)=(r,P1)->∀h',CS z hW h' sp p fb mb cb i [] 0 e P1 N->zI (λb=>pbl p fb mb b∨b=cb) h h'->h.length<=h'.length->Q (.int .i64 0) h')
  (h3:at'+1=l.length->i+1<heads.length->∀r P1 r1 l1 P2,P.free s (i:Int)=(r,P1)->P1.hold s ((i+1:Nat):Int) (pg (i+1))=(r1,l1,P2)->∀h',CS z hW h' sp p fb mb cb (i+1) l1 0 r1 P2 (N+1)->zI (λb=>pbl p fb mb b∨b=cb) h h'->h.length<=h'.length->Q (.int .i64 r1) h'):
  AC Tryz.prog 211 [.ptr (some ⟨cb,0⟩)] h Q:=ac211 (by
 unfold vc211
 obtain⟨ql,hc,H,d⟩:=S.cell
 have hcl:=zD hc
 have few:=W.few
 refine zB (λg=>by simp at g) (λ_=>⟨_,yW hc (k:=3) rfl,?_⟩)
 rw[H.len]
 refine zB (λg=>by have:((l.length:Nat):Int)=0:=(by simpa using g);omega) (λ_=>⟨_,yW hc (k:=4) rfl,?_⟩)
 refine yP (o:=4) hc (by simp) ?_
 rw[zF ⟨by omega,by omega⟩,show splice [AV.ptr (some ⟨p,0⟩),.ptr (some ⟨sp,0⟩),.int .i64 (i:Nat),.sl ql,.int .i64 (at':Nat),.int .i64 e] 4 [.int .i64 ((at':Int)+1)]=[AV.ptr (some ⟨p,0⟩),.ptr (some ⟨sp,0⟩),.int .i64 (i:Nat),.sl ql,.int .i64 ((at'+1:Nat):Int),.int .i64 e] from rfl]
 have K7:zI (λb=>b=cb) h (h.set cb (curC p sp i ql ((at'+1:Nat):Int) e)):=zO rfl
 have S7:CS z hW (h.set cb (curC p sp i ql ((at'+1:Nat):Int) e)) sp p fb mb cb i l (at'+1) e P N:=
  ⟨S.C.other K7 (λb hb=>by rw[hb];exact S.zc) (λb hb=>by rw[hb];exact S.nw) (by rw[List.length_set];omega),⟨ql,List.getElem?_set_self hcl,K7.hasL (λt ht hb=>(d t ht).1 (by have hb:t.b=cb:=hb;rw[hb];exact S.zc)) H,d⟩,S.zc,S.nw⟩
 have hc7:(h.set cb (curC p sp i ql ((at'+1:Nat):Int) e))[cb]?=some (curC p sp i ql ((at'+1:Nat):Int) e):=List.getElem?_set_self hcl
 have l7:(h.set cb (curC p sp i ql ((at'+1:Nat):Int) e)).length=h.length:=List.length_set
 generalize h.set cb (curC p sp i ql ((at'+1:Nat):Int) e)=h7 at*
 have KK:∀{h9:Heap},zI (λb=>pbl p fb mb b∨b=cb) h7 h9->zI (λb=>pbl p fb mb b∨b=cb) h h9:=λK b B hb hB=>K _ _ hb (K7 _ _ (λhc=>hb (.inr hc)) hB)
 refine⟨_,yW hc7 (k:=4) rfl,⟨_,yW hc7 (k:=3) rfl,?_⟩⟩
 rw[H.len]
 refine zB (λg=> ?_) (λg=> ?_)
 ·replace g:=of_decide_eq_true g
  exact h1 (by omega) h7 S7 (KK (.refl _ _)) (by omega)
 replace g:=of_decide_eq_false g
 have he:at'+1=l.length:=by omega
 rcases e1:P.free s (i:Int) with⟨r,P1⟩
 refine c208 S7 W (by intro hn;rw[hn] at hl;simp at hl) hN e1 λh13 S13 K13 l13=>⟨rfl,?_⟩
 obtain⟨ql13,hc13,H13,d13⟩:=S13.cell
 refine⟨_,yW hc13 (k:=2) rfl,⟨_,yW hc13 (k:=1) rfl,?_⟩⟩
 refine k204 (S13.C.seg W) (S13.C.hds W) ⟨_,rfl,⟨_,yW hc13 (k:=2) rfl,rfl⟩,?_⟩
 rw[zF ⟨by omega,by omega⟩]
 refine zB (λg2=> ?_) (λg2=> ?_)
 ·replace g2:=of_decide_eq_true g2
  exact h2 he (by omega) r P1 e1 h13 S13 (KK K13) (by omega)
 replace g2:=of_decide_eq_false g2
 have hi1:i+1<heads.length:=by omega
 have hl13:=zD hc13
 refine⟨_,yW hc13 (k:=2) rfl,?_⟩
 refine yP (o:=2) hc13 (by simp) ?_
 rw[zF ⟨by omega,by omega⟩,show splice [AV.ptr (some ⟨p,0⟩),.ptr (some ⟨sp,0⟩),.int .i64 (i:Nat),.sl ql13,.int .i64 ((0:Nat):Int),.int .i64 e] 2 [.int .i64 ((i:Int)+1)]=[AV.ptr (some ⟨p,0⟩),.ptr (some ⟨sp,0⟩),.int .i64 ((i+1:Nat):Int),.sl ql13,.int .i64 ((0:Nat):Int),.int .i64 e] from rfl]
 have K24:zI (λb=>b=cb) h13 (h13.set cb (curC p sp (i+1) ql13 ((0:Nat):Int) e)):=zO rfl
 rcases e2:P1.hold s ((i+1:Nat):Int) (pg (i+1)) with⟨r1,l1,P2⟩
 refine c205 (S13.C.other K24 (λb hb=>by rw[hb];exact S.zc) (λb hb=>by rw[hb];exact S.nw) (by rw[List.length_set];omega)) W (List.getElem?_set_self hl13) S.zc S.nw hi1 hN e2 (zT2 e2) λh26 S26 K26 l26=>⟨_,rfl,?_⟩
 rw[List.length_set] at l26
 exact h3 he hi1 r P1 r1 l1 P2 e1 e2 h26 S26 (KK (λb B hb hB=>K26 _ _ hb (K24 _ _ (λhc=>hb (.inr hc)) (K13 _ _ hb hB)))) (by omega))
end
end Go.Proofs.YtafmabnolelknaaGreatDoor
namespace Go.Proofs.YtafmabnolelknaaGreatDoor
open Go.Ab
open Go.Num hiding Bs snoc_ind
open Go.Ent Go.Seg Go.Cur
open Go.Page hiding Bs get
open Go.Dsk hiding Bs
open Go.Pool hiding Bs Ents zT Fr least
set_option linter.unusedVariables false
set_option linter.unusedSimpArgs false
theorem free_ok {P:PS}{s:Bs}{i:Int}(ok:P.ok):(P.free s i).2.ok:=by
 unfold PS.free
 split
 ·exact ok
 ·split
  ·rename_i k _ _ f hf
   split
   ·exact ok
   ·have key:∀(j:Nat) (g:Pool.Fr),(P.fr.set k {f with held:=f.held-1})[j]?=some g->∃g0,P.fr[j]?=some g0/\g0.is=g.is/\g0.name=g.name/\g0.i=g.i:=λj g hg=>by
     rw[List.getElem?_set] at hg
     by_cases hj:k=j
     ·subst hj
      rw[if_pos rfl] at hg
      split at hg
      ·cases hg;exact⟨f,hf,rfl,rfl,rfl⟩
      ·cases hg
     ·rw[if_neg hj] at hg;exact⟨g,hg,rfl,rfl,rfl⟩
    refine{ok with one:=λj k' a b ha hb h1 h2 h3 h4=> ?_,hand:=by simpa using ok.hand,few:=by simpa using ok.few}
    obtain⟨a0,a1,a2,a3,a4⟩:=key j a ha
    obtain⟨b0,b1,b2,b3,b4⟩:=key k' b hb
    exact ok.one j k' a0 b0 a1 b1 (by rw[a2];exact h1) (by rw[b2];exact h2) (by rw[a3,b3];exact h3) (by rw[a4,b4];exact h4)
  ·exact ok
structure GP(heads:List Ent)(gs:List (List Ent)):Prop where
 len:gs.length=heads.length
 ne:∀g∈gs,g≠ []
 l10:∀g∈gs,g.length<=10
def Out(fl:Bs->Nat->Int×List Ent)(n:Nat)(C:List Pg)(s:Bs)(gs:List (List Ent))(r:Nat->Int):Prop:=∀(i:Nat) (g:List Ent),gs[i]?=some g->
 (r i=0/\fl s i=(0,g)/\((s,i)∈C∨dist C<n))∨(r i≠0/\((fl s i).1=r i∨(r i=90/\fl s i=(0,g)/\(s,i)∉C/\dist C=n)))
theorem Out.good {fl:Bs->Nat->Int×List Ent}{n:Nat}{C:List Pg}{s:Bs}{gs:List (List Ent)}{r:Nat->Int}(O:Out fl n C s gs r){P:PS}(A:HP fl n C P)(ok:P.ok){i:Nat}{g:List Ent}(hg:gs[i]?=some g)(h0:r i=0):
  ∃P1,P.hold s (i:Nat) (fl s i)=(0,g,P1)/\HP fl n ((s,i)::C) P1:=by
 rcases O i g hg with⟨_,h2,h3⟩|⟨h1,_⟩
 ·rw[h2];exact A.hold ok h2 h3
 ·exact absurd h0 h1
theorem Out.bad {fl:Bs->Nat->Int×List Ent}{n:Nat}{C:List Pg}{s:Bs}{gs:List (List Ent)}{r:Nat->Int}(O:Out fl n C s gs r){P:PS}(A:HP fl n C P)(ok:P.ok){i:Nat}{g:List Ent}(hg:gs[i]?=some g)(h0:r i≠0):
  P.hold s (i:Nat) (fl s i)=(r i,[],P):=by
 rcases O i g hg with⟨h1,_⟩|⟨_,h2|⟨h2,h3,h4,h5⟩⟩
 ·exact absurd h1 h0
 ·have:=A.bad (s:=s) (i:=i) rfl (by rw[h2];exact h0)
  rw[h2] at this;exact this
 ·rw[h3,h2];exact A.full ok h4 h5
def CR(z:Nat->Prop)(hW h:Heap)(sp p fb mb cb:Nat)(s:Bs)(n:Nat)(fl:Bs->Nat->Int×List Ent)(gs:List (List Ent))(r:Nat->Int)(C:List Pg)(R:List Ent)(E err:Int)(P:PS)(N:Nat):Prop:=
 (∃(i at':Nat) (l:List Ent),CS z hW h sp p fb mb cb i l at' 0 P N/\HP fl n ((s,i)::C) P/\gs[i]?=some l/\at'<l.length/\R=l.drop at'++(xP r (gs.drop (i+1)) (i+1)).1/\E=(xP r (gs.drop (i+1)) (i+1)).2/\err=0)∨
 (R=[]/\∃i,CS z hW h sp p fb mb cb i [] 0 err P N/\HP fl n C P)
section
variable{z z':Nat->Prop}{hW h h':Heap}{Q:AHp}{dp sp base count p fb mb cb n N:Nat}{s:Bs}{q ql:OSl}{heads R:List Ent}{fl:Bs->Nat->Int×List Ent}{gs:List (List Ent)}{r:Nat->Int}{C:List Pg}{x:Ent}{E err:Int}{P:PS}
theorem CP.step (C:CP z hW h p fb mb P N){X:Nat->Prop}(K:zI X h h')(hX:∀b,X b->z b)(hN:∀b,X b->hW.length<=b)(hl:h.length<=h'.length)(h1:∀b,z b->z' b)(h2:∀b,z' b->z b∨(h.length<=b/\b<h'.length)):CP z' hW h' p fb mb P N:=by
 obtain⟨rs,es,cl,R⟩:=C.R
 have R1:kE (entZ z') h p fb mb rs es cl P:=R.more (z:=z') λb hb=>by
  rcases h2 b hb with a|a
  ·exact .inl a
  ·exact .inr a.1
 have hp:∀b,pbl p fb mb b->¬X b:=λb hb hc=>C.zp _ (hX _ hc) hb
 refine⟨λb B hb hB=>K _ _ (λhc=>by have:=hN b hc;have:=zD hB;omega) (C.x _ _ hb hB),by have:=C.xl;omega,⟨rs,es,cl,R1.keepsZ K (λb hb=>h1 b (hX b hb)) ⟨hp _ (.inl rfl),hp _ (.inr (.inl rfl)),hp _ (.inr (.inr rfl))⟩⟩,C.sm,λb hb=> ?_,λb hb hc=> ?_⟩
 ·rcases h2 b hb with a|a
  ·have:=C.zl b a;omega
  ·exact a.2
 ·rcases h2 b hb with a|a
  ·exact C.zp b a hc
  ·have:=C.pool_lt hc;omega
theorem CS.step {i at':Nat}{l:List Ent}{e:Int}(S:CS z hW h sp p fb mb cb i l at' e P N){X:Nat->Prop}(K:zI X h h')(hX:∀b,X b->z b)(hN:∀b,X b->hW.length<=b)(hl:h.length<=h'.length)(h1:∀b,z b->z' b)(h2:∀b,z' b->z b∨(h.length<=b/\b<h'.length))(hc:¬X cb):CS z' hW h' sp p fb mb cb i l at' e P N:=by
 obtain⟨ql,a,b,c⟩:=S.cell
 refine⟨S.C.step K hX hN hl h1 h2,⟨ql,K _ _ hc a,K.hasL (λt ht h=>(c t ht).1 (hX _ h)) b,λt ht=>⟨λhz=> ?_,(c t ht).2⟩⟩,h1 _ S.zc,S.nw⟩
 rcases h2 _ hz with d|d
 ·exact(c t ht).1 d
 ·have:=HasL.live b t ht;omega
theorem CR.grow (S:CR z hW h sp p fb mb cb s n fl gs r C R E err P N)(x:Ext h h'):CR z hW h' sp p fb mb cb s n fl gs r C R E err P N:=by
 rcases S with⟨i,a,l,S,r⟩|⟨hR,i,S,r⟩
 ·exact .inl ⟨i,a,l,S.grow x,r⟩
 ·exact .inr ⟨hR,i,S.grow x,r⟩
theorem CR.step (S:CR z hW h sp p fb mb cb s n fl gs r C R E err P N){X:Nat->Prop}(K:zI X h h')(hX:∀b,X b->z b)(hN:∀b,X b->hW.length<=b)(hl:h.length<=h'.length)(h1:∀b,z b->z' b)(h2:∀b,z' b->z b∨(h.length<=b/\b<h'.length))(hc:¬X cb):CR z' hW h' sp p fb mb cb s n fl gs r C R E err P N:=by
 rcases S with⟨i,a,l,S,r⟩|⟨hR,i,S,r⟩
 ·exact .inl ⟨i,a,l,S.step K hX hN hl h1 h2 hc,r⟩
 ·exact .inr ⟨hR,i,S.step K hX hN hl h1 h2 hc,r⟩
theorem CR.cp (S:CR z hW h sp p fb mb cb s n fl gs r C R E err P N):CP z hW h p fb mb P N:=by
 rcases S with⟨i,a,l,S,r⟩|⟨hR,i,S,r⟩
 ·exact S.C
 ·exact S.C
theorem CR.zc (S:CR z hW h sp p fb mb cb s n fl gs r C R E err P N):z cb/\hW.length<=cb/\hW.length<=h.length/\(∀b,z b->b<h.length)/\∀b,z b->¬pbl p fb mb b:=by
 rcases S with⟨i,a,l,S,r⟩|⟨hR,i,S,r⟩
 ·exact⟨S.zc,S.nw,S.C.xl,S.C.zl,S.C.zp⟩
 ·exact⟨S.zc,S.nw,S.C.xl,S.C.zl,S.C.zp⟩
theorem CR.over (S:CR z hW h sp p fb mb cb s n fl gs r C [] E err P N):HP fl n C P:=by
 rcases S with⟨i,a,l,S,A,hg,ha,hR,_⟩|⟨hR,i,S,A⟩
 ·have:=congrArg List.length hR
  rw[List.length_append,List.length_drop] at this
  simp only[List.length_nil] at this
  omega
 ·exact A
theorem zRS (G:GP heads gs){i:Nat}{l:List Ent}(hl:gs[i]?=some l):l.length<=10:=G.l10 l (List.mem_of_getElem? hl)
theorem zBR {l:List Ent}{a:Nat}(ha:a<l.length):l.drop a=l[a]::l.drop (a+1):=List.drop_eq_getElem_cons ha
theorem CR.peek (S:CR z hW h sp p fb mb cb s n fl gs r C R E err P N)(G:GP heads gs)(h0:R=[]->Q (.tup [entV (0,0,0,0),.bool false]) h)(h1:∀x R',R=x::R'->Q (.tup [entV x,.bool true]) h):AC Tryz.prog 210 [.ptr (some ⟨cb,0⟩)] h Q:=by
 rcases S with⟨i,a,l,S,A,hg,ha,hR,_⟩|⟨hR,i,S,A⟩
 ·refine c210 S (by have:=zRS G hg;omega) (λhc=>by omega) λx hx=> ?_
  obtain⟨_,rfl⟩:=List.getElem?_eq_some_iff.1 hx
  rw[zBR ha,List.cons_append] at hR
  exact h1 _ _ hR
 ·exact c210 S (by simp) (λ_=>h0 hR) (λx hx=>by simp at hx)
theorem CR.next (S:CR z hW h sp p fb mb cb s n fl gs r C R E err P N)(W:CW hW dp sp p fb mb s base count q heads (fl s))(G:GP heads gs)(O:Out fl n C s gs r)(hN:N<=1000000)(h0:R=[]->Q (.int .i64 4) h)
  (h1:∀x R',R=x::R'->∀h' P' N',CR z hW h' sp p fb mb cb s n fl gs r C R' E (if R'=[] then E else 0) P' N'->N'<=N+1->zI (λb=>pbl p fb mb b∨b=cb) h h'->h.length<=h'.length->Q (.int .i64 (if R'=[] then E else 0)) h'):AC Tryz.prog 211 [.ptr (some ⟨cb,0⟩)] h Q:=by
 have few:=W.few
 rcases S with⟨i,a,l,S,A,hg,ha,hR,hE,he⟩|⟨hR,i,S,A⟩
 ·have hil:i<heads.length:=by rw[<-G.len];exact(List.getElem?_eq_some_iff.1 hg).1
  have hl10:=zRS G hg
  rw[zBR ha,List.cons_append] at hR
  have h1:=h1 _ _ hR
  obtain⟨P2,f1,A2⟩:=A.free S.C.ok
  refine c211 S W ha (by omega) hil (by omega) (λhlt h' S' K' l'=> ?_) (λheq hni rr P1 e1 h' S' K' l'=> ?_) (λheq hi1 rr P1 r1 l1 P3 e1 e2 h' S' K' l'=> ?_)
  ·have hne:l.drop (a+1)++(xP r (gs.drop (i+1)) (i+1)).1≠ []:=by rw[zBR hlt,List.cons_append];exact List.cons_ne_nil _ _
   have:=h1 h' P N (.inl ⟨i,a+1,l,S',A,hg,hlt,rfl,hE,if_neg hne⟩) (by omega) K' l'
   rw[if_neg hne] at this
   exact this
  ·rw[f1] at e1;cases e1
   have ht:xP r (gs.drop (i+1)) (i+1)=([],0):=zHT (by rw[G.len];omega)
   have hnil:l.drop (a+1)++(xP r (gs.drop (i+1)) (i+1)).1=[]:=by rw[ht,heq];simp
   rw[hnil,if_pos rfl] at h1
   rw[ht] at hE
   rw[hE] at h1
   exact h1 h' P2 N (.inr ⟨rfl,i,S',A2⟩) (by omega) K' l'
  ·rw[f1] at e1;cases e1
   have ok2:P2.ok:=by
    have:=free_ok (s:=s) (i:=(i:Int)) S.C.ok
    rw[f1] at this;exact this
   have hig:i+1<gs.length:=by rw[G.len];exact hi1
   have hg1:=List.getElem?_eq_getElem hig
   generalize gs[i+1]=g1 at hg1
   have hne:=G.ne g1 (List.mem_of_getElem? hg1)
   by_cases hr:r (i+1)=0
   ·obtain⟨P4,f2,A4⟩:=O.good A2 ok2 hg1 hr
    obtain⟨er,el,eP⟩:r1=0/\l1=g1/\P3=P4:=by
     rw[f2] at e2;cases e2;exact⟨rfl,rfl,rfl⟩
    subst er
    rw[el,eP] at S'
    have h0g:0<g1.length:=by
     cases g1 with
     |nil=>exact absurd rfl hne
     |cons a l=>simp
    have ht:=zP1 hg1 hr
    have hnil:l.drop (a+1)++(xP r (gs.drop (i+1)) (i+1)).1=g1.drop 0++(xP r (gs.drop (i+1+1)) (i+1+1)).1:=by rw[ht,heq];simp
    have hnn:g1.drop 0++(xP r (gs.drop (i+1+1)) (i+1+1)).1≠ []:=by
     rw[List.drop_zero]
     cases g1 with
     |nil=>exact absurd rfl hne
     |cons a l=>simp
    rw[hnil] at h1
    rw[if_neg hnn] at h1
    exact h1 h' P4 (N+1) (.inl ⟨i+1,0,g1,S',A4,hg1,h0g,rfl,by rw[hE,ht],rfl⟩) (by omega) K' l'
   ·have f2:=O.bad A2 ok2 hg1 hr
    obtain⟨er,el,eP⟩:r1=r (i+1)/\l1=[]/\P3=P2:=by
     rw[f2] at e2;cases e2;exact⟨rfl,rfl,rfl⟩
    have ht:=zM0 (gs:=gs) hig hr
    have hnil:l.drop (a+1)++(xP r (gs.drop (i+1)) (i+1)).1=[]:=by rw[ht,heq];simp
    rw[hnil,if_pos rfl] at h1
    have hE':E=r1:=by rw[hE,ht,er]
    rw[el,eP] at S'
    rw[hE'] at h1
    exact h1 h' P2 (N+1) (.inr ⟨rfl,i+1,S',A2⟩) (by omega) K' l'
 ·subst hR
  exact c211e S (h0 rfl)
theorem CR.close (S:CR z hW h sp p fb mb cb s n fl gs r C R E err P N)(W:CW hW dp sp p fb mb s base count q heads (fl s))(hN:N<=1000000)
  (h1:∀h' P',CR z hW h' sp p fb mb cb s n fl gs r C [] E err P' N->zI (λb=>pbl p fb mb b∨b=cb) h h'->h.length<=h'.length->Q (.tup []) h'):AC Tryz.prog 208 [.ptr (some ⟨cb,0⟩)] h Q:=by
 rcases S with⟨i,a,l,S,A,hg,ha,hR,hE,he⟩|⟨hR,i,S,A⟩
 ·obtain⟨P2,f1,A2⟩:=A.free S.C.ok
  refine c208 S W (by intro hn;rw[hn] at ha;simp at ha) hN f1 λh' S' K' l'=> ?_
  exact h1 h' P2 (.inr ⟨rfl,i,by rw[he];exact S',A2⟩) K' (by omega)
 ·exact c208e S (h1 h P (.inr ⟨rfl,i,S,A⟩) (.refl _ _) (Nat.le_refl _))
end
section
variable{z z':Nat->Prop}{hW h h':Heap}{Q:AHp}{dp sp base count p fb mb cb n N:Nat}{s:Bs}{q ql:OSl}{heads R:List Ent}{fl:Bs->Nat->Int×List Ent}{gs:List (List Ent)}{r:Nat->Int}{C:List Pg}{x:Ent}{E err:Int}{P:PS}
set_option maxHeartbeats 1000000 in
theorem CR.restA (S:CR z hW h sp p fb mb cb s n fl gs r C R E err P N)(W:CW hW dp sp p fb mb s base count q heads (fl s))(G:GP heads gs)(O:Out fl n C s gs r)(hN:N+R.length<=900000)
  (h0:R=[]∨E=0->∀q' h' z' P' N',CR z' hW h' sp p fb mb cb s n fl gs r C [] E (if R=[] then err else 0) P' N'->N'<=N+R.length->Apd entE h' q' R->(∀t,q'=some t->z' t.b/\h.length<=t.b)->(∀b,z b->z' b)->(∀b,z' b->z b∨h.length<=b)->zI (λb=>pbl p fb mb b∨b=cb) h h'->h.length<=h'.length->Q (.tup [.sl q',.int .i64 0]) h')
  (h1:R≠ []->E≠0->∀h' z' P' N',CR z' hW h' sp p fb mb cb s n fl gs r C [] E E P' N'->N'<=N+R.length->(∀b,z b->z' b)->zI (λb=>pbl p fb mb b∨b=cb) h h'->h.length<=h'.length->Q (.tup [.sl none,.int .i64 E]) h'):AC Tryz.prog 135 [.ptr (some ⟨cb,0⟩)] h Q:=ac135 (by
 unfold vc135
 refine zB (λg=>by simp at g) (λ_=> ?_)
 refine⟨λxs h5=>∃(q2:OSl) (told left:List Ent) (z5:Nat->Prop) (P5:PS) (N5:Nat) (err5:Int),xs=[.sl q2]/\R=told++left/\CR z5 hW h5 sp p fb mb cb s n fl gs r C left E err5 P5 N5/\N5<=N+told.length/\(if told=[] then err5=err else(left=[]->E=0/\err5=0))/\Apd entE h5 q2 told/\((∀b,z b->z5 b)/\∀b,z5 b->z b∨h.length<=b)/\(∀t,q2=some t->z5 t.b/\h.length<=t.b)/\zI (λb=>pbl p fb mb b∨b=cb) h h5/\h.length<=h5.length,λxs _=>match xs with | [.sl q2]=>R.length-zJ q2|_=>0,⟨none,[],R,z,P,N,err,rfl,rfl,S,by omega,by rw[if_pos rfl],.inl ⟨rfl,rfl⟩,⟨λ_ h=>h,λ_ h=>.inl h⟩,by simp,.refl _ _,Nat.le_refl _⟩,?_⟩
 rintro q2 h5 ⟨_,told,left,z5,P5,N5,err5,hx,hR5,S5,hN5,hend,A5,⟨hz5,zn5⟩,hq5,K5,l5⟩
 simp only[List.cons.injEq,AV.sl.injEq,and_true] at hx
 subst hx
 refine S5.peek G (λhl=>⟨_,_,_,_,_,rfl,zB (λ_=> ?_) (λg=>by simp at g)⟩) λx left' hl=>⟨_,_,_,_,_,rfl,zB (λg=>by simp at g) (λ_=> ?_)⟩
 ·subst hl
  rw[List.append_nil] at hR5
  subst hR5
  refine h0 ?_ q2 h5 z5 P5 N5 ?_ hN5 A5 hq5 hz5 zn5 K5 l5
  ·by_cases hr:R=[]
   ·exact .inl hr
   ·rw[if_neg hr] at hend
    exact .inr (hend rfl).1
  ·by_cases hr:R=[]
   ·rw[if_pos hr] at hend ⊢
    rw[hend] at S5;exact S5
   ·rw[if_neg hr] at hend ⊢
    rw[(hend rfl).2] at S5;exact S5
 subst hl
 have hRne:R≠ []:=by rw[hR5];simp
 obtain⟨zc,nwc,hWl,zl5,zp5⟩:=S5.zc
 have x14:Ext h5 (h5++[Blk.cells [.int .i64 x.1,.int .i64 x.2.1,.int .i64 x.2.2.1,.int .i64 x.2.2.2] true]):=.app _ _
 unfold PNew
 have S14:=S5.grow x14
 have l14:(h5++[Blk.cells [.int .i64 x.1,.int .i64 x.2.1,.int .i64 x.2.2.1,.int .i64 x.2.2.2] true]).length=h5.length+1:=by simp
 have hll:told.length+1+left'.length=R.length:=by rw[hR5];simp;omega
 refine Apd.append (E:=entE) (A5.ext x14) (HasL.new (E:=entE) (l:=[x]) (n:=1) rfl (by simp[Enc.all,entE])) (by simp;omega) λq15 h16 A16 K16 l16 f16=> ?_
 let z6:Nat->Prop:=λb=>z5 b∨∃t,q15=some t/\t.b=b
 have cbl:=S.zc
 have S16:CR z6 hW h16 sp p fb mb cb s n fl gs r C (x::left') E err5 P5 N5:=S14.step K16 (λb ⟨t,ht,hb⟩=>by rw[<-hb];exact(hq5 t ht).1) (λb ⟨t,ht,hb⟩=>by rw[<-hb];have:=(hq5 t ht).2;have:=cbl.2.2.1;omega) l16 (λb hb=>.inl hb) (λb hb=>by
   rcases hb with hb|⟨t,ht,rfl⟩
   ·exact .inl hb
   ·rcases f16 t ht with a|⟨u,hu,hb⟩
    ·exact .inr ⟨a,HasL.live A16.hasL t ht⟩
    ·rw[<-hb];exact .inl (hq5 u hu).1) (λ⟨t,ht,hb⟩=>by have:=(hq5 t ht).2;have:=cbl.2.2.2.1 _ cbl.1;omega)
 refine S16.next W G O (by omega) (λhc=>by cases hc) λy R' hy h18 P18 N18 S18 hN18 K18 l18=>⟨_,rfl,?_⟩
 cases hy
 have q15n:∀t,q15=some t->z6 t.b/\h.length<=t.b:=λt ht=>⟨.inr ⟨t,ht,rfl⟩,by
  rcases f16 t ht with a|⟨u,hu,hb⟩
  ·omega
  ·rw[<-hb];exact(hq5 u hu).2⟩
 have zn6:∀b,z6 b->z b∨h.length<=b:=λb hb=>by
  rcases hb with hb|⟨t,ht,rfl⟩
  ·exact zn5 b hb
  ·exact .inr (q15n t ht).2
 have A18:Apd entE h18 q15 (told++[x]):=A16.keeps K18 λt ht hc=>by
  rcases hc with hc|hc
  ·exact S16.zc.2.2.2.2 _ (q15n t ht).1 hc
  ·have:=(q15n t ht).2;have:=cbl.2.2.2.1 _ cbl.1;omega
 have KK:zI (λb=>pbl p fb mb b∨b=cb) h h18:=λb B hb hB=>by
  refine K18 _ _ hb (K16 _ _ (λ⟨t,ht,hc⟩=> ?_) (x14 _ _ (K5 _ _ hb hB)))
  have:=(hq5 t ht).2;have:=zD hB;omega
 refine zB (λg=> ?_) (λg=> ?_)
 ·by_cases hl:left'=[]
  ·rw[if_pos hl] at g S18
   subst hl
   rw[if_pos rfl]
   refine h1 hRne (by simpa using g) h18 z6 P18 N18 S18 ?_ (λb hb=>.inl (hz5 b hb)) KK (by omega)
   simp at hll;omega
  ·rw[if_neg hl] at g
   simp at g
 ·have g0:(if left'=[] then E else 0)=0:=by simpa using g
  refine⟨trivial,⟨q15,told++[x],left',z6,P18,N18,_,rfl,by rw[hR5];simp,S18,?_,?_,A18,⟨λb hb=>.inl (hz5 b hb),zn6⟩,q15n,KK,by omega⟩,?_⟩
  ·simp;omega
  ·rw[if_neg (by simp)]
   intro hl
   rw[if_pos hl] at g0
   exact⟨g0,by rw[if_pos hl];exact g0⟩
  ·have a1:=A18.hasL.len
   have a2:=A5.hasL.len
   simp only[List.length_append,List.length_cons,List.length_nil] at a1
   simp only[a1,a2]
   omega)
end
section
variable{h:Heap}{Q:AHp}{p sp cb i:Nat}{at' e0:Int}{q ql:OSl}{l:List Ent}{e:Ent}{a6 a8:Nat}
theorem c207 {j:Nat}{x:Ent}(c6:zA h ⟨a6,0⟩ 1=some [.ptr (some ⟨cb,0⟩)])(c8:zA h ⟨a8,0⟩ 4=some (entE.f e))(hc:h[cb]?=some (curC p sp i ql at' e0))(H:HasL entE h ql l)(hx:l[j]?=some x)
  (hQ:∀h',Ext h h'->Q (.bool (decide (¬ltE x e))) h'):AC Tryz.prog 207 [.int .i64 (j:Nat),.ptr (some ⟨a6,0⟩),.ptr (some ⟨a8,0⟩)] h Q:=ac207 (by
 unfold vc207
 have hil:=(List.getElem?_eq_some_iff.1 hx).1
 refine⟨_,c6,_,yW hc (k:=3) rfl,?_⟩
 refine idx4 H hx rfl λp hc=>⟨_,_,_,_,hc,_,_,_,_,c8,?_⟩
 refine z133 (a:=x) (b:=e) λh' x'=>⟨_,rfl,?_⟩
 have:=hQ h' x'
 have e1:decide (cmpE x e≥0)=decide (¬ltE x e):=decide_eq_decide.2 ⟨λg hc=>by have:=cmpE_lt.2 hc;omega,λg=>by
  rcases Int.lt_or_le (cmpE x e) 0 with h1|h1
  ·exact absurd (cmpE_lt.1 h1) g
  ·exact h1⟩
 rw[e1];exact this)
theorem c206 (c6:zA h ⟨a6,0⟩ 1=some [.ptr (some ⟨cb,0⟩)])(c8:zA h ⟨a8,0⟩ 4=some (entE.f e))(hc:h[cb]?=some (curC p sp i ql at' e0))(H:HasL entE h ql l)(hso:zN l)(hl:l.length<=100000)
  (hQ:∀k h',Ext h h'->k<=l.length->(∀i x,i<k->l[i]?=some x->ltE x e)->(∀i x,k<=i->l[i]?=some x->¬ltE x e)->Q (.int .i64 (k:Nat)) h'):
  AC Tryz.prog 206 [.int .i64 (l.length:Nat),.func (.func 207) [] [.ptr (some ⟨a6,0⟩),.ptr (some ⟨a8,0⟩)]] h Q:=ac206c (by
 unfold vc206c
 refine⟨λxs h8=>∃i j:Nat,xs=[.int .i64 (i:Nat),.int .i64 (j:Nat)]/\i<=j/\j<=l.length/\Ext h h8/\(∀k x,k<i->l[k]?=some x->ltE x e)/\(∀k x,j<=k->l[k]?=some x->¬ltE x e),
  λxs _=>match xs with | [.int _ i,.int _ j]=>(j-i).toNat|_=>0,⟨0,l.length,rfl,by omega,by omega,.refl _,by omega,λk x hk hx=>by have:=(List.getElem?_eq_some_iff.1 hx).1;omega⟩,?_⟩
 rintro n4 n5 h8 ⟨i,j,hx,hij,hj,x8,hlo,hhi⟩
 simp only[List.cons.injEq,AV.int.injEq,true_and,and_true] at hx
 obtain⟨rfl,rfl⟩:=hx
 refine zB (λg=> ?_) (λg=> ?_)
 ·replace g:=of_decide_eq_true g
  rw[mid_eq (by omega) (by omega)]
  have hm:(i+j)/2<l.length:=by omega
  have hmx:l[(i+j)/2]?=some l[(i+j)/2]:=List.getElem?_eq_getElem hm
  refine c207 (x8.cells c6) (x8.cells c8) (x8 _ _ hc) (H.mono x8) hmx λh10 x10=>⟨_,rfl,?_⟩
  refine zB (λg2=> ?_) (λg2=> ?_)
  ·have g2:ltE l[(i+j)/2] e:=by simpa using g2
   rw[zF ⟨by omega,by omega⟩]
   exact⟨trivial,⟨(i+j)/2+1,j,by simp,by omega,hj,x8.trans x10,λk x hk hx=>zAK (zAG hso (by omega) hx hmx) g2,hhi⟩,by simp only;omega⟩
  ·have g2:¬ltE l[(i+j)/2] e:=by simpa using g2
   exact⟨trivial,⟨i,(i+j)/2,by simp,by omega,by omega,x8.trans x10,hlo,λk x hk hx=>λhc=>g2 (zAK (zAG hso hk hmx hx) hc)⟩,by simp only;omega⟩
 ·replace g:=of_decide_eq_false g
  have:i=j:=by omega
  subst this
  exact hQ i h8 x8 hj hlo hhi)
end
section
variable{z:Nat->Prop}{hW h h':Heap}{Q:AHp}{dp sp base count p fb mb n N:Nat}{s:Bs}{q ql:OSl}{heads:List Ent}{fl:Bs->Nat->Int×List Ent}{gs:List (List Ent)}{r:Nat->Int}{C:List Pg}{e:Ent}{P:PS}
structure NewS(z0:Nat->Prop)(hW h:Heap)(sp p fb mb cb a6 a8 i:Nat)(e:Ent)(P:PS)(N:Nat):Prop where
 C:CP (λb=>z0 b∨b=cb) hW h p fb mb P N
 cell:∃ql at' e0,h[cb]?=some (curC p sp i ql at' e0)
 c6:zA h ⟨a6,0⟩ 1=some [.ptr (some ⟨cb,0⟩)]
 c8:zA h ⟨a8,0⟩ 4=some (entE.f e)
 n6:a6≠cb/\¬pbl p fb mb a6
 n8:a8≠cb/\¬pbl p fb mb a8
 nw:hW.length<=cb
theorem xR {X:Nat->Prop}{a k:Nat}{c:List AV}(K:zI X h h')(ha:¬X a)(hc:zA h ⟨a,0⟩ k=some c):zA h' ⟨a,0⟩ k=some c:=by
 obtain⟨C,rw',hb,hl,rfl⟩:=zE4 hc
 exact zP (K _ _ ha hb) hl
set_option maxHeartbeats 1000000 in
theorem zTU {z0:Nat->Prop}{cb a6 a8 i:Nat}{K:AHp}(S:NewS z0 hW h sp p fb mb cb a6 a8 i e P N)(W:CW hW dp sp p fb mb s base count q heads (fl s))(G:GP heads gs)(O:Out fl n C s gs r)(F:HP fl n C P)(hi:i<heads.length)(hN:N<=1000000){g:List Ent}(hg:gs[i]?=some g)
  (h0:r i=0->∀P1 h',CS (λb=>z0 b∨b=cb) hW h' sp p fb mb cb i g 0 0 P1 (N+1)->HP fl n ((s,i)::C) P1->zA h' ⟨a6,0⟩ 1=some [.ptr (some ⟨cb,0⟩)]->zA h' ⟨a8,0⟩ 4=some (entE.f e)->zI (λb=>pbl p fb mb b∨b=cb) h h'->h.length<=h'.length->K (.int .i64 0) h')
  (h1:r i≠0->∀h',CS (λb=>z0 b∨b=cb) hW h' sp p fb mb cb i [] 0 (r i) P (N+1)->zI (λb=>pbl p fb mb b∨b=cb) h h'->h.length<=h'.length->K (.int .i64 (r i)) h'):
  AC Tryz.prog 205 [.ptr (some ⟨cb,0⟩)] h K:=by
 obtain⟨ql,at',e0,hc⟩:=S.cell
 by_cases hr:r i=0
 ·obtain⟨P1,f1,H1⟩:=O.good F S.C.ok hg hr
  refine c205 S.C W hc (.inr rfl) S.nw hi hN f1 (λhc=>absurd rfl hc) λh' S' K' l'=> ?_
  exact h0 hr P1 h' S' H1 (xR K' (λhc=>by rcases hc with hc|hc;exact S.n6.2 hc;exact S.n6.1 hc) S.c6) (xR K' (λhc=>by rcases hc with hc|hc;exact S.n8.2 hc;exact S.n8.1 hc) S.c8) K' l'
 ·have f1:=O.bad F S.C.ok hg hr
  refine c205 S.C W hc (.inr rfl) S.nw hi hN f1 (λ_=>rfl) λh' S' K' l'=> ?_
  exact h1 hr h' S' K' l'
set_option maxHeartbeats 2000000 in
theorem c134 (C0:CP z hW h p fb mb P N)(W:CW hW dp sp p fb mb s base count q heads (fl s))(G:GP heads gs)(O:Out fl n C s gs r)(F:HP fl n C P)(hso:zN gs.flatten)(hN:N<=900000)
  (h0:(kS (xP r (gs.drop (jI heads e)) (jI heads e)).1 e≠ []∨(xP r (gs.drop (jI heads e)) (jI heads e)).2=0)->∀cb h' P' N',CR (λb=>z b∨b=cb) hW h' sp p fb mb cb s n fl gs r C (kS (xP r (gs.drop (jI heads e)) (jI heads e)).1 e) (xP r (gs.drop (jI heads e)) (jI heads e)).2 0 P' N'->N'<=N+heads.length->zI (pbl p fb mb) h h'->h.length<=h'.length->h.length<=cb->Q (.tup [.ptr (some ⟨cb,0⟩),.int .i64 0]) h')
  (h1:kS (xP r (gs.drop (jI heads e)) (jI heads e)).1 e=[]->(xP r (gs.drop (jI heads e)) (jI heads e)).2≠0->∀h' z' P' N',CP z' hW h' p fb mb P' N'->HP fl n C P'->(∀b,z b->z' b)->N'<=N+heads.length->zI (pbl p fb mb) h h'->h.length<=h'.length->Q (.tup [.ptr none,.int .i64 (xP r (gs.drop (jI heads e)) (jI heads e)).2]) h'):
  AC Tryz.prog 134 [.ptr (some ⟨p,0⟩),.ptr (some ⟨sp,0⟩),entV e] h Q:=ac134 (by
 unfold vc134 PNew
 dsimp only
 have few:=W.few
 have x8:Ext h (h++[Blk.cells [.int .i64 e.1,.int .i64 e.2.1,.int .i64 e.2.2.1,.int .i64 e.2.2.2] true]):=.app _ _
 have l8:(h++[Blk.cells [.int .i64 e.1,.int .i64 e.2.1,.int .i64 e.2.2.1,.int .i64 e.2.2.2] true]).length=h.length+1:=by simp
 have b8:(h++[Blk.cells [.int .i64 e.1,.int .i64 e.2.1,.int .i64 e.2.2.1,.int .i64 e.2.2.2] true])[h.length]?=some (.cells (entE.f e) true):=by simp[entE]
 generalize h++[Blk.cells [.int .i64 e.1,.int .i64 e.2.1,.int .i64 e.2.2.1,.int .i64 e.2.2.2] true]=h8 at*
 refine zB (λg=>by simp at g) (λ_=>zB (λg=>by simp at g) (λ_=> ?_))
 have c8:∀{hX:Heap},Ext h8 hX->zA hX ⟨h.length,0⟩ 4=some (entE.f e):=λx=>zP (p:=⟨h.length,0⟩) (x _ _ b8) (by simp[entE])
 refine⟨e.1,e.2.1,e.2.2.1,e.2.2.2,c8 (.refl _),?_⟩
 have C8:=C0.grow x8
 refine k203 (e:=e) (C8.seg W) (C8.hds W) W.so (by omega) λh14 x14=>⟨_,rfl,?_⟩
 have C14:=C8.grow x14
 generalize hi0:jI heads e=i0
 have x17:Ext h14 (h14++[curC p sp i0 none 0 0]):=.app _ _
 have b17:(h14++[curC p sp i0 none 0 0])[h14.length]?=some (curC p sp i0 none 0 0):=by simp
 have l17:(h14++[curC p sp i0 none 0 0]).length=h14.length+1:=by simp
 generalize hh17:h14++[curC p sp i0 none 0 0]=h17 at*
 generalize hcb:h14.length=cb at*
 have x14h:=x14.len
 have x8h:=x8.len
 refine zCF (o:=0) (c:=[.ptr none]) (p:=h17.length) (h:=h17++[Blk.cells [.ptr none] true]) (by simp) (by simp) ?_
 rw[show splice [AV.ptr none] 0 [.ptr (some ⟨cb,0⟩)]=[AV.ptr (some ⟨cb,0⟩)] from rfl]
 have x20:Ext h17 ((h17++[Blk.cells [.ptr none] true]).set h17.length (.cells [.ptr (some ⟨cb,0⟩)] true)):=λb B hB=>by
  have:=zD hB
  rw[List.getElem?_set,if_neg (by omega),List.getElem?_append_left this];exact hB
 have b20:((h17++[Blk.cells [.ptr none] true]).set h17.length (.cells [.ptr (some ⟨cb,0⟩)] true))[h17.length]?=some (.cells [.ptr (some ⟨cb,0⟩)] true):=List.getElem?_set_self (by simp)
 have l20:((h17++[Blk.cells [.ptr none] true]).set h17.length (.cells [.ptr (some ⟨cb,0⟩)] true)).length=h17.length+1:=by simp
 generalize(h17++[Blk.cells [.ptr none] true]).set h17.length (.cells [.ptr (some ⟨cb,0⟩)] true)=h20 at*
 generalize ha6:h17.length=a6 at*
 have xx:=x17.trans x20
 have C20:CP (λb=>z b∨b=cb) hW h20 p fb mb P N:=C14.more xx (by omega) (by omega)
 have c6:zA h20 ⟨a6,0⟩ 1=some [.ptr (some ⟨cb,0⟩)]:=zP (p:=⟨a6,0⟩) b20 (by simp)
 have plt:∀b,pbl p fb mb b->b<h.length:=λb hb=>C0.pool_lt hb
 have hWl:=C0.xl
 have S20:NewS z hW h20 sp p fb mb cb a6 h.length i0 e P N:=⟨C20,⟨none,0,0,x20 _ _ b17⟩,c6,c8 (x14.trans xx),⟨by omega,λhc=>by have:=plt _ hc;omega⟩,⟨by omega,λhc=>by have:=plt _ hc;omega⟩,by omega⟩
 refine k204 (C20.seg W) (C20.hds W) ⟨_,rfl,zB (λg=> ?_) (λg=> ?_)⟩
 ·have g:heads.length=0:=by
   have:((heads.length:Nat):Int)=0:=by simpa using g
   omega
  have hg0:gs=[]:=by
   cases gs with
   |nil=>rfl
   |cons a l=>have:=G.len;simp[g] at this
  have ht:xP r (gs.drop i0) i0=([],0):=zHT (by rw[hg0];simp)
  rw[hi0,ht] at h0
  refine⟨_,c6,h0 (.inr rfl) cb h20 P N (.inr ⟨rfl,i0,⟨C20,⟨none,x20 _ _ b17,rfl,by simp⟩,.inr rfl,by omega⟩,F⟩) (by omega) (zH (x8.trans (x14.trans xx))) (by omega) (by omega)⟩
 have hpos:0<heads.length:=by
  rcases Nat.eq_zero_or_pos heads.length with h0|h0
  ·rw[h0] at g;simp at g
  ·exact h0
 have K20:zI (pbl p fb mb) h h20:=zH (x8.trans (x14.trans xx))
 have hi0l:i0<heads.length:=by
  rw[<-hi0]
  unfold jI
  have:=List.length_filter_le (λh=>decide (ltE h e)) heads
  omega
 rw[hi0] at h0 h1
 generalize hL0:(xP r (gs.drop i0) i0).1=L0 at*
 generalize hE0:(xP r (gs.drop i0) i0).2=E0 at*
 refine⟨λxs h27=>xs=[]/\∃(i:Nat) (P:PS) (NN:Nat),NewS z hW h27 sp p fb mb cb a6 h.length i e P NN/\HP fl n C P/\i<heads.length/\i0<=i/\NN<=N+(i-i0)/\(kS (xP r (gs.drop i) i).1 e=kS L0 e/\(xP r (gs.drop i) i).2=E0)/\zI (pbl p fb mb) h h27/\h.length<=h27.length,
  λ_ h27=>match h27[cb]? with |some (.cells [_,_,.int _ i,_,_,_] _)=>(heads.length-i).toNat|_=>0,⟨rfl,i0,P,N,S20,F,hi0l,by omega,by omega,⟨by rw[hL0],hE0⟩,K20,by omega⟩,?_⟩
 rintro h27 ⟨_,i,P1,N1,S27,F27,hi,hi0i,hN1,⟨ahL,ahE⟩,K27,l27⟩
 obtain⟨ql27,at27,e27,hc27⟩:=S27.cell
 refine⟨_,S27.c6,?_⟩
 have hg:gs[i]?=some (gs[i]'(by rw[G.len];exact hi)):=List.getElem?_eq_getElem _
 generalize gs[i]'(by rw[G.len];exact hi)=pgl at hg
 refine zTU S27 W G O F27 hi (by omega) hg (λhr P2 h30 S30 H30 c630 c830 K30 l30=>⟨_,rfl,zB (λg=>by simp at g) (λ_=> ?_)⟩) (λhr h30 S30 K30 l30=>⟨_,rfl,zB (λ_=> ?_) (λg=>absurd (by simpa using g) hr)⟩)
 rotate_left
 ·have ht:=zM0 (gs:=gs) (by rw[G.len];exact hi) hr
  rw[ht] at ahL ahE
  have hnil:kS L0 e=[]:=by rw[<-ahL];rfl
  have hE:E0=r i:=ahE.symm
  rw[hE] at h1
  exact h1 hnil hr h30 _ P1 (N1+1) S30.C F27 (λb hb=>.inl hb) (by omega) (λb B hb hB=>K30 _ _ (λhc=>by
   rcases hc with hc|hc
   ·exact hb hc
   ·have:=zD hB;omega) (K27 _ _ hb hB)) (by omega)
 have ht:=zP1 hg hr
 rw[ht] at ahL ahE
 simp only at ahL ahE
 obtain⟨ql,hc30,Hl,hql⟩:=S30.cell
 have l10:=zRS G hg
 refine⟨_,c630,_,c630,⟨_,yW hc30 (k:=3) rfl,?_⟩⟩
 rw[Hl.len]
 have hsg:zN pgl:=by
  have hs2:=hso
  rw[zNI hg] at hs2
  exact(List.pairwise_append.1 (List.pairwise_append.1 hs2).2.1).1
 refine c206 c630 c830 hc30 Hl hsg (by omega) λk h37 x37 hk hlo hhi=>⟨_,rfl,⟨_,x37.cells c630,rfl⟩,?_⟩
 have S37:=S30.grow x37
 have hc37:=x37 _ _ hc30
 have hl37:=zD hc37
 refine yP (o:=4) hc37 (by simp) ?_
 rw[show splice [AV.ptr (some ⟨p,0⟩),.ptr (some ⟨sp,0⟩),.int .i64 (i:Nat),.sl ql,.int .i64 ((0:Nat):Int),.int .i64 0] 4 [.int .i64 (k:Nat)]=[AV.ptr (some ⟨p,0⟩),.ptr (some ⟨sp,0⟩),.int .i64 (i:Nat),.sl ql,.int .i64 (k:Nat),.int .i64 0] from rfl]
 have K40:zI (λb=>b=cb) h37 (h37.set cb (curC p sp i ql (k:Nat) 0)):=zO rfl
 have hc40:(h37.set cb (curC p sp i ql (k:Nat) 0))[cb]?=some (curC p sp i ql (k:Nat) 0):=List.getElem?_set_self hl37
 have l40:(h37.set cb (curC p sp i ql (k:Nat) 0)).length=h37.length:=List.length_set
 have S40:CS (λb=>z b∨b=cb) hW (h37.set cb (curC p sp i ql (k:Nat) 0)) sp p fb mb cb i pgl k 0 P2 (N1+1):=
  ⟨S37.C.other K40 (λb hb=>.inr hb) (λb hb=>by rw[hb];exact S37.nw) (by omega),⟨ql,hc40,K40.hasL (λt ht hb=>(hql t ht).1 (.inr hb)) (Hl.mono x37),hql⟩,.inr rfl,S37.nw⟩
 have c640:=xR K40 (λhb=>S20.n6.1 hb) (x37.cells c630)
 have c840:=xR K40 (λhb=>S20.n8.1 hb) (x37.cells c830)
 generalize h37.set cb (curC p sp i ql (k:Nat) 0)=h40 at*
 have x37l:=x37.len
 have hcbl:h.length<=cb:=by omega
 have KA:∀{h9:Heap},zI (λb=>pbl p fb mb b∨b=cb) h40 h9->zI (pbl p fb mb) h h9:=fun{h9} K b B hb hB=>by
  have hbl:=zD hB
  exact K _ _ (λhc=>by rcases hc with hc|hc;exact hb hc;omega) (K40 _ _ (λhc=>by have hc:b=cb:=hc;omega) (x37 _ _ (K30 _ _ (λhc=>by rcases hc with hc|hc;exact hb hc;omega) (K27 _ _ hb hB))))
 refine⟨_,c640,⟨_,yW hc40 (k:=4) rfl,_,c640,⟨_,yW hc40 (k:=3) rfl,?_⟩⟩⟩
 rw[Hl.len]
 have hlo':∀y∈pgl.take k,ltE y e:=λy hy=>by
  obtain⟨j,hj⟩:=List.getElem?_of_mem hy
  rw[List.getElem?_take] at hj
  split at hj
  ·rename_i hjk;exact hlo j y hjk hj
  ·cases hj
 obtain⟨P3,f3,F3⟩:=H30.free S40.C.ok
 have hskip:∀X:List Ent,kS (pgl++X) e=kS (pgl.drop k++X) e:=λX=>by
  have:=zEK (b:=pgl.drop k++X) hlo'
  rw[<-List.append_assoc,List.take_append_drop] at this
  exact this
 refine zB (λg2=> ?_) (λg2=> ?_)
 ·replace g2:=of_decide_eq_true g2
  have hkl:k<pgl.length:=by omega
  have hx:=List.getElem?_eq_getElem hkl
  have hfr:kS L0 e=pgl.drop k++(xP r (gs.drop (i+1)) (i+1)).1:=by
   rw[<-ahL,hskip,zBR hkl,List.cons_append]
   exact zHC (a:=[]) (by simp) (hhi k _ (Nat.le_refl _) hx)
  exact⟨_,c640,h0 (.inl (by rw[hfr,zBR hkl,List.cons_append];exact List.cons_ne_nil _ _)) cb h40 P2 (N1+1) (.inl ⟨i,k,pgl,S40,H30,hg,hkl,hfr,ahE.symm,rfl⟩) (by omega) (KA (.refl _ _)) (by omega) hcbl⟩
 replace g2:=of_decide_eq_false g2
 have hke:k=pgl.length:=by omega
 have ah1:kS (xP r (gs.drop (i+1)) (i+1)).1 e=kS L0 e:=by
  rw[<-ahL,hskip,hke,List.drop_length,List.nil_append]
 refine⟨_,c640,⟨_,yW hc40 (k:=2) rfl,?_⟩⟩
 refine k204 (S40.C.seg W) (S40.C.hds W) ⟨_,rfl,⟨_,yW hc40 (k:=2) rfl,rfl⟩,⟨_,c640,rfl⟩,?_⟩
 rw[zF ⟨by omega,by omega⟩]
 refine zB (λg3=> ?_) (λg3=> ?_)
 ·replace g3:=of_decide_eq_true g3
  refine⟨_,c640,c208 S40 W (G.ne _ (List.mem_of_getElem? hg)) (by omega) f3 λh56 S56 K56 l56=>⟨rfl,_,xR K56 (λhc=>by rcases hc with hc|hc;exact S20.n6.2 hc;exact S20.n6.1 hc) c640,?_⟩⟩
  have hte:xP r (gs.drop (i+1)) (i+1)=([],0):=zHT (by rw[G.len];omega)
  rw[hte] at ah1 ahE
  exact h0 (.inr ahE.symm) cb h56 P3 (N1+1) (.inr ⟨ah1.symm,i,S56,F3⟩) (by omega) (KA K56) (by omega) hcbl
 replace g3:=of_decide_eq_false g3
 refine⟨_,c640,c209 S40.C W hc40 (.inr rfl) S40.nw (by omega) f3 λh60 C60 hc60 K60 l60=>⟨rfl,_,xR K60 (λhc=>by rcases hc with hc|hc;exact S20.n6.2 hc;exact S20.n6.1 hc) c640,⟨_,yW hc60 (k:=2) rfl,?_⟩⟩⟩
 have hl60:=zD hc60
 refine yP (o:=2) hc60 (by simp) ?_
 rw[zF ⟨by omega,by omega⟩,show splice [AV.ptr (some ⟨p,0⟩),.ptr (some ⟨sp,0⟩),.int .i64 (i:Nat),.sl none,.int .i64 (k:Nat),.int .i64 0] 2 [.int .i64 ((i:Int)+1)]=[AV.ptr (some ⟨p,0⟩),.ptr (some ⟨sp,0⟩),.int .i64 ((i+1:Nat):Int),.sl none,.int .i64 (k:Nat),.int .i64 0] from rfl]
 have K65:zI (λb=>b=cb) h60 (h60.set cb (curC p sp (i+1) none (k:Nat) 0)):=zO rfl
 have hc65:(h60.set cb (curC p sp (i+1) none (k:Nat) 0))[cb]?=some (curC p sp (i+1) none (k:Nat) 0):=List.getElem?_set_self hl60
 have l65:(h60.set cb (curC p sp (i+1) none (k:Nat) 0)).length=h60.length:=List.length_set
 have c665:=xR K65 (λhb=>S20.n6.1 hb) (xR K60 (λhc=>by rcases hc with hc|hc;exact S20.n6.2 hc;exact S20.n6.1 hc) c640)
 have c865:=xR K65 (λhb=>S20.n8.1 hb) (xR K60 (λhc=>by rcases hc with hc|hc;exact S20.n8.2 hc;exact S20.n8.1 hc) c840)
 have C65:=C60.other K65 (λb hb=>.inr hb) (λb hb=>by rw[hb];exact S37.nw) (by omega)
 refine⟨trivial,⟨rfl,i+1,P3,N1+1,⟨C65,⟨_,_,_,hc65⟩,c665,c865,S20.n6,S20.n8,S37.nw⟩,F3,by omega,by omega,by omega,⟨ah1,ahE⟩,KA (λb B hb hB=>K65 _ _ (λhc=>hb (.inr hc)) (K60 _ _ hb hB)),by rw[List.length_set];omega⟩,?_⟩
 simp only
 rw[hc65,hc27]
 simp only
 omega)
end
end Go.Proofs.YtafmabnolelknaaGreatDoor

namespace Go.Proofs.YtafmabnolelknaaGreatDoor
open Go.Ab
open Go.Num hiding Bs snoc_ind
open Go.Ent Go.Seg
open Go.Page hiding Bs get
open Go.Dsk hiding Bs
open Go.Man (xE jN jY zFG zL5 zBD)
set_option linter.unusedVariables false
set_option linter.unusedSimpArgs false
section
attribute [local irreducible] xU xT
section
variable{h:Heap}{Q:AHp}{ow:yC}{p:Nat}{D:DS}
theorem k130D {n:Int}{s:Bs}{q:OSl}{l:List Ent}(L:Laid h)(R:xB h ow p D)(hpl:D.pends.length<=900000)(H:HasL entE h q l)(hl:l.length<=100000)
  (h0:mayS n l≠0->∀h',Ext h h'->Q (.int .i64 (mayS n l)) h')
  (h1:∀base:Nat,n=base->1<=base->base<=2305843009213693952->mayE l=0->zN l->∀b h' ow',((D.create s b).1=0->∀y∈D.files,y.b≠b)->xB h' ow' p (D.wr s (yS base l) b).2->yQ ow h ow' h'->Q (.int .i64 (D.wr s (yS base l) b).1) h'):
  AC Tryz.prog 130 [.ptr (some ⟨p,0⟩),.str s,.int .i64 n,.sl q] h Q:=ac130 (by
 unfold vc130
 refine k193 ⟨_,rfl,?_⟩
 rcases zG6 (n:=n) (l:=l) with⟨m1,m2⟩|hrest
 ·rw[m1]
  rw[m2] at h0
  exact zB (λ_=>h0 (by omega) _ (.refl _)) (λg=>by cases g)
 have m1:zAN n=true:=by
  rcases hrest with⟨m,_⟩|⟨m,_⟩|⟨m,_⟩<;>exact m
 rw[m1]
 refine zB (λg=>by cases g) (λ_=> ?_)
 obtain⟨base,rfl,b1,b2⟩:=zPM m1
 refine k158 L H hl ⟨b1,b2⟩ (λhm=>⟨_,_,rfl,zB (λ_=> ?_) (λg=>absurd (by simpa using g) hm)⟩) λhm q10 qs10 h9 L9=>⟨_,_,rfl,zB (λg=>by simp at g) (λ_=> ?_)⟩
 ·rcases hrest with⟨_,m2,m3⟩|⟨_,m2,_⟩|⟨_,m2,_⟩
  ·rw[m3] at h0;exact h0 m2 _ (.refl _)
  ·exact absurd m2 hm
  ·exact absurd m2 hm
 obtain⟨hok,hlm⟩:=zBG.1 hm
 refine z194 (H.mono L9.ext) (by omega) λh13 x13=>⟨_,rfl,zB (λg=> ?_) (λg=> ?_)⟩
 ·simp only[Bool.not_eq_true',decide_eq_false_iff_not] at g
  rcases hrest with⟨_,m2,m3⟩|⟨_,_,m2,m3⟩|⟨_,_,m2,_⟩
  ·exact absurd hm m2
  ·rw[m3] at h0;exact h0 (by omega) _ (L9.ext.trans x13)
  ·exact absurd m2 g
 have g:zN l:=by simpa using g
 have h1:=h1 base rfl b1 b2 hm g
 generalize hS:yS base l=S at*
 have h64:∀x∈S,x.length=64:=by rw[<-hS];exact zDG hok hlm
 have hSl:S.length<=40000:=by
  rw[<-hS,zAP]
  have:=kI hok;have:=zC2 hok;omega
 have x0:Ext h h13:=L9.ext.trans x13
 have I13:LlsB byE h13 q10 S h.length h9.length:=(LL.llsB L9).keeps (X:=λ_=>False) (zH x13) (λ_ _ _ h=>h)
 have lI:=I13.len
 have R13:=R.grow x0
 refine d195 R13 λb h16 ow16 R16 S16=>⟨_,rfl,?_⟩
 have h1:=h1 b
 unfold DS.wr at h1
 refine zB (λg=> ?_) (λg=> ?_)
 ·have g:¬(D.create s b).1=0:=by simpa using g
  rw[if_neg g] at h1
  exact h1 _ _ (λhc=>absurd hc g) R16 ((yQ.ext x0).trans S16)
 have g:(D.create s b).1=0:=by simpa using g
 rw[if_pos g] at h1
 have fresh:∀y∈D.files,y.b≠b:=by
  obtain⟨_,_,_,_,C16⟩:=R16
  have hb:=C16.blocks
  rw[zKW g,List.map_append,List.nodup_append] at hb
  intro y hy hc
  exact hb.2.2 y.b (List.mem_map_of_mem hy) b (by simp[mkF]) hc
 have h1:=λh' ow'=>h1 h' ow' (λ_=>fresh)
 have hpl0:(D.create s b).2.pends.length<=900000:=by rw[zKV];exact hpl
 generalize(D.create s b).2=D0 at*
 have hown:∀(ow':yC) (h':Heap),yQ ow h13 ow' h'->∀c,h.length<=c->c<h9.length->ow' c=none:=λow' h' st c c1 c2=>by
  cases hc:ow' c with
  |none=>rfl
  |some r=>
   exfalso
   rcases st.own c (by rw[hc];simp) with h2|h2
   ·have:=R.live c h2;omega
   ·have:=x13.len;omega
 have hXs:∀(ow':yC) (h':Heap),yQ ow h13 ow' h'->∀c,h.length<=c->c<h9.length->¬dsk ow' c:=λow' h' st c c1 c2 hc=>hc (hown ow' h' st c c1 c2)
 refine⟨λxs h21=>∃(i:Nat) (ow21:yC) (E:DS),xs=[.int .i64 i]/\i<=S.length/\kJ s (S.take i) D0=(0,E)/\xB h21 ow21 p E/\yQ ow h13 ow21 h21/\LlsB byE h21 q10 S h.length h9.length,
  λxs _=>match xs with | [.int _ i]=>(S.length-i).toNat|_=>0,⟨0,ow16,D0,rfl,by omega,rfl,R16,S16,I13.keeps S16.keeps (λc c1 c2 hc=>by have:=R.live c hc;omega)⟩,?_⟩
 rintro n18 h21 ⟨i,ow21,E,hx,hi,hE,R21,S21,I21⟩
 simp only[List.cons.injEq,AV.int.injEq,true_and,and_true] at hx
 subst hx
 have htl:(S.take i).length=i:=by rw[List.length_take];omega
 have hple:E.pends.length<=1000000:=by
  have:=zE5 (s:=s) (l:=S.take i) (D:=D0)
  rw[hE,htl] at this
  simp only at this
  omega
 refine zB (λg2=> ?_) (λg2=> ?_)
 ·replace g2:=of_decide_eq_true g2
  refine I21.idx (by omega) (by omega) λp22 q23 x hx hc Hx hxb=>⟨q23,hc,?_⟩
  have hx':S[i]?=some x:=by simpa using hx
  refine d196 R21 Hx (λt ht=>hown ow21 h21 S21 _ (hxb t ht).1 (hxb t ht).2) hple λh25 ow25 R25 S25=>⟨_,rfl,?_⟩
  refine zB (λg3=> ?_) (λg3=> ?_)
  ·have g3:(E.append s x).1≠0:=by simpa using g3
   have hst:=zMH hE hx' g3
   rw[hst,if_neg g3] at h1
   exact h1 _ _ R25 ((yQ.ext x0).trans (S21.trans S25))
  ·have g3:(E.append s x).1=0:=by simpa using g3
   rw[zF ⟨by omega,by omega⟩]
   exact⟨trivial,⟨i+1,ow25,_,by simp,by omega,zSP hE hx' g3,R25,S21.trans S25,I21.keeps S25.keeps (hXs ow21 h21 S21)⟩,by simp only;omega⟩
 ·replace g2:=of_decide_eq_false g2
  have:i=S.length:=by omega
  subst this
  rw[List.take_length] at hE
  rw[hE,if_pos rfl] at h1
  exact d197 R21 hple λh28 ow28 R28 S28=>⟨_,rfl,h1 _ _ R28 ((yQ.ext x0).trans (S21.trans S28))⟩)
end
end
end Go.Proofs.YtafmabnolelknaaGreatDoor
namespace Go.Proofs.YtafmabnolelknaaGreatDoor
open Go.Ab
open Go.Num hiding Bs snoc_ind
open Go.Ent Go.Seg
open Go.Page hiding Bs get
open Go.Dsk hiding Bs
set_option linter.unusedVariables false
set_option linter.unusedSimpArgs false
theorem zQ7:∀{l:List Bs},(∀x∈l,x.length=64)->l.map pad=l
 | [],_=>rfl
 |y::l,h=>by rw[List.map_cons,zTL (h y (by simp)),zQ7 (λx hx=>h x (by simp[hx]))]
end Go.Proofs.YtafmabnolelknaaGreatDoor


namespace Go.Proofs.YtafmabnolelknaaGreatDoor
open Go.Ab
open Go.Num hiding Bs snoc_ind
open Go.Ent Go.Seg Go.Cur
open Go.Page hiding Bs get
open Go.Dsk hiding Bs
open Go.Pool hiding Bs Ents zT Fr least
set_option linter.unusedVariables false
set_option linter.unusedSimpArgs false
theorem gp_of {l:List Ent}(hok:∀e∈l,yH e=true):GP (zV (zR l)) (zR l):=
 ⟨(zBN hok).symm,λg hg=>(yR hok g hg).1,λg hg=>by
  obtain⟨i,hi⟩:=List.getElem?_of_mem hg
  exact zJZ hok hi⟩
end Go.Proofs.YtafmabnolelknaaGreatDoor



namespace Go.Proofs.YtafmabnolelknaaGreatDoor
open Go.Ab
open Go.Num hiding Bs snoc_ind
open Go.Ent Go.Seg Go.Cur
open Go.Page hiding Bs get
open Go.Dsk hiding Bs
open Go.Pool hiding Bs Ents zT Fr least
set_option linter.unusedVariables false
set_option linter.unusedSimpArgs false
structure CurD where
  sp:Nat
  dp:Nat
  base:Nat
  count:Nat
  s:Bs
  q:OSl
  heads:List Ent
  gs:List (List Ent)
  r:Nat->Int
structure CuG(hW:Heap)(p fb mb:Nat)(fl:Bs->Nat->Int×List Ent)(d:CurD):Prop where
  W:CW hW d.dp d.sp p fb mb d.s d.base d.count d.q d.heads (fl d.s)
  G:GP d.heads d.gs
  O:∀(i:Nat) (g:List Ent),d.gs[i]?=some g->(d.r i=0/\fl d.s i=(0,g))∨(d.r i≠0/\(fl d.s i).1=d.r i)
structure Cu where
  cb:Nat
  d:CurD
  R:List Ent
  E:Int
  pg:Option Nat
def Cu.pages(c:Cu):List Pg:=match c.pg with |some i=>[(c.d.s,i)]|none=>[]
theorem Cu.pages_len (c:Cu):c.pages.length<=1:=by
  unfold Cu.pages
  split<;>simp
def zMN(z:Nat->Prop)(hW h:Heap)(p fb mb:Nat)(c:Cu):Prop:=z c.cb/\hW.length<=c.cb/\
  ((∃(i a:Nat) (l:List Ent) (ql:OSl),c.pg=some i/\h[c.cb]?=some (curC p c.d.sp i ql (a:Nat) 0)/\HasL entE h ql l/\(∀t,ql=some t->¬z t.b/\¬pbl p fb mb t.b)/\c.d.gs[i]?=some l/\a<l.length/\c.R=l.drop a++(xP c.d.r (c.d.gs.drop (i+1)) (i+1)).1/\c.E=(xP c.d.r (c.d.gs.drop (i+1)) (i+1)).2)∨
   (c.pg=none/\c.R=[]/\∃(i:Nat) (ql:OSl) (er:Int),h[c.cb]?=some (curC p c.d.sp i ql ((0:Nat):Int) er)/\HasL entE h ql []/\∀t,ql=some t->¬z t.b/\¬pbl p fb mb t.b))
structure CA(z:Nat->Prop)(hW h:Heap)(p fb mb n:Nat)(fl:Bs->Nat->Int×List Ent)(cs:List Cu)(P:PS)(N:Nat):Prop where
  C:CP z hW h p fb mb P N
  A:HP fl n (cs.flatMap Cu.pages) P
  one:∀c∈cs,zMN z hW h p fb mb c
  nd:(cs.map (·.cb)).Nodup
  few:cs.length<=n
  g:∀c∈cs,CuG hW p fb mb fl c.d
section
variable{z z':Nat->Prop}{hW h h':Heap}{Q:AHp}{p fb mb n N N':Nat}{fl:Bs->Nat->Int×List Ent}{cs a b:List Cu}{c:Cu}{P P':PS}
theorem zL8:∀H:List Pg,dist H<=H.length
  | []=>Nat.le_refl _
  |x::H=>by
    have:=zL8 H
    simp only[dist,List.length_cons]
    split<;>omega
theorem zFZ:∀cs:List Cu,(cs.flatMap Cu.pages).length<=cs.length
  | []=>Nat.le_refl _
  |c::cs=>by
    have:=zFZ cs
    have:=c.pages_len
    simp only[List.flatMap_cons,List.length_append,List.length_cons];omega
theorem CuG.out (G:CuG hW p fb mb fl c.d){C:List Pg}(hd:dist C<n):Out fl n C c.d.s c.d.gs c.d.r:=λi g hg=>by
  rcases G.O i g hg with⟨h1,h2⟩|⟨h1,h2⟩
  · exact .inl ⟨h1,h2,.inr hd⟩
  · exact .inr ⟨h1,.inl h2⟩
theorem zMN.keeps (o:zMN z hW h p fb mb c){X:Nat->Prop}(K:zI X h h')(hX:∀b,X b->z b∨pbl p fb mb b)(hc:¬X c.cb)(h1:∀b,z b->z' b)(h2:∀b,z' b->z b∨h.length<=b):zMN z' hW h' p fb mb c:=by
  obtain⟨o1,o2,o3⟩:=o
  have key:∀{ql:OSl} {l:List Ent},HasL entE h ql l->(∀t,ql=some t->¬z t.b/\¬pbl p fb mb t.b)->HasL entE h' ql l/\∀t,ql=some t->¬z' t.b/\¬pbl p fb mb t.b:=fun{ql l} H d=>⟨K.hasL (λt ht hb=>by
      rcases hX _ hb with hz|hp
      · exact(d t ht).1 hz
      · exact(d t ht).2 hp) H,λt ht=>⟨λhz=>by
      rcases h2 _ hz with hz|hz
      · exact(d t ht).1 hz
      · have:=HasL.live H t ht;omega,(d t ht).2⟩⟩
  refine⟨h1 _ o1,o2,?_⟩
  rcases o3 with⟨i,a,l,ql,e1,e2,e3,e4,e5⟩|⟨e1,e2,i,ql,er,e3,e4,e5⟩
  · obtain⟨k1,k2⟩:=key e3 e4
    exact .inl ⟨i,a,l,ql,e1,K _ _ hc e2,k1,k2,e5⟩
  · obtain⟨k1,k2⟩:=key e4 e5
    exact .inr ⟨e1,e2,i,ql,er,K _ _ hc e3,k1,k2⟩
theorem CA.step (A:CA z hW h p fb mb n fl cs P N){X:Nat->Prop}(K:zI X h h')(hX:∀b,X b->z b)(hN:∀b,X b->hW.length<=b)(hl:h.length<=h'.length)(h1:∀b,z b->z' b)(h2:∀b,z' b->z b∨(h.length<=b/\b<h'.length))(hc:∀c∈cs,¬X c.cb):CA z' hW h' p fb mb n fl cs P N:=
  ⟨A.C.step K hX hN hl h1 h2,A.A,λc hm=>(A.one c hm).keeps K (λb hb=>.inl (hX b hb)) (hc c hm) h1 (λb hb=>(h2 b hb).imp id And.left),A.nd,A.few,A.g⟩
theorem CA.grow (A:CA z hW h p fb mb n fl cs P N)(x:Ext h h'):CA z hW h' p fb mb n fl cs P N:=
  A.step (X:=λ_=>False) (zH x) (λ_ h=>h.elim) (λ_ h=>h.elim) x.len (λ_ h=>h) (λ_ h=>.inl h) (λ_ _ h=>h)
theorem CA.ctx (A:CA z hW h p fb mb n fl (a++c::b) P N):HP fl n (c.pages++(a++b).flatMap Cu.pages) P/\dist ((a++b).flatMap Cu.pages)<n:=by
  have hl:=A.few
  refine⟨A.A.perm ?_,?_⟩
  · rw[List.flatMap_append,List.flatMap_cons,List.flatMap_append]
    exact(List.perm_append_comm_assoc _ _ _)
  · have h1:=zL8 ((a++b).flatMap Cu.pages)
    have h2:=zFZ (a++b)
    simp only[List.length_append,List.length_cons] at hl h2
    omega
theorem CA.cr (A:CA z hW h p fb mb n fl (a++c::b) P N):∃er,CR z hW h c.d.sp p fb mb c.cb c.d.s n fl c.d.gs c.d.r ((a++b).flatMap Cu.pages) c.R c.E er P N:=by
  obtain⟨o1,o2,o3⟩:=A.one c (by simp)
  have hp:=A.ctx.1
  rcases o3 with⟨i,at',l,ql,e1,e2,e3,e4,e5,e6,e7,e8⟩|⟨e1,e2,i,ql,er,e3,e4,e5⟩
  · have:c.pages=[(c.d.s,i)]:=by unfold Cu.pages;rw[e1]
    rw[this] at hp
    exact⟨0,.inl ⟨i,at',l,⟨A.C,⟨ql,e2,e3,e4⟩,o1,o2⟩,hp,e5,e6,e7,e8,rfl⟩⟩
  · have:c.pages=[]:=by unfold Cu.pages;rw[e1]
    rw[this] at hp
    exact⟨er,.inr ⟨e2,i,⟨A.C,⟨ql,e3,e4,e5⟩,o1,o2⟩,hp⟩⟩
theorem CA.back (A:CA z hW h p fb mb n fl (a++c::b) P N){R:List Ent}{E er:Int}(S:CR z hW h' c.d.sp p fb mb c.cb c.d.s n fl c.d.gs c.d.r ((a++b).flatMap Cu.pages) R E er P' N')(K:zI (λb=>pbl p fb mb b∨b=c.cb) h h'):
    ∃pg,CA z hW h' p fb mb n fl (a++⟨c.cb,c.d,R,E,pg⟩::b) P' N':=by
  have hnd:=A.nd
  have hz:=(A.one c (by simp)).1
  have hW':=(A.one c (by simp)).2.1
  have cne:∀u,u∈a∨u∈b->u.cb≠c.cb:=λu hu=>by
    rw[List.map_append,List.map_cons,List.nodup_append] at hnd
    obtain⟨n1,n2,n3⟩:=hnd
    rw[List.nodup_cons] at n2
    rcases hu with hu|hu
    · exact λhe=>n3 _ (List.mem_map_of_mem hu) _ (by simp) he
    · exact λhe=>n2.1 (by rw[<-he];exact List.mem_map_of_mem hu)
  have others:∀u,u∈a∨u∈b->zMN z hW h' p fb mb u:=λu hu=>(A.one u (by rcases hu with hu|hu<;>simp[hu])).keeps K (λb hb=>by
      rcases hb with hb|hb
      · exact .inr hb
      · exact .inl (by rw[hb];exact hz)) (λhb=>by
      rcases hb with hb|hb
      · exact A.C.zp _ (A.one u (by rcases hu with hu|hu<;>simp[hu])).1 hb
      · exact cne u hu hb) (λ_ h=>h) (λ_ h=>.inl h)
  have fin:∀pg,HP fl n ((⟨c.cb,c.d,R,E,pg⟩:Cu).pages++(a++b).flatMap Cu.pages) P'->zMN z hW h' p fb mb ⟨c.cb,c.d,R,E,pg⟩->CP z hW h' p fb mb P' N'->CA z hW h' p fb mb n fl (a++⟨c.cb,c.d,R,E,pg⟩::b) P' N':=λpg hp ho hc=>by
    refine⟨hc,hp.perm ?_,λu hu=> ?_,by simpa using hnd,by have:=A.few;simpa using this,λu hu=> ?_⟩
    · rw[List.flatMap_append,List.flatMap_append,List.flatMap_cons]
      exact(List.perm_append_comm_assoc _ _ _)
    · rcases List.mem_append.1 hu with hu|hu
      · exact others u (.inl hu)
      · rcases List.mem_cons.1 hu with rfl|hu
        · exact ho
        · exact others u (.inr hu)
    · rcases List.mem_append.1 hu with hu|hu
      · exact A.g u (by simp[hu])
      · rcases List.mem_cons.1 hu with rfl|hu
        · exact A.g c (by simp)
        · exact A.g u (by simp[hu])
  rcases S with⟨i,at',l,S,hp,hg,ha,hR,hE,he⟩|⟨hR,i,S,hp⟩
  · obtain⟨ql,c1,c2,c3⟩:=S.cell
    exact⟨some i,fin _ hp ⟨hz,hW',.inl ⟨i,at',l,ql,rfl,c1,c2,c3,hg,ha,hR,hE⟩⟩ S.C⟩
  · obtain⟨ql,c1,c2,c3⟩:=S.cell
    exact⟨none,fin _ hp ⟨hz,hW',.inr ⟨rfl,hR,i,ql,er,c1,c2,c3⟩⟩ S.C⟩
theorem CA.peek (A:CA z hW h p fb mb n fl (a++c::b) P N)(h0:c.R=[]->Q (.tup [entV (0,0,0,0),.bool false]) h)(h1:∀x R',c.R=x::R'->Q (.tup [entV x,.bool true]) h):AC Tryz.prog 210 [.ptr (some ⟨c.cb,0⟩)] h Q:=by
  obtain⟨er,S⟩:=A.cr
  exact S.peek (A.g c (by simp)).G h0 h1
theorem CA.next {x:Ent}{R':List Ent}(A:CA z hW h p fb mb n fl (a++c::b) P N)(hN:N<=1000000)(hR:c.R=x::R')
    (h1:∀h' P' N' pg,CA z hW h' p fb mb n fl (a++⟨c.cb,c.d,R',c.E,pg⟩::b) P' N'->N'<=N+1->zI (λb=>pbl p fb mb b∨b=c.cb) h h'->h.length<=h'.length->Q (.int .i64 (if R'=[] then c.E else 0)) h'):AC Tryz.prog 211 [.ptr (some ⟨c.cb,0⟩)] h Q:=by
  obtain⟨er,S⟩:=A.cr
  have g:=A.g c (by simp)
  refine S.next g.W g.G (g.out A.ctx.2) hN (λh0=>by rw[hR] at h0;cases h0) λy R2 hR2 h2 P2 N2 S2 hN2 K2 l2=> ?_
  rw[hR] at hR2
  obtain⟨rfl,rfl⟩:=List.cons.inj hR2
  obtain⟨pg,A2⟩:=A.back S2 K2
  exact h1 h2 P2 N2 pg A2 hN2 K2 l2
theorem CA.close (A:CA z hW h p fb mb n fl (a++c::b) P N)(hN:N<=1000000)
    (h1:∀h' P' pg,CA z hW h' p fb mb n fl (a++⟨c.cb,c.d,[],c.E,pg⟩::b) P' N->zI (λb=>pbl p fb mb b∨b=c.cb) h h'->h.length<=h'.length->Q (.tup []) h'):AC Tryz.prog 208 [.ptr (some ⟨c.cb,0⟩)] h Q:=by
  obtain⟨er,S⟩:=A.cr
  refine S.close (A.g c (by simp)).W hN λh2 P2 S2 K2 l2=> ?_
  obtain⟨pg,A2⟩:=A.back S2 K2
  exact h1 h2 P2 pg A2 K2 l2
theorem CA.noHeld (A:CA z hW h p fb mb n fl cs P N)(hR:∀c∈cs,c.R=[]):P.held=0:=by
  have:∀c∈cs,c.pages=[]:=λc hc=>by
    obtain⟨_,_,o3⟩:=A.one c hc
    rcases o3 with⟨i,at',l,ql,e1,e2,e3,e4,e5,e6,e7,e8⟩|⟨e1,_⟩
    · rw[hR c hc] at e7
      have:=congrArg List.length e7
      rw[List.length_append,List.length_drop] at this
      simp only[List.length_nil] at this
      omega
    · unfold Cu.pages;rw[e1]
  have h0:cs.flatMap Cu.pages=[]:=List.flatMap_eq_nil_iff.2 this
  have:=A.A
  rw[h0] at this
  exact this.cnt0
theorem CA.add {sp cb:Nat}{d:CurD}{R:List Ent}{E er:Int}(A:CA z hW h p fb mb n fl cs P N)(g:CuG hW p fb mb fl d)(K:zI (pbl p fb mb) h h')(hcb:h.length<=cb)(hf:cs.length+1<=n)(h1:∀b,z b->z' b)(h2:∀b,z' b->z b∨h.length<=b)
    (S:CR z' hW h' d.sp p fb mb cb d.s n fl d.gs d.r (cs.flatMap Cu.pages) R E er P' N'):∃pg,CA z' hW h' p fb mb n fl (⟨cb,d,R,E,pg⟩::cs) P' N':=by
  have hlt:∀u∈cs,u.cb<h.length:=λu hu=>A.C.zl _ (A.one u hu).1
  have fin:∀pg,HP fl n ((⟨cb,d,R,E,pg⟩:Cu).pages++cs.flatMap Cu.pages) P'->zMN z' hW h' p fb mb ⟨cb,d,R,E,pg⟩->CP z' hW h' p fb mb P' N'->CA z' hW h' p fb mb n fl (⟨cb,d,R,E,pg⟩::cs) P' N':=λpg hp ho hc=>by
    refine⟨hc,by rw[List.flatMap_cons];exact hp,λu hu=> ?_,?_,by simp only[List.length_cons];omega,λu hu=> ?_⟩
    · rcases List.mem_cons.1 hu with rfl|hu
      · exact ho
      · exact(A.one u hu).keeps K (λb hb=>.inr hb) (λhb=>A.C.zp _ (A.one u hu).1 hb) h1 h2
    · rw[List.map_cons,List.nodup_cons]
      refine⟨λhm=> ?_,A.nd⟩
      obtain⟨u,hu,he⟩:=List.mem_map.1 hm
      have:=hlt u hu
      have he:u.cb=cb:=he
      omega
    · rcases List.mem_cons.1 hu with rfl|hu
      · exact g
      · exact A.g u hu
  rcases S with⟨i,at',l,S,hp,hg,ha,hR,hE,he⟩|⟨hR,i,S,hp⟩
  · obtain⟨ql,c1,c2,c3⟩:=S.cell
    exact⟨some i,fin _ hp ⟨S.zc,S.nw,.inl ⟨i,at',l,ql,rfl,c1,c2,c3,hg,ha,hR,hE⟩⟩ S.C⟩
  · obtain⟨ql,c1,c2,c3⟩:=S.cell
    exact⟨none,fin _ hp ⟨S.zc,S.nw,.inr ⟨rfl,hR,i,ql,er,c1,c2,c3⟩⟩ S.C⟩
end
end Go.Proofs.YtafmabnolelknaaGreatDoor
namespace Go.Proofs.YtafmabnolelknaaGreatDoor.Mer
open Go.Ab
open Go.Num hiding Bs snoc_ind
open Go.Ent Go.Seg Go.Cur
open Go.Page hiding Bs get
open Go.Dsk hiding Bs
open Go.Pool hiding Bs Ents zT Fr least
set_option linter.unusedVariables false
set_option linter.unusedSimpArgs false
structure HD where
 hb:Nat
 lb:Nat
 k:Bool
 e:Ent
 r:List Ent
 rr:List Ent
 E:Int
def swp{α:Type}(l:List α)(i k:Nat):List α:=match l[i]?,l[k]? with |some a,some b=>(l.set i b).set k a|_,_=>l
theorem zP3 {α:Type}{l:List α}{i k:Nat}{a b:α}(ha:l[i]?=some a)(hb:l[k]?=some b):swp l i k=(l.set i b).set k a:=by simp only[swp,ha,hb]
theorem zLA {α:Type}{l:List α}{i k:Nat}:(swp l i k).length=l.length:=by
 unfold swp;split<;>simp
theorem zFD {α:Type}{l:List α}{i k:Nat}{a b:α}(ha:l[i]?=some a)(hb:l[k]?=some b):(swp l i k).Perm l:=by
 rw[zP3 ha hb]
 obtain⟨hi,rfl⟩:=List.getElem?_eq_some_iff.1 ha
 obtain⟨hk,rfl⟩:=List.getElem?_eq_some_iff.1 hb
 exact List.set_set_perm hi hk
theorem zHU {α:Type}{l:List α}{i k j:Nat}{a b:α}(ha:l[i]?=some a)(hb:l[k]?=some b):(swp l i k)[j]?=if j=k then some a else if j=i then some b else l[j]?:=by
 have hi:=zD ha
 have hk:=zD hb
 rw[zP3 ha hb,List.getElem?_set]
 by_cases h1:k=j
 ·subst h1;rw[if_pos rfl,if_pos (by simpa using hk),if_pos rfl]
 ·rw[if_neg h1,if_neg (Ne.symm h1),List.getElem?_set]
  by_cases h2:i=j
  ·subst h2;rw[if_pos rfl,if_pos hi,if_pos rfl]
  ·rw[if_neg h2,if_neg (Ne.symm h2)]
theorem swp_map {α β:Type}(f:α->β){l:List α}{i k:Nat}:(swp l i k).map f=swp (l.map f) i k:=by
 unfold swp
 rw[List.getElem?_map,List.getElem?_map]
 cases l[i]?<;>cases l[k]?<;>simp[List.map_set]
def Kid(j c:Nat):Prop:=c=2*j+1∨c=2*j+2
def xX(H:List HD)(n lo:Nat):Prop:=∀j c x y,lo<=j->Kid j c->c<n->H[j]?=some x->H[c]?=some y->leE x.e y.e
def DInv(H:List HD)(n lo i:Nat):Prop:=
 (∀j c x y,lo<=j->j≠i->Kid j c->c<n->H[j]?=some x->H[c]?=some y->leE x.e y.e)/\
 (∀j c x y,lo<=j->Kid j i->Kid i c->c<n->H[j]?=some x->H[c]?=some y->leE x.e y.e)
theorem zOX {H:List HD}{n lo:Nat}(h:xX H n (lo+1)):DInv H n lo lo:=
 ⟨λj c x y h1 h2 h3 h4 h5 h6=>h j c x y (by omega) h3 h4 h5 h6,λj c x y h1 h2=>by unfold Kid at h2;omega⟩
theorem zUB {H:List HD}{n lo i:Nat}(D:DInv H n lo i)(h:∀c x y,Kid i c->c<n->H[i]?=some x->H[c]?=some y->leE x.e y.e):xX H n lo:=by
 intro j c x y h1 h2 h3 h4 h5
 by_cases hj:j=i
 ·subst hj;exact h c x y h2 h3 h4 h5
 ·exact D.1 j c x y h1 hj h2 h3 h4 h5
theorem zSA {H:List HD}{n lo i c0:Nat}{x y:HD}(D:DInv H n lo i)(hlo:lo<=i)(hx:H[i]?=some x)(hy:H[c0]?=some y)(hk:Kid i c0)(hc:c0<n)(hlt:leE y.e x.e)
  (hmin:∀c z,Kid i c->c<n->H[c]?=some z->leE y.e z.e):DInv (swp H i c0) n lo c0:=by
 have hne:c0≠i:=by unfold Kid at hk;omega
 have get:=λj=>zHU (j:=j) hx hy
 refine⟨λj c u v h1 h2 h3 h4 h5 h6=> ?_,λj c u v h1 h2 h3 h4 h5 h6=> ?_⟩
 ·rw[get] at h5 h6
  rw[if_neg h2] at h5
  by_cases hj:j=i
  ·subst hj
   rw[if_pos rfl] at h5
   cases h5
   by_cases hcc:c=c0
   ·rw[if_pos hcc] at h6;cases h6;exact hlt
   ·rw[if_neg hcc,if_neg (by unfold Kid at h3;omega)] at h6
    exact hmin c v h3 h4 h6
  ·rw[if_neg hj] at h5
   by_cases hcc:c=c0
   ·exfalso;unfold Kid at hk h3;omega
   ·rw[if_neg hcc] at h6
    by_cases hci:c=i
    ·rw[if_pos hci] at h6;cases h6
     subst hci
     exact D.2 j c0 _ _ h1 h3 hk hc h5 hy
    ·rw[if_neg hci] at h6
     exact D.1 j c u v h1 hj h3 h4 h5 h6
 ·have hj:j=i:=by unfold Kid at h2 hk;omega
  subst hj
  rw[get] at h5 h6
  rw[if_neg (Ne.symm hne),if_pos rfl] at h5
  cases h5
  rw[if_neg (by unfold Kid at h3;omega),if_neg (by unfold Kid at h3 hk;omega)] at h6
  exact D.1 c0 c _ _ (by unfold Kid at hk;omega) hne h3 h4 hy h6
theorem zNH {H:List HD}{n:Nat}(h:xX H n 0){x0:HD}(h0:H[0]?=some x0):∀(j:Nat) (y:HD),j<n->H[j]?=some y->leE x0.e y.e
 |0,y,_,hy=>by rw[h0] at hy;cases hy;exact zDR _
 |j+1,y,hj,hy=>by
  have hp:j/2<n:=by omega
  have hlt:=zD hy
  have hz:H[j/2]?=some H[j/2]:=List.getElem?_eq_getElem (by omega)
  exact jO (zNH h h0 (j/2) _ hp hz) (h (j/2) (j+1) _ _ (by omega) (by unfold Kid;omega) hj hz hy)
def allOf(H:List HD):List Ent:=(H.map λx=>x.e::x.r).flatten
theorem zB9 {H H':List HD}(h:H.Perm H'):(allOf H).Perm (allOf H'):=(h.map _).flatten
theorem zCA {x:HD}{H:List HD}:allOf (x::H)=(x.e::x.r)++allOf H:=by simp[allOf]
theorem zSQ {H:List HD}{x0:HD}(h:xX H H.length 0)(h0:H[0]?=some x0)(hs:∀x∈H,zN (x.e::x.r)):∀y∈allOf H,leE x0.e y:=by
 intro y hy
 simp only[allOf,List.mem_flatten,List.mem_map] at hy
 obtain⟨_,⟨x,hx,rfl⟩,hy⟩:=hy
 obtain⟨j,hj⟩:=List.mem_iff_getElem?.1 hx
 have h1:=zNH h h0 j x (zD hj) hj
 rcases List.mem_cons.1 hy with rfl|hy
 ·exact h1
 ·exact jO h1 (List.rel_of_pairwise_cons (hs x hx) hy)
theorem zQB {l:List Ent}{e:Ent}{m:List Ent}(hp:l.Perm (e::m))(hmin:∀y∈l,leE e y):yA l=e::yA m:=by
 refine jW ?_ ?_
 ·refine .cons (λy hy=> ?_) (yD m)
  exact hmin y (hp.mem_iff.2 (List.mem_cons_of_mem _ ((zS m).mem_iff.1 hy)))
 ·exact((zS m).cons e).trans hp.symm
inductive zI2 where
 |mrg|arr|head|lst|dat|cur
deriving DecidableEq
abbrev yC:=Nat->Option zI2
abbrev dsk(ow:yC):Nat->Prop:=λb=>ow b≠none
structure yQ(ow:yC)(h:Heap)(ow':yC)(h':Heap):Prop where
 keeps:zI (dsk ow) h h'
 len:h.length<=h'.length
 own:∀b,ow' b≠none->ow b≠none∨h.length<=b
theorem yQ.refl (ow:yC)(h:Heap):yQ ow h ow h:=⟨.refl _ _,Nat.le_refl _,λb hb=>.inl hb⟩
theorem yQ.trans {ow0 ow1 ow2:yC}{h0 h1 h2:Heap}(a:yQ ow0 h0 ow1 h1)(b:yQ ow1 h1 ow2 h2):yQ ow0 h0 ow2 h2:=by
 refine⟨λk B hk hB=> ?_,Nat.le_trans a.len b.len,λk hk=> ?_⟩
 ·refine b.keeps k B (λhn=> ?_) (a.keeps k B hk hB)
  rcases a.own k hn with h|h
  ·exact hk h
  ·have:=zD hB;omega
 ·rcases b.own k hk with h|h
  ·exact a.own k h
  ·exact .inr (Nat.le_trans a.len h)
theorem yQ.ext {ow:yC}{h h':Heap}(e:Ext h h'):yQ ow h ow h':=⟨zH e,e.len,λb hb=>.inl hb⟩
def xZ(ow:yC)(q:OSl)(r:zI2):yC:=λb=>match q with
 |some s=>if b=s.b then some r else ow b
 |none=>ow b
theorem jD {ow:yC}{n:Nat}{q:OSl}{r:zI2}(hl:∀b,ow b≠none->b<n)(hq:∀s,q=some s->n<=s.b∨ow s.b=some r):∀b r',ow b=some r'->xZ ow q r b=some r':=by
 intro b r' hb
 unfold xZ
 cases q with
 |none=>exact hb
 |some s=>
  simp only
  split
  ·rename_i he
   subst he
   rcases hq s rfl with h|h
   ·have:=hl s.b (by simp[hb]);omega
   ·rw[h] at hb;exact hb
  ·exact hb
theorem xY {ow:yC}{q:OSl}{r:zI2}:∀s,q=some s->xZ ow q r s.b=some r:=by
 intro s hs;subst hs;simp[xZ]
theorem xI {ow:yC}{n:Nat}{q:OSl}{r:zI2}(hq:∀s,q=some s->n<=s.b∨ow s.b=some r):∀b,xZ ow q r b≠none->ow b≠none∨(n<=b/\∃s,q=some s/\b=s.b):=by
 intro b hb
 unfold xZ at hb
 cases q with
 |none=>exact .inl hb
 |some s=>
  simp only at hb
  split at hb
  ·rename_i he;subst he
   rcases hq s rfl with h|h
   ·exact .inr ⟨h,s,rfl,rfl⟩
   ·exact .inl (by simp[h])
  ·exact .inl hb
def ptrE:Enc Nat:=⟨1,λb=>[.ptr (some ⟨b,0⟩)],λ_=>rfl,by omega,λ_=>rfl⟩
abbrev srcV(k:Bool)(lb:Nat):AV:=.iface (if k then 233 else 322) (.ptr (some ⟨lb,0⟩))
abbrev zIR(e:Ent)(k:Bool)(lb:Nat):Blk:=.cells [.int .i64 e.1,.int .i64 e.2.1,.int .i64 e.2.2.1,.int .i64 e.2.2.2,srcV k lb,.func (.method "Next") [srcV k lb] []] true
structure MrgK(h:Heap)(ow:yC)(p:Nat)(qc:OSl)(cbs:List Nat)(er:Int)(H:List HD):Prop where
 live:∀b,ow b≠none->b<h.length
 pr:ow p=some .mrg
 cells:∃qa,h[p]?=some (.cells [.sl qa,.sl qc,.int .i64 er] true)/\AppJ ptrE h qa (H.map (·.hb))/\∀s,qa=some s->ow s.b=some .arr
 heads:∀x∈H,ow x.hb=some .head/\h[x.hb]?=some (zIR x.e x.k x.lb)
 nodup:(H.map (·.hb)).Nodup
 many:H.length<=100000
 curs:Apd ptrE h qc cbs/\∀s,qc=some s->ow s.b=some .cur
structure LstR(h:Heap)(ow:yC)(x:HD):Prop where
 role:ow x.lb=some .lst
 cells:∃ql,h[x.lb]?=some (.cells [.sl ql] true)/\HasL entE h ql (x.e::x.r)/\∀s,ql=some s->ow s.b=some .dat
 srt:zN (x.e::x.r)
section
variable{h h':Heap}{ow ow':yC}{p:Nat}{qc:OSl}{cbs:List Nat}{er:Int}{H H':List HD}{x y:HD}{Q:AHp}
theorem MrgK.ext (M:MrgK h ow p qc cbs er H)(K:zI (λb=>ow b=none) h h')(hl:h.length<=h'.length):MrgK h' ow p qc cbs er H:=by
 obtain⟨l,pr,⟨qa,c1,c2,c3⟩,hd,nd,mn,cu1,cu2⟩:=M
 exact⟨λb hb=>Nat.lt_of_lt_of_le (l b hb) hl,pr,⟨qa,K _ _ (by simp[pr]) c1,c2.keeps K (λs hs=>by simp[c3 s hs]),c3⟩,λx hx=>⟨(hd x hx).1,K _ _ (by simp[(hd x hx).1]) (hd x hx).2⟩,nd,mn,cu1.keeps K (λs hs=>by simp[cu2 s hs]),cu2⟩
theorem MrgK.grow (M:MrgK h ow p qc cbs er H)(e:Ext h h'):MrgK h' ow p qc cbs er H:=M.ext (zH e) e.len
abbrev hp(ow:yC):Nat->Prop:=λb=>ow b=some .arr∨ow b=some .mrg
theorem LstR.keeps (L:LstR h ow x){X:Nat->Prop}(K:zI X h h')(hX:∀b,ow b=some .lst∨ow b=some .dat->¬X b):LstR h' ow x:=by
 obtain⟨r,⟨ql,c1,c2,c3⟩,s⟩:=L
 exact⟨r,⟨ql,K _ _ (hX _ (.inl r)) c1,K.hasL (λs hs=>hX _ (.inr (c3 s hs))) c2,c3⟩,s⟩
end
section
variable{h h':Heap}{ow ow':yC}{p:Nat}{qc:OSl}{cbs:List Nat}{er:Int}{H H':List HD}{x y:HD}{Q:AHp}{q:OSl}
theorem MrgK.qa (M:MrgK h ow p qc cbs er H):∃qa,zA h ⟨p,0⟩ 1=some [.sl qa]/\h[p]?=some (.cells [.sl qa,.sl qc,.int .i64 er] true)/\AppJ ptrE h qa (H.map (·.hb))/\∀s,qa=some s->ow s.b=some .arr:=by
 obtain⟨qa,c1,c2,c3⟩:=M.cells
 exact⟨qa,by rw[zP (p:=⟨p,0⟩) c1 (by simp)];rfl,c1,c2,c3⟩
theorem MrgK.key (M:MrgK h ow p qc cbs er H)(hx:x∈H):zA h ⟨x.hb,0+0⟩ 4=some [.int .i64 x.e.1,.int .i64 x.e.2.1,.int .i64 x.e.2.2.1,.int .i64 x.e.2.2.2]:=by
 rw[xQ (M.heads x hx).2 (by simp)];rfl
theorem zBC (A:AppJ ptrE h q (H.map (·.hb))){i:Nat}(hx:H[i]?=some x){ix:Int}(hix:ix=i){K:PA->Prop}(hK:∀pp,zA h pp 1=some [.ptr (some ⟨x.hb,0⟩)]->(∀s,q=some s->pp=⟨s.b,i*ptrE.sz⟩)->K pp):vIdx q ix 1 K:=by
 have hl:=zD hx
 subst hix
 refine AppJ.idx (E:=ptrE) A (by omega) (by simp;omega) λpp b hb hc hpp=>hK pp ?_ (by simpa using hpp)
 have:b=x.hb:=by
  simp only[Int.toNat_natCast,List.getElem?_map,hx,Option.map_some,Option.some.injEq] at hb
  exact hb.symm
 rw[<-this];exact hc
theorem m447 {n:Nat}(hl:zJ q=n)(hQ:Q (.int .i64 (n:Nat)) h):AC Tryz.prog 447 [.sl q] h Q:=ac447 (by
 unfold vc447;rw[hl];exact hQ)
theorem m448 (M:MrgK h ow p qc cbs er H)(A:AppJ ptrE h q (H.map (·.hb))){i k:Nat}(hx:H[i]?=some x)(hy:H[k]?=some y){ix kx:Int}(hix:ix=i)(hkx:kx=k)(hQ:∀h',Ext h h'->Q (.bool (decide (ltE x.e y.e))) h'):
  AC Tryz.prog 448 [.sl q,.int .i64 ix,.int .i64 kx] h Q:=ac448 (by
 unfold vc448
 refine zBC A hx hix λpp hc _=>⟨_,hc,_,_,_,_,M.key (List.mem_of_getElem? hx),?_⟩
 refine zBC A hy hkx λpp2 hc2 _=>⟨_,hc2,_,_,_,_,M.key (List.mem_of_getElem? hy),?_⟩
 refine z133 (a:=x.e) (b:=y.e) λh' x'=>⟨_,rfl,?_⟩
 have:decide (cmpE x.e y.e<0)=decide (ltE x.e y.e):=decide_eq_decide.2 cmpE_lt
 rw[this];exact hQ h' x')
theorem set_swp {l:List Nat}{i k a b:Nat}(ha:l[i]?=some a)(hb:l[k]?=some b):(l.set i b).set k a=swp l i k:=(zP3 ha hb).symm
theorem m449 (M:MrgK h ow p qc cbs er H)(A:AppJ ptrE h q (H.map (·.hb)))(hq:∀s,q=some s->ow s.b=some .arr){i k:Nat}(hx:H[i]?=some x)(hy:H[k]?=some y){ix kx:Int}(hix:ix=i)(hkx:kx=k)
  (hpq:h[p]?=some (.cells [.sl q,.sl qc,.int .i64 er] true))(hQ:∀h',MrgK h' ow p qc cbs er (swp H i k)->zI (hp ow) h h'->h'.length=h.length->Q (.tup []) h'):AC Tryz.prog 449 [.sl q,.int .i64 ix,.int .i64 kx] h Q:=ac449 (by
 unfold vc449
 refine zBC A hy hkx λp4 hc4 hp4=>⟨_,hc4,?_⟩
 refine zBC A hx hix λp6 hc6 hp6=>⟨_,hc6,?_⟩
 refine zBC A hx hix λp8 hc8 hp8=> ?_
 have hxm:(H.map (·.hb))[i]?=some x.hb:=by rw[List.getElem?_map,hx];rfl
 have hym:(H.map (·.hb))[k]?=some y.hb:=by rw[List.getElem?_map,hy];rfl
 refine AppJ.store (E:=ptrE) (k:=0) (r':=y.hb) (r:=x.hb) (xs:=[.ptr (some ⟨y.hb,0⟩)]) A hxm (by show 0+1<=1;omega) rfl (λs hs=>by rw[hp8 s hs];simp) λh9 A9 K9 hl9=> ?_
 have hk9:∃z,((H.map (·.hb)).set i y.hb)[k]?=some z:=⟨_,List.getElem?_eq_getElem (by simp;exact zD hy)⟩
 obtain⟨z,hz⟩:=hk9
 have hkl:=zD hy
 subst hkx
 refine AppJ.idx (E:=ptrE) A9 (by omega) (by simp;omega) λp10 b hb hc hpp=> ?_
 have hz':((H.map (·.hb)).set i y.hb)[k]?=some b:=by simpa using hb
 refine AppJ.store (E:=ptrE) (k:=0) (r':=x.hb) (r:=b) (xs:=[.ptr (some ⟨x.hb,0⟩)]) A9 hz' (by show 0+1<=1;omega) rfl (λs hs=>by rw[hpp s hs];simp) λh11 A11 K11 hl11=> ?_
 have K:zI (λb=>ow b=some .arr) h h11:=by
  intro b X hb hX
  exact K11 _ _ (λ⟨s,h1,h2⟩=>hb (by rw[<-h2];exact hq s h1)) (K9 _ _ (λ⟨s,h1,h2⟩=>hb (by rw[<-h2];exact hq s h1)) hX)
 refine hQ h11 ⟨λb hb=>by have:=M.live b hb;omega,M.pr,⟨q,K _ _ (by simp[M.pr]) hpq,?_,hq⟩,λu hu=> ?_,?_,by rw[zLA];exact M.many,M.curs.1.keeps K (λs hs=>by simp[M.curs.2 s hs]),M.curs.2⟩ (λb X hb hX=>K b X (λhx=>hb (.inl hx)) hX) (by omega)
 ·rw[swp_map,<-set_swp hxm hym];exact A11
 ·have hu':u∈H:=(zFD hx hy).mem_iff.1 hu
  have:=M.heads u hu'
  exact⟨this.1,K _ _ (by simp[this.1]) this.2⟩
 ·exact((zFD hx hy).map _).nodup_iff.2 M.nodup)
set_option maxRecDepth 20000 in
theorem m286 (M:MrgK h ow p qc cbs er H){lo n:Nat}(hn:n<=H.length)(hlo:lo<=n)(hH:xX H n (lo+1))
  (hQ:∀b h' H',MrgK h' ow p qc cbs er H'->zI (hp ow) h h'->h.length<=h'.length->H'.Perm H->(∀j,n<=j->H'[j]?=H[j]?)->xX H' n lo->Q (.bool b) h'):
  AC Tryz.prog 286 [.iface 326 (.ptr (some ⟨p,0⟩)),.int .i64 (lo:Nat),.int .i64 (n:Nat)] h Q:=ac286 (by
 unfold vc286
 have hmany:=M.many
 let I:Heap->Nat->Prop:=λh7 i=>∃H1,lo<=i/\i<=n/\MrgK h7 ow p qc cbs er H1/\zI (hp ow) h h7/\h.length<=h7.length/\H1.Perm H/\(∀j,n<=j->H1[j]?=H[j]?)/\DInv H1 n lo i
 refine⟨λxs h7=>∃i:Nat,xs=[.int .i64 i]/\I h7 i,λxs _=>match xs with | [.int _ i]=>(n-i).toNat|_=>0,⟨lo,rfl,H,Nat.le_refl _,hlo,M,.refl _ _,Nat.le_refl _,.refl _,λ_ _=>rfl,zOX hH⟩,?_⟩
 rintro n4 h7 ⟨i,hx,H1,hi,hin,M1,K1,l1,P1,T1,D1⟩
 simp only[List.cons.injEq,AV.int.injEq,true_and,and_true] at hx
 subst hx
 have hlen1:=P1.length_eq
 have w1:zC .i64 (2*(i:Int))=((2*i:Nat):Int):=by rw[zF ⟨by omega,by omega⟩];omega
 have w2:zC .i64 (((2*i:Nat):Int)+1)=((2*i+1:Nat):Int):=by rw[zF ⟨by omega,by omega⟩];omega
 have w3:zC .i64 (((2*i+1:Nat):Int)+1)=((2*i+2:Nat):Int):=by rw[zF ⟨by omega,by omega⟩];omega
 rw[w1,w2,w3]
 have done:∀b {h':Heap},Ext h7 h'->(∀c x y,Kid i c->c<n->H1[i]?=some x->H1[c]?=some y->leE x.e y.e)->Q (.bool b) h':=λb h' x' hc=>
  hQ b h' H1 (M1.grow x') (K1.trans (zH x')) (Nat.le_trans l1 x'.len) P1 T1 (zUB D1 hc)
 refine zB (λg=> ?_) (λg=> ?_)
 ·replace g:=of_decide_eq_true g
  exact done _ (.refl _) λc x y hk hc=>by unfold Kid at hk;omega
 replace g:=of_decide_eq_false g
 refine zB (λg1=> ?_) (λ_=> ?_)
 ·replace g1:=of_decide_eq_true g1;omega
 have hxi:H1[i]?=some H1[i]:=List.getElem?_eq_getElem (by omega)
 have hxa:H1[2*i+1]?=some H1[2*i+1]:=List.getElem?_eq_getElem (by omega)
 generalize H1[i]=xi at*
 generalize H1[2*i+1]=xa at*
 have step:∀{h8:Heap} {c0:Nat} {y:HD},Ext h7 h8->H1[c0]?=some y->Kid i c0->c0<n->(∀c z,Kid i c->c<n->H1[c]?=some z->leE y.e z.e)->
   ∃q8,zA h8 ⟨p,0⟩ 1=some [.sl q8]/\AC Tryz.prog 448 [.sl q8,.int .i64 (c0:Nat),.int .i64 (i:Nat)] h8 λv11 h12=>∃b13:Bool,v11= .bool b13/\
    vif (!b13) (Q (.bool (decide ((i:Int)>(lo:Int)))) h12)
     (∃q14,zA h12 ⟨p,0⟩ 1=some [.sl q14]/\AC Tryz.prog 449 [.sl q14,.int .i64 (i:Nat),.int .i64 (c0:Nat)] h12 λv14 h15=>v14= .tup []/\(True)/\(∃i':Nat,[AV.int .i64 ((c0:Nat):Int)]=[.int .i64 i']/\I h15 i')/\((n:Int) - (c0:Nat)).toNat<((n:Int) - (i:Nat)).toNat):=by
  intro h8 c0 y x8 hy hk hc hmin
  have M8:=M1.grow x8
  obtain⟨qa,c1,c2,c3,c4⟩:=M8.qa
  refine⟨qa,c1,m448 M8 c3 hy hxi rfl rfl λh12 x12=>⟨_,rfl,?_⟩⟩
  refine zB (λg2=> ?_) (λg2=> ?_)
  ·have g2:¬ltE y.e xi.e:=by simpa using g2
   refine done _ (x8.trans x12) λc u v hkc hcn hu hv=> ?_
   rw[hxi] at hu;cases hu
   exact jO g2 (hmin c v hkc hcn hv)
  ·have g2:ltE y.e xi.e:=by simpa using g2
   have M12:=M8.grow x12
   obtain⟨qb,d1,d2,d3,d4⟩:=M12.qa
   refine⟨qb,d1,m449 M12 d3 d4 hxi hy rfl rfl d2 λh15 M15 K15 l15=>⟨rfl,trivial,⟨c0,rfl,swp H1 i c0,by unfold Kid at hk;omega,by omega,M15,K1.trans ((zH (x8.trans x12)).trans K15),by have:=(x8.trans x12).len;omega,(zFD hxi hy).trans P1,λj hj=> ?_,zSA D1 hi hxi hy hk hc (zRB g2) hmin⟩,by unfold Kid at hk;omega⟩⟩
   rw[zHU hxi hy,if_neg (by omega),if_neg (by omega)]
   exact T1 j hj
 refine zB (λg2=> ?_) (λg2=> ?_)
 ·replace g2:=of_decide_eq_true g2
  have hxb:H1[2*i+2]?=some H1[2*i+2]:=List.getElem?_eq_getElem (by omega)
  generalize H1[2*i+2]=xb at*
  obtain⟨qa,c1,c2,c3,c4⟩:=M1.qa
  refine⟨qa,c1,m448 M1 c3 hxb hxa rfl rfl λh9 x9=>⟨_,rfl,?_⟩⟩
  refine zB (λg3=> ?_) (λg3=> ?_)
  ·have g3:ltE xb.e xa.e:=by simpa using g3
   refine step (c0:=2*i+2) x9 hxb (.inr rfl) (by omega) λc z hk hc hz=> ?_
   rcases hk with rfl|rfl
   ·rw[hxa] at hz;cases hz;exact zRB g3
   ·rw[hxb] at hz;cases hz;exact zDR _
  ·have g3:leE xa.e xb.e:=by simpa using g3
   refine step (c0:=2*i+1) x9 hxa (.inl rfl) (by omega) λc z hk hc hz=> ?_
   rcases hk with rfl|rfl
   ·rw[hxa] at hz;cases hz;exact zDR _
   ·rw[hxb] at hz;cases hz;exact g3
 ·replace g2:=of_decide_eq_false g2
  refine step (c0:=2*i+1) (.refl _) hxa (.inl rfl) (by omega) λc z hk hc hz=> ?_
  rcases hk with rfl|rfl
  ·rw[hxa] at hz;cases hz;exact zDR _
  ·omega)
theorem m223 (M:MrgK h ow p qc cbs er H)(hQ:∀h' H',MrgK h' ow p qc cbs er H'->zI (hp ow) h h'->h.length<=h'.length->H'.Perm H->xX H' H'.length 0->Q (.tup []) h'):AC Tryz.prog 223 [.iface 326 (.ptr (some ⟨p,0⟩))] h Q:=ac223 (by
 unfold vc223
 have hmany:=M.many
 obtain⟨qa,c1,c2,c3,c4⟩:=M.qa
 refine⟨qa,c1,m447 (n:=H.length) (by rw[c3.hasL.len];simp) ⟨_,rfl,?_⟩⟩
 have w:zC .i64 (zC .i64 (((H.length:Nat):Int).tdiv 2) - 1)=((H.length/2:Nat):Int) - 1:=by
  rw[zMZ (by omega),zF (n:=((H.length:Nat):Int)/2) ⟨by omega,by omega⟩,zF ⟨by omega,by omega⟩];omega
 rw[w]
 refine⟨λxs h8=>∃(i:Nat) (H1:List HD),xs=[.int .i64 ((i:Int) - 1)]/\i<=H.length/\MrgK h8 ow p qc cbs er H1/\zI (hp ow) h h8/\h.length<=h8.length/\H1.Perm H/\xX H1 H.length i,λxs _=>match xs with | [.int _ i]=>(i+1).toNat|_=>0,⟨H.length/2,H,rfl,by omega,M,.refl _ _,Nat.le_refl _,.refl _,λj c x y hj hk hc=>by unfold Kid at hk;omega⟩,?_⟩
 rintro n5 h8 ⟨i,H1,hx,hi,M1,K1,l1,P1,O1⟩
 simp only[List.cons.injEq,AV.int.injEq,true_and,and_true] at hx
 subst hx
 have hlen1:=P1.length_eq
 refine zB (λg=> ?_) (λg=> ?_)
 ·replace g:=of_decide_eq_true g
  obtain⟨k,rfl⟩:∃k,i=k+1:=⟨i-1,by omega⟩
  have e:((k+1:Nat):Int) - 1=((k:Nat):Int):=by omega
  rw[e]
  refine m286 M1 (by omega) (by omega) O1 λb h10 H2 M2 K2 l2 P2 T2 O2=>⟨_,rfl,trivial,⟨k,H2,?_,by omega,M2,K1.trans K2,by omega,P2.trans P1,O2⟩,?_⟩
  ·rw[zF ⟨by omega,by omega⟩]
  ·rw[zF ⟨by omega,by omega⟩];simp only;omega
 ·replace g:=of_decide_eq_false g
  have:i=0:=by omega
  subst this
  exact hQ h8 H1 M1 K1 l1 P1 (by rw[hlen1];exact O1))
theorem m452 {H:List HD}{x:HD}(M:MrgK h ow p qc cbs er (H++[x]))(hQ:∀v h',v.one=true->MrgK h' ow p qc cbs er H->zI (hp ow) h h'->h'.length=h.length->Q v h'):AC Tryz.prog 452 [.ptr (some ⟨p,0⟩)] h Q:=ac452 (by
 unfold vc452
 have hmany:=M.many
 simp only[List.length_append,List.length_cons,List.length_nil] at hmany
 obtain⟨qa,c1,c2,c3,c4⟩:=M.qa
 have hl:zJ qa=H.length+1:=by rw[c3.hasL.len];simp
 have w:zC .i64 (((zJ qa:Nat):Int) - 1)=((H.length:Nat):Int):=by rw[hl,zF ⟨by omega,by omega⟩];omega
 refine⟨qa,c1,qa,c1,?_⟩
 rw[w]
 refine zBC c3 (i:=H.length) (x:=x) (by simp) rfl λpp hc _=>⟨_,hc,qa,c1,?_⟩
 refine AppJ.cut (E:=ptrE) c3 (by simp) λq10 A10 hq10=> ?_
 have e:((H++[x]).map (·.hb)).take H.length=H.map (·.hb):=by
  rw[List.map_append,List.take_left' (by simp)]
 rw[e] at A10
 have hst:zL h ⟨p,0⟩ [.sl q10] λh12=>Q (.iface 391 (.ptr (some ⟨x.hb,0⟩))) h12:=by
  refine zCF (o:=0) c2 (by simp) ?_
  have hpl:=M.live p (by simp[M.pr])
  have K:zI (λb=>b=p) h (h.set p (.cells (splice [.sl qa,.sl qc,.int .i64 er] 0 [.sl q10]) true)):=zO rfl
  have hpne:∀b r,ow b=some r->r≠ .mrg->¬b=p:=λb r hr hn he=>by subst he;rw[M.pr] at hr;exact hn (Option.some.inj hr).symm
  have hq10':∀s,q10=some s->ow s.b=some .arr:=λs hs=>by obtain⟨s2,h1,h2⟩:=hq10 s hs;rw[<-h2];exact c4 s2 h1
  refine hQ _ _ rfl ⟨λb hb=>by rw[List.length_set];exact M.live b hb,M.pr,⟨q10,?_,A10.keeps K (λs hs=>hpne _ _ (hq10' s hs) (by simp)),hq10'⟩,λu hu=> ?_,?_,by omega,M.curs.1.keeps K (λs hs=>hpne _ _ (M.curs.2 s hs) (by simp)),M.curs.2⟩ (λb X hb hX=>K b X (λhe=>hb (.inr (by rw[he];exact M.pr))) hX) (by simp)
  ·rw[List.getElem?_set_self hpl];rfl
  ·have:=M.heads u (by simp[hu])
   exact⟨this.1,K _ _ (hpne _ _ this.1 (by simp)) this.2⟩
  ·have:=M.nodup
   rw[List.map_append,List.nodup_append] at this
   exact this.1
 exact hst)
theorem m287 (M:MrgK h ow p qc cbs er (x::H))(hO:xX (x::H) (x::H).length 1)(hQ:∀v h' H',v.one=true->MrgK h' ow p qc cbs er H'->zI (hp ow) h h'->h.length<=h'.length->H'.Perm H->xX H' H'.length 0->Q v h'):AC Tryz.prog 287 [.iface 326 (.ptr (some ⟨p,0⟩))] h Q:=ac287 (by
 unfold vc287
 have hmany:=M.many
 simp only[List.length_cons] at hmany
 obtain⟨qa,c1,c2,c3,c4⟩:=M.qa
 refine⟨qa,c1,m447 (n:=H.length+1) (by rw[c3.hasL.len];simp) ⟨_,rfl,qa,c1,?_⟩⟩
 have w:zC .i64 (((H.length+1:Nat):Int) - 1)=((H.length:Nat):Int):=by rw[zF ⟨by omega,by omega⟩];omega
 rw[w]
 have hx0:(x::H)[0]?=some x:=rfl
 have hy:(x::H)[H.length]?=some (x::H)[H.length]:=List.getElem?_eq_getElem (by simp)
 generalize(x::H)[H.length]=y at*
 refine m449 M c3 c4 hx0 hy rfl rfl c2 λh7 M7 K7 l7=>⟨rfl,?_⟩
 have hP:=zFD hx0 hy
 refine m286 (lo:=0) (n:=H.length) M7 (by rw[zLA];simp) (by omega) (λj c u v hj hk hc hu hv=> ?_) λb h10 H2 M2 K2 l2 P2 T2 O2=>⟨_,rfl,?_⟩
 ·rw[zHU hx0 hy] at hu hv
  have hk':=hk
  unfold Kid at hk'
  have:j<H.length:=by omega
  rw[if_neg (by omega),if_neg (by omega)] at hu hv
  exact hO j c u v hj hk (by simp;omega) hu hv
 ·have hl2:H2.length=H.length+1:=by rw[P2.length_eq,zLA];simp
  have hlast:H2[H.length]?=some x:=by
   rw[T2 H.length (Nat.le_refl _),zHU hx0 hy,if_pos rfl]
  have e:H2=H2.take H.length++[x]:=by
   have h1:H2.drop H.length=[x]:=by
    rw[List.drop_eq_getElem_cons (by omega)]
    have h2:H2[H.length]=x:=by rw[List.getElem?_eq_getElem (by omega)] at hlast;exact Option.some.inj hlast
    rw[h2,List.drop_eq_nil_of_le (by omega)]
   conv=>lhs;rw[<-List.take_append_drop H.length H2,h1]
  have hl3:(H2.take H.length).length=H.length:=by rw[List.length_take];omega
  have P3:(H2.take H.length).Perm H:=by
   have h1:(H2.take H.length++[x]).Perm (x::H):=by rw[<-e];exact P2.trans hP
   exact List.Perm.cons_inv (a:=x) ((List.perm_append_comm (l₁:=[x]) (l₂:=H2.take H.length)).trans h1)
  rw[e] at M2
  refine m452 M2 λv h13 hv1 M3 K3 l3=>⟨v,hv1,rfl,?_⟩
  refine hQ v h13 _ hv1 M3 (K7.trans (K2.trans K3)) (by omega) P3 ?_
  rw[hl3]
  intro j c u v hj hk hc hu hv
  have hk':=hk
  unfold Kid at hk'
  rw[List.getElem?_take_of_lt (by omega)] at hu hv
  exact O2 j c u v hj hk hc hu hv)
theorem m349 (hQ:Q (.tup []) h):AC Tryz.prog 349 [.iface 326 (.ptr (some ⟨p,0⟩)),.int .i64 0] h Q:=ac349 (by
 unfold vc349
 refine⟨λxs h6=>h6=h/\xs=[.int .i64 0],λ_ _=>0,⟨rfl,rfl⟩,?_⟩
 rintro n3 h6 ⟨rfl,hx⟩
 simp only[List.cons.injEq,AV.int.injEq,true_and,and_true] at hx
 subst hx
 exact zB (λ_=>hQ) (λg=>absurd g (by decide)))
theorem m288 (M:MrgK h ow p qc cbs er H)(hO:xX H H.length 1)(hQ:∀h' H',MrgK h' ow p qc cbs er H'->zI (hp ow) h h'->h.length<=h'.length->H'.Perm H->xX H' H'.length 0->Q (.tup []) h'):AC Tryz.prog 288 [.iface 326 (.ptr (some ⟨p,0⟩)),.int .i64 0] h Q:=ac288 (by
 unfold vc288
 obtain⟨qa,c1,c2,c3,c4⟩:=M.qa
 refine⟨qa,c1,m447 (n:=H.length) (by rw[c3.hasL.len];simp) ⟨_,rfl,?_⟩⟩
 refine m286 (lo:=0) M (Nat.le_refl _) (by omega) hO λb h7 H2 M2 K2 l2 P2 T2 O2=>⟨_,rfl,?_⟩
 have fin:=hQ h7 H2 M2 K2 l2 P2 (by rw[P2.length_eq];exact O2)
 exact zB (λ_=>m349 ⟨rfl,fin⟩) (λ_=>fin))
end
end Go.Proofs.YtafmabnolelknaaGreatDoor.Mer
