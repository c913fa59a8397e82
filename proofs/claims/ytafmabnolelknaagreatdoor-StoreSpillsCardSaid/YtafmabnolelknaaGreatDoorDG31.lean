import Derived.Test.YtafmabnolelknaaGreatDoorDG24
import Derived.Test.YtafmabnolelknaaGreatDoorDG25
import Derived.Test.YtafmabnolelknaaGreatDoorDG28
import Derived.Test.YtafmabnolelknaaGreatDoorDG30
import Derived.KernelRfl
import Derived.Test.YtafmabnolelknaaGreatDoorProg
namespace Go.Proofs.YtafmabnolelknaaGreatDoor
open Go.Ab
open Go.Num hiding Bs snoc_ind
open Go.Ent Go.Seg Go.Sto
open Go.Page hiding Bs get
open Go.Dsk hiding Bs
open Go.Pool hiding Bs Ents zT Fr least
open Go.Cur
set_option linter.unusedVariables false
set_option linter.unusedSimpArgs false
structure PD where
 sp:Nat
 sq:OSl
 x:GF
 fq:OSl
 fs:List (List Mom)
def lenP(ps:List PD):Nat:=(ps.map λd=>d.x.l.length).sum
theorem zDQ (a b:List PD):lenP (a++b)=lenP a+lenP b:=by simp[lenP]
theorem zDP (ps:List PD)(i:Nat):lenP (ps.take i)<=lenP ps:=by
 have:=zDQ (ps.take i) (ps.drop i)
 rw[List.take_append_drop] at this
 omega
def PD.part(d:PD):Part:=⟨d.x.nm,d.x.base,d.x.l,d.fs⟩
def yT:Enc PD:=⟨5,λd=>[.ptr (some ⟨d.sp,0⟩),.int .i64 d.x.base,.int .i64 (jS d.x.l).1,.int .i64 (jS d.x.l).2,.sl d.fq],λ_=>rfl,by omega,λ_=>rfl⟩
def InMM(X:Nat->Prop)(h:Heap)(q:OSl)(fs:List (List Mom)):Prop:=
 ∃qs:List (OSl),HasL slE h q qs/\qs.length=fs.length/\(∀(i:Nat) (s:OSl) (f:List Mom),qs[i]?=some s->fs[i]?=some f->HasL mmE h s f)/\(∀t,q=some t->¬X t.b)/\∀s∈qs,∀t,s=some t->¬X t.b
theorem InMM.keeps {X X' Y:Nat->Prop}{h h':Heap}{q:OSl}{fs:List (List Mom)}(I:InMM X h q fs)(K:zI Y h h')(hY:∀b,Y b->X b)(hX:∀b,X' b->X b∨h.length<=b):InMM X' h' q fs:=by
 obtain⟨qs,H,hl,hq,h1,h2⟩:=I
 have key:∀{α:Type} {E:Enc α} {l:List α} {t:OSl},HasL E h t l->(∀u,t=some u->¬X u.b)->∀u,t=some u->¬X' u.b:=λH hn u hu hx=>by
  rcases hX _ hx with hx|hx
  ·exact hn u hu hx
  ·have:=HasL.live H u hu;omega
 refine⟨qs,K.hasL (λt ht hb=>h1 t ht (hY _ hb)) H,hl,λi s f a b=>K.hasL (λt ht hb=>h2 s (List.mem_of_getElem? a) t ht (hY _ hb)) (hq i s f a b),key H h1,λs hs=> ?_⟩
 obtain⟨i,hi⟩:=List.getElem?_of_mem hs
 have hif:i<fs.length:=by rw[<-hl];exact(List.getElem?_eq_some_iff.1 hi).1
 exact key (hq i s _ hi (List.getElem?_eq_getElem hif)) (h2 s hs)
structure PdR(z:Nat->Prop)(h:Heap)(e:Env)(d:PD):Prop where
 mem:d.x∈e.gs
 seg:SegR z h e d.sp d.sq d.x
 fr:InMM (λb=>EZ z e b∨e.pb b) h d.fq d.fs
structure StR(z:Nat->Prop)(h:Heap)(e:Env)(sb:Nat)(S:SS)(ps:List PD):Prop where
 pe:S.ps=ps.map PD.part
 at':∃(rb:Nat) (qp:OSl) (Or:Nat->Prop),h[sb]?=some (.cells [.ptr (some ⟨e.dp,0⟩),.ptr (some ⟨e.p,0⟩),.str S.nm,.ptr (some ⟨rb,0⟩),.sl qp,.int .i64 (S.k:Nat)] true)/\AppJ yT h qp ps/\RunR h rb S.lim S.run Or/\(∀b,b=sb∨inq qp b∨Or b->z b/\e.ow b=none)/\¬inq qp sb/\¬Or sb/\∀b,inq qp b->¬Or b
 pd:∀d∈ps,PdR z h e d
section
variable{z z':Nat->Prop}{h h':Heap}{e e':Env}{Q:AHp}{sb:Nat}{S:SS}{ps:List PD}{x:Ent}
theorem SegR.keeps {sp:Nat}{q:OSl}{g:GF}{Y:Nat->Prop}(R:SegR z h e sp q g)(K:zI Y h h')(hY:∀b,Y b->z b∨e.pb b)(hX:∀b,z' b->z b∨h.length<=b)(e1:e'.dp=e.dp)(e2:∀b,e'.pb b->e.pb b)(e9:∀b,e'.F b->e.F b∨h.length<=b:=by exact λ_ h=>.inl h):SegR z' h' e' sp q g:=by
 have n1:=R.n1
 have key:∀b,b<h.length->¬EZ z e b/\¬e.pb b->¬EZ z' e' b/\¬e'.pb b:=λb hb hn=>⟨λhc=>by
  rcases hc with hc|hc
  ·rcases hX b hc with hc|hc
   ·exact hn.1 (.inl hc)
   ·omega
  ·rcases e9 b hc with hc|hc
   ·exact hn.1 (.inr hc)
   ·omega,λhc=>hn.2 (e2 b hc)⟩
 have nY:∀b,¬EZ z e b/\¬e.pb b->¬Y b:=λb hn hc=>(hY b hc).elim (λh=>hn.1 (.inl h)) hn.2
 exact⟨by rw[e1];exact K _ _ (nY _ n1) R.at',K.hasL (λt ht=>nY _ (R.n2 t ht)) R.hd,key _ (zD R.at') n1,λt ht=>key _ (HasL.live R.hd t ht) (R.n2 t ht)⟩
theorem StR.keeps {Y:Nat->Prop}(R:StR z h e sb S ps)(K:zI Y h h')(hl:h.length<=h'.length)(hY:∀b,Y b->(z b/\e.ow b≠none)∨e.pb b)(hzp:∀b,z b->¬e.pb b)(h1:∀b,z b->z' b)(hX:∀b,z' b->z b∨h.length<=b)(e1:e'.dp=e.dp)(e2:e'.p=e.p)(e3:e'.fb=e.fb)(e4:e'.mb=e.mb)(e5:∀b,e'.ow b≠none->e.ow b≠none∨h.length<=b)(e6:∀d∈ps,d.x∈e'.gs)(e9:∀b,e'.F b->e.F b∨h.length<=b:=by exact λ_ h=>.inl h):StR z' h' e' sb S ps:=by
 obtain⟨rb,qp,Or,a1,a2,a3,a4,a5,a6,a7⟩:=R.at'
 have pbe:∀b,e'.pb b->e.pb b:=λb hb=>by
  rcases hb with hb|hb|hb
  ·exact .inl (hb.trans e2)
  ·exact .inr (.inl (hb.trans e3))
  ·exact .inr (.inr (hb.trans e4))
 have nY:∀b,b=sb∨inq qp b∨Or b->¬Y b:=λb hb hc=>by
  rcases hY b hc with hc|hc
  ·exact hc.2 (a4 b hb).2
  ·exact hzp b (a4 b hb).1 hc
 have lv:∀b,b=sb∨inq qp b∨Or b->b<h.length:=λb hb=>by
  rcases hb with rfl|⟨s,hs,rfl⟩|hb
  ·exact zD a1
  ·exact a2.live s hs
  ·exact a3.lv b hb
 refine⟨R.pe,⟨rb,qp,Or,by rw[e1,e2];exact K _ _ (nY _ (.inl rfl)) a1,a2.keeps K (λs hs=>nY _ (.inr (.inl ⟨s,hs,rfl⟩))),a3.keeps K (λb hb=>nY _ (.inr (.inr hb))) hl (λ_ h=>h) (λb hb=>Nat.lt_of_lt_of_le (a3.lv b hb) hl),λb hb=>⟨h1 b (a4 b hb).1,?_⟩,a5,a6,a7⟩,λd hd=> ?_⟩
 ·cases ho:e'.ow b with
  |none=>rfl
  |some r=>
   rcases e5 b (by rw[ho];simp) with h2|h2
   ·exact absurd (a4 b hb).2 h2
   ·have:=lv b hb;omega
 ·have D:=R.pd d hd
  refine⟨e6 d hd,D.seg.keeps K (λb hb=>(hY b hb).imp And.left id) hX e1 pbe e9,D.fr.keeps K (λb hb=>(hY b hb).imp (λh=>.inl h.1) id) λb hb=> ?_⟩
  rcases hb with(hb|hb)|hb
  ·exact(hX b hb).imp (λh=>.inl (.inl h)) id
  ·exact(e9 b hb).imp (λh=>.inl (.inr h)) id
  ·exact .inl (.inr (pbe b hb))
theorem StR.on (R:StR z h e sb S ps)(E:EV z h e){P:PS}{N:Nat}(K:zI e.pb h h')(hl:h.length<=h'.length):StR z h' {e with P:=P,N:=N} sb S ps:=
 R.keeps K hl (λb hb=>.inr hb) E.zp (λ_ h=>h) (λ_ h=>.inl h) rfl rfl rfl rfl (λb hb=>.inl hb) (λd hd=>(R.pd d hd).mem)
def PD.cur(dp:Nat)(d:PD):CurD:=⟨d.sp,dp,d.x.base,d.x.l.length,d.x.nm,d.sq,zV (zR d.x.l),zR d.x.l,λ_=>0⟩
theorem EV.cug (E:EV z h e){d:PD}(D:PdR z h e d):CuG h e.p e.fb e.mb (flE e.gs) (d.cur e.dp):=
 ⟨E.cw D.mem D.seg,gp_of (E.ok _ D.mem).e,λi g hg=>.inl ⟨rfl,by
  show flE e.gs d.x.nm i=_
  rw[E.fl D.mem]
  exact zRY hg⟩⟩
set_option maxRecDepth 20000 in
set_option maxHeartbeats 1000000 in
theorem gk149 (E:EV z h e)(R:StR z h e sb S ps)(hl:ps.length<=63)(hN:e.N+lenP ps<=800000)
  (hQ:∀q cs h' z' P' N',CA z' h h' e.p e.fb e.mb 64 (flE e.gs) cs P' N'->cs.map (·.R)=ps.map (λd=>kS d.x.l x)->(∀c∈cs,c.E=0)->HasL Mer.ptrE h' q (cs.map (·.cb))->(∀b,EZ z e b->z' b)->N'<=e.N+lenP ps->zI e.pb h h'->h.length<=h'.length->(∀b,z' b->EZ z e b∨h.length<=b)->Q (.tup [.sl q,.int .i64 0]) h'):AC Tryz.prog 149 [.ptr (some ⟨sb,0⟩),entV x] h Q:=ac149 (by
 obtain⟨rb,qp,Or,a1,a2,a3,a4,a5,a6,a7⟩:=R.at'
 unfold vc149 PNew
 refine zQ ⟨qp,zU a1 (k:=4) rfl,?_⟩
 have npb:∀b,b=sb∨inq qp b∨Or b->¬e.pb b:=λb hb=>E.zp b (a4 b hb).1
 refine⟨λxs h6=>∃(q8:OSl) (i:Nat) (cs:List Cu) (z6:Nat->Prop) (P6:PS) (N6:Nat),xs=[.sl q8,.int .i64 (i:Nat)]/\i<=ps.length/\CA z6 h h6 e.p e.fb e.mb 64 (flE e.gs) cs P6 N6/\cs.map (·.R)=(ps.take i).map (λd=>kS d.x.l x)/\(∀c∈cs,c.E=0)/\cs.length=i/\Apd Mer.ptrE h6 q8 (cs.map (·.cb))/\(∀s,q8=some s->z6 s.b/\h.length<=s.b/\∀c∈cs,s.b≠c.cb)/\(∀b,EZ z e b->z6 b)/\(∀b,z6 b->EZ z e b∨h.length<=b)/\N6<=e.N+lenP (ps.take i)/\zI e.pb h h6/\h.length<=h6.length,
  λxs _=>match xs with | [_,.int _ i]=>(ps.length-i).toNat|_=>0,⟨none,0,[],EZ z e,e.P,e.N,rfl,by omega,ca_nil E.cp E.A,rfl,by simp,rfl,.inl ⟨rfl,rfl⟩,(λs hs=>by cases hs),λ_ h=>h,λ_ h=>.inl h,by simp[lenP],.refl _ _,Nat.le_refl _⟩,?_⟩
 have lt6:=zDP ps
 rintro q8 n9 h6 ⟨_,i,cs,z6,P6,N6,hx,hi,A6,hR6,hE6,hc6,ap6,n6,zz6,zn6,hN6,K6,l6⟩
 simp only[List.cons.injEq,AV.sl.injEq,AV.int.injEq,true_and,and_true] at hx
 obtain⟨rfl,rfl⟩:=hx
 have H0:=a2.hasL
 have H6:HasL yT h6 qp ps:=K6.hasL (λs hs=>npb _ (.inr (.inl ⟨s,hs,rfl⟩))) H0
 rw[H0.len]
 refine zB (λg=> ?_) (λg=> ?_)
 ·replace g:=of_decide_eq_true g
  refine HasL.idx (E:=yT) H6 (by omega) (by omega) λpp' d hd hc=>⟨_,_,_,_,_,hc,?_⟩
  rw[Int.toNat_natCast] at hd
  have hdm:=List.mem_of_getElem? hd
  have D:=R.pd d hdm
  have ok:=E.ok _ D.mem
  have G:=E.cug D
  refine zQ ⟨some ⟨e.p,0⟩,zU (K6 _ _ (npb _ (.inl rfl)) a1) (k:=1) rfl,?_⟩
  have hds:dist (cs.flatMap Cu.pages)<64:=by
   have h1:=zL8 (cs.flatMap Cu.pages)
   have h2:=zFZ cs
   omega
  obtain⟨t1,t2⟩:=zKG (e:=x) ok.e ok.so (r:=λ_=>0) (λ_=>rfl)
  have hheads:(zV (zR d.x.l)).length<=d.x.l.length:=by
   have h1:=kI ok.e
   have h3:=zBN ok.e
   omega
  have lti:=lt6 i
  refine c134 (r:=λ_=>0) (fl:=flE e.gs) A6.C G.W G.G (CuG.out (c:=⟨0,d.cur e.dp,[],0,none⟩) G hds) A6.A (by show zN (zR d.x.l).flatten;rw[yX];exact ok.so) (by omega) (λ_ cb h2 P2 N2 S2 hN2 K2 l2 hcb=>⟨_,_,rfl,?_⟩) (λ_ hE=> ?_)
  ·refine zB (λg=>by simp at g) (λ_=> ?_)
   have S2':CR (λb=>z6 b∨b=cb) h h2 d.sp e.p e.fb e.mb cb d.x.nm 64 (flE e.gs) (zR d.x.l) (λ_=>0) (cs.flatMap Cu.pages) (kS d.x.l x) 0 0 P2 N2:=by
    have S3:=S2
    simp only[PD.cur] at S3
    rw[t1] at S3
    simp only at S3
    rw[t2] at S3
    exact S3
   replace hN2:N2<=N6+(zV (zR d.x.l)).length:=hN2
   obtain⟨pg,A2⟩:=CA.add (sp:=0) (d:=d.cur e.dp) A6 G K2 hcb (by omega) (λb hb=>.inl hb) (λb hb=>by
    rcases hb with hb|hb
    ·exact .inl hb
    ·exact .inr (by omega)) S2'
   have A3:=(A2.perm (List.perm_append_singleton (⟨cb,d.cur e.dp,kS d.x.l x,0,pg⟩:Cu) cs).symm).grow (Ext.app h2 [Blk.cells [.ptr (some ⟨cb,0⟩)] true])
   have x3:Ext h2 (h2++[Blk.cells [.ptr (some ⟨cb,0⟩)] true]):=.app _ _
   have Hn:HasL Mer.ptrE (h2++[Blk.cells [.ptr (some ⟨cb,0⟩)] true]) (some ⟨h2.length,0,1,1,0⟩) [cb]:=HasL.new (n:=1) rfl rfl
   have l3:(h2++[Blk.cells [AV.ptr (some ⟨cb,0⟩)] true]).length=h2.length+1:=by simp
   generalize h2++[Blk.cells [AV.ptr (some ⟨cb,0⟩)] true]=h3 at*
   have ap3:Apd Mer.ptrE h3 q8 (cs.map (·.cb)):=(ap6.keeps K2 (λs hs hb=>A6.C.zp _ (n6 s hs).1 hb)).ext x3
   refine Apd.append (E:=Mer.ptrE) ap3 Hn (by simp;omega) λq4 h4 A4 K4 l4 n4=> ?_
   have lv4:∀s,q4=some s->s.b<h4.length:=λs hs=>HasL.live A4.hasL s hs
   have hcz:=S2'.zc.1
   have hcl:=S2'.zc.2.2.2.1 _ hcz
   have qold:∀s,q8=some s->s.b<h6.length:=λs hs=>HasL.live ap6.hasL s hs
   have A5:CA (λb=>(z6 b∨b=cb)∨inq q4 b) h h4 e.p e.fb e.mb 64 (flE e.gs) (cs++[⟨cb,d.cur e.dp,kS d.x.l x,0,pg⟩]) P2 N2:=A3.step K4 (λb ⟨s,hs,hb⟩=>.inl (hb▸(n6 s hs).1)) (λb ⟨s,hs,hb⟩=>by have:=(n6 s hs).2.1;omega) l4 (λb hb=>.inl hb) (λb hb=>by
    rcases hb with hb|⟨s,hs,rfl⟩
    ·exact .inl hb
    ·rcases n4 s hs with h5|⟨s2,h5,h7⟩
     ·exact .inr ⟨h5,lv4 s hs⟩
     ·rw[<-h7];exact .inl (.inl (n6 s2 h5).1)) (λc hc ⟨s,hs,hb⟩=>by
    rcases List.mem_append.1 hc with hc|hc
    ·exact(n6 s hs).2.2 c hc hb
    ·rw[List.mem_singleton] at hc
     subst hc
     have:=qold s hs
     have hb:s.b=cb:=hb
     omega)
   have nexti:zC .i64 ((i:Int)+1)=((i+1:Nat):Int):=by rw[zF ⟨by omega,by omega⟩];omega
   rw[nexti]
   have ht:ps.take (i+1)=ps.take i++[d]:=by rw[List.take_add_one,hd];rfl
   refine⟨⟨rfl,trivial⟩,⟨q4,i+1,_,_,P2,N2,rfl,by omega,A5,by rw[ht,List.map_append,List.map_append,hR6];rfl,λc hc=> ?_,by simp[hc6],by rw[List.map_append];exact A4,λs hs=>⟨.inr ⟨s,hs,rfl⟩,?_,λc hc=> ?_⟩,λb hb=>.inl (.inl (zz6 b hb)),λb hb=> ?_,by rw[ht,zDQ,show lenP [d]=d.x.l.length by simp[lenP]];omega,λb B hb hB=> ?_,by omega⟩,by simp only;omega⟩
   ·rcases List.mem_append.1 hc with hc|hc
    ·exact hE6 c hc
    ·rw[List.mem_singleton] at hc;subst hc;rfl
   ·rcases n4 s hs with h5|⟨s2,h5,h7⟩
    ·omega
    ·rw[<-h7];exact(n6 s2 h5).2.1
   ·have hlt:c.cb<h2.length:=by
     rcases List.mem_append.1 hc with hc|hc
     ·have:=A6.C.zl _ (A6.one c hc).1;omega
     ·rw[List.mem_singleton] at hc;subst hc;exact hcl
    rcases n4 s hs with h5|⟨s2,h5,h7⟩
    ·omega
    ·rw[<-h7]
     rcases List.mem_append.1 hc with hc|hc
     ·exact(n6 s2 h5).2.2 c hc
     ·rw[List.mem_singleton] at hc;subst hc
      have:=qold s2 h5
      show s2.b≠cb
      omega
   ·rcases hb with(hb|hb)|⟨s,hs,rfl⟩
    ·exact zn6 b hb
    ·exact .inr (by omega)
    ·rcases n4 s hs with h5|⟨s2,h5,h7⟩
     ·exact .inr (by omega)
     ·rw[<-h7];exact .inr (n6 s2 h5).2.1
   ·have hbl:=zD hB
    exact K4 b B (λ⟨s,hs,hb5⟩=>by have:=(n6 s hs).2.1;omega) (x3 _ _ (K2 b B hb (K6 b B hb hB)))
  ·have hE':=hE
   simp only[PD.cur] at hE'
   rw[t1] at hE'
   exact absurd rfl hE'
 ·replace g:=of_decide_eq_false g
  have:i=ps.length:=by omega
  subst this
  rw[List.take_length] at hR6 hN6
  exact hQ q8 cs h6 z6 P6 N6 A6 hR6 hE6 ap6.hasL zz6 hN6 K6 l6 zn6)
end
section
def zBO(ps:List PD)(x:Ent):List Ent:=ps.flatMap λd=>kS d.x.l x
theorem zF7:∀(ps:List PD) (x:Ent),(zBO ps x).length<=lenP ps
 | [],x=>Nat.zero_le _
 |d::ps,x=>by
  have:=zF7 ps x
  have h2:=(zKH (l:=d.x.l) (e:=x)).1
  unfold zBO at this ⊢
  rw[List.flatMap_cons,List.length_append]
  unfold lenP at this ⊢
  rw[List.map_cons,List.sum_cons]
  omega
theorem zS5 (cs:List Cu):cs.flatMap (Mer.toldC λ_=>[])=(cs.map (·.R)).flatten:=by
 induction cs with
 |nil=>rfl
 |cons c cs ih=>
  rw[List.flatMap_cons,List.map_cons,List.flatten_cons,ih]
  congr 1
  unfold Mer.toldC
  split
  ·rename_i h;rw[h]
  ·rw[List.append_nil]
theorem zMK {S:SS}{ps:List PD}(h:S.ps=ps.map PD.part):S.lies=ps.flatMap λd=>d.x.l:=by
 unfold SS.lies
 rw[h,List.flatMap_map]
 rfl
section
variable{z z':Nat->Prop}{h h':Heap}{e e':Env}{Q:AHp}{sb:Nat}{S:SS}{ps:List PD}{x:Ent}{lr:List Ent}{q2:OSl}{v:AV}{is:Ent->Bool}
attribute [local irreducible] yV
theorem gk68 (R:StR z h e sb S ps)(hQ:Q (.bool true) h):AC Tryz.prog 68 [.ptr (some ⟨sb,0⟩)] h Q:=ac68 (by
 obtain⟨rb,qp,Or,a1,_⟩:=R.at'
 unfold vc68
 exact zB (λ_=>⟨some ⟨rb,0⟩,zU a1 (k:=3) rfl,hQ⟩) (λg=>by simp at g))
set_option maxRecDepth 20000 in
set_option maxHeartbeats 1000000 in
theorem gk85 (E:EV z h e)(R:StR z h e sb S ps)(hl:ps.length<=63)(hN:e.N+lr.length+2*lenP ps<=800000)(H2:HasL entE h q2 lr)(n2:∀s,q2=some s->¬e.pb s.b)(hs:zN lr)(hlr:lr.length<=500)
  (hv:∀en h2,zI e.pb h h2->h.length<=h2.length->∀K:AHp,(∀h3,Ext h2 h3->K (.bool (is en)) h3)->yV Tryz.prog (AC Tryz.prog) v [entV en] h2 K)
  (hQ:∀q' h' P' N',EV z h' {e with P:=P',N:=N'}->StR z h' {e with P:=P',N:=N'} sb S ps->HasL entE h' q' ((yA (lr++zBO ps x)).takeWhile is)->N'<=e.N+lr.length+2*lenP ps->zI e.pb h h'->h.length<=h'.length->(∀s,q'=some s->h.length<=s.b)->Q (.tup [.sl q',.int .i64 0]) h'):AC Tryz.prog 85 [.ptr (some ⟨sb,0⟩),.sl q2,entV x,v] h Q:=ac85 (by
 unfold vc85 PNew
 refine gk149 E R hl (by omega) λq cs h9 z9 P9 N9 A9 hR9 hE9 H9 zz9 hN9 K9 l9 zn9=>⟨_,_,rfl,zB (λg=>by simp at g) (λ_=> ?_)⟩
 have x13:Ext h9 (h9++[Blk.cells [.sl q2] true]):=.app _ _
 have Hn:HasL slE (h9++[Blk.cells [.sl q2] true]) (some ⟨h9.length,0,1,1,0⟩) [q2]:=HasL.new (n:=1) rfl rfl
 have l13:(h9++[Blk.cells [AV.sl q2] true]).length=h9.length+1:=by simp
 have H13:HasL entE (h9++[Blk.cells [AV.sl q2] true]) q2 lr:=(K9.hasL n2 H2).mono x13
 generalize h9++[Blk.cells [AV.sl q2] true]=h13 at*
 have I:Mer.InLL h13 (some ⟨h9.length,0,1,1,0⟩) [lr]:=⟨[q2],Hn,rfl,λi s l a b=>by
  cases i with
  |zero=>cases a;cases b;exact H13
  |succ i=>cases a⟩
 have hcl:cs.length=ps.length:=by
  have:=congrArg List.length hR9
  simpa using this
 have srt:∀c∈cs,zN c.R:=λc hc=>by
  have hm:c.R∈cs.map (·.R):=List.mem_map_of_mem hc
  rw[hR9] at hm
  obtain⟨d,hd,he⟩:=List.mem_map.1 hm
  rw[<-he]
  exact zKH.2 (E.ok _ (R.pd d hd).mem).so
 refine Mer.m150 (T:=λ_=>[]) I (H9.mono x13) (by simp;omega) (λl hm=>by rw[List.mem_singleton] at hm;rw[hm];exact hs) (λl hm=>by rw[List.mem_singleton] at hm;rw[hm];exact hlr) (A9.grow x13) (λc hc=>⟨by rw[List.append_nil];exact srt c hc,λ_=>rfl⟩) λh15 p ow H z15 qc _ K15 zz15 M15 hO hC hP hown=>⟨_,_,rfl,zB (λg=>by simp at g) (λ_=> ?_)⟩
 have x15:Ext h13 h15:=λb B hB=>K15 b B (λh=>h) hB
 have l15:=x15.len
 have hm:yA (Mer.allOf H)=yA (lr++zBO ps x):=by
  refine Mer.sortE_perm_eq' (hP.trans ?_)
  rw[zS5,hR9]
  simp only[List.flatten_cons,List.flatten_nil,List.append_nil]
  exact .refl _
 have M:Mer.Mg h15 ow p qc (cs.map (·.cb)) 0 (yA (lr++zBO ps x)) cs z15 h e.p e.fb e.mb 64 (flE e.gs) P9 N9:=⟨H,M15,hO,hC,hm⟩
 have hml:(yA (lr++zBO ps x)).length<=lr.length+lenP ps:=by
  rw[(zS _).length_eq,List.length_append]
  have:=zF7 ps x
  omega
 have cold:∀c∈cs,h.length<=c.cb/\c.cb<h9.length:=λc hc=>⟨(A9.one c hc).2.1,A9.C.zl _ (A9.one c hc).1⟩
 have tn:∀b,b<h.length->Mer.turns ow e.p e.fb e.mb cs b->e.pb b:=λb hb ht=>by
  rcases ht with ht|ht|⟨c,hc,rfl⟩
  ·have:=hown b ht;omega
  ·exact ht
  ·have:=(cold c hc).1;omega
 have K15':zI e.pb h h15:=λb B hb hB=>x15 _ _ (x13 _ _ (K9 b B hb hB))
 refine Mer.y152 (is:=is) M hE9 (by omega) (λen _ h2 K2 l2 K hK=>hv en h2 (λb B hb hB=>K2 b B (λhc=>hb (tn b (zD hB) hc)) (K15' b B hb hB)) (by omega) K hK) λq' h19 cs' z19 P19 N19 m' M19 hN19 A19 zz19 hbs19 K19 l19 n19=>⟨_,_,rfl,?_⟩
 have hcbs:∀c'∈cs',∃c∈cs,c.cb=c'.cb:=λc' hc'=>by
  have:=(hbs19 c'.cb).2 (List.mem_map_of_mem hc')
  obtain⟨c,hc,he⟩:=List.mem_map.1 this
  exact⟨c,hc,he⟩
 refine acd151 (Mer.v151h M19 (by omega) (λb hb=> ?_) (λc hc=> ?_) (by simp;omega) λh22 P22 N22 C22 A22 eN l22 _ _ K22=> ?_)
 ·obtain⟨c,hc,he⟩:=List.mem_map.1 ((hbs19 b).1 hb)
  exact⟨c,hc,he⟩
 ·exact(hbs19 _).2 (List.mem_map_of_mem hc)
 ·have tn2:∀b,b<h.length->Mer.turns ow e.p e.fb e.mb cs' b->e.pb b:=λb hb ht=>by
   rcases ht with ht|ht|⟨c,hc,rfl⟩
   ·have:=hown b ht;omega
   ·exact ht
   ·obtain⟨c0,h0,e0⟩:=hcbs c hc
    have:=(cold c0 h0).1;omega
  have KK:zI e.pb h h22:=λb B hb hB=>K22 b B (λhc=>hb (tn2 b (zD hB) hc)) (K19 b B (λhc=>hb (tn b (zD hB) hc)) (K15' b B hb hB))
  refine hQ q' h22 P22 N22 (E.back C22 (λb hb=>zz19 b (zz15 b (zz9 b hb))) A22) (R.on E KK (by omega)) (K22.hasL (λs hs' hc=> ?_) A19.hasL) (by omega) KK (by omega) λs hs'=>by have:=(n19 s hs').1;omega
  obtain⟨n1,n3,n4⟩:=n19 s hs'
  rcases hc with hc|hc|⟨c,hc,he⟩
  ·exact hc n3
  ·exact n4 hc
  ·obtain⟨c0,h0,e0⟩:=hcbs c hc
   have:=(cold c0 h0).2
   omega)
theorem gk19 (E:EV z h e)(R:StR z h e sb S ps)(hl:ps.length<=63)(hr:S.run.length<=500)(hN:e.N+S.run.length+2*lenP ps<=800000)
  (hQ:∀q' h' P' N',EV z h' {e with P:=P',N:=N'}->StR z h' {e with P:=P',N:=N'} sb S ps->HasL entE h' q' S.all->N'<=e.N+S.run.length+2*lenP ps->zI e.pb h h'->h.length<=h'.length->(∀s,q'=some s->h.length<=s.b)->Q (.tup [.sl q',.int .i64 0]) h'):AC Tryz.prog 19 [.ptr (some ⟨sb,0⟩)] h Q:=ac19 (by
 unfold vc19
 refine gk68 R ⟨_,rfl,zB (λg=>by simp at g) (λ_=> ?_)⟩
 obtain⟨rb,qp,Or,a1,a2,a3,a4,a5,a6,a7⟩:=R.at'
 refine zQ ⟨some ⟨rb,0⟩,zU a1 (k:=3) rfl,?_⟩
 refine gk74 a3 λq9 h8 N8=>⟨_,rfl,?_⟩
 have E8:=E.grow N8.1
 have R8:StR z h8 e sb S ps:=R.on E (P:=e.P) (N:=e.N) (zH N8.1) N8.1.len
 have hlen:(yA S.run).length=S.run.length:=(zS _).length_eq
 have hpb:∀s,q9=some s->¬e.pb s.b:=λs hs hb=>by
  have:=N8.2.2 s hs
  have:=E.cp.pool_lt hb
  omega
 refine gk85 (x:=(0,0,0,0)) (is:=λ_=>true) (lr:=yA S.run) E8 R8 hl (by rw[hlen];exact hN) N8.hasL hpb (yD _) (by omega) (λen h2 K2 l2 K hK=> ?_) λq' h' P' N' E' R' H' hN' K' l' n'=>⟨_,_,rfl,?_⟩
 ·obtain⟨a,b,c,d⟩:=en
  unfold yV
  exact ac86 (by unfold vc86;exact hK h2 (.refl _))
 ·have l8:=N8.1.len
  refine hQ q' h' P' N' E' R' ?_ (by omega) (λb B hb hB=>K' b B hb (N8.1 _ _ hB)) (by omega) λs hs=>by have:=n' s hs;omega
  have hf:zBO ps (0,0,0,0)=S.lies:=by
   rw[zMK R.pe]
   have:∀l:List PD,(∀d∈l,∀y∈d.x.l,yH y=true)->zBO l (0,0,0,0)=l.flatMap λd=>d.x.l:=by
    intro l hl
    induction l with
    |nil=>rfl
    |cons d l ih=>
     unfold zBO at ih ⊢
     rw[List.flatMap_cons,List.flatMap_cons,ih λu hu=>hl u (List.mem_cons_of_mem _ hu),zHB λy hy=>zQ2 (hl d List.mem_cons_self y hy)]
   exact this ps λd hd=>(E.ok _ (R.pd d hd).mem).e
  rw[hf,Mer.tw_all (λ_ _=>rfl)] at H'
  have:yA (yA S.run++S.lies)=S.all:=Mer.sortE_perm_eq' (List.Perm.append_right _ (zS _))
  rw[this] at H'
  exact H')
end
end
end Go.Proofs.YtafmabnolelknaaGreatDoor
namespace Go.Proofs.YtafmabnolelknaaGreatDoor
open Go.Ab
open Go.Sto
set_option linter.unusedVariables false
set_option linter.unusedSimpArgs false
section
def twos:List UInt8:=(List.range 100).flatMap λk=>[UInt8.ofNat (48+k/10),UInt8.ofNat (48+k%10)]
def ones:List UInt8:=[48,49,50,51,52,53,54,55,56,57,97,98,99,100,101,102,103,104,105,106,107,108,109,110,111,112,113,114,115,116,117,118,119,120,121,122]
theorem ones_at:∀k:Fin 10,(ones.take (k.val+1)).drop k.val=decB 20 k.val:=by decide
set_option maxRecDepth 100000 in
theorem twos_at:∀k:Fin 100,k.val<10∨(twos.take (k.val*2+2)).drop (k.val*2)=decB 20 k.val:=by decide
theorem zTS:ones.length=36:=rfl
set_option maxRecDepth 100000 in
theorem zMX:twos.length=200:=by decide
section
variable{h:Heap}{Q:AHp}{k:Nat}{n:Int}
set_option maxRecDepth 100000 in
theorem vc326_eq:vc326 n h Q=vif (decide (n<10)) (zBX ones n (some (zC .i64 (n+1))) λs2=>Q (.str s2) h) (zBX twos (zC .i64 (n*2)) (some (zC .i64 (zC .i64 (n*2)+2))) λs3=>Q (.str s3) h):=by kernel_rfl
attribute [local irreducible] twos ones
set_option maxRecDepth 20000 in
theorem gk326 (hk:k<100)(hQ:Q (.str (decB 20 k)) h):AC Tryz.prog 326 [.int .i64 (k:Nat)] h Q:=ac326 (by
 rw[vc326_eq]
 refine zB (λg=> ?_) (λg=> ?_)
 ·replace g:=of_decide_eq_true g
  rw[zF ⟨by omega,by omega⟩]
  have e:=ones_at ⟨k,by omega⟩
  have l:=zTS
  refine⟨by omega,by simp only[Option.getD_some];omega,by simp only[Option.getD_some,l];omega,?_⟩
  rw[Option.getD_some,show((k:Int)+1).toNat=k+1 by omega,Int.toNat_natCast]
  simp only at e
  rw[e];exact hQ
 ·replace g:=of_decide_eq_false g
  rw[zF (n:=(k:Int)*2) ⟨by omega,by omega⟩,zF ⟨by omega,by omega⟩]
  have e:=(twos_at ⟨k,hk⟩).resolve_left (by simp only;omega)
  have l:=zMX
  refine⟨by omega,by simp only[Option.getD_some];omega,by simp only[Option.getD_some,l];omega,?_⟩
  rw[Option.getD_some,show((k:Int)*2+2).toNat=k*2+2 by omega,show((k:Int)*2).toNat=k*2 by omega]
  simp only at e
  rw[e];exact hQ)
theorem gk119 (hk:k<100)(hQ:Q (.str (decB 20 k)) h):AC Tryz.prog 119 [.int .i64 (k:Nat)] h Q:=ac119 (by
 unfold vc119
 refine ac187 ?_
 unfold vc187
 refine ac260 ?_
 unfold vc260
 refine zB (λ_=> ?_) (λg=>by simp at g)
 refine zB (λ_=> ?_) (λg=>by replace g:=of_decide_eq_false g;omega)
 refine zB (λ_=> ?_) (λg=>by replace g:=of_decide_eq_false g;omega)
 exact gk326 hk ⟨_,rfl,_,rfl,_,rfl,hQ⟩)
end
end
end Go.Proofs.YtafmabnolelknaaGreatDoor
namespace Go.Proofs
open Go.Ab
set_option maxRecDepth 100000
set_option linter.unusedVariables false
def kR:List UInt8:=[48,48,48,49,48,50,48,51,48,52,48,53,48,54,48,55,48,56,48,57,49,48,49,49,49,50,49,51,49,52,49,53,49,54,49,55,49,56,49,57,50,48,50,49,50,50,50,51,50,52,50,53,50,54,50,55,50,56,50,57,51,48,51,49,51,50,51,51,51,52,51,53,51,54,51,55,51,56,51,57,52,48,52,49,52,50,52,51,52,52,52,53,52,54,52,55,52,56,52,57,53,48,53,49,53,50,53,51,53,52,53,53,53,54,53,55,53,56,53,57,54,48,54,49,54,50,54,51,54,52,54,53,54,54,54,55,54,56,54,57,55,48,55,49,55,50,55,51,55,52,55,53,55,54,55,55,55,56,55,57,56,48,56,49,56,50,56,51,56,52,56,53,56,54,56,55,56,56,56,57,57,48,57,49,57,50,57,51,57,52,57,53,57,54,57,55,57,56,57,57]
def vc328(q1:OSl)(n2:Int)(h:Heap)(Q:AHp):Prop:=
 ∃(I5:LHp) (m6:LHn),I5 [.int .u64 n2,.int .i64 (zJ q1:Int)] h/\
 ∀n3 n4:Int,∀h7:Heap,I5 [.int .u64 n3,.int .i64 n4] h7->
 vif (decide (n4≥8))
 (kF kR (zC .u32 ((zC .u32 ((Int.tmod (Int.tmod (zC .u32 (Int.tmod n3 100000000)) 10000) 100)*2))+1)) λv8=>
 kF kR (zC .u32 ((Int.tmod (Int.tmod (zC .u32 (Int.tmod n3 100000000)) 10000) 100)*2)) λv9=>
 vIdx q1 (zC .i64 (n4-1)) 1 λp10=>
 zL h7 p10 [v8] λh11=>
 vIdx q1 (zC .i64 (n4-2)) 1 λp12=>
 zL h11 p12 [v9] λh13=>
 kF kR (zC .u32 ((zC .u32 ((zC .u32 (Int.tdiv (Int.tmod (zC .u32 (Int.tmod n3 100000000)) 10000) 100))*2))+1)) λv14=>
 kF kR (zC .u32 ((zC .u32 (Int.tdiv (Int.tmod (zC .u32 (Int.tmod n3 100000000)) 10000) 100))*2)) λv15=>
 vIdx q1 (zC .i64 (n4-3)) 1 λp16=>
 zL h13 p16 [v14] λh17=>
 vIdx q1 (zC .i64 (n4-4)) 1 λp18=>
 zL h17 p18 [v15] λh19=>
 kF kR (zC .u32 ((zC .u32 ((Int.tmod (zC .u32 (Int.tdiv (zC .u32 (Int.tmod n3 100000000)) 10000)) 100)*2))+1)) λv20=>
 kF kR (zC .u32 ((Int.tmod (zC .u32 (Int.tdiv (zC .u32 (Int.tmod n3 100000000)) 10000)) 100)*2)) λv21=>
 vIdx q1 (zC .i64 (n4-5)) 1 λp22=>
 zL h19 p22 [v20] λh23=>
 vIdx q1 (zC .i64 (n4-6)) 1 λp24=>
 zL h23 p24 [v21] λh25=>
 kF kR (zC .u32 ((zC .u32 ((zC .u32 (Int.tdiv (zC .u32 (Int.tdiv (zC .u32 (Int.tmod n3 100000000)) 10000)) 100))*2))+1)) λv26=>
 kF kR (zC .u32 ((zC .u32 (Int.tdiv (zC .u32 (Int.tdiv (zC .u32 (Int.tmod n3 100000000)) 10000)) 100))*2)) λv27=>
 vIdx q1 (zC .i64 (n4-7)) 1 λp28=>
 zL h25 p28 [v26] λh29=>
 vIdx q1 (zC .i64 (n4-8)) 1 λp30=>
 zL h29 p30 [v27] λh31=>
 (True)/\I5 [.int .u64 (zC .u64 (Int.tdiv n3 100000000)),.int .i64 (zC .i64 (n4-8))] h31/\m6 [.int .u64 (zC .u64 (Int.tdiv n3 100000000)),.int .i64 (zC .i64 (n4-8))] h31<m6 [.int .u64 n3,.int .i64 n4] h7)
 (vif (decide (n4≥4))
 (kF kR (zC .u32 ((zC .u32 ((Int.tmod (Int.tmod (zC .u32 n3) 10000) 100)*2))+1)) λv32=>
 kF kR (zC .u32 ((Int.tmod (Int.tmod (zC .u32 n3) 10000) 100)*2)) λv33=>
 vIdx q1 (zC .i64 (n4-1)) 1 λp34=>
 zL h7 p34 [v32] λh35=>
 vIdx q1 (zC .i64 (n4-2)) 1 λp36=>
 zL h35 p36 [v33] λh37=>
 kF kR (zC .u32 ((zC .u32 ((zC .u32 (Int.tdiv (Int.tmod (zC .u32 n3) 10000) 100))*2))+1)) λv38=>
 kF kR (zC .u32 ((zC .u32 (Int.tdiv (Int.tmod (zC .u32 n3) 10000) 100))*2)) λv39=>
 vIdx q1 (zC .i64 (n4-3)) 1 λp40=>
 zL h37 p40 [v38] λh41=>
 vIdx q1 (zC .i64 (n4-4)) 1 λp42=>
 zL h41 p42 [v39] λh43=>
 vif (decide ((zC .i64 (n4-4))≥2))
 (kF kR (zC .u32 ((zC .u32 ((Int.tmod (zC .u32 (Int.tdiv (zC .u32 n3) 10000)) 100)*2))+1)) λv44=>
 kF kR (zC .u32 ((Int.tmod (zC .u32 (Int.tdiv (zC .u32 n3) 10000)) 100)*2)) λv45=>
 vIdx q1 (zC .i64 ((zC .i64 (n4-4)) - 1)) 1 λp46=>
 zL h43 p46 [v44] λh47=>
 vIdx q1 (zC .i64 ((zC .i64 (n4-4)) - 2)) 1 λp48=>
 zL h47 p48 [v45] λh49=>
 vif (decide ((zC .i64 ((zC .i64 (n4-4)) - 2))>0))
 (vIdx q1 0 1 λp50=>
 zL h49 p50 [.int .u8 (zC .u8 (zC .u32 (48+(zC .u32 (Int.tdiv (zC .u32 (Int.tdiv (zC .u32 n3) 10000)) 100)))))] λh51=>
 Q (.tup []) h51)
 (Q (.tup []) h49))
 (vif (decide ((zC .i64 (n4-4))>0))
 (vIdx q1 0 1 λp52=>
 zL h43 p52 [.int .u8 (zC .u8 (zC .u32 (48+(zC .u32 (Int.tdiv (zC .u32 n3) 10000)))))] λh53=>
 Q (.tup []) h53)
 (Q (.tup []) h43)))
 (vif (decide (n4≥2))
 (kF kR (zC .u32 ((zC .u32 ((Int.tmod (zC .u32 n3) 100)*2))+1)) λv54=>
 kF kR (zC .u32 ((Int.tmod (zC .u32 n3) 100)*2)) λv55=>
 vIdx q1 (zC .i64 (n4-1)) 1 λp56=>
 zL h7 p56 [v54] λh57=>
 vIdx q1 (zC .i64 (n4-2)) 1 λp58=>
 zL h57 p58 [v55] λh59=>
 vif (decide ((zC .i64 (n4-2))>0))
 (vIdx q1 0 1 λp60=>
 zL h59 p60 [.int .u8 (zC .u8 (zC .u32 (48+(zC .u32 (Int.tdiv (zC .u32 n3) 100)))))] λh61=>
 Q (.tup []) h61)
 (Q (.tup []) h59))
 (vif (decide (n4>0))
 (vIdx q1 0 1 λp62=>
 zL h7 p62 [.int .u8 (zC .u8 (zC .u32 (48+(zC .u32 n3))))] λh63=>
 Q (.tup []) h63)
 (Q (.tup []) h7))))
theorem ac328 {q1:OSl}{n2:Int}{h:Heap}{Q:AHp}(hk:vc328 q1 n2 h Q):AC Tryz.prog 328 [.sl q1,.int .u64 n2] h Q:=
 zK (H:=zE [] [(0,[1,4],[])]) (by kernel_rfl) (by kernel_rfl) hk
def vc327(n1:Int)(h:Heap)(Q:AHp):Prop:=
 AC Tryz.prog 279 [.int .u64 n1] h λv2 h3=>∃n4:Int,v2= .int .i64 n4/\
 AC Tryz.prog 375 [.int .i64 n4] h3 λv5 h6=>∃n7:Int,v5= .int .i64 n7/\
 need (decide (0<=n7)&&decide (n7<20))
 (∃a8 j9:Nat,h6[a8]?=some (.gm 0 j9)/\
 ∃n10:Int,zA h6 ⟨j9,n7.toNat*1⟩ 1=some [.int .u64 n10]/\
 AC Tryz.prog 376 [.bool (decide (n1≥n10))] h6 λv11 h12=>∃n13:Int,v11= .int .i64 n13/\
 Q (.int .i64 (zC .i64 (n7+n13))) h12)
theorem ac327 {n1:Int}{h:Heap}{Q:AHp}(hk:vc327 n1 h Q):AC Tryz.prog 327 [.int .u64 n1] h Q:=
 zK (H:=zE [] []) (by kernel_rfl) (by kernel_rfl) hk
def vc375(n1:Int)(h:Heap)(Q:AHp):Prop:=
 Q (.int .i64 (shrK .i64 (zC .i64 (n1*78913)) 18)) h
theorem ac375 {n1:Int}{h:Heap}{Q:AHp}(hk:vc375 n1 h Q):AC Tryz.prog 375 [.int .i64 n1] h Q:=
 zK (H:=zE [] []) (by kernel_rfl) (by kernel_rfl) hk
def vc376(b1:Bool)(h:Heap)(Q:AHp):Prop:=
 vif b1
 (Q (.int .i64 1) h)
 (Q (.int .i64 0) h)
theorem ac376 {b1:Bool}{h:Heap}{Q:AHp}(hk:vc376 b1 h Q):AC Tryz.prog 376 [.bool b1] h Q:=
 zK (H:=zE [] []) (by kernel_rfl) (by kernel_rfl) hk
end Go.Proofs
namespace Go.Proofs.YtafmabnolelknaaGreatDoor
open Go.Ab
open Go.Num hiding Bs snoc_ind
open Go.Ent Go.Seg Go.Sto
open Go.Page hiding Bs get
open Go.Dsk hiding Bs
open Go.Pool hiding Bs Ents zT Fr least
open Go.Cur
set_option linter.unusedVariables false
set_option linter.unusedSimpArgs false
section
variable{h:Heap}{Q:AHp}{ow:yC}{dp sp:Nat}{D:DS}{s:Bs}{S:List Bs}{base count:Nat}{q:OSl}{heads l:List Ent}
theorem k156 (L:Laid h)(R:xB h ow dp D)(Z:Lies D s S)(b1:1<=base)(hb:base<=2305843009213693952)(hS:S.length<=16384)(hs:h[sp]?=some (segC dp s base count q))(H:HasL entE h q heads)(hh:heads.length<=S.length)
  (h0:allS S base count heads=none->∀h',Ext h h'->Q (.tup [.sl none,.int .i64 80]) h')
  (h1:∀l q' h',allS S base count heads=some l->New entE h h' q' l->Q (.tup [.sl q',.int .i64 0]) h'):AC Tryz.prog 156 [.ptr (some ⟨sp,0⟩)] h Q:=ac156 (by
 unfold vc156
 refine zB (λg=>by simp at g) (λ_=>⟨_,zAH hs (k:=0) rfl,zB (λg=>by simp at g) (λ_=>⟨_,zAH hs (k:=4) rfl,?_⟩)⟩)
 have hlen:=H.len
 rw[hlen]
 refine⟨λxs h10=>∃(q6:OSl) (i:Nat) (l:List Ent),xs=[.sl q6,.int .i64 (i:Nat)]/\i<=heads.length/\jG S base heads i=some l/\New entE h h10 q6 l,λxs _=>match xs with | [_,.int _ i]=>(heads.length-i).toNat|_=>0,
  ⟨none,0,[],rfl,by omega,rfl,New.none⟩,?_⟩
 rintro q6 n7 h10 ⟨q6',i,l,hx,hi,hp,N⟩
 simp only[List.cons.injEq,AV.sl.injEq,AV.int.injEq,true_and,and_true] at hx
 obtain⟨rfl,rfl⟩:=hx
 have x10:=N.1
 have hll:=(zEU hp).1
 refine zB (λg=> ?_) (λg=> ?_)
 ·replace g:=of_decide_eq_true g
  refine k228 (L.ext x10) (R.grow x10) Z b1 hb (by omega) (x10 _ _ hs) (H.mono x10) hh (by omega) (λhn h12 x12=>⟨_,_,rfl,zB (λ_=>h0 ?_ _ (x10.trans x12)) (λg=>by simp at g)⟩)
   λl2 q13 h12 hl2 x12 A12 f12=>⟨_,_,rfl,zB (λg=>by simp at g) (λ_=> ?_)⟩
  ·unfold allS
   rw[zEV hn heads.length (by omega)];rfl
  ·have h2:=(zCU (zG4 hl2).1).1
   refine New.append (E:=entE) (N.ext x12) A12.hasL (by omega) λq15 h16 N16=> ?_
   rw[zF ⟨by omega,by omega⟩]
   exact⟨trivial,⟨q15,i+1,l++l2,by simp,by omega,zJX hp hl2,N16⟩,by simp only;omega⟩
 ·replace g:=of_decide_eq_false g
  have hie:i=heads.length:=by omega
  subst hie
  refine⟨_,zAH (x10 _ _ hs) (k:=3) rfl,?_⟩
  have hl6:=N.hasL.len
  rw[hl6]
  refine zB (λg2=>h0 ?_ _ x10) (λg2=> ?_)
  ·unfold allS
   rw[hp,Option.bind_some,if_neg (λhc=>by rw[hc.1] at g2;simp at g2)]
  have g2:l.length=count:=by have:(l.length:Int)=(count:Int):=(by simpa using g2);omega
  refine z194 N.hasL (by omega) λh20 x20=>⟨_,rfl,?_⟩
  refine zB (λg3=>h0 ?_ _ (x10.trans x20)) (λg3=> ?_)
  ·unfold allS
   rw[hp,Option.bind_some,if_neg (λhc=>by simp[hc.2] at g3)]
  ·have g3:zN l:=by simpa using g3
   exact h1 l q6 h20 (by unfold allS;rw[hp,Option.bind_some,if_pos ⟨g2,g3⟩]) (N.ext x20))
theorem gk157 (H:HasL entE h q l)(hl:l.length<=1000000)(hQ:Q (mmV (jS l)) h):AC Tryz.prog 157 [.sl q] h Q:=ac157 (by
 unfold vc157
 have hlen:=H.len
 refine⟨λxs h7=>h7=h/\∃(i:Nat) (m:Mom),xs=[.int .i64 (i:Nat),.int .i64 m.1,.int .i64 m.2]/\i<=l.length/\jS (l.take i)=m,λxs _=>match xs with | [.int _ i,_,_]=>(l.length-i).toNat|_=>0,⟨rfl,0,(0,0),rfl,by omega,rfl⟩,?_⟩
 rintro n2 n3 n4 h7 ⟨rfl,i,m,hx,hi,hm⟩
 simp only[List.cons.injEq,AV.int.injEq,true_and,and_true] at hx
 obtain⟨rfl,rfl,rfl⟩:=hx
 rw[hlen]
 refine zB (λg=> ?_) (λg=> ?_)
 ·replace g:=of_decide_eq_true g
  refine HasL.idx (E:=entE) H (by omega) (by omega) λpp' y hy hc=>⟨_,_,_,_,hc,?_⟩
  rw[Int.toNat_natCast] at hy
  refine gk229 (m:=m) (m':=momE y) ⟨_,_,rfl,⟨trivial,rfl,trivial⟩,?_⟩
  rw[zF ⟨by omega,by omega⟩]
  refine⟨⟨rfl,i+1,joinM m (momE y),by simp,by omega,?_⟩,by simp only;omega⟩
  rw[List.take_add_one,hy]
  show jS (l.take i++[y])=_
  unfold jS at hm ⊢
  rw[List.foldl_append,hm];rfl
 ·replace g:=of_decide_eq_false g
  have:i=l.length:=by omega
  subst this
  rw[List.take_length] at hm
  rw[<-show mmV (jS l)= .agg [.int .i64 m.1,.int .i64 m.2] by rw[hm]]
  exact hQ)
end
theorem zMA {fs:List FA}{lim:Int}{s:List UInt8}{b:Nat}(hs:mayN s=true)(hn:∀y∈fs,y.name≠s)(hf:fs.length<256):((kX fs lim).create s b).1=0:=by
 have hnone:(kX fs lim).find s=none:=by
  unfold DS.find kX
  exact List.find?_eq_none.2 (λx hx=>by simpa using hn x hx)
 unfold DS.create
 rw[if_neg (by simp[hs]),if_neg (by simp[kX]),if_neg (by simp[hnone]),if_neg (by simp[kX];omega)]
 rfl
def zOE(gs:List GF):Nat:=(gs.map λy=>2*y.l.length+1).sum
theorem S_len {x:GF}(o:∀e∈x.l,yH e=true):x.S.length<=2*x.l.length+1:=by
 have h1:=kI o
 have h2:=zC2 o
 unfold GF.S
 rw[zAP];omega
theorem zJO:∀{gs:List GF},(∀y∈gs,y.ok)->((gs.map GF.fa).map (·.now.length)).sum<=zOE gs
 | [],_=>Nat.le_refl _
 |y::gs,h=>by
  have:=zJO λu hu=>h u (List.mem_cons_of_mem _ hu)
  have h2:=S_len (h y List.mem_cons_self).e
  unfold zOE at this ⊢
  rw[List.map_cons,List.map_cons,List.map_cons,List.sum_cons,List.sum_cons]
  show y.S.length+_<=_
  omega
section
variable{z z':Nat->Prop}{h h':Heap}{e e':Env}{Q:AHp}{sb:Nat}{S:SS}{ps:List PD}{x:GF}{q:OSl}{l:List Ent}
theorem EV.other (E:EV z h e){X:Nat->Prop}(K:zI X h h')(hX:∀b,X b->z b/\e.ow b=none)(hl:h.length<=h'.length):EV z h' e:=by
 obtain⟨rs,es,cl,R⟩:=E.C
 have np:∀b,e.pb b->¬X b:=λb hb hc=>E.zp b (hX b hc).1 hb
 refine⟨E.L.keeps K (λhc=>E.nl.1.1 (hX _ hc).1) (λhc=>E.nl.1.2 (hX _ hc).1),E.R.ext (λb B hb hB=>K b B (λhc=>hb (hX b hc).2) hB) hl,⟨rs,es,cl,R.keepsZ K (λb hb=>.inl (hX b hb).1) ⟨np _ (.inl rfl),np _ (.inr (.inl rfl)),np _ (.inr (.inr rfl))⟩⟩,E.sm,E.A,E.zo,λb hb=>Nat.lt_of_lt_of_le (E.zl b hb) hl,E.zp,E.ok,E.nl,λb hb=>⟨(E.fz b hb).1,(E.fz b hb).2.1,Nat.lt_of_lt_of_le (E.fz b hb).2.2 hl⟩⟩
theorem gk92 (E:EV z h e)(hx:x∈e.gs)(hd:zA h ⟨sb,0+0⟩ 1=some [.ptr (some ⟨e.dp,0⟩)])
  (hQ:∀d h',Ext h h'->d.x=x->d.fs=[]->d.fq=none->PdR z h' e d->Q (.tup [.agg (yT.f d),.int .i64 0]) h'):AC Tryz.prog 92 [.ptr (some ⟨sb,0⟩),.str x.nm,.int .i64 x.base] h Q:=ac92 (by
 have ok:=E.ok x hx
 obtain⟨f1,f2,f3,f4⟩:=GF.fit ok
 have few:=ok.few
 have hop:zJ5 x.S x.base=some (x.l.length,zV (zR x.l)):=zIH ok.e (by omega) ok.so
 unfold vc92
 refine zQ ⟨_,hd,?_⟩
 refine k155 E.L E.R (E.lies hx) ok.b1 ok.b2 f2 (λhn=>by rw[hop] at hn;cases hn) λc heads sp q h7 ho O=>⟨_,_,rfl,zB (λg=>by simp at g) (λ_=> ?_)⟩
 rw[hop] at ho
 obtain⟨rfl,rfl⟩:=Prod.mk.inj (Option.some.inj ho)
 have E7:=E.grow O.keep
 have hal:allS x.S x.base x.l.length (zV (zR x.l))=some x.l:=zKZ ok.e ok.so
 refine k156 E7.L E7.R (E7.lies hx) ok.b1 ok.b2 f2 O.at' O.hd.hasL f3 (λhn=>by rw[hal] at hn;cases hn) λl' q' h11 hl' N11=>⟨_,_,rfl,zB (λg=>by simp at g) (λ_=> ?_)⟩
 rw[hal] at hl'
 cases hl'
 have x11:=N11.1
 refine gk157 N11.hasL (by omega) ⟨_,_,rfl,?_⟩
 have hpl:∀b,h.length<=b->¬EZ z e b/\¬e.pb b:=λb hb=>⟨λhc=>by have:=E.cp.zl b hc;omega,λhc=>by have:=E.cp.pool_lt hc;omega⟩
 have:=O.new
 exact hQ ⟨sp,q,x,none,[]⟩ h11 (O.keep.trans x11) rfl rfl rfl ⟨hx,⟨x11 _ _ O.at',O.hd.hasL.mono x11,hpl _ O.new,λt ht=>hpl _ (O.hq t ht)⟩,[],rfl,rfl,(λi s f a=>by simp at a),(λt ht=>by cases ht),λs hs=>by cases hs⟩)
theorem EV.file (E:EV z h e){ow':yC}(x0:x.ok)(hn:∀y∈e.gs,y.nm≠x.nm)(D:yQ e.ow h ow' h')(R:xB h' ow' e.dp (kX ((e.gs++[x]).map GF.fa) e.room)):EV (λb=>z b∨ow' b≠none) h' {e with ow:=ow',gs:=e.gs++[x]}:=by
 obtain⟨rs,es,cl,C⟩:=E.C
 have lvr:∀b,ow' b≠none->b<h'.length:=by
  obtain⟨m,qp,es,cl,R⟩:=R
  exact R.live
 have hlen:=E.L.len
 have oz:∀b,dsk e.ow b->z b:=λb hb=>E.zo b hb
 have np:∀b,e.pb b->¬dsk e.ow b:=λb hb hc=>hc (E.own b hb)
 have nz:∀b,b<h.length->¬z b->¬(z b∨ow' b≠none):=λb hb hz hc=>by
  rcases hc with hc|hc
  ·exact hz hc
  ·rcases D.own b hc with h1|h1
   ·exact hz (E.zo b h1)
   ·omega
 refine⟨E.L.keeps D.keeps (λhc=>E.nl.1.1 (oz _ hc)) (λhc=>E.nl.1.2 (oz _ hc)),R,⟨rs,es,cl,?_⟩,E.sm,Go.Cur.HP.swap E.A λf hf hi j l hfl=> ?_,λb hb=>.inr hb,λb hb=> ?_,λb hb hp=> ?_,λy hy=> ?_,⟨⟨nz _ (by omega) E.nl.1.1,nz _ (by omega) E.nl.1.2⟩,E.nl.2⟩,λb hb=>⟨nz b (E.fz b hb).2.2 (E.fz b hb).1,(E.fz b hb).2.1,Nat.lt_of_lt_of_le (E.fz b hb).2.2 D.len⟩⟩
 ·refine(C.more (z:=λb=>(z b∨ow' b≠none)∨e.F b) λb hb=> ?_).keepsZ D.keeps (λb hb=>.inl (.inl (oz b hb))) ⟨np _ (.inl rfl),np _ (.inr (.inl rfl)),np _ (.inr (.inr rfl))⟩
  rcases hb with(hb|hb)|hb
  ·exact .inl (.inl hb)
  ·exact(D.own b hb).imp (λh=>.inl (oz b h)) id
  ·exact .inl (.inr hb)
 ·unfold flE at hfl ⊢
  rw[List.find?_append]
  cases hfi:e.gs.find? λy=>y.nm==f.name with
  |some y=>rw[hfi] at hfl;exact hfl
  |none=>rw[hfi] at hfl;cases hfl
 ·rcases hb with hb|hb
  ·exact Nat.lt_of_lt_of_le (E.zl b hb) D.len
  ·exact lvr b hb
 ·rcases hb with hb|hb
  ·exact E.zp b hb hp
  ·rcases D.own b hb with h1|h1
   ·exact np b hp h1
   ·have:=E.cp.pool_lt hp;omega
 ·rcases List.mem_append.1 hy with hy|hy
  ·exact E.ok y hy
  ·rw[List.mem_singleton] at hy;rw[hy];exact x0
end
section
variable{z z':Nat->Prop}{h h':Heap}{e e':Env}{Q:AHp}{sb:Nat}{S:SS}{ps:List PD}{x:GF}{q:OSl}{l:List Ent}
theorem shl20 {k:Nat}(hk:k<1000):zC .i64 (1+shlK .i64 (k:Nat) 20)=((vV k:Nat):Int):=by
 have h1:shlK .i64 (k:Nat) 20=((k*1048576:Nat):Int):=by
  unfold shlK
  show zC .i64 ((k:Int)*2^20)=_
  rw[zF ⟨by omega,by omega⟩]
  omega
 rw[h1,zF ⟨by omega,by omega⟩]
 unfold vV
 omega
set_option maxRecDepth 20000 in
set_option maxHeartbeats 1000000 in
theorem gk73 (E:EV z h e)(R:StR z h e sb S ps)(H:HasL entE h q l)(nq:∀s,q=some s->s.b≠sb)(ok:∀y∈l,yH y=true)(so:zN l)(few:l.length<=500)(ne:l≠ [])(hk:S.k<999)(it:∀Q:AHp,Q (.str (decB 20 S.k)) h->AC Tryz.prog 119 [.int .i64 (S.k:Nat)] h Q)(hm:mayN (jR S.nm S.k)=true)(hn:∀y∈e.gs,y.nm≠jR S.nm S.k)(hf:e.gs.length<256)(hr:zOE e.gs+2*l.length+1<=e.room)
  (hQ:∀b d h' ow',EV (λb=>z b∨ow' b≠none) h' {e with ow:=ow',gs:=e.gs++[⟨b,jR S.nm S.k,vV S.k,l⟩]}->StR (λb=>z b∨ow' b≠none) h' {e with ow:=ow',gs:=e.gs++[⟨b,jR S.nm S.k,vV S.k,l⟩]} sb {S with k:=S.k+1} ps->PdR (λb=>z b∨ow' b≠none) h' {e with ow:=ow',gs:=e.gs++[⟨b,jR S.nm S.k,vV S.k,l⟩]} d->d.x=⟨b,jR S.nm S.k,vV S.k,l⟩->d.fs=[]->zI (λb=>(z b/\e.ow b≠none)∨b=sb) h h'->h.length<=h'.length->(∀b,ow' b≠none->e.ow b≠none∨h.length<=b)->Q (.tup [.agg (yT.f d),.int .i64 0]) h'):
  AC Tryz.prog 73 [.ptr (some ⟨sb,0⟩),.sl q] h Q:=ac73 (by
 obtain⟨rb,qp,Or,a1,a2,a3,a4,a5,a6,a7⟩:=R.at'
 have hml:(jR S.nm S.k).length<=24:=by
  unfold mayN at hm
  simp only[Bool.and_eq_true,decide_eq_true_eq] at hm
  exact hm.2
 have hpl:(jR S.nm S.k).length=S.nm.length+1+(decB 20 S.k).length:=by simp only[jR,List.length_append,List.length_cons,List.length_nil]
 unfold vc73
 refine zQ ⟨_,zU a1 (k:=2) rfl,zZ (decide_eq_true (by simp only[List.length_cons,List.length_nil];omega)) ?_⟩
 refine zQ ⟨_,zU a1 (k:=5) rfl,?_⟩
 refine it _ ⟨_,rfl,⟨_,zU a1 (k:=2) rfl,rfl⟩,zZ (decide_eq_true (by rw[List.length_append];simp only[List.length_cons,List.length_nil];omega)) ?_⟩
 refine zQ ⟨_,zU a1 (k:=5) rfl,?_⟩
 refine zQ ⟨_,zU a1 (k:=5) rfl,?_⟩
 refine yP (o:=5) a1 (by simp) ?_
 rw[shl20 (by omega),zF (n:=((S.k:Nat):Int)+1) ⟨by omega,by omega⟩]
 have hlt:=zD a1
 have K1:zI (λb=>b=sb) h (h.set sb (.cells (splice [.ptr (some ⟨e.dp,0⟩),.ptr (some ⟨e.p,0⟩),.str S.nm,.ptr (some ⟨rb,0⟩),.sl qp,.int .i64 (S.k:Nat)] 5 [.int .i64 (((S.k:Nat):Int)+1)]) true)):=zO rfl
 have b1:(h.set sb (.cells (splice [.ptr (some ⟨e.dp,0⟩),.ptr (some ⟨e.p,0⟩),.str S.nm,.ptr (some ⟨rb,0⟩),.sl qp,.int .i64 (S.k:Nat)] 5 [.int .i64 (((S.k:Nat):Int)+1)]) true))[sb]?=some (.cells [.ptr (some ⟨e.dp,0⟩),.ptr (some ⟨e.p,0⟩),.str S.nm,.ptr (some ⟨rb,0⟩),.sl qp,.int .i64 ((S.k+1:Nat):Int)] true):=by rw[List.getElem?_set_self hlt];rfl
 have l1:(h.set sb (.cells (splice [.ptr (some ⟨e.dp,0⟩),.ptr (some ⟨e.p,0⟩),.str S.nm,.ptr (some ⟨rb,0⟩),.sl qp,.int .i64 (S.k:Nat)] 5 [.int .i64 (((S.k:Nat):Int)+1)]) true)).length=h.length:=by simp
 generalize h.set sb (.cells (splice [.ptr (some ⟨e.dp,0⟩),.ptr (some ⟨e.p,0⟩),.str S.nm,.ptr (some ⟨rb,0⟩),.sl qp,.int .i64 (S.k:Nat)] 5 [.int .i64 (((S.k:Nat):Int)+1)]) true)=h1 at*
 have E1:=E.other K1 (λb hb=>by rw[hb];exact a4 _ (.inl rfl)) (by omega)
 have nsb:∀b,¬z b->b≠sb:=λb hz hc=>hz (by rw[hc];exact(a4 _ (.inl rfl)).1)
 have R1:StR z h1 e sb {S with k:=S.k+1} ps:=⟨R.pe,⟨rb,qp,Or,b1,a2.keeps K1 (λs hs hc=>a5 ⟨s,hs,hc⟩),a3.keeps K1 (λb hb hc=>a6 (hc▸hb)) (by omega) (λ_ h=>h) (λb hb=>by have:=a3.lv b hb;omega),a4,a5,a6,a7⟩,λd hd=>by
  have D:=R.pd d hd
  exact⟨D.mem,D.seg.keeps K1 (λb hb=>.inl (by rw[hb];exact(a4 _ (.inl rfl)).1)) (λ_ h=>.inl h) rfl (λ_ h=>h),D.fr.keeps K1 (λb hb=>.inl (.inl (by rw[hb];exact(a4 _ (.inl rfl)).1))) (λ_ h=>.inl h)⟩⟩
 refine zQ ⟨_,zU b1 (k:=0) rfl,?_⟩
 have hmE:mayE l=0:=zBG.2 ⟨ok,by omega⟩
 have pB:1<=vV S.k/\vV S.k<=2305843009213693952:=by unfold vV;omega
 have hmS:mayS (vV S.k:Nat) l=0:=by
  rcases zG6 (n:=((vV S.k:Nat):Int)) (l:=l) with⟨m,_⟩|⟨_,m,_⟩|⟨_,_,m,_⟩|⟨_,_,_,m⟩
  ·have:zAN ((vV S.k:Nat):Int)=true:=decide_eq_true ⟨by omega,by omega⟩
   rw[this] at m;cases m
  ·exact absurd hmE m
  ·exact absurd so m
  ·exact m
 have H1:HasL entE h1 q l:=K1.hasL (λs hs hc=>nq s hs hc) H
 show AC Tryz.prog 130 [_,.str (jR S.nm S.k),_,_] _ _
 refine k130D E1.L E1.R (by simp[kX]) H1 (by omega) (λhc=>absurd hmS hc) λbase hb _ _ _ _ b h2 ow2 hfr R2 D2=> ?_
 have hb:base=vV S.k:=by omega
 subst hb
 let x:GF:=⟨b,jR S.nm S.k,vV S.k,l⟩
 have xok:x.ok:=⟨hm,pB.1,pB.2,ok,so,few,ne⟩
 have hnf:∀y∈e.gs.map GF.fa,y.name≠jR S.nm S.k:=λy hy=>by
  obtain⟨g,hg,rfl⟩:=List.mem_map.1 hy
  exact hn g hg
 have hfr:=hfr (zMA hm hnf (by simpa using hf))
 have hS:=S_len (x:=x) ok
 have hsum:=zJO E.ok
 have hw:=wr_calm (lim:=(e.room:Nat)) (b:=b) hm hnf hfr (by simpa using hf) (GF.fit xok).1 (by
  have h1:x.l.length=l.length:=rfl
  omega)
 have hw':e.D.wr (jR S.nm S.k) (yS (vV S.k) l) b=(0,kX (e.gs.map GF.fa++[x.fa]) e.room):=hw
 rw[hw'] at R2 ⊢
 refine⟨_,rfl,zB (λg=>by simp at g) (λ_=> ?_)⟩
 have R2':xB h2 ow2 e.dp (kX ((e.gs++[x]).map GF.fa) e.room):=by rw[List.map_append];exact R2
 have E2:=E1.file (x:=x) xok hn D2 R2'
 have l2:=D2.len
 have R3:StR (λb=>z b∨ow2 b≠none) h2 {e with ow:=ow2,gs:=e.gs++[x]} sb {S with k:=S.k+1} ps:=R1.keeps D2.keeps D2.len (λb hb=>.inl ⟨E.zo b hb,hb⟩) E.zp (λb hb=>.inl hb) (λb hb=>by
  rcases hb with hb|hb
  ·exact .inl hb
  ·exact(D2.own b hb).imp (E.zo b) id) rfl rfl rfl rfl D2.own (λd hd=>List.mem_append_left _ (R1.pd d hd).mem)
 obtain⟨rb3,qp3,Or3,c1,_⟩:=R3.at'
 refine gk92 (x:=x) E2 (List.mem_append_right _ (by simp)) (zU c1 (k:=0) rfl) λd h3 x3 hdx hfs hfq Dd=>⟨_,_,_,_,_,_,rfl,?_⟩
 have l3:=x3.len
 have R4:=R3.keeps (z':=λb=>z b∨ow2 b≠none) (e':={e with ow:=ow2,gs:=e.gs++[x]}) (Y:=λ_=>False) (zH x3) x3.len (λ_ h=>h.elim) E2.zp (λ_ h=>h) (λ_ h=>.inl h) rfl rfl rfl rfl (λb hb=>.inl hb) (λd hd=>(R3.pd d hd).mem)
 refine hQ b d h3 ow2 (E2.grow x3) R4 Dd hdx hfs (λc B hc hB=>x3 _ _ (D2.keeps c B (λhd=>hc (.inl ⟨E.zo c hd,hd⟩)) (K1 c B (λhd=>hc (.inr hd)) hB))) (by omega) λc hc=> ?_
 have:=D2.own c hc
 rw[l1] at this
 exact this)
end
def valB(l:List UInt8):Nat:=l.foldl (λn c=>n*10+(c.toNat-48)) 0
theorem zNS:∀k:Fin 1000,valB (decB 20 k.val)=k.val:=by decide+kernel
theorem zUC:∀k:Fin 1000,1<=(decB 20 k.val).length/\(decB 20 k.val).length<=3:=by decide+kernel
theorem zJW {s:List UInt8}{i j:Nat}(hi:i<1000)(hj:j<1000)(h:jR s i=jR s j):i=j:=by
  unfold jR at h
  have h2:=List.append_cancel_left h
  have h3:=zNS ⟨i,hi⟩
  have h4:=zNS ⟨j,hj⟩
  simp only at h3 h4
  rw[<-h3,<-h4,h2]
theorem zJV {s:List UInt8}{k:Nat}(hk:k<1000)(hs:s.length<=20):mayN (jR s k)=true:=by
  have:=zUC ⟨k,hk⟩
  simp only at this
  unfold mayN
  simp only[jR,List.length_append,List.length_cons,List.length_nil,Bool.and_eq_true,decide_eq_true_eq]
  omega
structure Went(z:Nat->Prop)(h:Heap)(e:Env)(z':Nat->Prop)(h':Heap)(e':Env):Prop where
  K:zI (λb=>z b∨e.pb b) h h'
  l:h.length<=h'.length
  z1:∀b,z b->z' b
  zn:∀b,z' b->z b∨h.length<=b
  pb:(∀b,e'.pb b↔e.pb b)/\e'.room=e.room/\e'.F=e.F
  dp:e'.dp=e.dp
theorem Went.refl (z:Nat->Prop)(h:Heap)(e:Env):Went z h e z h e:=⟨.refl _ _,Nat.le_refl _,λ_ h=>h,λ_ h=>.inl h,⟨λ_=>Iff.rfl,rfl,rfl⟩,rfl⟩
theorem Went.trans {z z1 z2:Nat->Prop}{h h1 h2:Heap}{e e1 e2:Env}(a:Went z h e z1 h1 e1)(b:Went z1 h1 e1 z2 h2 e2):Went z h e z2 h2 e2 where
  K:=λc B hc hB=>b.K c B (λhd=>by
    rcases hd with hd|hd
    · rcases a.zn c hd with h3|h3
      · exact hc (.inl h3)
      · have:=zD hB;omega
    · exact hc (.inr ((a.pb.1 c).1 hd))) (a.K c B hc hB)
  l:=Nat.le_trans a.l b.l
  z1:=λc hc=>b.z1 c (a.z1 c hc)
  zn:=λc hc=>by
    rcases b.zn c hc with h3|h3
    · exact a.zn c h3
    · have:=a.l;exact .inr (by omega)
  pb:=⟨λc=>(b.pb.1 c).trans (a.pb.1 c),b.pb.2.1.trans a.pb.2.1,b.pb.2.2.trans a.pb.2.2⟩
  dp:=b.dp.trans a.dp
structure St(z:Nat->Prop)(h:Heap)(e:Env)(sb:Nat)(S:SS)(ps:List PD):Prop where
  E:EV z h e
  R:StR z h e sb S ps
  gs:e.gs=ps.map (·.x)
  nm:∀d∈ps,∃j,j<S.k/\d.x.nm=jR S.nm j
  few:ps.length<=32
  ok:∀y∈S.run,yH y=true
def ItP(z:Nat->Prop)(h:Heap)(e:Env)(k:Nat):Prop:=k<100∨∀(h':Heap) (Q:AHp),zI (λb=>z b∨e.pb b) h h'->Q (.str (decB 20 k)) h'->AC Tryz.prog 119 [.int .i64 (k:Nat)] h' Q
theorem ItP.use {z:Nat->Prop}{h h':Heap}{e:Env}{k:Nat}(I:ItP z h e k)(K:zI (λb=>z b∨e.pb b) h h')(Q:AHp)(hQ:Q (.str (decB 20 k)) h'):AC Tryz.prog 119 [.int .i64 (k:Nat)] h' Q:=by
  rcases I with I|I
  · exact gk119 I hQ
  · exact I h' Q K hQ
theorem zH7:∀ps:List PD,zOE (ps.map (·.x))=2*lenP ps+ps.length
  | []=>rfl
  |d::ps=>by
    have:=zH7 ps
    unfold zOE lenP at this ⊢
    simp only[List.map_cons,List.sum_cons,List.length_cons]
    omega
theorem jX {S:SS}{ps:List PD}(h:S.ps=ps.map PD.part):S.lies.length=lenP ps:=by
  rw[zMK h,List.length_flatMap];rfl
section
variable{z z':Nat->Prop}{h h':Heap}{e e':Env}{Q:AHp}{sb:Nat}{S:SS}{ps:List PD}{x:GF}{q:OSl}{l:List Ent}
theorem EV.other2 (E:EV z h e){X:Nat->Prop}(K:zI X h h')(hX:∀b,X b->z b/\e.ow b=none)(hl:h.length<=h'.length)(h1:∀b,z b->z' b)(h2:∀b,z' b->z b∨(h.length<=b/\b<h'.length)):EV z' h' e:=by
  obtain⟨rs,es,cl,R⟩:=E.C
  have np:∀b,e.pb b->¬X b:=λb hb hc=>E.zp b (hX b hc).1 hb
  have hlen:=E.L.len
  have nz:∀b,b<h.length->¬z b->¬z' b:=λb hb hz hc=>by
    rcases h2 b hc with hc|hc
    · exact hz hc
    · omega
  refine⟨E.L.keeps K (λhc=>E.nl.1.1 (hX _ hc).1) (λhc=>E.nl.1.2 (hX _ hc).1),E.R.ext (λb B hb hB=>K b B (λhc=>hb (hX b hc).2) hB) hl,⟨rs,es,cl,(R.more (z:=EZ z' e) λb hb=>hb.elim (λhb=>(h2 b hb).imp .inl And.left) λhb=>.inl (.inr hb)).keepsZ K (λb hb=>.inl (h1 b (hX b hb).1)) ⟨np _ (.inl rfl),np _ (.inr (.inl rfl)),np _ (.inr (.inr rfl))⟩⟩,E.sm,E.A,λb hb=>h1 b (E.zo b hb),λb hb=> ?_,λb hb hp=> ?_,E.ok,⟨⟨nz _ (by omega) E.nl.1.1,nz _ (by omega) E.nl.1.2⟩,E.nl.2⟩,λb hb=>⟨nz b (E.fz b hb).2.2 (E.fz b hb).1,(E.fz b hb).2.1,Nat.lt_of_lt_of_le (E.fz b hb).2.2 hl⟩⟩
  · rcases h2 b hb with hb|hb
    · exact Nat.lt_of_lt_of_le (E.zl b hb) hl
    · exact hb.2
  · rcases h2 b hb with hb|hb
    · exact E.zp b hb hp
    · have:=E.cp.pool_lt hp;omega
theorem PdR.keeps {d:PD}{Y:Nat->Prop}(D:PdR z h e d)(K:zI Y h h')(hY:∀b,Y b->z b∨e.pb b)(hX:∀b,z' b->z b∨h.length<=b)(e1:e'.dp=e.dp)(e2:∀b,e'.pb b->e.pb b)(hm:d.x∈e'.gs)(e9:∀b,e'.F b->e.F b∨h.length<=b:=by exact λ_ h=>.inl h):PdR z' h' e' d:=
  ⟨hm,D.seg.keeps K hY hX e1 e2 e9,D.fr.keeps K (λb hb=>(hY b hb).imp .inl id) λb hb=>by
    rcases hb with(hb|hb)|hb
    · exact(hX b hb).imp (λh=>.inl (.inl h)) id
    · exact(e9 b hb).imp (λh=>.inl (.inr h)) id
    · exact .inl (.inr (e2 b hb))⟩
set_option maxRecDepth 20000 in
set_option maxHeartbeats 1000000 in
theorem zUI (E:EV z h e)(R:StR z h e sb S ps){d:PD}(D:PdR z h e d)(hps:ps.length<=1000)
    {K:Heap->Prop}(hK:∀z' h',EV z' h' e->StR z' h' e sb {S with ps:=S.ps++[d.part]} (ps++[d])->Went z h e z' h' e->K h'):
    vPtr (some (⟨sb,0⟩:PA)) λp25=>∃q26:OSl,zA h ⟨p25.b,p25.o+4⟩ 1=some [.sl q26]/\
     PNew (yT.f d) true h λa27 h28=>
     (∃q38:OSl,zA h28 ⟨p25.b,p25.o+4⟩ 1=some [.sl q38]/\LV.val (.sl q38)=LV.val (.sl q26))/\
     zM 5 56 q26 (some ⟨a27,0,1,1,0⟩) h28 λq29 h30=>
     vPtr (some (⟨sb,0⟩:PA)) λp31=>zL h30 ⟨p31.b,p31.o+4⟩ [.sl q29] K:=by
  obtain⟨rb,qp,Or,a1,a2,a3,a4,a5,a6,a7⟩:=R.at'
  unfold PNew
  refine zQ ⟨qp,zU a1 (k:=4) rfl,?_⟩
  have x1:Ext h (h++[Blk.cells (yT.f d) true]):=.app _ _
  have Hn:HasL yT (h++[Blk.cells (yT.f d) true]) (some ⟨h.length,0,1,1,0⟩) [d]:=HasL.new (E:=yT) (l:=[d]) (n:=1) rfl (by simp[Enc.all])
  have l1:(h++[Blk.cells (yT.f d) true]).length=h.length+1:=by simp
  generalize h++[Blk.cells (yT.f d) true]=h1 at*
  refine⟨⟨qp,zU (x1 _ _ a1) (k:=4) rfl,rfl⟩,?_⟩
  refine AppJ.append (E:=yT) (a2.ext x1) Hn (by simp only[List.length_cons,List.length_nil];omega) λq2 h2 A2 K2 l2 b2=> ?_
  have sbq:¬inq qp sb:=a5
  have c1:=K2 _ _ (λ⟨s,hs,hb⟩=>sbq ⟨s,hs,hb⟩) (x1 _ _ a1)
  have hlt:=zD c1
  have hsl:=zD a1
  refine yP (o:=4) c1 (by simp) ?_
  have c3:(h2.set sb (.cells (splice [.ptr (some ⟨e.dp,0⟩),.ptr (some ⟨e.p,0⟩),.str S.nm,.ptr (some ⟨rb,0⟩),.sl qp,.int .i64 (S.k:Nat)] 4 [.sl q2]) true))[sb]?=some (.cells [.ptr (some ⟨e.dp,0⟩),.ptr (some ⟨e.p,0⟩),.str S.nm,.ptr (some ⟨rb,0⟩),.sl q2,.int .i64 (S.k:Nat)] true):=by rw[List.getElem?_set_self hlt];rfl
  have K3:zI (λb=>b=sb) h2 (h2.set sb (.cells (splice [.ptr (some ⟨e.dp,0⟩),.ptr (some ⟨e.p,0⟩),.str S.nm,.ptr (some ⟨rb,0⟩),.sl qp,.int .i64 (S.k:Nat)] 4 [.sl q2]) true)):=zO rfl
  have l3:(h2.set sb (.cells (splice [.ptr (some ⟨e.dp,0⟩),.ptr (some ⟨e.p,0⟩),.str S.nm,.ptr (some ⟨rb,0⟩),.sl qp,.int .i64 (S.k:Nat)] 4 [.sl q2]) true)).length=h2.length:=by simp
  generalize h2.set sb (.cells (splice [.ptr (some ⟨e.dp,0⟩),.ptr (some ⟨e.p,0⟩),.str S.nm,.ptr (some ⟨rb,0⟩),.sl qp,.int .i64 (S.k:Nat)] 4 [.sl q2]) true)=h3 at*
  have lv2:∀s,q2=some s->s.b<h2.length:=A2.live
  have qcase:∀b,inq q2 b->inq qp b∨h.length<=b:=λb ⟨s,hs,hb⟩=>by
    rcases b2 s hs with h4|⟨s2,h4,h5⟩
    · exact .inr (by omega)
    · exact .inl ⟨s2,h4,by rw[h5,hb]⟩
  have KK:zI (λb=>inq qp b∨b=sb) h h3:=λb B hb hB=>K3 b B (λhc=>hb (.inr hc)) (K2 b B (λ⟨s,hs,hc⟩=>hb (.inl ⟨s,hs,hc⟩)) (x1 _ _ hB))
  have hX:∀b,inq qp b∨b=sb->z b/\e.ow b=none:=λb hb=>hb.elim (λhb=>a4 b (.inr (.inl hb))) (λhb=>a4 b (.inl hb))
  have hz2:∀b,z b∨inq q2 b->z b∨(h.length<=b/\b<h3.length):=λb hb=>by
    rcases hb with hb|hb
    · exact .inl hb
    · rcases qcase b hb with h4|h4
      · exact .inl (a4 b (.inr (.inl h4))).1
      · obtain⟨s,hs,rfl⟩:=hb
        have:=lv2 s hs
        exact .inr ⟨h4,by omega⟩
  have hz3:∀b,z b∨inq q2 b->z b∨h.length<=b:=λb hb=>(hz2 b hb).imp id And.left
  have onone:∀b,h.length<=b->e.ow b=none:=λb hb=>by
    cases ho:e.ow b with
    |none=>rfl
    |some r=>have:=E.zl b (E.zo b (by rw[ho];simp));omega
  have E3:EV (λb=>z b∨inq q2 b) h3 e:=E.other2 KK hX (by omega) (λb hb=>.inl hb) hz2
  have q2sb:¬inq q2 sb:=λhc=>by
    rcases qcase sb hc with h4|h4
    · exact a5 h4
    · omega
  refine hK (λb=>z b∨inq q2 b) h3 E3 ⟨?_,⟨rb,q2,Or,c3,A2.keeps K3 (λs hs hc=>q2sb ⟨s,hs,hc⟩),a3.keeps KK (λb hb hc=> ?_) (by omega) (λ_ h=>h) (λb hb=>by have:=a3.lv b hb;omega),λb hb=> ?_,q2sb,a6,λb hb hc=> ?_⟩,λd' hd=> ?_⟩ ⟨λb B hb hB=>KK b B (λhc=>hb (.inl (hX b hc).1)) hB,by omega,λb hb=>.inl hb,hz3,⟨λ_=>Iff.rfl,rfl,rfl⟩,rfl⟩
  · show S.ps++[d.part]=_
    rw[R.pe,List.map_append];rfl
  · rcases hc with hc|hc
    · exact a7 b hc hb
    · exact a6 (hc▸hb)
  · rcases hb with hb|hb|hb
    · exact⟨.inl (a4 b (.inl hb)).1,(a4 b (.inl hb)).2⟩
    · refine⟨.inr hb,?_⟩
      rcases qcase b hb with h4|h4
      · exact(a4 b (.inr (.inl h4))).2
      · exact onone b h4
    · exact⟨.inl (a4 b (.inr (.inr hb))).1,(a4 b (.inr (.inr hb))).2⟩
  · rcases qcase b hb with h4|h4
    · exact a7 b h4 hc
    · have:=a3.lv b hc;omega
  · have hd':PdR z h e d':=by
      rcases List.mem_append.1 hd with hd|hd
      · exact R.pd d' hd
      · rw[List.mem_singleton] at hd;rw[hd];exact D
    exact hd'.keeps KK (λb hb=>.inl (hX b hb).1) hz3 rfl (λ_ h=>h) hd'.mem
end
section
variable{z z':Nat->Prop}{h h':Heap}{e e':Env}{Q:AHp}{sb:Nat}{S:SS}{ps:List PD}{x:GF}{q:OSl}{l:List Ent}{y:Ent}
theorem StR.grow (R:StR z h e sb S ps)(E:EV z h e)(xx:Ext h h'):StR z h' e sb S ps:=R.on E (P:=e.P) (N:=e.N) (zH xx) xx.len
theorem StR.run (E:EV z h e){Or Or':Nat->Prop}{rb:Nat}{qp:OSl}{rn:List Ent}(R:StR z h e sb S ps)
  (a1:h[sb]?=some (.cells [.ptr (some ⟨e.dp,0⟩),.ptr (some ⟨e.p,0⟩),.str S.nm,.ptr (some ⟨rb,0⟩),.sl qp,.int .i64 (S.k:Nat)] true))(a2:AppJ yT h qp ps)(a3:RunR h rb S.lim S.run Or)(a4:∀b,b=sb∨inq qp b∨Or b->z b/\e.ow b=none)(a5:¬inq qp sb)(a6:¬Or sb)(a7:∀b,inq qp b->¬Or b)
  (R':RunR h' rb S.lim rn Or')(O:OS Or h Or' h'):EV (λb=>z b∨Or' b) h' e/\StR (λb=>z b∨Or' b) h' e sb {S with run:=rn} ps/\Went z h e (λb=>z b∨Or' b) h' e:=by
 have hX:∀b,Or b->z b/\e.ow b=none:=λb hb=>a4 b (.inr (.inr hb))
 have hz2:∀b,z b∨Or' b->z b∨(h.length<=b/\b<h'.length):=λb hb=>by
  rcases hb with hb|hb
  ·exact .inl hb
  ·rcases O.n b hb with h4|h4
   ·exact .inl (hX b h4).1
   ·exact .inr ⟨h4,R'.lv b hb⟩
 have hz3:∀b,z b∨Or' b->z b∨h.length<=b:=λb hb=>(hz2 b hb).imp id And.left
 have onone:∀b,h.length<=b->e.ow b=none:=λb hb=>by
  cases ho:e.ow b with
  |none=>rfl
  |some r=>have:=E.zl b (E.zo b (by rw[ho];simp));omega
 have hsl:=zD a1
 refine⟨E.other2 O.k hX O.l (λb hb=>.inl hb) hz2,⟨R.pe,⟨rb,qp,Or',O.k _ _ a6 a1,a2.keeps O.k (λs hs hc=>a7 _ ⟨s,hs,rfl⟩ hc),R',λb hb=> ?_,a5,λhc=> ?_,λb hb hc=> ?_⟩,λd hd=>(R.pd d hd).keeps O.k (λb hb=>.inl (hX b hb).1) hz3 rfl (λ_ h=>h) (R.pd d hd).mem⟩,λb B hb hB=>O.k b B (λhc=>hb (.inl (hX b hc).1)) hB,O.l,λb hb=>.inl hb,hz3,⟨λ_=>Iff.rfl,rfl,rfl⟩,rfl⟩
 ·rcases hb with hb|hb|hb
  ·exact⟨.inl (a4 b (.inl hb)).1,(a4 b (.inl hb)).2⟩
  ·exact⟨.inl (a4 b (.inr (.inl hb))).1,(a4 b (.inr (.inl hb))).2⟩
  ·refine⟨.inr hb,?_⟩
   rcases O.n b hb with h4|h4
   ·exact(hX b h4).2
   ·exact onone b h4
 ·rcases O.n sb hc with h4|h4
  ·exact a6 h4
  ·omega
 ·rcases O.n b hc with h4|h4
  ·exact a7 b hb h4
  ·obtain⟨s,hs,rfl⟩:=hb
   have:=a2.live s hs;omega
set_option maxRecDepth 20000 in
set_option maxHeartbeats 1000000 in
theorem gk15 (T:St z h e sb S ps)(hk:S.k<999)(it:ItP z h e S.k)(hs:S.nm.length<=20)(hz:S.size<=500)(hr':2*S.size+40<=e.room)
  (hQ:∀z' h' e' ps',Went z h e z' h' e'->St z' h' e' sb S.spill.2 ps'->e'.N=e.N->Q (.int .i64 S.spill.1) h'):AC Tryz.prog 15 [.ptr (some ⟨sb,0⟩)] h Q:=ac15 (by
 obtain⟨E,R,gse,nme,few,rok⟩:=T
 obtain⟨rb,qp,Or,a1,a2,a3,a4,a5,a6,a7⟩:=R.at'
 have hpl:S.ps.length=ps.length:=by rw[R.pe,List.length_map]
 have hll:=jX R.pe
 unfold SS.size at hz hr'
 have hsz:S.run.length+lenP ps<=500:=by omega
 unfold vc15
 refine gk68 R ⟨_,rfl,zB (λg=>by simp at g) (λ_=> ?_)⟩
 refine zQ ⟨_,zU a1 (k:=3) rfl,?_⟩
 refine gk70 a3 ⟨_,rfl,zB (λg=> ?_) (λg=> ?_)⟩
 ·have hr:S.run=[]:=List.eq_nil_of_length_eq_zero (by have:((S.run.length:Nat):Int)=0:=(by simpa using g);omega)
  have hsp:S.spill=(0,S):=by unfold SS.spill;rw[if_pos hr]
  rw[hsp] at hQ
  exact hQ z h e ps (.refl _ _ _) ⟨E,R,gse,nme,few,rok⟩ rfl
 have hr:S.run≠ []:=λhc=>by rw[hc] at g;simp at g
 refine zQ ⟨_,zU a1 (k:=4) rfl,?_⟩
 rw[a2.hasL.len]
 refine zB (λg2=> ?_) (λg2=> ?_)
 ·replace g2:=of_decide_eq_true g2
  have hsp:S.spill=(31,S):=by unfold SS.spill;rw[if_neg hr,if_pos (by omega)]
  rw[hsp] at hQ
  exact hQ z h e ps (.refl _ _ _) ⟨E,R,gse,nme,few,rok⟩ rfl
 replace g2:=of_decide_eq_false g2
 have hsp:S.spill=(0,{S with run:=[],ps:=S.ps++[S.next (yA S.run)],k:=S.k+1}):=by unfold SS.spill;rw[if_neg hr,if_neg (by omega)]
 rw[hsp] at hQ
 simp only at hQ
 refine zQ ⟨_,zU a1 (k:=3) rfl,?_⟩
 refine gk74 a3 λq16 h15 N15=>⟨_,rfl,?_⟩
 have E15:=E.grow N15.1
 have R15:=R.grow E N15.1
 have l15:=N15.1.len
 have hsl:=zD a1
 have hp:=zS S.run
 refine gk73 E15 R15 N15.hasL (λs hs' hc=>by have:=N15.2.2 s hs';omega) (λy hy=>rok y (hp.mem_iff.1 hy)) (yD _) (by rw[hp.length_eq];omega) (λhc=>hr (by rw[hc] at hp;exact hp.symm.eq_nil)) hk (it.use (zH N15.1)) (zJV (by omega) hs) (λy hy=> ?_) (by rw[gse,List.length_map];omega) (by rw[gse,zH7,hp.length_eq];have:=few;omega) λb d h18 ow' E18 R18 D18 hdx hfs K18 l18 n18=>⟨_,_,_,_,_,_,rfl,zB (λg=>by simp at g) (λ_=> ?_)⟩
 ·rw[gse] at hy
  obtain⟨d,hd,rfl⟩:=List.mem_map.1 hy
  obtain⟨j,hj,he⟩:=nme d hd
  intro hc
  have:=zJW (by omega) (by omega) (he.symm.trans hc)
  omega
 have lvr:∀b,ow' b≠none->b<h18.length:=E18.R.live
 have W18:Went z h15 e (λb=>z b∨ow' b≠none) h18 {e with ow:=ow',gs:=e.gs++[⟨b,jR S.nm S.k,vV S.k,yA S.run⟩]}:=⟨λc B hc hB=>K18 c B (λhd=>hc (.inl (hd.elim And.left λhd=>by rw[hd];exact(a4 sb (.inl rfl)).1))) hB,l18,λb hb=>.inl hb,λb hb=>by
  rcases hb with hb|hb
  ·exact .inl hb
  ·exact(n18 b hb).imp (E.zo b) id,⟨λ_=>Iff.rfl,rfl,rfl⟩,rfl⟩
 have W15:Went z h e z h15 e:=⟨zH N15.1,l15,λ_ h=>h,λ_ h=>.inl h,⟨λ_=>Iff.rfl,rfl,rfl⟩,rfl⟩
 refine zUI (d:=d) E18 R18 D18 (by omega) λz2 h32 E32 R32 W32=> ?_
 obtain⟨rb2,qp2,Or2,b1,b2,b3,b4,b5,b6,b7⟩:=R32.at'
 refine zQ ⟨_,zU b1 (k:=3) rfl,?_⟩
 refine gk75 b3 λq37 h36 R36 O36=>⟨_,rfl,?_⟩
 obtain⟨E36,S36,W36⟩:=StR.run E32 R32 b1 b2 b3 b4 b5 b6 b7 R36 O36
 have hpart:d.part=S.next (yA S.run):=by
  unfold PD.part SS.next
  rw[hdx,hfs]
 refine hQ _ h36 _ (ps++[d]) (((W15.trans W18).trans W32).trans W36) ⟨E36,?_,?_,λd' hd=> ?_,?_,λy hy=>by cases hy⟩ rfl
 ·rw[<-hpart];exact S36
 ·show e.gs++[_]=_
  rw[gse,List.map_append,<-hdx];rfl
 ·rcases List.mem_append.1 hd with hd|hd
  ·obtain⟨j,hj,he⟩:=nme d' hd
   exact⟨j,Nat.lt_succ_of_lt hj,he⟩
  ·rw[List.mem_singleton] at hd
   exact⟨S.k,Nat.lt_succ_self _,by rw[hd,hdx]⟩
 ·rw[List.length_append];simp only[List.length_cons,List.length_nil];omega)
theorem zSR (T:St z h e sb S ps)(he:yM y=0)(hlim:S.run.length<S.lim)
  (hQ:∀z' h' e' ps',Went z h e z' h' e'->St z' h' e' sb (S.push y) ps'->e'.N=e.N->Q (.int .i64 0) h'):
  vPtr (some (⟨sb,0⟩:PA)) λp30=>∃p31:OPa,zA h ⟨p30.b,p30.o+3⟩ 1=some [.ptr p31]/\AC Tryz.prog 72 [.ptr p31,entV y] h Q:=by
 obtain⟨E,R,gse,nme,few,rok⟩:=T
 obtain⟨rb,qp,Or,a1,a2,a3,a4,a5,a6,a7⟩:=R.at'
 refine zQ ⟨_,zU a1 (k:=3) rfl,?_⟩
 refine gk72 a3 (λhc=>absurd he hc) (λ_ hc=>by omega) λ_ _ h' O' R' O=> ?_
 obtain⟨E2,R2,W2⟩:=StR.run E R a1 a2 a3 a4 a5 a6 a7 R' O
 refine hQ _ h' e ps W2 ⟨E2,R2,gse,nme,few,λu hu=> ?_⟩ rfl
 rcases List.mem_append.1 hu with hu|hu
 ·exact rok u hu
 ·rw[List.mem_singleton] at hu
  rw[hu];exact zAM.1 he
set_option maxRecDepth 20000 in
theorem gk14 (T:St z h e sb S ps)(hk:S.k<999)(it:ItP z h e S.k)(hs:S.nm.length<=20)(hz:S.size<=500)(hr':2*S.size+40<=e.room)(hlim:1<=S.lim)
  (hQ:∀z' h' e' ps',Went z h e z' h' e'->St z' h' e' sb (S.add (yM y) y).2 ps'->e'.N=e.N->Q (.int .i64 (S.add (yM y) y).1) h'):AC Tryz.prog 14 [.ptr (some ⟨sb,0⟩),entV y] h Q:=ac14 (by
 have R:=T.R
 obtain⟨rb,qp,Or,a1,a2,a3,a4,a5,a6,a7⟩:=R.at'
 unfold vc14
 refine gk68 R ⟨_,rfl,zB (λg=>by simp at g) (λ_=> ?_)⟩
 refine k69 ⟨_,rfl,zB (λg=> ?_) (λg=> ?_)⟩
 ·have he:yM y≠0:=by simpa using g
  unfold SS.add at hQ
  rw[if_pos he] at hQ
  exact hQ z h e ps (.refl _ _ _) T rfl
 have he:yM y=0:=by simpa using g
 unfold SS.add at hQ
 rw[if_neg (λhc=>hc he)] at hQ
 refine zQ ⟨_,zU a1 (k:=3) rfl,?_⟩
 refine zQ ⟨_,zU a1 (k:=3) rfl,?_⟩
 refine gk70 a3 ⟨_,rfl,⟨_,zU a1 (k:=3) rfl,rfl⟩,?_⟩
 refine gk71 a3 ⟨_,rfl,zB (λg2=> ?_) (λg2=> ?_)⟩
 ·replace g2:=of_decide_eq_true g2
  rw[if_pos (show S.lim<=S.run.length by omega)] at hQ
  refine gk15 T hk it hs hz hr' λz1 h1 e1 ps1 W1 T1 n1=>⟨_,rfl,zB (λg3=> ?_) (λg3=> ?_)⟩
  ·have hne:S.spill.1≠0:=by simpa using g3
   rw[if_neg hne] at hQ
   exact hQ z1 h1 e1 ps1 W1 T1 n1
  ·have hne:S.spill.1=0:=by simpa using g3
   rw[if_pos hne] at hQ
   have hrun:S.spill.2.run=[]/\S.spill.2.lim=S.lim:=by
    unfold SS.spill at hne ⊢
    split
    ·rename_i h0;exact⟨h0,rfl⟩
    ·rename_i h0
     rw[if_neg h0] at hne
     split
     ·rename_i h1;rw[if_pos h1] at hne;simp at hne
     ·exact⟨rfl,rfl⟩
   refine zSR T1 he (by rw[hrun.1,hrun.2];exact hlim) λz2 h2 e2 ps2 W2 T2 n2=>⟨_,rfl,hQ z2 h2 e2 ps2 (W1.trans W2) T2 (n2.trans n1)⟩
 ·replace g2:=of_decide_eq_false g2
  rw[if_neg (show ¬S.lim<=S.run.length by omega)] at hQ
  exact zSR T he (by omega) λz2 h2 e2 ps2 W2 T2 n2=>⟨_,rfl,hQ z2 h2 e2 ps2 W2 T2 n2⟩)
end
section
theorem InMM.grow {X:Nat->Prop}{h h':Heap}{q:OSl}{fs:List (List Mom)}(I:InMM X h q fs)(x:Ext h h'):InMM X h' q fs:=I.keeps (Y:=λ_=>False) (zH x) (λ_ h=>h.elim) (λ_ h=>.inl h)
section
variable{h h':Heap}{Q:AHp}{q:OSl}{fs:List (List Mom)}{X:Nat->Prop}{y:Ent}{a:Nat}
attribute [local irreducible] yV
theorem gk283 (I:InMM X h q fs)(h1:fs.length<=1000000)(h2:∀f∈fs,f.length<=1000000)(hc:h[a]?=some (.cells [.int .i64 y.1,.int .i64 y.2.1,.int .i64 y.2.2.1,.int .i64 y.2.2.2] true))
  (hQ:∀n h',Ext h h'->(decide (n≥0)= !(fs.all λf=>covB f (momE y)))->Q (.int .i64 n) h'):AC Tryz.prog 283 [.sl q,.func (.func 214) [] [.ptr (some ⟨a,0⟩)]] h Q:=ac283 (by
 unfold vc283
 have hlen:zJ q=fs.length:=by obtain⟨qs,H,hl,_⟩:=I;rw[H.len,hl]
 rw[hlen]
 refine⟨λxs h6=>∃i:Nat,xs=[.int .i64 (i:Nat)]/\i<=fs.length/\Ext h h6/\((fs.take i).all λf=>covB f (momE y))=true,λxs _=>match xs with | [.int _ i]=>(fs.length-i).toNat|_=>0,⟨0,rfl,by omega,.refl _,rfl⟩,?_⟩
 rintro n3 h6 ⟨i,hx,hi,x6,hall⟩
 simp only[List.cons.injEq,AV.int.injEq,true_and,and_true] at hx
 subst hx
 refine zB (λg=> ?_) (λg=> ?_)
 ·replace g:=of_decide_eq_true g
  obtain⟨qs,H,hl,hq,_,_⟩:=I.grow x6
  refine HasL.idx (E:=slE) H (by omega) (by omega) λpp' s hs hcc=>⟨s,hcc,?_⟩
  rw[Int.toNat_natCast] at hs
  have hf:=List.getElem?_eq_getElem (show i<fs.length by omega)
  generalize fs[i]=f at hf
  have Hf:=hq i s f hs hf
  have ht:fs.take (i+1)=fs.take i++[f]:=by rw[List.take_add_one,hf];rfl
  have hfl:=h2 f (List.mem_of_getElem? hf)
  unfold yV
  refine ac214 ?_
  unfold vc214
  refine⟨y.1,y.2.1,by rw[zP (p:=⟨a,0+0⟩) (x6 _ _ hc) (by simp)];rfl,?_⟩
  refine gk80 (m:=momE y) Hf hfl λh8 x8=>⟨_,rfl,⟨_,rfl,zB (λg2=> ?_) (λg2=> ?_)⟩⟩
  ·have hn:covB f (momE y)=false:=by simpa using g2
   refine hQ _ h8 (x6.trans x8) ?_
   have:(fs.all λf=>covB f (momE y))=false:=by
    cases hh:fs.all λf=>covB f (momE y) with
    |false=>rfl
    |true=>
     have:=List.all_eq_true.1 hh f (List.mem_of_getElem? hf)
     rw[hn] at this;cases this
   rw[this]
   exact decide_eq_true (by omega)
  ·have hn:covB f (momE y)=true:=by simpa using g2
   rw[zF ⟨by omega,by omega⟩]
   exact⟨trivial,⟨i+1,by simp,by omega,x6.trans x8,by rw[ht,List.all_append,hall];simp[hn]⟩,by simp only;omega⟩
 ·replace g:=of_decide_eq_false g
  have:i=fs.length:=by omega
  subst this
  rw[List.take_length] at hall
  exact hQ _ h6 x6 (by rw[hall];rfl))
theorem gk138 {d:PD}(I:InMM X h d.fq d.fs)(h1:d.fs.length<=1000000)(h2:∀f∈d.fs,f.length<=1000000)
  (hQ:∀h',Ext h h'->Q (.bool (d.fs.all λf=>covB f (momE y))) h'):AC Tryz.prog 138 [.agg (yT.f d),entV y] h Q:=ac138 (by
 unfold vc138 PNew
 have x1:Ext h (h++[Blk.cells [.int .i64 y.1,.int .i64 y.2.1,.int .i64 y.2.2.1,.int .i64 y.2.2.2] true]):=.app _ _
 have b1:(h++[Blk.cells [.int .i64 y.1,.int .i64 y.2.1,.int .i64 y.2.2.1,.int .i64 y.2.2.2] true])[h.length]?=some (.cells [.int .i64 y.1,.int .i64 y.2.1,.int .i64 y.2.2.1,.int .i64 y.2.2.2] true):=by simp
 generalize h++[Blk.cells [.int .i64 y.1,.int .i64 y.2.1,.int .i64 y.2.2.1,.int .i64 y.2.2.2] true]=h11 at*
 refine ac213 ?_
 unfold vc213
 refine gk283 (I.grow x1) h1 h2 b1 λn h4 x4 hn=>⟨_,rfl,⟨_,rfl,?_⟩⟩
 rw[hn,Bool.not_not]
 exact hQ h4 (x1.trans x4))
theorem gk137 {d:PD}(hb:h[a]?=some (.cells (yT.f d) true))(I:InMM X h d.fq d.fs)(h1:d.fs.length<=1000000)(h2:∀f∈d.fs,f.length<=1000000)
  (hQ:∀h',Ext h h'->Q (.bool (!(d.fs.all λf=>covB f (momE y)))) h'):AC Tryz.prog 137 [entV y,.ptr (some ⟨a,0⟩)] h Q:=ac137 (by
 unfold vc137
 refine⟨_,_,_,_,_,zP (p:=⟨a,0⟩) hb (by simp[yT]),?_⟩
 exact gk138 (d:=d) I h1 h2 λh12 x12=>⟨_,rfl,hQ h12 x12⟩)
end
end
def zLU(ps:List PD):List Ent:=ps.flatMap λd=>d.part.live
theorem zMJ {S:SS}{ps:List PD}(h:S.ps=ps.map PD.part):S.live=zLU ps:=by
 unfold SS.live
 rw[h,List.flatMap_map]
 rfl
theorem zQ9 (p:Part):p.live.length<=p.l.length:=List.length_filter_le _ _
theorem zF2:∀ps:List PD,(zLU ps).length<=lenP ps
 | []=>Nat.le_refl _
 |d::ps=>by
  have:=zF2 ps
  have h2:=zQ9 d.part
  unfold zLU lenP at this ⊢
  rw[List.flatMap_cons,List.length_append,List.map_cons,List.sum_cons]
  have h3:d.part.l=d.x.l:=rfl
  rw[h3] at h2
  omega
section
variable{z z':Nat->Prop}{h h':Heap}{e e':Env}{Q:AHp}{sb:Nat}{S:SS}{ps:List PD}{x:GF}{q:OSl}{l:List Ent}{y:Ent}
theorem gk139 (H:HasL entE h q l)(hm:mayE l=0)(hQ:∀q' h',NewJ entE h h' q' (yA l)->Q (.tup [.sl q',.int .i64 0]) h'):AC Tryz.prog 139 [.sl q] h Q:=ac139 (by
 have hl:=(zBG.1 hm).2
 unfold vc139
 refine k215 H (by omega) ⟨_,rfl,?_⟩
 rw[hm]
 refine zB (λg=>by simp at g) (λ_=> ?_)
 refine k131 H (by omega) λq9 h8 N8=>⟨_,rfl,?_⟩
 exact gk132 (.of N8.2.1) (by omega) λh11 A11 K11 l11=>⟨rfl,hQ _ _ (NewJ.sorted N8 A11 K11)⟩)
theorem gk76 (E:EV z h e)(hQ:Q (.bool false) h):AC Tryz.prog 76 [.ptr (some ⟨e.dp,0⟩)] h Q:=ac76 (by
 unfold vc76
 refine d102 E.R ⟨_,rfl,zB (λg=>by simp at g) (λ_=> ?_)⟩
 obtain⟨m,qp,es,cl,C⟩:=E.R
 exact zQ ⟨_,zU C.pb (k:=4) rfl,hQ⟩)
theorem EV.back2 (E:EV z h e){P:PS}{N:Nat}(C:CP z' h h' e.p e.fb e.mb P N)(hz:∀b,EZ z e b->z' b)(hn:∀b,z' b->EZ z e b∨h.length<=b)(A:HP (flE e.gs) 64 [] P):EV (λb=>z' b/\¬e.F b) h' {e with P:=P,N:=N}:=by
 have K3:zI (λb=>e.ow b=none) h h':=λb B hb hB=>C.x _ _ (λhc=>hb (E.own b hc)) hB
 have hlen:=E.L.len
 have nz:∀b,b<h.length->¬z b->¬(z' b/\¬e.F b):=λb hb hz hc=>by
  rcases hn b hc.1 with(h1|h1)|h1
  ·exact hz h1
  ·exact hc.2 h1
  ·omega
 obtain⟨rs,es,cl,R⟩:=C.R
 refine⟨E.L.keeps C.x E.nl.2.1 E.nl.2.2,E.R.ext K3 C.xl,⟨rs,es,cl,R.more λb hb=>.inl ?_⟩,C.sm,A,λb hb=>⟨hz b (.inl (E.zo b hb)),λhc=>(E.fz b hc).1 (E.zo b hb)⟩,λb hb=>C.zl b hb.1,λb hb=>C.zp b hb.1,E.ok,⟨⟨nz _ (by omega) E.nl.1.1,nz _ (by omega) E.nl.1.2⟩,E.nl.2⟩,λb hb=>⟨λhc=>hc.2 hb,(E.fz b hb).2.1,Nat.lt_of_lt_of_le (E.fz b hb).2.2 C.xl⟩⟩
 rcases hb with hb|hb
 ·exact hb.1
 ·exact hz b (.inr hb)
theorem EV.nobody (E:EV z h e){b:Nat}(hb:h.length<=b):e.ow b=none:=by
 cases ho:e.ow b with
 |none=>rfl
 |some r=>have:=E.zl b (E.zo b (by rw[ho];simp));omega
set_option maxRecDepth 20000 in
set_option maxHeartbeats 2000000 in
theorem gk77 (E:EV z h e)(R:StR z h e sb S ps)(hl:ps.length<=63)(hN:e.N+2*lenP ps<=800000)(hsz:lenP ps<=16384)(hf:∀d∈ps,d.fs.length<=1000000/\∀f∈d.fs,f.length<=1000000)
  (hQ:∀q' h' P' N',EV z h' {e with P:=P',N:=N'}->StR z h' {e with P:=P',N:=N'} sb S ps->HasL entE h' q' (yA S.live)->N'<=e.N+2*lenP ps->zI e.pb h h'->h.length<=h'.length->(∀s,q'=some s->h.length<=s.b)->Q (.tup [.sl q',.int .i64 0]) h'):AC Tryz.prog 77 [.ptr (some ⟨sb,0⟩)] h Q:=ac77 (by
 obtain⟨rb,qp,Or,a1,a2,a3,a4,a5,a6,a7⟩:=R.at'
 unfold vc77
 refine zQ ⟨qp,zU a1 (k:=4) rfl,?_⟩
 have npb:∀b,b=sb∨inq qp b∨Or b->¬e.pb b:=λb hb=>E.zp b (a4 b hb).1
 refine⟨λxs h8=>∃(q4:OSl) (i:Nat) (z8:Nat->Prop) (P8:PS) (N8:Nat),xs=[.sl q4,.int .i64 (i:Nat)]/\i<=ps.length/\EV z8 h8 {e with P:=P8,N:=N8}/\AppJ entE h8 q4 (zLU (ps.take i))/\(∀b,inq q4 b->z8 b/\h.length<=b)/\(∀b,z b->z8 b)/\(∀b,z8 b->z b∨h.length<=b)/\N8<=e.N+2*lenP (ps.take i)/\zI e.pb h h8/\h.length<=h8.length,
  λxs _=>match xs with | [_,.int _ i]=>(ps.length-i).toNat|_=>0,⟨none,0,z,e.P,e.N,rfl,by omega,E,.inl ⟨rfl,rfl⟩,(λb ⟨s,hs,_⟩=>by cases hs),λ_ h=>h,λ_ h=>.inl h,by simp[lenP],.refl _ _,Nat.le_refl _⟩,?_⟩
 have lt6:=zDP ps
 rintro q4 n5 h8 ⟨_,i,z8,P8,N8,hx,hi,E8,A8,n8,zz8,zn8,hN8,K8,l8⟩
 simp only[List.cons.injEq,AV.sl.injEq,AV.int.injEq,true_and,and_true] at hx
 obtain⟨rfl,rfl⟩:=hx
 have H0:=a2.hasL
 have H8:HasL yT h8 qp ps:=K8.hasL (λs hs=>npb _ (.inr (.inl ⟨s,hs,rfl⟩))) H0
 have lti:=lt6 i
 have hlv:=zF2 (ps.take i)
 rw[H0.len]
 refine zB (λg=> ?_) (λg=> ?_)
 ·replace g:=of_decide_eq_true g
  refine HasL.idx (E:=yT) H8 (by omega) (by omega) λpp' d hd hc=>⟨_,_,_,_,_,hc,?_⟩
  rw[Int.toNat_natCast] at hd
  have hdm:=List.mem_of_getElem? hd
  have D:=R.pd d hdm
  have ok:=E.ok _ D.mem
  have ht:ps.take (i+1)=ps.take i++[d]:=by rw[List.take_add_one,hd];rfl
  have hlt:=lt6 (i+1)
  rw[ht,zDQ,show lenP [d]=d.x.l.length by simp[lenP]] at hlt
  have few:=ok.few
  unfold PNew
  refine zCF (o:=0) (c:=[.ptr none,.int .i64 0,.int .i64 0,.int .i64 0,.sl none]) (p:=h8.length) (h:=h8++[Blk.cells [.ptr none,.int .i64 0,.int .i64 0,.int .i64 0,.sl none] true]) (by simp) (by simp) ?_
  rw[show splice [AV.ptr none,.int .i64 0,.int .i64 0,.int .i64 0,.sl none] 0 [.ptr (some ⟨d.sp,0⟩),.int .i64 d.x.base,.int .i64 (jS d.x.l).1,.int .i64 (jS d.x.l).2,.sl d.fq]=yT.f d from rfl]
  have x17:Ext h8 ((h8++[Blk.cells [.ptr none,.int .i64 0,.int .i64 0,.int .i64 0,.sl none] true]).set h8.length (.cells (yT.f d) true)):=λb B hB=>by
   have:=zD hB
   rw[List.getElem?_set,if_neg (by omega),List.getElem?_append_left this];exact hB
  have b17:((h8++[Blk.cells [.ptr none,.int .i64 0,.int .i64 0,.int .i64 0,.sl none] true]).set h8.length (.cells (yT.f d) true))[h8.length]?=some (.cells (yT.f d) true):=List.getElem?_set_self (by simp)
  have l17:((h8++[Blk.cells [.ptr none,.int .i64 0,.int .i64 0,.int .i64 0,.sl none] true]).set h8.length (.cells (yT.f d) true)).length=h8.length+1:=by simp
  generalize(h8++[Blk.cells [.ptr none,.int .i64 0,.int .i64 0,.int .i64 0,.sl none] true]).set h8.length (.cells (yT.f d) true)=h17 at*
  have E17:=E8.grow x17
  have K17:zI e.pb h h17:=λb B hb hB=>x17 _ _ (K8 b B hb hB)
  refine zQ ⟨some ⟨e.p,0⟩,zU (K17 _ _ (npb _ (.inl rfl)) a1) (k:=1) rfl,?_⟩
  refine⟨some ⟨d.sp,0⟩,zU b17 (k:=0) rfl,?_⟩
  have D17:PdR z8 h17 {e with P:=P8,N:=N8} d:=D.keeps K17 (λb hb=>.inr hb) zn8 rfl (λ_ h=>h) D.mem
  have G:=E17.cug D17
  obtain⟨t1,t2⟩:=zKG (e:=(0,0,0,0)) ok.e ok.so (r:=λ_=>0) (λ_=>rfl)
  rw[zHB λu hu=>zQ2 (ok.e u hu)] at t2
  have hheads:(zV (zR d.x.l)).length<=d.x.l.length:=by
   have h1:=kI ok.e
   have h3:=zBN ok.e
   omega
  have O0:Out (flE e.gs) 64 [] d.x.nm (zR d.x.l) (λ_=>0):=CuG.out (c:=⟨0,d.cur e.dp,[],0,none⟩) (p:=e.p) (fb:=e.fb) (mb:=e.mb) (hW:=h17) G (by decide)
  refine c134 (e:=(0,0,0,0)) (r:=λ_=>0) (fl:=flE e.gs) E17.cp G.W G.G O0 E17.A (by show zN (zR d.x.l).flatten;rw[yX];exact ok.so) (by show N8<=900000;omega) (λ_ cb h22 P22 N22 S22 hN22 K22 l22 hcb=>⟨_,_,rfl,?_⟩) (λ_ hE=>by
   have hE':=hE
   simp only[PD.cur] at hE'
   rw[t1] at hE'
   exact absurd rfl hE')
  refine zB (λg=>by simp at g) (λ_=> ?_)
  have S22':CR (λb=>EZ z8 e b∨b=cb) h17 h22 d.sp e.p e.fb e.mb cb d.x.nm 64 (flE e.gs) (zR d.x.l) (λ_=>0) [] d.x.l 0 0 P22 N22:=by
   have S3:=S22
   simp only[PD.cur] at S3
   rw[t1] at S3
   simp only at S3
   rw[t2] at S3
   exact S3
  replace hN22:N22<=N8+(zV (zR d.x.l)).length:=hN22
  refine S22'.restA G.W G.G O0 (by omega) (λ_ q27 h26 z0 P3 N3 S26 hN26 A26 q26 zz26 zn26 K26 l26=>⟨_,_,rfl,?_⟩) (λ_ hc=>absurd rfl hc)
  refine zB (λg=>by simp at g) (λ_=> ?_)
  have C26:=S26.cp
  have zz0:∀b,EZ z8 e b->z0 b:=λb hb=>zz26 b (.inl hb)
  have zn0:∀b,z0 b->EZ z8 e b∨h17.length<=b:=λb hb=>by
   rcases zn26 b hb with(hb|hb)|hb
   ·exact .inl hb
   ·exact .inr (by omega)
   ·exact .inr (by omega)
  have E26':EV (λb=>z0 b/\¬e.F b) h26 {e with P:=P3,N:=N3}:=E17.back2 C26 zz0 zn0 S26.over
  obtain⟨z3,hz3⟩:∃z3:Nat->Prop,z3=λb=>z0 b/\¬e.F b:=⟨_,rfl⟩
  have E26:EV z3 h26 {e with P:=P3,N:=N3}:=by rw[hz3];exact E26'
  have zz3:∀b,z8 b->z3 b:=λb hb=>by rw[hz3];exact⟨zz0 b (.inl hb),λhc=>(E8.fz b hc).1 hb⟩
  have zn3:∀b,z3 b->z8 b∨h17.length<=b:=λb hb=>by
   rw[hz3] at hb
   rcases zn0 b hb.1 with(h1|h1)|h1
   ·exact .inl h1
   ·exact absurd h1 hb.2
   ·exact .inr h1
  have qn:∀b,inq q27 b->z3 b/\h22.length<=b:=λb ⟨s,hs,hb⟩=>by
   have h1:=q26 s hs
   rw[hb] at h1
   rw[hz3]
   exact⟨⟨h1.1,λhc=>by have:=(E8.fz b hc).2.2;omega⟩,h1.2⟩
  have F26:InMM (λb=>EZ z3 e b∨e.pb b) h26 d.fq d.fs:=D17.fr.keeps C26.x (λb hb=>.inr hb) λb hb=>by
   rcases hb with(hb|hb)|hb
   ·exact(zn3 b hb).imp (λh=>.inl (.inl h)) id
   ·exact .inl (.inl (.inr hb))
   ·exact .inl (.inr hb)
  have b26:=C26.x _ _ (λhc=>by have:=E8.cp.pool_lt hc;omega) b17
  have hfd:=hf d hdm
  refine gk136 (del:=λu=> !(d.fs.all λf=>covB f (momE u))) (.of A26) (by omega) (λu hu h2 K2 l2 K hK=> ?_) λq31 h30 A30 K30 l30 b30=>⟨_,rfl,?_⟩
  ·unfold yV
   refine gk137 (d:=d) (X:=λb=>EZ z3 e b∨e.pb b) (K2 _ _ (λhc=>by have:=(qn _ hc).2;omega) b26) (F26.keeps K2 (λb hb=>.inl (.inl (qn b hb).1)) (λ_ h=>.inl h)) hfd.1 hfd.2 hK
  have E30:EV z3 h30 {e with P:=P3,N:=N3}:=E26.other2 K30 (λb hb=>⟨(qn b hb).1,E.nobody (by have:=(qn b hb).2;omega)⟩) l30 (λ_ h=>h) (λ_ h=>.inl h)
  have K30':zI e.pb h h30:=λb B hb hB=>by
   have hbl:=zD hB
   exact K30 b B (λhc=>by have:=(qn b hc).2;omega) (C26.x _ _ hb (K17 b B hb hB))
  have A30':AppJ entE h30 q4 (zLU (ps.take i)):=(((A8.ext x17).keeps C26.x λs hs hc=>E8.zp _ (n8 _ ⟨s,hs,rfl⟩).1 hc).keeps K30 λs hs hc=>by
   have:=(qn _ hc).2
   have:=A8.live s hs
   omega)
  have hfl:(d.x.l.filter λu=> !(λu=> !(d.fs.all λf=>covB f (momE u))) u)=d.part.live:=by
   simp only[Bool.not_not]
   rfl
  rw[hfl] at A30
  have hll:=zQ9 d.part
  have hll:d.part.live.length<=d.x.l.length:=hll
  refine AppJ.append (E:=entE) A30' A30.hasL (by omega) λq32 h33 A33 K33 l33 b33=> ?_
  rw[zF ⟨by omega,by omega⟩]
  have qc:∀b,inq q32 b->(z3 b/\h.length<=b)∨(h30.length<=b/\b<h33.length):=λb ⟨s,hs,hb⟩=>by
   rcases b33 s hs with h5|⟨s2,h5,h7⟩
   ·have:=A33.live s hs
    exact .inr ⟨by omega,by omega⟩
   ·have:=n8 b ⟨s2,h5,by rw[h7,hb]⟩
    exact .inl ⟨zz3 b this.1,this.2⟩
  have E33:EV (λb=>z3 b∨inq q32 b) h33 {e with P:=P3,N:=N3}:=E30.other2 (X:=λb=>∃s,q4=some s/\s.b=b) K33 (λb hb=>⟨zz3 b (n8 b hb).1,E.nobody (n8 b hb).2⟩) l33 (λb hb=>.inl hb) (λb hb=>by
   rcases hb with hb|hb
   ·exact .inl hb
   ·rcases qc b hb with h5|h5
    ·exact .inl h5.1
    ·exact .inr h5)
  refine⟨trivial,⟨q32,i+1,_,P3,N3,by simp,by omega,E33,?_,λb hb=>⟨.inr hb,?_⟩,λb hb=>.inl (zz3 b (zz8 b hb)),λb hb=> ?_,?_,λb B hb hB=> ?_,by omega⟩,by simp only;omega⟩
  ·rw[ht]
   unfold zLU at A33 ⊢
   rw[List.flatMap_append,List.flatMap_cons,List.flatMap_nil,List.append_nil]
   exact A33
  ·rcases qc b hb with h5|h5
   ·exact h5.2
   ·omega
  ·rcases hb with hb|hb
   ·rcases zn3 b hb with hb|hb
    ·exact zn8 b hb
    ·exact .inr (by omega)
   ·rcases qc b hb with h5|h5
    ·exact .inr h5.2
    ·exact .inr (by omega)
  ·rw[ht,zDQ,show lenP [d]=d.x.l.length by simp[lenP]];omega
  ·have hbl:=zD hB
   exact K33 b B (λhc=>by have:=(n8 b hc).2;omega) (K30' b B hb hB)
 ·replace g:=of_decide_eq_false g
  have:i=ps.length:=by omega
  subst this
  rw[List.take_length] at A8 hN8 hlv
  have hm:mayE (zLU ps)=0:=zBG.2 ⟨λu hu=>by
   obtain⟨d,hd,hu⟩:=List.mem_flatMap.1 hu
   exact(E.ok _ (R.pd d hd).mem).e u (List.mem_filter.1 hu).1,by omega⟩
  refine gk139 A8.hasL hm λq' h' N'=>⟨_,_,rfl,?_⟩
  have K':zI e.pb h h':=λb B hb hB=>N'.1 _ _ (K8 b B hb hB)
  have l':=N'.1.len
  have E':=E8.grow N'.1
  have C':CP (EZ z8 e) h h' e.p e.fb e.mb P8 N8:=⟨K',by omega,E'.C,E'.sm,E'.cp.zl,E'.cp.zp⟩
  refine hQ q' h' P8 N8 (E.back C' (λb hb=>hb.imp (zz8 b) id) E'.A) (R.on E K' (by omega)) (by rw[zMJ R.pe];exact N'.hasL) hN8 K' (by omega) λs hs=>by have:=N'.2.2 s hs;omega)
end
theorem sm_drop {P:PS}{N:Nat}{s:List UInt8}(h:P.sm N):(P.drop s).2.sm N:=by
 have key:∀f∈(P.drop s).2.fr,f∈P.fr∨f=Go.Pool.Fr.none:=λf hf=>by
  obtain⟨g,hg,rfl⟩:=List.mem_map.1 hf
  split
  ·exact .inr rfl
  ·exact .inl hg
 refine⟨⟨λf hf=> ?_,h.lt.2,h.lt.3,h.lt.4⟩,λf hf=> ?_⟩
 ·rcases key f hf with h1|h1
  ·exact h.lt.1 f h1
  ·rw[h1];exact Nat.zero_le _
 ·rcases key f hf with h1|h1
  ·exact h.l f h1
  ·rw[h1];exact Nat.zero_le _
theorem zL9 {x:GF}{pre rest:List GF}{lim:Int}(hn:((pre++x::rest).map GF.nm).Nodup)(hb:∀y∈pre++rest,y.b≠x.b):(kX ((pre++x::rest).map GF.fa) lim).delete x.nm=(0,kX ((pre++rest).map GF.fa) lim):=by
 have hall:∀{l:List GF},(∀y∈l,y.b≠x.b)->(l.map GF.fa).filter (λg=> !(g.b==x.fa.b))=l.map GF.fa:=fun{l} hl=>by
  rw[List.filter_eq_self]
  intro g hg
  obtain⟨y,hy,rfl⟩:=List.mem_map.1 hg
  have:=hl y hy
  show(!(y.b==x.b))=true
  simpa using this
 have h1:((pre++x::rest).map GF.fa).filter (λg=> !(g.b==x.fa.b))=(pre++rest).map GF.fa:=by
  rw[List.map_append,List.filter_append,List.map_cons,List.filter_cons_of_neg (by simp),hall (λy hy=>hb y (List.mem_append_left _ hy)),hall (λy hy=>hb y (List.mem_append_right _ hy)),List.map_append]
 have hf:(kX ((pre++x::rest).map GF.fa) lim).find x.nm=some x.fa:=by
  unfold DS.find kX
  show((pre++x::rest).map GF.fa).find? _=_
  rw[List.find?_map]
  have:((λf:FA=>f.name==x.nm)∘GF.fa)=λy=>y.nm==x.nm:=rfl
  rw[this,zF8 hn (by simp)]
  rfl
 unfold DS.delete
 rw[if_neg (by simp[kX]),hf]
 simp only
 rw[if_pos (show(kX ((pre++x::rest).map GF.fa) lim).deed.1=0 by rfl)]
 have h2:(kX ((pre++x::rest).map GF.fa) lim).deed.2=kX ((pre++x::rest).map GF.fa) lim:=rfl
 rw[h2]
 show(0,({kX ((pre++x::rest).map GF.fa) lim with files:=((pre++x::rest).map GF.fa).filter (λg=> !(g.b==x.fa.b)),pends:=[]}:DS))=_
 rw[h1]
 rfl
section
variable{z z':Nat->Prop}{h h':Heap}{e e':Env}{Q:AHp}{sb:Nat}{S:SS}{ps:List PD}{x:GF}{q:OSl}{l:List Ent}{y:Ent}{pre rest:List GF}
theorem EV.gone (E:EV z h e)(hg:e.gs=pre++x::rest){ow':yC}(hp:∀f∈e.P.fr,f.is=true->f.name≠x.nm)(D:yQ e.ow h ow' h')(R:xB h' ow' e.dp (kX ((pre++rest).map GF.fa) e.room)):EV (λb=>z b∨ow' b≠none) h' {e with ow:=ow',gs:=pre++rest}:=by
 obtain⟨rs,es,cl,C⟩:=E.C
 have lvr:=R.live
 have hlen:=E.L.len
 have oz:∀b,dsk e.ow b->z b:=λb hb=>E.zo b hb
 have np:∀b,e.pb b->¬dsk e.ow b:=λb hb hc=>hc (E.own b hb)
 have nz:∀b,b<h.length->¬z b->¬(z b∨ow' b≠none):=λb hb hz hc=>by
  rcases hc with hc|hc
  ·exact hz hc
  ·rcases D.own b hc with h1|h1
   ·exact hz (E.zo b h1)
   ·omega
 refine⟨E.L.keeps D.keeps (λhc=>E.nl.1.1 (oz _ hc)) (λhc=>E.nl.1.2 (oz _ hc)),R,⟨rs,es,cl,?_⟩,E.sm,Go.Cur.HP.swap E.A λf hf hi j l hfl=> ?_,λb hb=>.inr hb,λb hb=> ?_,λb hb hp=> ?_,λy hy=>E.ok y (by rw[hg];exact(List.mem_append.1 hy).elim (List.mem_append_left _) λhy=>List.mem_append_right _ (List.mem_cons_of_mem _ hy)),⟨⟨nz _ (by omega) E.nl.1.1,nz _ (by omega) E.nl.1.2⟩,E.nl.2⟩,λb hb=>⟨nz b (E.fz b hb).2.2 (E.fz b hb).1,(E.fz b hb).2.1,Nat.lt_of_lt_of_le (E.fz b hb).2.2 D.len⟩⟩
 ·refine(C.more (z:=λb=>(z b∨ow' b≠none)∨e.F b) λb hb=> ?_).keepsZ D.keeps (λb hb=>.inl (.inl (oz b hb))) ⟨np _ (.inl rfl),np _ (.inr (.inl rfl)),np _ (.inr (.inr rfl))⟩
  rcases hb with(hb|hb)|hb
  ·exact .inl (.inl hb)
  ·exact(D.own b hb).imp (λh=>.inl (oz b h)) id
  ·exact .inl (.inr hb)
 ·have hne:=hp f hf hi
  unfold flE at hfl ⊢
  rw[hg,List.find?_append,List.find?_cons_of_neg (by simpa using λhc=>hne hc.symm),<-List.find?_append] at hfl
  exact hfl
 ·rcases hb with hb|hb
  ·exact Nat.lt_of_lt_of_le (E.zl b hb) D.len
  ·exact lvr b hb
 ·rcases hb with hb|hb
  ·exact E.zp b hb hp
  ·rcases D.own b hb with h1|h1
   ·exact np b hp h1
   ·have:=E.cp.pool_lt hp;omega
theorem gk78 (E:EV z h e){d:PD}(D:PdR z h e d)(hg:e.gs=pre++d.x::rest)(c1:zA h ⟨sb,0+1⟩ 1=some [.ptr (some ⟨e.p,0⟩)])(c0:zA h ⟨sb,0+0⟩ 1=some [.ptr (some ⟨e.dp,0⟩)])(npb:¬e.pb sb)
  (hQ:∀h' ow' P',EV (λb=>z b∨ow' b≠none) h' {e with ow:=ow',gs:=pre++rest,P:=P'}->zI (λb=>(z b/\e.ow b≠none)∨e.pb b) h h'->h.length<=h'.length->(∀b,ow' b≠none->e.ow b≠none∨h.length<=b)->Q (.int .i64 0) h'):AC Tryz.prog 78 [.ptr (some ⟨sb,0⟩),.agg (yT.f d)] h Q:=ac78 (by
 have hb:∀y∈pre++rest,y.b≠d.x.b:=by
  obtain⟨m,qp,es,cl,C⟩:=E.R
  have h1:=C.blocks
  have h2:(e.D.files.map (·.b))=e.gs.map GF.b:=by
   show((e.gs.map GF.fa).map (·.b))=_
   rw[List.map_map];rfl
  rw[h2,hg,List.map_append,List.map_cons,List.nodup_append,List.nodup_cons] at h1
  intro y hy hc
  rcases List.mem_append.1 hy with hy|hy
  ·exact h1.2.2 _ (List.mem_map_of_mem hy) _ List.mem_cons_self hc
  ·exact h1.2.1.1 (by rw[<-hc];exact List.mem_map_of_mem hy)
 unfold vc78
 refine zQ ⟨_,c1,?_⟩
 refine k141 D.seg.at' ⟨_,rfl,⟨_,c1,rfl⟩,?_⟩
 obtain⟨rs,es,cl,C⟩:=E.C
 refine k140 C λh13 R13 K13 l13=>⟨_,rfl,?_⟩
 obtain⟨A13,hn13⟩:=Go.Cur.HP.drop (s:=d.x.nm) E.A
 have E13:EV z h13 {e with P:=(e.P.drop d.x.nm).2,N:=e.N}:=E.back (z2:=EZ z e) ⟨K13,by omega,R13,sm_drop E.sm,λb hb=>by have:=E.cp.zl b hb;omega,E.cp.zp⟩ (λ_ h=>h) A13
 have c0':=K13.cells (λhc=>npb hc) c0
 refine zQ ⟨_,c0',?_⟩
 refine k141 (K13 _ _ D.seg.n1.2 D.seg.at') ⟨_,rfl,⟨_,c0',rfl⟩,?_⟩
 refine d142 E13.R (by show(0:Nat)<=_;omega) λh21 ow' R21 S21=>⟨_,rfl,?_⟩
 have hdl:(e.D).delete d.x.nm=(0,kX ((pre++rest).map GF.fa) e.room):=by
  unfold Env.D
  rw[hg]
  exact zL9 (by rw[<-hg];exact E.names) hb
 have hdl':({e with P:=(e.P.drop d.x.nm).2,N:=e.N}:Env).D.delete d.x.nm=(0,kX ((pre++rest).map GF.fa) e.room):=hdl
 rw[hdl'] at R21 ⊢
 have E21:=E13.gone hg hn13 S21 R21
 have l21:=S21.len
 refine hQ h21 ow' (e.P.drop d.x.nm).2 E21 (λb B hb hB=>S21.keeps b B (λhd=>hb (.inl ⟨E.zo b hd,hd⟩)) (K13 b B (λhd=>hb (.inr hd)) hB)) (by omega) λb hb=> ?_
 have:=S21.own b hb
 rw[l13] at this
 exact this)
end
end Go.Proofs.YtafmabnolelknaaGreatDoor
