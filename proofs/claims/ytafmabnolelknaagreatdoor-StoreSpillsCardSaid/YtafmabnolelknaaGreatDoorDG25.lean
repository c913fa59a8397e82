import Derived.Test.YtafmabnolelknaaGreatDoorDG9
import Derived.Test.YtafmabnolelknaaGreatDoorDG24
namespace Go.Proofs.YtafmabnolelknaaGreatDoor.Mer
open Go.Ab
open Go.Num hiding Bs snoc_ind
open Go.Ent Go.Seg Go.Cur
open Go.Page hiding Bs get
open Go.Dsk hiding Bs
open Go.Pool hiding Bs Ents zT Fr least
set_option linter.unusedVariables false
set_option linter.unusedSimpArgs false
section
abbrev zeroE:Ent:=(0,0,0,0)
def CurR(cs:List Cu)(x:HD):Prop:=∃c∈cs,c.cb=x.lb/\c.R=x.e::x.rr/\c.E=x.E
structure HdOk(x:HD):Prop where
  srt:zN (x.e::x.r)
  pre:∃t,x.r=x.rr++t
  all:x.E=0->x.rr=x.r
  lst:x.k=false->x.E=0
structure Bes(z:Nat->Prop)(ow:yC)(hW:Heap)(p fb mb:Nat)(cs:List Cu):Prop where
  zo:∀b,ow b≠none->z b/\hW.length<=b
  co:∀c∈cs,ow c.cb=none
section
variable{h h' hW:Heap}{ow ow':yC}{p pp fb mb n N N':Nat}{qc:OSl}{cbs:List Nat}{er:Int}{H H':List HD}{x y:HD}{Q:AHp}{q:OSl}{z:Nat->Prop}{fl:Bs->Nat->Int×List Ent}{cs:List Cu}{P:PS}
theorem m451 {lb:Nat}{ql:OSl}{l:List Ent}(hb:h[lb]?=some (.cells [.sl ql] true))(Hl:HasL entE h ql l)(h0:l=[]->Q (.tup [entV zeroE,.bool false]) h)(h1:∀e r,l=e::r->Q (.tup [entV e,.bool true]) h):
    AC Tryz.prog 451 [.ptr (some ⟨lb,0⟩)] h Q:=ac451 (by
  unfold vc451
  have c:zA h ⟨lb,0+0⟩ 1=some [.sl ql]:=by rw[xQ hb (by simp)];rfl
  have hl:=Hl.len
  refine⟨ql,c,zB (λg=> ?_) (λg=> ?_)⟩
  · have g:l.length=0:=by have:((zJ ql:Nat):Int)=0:=(by simpa using g);omega
    exact h0 (List.eq_nil_of_length_eq_zero g)
  · cases l with
    |nil=>simp[hl] at g
    |cons e r=>
      refine⟨ql,c,idx4 Hl (i:=0) (x:=e) rfl rfl λpp hc=>⟨_,_,_,_,hc,h1 e r rfl⟩⟩)
theorem m450 {lb:Nat}{ql:OSl}{e:Ent}{r:List Ent}(hb:h[lb]?=some (.cells [.sl ql] true))(Hl:HasL entE h ql (e::r))
    (hQ:∀q6,HasL entE h q6 r->(∀s',q6=some s'->∃s,ql=some s/\s'.b=s.b)->Q (.int .i64 0) (h.set lb (.cells [.sl q6] true))):AC Tryz.prog 450 [.ptr (some ⟨lb,0⟩)] h Q:=ac450 (by
  unfold vc450
  have c:zA h ⟨lb,0+0⟩ 1=some [.sl ql]:=by rw[xQ hb (by simp)];rfl
  have hl:=Hl.len
  refine⟨ql,c,zB (λg=>by simp[hl] at g;omega) (λ_=> ?_)⟩
  refine⟨ql,c,HasL.slice2 (E:=entE) Hl (by omega) (by simp;omega) (by simp) λq6 H6 hq6=> ?_⟩
  have e1:((e::r).take ((Option.getD none (((e::r).length:Nat):Int))).toNat).drop (1:Int).toNat=r:=by
    simp only[Option.getD_none,Int.toNat_natCast,List.take_length];rfl
  rw[e1] at H6
  exact yP hb (by simp) (hQ q6 H6 hq6))
structure MrgR(h:Heap)(ow:yC)(p:Nat)(qc:OSl)(cbs:List Nat)(er:Int)(H:List HD)(cs:List Cu):Prop where
  K:MrgK h ow p qc cbs er H
  L:∀x∈H,x.k=false->LstR h ow x
  C:∀x∈H,x.k=true->CurR cs x
  ok:∀x∈H,HdOk x
  lnd:(H.map (·.lb)).Nodup
theorem MrgR.grow (M:MrgR h ow p qc cbs er H cs)(e:Ext h h'):MrgR h' ow p qc cbs er H cs:=⟨M.K.grow e,λx hx hk=>(M.L x hx hk).keeps (X:=λ_=>False) (zH e) (λ_ _ h=>h),M.C,M.ok,M.lnd⟩
theorem MrgR.ext (M:MrgR h ow p qc cbs er H cs)(e:zI (λb=>ow b=none) h h')(hl:h.length<=h'.length):MrgR h' ow p qc cbs er H cs:=
  ⟨M.K.ext e hl,λx hx hk=>(M.L x hx hk).keeps e (λb hb hn=>by rcases hb with hb|hb<;>rw[hn] at hb<;>cases hb),M.C,M.ok,M.lnd⟩
theorem m224 (M:MrgR h ow p qc cbs er H cs)(h0:H=[]∨er≠0->Q (.tup [entV zeroE,.bool false]) h)(h1:∀x H1,H=x::H1->er=0->Q (.tup [entV x.e,.bool true]) h):AC Tryz.prog 224 [.ptr (some ⟨p,0⟩)] h Q:=ac224 (by
  unfold vc224
  obtain⟨qa,c1,c2,c3,c4⟩:=M.K.qa
  have cq:zA h ⟨p,0+0⟩ 1=some [.sl qa]:=by rw[xQ c2 (by simp)];rfl
  have ce:zA h ⟨p,0+2⟩ 1=some [.int .i64 er]:=by rw[xQ c2 (by simp)];rfl
  have hl:=c3.hasL.len
  simp only[List.length_map] at hl
  refine zB (λg=>by simp at g) (λ_=>⟨er,ce,zB (λg=>h0 (.inr (by simpa using g))) (λge=>⟨qa,cq,zB (λg=> ?_) (λg=> ?_)⟩)⟩)
  · have g:H.length=0:=by have:((zJ qa:Nat):Int)=0:=(by simpa using g);omega
    exact h0 (.inl (List.eq_nil_of_length_eq_zero g))
  · cases H with
    |nil=>simp[hl] at g
    |cons x H1=>
      refine⟨qa,cq,zBC c3 (i:=0) (x:=x) rfl rfl λpp hc _=>⟨_,hc,_,_,_,_,M.K.key (by simp),h1 x H1 rfl (by simpa using ge)⟩⟩)
theorem zQ6:methodOf Tryz.prog 322 "Next"=some 450:=by kernel_rfl
theorem zQ5:methodOf Tryz.prog 322 "Peek"=some 451:=by kernel_rfl
theorem zON:methodOf Tryz.prog 233 "Next"=some 211:=by kernel_rfl
theorem zOM:methodOf Tryz.prog 233 "Peek"=some 210:=by kernel_rfl
theorem zT1 {lb:Nat}(hk:AC Tryz.prog 451 [.ptr (some ⟨lb,0⟩)] h Q):kD Tryz.prog (AC Tryz.prog) (srcV false lb) "Peek" [] h Q:=by
  show kD Tryz.prog (AC Tryz.prog) (.iface 322 (.ptr (some ⟨lb,0⟩))) "Peek" [] h Q
  unfold kD;simp only[zQ5];exact hk
theorem zRM {lb:Nat}(hk:AC Tryz.prog 210 [.ptr (some ⟨lb,0⟩)] h Q):kD Tryz.prog (AC Tryz.prog) (srcV true lb) "Peek" [] h Q:=by
  show kD Tryz.prog (AC Tryz.prog) (.iface 233 (.ptr (some ⟨lb,0⟩))) "Peek" [] h Q
  unfold kD;simp only[zOM];exact hk
theorem zRN {lb:Nat}(hk:AC Tryz.prog 450 [.ptr (some ⟨lb,0⟩)] h Q):yV Tryz.prog (AC Tryz.prog) (.func (.method "Next") [srcV false lb] []) [] h Q:=by
  show yV Tryz.prog (AC Tryz.prog) (.func (.method "Next") [.iface 322 (.ptr (some ⟨lb,0⟩))] []) [] h Q
  simp only[yV,kD,zQ6];exact hk
theorem zRO {lb:Nat}(hk:AC Tryz.prog 211 [.ptr (some ⟨lb,0⟩)] h Q):yV Tryz.prog (AC Tryz.prog) (.func (.method "Next") [srcV true lb] []) [] h Q:=by
  show yV Tryz.prog (AC Tryz.prog) (.func (.method "Next") [.iface 233 (.ptr (some ⟨lb,0⟩))] []) [] h Q
  simp only[yV,kD,zON];exact hk
attribute [local irreducible] kD yV
theorem MrgR.of_heap (M:MrgK h' ow p qc cbs er H')(Pm:H'.Perm H)(L:∀x∈H,x.k=false->LstR h ow x)(C:∀x∈H,x.k=true->CurR cs x)(ok:∀x∈H,HdOk x)(nd:(H.map (·.lb)).Nodup)(K:zI (hp ow) h h'):MrgR h' ow p qc cbs er H' cs:=by
  refine⟨M,λx hx hk=>(L x (Pm.mem_iff.1 hx) hk).keeps K (λb hb hx=> ?_),λx hx=>C x (Pm.mem_iff.1 hx),λx hx=>ok x (Pm.mem_iff.1 hx),(Pm.map _).nodup_iff.2 nd⟩
  rcases hb with hb|hb<;>rcases hx with hx|hx<;>rw[hb] at hx<;>cases hx
theorem zKD {b:Nat}(h:hp ow b):dsk ow b:=by
  show ow b≠none
  rcases h with h|h<;>rw[h]<;>simp
theorem Bes.keeps (B:Bes z ow hW pp fb mb cs)(A:CA z hW h pp fb mb n fl cs P N)(K:zI (dsk ow) h h')(hl:h.length<=h'.length):CA z hW h' pp fb mb n fl cs P N:=
  A.step K (λb hb=>(B.zo b hb).1) (λb hb=>(B.zo b hb).2) hl (λ_ h=>h) (λ_ h=>.inl h) (λc hc hx=>hx (B.co c hc))
theorem zNV {h1:Heap}{x':HD}(M:MrgK h1 ow p qc cbs er (x::H))(L:∀u∈H,u.k=false->LstR h1 ow u)(C:∀u∈H,u.k=true->CurR cs u)(ok:∀u∈H,HdOk u)(nd:((x::H).map (·.lb)).Nodup)(hO:xX (x::H) (x::H).length 0)
    (hgone:∀h2 H',MrgR h2 ow p qc cbs er H' cs->H'.Perm H->xX H' H'.length 0->zI (hp ow) h1 h2->h1.length<=h2.length->Q (.tup []) h2):
    vPtr (some (⟨p,0⟩:PA)) λp22=>AC Tryz.prog 287 [.iface 326 (.ptr (some ⟨p22.b,p22.o+0⟩))] h1 λv23 h24=>∃v25:AV,v25.one=true/\v23=v25/\Q (.tup []) h24:=by
  have ob:xX (x::H) (x::H).length 1:=by
    intro j c u v hj hk hc hu hv
    exact hO j c u v (by omega) hk hc hu hv
  have nd2:(H.map (·.lb)).Nodup:=by
    rw[List.map_cons,List.nodup_cons] at nd;exact nd.2
  show AC Tryz.prog 287 _ _ _
  refine m287 M ob λv h24 H2 hv M2 K2 len2 P2 O2=>⟨v,hv,rfl,?_⟩
  exact hgone h24 H2 (MrgR.of_heap M2 P2 L C ok nd2 K2) P2 O2 K2 len2
theorem zNW {h1:Heap}{e:Ent}{x':HD}(M:MrgK h1 ow p qc cbs er (x::H))(hx':x'.hb=x.hb/\x'.lb=x.lb/\x'.k=x.k/\x'.e=e)(L:∀u∈H,u.k=false->LstR h1 ow u)(Lx:x'.k=false->∀h2,zI (λb=>b=x.hb) h1 h2->LstR h2 ow x')(C:∀u∈x'::H,u.k=true->CurR cs u)(ok:∀u∈x'::H,HdOk u)(nd:((x::H).map (·.lb)).Nodup)(hO:xX (x::H) (x::H).length 0)
    (hgo:∀h2 H',MrgR h2 ow p qc cbs er H' cs->H'.Perm (x'::H)->xX H' H'.length 0->zI (dsk ow) h1 h2->h1.length<=h2.length->Q (.tup []) h2):
    vPtr (some (⟨x.hb,0⟩:PA)) λp26=>zL h1 ⟨p26.b,p26.o+0⟩ [.int .i64 e.1,.int .i64 e.2.1,.int .i64 e.2.2.1,.int .i64 e.2.2.2] λh27=>vPtr (some (⟨p,0⟩:PA)) λp28=>AC Tryz.prog 288 [.iface 326 (.ptr (some ⟨p28.b,p28.o+0⟩)),.int .i64 0] h27 λv29 h30=>v29= .tup []/\Q (.tup []) h30:=by
  obtain⟨hr,hcx1⟩:=M.heads x (by simp)
  have hhl:=M.live x.hb (by simp[hr])
  have ob:xX (x'::H) (x'::H).length 1:=by
    intro j c u v hj hk hc hu hv
    obtain⟨j,rfl⟩:∃k,j=k+1:=⟨j-1,by omega⟩
    obtain⟨c,rfl⟩:∃k,c=k+1:=⟨c-1,by unfold Kid at hk;omega⟩
    exact hO (j+1) (c+1) u v (by omega) hk hc (by simpa using hu) (by simpa using hv)
  have hst:zL h1 ⟨x.hb,0+0⟩ [.int .i64 e.1,.int .i64 e.2.1,.int .i64 e.2.2.1,.int .i64 e.2.2.2] λh27=>vPtr (some (⟨p,0⟩:PA)) λp28=>AC Tryz.prog 288 [.iface 326 (.ptr (some ⟨p28.b,p28.o+0⟩)),.int .i64 0] h27 λv29 h30=>v29= .tup []/\Q (.tup []) h30:=by
   refine zCF hcx1 (by simp) ?_
   rw[show splice [AV.int .i64 x.e.1,.int .i64 x.e.2.1,.int .i64 x.e.2.2.1,.int .i64 x.e.2.2.2,srcV x.k x.lb,.func (.method "Next") [srcV x.k x.lb] []] 0 [.int .i64 e.1,.int .i64 e.2.1,.int .i64 e.2.2.1,.int .i64 e.2.2.2]=[.int .i64 e.1,.int .i64 e.2.1,.int .i64 e.2.2.1,.int .i64 e.2.2.2,srcV x.k x.lb,.func (.method "Next") [srcV x.k x.lb] []] from rfl]
   generalize hh2:h1.set x.hb (zIR e x.k x.lb)=h2
   have K2:zI (λb=>b=x.hb) h1 h2:=by rw[<-hh2];exact zO rfl
   have len2:h2.length=h1.length:=by rw[<-hh2];simp
   have hb2:h2[x.hb]?=some (zIR e x.k x.lb):=by rw[<-hh2];exact List.getElem?_set_self hhl
   have hhp:x.hb≠p:=λe=>by rw[e,M.pr] at hr;cases hr
   have ne:∀b r,ow b=some r->r≠ .head->¬b=x.hb:=λb r hb hn he=>by rw[he,hr] at hb;exact hn (Option.some.inj hb).symm
   have hnd:=M.nodup
   simp only[List.map_cons,List.nodup_cons,List.mem_map,not_exists,not_and] at hnd
   obtain⟨y1,y2,y3,y4⟩:=hx'
   have M2:MrgK h2 ow p qc cbs er (x'::H):=by
     obtain⟨a1,a2,⟨qa',a3,a4,a5⟩,a6,a7,a8,a9,a10⟩:=M
     refine⟨λb hb=>by have:=a1 b hb;omega,a2,⟨qa',K2 _ _ (λe=>hhp e.symm) a3,?_,a5⟩,λu hu=> ?_,by rw[List.map_cons,y1];exact a7,a8,a9.keeps K2 (λs hs=>ne _ _ (a10 s hs) (by simp)),a10⟩
     · rw[List.map_cons,y1]
       exact a4.keeps K2 (λs hs=>ne _ _ (a5 s hs) (by simp))
     · rcases List.mem_cons.1 hu with rfl|hu
       · rw[y1,y2,y3,y4];exact⟨hr,hb2⟩
       · exact⟨(a6 u (by simp[hu])).1,K2 _ _ (λe=>hnd.1 u hu e) (a6 u (by simp[hu])).2⟩
   have L2:∀u∈x'::H,u.k=false->LstR h2 ow u:=by
     intro u hu hk
     rcases List.mem_cons.1 hu with rfl|hu
     · exact Lx hk h2 K2
     · exact(L u hu hk).keeps K2 (λb hb e=>by subst e;rcases hb with hb|hb<;>rw[hr] at hb<;>cases hb)
   show AC Tryz.prog 288 _ _ _
   refine m288 M2 ob λh30 H3 M3 K3 len3 P3 O3=>⟨rfl,?_⟩
   refine hgo h30 H3 (MrgR.of_heap M3 P3 L2 C ok (by rw[List.map_cons,y2];exact nd) K3) P3 O3 (λb B hb hB=>K3 b B (λhx=>hb (zKD hx)) (K2 b B (λe=>hb (by rw[e];show ow x.hb≠none;rw[hr];simp)) hB)) (by omega)
  exact hst
end
end
section
def turns(ow:yC)(pp fb mb:Nat)(cs:List Cu):Nat->Prop:=λb=>ow b≠none∨pbl pp fb mb b∨∃c∈cs,c.cb=b
def Cov(H:List HD)(cs:List Cu):Prop:=∀c∈cs,c.R≠ []->∃x∈H,x.k=true/\x.lb=c.cb
theorem Cov.perm {H H':List HD}{cs:List Cu}(C:Cov H cs)(h:H'.Perm H):Cov H' cs:=λc hc hR=>let⟨x,hx,r⟩:=C c hc hR;⟨x,h.mem_iff.2 hx,r⟩
section
variable{h h' hW:Heap}{ow ow':yC}{p pp fb mb n N N':Nat}{qc:OSl}{cbs:List Nat}{er:Int}{H H':List HD}{x y:HD}{Q:AHp}{q:OSl}{z:Nat->Prop}{fl:Bs->Nat->Int×List Ent}{cs:List Cu}{P:PS}
attribute [local irreducible] kD yV
abbrev vI(x:HD):Int:=if x.rr=[] then x.E else 0
theorem HdOk.next {e:Ent}{rr':List Ent}(o:HdOk x)(hr:x.rr=e::rr'):∃r',x.r=e::r'/\HdOk ⟨x.hb,x.lb,x.k,e,r',rr',x.E⟩:=by
 obtain⟨t,ht⟩:=o.pre
 rw[hr,List.cons_append] at ht
 refine⟨rr'++t,ht,⟨?_,⟨t,rfl⟩,λh0=> ?_,o.lst⟩⟩
 ·have:=o.srt
  rw[ht] at this
  exact this.of_cons
 ·have:=o.all h0
  rw[hr,ht] at this
  exact(List.cons.inj this).2
theorem zM2 {K:Heap->Prop}{er':Int}(M:MrgK h ow p qc cbs er H)(hK:∀h',MrgK h' ow p qc cbs er' H->zI (λb=>b=p) h h'->h'.length=h.length->K h'):vPtr (some (⟨p,0⟩:PA)) λp11=>zL h ⟨p11.b,p11.o+2⟩ [.int .i64 er'] K:=by
 show zL h ⟨p,0+2⟩ [.int .i64 er'] K
 obtain⟨qa,c1,c2,c3,c4⟩:=M.qa
 refine yP c2 (by simp) ?_
 have e2:splice [AV.sl qa,.sl qc,.int .i64 er] (0+2) [.int .i64 er']=[.sl qa,.sl qc,.int .i64 er']:=rfl
 rw[e2]
 have hpl:=M.live p (by simp[M.pr])
 have K2:zI (λb=>b=p) h (h.set p (.cells [.sl qa,.sl qc,.int .i64 er'] true)):=zO rfl
 have ne:∀b r,ow b=some r->r≠ .mrg->¬b=p:=λb r hb hn he=>by rw[he,M.pr] at hb;exact hn (Option.some.inj hb).symm
 obtain⟨a1,a2,_,a6,a7,a8,a9,a10⟩:=M
 exact hK _ ⟨λb hb=>by rw[List.length_set];exact a1 b hb,a2,⟨qa,List.getElem?_set_self hpl,c3.keeps K2 (λs hs=>ne _ _ (c4 s hs) (by simp)),c4⟩,λu hu=>⟨(a6 u hu).1,K2 _ _ (ne _ _ (a6 u hu).1 (by simp)) (a6 u hu).2⟩,a7,a8,a9.keeps K2 (λs hs=>ne _ _ (a10 s hs) (by simp)),a10⟩ K2 List.length_set
set_option maxRecDepth 20000 in
set_option maxHeartbeats 1000000 in
theorem m225 (A:CA z hW h pp fb mb n fl cs P N)(B:Bes z ow hW pp fb mb cs)(pn:∀b,pbl pp fb mb b->ow b=none)(M:MrgR h ow p qc cbs er (x::H) cs)(hO:xX (x::H) (x::H).length 0)(hN:N<=1000000)
  (hQ:∀h' H' cs' P' N',CA z hW h' pp fb mb n fl cs' P' N'->N'<=N+1->Bes z ow hW pp fb mb cs'->(∀c'∈cs',∃c∈cs,c'.cb=c.cb/\c'.E=c.E/\(c'.R=[]->c.R=[]∨vI x=c'.E))->(∀b,b∈cs.map (·.cb)↔b∈cs'.map (·.cb))->MrgR h' ow p qc cbs (vI x) H' cs'->xX H' H'.length 0->(Cov (x::H) cs->Cov H' cs')->(x.rr=[]->H'.Perm H)->(x.rr≠ []->(allOf H').Perm (x.r++allOf H))->H'.length<=H.length+1->zI (turns ow pp fb mb cs) h h'->h.length<=h'.length->Q (.tup []) h'):AC Tryz.prog 225 [.ptr (some ⟨p,0⟩)] h Q:=ac225 (by
 unfold vc225
 obtain⟨qa,c1,c2,c3,c4⟩:=M.K.qa
 have cq:zA h ⟨p,0+0⟩ 1=some [.sl qa]:=by rw[xQ c2 (by simp)];rfl
 obtain⟨hr,hcx⟩:=M.K.heads x (by simp)
 have okx:=M.ok x (by simp)
 have okH:∀u∈H,HdOk u:=λu hu=>M.ok u (by simp[hu])
 have hlnd:=M.lnd
 have hlnd':=M.lnd
 simp only[List.map_cons,List.nodup_cons,List.mem_map,not_exists,not_and] at hlnd
 refine⟨qa,cq,zBC c3 (i:=0) (x:=x) rfl rfl λpp' hc _=>⟨_,hc,?_⟩⟩
 refine⟨.func (.method "Next") [srcV x.k x.lb] [],rfl,by rw[xQ hcx (by simp)];rfl,?_⟩
 have hpl:=M.K.live p (by simp[M.K.pr])
 have hhl:=M.K.live x.hb (by simp[hr])
 cases hk:x.k with
 |false=>
  obtain⟨lr,⟨ql,l1,l2,l3⟩,srt⟩:=M.L x (by simp) hk
  have hE0:=okx.lst hk
  have hrr:=okx.all hE0
  have hcode:vI x=0:=by unfold vI;rw[hE0,ite_self]
  rw[hcode] at hQ
  refine zRN (m450 l1 l2 λq6 H6 hq6=>⟨_,rfl,?_⟩)
  have hll:=M.K.live x.lb (by simp[lr])
  have hlp:x.lb≠p:=λe=>by rw[e,M.K.pr] at lr;cases lr
  have hlh:x.lb≠x.hb:=λe=>by rw[e,hr] at lr;cases lr
  generalize hh1:h.set x.lb (.cells [.sl q6] true)=h1 at*
  have K1:zI (λb=>b=x.lb) h h1:=by rw[<-hh1];exact zO rfl
  have len1:h1.length=h.length:=by rw[<-hh1];simp
  have ne:∀b r,ow b=some r->r≠ .lst->¬b=x.lb:=λb r hb hn he=>by rw[he,lr] at hb;exact hn (Option.some.inj hb).symm
  have M1:MrgK h1 ow p qc cbs er (x::H):=by
   obtain⟨a1,a2,⟨qa',a3,a4,a5⟩,a6,a7,a8,a9,a10⟩:=M.K
   exact⟨λb hb=>by have:=a1 b hb;omega,a2,⟨qa',K1 _ _ (λe=>hlp e.symm) a3,a4.keeps K1 (λs hs=>ne _ _ (a5 s hs) (by simp)),a5⟩,λu hu=>⟨(a6 u hu).1,K1 _ _ (ne _ _ (a6 u hu).1 (by simp)) (a6 u hu).2⟩,a7,a8,a9.keeps K1 (λs hs=>ne _ _ (a10 s hs) (by simp)),a10⟩
  refine zM2 (er':=0) M1 λh2 M2 K2 len2=> ?_
  have pne:∀b r,ow b=some r->r≠ .mrg->¬b=p:=λb r hb hn he=>by rw[he,M.K.pr] at hb;exact hn (Option.some.inj hb).symm
  refine⟨srcV x.k x.lb,rfl,by rw[xQ (M2.heads x (by simp)).2 (by simp)];rfl,?_⟩
  rw[hk]
  have hb2:h2[x.lb]?=some (.cells [.sl q6] true):=K2 _ _ (λe=>hlp e) (by rw[<-hh1,List.getElem?_set_self hll])
  have hqn:∀s,q6=some s->ow s.b=some .dat:=λs hs=>by obtain⟨s2,g1,g2⟩:=hq6 s hs;rw[g2];exact l3 s2 g1
  have H62:HasL entE h2 q6 x.r:=K2.hasL (λs hs=>pne _ _ (hqn s hs) (by simp)) (K1.hasL (λs hs=>ne _ _ (hqn s hs) (by simp)) H6)
  have L2:∀u∈H,u.k=false->LstR h2 ow u:=by
   intro u hu hku
   obtain⟨r',⟨qu,u1,u2,u3⟩,us⟩:=M.L u (by simp[hu]) hku
   exact⟨r',⟨qu,K2 _ _ (pne _ _ r' (by simp)) (K1 _ _ (λe=>hlnd.1 u hu e) u1),K2.hasL (λs hs=>pne _ _ (u3 s hs) (by simp)) (K1.hasL (λs hs=>ne _ _ (u3 s hs) (by simp)) u2),u3⟩,us⟩
  have C2:∀u∈H,u.k=true->CurR cs u:=λu hu=>M.C u (by simp[hu])
  have kd:∀{h3:Heap},zI (dsk ow) h2 h3->zI (dsk ow) h h3:=λK b X hb hX=>K b X hb (K2 b X (λe=>hb (by rw[e];show ow p≠none;rw[M.K.pr];simp)) (K1 b X (λe=>hb (by rw[e];show ow x.lb≠none;rw[lr];simp)) hX))
  have tw:∀{h3:Heap},zI (dsk ow) h h3->zI (turns ow pp fb mb cs) h h3:=λK b X hb hX=>K b X (λhx=>hb (.inl hx)) hX
  refine zT1 (m451 hb2 H62 (λhn=>⟨_,_,_,_,_,rfl,?_⟩) λe r hr2=>⟨_,_,_,_,_,rfl,?_⟩)
  ·refine zB (λ_=> ?_) (λg=>by simp at g)
   refine zNV (x':=x) (cs:=cs) M2 L2 C2 okH hlnd' hO λh3 H3 M3 P3 O3 K3 l3=> ?_
   have K03:=kd (λb X hb hX=>K3 b X (λhx=>hb (zKD hx)) hX)
   have hrn:x.rr=[]:=by rw[hrr];exact hn
   exact hQ h3 H3 cs P N (B.keeps A K03 (by omega)) (by omega) B (λc hc=>⟨c,hc,rfl,rfl,λh=>.inl h⟩) (λ_=>Iff.rfl) M3 O3 (λcv=>Cov.perm (λc hc hR=>by
    obtain⟨u,hu,k1,k2⟩:=cv c hc hR
    rcases List.mem_cons.1 hu with rfl|hu
    ·rw[hk] at k1;cases k1
    ·exact⟨u,hu,k1,k2⟩) P3) (λ_=>P3) (λhne=>absurd hrn hne) (by rw[P3.length_eq];omega) (tw K03) (by omega)
  ·refine zB (λg=>by simp at g) (λ_=> ?_)
   have hrr2:x.rr=e::r:=by rw[hrr];exact hr2
   obtain⟨r',hr',ok'⟩:=okx.next hrr2
   have hrr':r'=r:=by rw[hr2] at hr';exact(List.cons.inj hr').2.symm
   subst hrr'
   refine zNW (x:=x) (cs:=cs) (x':=⟨x.hb,x.lb,x.k,e,r',r',x.E⟩) M2 ⟨rfl,rfl,rfl,rfl⟩ L2 (λ_ h4 K4=> ?_) (λu hu hku=> ?_) (λu hu=> ?_) hlnd' hO λh3 H3 M3 P3 O3 K3 l3=> ?_
   ·have hne:∀b rl,ow b=some rl->rl≠ .head->¬b=x.hb:=λb rl hb hn he=>by rw[he,hr] at hb;exact hn (Option.some.inj hb).symm
    exact⟨lr,⟨q6,K4 _ _ (λe=>hlh e) hb2,K4.hasL (λs hs=>hne _ _ (hqn s hs) (by simp)) (by rw[<-hr2];exact H62),hqn⟩,ok'.srt⟩
   ·rcases List.mem_cons.1 hu with rfl|hu
    ·simp only[hk] at hku;cases hku
    ·exact C2 u hu hku
   ·rcases List.mem_cons.1 hu with rfl|hu
    ·exact ok'
    ·exact okH u hu
   ·have K03:=kd K3
    refine hQ h3 H3 cs P N (B.keeps A K03 (by omega)) (by omega) B (λc hc=>⟨c,hc,rfl,rfl,λh=>.inl h⟩) (λ_=>Iff.rfl) M3 O3 (λcv=>Cov.perm (λc hc hR=>by
     obtain⟨u,hu,k1,k2⟩:=cv c hc hR
     rcases List.mem_cons.1 hu with rfl|hu
     ·exact⟨_,List.mem_cons_self,k1,k2⟩
     ·exact⟨u,List.mem_cons_of_mem _ hu,k1,k2⟩) P3) (λhn=>absurd hn (by rw[hrr2];simp)) (λ_=> ?_) (by rw[P3.length_eq];simp) (tw K03) (by omega)
    rw[hr2]
    have:=zB9 P3
    rw[zCA] at this
    exact this
 |true=>
  obtain⟨c,hc,hcb,hcR,hcE⟩:=M.C x (by simp) hk
  obtain⟨a,b,rfl⟩:=List.append_of_mem hc
  have oc:=B.co c (by simp)
  have cne:∀u,u∈a∨u∈b->u.cb≠c.cb:=λu hu=>by
   have hnd:=A.nd
   rw[List.map_append,List.map_cons,List.nodup_append] at hnd
   obtain⟨n1,n2,n3⟩:=hnd
   rw[List.nodup_cons] at n2
   rcases hu with hu|hu
   ·exact λhe=>n3 _ (List.mem_map_of_mem hu) _ (by simp) he
   ·exact λhe=>n2.1 (by rw[<-he];exact List.mem_map_of_mem hu)
  have C2:∀(pg:Option Nat) (R':List Ent),∀u∈H,u.k=true->CurR (a++⟨c.cb,c.d,R',c.E,pg⟩::b) u:=λpg R' u hu hku=>by
   obtain⟨cu,hcu,e1,e2,e3⟩:=M.C u (by simp[hu]) hku
   have hne:cu≠c:=λhe=>by
    subst he
    exact hlnd.1 u hu (by rw[<-e1,hcb])
   refine⟨cu,?_,e1,e2,e3⟩
   rcases List.mem_append.1 hcu with hm|hm
   ·simp[hm]
   ·rcases List.mem_cons.1 hm with hm|hm
    ·exact absurd hm hne
    ·simp[hm]
  rw[<-hcb]
  refine zRO (A.next hN hcR λh1 P1 N1 pg A1 hN1 K1 l1=>⟨_,rfl,?_⟩)
  have nk:∀b r,ow b=some r->¬(pbl pp fb mb b∨b=c.cb):=λb r hb hx=>by
   rcases hx with hx|hx
   ·rw[pn b hx] at hb;cases hb
   ·rw[hx,oc] at hb;cases hb
  have M1:MrgK h1 ow p qc cbs er (x::H):=M.K.ext (λb B hb hB=>K1 b B (λhx=>by
   have hb:¬ow b=none:=hb
   cases ho:ow b with
   |none=>exact hb ho
   |some r=>exact nk b r ho hx) hB) l1
  have hcode:(if x.rr=[] then c.E else 0)=vI x:=by unfold vI;rw[hcE]
  rw[hcode]
  refine zM2 (er':=vI x) M1 λh2 M2 K2 len2=> ?_
  have pne:∀b r,ow b=some r->r≠ .mrg->¬b=p:=λb r hb hn he=>by rw[he,M.K.pr] at hb;exact hn (Option.some.inj hb).symm
  have B1:Bes z ow hW pp fb mb (a++⟨c.cb,c.d,x.rr,c.E,pg⟩::b):=⟨B.zo,λu hu=>by
   rcases List.mem_append.1 hu with hu|hu
   ·exact B.co u (by simp[hu])
   ·rcases List.mem_cons.1 hu with rfl|hu
    ·exact oc
    ·exact B.co u (by simp[hu])⟩
  have Kp:zI (dsk ow) h1 h2:=λb X hb hX=>K2 b X (λe=>hb (by rw[e];show ow p≠none;rw[M.K.pr];simp)) hX
  have A2:=B1.keeps A1 Kp (by omega)
  have L2:∀u∈H,u.k=false->LstR h2 ow u:=by
   intro u hu hku
   obtain⟨r',⟨qu,u1,u2,u3⟩,us⟩:=M.L u (by simp[hu]) hku
   exact⟨r',⟨qu,K2 _ _ (pne _ _ r' (by simp)) (K1 _ _ (nk _ _ r') u1),K2.hasL (λs hs=>pne _ _ (u3 s hs) (by simp)) (K1.hasL (λs hs=>nk _ _ (u3 s hs)) u2),u3⟩,us⟩
  refine⟨srcV x.k x.lb,rfl,by rw[xQ (M2.heads x (by simp)).2 (by simp)];rfl,?_⟩
  rw[hk]
  have hcbs:∀v,v∈(a++c::b).map (·.cb)↔v∈(a++(⟨c.cb,c.d,x.rr,c.E,pg⟩:Cu)::b).map (·.cb):=λv=>by simp
  have hback:∀c'∈a++(⟨c.cb,c.d,x.rr,c.E,pg⟩:Cu)::b,∃c0∈a++c::b,c'.cb=c0.cb/\c'.E=c0.E/\(c'.R=[]->c0.R=[]∨vI x=c'.E):=λc' hc'=>by
   rcases List.mem_append.1 hc' with hm|hm
   ·exact⟨c',by simp[hm],rfl,rfl,λh=>.inl h⟩
   ·rcases List.mem_cons.1 hm with rfl|hm
    ·refine⟨c,by simp,rfl,rfl,λh=>.inr ?_⟩
     have h:x.rr=[]:=h
     unfold vI
     rw[if_pos h,hcE]
    ·exact⟨c',by simp[hm],rfl,rfl,λh=>.inl h⟩
  have tw:∀{h3:Heap},zI (dsk ow) h2 h3->zI (turns ow pp fb mb (a++c::b)) h h3:=λK v X hb hX=>K v X (λhx=>hb (.inl hx)) (Kp v X (λhx=>hb (.inl hx)) (K1 v X (λhx=>by
   rcases hx with hx|hx
   ·exact hb (.inr (.inl hx))
   ·exact hb (.inr (.inr ⟨c,by simp,hx.symm⟩))) hX))
  show kD Tryz.prog (AC Tryz.prog) (srcV true x.lb) "Peek" [] h2 _
  rw[<-hcb]
  refine zRM (A2.peek (c:=⟨c.cb,c.d,x.rr,c.E,pg⟩) (λhn=>⟨_,_,_,_,_,rfl,?_⟩) λe r hr2=>⟨_,_,_,_,_,rfl,?_⟩)
  ·have hn:x.rr=[]:=hn
   refine zB (λ_=> ?_) (λg=>by simp at g)
   refine zNV (x':=x) (cs:=a++⟨c.cb,c.d,x.rr,c.E,pg⟩::b) M2 L2 (C2 pg x.rr) okH hlnd' hO λh3 H3 M3 P3 O3 K3 l3=> ?_
   have K03:zI (dsk ow) h2 h3:=λb X hb hX=>K3 b X (λhx=>hb (zKD hx)) hX
   exact hQ h3 H3 _ P1 N1 (B1.keeps A2 K03 (by omega)) hN1 B1 hback hcbs M3 O3 (λcv=>Cov.perm (λc' hc' hR=>by
    have key:∀c0∈a++c::b,c0.R≠ []->c0.cb≠c.cb->∃u∈H,u.k=true/\u.lb=c0.cb:=λc0 h0 hR0 hne=>by
     obtain⟨u,hu,k1,k2⟩:=cv c0 h0 hR0
     rcases List.mem_cons.1 hu with rfl|hu
     ·exact absurd (by rw[<-k2,<-hcb]) hne
     ·exact⟨u,hu,k1,k2⟩
    rcases List.mem_append.1 hc' with hm|hm
    ·exact key c' (by simp[hm]) hR (cne c' (.inl hm))
    ·rcases List.mem_cons.1 hm with rfl|hm
     ·exact absurd hn hR
     ·exact key c' (by simp[hm]) hR (cne c' (.inr hm))) P3) (λ_=>P3) (λhne=>absurd hn hne) (by rw[P3.length_eq];omega) (tw K03) (by omega)
  ·have hr2:x.rr=e::r:=hr2
   refine zB (λg=>by simp at g) (λ_=> ?_)
   obtain⟨r',hr',ok'⟩:=okx.next hr2
   refine zNW (x:=x) (cs:=a++⟨c.cb,c.d,x.rr,c.E,pg⟩::b) (x':=⟨x.hb,x.lb,x.k,e,r',r,x.E⟩) M2 ⟨rfl,rfl,rfl,rfl⟩ L2 (λhf=>by simp only[hk] at hf;cases hf) (λu hu hku=> ?_) (λu hu=> ?_) hlnd' hO λh3 H3 M3 P3 O3 K3 l3=> ?_
   ·rcases List.mem_cons.1 hu with rfl|hu
    ·exact⟨⟨c.cb,c.d,x.rr,c.E,pg⟩,by simp,hcb,hr2,hcE⟩
    ·exact C2 pg x.rr u hu hku
   ·rcases List.mem_cons.1 hu with rfl|hu
    ·exact ok'
    ·exact okH u hu
   ·refine hQ h3 H3 _ P1 N1 (B1.keeps A2 K3 (by omega)) hN1 B1 hback hcbs M3 O3 (λcv=>Cov.perm (λc' hc' hR=>by
     have key:∀c0∈a++c::b,c0.R≠ []->∃u∈(⟨x.hb,x.lb,x.k,e,r',r,x.E⟩:HD)::H,u.k=true/\u.lb=c0.cb:=λc0 h0 hR0=>by
      obtain⟨u,hu,k1,k2⟩:=cv c0 h0 hR0
      rcases List.mem_cons.1 hu with rfl|hu
      ·exact⟨_,List.mem_cons_self,k1,k2⟩
      ·exact⟨u,List.mem_cons_of_mem _ hu,k1,k2⟩
     rcases List.mem_append.1 hc' with hm|hm
     ·exact key c' (by simp[hm]) hR
     ·rcases List.mem_cons.1 hm with rfl|hm
      ·exact key c (by simp) (by rw[hcR];simp)
      ·exact key c' (by simp[hm]) hR) P3) (λhn=>absurd hn (by rw[hr2];simp)) (λ_=> ?_) (by rw[P3.length_eq];simp) (tw K3) (by omega)
    rw[hr']
    have:=zB9 P3
    rw[zCA] at this
    exact this)
end
end
section
variable{h h' hW:Heap}{ow ow':yC}{p pp fb mb n N N':Nat}{qc:OSl}{cbs:List Nat}{er:Int}{H H':List HD}{x y:HD}{Q:AHp}{q:OSl}{z:Nat->Prop}{fl:Bs->Nat->Int×List Ent}{cs:List Cu}{P:PS}
theorem MrgK.own (M:MrgK h ow p qc cbs er H)(hk:∀b r,ow b=some r->ow' b=some r)(hl:∀b,ow' b≠none->b<h.length):MrgK h ow' p qc cbs er H:=by
  obtain⟨a1,a2,⟨qa,a3,a4,a5⟩,a6,a7,a8,a9,a10⟩:=M
  exact⟨hl,hk _ _ a2,⟨qa,a3,a4,λs hs=>hk _ _ (a5 s hs)⟩,λu hu=>⟨hk _ _ (a6 u hu).1,(a6 u hu).2⟩,a7,a8,a9,λs hs=>hk _ _ (a10 s hs)⟩
theorem LstR.own (L:LstR h ow x)(hk:∀b r,ow b=some r->ow' b=some r):LstR h ow' x:=by
  obtain⟨l1,⟨ql,l2,l3,l4⟩,l5⟩:=L
  exact⟨hk _ _ l1,⟨ql,l2,l3,λs hs=>hk _ _ (l4 s hs)⟩,l5⟩
theorem MrgR.own (M:MrgR h ow p qc cbs er H cs)(hk:∀b r,ow b=some r->ow' b=some r)(hl:∀b,ow' b≠none->b<h.length):MrgR h ow' p qc cbs er H cs:=
  ⟨M.K.own hk hl,λu hu hk'=>(M.L u hu hk').own hk,M.C,M.ok,M.lnd⟩
def setB(ow:yC)(n:Nat)(r:zI2):yC:=λb=>if b=n then some r else ow b
theorem zJI {n:Nat}{r:zI2}:setB ow n r n=some r:=by simp[setB]
theorem zJJ {n:Nat}{r:zI2}(hl:∀b,ow b≠none->b<n):∀b r',ow b=some r'->setB ow n r b=some r':=by
  intro b r' hb
  unfold setB
  split
  · rename_i he;subst he;have:=hl b (by simp[hb]);omega
  · exact hb
theorem zFX {n:Nat}{r:zI2}{b:Nat}(hb:setB ow n r b≠none):b=n∨ow b≠none:=by
  unfold setB at hb
  split at hb
  · exact .inl ‹_›
  · exact .inr hb
structure MW(h:Heap)(ow:yC)(p:Nat)(qc:OSl)(cbs:List Nat)(er:Int)(H:List HD)(cs:List Cu)(z:Nat->Prop)(hW:Heap)(pp fb mb n:Nat)(fl:Bs->Nat->Int×List Ent)(P:PS)(N:Nat):Prop where
  M:MrgR h ow p qc cbs er H cs
  A:CA z hW h pp fb mb n fl cs P N
  B:Bes z ow hW pp fb mb cs
  pn:∀b,pbl pp fb mb b->ow b=none
theorem MW.grow (S:MW h ow p qc cbs er H cs z hW pp fb mb n fl P N)(x:Ext h h'):MW h' ow p qc cbs er H cs z hW pp fb mb n fl P N:=⟨S.M.grow x,S.A.grow x,S.B,S.pn⟩
theorem MW.go {qc':OSl}{cbs':List Nat}{er':Int}(S:MW h ow p qc cbs er H cs z hW pp fb mb n fl P N)(M':MrgR h' ow' p qc' cbs' er' H' cs)(D:yQ ow h ow' h'):∃z',(∀b,z b->z' b)/\MW h' ow' p qc' cbs' er' H' cs z' hW pp fb mb n fl P N:=by
  have hxl:=S.A.C.xl
  have zl:=S.A.C.zl
  have live:=M'.K.live
  refine⟨λb=>z b∨ow' b≠none,λ_ h=>.inl h,M',?_,⟨λb hb=>⟨.inr hb,?_⟩,λc hc=> ?_⟩,λb hb=> ?_⟩
  · refine S.A.step D.keeps (λb hb=>(S.B.zo b hb).1) (λb hb=>(S.B.zo b hb).2) D.len (λb hb=>.inl hb) (λb hb=> ?_) (λc hc hx=>hx (S.B.co c hc))
    rcases hb with hb|hb
    · exact .inl hb
    · rcases D.own b hb with h1|h1
      · exact .inl (S.B.zo b h1).1
      · exact .inr ⟨h1,live b hb⟩
  · rcases D.own b hb with h1|h1
    · exact(S.B.zo b h1).2
    · omega
  · cases ho:ow' c.cb with
    |none=>rfl
    |some r=>
      rcases D.own c.cb (by rw[ho];simp) with h1|h1
      · exact absurd (S.B.co c hc) h1
      · have:=zl _ (S.A.one c hc).1;omega
  · cases ho:ow' b with
    |none=>rfl
    |some r=>
      rcases D.own b (by rw[ho];simp) with h1|h1
      · exact absurd (S.pn b hb) h1
      · have:=S.A.C.pool_lt hb;omega
set_option maxRecDepth 20000 in
theorem zNX {lb:Nat}{k:Bool}{e:Ent}{r rr:List Ent}{E:Int}(M:MrgR h ow p qc cbs er H cs)(hL:k=false->LstR h ow ⟨h.length,lb,k,e,r,rr,E⟩)(hC:k=true->CurR cs ⟨h.length,lb,k,e,r,rr,E⟩)(ok:HdOk ⟨h.length,lb,k,e,r,rr,E⟩)
    (hn:∀x∈H,x.lb≠lb)(hmany:H.length<100000)
    (h1:∀h' ow',MrgR h' ow' p qc cbs er (H++[⟨h.length,lb,k,e,r,rr,E⟩]) cs->yQ ow h ow' h'->Q (.tup []) h'):
    vPtr (some (⟨p,0⟩:PA)) λp10=>∃q11:OSl,zA h ⟨p10.b,p10.o+0⟩ 1=some [.sl q11]/\
     PNew [.int .i64 e.1,.int .i64 e.2.1,.int .i64 e.2.2.1,.int .i64 e.2.2.2,srcV k lb,.func (.method "Next") [srcV k lb] []] true h λa12 h13=>
     (∃q21:OSl,zA h13 ⟨p10.b,p10.o+0⟩ 1=some [.sl q21]/\LV.val (.sl q21)=LV.val (.sl q11))/\
     PNew [.ptr (some ⟨a12,0⟩)] true h13 λa14 h15=>
     (∃q20:OSl,zA h15 ⟨p10.b,p10.o+0⟩ 1=some [.sl q20]/\LV.val (.sl q20)=LV.val (.sl q11))/\
     zM 1 8 q11 (some ⟨a14,0,1,1,0⟩) h15 λq16 h17=>
     vPtr (some (⟨p,0⟩:PA)) λp18=>zL h17 ⟨p18.b,p18.o+0⟩ [.sl q16] λh19=>Q (.tup []) h19:=by
  obtain⟨qa,c1,c2,c3,c4⟩:=M.K.qa
  have cq:zA h ⟨p,0+0⟩ 1=some [.sl qa]:=by rw[xQ c2 (by simp)];rfl
  refine⟨qa,cq,?_⟩
  unfold PNew
  have x13:Ext h (h++[zIR e k lb]):=.app _ _
  have h13e:(h++[zIR e k lb])[h.length]?=some (zIR e k lb):=by simp
  have l13:(h++[zIR e k lb]).length=h.length+1:=by simp
  generalize(h++[zIR e k lb])=h13 at*
  refine⟨⟨qa,x13.cells cq,rfl⟩,?_⟩
  have x15:Ext h13 (h13++[Blk.cells [.ptr (some ⟨h.length,0⟩)] true]):=.app _ _
  have Hn:HasL ptrE (h13++[.cells [.ptr (some ⟨h.length,0⟩)] true]) (some ⟨h13.length,0,1,1,0⟩) [h.length]:=HasL.new (n:=1) rfl rfl
  have l15:(h13++[Blk.cells [AV.ptr (some ⟨h.length,0⟩)] true]).length=h.length+2:=by simp[l13]
  generalize h13++[Blk.cells [AV.ptr (some ⟨h.length,0⟩)] true]=h15 at*
  have e15:=x13.trans x15
  refine⟨⟨qa,e15.cells cq,rfl⟩,?_⟩
  have hmk:=M.K.many
  refine AppJ.append (E:=ptrE) (c3.ext e15) Hn (by simp;omega) λq16 h17 A17 K17 l17 hq16=> ?_
  have hpl:=M.K.live p (by simp[M.K.pr])
  have hb17:=K17 p _ (λ⟨s,a1,a2⟩=>by have:=c4 s a1;rw[a2,M.K.pr] at this;cases this) (e15 _ _ c2)
  refine yP hb17 (by simp) ?_
  have es:splice [AV.sl qa,.sl qc,.int .i64 er] 0 [.sl q16]=[.sl q16,.sl qc,.int .i64 er]:=rfl
  rw[es]
  have l19:(h17.set p (.cells [.sl q16,.sl qc,.int .i64 er] true)).length=h17.length:=by simp
  have b19:(h17.set p (.cells [.sl q16,.sl qc,.int .i64 er] true))[p]?=some (.cells [.sl q16,.sl qc,.int .i64 er] true):=List.getElem?_set_self (by omega)
  have K19:zI (λb=>b=p) h17 (h17.set p (.cells [.sl q16,.sl qc,.int .i64 er] true)):=zO rfl
  generalize h17.set p (.cells [.sl q16,.sl qc,.int .i64 er] true)=h19 at*
  have hcond:∀s,q16=some s->h.length+1<=s.b∨ow s.b=some .arr:=λs hs=>by
    rcases hq16 s hs with a|⟨s2,a1,a2⟩
    · exact .inl (by omega)
    · exact .inr (by rw[<-a2];exact c4 s2 a1)
  have keep1:=zJJ (ow:=ow) (n:=h.length) (r:=.head) M.K.live
  have lv1:∀b,setB ow h.length .head b≠none->b<h.length+1:=λb hb=>by
    rcases zFX hb with rfl|hb
    · omega
    · have:=M.K.live b hb;omega
  have hcond1:∀s,q16=some s->h.length+1<=s.b∨setB ow h.length .head s.b=some .arr:=λs hs=>(hcond s hs).imp id (keep1 _ _)
  have keep2:=jD (q:=q16) (r:=.arr) lv1 hcond1
  have keep:∀b r',ow b=some r'->xZ (setB ow h.length .head) q16 .arr b=some r':=λb r' hb=>keep2 _ _ (keep1 _ _ hb)
  have hsome:∀b,xZ (setB ow h.length .head) q16 .arr b≠none->ow b≠none∨h.length<=b/\b<h19.length:=λb hb=>by
    rcases xI hcond1 b hb with hb|⟨hb,s,hs,hb2⟩
    · rcases zFX hb with rfl|hb
      · exact .inr ⟨Nat.le_refl _,by omega⟩
      · exact .inl hb
    · refine .inr ⟨by omega,?_⟩
      have:=A17.live s hs
      omega
  have K:zI (λb=>ow b=some .arr∨b=p) h h19:=by
    intro b B hb hB
    refine K19 b B (λe=>hb (.inr e)) (K17 b B (λ⟨s,a1,a2⟩=>hb (.inl (by rw[<-a2];exact c4 s a1))) (e15 b B hB))
  have hX:∀b r,ow b=some r->r≠ .arr->r≠ .mrg->¬(ow b=some .arr∨b=p):=by
    intro b r hr n1 n2 hx
    rcases hx with hx|hx
    · rw[hr] at hx;exact n1 (Option.some.inj hx)
    · subst hx;rw[M.K.pr] at hr;exact n2 (Option.some.inj hr).symm
  have hh19:h19[h.length]?=some (zIR e k lb):=by
    refine K19 _ _ (by omega) (K17 _ _ (λ⟨s,a1,a2⟩=> ?_) (x15 _ _ h13e))
    have:=M.K.live s.b (by rw[c4 s a1];simp)
    omega
  have lk:∀{u:HD},LstR h ow u->LstR h19 (xZ (setB ow h.length .head) q16 .arr) u:=fun{u} L=>by
    obtain⟨a1,⟨qu,a2,a3,a4⟩,a5⟩:=L
    exact⟨keep _ _ a1,⟨qu,K _ _ (hX _ _ a1 (by simp) (by simp)) a2,K.hasL (λs hs=>hX _ _ (a4 s hs) (by simp) (by simp)) a3,λs hs=>keep _ _ (a4 s hs)⟩,a5⟩
  refine h1 h19 (xZ (setB ow h.length .head) q16 .arr) ⟨⟨λb hb=> ?_,keep _ _ M.K.pr,⟨q16,b19,?_,λs hs=>xY s hs⟩,λu hu=> ?_,?_,by simp;omega,M.K.curs.1.keeps K (λs hs=>hX _ _ (M.K.curs.2 s hs) (by simp) (by simp)),λs hs=>keep _ _ (M.K.curs.2 s hs)⟩,λu hu hk=> ?_,λu hu hk=> ?_,λu hu=> ?_,?_⟩ ⟨λb B hb hB=>K b B (λhx=>hb ?_) hB,by omega,λb hb=>(hsome b hb).imp id And.left⟩
  · rcases hsome b hb with hb|hb
    · have:=M.K.live b hb;omega
    · exact hb.2
  · rw[List.map_append]
    refine A17.keeps K19 λs hs e=> ?_
    have:=xY (ow:=setB ow h.length .head) (q:=q16) (r:=.arr) s hs
    rw[e,keep _ _ M.K.pr] at this
    cases this
  · rcases List.mem_append.1 hu with hu|hu
    · have:=M.K.heads u hu
      exact⟨keep _ _ this.1,K _ _ (hX _ _ this.1 (by simp) (by simp)) this.2⟩
    · simp only[List.mem_singleton] at hu
      subst hu
      exact⟨keep2 _ _ zJI,hh19⟩
  · rw[List.map_append,List.nodup_append]
    refine⟨M.K.nodup,by simp,λa ha b hb e=> ?_⟩
    simp only[List.map_cons,List.map_nil,List.mem_singleton] at hb
    obtain⟨u,hu,rfl⟩:=List.mem_map.1 ha
    have:=M.K.live u.hb (by rw[(M.K.heads u hu).1];simp)
    omega
  · rcases List.mem_append.1 hu with hu|hu
    · exact lk (M.L u hu hk)
    · simp only[List.mem_singleton] at hu
      subst hu
      exact lk (hL hk)
  · rcases List.mem_append.1 hu with hu|hu
    · exact M.C u hu hk
    · simp only[List.mem_singleton] at hu
      subst hu
      exact hC hk
  · rcases List.mem_append.1 hu with hu|hu
    · exact M.ok u hu
    · simp only[List.mem_singleton] at hu
      subst hu
      exact ok
  · rw[List.map_append,List.nodup_append]
    refine⟨M.lnd,by simp,λa ha b hb e=> ?_⟩
    simp only[List.map_cons,List.map_nil,List.mem_singleton] at hb
    obtain⟨u,hu,rfl⟩:=List.mem_map.1 ha
    exact hn u hu (by rw[e,hb])
  · show ow b≠none
    rcases hx with hx|hx
    · rw[hx];simp
    · rw[hx,M.K.pr];simp
theorem m222 {lb:Nat}{ql:OSl}{l:List Ent}(M:MrgR h ow p qc cbs er H cs)(hb:h[lb]?=some (.cells [.sl ql] true))(Hl:HasL entE h ql l)(hs:zN l)(ho:ow lb=some .lst)(hd:∀s,ql=some s->ow s.b=some .dat)
    (hn:∀x∈H,x.lb≠lb)(hmany:H.length<100000)
    (h0:l=[]->Q (.tup []) h)
    (h1:∀e r h' ow',l=e::r->MrgR h' ow' p qc cbs er (H++[⟨h.length,lb,false,e,r,r,0⟩]) cs->yQ ow h ow' h'->Q (.tup []) h'):AC Tryz.prog 222 [.ptr (some ⟨p,0⟩),.iface 322 (.ptr (some ⟨lb,0⟩))] h Q:=ac222 (by
  unfold vc222
  refine m451 hb Hl (λhn=>⟨_,_,_,_,_,rfl,?_⟩) λe r hr2=>⟨_,_,_,_,_,rfl,?_⟩
  · exact zB (λg=>by simp at g) (λ_=>h0 hn)
  refine zB (λ_=> ?_) (λg=>by simp at g)
  exact zNX (k:=false) (lb:=lb) (e:=e) (r:=r) (rr:=r) (E:=0) M (λ_=>⟨ho,⟨ql,hb,by rw[<-hr2];exact Hl,hd⟩,by rw[<-hr2];exact hs⟩) (λhk=>by cases hk) ⟨by rw[<-hr2];exact hs,⟨[],by simp⟩,λ_=>rfl,λ_=>rfl⟩ hn hmany λh' ow' M' D=>h1 e r h' ow' hr2 M' D)
theorem m222c {c:Cu}{t:List Ent}(A:CA z hW h pp fb mb n fl cs P N)(hc:c∈cs)(M:MrgR h ow p qc cbs er H cs)(hs:zN (c.R++t))(ht:c.E=0->t=[])
    (hn:∀x∈H,x.lb≠c.cb)(hmany:H.length<100000)
    (h0:c.R=[]->Q (.tup []) h)
    (h1:∀e r h' ow',c.R=e::r->MrgR h' ow' p qc cbs er (H++[⟨h.length,c.cb,true,e,r++t,r,c.E⟩]) cs->yQ ow h ow' h'->Q (.tup []) h'):AC Tryz.prog 222 [.ptr (some ⟨p,0⟩),.iface 233 (.ptr (some ⟨c.cb,0⟩))] h Q:=ac222c (by
  unfold vc222c
  obtain⟨a,b,rfl⟩:=List.append_of_mem hc
  refine A.peek (λhn=>⟨_,_,_,_,_,rfl,?_⟩) λe r hr2=>⟨_,_,_,_,_,rfl,?_⟩
  · exact zB (λg=>by simp at g) (λ_=>h0 hn)
  refine zB (λ_=> ?_) (λg=>by simp at g)
  rw[hr2,List.cons_append] at hs
  exact zNX (k:=true) (lb:=c.cb) (e:=e) (r:=r++t) (rr:=r) (E:=c.E) M (λhk=>by cases hk) (λ_=>⟨c,hc,rfl,hr2,rfl⟩) ⟨hs,⟨t,rfl⟩,λh0=>by rw[ht h0,List.append_nil],λhk=>by cases hk⟩ hn hmany λh' ow' M' D=>h1 e r h' ow' hr2 M' D)
end
def InLL(h:Heap)(q:OSl)(ls:List (List Ent)):Prop:=
 ∃qs:List (OSl),HasL slE h q qs/\qs.length=ls.length/\∀(i:Nat) (s:OSl) (l:List Ent),qs[i]?=some s->ls[i]?=some l->HasL entE h s l
theorem InLL.mono {h h':Heap}{q:OSl}{ls:List (List Ent)}(I:InLL h q ls)(x:Ext h h'):InLL h' q ls:=by
 obtain⟨qs,H,hl,hq⟩:=I
 exact⟨qs,H.mono x,hl,λi s l h1 h2=>(hq i s l h1 h2).mono x⟩
theorem InLL.len {h:Heap}{q:OSl}{ls:List (List Ent)}(I:InLL h q ls):zJ q=ls.length:=by
 obtain⟨qs,H,hl,hq⟩:=I
 rw[H.len,hl]
theorem InLL.idx {h:Heap}{q:OSl}{ls:List (List Ent)}(I:InLL h q ls){i:Nat}(hi:i<ls.length){K:PA->Prop}(hK:∀p s l,ls[i]?=some l->zA h p 1=some [.sl s]->HasL entE h s l->K p):vIdx q (i:Int) 1 K:=by
 obtain⟨qs,H,hl,hq⟩:=I
 refine HasL.idx (E:=slE) H (by omega) (by omega) λpp s hs hc=> ?_
 have hs:qs[i]?=some s:=by simpa using hs
 have hl2:ls[i]?=some ls[i]:=List.getElem?_eq_getElem hi
 exact hK pp s _ hl2 hc (hq i s _ hs hl2)
section
variable{h h':Heap}{Q:AHp}{q:OSl}{ls:List (List Ent)}
theorem m221 {q2:OSl}{cbs:List Nat}(I:InLL h q ls)(C:HasL ptrE h q2 cbs)(hl:ls.length+cbs.length<=64)(hs:∀l∈ls,zN l)(F2:∀l∈ls,l.length<=500)(hQ:∀h',Ext h h'->Q (.int .i64 0) h'):AC Tryz.prog 221 [.sl q,.sl q2] h Q:=ac221 (by
 unfold vc221
 have hlen:=I.len
 rw[hlen,C.len,zF ⟨by omega,by omega⟩]
 refine zB (λg=>by have:=of_decide_eq_true g;omega) (λ_=> ?_)
 refine⟨λxs h5=>Ext h h5/\∃i:Nat,xs=[.int .i64 i]/\i<=ls.length,λxs _=>match xs with | [.int _ i]=>(ls.length-i).toNat|_=>0,⟨.refl _,0,rfl,by omega⟩,?_⟩
 rintro n2 h5 ⟨x5,i,hx,hi⟩
 simp only[List.cons.injEq,AV.int.injEq,true_and,and_true] at hx
 subst hx
 refine zB (λg1=> ?_) (λg1=> ?_)
 ·replace g1:=of_decide_eq_true g1
  refine(I.mono x5).idx (by omega) λpp s l hl hc H=>⟨s,hc,?_⟩
  have hm:=List.mem_of_getElem? hl
  refine z194 H (by have:=F2 l hm;omega) λh10 x10=>⟨_,rfl,?_⟩
  refine zB (λg2=> ?_) (λg2=> ?_)
  ·have:=hs l hm
   simp[this] at g2
  ·rw[zF ⟨by omega,by omega⟩]
   exact⟨trivial,⟨x5.trans x10,i+1,by simp,by omega⟩,by simp only;omega⟩
 ·refine⟨λxs h15=>h15=h5/\∃i:Nat,xs=[.int .i64 i]/\i<=cbs.length,λxs _=>match xs with | [.int _ i]=>(cbs.length-i).toNat|_=>0,⟨rfl,0,rfl,by omega⟩,?_⟩
  rintro n12 h15 ⟨rfl,i,hx,hi⟩
  simp only[List.cons.injEq,AV.int.injEq,true_and,and_true] at hx
  subst hx
  refine zB (λg=> ?_) (λ_=>hQ _ x5)
  replace g:=of_decide_eq_true g
  refine HasL.idx (E:=ptrE) (C.mono x5) (by omega) (by omega) λpp b hb hc=>⟨_,hc,?_⟩
  refine zB (λg=>by simp at g) (λ_=> ?_)
  rw[zF ⟨by omega,by omega⟩]
  exact⟨trivial,⟨rfl,i+1,by simp,by omega⟩,by simp only;omega⟩)
end
section
variable{h h' hW:Heap}{ow ow':yC}{p pp fb mb n N N':Nat}{qc:OSl}{cbs:List Nat}{er:Int}{H H':List HD}{x y:HD}{Q:AHp}{q:OSl}{z:Nat->Prop}{fl:Bs->Nat->Int×List Ent}{cs:List Cu}{P:PS}
theorem addcur {cb:Nat}{K:Heap->Prop}(M:MrgR h ow p qc cbs er H cs)(hm:cbs.length<=1000)
  (hK:∀h' ow' qc',MrgR h' ow' p qc' (cbs++[cb]) er H cs->yQ ow h ow' h'->K h'):
  ∃q28:OSl,zA h ⟨p,1⟩ 1=some [.sl q28]/\PNew [.ptr (some ⟨cb,0⟩)] true h λa29 h30=>zM 1 8 q28 (some ⟨a29,0,1,1,0⟩) h30 λq31 h32=>zL h32 ⟨p,1⟩ [.sl q31] K:=by
 obtain⟨qa,c1,c2,c3,c4⟩:=M.K.qa
 refine⟨qc,by rw[zP (p:=⟨p,1⟩) c2 (by simp)];rfl,?_⟩
 unfold PNew
 have x15:Ext h (h++[Blk.cells [.ptr (some ⟨cb,0⟩)] true]):=.app _ _
 have Hn:HasL ptrE (h++[.cells [.ptr (some ⟨cb,0⟩)] true]) (some ⟨h.length,0,1,1,0⟩) [cb]:=HasL.new (n:=1) rfl rfl
 have l15:(h++[Blk.cells [AV.ptr (some ⟨cb,0⟩)] true]).length=h.length+1:=by simp
 generalize h++[Blk.cells [AV.ptr (some ⟨cb,0⟩)] true]=h15 at*
 refine Apd.append (E:=ptrE) (M.K.curs.1.ext x15) Hn (by simp;omega) λq16 h17 A17 K17 l17 hq16=> ?_
 have hpl:=M.K.live p (by simp[M.K.pr])
 have c4':=M.K.curs.2
 have hb17:=K17 p _ (λ⟨s,a1,a2⟩=>by have:=c4' s a1;rw[a2,M.K.pr] at this;cases this) (x15 _ _ c2)
 show zL h17 ⟨p,0+1⟩ [.sl q16] K
 refine zCF (o:=1) hb17 (by simp) ?_
 have es:splice [AV.sl qa,.sl qc,.int .i64 er] 1 [.sl q16]=[.sl qa,.sl q16,.int .i64 er]:=rfl
 rw[es]
 have l19:(h17.set p (.cells [.sl qa,.sl q16,.int .i64 er] true)).length=h17.length:=by simp
 have b19:(h17.set p (.cells [.sl qa,.sl q16,.int .i64 er] true))[p]?=some (.cells [.sl qa,.sl q16,.int .i64 er] true):=List.getElem?_set_self (by omega)
 have K19:zI (λb=>b=p) h17 (h17.set p (.cells [.sl qa,.sl q16,.int .i64 er] true)):=zO rfl
 generalize h17.set p (.cells [.sl qa,.sl q16,.int .i64 er] true)=h19 at*
 have hcond:∀s,q16=some s->h.length<=s.b∨ow s.b=some .cur:=λs hs=>by
  rcases hq16 s hs with a|⟨s2,a1,a2⟩
  ·exact .inl (by omega)
  ·exact .inr (by rw[<-a2];exact c4' s2 a1)
 have keep:=jD (q:=q16) (r:=.cur) M.K.live hcond
 have hsome:∀b,xZ ow q16 .cur b≠none->ow b≠none∨h.length<=b/\b<h19.length:=λb hb=>by
  rcases xI hcond b hb with hb|⟨hb,s,hs,hb2⟩
  ·exact .inl hb
  ·refine .inr ⟨hb,?_⟩
   have:=HasL.live A17.hasL s hs
   omega
 have K:zI (λb=>ow b=some .cur∨b=p) h h19:=by
  intro b B hb hB
  refine K19 b B (λe=>hb (.inr e)) (K17 b B (λ⟨s,a1,a2⟩=>hb (.inl (by rw[<-a2];exact c4' s a1))) (x15 b B hB))
 have hX:∀b r,ow b=some r->r≠ .cur->r≠ .mrg->¬(ow b=some .cur∨b=p):=by
  intro b r hr n1 n2 hx
  rcases hx with hx|hx
  ·rw[hr] at hx;exact n1 (Option.some.inj hx)
  ·subst hx;rw[M.K.pr] at hr;exact n2 (Option.some.inj hr).symm
 refine hK h19 (xZ ow q16 .cur) q16 ⟨⟨λb hb=> ?_,keep _ _ M.K.pr,⟨qa,b19,c3.keeps K (λs hs=>hX _ _ (c4 s hs) (by simp) (by simp)),λs hs=>keep _ _ (c4 s hs)⟩,λu hu=> ?_,M.K.nodup,M.K.many,?_,λs hs=>xY s hs⟩,λu hu hk=> ?_,M.C,M.ok,M.lnd⟩ ⟨λb B hb hB=>K b B (λhx=>hb ?_) hB,by omega,λb hb=>(hsome b hb).imp id And.left⟩
 ·rcases hsome b hb with hb|hb
  ·have:=M.K.live b hb;omega
  ·exact hb.2
 ·have:=M.K.heads u hu
  exact⟨keep _ _ this.1,K _ _ (hX _ _ this.1 (by simp) (by simp)) this.2⟩
 ·refine A17.keeps K19 λs hs e=> ?_
  have:=xY (ow:=ow) (q:=q16) (r:=.cur) s hs
  rw[e,keep _ _ M.K.pr] at this
  cases this
 ·obtain⟨a1,⟨qu,a2,a3,a4⟩,a5⟩:=M.L u hu hk
  exact⟨keep _ _ a1,⟨qu,K _ _ (hX _ _ a1 (by simp) (by simp)) a2,K.hasL (λs hs=>hX _ _ (a4 s hs) (by simp) (by simp)) a3,λs hs=>keep _ _ (a4 s hs)⟩,a5⟩
 ·show ow b≠none
  rcases hx with hx|hx
  ·rw[hx];simp
  ·rw[hx,M.K.pr];simp
theorem zK0 {H H2:List HD}:allOf (H++H2)=allOf H++allOf H2:=by simp[allOf]
def toldC(T:Cu->List Ent)(c:Cu):List Ent:=if c.R=[] then [] else c.R++T c
set_option maxRecDepth 20000 in
set_option maxHeartbeats 2000000 in
theorem m150 {q2:OSl}{ls:List (List Ent)}{T:Cu->List Ent}(I:InLL h q ls)(Cq:HasL ptrE h q2 (cs.map (·.cb)))(hl:ls.length+cs.length<=64)(hs:∀l∈ls,zN l)(F2:∀l∈ls,l.length<=500)(A:CA z hW h pp fb mb n fl cs P N)(hT:∀c∈cs,zN (c.R++T c)/\(c.E=0->T c=[]))
  (hQ:∀h' p ow H z' qc,Ext h h'∨True->zI (λ_=>False) h h'->(∀b,z b->z' b)->MW h' ow p qc (cs.map (·.cb)) 0 H cs z' hW pp fb mb n fl P N->xX H H.length 0->Cov H cs->(allOf H).Perm (ls.flatten++cs.flatMap (toldC T))->(∀b,ow b≠none->h.length<=b)->Q (.tup [.ptr (some ⟨p,0⟩),.int .i64 0]) h'):AC Tryz.prog 150 [.sl q,.sl q2] h Q:=ac150 (by
 unfold vc150
 have hlen:=I.len
 have hcl:(cs.map (·.cb)).length=cs.length:=by simp
 refine m221 I Cq (by rw[hcl];exact hl) hs F2 λh4 x4=>⟨_,rfl,?_⟩
 refine zB (λg=>by simp at g) (λ_=> ?_)
 unfold PNew
 have hx47:Ext h4 (h4++[Blk.cells [.sl none,.sl none,.int .i64 0] true]):=.app _ _
 have x7:=x4.trans hx47
 have h4l:=x4.len
 have M7:MrgR (h4++[Blk.cells [.sl none,.sl none,.int .i64 0] true]) (λb=>if b=h4.length then some .mrg else none) h4.length none [] 0 [] cs:=by
  refine⟨⟨λb hb=> ?_,by simp,⟨none,by simp,.inl ⟨rfl,rfl⟩,λs hs=>by cases hs⟩,λu hu=>by simp at hu,by simp,by simp,.inl ⟨rfl,rfl⟩,λs hs=>by cases hs⟩,λu hu=>by simp at hu,λu hu=>by simp at hu,λu hu=>by simp at hu,by simp⟩
  by_cases e:b=h4.length
  ·simp[e]
  ·simp[e] at hb
 have l7:(h4++[Blk.cells [AV.sl none,.sl none,.int .i64 0] true]).length=h4.length+1:=by simp
 generalize h4++[Blk.cells [AV.sl none,.sl none,.int .i64 0] true]=h7 at*
 have A4:=A.grow x4
 have S7:MW h7 (λb=>if b=h4.length then some .mrg else none) h4.length none [] 0 [] cs (λb=>z b∨b=h4.length) hW pp fb mb n fl P N:=by
  have zl:=A4.C.zl
  have hxl:=A4.C.xl
  refine⟨M7,A4.step (X:=λ_=>False) (zH hx47) (λ_ h=>h.elim) (λ_ h=>h.elim) hx47.len (λb hb=>.inl hb) (λb hb=>hb.imp id λe=>⟨by omega,by omega⟩) (λ_ _ h=>h),⟨λb hb=> ?_,λc hc=> ?_⟩,λb hb=> ?_⟩
  ·by_cases e:b=h4.length
   ·subst e;exact⟨.inr rfl,by omega⟩
   ·simp[e] at hb
  ·have:=zl _ (A4.one c hc).1
   have hne:¬c.cb=h4.length:=by omega
   simp[hne]
  ·have:=A4.C.pool_lt hb
   have hne:¬b=h4.length:=by omega
   simp[hne]
 let Ib:Heap->Nat->Prop:=λh8 i=>∃ow1 H1 z1,(∀b,z b->z1 b)/\MW h8 ow1 h4.length none [] 0 H1 cs z1 hW pp fb mb n fl P N/\Ext h h8/\(∀b,ow1 b≠none->h.length<=b)/\(allOf H1).Perm (ls.take i).flatten/\H1.length<=i/\∀u∈H1,u.k=false
 refine⟨λxs h8=>∃i:Nat,xs=[.int .i64 i]/\i<=ls.length/\Ib h8 i,λxs _=>match xs with | [.int _ i]=>(ls.length-i).toNat|_=>0,⟨0,rfl,by omega,_,[],_,λ_ h=>.inl h,S7,x7,λb hb=> ?_,by simp[allOf],by simp,by simp⟩,?_⟩
 ·by_cases e:b=h4.length
  ·rw[e];exact h4l
  ·simp[e] at hb
 rintro n8 h11 ⟨i,hx,hi,ow1,H1,z1,w1,S1,x11,o1,P1,c1,k1⟩
 simp only[List.cons.injEq,AV.int.injEq,true_and,and_true] at hx
 subst hx
 have M1:=S1.M
 rw[hlen]
 refine zB (λg1=> ?_) (λg1=> ?_)
 ·replace g1:=of_decide_eq_true g1
  refine(I.mono x11).idx (by omega) λpp' s l hl' hc Hl=>⟨s,hc,?_⟩
  have e:ls.take (i+1)=ls.take i++[l]:=by rw[List.take_add_one,hl'];rfl
  have hlm:l∈ls:=List.mem_of_getElem? hl'
  have hl5:=F2 l hlm
  refine zIX (E:=entE) Hl (by omega) λq16 h17 N17=> ?_
  have x19:Ext h17 (h17++[Blk.cells [.sl q16] true]):=.app _ _
  show AC Tryz.prog 222 _ _ _
  have hb19:(h17++[Blk.cells [.sl q16] true])[h17.length]?=some (.cells [.sl q16] true):=by simp
  have l19:(h17++[Blk.cells [.sl q16] true]).length=h17.length+1:=by simp
  generalize h17++[Blk.cells [.sl q16] true]=h19 at*
  have l17:=N17.1.len
  have hq17:=HasL.live N17.hasL
  have hcond:∀s,q16=some s->h11.length<=s.b∨ow1 s.b=some .dat:=λs hs=>.inl (N17.2.2 s hs)
  have keep1:=jD (q:=q16) (r:=.dat) M1.K.live hcond
  have lv1:∀b,xZ ow1 q16 .dat b≠none->b<h17.length:=λb hb=>by
   rcases xI hcond b hb with hb|⟨hb,s,hs,rfl⟩
   ·have:=M1.K.live b hb;omega
   ·exact hq17 s hs
  have keep2:=zJJ (r:=.lst) lv1
  have hsome:∀b,setB (xZ ow1 q16 .dat) h17.length .lst b≠none->(ow1 b≠none∨h11.length<=b)/\b<h19.length:=λb hb=>by
   rcases zFX hb with rfl|hb
   ·exact⟨.inr l17,by omega⟩
   ·refine⟨?_,by have:=lv1 b hb;omega⟩
    rcases xI hcond b hb with hb|⟨hb,_⟩
    ·exact .inl hb
    ·exact .inr hb
  have M19:MrgR h19 (setB (xZ ow1 q16 .dat) h17.length .lst) h4.length none [] 0 H1 cs:=(M1.grow (N17.1.trans x19)).own (λb r hb=>keep2 _ _ (keep1 _ _ hb)) (λb hb=>(hsome b hb).2)
  have D19:yQ ow1 h11 (setB (xZ ow1 q16 .dat) h17.length .lst) h19:=⟨zH (N17.1.trans x19),(N17.1.trans x19).len,λb hb=>(hsome b hb).1⟩
  obtain⟨z19,w19,S19⟩:=S1.go M19 D19
  have xx:=x11.len
  have nexti:zC .i64 ((i:Int)+1)=((i+1:Nat):Int):=by rw[zF ⟨by omega,by omega⟩];omega
  rw[nexti]
  have o19:∀b,setB (xZ ow1 q16 .dat) h17.length .lst b≠none->h.length<=b:=λb hb=>by
   rcases(hsome b hb).1 with hb|hb
   ·exact o1 b hb
   ·omega
  refine m222 M19 hb19 (N17.hasL.mono x19) (hs l hlm) zJI (λs hs=>keep2 _ _ (xY s hs)) (λu hu e=> ?_) (by omega) (λhl0=>⟨rfl,trivial,⟨i+1,rfl,by omega,_,H1,z19,λb hb=>w19 b (w1 b hb),S19,x11.trans (N17.1.trans x19),o19,?_,by omega,k1⟩,by simp only;omega⟩) λe2 r h21 ow3 he M21 D21=> ?_
  ·obtain⟨a1,_⟩:=M1.L u hu (k1 u hu)
   have:=M1.K.live u.lb (by simp[a1])
   omega
  ·rw[e,hl0];simpa using P1
  ·obtain⟨z21,w21,S21⟩:=S19.go M21 D21
   refine⟨rfl,trivial,⟨i+1,rfl,by omega,ow3,_,z21,λb hb=>w21 b (w19 b (w1 b hb)),S21,?_,λb hb=> ?_,?_,by simp;omega,λu hu=> ?_⟩,by simp only;omega⟩
   ·intro b B hB
    have hbl:=zD hB
    refine D21.keeps b B (λhn=> ?_) (x19 _ _ (N17.1 _ _ (x11 _ _ hB)))
    have:=o19 b hn;omega
   ·rcases D21.own b hb with hb|hb
    ·exact o19 b hb
    ·omega
   ·rw[e,zK0,he]
    simp only[allOf,List.map_cons,List.map_nil,List.flatten_cons,List.flatten_nil,List.append_nil,List.flatten_append]
    exact P1.append_right _
   ·rcases List.mem_append.1 hu with hu|hu
    ·exact k1 u hu
    ·simp only[List.mem_singleton] at hu
     subst hu;rfl
 ·replace g1:=of_decide_eq_false g1
  have:i=ls.length:=by omega
  subst this
  rw[List.take_length] at P1
  let Ic:Heap->Nat->Prop:=λh25 i=>∃ow1 H1 z1 qc1,(∀b,z b->z1 b)/\MW h25 ow1 h4.length qc1 ((cs.take i).map (·.cb)) 0 H1 cs z1 hW pp fb mb n fl P N/\Ext h h25/\(∀b,ow1 b≠none->h.length<=b)/\(allOf H1).Perm (ls.flatten++(cs.take i).flatMap (toldC T))/\H1.length<=ls.length+i/\(∀u∈H1,u.k=true->u.lb∈(cs.take i).map (·.cb))/\∀c∈cs.take i,c.R≠ []->∃u∈H1,u.k=true/\u.lb=c.cb
  refine⟨λxs h25=>∃i:Nat,xs=[.int .i64 i]/\i<=cs.length/\Ic h25 i,λxs _=>match xs with | [.int _ i]=>(cs.length-i).toNat|_=>0,⟨0,rfl,by omega,ow1,H1,z1,none,w1,by simpa using S1,x11,o1,by simpa using P1,by omega,(λu hu hk=>by rw[k1 u hu] at hk;cases hk),by simp⟩,?_⟩
  rintro n22 h25 ⟨i,hx,hi,ow2,H2,z2,qc2,w2,S2,x25,o2,P2,c2,k2,cv2⟩
  simp only[List.cons.injEq,AV.int.injEq,true_and,and_true] at hx
  subst hx
  rw[Cq.len,hcl]
  have M2:=S2.M
  refine zB (λg2=> ?_) (λg2=> ?_)
  ·replace g2:=of_decide_eq_true g2
   refine HasL.idx (E:=ptrE) (Cq.mono x25) (by omega) (by rw[hcl];omega) λpp' cb hcb hc=>⟨_,hc,?_⟩
   have hcg:=List.getElem?_eq_getElem (show i<cs.length by omega)
   generalize cs[i]=c at hcg
   have hcm:c∈cs:=List.mem_of_getElem? hcg
   have hcb':cb=c.cb:=by
    rw[Int.toNat_natCast,List.getElem?_map,hcg] at hcb
    exact(Option.some.inj hcb).symm
   subst hcb'
   have ht:cs.take (i+1)=cs.take i++[c]:=by rw[List.take_add_one,hcg];rfl
   have xx:=x25.len
   refine addcur (cb:=c.cb) M2 (by simp;omega) λh33 ow33 qc33 M33 D33=> ?_
   obtain⟨z33,w33,S33⟩:=S2.go M33 D33
   have o33:∀b,ow33 b≠none->h.length<=b:=λb hb=>by
    rcases D33.own b hb with hb|hb
    ·exact o2 b hb
    ·omega
   have x33:Ext h h33:=λb B hB=>D33.keeps b B (λhn=>by have:=o2 b hn;have:=zD hB;omega) (x25 _ _ hB)
   have l33:=D33.len
   have nexti:zC .i64 ((i:Int)+1)=((i+1:Nat):Int):=by rw[zF ⟨by omega,by omega⟩];omega
   rw[nexti]
   have hcbs:((cs.take i).map (·.cb))++[c.cb]=(cs.take (i+1)).map (·.cb):=by rw[ht,List.map_append];rfl
   rw[hcbs] at M33 S33
   have hnd:=S2.A.nd
   have hnot:c.cb∉(cs.take i).map (·.cb):=λhm=>by
    obtain⟨u,hu,he⟩:=List.mem_map.1 hm
    obtain⟨j,hj⟩:=List.getElem?_of_mem hu
    rw[List.getElem?_take] at hj
    split at hj
    ·rename_i hji
     have e1:(cs.map (·.cb))[j]?=some c.cb:=by rw[List.getElem?_map,hj,<-he];rfl
     have e2:(cs.map (·.cb))[i]?=some c.cb:=by rw[List.getElem?_map,hcg];rfl
     have l1:=(List.getElem?_eq_some_iff.1 e1)
     have l2:=(List.getElem?_eq_some_iff.1 e2)
     have:=(List.getElem_inj (h₀:=l1.1) (h₁:=l2.1) hnd).1 (by rw[l1.2,l2.2])
     omega
    ·cases hj
   refine m222c (t:=T c) S33.A hcm M33 (hT c hcm).1 (hT c hcm).2 (λu hu e=> ?_) (by omega) (λhR0=>⟨rfl,trivial,⟨i+1,rfl,by omega,ow33,H2,z33,qc33,λb hb=>w33 b (w2 b hb),S33,x33,o33,?_,by omega,λu hu hk=> ?_,λu hu hR=> ?_⟩,by simp only;omega⟩) λe2 r h35 ow35 he M35 D35=> ?_
   ·cases hk:u.k with
    |false=>
     obtain⟨a1,_⟩:=M33.L u hu hk
     rw[e,S33.B.co c hcm] at a1;cases a1
    |true=>exact hnot (by rw[<-e];exact k2 u hu hk)
   ·rw[ht,List.flatMap_append]
    have: [c].flatMap (toldC T)=[]:=by simp[toldC,hR0]
    rw[this,List.append_nil];exact P2
   ·rw[ht,List.map_append];exact List.mem_append_left _ (k2 u hu hk)
   ·rw[ht] at hu
    rcases List.mem_append.1 hu with hu|hu
    ·exact cv2 u hu hR
    ·simp only[List.mem_singleton] at hu
     subst hu;exact absurd hR0 hR
   ·obtain⟨z35,w35,S35⟩:=S33.go M35 D35
    refine⟨rfl,trivial,⟨i+1,rfl,by omega,ow35,_,z35,qc33,λb hb=>w35 b (w33 b (w2 b hb)),S35,?_,λb hb=> ?_,?_,by simp;omega,λu hu hk=> ?_,λu hu hR=> ?_⟩,by simp only;omega⟩
    ·intro b B hB
     have hbl:=zD hB
     exact D35.keeps b B (λhn=>by have:=o33 b hn;omega) (x33 _ _ hB)
    ·rcases D35.own b hb with hb|hb
     ·exact o33 b hb
     ·omega
    ·rw[ht,List.flatMap_append,zK0,<-List.append_assoc]
     have e9: [c].flatMap (toldC T)=e2::(r++T c):=by
      simp[toldC,he]
     rw[e9]
     simp only[allOf,List.map_cons,List.map_nil,List.flatten_cons,List.flatten_nil,List.append_nil]
     exact P2.append_right _
    ·rcases List.mem_append.1 hu with hu|hu
     ·rw[ht,List.map_append];exact List.mem_append_left _ (k2 u hu hk)
     ·simp only[List.mem_singleton] at hu
      subst hu
      rw[ht,List.map_append];simp
    ·rw[ht] at hu
     rcases List.mem_append.1 hu with hu|hu
     ·obtain⟨v,hv,r1⟩:=cv2 u hu hR
      exact⟨v,List.mem_append_left _ hv,r1⟩
     ·simp only[List.mem_singleton] at hu
      subst hu
      exact⟨⟨h33.length,u.cb,true,e2,r++T u,r,u.E⟩,List.mem_append_right _ (by simp),rfl,rfl⟩
  ·replace g2:=of_decide_eq_false g2
   have:i=cs.length:=by omega
   subst this
   rw[List.take_length] at P2 cv2 S2 M2
   refine m223 M2.K λh37 H3 M3 K3 l3 P3 O3=>⟨rfl,?_⟩
   have M37:=MrgR.of_heap (cs:=cs) M3 P3 M2.L M2.C M2.ok M2.lnd K3
   have Kd:zI (dsk ow2) h25 h37:=λb B hb hB=>K3 b B (λhx=>hb (zKD hx)) hB
   refine hQ h37 _ ow2 H3 z2 qc2 (.inr trivial) (λb B _ hB=>K3 b B (λhx=> ?_) (x25 _ _ hB)) w2 ⟨M37,S2.B.keeps S2.A Kd l3,S2.B,S2.pn⟩ O3 (Cov.perm cv2 P3) ((zB9 P3).trans P2) o2
   have:=o2 b (zKD hx)
   have:=zD hB
   omega)
end
structure Mg(h:Heap)(ow:yC)(p:Nat)(qc:OSl)(cbs:List Nat)(er:Int)(m:List Ent)(cs:List Cu)(z:Nat->Prop)(hW:Heap)(pp fb mb n:Nat)(fl:Bs->Nat->Int×List Ent)(P:PS)(N:Nat):Prop where
 at':∃H,MW h ow p qc cbs er H cs z hW pp fb mb n fl P N/\xX H H.length 0/\Cov H cs/\yA (allOf H)=m
section
variable{h h' hW:Heap}{ow ow':yC}{p pp fb mb n N N':Nat}{qc:OSl}{cbs:List Nat}{er:Int}{H H':List HD}{x y:HD}{Q:AHp}{q:OSl}{z:Nat->Prop}{fl:Bs->Nat->Int×List Ent}{cs:List Cu}{P:PS}{m:List Ent}
theorem zS9 (hs:yA (allOf H)=m):m=[]↔H=[]:=by
 have hp:=(zS (allOf H)).length_eq
 rw[hs] at hp
 constructor
 ·intro e
  subst e
  cases H with
  |nil=>rfl
  |cons x H=>rw[zCA] at hp;simp at hp
 ·intro e
  subst e
  exact List.eq_nil_of_length_eq_zero (by rw[hp];rfl)
theorem zJG (hok:∀u∈x::H,HdOk u)(h2:xX (x::H) (x::H).length 0):yA (allOf (x::H))=x.e::yA (x.r++allOf H):=by
 refine zQB (by rw[zCA];exact .refl _) ?_
 exact zSQ h2 (x0:=x) rfl (λu hu=>(hok u hu).srt)
theorem sortE_perm_eq' {a b:List Ent}(h:a.Perm b):yA a=yA b:=zAO (yD a) (yD b) ((zS a).trans (h.trans (zS b).symm))
theorem Mg.grow (M:Mg h ow p qc cbs er m cs z hW pp fb mb n fl P N)(e:Ext h h'):Mg h' ow p qc cbs er m cs z hW pp fb mb n fl P N:=by
 obtain⟨H,h1,h2⟩:=M.at'
 exact⟨H,h1.grow e,h2⟩
theorem Mg.err (M:Mg h ow p qc cbs er m cs z hW pp fb mb n fl P N):zA h ⟨p,0+2⟩ 1=some [.int .i64 er]:=by
 obtain⟨H,h1,h2⟩:=M.at'
 obtain⟨qa,c1,c2,c3,c4⟩:=h1.M.K.qa
 rw[xQ c2 (by simp)];rfl
theorem Mg.live (M:Mg h ow p qc cbs er m cs z hW pp fb mb n fl P N):∀b,ow b≠none->b<h.length:=by
 obtain⟨H,h1,h2⟩:=M.at'
 exact h1.M.K.live
theorem Mg.ca (M:Mg h ow p qc cbs er m cs z hW pp fb mb n fl P N):CA z hW h pp fb mb n fl cs P N:=by
 obtain⟨H,h1,h2⟩:=M.at'
 exact h1.A
theorem Mg.step {z':Nat->Prop}(M:Mg h ow p qc cbs er m cs z hW pp fb mb n fl P N){X:Nat->Prop}(K:zI X h h')(hl:h.length<=h'.length)(hX:∀b,X b->ow b=none/\hW.length<=b/\z b)(hc:∀c∈cs,¬X c.cb)(h1:∀b,z b->z' b)(h2:∀b,z' b->z b∨(h.length<=b/\b<h'.length)):Mg h' ow p qc cbs er m cs z' hW pp fb mb n fl P N:=by
 obtain⟨H,a1,a2,a3,a4⟩:=M.at'
 refine⟨H,⟨?_,a1.A.step K (λb hb=>(hX b hb).2.2) (λb hb=>(hX b hb).2.1) hl h1 h2 hc,⟨λb hb=>⟨h1 _ (a1.B.zo b hb).1,(a1.B.zo b hb).2⟩,a1.B.co⟩,a1.pn⟩,a2,a3,a4⟩
 exact a1.M.ext (λb B hb hB=>K b B (λhx=>hb (hX b hx).1) hB) hl
theorem y224 (M:Mg h ow p qc cbs er m cs z hW pp fb mb n fl P N)(h0:m=[]∨er≠0->Q (.tup [entV zeroE,.bool false]) h)(h1:∀e r,m=e::r->er=0->Q (.tup [entV e,.bool true]) h):AC Tryz.prog 224 [.ptr (some ⟨p,0⟩)] h Q:=by
 obtain⟨H,a1,a2,a3,a4⟩:=M.at'
 refine m224 a1.M (λhn=>h0 ?_) λx H1 he hz=> ?_
 ·rcases hn with hn|hn
  ·exact .inl ((zS9 a4).2 hn)
  ·exact .inr hn
 ·subst he
  exact h1 x.e _ (by rw[<-a4];exact zJG a1.M.ok a2) hz
theorem y225 {e:Ent}{r:List Ent}(M:Mg h ow p qc cbs er (e::r) cs z hW pp fb mb n fl P N)(hN:N<=1000000)
  (hQ:∀h' cs' P' N' er',N'<=N+1->(er'=0->Mg h' ow p qc cbs 0 r cs' z hW pp fb mb n fl P' N')->(er'≠0->(∃c∈cs,c.E=er')/\∃m',Mg h' ow p qc cbs er' m' cs' z hW pp fb mb n fl P' N')->(∀c'∈cs',∃c∈cs,c'.cb=c.cb/\c'.E=c.E/\(c'.R=[]->c.R=[]∨er'=c'.E))->(∀b,b∈cs.map (·.cb)↔b∈cs'.map (·.cb))->zI (turns ow pp fb mb cs) h h'->h.length<=h'.length->Q (.tup []) h'):AC Tryz.prog 225 [.ptr (some ⟨p,0⟩)] h Q:=by
 obtain⟨H,a1,a2,a3,a4⟩:=M.at'
 cases H with
 |nil=>simp[allOf,yA] at a4
 |cons x H=>
  rw[zJG a1.M.ok a2] at a4
  simp only[List.cons.injEq] at a4
  have okx:=a1.M.ok x (by simp)
  refine m225 a1.A a1.B a1.pn a1.M a2 hN λh' H' cs' P' N' A' hN' B' hb hcb M' O' cv hp hq hlen K' l'=> ?_
  have hmg:∀m',yA (allOf H')=m'->Mg h' ow p qc cbs (vI x) m' cs' z hW pp fb mb n fl P' N':=λm' hm=>⟨H',⟨M',A',B',a1.pn⟩,O',cv a3,hm⟩
  refine hQ h' cs' P' N' (vI x) hN' (λh0=> ?_) (λh0=>⟨?_,_,hmg _ rfl⟩) hb hcb K' l'
  ·have:yA (allOf H')=r:=by
    rw[<-a4.2]
    by_cases hr:x.rr=[]
    ·have hE:x.E=0:=by
      unfold vI at h0
      rw[if_pos hr] at h0;exact h0
     have hxr:x.r=[]:=by rw[<-okx.all hE];exact hr
     rw[hxr,List.nil_append]
     exact sortE_perm_eq' (zB9 (hp hr))
    ·exact sortE_perm_eq' (hq hr)
   have:=hmg r this
   rw[h0] at this
   exact this
  ·have hr:x.rr=[]:=by
    by_cases hr:x.rr=[]
    ·exact hr
    ·unfold vI at h0
     rw[if_neg hr] at h0;exact absurd rfl h0
   have he:vI x=x.E:=by unfold vI;rw[if_pos hr]
   rw[he] at h0 ⊢
   cases hk:x.k with
   |false=>exact absurd (okx.lst hk) h0
   |true=>
    obtain⟨c,hc,_,_,hE⟩:=a1.M.C x (by simp) hk
    exact⟨c,hc,hE⟩
end
section
variable{h h' hW:Heap}{ow ow':yC}{p pp fb mb n N N':Nat}{qc:OSl}{cbs:List Nat}{er:Int}{H H':List HD}{x y:HD}{Q:AHp}{q:OSl}{z:Nat->Prop}{fl:Bs->Nat->Int×List Ent}{cs:List Cu}{P:PS}{m:List Ent}
theorem Mg.old (M:Mg h ow p qc cbs er m cs z hW pp fb mb n fl P N):hW.length<=h.length/\(∀b,z b->b<h.length)/\(∀c∈cs,c.cb<h.length)/\(∀b,pbl pp fb mb b->b<h.length)/\(∀b,z b->¬pbl pp fb mb b):=by
 have A:=M.ca
 exact⟨A.C.xl,A.C.zl,λc hc=>A.C.zl _ (A.one c hc).1,λb hb=>A.C.pool_lt hb,A.C.zp⟩
theorem ca_hp0 (A:CA z hW h pp fb mb n fl cs P N)(hR:∀c∈cs,c.R=[]):HP fl n [] P:=by
 have:∀c∈cs,c.pages=[]:=λc hc=>by
  obtain⟨_,_,o3⟩:=A.one c hc
  rcases o3 with⟨i,at',l,ql,e1,e2,e3,e4,e5,e6,e7,e8⟩|⟨e1,_⟩
  ·rw[hR c hc] at e7
   have:=congrArg List.length e7
   rw[List.length_append,List.length_drop] at this
   simp only[List.length_nil] at this
   omega
  ·unfold Cu.pages;rw[e1]
 have h0:cs.flatMap Cu.pages=[]:=List.flatMap_eq_nil_iff.2 this
 have:=A.A
 rw[h0] at this
 exact this
theorem v151h (M:Mg h ow p qc cbs er m cs z hW pp fb mb n fl P N)(hN:N<=1000000)(hcb:∀b∈cbs,∃c∈cs,c.cb=b)(hcov:∀c∈cs,c.cb∈cbs)(hl:cbs.length<=1000)
  (hQ:∀h' P' N',CP z hW h' pp fb mb P' N'->HP fl n [] P'->N'=N->h.length<=h'.length->P'.held=0->(∃c2 c3,h'[p]?=some (.cells [.sl none,c2,c3] true))->zI (turns ow pp fb mb cs) h h'->Q (.tup []) h'):vc151 (some ⟨p,0⟩) h Q:=by
 unfold vc151
 refine zB (λg=>by simp at g) (λ_=> ?_)
 obtain⟨H,S,_,_,_⟩:=M.at'
 obtain⟨qa,c1,c2,c3,c4⟩:=S.M.K.qa
 have cc:zA h ⟨p,0+1⟩ 1=some [.sl qc]:=by rw[xQ c2 (by simp)];rfl
 refine⟨qc,cc,?_⟩
 have hcur:=S.M.K.curs.1.hasL
 rw[hcur.len]
 have hown:∀b r,ow b=some r->¬(pbl pp fb mb b∨∃c∈cs,c.cb=b):=λb r hb hx=>by
  rcases hx with hx|⟨c,hc,rfl⟩
  ·rw[S.pn b hx] at hb;cases hb
  ·rw[S.B.co c hc] at hb;cases hb
 refine⟨λxs h7=>∃(i:Nat) (cs7:List Cu) (P7:PS),xs=[.int .i64 (i:Nat)]/\i<=cbs.length/\CA z hW h7 pp fb mb n fl cs7 P7 N/\(∀c∈cs7,c.cb∈cbs.take i->c.R=[])/\(∀b∈cbs,∃c∈cs7,c.cb=b)/\(∀c'∈cs7,∃c∈cs,c.cb=c'.cb)/\zI (λb=>pbl pp fb mb b∨∃c∈cs,c.cb=b) h h7/\h.length<=h7.length,
  λxs _=>match xs with | [.int _ i]=>(cbs.length-i).toNat|_=>0,⟨0,cs,P,rfl,by omega,S.A,λc _ hc=>by simp at hc,hcb,λc hc=>⟨c,hc,rfl⟩,.refl _ _,Nat.le_refl _⟩,?_⟩
 rintro n4 h7 ⟨i,cs7,P7,hx,hi,A7,hR7,hcb7,hb7,K7,l7⟩
 simp only[List.cons.injEq,AV.int.injEq,true_and,and_true] at hx
 subst hx
 refine zB (λg=> ?_) (λg=> ?_)
 ·replace g:=of_decide_eq_true g
  have H7:HasL ptrE h7 qc cbs:=K7.hasL (λs hs=>hown _ _ (S.M.K.curs.2 s hs)) hcur
  refine HasL.idx (E:=ptrE) H7 (by omega) (by omega) λpp' cb hcg hc=>⟨_,hc,?_⟩
  rw[Int.toNat_natCast] at hcg
  obtain⟨c,hcm,rfl⟩:=hcb7 cb (List.mem_of_getElem? hcg)
  obtain⟨a,b,rfl⟩:=List.append_of_mem hcm
  have hnd:=A7.nd
  have cne:∀u,u∈a∨u∈b->u.cb≠c.cb:=λu hu=>by
   rw[List.map_append,List.map_cons,List.nodup_append] at hnd
   obtain⟨n1,n2,n3⟩:=hnd
   rw[List.nodup_cons] at n2
   rcases hu with hu|hu
   ·exact λhe=>n3 _ (List.mem_map_of_mem hu) _ (by simp) he
   ·exact λhe=>n2.1 (by rw[<-he];exact List.mem_map_of_mem hu)
  have htk:cbs.take (i+1)=cbs.take i++[c.cb]:=by rw[List.take_add_one,hcg];rfl
  have rest:∀u,u∈a∨u∈b->u.cb∈cbs.take (i+1)->u.R=[]:=λu hu hm=>by
   rw[htk] at hm
   rcases List.mem_append.1 hm with hm|hm
   ·exact hR7 u (by rcases hu with hu|hu<;>simp[hu]) hm
   ·exact absurd (List.mem_singleton.1 hm) (cne u hu)
  refine A7.close hN λh11 P11 pg A11 K11 l11=>⟨rfl,trivial,?_⟩
  rw[zF ⟨by omega,by omega⟩]
  refine⟨⟨i+1,_,P11,by simp,by omega,A11,λu hu hm=> ?_,λv hv=> ?_,λu hu=> ?_,λv B hv hB=> ?_,by omega⟩,by simp only;omega⟩
  ·rcases List.mem_append.1 hu with hu|hu
   ·exact rest u (.inl hu) hm
   ·rcases List.mem_cons.1 hu with rfl|hu
    ·rfl
    ·exact rest u (.inr hu) hm
  ·obtain⟨u,hu,e⟩:=hcb7 v hv
   rcases List.mem_append.1 hu with hu|hu
   ·exact⟨u,by simp[hu],e⟩
   ·rcases List.mem_cons.1 hu with rfl|hu
    ·exact⟨⟨u.cb,u.d,[],u.E,pg⟩,by simp,e⟩
    ·exact⟨u,by simp[hu],e⟩
  ·rcases List.mem_append.1 hu with hu|hu
   ·exact hb7 u (by simp[hu])
   ·rcases List.mem_cons.1 hu with rfl|hu
    ·exact hb7 c (by simp)
    ·exact hb7 u (by simp[hu])
  ·refine K11 v B (λhx=>hv ?_) (K7 v B hv hB)
   rcases hx with hx|hx
   ·exact .inl hx
   ·obtain⟨c0,h0,e0⟩:=hb7 c (by simp)
    exact .inr ⟨c0,h0,by rw[e0,hx]⟩
 ·replace g:=of_decide_eq_false g
  have:i=cbs.length:=by omega
  subst this
  rw[List.take_length] at hR7
  have hall:∀c∈cs7,c.R=[]:=λc hc=>hR7 c hc (by
   obtain⟨c0,h0,e0⟩:=hb7 c hc
   rw[<-e0];exact hcov c0 h0)
  have hb:=K7 p _ (hown _ _ S.M.K.pr) c2
  have hpl:=zD hb
  refine yP hb (by simp) ?_
  rw[show splice [AV.sl qa,.sl qc,.int .i64 er] 0 [.sl none]=[.sl none,.sl qc,.int .i64 er] from rfl]
  have K9:zI (λb=>b=p) h7 (h7.set p (.cells [.sl none,.sl qc,.int .i64 er] true)):=zO rfl
  have hpz:=S.B.zo p (by rw[S.M.K.pr];simp)
  refine hQ _ P7 N (A7.C.step K9 (λb hb=>by rw[hb];exact hpz.1) (λb hb=>by rw[hb];exact hpz.2) (by rw[List.length_set];omega) (λ_ h=>h) (λ_ h=>.inl h)) (ca_hp0 A7 hall) rfl (by rw[List.length_set];omega) (A7.noHeld hall) ⟨_,_,List.getElem?_set_self hpl⟩ λb B hb' hB=>K9 b B (λe=>hb' (.inl (by rw[e,S.M.K.pr];simp))) (K7 b B (λhx=>hb' (.inr hx)) hB)
end
end Go.Proofs.YtafmabnolelknaaGreatDoor.Mer
namespace Go.Proofs.YtafmabnolelknaaGreatDoor
open Go.Ab
open Go.Num hiding Bs snoc_ind
open Go.Ent Go.Seg Go.Cur
open Go.Page hiding Bs get
open Go.Dsk hiding Bs
open Go.Pool hiding Bs Ents zT Fr least
set_option linter.unusedVariables false
set_option linter.unusedSimpArgs false
section
variable{z:Nat->Prop}{h h' hW:Heap}{Q:AHp}{ow:yC}{w dp sp p fb mb n b N:Nat}{qt q q2:OSl}{l lf:List Ent}{ls:List (List Ent)}{e e1 e2:Ent}{fl:Bs->Nat->Int×List Ent}{cs cs':List Cu}{P:PS}
theorem CA.perm (A:CA z hW h p fb mb n fl cs P N)(hp:cs.Perm cs'):CA z hW h p fb mb n fl cs' P N:=
 ⟨A.C,A.A.perm (hp.flatMap_right _),λc hc=>A.one c (hp.mem_iff.2 hc),(hp.map _).nodup_iff.1 A.nd,by rw[<-hp.length_eq];exact A.few,λc hc=>A.g c (hp.mem_iff.2 hc)⟩
theorem ca_nil (C:CP z hW h p fb mb P N)(A:HP fl n [] P):CA z hW h p fb mb n fl [] P N:=⟨C,A,by simp,by simp,by simp,by simp⟩
theorem zKH {l:List Ent}{e:Ent}:(kS l e).length<=l.length/\(zN l->zN (kS l e)):=by
 have h:=List.dropWhile_suffix (l:=l) λx=>decide (ltE x e)
 exact⟨h.length_le,λhs=>hs.sublist h.sublist⟩
end
end Go.Proofs.YtafmabnolelknaaGreatDoor
namespace Go.Proofs.YtafmabnolelknaaGreatDoor.Mer
open Go.Ab
open Go.Num hiding Bs snoc_ind
open Go.Ent Go.Seg Go.Cur
open Go.Page hiding Bs get
open Go.Dsk hiding Bs
open Go.Pool hiding Bs Ents zT Fr least
set_option linter.unusedVariables false
set_option linter.unusedSimpArgs false
section
theorem tw_stop {is:Ent->Bool}{out m:List Ent}{e:Ent}(ho:∀x∈out,is x=true)(he:is e=false):(out++e::m).takeWhile is=out:=by
 rw[List.takeWhile_append_of_pos (by simpa using ho),List.takeWhile_cons_of_neg (by simp[he]),List.append_nil]
theorem tw_all {is:Ent->Bool}{out:List Ent}(ho:∀x∈out,is x=true):out.takeWhile is=out:=by
 have:=List.takeWhile_append_of_pos (l₂:=[]) (p:=is) (by simpa using ho)
 simpa using this
section
variable{h h' hW:Heap}{ow ow':yC}{p pp fb mb n N N':Nat}{qc:OSl}{cbs:List Nat}{er:Int}{H H':List HD}{x y:HD}{Q:AHp}{q:OSl}{z:Nat->Prop}{fl:Bs->Nat->Int×List Ent}{cs:List Cu}{P:PS}{m:List Ent}{v:AV}{is:Ent->Bool}
attribute [local irreducible] yV
set_option maxRecDepth 20000 in
set_option maxHeartbeats 1000000 in
theorem y152 (M:Mg h ow p qc cbs 0 m cs z hW pp fb mb n fl P N)(hE:∀c∈cs,c.E=0)(hN:N+m.length<=900000)
  (hv:∀e∈m,∀h2,zI (turns ow pp fb mb cs) h h2->h.length<=h2.length->∀K:AHp,(∀h3,Ext h2 h3->K (.bool (is e)) h3)->yV Tryz.prog (AC Tryz.prog) v [entV e] h2 K)
  (hQ:∀q' h' cs' z' P' N' m',Mg h' ow p qc cbs 0 m' cs' z' hW pp fb mb n fl P' N'->N'<=N+m.length->Apd entE h' q' (m.takeWhile is)->(∀b,z b->z' b)->(∀b,b∈cs.map (·.cb)↔b∈cs'.map (·.cb))->zI (turns ow pp fb mb cs) h h'->h.length<=h'.length->(∀s,q'=some s->h.length<=s.b/\ow s.b=none/\¬pbl pp fb mb s.b)->Q (.tup [.sl q',.int .i64 0]) h'):AC Tryz.prog 152 [.ptr (some ⟨p,0⟩),v] h Q:=ac152 (by
 unfold vc152 PNew
 refine zB (λg=>by simp at g) (λ_=> ?_)
 obtain⟨oW,oz,oc,op,ozp⟩:=M.old
 refine⟨λxs h6=>∃(q3:OSl) (out m6:List Ent) (z6:Nat->Prop) (cs6:List Cu) (P6:PS) (N6:Nat),xs=[.sl q3]/\m=out++m6/\(∀x∈out,is x=true)/\Mg h6 ow p qc cbs 0 m6 cs6 z6 hW pp fb mb n fl P6 N6/\N6<=N+out.length/\(∀c'∈cs6,∃c∈cs,c'.cb=c.cb/\c'.E=c.E)/\(∀b,b∈cs.map (·.cb)↔b∈cs6.map (·.cb))/\Apd entE h6 q3 out/\(∀b,z b->z6 b)/\(∀s,q3=some s->z6 s.b/\h.length<=s.b)/\zI (turns ow pp fb mb cs) h h6/\h.length<=h6.length,
  λxs _=>match xs with | [.sl q3]=>m.length-zJ q3|_=>0,⟨none,[],m,z,cs,P,N,rfl,rfl,by simp,M,by omega,λc hc=>⟨c,hc,rfl,rfl⟩,λb=>Iff.rfl,.inl ⟨rfl,rfl⟩,λ_ h=>h,(λs hs=>by cases hs),.refl _ _,Nat.le_refl _⟩,?_⟩
 rintro q3 h6 ⟨_,out,m6,z6,cs6,P6,N6,hx,he,hout,M6,hN6,hcs6,hbs6,A6,zz6,n6,K6,l6⟩
 simp only[List.cons.injEq,AV.sl.injEq,and_true] at hx
 subst hx
 have hml:m.length=out.length+m6.length:=by rw[he,List.length_append]
 have ownew:∀b,h.length<=b->ow b=none:=λb hb=>by
  cases ho:ow b with
  |none=>rfl
  |some r=>have:=M.live b (by rw[ho];simp);omega
 have fin:∀h7,Ext h6 h7->m.takeWhile is=out->Q (.tup [.sl q3,.int .i64 0]) h7:=λh7 x7 ht=>by
  refine hQ _ h7 cs6 z6 P6 N6 m6 (M6.grow x7) (by omega) (by rw[ht];exact A6.ext x7) zz6 hbs6 (λb B hb hB=>x7 _ _ (K6 b B hb hB)) (by have:=x7.len;omega) λs hs=>⟨(n6 s hs).2,ownew _ (n6 s hs).2,λhp=>by have:=op _ hp;have:=(n6 s hs).2;omega⟩
 refine y224 M6 (λhn=>⟨_,_,_,_,_,rfl,?_⟩) λe r hc _=>⟨_,_,_,_,_,rfl,?_⟩
 ·refine zB (λ_=> ?_) (λg=>by simp at g)
  refine⟨0,M6.err,zB (λg=>by simp at g) (λ_=> ?_)⟩
  have hn:m6=[]:=by
   rcases hn with hn|hn
   ·exact hn
   ·exact absurd rfl hn
  refine fin h6 (.refl _) ?_
  rw[he,hn,List.append_nil,tw_all hout]
 ·refine zB (λg=>by simp at g) (λ_=> ?_)
  subst hc
  refine hv e (by rw[he];simp) h6 K6 l6 _ λh20 x20=>⟨_,rfl,?_⟩
  refine zB (λg=> ?_) (λg=> ?_)
  ·refine⟨0,(M6.grow x20).err,zB (λg=>by simp at g) (λ_=> ?_)⟩
   exact fin h20 x20 (by rw[he];exact tw_stop hout (by simpa using g))
  have hie:is e=true:=by simpa using g
  have l20:=x20.len
  have M20:=M6.grow x20
  have A20:=A6.ext x20
  have K20:zI (turns ow pp fb mb cs) h h20:=λb B hb hB=>x20 _ _ (K6 b B hb hB)
  have x28:Ext h20 (h20++[Blk.cells [.int .i64 e.1,.int .i64 e.2.1,.int .i64 e.2.2.1,.int .i64 e.2.2.2] true]):=.app _ _
  have Hn:HasL entE (h20++[Blk.cells [.int .i64 e.1,.int .i64 e.2.1,.int .i64 e.2.2.1,.int .i64 e.2.2.2] true]) (some ⟨h20.length,0,1,1,0⟩) [e]:=HasL.new (n:=1) rfl rfl
  have l28:(h20++[Blk.cells [AV.int .i64 e.1,.int .i64 e.2.1,.int .i64 e.2.2.1,.int .i64 e.2.2.2] true]).length=h20.length+1:=by simp
  simp only[List.length_cons] at hml
  refine Apd.append (E:=entE) (A20.ext x28) Hn (by simp only[List.length_cons,List.length_nil];omega) λq29 h30 A30 K30 l30 n30=> ?_
  have hnone:∀s,q29=some s->h.length<=s.b:=λs hs=>by
   rcases n30 s hs with a|⟨s2,a1,a2⟩
   ·omega
   ·rw[<-a2];exact(n6 s2 a1).2
  let z7:Nat->Prop:=λb=>z6 b∨∃s,q29=some s/\s.b=b
  have lv30:∀s,q29=some s->s.b<h30.length:=λs hs=>HasL.live A30.hasL s hs
  have M30:Mg h30 ow p qc cbs 0 (e::r) cs6 z7 hW pp fb mb n fl P6 N6:=(M20.grow x28).step K30 l30 (λb ⟨s,a1,a2⟩=>by rw[<-a2];exact⟨ownew _ (n6 s a1).2,by have:=(n6 s a1).2;omega,(n6 s a1).1⟩) (λc' hc' ⟨s,a1,a2⟩=>by
    obtain⟨c,hcm,e1,_⟩:=hcs6 c' hc'
    have:=oc c hcm;have:=(n6 s a1).2;omega) (λb hb=>.inl hb) (λb hb=>by
    rcases hb with hb|⟨s,a1,rfl⟩
    ·exact .inl hb
    ·rcases n30 s a1 with a|⟨s2,b1,b2⟩
     ·exact .inr ⟨a,lv30 s a1⟩
     ·rw[<-b2];exact .inl (n6 s2 b1).1)
  have tn:∀b,turns ow pp fb mb cs6 b->turns ow pp fb mb cs b:=λb hb=>by
   rcases hb with hb|hb|⟨c',hc',e1⟩
   ·exact .inl hb
   ·exact .inr (.inl hb)
   ·obtain⟨c,hcm,e2,_⟩:=hcs6 c' hc'
    exact .inr (.inr ⟨c,hcm,by rw[<-e2];exact e1⟩)
  have tlt:∀b,turns ow pp fb mb cs b->b<h.length:=λb hb=>by
   rcases hb with hb|hb|⟨c,hc,rfl⟩
   ·exact M.live b hb
   ·exact op b hb
   ·exact oc c hc
  refine y225 M30 (by omega) λh32 cs7 P7 N7 er7 hN7 hz7 hnz7 hb7 hbs7 K32 l32=>⟨rfl,trivial,?_⟩
  have he7:er7=0:=by
   apply Classical.byContradiction
   intro hne
   obtain⟨⟨c',hc',e1⟩,_⟩:=hnz7 hne
   obtain⟨c,hcm,_,e2⟩:=hcs6 c' hc'
   exact hne (by rw[<-e1,e2];exact hE c hcm)
  have A32:Apd entE h32 q29 (out++[e]):=A30.keeps K32 (λs hs hx=>by have:=tlt _ (tn _ hx);have:=hnone s hs;omega)
  refine⟨⟨q29,out++[e],r,z7,cs7,P7,N7,rfl,by rw[he];simp,λx hx=> ?_,hz7 he7,by simp;omega,λc' hc'=> ?_,λb=>(hbs6 b).trans (hbs7 b),A32,λb hb=>.inl (zz6 b hb),λs hs=>⟨.inr ⟨s,hs,rfl⟩,hnone s hs⟩,λb B hb hB=> ?_,by omega⟩,?_⟩
  ·rcases List.mem_append.1 hx with hx|hx
   ·exact hout x hx
   ·rw[List.mem_singleton] at hx;rw[hx];exact hie
  ·obtain⟨c1,h1,e1,e2,_⟩:=hb7 c' hc'
   obtain⟨c,h2,e3,e4⟩:=hcs6 c1 h1
   exact⟨c,h2,by rw[e1,e3],by rw[e2,e4]⟩
  ·have hbl:=zD hB
   exact K32 b B (λhx=>hb (tn _ hx)) (K30 b B (λ⟨s,a1,a2⟩=>by have:=(n6 s a1).2;omega) (x28 _ _ (K20 b B hb hB)))
  ·simp only
   rw[A32.hasL.len,A6.hasL.len]
   simp;omega)
end
end
end Go.Proofs.YtafmabnolelknaaGreatDoor.Mer
