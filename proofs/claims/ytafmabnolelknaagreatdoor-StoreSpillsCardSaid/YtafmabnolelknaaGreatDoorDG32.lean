import Derived.Test.YtafmabnolelknaaGreatDoorDG11
import Derived.Test.YtafmabnolelknaaGreatDoorDG12
import Derived.Test.YtafmabnolelknaaGreatDoorDG17
import Derived.Test.YtafmabnolelknaaGreatDoorDG31
namespace Go.Proofs.YtafmabnolelknaaGreatDoor
open Go.Ab
open Go.Num hiding Bs snoc_ind
open Go.Ent Go.Seg Go.Sto
open Go.Page hiding Bs get
open Go.Dsk hiding Bs
open Go.Pool hiding Bs Ents zT Fr least
open Go.Cur
set_option linter.unusedVariables false
set_option linter.unusedSimpArgs false
section
variable{z z':Nat->Prop}{h h1 h':Heap}{e e':Env}{Q:AHp}{sb:Nat}{S:SS}{ps:List PD}{x:GF}{q:OSl}{l:List Ent}{y:Ent}{rest:List GF}
structure Old(z:Nat->Prop)(h:Heap)(e:Env)(q:OSl)(all left:List PD):Prop where
  H:HasL yT h q all
  zq:∀s,q=some s->z s.b/\e.ow s.b=none
  pd:∀d∈left,PdR z h e d
set_option maxRecDepth 20000 in
theorem zQH {W:Prop}{old:List PD}{news:List GF}(E:EV z h e)(R:StR z h e sb S ps)(O:Old z h e q old old)(hg:e.gs=old.map (·.x)++news)(hps:∀d∈ps,d.x∈news)(hl:old.length<=1000)(hT:W)
    (hQ:∀z' h' e',EV z' h' e'->StR z' h' e' sb S ps->e'.gs=news->Went z h e z' h' e'->e'.N=e.N->Q (.int .i64 0) h'):
    ∃(I31:LHp) (m32:LHn),I31 [.int .i64 0] h/\
     ∀n30:Int,∀h33:Heap,I31 [.int .i64 n30] h33->
     vif (decide (n30<(zJ q:Int)))
     (vIdx q n30 5 λp34=>
     ∃p35:OPa,∃n36 n37 n38:Int,∃q39:OSl,zA h33 p34 5=some [.ptr p35,.int .i64 n36,.int .i64 n37,.int .i64 n38,.sl q39]/\
     AC Tryz.prog 78 [.ptr (some ⟨sb,0⟩),.agg [.ptr p35,.int .i64 n36,.int .i64 n37,.int .i64 n38,.sl q39]] h33 λv40 h41=>∃n42:Int,v40= .int .i64 n42/\
     vif (n42 !=0)
     (Q (.int .i64 n42) h41)
     (W/\I31 [.int .i64 (zC .i64 (n30+1))] h41/\m32 [.int .i64 (zC .i64 (n30+1))] h41<m32 [.int .i64 n30] h33))
     (Q (.int .i64 0) h33):=by
  refine⟨λxs h1=>∃(i:Nat) (z1:Nat->Prop) (e1:Env),xs=[.int .i64 (i:Nat)]/\i<=old.length/\EV z1 h1 e1/\StR z1 h1 e1 sb S ps/\e1.gs=(old.drop i).map (·.x)++news/\Went z h e z1 h1 e1/\e1.N=e.N/\Old z1 h1 e1 q old (old.drop i),
    λxs _=>match xs with | [.int _ i]=>(old.length-i).toNat|_=>0,⟨0,z,e,rfl,by omega,E,R,hg,.refl _ _ _,rfl,O⟩,?_⟩
  rintro n30 h1 ⟨i,z1,e1,hx,hi,E1,R1,hg1,W1,N1,O1⟩
  simp only[List.cons.injEq,AV.int.injEq,true_and,and_true] at hx
  subst hx
  rw[O.H.len]
  refine zB (λg=> ?_) (λg=> ?_)
  · replace g:=of_decide_eq_true g
    refine HasL.idx (E:=yT) O1.H (by omega) (by omega) λpp' d hd hc=>⟨_,_,_,_,_,hc,?_⟩
    rw[Int.toNat_natCast] at hd
    have hdr:old.drop i=d::old.drop (i+1):=by
      obtain⟨h1,h2⟩:=List.getElem?_eq_some_iff.1 hd
      rw[List.drop_eq_getElem_cons h1,h2]
    obtain⟨rb,qp,Or,a1,a2,a3,a4,a5,a6,a7⟩:=R1.at'
    have D:=O1.pd d (by rw[hdr];exact List.mem_cons_self)
    rw[hdr] at hg1
    refine gk78 (d:=d) (pre:=[]) (rest:=(old.drop (i+1)).map (·.x)++news) E1 D hg1 (zU a1 (k:=1) rfl) (zU a1 (k:=0) rfl) (λhc=>E1.zp _ (a4 _ (.inl rfl)).1 hc) λh2 ow2 P2 E2 K2 l2 n2=>⟨_,rfl,zB (λg=>by simp at g) (λ_=> ?_)⟩
    rw[zF ⟨by omega,by omega⟩]
    have hz3:∀b,z1 b∨ow2 b≠none->z1 b∨h1.length<=b:=λb hb=>by
      rcases hb with hb|hb
      · exact .inl hb
      · exact(n2 b hb).imp (E1.zo b) id
    have R2:StR (λb=>z1 b∨ow2 b≠none) h2 {e1 with ow:=ow2,gs:=(old.drop (i+1)).map (·.x)++news,P:=P2} sb S ps:=R1.keeps K2 l2 (λb hb=>hb) E1.zp (λb hb=>.inl hb) hz3 rfl rfl rfl rfl n2 (λd hd=>List.mem_append_right _ (hps d hd))
    refine⟨hT,⟨i+1,_,_,by simp,by omega,E2,R2,rfl,W1.trans ⟨λb B hb hB=>K2 b B (λhc=>hb (hc.imp And.left id)) hB,l2,λb hb=>.inl hb,hz3,⟨λ_=>Iff.rfl,rfl,rfl⟩,rfl⟩,N1,?_,λs hs=> ?_,λd' hd'=> ?_⟩,by simp only;omega⟩
    · exact K2.hasL (λs hs hc=>by
        rcases hc with hc|hc
        · exact hc.2 (O1.zq s hs).2
        · exact E1.zp _ (O1.zq s hs).1 hc) O1.H
    · refine⟨.inl (O1.zq s hs).1,?_⟩
      show ow2 s.b=none
      cases ho:ow2 s.b with
      |none=>rfl
      |some r=>
        rcases n2 s.b (by rw[ho];simp) with h5|h5
        · exact absurd (O1.zq s hs).2 h5
        · have:=HasL.live O1.H s hs;omega
    · exact(O1.pd d' (by rw[hdr];exact List.mem_cons_of_mem _ hd')).keeps K2 (λb hb=>hb.imp And.left id) hz3 rfl (λ_ h=>h) (show d'.x∈(old.drop (i+1)).map (·.x)++news from List.mem_append_left _ (List.mem_map_of_mem hd'))
  · replace g:=of_decide_eq_false g
    have:i=old.length:=by omega
    subst this
    rw[List.drop_length] at hg1
    exact hQ z1 h1 e1 E1 R1 hg1 W1 N1
set_option maxRecDepth 20000 in
theorem zGW {qn:OSl}{psn:List PD}{rb:Nat}{qp:OSl}{Or:Nat->Prop}(E:EV z h e)(R:StR z h e sb S ps)(x1:Ext h h1)
    (a1:h[sb]?=some (.cells [.ptr (some ⟨e.dp,0⟩),.ptr (some ⟨e.p,0⟩),.str S.nm,.ptr (some ⟨rb,0⟩),.sl qp,.int .i64 (S.k:Nat)] true))(a2:AppJ yT h qp ps)(a3:RunR h rb S.lim S.run Or)(a4:∀b,b=sb∨inq qp b∨Or b->z b/\e.ow b=none)(a5:¬inq qp sb)(a6:¬Or sb)(a7:∀b,inq qp b->¬Or b)
    (An:AppJ yT h1 qn psn)(hn:∀b,inq qn b->h.length<=b)(hD:∀d∈psn,PdR z h e d)
    {K:Heap->Prop}(hK:∀h',EV (λb=>z b∨inq qn b) h' e->StR (λb=>z b∨inq qn b) h' e sb {S with ps:=psn.map PD.part} psn->Went z h e (λb=>z b∨inq qn b) h' e->Old (λb=>z b∨inq qn b) h' e qp ps ps->K h'):
    vPtr (some (⟨sb,0⟩:PA)) λp=>zL h1 ⟨p.b,p.o+4⟩ [.sl qn] K:=by
  have hsl:=zD a1
  have b1:=x1 _ _ a1
  have hlt:=zD b1
  refine yP (o:=4) b1 (by simp) ?_
  have c3:(h1.set sb (.cells (splice [.ptr (some ⟨e.dp,0⟩),.ptr (some ⟨e.p,0⟩),.str S.nm,.ptr (some ⟨rb,0⟩),.sl qp,.int .i64 (S.k:Nat)] 4 [.sl qn]) true))[sb]?=some (.cells [.ptr (some ⟨e.dp,0⟩),.ptr (some ⟨e.p,0⟩),.str S.nm,.ptr (some ⟨rb,0⟩),.sl qn,.int .i64 (S.k:Nat)] true):=by rw[List.getElem?_set_self hlt];rfl
  have K3:zI (λb=>b=sb) h1 (h1.set sb (.cells (splice [.ptr (some ⟨e.dp,0⟩),.ptr (some ⟨e.p,0⟩),.str S.nm,.ptr (some ⟨rb,0⟩),.sl qp,.int .i64 (S.k:Nat)] 4 [.sl qn]) true)):=zO rfl
  have l3:(h1.set sb (.cells (splice [.ptr (some ⟨e.dp,0⟩),.ptr (some ⟨e.p,0⟩),.str S.nm,.ptr (some ⟨rb,0⟩),.sl qp,.int .i64 (S.k:Nat)] 4 [.sl qn]) true)).length=h1.length:=by simp
  generalize h1.set sb (.cells (splice [.ptr (some ⟨e.dp,0⟩),.ptr (some ⟨e.p,0⟩),.str S.nm,.ptr (some ⟨rb,0⟩),.sl qp,.int .i64 (S.k:Nat)] 4 [.sl qn]) true)=h3 at*
  have l1:=x1.len
  have KK:zI (λb=>b=sb) h h3:=λb B hb hB=>K3 b B hb (x1 _ _ hB)
  have hX:∀b,b=sb->z b/\e.ow b=none:=λb hb=>a4 b (.inl hb)
  have hz2:∀b,z b∨inq qn b->z b∨(h.length<=b/\b<h3.length):=λb hb=>by
    rcases hb with hb|⟨s,hs,rfl⟩
    · exact .inl hb
    · have:=An.live s hs
      exact .inr ⟨hn _ ⟨s,hs,rfl⟩,by omega⟩
  have hz3:∀b,z b∨inq qn b->z b∨h.length<=b:=λb hb=>(hz2 b hb).imp id And.left
  have nsb:¬inq qn sb:=λhc=>by have:=hn _ hc;omega
  refine hK h3 (E.other2 KK hX (by omega) (λb hb=>.inl hb) hz2) ⟨rfl,⟨rb,qn,Or,c3,An.keeps K3 (λs hs hc=>nsb ⟨s,hs,hc⟩),a3.keeps KK (λb hb hc=>a6 (hc▸hb)) (by omega) (λ_ h=>h) (λb hb=>by have:=a3.lv b hb;omega),λb hb=> ?_,nsb,a6,λb hb hc=> ?_⟩,λd hd=> ?_⟩ ⟨λb B hb hB=>KK b B (λhc=>hb (.inl (hX b hc).1)) hB,by omega,λb hb=>.inl hb,hz3,⟨λ_=>Iff.rfl,rfl,rfl⟩,rfl⟩ ⟨KK.hasL (λs hs hc=>a5 ⟨s,hs,hc⟩) a2.hasL,λs hs=>⟨.inl (a4 _ (.inr (.inl ⟨s,hs,rfl⟩))).1,(a4 _ (.inr (.inl ⟨s,hs,rfl⟩))).2⟩,λd hd=> ?_⟩
  · rcases hb with hb|hb|hb
    · exact⟨.inl (a4 b (.inl hb)).1,(a4 b (.inl hb)).2⟩
    · exact⟨.inr hb,E.nobody (hn b hb)⟩
    · exact⟨.inl (a4 b (.inr (.inr hb))).1,(a4 b (.inr (.inr hb))).2⟩
  · have:=hn b hb
    have:=a3.lv b hc;omega
  · exact(hD d hd).keeps KK (λb hb=>.inl (hX b hb).1) hz3 rfl (λ_ h=>h) (hD d hd).mem
  · exact(R.pd d hd).keeps KK (λb hb=>.inl (hX b hb).1) hz3 rfl (λ_ h=>h) (R.pd d hd).mem
end
section
variable{z z':Nat->Prop}{h h1 h':Heap}{e e':Env}{Q:AHp}{sb:Nat}{S:SS}{ps:List PD}{x:GF}{q:OSl}{l:List Ent}{y:Ent}{rest:List GF}
set_option maxRecDepth 20000 in
set_option maxHeartbeats 1000000 in
theorem gk16 (T:St z h e sb S ps)(hk:S.k<999)(it:ItP z h e S.k)(hs:S.nm.length<=20)(hz:S.size<=500)(hr':4*S.size+40<=e.room)(hN:e.N+2*lenP ps<=800000)(hf:∀d∈ps,d.fs.length<=1000000/\∀f∈d.fs,f.length<=1000000)
  (hQ:∀z' h' e' ps',Went z h e z' h' e'->St z' h' e' sb S.compact.2 ps'->e'.N<=e.N+2*lenP ps->Q (.int .i64 S.compact.1) h'):AC Tryz.prog 16 [.ptr (some ⟨sb,0⟩)] h Q:=ac16 (by
 obtain⟨E,R,gse,nme,few,rok⟩:=T
 obtain⟨rb,qp,Or,a1,a2,a3,a4,a5,a6,a7⟩:=R.at'
 have hpl:S.ps.length=ps.length:=by rw[R.pe,List.length_map]
 have hlies:=jX R.pe
 unfold SS.size at hz hr'
 have hsz:S.run.length+lenP ps<=500:=by omega
 unfold vc16
 refine gk68 R ⟨_,rfl,zB (λg=>by simp at g) (λ_=> ?_)⟩
 refine zQ ⟨_,zU a1 (k:=4) rfl,?_⟩
 rw[a2.hasL.len]
 refine zB (λg=> ?_) (λg=> ?_)
 ·replace g:=of_decide_eq_true g
  have hc:S.compact=(0,S):=by unfold SS.compact;rw[if_pos (by omega)]
  rw[hc] at hQ
  exact hQ z h e ps (.refl _ _ _) ⟨E,R,gse,nme,few,rok⟩ (by omega)
 replace g:=of_decide_eq_false g
 refine zQ ⟨_,zU a1 (k:=0) rfl,?_⟩
 refine gk76 E ⟨_,rfl,zB (λg=>by simp at g) (λ_=> ?_)⟩
 refine gk77 E R (by omega) hN (by omega) hf λq14 h13 P13 N13 E13 R13 H13 hN13 K13 l13 n13=>⟨_,_,rfl,zB (λg=>by simp at g) (λ_=> ?_)⟩
 have hsl:=zD a1
 have hp:=zS S.live
 have hll:=zF2 ps
 rw[<-zMJ R.pe] at hll
 have lok:∀u∈S.live,yH u=true:=λu hu=>by
  rw[zMJ R.pe] at hu
  obtain⟨d,hd,hu⟩:=List.mem_flatMap.1 hu
  exact(E.ok _ (R.pd d hd).mem).e u (List.mem_filter.1 hu).1
 have W13:Went z h e z h13 {e with P:=P13,N:=N13}:=⟨λb B hb hB=>K13 b B (λhc=>hb (.inr hc)) hB,l13,λ_ h=>h,λ_ h=>.inl h,⟨λ_=>Iff.rfl,rfl,rfl⟩,rfl⟩
 rw[H13.len,hp.length_eq]
 refine zB (λg2=> ?_) (λg2=> ?_)
 ·replace g2:=of_decide_eq_true g2
  have hne:S.live≠ []:=λhc=>by rw[hc] at g2;simp at g2
  have hc:S.compact=(0,{S with ps:=[S.next (yA S.live)],k:=S.k+1}):=by unfold SS.compact;rw[if_neg (by omega),if_neg hne]
  rw[hc] at hQ
  simp only at hQ
  refine gk73 E13 R13 H13 (λs hs' hc=>by have:=n13 s hs';omega) (λu hu=>lok u (hp.mem_iff.1 hu)) (yD _) (by rw[hp.length_eq];omega) (λhc=>hne (by rw[hc] at hp;exact hp.symm.eq_nil)) hk (it.use W13.K) (zJV (by omega) hs) (λu hu=> ?_) (by show e.gs.length<256;rw[gse,List.length_map];omega) (by show zOE e.gs+_+1<=e.room;rw[gse,zH7,hp.length_eq];omega) λb d h17 ow' E17 R17 D17 hdx hfs K17 l17 n17=>⟨_,_,_,_,_,_,rfl,zB (λg=>by simp at g) (λ_=> ?_)⟩
  ·have hu:u∈e.gs:=hu
   rw[gse] at hu
   obtain⟨d,hd,rfl⟩:=List.mem_map.1 hu
   obtain⟨j,hj,he⟩:=nme d hd
   intro hc
   have:=zJW (by omega) (by omega) (he.symm.trans hc)
   omega
  have W17:Went z h13 {e with P:=P13,N:=N13} (λb=>z b∨ow' b≠none) h17 {e with P:=P13,N:=N13,ow:=ow',gs:=e.gs++[⟨b,jR S.nm S.k,vV S.k,yA S.live⟩]}:=⟨λc B hc hB=>K17 c B (λhd=>hc (.inl (hd.elim And.left λhd=>by rw[hd];exact(a4 sb (.inl rfl)).1))) hB,l17,λb hb=>.inl hb,λb hb=>by
   rcases hb with hb|hb
   ·exact .inl hb
   ·exact(n17 b hb).imp (E.zo b) id,⟨λ_=>Iff.rfl,rfl,rfl⟩,rfl⟩
  obtain⟨rb1,qp1,Or1,b1,b2,b3,b4,b5,b6,b7⟩:=R17.at'
  unfold PNew
  have x1:Ext h17 (h17++[Blk.cells (yT.f d) true]):=.app _ _
  have Hn:AppJ yT (h17++[Blk.cells (yT.f d) true]) (some ⟨h17.length,0,1,1,0⟩) [d]:=.inr ⟨h17.length,1,0,[],rfl,.inl rfl,by simp[Enc.all],by simp,by simp⟩
  refine zQ ⟨qp1,zU (x1 _ _ b1) (k:=4) rfl,?_⟩
  refine zGW (S:={S with k:=S.k+1}) E17 R17 x1 b1 b2 b3 b4 b5 b6 b7 Hn (λc ⟨s,hs',hc⟩=>by cases hs';exact Nat.le_of_eq hc) (λd' hd'=>by rw[List.mem_singleton] at hd';rw[hd'];exact D17) λh29 E29 R29 W29 O29=> ?_
  refine zQH (news:=[d.x]) E29 R29 O29 (by show e.gs++[_]=_;rw[gse,<-hdx]) (λd' hd'=>by rw[List.mem_singleton] at hd';rw[hd'];exact List.mem_singleton.2 rfl) (by omega) ⟨rfl,trivial⟩ λz3 h3 e3 E3 R3 g3 W3 N3=> ?_
  have hpart: [d].map PD.part=[S.next (yA S.live)]:=by
   show [d.part]=_
   unfold PD.part SS.next
   rw[hdx,hfs]
  rw[hpart] at R3
  refine hQ z3 h3 e3 [d] (((W13.trans W17).trans W29).trans W3) ⟨E3,R3,g3,λd' hd'=> ?_,by simp,rok⟩ (by rw[N3];exact hN13)
  rw[List.mem_singleton] at hd'
  exact⟨S.k,Nat.lt_succ_self _,by rw[hd',hdx]⟩
 ·replace g2:=of_decide_eq_false g2
  have hne:S.live=[]:=List.eq_nil_of_length_eq_zero (by omega)
  have hc:S.compact=(0,{S with ps:=[]}):=by unfold SS.compact;rw[if_neg (by omega),if_pos hne]
  rw[hc] at hQ
  simp only at hQ
  obtain⟨rb1,qp1,Or1,b1,b2,b3,b4,b5,b6,b7⟩:=R13.at'
  refine zQ ⟨qp1,zU b1 (k:=4) rfl,?_⟩
  refine zGW (qn:=none) (psn:=[]) E13 R13 (.refl _) b1 b2 b3 b4 b5 b6 b7 (.inl ⟨rfl,rfl⟩) (λc ⟨s,hs',hc⟩=>by cases hs') (λd' hd'=>by cases hd') λh29 E29 R29 W29 O29=> ?_
  refine zQH (news:=[]) E29 R29 O29 (by show e.gs=_;rw[gse,List.append_nil]) (λd' hd'=>by cases hd') (by omega) trivial λz3 h3 e3 E3 R3 g3 W3 N3=> ?_
  exact hQ z3 h3 e3 [] ((W13.trans W29).trans W3) ⟨E3,R3,g3,(λd' hd'=>by cases hd'),by simp,rok⟩ (by rw[N3];exact hN13))
end
section
variable{z z':Nat->Prop}{h h1 h':Heap}{e e':Env}{Q:AHp}{sb:Nat}{S:SS}{ps:List PD}{x:GF}{q:OSl}{l:List Ent}{y:Ent}{rest:List GF}{qs:List (OSl)}{f:List Mom}{d:PD}
theorem gk81 (H:HasL slE h q qs)(hl:qs.length<=1000000)(hQ:∀q' h',New slE h h' q' qs->Q (.sl q') h'):AC Tryz.prog 81 [.sl q] h Q:=ac81 (by
 unfold vc81 PNew
 refine zB (λg=> ?_) (λg=> ?_)
 ·cases q with
  |none=>
   have:qs=[]:=H
   subst this
   exact hQ none h New.none
  |some s=>simp at g
 ·exact zIX (E:=slE) H (by omega) hQ)
theorem gk82 (H:HasL mmE h q f)(hl:f.length<=1000000)(hQ:∀q' h',New mmE h h' q' f->Q (.sl q') h'):AC Tryz.prog 82 [.sl q] h Q:=ac82 (by
 unfold vc82 PNew
 refine zB (λg=> ?_) (λg=> ?_)
 ·cases q with
  |none=>
   have:f=[]:=H
   subst this
   exact hQ none h New.none
  |some s=>simp at g
 ·exact zIX (E:=mmE) H (by omega) hQ)
theorem gk83 (D:PdR z h e d)(hQ:Q (.int .i64 (d.x.l.length:Nat)) h):AC Tryz.prog 83 [.ptr (some ⟨d.sp,0⟩)] h Q:=ac83 (by
 unfold vc83
 exact zB (λg=>by simp at g) (λ_=>⟨_,zAH D.seg.at' (k:=3) rfl,hQ⟩))
structure SBk(z:Nat->Prop)(h:Heap)(e:Env)(sb:Nat)(S:SS)(rb:Nat)(qp:OSl)(Or:Nat->Prop)(ps:List PD):Prop where
 a1:h[sb]?=some (.cells [.ptr (some ⟨e.dp,0⟩),.ptr (some ⟨e.p,0⟩),.str S.nm,.ptr (some ⟨rb,0⟩),.sl qp,.int .i64 (S.k:Nat)] true)
 a2:AppJ yT h qp ps
 a3:RunR h rb S.lim S.run Or
 a4:∀b,b=sb∨inq qp b∨Or b->z b/\e.ow b=none
 a5:¬inq qp sb
 a6:¬Or sb
 a7:∀b,inq qp b->¬Or b
theorem SBk.keeps {rb:Nat}{qp:OSl}{Or Y:Nat->Prop}(B:SBk z h e sb S rb qp Or ps)(K:zI Y h h')(hl:h.length<=h'.length)(hY:∀b,b=sb∨inq qp b∨Or b->¬Y b)(h1:∀b,z b->z' b)(e1:e'.dp=e.dp)(e2:e'.p=e.p)(e5:∀b,e'.ow b≠none->e.ow b≠none∨h.length<=b):SBk z' h' e' sb S rb qp Or ps:=by
 obtain⟨a1,a2,a3,a4,a5,a6,a7⟩:=B
 have lv:∀b,b=sb∨inq qp b∨Or b->b<h.length:=λb hb=>by
  rcases hb with rfl|⟨s,hs,rfl⟩|hb
  ·exact zD a1
  ·exact a2.live s hs
  ·exact a3.lv b hb
 refine⟨by rw[e1,e2];exact K _ _ (hY _ (.inl rfl)) a1,a2.keeps K (λs hs=>hY _ (.inr (.inl ⟨s,hs,rfl⟩))),a3.keeps K (λb hb=>hY _ (.inr (.inr hb))) hl (λ_ h=>h) (λb hb=>Nat.lt_of_lt_of_le (a3.lv b hb) hl),λb hb=>⟨h1 b (a4 b hb).1,?_⟩,a5,a6,a7⟩
 cases ho:e'.ow b with
 |none=>rfl
 |some r=>
  rcases e5 b (by rw[ho];simp) with h2|h2
  ·exact absurd (a4 b hb).2 h2
  ·have:=lv b hb;omega
theorem zN5 {qn:OSl}{psn:List PD}{rb:Nat}{qp:OSl}{Or:Nat->Prop}(E:EV z h e)(B:SBk z h e sb S rb qp Or ps)
  (An:AppJ yT h qn psn)(hn:∀b,inq qn b->z b/\e.ow b=none/\b≠sb/\¬Or b)(hD:∀d∈psn,PdR z h e d)
  {K:Heap->Prop}(hK:∀h',EV z h' e->StR z h' e sb {S with ps:=psn.map PD.part} psn->Went z h e z h' e->K h'):
  vPtr (some (⟨sb,0⟩:PA)) λp=>zL h ⟨p.b,p.o+4⟩ [.sl qn] K:=by
 obtain⟨a1,a2,a3,a4,a5,a6,a7⟩:=B
 have hlt:=zD a1
 refine yP (o:=4) a1 (by simp) ?_
 have c3:(h.set sb (.cells (splice [.ptr (some ⟨e.dp,0⟩),.ptr (some ⟨e.p,0⟩),.str S.nm,.ptr (some ⟨rb,0⟩),.sl qp,.int .i64 (S.k:Nat)] 4 [.sl qn]) true))[sb]?=some (.cells [.ptr (some ⟨e.dp,0⟩),.ptr (some ⟨e.p,0⟩),.str S.nm,.ptr (some ⟨rb,0⟩),.sl qn,.int .i64 (S.k:Nat)] true):=by rw[List.getElem?_set_self hlt];rfl
 have K3:zI (λb=>b=sb) h (h.set sb (.cells (splice [.ptr (some ⟨e.dp,0⟩),.ptr (some ⟨e.p,0⟩),.str S.nm,.ptr (some ⟨rb,0⟩),.sl qp,.int .i64 (S.k:Nat)] 4 [.sl qn]) true)):=zO rfl
 have l3:(h.set sb (.cells (splice [.ptr (some ⟨e.dp,0⟩),.ptr (some ⟨e.p,0⟩),.str S.nm,.ptr (some ⟨rb,0⟩),.sl qp,.int .i64 (S.k:Nat)] 4 [.sl qn]) true)).length=h.length:=by simp
 generalize h.set sb (.cells (splice [.ptr (some ⟨e.dp,0⟩),.ptr (some ⟨e.p,0⟩),.str S.nm,.ptr (some ⟨rb,0⟩),.sl qp,.int .i64 (S.k:Nat)] 4 [.sl qn]) true)=h3 at*
 have hX:∀b,b=sb->z b/\e.ow b=none:=λb hb=>a4 b (.inl hb)
 refine hK h3 (E.other K3 hX (by omega)) ⟨rfl,⟨rb,qn,Or,c3,An.keeps K3 (λs hs hc=>(hn _ ⟨s,hs,rfl⟩).2.2.1 hc),a3.keeps K3 (λb hb hc=>a6 (hc▸hb)) (by omega) (λ_ h=>h) (λb hb=>by have:=a3.lv b hb;omega),λb hb=> ?_,λhc=>(hn _ hc).2.2.1 rfl,a6,λb hb=>(hn b hb).2.2.2⟩,λd hd=>(hD d hd).keeps K3 (λb hb=>.inl (hX b hb).1) (λ_ h=>.inl h) rfl (λ_ h=>h) (hD d hd).mem⟩ ⟨λb B hb hB=>K3 b B (λhc=>hb (.inl (hX b hc).1)) hB,by omega,λb hb=>hb,λ_ h=>.inl h,⟨λ_=>Iff.rfl,rfl,rfl⟩,rfl⟩
 rcases hb with hb|hb|hb
 ·exact a4 b (.inl hb)
 ·exact⟨(hn b hb).1,(hn b hb).2.1⟩
 ·exact a4 b (.inr (.inr hb))
end
def covd(f:List Mom)(d:PD):Bool:=covB f (jS d.x.l)
def zKF(f:List Mom)(ps:List PD):Nat:=((ps.filter λd=> !covd f d).map λd=>d.x.l.length).sum
theorem zHA (f:List Mom)(ps:List PD)(d:PD):zKF f (ps++[d])=zKF f ps+if covd f d then 0 else d.x.l.length:=by
 unfold zKF
 rw[List.filter_append,List.map_append,List.sum_append]
 congr 1
 by_cases h:covd f d=true
 ·rw[if_pos h,List.filter_cons_of_neg (by simp[h])];rfl
 ·rw[if_neg h,List.filter_cons_of_pos (by simpa using h)];simp
theorem zNJ (f:List Mom):∀ps:List PD,zKF f ps<=lenP ps
 | []=>Nat.le_refl _
 |d::ps=>by
  have:=zNJ f ps
  unfold zKF lenP at this ⊢
  rw[List.map_cons,List.sum_cons]
  by_cases h:covd f d=true
  ·rw[List.filter_cons_of_neg (by simp[h])];omega
  ·rw[List.filter_cons_of_pos (by simpa using h),List.map_cons,List.sum_cons];omega
section
variable{z z':Nat->Prop}{h h1 h':Heap}{e e':Env}{Q:AHp}{sb:Nat}{S:SS}{ps:List PD}{x:GF}{q:OSl}{l:List Ent}{y:Ent}{rest:List GF}{f:List Mom}
theorem zOS {d:PD}{q14 q30 q33 q36 q40:OSl}{qs:List (OSl)}{h18 h26 h29 h32 h35 h37 h39 h41:Heap}(E:EV z h18 e)(D:PdR z h18 e d)(Hq:HasL slE h18 d.fq qs)(hql:qs.length=d.fs.length)(hq:∀(i:Nat) (s:OSl) (f:List Mom),qs[i]?=some s->d.fs[i]?=some f->HasL mmE h18 s f)(n2:∀s∈qs,∀t,s=some t->¬(EZ z e t.b∨e.pb t.b))
  (n14:∀b,inq q14 b->z b)(x26:Ext h18 h26)(N29:New slE h26 h29 q30 qs)(N32:New mmE h29 h32 q33 f)(x35:Ext h32 h35)(A37:Apd slE h37 q36 (qs++[q33]))(K37:zI (inq q30) h35 h37)(l37:h35.length<=h37.length)(b37:∀s',q36=some s'->h35.length<=s'.b∨∃s,q30=some s/\s.b=s'.b)(x39:Ext h37 h39)(K41:zI (inq q14) h39 h41)(l41:h39.length<=h41.length)(b40:∀s',q40=some s'->h39.length<=s'.b∨∃s,q14=some s/\s.b=s'.b):
  zI (inq q14) h18 h41/\InMM (λb=>EZ (λb=>z b∨inq q40 b) e b∨e.pb b) h41 q36 (d.fs++[f]):=by
 have l26:=x26.len
 have l29:=N29.1.len
 have l32:=N32.1.len
 have l35:=x35.len
 have l39:=x39.len
 have lv30:=HasL.live N29.hasL
 have lv33:=HasL.live N32.hasL
 have lv36:=HasL.live A37.hasL
 have zl:=E.zl
 have pl:∀b,e.pb b->b<h18.length:=λb hb=>E.cp.pool_lt hb
 have n30:∀b,inq q30 b->h26.length<=b:=λb ⟨s,hs,hb⟩=>by have:=N29.2.2 s hs;omega
 have K26:zI (inq q30) h18 h37:=λb B hb hB=>K37 b B hb (x35 _ _ (N32.1 _ _ (N29.1 _ _ (x26 _ _ hB))))
 have KK:zI (inq q14) h18 h41:=λb B hb hB=>by
  have hbl:=zD hB
  exact K41 b B hb (x39 _ _ (K26 b B (λhc=>by have:=n30 b hc;omega) hB))
 have q36r:∀s,q36=some s->h26.length<=s.b/\s.b<h37.length:=λs hs=>⟨by
  rcases b37 s hs with h5|⟨s2,h5,h7⟩
  ·omega
  ·have:=N29.2.2 s2 h5;omega,lv36 s hs⟩
 have q33r:∀s,q33=some s->h29.length<=s.b/\s.b<h32.length:=λs hs=>⟨N32.2.2 s hs,lv33 s hs⟩
 have new:∀b,h26.length<=b->b<h39.length->¬(EZ (λb=>z b∨inq q40 b) e b∨e.pb b):=λb h1 h2 hc=>by
  rcases hc with((hc|⟨s,hs,rfl⟩)|hc)|hc
  ·have:=zl b hc;omega
  ·rcases b40 s hs with h5|⟨s2,h5,h7⟩
   ·omega
   ·have:=zl _ (n14 _ ⟨s2,h5,rfl⟩);omega
  ·have:=(E.fz b hc).2.2;omega
  ·have:=pl b hc;omega
 have n14r:∀b,inq q14 b->b<h18.length:=λb hb=>zl b (n14 b hb)
 refine⟨KK,qs++[q33],?_,by simp[hql],λi s g hs hg=> ?_,λt ht=> ?_,λs hs t ht=> ?_⟩
 ·exact K41.hasL (λs hs hc=>by have:=n14r _ hc;have:=(q36r s hs).1;omega) (A37.hasL.mono x39)
 ·rw[List.getElem?_append] at hs hg
  rw[hql] at hs
  split at hs
  ·rename_i hi
   rw[if_pos hi] at hg
   exact KK.hasL (λt ht hc=>n2 s (List.mem_of_getElem? hs) t ht (.inl (.inl (n14 _ hc)))) (hq i s g hs hg)
  ·rename_i hi
   rw[if_neg hi] at hg
   have hs:=List.mem_singleton.1 (List.mem_of_getElem? hs)
   have hg:=List.mem_singleton.1 (List.mem_of_getElem? hg)
   subst hs
   subst hg
   refine K41.hasL (λt ht hc=>by have:=n14r _ hc;have:=(q33r t ht).1;omega) ((K37.hasL (λt ht ⟨s,hs,hc⟩=> ?_) (N32.hasL.mono x35)).mono x39)
   have:=lv30 s hs
   have:=(q33r t ht).1
   omega
 ·exact new _ (q36r t ht).1 (by have:=(q36r t ht).2;omega)
 ·rcases List.mem_append.1 hs with hs|hs
  ·obtain⟨i,hi⟩:=List.getElem?_of_mem hs
   have hif:i<d.fs.length:=by rw[<-hql];exact(List.getElem?_eq_some_iff.1 hi).1
   have lv:=HasL.live (hq i s _ hi (List.getElem?_eq_getElem hif)) t ht
   intro hc
   rcases hc with((hc|⟨s1,hs1,hb⟩)|hc)|hc
   ·exact n2 s hs t ht (.inl (.inl hc))
   ·rcases b40 s1 hs1 with h5|⟨s2,h5,h7⟩
    ·omega
    ·exact n2 s hs t ht (.inl (.inl (n14 _ ⟨s2,h5,by rw[h7,hb]⟩)))
   ·exact n2 s hs t ht (.inl (.inr hc))
   ·exact n2 s hs t ht (.inr hc)
  ·rw[List.mem_singleton] at hs
   subst hs
   exact new _ (by have:=(q33r t ht).1;omega) (by have:=(q33r t ht).2;omega)
end
section
variable{z z':Nat->Prop}{h h1 h':Heap}{e e':Env}{Q:AHp}{sb:Nat}{S:SS}{ps:List PD}{x:GF}{q q2:OSl}{l:List Ent}{y:Ent}{rest:List GF}{f:List Mom}
def addF(f:List Mom)(p:Part):Part:={p with fs:=p.fs++[f]}
def zCD(S:SS)(f:List Mom)(ps:List PD):Int:=(S.run.length:Int) - ((S.run.filter λe=>covB f (momE e)).length:Nat)+(zKF f ps:Nat)
set_option maxRecDepth 20000 in
set_option maxHeartbeats 2000000 in
theorem gk17 (T:St z h e sb S ps)(hz:S.size<=500)(Hf:HasL mmE h q2 f)(hfl:f.length<=1000000)(nf:∀s,q2=some s->¬z s.b/\¬e.pb s.b)(hff:∀d∈ps,d.fs.length<=900000)
  (hQ:∀z' h' e' ps',Went z h e z' h' e'->St z' h' e' sb (S.keep f) ps'->e'.N=e.N->Q (.tup [.int .i64 (zCD S f ps),.int .i64 0]) h'):AC Tryz.prog 17 [.ptr (some ⟨sb,0⟩),.sl q2] h Q:=ac17 (by
 obtain⟨E,R,gse,nme,few,rok⟩:=T
 obtain⟨rb0,qp0,Or0,c1,c2,c3,c4,c5,c6,c7⟩:=R.at'
 have hsz:S.run.length+lenP ps<=500:=by
  have:=jX R.pe
  unfold SS.size at hz;omega
 unfold vc17
 refine gk68 R ⟨_,rfl,zB (λg=>by simp at g) (λ_=> ?_)⟩
 refine zQ ⟨_,zU c1 (k:=3) rfl,?_⟩
 refine gk79 c3 Hf hfl (λs hs hc=>(nf s hs).1 (c4 _ (.inr (.inr hc))).1) λh9 R9 O9=>⟨_,rfl,?_⟩
 obtain⟨E9,S9,W9⟩:=StR.run E R c1 c2 c3 c4 c5 c6 c7 R9 O9
 generalize hz9:(λb=>z b∨Or0 b)=z9 at*
 have hfr:(S.run.filter λe=>covB f (momE e)).length<=S.run.length:=List.length_filter_le _ _
 obtain⟨rb,qp,Or,a1,a2,a3,a4,a5,a6,a7⟩:=S9.at'
 have B9:SBk z9 h9 e sb {S with run:=S.run.filter λe=>covB f (momE e)} rb qp Or ps:=⟨a1,a2,a3,a4,a5,a6,a7⟩
 have Hf9:HasL mmE h9 q2 f:=W9.K.hasL (λs hs hc=>hc.elim (nf s hs).1 (nf s hs).2) Hf
 have nf9:∀s,q2=some s->¬(z9 s.b∨e.pb s.b):=λs hs hc=>by
  rcases hc with hc|hc
  ·rcases W9.zn _ hc with h5|h5
   ·exact(nf s hs).1 h5
   ·have:=HasL.live Hf s hs;omega
  ·exact(nf s hs).2 hc
 refine zQ ⟨qp,zU a1 (k:=4) rfl,?_⟩
 refine⟨λxs h1=>∃(q14:OSl) (i:Nat) (z1:Nat->Prop) (e1:Env) (done:List PD),xs=[.int .i64 (zCD S f (ps.take i)),.sl q14,.int .i64 (i:Nat)]/\i<=ps.length/\EV z1 h1 e1/\SBk z1 h1 e1 sb {S with run:=S.run.filter λe=>covB f (momE e)} rb qp Or ps/\done.map PD.part=(((ps.take i).filter (covd f)).map PD.part).map (addF f)/\done.map (·.x)=((ps.take i).filter (covd f)).map (·.x)/\e1.gs=done.map (·.x)++(ps.drop i).map (·.x)/\AppJ yT h1 q14 done/\(∀b,inq q14 b->z1 b/\e1.ow b=none/\h9.length<=b)/\(∀d∈done,PdR z1 h1 e1 d)/\(∀d∈ps.drop i,PdR z1 h1 e1 d)/\Went z9 h9 e z1 h1 e1/\e1.N=e.N,
  λxs _=>match xs with | [_,_,.int _ i]=>(ps.length-i).toNat|_=>0,⟨none,0,z9,e,[],by simp[zCD,zKF],by omega,E9,B9,rfl,rfl,gse,.inl ⟨rfl,rfl⟩,(λb ⟨s,hs,_⟩=>by cases hs),(λd hd=>by cases hd),S9.pd,.refl _ _ _,rfl⟩,?_⟩
 rintro n13 q14 n15 h18 ⟨_,i,z1,e1,done,hx,hi,E1,B1,hdp,hdx,hgs,A1,n14,D1,L1,W1,N1⟩
 simp only[List.cons.injEq,AV.sl.injEq,AV.int.injEq,true_and,and_true] at hx
 obtain⟨rfl,rfl,rfl⟩:=hx
 rw[B9.a2.hasL.len]
 have hdl:done.length<=ps.length:=by
  have:=congrArg List.length hdx
  rw[List.length_map,List.length_map] at this
  have h2:=List.length_filter_le (covd f) (ps.take i)
  have h3:=List.length_take_le i ps
  have h4:(ps.take i).length<=ps.length:=by rw[List.length_take];omega
  omega
 have hgn:=zNJ f (ps.take i)
 have hgt:=zDP ps i
 refine zB (λg=> ?_) (λg=> ?_)
 ·replace g:=of_decide_eq_true g
  refine HasL.idx (E:=yT) B1.a2.hasL (by omega) (by omega) λpp' d hd hc=>⟨_,_,_,_,_,hc,?_⟩
  rw[Int.toNat_natCast] at hd
  have ht:ps.take (i+1)=ps.take i++[d]:=by rw[List.take_add_one,hd];rfl
  have hdr:ps.drop i=d::ps.drop (i+1):=by
   obtain⟨h1,h2⟩:=List.getElem?_eq_some_iff.1 hd
   rw[List.drop_eq_getElem_cons h1,h2]
  have D:PdR z1 h18 e1 d:=L1 d (by rw[hdr];exact List.mem_cons_self)
  have hdm:=List.mem_of_getElem? hd
  have few1:=(E1.ok _ D.mem).few
  rw[hdr,List.map_cons] at hgs
  have nexti:zC .i64 ((i:Int)+1)=((i+1:Nat):Int):=by rw[zF ⟨by omega,by omega⟩];omega
  have Hf18:HasL mmE h18 q2 f:=W1.K.hasL (λs hs=>nf9 s hs) Hf9
  have own9:∀b,h18.length<=b->e1.ow b=none:=λb hb=>E1.nobody hb
  have lvB:∀b,b=sb∨inq qp b∨Or b->b<h9.length:=λb hb=>by
   rcases hb with rfl|⟨s,hs,rfl⟩|hb
   ·exact zD a1
   ·exact a2.live s hs
   ·exact a3.lv b hb
  refine gk80 (m:=jS d.x.l) Hf18 hfl λh26 x26=>⟨_,rfl,zB (λgc=> ?_) (λgc=> ?_)⟩
  ·have gc:covd f d=true:=gc
   obtain⟨qs,Hq,hql,hq,m1,m2⟩:=D.fr
   have hdf:=hff d hdm
   refine gk81 (Hq.mono x26) (by omega) λq30 h29 N29=>⟨_,rfl,?_⟩
   refine gk82 ((Hf18.mono x26).mono N29.1) hfl λq33 h32 N32=>⟨_,rfl,?_⟩
   unfold PNew
   have x35:Ext h32 (h32++[Blk.cells [.sl q33] true]):=.app _ _
   have H35:HasL slE (h32++[Blk.cells [.sl q33] true]) (some ⟨h32.length,0,1,1,0⟩) [q33]:=HasL.new (n:=1) rfl rfl
   have A35:=(N29.2.1.ext N32.1).ext x35
   generalize h32++[Blk.cells [.sl q33] true]=h35 at*
   refine Apd.append (E:=slE) A35 H35 (by simp only[List.length_cons,List.length_nil];omega) λq36 h37 A37 K37 l37 b37=> ?_
   have x39:Ext h37 (h37++[Blk.cells (yT.f {d with fq:=q36,fs:=d.fs++[f]}) true]):=.app _ _
   have H39:HasL yT (h37++[Blk.cells (yT.f {d with fq:=q36,fs:=d.fs++[f]}) true]) (some ⟨h37.length,0,1,1,0⟩) [{d with fq:=q36,fs:=d.fs++[f]}]:=HasL.new (E:=yT) (l:=[{d with fq:=q36,fs:=d.fs++[f]}]) (n:=1) rfl (by simp[Enc.all])
   change zM 5 56 q14 (some ⟨h37.length,0,1,1,0⟩) (h37++[Blk.cells (yT.f {d with fq:=q36,fs:=d.fs++[f]}) true]) _
   have l26:=x26.len
   have l29:=N29.1.len
   have l32:=N32.1.len
   have l35:=x35.len
   have l39:=x39.len
   generalize h37++[Blk.cells (yT.f {d with fq:=q36,fs:=d.fs++[f]}) true]=h39 at*
   have n30:∀b,inq q30 b->h26.length<=b:=λb ⟨s,hs,hb⟩=>by have:=N29.2.2 s hs;omega
   have A39:AppJ yT h39 q14 done:=(((((A1.ext x26).ext N29.1).ext N32.1).ext x35).keeps K37 λs hs hc=>by
    have:=n30 _ hc
    have:=A1.live s hs
    omega).ext x39
   refine AppJ.append (E:=yT) A39 H39 (by simp only[List.length_cons,List.length_nil];omega) λq40 h41 A41 K41 l41 b40=> ?_
   obtain⟨KK,I41⟩:=zOS E1 D Hq hql hq m2 (λb hb=>(n14 b hb).1) x26 N29 N32 x35 A37 K37 l37 b37 x39 K41 l41 b40
   have qc:∀b,inq q40 b->inq q14 b∨(h39.length<=b/\b<h41.length):=λb ⟨s,hs,hb⟩=>by
    rcases b40 s hs with h5|⟨s2,h5,h7⟩
    ·have:=A41.live s hs
     exact .inr ⟨by omega,by omega⟩
    ·exact .inl ⟨s2,h5,by rw[h7,hb]⟩
   have hz2:∀b,z1 b∨inq q40 b->z1 b∨(h18.length<=b/\b<h41.length):=λb hb=>by
    rcases hb with hb|hb
    ·exact .inl hb
    ·rcases qc b hb with h5|h5
     ·exact .inl (n14 b h5).1
     ·exact .inr ⟨by omega,h5.2⟩
   have hz3:∀b,z1 b∨inq q40 b->z1 b∨h18.length<=b:=λb hb=>(hz2 b hb).imp id And.left
   have hX:∀b,inq q14 b->z1 b/\e1.ow b=none:=λb hb=>⟨(n14 b hb).1,(n14 b hb).2.1⟩
   have l18:h18.length<=h41.length:=by omega
   have pk:∀{d'},PdR z1 h18 e1 d'->PdR (λb=>z1 b∨inq q40 b) h41 e1 d':=λD'=>D'.keeps KK (λb hb=>.inl (hX b hb).1) hz3 rfl (λ_ h=>h) D'.mem
   have D41:=pk D
   rw[nexti]
   have hkn:zCD S f (ps.take (i+1))=zCD S f (ps.take i):=by
    unfold zCD
    rw[ht,zHA,if_pos gc,Nat.add_zero]
   refine⟨trivial,⟨q40,i+1,λb=>z1 b∨inq q40 b,e1,done++[{d with fq:=q36,fs:=d.fs++[f]}],by rw[hkn],by omega,E1.other2 KK hX l18 (λb hb=>.inl hb) hz2,B1.keeps KK l18 (λb hb hc=> ?_) (λb hb=>.inl hb) rfl rfl (λb hb=>.inl hb),?_,?_,?_,A41,λb hb=> ?_,λd' hd'=> ?_,λd' hd'=>pk (L1 d' (by rw[hdr];exact List.mem_cons_of_mem _ hd')),W1.trans ⟨λb B hb hB=>KK b B (λhc=>hb (.inl (hX b hc).1)) hB,l18,λb hb=>.inl hb,hz3,⟨λ_=>Iff.rfl,rfl,rfl⟩,rfl⟩,N1⟩,by simp only;omega⟩
   ·have:=lvB b hb
    have:=(n14 b hc).2.2;omega
   ·rw[ht,List.filter_append,List.filter_cons_of_pos gc,List.map_append,List.map_append,List.map_append,hdp];rfl
   ·rw[ht,List.filter_append,List.filter_cons_of_pos gc,List.map_append,List.map_append,hdx];rfl
   ·rw[hgs,List.map_append,List.append_assoc];rfl
   ·have l9:=W1.l
    rcases qc b hb with h5|h5
    ·exact⟨.inr hb,(n14 b h5).2.1,(n14 b h5).2.2⟩
    ·exact⟨.inr hb,own9 b (by omega),by omega⟩
   ·rcases List.mem_append.1 hd' with hd'|hd'
    ·exact pk (D1 d' hd')
    ·rw[List.mem_singleton] at hd'
     subst hd'
     exact⟨D.mem,D41.seg,I41⟩
  ·have gc:covd f d=false:=gc
   have E26:=E1.grow x26
   have D26:PdR z1 h26 e1 d:=D.keeps (Y:=λ_=>False) (zH x26) (λ_ h=>h.elim) (λ_ h=>.inl h) rfl (λ_ h=>h) D.mem
   have b26:=x26 _ _ B1.a1
   have l26:=x26.len
   refine gk83 D26 ⟨_,rfl,?_⟩
   refine gk78 (d:=d) (pre:=done.map (·.x)) (rest:=(ps.drop (i+1)).map (·.x)) E26 D26 hgs (zU b26 (k:=1) rfl) (zU b26 (k:=0) rfl) (λhc=>E1.zp _ (B1.a4 _ (.inl rfl)).1 hc) λh2 ow2 P2 E2 K2 l2 n2=>⟨_,rfl,zB (λg=>by simp at g) (λ_=> ?_)⟩
   have KK:zI (λb=>(z1 b/\e1.ow b≠none)∨e1.pb b) h18 h2:=λb B hb hB=>K2 b B hb (x26 _ _ hB)
   have l18:h18.length<=h2.length:=by omega
   have n2':∀b,ow2 b≠none->e1.ow b≠none∨h18.length<=b:=λb hb=>(n2 b hb).imp id (λh=>by omega)
   have hz3:∀b,z1 b∨ow2 b≠none->z1 b∨h18.length<=b:=λb hb=>by
    rcases hb with hb|hb
    ·exact .inl hb
    ·exact(n2' b hb).imp (E1.zo b) id
   have pk:∀{d'},PdR z1 h18 e1 d'->d'.x∈done.map (·.x)++(ps.drop (i+1)).map (·.x)->PdR (λb=>z1 b∨ow2 b≠none) h2 {e1 with ow:=ow2,gs:=done.map (·.x)++(ps.drop (i+1)).map (·.x),P:=P2} d':=λD' hm=>D'.keeps KK (λb hb=>hb.imp And.left id) hz3 rfl (λ_ h=>h) hm
   have hkn:zCD S f (ps.take (i+1))=zCD S f (ps.take i)+(d.x.l.length:Nat):=by
    unfold zCD
    rw[ht,zHA,if_neg (by simp[gc])]
    omega
   have hbd: -1000<=zCD S f (ps.take i)/\zCD S f (ps.take i)<=1000:=by unfold zCD;omega
   rw[nexti,zF (n:=zCD S f (ps.take i)+(d.x.l.length:Nat)) ⟨by omega,by omega⟩,<-hkn]
   refine⟨trivial,⟨q14,i+1,_,_,done,rfl,by omega,E2,B1.keeps KK l18 (λb hb hc=> ?_) (λb hb=>.inl hb) rfl rfl n2',?_,?_,rfl,A1.keeps KK (λs hs hc=> ?_),λb hb=>⟨.inl (n14 b hb).1,?_,(n14 b hb).2.2⟩,λd' hd'=>pk (D1 d' hd') (List.mem_append_left _ (List.mem_map_of_mem hd')),λd' hd'=>pk (L1 d' (by rw[hdr];exact List.mem_cons_of_mem _ hd')) (List.mem_append_right _ (List.mem_map_of_mem hd')),W1.trans ⟨λb B hb hB=>KK b B (λhc=>hb (hc.imp And.left id)) hB,l18,λb hb=>.inl hb,hz3,⟨λ_=>Iff.rfl,rfl,rfl⟩,rfl⟩,N1⟩,by simp only;omega⟩
   ·rcases hc with hc|hc
    ·exact hc.2 (B1.a4 b hb).2
    ·exact E1.zp b (B1.a4 b hb).1 hc
   ·rw[ht,List.filter_append,List.filter_cons_of_neg (by simp[gc]),hdp];simp
   ·rw[ht,List.filter_append,List.filter_cons_of_neg (by simp[gc]),hdx];simp
   ·have:=n14 _ ⟨s,hs,rfl⟩
    rcases hc with hc|hc
    ·exact hc.2 this.2.1
    ·exact E1.zp _ this.1 hc
   ·show ow2 b=none
    cases ho:ow2 b with
    |none=>rfl
    |some r=>
     rcases n2' b (by rw[ho];simp) with h5|h5
     ·exact absurd (n14 b hb).2.1 h5
     ·obtain⟨s,hs,rfl⟩:=hb
      have:=A1.live s hs;omega
 ·replace g:=of_decide_eq_false g
  have:i=ps.length:=by omega
  subst this
  rw[List.take_length] at hdp hdx
  rw[List.drop_length,List.map_nil,List.append_nil] at hgs
  rw[List.take_length]
  have lvB:∀b,b=sb∨Or b->b<h9.length:=λb hb=>by
   rcases hb with rfl|hb
   ·exact zD a1
   ·exact a3.lv b hb
  refine zN5 E1 B1 A1 (λb hb=>⟨(n14 b hb).1,(n14 b hb).2.1,λhc=> ?_,λhc=> ?_⟩) D1 λh56 E56 R56 W56=> ?_
  ·have:=(n14 b hb).2.2
   have:=lvB b (.inl hc);omega
  ·have:=(n14 b hb).2.2
   have:=lvB b (.inr hc);omega
  have hkeep:({S with run:=S.run.filter λe=>covB f (momE e),ps:=done.map PD.part}:SS)=S.keep f:=by
   unfold SS.keep
   rw[hdp,R.pe,List.filter_map]
   rfl
  have R56':StR z1 h56 e1 sb (S.keep f) done:=hkeep▸R56
  refine hQ z1 h56 e1 done ((W9.trans W1).trans W56) ⟨E56,R56',hgs,λd hd=> ?_,by omega,λu hu=>rok u (List.mem_filter.1 hu).1⟩ N1
  have hm:d.x∈done.map (·.x):=List.mem_map_of_mem hd
  rw[hdx] at hm
  obtain⟨d0,h0,he⟩:=List.mem_map.1 hm
  obtain⟨j,hj,hn⟩:=nme d0 (List.mem_filter.1 h0).1
  exact⟨j,hj,by rw[<-he];exact hn⟩)
end
section
variable{z z':Nat->Prop}{h h1 h':Heap}{e e':Env}{Q:AHp}{s:List UInt8}
theorem gk126 {n:Int}(h0:(n<1∨n>4096)->Q (.ptr none) h)(h1:1<=n->n<=4096->∀b h',Ext h h'->Q (.ptr (some ⟨b,0⟩)) h'):AC Tryz.prog 126 [.int .i64 n] h Q:=ac126 (by
 unfold vc126 PNew
 refine zB (λg=>h0 (.inl (of_decide_eq_true g))) (λg=>zB (λg2=>h0 (.inr (of_decide_eq_true g2))) (λg2=> ?_))
 replace g:=of_decide_eq_false g
 replace g2:=of_decide_eq_false g2
 exact h1 (by omega) (by omega) _ _ (.app _ _))
theorem gk66 {n k:Int}{p:PA}(hs:1<=s.length/\s.length<=12)(hk:0<=k/\k<=1073741824)(h0:(n<1∨n>4096)->Q (.ptr none) h)(h1:1<=n->n<=4096->∀b h',Ext h h'->Q (.ptr (some ⟨b,0⟩)) h'):AC Tryz.prog 66 [.ptr (some p),.str s,.int .i64 n,.int .i64 k] h Q:=ac66 (by
 unfold vc66 PNew
 refine gk126 (λhc=>⟨_,rfl,zB (λ_=>h0 hc) (λg=>by simp at g)⟩) λa b c h6 x6=>⟨_,rfl,zB (λg=>by simp at g) (λ_=> ?_)⟩
 refine zB (λg=>by have:=of_decide_eq_true g;omega) (λ_=>zB (λg=>by have:=of_decide_eq_true g;omega) (λ_=> ?_))
 refine zB (λg=>by have:=of_decide_eq_true g;omega) (λ_=>zB (λg=>by have:=of_decide_eq_true g;omega) (λ_=> ?_))
 exact h1 a b _ _ (x6.trans (.app _ _)))
theorem gk33 {n:Int}{k:Nat}(E:EV z h e)(hg:e.gs=[])(hs:1<=s.length/\s.length<=12)(hk:k<=1073741824)(h0:(n<1∨n>4096)->∀h',Ext h h'->Q (.tup [.ptr none,.int .i64 1]) h')
  (h1:∀lim:Nat,n=lim->1<=lim->lim<=4096->∀z' sb h',Ext h h'->St z' h' e sb ⟨s,lim,k,[],[]⟩ []->(∀b,z b->z' b)->(∀b,z' b->z b∨h.length<=b)->Q (.tup [.ptr (some ⟨sb,0⟩),.int .i64 0]) h'):AC Tryz.prog 33 [.ptr (some ⟨e.dp,0⟩),.ptr (some ⟨e.p,0⟩),.str s,.int .i64 n,.int .i64 (k:Nat)] h Q:=ac33 (by
 unfold vc33 PNew
 refine zB (λg=>by simp at g) (λ_=>zB (λg=>by simp at g) (λ_=> ?_))
 refine gk101 (λhc=>⟨_,_,rfl,zB (λ_=>h0 hc h (.refl _)) (λg=>by simp at g)⟩) λlim hn l1 l2 h7 x7 R7=>⟨_,_,rfl,zB (λg=>by simp at g) (λ_=> ?_)⟩
 refine zB (λg=>by have:=of_decide_eq_true g;omega) (λ_=>zB (λg=>by have:=of_decide_eq_true g;omega) (λ_=> ?_))
 refine zB (λg=>by have:=of_decide_eq_true g;omega) (λ_=>zB (λg=>by have:=of_decide_eq_true g;omega) (λ_=> ?_))
 have x11:Ext h7 (h7++[Blk.cells [.ptr (some ⟨e.dp,0⟩),.ptr (some ⟨e.p,0⟩),.str s,.ptr (some ⟨h.length,0⟩),.sl none,.int .i64 (k:Nat)] true]):=.app _ _
 have b11:(h7++[Blk.cells [.ptr (some ⟨e.dp,0⟩),.ptr (some ⟨e.p,0⟩),.str s,.ptr (some ⟨h.length,0⟩),.sl none,.int .i64 (k:Nat)] true])[h7.length]?=some (.cells [.ptr (some ⟨e.dp,0⟩),.ptr (some ⟨e.p,0⟩),.str s,.ptr (some ⟨h.length,0⟩),.sl none,.int .i64 (k:Nat)] true):=by simp
 have l11:(h7++[Blk.cells [AV.ptr (some ⟨e.dp,0⟩),.ptr (some ⟨e.p,0⟩),.str s,.ptr (some ⟨h.length,0⟩),.sl none,.int .i64 (k:Nat)] true]).length=h7.length+1:=by simp
 generalize h7++[Blk.cells [AV.ptr (some ⟨e.dp,0⟩),.ptr (some ⟨e.p,0⟩),.str s,.ptr (some ⟨h.length,0⟩),.sl none,.int .i64 (k:Nat)] true]=h11 at*
 have l7:=x7.len
 have hr7:=R7.lv h.length rfl
 have R11:=R7.grow x11
 have xx:=x7.trans x11
 have hz2:∀b,(z b∨b=h7.length∨b=h.length)->z b∨(h.length<=b/\b<h11.length):=λb hb=>by
  rcases hb with hb|hb|hb
  ·exact .inl hb
  ·exact .inr (by omega)
  ·exact .inr (by omega)
 have E11:EV (λb=>z b∨b=h7.length∨b=h.length) h11 e:=E.other2 (X:=λ_=>False) (zH xx) (λ_ h=>h.elim) xx.len (λb hb=>.inl hb) hz2
 refine h1 lim hn l1 l2 _ h7.length h11 xx ⟨E11,⟨rfl,⟨h.length,none,λb=>b=h.length,b11,.inl ⟨rfl,rfl⟩,R11,λb hb=> ?_,(λ⟨s,hs,_⟩=>by cases hs),λhc=>by omega,(λb ⟨s,hs,_⟩=>by cases hs)⟩,(λd hd=>by cases hd)⟩,hg,(λd hd=>by cases hd),by simp,(λy hy=>by cases hy)⟩ (λb hb=>.inl hb) (λb hb=>(hz2 b hb).imp id And.left)
 rcases hb with hb|⟨s,hs,_⟩|hb
 ·exact⟨.inr (.inl hb),E.nobody (by omega)⟩
 ·cases hs
 ·exact⟨.inr (.inr hb),E.nobody (by omega)⟩)
set_option maxRecDepth 20000 in
theorem gk12 {F0:Nat->Prop}{room k:Nat}{n:Int}(L:Laid h)(hF:∀b,F0 b->b<h.length)(hr:room<=16384)(hs:1<=s.length/\s.length<=12)(hk:k<=1073741824)(h0:(n<1∨n>4096)->∀h',Ext h h'->Q (.ptr none) h')
  (h1:∀lim:Nat,n=lim->1<=lim->lim<=4096->∀z e sb a b1 b2 h',Ext h h'->St z h' e sb ⟨s,lim,k,[],[]⟩ []->e.N=0->e.room=room->e.F=F0->(∀b,z b∨e.pb b->h.length<=b)->h'[a]?=some (.cells [.ptr (some ⟨e.dp,0⟩),.ptr (some ⟨e.p,0⟩),.ptr (some ⟨sb,0⟩),.ptr (some ⟨b1,0⟩),.ptr (some ⟨b2,0⟩)] true)->¬z a->¬e.pb a->h.length<=a->Q (.ptr (some ⟨a,0⟩)) h'):AC Tryz.prog 12 [.int .i64 (room:Nat),.str s,.int .i64 n,.int .i64 (k:Nat)] h Q:=ac12 (by
 unfold vc12 PNew
 have hlen:=L.len
 refine d63 (by omega) (by omega) λow R1 o1=>⟨_,_,rfl,?_⟩
 have x1:Ext h ((h++[Blk.mp [] 0])++[.cells [.map (some h.length),.sl none,.int .i64 (room:Nat),.int .i64 (-1),.bool false] true]):=(Ext.app _ _).trans (.app _ _)
 have l1:((h++[Blk.mp [] 0])++[Blk.cells [.map (some h.length),.sl none,.int .i64 (room:Nat),.int .i64 (-1),.bool false] true]).length=h.length+2:=by simp
 generalize(h++[Blk.mp [] 0])++[Blk.cells [.map (some h.length),.sl none,.int .i64 (room:Nat),.int .i64 (-1),.bool false] true]=g1 at*
 refine k64 (z:=λb=>ow b≠none∨F0 b) (n:=64) (by omega) λh2 C2 x2=>⟨_,_,rfl,?_⟩
 have l2:=x2.len
 have hfb:=zD C2.fbk
 let e:Env:=⟨h.length+1,g1.length+2,g1.length,g1.length+1,ow,[],newP 64,0,room,F0⟩
 have pbn:∀b,e.pb b->g1.length<=b:=λb hb=>by
  rcases hb with hb|hb|hb
  ·have hb:b=g1.length+2:=hb
   omega
  ·have hb:b=g1.length:=hb
   omega
  ·have hb:b=g1.length+1:=hb
   omega
 have E2:EV (λb=>ow b≠none) h2 e:=⟨L.keeps (X:=λ_=>False) (zH (x1.trans x2)) (λh=>h) (λh=>h),R1.grow x2,⟨_,_,_,C2⟩,sm_new,hp_new,λb hb=>hb,λb hb=>by have:=R1.live b hb;omega,λb hb hp=>by have:=R1.live b hb;have:=pbn b hp;omega,(λy hy=>by cases hy),⟨⟨λhc=>by have:=o1 0 hc;omega,λhc=>by have:=o1 1 hc;omega⟩,λhc=>by have:=pbn 0 hc;omega,λhc=>by have:=pbn 1 hc;omega⟩,λb hb=>⟨λhc=>by have:=o1 b hc;have:=hF b hb;omega,λhc=>by have:=pbn b hc;have:=hF b hb;omega,by have:=hF b hb;omega⟩⟩
 refine ac65 ?_
 unfold vc65 PNew
 refine zB (λg=>by have:=of_decide_eq_true g;omega) (λ_=>zB (λg=>by have:=of_decide_eq_true g;omega) (λ_=>⟨_,rfl,?_⟩))
 have x3:Ext h2 (h2++[Blk.cells [.sl none,.sl none,.int .i64 (room:Nat),.int .i64 (-1),.bool false] true]):=.app _ _
 have E3:=E2.grow x3
 generalize h2++[Blk.cells [.sl none,.sl none,.int .i64 (room:Nat),.int .i64 (-1),.bool false] true]=h3 at*
 have x03:=(x1.trans x2).trans x3
 refine zB (λg=>by simp at g) (λ_=>zB (λg=>by simp at g) (λ_=>zB (λg=>by simp at g) (λ_=> ?_)))
 refine gk33 (e:=e) E3 rfl hs hk (λhc h4 x4=>⟨_,_,rfl,?_⟩) λlim hn a b z4 sb h4 x4 S4 zz zn=>⟨_,_,rfl,?_⟩
 ·refine gk66 hs (by omega) (λ_=>⟨_,rfl,?_⟩) (λa b=>by omega)
  refine zB (λg=>by simp at g) (λ_=>zB (λg=>by simp at g) (λ_=>zB (λ_=>h0 hc _ (x03.trans x4)) (λg=>by simp at g)))
 ·refine gk66 hs (by omega) (λhc=>by omega) λ_ _ b2 h5 x5=>⟨_,rfl,?_⟩
  refine zB (λg=>by simp at g) (λ_=>zB (λg=>by simp at g) (λ_=>zB (λg=>by simp at g) (λ_=> ?_)))
  obtain⟨E4,R4,g4,m4,f4,k4⟩:=S4
  have x6:Ext h5 (h5++[Blk.cells [.ptr (some ⟨h.length+1,0⟩),.ptr (some ⟨g1.length+2,0⟩),.ptr (some ⟨sb,0⟩),.ptr (some ⟨h2.length,0⟩),.ptr (some ⟨b2,0⟩)] true]):=.app _ _
  have l4:=x4.len
  have l5:=x5.len
  have l3:=x3.len
  have xx:=x5.trans x6
  refine h1 lim hn a b z4 e sb h5.length h2.length b2 _ ((x03.trans x4).trans xx) ⟨E4.grow xx,R4.grow E4 xx,g4,m4,f4,k4⟩ rfl rfl rfl (λc hc=> ?_) (by rw[List.getElem?_append_right (Nat.le_refl _),Nat.sub_self];rfl) (λhc=>by have:=E4.zl _ hc;omega) (λhc=>by have:=E4.cp.pool_lt hc;omega) (by omega)
  rcases hc with hc|hc
  ·rcases zn c hc with hc|hc
   ·exact o1 c hc
   ·omega
  ·have:=pbn c hc;omega)
end
end Go.Proofs.YtafmabnolelknaaGreatDoor

namespace Go.Proofs.YtafmabnolelknaaGreatDoor
open Go.Ab
open Go.Num hiding Bs snoc_ind
open Go.Ent Go.Seg Go.Sto
open Go.Page hiding Bs get
open Go.Dsk hiding Bs
open Go.Pool hiding Bs Ents zT Fr least
open Go.Cur
set_option linter.unusedVariables false
set_option linter.unusedSimpArgs false
section
variable{z z':Nat->Prop}{h h1 h':Heap}{e e':Env}{Q:AHp}{sb:Nat}{S:SS}{ps:List PD}
theorem EV.foreign (E:EV z h e){X F':Nat->Prop}(K:zI X h h')(hX:∀b,X b->e.F b/\2<=b)(hl:h.length<=h'.length)(h1:∀b,e.F b->F' b)(h2:∀b,F' b->e.F b∨(h.length<=b/\b<h'.length)):EV z h' {e with F:=F'}:=by
 obtain⟨rs,es,cl,R⟩:=E.C
 have np:∀b,e.pb b->¬X b:=λb hb hc=>(E.fz b (hX b hc).1).2.1 hb
 have nz:∀b,z b->¬X b:=λb hb hc=>(E.fz b (hX b hc).1).1 hb
 refine⟨E.L.keeps K (λhc=>by have:=(hX _ hc).2;omega) (λhc=>by have:=(hX _ hc).2;omega),E.R.ext (λb B hb hB=>K b B (nz b (E.zo b hb)) hB) hl,⟨rs,es,cl,(R.more (z:=λb=>z b∨F' b) λb hb=> ?_).keepsZ K (λb hb=>.inr (h1 b (hX b hb).1)) ⟨np _ (.inl rfl),np _ (.inr (.inl rfl)),np _ (.inr (.inr rfl))⟩⟩,E.sm,E.A,E.zo,λb hb=>Nat.lt_of_lt_of_le (E.zl b hb) hl,E.zp,E.ok,E.nl,λb hb=> ?_⟩
 ·rcases hb with hb|hb
  ·exact .inl (.inl hb)
  ·exact(h2 b hb).imp .inr And.left
 ·rcases h2 b hb with hb|hb
  ·exact⟨(E.fz b hb).1,(E.fz b hb).2.1,Nat.lt_of_lt_of_le (E.fz b hb).2.2 hl⟩
  ·exact⟨λhc=>by have:=E.zl b hc;omega,λhc=>by have:=E.cp.pool_lt hc;omega,hb.2⟩
theorem StR.foreign (E:EV z h e)(R:StR z h e sb S ps){X F':Nat->Prop}(K:zI X h h')(hX:∀b,X b->e.F b/\2<=b)(hl:h.length<=h'.length)(h2:∀b,F' b->e.F b∨(h.length<=b/\b<h'.length)):StR z h' {e with F:=F'} sb S ps:=by
 obtain⟨rb,qp,Or,a1,a2,a3,a4,a5,a6,a7⟩:=R.at'
 have nz:∀b,z b->¬X b:=λb hb hc=>(E.fz b (hX b hc).1).1 hb
 refine⟨R.pe,⟨rb,qp,Or,K _ _ (nz _ (a4 _ (.inl rfl)).1) a1,a2.keeps K (λs hs=>nz _ (a4 _ (.inr (.inl ⟨s,hs,rfl⟩))).1),a3.keeps K (λb hb=>nz _ (a4 _ (.inr (.inr hb))).1) hl (λ_ h=>h) (λb hb=>Nat.lt_of_lt_of_le (a3.lv b hb) hl),a4,a5,a6,a7⟩,λd hd=> ?_⟩
 have D:=R.pd d hd
 have nY:∀b,¬EZ z e b/\¬e.pb b->¬X b:=λb hn hc=>hn.1 (.inr (hX b hc).1)
 have key:∀b,b<h.length->¬EZ z e b/\¬e.pb b->¬(z b∨F' b)/\¬e.pb b:=λb hb hn=>⟨λhc=>by
  rcases hc with hc|hc
  ·exact hn.1 (.inl hc)
  ·rcases h2 b hc with hc|hc
   ·exact hn.1 (.inr hc)
   ·omega,hn.2⟩
 refine⟨D.mem,⟨K _ _ (nY _ D.seg.n1) D.seg.at',K.hasL (λt ht=>nY _ (D.seg.n2 t ht)) D.seg.hd,key _ (zD D.seg.at') D.seg.n1,λt ht=>key _ (HasL.live D.seg.hd t ht) (D.seg.n2 t ht)⟩,D.fr.keeps K (λb hb=>.inl (.inr (hX b hb).1)) λb hb=> ?_⟩
 rcases hb with(hb|hb)|hb
 ·exact .inl (.inl (.inl hb))
 ·exact(h2 b hb).imp (λh=>.inl (.inr h)) And.left
 ·exact .inl (.inr hb)
theorem St.foreign (T:St z h e sb S ps){X F':Nat->Prop}(K:zI X h h')(hX:∀b,X b->e.F b/\2<=b)(hl:h.length<=h'.length)(h1:∀b,e.F b->F' b)(h2:∀b,F' b->e.F b∨(h.length<=b/\b<h'.length)):St z h' {e with F:=F'} sb S ps:=
 ⟨T.E.foreign K hX hl h1 h2,StR.foreign T.E T.R K hX hl h2,T.gs,T.nm,T.few,T.ok⟩
end
structure Mv where
 kind:Int
 y:Ent
 fq:OSl
 f:List Mom
 n:Int
 q:OSl
end Go.Proofs.YtafmabnolelknaaGreatDoor


namespace Go.Proofs.YtafmabnolelknaaGreatDoor
open Go.Ab
open Go.Num hiding Bs snoc_ind
open Go.Ent Go.Seg Go.Sto
open Go.Page hiding Bs get
open Go.Dsk hiding Bs
open Go.Pool hiding Bs Ents zT Fr least
open Go.Cur
set_option linter.unusedVariables false
set_option linter.unusedSimpArgs false
structure SD where
 z:Nat->Prop
 e:Env
 sb:Nat
 S:SS
 ps:List PD
abbrev SD.own(d:SD):Nat->Prop:=λb=>d.z b∨d.e.pb b
abbrev SD.at(d:SD)(h:Heap):Prop:=St d.z h d.e d.sb d.S d.ps
structure Duo(h:Heap)(a b:SD):Prop where
 A:a.at h
 B:b.at h
 fa:∀c,a.e.F c↔b.own c
 fb:∀c,b.e.F c↔a.own c
theorem Duo.swap {h:Heap}{a b:SD}(D:Duo h a b):Duo h b a:=⟨D.B,D.A,D.fb,D.fa⟩
theorem SD.two {h:Heap}{d:SD}(T:d.at h){c:Nat}(hc:d.own c):2<=c:=by
 have h0:¬d.own 0:=λh=>h.elim T.E.nl.1.1 T.E.nl.2.1
 have h1:¬d.own 1:=λh=>h.elim T.E.nl.1.2 T.E.nl.2.2
 match c,hc with
 |0,hc=>exact absurd hc h0
 |1,hc=>exact absurd hc h1
 |c+2,_=>omega
def SD.fo(d:SD)(F:Nat->Prop):SD:={d with e:={d.e with F:=F}}
theorem Duo.step {h h':Heap}{a b:SD}(D:Duo h a b){z':Nat->Prop}{e':Env}{S':SS}{ps':List PD}(W:Went a.z h a.e z' h' e')(T:St z' h' e' a.sb S' ps'):Duo h' ⟨z',e',a.sb,S',ps'⟩ (b.fo λc=>z' c∨e'.pb c):=by
 refine⟨T,D.B.foreign W.K (λc hc=>⟨(D.fb c).2 hc,SD.two D.A hc⟩) W.l (λc hc=> ?_) (λc hc=> ?_),λc=> ?_,λc=>Iff.rfl⟩
 ·rcases(D.fb c).1 hc with hc|hc
  ·exact .inl (W.z1 c hc)
  ·exact .inr ((W.pb.1 c).2 hc)
 ·rcases hc with hc|hc
  ·rcases W.zn c hc with h2|h2
   ·exact .inl ((D.fb c).2 (.inl h2))
   ·exact .inr ⟨h2,T.E.zl c hc⟩
  ·exact .inl ((D.fb c).2 (.inr ((W.pb.1 c).1 hc)))
 ·show e'.F c↔_
  rw[W.pb.2.2]
  exact D.fa c
theorem St.grow {z:Nat->Prop}{h h':Heap}{e:Env}{sb:Nat}{S:SS}{ps:List PD}(T:St z h e sb S ps)(x:Ext h h'):St z h' e sb S ps:=
 ⟨T.E.grow x,T.R.grow T.E x,T.gs,T.nm,T.few,T.ok⟩
theorem Duo.grow {h h':Heap}{a b:SD}(D:Duo h a b)(x:Ext h h'):Duo h' a b:=⟨D.A.grow x,D.B.grow x,D.fa,D.fb⟩
theorem Went.grow {z:Nat->Prop}{h h':Heap}{e:Env}(x:Ext h h'):Went z h e z h' e:=⟨zH x,x.len,λ_ h=>h,λ_ h=>.inl h,⟨λ_=>Iff.rfl,rfl,rfl⟩,rfl⟩
def refE:Enc (List UInt8×Int×Int):=⟨3,λr=>[.str r.1,.int .i64 r.2.1,.int .i64 r.2.2],λ_=>rfl,by omega,λ_=>rfl⟩
def PD.ref(d:PD):List UInt8×Int×Int:=(d.x.nm,(d.x.base:Nat),(d.x.l.length:Nat))
section
variable{z z':Nat->Prop}{h h':Heap}{e e':Env}{Q:AHp}{sb:Nat}{S:SS}{ps:List PD}{d:PD}{q:OSl}
theorem gk88 (D:PdR z h e d)(hQ:Q (.agg [.str d.x.nm,.int .i64 (d.x.base:Nat),.int .i64 (d.x.l.length:Nat)]) h):AC Tryz.prog 88 [.agg (yT.f d)] h Q:=ac88 (by
 unfold vc88
 refine k141 D.seg.at' ⟨_,rfl,rfl,rfl,?_⟩
 exact gk83 D ⟨_,rfl,rfl,hQ⟩)
theorem gk23 (R:StR z h e sb S ps)(hl:ps.length<=1000)(hQ:∀q' h',New refE h h' q' (ps.map PD.ref)->Q (.sl q') h'):AC Tryz.prog 23 [.ptr (some ⟨sb,0⟩)] h Q:=ac23 (by
 obtain⟨rb,qp,Or,a1,a2,a3,a4,a5,a6,a7⟩:=R.at'
 unfold vc23
 refine gk68 R ⟨_,rfl,zB (λg=>by simp at g) (λ_=> ?_)⟩
 refine zQ ⟨_,zU a1 (k:=4) rfl,?_⟩
 have H:=a2.hasL
 rw[H.len]
 refine⟨λxs h7=>∃(q3:OSl) (i:Nat),xs=[.sl q3,.int .i64 (i:Nat)]/\i<=ps.length/\New refE h h7 q3 ((ps.take i).map PD.ref),λxs _=>match xs with | [_,.int _ i]=>(ps.length-i).toNat|_=>0,⟨none,0,rfl,by omega,New.none⟩,?_⟩
 rintro q3 n4 h7 ⟨_,i,hx,hi,N⟩
 simp only[List.cons.injEq,AV.sl.injEq,AV.int.injEq,true_and,and_true] at hx
 obtain⟨rfl,rfl⟩:=hx
 refine zB (λg=> ?_) (λg=> ?_)
 ·replace g:=of_decide_eq_true g
  have H7:=H.mono N.1
  have nexti:zC .i64 ((i:Int)+1)=((i+1:Nat):Int):=by rw[zF ⟨by omega,by omega⟩];omega
  rw[nexti]
  refine HasL.idx (E:=yT) H7 (by omega) (by omega) λpp' x hx hcc=>⟨_,_,_,_,_,hcc,?_⟩
  rw[Int.toNat_natCast] at hx
  have hxm:=List.mem_of_getElem? hx
  have ht:ps.take (i+1)=ps.take i++[x]:=by rw[List.take_add_one,hx];rfl
  have D:=R.pd x hxm
  have D7:PdR z h7 e x:=D.keeps (Y:=λ_=>False) (zH N.1) (λ_ h=>h.elim) (λ_ h=>.inl h) rfl (λ_ h=>h) D.mem
  refine gk88 D7 ⟨_,_,_,rfl,?_⟩
  unfold PNew
  have x1:Ext h7 (h7++[Blk.cells [.str x.x.nm,.int .i64 (x.x.base:Nat),.int .i64 (x.x.l.length:Nat)] true]):=.app _ _
  refine New.append (E:=refE) (N.ext x1) (HasL.new (E:=refE) (l:=[x.ref]) (n:=1) rfl (by simp[Enc.all,refE,PD.ref])) (by simp only[List.length_map,List.length_take,List.length_cons,List.length_nil];omega) λq21 h22 N22=> ?_
  refine⟨trivial,⟨q21,i+1,rfl,by omega,?_⟩,by simp only;omega⟩
  rw[ht,List.map_append];exact N22
 ·replace g:=of_decide_eq_false g
  have:i=ps.length:=by omega
  subst this
  rw[List.take_length] at N
  exact hQ _ _ N)
theorem gk24 (R:StR z h e sb S ps)(hQ:Q (.int .i64 (S.run.length:Nat)) h):AC Tryz.prog 24 [.ptr (some ⟨sb,0⟩)] h Q:=ac24 (by
 obtain⟨rb,qp,Or,a1,a2,a3,a4,a5,a6,a7⟩:=R.at'
 unfold vc24
 refine gk68 R ⟨_,rfl,zB (λg=>by simp at g) (λ_=> ?_)⟩
 exact zQ ⟨_,zU a1 (k:=3) rfl,gk70 a3 ⟨_,rfl,hQ⟩⟩)
theorem gk68n (hQ:Q (.bool false) h):AC Tryz.prog 68 [.ptr none] h Q:=ac68 (by
 unfold vc68
 exact zB (λg=>by simp at g) (λ_=>hQ))
theorem gk26n (hQ:Q (.int .i64 0) h):AC Tryz.prog 26 [.ptr none] h Q:=ac26 (by
 unfold vc26
 refine ac24 ?_
 unfold vc24
 refine gk68n ⟨_,rfl,zB (λ_=> ?_) (λg=>by simp at g)⟩
 refine⟨_,rfl,ac23 ?_⟩
 unfold vc23
 refine gk68n ⟨_,rfl,zB (λ_=> ?_) (λg=>by simp at g)⟩
 refine⟨_,rfl,λxs h7=>xs=[.int .i64 0,.int .i64 0]/\h7=h,λ_ _=>0,⟨rfl,rfl⟩,?_⟩
 rintro n8 n9 h7 ⟨hx,rfl⟩
 simp only[List.cons.injEq,AV.int.injEq,true_and,and_true] at hx
 obtain⟨rfl,rfl⟩:=hx
 exact zB (λg=>by simp[zJ] at g) (λ_=>hQ))
theorem gk22 {l:List Int}{n:Int}(H:HasL intE h q l)(hl:l.length<=1000000)(hQ:∀b,Q (.bool b) h):AC Tryz.prog 22 [.sl q,.int .i64 n] h Q:=ac22 (by
 unfold vc22
 rw[H.len]
 refine⟨λxs h7=>h7=h/\∃i:Nat,xs=[.int .i64 (i:Nat)]/\i<=l.length,λxs _=>match xs with | [.int _ i]=>(l.length-i).toNat|_=>0,⟨rfl,0,rfl,by omega⟩,?_⟩
 rintro n4 h7 ⟨rfl,i,hx,hi⟩
 simp only[List.cons.injEq,AV.int.injEq,true_and,and_true] at hx
 subst hx
 refine zB (λg=> ?_) (λ_=>hQ _)
 replace g:=of_decide_eq_true g
 refine HasL.idx (E:=intE) H (by omega) (by omega) λpp' x hx hcc=>⟨_,hcc,zB (λ_=>hQ _) (λ_=> ?_)⟩
 rw[zF ⟨by omega,by omega⟩]
 exact⟨trivial,⟨rfl,i+1,by simp,by omega⟩,by simp only;omega⟩)
end
def ITH(kmax:Nat)(h0:Heap):Prop:=∀k:Nat,k<kmax->∀(h':Heap) (Q:AHp),zI (λb=>h0.length<=b) h0 h'->Q (.str (decB 20 k)) h'->AC Tryz.prog 119 [.int .i64 (k:Nat)] h' Q
structure TwoR(P:SS->SS->Prop)(h0 h:Heap)(A B:SD)(a b n:Nat):Prop where
  D:Duo h A B
  p:P A.S B.S
  own:∀c,A.own c∨B.own c->h0.length<=c
  K:zI (λc=>h0.length<=c) h0 h
  l:h0.length<=h.length
  n:A.e.N<=n/\B.e.N<=n
  room:A.e.room=16384/\B.e.room=16384
  ca:∃v0 v1 v3 v4:AV,h[a]?=some (.cells [v0,v1,.ptr (some ⟨A.sb,0⟩),v3,v4] true)
  cb:∃v0 v1 v3 v4:AV,h[b]?=some (.cells [v0,v1,.ptr (some ⟨B.sb,0⟩),v3,v4] true)
  na:¬(A.own a∨B.own a)
  nb:¬(A.own b∨B.own b)
section
variable{P P':SS->SS->Prop}{h0 h h':Heap}{A B:SD}{a b n n':Nat}{y:Ent}
theorem TwoR.swap (T:TwoR P h0 h A B a b n):TwoR (λx y=>P y x) h0 h B A b a n:=
  ⟨T.D.swap,T.p,λc hc=>T.own c hc.symm,T.K,T.l,T.n.symm,T.room.symm,T.cb,T.ca,λhc=>T.nb hc.symm,λhc=>T.na hc.symm⟩
theorem TwoR.it {kmax:Nat}(T:TwoR P h0 h A B a b n)(IT:ITH kmax h0)(hk:A.S.k<kmax):ItP A.z h A.e A.S.k:=
  .inr λh' Q K hQ=>IT _ hk h' Q (λc B hc hB=>K c B (λho=>hc (T.own c (.inl ho))) (T.K c B hc hB)) hQ
theorem TwoR.step (T:TwoR P h0 h A B a b n){z':Nat->Prop}{e':Env}{S':SS}{ps':List PD}(W:Went A.z h A.e z' h' e')(T':St z' h' e' A.sb S' ps')(hP:P' S' B.S)(hn:n<=n')(hN:e'.N<=n'):TwoR P' h0 h' ⟨z',e',A.sb,S',ps'⟩ (B.fo λc=>z' c∨e'.pb c) a b n':=by
  have low:∀c,(z' c∨e'.pb c)->A.own c∨h.length<=c:=λc hc=>by
    rcases hc with hc|hc
    · exact(W.zn c hc).imp .inl id
    · exact .inl (.inr ((W.pb.1 c).1 hc))
  obtain⟨v0,v1,v3,v4,ha⟩:=T.ca
  obtain⟨u0,u1,u3,u4,hb⟩:=T.cb
  have lta:=zD ha
  have ltb:=zD hb
  refine⟨T.D.step W T',hP,λc hc=> ?_,λc X hc hX=>W.K c X (λho=>hc (T.own c (.inl ho))) (T.K c X hc hX),Nat.le_trans T.l W.l,⟨hN,Nat.le_trans T.n.2 hn⟩,⟨W.pb.2.1.trans T.room.1,T.room.2⟩,⟨v0,v1,v3,v4,W.K _ _ (λho=>T.na (.inl ho)) ha⟩,⟨u0,u1,u3,u4,W.K _ _ (λho=>T.nb (.inl ho)) hb⟩,λhc=> ?_,λhc=> ?_⟩
  · rcases hc with hc|hc
    · rcases low c hc with h2|h2
      · exact T.own c (.inl h2)
      · exact Nat.le_trans T.l h2
    · exact T.own c (.inr hc)
  · rcases hc with hc|hc
    · rcases low a hc with h2|h2
      · exact T.na (.inl h2)
      · omega
    · exact T.na (.inr hc)
  · rcases hc with hc|hc
    · rcases low b hc with h2|h2
      · exact T.nb (.inl h2)
      · omega
    · exact T.nb (.inr hc)
theorem TwoR.grow (T:TwoR P h0 h A B a b n)(x:Ext h h'):TwoR P h0 h' A B a b n:=by
  have T2:=T.step (P':=P) (Went.grow x) (T.D.A.grow x) T.p (Nat.le_refl _) T.n.1
  exact⟨T.D.grow x,T.p,T.own,T2.K,T2.l,T.n,T.room,T2.ca,T2.cb,T.na,T.nb⟩
variable{kmax:Nat}
theorem zK9 (IT:ITH kmax h0)(T:TwoR P h0 h A B a b n)(hk:A.S.k<kmax/\A.S.k<999)(hs:A.S.nm.length<=20)(hz:A.S.size<=500)(hn:n<=700000)(hf:∀p∈A.S.ps,p.fs.length<=1000000/\∀f∈p.fs,f.length<=1000000)(hP:P' A.S.compact.2 B.S)
    {Q:Int->Heap->Prop}(hQ:∀h' A' B',A'.S=A.S.compact.2->B'.S=B.S->TwoR P' h0 h' A' B' a b (n+2*A.S.size)->Q A.S.compact.1 h'):
    vPtr (some (⟨a,0⟩:PA)) λp39=>∃p40:OPa,zA h ⟨p39.b,p39.o+2⟩ 1=some [.ptr p40]/\
     AC Tryz.prog 16 [.ptr p40] h λv41 h42=>∃n43:Int,v41= .int .i64 n43/\Q n43 h42:=by
  obtain⟨v0,v1,v3,v4,ha⟩:=T.ca
  have hlp:lenP A.ps<=A.S.size:=by
    have:=jX T.D.A.R.pe
    unfold SS.size;omega
  have hN:=T.n.1
  have hr:=T.room.1
  refine zQ ⟨_,zU ha (k:=2) rfl,?_⟩
  refine gk16 T.D.A hk.2 (T.it IT hk.1) hs hz (by omega) (by omega) (λd hd=>hf d.part (by rw[T.D.A.R.pe];exact List.mem_map_of_mem hd)) λz' h2 e' ps' W T' n'=>⟨_,rfl,hQ h2 ⟨z',e',A.sb,_,ps'⟩ (B.fo λc=>z' c∨e'.pb c) rfl rfl (T.step W T' hP (by omega) (by omega))⟩
theorem zPY (IT:ITH kmax h0)(T:TwoR P h0 h A B a b n)(hk:A.S.k<kmax/\A.S.k<999)(hs:A.S.nm.length<=20)(hz:A.S.size<=500)(hP:P' A.S.spill.2 B.S)
    {Q:Int->Heap->Prop}(hQ:∀h' A' B',A'.S=A.S.spill.2->B'.S=B.S->TwoR P' h0 h' A' B' a b n->Q A.S.spill.1 h'):
    vPtr (some (⟨a,0⟩:PA)) λp39=>∃p40:OPa,zA h ⟨p39.b,p39.o+2⟩ 1=some [.ptr p40]/\
     AC Tryz.prog 15 [.ptr p40] h λv41 h42=>∃n43:Int,v41= .int .i64 n43/\Q n43 h42:=by
  obtain⟨v0,v1,v3,v4,ha⟩:=T.ca
  have hN:=T.n.1
  have hr:=T.room.1
  refine zQ ⟨_,zU ha (k:=2) rfl,?_⟩
  refine gk15 T.D.A hk.2 (T.it IT hk.1) hs hz (by omega) λz' h2 e' ps' W T' n'=>⟨_,rfl,hQ h2 ⟨z',e',A.sb,_,ps'⟩ (B.fo λc=>z' c∨e'.pb c) rfl rfl (T.step W T' hP (Nat.le_refl _) (by omega))⟩
theorem zP0 (IT:ITH kmax h0)(T:TwoR P h0 h A B a b n)(hk:A.S.k<kmax/\A.S.k<999)(hs:A.S.nm.length<=20)(hz:A.S.size<=500)(hlim:1<=A.S.lim)(hP:P' (A.S.add (yM y) y).2 B.S)
    {Q:Int->Heap->Prop}(hQ:∀h' A' B',A'.S=(A.S.add (yM y) y).2->B'.S=B.S->TwoR P' h0 h' A' B' a b n->Q (A.S.add (yM y) y).1 h'){p40:OPa}(hp:p40=some ⟨A.sb,0⟩):
     AC Tryz.prog 14 [.ptr p40,.agg [.int .i64 y.1,.int .i64 y.2.1,.int .i64 y.2.2.1,.int .i64 y.2.2.2]] h λv41 h42=>∃n43:Int,v41= .int .i64 n43/\Q n43 h42:=by
  have hN:=T.n.1
  have hr:=T.room.1
  subst hp
  refine gk14 (y:=y) T.D.A hk.2 (T.it IT hk.1) hs hz (by omega) hlim λz' h2 e' ps' W T' n'=>⟨_,rfl,hQ h2 ⟨z',e',A.sb,_,ps'⟩ (B.fo λc=>z' c∨e'.pb c) rfl rfl (T.step W T' hP (Nat.le_refl _) (by omega))⟩
theorem zPZ (T:TwoR P h0 h A B a b n){Q:Nat->Heap->Prop}(hQ:∀h',TwoR P h0 h' A B a b n->Q A.S.ps.length h'):
    vPtr (some (⟨a,0⟩:PA)) λp52=>∃p53:OPa,zA h ⟨p52.b,p52.o+2⟩ 1=some [.ptr p53]/\
     AC Tryz.prog 23 [.ptr p53] h λv54 h55=>∃q56:OSl,v54= .sl q56/\Q (zJ q56) h55:=by
  obtain⟨v0,v1,v3,v4,ha⟩:=T.ca
  refine zQ ⟨_,zU ha (k:=2) rfl,?_⟩
  refine gk23 T.D.A.R (by have:=T.D.A.few;omega) λq' h' N=>⟨_,rfl,?_⟩
  have hl:zJ q'=A.S.ps.length:=by rw[N.hasL.len,List.length_map,T.D.A.R.pe,List.length_map]
  rw[hl]
  exact hQ h' (T.grow N.1)
end
theorem zR5 (y:Ent):yM y≠31:=by
  unfold yM
  rcases vL y.1 y.2.1 with⟨h,_⟩|⟨h,_⟩
  · rw[if_pos h]
    rcases vK y.2.2.1 y.2.2.2 with⟨h,_⟩|⟨h,_⟩<;>rw[h]<;>decide
  · rw[h,if_neg (by decide)];decide
section
variable{h0 h:Heap}{A B:SD}{a b n i lim:Nat}{q1 q3 q4:OSl}{l:List Ent}{Q:AHp}{K1:Heap->Prop}{LA:Heap->Prop}
set_option maxRecDepth 20000 in
theorem zNY (IT:ITH 130 h0)(T:TwoR (Sp lim i) h0 h A B a b n)(hl1:1<=lim)(H:HasL entE h0 q1 l)(hi:i<l.length)(hl:l.length<=60){n2:Int}(hn2:n2=lim)(hQ:∀h',Q (.bool true) h')(hK:∀h' A' B',TwoR (Sp lim (i+1)) h0 h' A' B' a b n->K1 h'):
    vPtr (some (⟨a,0⟩:PA)) λp82=>∃p83:OPa,zA h ⟨p82.b,p82.o+2⟩ 1=some [.ptr p83]/\
     vIdx q1 (i:Nat) 4 λp84=>
     ∃n85 n86:Int,∃n87 n88:Int,zA h p84 4=some [.int .i64 n85,.int .i64 n86,.int .i64 n87,.int .i64 n88]/\
     AC Tryz.prog 14 [.ptr p83,.agg [.int .i64 n85,.int .i64 n86,.int .i64 n87,.int .i64 n88]] h λv89 h90=>∃n91:Int,v89= .int .i64 n91/\
     vif (n91==31)
     (vPtr (some (⟨a,0⟩:PA)) λp92=>∃p93:OPa,zA h90 ⟨p92.b,p92.o+2⟩ 1=some [.ptr p93]/\
     AC Tryz.prog 24 [.ptr p93] h90 λv94 h95=>∃n96:Int,v94= .int .i64 n96/\Q (.bool (n96==n2)) h95)
     (vPtr (some (⟨b,0⟩:PA)) λp97=>∃p98:OPa,zA h90 ⟨p97.b,p97.o+2⟩ 1=some [.ptr p98]/\
     vIdx q1 (i:Nat) 4 λp99=>
     ∃n100 n101:Int,∃n102 n103:Int,zA h90 p99 4=some [.int .i64 n100,.int .i64 n101,.int .i64 n102,.int .i64 n103]/\
     AC Tryz.prog 14 [.ptr p98,.agg [.int .i64 n100,.int .i64 n101,.int .i64 n102,.int .i64 n103]] h90 λv104 h105=>∃n106:Int,v104= .int .i64 n106/\
     vif (n91 !=n106) (Q (.bool false) h105) (K1 h105)):=by
  obtain⟨v0,v1,v3,v4,ha⟩:=T.ca
  have lv:=HasL.live H
  obtain⟨s1,s2,s3⟩:=T.p.size
  refine zQ ⟨_,zU ha (k:=2) rfl,?_⟩
  refine HasL.idx (E:=entE) (T.K.hasL (λs hs=>by have:=lv s hs;omega) H) (by omega) (by omega) λpp' y hy hcc=>⟨_,_,_,_,hcc,?_⟩
  have hadd:=λc (hc:c≠31)=>T.p.add (c:=c) (y:=y) (by omega) hl1 hc
  refine zP0 (y:=y) (P':=λ_ _=>True) IT T ⟨by omega,by omega⟩ (by rw[T.p.alim.2];exact Nat.le_add_left 1 19) (by omega) (by rw[T.p.alim.1];exact hl1) trivial (Q:=λc h90=>vif (c==31) _ _) (λh2 A' B' eA eB T2=> ?_) rfl
  obtain⟨v0,v1,v3,v4,ha2⟩:=T2.ca
  obtain⟨u0,u1,u3,u4,hb2⟩:=T2.cb
  have hc31:=zR5 y
  refine zB (λg=> ?_) (λg=> ?_)
  · have g:(A.S.add (yM y) y).1=31:=by simpa using g
    rcases hadd _ hc31 with⟨_,e2,e3⟩|⟨e1,_⟩
    · refine zQ ⟨_,zU ha2 (k:=2) rfl,?_⟩
      refine gk24 T2.D.A.R ⟨_,rfl,?_⟩
      rw[eA,e2,e3,hn2]
      rw[beq_self_eq_true]
      exact hQ _
    · exact absurd g e1
  · have g:(A.S.add (yM y) y).1≠31:=by simpa using g
    rcases hadd _ hc31 with⟨e1,_⟩|⟨_,e2,e3⟩
    · exact absurd e1 g
    refine zQ ⟨_,zU hb2 (k:=2) rfl,?_⟩
    refine HasL.idx (E:=entE) (T2.K.hasL (λs hs=>by have:=lv s hs;omega) H) (by omega) (by omega) λpp2 y2 hy2 hcc2=>⟨_,_,_,_,hcc2,?_⟩
    rw[hy] at hy2
    cases hy2
    have hbl:=T.p.blim
    rw[<-eB] at hbl
    have sB:B'.S.size<=60:=by rw[eB];omega
    have e2':=e2
    rw[<-eB] at e2'
    refine zP0 (y:=y) (P':=λw x=>Sp lim (i+1) x w) IT T2.swap ⟨by rw[hbl.2.1];omega,by rw[hbl.2.1];omega⟩ (by rw[hbl.2.2];exact Nat.le_add_left 1 19) (by omega) (by rw[hbl.1];omega) (by rw[eA,eB];exact e3) (Q:=λc h105=>vif ((A.S.add (yM y) y).1 !=c) _ _) (λh3 B3 A3 eB3 eA3 T3=> ?_) rfl
    rw[e2']
    exact zB (λg=>by simp at g) (λ_=>hK h3 A3 B3 T3.swap)
end
section
variable{h0 h:Heap}{A B:SD}{a b n i lim:Nat}{q1 q3 q4:OSl}{l:List Ent}{l3 l4:List Int}{Q:AHp}{K1:Heap->Prop}{LA:Heap->Prop}
set_option maxRecDepth 20000 in
theorem zGY (IT:ITH 130 h0)(T:TwoR (Sp lim i) h0 h A B a b n)(hl1:1<=lim)(H:HasL entE h0 q1 l)(H3:HasL intE h0 q3 l3)(hl3:l3.length<=60)(hi:i<l.length)(hl:l.length<=60){n2:Int}(hn2:n2=lim)(hQ:∀h',Q (.bool true) h')(hK:∀h' A' B',TwoR (Sp lim (i+1)) h0 h' A' B' a b n->K1 h'):
    AC Tryz.prog 22 [.sl q3,.int .i64 (i:Nat)] h λv44 h45=>∃b46:Bool,v44= .bool b46/\
     vif b46
     (vPtr (some (⟨a,0⟩:PA)) λp47=>∃p48:OPa,zA h45 ⟨p47.b,p47.o+2⟩ 1=some [.ptr p48]/\
     AC Tryz.prog 15 [.ptr p48] h45 λv49 h50=>∃n51:Int,v49= .int .i64 n51/\
     vif (n51==31)
     (vPtr (some (⟨a,0⟩:PA)) λp52=>∃p53:OPa,zA h50 ⟨p52.b,p52.o+2⟩ 1=some [.ptr p53]/\
     AC Tryz.prog 23 [.ptr p53] h50 λv54 h55=>∃q56:OSl,v54= .sl q56/\Q (.bool ((zJ q56:Int)==32)) h55)
     (vif (n51 !=0)
     (Q (.bool false) h50)
     (vPtr (some (⟨a,0⟩:PA)) λp82=>∃p83:OPa,zA h50 ⟨p82.b,p82.o+2⟩ 1=some [.ptr p83]/\
     vIdx q1 (i:Nat) 4 λp84=>
     ∃n85 n86:Int,∃n87 n88:Int,zA h50 p84 4=some [.int .i64 n85,.int .i64 n86,.int .i64 n87,.int .i64 n88]/\
     AC Tryz.prog 14 [.ptr p83,.agg [.int .i64 n85,.int .i64 n86,.int .i64 n87,.int .i64 n88]] h50 λv89 h90=>∃n91:Int,v89= .int .i64 n91/\
     vif (n91==31)
     (vPtr (some (⟨a,0⟩:PA)) λp92=>∃p93:OPa,zA h90 ⟨p92.b,p92.o+2⟩ 1=some [.ptr p93]/\
     AC Tryz.prog 24 [.ptr p93] h90 λv94 h95=>∃n96:Int,v94= .int .i64 n96/\Q (.bool (n96==n2)) h95)
     (vPtr (some (⟨b,0⟩:PA)) λp97=>∃p98:OPa,zA h90 ⟨p97.b,p97.o+2⟩ 1=some [.ptr p98]/\
     vIdx q1 (i:Nat) 4 λp99=>
     ∃n100 n101:Int,∃n102 n103:Int,zA h90 p99 4=some [.int .i64 n100,.int .i64 n101,.int .i64 n102,.int .i64 n103]/\
     AC Tryz.prog 14 [.ptr p98,.agg [.int .i64 n100,.int .i64 n101,.int .i64 n102,.int .i64 n103]] h90 λv104 h105=>∃n106:Int,v104= .int .i64 n106/\
     vif (n91 !=n106) (Q (.bool false) h105) (K1 h105)))))
     (vPtr (some (⟨a,0⟩:PA)) λp82=>∃p83:OPa,zA h45 ⟨p82.b,p82.o+2⟩ 1=some [.ptr p83]/\
     vIdx q1 (i:Nat) 4 λp84=>
     ∃n85 n86:Int,∃n87 n88:Int,zA h45 p84 4=some [.int .i64 n85,.int .i64 n86,.int .i64 n87,.int .i64 n88]/\
     AC Tryz.prog 14 [.ptr p83,.agg [.int .i64 n85,.int .i64 n86,.int .i64 n87,.int .i64 n88]] h45 λv89 h90=>∃n91:Int,v89= .int .i64 n91/\
     vif (n91==31)
     (vPtr (some (⟨a,0⟩:PA)) λp92=>∃p93:OPa,zA h90 ⟨p92.b,p92.o+2⟩ 1=some [.ptr p93]/\
     AC Tryz.prog 24 [.ptr p93] h90 λv94 h95=>∃n96:Int,v94= .int .i64 n96/\Q (.bool (n96==n2)) h95)
     (vPtr (some (⟨b,0⟩:PA)) λp97=>∃p98:OPa,zA h90 ⟨p97.b,p97.o+2⟩ 1=some [.ptr p98]/\
     vIdx q1 (i:Nat) 4 λp99=>
     ∃n100 n101:Int,∃n102 n103:Int,zA h90 p99 4=some [.int .i64 n100,.int .i64 n101,.int .i64 n102,.int .i64 n103]/\
     AC Tryz.prog 14 [.ptr p98,.agg [.int .i64 n100,.int .i64 n101,.int .i64 n102,.int .i64 n103]] h90 λv104 h105=>∃n106:Int,v104= .int .i64 n106/\
     vif (n91 !=n106) (Q (.bool false) h105) (K1 h105))):=by
  have lv3:=HasL.live H3
  refine gk22 (T.K.hasL (λs hs=>by have:=lv3 s hs;omega) H3) (by omega) λb46=>⟨_,rfl,zB (λ_=> ?_) (λ_=>zNY IT T hl1 H hi hl hn2 hQ hK)⟩
  obtain⟨s1,s2,s3⟩:=T.p.size
  obtain⟨p1,p2⟩:=T.p.spill
  refine zPY (P':=Sp lim i) IT T ⟨by omega,by omega⟩ (by rw[T.p.alim.2];exact Nat.le_add_left 1 19) (by omega) p1 (Q:=λc h50=>vif (c==31) _ (vif (c !=0) _ _)) λh2 A' B' eA eB T2=> ?_
  refine zB (λg=> ?_) (λg=>zB (λg2=> ?_) (λg2=>zNY IT T2 hl1 H hi hl hn2 hQ hK))
  · rcases p2 with p2|⟨_,p3,p4⟩
    · rw[p2] at g;simp at g
    · refine zPZ T2 (Q:=λn h55=>Q (.bool ((n:Int)==32)) h55) λh3 T3=> ?_
      have hl:A'.S.ps.length=A'.ps.length:=by rw[T3.D.A.R.pe,List.length_map]
      have:=T3.D.A.few
      rw[eA,p3] at hl
      have:A'.S.ps.length=32:=by rw[eA,p3];omega
      rw[this]
      exact hQ _
  · rcases p2 with p2|⟨p2,_⟩
    · rw[p2] at g2;simp at g2
    · rw[p2] at g;simp at g
set_option maxRecDepth 20000 in
theorem zUG (T:TwoR (Sp lim i) h0 h A B a b n)(hi:i<=60)(hn:n<=700000)(hQ:∀h',Q (.bool true) h'):
    vPtr (some (⟨a,0⟩:PA)) λp170=>∃p171:OPa,zA h ⟨p170.b,p170.o+2⟩ 1=some [.ptr p171]/\
     AC Tryz.prog 19 [.ptr p171] h λv172 h173=>∃q174:OSl,∃n175:Int,v172= .tup [.sl q174,.int .i64 n175]/\
     vPtr (some (⟨b,0⟩:PA)) λp176=>∃p177:OPa,zA h173 ⟨p176.b,p176.o+2⟩ 1=some [.ptr p177]/\
     AC Tryz.prog 19 [.ptr p177] h173 λv178 h179=>∃q180:OSl,∃n181:Int,v178= .tup [.sl q180,.int .i64 n181]/\
     vif (n175==0)
     (vif (n181==0)
     (AC Tryz.prog 25 [.sl q174,.sl q180] h179 λv182 h183=>∃b184:Bool,v182= .bool b184/\
     vif b184
     (vPtr (some (⟨b,0⟩:PA)) λp185=>∃p186:OPa,zA h183 ⟨p185.b,p185.o+2⟩ 1=some [.ptr p186]/\
     AC Tryz.prog 23 [.ptr p186] h183 λv187 h188=>∃q189:OSl,v187= .sl q189/\
     vif ((zJ q189:Int)==0)
     (AC Tryz.prog 26 [.ptr none] h188 λv190 h191=>∃n192:Int,v190= .int .i64 n192/\Q (.bool (n192==0)) h191)
     (Q (.bool false) h188))
     (Q (.bool false) h183))
     (Q (.bool false) h179))
     (Q (.bool false) h179):=by
  obtain⟨s1,s2,s3⟩:=T.p.size
  unfold SS.size at s1 s2
  obtain⟨v0,v1,v3,v4,ha⟩:=T.ca
  have hlA:=jX T.D.A.R.pe
  have hlB:=jX T.D.B.R.pe
  have nA:=T.n.1
  have nB:=T.n.2
  refine zQ ⟨_,zU ha (k:=2) rfl,?_⟩
  refine gk19 T.D.A.E T.D.A.R (by have:=T.D.A.few;omega) (by omega) (by omega) λq1 h1 P1 N1 E1 R1 H1 hN1 K1 l1 n1=>⟨_,_,rfl,?_⟩
  have W1:Went A.z h A.e A.z h1 {A.e with P:=P1,N:=N1}:=⟨λc X hc hX=>K1 c X (λhd=>hc (.inr hd)) hX,l1,λ_ h=>h,λ_ h=>.inl h,⟨λ_=>Iff.rfl,rfl,rfl⟩,rfl⟩
  have T1:=T.step (P':=Sp lim i) (n':=n+200) W1 ⟨E1,R1,T.D.A.gs,T.D.A.nm,T.D.A.few,T.D.A.ok⟩ T.p (by omega) (by show N1<=_;omega)
  obtain⟨u0,u1,u3,u4,hb⟩:=T1.cb
  refine zQ ⟨_,zU hb (k:=2) rfl,?_⟩
  have npb:∀s,q1=some s->¬B.e.pb s.b:=λs hs hc=>by
    have:=n1 s hs
    have:=T.D.B.E.cp.pool_lt hc
    omega
  refine gk19 T1.D.B.E T1.D.B.R (by have:=T.D.B.few;show B.ps.length<=63;omega) (by show B.S.run.length<=500;omega) (by show B.e.N+B.S.run.length+2*lenP B.ps<=800000;omega) λq2 h2 P2 N2 E2 R2 H2 hN2 K2 l2 n2=>⟨_,_,rfl,?_⟩
  refine zB (λ_=> ?_) (λg=>by simp at g)
  refine zB (λ_=> ?_) (λg=>by simp at g)
  have H1':HasL entE h2 q1 A.S.all:=K2.hasL npb H1
  have e1:A.S.all=B.S.all:=T.p.told
  refine k25 H1' H2 (by unfold SS.all;rw[(zS _).length_eq,List.length_append];omega) ⟨_,rfl,zB (λ_=> ?_) (λg=>absurd e1 (of_decide_eq_false g))⟩
  have hb2:=K2 _ _ (λhc=>T1.nb (.inr (.inr hc))) hb
  refine zQ ⟨_,zU hb2 (k:=2) rfl,?_⟩
  refine gk23 R2 (by have:=T.D.B.few;show B.ps.length<=1000;omega) λq3 h3 N3=>⟨_,rfl,?_⟩
  have hz:zJ q3=0:=by
    have hp:=T.D.B.R.pe
    rw[T.p.bps] at hp
    have h5:B.ps=[]:=List.map_eq_nil_iff.1 hp.symm
    rw[N3.hasL.len]
    show(B.ps.map PD.ref).length=0
    rw[h5];rfl
  rw[hz]
  refine zB (λ_=> ?_) (λg=>by simp at g)
  exact gk26n ⟨_,rfl,hQ _⟩
end
def zA6(l:List Ent)(m:Mom):List (Int×Int):=(l.filter (atM m)).map λe=>e.2.2
section
variable{z z':Nat->Prop}{h h':Heap}{e e':Env}{Q:AHp}{sb:Nat}{S:SS}{ps:List PD}{d:PD}{q q1 q2:OSl}{m:Mom}{l:List Ent}
theorem gk90 {y:Ent}{p:PA}(hc:zA h p 2=some [.int .i64 m.1,.int .i64 m.2])(hQ:Q (.bool (atM m y)) h):AC Tryz.prog 90 [entV y,.ptr (some p)] h Q:=ac90 (by
 unfold vc90
 refine⟨_,_,hc,?_⟩
 have e2:((y.1==m.1)&&((y.2.1==m.2)&&true))=atM m y:=by
  unfold atM
  rw[Bool.and_true]
  rfl
 rw[e2];exact hQ)
theorem gk91 (H:HasL entE h q1 l)(hl:l.length<=1000000)(hQ:∀q' h',New mmE h h' q' (zA6 l m)->Q (.sl q') h'):AC Tryz.prog 91 [.sl q1,mmV m] h Q:=ac91 (by
 unfold vc91
 rw[H.len]
 refine⟨λxs h7=>∃(q3:OSl) (i:Nat),xs=[.sl q3,.int .i64 (i:Nat)]/\i<=l.length/\New mmE h h7 q3 (zA6 (l.take i) m),λxs _=>match xs with | [_,.int _ i]=>(l.length-i).toNat|_=>0,⟨none,0,rfl,by omega,New.none⟩,?_⟩
 rintro q3 n4 h7 ⟨_,i,hx,hi,N⟩
 simp only[List.cons.injEq,AV.sl.injEq,AV.int.injEq,true_and,and_true] at hx
 obtain⟨rfl,rfl⟩:=hx
 refine zB (λg=> ?_) (λg=> ?_)
 ·replace g:=of_decide_eq_true g
  have H7:=H.mono N.1
  have nexti:zC .i64 ((i:Int)+1)=((i+1:Nat):Int):=by rw[zF ⟨by omega,by omega⟩];omega
  rw[nexti]
  refine HasL.idx (E:=entE) H7 (by omega) (by omega) λpp' x hx hcc=>⟨_,_,_,_,hcc,?_⟩
  rw[Int.toNat_natCast] at hx
  have ht:l.take (i+1)=l.take i++[x]:=by rw[List.take_add_one,hx];rfl
  have e2:((x.1==m.1)&&((x.2.1==m.2)&&true))=atM m x:=by
   unfold atM
   rw[Bool.and_true]
   rfl
  rw[e2]
  refine zB (λg2=> ?_) (λg2=> ?_)
  ·unfold PNew
   have x1:Ext h7 (h7++[Blk.cells [.int .i64 x.2.2.1,.int .i64 x.2.2.2] true]):=.app _ _
   have hfl:=List.length_filter_le (atM m) (l.take i)
   refine New.append (E:=mmE) (N.ext x1) (HasL.new (E:=mmE) (l:=[x.2.2]) (n:=1) rfl (by simp[Enc.all,mmE])) (by unfold zA6;simp only[List.length_map,List.length_take,List.length_cons,List.length_nil] at hfl ⊢;omega) λq21 h22 N22=> ?_
   refine⟨⟨rfl,trivial⟩,⟨q21,i+1,rfl,by omega,?_⟩,by simp only;omega⟩
   unfold zA6 at N22 ⊢
   rw[ht,List.filter_append,List.filter_cons_of_pos (p:=atM m) g2,List.filter_nil,List.map_append];exact N22
  ·refine⟨⟨rfl,trivial⟩,⟨q3,i+1,rfl,by omega,?_⟩,by simp only;omega⟩
   unfold zA6 at N ⊢
   rw[ht,List.filter_append,List.filter_cons_of_neg (p:=atM m) (by simp[g2]),List.filter_nil,List.append_nil];exact N
 ·replace g:=of_decide_eq_false g
  have:i=l.length:=by omega
  subst this
  rw[List.take_length] at N
  exact hQ _ _ N)
theorem recs_at (hp:S.ps=ps.map PD.part)(rok:∀y∈S.run,yH y=true)(pok:∀d∈ps,d.x.ok):
  zA6 ((yA ((yA S.run).filter (atM m)++zBO ps (m.1,m.2,0,0))).takeWhile (atM m)) m=zA6 S.all m:=by
 have nn:∀y:Ent,yH y=true->0<=y.2.2.1/\0<=y.2.2.2:=λy hy=>by
  have h0:=of_decide_eq_true hy
  omega
 have hpf:∀l:List PD,(∀d∈l,d.x.ok)->(zBO l (m.1,m.2,0,0)).filter (atM m)=(l.flatMap λd=>d.x.l).filter (atM m)/\∀y∈zBO l (m.1,m.2,0,0),¬ltE y (m.1,m.2,0,0):=by
  intro l hl
  induction l with
  |nil=>exact⟨rfl,λy hy=>by cases hy⟩
  |cons d l ih=>
   obtain⟨i1,i2⟩:=ih λu hu=>hl u (List.mem_cons_of_mem _ hu)
   have o:=hl d List.mem_cons_self
   obtain⟨j1,j2⟩:=zKI (m:=m) o.so λy hy=>nn y (o.e y hy)
   unfold zBO at i1 i2 ⊢
   rw[List.flatMap_cons,List.flatMap_cons,List.filter_append,List.filter_append,i1,j1]
   refine⟨rfl,λy hy=> ?_⟩
   rcases List.mem_append.1 hy with hy|hy
   ·exact j2 y hy
   ·exact i2 y hy
 obtain⟨p1,p2⟩:=hpf ps pok
 have hP:(((yA S.run).filter (atM m)++zBO ps (m.1,m.2,0,0)).filter (atM m)).Perm ((S.run++S.lies).filter (atM m)):=by
  rw[List.filter_append,List.filter_append,p1,List.filter_filter,zMK hp]
  simp only[Bool.and_self]
  exact List.Perm.append_right _ ((zS S.run).filter _)
 have hF:(yA ((yA S.run).filter (atM m)++zBO ps (m.1,m.2,0,0))).filter (atM m)=S.all.filter (atM m):=
  (zEP (l:=(yA S.run).filter (atM m)++zBO ps (m.1,m.2,0,0)) (atM m)).symm.trans ((zHX hP).trans (zEP (l:=S.run++S.lies) (atM m)))
 rw[zMT (yD _) λy hy=> ?_]
 ·unfold zA6
  rw[List.filter_filter]
  simp only[Bool.and_self]
  rw[hF]
 ·have hy:=(zS _).mem_iff.1 hy
  rcases List.mem_append.1 hy with hy|hy
  ·obtain⟨h1,h2⟩:=List.mem_filter.1 hy
   have h3:=nn y (rok y ((zS S.run).mem_iff.1 h1))
   unfold atM at h2
   unfold ltE
   simp only[Bool.and_eq_true,decide_eq_true_eq] at h2 ⊢
   omega
  ·exact p2 y hy
attribute [local irreducible] yV in
theorem call90 {y:Ent}{p:PA}{K:AHp}(hk:AC Tryz.prog 90 [entV y,.ptr (some p)] h K):yV Tryz.prog (AC Tryz.prog) (.func (.func 90) [] [.ptr (some p)]) [entV y] h K:=by
 unfold yV
 exact hk
set_option maxRecDepth 20000 in
theorem gk27 (E:EV z h e)(R:StR z h e sb S ps)(rok:∀y∈S.run,yH y=true)(hl:ps.length<=63)(hr:S.run.length<=500)(hN:e.N+S.run.length+2*lenP ps<=800000)
  (hQ:∀q' h' P' N',EV z h' {e with P:=P',N:=N'}->StR z h' {e with P:=P',N:=N'} sb S ps->HasL mmE h' q' (zA6 S.all m)->N'<=e.N+S.run.length+2*lenP ps->zI e.pb h h'->h.length<=h'.length->(∀s,q'=some s->h.length<=s.b)->Q (.tup [.sl q',.int .i64 0]) h'):AC Tryz.prog 27 [.ptr (some ⟨sb,0⟩),mmV m] h Q:=ac27 (by
 unfold vc27 PNew
 have x1:Ext h (h++[Blk.cells [.int .i64 m.1,.int .i64 m.2] true]):=.app _ _
 have hb1:(h++[Blk.cells [.int .i64 m.1,.int .i64 m.2] true])[h.length]?=some (.cells [.int .i64 m.1,.int .i64 m.2] true):=by simp
 have l1:(h++[Blk.cells [AV.int .i64 m.1,.int .i64 m.2] true]).length=h.length+1:=by simp
 have E1:=E.grow x1
 have R1:StR z _ e sb S ps:=R.grow E x1
 have npb:¬e.pb h.length:=λhc=>by have:=E.cp.pool_lt hc;omega
 generalize h++[Blk.cells [AV.int .i64 m.1,.int .i64 m.2] true]=h1 at*
 refine gk68 R1 ⟨_,rfl,zB (λg=>by simp at g) (λ_=> ?_)⟩
 obtain⟨rb,qp,Or,a1,a2,a3,a4,a5,a6,a7⟩:=R1.at'
 have hc1:zA h1 ⟨h.length,0⟩ 2=some [.int .i64 m.1,.int .i64 m.2]:=by rw[zP (p:=⟨h.length,0⟩) hb1 (by simp)];rfl
 refine zQ ⟨some ⟨rb,0⟩,zU a1 (k:=3) rfl,_,_,hc1,_,_,hc1,?_⟩
 refine gk89 (m:=m) a3 λq17 h16 N16=>⟨_,rfl,⟨_,_,N16.1.cells hc1,rfl⟩,?_⟩
 have l16:=N16.1.len
 have hb16:=N16.1 _ _ hb1
 have hlen:((yA S.run).filter (atM m)).length<=S.run.length:=by
  have:=List.length_filter_le (atM m) (yA S.run)
  rw[(zS S.run).length_eq] at this;exact this
 refine gk85 (x:=(m.1,m.2,0,0)) (is:=atM m) (lr:=(yA S.run).filter (atM m)) (E1.grow N16.1) (R1.grow E1 N16.1) hl (by omega) N16.2.1.hasL (λs hs hc=>by have:=N16.2.2 s hs;have:=E.cp.pool_lt hc;omega) ((yD _).filter _) (by omega) (λen h2 K2 l2 K hK=> ?_) λq' h' P' N' E' R' H' hN' K' l' n'=>⟨_,_,rfl,?_⟩
 ·refine call90 (gk90 (m:=m) ?_ (hK h2 (.refl _)))
  rw[zP (p:=⟨h.length,0⟩) (K2 _ _ npb hb16) (by simp)];rfl
 ·have hc':zA h' ⟨h.length,0⟩ 2=some [.int .i64 m.1,.int .i64 m.2]:=by rw[zP (p:=⟨h.length,0⟩) (K' _ _ npb hb16) (by simp)];rfl
  refine⟨_,_,hc',?_⟩
  have hfl:=zF7 ps (m.1,m.2,0,0)
  have htw:=(List.takeWhile_sublist (l:=yA ((yA S.run).filter (atM m)++zBO ps (m.1,m.2,0,0))) (atM m)).length_le
  rw[(zS _).length_eq,List.length_append] at htw
  refine gk91 (m:=m) H' (by omega) λq26 h25 N25=>⟨_,rfl,?_⟩
  have l25:=N25.1.len
  rw[recs_at R.pe rok λd hd=>E.ok _ (R.pd d hd).mem] at N25
  refine hQ q26 h25 P' N' (E'.grow N25.1) (R'.grow E' N25.1) N25.hasL (by omega) (λb B hb hB=>N25.1 _ _ (K' b B hb (N16.1 _ _ (x1 _ _ hB)))) (by omega) λs hs=>by have:=N25.2.2 s hs;omega)
theorem gk30 (R:StR z h e sb S ps)(hQ:Q (.int .i64 (S.k:Nat)) h):AC Tryz.prog 30 [.ptr (some ⟨sb,0⟩)] h Q:=ac30 (by
 obtain⟨rb,qp,Or,a1,_⟩:=R.at'
 unfold vc30
 refine gk68 R ⟨_,rfl,zB (λg=>by simp at g) (λ_=> ?_)⟩
 exact zQ ⟨_,zU a1 (k:=5) rfl,hQ⟩)
theorem gk26 (R:StR z h e sb S ps)(hl:ps.length<=1000)(hs:S.size<=1000000)(hQ:∀h',Ext h h'->Q (.int .i64 (S.size:Nat)) h'):AC Tryz.prog 26 [.ptr (some ⟨sb,0⟩)] h Q:=ac26 (by
 unfold vc26
 refine gk24 R ⟨_,rfl,?_⟩
 refine gk23 R hl λq3 h3 N3=>⟨_,rfl,?_⟩
 have H:=N3.hasL
 have hll:=jX R.pe
 have hlp:∀i,lenP (ps.take i)<=lenP ps:=λi=>zDP ps i
 unfold SS.size at hs hQ
 rw[H.len,List.length_map]
 refine⟨λxs h7=>h7=h3/\∃i:Nat,xs=[.int .i64 ((S.run.length+lenP (ps.take i):Nat):Int),.int .i64 (i:Nat)]/\i<=ps.length,λxs _=>match xs with | [_,.int _ i]=>(ps.length-i).toNat|_=>0,⟨rfl,0,rfl,by omega⟩,?_⟩
 rintro n3 n4 h7 ⟨rfl,i,hx,hi⟩
 simp only[List.cons.injEq,AV.int.injEq,true_and,and_true] at hx
 obtain⟨rfl,rfl⟩:=hx
 refine zB (λg=> ?_) (λg=> ?_)
 ·replace g:=of_decide_eq_true g
  refine HasL.idx (E:=refE) H (by omega) (by rw[List.length_map];omega) λpp' x hx hcc=>⟨_,_,_,hcc,?_⟩
  rw[Int.toNat_natCast,List.getElem?_map] at hx
  obtain⟨d,hd,rfl⟩:=Option.map_eq_some_iff.1 hx
  have ht:ps.take (i+1)=ps.take i++[d]:=by rw[List.take_add_one,hd];rfl
  have h1:lenP (ps.take (i+1))=lenP (ps.take i)+d.x.l.length:=by rw[ht,zDQ];simp[lenP]
  have h2:=hlp (i+1)
  refine⟨trivial,⟨rfl,i+1,?_,by omega⟩,?_⟩
  ·have e1:zC .i64 (((S.run.length+lenP (ps.take i):Nat):Int)+d.ref.2.2)=((S.run.length+lenP (ps.take (i+1)):Nat):Int):=by
    show zC .i64 (((S.run.length+lenP (ps.take i):Nat):Int)+((d.x.l.length:Nat):Int))=_
    rw[zF ⟨by omega,by omega⟩,h1];omega
   rw[e1,zF (n:=(i:Int)+1) ⟨by omega,by omega⟩]
   simp
  ·simp only
   rw[zF (n:=(i:Int)+1) ⟨by omega,by omega⟩]
   omega
 ·replace g:=of_decide_eq_false g
  have:i=ps.length:=by omega
  subst this
  rw[List.take_length,<-hll]
  exact hQ _ N3.1)
theorem gk29n (R:StR z h e sb S [])(hQ:Q (.int .i64 0) h):AC Tryz.prog 29 [.ptr (some ⟨sb,0⟩)] h Q:=ac29 (by
 obtain⟨rb,qp,Or,a1,a2,_⟩:=R.at'
 unfold vc29
 refine gk68 R ⟨_,rfl,zB (λg=>by simp at g) (λ_=> ?_)⟩
 refine zQ ⟨_,zU a1 (k:=4) rfl,?_⟩
 rw[a2.hasL.len]
 refine⟨λxs h7=>xs=[.int .i64 0]/\h7=h,λ_ _=>0,⟨rfl,rfl⟩,?_⟩
 rintro n8 h7 ⟨hx,rfl⟩
 simp only[List.cons.injEq,AV.int.injEq,true_and,and_true] at hx
 subst hx
 exact zB (λg=>by simp at g) (λ_=>hQ))
theorem gk35 {a b:List (Int×Int)}(H1:HasL mmE h q1 a)(H2:HasL mmE h q2 b)(hl:a.length<=1000000)(hQ:Q (.bool (decide (a=b))) h):AC Tryz.prog 35 [.sl q1,.sl q2] h Q:=ac35 (by
 unfold vc35
 rw[H1.len,H2.len]
 refine zB (λg=> ?_) (λg=> ?_)
 ·have:a≠b:=λhc=>by rw[hc] at g;simp at g
  rw[decide_eq_false this] at hQ;exact hQ
 have hle:a.length=b.length:=by
  have:((a.length:Nat):Int)=((b.length:Nat):Int):=by simpa using g
  omega
 refine⟨λxs h7=>h7=h/\∃i:Nat,xs=[.int .i64 (i:Nat)]/\i<=a.length/\a.take i=b.take i,λxs _=>match xs with | [.int _ i]=>(a.length-i).toNat|_=>0,⟨rfl,0,rfl,by omega,rfl⟩,?_⟩
 rintro n4 h7 ⟨rfl,i,hx,hi,he⟩
 simp only[List.cons.injEq,AV.int.injEq,true_and,and_true] at hx
 subst hx
 refine zB (λg=> ?_) (λg=> ?_)
 ·replace g:=of_decide_eq_true g
  refine HasL.idx (E:=mmE) H1 (by omega) (by omega) λpp x hx hcc=>⟨_,_,hcc,?_⟩
  refine HasL.idx (E:=mmE) H2 (by omega) (by omega) λpp2 y hy hcc2=>⟨_,_,hcc2,?_⟩
  rw[Int.toNat_natCast] at hx hy
  have e1:((x.1==y.1)&&((x.2==y.2)&&true))=decide (x=y):=by
   rw[Bool.eq_iff_iff]
   simp only[Bool.and_true,Bool.and_eq_true,beq_iff_eq,decide_eq_true_eq,Prod.ext_iff]
  rw[e1]
  refine zB (λg3=> ?_) (λg3=> ?_)
  ·have hxy:x≠y:=by simpa using g3
   have:a≠b:=λhc=>hxy (by rw[hc,hy] at hx;exact(Option.some.inj hx).symm)
   rw[decide_eq_false this] at hQ;exact hQ
  ·have hxy:x=y:=by simpa using g3
   rw[zF ⟨by omega,by omega⟩]
   refine⟨trivial,⟨rfl,i+1,by simp,by omega,?_⟩,by simp only;omega⟩
   rw[List.take_add_one,List.take_add_one,hx,hy,he,hxy]
 ·replace g:=of_decide_eq_false g
  have:i=a.length:=by omega
  subst this
  rw[List.take_length] at he
  have h2:b.take a.length=b:=by rw[hle,List.take_length]
  rw[h2] at he
  rw[decide_eq_true he] at hQ;exact hQ)
end
end Go.Proofs.YtafmabnolelknaaGreatDoor
