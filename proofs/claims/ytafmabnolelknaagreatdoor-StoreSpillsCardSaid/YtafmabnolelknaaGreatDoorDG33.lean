import Derived.Test.YtafmabnolelknaaGreatDoorDG11
import Derived.Test.YtafmabnolelknaaGreatDoorDG32
namespace Go.Proofs.YtafmabnolelknaaGreatDoor
open Go.Ab
open Go.Num hiding Bs snoc_ind
open Go.Ent Go.Seg Go.Sto
open Go.Page hiding Bs get
open Go.Dsk hiding Bs
open Go.Pool hiding Bs Ents zT Fr least
open Go.Cur
set_option linter.unusedVariables false
set_option linter.unusedSimpArgs false
structure Lf(h0:Heap)(X:Nat->Prop)(h:Heap)(S:SS)(w sb dp pp n:Nat):Prop where
 at':∃(z:Nat->Prop) (e:Env) (ps:List PD) (v3 v4:AV),St z h e sb S ps/\e.dp=dp/\h[w]?=some (.cells [.ptr (some ⟨dp,0⟩),.ptr (some ⟨pp,0⟩),.ptr (some ⟨sb,0⟩),v3,v4] true)/\(∀b,b=w∨X b->b<h.length/\¬(z b∨e.pb b))/\e.N<=n/\e.room=100/\(∀b,z b∨e.pb b->h0.length<=b)/\Ext h0 h
section
variable{X:Nat->Prop}{h0 h h':Heap}{S S':SS}{w sb dp pp n n':Nat}{Q:AHp}{y:Ent}{m:Mom}
theorem zCY {z z':Nat->Prop}{e e':Env}{ps':List PD}{v3 v4:AV}(hd:e.dp=dp)(hw:h[w]?=some (.cells [.ptr (some ⟨dp,0⟩),.ptr (some ⟨pp,0⟩),.ptr (some ⟨sb,0⟩),v3,v4] true))(hx:∀b,b=w∨X b->b<h.length/\¬(z b∨e.pb b))(hr:e.room=100)(h0z:∀b,z b∨e.pb b->h0.length<=b)(x0:Ext h0 h)
  (W:Went z h e z' h' e')(T':St z' h' e' sb S' ps')(hN:e'.N<=n'):Lf h0 X h' S' w sb dp pp n'/\zI (λb=>¬X b) h h':=by
 have l0:=x0.len
 have low:∀b,z' b∨e'.pb b->(z b∨e.pb b)∨h.length<=b:=λb hc=>by
  rcases hc with hc|hc
  ·exact(W.zn b hc).imp .inl id
  ·exact .inl (.inr ((W.pb.1 b).1 hc))
 refine⟨⟨z',e',ps',v3,v4,T',W.dp.trans hd,W.K _ _ (hx w (.inl rfl)).2 hw,λb hb=>⟨Nat.lt_of_lt_of_le (hx b hb).1 W.l,λhc=> ?_⟩,hN,W.pb.2.1.trans hr,λb hb=> ?_,λb B hB=> ?_⟩,λb B hb hB=>W.K b B (hx b (.inr (Classical.not_not.1 hb))).2 hB⟩
 ·rcases low b hc with h2|h2
  ·exact(hx b hb).2 h2
  ·have:=(hx b hb).1;omega
 ·rcases low b hb with h2|h2
  ·exact h0z b h2
  ·omega
 ·exact W.K b B (λhc=>by have:=h0z b hc;have:=zD hB;omega) (x0 b B hB)
theorem Lf.d (L:Lf h0 X h S w sb dp pp n):zA h ⟨w,0+0⟩ 1=some [.ptr (some ⟨dp,0⟩)]:=by
 obtain⟨z,e,ps,v3,v4,T,hd,hw,_⟩:=L.at'
 exact zU hw (k:=0) rfl
theorem Lf.p (L:Lf h0 X h S w sb dp pp n):zA h ⟨w,0+1⟩ 1=some [.ptr (some ⟨pp,0⟩)]:=by
 obtain⟨z,e,ps,v3,v4,T,hd,hw,_⟩:=L.at'
 exact zU hw (k:=1) rfl
theorem Lf.s (L:Lf h0 X h S w sb dp pp n):zA h ⟨w,0+2⟩ 1=some [.ptr (some ⟨sb,0⟩)]:=by
 obtain⟨z,e,ps,v3,v4,T,hd,hw,_⟩:=L.at'
 exact zU hw (k:=2) rfl
theorem Lf.grow (L:Lf h0 X h S w sb dp pp n)(x:Ext h h'):Lf h0 X h' S w sb dp pp n:=by
 obtain⟨z,e,ps,v3,v4,T,hd,hw,hx,hN,hr,h0z,x0⟩:=L.at'
 exact(zCY hd hw hx hr h0z x0 (Went.grow x) (T.grow x) hN).1
theorem Lf.add (L:Lf h0 X h S w sb dp pp n)(hk:S.k<90)(hs:S.nm.length<=20)(hz:S.size<=10)(hl:1<=S.lim)(hQ:∀h',Lf h0 X h' (S.add (yM y) y).2 w sb dp pp n->zI (λb=>¬X b) h h'->Q (.int .i64 (S.add (yM y) y).1) h'):AC Tryz.prog 14 [.ptr (some ⟨sb,0⟩),entV y] h Q:=by
 obtain⟨z,e,ps,v3,v4,T,hd,hw,hx,hN,hr,h0z,x0⟩:=L.at'
 refine gk14 T (by omega) (.inl (by omega)) hs (by omega) (by omega) hl λz' h2 e' ps' W T' n'=> ?_
 obtain⟨a,b⟩:=zCY hd hw hx hr h0z x0 W T' (n':=n) (by omega)
 exact hQ h2 a b
theorem Lf.spill (L:Lf h0 X h S w sb dp pp n)(hk:S.k<90)(hs:S.nm.length<=20)(hz:S.size<=10)(hQ:∀h',Lf h0 X h' S.spill.2 w sb dp pp n->zI (λb=>¬X b) h h'->Q (.int .i64 S.spill.1) h'):AC Tryz.prog 15 [.ptr (some ⟨sb,0⟩)] h Q:=by
 obtain⟨z,e,ps,v3,v4,T,hd,hw,hx,hN,hr,h0z,x0⟩:=L.at'
 refine gk15 T (by omega) (.inl (by omega)) hs (by omega) (by omega) λz' h2 e' ps' W T' n'=> ?_
 obtain⟨a,b⟩:=zCY hd hw hx hr h0z x0 W T' (n':=n) (by omega)
 exact hQ h2 a b
theorem Lf.compact (L:Lf h0 X h S w sb dp pp n)(hk:S.k<90)(hs:S.nm.length<=20)(hz:S.size<=10)(hn:n<=1000)(hf:∀p∈S.ps,p.fs.length<=1000000/\∀f∈p.fs,f.length<=1000000)(hQ:∀h',Lf h0 X h' S.compact.2 w sb dp pp (n+20)->zI (λb=>¬X b) h h'->Q (.int .i64 S.compact.1) h'):AC Tryz.prog 16 [.ptr (some ⟨sb,0⟩)] h Q:=by
 obtain⟨z,e,ps,v3,v4,T,hd,hw,hx,hN,hr,h0z,x0⟩:=L.at'
 have hlp:lenP ps<=S.size:=by
  have:=jX T.R.pe
  unfold SS.size;omega
 refine gk16 T (by omega) (.inl (by omega)) hs (by omega) (by omega) (by omega) (λd hd=>hf d.part (by rw[T.R.pe];exact List.mem_map_of_mem hd)) λz' h2 e' ps' W T' n'=> ?_
 obtain⟨a,b⟩:=zCY hd hw hx hr h0z x0 W T' (n':=n+20) (by omega)
 exact hQ h2 a b
theorem Lf.keep {q2:OSl}{f:List Mom}(L:Lf h0 X h S w sb dp pp n)(hz:S.size<=10)(Hf:HasL mmE h q2 f)(hfl:f.length<=1000)(nf:∀s,q2=some s->X s.b)(hff:∀p∈S.ps,p.fs.length<=900000)(hg:∀ps:List PD,S.ps=ps.map PD.part->zCD S f ps=n')(hQ:∀h',Lf h0 X h' (S.keep f) w sb dp pp n->zI (λb=>¬X b) h h'->Q (.tup [.int .i64 n',.int .i64 0]) h'):AC Tryz.prog 17 [.ptr (some ⟨sb,0⟩),.sl q2] h Q:=by
 obtain⟨z,e,ps,v3,v4,T,hd,hw,hx,hN,hr,h0z,x0⟩:=L.at'
 refine gk17 T (by omega) Hf (by omega) (λs hs=>⟨λhc=>(hx _ (.inr (nf s hs))).2 (.inl hc),λhc=>(hx _ (.inr (nf s hs))).2 (.inr hc)⟩) (λd hd=>hff d.part (by rw[T.R.pe];exact List.mem_map_of_mem hd)) λz' h2 e' ps' W T' n2=> ?_
 obtain⟨a,b⟩:=zCY hd hw hx hr h0z x0 W T' (n':=n) (by omega)
 rw[hg ps T.R.pe]
 exact hQ h2 a b
def refP(p:Part):List UInt8×Int×Int:=(p.nm,(p.base:Nat),(p.l.length:Nat))
theorem Lf.parts (L:Lf h0 X h S w sb dp pp n)(hQ:∀q' h',Lf h0 (λb=>X b∨inq q' b) h' S w sb dp pp n->zI (λb=>¬X b) h h'->HasL refE h' q' (S.ps.map refP)->Q (.sl q') h'):AC Tryz.prog 23 [.ptr (some ⟨sb,0⟩)] h Q:=by
 obtain⟨z,e,ps,v3,v4,T,hd,hw,hx,hN,hr,h0z,x0⟩:=L.at'
 refine gk23 T.R (by have:=T.few;omega) λq' h2 N=> ?_
 have hm:ps.map PD.ref=S.ps.map refP:=by rw[T.R.pe,List.map_map];rfl
 rw[hm] at N
 obtain⟨a,b⟩:=zCY hd hw hx hr h0z x0 (Went.grow N.1) (T.grow N.1) hN
 have l2:=N.1.len
 refine hQ q' h2 ⟨z,e,ps,v3,v4,T.grow N.1,hd,N.1 _ _ hw,λc hc=> ?_,hN,hr,h0z,x0.trans N.1⟩ b N.hasL
 rcases hc with hc|hc|⟨s,hs,hc⟩
 ·exact⟨Nat.lt_of_lt_of_le (hx c (.inl hc)).1 l2,(hx c (.inl hc)).2⟩
 ·exact⟨Nat.lt_of_lt_of_le (hx c (.inr hc)).1 l2,(hx c (.inr hc)).2⟩
 ·have h1:=N.2.2 s hs
  have h3:=HasL.live N.hasL s hs
  refine⟨by omega,λho=> ?_⟩
  rcases ho with ho|ho
  ·have:=T.E.zl c ho;omega
  ·have:=T.E.cp.pool_lt ho;omega
theorem Lf.at (L:Lf h0 X h S w sb dp pp n)(hz:S.size<=10)(hn:n<=1000)(hQ:∀q' h',Lf h0 (λb=>X b∨inq q' b) h' S w sb dp pp (n+40)->zI (λb=>¬X b) h h'->HasL mmE h' q' (zA6 S.all m)->Q (.tup [.sl q',.int .i64 0]) h'):AC Tryz.prog 27 [.ptr (some ⟨sb,0⟩),mmV m] h Q:=by
 obtain⟨z,e,ps,v3,v4,T,hd,hw,hx,hN,hr,h0z,x0⟩:=L.at'
 have hlp:=jX T.R.pe
 unfold SS.size at hz
 refine gk27 T.E T.R T.ok (by have:=T.few;omega) (by omega) (by omega) λq' h2 P' N' E' R' H' hN' K' l' n'=> ?_
 have W:Went z h e z h2 {e with P:=P',N:=N'}:=⟨λc B hc hB=>K' c B (λho=>hc (.inr ho)) hB,l',λ_ h=>h,λ_ h=>.inl h,⟨λ_=>Iff.rfl,rfl,rfl⟩,rfl⟩
 have T2:St z h2 {e with P:=P',N:=N'} sb S ps:=⟨E',R',T.gs,T.nm,T.few,T.ok⟩
 obtain⟨a,b⟩:=zCY hd hw hx hr h0z x0 W T2 (n':=n+40) (by show N'<=_;omega)
 refine hQ q' h2 ⟨z,_,ps,v3,v4,T2,hd,K' _ _ (λho=>(hx w (.inl rfl)).2 (.inr ho)) hw,λc hc=> ?_,by show N'<=_;omega,hr,h0z,λc B hB=>K' c B (λho=>by have:=h0z c (.inr ho);have:=zD hB;omega) (x0 c B hB)⟩ b H'
 rcases hc with hc|hc|⟨s,hs,hc⟩
 ·exact⟨Nat.lt_of_lt_of_le (hx c (.inl hc)).1 l',(hx c (.inl hc)).2⟩
 ·exact⟨Nat.lt_of_lt_of_le (hx c (.inr hc)).1 l',(hx c (.inr hc)).2⟩
 ·have h1:=n' s hs
  have h3:=HasL.live H' s hs
  refine⟨by omega,λho=> ?_⟩
  rcases ho with ho|ho
  ·have:=T.E.zl c ho;omega
  ·have:e.pb c:=ho
   have:=T.E.cp.pool_lt this;omega
end
def ea:Ent:=(1,0,5,0)
def eb:Ent:=(0,0,7,0)
def ec:Ent:=(1,0,3,0)
theorem srt2:yA [ea,eb]=[eb,ea]:=jW (by simp[zN,leE,ltE,ea,eb]) (List.Perm.swap _ _ _)
theorem srt1:yA [ec]=[ec]:=jW (by simp[zN]) (.refl _)
theorem srt3:yA [eb,ea,ec]=[eb,ec,ea]:=jW (by simp[zN,leE,ltE,ea,eb,ec]) ((List.Perm.swap _ _ _).cons _)
theorem srt4:yA [ec,eb,ea]=[eb,ec,ea]:=jW (by simp[zN,leE,ltE,ea,eb,ec]) ((List.Perm.swap _ _ _))
abbrev q0:Part:=⟨[115,46,48],1,[eb,ea],[]⟩
abbrev q1':Part:=⟨[115,46,49],1048577,[ec],[]⟩
abbrev q2':Part:=⟨[115,46,50],2097153,[eb,ec,ea],[]⟩
abbrev t0:SS:=⟨[115],2,0,[],[]⟩
abbrev t1:SS:=⟨[115],2,0,[ea],[]⟩
abbrev t2:SS:=⟨[115],2,0,[ea,eb],[]⟩
abbrev t3:SS:=⟨[115],2,1,[ec],[q0]⟩
abbrev t4:SS:=⟨[115],2,2,[],[q0,q1']⟩
abbrev t5:SS:=⟨[115],2,3,[],[q2']⟩
abbrev t6:SS:=⟨[115],2,3,[],[]⟩
theorem er0:yM ea=0/\yM eb=0/\yM ec=0:=⟨zAM.2 (by decide),zAM.2 (by decide),zAM.2 (by decide)⟩
theorem st1:t0.add (yM ea) ea=(0,t1):=by rw[er0.1];rfl
theorem st2:t1.add (yM eb) eb=(0,t2):=by rw[er0.2.1];rfl
theorem st3:t2.add (yM ec) ec=(0,t3):=by
 rw[er0.2.2]
 show(0,(⟨[115],2,1,[ec],[⟨jR [115] 0,vV 0,yA [ea,eb],[]⟩]⟩:SS))=_
 rw[srt2];rfl
theorem st4:t3.spill=(0,t4):=by
 show(0,(⟨[115],2,2,[],[q0,⟨jR [115] 1,vV 1,yA [ec],[]⟩]⟩:SS))=_
 rw[srt1];rfl
theorem st5:t4.compact=(0,t5):=by
 show(0,(⟨[115],2,3,[],[⟨jR [115] 2,vV 2,yA [eb,ea,ec],[]⟩]⟩:SS))=_
 rw[srt3];rfl
theorem st6:t5.keep [(2,0)]=t6:=rfl
theorem st7:zA6 t3.all (1,0)=[(3,0),(5,0)]:=by
 show zA6 (yA [ec,eb,ea]) (1,0)=_
 rw[srt4];rfl
theorem st8 (ps:List PD)(h:t5.ps=ps.map PD.part):zCD t5 [(2,0)] ps=((3:Nat):Int):=by
 obtain⟨d,rfl,h1⟩:=List.map_eq_singleton_iff.1 (show ps.map PD.part=[q2'] from h.symm)
 have h2:d.x.l=[eb,ec,ea]:=congrArg Part.l h1
 unfold zCD zKF
 simp only[List.filter_cons,List.filter_nil]
 have h3:covd [(2,0)] d=false:=by unfold covd;rw[h2];rfl
 rw[h3]
 simp only[Bool.not_false,if_true,List.map_cons,List.map_nil,h2]
 rfl
section
variable{X:Nat->Prop}{h0 h h':Heap}{S S':SS}{w sb dp pp n n':Nat}{Q:AHp}{y:Ent}{m:Mom}
theorem Lf.new {B:Blk}(L:Lf h0 X h S w sb dp pp n):Lf h0 (λb=>X b∨b=h.length) (h++[B]) S w sb dp pp n:=by
 obtain⟨z,e,ps,v3,v4,T,hd,hw,hx,hN,hr,h0z,x0⟩:=L.at'
 have x:Ext h (h++[B]):=.app _ _
 have hl:(h++[B]).length=h.length+1:=by simp
 refine⟨z,e,ps,v3,v4,T.grow x,hd,x _ _ hw,λb hb=> ?_,hN,hr,h0z,x0.trans x⟩
 rw[hl]
 rcases hb with hb|hb|hb
 ·exact⟨by have:=(hx b (.inl hb)).1;omega,(hx b (.inl hb)).2⟩
 ·exact⟨by have:=(hx b (.inr hb)).1;omega,(hx b (.inr hb)).2⟩
 ·refine⟨by omega,λho=> ?_⟩
  rcases ho with ho|ho
  ·have:=T.E.zl b ho;omega
  ·have:=T.E.cp.pool_lt ho;omega
theorem Lf.ext (L:Lf h0 X h S w sb dp pp n):Ext h0 h:=by
 obtain⟨z,e,ps,v3,v4,T,hd,hw,hx,hN,hr,h0z,x0⟩:=L.at'
 exact x0
set_option maxRecDepth 20000 in
set_option maxHeartbeats 1000000 in
theorem l13c (L:Laid h)(hQ:∀h',Ext h h'->Q (.bool true) h'):AC Tryz.prog 13 [] h Q:=ac13 (by
 unfold vc13
 refine gk12 (F0:=λ_=>False) (room:=100) (k:=0) (s:=[115]) L (λ_ h=>h.elim) (by omega) ⟨Nat.le_refl _,by simp⟩ (by omega) (λhc _ _=>by omega) λlim hlim l1 l2 z e sb w b1 b2 h2 x2 T eN er eF hz hw nzw npw h0w=>⟨_,rfl,zB (λg=>by simp at g) (λ_=> ?_)⟩
 have hlim2:lim=2:=by omega
 subst hlim2
 have L0:Lf h (λ_=>False) h2 t0 w sb e.dp e.p 0:=⟨z,e,[],_,_,T,rfl,hw,λb hb=>by
  rcases hb with rfl|hb
  ·exact⟨zD hw,λhc=>hc.elim nzw npw⟩
  ·exact hb.elim,Nat.le_of_eq eN,er,hz,x2⟩
 generalize e.dp=dp at*
 generalize e.p=pp at*
 clear hz hw nzw npw h0w T eN er eF
 refine zQ ⟨_,L0.s,zQ ⟨_,L0.s,zQ ⟨_,L0.s,?_⟩⟩⟩
 refine ac67 ?_
 unfold vc67
 refine⟨_,_,_,_,rfl,⟨_,L0.s,rfl⟩,⟨_,L0.s,rfl⟩,⟨_,L0.s,rfl⟩,?_⟩
 refine L0.add (y:=ea) (by decide) (by decide) (by decide) (by decide) λh17 L1 K1=>⟨_,rfl,?_⟩
 rw[st1] at L1 ⊢
 refine⟨⟨_,L1.s,rfl⟩,⟨_,L1.s,rfl⟩,?_⟩
 refine ac67 ?_
 unfold vc67
 refine⟨_,_,_,_,rfl,⟨_,L1.s,rfl⟩,⟨_,L1.s,rfl⟩,?_⟩
 refine L1.add (y:=eb) (by decide) (by decide) (by decide) (by decide) λh26 L2 K2=>⟨_,rfl,?_⟩
 rw[st2] at L2 ⊢
 refine⟨⟨_,L2.s,rfl⟩,?_⟩
 refine ac67 ?_
 unfold vc67
 refine⟨_,_,_,_,rfl,⟨_,L2.s,rfl⟩,?_⟩
 refine L2.add (y:=ec) (by decide) (by decide) (by decide) (by decide) λh35 L3 K3=>⟨_,rfl,?_⟩
 rw[st3] at L3 ⊢
 refine zQ ⟨_,L3.s,?_⟩
 refine L3.at (m:=(1,0)) (by decide) (by omega) λq41 h40 L4 K4 H4=>⟨_,_,rfl,?_⟩
 rw[st7] at H4
 refine zQ ⟨_,L4.s,?_⟩
 refine L4.parts λq47 h46 L5 K5 H5=>⟨_,rfl,?_⟩
 have H4:=K5.hasL (λs hs hc=>hc (.inr ⟨s,hs,rfl⟩)) H4
 refine zQ ⟨_,L5.s,?_⟩
 refine L5.spill (by decide) (by decide) (by decide) λh51 L6 K6=>⟨_,rfl,?_⟩
 rw[st4] at L6 ⊢
 have H4:=K6.hasL (λs hs hc=>hc (.inl (.inr ⟨s,hs,rfl⟩))) H4
 have H5:=K6.hasL (λs hs hc=>hc (.inr ⟨s,hs,rfl⟩)) H5
 refine zQ ⟨_,L6.s,?_⟩
 refine L6.compact (by decide) (by decide) (by decide) (by omega) (λp hp=>by
  have:p.fs=[]:=by
   simp only[List.mem_cons,List.not_mem_nil,or_false] at hp
   rcases hp with rfl|rfl<;>rfl
  rw[this];exact⟨Nat.zero_le _,λf hf=>by cases hf⟩) λh56 L7 K7=>⟨_,rfl,?_⟩
 rw[st5] at L7 ⊢
 have H4:=K7.hasL (λs hs hc=>hc (.inl (.inr ⟨s,hs,rfl⟩))) H4
 have H5:=K7.hasL (λs hs hc=>hc (.inr ⟨s,hs,rfl⟩)) H5
 refine zQ ⟨_,L7.s,?_⟩
 refine L7.parts λq62 h61 L8 K8 H8=>⟨_,rfl,?_⟩
 have H4:=K8.hasL (λs hs hc=>hc (.inl (.inr ⟨s,hs,rfl⟩))) H4
 have H5:=K8.hasL (λs hs hc=>hc (.inr ⟨s,hs,rfl⟩)) H5
 refine zQ ⟨_,L8.s,?_⟩
 unfold PNew
 have L9:=L8.new (B:=.cells [.int .i64 2,.int .i64 0] true)
 have Hf:HasL mmE (h61++[Blk.cells [.int .i64 2,.int .i64 0] true]) (some ⟨h61.length,0,1,1,0⟩) [(2,0)]:=HasL.new (n:=1) rfl rfl
 have x9:Ext h61 (h61++[Blk.cells [.int .i64 2,.int .i64 0] true]):=.app _ _
 have H4:=H4.mono x9
 have H5:=H5.mono x9
 have H8:=H8.mono x9
 generalize h61++[Blk.cells [AV.int .i64 2,.int .i64 0] true]=h66 at*
 refine L9.keep (n':=3) (f:=[(2,0)]) (by decide) Hf (by decide) (λs hs=>by cases hs;exact .inr rfl) (λp hp=>by
  have:p.fs=[]:=by
   simp only[List.mem_cons,List.not_mem_nil,or_false] at hp
   rw[hp]
  rw[this];exact Nat.zero_le _) (λps hp=>st8 ps hp) λh68 LA KA=>⟨_,_,rfl,?_⟩
 rw[st6] at LA
 have H4:=KA.hasL (λs hs hc=>hc (.inl (.inl (.inl (.inr ⟨s,hs,rfl⟩))))) H4
 have H5:=KA.hasL (λs hs hc=>hc (.inl (.inl (.inr ⟨s,hs,rfl⟩)))) H5
 have H8:=KA.hasL (λs hs hc=>hc (.inl (.inr ⟨s,hs,rfl⟩))) H8
 refine zQ ⟨_,LA.d,zQ ⟨_,LA.p,?_⟩⟩
 refine ac33 ?_
 unfold vc33
 refine zB (λg=>by simp at g) (λ_=>zB (λg=>by simp at g) (λ_=> ?_))
 refine gk101 (λhc=>by omega) λlim _ _ _ h76 x76 _=>⟨_,_,rfl,zB (λg=>by simp at g) (λ_=>zB (λ_=> ?_) (λg=>by simp at g))⟩
 refine⟨_,_,rfl,?_⟩
 have LB:=LA.grow x76
 have H4:=H4.mono x76
 have H5:=H5.mono x76
 have H8:=H8.mono x76
 refine zQ ⟨_,LB.p,?_⟩
 refine ac33 ?_
 unfold vc33
 refine zB (λ_=> ?_) (λg=>by simp at g)
 refine⟨_,_,rfl,?_⟩
 refine zB (λ_=> ?_) (λg=>by simp at g)
 refine zB (λ_=> ?_) (λg=>by simp at g)
 refine zB (λ_=> ?_) (λg=>by simp at g)
 refine zB (λ_=> ?_) (λg=>by simp at g)
 show AC Tryz.prog 35 [.sl q41,.sl (some ⟨h76.length,0,2,2,0⟩)] (h76++[.cells [.int .i64 3,.int .i64 0,.int .i64 5,.int .i64 0] true]) _
 have LC:=LB.new (B:=.cells [.int .i64 3,.int .i64 0,.int .i64 5,.int .i64 0] true)
 have He:HasL mmE (h76++[Blk.cells [.int .i64 3,.int .i64 0,.int .i64 5,.int .i64 0] true]) (some ⟨h76.length,0,2,2,0⟩) [(3,0),(5,0)]:=HasL.new (n:=2) rfl rfl
 have xC:Ext h76 (h76++[Blk.cells [.int .i64 3,.int .i64 0,.int .i64 5,.int .i64 0] true]):=.app _ _
 have H4:=H4.mono xC
 have H5:=H5.mono xC
 have H8:=H8.mono xC
 generalize h76++[Blk.cells [AV.int .i64 3,.int .i64 0,.int .i64 5,.int .i64 0] true]=h86 at*
 refine gk35 H4 He (by decide) ⟨_,rfl,zB (λ_=> ?_) (λg=>by simp at g)⟩
 rw[H5.len]
 refine zB (λ_=> ?_) (λg=>by simp at g)
 refine HasL.idx (E:=refE) H5 (by omega) (by simp) λpp5 x5 hx5 hc5=>⟨_,_,_,hc5,?_⟩
 cases hx5
 refine zB (λ_=> ?_) (λg=>by simp[refP] at g)
 refine zB (λ_=> ?_) (λg=>by simp at g)
 refine zB (λ_=> ?_) (λg=>by simp at g)
 rw[H8.len]
 refine zB (λ_=> ?_) (λg=>by simp at g)
 refine HasL.idx (E:=refE) H8 (by omega) (by simp) λpp8 x8 hx8 hc8=>⟨_,_,_,hc8,?_⟩
 cases hx8
 refine zB (λ_=> ?_) (λg=>by simp[refP] at g)
 refine zB (λ_=> ?_) (λg=>by simp at g)
 refine zB (λ_=> ?_) (λg=>by simp at g)
 refine zQ ⟨_,LC.s,?_⟩
 obtain⟨z,e,ps,v3,v4,T,hd,hw,hx,hN,hr,h0z,x0⟩:=LC.at'
 have hps:ps=[]:=List.map_eq_nil_iff.1 T.R.pe.symm
 subst hps
 refine gk26 T.R (Nat.zero_le _) (Nat.zero_le _) λh101 x101=>⟨_,rfl,zB (λ_=> ?_) (λg=>by simp[SS.size,SS.lies] at g)⟩
 have LD:=LC.grow x101
 have TD:=T.grow x101
 refine zQ ⟨_,LD.s,?_⟩
 refine gk24 TD.R ⟨_,rfl,zB (λ_=> ?_) (λg=>by simp at g)⟩
 refine zQ ⟨_,LD.s,?_⟩
 refine gk30 TD.R ⟨_,rfl,zB (λ_=> ?_) (λg=>by simp at g)⟩
 refine zQ ⟨_,LD.d,?_⟩
 subst hd
 refine d62 TD.E.R λq117 h116 N116=>⟨_,rfl,?_⟩
 have hD:e.D.list=[]:=by
  show((vO (((e.gs.map GF.fa)).map (·.name))).map _)=[]
  rw[T.gs];rfl
 rw[N116.hasL.len,hD]
 refine zB (λ_=> ?_) (λg=>by simp at g)
 have LE:=LD.grow N116.1
 have TE:=TD.grow N116.1
 refine zQ ⟨_,LE.s,?_⟩
 refine gk29n TE.R ⟨_,rfl,zB (λ_=> ?_) (λg=>by simp at g)⟩
 refine zB (λ_=> ?_) (λg=>by simp at g)
 exact hQ _ LE.ext)
end
section
variable{h:Heap}{q1 q3 q4:OSl}{l:List Ent}{l3 l4:List Int}{Q:AHp}
set_option maxRecDepth 20000 in
set_option maxHeartbeats 1000000 in
theorem s4 {n2:Int}(IT:ITH 130 h)(L:Laid h)(H:HasL entE h q1 l)(H3:HasL intE h q3 l3)(H4:HasL intE h q4 l4)(hQ:∀h',Q (.bool true) h'):AC Tryz.prog 4 [.sl q1,.int .i64 n2,.sl q3,.sl q4] h Q:=ac4 (by
 unfold vc4
 have l0:=L.len
 refine gk12 (F0:=λ_=>False) (room:=16384) (k:=0) (s:=[115]) L (λ_ h=>h.elim) (by omega) ⟨Nat.le_refl _,by simp⟩ (by omega) (λ_ h6 x6=>⟨_,rfl,?_⟩) λlim hlim l1 l2 za ea sa a a1 a2 h6 x6 TA eN er eF hz ha nza npa h0a=>⟨_,rfl,?_⟩
 ·have L6:=L.ext x6
  refine gk12 (F0:=λ_=>False) (room:=16384) (k:=9) (s:=[116]) L6 (λ_ h=>h.elim) (by omega) ⟨Nat.le_refl _,by simp⟩ (by omega) (λhc _ _=>by omega) λlim hlim l1 l2 zb eb sb b b1 b2 h9 x9 TB eNb erb eFb hzb hb nzb npb h0b=>⟨_,rfl,?_⟩
  have L9:=L6.ext x9
  refine l13c L9 λh10 x10=>⟨_,rfl,zB (λg=>by simp at g) (λ_=>zB (λ_=> ?_) (λg=>by simp at g))⟩
  exact l13c (L9.ext x10) λ_ _=>⟨_,rfl,hQ _⟩
 have L6:=L.ext x6
 have oa:∀c,za c∨ea.pb c->c<h6.length:=λc hc=>hc.elim (TA.E.zl c) λhc=>TA.E.cp.pool_lt hc
 refine gk12 (F0:=λc=>za c∨ea.pb c) (room:=16384) (k:=9) (s:=[116]) L6 oa (by omega) ⟨Nat.le_refl _,by simp⟩ (by omega) (λhc _ _=>by omega) λlimb hlimb l1b l2b zb eb sb b b1 b2 h9 x9 TB eNb erb eFb hzb hb nzb npb h0b=>⟨_,rfl,?_⟩
 have L9:=L6.ext x9
 refine l13c L9 λh10 x10=>⟨_,rfl,zB (λg=>by simp at g) (λ_=>zB (λg=>by simp at g) (λ_=>zB (λg=>by simp at g) (λ_=> ?_)))⟩
 refine zB (λ_=>l13c (L9.ext x10) λ_ _=>⟨_,rfl,hQ _⟩) (λg1=> ?_)
 refine zB (λ_=>l13c (L9.ext x10) λ_ _=>⟨_,rfl,hQ _⟩) (λg3=> ?_)
 refine zB (λ_=>l13c (L9.ext x10) λ_ _=>⟨_,rfl,hQ _⟩) (λg4=> ?_)
 replace g1:=of_decide_eq_false g1
 replace g3:=of_decide_eq_false g3
 replace g4:=of_decide_eq_false g4
 rw[H.len] at g1
 rw[H3.len] at g3
 rw[H4.len] at g4
 have hl:l.length<=60:=by omega
 have hl3:l3.length<=60:=by omega
 have hl4:l4.length<=60:=by omega
 have hlb:limb=4096:=by omega
 subst hlb
 have TA2:St za h9 {ea with F:=λc=>zb c∨eb.pb c} sa _ _:=TA.foreign (X:=λ_=>False) (zH x9) (λ_ h=>h.elim) x9.len (λc hc=>by rw[eF] at hc;exact hc.elim) λc hc=>.inr ⟨hzb c hc,hc.elim (TB.E.zl c) λhc=>TB.E.cp.pool_lt hc⟩
 have lta:=zD ha
 have T0:TwoR (Sp lim 0) h h9 ⟨za,{ea with F:=λc=>zb c∨eb.pb c},sa,⟨[115],lim,0,[],[]⟩,[]⟩ ⟨zb,eb,sb,⟨[116],4096,9,[],[]⟩,[]⟩ a b 0:=by
  refine⟨⟨TA2,TB,λc=>Iff.rfl,λc=>by rw[eFb]⟩,⟨.refl _,rfl,⟨rfl,rfl,rfl⟩,⟨rfl,rfl⟩,(λp hp=>by cases hp),Nat.le_refl _,Nat.le_refl _,Nat.zero_le _⟩,λc hc=> ?_,zH (x6.trans x9),(x6.trans x9).len,⟨Nat.le_of_eq eN,Nat.le_of_eq eNb⟩,⟨er,erb⟩,⟨_,_,_,_,x9 _ _ ha⟩,⟨_,_,_,_,hb⟩,λhc=> ?_,λhc=> ?_⟩
  ·rcases hc with hc|hc
   ·exact hz c hc
   ·exact Nat.le_trans x6.len (hzb c hc)
  ·rcases hc with hc|hc
   ·exact hc.elim nza npa
   ·have:=hzb a hc;omega
  ·rcases hc with hc|hc
   ·have:=oa b hc;omega
   ·exact hc.elim nzb npb
 clear TA TA2 TB hz hzb ha hb eF eFb
 refine⟨λxs h7=>∃(i:Nat) (A B:SD),xs=[.int .i64 (i:Nat)]/\i<=l.length/\TwoR (Sp lim i) h h7 A B a b (1000*i),λxs _=>match xs with | [.int _ i]=>(l.length-i).toNat|_=>0,⟨0,_,_,rfl,by omega,T0.grow x10⟩,?_⟩
 rintro n4 h7 ⟨i,A,B,hx,hi,T⟩
 simp only[List.cons.injEq,AV.int.injEq,true_and,and_true] at hx
 subst hx
 rw[H.len]
 have lv4:=HasL.live H4
 refine zB (λg=> ?_) (λg=>zUG T (by omega) (by omega) hQ)
 replace g:=of_decide_eq_true g
 have hib:i<l.length:=by omega
 have nexti:zC .i64 ((i:Int)+1)=((i+1:Nat):Int):=by rw[zF ⟨by omega,by omega⟩];omega
 rw[nexti]
 have fin:∀{m:Nat},m<=1000*(i+1)->∀h' A' B',TwoR (Sp lim (i+1)) h h' A' B' a b m->True/\(∃(j:Nat) (A B:SD),[AV.int .i64 ((i+1:Nat):Int)]=[.int .i64 (j:Nat)]/\j<=l.length/\TwoR (Sp lim j) h h' A B a b (1000*j))/\((l.length:Int) - ((i+1:Nat):Int)).toNat<((l.length:Int) - (i:Int)).toNat:=λhm h' A' B' T'=>
  ⟨trivial,⟨i+1,A',B',rfl,by omega,⟨T'.D,T'.p,T'.own,T'.K,T'.l,⟨Nat.le_trans T'.n.1 hm,Nat.le_trans T'.n.2 hm⟩,T'.room,T'.ca,T'.cb,T'.na,T'.nb⟩⟩,by omega⟩
 refine gk22 (T.K.hasL (λs hs=>by have:=lv4 s hs;omega) H4) (by omega) λb38=>⟨_,rfl,zB (λ_=> ?_) (λ_=>zGY IT T l1 H H3 hl3 hib hl hlim hQ (fin (by omega)))⟩
 obtain⟨s1,s2,s3⟩:=T.p.size
 obtain⟨p1,p2⟩:=T.p.compact
 refine zK9 (P':=Sp lim i) IT T ⟨by omega,by omega⟩ (by rw[T.p.alim.2];exact Nat.le_add_left 1 19) (by omega) (by omega) (λp hp=>by rw[(T.p.fs p hp).1];exact⟨Nat.zero_le _,λf hf=>by cases hf⟩) p2 (Q:=λc h50=>vif (c !=0) _ _) λh2 A' B' eA eB T2=> ?_
 rw[p1]
 exact zB (λg=>by simp at g) (λ_=>zGY IT T2 l1 H H3 hl3 hib hl hlim hQ (fin (by omega))))
end
end Go.Proofs.YtafmabnolelknaaGreatDoor

