import Derived.Test.YtafmabnolelknaaGreatDoorCG11
import Derived.Test.YtafmabnolelknaaGreatDoorCG33
namespace Go.Proofs.YtafmabnolelknaaGreatDoor
open Go.Ab
open Go.Num hiding Bs snoc_ind
open Go.Ent Go.Seg Go.Sto
open Go.Page hiding Bs get
open Go.Dsk hiding Bs
open Go.Pool hiding Bs Ents zT Fr least
open Go.Cur
set_option linter.unusedVariables false
set_option linter.unusedSimpArgs false
def ea:Ent:=(1,0,5,0)
def eb:Ent:=(0,0,7,0)
def ec:Ent:=(1,0,3,0)
theorem srt2:yA [ea,eb]=[eb,ea]:=jV (by simp[zM,leE,ltE,ea,eb]) (List.Perm.swap _ _ _)
theorem srt1:yA [ec]=[ec]:=jV (by simp[zM]) (.refl _)
theorem srt3:yA [eb,ea,ec]=[eb,ec,ea]:=jV (by simp[zM,leE,ltE,ea,eb,ec]) ((List.Perm.swap _ _ _).cons _)
theorem srt4:yA [ec,eb,ea]=[eb,ec,ea]:=jV (by simp[zM,leE,ltE,ea,eb,ec]) ((List.Perm.swap _ _ _))
abbrev q0:Part:=⟨[115,46,48],1,[eb,ea],[]⟩
abbrev q1':Part:=⟨[115,46,49],1048577,[ec],[]⟩
abbrev q2':Part:=⟨[115,46,50],2097153,[eb,ec,ea],[]⟩
abbrev t0:SS:=⟨[115],2,0,[],[]⟩
abbrev t1:SS:=⟨[115],2,0,[ea],[]⟩
abbrev t2:SS:=⟨[115],2,0,[ea,eb],[]⟩
abbrev t3:SS:=⟨[115],2,1,[ec],[q0]⟩
abbrev t4:SS:=⟨[115],2,2,[],[q0,q1']⟩
abbrev t5:SS:=⟨[115],2,3,[],[q2']⟩
abbrev t6:SS:=⟨[115],2,3,[],[]⟩
theorem er0:yS ea=0/\yS eb=0/\yS ec=0:=⟨zAJ.2 (by decide),zAJ.2 (by decide),zAJ.2 (by decide)⟩
theorem st1:t0.add (yS ea) ea=(0,t1):=by rw[er0.1];rfl
theorem st2:t1.add (yS eb) eb=(0,t2):=by rw[er0.2.1];rfl
theorem st3:t2.add (yS ec) ec=(0,t3):=by
 rw[er0.2.2]
 show(0,(⟨[115],2,1,[ec],[⟨jR [115] 0,vT 0,yA [ea,eb],[]⟩]⟩:SS))=_
 rw[srt2];rfl
theorem st4:t3.spill=(0,t4):=by
 show(0,(⟨[115],2,2,[],[q0,⟨jR [115] 1,vT 1,yA [ec],[]⟩]⟩:SS))=_
 rw[srt1];rfl
theorem st5:t4.compact=(0,t5):=by
 show(0,(⟨[115],2,3,[],[⟨jR [115] 2,vT 2,yA [eb,ea,ec],[]⟩]⟩:SS))=_
 rw[srt3];rfl
theorem st6:t5.keep [(2,0)]=t6:=rfl
theorem st7:zA1 t3.all (1,0)=[(3,0),(5,0)]:=by
 show zA1 (yA [ec,eb,ea]) (1,0)=_
 rw[srt4];rfl
theorem st8 (ps:List PD)(h:t5.ps=ps.map PD.part):zB9 t5 [(2,0)] ps=((3:Nat):Int):=by
 obtain⟨d,rfl,h1⟩:=List.map_eq_singleton_iff.1 (show ps.map PD.part=[q2'] from h.symm)
 have h2:d.x.l=[eb,ec,ea]:=congrArg Part.l h1
 unfold zB9 zKF
 simp only[List.filter_cons,List.filter_nil]
 have h3:covd [(2,0)] d=false:=by unfold covd;rw[h2];rfl
 rw[h3]
 simp only[Bool.not_false,if_true,List.map_cons,List.map_nil,h2]
 rfl
section
variable{X:Nat->Prop}{h0 h h':Heap}{S S':SS}{w sb dp pp n n':Nat}{Q:AHp}{y:Ent}{m:Mom}
theorem Lf.new {B:Blk}(L:Lf h0 X h S w sb dp pp n):Lf h0 (λb=>X b∨b=h.length) (h++[B]) S w sb dp pp n:=by
 obtain⟨z,e,ps,v3,v4,T,hd,hw,hx,hN,hr,h0z,x0⟩:=L.at'
 have x:Ext h (h++[B]):=.app _ _
 have hl:(h++[B]).length=h.length+1:=by simp
 refine⟨z,e,ps,v3,v4,T.grow x,hd,x _ _ hw,λb hb=> ?_,hN,hr,h0z,x0.trans x⟩
 rw[hl]
 rcases hb with hb|hb|hb
 ·exact⟨by have:=(hx b (.inl hb)).1;omega,(hx b (.inl hb)).2⟩
 ·exact⟨by have:=(hx b (.inr hb)).1;omega,(hx b (.inr hb)).2⟩
 ·refine⟨by omega,λho=> ?_⟩
  rcases ho with ho|ho
  ·have:=T.E.zl b ho;omega
  ·have:=T.E.cp.pool_lt ho;omega
theorem Lf.ext (L:Lf h0 X h S w sb dp pp n):Ext h0 h:=by
 obtain⟨z,e,ps,v3,v4,T,hd,hw,hx,hN,hr,h0z,x0⟩:=L.at'
 exact x0
set_option maxRecDepth 20000 in
set_option maxHeartbeats 1000000 in
theorem l13c (L:Laid h)(hQ:∀h',Ext h h'->Q (.bool true) h'):AC Tryz.prog 13 [] h Q:=ac13 (by
 unfold vc13
 refine gk12 (F0:=λ_=>False) (room:=100) (k:=0) (s:=[115]) L (λ_ h=>h.elim) (by omega) ⟨Nat.le_refl _,by simp⟩ (by omega) (λhc _ _=>by omega) λlim hlim l1 l2 z e sb w b1 b2 h2 x2 T eN er eF hz hw nzw npw h0w=>⟨_,rfl,zB (λg=>by simp at g) (λ_=> ?_)⟩
 have hlim2:lim=2:=by omega
 subst hlim2
 have L0:Lf h (λ_=>False) h2 t0 w sb e.dp e.p 0:=⟨z,e,[],_,_,T,rfl,hw,λb hb=>by
  rcases hb with rfl|hb
  ·exact⟨zC hw,λhc=>hc.elim nzw npw⟩
  ·exact hb.elim,Nat.le_of_eq eN,er,hz,x2⟩
 generalize e.dp=dp at*
 generalize e.p=pp at*
 clear hz hw nzw npw h0w T eN er eF
 refine zQ ⟨_,L0.s,zQ ⟨_,L0.s,zQ ⟨_,L0.s,?_⟩⟩⟩
 refine ac67 ?_
 unfold vc67
 refine⟨_,_,_,_,rfl,⟨_,L0.s,rfl⟩,⟨_,L0.s,rfl⟩,⟨_,L0.s,rfl⟩,?_⟩
 refine L0.add (y:=ea) (by decide) (by decide) (by decide) (by decide) λh17 L1 K1=>⟨_,rfl,?_⟩
 rw[st1] at L1 ⊢
 refine⟨⟨_,L1.s,rfl⟩,⟨_,L1.s,rfl⟩,?_⟩
 refine ac67 ?_
 unfold vc67
 refine⟨_,_,_,_,rfl,⟨_,L1.s,rfl⟩,⟨_,L1.s,rfl⟩,?_⟩
 refine L1.add (y:=eb) (by decide) (by decide) (by decide) (by decide) λh26 L2 K2=>⟨_,rfl,?_⟩
 rw[st2] at L2 ⊢
 refine⟨⟨_,L2.s,rfl⟩,?_⟩
 refine ac67 ?_
 unfold vc67
 refine⟨_,_,_,_,rfl,⟨_,L2.s,rfl⟩,?_⟩
 refine L2.add (y:=ec) (by decide) (by decide) (by decide) (by decide) λh35 L3 K3=>⟨_,rfl,?_⟩
 rw[st3] at L3 ⊢
 refine zQ ⟨_,L3.s,?_⟩
 refine L3.at (m:=(1,0)) (by decide) (by omega) λq41 h40 L4 K4 H4=>⟨_,_,rfl,?_⟩
 rw[st7] at H4
 refine zQ ⟨_,L4.s,?_⟩
 refine L4.parts λq47 h46 L5 K5 H5=>⟨_,rfl,?_⟩
 have H4:=K5.hasL (λs hs hc=>hc (.inr ⟨s,hs,rfl⟩)) H4
 refine zQ ⟨_,L5.s,?_⟩
 refine L5.spill (by decide) (by decide) (by decide) λh51 L6 K6=>⟨_,rfl,?_⟩
 rw[st4] at L6 ⊢
 have H4:=K6.hasL (λs hs hc=>hc (.inl (.inr ⟨s,hs,rfl⟩))) H4
 have H5:=K6.hasL (λs hs hc=>hc (.inr ⟨s,hs,rfl⟩)) H5
 refine zQ ⟨_,L6.s,?_⟩
 refine L6.compact (by decide) (by decide) (by decide) (by omega) (λp hp=>by
  have:p.fs=[]:=by
   simp only[List.mem_cons,List.not_mem_nil,or_false] at hp
   rcases hp with rfl|rfl<;>rfl
  rw[this];exact⟨Nat.zero_le _,λf hf=>by cases hf⟩) λh56 L7 K7=>⟨_,rfl,?_⟩
 rw[st5] at L7 ⊢
 have H4:=K7.hasL (λs hs hc=>hc (.inl (.inr ⟨s,hs,rfl⟩))) H4
 have H5:=K7.hasL (λs hs hc=>hc (.inr ⟨s,hs,rfl⟩)) H5
 refine zQ ⟨_,L7.s,?_⟩
 refine L7.parts λq62 h61 L8 K8 H8=>⟨_,rfl,?_⟩
 have H4:=K8.hasL (λs hs hc=>hc (.inl (.inr ⟨s,hs,rfl⟩))) H4
 have H5:=K8.hasL (λs hs hc=>hc (.inr ⟨s,hs,rfl⟩)) H5
 refine zQ ⟨_,L8.s,?_⟩
 unfold PNew
 have L9:=L8.new (B:=.cells [.int .i64 2,.int .i64 0] true)
 have Hf:HasL mmE (h61++[Blk.cells [.int .i64 2,.int .i64 0] true]) (some ⟨h61.length,0,1,1,0⟩) [(2,0)]:=HasL.new (n:=1) rfl rfl
 have x9:Ext h61 (h61++[Blk.cells [.int .i64 2,.int .i64 0] true]):=.app _ _
 have H4:=H4.mono x9
 have H5:=H5.mono x9
 have H8:=H8.mono x9
 generalize h61++[Blk.cells [AV.int .i64 2,.int .i64 0] true]=h66 at*
 refine L9.keep (n':=3) (f:=[(2,0)]) (by decide) Hf (by decide) (λs hs=>by cases hs;exact .inr rfl) (λp hp=>by
  have:p.fs=[]:=by
   simp only[List.mem_cons,List.not_mem_nil,or_false] at hp
   rw[hp]
  rw[this];exact Nat.zero_le _) (λps hp=>st8 ps hp) λh68 LA KA=>⟨_,_,rfl,?_⟩
 rw[st6] at LA
 have H4:=KA.hasL (λs hs hc=>hc (.inl (.inl (.inl (.inr ⟨s,hs,rfl⟩))))) H4
 have H5:=KA.hasL (λs hs hc=>hc (.inl (.inl (.inr ⟨s,hs,rfl⟩)))) H5
 have H8:=KA.hasL (λs hs hc=>hc (.inl (.inr ⟨s,hs,rfl⟩))) H8
 refine zQ ⟨_,LA.d,zQ ⟨_,LA.p,?_⟩⟩
 refine ac33 ?_
 unfold vc33
 refine zB (λg=>by simp at g) (λ_=>zB (λg=>by simp at g) (λ_=> ?_))
 refine gk101 (λhc=>by omega) λlim _ _ _ h76 x76 _=>⟨_,_,rfl,zB (λg=>by simp at g) (λ_=>zB (λ_=> ?_) (λg=>by simp at g))⟩
 refine⟨_,_,rfl,?_⟩
 have LB:=LA.grow x76
 have H4:=H4.mono x76
 have H5:=H5.mono x76
 have H8:=H8.mono x76
 refine zQ ⟨_,LB.p,?_⟩
 refine ac33 ?_
 unfold vc33
 refine zB (λ_=> ?_) (λg=>by simp at g)
 refine⟨_,_,rfl,?_⟩
 refine zB (λ_=> ?_) (λg=>by simp at g)
 refine zB (λ_=> ?_) (λg=>by simp at g)
 refine zB (λ_=> ?_) (λg=>by simp at g)
 refine zB (λ_=> ?_) (λg=>by simp at g)
 show AC Tryz.prog 35 [.sl q41,.sl (some ⟨h76.length,0,2,2,0⟩)] (h76++[.cells [.int .i64 3,.int .i64 0,.int .i64 5,.int .i64 0] true]) _
 have LC:=LB.new (B:=.cells [.int .i64 3,.int .i64 0,.int .i64 5,.int .i64 0] true)
 have He:HasL mmE (h76++[Blk.cells [.int .i64 3,.int .i64 0,.int .i64 5,.int .i64 0] true]) (some ⟨h76.length,0,2,2,0⟩) [(3,0),(5,0)]:=HasL.new (n:=2) rfl rfl
 have xC:Ext h76 (h76++[Blk.cells [.int .i64 3,.int .i64 0,.int .i64 5,.int .i64 0] true]):=.app _ _
 have H4:=H4.mono xC
 have H5:=H5.mono xC
 have H8:=H8.mono xC
 generalize h76++[Blk.cells [AV.int .i64 3,.int .i64 0,.int .i64 5,.int .i64 0] true]=h86 at*
 refine gk35 H4 He (by decide) ⟨_,rfl,zB (λ_=> ?_) (λg=>by simp at g)⟩
 rw[H5.len]
 refine zB (λ_=> ?_) (λg=>by simp at g)
 refine HasL.idx (E:=refE) H5 (by omega) (by simp) λpp5 x5 hx5 hc5=>⟨_,_,_,hc5,?_⟩
 cases hx5
 refine zB (λ_=> ?_) (λg=>by simp[refP] at g)
 refine zB (λ_=> ?_) (λg=>by simp at g)
 refine zB (λ_=> ?_) (λg=>by simp at g)
 rw[H8.len]
 refine zB (λ_=> ?_) (λg=>by simp at g)
 refine HasL.idx (E:=refE) H8 (by omega) (by simp) λpp8 x8 hx8 hc8=>⟨_,_,_,hc8,?_⟩
 cases hx8
 refine zB (λ_=> ?_) (λg=>by simp[refP] at g)
 refine zB (λ_=> ?_) (λg=>by simp at g)
 refine zB (λ_=> ?_) (λg=>by simp at g)
 refine zQ ⟨_,LC.s,?_⟩
 obtain⟨z,e,ps,v3,v4,T,hd,hw,hx,hN,hr,h0z,x0⟩:=LC.at'
 have hps:ps=[]:=List.map_eq_nil_iff.1 T.R.pe.symm
 subst hps
 refine gk26 T.R (Nat.zero_le _) (Nat.zero_le _) λh101 x101=>⟨_,rfl,zB (λ_=> ?_) (λg=>by simp[SS.size,SS.lies] at g)⟩
 have LD:=LC.grow x101
 have TD:=T.grow x101
 refine zQ ⟨_,LD.s,?_⟩
 refine gk24 TD.R ⟨_,rfl,zB (λ_=> ?_) (λg=>by simp at g)⟩
 refine zQ ⟨_,LD.s,?_⟩
 refine gk30 TD.R ⟨_,rfl,zB (λ_=> ?_) (λg=>by simp at g)⟩
 refine zQ ⟨_,LD.d,?_⟩
 subst hd
 refine d62 TD.E.R λq117 h116 N116=>⟨_,rfl,?_⟩
 have hD:e.D.list=[]:=by
  show((vM (((e.gs.map GF.fa)).map (·.name))).map _)=[]
  rw[T.gs];rfl
 rw[N116.hasL.len,hD]
 refine zB (λ_=> ?_) (λg=>by simp at g)
 have LE:=LD.grow N116.1
 have TE:=TD.grow N116.1
 refine zQ ⟨_,LE.s,?_⟩
 refine gk29n TE.R ⟨_,rfl,zB (λ_=> ?_) (λg=>by simp at g)⟩
 refine zB (λ_=> ?_) (λg=>by simp at g)
 exact hQ _ LE.ext)
end
section
variable{h:Heap}{q2:OSl}{mvs:List Mv}{LA:Heap->Prop}{Q:AHp}
set_option maxRecDepth 20000 in
set_option maxHeartbeats 1000000 in
theorem s3 {n1 n3 n4:Int}(L:Laid h)(H:HasL mvE h q2 mvs)(hF:∀m∈mvs,HasL mmE h m.fq m.f)(hQ:∀h',Q (.bool true) h'):AC Tryz.prog 3 [.int .i64 n1,.sl q2,.agg [.int .i64 n3,.int .i64 n4]] h Q:=ac3 (by
 unfold vc3
 refine gk12 (F0:=λ_=>False) (room:=16384) (k:=0) (s:=[115]) L (λ_ h=>h.elim) (by omega) ⟨Nat.le_refl _,by simp⟩ (by omega) (λ_ h6 x6=>⟨_,rfl,?_⟩) λlim hlim l1 l2 z e sb a b1 b2 h6 x6 T eN er eF hz ha nza npa h0a=>⟨_,rfl,?_⟩
 ·refine l13c (L.ext x6) λh7 x7=>⟨_,rfl,zB (λg=>by simp at g) (λ_=>zB (λ_=> ?_) (λg=>by simp at g))⟩
  exact l13c ((L.ext x6).ext x7) λh8 x8=>⟨_,rfl,hQ _⟩
 refine l13c (L.ext x6) λh9 x9=>⟨_,rfl,zB (λg=>by simp at g) (λ_=>zB (λg=>by simp at g) (λ_=> ?_))⟩
 have l2:=L.len
 have x69:=x6.trans x9
 have R0:Rnd (λH=>H) h h9 lim 0 a none:=⟨z,e,sb,_,_,_,_,_,_,[],T.grow x9,Must.start rfl rfl,⟨rfl,rfl,Nat.le_refl _,Nat.le_refl _,λp hp=>by cases hp⟩,.inl ⟨rfl,rfl⟩,⟨Nat.le_refl _,Nat.le_refl _⟩,(λb ⟨s,hs,_⟩=>by cases hs),λb hb=>by
  rcases hb with hb|hb
  ·rw[eF] at hb;exact hb.elim
  ·exact hz b hb,zH x69,x69.len,by omega,er,x9 _ _ ha,λhc=>by
  rcases hc with(hc|hc)|hc
  ·exact nza hc
  ·rw[eF] at hc;exact hc
  ·exact npa hc⟩
 clear hz ha nza npa h0a T eN er eF
 refine⟨λxs h7=>∃(q3:OSl) (i:Nat),xs=[.sl q3,.int .i64 (i:Nat)]/\i<=mvs.length/\i<=60/\Rnd (λH=>H) h h7 lim i a q3,λxs _=>match xs with | [_,.int _ i]=>(mvs.length-i).toNat|_=>0,⟨none,0,rfl,by omega,by omega,R0⟩,?_⟩
 rintro q3 n4 h7 ⟨_,i,hx,hi,hi6,R⟩
 simp only[List.cons.injEq,AV.sl.injEq,AV.int.injEq,true_and,and_true] at hx
 obtain⟨rfl,rfl⟩:=hx
 rw[H.len]
 have nexti:i<mvs.length->zD .i64 ((i:Int)+1)=((i+1:Nat):Int):=λhb=>by rw[zF ⟨by omega,by omega⟩];omega
 refine zB (λg=> ?_) (λg=>zQJ R hi6 hQ)
 replace g:=of_decide_eq_true g
 refine zB (λg2=> ?_) (λg2=>zQJ R hi6 hQ)
 replace g2:=of_decide_eq_true g2
 have hib:i<mvs.length:=by omega
 rw[nexti hib]
 have K0:zI (λb=>h.length<=b) h h7:=by
  obtain⟨_,_,_,K0,_⟩:=zM2 R
  exact K0
 have lv:=HasL.live H
 have fin:∀{q':OSl} {h':Heap},Rnd (λH=>H) h h' lim (i+1) a q'->((some [AV.int .i64 n3,.int .i64 n4]:Option (List AV))=some [.int .i64 n3,.int .i64 n4]/\True)/\(∃(q3:OSl) (j:Nat),[AV.sl q',.int .i64 ((i+1:Nat):Int)]=[.sl q3,.int .i64 (j:Nat)]/\j<=mvs.length/\j<=60/\Rnd (λH=>H) h h' lim j a q3)/\((mvs.length:Int) - ((i+1:Nat):Int)).toNat<((mvs.length:Int) - (i:Int)).toNat:=λR'=>
  ⟨⟨rfl,trivial⟩,⟨_,i+1,rfl,by omega,by omega,R'⟩,by omega⟩
 refine HasL.idx (E:=mvE) (K0.hasL (λs hs=>by have:=lv s hs;omega) H) (by omega) (by omega) λpp' x hx hcc=>⟨_,_,_,_,_,_,_,_,hcc,?_⟩
 rw[Int.toNat_natCast] at hx
 have hFx:=hF x (List.mem_of_getElem? hx)
 refine zB (λg3=> ?_) (λg3=> ?_)
 ·refine rnd_add (y:=x.y) R (by omega) l1 (Q:=λc h34=>vif (c==0) _ _) λc h8 a1 a2=>zB (λg4=> ?_) (λg4=> ?_)
  ·exact zTL (y:=x.y) l2 (by omega) (a1 (by simpa using g4)) λq' h' R'=>fin R'
  ·exact fin (a2 (by simpa using g4))
 refine zB (λg4=> ?_) (λg4=> ?_)
 ·exact zQI R (by omega) λc h8 R'=>fin R'
 refine zB (λg5=> ?_) (λg5=> ?_)
 ·exact zLI R (by omega) λc h8 R'=>fin R'
 refine zB (λg6=> ?_) (λg6=>fin (zM1 R))
 rw[hFx.len]
 refine zB (λg7=> ?_) (λg7=>fin (zM1 R))
 replace g7:=of_decide_eq_true g7
 refine zTM (f:=x.f) R (by omega) hFx (by omega) λc h8 R8=> ?_
 obtain⟨Hh,A,hl,K8,fin8⟩:=zM2 R8
 refine gk18 A.hasL (by omega) (K8.hasL (λs hs=>by have:=HasL.live hFx s hs;omega) hFx) (by omega) λq' h9 N9=>⟨_,rfl,?_⟩
 exact fin (fin8 _ _ N9))
end
end Go.Proofs.YtafmabnolelknaaGreatDoor
