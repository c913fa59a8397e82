import Derived.Test.YtafmabnolelknaaGreatDoorDG5
import Derived.Test.YtafmabnolelknaaGreatDoorDG10
import Derived.Test.YtafmabnolelknaaGreatDoorDG12
import Derived.Test.YtafmabnolelknaaGreatDoorDG14
namespace Go.Proofs.YtafmabnolelknaaGreatDoor
open Go.Ab
open Go.Num hiding Bs snoc_ind
open Go.Ent
set_option linter.unusedVariables false
set_option linter.unusedSimpArgs false
def entE:Enc Ent:=⟨4,λe=>[.int .i64 e.1,.int .i64 e.2.1,.int .i64 e.2.2.1,.int .i64 e.2.2.2],λ_=>rfl,by omega,λ_=>rfl⟩
abbrev entV(e:Ent):AV:=.agg [.int .i64 e.1,.int .i64 e.2.1,.int .i64 e.2.2.1,.int .i64 e.2.2.2]
section
variable{h:Heap}{Q:AHp}
theorem z325 {n:Int}(hQ:Q (.bool false) h):AC Tryz.prog 325 [.int .i64 n] h Q:=ac325 (by
 unfold vc325;rw[show(n !=n)=false by simp];exact hQ)
theorem z259 {a b:Int}(hQ:Q (.int .i64 (cmp1 a b)) h):AC Tryz.prog 259 [.int .i64 a,.int .i64 b] h Q:=ac259 (by
 unfold vc259
 unfold cmp1 at hQ
 refine z325 ⟨_,rfl,z325 ⟨_,rfl,?_⟩⟩
 refine zB (λg=>by cases g) (λ_=>zB (λg=>by cases g) (λ_=> ?_))
 refine zB (λg=> ?_) (λg=> ?_)
 ·rw[if_pos (of_decide_eq_true g)] at hQ;exact hQ
 rw[if_neg (of_decide_eq_false g)] at hQ
 refine zB (λg=> ?_) (λg=> ?_)
 ·rw[if_pos (of_decide_eq_true g)] at hQ;exact hQ
 ·rw[if_neg (of_decide_eq_false g)] at hQ;exact hQ)
theorem z200 {a b:Int}{q:OSl}(H:HasL intE h q [a,b])(hQ:Q (.int .i64 (orI a b)) h):AC Tryz.prog 200 [.sl q] h Q:=ac200 (by
 unfold vc200
 have hl:=H.len
 refine⟨λxs h5=>h5=h/\∃i:Nat,xs=[.int .i64 i]/\i<=2/\(1<=i->a=0)/\(2<=i->b=0),λxs _=>match xs with | [.int _ i]=>(2-i).toNat|_=>0,⟨rfl,0,rfl,by omega,by omega,by omega⟩,?_⟩
 rintro n2 h5 ⟨rfl,i,hx,hi,h1,h2⟩
 simp only[List.cons.injEq,AV.int.injEq,true_and,and_true] at hx
 subst hx
 simp only[List.length_cons,List.length_nil] at hl
 refine zB (λg=> ?_) (λg=> ?_)
 ·replace g:=of_decide_eq_true g
  refine HasL.idx (E:=intE) H (by omega) (by simp;omega) λpp x hx hc=>⟨x,hc,?_⟩
  rw[zF ⟨by omega,by omega⟩]
  have hi':i=0∨i=1:=by omega
  refine zB (λg2=> ?_) (λg2=> ?_)
  ·have g2:x≠0:=by simpa using g2
   rcases hi' with rfl|rfl
   ·simp at hx;subst hx
    unfold orI at hQ;rw[if_neg g2] at hQ;exact hQ
   ·simp at hx;subst hx
    unfold orI at hQ;rw[if_pos (h1 (by omega))] at hQ;exact hQ
  ·have g2:x=0:=by simpa using g2
   refine⟨trivial,⟨rfl,i+1,by simp,by omega,λ_=> ?_,λ_=> ?_⟩,by simp only;omega⟩
   ·rcases hi' with rfl|rfl
    ·simp at hx;omega
    ·exact h1 (by omega)
   ·rcases hi' with rfl|rfl
    ·omega
    ·simp at hx;omega
 ·replace g:=of_decide_eq_false g
  have e:orI a b=0:=by unfold orI;rw[if_pos (h1 (by omega)),h2 (by omega)]
  rw[e] at hQ;exact hQ)
theorem z201 {a b c d:Int}(hQ:∀h',Ext h h'->Q (.int .i64 (orI (cmp1 a c) (cmp1 b d))) h'):AC Tryz.prog 201 [.agg [.int .i64 a,.int .i64 b],.agg [.int .i64 c,.int .i64 d]] h Q:=ac201 (by
 unfold vc201 PNew
 refine z259 ⟨_,rfl,rfl,rfl,z259 ⟨_,rfl,?_⟩⟩
 exact z200 (HasL.new (E:=intE) (l:=[cmp1 a c,cmp1 b d]) (n:=2) rfl rfl) ⟨_,rfl,hQ _ (Ext.app _ _)⟩)
theorem z202 {a b c d:Int}(hQ:∀h',Ext h h'->Q (.int .i64 (orI (cmp1 a c) (cmp1 b d))) h'):AC Tryz.prog 202 [.agg [.int .i64 a,.int .i64 b],.agg [.int .i64 c,.int .i64 d]] h Q:=ac202 (by
 unfold vc202 PNew
 refine z259 ⟨_,rfl,rfl,rfl,z259 ⟨_,rfl,?_⟩⟩
 exact z200 (HasL.new (E:=intE) (l:=[cmp1 a c,cmp1 b d]) (n:=2) rfl rfl) ⟨_,rfl,hQ _ (Ext.app _ _)⟩)
theorem z133 {a b:Ent}(hQ:∀h',Ext h h'->Q (.int .i64 (cmpE a b)) h'):AC Tryz.prog 133 [entV a,entV b] h Q:=ac133 (by
 unfold vc133 PNew
 refine z201 λh1 x1=>⟨_,rfl,rfl,rfl,z202 λh2 x2=>⟨_,rfl,?_⟩⟩
 exact z200 (HasL.new (E:=intE) (l:=[_,_]) (n:=2) rfl rfl) ⟨_,rfl,hQ _ (x1.trans (x2.trans (Ext.app _ _)))⟩)
theorem z153 {a b c d:Int}(hQ:Q (.int .i64 (orI (cmp1 a c) (cmp1 b d))) h):AC Tryz.prog 153 [.agg [.int .i64 a,.int .i64 b],.agg [.int .i64 c,.int .i64 d]] h Q:=ac153 (by
 unfold vc153
 unfold orI cmp1 at hQ
 refine zB (λg=> ?_) (λg=> ?_)
 ·replace g:=of_decide_eq_true g
  rw[if_pos g,if_neg (by omega)] at hQ;exact hQ
 replace g:=of_decide_eq_false g
 rw[if_neg g] at hQ
 refine zB (λg1=> ?_) (λg1=> ?_)
 ·have g1:a=c:=by simpa using g1
  rw[if_neg (by omega:¬a>c),if_pos rfl] at hQ
  refine zB (λg2=> ?_) (λg2=> ?_)
  ·rw[if_pos (of_decide_eq_true g2)] at hQ;exact hQ
  replace g2:=of_decide_eq_false g2
  rw[if_neg g2] at hQ
  refine zB (λg3=> ?_) (λg3=> ?_)
  ·have g3:a=c/\b=d:=by simpa using g3
   rw[if_neg (by omega)] at hQ;exact hQ
  ·have g3:a=c->¬b=d:=by simpa using g3
   have:=g3 g1
   rw[if_pos (by omega)] at hQ;exact hQ
 ·have g1:¬a=c:=by simpa using g1
  refine zB (λg3=> ?_) (λg3=> ?_)
  ·have g3:a=c/\b=d:=by simpa using g3
   omega
  ·rw[if_pos (by omega:a>c),if_neg (by omega)] at hQ;exact hQ)
theorem z123 {a b c d:Int}(hQ:Q (.int .i64 (orI (cmp1 a c) (cmp1 b d))) h):AC Tryz.prog 123 [.agg [.int .i64 a,.int .i64 b],.agg [.int .i64 c,.int .i64 d]] h Q:=ac123 (by
 unfold vc123
 unfold orI cmp1 at hQ
 refine zB (λg=> ?_) (λg=> ?_)
 ·replace g:=of_decide_eq_true g
  rw[if_pos g,if_neg (by omega)] at hQ;exact hQ
 replace g:=of_decide_eq_false g
 rw[if_neg g] at hQ
 refine zB (λg1=> ?_) (λg1=> ?_)
 ·have g1:a=c:=by simpa using g1
  rw[if_neg (by omega:¬a>c),if_pos rfl] at hQ
  refine zB (λg2=> ?_) (λg2=> ?_)
  ·rw[if_pos (of_decide_eq_true g2)] at hQ;exact hQ
  replace g2:=of_decide_eq_false g2
  rw[if_neg g2] at hQ
  refine zB (λg3=> ?_) (λg3=> ?_)
  ·have g3:a=c/\b=d:=by simpa using g3
   rw[if_neg (by omega)] at hQ;exact hQ
  ·have g3:a=c->¬b=d:=by simpa using g3
   have:=g3 g1
   rw[if_pos (by omega)] at hQ;exact hQ
 ·have g1:¬a=c:=by simpa using g1
  refine zB (λg3=> ?_) (λg3=> ?_)
  ·have g3:a=c/\b=d:=by simpa using g3
   omega
  ·rw[if_pos (by omega:a>c),if_neg (by omega)] at hQ;exact hQ)
theorem z87 {a b:Ent}(hQ:Q (.int .i64 (cmpE a b)) h):AC Tryz.prog 87 [entV a,entV b] h Q:=ac87 (by
 unfold vc87
 refine z153 ⟨_,rfl,?_⟩
 unfold cmpE at hQ
 refine zB (λg=> ?_) (λg=> ?_)
 ·have g:¬orI (cmp1 a.1 b.1) (cmp1 a.2.1 b.2.1)=0:=by simpa using g
  rw[orI,if_neg g] at hQ
  exact hQ
 ·have g:orI (cmp1 a.1 b.1) (cmp1 a.2.1 b.2.1)=0:=by simpa using g
  rw[orI,if_pos g] at hQ
  exact z123 ⟨_,rfl,hQ⟩)
theorem z265 {q:OSl}{l:List Ent}(H:HasL entE h q l)(hl:l.length<=1000000)(hQ:∀h',Ext h h'->Q (.bool (decide (zN l))) h'):AC Tryz.prog 265 [.sl q,.func (.func 133) [] []] h Q:=ac265 (by
 unfold vc265
 have hlen:=H.len
 rw[hlen,zF ⟨by omega,by omega⟩]
 refine⟨λxs h5=>∃i:Nat,(xs=[.int .i64 ((i:Int) - 1)])/\i<=l.length/\Ext h h5/\∀j a b,i<=j+1->l[j]?=some a->l[j+1]?=some b->leE a b,λxs _=>match xs with | [.int _ i]=>(i+1).toNat|_=>0,⟨l.length,rfl,by omega,.refl _,λj a b hj ha hb=>by have:=zD hb;omega⟩,?_⟩
 rintro n2 h5 ⟨i,hx,hi,x5,hadj⟩
 simp only[List.cons.injEq,AV.int.injEq,true_and,and_true] at hx
 subst hx
 refine zB (λg=> ?_) (λg=> ?_)
 ·replace g:=of_decide_eq_true g
  obtain⟨k,rfl⟩:∃k,i=k+2:=⟨i-2,by omega⟩
  have e1:((k+2:Nat):Int) - 1=((k+1:Nat):Int):=by omega
  have e2:((k+1:Nat):Int) - 1=((k:Nat):Int):=by omega
  rw[e1,zF (n:=((k+1:Nat):Int) - 1) ⟨by omega,by omega⟩,e2]
  refine HasL.idx (E:=entE) (H.mono x5) (by omega) (by omega) λpp a ha hc=>⟨_,_,_,_,hc,?_⟩
  refine HasL.idx (E:=entE) (H.mono x5) (by omega) (by omega) λpp2 b hb hc2=>⟨_,_,_,_,hc2,?_⟩
  have ha:l[k+1]?=some a:=by simpa using ha
  have hb:l[k]?=some b:=by simpa using hb
  refine z133 (a:=a) (b:=b) λh17 x17=>⟨_,rfl,?_⟩
  refine zB (λg2=> ?_) (λg2=> ?_)
  ·replace g2:=cmpE_lt.1 (of_decide_eq_true g2)
   have:decide (zN l)=false:=decide_eq_false λhs=>zI1 hs hb ha g2
   rw[this] at hQ
   exact hQ _ (x5.trans x17)
  ·replace g2:=of_decide_eq_false g2
   have hle:leE b a:=λhlt=>g2 (cmpE_lt.2 hlt)
   refine⟨trivial,⟨k+1,by simp,by omega,x5.trans x17,λj a' b' hj ha' hb'=> ?_⟩,by simp only;omega⟩
   rcases Nat.lt_or_ge k j with hk|hk
   ·exact hadj j a' b' (by omega) ha' hb'
   ·have:j=k:=by omega
    subst this
    rw[hb] at ha';rw[ha] at hb'
    cases ha';cases hb'
    exact hle
 ·replace g:=of_decide_eq_false g
  have:decide (zN l)=true:=decide_eq_true (zHW λj a b ha hb=>hadj j a b (by omega) ha hb)
  rw[this] at hQ
  exact hQ _ x5)
theorem z194 {q:OSl}{l:List Ent}(H:HasL entE h q l)(hl:l.length<=1000000)(hQ:∀h',Ext h h'->Q (.bool (decide (zN l))) h'):AC Tryz.prog 194 [.sl q] h Q:=ac194 (by
 unfold vc194
 exact z265 H hl λh' x=>⟨_,rfl,hQ h' x⟩)
end
end Go.Proofs.YtafmabnolelknaaGreatDoor
namespace Go.Proofs.YtafmabnolelknaaGreatDoor
open Go.Ab
open Go.Num hiding Bs
set_option linter.unusedVariables false
set_option linter.unusedSimpArgs false
section
variable{h:Heap}{Q:AHp}
theorem t356 {n:Nat}(hn:n<9223372036854775808)(hQ:Q (.int .i64 (wid n:Nat)) h):AC Tryz.prog 356 [.int .i64 n] h Q:=ac356 (by
 have hw:wid n<=8:=(zFO 8 n (by omega)).2 (by omega)
 unfold vc356
 rw[shr8]
 refine⟨λxs h6=>h6=h/\∃m s:Nat,xs=[.int .i64 m,.int .i64 s]/\wid n=s+(if m=0 then 0 else wid m),λxs _=>match xs with | [.int _ m,_]=>m.toNat|_=>0,⟨rfl,n/256,1,rfl,?_⟩,?_⟩
 ·rw[wid]
  split
  ·rename_i h;rw[Nat.div_eq_of_lt h];rfl
  ·rename_i h;rw[if_neg (by omega)]
 rintro m s h6 ⟨rfl,m',s',hx,hw2⟩
 simp only[List.cons.injEq,AV.int.injEq,true_and,and_true] at hx
 obtain⟨rfl,rfl⟩:=hx
 refine zB (λh1=> ?_) (λh1=> ?_)
 ·simp only[decide_eq_true_eq] at h1
  rw[if_neg (by omega)] at hw2
  have:=zHN (n:=m')
  rw[shr8,zF ⟨by omega,by omega⟩]
  refine⟨trivial,⟨rfl,m'/256,s'+1,by simp,?_⟩,by simp only;omega⟩
  rw[hw2,wid]
  split
  ·rename_i h;rw[Nat.div_eq_of_lt h];rfl
  ·rename_i h;rw[if_neg (by omega)];omega
 ·simp only[decide_eq_false_iff_not] at h1
  have:m'=0:=by omega
  subst this
  rw[if_pos rfl] at hw2
  rw[hw2] at hQ;exact hQ)
theorem zD0 {k:Nat}:(List.replicate k [AV.int .u8 0]).flatten=yG (List.replicate k 0):=by
 induction k with
 |zero=>rfl
 |succ k ih=>rw[List.replicate_succ,List.flatten_cons,ih];rfl
theorem t357 {n k:Nat}(hk:1<=k/\k<=8)(hQ:∀q h',New byE h h' q (beL n k)->Q (.sl q) h'):AC Tryz.prog 357 [.int .i64 n,.int .i64 k] h Q:=ac357 (by
 unfold vc357
 refine⟨by omega,by omega,by simp;omega,by simp only[maxI];omega,?_⟩
 simp only[Int.toNat_natCast]
 rw[zD0]
 have fin:∀cur:Bs,cur.length=k->(∀j,j<k->cur[j]?=(beL n k)[j]?)->Q (.sl (some ⟨h.length,0,k,k,0⟩)) (h++[.cells (yG cur) true]):=by
  intro cur hl hc
  have:cur=beL n k:=by
   refine List.ext_getElem? λj=> ?_
   rcases Nat.lt_or_ge j k with hj|hj
   ·exact hc j hj
   ·rw[List.getElem?_eq_none (by omega),List.getElem?_eq_none (by rw[yJ];omega)]
  subst this
  exact hQ _ _ (New.mk1 (E:=byE) (yJ _ _).symm zEM.symm)
 refine⟨λxs h8=>∃(i:Nat) (cur:Bs),xs=[.int .i64 i]/\i<=k/\h8=h++[.cells (yG cur) true]/\cur.length=k/\∀j,j<i->cur[j]?=(beL n k)[j]?,λxs _=>match xs with | [.int _ i]=>(k-i).toNat|_=>0,⟨0,_,rfl,by omega,rfl,by simp,λj hj=>by omega⟩,?_⟩
 rintro i h8 ⟨i',cur,hx,hi,rfl,hl,hc⟩
 simp only[List.cons.injEq,AV.int.injEq,true_and,and_true] at hx
 subst hx
 refine zB (λh1=> ?_) (λh1=> ?_)
 ·replace h1:=of_decide_eq_true h1
  simp only[zJ] at h1
  have hik:i'<k:=by omega
  rw[zF (n:=(k:Int) - 1) ⟨by omega,by omega⟩,zF (n:=(k:Int) - 1-i') ⟨by omega,by omega⟩,zF (n:=8*((k:Int) - 1-i')) ⟨by omega,by omega⟩]
  have e8:(8*((k:Int) - 1-i'))=((8*(k-1-i'):Nat):Int):=by omega
  rw[e8,shrB (by omega),u8c,zF ⟨by omega,by omega⟩]
  refine zZ (by simp;omega) ⟨by omega,by omega,?_⟩
  unfold zL
  simp only[Int.toNat_natCast,Nat.mul_one,Nat.zero_add]
  rw[List.getElem?_append_right (by omega)]
  simp only[Nat.sub_self,List.getElem?_cons_zero]
  refine⟨by rw[zFM,hl];simp;omega,trivial,⟨i'+1,cur.set i' (UInt8.ofNat (n/256^(k-1-i')%256)),by simp,by omega,?_,by simp[hl],λj hj=> ?_⟩,by omega⟩
  ·rw[zLC (by omega)]
   simp
  ·rw[List.getElem?_set]
   split
   ·rename_i he;subst he
    rw[if_pos (by omega),zSL k n i' hik]
   ·exact hc j (by omega)
 ·replace h1:=of_decide_eq_false h1
  simp only[zJ] at h1
  have:i'=k:=by omega
  subst this
  exact fin cur hl hc)
end
abbrev M63:Nat:=9223372036854775808
theorem zMS {n:Nat}(h:n<M63):wid n<=8:=(zFO 8 n (by omega)).2 (by simp only[M63] at h;omega)
theorem zII {n:Nat}(h:n<M63):(numB n).length<=9:=by
 have:=zMS h
 unfold numB
 split
 ·simp
 ·split
  ·simp
  ·simp[yJ];omega
section
variable{h:Heap}{Q:AHp}
theorem by1 {n:Nat}(hn:n<256): [AV.int .u8 (zC .u8 (n:Int))]=byE.all [UInt8.ofNat n]:=by
 rw[u8c,Nat.mod_eq_of_lt hn];rfl
theorem zQ1 {n:Nat}(hn:n<240):numB n=[UInt8.ofNat n]:=by unfold numB;rw[if_pos hn]
theorem zM9 {n:Nat}(h0:¬n<240)(hn:n<2288):numB n=[UInt8.ofNat (240+(n-240)/256),UInt8.ofNat ((n-240)%256)]:=by unfold numB;rw[if_neg h0,if_pos hn]
theorem numB_hi {n:Nat}(hn:¬n<2288):numB n=UInt8.ofNat (246+wid n)::beL n (wid n):=by unfold numB;rw[if_neg (by omega),if_neg hn]
theorem byMid {n:Nat}(h0:¬n<240)(hn:n<2288){x y:Int}(hx:x=((240+(n-240)/256:Nat):Int))(hy:y=((n-240:Nat):Int)): [AV.int .u8 (zC .u8 x),.int .u8 (zC .u8 y)]=byE.all (numB n):=by
 subst hx hy
 rw[zM9 h0 hn,u8c,u8c,Nat.mod_eq_of_lt (by omega:240+(n-240)/256<256)];rfl
set_option maxRecDepth 20000 in
theorem t296 {n:Nat}(hn:n<M63)(hQ:∀q h',New byE h h' q (numB n)->Q (.tup [.sl q,.int .i64 0]) h'):AC Tryz.prog 296 [.int .i64 n] h Q:=ac296 (by
 simp only[M63] at hn
 unfold vc296 PNew
 refine zB (λg=> ?_) (λ_=> ?_)
 ·replace g:=of_decide_eq_true g
  omega
 refine zB (λg=> ?_) (λg=> ?_)
 ·replace g:=of_decide_eq_true g
  exact hQ _ _ (New.mk1 (E:=byE) (by rw[zQ1 (by omega)];rfl) (by rw[zQ1 (by omega),by1 (by omega)]))
 refine zB (λg2=> ?_) (λg2=> ?_)
 ·replace g:=of_decide_eq_false g
  replace g2:=of_decide_eq_true g2
  refine hQ _ _ (New.mk1 (E:=byE) (by rw[zM9 (by omega) (by omega)];rfl) ?_)
  rw[zF (n:=(n:Int) - 240) ⟨by omega,by omega⟩]
  have e:((n:Int) - 240)=((n-240:Nat):Int):=by omega
  rw[e,shr8]
  exact byMid (by omega) (by omega) (zF ⟨by omega,by omega⟩) rfl
 ·replace g:=of_decide_eq_false g
  replace g2:=of_decide_eq_false g2
  have hw:=zMS (n:=n) hn
  refine t356 hn ⟨_,rfl,?_⟩
  refine t357 ⟨zHN,hw⟩ λq13 h12 N=>⟨q13,rfl,?_⟩
  rw[zF (n:=246+((wid n:Nat):Int)) ⟨by omega,by omega⟩] at N
  have e:(246+((wid n:Nat):Int))=((246+wid n:Nat):Int):=by omega
  rw[e,by1 (by omega)] at N
  have N1:New byE h h12 (some ⟨h.length,0,1,1,0⟩) [UInt8.ofNat (246+wid n)]:=(New.mk1 (E:=byE) rfl rfl).ext N.1
  refine New.append (E:=byE) N1 N.hasL (by simp[yJ];omega) λq14 h15 N2=>hQ _ _ ?_
  rw[numB_hi (by omega)]
  exact N2)
end
theorem zJE {C m:Bs}{o:Nat}:splice (yG C) o (yG m)=yG (splice C o m):=by
 unfold splice yG
 simp
section
variable{h:Heap}{Q:AHp}
set_option maxRecDepth 20000 in
theorem t358 {n:Nat}(hn:n<=100000)(hQ0:n=0->Q (.sl none) h)(hQ1:n≠0->Q (.sl (some ⟨h.length,0,0,n,1⟩)) (h++[.cells (yG (List.replicate n 0)) true])):AC Tryz.prog 358 [.sl none,.int .i64 n] h Q:=ac358 (by
 unfold vc358
 have e:zC .i64 ((n:Int) - 0)=n:=by rw[zF ⟨by omega,by omega⟩];omega
 rw[e]
 refine zB (λg=> ?_) (λ_=> ?_)
 ·replace g:=of_decide_eq_true g
  omega
 refine zB (λg=> ?_) (λg=> ?_)
 ·replace g:=of_decide_eq_true g
  refine⟨rfl,rfl,rfl,by omega,by simp only[maxI];omega,by omega,?_⟩
  simp only[Int.toNat_natCast]
  rw[zD0]
  refine⟨by simp[zFM],?_⟩
  simp only
  rw[if_neg (by omega)]
  refine⟨by omega,by omega,?_⟩
  refine⟨.inr rfl,by omega,by simp,by simp,by simp,?_⟩
  have:=hQ1 (by omega)
  simpa using this
 ·replace g:=of_decide_eq_false g
  exact hQ0 (by omega))
theorem t299 {q:OSl}{qs:List (OSl)}{ls:List Bs}(H:HasL slE h q qs)(hl:qs.length=ls.length)(hq:∀(i:Nat) (s:OSl) (l:Bs),qs[i]?=some s->ls[i]?=some l->HasL byE h s l)(hT:ls.flatten.length<=100000)(hn:ls.length<=10)
  (hQ:∀q h',New byE h h' q ls.flatten->Q (.sl q) h'):AC Tryz.prog 299 [.sl q] h Q:=ac299 (by
 unfold vc299
 have hlen:=H.len
 have nxt:∀(i:Nat) (l:Bs),ls[i]?=some l->(ls.take (i+1)).flatten=(ls.take i).flatten++l:=λi l hi=>by
  rw[List.take_add_one,hi];simp
 have pre:∀i,(ls.take i).flatten.length<=ls.flatten.length:=λi=>by
  have:ls.flatten=(ls.take i).flatten++(ls.drop i).flatten:=by rw[<-List.flatten_append,List.take_append_drop]
  rw[this,List.length_append];omega
 refine⟨λxs h6=>h6=h/\∃i:Nat,xs=[.int .i64 ((ls.take i).flatten.length:Nat),.int .i64 i]/\i<=ls.length,λxs _=>match xs with | [_,.int _ i]=>(ls.length-i).toNat|_=>0,⟨rfl,0,by simp,by omega⟩,?_⟩
 rintro n i h6 ⟨rfl,i',hx,hi⟩
 simp only[List.cons.injEq,AV.int.injEq,true_and,and_true] at hx
 obtain⟨rfl,rfl⟩:=hx
 refine zB (λg=> ?_) (λg=> ?_)
 ·replace g:=of_decide_eq_true g
  refine HasL.idx (E:=slE) H (by omega) (by omega) λpp x hx hc=>⟨x,hc,?_⟩
  have hx':qs[i']?=some x:=by simpa using hx
  have hli:ls[i']?=some (ls[i']'(by omega)):=List.getElem?_eq_getElem _
  have hxl:=(hq i' x _ hx' hli).len
  have h1:=nxt i' _ hli
  have h2:=pre (i'+1)
  have h3:(ls.take (i'+1)).flatten.length=(ls.take i').flatten.length+(ls[i']'(by omega)).length:=by rw[h1,List.length_append]
  have e:zC .i64 ((((ls.take i').flatten.length:Nat):Int)+(zJ x:Int))=(((ls.take (i'+1)).flatten.length:Nat):Int):=by
   rw[zF ⟨by omega,by omega⟩,hxl,h3];omega
  rw[e]
  refine zB (λg=> ?_) (λ_=> ?_)
  ·replace g:=of_decide_eq_true g
   omega
  rw[zF ⟨by omega,by omega⟩]
  exact⟨trivial,⟨rfl,i'+1,by simp,by omega⟩,by simp only;omega⟩
 ·replace g:=of_decide_eq_false g
  have:i'=ls.length:=by omega
  subst this
  rw[List.take_length]
  have body:∀(q11:OSl) (h10:Heap),Ext h6 h10->(ls.flatten.length=0/\q11=none∨∃a,h6.length<=a/\q11=some ⟨a,0,0,ls.flatten.length,1⟩/\h10[a]?=some (.cells (yG (List.replicate ls.flatten.length 0)) true))->
    ∃(I14:LHp) (m15:LHn),I14 [.sl q11,.int .i64 0] h10/\
    ∀q12:OSl,∀n13:Int,∀h16:Heap,I14 [.sl q12,.int .i64 n13] h16->
    vif (decide (n13<(zJ q:Int)))
    (vIdx q n13 1 λp17=>
    ∃q18:OSl,zA h16 p17 1=some [.sl q18]/\
    zM 1 1 q12 q18 h16 λq19 h20=>
    (True)/\I14 [.sl q19,.int .i64 (zC .i64 (n13+1))] h20/\m15 [.sl q19,.int .i64 (zC .i64 (n13+1))] h20<m15 [.sl q12,.int .i64 n13] h16)
    (Q (.sl q12) h16):=by
   intro q11 h10 hx10 hB
   refine⟨λxs h16=>∃(q12:OSl) (i:Nat),xs=[.sl q12,.int .i64 i]/\i<=ls.length/\Ext h6 h16/\(ls.flatten.length=0/\q12=none∨∃a C,h6.length<=a/\q12=some ⟨a,0,(ls.take i).flatten.length,ls.flatten.length,1⟩/\h16[a]?=some (.cells (yG C) true)/\C.length=ls.flatten.length/\C.take (ls.take i).flatten.length=(ls.take i).flatten),
    λxs _=>match xs with | [_,.int _ i]=>(ls.length-i).toNat|_=>0,⟨q11,0,rfl,by omega,hx10,?_⟩,?_⟩
   ·rcases hB with hB|⟨a,b1,b2,b3⟩
    ·exact .inl hB
    ·exact .inr ⟨a,_,b1,by simpa using b2,b3,by simp,by simp⟩
   ·rintro q12 i h16 ⟨q12',i',hx,hi,hx16,hB⟩
    simp only[List.cons.injEq,AV.int.injEq,AV.sl.injEq,true_and,and_true] at hx
    obtain⟨rfl,rfl⟩:=hx
    refine zB (λg=> ?_) (λg=> ?_)
    ·replace g:=of_decide_eq_true g
     refine HasL.idx (E:=slE) (H.mono hx16) (by omega) (by omega) λpp x hx hc=>⟨x,hc,?_⟩
     have hx':qs[i']?=some x:=by simpa using hx
     have hli:ls[i']?=some (ls[i']'(by omega)):=List.getElem?_eq_getElem _
     have hX:=(hq i' x _ hx' hli).mono hx16
     have hxl:=hX.len
     have h1:=nxt i' _ hli
     have h2:=pre (i'+1)
     have h3:(ls.take (i'+1)).flatten.length=(ls.take i').flatten.length+(ls[i']'(by omega)).length:=by rw[h1,List.length_append]
     generalize hml:ls[i']'(by omega)=m at*
     refine⟨byE.all m,hX.cells,by rw[Enc.all_length,hxl];rfl,?_⟩
     rw[hxl,zF (n:=(i':Int)+1) ⟨by omega,by omega⟩]
     rcases hB with⟨hz,rfl⟩|⟨a,C,b1,rfl,b3,b4,b5⟩
     ·simp only
      rw[if_pos (by omega)]
      exact⟨trivial,⟨none,i'+1,by simp,by omega,hx16,.inl ⟨hz,rfl⟩⟩,by omega⟩
     ·simp only
      rw[if_pos (by omega),b3]
      simp only[Nat.zero_add,Nat.mul_one]
      have hlt:=zD b3
      rw[zEM,zJE]
      refine⟨by rw[zFM,zFM];omega,trivial,⟨_,i'+1,rfl,by omega,hx16.set b1,.inr ⟨a,splice C (ls.take i').flatten.length m,b1,by rw[h3],by rw[List.getElem?_set_self hlt],by rw[yZ (by omega)];exact b4,?_⟩⟩,by omega⟩
      rw[h1,List.length_append]
      unfold splice
      rw[b5,List.append_assoc,List.take_append,List.take_of_length_le (by omega)]
      simp
    ·replace g:=of_decide_eq_false g
     have:i'=ls.length:=by omega
     subst this
     refine hQ _ _ ⟨hx16,?_,?_⟩
     ·rcases hB with⟨hz,rfl⟩|⟨a,C,b1,rfl,b3,b4,b5⟩
      ·exact .inl ⟨rfl,List.eq_nil_of_length_eq_zero hz⟩
      ·rw[List.take_length] at b5 ⊢
       rw[<-b4,List.take_length] at b5
       subst b5
       exact Apd.mk rfl (.inr rfl) (by rw[zEM];exact b3)
     ·intro s hs
      rcases hB with⟨hz,rfl⟩|⟨a,C,b1,rfl,b3,b4,b5⟩
      ·cases hs
      ·cases hs;exact b1
  refine t358 hT (λh0=>⟨_,rfl,body _ _ (.refl _) (.inl ⟨h0,rfl⟩)⟩) (λh0=>⟨_,rfl,body _ _ (.app _ _) (.inr ⟨h6.length,Nat.le_refl _,rfl,by simp⟩)⟩))
end
end Go.Proofs.YtafmabnolelknaaGreatDoor

namespace Go.Proofs.YtafmabnolelknaaGreatDoor
open Go.Ab
open Go.Num hiding Bs
set_option linter.unusedVariables false
set_option linter.unusedSimpArgs false
def Rd(h:Heap)(p:Nat):Option Bs->Prop
 |some l=>∃q,h[p]?=some (.cells [.sl q,.bool false] true)/\HasL byE h q l/\∀s,q=some s->s.b<p
 |none=>∃q,h[p]?=some (.cells [.sl q,.bool true] true)
structure Fr(p:Nat)(h h':Heap):Prop where
 keeps:zI (λb=>b=p) h h'
 len:h.length<=h'.length
theorem Fr.trans {p:Nat}{a b c:Heap}(x:Fr p a b)(y:Fr p b c):Fr p a c:=⟨x.keeps.trans y.keeps,Nat.le_trans x.len y.len⟩
theorem Fr.ofExt {p:Nat}{a b:Heap}(x:Ext a b):Fr p a b:=⟨zH x,x.len⟩
def tk(n:Int):Option Bs->Option (Bs×Bs)
 |some l=>if 0<=n/\n<=l.length then some (l.take n.toNat,l.drop n.toNat) else none
 |none=>none
def fx(k:Int)(o:Option Bs):Option (Nat×Bs):=
 if 1<=k/\k<=8 then(match tk k o with |some (a,b)=>if beV a<M63 then some (beV a,b) else none|none=>none) else none
def nm(o:Option Bs):Option (Nat×Bs):=match o with |some l=>rdN l|none=>none
def valN(r:Option (Nat×Bs)):Int:=match r with |some (n,_)=>(n:Int)|none=>0
def stO{α:Type}(r:Option (α×Bs)):Option Bs:=match r with |some (_,b)=>some b|none=>none
theorem or8 {n c:Nat}(hn:n<72057594037927936)(hc:c<256):zHK .u64 (shlK .u64 (n:Int) 8) (zC .u64 (c:Int))=((n*256+c:Nat):Int):=by
 have e:min ((8:Int).toNat) IntKind.u64.bits=8:=by decide
 have e1:shlK .u64 (n:Int) 8=((n*256:Nat):Int):=by
  simp only[shlK,e]
  have:((n:Int)*2^8)=((n*256:Nat):Int):=by simp
  rw[this]
  exact zA7 ⟨by omega,by omega⟩
 have e2:zC .u64 (c:Int)=(c:Int):=zA7 ⟨by omega,by omega⟩
 rw[e1,e2]
 unfold zHK
 have e3:(BitVec.ofInt IntKind.u64.bits ((n*256:Nat):Int)|||BitVec.ofInt IntKind.u64.bits ((c:Nat):Int)).toNat=n*256+c:=by
  show(BitVec.ofInt 64 ((n*256:Nat):Int)|||BitVec.ofInt 64 ((c:Nat):Int)).toNat=n*256+c
  rw[BitVec.toNat_or,BitVec.ofInt_natCast,BitVec.ofInt_natCast,BitVec.toNat_ofNat,BitVec.toNat_ofNat,Nat.mod_eq_of_lt (by omega:n*256<2^64),Nat.mod_eq_of_lt (by omega:c<2^64)]
  have:=Nat.shiftLeft_add_eq_or_of_lt (i:=8) (b:=c) (by omega) n
  rw[Nat.shiftLeft_eq] at this
  exact this.symm
 rw[e3]
 exact zA7 ⟨by omega,by omega⟩
section
variable{h:Heap}{Q:AHp}{p:Nat}{o:Option Bs}
theorem rd_bad (R:Rd h p o):zA h ⟨p,0+1⟩ 1=some [.bool o.isNone]:=by
 cases o with
 |none=>obtain⟨q,hb⟩:=R;rw[zP (p:=⟨p,0+1⟩) hb (by simp)];rfl
 |some l=>obtain⟨q,hb,_⟩:=R;rw[zP (p:=⟨p,0+1⟩) hb (by simp)];rfl
theorem rd_fail {K:Heap->Prop}(R:Rd h p o)(hK:∀h',Fr p h h'->Rd h' p none->K h'):zL h ⟨p,0+1⟩ [.bool true] K:=by
 have:∃q b,h[p]?=some (.cells [.sl q,.bool b] true):=by
  cases o with
  |none=>obtain⟨q,hb⟩:=R;exact⟨q,_,hb⟩
  |some l=>obtain⟨q,hb,_⟩:=R;exact⟨q,_,hb⟩
 obtain⟨q,b,hb⟩:=this
 unfold zL
 simp only[hb]
 refine⟨by simp,hK _ ⟨zO rfl,by simp⟩ ⟨q,?_⟩⟩
 rw[List.getElem?_set_self (zD hb)];rfl
theorem zQJ {l:Bs}(R:Rd h p (some l)):∃q,zA h ⟨p,0+0⟩ 1=some [.sl q]/\HasL byE h q l/\∀s,q=some s->s.b<p:=by
 obtain⟨q,hb,hl,hn⟩:=R
 exact⟨q,by rw[zP (p:=⟨p,0+0⟩) hb (by simp)];rfl,hl,hn⟩
theorem rd_cut {l l':Bs}{q':OSl}{K:Heap->Prop}(R:Rd h p (some l))(H:HasL byE h q' l')(hn:∀s,q'=some s->s.b<p)(hK:∀h',Fr p h h'->Rd h' p (some l')->K h'):zL h ⟨p,0+0⟩ [.sl q'] K:=by
 obtain⟨q,hb,_,_⟩:=R
 unfold zL
 simp only[hb]
 have K1:zI (λb=>b=p) h (h.set p (.cells (splice [.sl q,.bool false] (0+0) [.sl q']) true)):=zO rfl
 refine⟨by simp,hK _ ⟨K1,by simp⟩ ⟨q',?_,K1.hasL (λs hs=>Nat.ne_of_lt (hn s hs)) H,hn⟩⟩
 rw[List.getElem?_set_self (zD hb)];rfl
theorem Rd.ext {h':Heap}(R:Rd h p o)(K:Ext h h'):Rd h' p o:=by
 cases o with
 |none=>obtain⟨q,hb⟩:=R;exact⟨q,K _ _ hb⟩
 |some l=>obtain⟨q,hb,hl,hn⟩:=R;exact⟨q,K _ _ hb,hl.mono K,hn⟩
theorem Rd.keeps {h':Heap}{X:Nat->Prop}(R:Rd h p o)(K:zI X h h')(hX:∀b,b<=p->¬X b):Rd h' p o:=by
 cases o with
 |none=>obtain⟨q,hb⟩:=R;exact⟨q,K _ _ (hX _ (Nat.le_refl _)) hb⟩
 |some l=>obtain⟨q,hb,hl,hn⟩:=R;exact⟨q,K _ _ (hX _ (Nat.le_refl _)) hb,K.hasL (λs hs=>hX _ (Nat.le_of_lt (hn s hs))) hl,hn⟩
theorem Rd.live (R:Rd h p o):p<h.length:=by
 cases o with
 |none=>obtain⟨q,hb⟩:=R;exact zD hb
 |some l=>obtain⟨q,hb,_⟩:=R;exact zD hb
theorem e235 {q:OSl}{l:Bs}(H:HasL byE h q l)(hl:l.length<=100000)(hQ:∀q' h',Ext h h'->HasL byE h' q' l->(∀s,q'=some s->h.length<=s.b)->Q (.sl q') h'):AC Tryz.prog 235 [.sl q] h Q:=ac235 (by
 unfold vc235 PNew
 refine zB (λg=> ?_) (λg=> ?_)
 ·cases q with
  |some s=>cases g
  |none=>exact hQ none h (.refl _) H (λs hs=>by cases hs)
 ·refine copy0 (E:=byE) (a:=h.length) (by simp) (H.mono (Ext.app _ _)) (by omega) λq' h' hx O hq=>hQ _ _ ((Ext.app _ _).trans hx) O.hasL (λs hs=> ?_)
  rcases hq s hs with a|a
  ·omega
  ·simp at a;omega)
theorem e315 (R:Rd h p o)(hQ:Q (.bool o.isNone) h):AC Tryz.prog 315 [.ptr (some ⟨p,0⟩)] h Q:=ac315 (by
 unfold vc315
 exact⟨_,rd_bad R,hQ⟩)
theorem e320 (R:Rd h p o)(hQ:∀h',Fr p h h'->Rd h' p none->Q (.int .i64 0) h'):AC Tryz.prog 320 [.ptr (some ⟨p,0⟩)] h Q:=ac320 (by
 unfold vc320
 exact rd_fail R hQ)
set_option maxRecDepth 20000 in
theorem e366 {n:Int}(R:Rd h p o)(hl:∀l,o=some l->l.length<=100000)(hQ0:tk n o=none->∀h',Fr p h h'->Rd h' p none->Q (.sl none) h')
  (hQ1:∀a b,tk n o=some (a,b)->∀q h',Fr p h h'->HasL byE h' q a->(∀s,q=some s->h.length<=s.b)->Rd h' p (some b)->Q (.sl q) h'):AC Tryz.prog 366 [.ptr (some ⟨p,0⟩),.int .i64 n] h Q:=ac366 (by
 unfold vc366
 refine e315 R ⟨_,rfl,?_⟩
 cases o with
 |none=>
  refine zB (λ_=> ?_) (λg=>by simp at g)
  exact e320 R λh' F R'=>⟨_,rfl,hQ0 rfl h' F R'⟩
 |some l=>
  refine zB (λg=>by simp at g) (λ_=> ?_)
  obtain⟨q,c1,c2,c3⟩:=zQJ R
  have c4:=c2.len
  refine zB (λg=> ?_) (λg=> ?_)
  ·replace g:=of_decide_eq_true g
   exact e320 R λh' F R'=>⟨_,rfl,hQ0 (by simp only[tk];rw[if_neg (by omega)]) h' F R'⟩
  replace g:=of_decide_eq_false g
  refine⟨q,c1,zB (λg2=> ?_) (λg2=> ?_)⟩
  ·replace g2:=of_decide_eq_true g2
   exact e320 R λh' F R'=>⟨_,rfl,hQ0 (by simp only[tk];rw[if_neg (by omega)]) h' F R'⟩
  replace g2:=of_decide_eq_false g2
  refine⟨q,c1,HasL.slice (E:=byE) c2 (by omega) (by simp;omega) (by simp;omega) λq19 H19=> ?_⟩
  have H19:HasL byE h q19 (l.take n.toNat):=by simpa using H19
  have hll:=hl l rfl
  refine e235 H19 (by have:=List.length_take_le' n.toNat l;omega) λq22 h21 hx H22 hq22=>⟨q22,rfl,q,hx.cells c1,?_⟩
  refine HasL.slice2 (E:=byE) (c2.mono hx) (by omega) (by simp;omega) (by simp) λq25 H25 hq25=> ?_
  have H25:HasL byE h21 q25 (l.drop n.toNat):=by simpa using H25
  have hpl:=R.live
  refine rd_cut (R.ext hx) H25 (λs hs=>by obtain⟨s',a1,a2⟩:=hq25 s hs;rw[a2];exact c3 s' a1) λh27 F27 R27=> ?_
  refine hQ1 (l.take n.toNat) (l.drop n.toNat) (by simp only[tk];rw[if_pos (by omega)]) q22 h27 ((Fr.ofExt hx).trans F27) (F27.keeps.hasL (λs hs he=>by have:=hq22 s hs;have he:s.b=p:=he;omega) H22) hq22 R27)
theorem zUH {a:Bs}{i:Nat}{x:UInt8}(h:a[i]?=some x):beV (a.take (i+1))=beV (a.take i)*256+x.toNat:=by
 rw[List.take_add_one,h];exact zFN
theorem tk_some {n:Int}{a b:Bs}(h:tk n o=some (a,b)):∃l,o=some l/\0<=n/\n<=l.length/\a=l.take n.toNat/\b=l.drop n.toNat:=by
 cases o with
 |none=>cases h
 |some l=>
  simp only[tk] at h
  split at h
  ·rename_i hc
   simp only[Option.some.injEq,Prod.mk.injEq] at h
   exact⟨l,rfl,hc.1,hc.2,h.1.symm,h.2.symm⟩
  ·cases h
set_option maxRecDepth 20000 in
theorem e317 {k:Int}(R:Rd h p o)(hl:∀l,o=some l->l.length<=100000)(hQ:∀h',Fr p h h'->Rd h' p (stO (fx k o))->Q (.int .i64 (valN (fx k o))) h'):AC Tryz.prog 317 [.ptr (some ⟨p,0⟩),.int .i64 k] h Q:=ac317 (by
 unfold vc317
 refine zB (λg=> ?_) (λg=> ?_)
 ·replace g:=of_decide_eq_true g
  have e:fx k o=none:=by unfold fx;rw[if_neg (by omega)]
  rw[e] at hQ
  exact e320 R λh' F R'=>⟨_,rfl,hQ h' F R'⟩
 replace g:=of_decide_eq_false g
 refine zB (λg2=> ?_) (λg2=> ?_)
 ·replace g2:=of_decide_eq_true g2
  have e:fx k o=none:=by unfold fx;rw[if_neg (by omega)]
  rw[e] at hQ
  exact e320 R λh' F R'=>⟨_,rfl,hQ h' F R'⟩
 replace g2:=of_decide_eq_false g2
 have efx:fx k o=match tk k o with |some (a,b)=>if beV a<M63 then some (beV a,b) else none|none=>none:=by unfold fx;rw[if_pos (by omega)]
 refine e366 R hl (λht h10 F10 R10=>⟨none,rfl,?_⟩) (λa b ht q11 h10 F10 H11 _ R10=>⟨q11,rfl,?_⟩)
 ·rw[ht] at efx
  rw[efx] at hQ
  refine⟨λxs h16=>h16=h10/\∃n13:Int,xs=[.int .u64 0,.int .i64 n13]/\0<=n13,λ_ _=>0,⟨rfl,0,rfl,by omega⟩,?_⟩
  rintro n12 n13 h16 ⟨rfl,n',hx,hn⟩
  simp only[List.cons.injEq,AV.int.injEq,true_and,and_true] at hx
  obtain⟨rfl,rfl⟩:=hx
  refine zB (λg=> ?_) (λ_=> ?_)
  ·replace g:=of_decide_eq_true g
   simp only[zJ] at g;omega
  ·refine e315 R10 ⟨_,rfl,zB (λ_=> ?_) (λg=>by simp at g)⟩
   exact e320 R10 λh' F R'=>⟨_,rfl,hQ h' (F10.trans F) R'⟩
 ·rw[ht] at efx
  simp only at efx
  obtain⟨l,rfl,b1,b2,rfl,rfl⟩:=tk_some ht
  have hlen:=H11.len
  generalize ha:l.take k.toNat=a at*
  have hal:a.length=k.toNat:=by rw[<-ha,List.length_take];omega
  refine⟨λxs h16=>h16=h10/\∃i:Nat,xs=[.int .u64 ((beV (a.take i):Nat):Int),.int .i64 i]/\i<=a.length,λxs _=>match xs with | [_,.int _ i]=>(a.length-i).toNat|_=>0,⟨rfl,0,rfl,by omega⟩,?_⟩
  rintro n12 n13 h16 ⟨rfl,i',hx,hi⟩
  simp only[List.cons.injEq,AV.int.injEq,true_and,and_true] at hx
  obtain⟨rfl,rfl⟩:=hx
  refine zB (λg=> ?_) (λg=> ?_)
  ·replace g:=of_decide_eq_true g
   refine HasL.idx (E:=byE) H11 (by omega) (by omega) λpp x hx hc=>⟨((x.toNat:Nat):Int),hc,?_⟩
   have hx':a[i']?=some x:=by simpa using hx
   have hb:beV (a.take i')<72057594037927936:=by
    have h1:=beV_lt (a.take i')
    have h2:(a.take i').length<=7:=by rw[List.length_take];omega
    have h3:256^(a.take i').length<=256^7:=Nat.pow_le_pow_right (by omega) h2
    omega
   rw[or8 hb x.toNat_lt,<-zUH hx',zF ⟨by omega,by omega⟩]
   exact⟨trivial,⟨rfl,i'+1,by simp,by omega⟩,by simp only;omega⟩
  ·replace g:=of_decide_eq_false g
   have:i'=a.length:=by omega
   subst this
   rw[List.take_length]
   refine e315 R10 ⟨_,rfl,zB (λg=>by simp at g) (λ_=> ?_)⟩
   refine zB (λg3=> ?_) (λg3=> ?_)
   ·replace g3:=of_decide_eq_true g3
    rw[if_neg (by simp only[M63];omega)] at efx
    rw[efx] at hQ
    exact e320 R10 λh' F R'=>⟨_,rfl,hQ h' (F10.trans F) R'⟩
   ·replace g3:=of_decide_eq_false g3
    rw[if_pos (by simp only[M63];omega)] at efx
    rw[efx] at hQ
    rw[zF ⟨by omega,by omega⟩]
    exact hQ _ F10 R10)
theorem e318 {n:Int}{b:Bool}(R:Rd h p o)(hQ0:(o=none∨b=false)->∀h',Fr p h h'->Rd h' p none->Q (.int .i64 0) h')(hQ1:o≠none->b=true->Q (.int .i64 n) h):AC Tryz.prog 318 [.ptr (some ⟨p,0⟩),.int .i64 n,.bool b] h Q:=ac318 (by
 unfold vc318
 refine e315 R ⟨_,rfl,zB (λg=> ?_) (λg=> ?_)⟩
 ·cases o with
  |none=>exact e320 R λh' F R'=>⟨_,rfl,hQ0 (.inl rfl) h' F R'⟩
  |some l=>simp at g
 ·cases o with
  |none=>simp at g
  |some l=>
   refine zB (λg=> ?_) (λg=> ?_)
   ·exact e320 R λh' F R'=>⟨_,rfl,hQ0 (.inr (by simpa using g)) h' F R'⟩
   ·exact hQ1 (by simp) (by simpa using g))
set_option maxRecDepth 20000 in
theorem e319 {n:Nat}(hn:n<M63)(h2:2288<=n)(hQ:Q (.int .i64 ((1+wid n:Nat):Int)) h):AC Tryz.prog 319 [.int .i64 n] h Q:=ac319 (by
 have hw:=zMS hn
 unfold vc319
 refine zB (λg=> ?_) (λ_=> ?_)
 ·replace g:=of_decide_eq_true g;omega
 refine zB (λg=> ?_) (λ_=> ?_)
 ·replace g:=of_decide_eq_true g;omega
 refine zB (λg=> ?_) (λ_=> ?_)
 ·replace g:=of_decide_eq_true g;omega
 refine t356 hn ⟨_,rfl,?_⟩
 rw[zF ⟨by omega,by omega⟩]
 have e:(1+((wid n:Nat):Int))=((1+wid n:Nat):Int):=by omega
 rw[e];exact hQ)
end
theorem zLJ {l b:Bs}{n:Nat}(h:rdN l=some (n,b)):b.length<=l.length:=by
 obtain⟨h1,_⟩:=zB1 h
 rw[h1,List.length_append];omega
theorem fx1 {c:UInt8}{l:Bs}:fx 1 (some (c::l))=some (c.toNat,l):=by
 have hc:=c.toNat_lt
 have e:tk 1 (some (c::l))=some ([c],l):=by simp[tk];omega
 unfold fx
 rw[if_pos (by omega),e]
 have:beV [c]=c.toNat:=by simp[beV]
 simp only[this]
 rw[if_pos (by simp only[M63];omega)]
theorem zRU:fx 1 (some [])=none:=by
 unfold fx
 rw[if_pos (by omega)]
 have:tk 1 (some [])=none:=by simp[tk]
 rw[this]
theorem zT5:fx 1 none=none:=by
 unfold fx
 rw[if_pos (by omega)]
 rfl
theorem zC9 {n:Nat}{b:Bs}:valN (some (n,b))=n:=rfl
section
variable{h:Heap}{Q:AHp}{p:Nat}{o:Option Bs}
set_option maxRecDepth 20000 in
theorem e249 (R:Rd h p o)(hl:∀l,o=some l->l.length<=100000)(hQ:∀h',Fr p h h'->Rd h' p (stO (nm o))->Q (.int .i64 (valN (nm o))) h'):AC Tryz.prog 249 [.ptr (some ⟨p,0⟩)] h Q:=ac249 (by
 unfold vc249
 refine e317 R hl λh3 F3 R3=>⟨_,rfl,?_⟩
 match o with
 |none=>
  rw[zT5] at R3 ⊢
  refine zB (λ_=>hQ h3 F3 R3) (λg=> ?_)
  replace g:=of_decide_eq_false g
  simp only[valN] at g;omega
 |some []=>
  rw[zRU] at R3 ⊢
  refine zB (λ_=>hQ h3 F3 R3) (λg=> ?_)
  replace g:=of_decide_eq_false g
  simp only[valN] at g;omega
 |some (c::l)=>
  have hcl:=hl _ rfl
  rw[List.length_cons] at hcl
  have hc:=c.toNat_lt
  rw[fx1] at R3 ⊢
  simp only[stO] at R3
  rw[zC9]
  refine zB (λg=> ?_) (λg=> ?_)
  ·replace g:=of_decide_eq_true g
   have e:nm (some (c::l))=some (c.toNat,l):=by simp only[nm,rdN];rw[if_pos (by omega)]
   rw[e] at hQ
   exact hQ h3 F3 R3
  replace g:=of_decide_eq_false g
  refine zB (λg2=> ?_) (λg2=> ?_)
  ·replace g2:=of_decide_eq_true g2
   refine e317 R3 (λl' h=>by cases h;omega) λh6 F6 R6=>⟨_,rfl,?_⟩
   cases l with
   |nil=>
    have e:nm (some (c::[]))=none:=by simp only[nm,rdN];rw[if_neg (by omega),if_pos (by omega)]
    rw[e] at hQ
    rw[zRU] at R6
    exact e318 R6 (λ_ h9 F9 R9=>⟨_,rfl,hQ h9 ((F3.trans F6).trans F9) R9⟩) (λh=>(h rfl).elim)
   |cons x l=>
    have hx:=x.toNat_lt
    have e:nm (some (c::x::l))=some (240+(c.toNat-240)*256+x.toNat,l):=by simp only[nm,rdN];rw[if_neg (by omega),if_pos (by omega)]
    rw[e] at hQ
    rw[fx1] at R6 ⊢
    refine e318 R6 (λh=>by rcases h with h|h<;>cases h) (λ_ _=>⟨_,rfl,?_⟩)
    have e2:shlK .i64 (zC .i64 ((c.toNat:Int) - 240)) 8=(((c.toNat-240)*256:Nat):Int):=by
     have e:min ((8:Int).toNat) IntKind.i64.bits=8:=by decide
     rw[zF ⟨by omega,by omega⟩]
     simp only[shlK,e]
     have:(((c.toNat:Int) - 240)*2^8)=(((c.toNat-240)*256:Nat):Int):=by omega
     rw[this]
     exact zF ⟨by omega,by omega⟩
    rw[zC9,e2,zF (n:=240+(((c.toNat-240)*256:Nat):Int)) ⟨by omega,by omega⟩,zF ⟨by omega,by omega⟩]
    have e3:(240+(((c.toNat-240)*256:Nat):Int)+(x.toNat:Int))=((240+(c.toNat-240)*256+x.toNat:Nat):Int):=by omega
    rw[e3]
    exact hQ h6 (F3.trans F6) R6
  replace g2:=of_decide_eq_false g2
  refine zB (λg3=> ?_) (λg3=> ?_)
  ·replace g3:=of_decide_eq_true g3
   rw[zF (n:=(c.toNat:Int) - 246) ⟨by omega,by omega⟩,zF (n:=(c.toNat:Int) - 246+1) ⟨by omega,by omega⟩]
   have ek:((c.toNat:Int) - 246)=((c.toNat-246:Nat):Int):=by omega
   rw[ek]
   generalize hk:c.toNat-246=k at*
   have ern:nm (some (c::l))=if k<=l.length/\beV (l.take k)<9223372036854775808/\2288<=beV (l.take k)/\wid (beV (l.take k))=k then some (beV (l.take k),l.drop k) else none:=by
    simp only[nm,rdN]
    rw[if_neg (by omega),if_neg (by omega),if_pos (by omega),hk]
   have efx:fx (k:Int) (some l)=if k<=l.length then(if beV (l.take k)<M63 then some (beV (l.take k),l.drop k) else none) else none:=by
    unfold fx
    rw[if_pos (by omega)]
    simp only[tk]
    by_cases hkl:k<=l.length
    ·rw[if_pos (by omega),if_pos hkl];simp
    ·rw[if_neg (by omega),if_neg hkl]
   refine e317 R3 (λl' h=>by cases h;omega) λh12 F12 R12=>⟨_,rfl,?_⟩
   have bad:∀(h12:Heap),Fr p h3 h12->Rd h12 p (stO (fx (k:Int) (some l)))->nm (some (c::l))=none->∀n:Int,∀o',Rd h12 p o'->AC Tryz.prog 318 [.ptr (some ⟨p,0⟩),.int .i64 n,.bool false] h12 λv20 h21=>∃n22:Int,v20= .int .i64 n22/\Q (.int .i64 n22) h21:=by
    intro h12 F12 R12 e n o' R'
    rw[e] at hQ
    exact e318 R' (λ_ h9 F9 R9=>⟨_,rfl,hQ h9 ((F3.trans F12).trans F9) R9⟩) (λ_ h=>by cases h)
   refine zB (λg4=> ?_) (λg4=> ?_)
   ·replace g4:=of_decide_eq_true g4
    by_cases hkl:k<=l.length
    ·rw[if_pos hkl] at efx
     by_cases hv:beV (l.take k)<M63
     ·rw[if_pos hv] at efx
      rw[efx] at R12 g4 ⊢
      rw[zC9] at g4 ⊢
      simp only[stO] at R12
      refine e319 hv (by omega) ⟨_,rfl,?_⟩
      refine e318 R12 (λhor h9 F9 R9=>⟨_,rfl,?_⟩) (λ_ hb=>⟨_,rfl,?_⟩)
      ·rcases hor with hor|hor
       ·cases hor
       ·have hne:¬wid (beV (l.take k))=k:=by
         intro he
         rw[he] at hor
         have:(((1+k:Nat):Int)==(k:Int)+1)=true:=by simp;omega
         rw[this] at hor;cases hor
        rw[if_neg (λh=>hne h.2.2.2)] at ern
        rw[ern] at hQ
        exact hQ h9 ((F3.trans F12).trans F9) R9
      ·have he:wid (beV (l.take k))=k:=by
        have:((1+wid (beV (l.take k)):Nat):Int)=(k:Int)+1:=by simpa using hb
        omega
       rw[if_pos ⟨hkl,hv,by omega,he⟩] at ern
       rw[ern] at hQ
       exact hQ h12 (F3.trans F12) R12
     ·rw[if_neg hv] at efx
      rw[efx] at g4
      simp only[valN] at g4;omega
    ·rw[if_neg hkl] at efx
     rw[efx] at g4
     simp only[valN] at g4;omega
   ·replace g4:=of_decide_eq_false g4
    refine bad h12 F12 R12 ?_ _ _ R12
    rw[ern,if_neg]
    rintro⟨a1,a2,a3,a4⟩
    rw[if_pos a1,if_pos (by simp only[M63];exact a2)] at efx
    rw[efx,zC9] at g4
    omega
  ·replace g3:=of_decide_eq_false g3
   have e:nm (some (c::l))=none:=by simp only[nm,rdN];rw[if_neg (by omega),if_neg (by omega),if_neg (by omega)]
   rw[e] at hQ
   exact e320 R3 λh' F R'=>⟨_,rfl,hQ h' (F3.trans F) R'⟩)
end
def Bd(o:Option Bs):Prop:=∀l,o=some l->l.length<=100000
theorem Bd.nm {o:Option Bs}(B:Bd o):Bd (stO (nm o)):=by
 intro l hl
 cases o with
 |none=>cases hl
 |some l0=>
  have:=B l0 rfl
  simp only[Go.Proofs.YtafmabnolelknaaGreatDoor.nm] at hl
  cases hr:rdN l0 with
  |none=>rw[hr] at hl;cases hl
  |some r=>rw[hr] at hl;cases hl;have:=zLJ hr;omega
section
variable{h:Heap}{Q:AHp}{p:Nat}{o:Option Bs}
theorem e250 (R:Rd h p o)(hQ:Q (.int .i64 (match o with |none=>10|some l=>if l=[] then 0 else 10)) h):AC Tryz.prog 250 [.ptr (some ⟨p,0⟩)] h Q:=ac250 (by
 unfold vc250
 refine e315 R ⟨_,rfl,?_⟩
 cases o with
 |none=>exact zB (λ_=>hQ) (λg=>by cases g)
 |some l=>
  refine zB (λg=>by cases g) (λ_=> ?_)
  obtain⟨q,c1,c2,c3⟩:=zQJ R
  have c4:=c2.len
  refine⟨q,c1,zB (λg=> ?_) (λg=> ?_)⟩
  ·replace g:=of_decide_eq_true g
   have:l≠ []:=by intro h;rw[h] at c4;simp at c4;omega
   simp only[if_neg this] at hQ;exact hQ
  ·replace g:=of_decide_eq_false g
   have:l=[]:=List.eq_nil_of_length_eq_zero (by omega)
   simp only[if_pos this] at hQ;exact hQ)
theorem e247 {q:OSl}{l:Bs}(H:HasL byE h q l)(hl:l.length<=100000)(hQ:∀p h',Ext h h'->h.length<=p->Rd h' p (some l)->Q (.ptr (some ⟨p,0⟩)) h'):AC Tryz.prog 247 [.sl q] h Q:=ac247 (by
 unfold vc247 PNew
 refine e235 H hl λq4 h3 hx H4 _=>⟨q4,rfl,hQ _ _ (hx.trans (Ext.app _ _)) hx.len ⟨q4,by simp,H4.mono (Ext.app _ _),λs hs=>HasL.live H4 s hs⟩⟩)
theorem Fr.ext {h0 h':Heap}(F:Fr p h h')(K:Ext h0 h)(hp:h0.length<=p):Ext h0 h':=λb B hB=>F.keeps b B (λhe=>by have he:b=p:=he;have:=zD hB;omega) (K _ _ hB)
end
end Go.Proofs.YtafmabnolelknaaGreatDoor
namespace Go.Proofs.YtafmabnolelknaaGreatDoor
open Go.Ab
open Go.Num hiding Bs snoc_ind
open Go.Ent
set_option linter.unusedVariables false
set_option linter.unusedSimpArgs false
def xU(a b:Int):Int:=if 0<=a/\a<65536/\0<=b/\b<65536 then 0 else 40
def xT(a b:Int):Int:=if 0<=a/\a<1048576/\0<=b/\b<1048576 then 0 else 30
def yM(e:Ent):Int:=if xU e.1 e.2.1=0 then xT e.2.2.1 e.2.2.2 else 40
theorem vL (a b:Int):(xU a b=0/\0<=a/\a<65536/\0<=b/\b<65536)∨(xU a b=40/\¬(0<=a/\a<65536/\0<=b/\b<65536)):=by
 unfold xU
 split
 ·exact .inl ⟨rfl,by assumption⟩
 ·exact .inr ⟨rfl,by assumption⟩
theorem vK (a b:Int):(xT a b=0/\0<=a/\a<1048576/\0<=b/\b<1048576)∨(xT a b=30/\¬(0<=a/\a<1048576/\0<=b/\b<1048576)):=by
 unfold xT
 split
 ·exact .inl ⟨rfl,by assumption⟩
 ·exact .inr ⟨rfl,by assumption⟩
theorem zAM {e:Ent}:yM e=0↔yH e=true:=by
 unfold yM yH
 rw[decide_eq_true_iff]
 rcases vL e.1 e.2.1 with⟨h1,h2⟩|⟨h1,h2⟩<;>rcases vK e.2.2.1 e.2.2.2 with⟨h3,h4⟩|⟨h3,h4⟩<;>rw[h1]
 ·rw[if_pos rfl,h3];simp;omega
 ·rw[if_pos rfl,h3];simp;omega
 ·rw[if_neg (by omega)];simp;omega
 ·rw[if_neg (by omega)];simp;omega
def mayE(l:List Ent):Int:=match l.find? (λe=>decide (yM e≠0)) with |some e=>yM e|none=>if l.length>16384 then 3 else 0
theorem zBG {l:List Ent}:mayE l=0↔(∀e∈l,yH e=true)/\l.length<=16384:=by
 unfold mayE
 cases hf:l.find? (λe=>decide (yM e≠0)) with
 |some e=>
  simp only
  have h1:=List.find?_some hf
  have h2:=List.mem_of_find?_eq_some hf
  have h1:yM e≠0:=by simpa using h1
  exact⟨λh=>absurd h h1,λh=>absurd (zAM.2 (h.1 e h2)) h1⟩
 |none=>
  simp only
  have hall:∀e∈l,yH e=true:=λe he=>by
   have:=List.find?_eq_none.1 hf e he
   exact zAM.1 (by simpa using this)
  by_cases hl:l.length>16384
  ·rw[if_pos hl];exact⟨λh=>by omega,λh=>by omega⟩
  ·rw[if_neg hl];exact⟨λ_=>⟨hall,by omega⟩,λ_=>rfl⟩
theorem zRZ {l:List Ent}{i:Nat}{p:Ent->Bool}(h:∀e∈l.take i,p e=false){x:Ent}(hx:l[i]?=some x)(hp:p x=true):l.find? p=some x:=by
 rw[<-List.take_append_drop i l,List.find?_append]
 have:(l.take i).find? p=none:=List.find?_eq_none.2 λe he=>by rw[h e he];simp
 rw[this]
 have:l.drop i=x::l.drop (i+1):=by
  obtain⟨hi,rfl⟩:=List.getElem?_eq_some_iff.1 hx
  exact List.drop_eq_getElem_cons hi
 rw[this];simp[hp]
section
variable{h:Heap}{Q:AHp}
theorem k127 {a b:Int}(hQ:Q (.int .i64 (xU a b)) h):AC Tryz.prog 127 [.agg [.int .i64 a,.int .i64 b]] h Q:=ac127 (by
 unfold vc127
 have no:¬(0<=a/\a<65536/\0<=b/\b<65536)->Q (.int .i64 40) h:=λhc=>by unfold xU at hQ;rw[if_neg hc] at hQ;exact hQ
 refine zB (λg=>no (by have:=of_decide_eq_true g;omega)) (λg1=> ?_)
 refine zB (λg=>no (by have:=of_decide_eq_true g;omega)) (λg2=> ?_)
 refine zB (λg=>no (by have:=of_decide_eq_true g;omega)) (λg3=> ?_)
 refine zB (λg=>no (by have:=of_decide_eq_true g;omega)) (λg4=> ?_)
 have:=of_decide_eq_false g1
 have:=of_decide_eq_false g2
 have:=of_decide_eq_false g3
 have:=of_decide_eq_false g4
 unfold xU at hQ;rw[if_pos (by omega)] at hQ;exact hQ)
theorem k192 {a:Int}(hQ:Q (.bool (decide (0<=a/\a<1048576))) h):AC Tryz.prog 192 [.int .i64 a] h Q:=ac192 (by
 unfold vc192
 refine zB (λg=> ?_) (λg=> ?_)
 ·have:=of_decide_eq_true g
  have e:decide (a<=1048575)=decide (0<=a/\a<1048576):=decide_eq_decide.2 ⟨λh=>by omega,λh=>by omega⟩
  rw[e];exact hQ
 ·have:=of_decide_eq_false g
  rw[decide_eq_false (by omega)] at hQ;exact hQ)
theorem k128 {a b:Int}(hQ:Q (.int .i64 (xT a b)) h):AC Tryz.prog 128 [.agg [.int .i64 a,.int .i64 b]] h Q:=ac128 (by
 unfold vc128
 have no:¬(0<=a/\a<1048576/\0<=b/\b<1048576)->Q (.int .i64 30) h:=λhc=>by unfold xT at hQ;rw[if_neg hc] at hQ;exact hQ
 refine k192 ⟨_,rfl,zB (λg=> ?_) (λg=> ?_)⟩
 ·simp only[Bool.not_eq_true',decide_eq_false_iff_not] at g;exact no (by omega)
 simp only[Bool.not_eq_false',decide_eq_true_eq] at g
 refine k192 ⟨_,rfl,zB (λg2=> ?_) (λg2=> ?_)⟩
 ·simp only[Bool.not_eq_true',decide_eq_false_iff_not] at g2;exact no (by omega)
 simp only[Bool.not_eq_false',decide_eq_true_eq] at g2
 unfold xT at hQ;rw[if_pos (by omega)] at hQ;exact hQ)
theorem k69 {e:Ent}(hQ:Q (.int .i64 (yM e)) h):AC Tryz.prog 69 [entV e] h Q:=ac69 (by
 unfold vc69
 unfold yM at hQ
 refine k127 ⟨_,rfl,?_⟩
 rcases vL e.1 e.2.1 with⟨h1,h2⟩|⟨h1,h2⟩<;>rw[h1] at hQ ⊢
 ·rw[if_pos rfl] at hQ
  refine zB (λg=>by simp at g) (λ_=>k128 ⟨_,rfl,hQ⟩)
 ·rw[if_neg (by omega)] at hQ
  exact zB (λ_=>hQ) (λg=>by simp at g))
theorem k215 {q:OSl}{l:List Ent}(H:HasL entE h q l)(hl:l.length<=1000000)(hQ:Q (.int .i64 (mayE l)) h):AC Tryz.prog 215 [.sl q] h Q:=ac215 (by
 unfold vc215
 have hlen:=H.len
 refine⟨λxs h5=>h5=h/\∃i:Nat,xs=[.int .i64 i]/\i<=l.length/\∀e∈l.take i,yM e=0,λxs _=>match xs with | [.int _ i]=>(l.length-i).toNat|_=>0,⟨rfl,0,rfl,by omega,by simp⟩,?_⟩
 rintro n2 h5 ⟨rfl,i,hx,hi,hok⟩
 simp only[List.cons.injEq,AV.int.injEq,true_and,and_true] at hx
 subst hx
 refine zB (λg=> ?_) (λg=> ?_)
 ·replace g:=of_decide_eq_true g
  refine HasL.idx (E:=entE) H (by omega) (by omega) λpp x hx hc=>⟨_,_,_,_,hc,?_⟩
  have hx':l[i]?=some x:=by simpa using hx
  refine k69 (e:=x) ⟨_,rfl,zB (λg2=> ?_) (λg2=> ?_)⟩
  ·have g2:yM x≠0:=by simpa using g2
   have e:mayE l=yM x:=by
    unfold mayE
    rw[zRZ (i:=i) (x:=x) (λe he=>by simp[hok e he]) hx' (by simpa using g2)]
   rw[e] at hQ;exact hQ
  ·have g2:yM x=0:=by simpa using g2
   rw[zF ⟨by omega,by omega⟩]
   refine⟨trivial,⟨rfl,i+1,by simp,by omega,?_⟩,by simp only;omega⟩
   intro e he
   rw[List.take_add_one,hx'] at he
   rcases List.mem_append.1 he with he|he
   ·exact hok e he
   ·simp at he;subst he;exact g2
 ·replace g:=of_decide_eq_false g
  have:i=l.length:=by omega
  subst this
  rw[List.take_length] at hok
  have e:mayE l=if l.length>16384 then 3 else 0:=by
   unfold mayE
   rw[List.find?_eq_none.2 λe he=>by simp[hok e he]]
  rw[e] at hQ
  refine zB (λg2=> ?_) (λg2=> ?_)
  ·have:=of_decide_eq_true g2
   rw[if_pos (by omega)] at hQ;exact hQ
  ·have:=of_decide_eq_false g2
   rw[if_neg (by omega)] at hQ;exact hQ)
theorem cat2 {h0 h1 h2:Heap}{q8 q12:OSl}{a b:Bs}{K:AHp}(A:New byE h0 h1 q8 a)(B:New byE h1 h2 q12 b)(hT:a.length+b.length<=100000)(hK:∀q h',New byE h0 h' q (a++b)->K (.sl q) h'):
  AC Tryz.prog 299 [.sl (some ⟨h2.length,0,2,2,0⟩)] (h2++[.cells [.sl q8,.sl q12] true]) K:=by
 refine t299 (qs:=[q8,q12]) (ls:=[a,b]) (HasL.new (E:=slE) (l:=[q8,q12]) (n:=2) rfl rfl) rfl ?_ (by simpa using hT) (by simp) λq26 h25 N3=> ?_
 ·intro i s l' g1 g2
  match i with
  |0=>cases g1;cases g2;exact A.hasL.mono (B.1.trans (.app _ _))
  |1=>cases g1;cases g2;exact B.hasL.mono (.app _ _)
  |i+2=>simp at g1
 ·have:=N3.of ((A.1.trans B.1).trans (.app _ _))
  exact hK _ _ (by simpa using this)
theorem toNat63 {a b:Int}(h0:0<=a)(h:a<2000000):a=((a.toNat:Nat):Int)/\a.toNat<M63/\(numB a.toNat).length<=9:=by
 refine⟨by omega,by simp only[M63];omega,zII (by simp only[M63];omega)⟩
theorem putN {a:Int}(h0:0<=a)(h1:a<2000000)(hQ:∀q h',New byE h h' q (numB a.toNat)->Q (.tup [.sl q,.int .i64 0]) h'):AC Tryz.prog 296 [.int .i64 a] h Q:=by
 obtain⟨e,b,_⟩:=toNat63 (b:=0) h0 h1
 have:=t296 (n:=a.toNat) b hQ
 rwa[<-e] at this
theorem k351 {a b:Int}(ha:0<=a/\a<65536)(hb:0<=b/\b<65536)(hQ:∀q h',New byE h h' q (numB a.toNat++numB b.toNat)->Q (.tup [.sl q,.int .i64 0]) h'):AC Tryz.prog 351 [.agg [.int .i64 a,.int .i64 b]] h Q:=ac351 (by
 unfold vc351 PNew
 have e:xU a b=0:=by unfold xU;rw[if_pos (by omega)]
 refine k127 ⟨_,rfl,?_⟩
 rw[e]
 refine zB (λg=>by simp at g) (λ_=> ?_)
 refine putN ha.1 (by omega) λq8 h7 N1=>⟨_,_,rfl,?_⟩
 refine putN hb.1 (by omega) λq12 h11 N2=>⟨_,_,rfl,?_⟩
 have l1:=zDO (n:=a.toNat) (by omega)
 have l2:=zDO (n:=b.toNat) (by omega)
 exact cat2 N1 N2 (by omega) λq h' N=>⟨_,rfl,hQ _ _ N⟩)
theorem k352 {a b:Int}(ha:0<=a/\a<1048576)(hb:0<=b/\b<1048576)(hQ:∀q h',New byE h h' q (numB a.toNat++numB b.toNat)->Q (.tup [.sl q,.int .i64 0]) h'):AC Tryz.prog 352 [.agg [.int .i64 a,.int .i64 b]] h Q:=ac352 (by
 unfold vc352 PNew
 have e:xT a b=0:=by unfold xT;rw[if_pos (by omega)]
 refine k128 ⟨_,rfl,?_⟩
 rw[e]
 refine zB (λg=>by simp at g) (λ_=> ?_)
 refine putN ha.1 (by omega) λq8 h7 N1=>⟨_,_,rfl,?_⟩
 refine putN hb.1 (by omega) λq12 h11 N2=>⟨_,_,rfl,?_⟩
 have l1:=zBF (n:=a.toNat) (by omega)
 have l2:=zBF (n:=b.toNat) (by omega)
 exact cat2 N1 N2 (by omega) λq h' N=>⟨_,rfl,hQ _ _ N⟩)
theorem k293 {e:Ent}(he:yH e=true)(hQ:∀q h',New byE h h' q (entB e)->Q (.sl q) h'):AC Tryz.prog 293 [entV e] h Q:=ac293 (by
 unfold vc293 PNew
 have h':=of_decide_eq_true he
 have hb:=zIV he
 refine k351 (by omega) (by omega) λq7 h6 N1=>⟨_,_,rfl,?_⟩
 refine k352 (by omega) (by omega) λq11 h10 N2=>⟨_,_,rfl,?_⟩
 have hbl:(entB e).length=(numB e.1.toNat++numB e.2.1.toNat).length+(numB e.2.2.1.toNat++numB e.2.2.2.toNat).length:=by simp[entB,Nat.add_assoc]
 exact cat2 N1 N2 (by omega) λq h' N=>⟨_,rfl,hQ _ _ N⟩)
end
section
variable{h:Heap}{Q:AHp}
theorem zJ0 {l:List Ent}{i:Nat}{x:Ent}(hx:l[i]?=some x):pRun (l.take (i+1))=zLN (pRun (l.take i)) x:=by
 rw[List.take_add_one,hx]
 exact zF1
theorem zTM {l:List Ent}(hok:∀e∈l,yH e=true):(pRun l).1.length<=l.length:=by
 have:=zNM (gs:=(pRun l).1) λg hg=>((zIE l hok).1 g hg).1
 have h2:=congrArg List.length (zJ1 l)
 rw[List.length_append] at h2;omega
theorem zQ0 {l:List Ent}(hok:∀e∈l,yH e=true)(i:Nat):∀e∈l.take i,yH e=true:=λe he=>hok e (List.mem_of_mem_take he)
abbrev encP(gs:Gs):List Bs:=gs.map encL
structure PkI(h0 h:Heap)(out last:OSl)(s:Gs×List Ent):Prop where
 ex:∃qs,LL byE h0 h out qs (encP s.1)/\∀(i:Nat) (t:SL),qs[i]?=some (some t)->∀u,last=some u->u.b≠t.b
 la:Apd byE h last (encL s.2)
 lb:∀u,last=some u->h0.length<=u.b/\∀o,out=some o->o.b≠u.b
theorem PkI.grow {h0 h h':Heap}{out last:OSl}{s:Gs×List Ent}(I:PkI h0 h out last s)(x:Ext h h'):PkI h0 h' out last s:=by
 obtain⟨⟨qs,a,b⟩,c,d⟩:=I
 exact⟨⟨qs,a.grow x,b⟩,c.ext x,d⟩
theorem PkI.app {h0 h:Heap}{out last src:OSl}{s:Gs×List Ent}{e:Ent}{K:OSl->Heap->Prop}(I:PkI h0 h out last s)(H:HasL byE h src (entB e))(hb:(encL s.2).length+(entB e).length<=1000)
  (hK:∀last' h',PkI h0 h' out last' (s.1,s.2++[e])->K last' h'):zM 1 1 last src h K:=by
 obtain⟨⟨qs,L,hd⟩,la,lb⟩:=I
 refine Apd.append (E:=byE) la H (by omega) λlast' h' A K1 hl hq=>hK last' h' ?_
 have notO:∀o,out=some o->¬ ∃u,last=some u/\u.b=o.b:=λo ho ⟨u,h1,h2⟩=>(lb u h1).2 o ho h2.symm
 have notE:∀(i:Nat) (t:SL),qs[i]?=some (some t)->¬ ∃u,last=some u/\u.b=t.b:=λi t ht ⟨u,h1,h2⟩=>hd i t ht u h1 h2
 refine⟨⟨qs,L.keeps K1 (λb ⟨u,h1,h2⟩=>by rw[<-h2];exact(lb u h1).1) notO notE,?_⟩,?_,?_⟩
 ·intro i t ht u hu he
  rcases hq u hu with h1|⟨u0,h1,h2⟩
  ·have:=L.live ht;omega
  ·exact hd i t ht u0 h1 (by omega)
 ·rw[zA3,zFK];exact A
 ·intro u hu
  have hx:=L.ext.len
  rcases hq u hu with h1|⟨u0,h1,h2⟩
  ·refine⟨by omega,λo ho he=> ?_⟩
   have:=HasL.live L.oa.hasL o ho;omega
  ·rw[<-h2];exact lb u0 h1
theorem PkI.push {h0 h:Heap}{out last:OSl}{s:Gs×List Ent}{K:OSl->Heap->Prop}(I:PkI h0 h out last s)(hb:s.1.length<=1000000)
  (hK:∀out' h',PkI h0 h' out' none (s.1++[s.2],[])->zI (λb=>∃o,out=some o/\o.b=b) h h'->K out' h'):zM 1 24 out (some ⟨h.length,0,1,1,0⟩) (h++[.cells [.sl last] true]) K:=by
 obtain⟨⟨qs,L,hd⟩,la,lb⟩:=I
 have hql:=L.len
 rw[List.length_map] at hql
 refine L.push la.hasL lb (by omega) λout' h' L' K' _ _=>hK out' h' ⟨⟨_,by simpa[encP] using L',by simp⟩,.inl ⟨rfl,rfl⟩,by simp⟩ K'
theorem PkI.start (h:Heap):PkI h h none none ([],[]):=⟨⟨[],LL.nil h,by simp⟩,.inl ⟨rfl,rfl⟩,by simp⟩
theorem k230 {q:OSl}{l:List Ent}(H:HasL entE h q l)(hl:l.length<=100000)(h0:mayE l≠0->Q (.tup [.sl none,.int .i64 (mayE l)]) h)
  (h1:mayE l=0->∀q' qs h',LL byE h h' q' qs (encP (zR l))->Q (.tup [.sl q',.int .i64 0]) h'):AC Tryz.prog 230 [.sl q] h Q:=ac230 (by
 unfold vc230 PNew
 have hlen:=H.len
 refine k215 H (by omega) ⟨_,rfl,zB (λg=>h0 (by simpa using g)) (λg=> ?_)⟩
 have g:mayE l=0:=by simpa using g
 have h1:=h1 g
 obtain⟨hok,hlm⟩:=zBG.1 g
 refine⟨λxs h10=>∃(q5 q6:OSl) (i:Nat),xs=[.sl q5,.sl q6,.int .i64 i]/\i<=l.length/\PkI h h10 q5 q6 (pRun (l.take i)),λxs _=>match xs with | [_,_,.int _ i]=>(l.length-i).toNat|_=>0,⟨none,none,0,rfl,by omega,PkI.start h⟩,?_⟩
 rintro q5 q6 n7 h10 ⟨q5',q6',i,hx,hi,I⟩
 simp only[List.cons.injEq,AV.int.injEq,AV.sl.injEq,true_and,and_true] at hx
 obtain⟨rfl,rfl,rfl⟩:=hx
 have x10:Ext h h10:=by obtain⟨qs,L,_⟩:=I.ex;exact L.ext
 have hfit:=(zIE (l.take i) (zQ0 hok i))
 have hpl:=zTM (zQ0 hok i)
 rw[List.length_take] at hpl
 have l6:=I.la.hasL.len
 refine zB (λg2=> ?_) (λg2=> ?_)
 ·replace g2:=of_decide_eq_true g2
  refine HasL.idx (E:=entE) (H.mono x10) (by omega) (by omega) λpp x hx hc=>⟨_,_,_,_,hc,?_⟩
  have hx':l[i]?=some x:=by simpa using hx
  have hxok:=hok x (List.mem_of_getElem? hx')
  have hxl:=zIV hxok
  refine k293 (e:=x) hxok λq18 h17 N=>⟨q18,rfl,?_⟩
  have I17:=I.grow N.1
  have l18:=N.hasL.len
  rw[zF (n:=((zJ q6:Nat):Int)+_) ⟨by omega,by omega⟩,zF (n:=((i:Nat):Int)+1) ⟨by omega,by omega⟩]
  refine zB (λg3=> ?_) (λg3=> ?_)
  ·replace g3:=of_decide_eq_true g3
   refine I17.push (by omega) λq21 h22 I22 K22=> ?_
   have H22:HasL byE h22 q18 (entB x):=by
    refine K22.hasL (λt ht ⟨o,ho,he⟩=> ?_) N.hasL
    obtain⟨qs,L,_⟩:=I.ex
    have:=HasL.live L.oa.hasL o ho
    have:=N.2.2 t ht;omega
   refine I22.app (e:=x) H22 (by simp[encL];omega) λq23 h24 I24=> ?_
   refine⟨trivial,⟨q21,q23,i+1,by simp,by omega,?_⟩,by simp only;omega⟩
   rw[zJ0 hx']
   unfold zLN
   rw[if_pos (by omega)]
   simpa using I24
  ·replace g3:=of_decide_eq_false g3
   refine I17.app (e:=x) N.hasL (by omega) λq25 h26 I26=> ?_
   refine⟨trivial,⟨q5,q25,i+1,by simp,by omega,?_⟩,by simp only;omega⟩
   rw[zJ0 hx']
   unfold zLN
   rw[if_neg (by omega)]
   exact I26
 ·replace g2:=of_decide_eq_false g2
  have hil:i=l.length:=by omega
  subst hil
  rw[List.take_length] at I hfit l6 hpl
  have fin:∀{q:OSl} {h':Heap},PkI h h' q none (pFin (pRun l),[])->Q (.tup [.sl q,.int .i64 0]) h':=λI'=>by
   obtain⟨qs,L,_⟩:=I'.ex
   exact h1 _ _ _ L
  refine zB (λg3=> ?_) (λg3=> ?_)
  ·replace g3:=of_decide_eq_true g3
   have hne:(pRun l).2≠ []:=λh0=>by rw[h0] at l6;simp[encL] at l6;omega
   refine I.push (by omega) λq29 h30 I30 _=>fin ?_
   unfold pFin
   rw[if_neg hne];exact I30
  ·replace g3:=of_decide_eq_false g3
   have hz:(pRun l).2=[]:=by
    cases hc:(pRun l).2 with
    |nil=>rfl
    |cons a t=>
     rw[hc] at l6
     have:=vA (e:=a)
     simp[encL] at l6;omega
   refine fin ?_
   unfold pFin
   rw[if_pos hz]
   obtain⟨⟨qs,L,hd⟩,la,lb⟩:=I
   exact⟨⟨qs,L,by simp⟩,.inl ⟨rfl,rfl⟩,by simp⟩)
end
end Go.Proofs.YtafmabnolelknaaGreatDoor

namespace Go.Proofs.YtafmabnolelknaaGreatDoor
open Go.Ab
open Go.Num hiding Bs
set_option linter.unusedVariables false
set_option linter.unusedSimpArgs false
theorem zQ {p:PA}{K:PA->Prop}(h:K p):vPtr (some p) K:=h
end Go.Proofs.YtafmabnolelknaaGreatDoor
namespace Go.Proofs.YtafmabnolelknaaGreatDoor
open Go.Ab
open Go.Num hiding Bs snoc_ind
open Go.Ent
set_option linter.unusedVariables false
set_option linter.unusedSimpArgs false
section
attribute [local irreducible] xU xT
def rd2(o:Option Bs):Option ((Nat×Nat)×Bs):=match nm o with
  |none=>none
  |some (x,b)=>match rdN b with
    |none=>none
    |some (y,c)=>some ((x,y),c)
theorem zIB {b:Bs}:rd4 b=match rd2 (some b) with
    |none=>none
    |some ((x,y),r)=>match rd2 (some r) with
      |none=>none
      |some ((z,w),t)=>some (((x:Int),(y:Int),(z:Int),(w:Int)),t):=by
  unfold rd4 rd2 nm
  simp only
  cases rdN b with
  |none=>rfl
  |some r=>
    obtain⟨x,b1⟩:=r
    simp only
    cases rdN b1 with
    |none=>rfl
    |some r=>
      obtain⟨y,b2⟩:=r
      simp only
      cases rdN b2 with
      |none=>rfl
      |some r=>
        obtain⟨z,b3⟩:=r
        simp only
        cases rdN b3 with
        |none=>rfl
        |some r=>rfl
theorem rd2_len {b r:Bs}{x:Nat×Nat}(h:rd2 (some b)=some (x,r)):r.length<=b.length:=by
  unfold rd2 nm at h
  simp only at h
  cases h1:rdN b with
  |none=>rw[h1] at h;cases h
  |some r1=>
    obtain⟨x1,b1⟩:=r1
    rw[h1] at h;simp only at h
    cases h2:rdN b1 with
    |none=>rw[h2] at h;cases h
    |some r2=>
      obtain⟨y1,b2⟩:=r2
      rw[h2] at h
      simp only[Option.some.injEq,Prod.mk.injEq] at h
      obtain⟨_,rfl⟩:=h
      have:=zLJ h1;have:=zLJ h2;omega
section
variable{h:Heap}{Q:AHp}{p:Nat}{o:Option Bs}
theorem zMY {F:Nat}(num:∀{h:Heap} {Q:AHp} {o:Option Bs},Rd h p o->Bd o->(∀h',Fr p h h'->Rd h' p (stO (nm o))->Q (.int .i64 (valN (nm o))) h')->AC Tryz.prog F [.ptr (some ⟨p,0⟩)] h Q)
    (R:Rd h p o)(hl:Bd o){K:Int->Int->Heap->Prop}(h0:rd2 o=none->∀a b h',Fr p h h'->Rd h' p none->K a b h')(h1:∀x y r h',rd2 o=some ((x,y),r)->Fr p h h'->Rd h' p (some r)->K (x:Nat) (y:Nat) h'):
    AC Tryz.prog F [.ptr (some ⟨p,0⟩)] h λv2 h3=>∃n4:Int,v2= .int .i64 n4/\AC Tryz.prog F [.ptr (some ⟨p,0⟩)] h3 λv5 h6=>∃n7:Int,v5= .int .i64 n7/\K n4 n7 h6:=by
  refine num R hl λh3 F3 R3=>⟨_,rfl,?_⟩
  refine num R3 hl.nm λh6 F6 R6=>⟨_,rfl,?_⟩
  have F:=F3.trans F6
  cases hn:nm o with
  |none=>
    rw[hn] at R6
    exact h0 (by unfold rd2;rw[hn]) _ _ _ F R6
  |some r1=>
    obtain⟨x,b⟩:=r1
    rw[hn] at R6
    cases hm:rdN b with
    |none=>
      have:nm (stO (some (x,b)))=none:=hm
      rw[this] at R6
      exact h0 (by unfold rd2;rw[hn];simp only;rw[hm]) _ _ _ F R6
    |some r2=>
      obtain⟨y,c⟩:=r2
      have:nm (stO (some (x,b)))=some (y,c):=hm
      rw[this] at R6 ⊢
      exact h1 x y c _ (by unfold rd2;rw[hn];simp only;rw[hm]) F R6
abbrev momV(x y:Nat):AV:=if xU x y=0 then .agg [.int .i64 (x:Nat),.int .i64 (y:Nat)] else .agg [.int .i64 0,.int .i64 0]
abbrev recV(x y:Nat):AV:=if xT x y=0 then .agg [.int .i64 (x:Nat),.int .i64 (y:Nat)] else .agg [.int .i64 0,.int .i64 0]
theorem k354 (R:Rd h p o)(hl:Bd o)(h0:rd2 o=none->∀h',Fr p h h'->Rd h' p none->Q (.tup [.agg [.int .i64 0,.int .i64 0],.int .i64 10]) h')
    (h1:∀x y r h',rd2 o=some ((x,y),r)->Fr p h h'->Rd h' p (some r)->Q (.tup [momV x y,.int .i64 (xU x y)]) h'):AC Tryz.prog 354 [.ptr (some ⟨p,0⟩)] h Q:=ac354 (by
  unfold vc354
  refine zMY (F:=249) (λR hl hQ=>e249 R hl hQ) R hl (λhr a b h' F R'=> ?_) (λx y r h' hr F R'=> ?_)
  · exact e315 R' ⟨_,rfl,zB (λ_=>h0 hr _ F R') (λg=>by cases g)⟩
  · refine e315 R' ⟨_,rfl,zB (λg=>by cases g) (λ_=> ?_)⟩
    have h1:=h1 x y r h' hr F R'
    refine k127 ⟨_,rfl,zB (λg=> ?_) (λg=> ?_)⟩
    · have g:xU x y≠0:=by simpa using g
      unfold momV at h1;rw[if_neg g] at h1;exact h1
    · have g:xU x y=0:=by simpa using g
      unfold momV at h1;rw[if_pos g,g] at h1;exact h1)
theorem k355 (R:Rd h p o)(hl:Bd o)(h0:rd2 o=none->∀h',Fr p h h'->Rd h' p none->Q (.tup [.agg [.int .i64 0,.int .i64 0],.int .i64 10]) h')
    (h1:∀x y r h',rd2 o=some ((x,y),r)->Fr p h h'->Rd h' p (some r)->Q (.tup [recV x y,.int .i64 (xT x y)]) h'):AC Tryz.prog 355 [.ptr (some ⟨p,0⟩)] h Q:=ac355 (by
  unfold vc355
  refine zMY (F:=249) (λR hl hQ=>e249 R hl hQ) R hl (λhr a b h' F R'=> ?_) (λx y r h' hr F R'=> ?_)
  · exact e315 R' ⟨_,rfl,zB (λ_=>h0 hr _ F R') (λg=>by cases g)⟩
  · refine e315 R' ⟨_,rfl,zB (λg=>by cases g) (λ_=> ?_)⟩
    have h1:=h1 x y r h' hr F R'
    refine k128 ⟨_,rfl,zB (λg=> ?_) (λg=> ?_)⟩
    · have g:xT x y≠0:=by simpa using g
      unfold recV at h1;rw[if_neg g] at h1;exact h1
    · have g:xT x y=0:=by simpa using g
      unfold recV at h1;rw[if_pos g,g] at h1;exact h1)
theorem zUA {mf rf:Nat}(mom:∀{h:Heap} {Q:AHp} {o:Option Bs},Rd h p o->Bd o->(rd2 o=none->∀h',Fr p h h'->Rd h' p none->Q (.tup [.agg [.int .i64 0,.int .i64 0],.int .i64 10]) h')->
      (∀x y r h',rd2 o=some ((x,y),r)->Fr p h h'->Rd h' p (some r)->Q (.tup [momV x y,.int .i64 (xU x y)]) h')->AC Tryz.prog mf [.ptr (some ⟨p,0⟩)] h Q)
    (rec:∀{h:Heap} {Q:AHp} {o:Option Bs},Rd h p o->Bd o->(rd2 o=none->∀h',Fr p h h'->Rd h' p none->Q (.tup [.agg [.int .i64 0,.int .i64 0],.int .i64 10]) h')->
      (∀x y r h',rd2 o=some ((x,y),r)->Fr p h h'->Rd h' p (some r)->Q (.tup [recV x y,.int .i64 (xT x y)]) h')->AC Tryz.prog rf [.ptr (some ⟨p,0⟩)] h Q)
    {b:Bs}(R:Rd h p (some b))(hl:b.length<=100000){K:Int->Int->Int->Int->Int->Int->Heap->Prop}
    (h0:rdE b=none->∀a1 a2 e1 a3 a4 e2 h',Fr p h h'->(e1≠0∨e2≠0)->K a1 a2 e1 a3 a4 e2 h')
    (h1:∀e r h',rdE b=some (e,r)->Fr p h h'->Rd h' p (some r)->K e.1 e.2.1 0 e.2.2.1 e.2.2.2 0 h'):
    AC Tryz.prog mf [.ptr (some ⟨p,0⟩)] h λv12 h13=>∃n14 n15 n16:Int,v12= .tup [.agg [.int .i64 n14,.int .i64 n15],.int .i64 n16]/\
      AC Tryz.prog rf [.ptr (some ⟨p,0⟩)] h13 λv17 h18=>∃n19 n20 n21:Int,v17= .tup [.agg [.int .i64 n19,.int .i64 n20],.int .i64 n21]/\K n14 n15 n16 n19 n20 n21 h18:=by
  have bd:Bd (some b):=λl hl'=>by cases hl';exact hl
  refine mom R bd (λhr h13 F13 R13=>⟨0,0,10,rfl,?_⟩) (λx y r h13 hr F13 R13=> ?_)
  · have hE:rdE b=none:=by unfold rdE;rw[zIB,hr]
    refine rec R13 (λl h=>by cases h) (λ_ h18 F18 _=>⟨0,0,10,rfl,h0 hE _ _ _ _ _ _ _ (F13.trans F18) (.inl (by omega))⟩) (λx y r h' hr' _ _=>by unfold rd2 nm at hr';cases hr')
  have hrl:=rd2_len hr
  have bd2:Bd (some r):=λl hl'=>by cases hl';omega
  rcases vL x y with⟨m1,m2⟩|⟨m1,m2⟩
  · refine⟨x,y,0,by unfold momV;rw[m1];rfl,?_⟩
    refine rec R13 bd2 (λhr2 h18 F18 _=>⟨0,0,10,rfl,h0 (by unfold rdE;rw[zIB,hr];simp only;rw[hr2]) _ _ _ _ _ _ _ (F13.trans F18) (.inr (by omega))⟩) (λz w t h18 hr2 F18 R18=> ?_)
    have h4:rd4 b=some (((x:Int),(y:Int),(z:Int),(w:Int)),t):=by rw[zIB,hr];simp only;rw[hr2]
    rcases vK z w with⟨r1,r2⟩|⟨r1,r2⟩
    · refine⟨z,w,0,by unfold recV;rw[r1];rfl,h1 ((x:Int),(y:Int),(z:Int),(w:Int)) t _ ?_ (F13.trans F18) R18⟩
      unfold rdE;rw[h4];simp only
      rw[if_pos (by unfold yH;simp only[decide_eq_true_eq];omega)]
    · refine⟨0,0,30,by unfold recV;rw[r1];rfl,h0 ?_ _ _ _ _ _ _ _ (F13.trans F18) (.inr (by omega))⟩
      unfold rdE;rw[h4];simp only
      rw[if_neg (by unfold yH;simp only[decide_eq_true_eq];omega)]
  · refine⟨0,0,40,by unfold momV;rw[m1];rfl,?_⟩
    have hE:rdE b=none:=by
      unfold rdE;rw[zIB,hr];simp only
      cases hr2:rd2 (some r) with
      |none=>rfl
      |some q=>
        obtain⟨⟨z,w⟩,t⟩:=q
        simp only
        rw[if_neg (by unfold yH;simp only[decide_eq_true_eq];omega)]
    refine rec R13 bd2 (λhr2 h18 F18 _=>⟨0,0,10,rfl,h0 hE _ _ _ _ _ _ _ (F13.trans F18) (.inl (by omega))⟩) (λz w t h18 hr2 F18 R18=> ?_)
    rcases vK z w with⟨r1,r2⟩|⟨r1,r2⟩
    · exact⟨z,w,0,by unfold recV;rw[r1];rfl,h0 hE _ _ _ _ _ _ _ (F13.trans F18) (.inl (by omega))⟩
    · exact⟨0,0,30,by unfold recV;rw[r1];rfl,h0 hE _ _ _ _ _ _ _ (F13.trans F18) (.inl (by omega))⟩
theorem k353 {l:Bs}(R:Rd h p (some l))(hQ:Q (.int .i64 (l.length:Nat)) h):AC Tryz.prog 353 [.ptr (some ⟨p,0⟩)] h Q:=ac353 (by
  unfold vc353
  refine e315 R ⟨_,rfl,zB (λg=>by cases g) (λ_=> ?_)⟩
  obtain⟨q,hc,H,_⟩:=zQJ R
  refine⟨q,hc,?_⟩
  rw[H.len];exact hQ)
structure UnI(h0:Heap)(p:Nat)(b:Bs)(h:Heap)(q:OSl)(done:List Ent)(rest:Bs):Prop where
  ext:Ext h0 h
  out:Apd entE h q done
  ob:∀s,q=some s->p<s.b
  rd:Rd h p (some rest)
  ok:∀e∈done,yH e=true
  eq:b=encL done++rest
theorem UnI.next {h0 h h':Heap}{b rest r:Bs}{q:OSl}{done:List Ent}{e:Ent}{K:OSl->Heap->Prop}(I:UnI h0 p b h q done rest)(hp:h0.length<=p)(hb:b.length<=1000)(hr:rdE rest=some (e,r))(F:Fr p h h')(R:Rd h' p (some r))
    (hK:∀q' h'',UnI h0 p b h'' q' (done++[e]) r->zJ q'=zJ q+1->K q' h''):zM 4 32 q (some ⟨h'.length,0,1,1,0⟩) (h'++[.cells [.int .i64 e.1,.int .i64 e.2.1,.int .i64 e.2.2.1,.int .i64 e.2.2.2] true]) K:=by
  obtain⟨hrest,hok⟩:=zIU hr
  have A1:Apd entE h' q done:=I.out.keeps F.keeps (λs hs he=>by have:=I.ob s hs;omega)
  have hx:Ext h' (h'++[Blk.cells [.int .i64 e.1,.int .i64 e.2.1,.int .i64 e.2.2.1,.int .i64 e.2.2.2] true]):=.app _ _
  have hlen:=I.out.hasL.len
  have hpl:p<h.length:=I.rd.live
  have hdl:done.length<=b.length:=by
    have h1:=congrArg List.length I.eq
    have h2:∀l:List Ent,l.length<=(encL l).length:=by
      intro l
      induction l with
      |nil=>simp
      |cons a l ih=>have:=vA (e:=a);simp only[encL,List.flatMap_cons,List.length_append,List.length_cons] at*;omega
    have:=h2 done
    rw[List.length_append] at h1;omega
  refine Apd.append (E:=entE) (A1.ext hx) (m:=[e]) (HasL.new (E:=entE) (l:=[e]) (n:=1) rfl rfl) (by simp;omega) λq' h'' A K2 hl ho=>hK q' h'' ?_ ?_
  · have bnd:∀s',q'=some s'->p<s'.b:=λs' hs'=>by
      rcases ho s' hs' with h1|⟨s,h1,h2⟩
      · have:=F.len;simp at h1;omega
      · rw[<-h2];exact I.ob s h1
    refine⟨?_,A,bnd,?_,?_,?_⟩
    · intro k B hk
      have hk0:=zD hk
      have h1:=I.ext _ _ hk
      have h2:=F.keeps k B (λhe=>by have he:k=p:=he;omega) h1
      exact K2 k B (λ⟨s,g1,g2⟩=>by have:=I.ob s g1;omega) (hx _ _ h2)
    · exact(R.ext hx).keeps K2 (λk hk ⟨s,g1,g2⟩=>by have:=I.ob s g1;omega)
    · intro x hxm
      rcases List.mem_append.1 hxm with hxm|hxm
      · exact I.ok x hxm
      · simp at hxm;subst hxm;exact hok
    · rw[I.eq,hrest,zA3,zFK,List.append_assoc]
  · have:=A.hasL.len
    rw[this,hlen];simp
theorem zPW {b:Bs}{h0:Heap}{q:OSl}{done:List Ent}{rest:Bs}(I:UnI h0 p b h q done rest):jL b=(jL rest).map (done++ ·):=by
  rw[I.eq,zN3 I.ok]
theorem zR6 {b:Bs}{h0:Heap}{q:OSl}{done:List Ent}{rest:Bs}(I:UnI h0 p b h q done rest):zJ q<=b.length:=by
  rw[I.out.hasL.len]
  have h1:=congrArg List.length I.eq
  have h2:∀l:List Ent,l.length<=(encL l).length:=by
    intro l
    induction l with
    |nil=>simp
    |cons a l ih=>have:=vA (e:=a);simp only[encL,List.flatMap_cons,List.length_append,List.length_cons] at*;omega
  have:=h2 done
  rw[List.length_append] at h1;omega
theorem k294 {q:OSl}{b:Bs}(H:HasL byE h q b)(hl:b.length<=100000)(h0:(b.length>43∨jL b=none)->∀(e:Int) h',e≠0->Ext h h'->Q (.tup [.sl none,.int .i64 e]) h')
    (h1:∀l q' h',b.length<=43->jL b=some l->Ext h h'->Apd entE h' q' l->(∀s,q'=some s->h.length<=s.b)->Q (.tup [.sl q',.int .i64 0]) h'):AC Tryz.prog 294 [.sl q] h Q:=ac294 (by
  unfold vc294 PNew
  have hlen:=H.len
  refine zB (λg=>h0 (.inl (by have:=of_decide_eq_true g;omega)) _ _ (by omega) (.refl _)) (λg=> ?_)
  replace g:=of_decide_eq_false g
  refine e247 H hl λp h3 hx hp R=>⟨_,rfl,?_⟩
  refine⟨λxs h8=>∃(q5:OSl) (done:List Ent) (rest:Bs),xs=[.sl q5]/\UnI h p b h8 q5 done rest,λxs _=>match xs with | [.sl q]=>100-zJ q|_=>0,⟨none,[],b,rfl,hx,.inl ⟨rfl,rfl⟩,by simp,R,by simp,by simp[encL]⟩,?_⟩
  rintro q5 h8 ⟨q5',done,rest,hxs,I⟩
  simp only[List.cons.injEq,AV.sl.injEq,and_true] at hxs
  subst hxs
  have hu:=zPW I
  have hle:=zR6 I
  have hrl:rest.length<=b.length:=by have:=congrArg List.length I.eq;rw[List.length_append] at this;omega
  refine k353 I.rd ⟨_,rfl,zB (λg2=> ?_) (λg2=> ?_)⟩
  · replace g2:=of_decide_eq_true g2
    refine zUA (mf:=354) (rf:=355) (λR hl=>k354 R hl) (λR hl=>k355 R hl) I.rd (by omega) (λhE a1 a2 e1 a3 a4 e2 h' F he=> ?_) (λe r h' hE F R'=> ?_)
    · have hn:jL b=none:=by rw[hu,zK8 (by intro h;rw[h] at g2;simp at g2) hE];rfl
      have xF:Ext h h':=F.ext I.ext hp
      rcases he with he|he
      · exact zB (λ_=>h0 (.inr hn) _ _ (by omega) xF) (λg=>absurd (by simpa using g) he)
      · exact zB (λ_=>h0 (.inr hn) _ _ (by omega) xF) (λ_=>zB (λ_=>h0 (.inr hn) _ _ (by omega) xF) (λg=>absurd (by simpa using g) he))
    · refine zB (λg=>by simp at g) (λ_=>zB (λg=>by simp at g) (λ_=> ?_))
      refine I.next (by have:=hx.len;omega) (by omega) hE F R' λq' h'' I' hsl=> ?_
      have:=zR6 I'
      exact⟨trivial,⟨q',_,_,rfl,I'⟩,by simp only;omega⟩
  · replace g2:=of_decide_eq_false g2
    have hr:rest=[]:=List.eq_nil_of_length_eq_zero (by omega)
    subst hr
    exact h1 done q5 h8 (by omega) (by rw[hu];simp[jL,zCP]) I.ext I.out λs hs=>by have:=I.ob s hs;omega)
end
end
section
variable{h h':Heap}{Q:AHp}
theorem idx4 {q:OSl}{l:List Ent}{i:Nat}{x:Ent}(H:HasL entE h q l)(hx:l[i]?=some x){ix:Int}(hix:ix=i){K:PA->Prop}(hK:∀p,zA h p 4=some [.int .i64 x.1,.int .i64 x.2.1,.int .i64 x.2.2.1,.int .i64 x.2.2.2]->K p):vIdx q ix 4 K:=by
 have:=zD hx
 refine HasL.idx (E:=entE) H (by omega) (by omega) λpp y hy hc=>hK pp ?_
 subst hix
 have:l[i]?=some y:=by simpa using hy
 rw[hx] at this;cases this
 exact hc
set_option maxRecDepth 20000 in
theorem z21:∀(n:Nat) {h:Heap} {Q:AHp} {q:OSl} {l:List Ent},l.length<=n->HasL entE h q l->l.length<=100000->(∀q' h',New entE h h' q' (yA l)->Q (.sl q') h')->AC Tryz.prog 21 [.sl q] h Q
 |n,h,Q,q,l,hln,H,hl,hQ=>ac21 (by
 unfold vc21 PNew
 have hlen:=H.len
 rw[hlen]
 refine zB (λg=> ?_) (λg=> ?_)
 ·replace g:=of_decide_eq_true g
  have N:New entE h (h++[Blk.cells [] true]) (some ⟨h.length,0,0,0,0⟩) []:=New.mk1 rfl rfl
  refine New.append (E:=entE) N (H.mono (Ext.app _ _)) (by simp;omega) λq4 h5 N5=>hQ q4 h5 ?_
  have:zN l:=by
   match l,g with
   | [],_=>exact .nil
   | [x],_=>exact .cons (by simp) .nil
   |x::y::l,g=>simp at g;omega
  rw[zN8 this];simpa using N5
 ·replace g:=of_decide_eq_false g
  have e1:(((l.length:Nat):Int).tdiv 2)=((l.length/2:Nat):Int):=by rw[zMZ (by omega)];omega
  rw[e1,zF ⟨by omega,by omega⟩]
  refine HasL.slice (E:=entE) H (by omega) (by simp;omega) (by simp;omega) λq6 H6=> ?_
  refine HasL.slice (E:=entE) H (by omega) (by simp;omega) (by simp) λq7 H7=> ?_
  have H6:HasL entE h q6 (l.take (l.length/2)):=by simp only[Option.getD_some,Int.toNat_natCast,Int.toNat_zero,List.drop_zero] at H6;exact H6
  have H7:HasL entE h q7 (l.drop (l.length/2)):=by simp only[Option.getD_none,Int.toNat_natCast,List.take_length] at H7;exact H7
  have hn1:(l.take (l.length/2)).length<n:=by rw[List.length_take];omega
  have hn2:(l.drop (l.length/2)).length<n:=by rw[List.length_drop];omega
  obtain⟨m,rfl⟩:∃m,n=m+1:=⟨n-1,by omega⟩
  refine z21 m (by omega) H6 (by rw[List.length_take];omega) λq10 h9 N9=>⟨q10,rfl,?_⟩
  refine z21 m (by omega) (H7.mono N9.1) (by rw[List.length_drop];omega) λq13 h12 N12=>⟨q13,rfl,?_⟩
  have HA:=N9.hasL.mono N12.1
  have HB:=N12.hasL
  have hsa:=yD (l.take (l.length/2))
  have hsb:=yD (l.drop (l.length/2))
  have hpa:=zS (l.take (l.length/2))
  have hpb:=zS (l.drop (l.length/2))
  generalize yA (l.take (l.length/2))=A at*
  generalize yA (l.drop (l.length/2))=B at*
  have hperm:(A++B).Perm l:=(hpa.append hpb).trans (by rw[List.take_append_drop])
  let I:OSl->OSl->OSl->Heap->Prop:=λq14 q15 q16 h19=>∃a b o:List Ent,HasL entE h12 q14 a/\HasL entE h12 q15 b/\New entE h12 h19 q16 o/\(o++(a++b)).Perm l/\zN a/\zN b/\zN o/\∀x∈o,∀y∈a++b,leE x y
  refine⟨λxs h19=>∃q14 q15 q16,xs=[.sl q14,.sl q15,.sl q16]/\I q14 q15 q16 h19,λxs _=>match xs with | [.sl q14,.sl q15,_]=>zJ q14+zJ q15|_=>0,⟨_,_,_,rfl,A,B,[],HA,HB,New.none,by simpa using hperm,hsa,hsb,.nil,by simp⟩,?_⟩
  rintro q14 q15 q16 h19 ⟨_,_,_,hx,a,b,o,Ha,Hb,No,hp,sa,sb,so,hle⟩
  simp only[List.cons.injEq,AV.sl.injEq,and_true] at hx
  obtain⟨rfl,rfl,rfl⟩:=hx
  have la:=Ha.len
  have lb:=Hb.len
  have hlp:=hp.length_eq
  simp only[List.length_append] at hlp
  have Ha19:=Ha.mono No.1
  have Hb19:=Hb.mono No.1
  rw[la,lb]
  have stepA:∀{x:Ent} {a':List Ent},a=x::a'->(∀y∈b,leE x y)->vIdx q14 0 4 λp20=>∃n21 n22:Int,∃n23 n24:Int,zA h19 p20 4=some [.int .i64 n21,.int .i64 n22,.int .i64 n23,.int .i64 n24]/\
    zM 4 32 q16 (some ⟨h19.length,0,1,1,0⟩) (h19++[.cells [.int .i64 n21,.int .i64 n22,.int .i64 n23,.int .i64 n24] true]) λq27 h28=>zW 4 q14 1 none none λq29=>
     (True)/\(∃q14' q15' q16',[AV.sl q29,.sl q15,.sl q27]=[.sl q14',.sl q15',.sl q16']/\I q14' q15' q16' h28)/\(zJ q29+zJ q15)<(zJ q14+zJ q15):=by
   intro x a' ha hxb
   subst ha
   refine idx4 Ha19 (i:=0) (x:=x) rfl rfl λp hc=>⟨_,_,_,_,hc,?_⟩
   refine New.append (E:=entE) (m:=[x]) (No.ext (Ext.app _ _)) (HasL.new (E:=entE) (l:=[x]) (n:=1) rfl (by simp[Enc.all,entE])) (by simp at hlp ⊢;omega) λq27 h28 N28=> ?_
   refine HasL.slice (E:=entE) Ha (by omega) (by simp;omega) (by simp) λq29 H29=> ?_
   have H29:HasL entE h12 q29 a':=by
    have e:((x::a').take ((Option.getD none (((x::a').length:Nat):Int))).toNat).drop (1:Int).toNat=a':=by
     simp only[Option.getD_none,Int.toNat_natCast,List.take_length];rfl
    rw[e] at H29;exact H29
   have l29:=H29.len
   refine⟨trivial,⟨_,_,_,rfl,a',b,o++[x],H29,Hb,N28,by simpa using hp,sa.of_cons,sb,?_,?_⟩,by rw[la,l29];simp⟩
   ·rw[zN,List.pairwise_append]
    exact⟨so,.cons (by simp) .nil,λy hy z hz=>by simp at hz;subst hz;exact hle y hy z (by simp)⟩
   ·intro y hy z hz
    rcases List.mem_append.1 hy with hy|hy
    ·exact hle y hy z (by simp at hz ⊢;rcases hz with h|h<;>simp[h])
    ·simp at hy;subst hy
     rcases List.mem_append.1 hz with hz|hz
     ·exact List.rel_of_pairwise_cons sa hz
     ·exact hxb z hz
  have stepB:∀{x:Ent} {b':List Ent},b=x::b'->(∀y∈a,leE x y)->vIdx q15 0 4 λp20=>∃n21 n22:Int,∃n23 n24:Int,zA h19 p20 4=some [.int .i64 n21,.int .i64 n22,.int .i64 n23,.int .i64 n24]/\
    zM 4 32 q16 (some ⟨h19.length,0,1,1,0⟩) (h19++[.cells [.int .i64 n21,.int .i64 n22,.int .i64 n23,.int .i64 n24] true]) λq27 h28=>zW 4 q15 1 none none λq29=>
     (True)/\(∃q14' q15' q16',[AV.sl q14,.sl q29,.sl q27]=[.sl q14',.sl q15',.sl q16']/\I q14' q15' q16' h28)/\(zJ q14+zJ q29)<(zJ q14+zJ q15):=by
   intro x b' hb hxa
   subst hb
   refine idx4 Hb19 (i:=0) (x:=x) rfl rfl λp hc=>⟨_,_,_,_,hc,?_⟩
   refine New.append (E:=entE) (m:=[x]) (No.ext (Ext.app _ _)) (HasL.new (E:=entE) (l:=[x]) (n:=1) rfl (by simp[Enc.all,entE])) (by simp at hlp ⊢;omega) λq27 h28 N28=> ?_
   refine HasL.slice (E:=entE) Hb (by omega) (by simp;omega) (by simp) λq29 H29=> ?_
   have H29:HasL entE h12 q29 b':=by
    have e:((x::b').take ((Option.getD none (((x::b').length:Nat):Int))).toNat).drop (1:Int).toNat=b':=by
     simp only[Option.getD_none,Int.toNat_natCast,List.take_length];rfl
    rw[e] at H29;exact H29
   have l29:=H29.len
   refine⟨trivial,⟨_,_,_,rfl,a,b',o++[x],Ha,H29,N28,?_,sa,sb.of_cons,?_,?_⟩,by rw[lb,l29];simp⟩
   ·refine List.Perm.trans ?_ hp
    rw[List.append_assoc]
    exact List.Perm.append_left o (by simpa using(List.perm_middle (a:=x) (l₁:=a) (l₂:=b')).symm)
   ·rw[zN,List.pairwise_append]
    exact⟨so,.cons (by simp) .nil,λy hy z hz=>by simp at hz;subst hz;exact hle y hy z (by simp)⟩
   ·intro y hy z hz
    rcases List.mem_append.1 hy with hy|hy
    ·exact hle y hy z (by simp at hz ⊢;rcases hz with h|h<;>simp[h])
    ·simp at hy;subst hy
     rcases List.mem_append.1 hz with hz|hz
     ·exact hxa z hz
     ·exact List.rel_of_pairwise_cons sb hz
  refine zB (λg1=> ?_) (λg1=> ?_)
  ·replace g1:=of_decide_eq_true g1
   obtain⟨x,a',rfl⟩:∃x a',a=x::a':=by cases a with |nil=>simp at g1|cons x a'=>exact⟨x,a',rfl⟩
   refine zB (λg2=> ?_) (λg2=> ?_)
   ·have g2:b.length=0:=by have:((b.length:Nat):Int)=0:=(by simpa using g2);omega
    have:b=[]:=List.eq_nil_of_length_eq_zero g2
    subst this
    exact stepA rfl (by simp)
   ·obtain⟨y,b',rfl⟩:∃y b',b=y::b':=by cases b with |nil=>simp at g2|cons x a'=>exact⟨x,a',rfl⟩
    refine zB (λ_=> ?_) (λg3=>by simp at g3)
    refine idx4 Ha19 (i:=0) (x:=x) rfl rfl λp hc=>⟨_,_,_,_,hc,?_⟩
    refine idx4 Hb19 (i:=0) (x:=y) rfl rfl λp hc=>⟨_,_,_,_,hc,?_⟩
    refine z87 (a:=x) (b:=y) ⟨_,rfl,?_⟩
    refine zB (λg4=> ?_) (λg4=> ?_)
    ·replace g4:=of_decide_eq_true g4
     have hxy:leE x y:=λhlt=>by have:=zSD.2 hlt;omega
     refine stepA rfl λz hz=> ?_
     rcases List.mem_cons.1 hz with rfl|hz
     ·exact hxy
     ·exact jO hxy (List.rel_of_pairwise_cons sb hz)
    ·replace g4:=of_decide_eq_false g4
     have hyx:leE y x:=zRB (zSD.1 (by omega))
     refine stepB rfl λz hz=> ?_
     rcases List.mem_cons.1 hz with rfl|hz
     ·exact hyx
     ·exact jO hyx (List.rel_of_pairwise_cons sa hz)
  ·replace g1:=of_decide_eq_false g1
   have:a=[]:=List.eq_nil_of_length_eq_zero (by omega)
   subst this
   refine zB (λg2=> ?_) (λg2=> ?_)
   ·replace g2:=of_decide_eq_true g2
    obtain⟨y,b',rfl⟩:∃y b',b=y::b':=by cases b with |nil=>simp at g2|cons x a'=>exact⟨x,a',rfl⟩
    refine zB (λg3=>by simp at g3;omega) (λ_=> ?_)
    refine zB (λg3=>by simp at g3) (λ_=> ?_)
    exact stepB rfl (by simp)
   ·replace g2:=of_decide_eq_false g2
    have:b=[]:=List.eq_nil_of_length_eq_zero (by omega)
    subst this
    have:o=yA l:=(jW so (by simpa using hp)).symm
    subst this
    exact hQ q16 h19 (No.of (N9.1.trans N12.1)))
end
end Go.Proofs.YtafmabnolelknaaGreatDoor
