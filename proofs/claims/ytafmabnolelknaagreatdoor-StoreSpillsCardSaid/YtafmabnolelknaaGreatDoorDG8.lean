import Derived.Test.YtafmabnolelknaaGreatDoorDG7
import Derived.Orders
namespace Go.Ab
set_option linter.unusedSimpArgs false
set_option linter.unusedVariables false
def cls(P:Program)(o:Oper):Nat:=
 match o.op with
 | .indexAddr _ (.global _) _=>2
 | .move _| .pick .. | .nilCheck _| .unOp .. | .fieldAddr .. | .field .. | .indexAddr .. | .extract .. | .slice .. | .build .. | .index .. | .makeFunc .. | .makeInterface .. | .sliceToArrayPointer .. =>1
 | .binOp _ t _ _ _=>match P.underlying t with |some (.pointer _)=>2|_=>1
 | .load .. | .lookup .. =>2
 | .convert src dst _=>match P.underlying dst with |some (.int _)=>1|some .string=>2|_=>0
 | .call c=>match c.callee with | .builtin .len=>(match(c.argTypes.toList.head?).bind P.underlying with |some (.map _ _)=>2|_=>1)| .builtin .min=>1| .builtin .max=>1|_=>0
 |_=>0
section
variable{P:Program}{isLoc:Nat->Bool}{call:jU}{L:Locs}{h:Heap}{ρ:List LV}
def Same(lv:LV)(L:Locs)(h:Heap):KO:=λlv' L' h'=>lv'=lv/\L'=L/\h'=h
theorem zFJ:∀{zs:List AV} {A B:List AV->Prop},exL zs A->(∀l,l.length=zs.length->(∀x∈l,x.one=true)->A l->B l)->exL zs B
 | [],A,B,h,f=>f _ rfl (by simp) h
 |z::zs,A,B,h,f=>by
  cases z<;>simp only[exL] at h ⊢
  all_goals first
   |(obtain⟨n,hv,h⟩:=h;exact⟨n,hv,zFJ h λl hl ho=>f _ (by simp[hl]) (by intro x hx;simp at hx;rcases hx with rfl|hx;(first|exact hv|rfl);exact ho x hx)⟩)
   |(obtain⟨n,h⟩:=h;exact⟨n,zFJ h λl hl ho=>f _ (by simp[hl]) (by intro x hx;simp at hx;rcases hx with rfl|hx;rfl;exact ho x hx)⟩)
theorem zT9 {z:AV}{A B:AV->Prop}(hz:∀c,z≠ .tup c)(h:exV z A)(f:∀v,isAgg v=isAgg z->(isAgg z=false->v.one=true)->A v->B v):exV z B:=by
 cases z<;>simp only[exV] at h ⊢
 case tup c=>exact absurd rfl (hz c)
 case agg zs=>exact zFJ h λl _ _=>f _ rfl (λh=>by cases h)
 all_goals
  refine zFJ h λl hlen ho hl=> ?_
  clear hlen
  split at hl
  ·rename_i x
   have hx:=ho x (by simp)
   exact f _ (by rw[zE1 hx];rfl) (λ_=>hx) hl
  ·exact hl.elim
theorem zL6 {v v':AV}(h:isAgg v=isAgg v')(h1:isAgg v=false->v.one=true)(h2:isAgg v'=false->v'.one=true)(hc:v.cells=v'.cells):v=v':=by
 cases hv:isAgg v with
 |true=>
  rw[hv] at h
  cases v<;>simp[isAgg] at hv
  cases v'<;>simp[isAgg] at h
  simpa[AV.cells] using hc
 |false=>
  rw[hv] at h
  rw[vP (h1 hv),vP (h2 h.symm)] at hc
  simpa using hc
theorem exV_one {z:AV}{r:Option (List AV)}{KV:AV->Prop}(hz:∀c,z≠ .tup c)(h:exV z λv=>r=some v.cells/\KV v):∃v,KV v/\∀B:AV->Prop,B v->exV z λv'=>r=some v'.cells/\B v':=by
 obtain⟨v,⟨h1,h2⟩,h3,_,h4⟩:=zIT hz h
 have hone:isAgg z=false->v.one=true:=by
  intro hg
  have:v.cells=[v]:=by rw[hg] at h3;cases v<;>simp[isAgg] at h3<;>rfl
  exact h4 v (by rw[this];simp)
 refine⟨v,h2,λB hB=>zT9 hz h λv' a1 a2 ⟨b1,_⟩=>⟨b1,?_⟩⟩
 rw[b1] at h1
 have:=zL6 (a1.trans h3.symm) (λhg=>a2 (a1▸hg)) (λhg=>hone (h3▸hg)) (Option.some.inj h1)
 rw[this];exact hB
theorem zJU {z:AV}{c:List AV}{o:Nat}{KV:AV->Prop}(h:part z c o KV):∃v,KV v/\∀B:AV->Prop,B v->part z c o B:=by
 unfold part at h
 cases hg:isAgg z with
 |true=>
  rw[hg] at h
  obtain⟨h1,h2⟩:=zG h
  refine⟨_,h2,λB hB=> ?_⟩
  unfold part
  simp only[hg,h1,need]
  exact hB
 |false=>
  rw[hg] at h
  simp only at h
  split at h
  ·rename_i v hv
   refine⟨v,h,λB hB=> ?_⟩
   unfold part
   simp only[hg,hv]
   exact hB
  ·exact h.elim
theorem zQ8 {t:TypeId}{x:LV}{KV:AV->Prop}(hk:zGK P t x L h KV):∃v,KV v/\∀B:AV->Prop,B v->zGK P t x L h B:=by
 unfold zGK at hk
 split at hk
 ·exact hk.elim
 ·rename_i z hz
  split at hk
  ·exact hk.elim
  ·rename_i hok
   have hok':=jH hok
   split at hk
   ·rename_i k o
    split at hk
    ·rename_i c hc
     obtain⟨v,h1,h2⟩:=zJU hk
     exact⟨v,h1,λB hB=>by simp only[zGK,hz,hok,hc];exact h2 _ hB⟩
    ·exact hk.elim
   ·rename_i q
    cases q with
    |none=>exact hk.elim
    |some p=>
     simp only[vPtr,zSZ] at hk
     obtain⟨v,h1,h2⟩:=exV_one hok'.2.2.2 hk
     exact⟨v,h1,λB hB=>by simp only[zGK,hz,hok,vPtr,zSZ];exact h2 B hB⟩
   ·exact hk.elim
theorem zZ {b:Bool}{A:Prop}(h:b=true)(a:A):need b A:=by subst h;exact a
theorem zKP {n:Nat}(ih:∀(t:TypeId) (xs ys:List AV) (KB:Bool->List AV->List AV->Prop),eqT P n t xs ys KB->∃b xs' ys',KB b xs' ys'/\∀B:Bool->List AV->List AV->Prop,B b xs' ys'->eqT P n t xs ys B):
  ∀(fs:List Field) (off:Nat) (xs ys:List AV) (KB:Bool->List AV->List AV->Prop),eqFs P (eqT P n) fs off xs ys KB->∃b xs' ys',KB b xs' ys'/\∀B:Bool->List AV->List AV->Prop,B b xs' ys'->eqFs P (eqT P n) fs off xs ys B
 | [],off,xs,ys,KB,h=>⟨_,_,_,h,λB hB=>hB⟩
 |f::fs,off,xs,ys,KB,h=>by
  simp only[eqFs] at h
  obtain⟨h1,h2⟩:=zG h
  obtain⟨b,xs',ys',h3,h4⟩:=ih _ _ _ _ h2
  obtain⟨r,xs2,ys2,h5,h6⟩:=zKP ih fs _ _ _ _ h3
  refine⟨_,_,_,h5,λB hB=> ?_⟩
  simp only[eqFs]
  exact zZ h1 (h4 _ (h6 _ hB))
theorem zNP:∀(n:Nat) (t:TypeId) (xs ys:List AV) (KB:Bool->List AV->List AV->Prop),eqT P n t xs ys KB->∃b xs' ys',KB b xs' ys'/\∀B:Bool->List AV->List AV->Prop,B b xs' ys'->eqT P n t xs ys B
 |0,_,_,_,_,h=>h.elim
 |n+1,t,xs,ys,KB,h=>by
  unfold eqT at h
  split at h
  ·rename_i hu
   obtain⟨h1,h2⟩:=zG h
   exact⟨_,_,_,h2,λB hB=>by unfold eqT;rw[hu];exact zZ h1 hB⟩
  ·rename_i hu
   obtain⟨h1,h2⟩:=zG h
   exact⟨_,_,_,h2,λB hB=>by unfold eqT;rw[hu];exact zZ h1 hB⟩
  ·rename_i hu
   obtain⟨h1,h2⟩:=zG h
   exact⟨_,_,_,h2,λB hB=>by unfold eqT;rw[hu];exact zZ h1 hB⟩
  ·rename_i fs hu
   obtain⟨h1,h2⟩:=zG h
   obtain⟨b,xs',ys',h3,h4⟩:=zKP (zNP n) _ _ _ _ _ h2
   obtain⟨h5,h6⟩:=zG h3
   exact⟨_,_,_,h6,λB hB=>by unfold eqT;rw[hu];exact zZ h1 (h4 _ (zZ h5 hB))⟩
  ·exact h.elim
theorem zST {op:BinOp}{k:IntKind}{a b:Int}{KV:AV->Prop}(h:aInt op k a b KV):∃v,KV v/\∀B:AV->Prop,B v->aInt op k a b B:=by
 cases op<;>simp only[aInt] at h<;>first
  |exact h.elim
  |exact⟨_,h,λB hB=>hB⟩
  |(obtain⟨h1,h2⟩:=zG h;exact⟨_,h2,λB hB=>zZ h1 hB⟩)
theorem zSS {op:BinOp}{a b:List UInt8}{KV:AV->Prop}(h:aStr op a b KV):∃v,KV v/\∀B:AV->Prop,B v->aStr op a b B:=by
 cases op<;>simp only[aStr] at h<;>first
  |exact h.elim
  |exact⟨_,h,λB hB=>hB⟩
  |(obtain⟨h1,h2⟩:=zG h;exact⟨_,h2,λB hB=>zZ h1 hB⟩)
theorem zNZ {t:TypeId}{x y:AV}{KB:Bool->Prop}(hk:aEq P t h x y KB):
  ∃b,KB b/\(∀B:Bool->Prop,B b->aEq P t h x y B)/\((∀e,P.underlying t≠some (.pointer e))->∀(h2:Heap) (B:Bool->Prop),B b->aEq P t h2 x y B):=by
 unfold aEq at hk
 split at hk
 ·rename_i hu;exact⟨_,hk,λB hB=>by unfold aEq;rw[hu];exact hB,λ_ h2 B hB=>by unfold aEq;rw[hu];exact hB⟩
 ·rename_i hu
  obtain⟨h1,h2⟩:=zG hk
  obtain⟨b,xs',ys',h3,h4⟩:=zNP _ _ _ _ _ h2
  exact⟨b,h3,λB hB=>by unfold aEq;rw[hu];exact zZ h1 (h4 _ hB),λ_ h2 B hB=>by unfold aEq;rw[hu];exact zZ h1 (h4 _ hB)⟩
 ·rename_i e p hu;exact⟨_,hk,λB hB=>by unfold aEq;rw[hu];exact hB,λhn=>absurd hu (hn _)⟩
 ·rename_i e p hu;exact⟨_,hk,λB hB=>by unfold aEq;rw[hu];exact hB,λhn=>absurd hu (hn _)⟩
 ·rename_i e p q hu
  obtain⟨h1,h2⟩:=zG hk
  unfold ptrEq at h2
  split at h2
  ·rename_i hb
   exact⟨_,h2,λB hB=>by unfold aEq;rw[hu];exact zZ h1 (by unfold ptrEq;rw[if_pos hb];exact hB),λhn=>absurd hu (hn _)⟩
  ·rename_i hb
   split at h2
   ·rename_i c1 c2 e1 e2
    exact⟨_,h2,λB hB=>by unfold aEq;rw[hu];exact zZ h1 (by unfold ptrEq;rw[if_neg hb,e1,e2];exact hB),λhn=>absurd hu (hn _)⟩
   ·exact h2.elim
 ·rename_i hu;exact⟨_,hk,λB hB=>by unfold aEq;rw[hu];exact hB,λ_ h2 B hB=>by unfold aEq;rw[hu];exact hB⟩
 ·rename_i hu;exact⟨_,hk,λB hB=>by unfold aEq;rw[hu];exact hB,λ_ h2 B hB=>by unfold aEq;rw[hu];exact hB⟩
 ·rename_i hu;exact⟨_,hk,λB hB=>by unfold aEq;rw[hu];exact hB,λ_ h2 B hB=>by unfold aEq;rw[hu];exact hB⟩
 ·rename_i hu;exact⟨_,hk,λB hB=>by unfold aEq;rw[hu];exact hB,λ_ h2 B hB=>by unfold aEq;rw[hu];exact hB⟩
 ·exact hk.elim
theorem zSW {op:BinOp}{t:TypeId}{x y:AV}{KV:AV->Prop}(h':aBin P op t h x y KV):
  ∃v,KV v/\(∀B:AV->Prop,B v->aBin P op t h x y B)/\((∀e,P.underlying t≠some (.pointer e))->∀(h2:Heap) (B:AV->Prop),B v->aBin P op t h2 x y B):=by
 unfold aBin at h'
 split at h'
 ·rename_i k a k' b
  have key:∃v,KV v/\∀B:AV->Prop,B v->zSU op k a k' b B:=by
   unfold zSU at h'
   split at h'
   ·obtain⟨h1,h2⟩:=zG h';exact⟨_,h2,λB hB=>zZ h1 hB⟩
   ·obtain⟨h1,h2⟩:=zG h';exact⟨_,h2,λB hB=>zZ h1 hB⟩
   ·rename_i hs1 hs2
    obtain⟨h1,h2⟩:=zG h'
    obtain⟨v,h3,h4⟩:=zST h2
    refine⟨v,h3,λB hB=> ?_⟩
    unfold zSU
    split
    ·exact absurd rfl hs1
    ·exact absurd rfl hs2
    ·exact zZ h1 (h4 _ hB)
  obtain⟨v,h1,h2⟩:=key
  exact⟨v,h1,h2,λ_ _=>h2⟩
 ·obtain⟨v,h3,h4⟩:=zSS h'
  exact⟨v,h3,h4,λ_ _=>h4⟩
 ·rename_i n1 n2
  unfold aCmp at h'
  split at h'
  ·obtain⟨b,h3,h4,h5⟩:=zNZ h'
   exact⟨_,h3,λB hB=>by rw[zDY n1 n2];exact h4 (λb=>B (.bool b)) hB,λhn h2 B hB=>by rw[zDY n1 n2];exact h5 hn h2 (λb=>B (.bool b)) hB⟩
  ·obtain⟨b,h3,h4,h5⟩:=zNZ h'
   exact⟨_,h3,λB hB=>by rw[zDY n1 n2];exact h4 (λb=>B (.bool (!b))) hB,λhn h2 B hB=>by rw[zDY n1 n2];exact h5 hn h2 (λb=>B (.bool (!b))) hB⟩
  ·exact h'.elim
theorem zHE {kt:TypeId}{k:AV}:∀{es:List (AV×AV×Nat)} {i:Nat} {KR:Option (Nat×AV×Nat)->Prop},jP P kt k es i KR->∃r,KR r/\∀B:Option (Nat×AV×Nat)->Prop,B r->jP P kt k es i B
 | [],i,KR,h=>⟨_,h,λB hB=>hB⟩
 |(k',v,n)::es,i,KR,h=>by
  have key:∀{KB:Bool->Prop},vW P kt k k' KB->∃b,KB b/\∀B:Bool->Prop,B b->vW P kt k k' B:=by
   intro KB h
   unfold vW at h ⊢
   generalize P.underlying kt=d at h ⊢
   split at h
   ·obtain⟨h1,h2⟩:=zG h
    exact⟨_,h2,λB hB=>zZ h1 hB⟩
   ·exact⟨_,h,λB hB=>hB⟩
   ·exact⟨_,h,λB hB=>hB⟩
   ·split at h
    ·rename_i hq;exact⟨_,h,λB hB=>by first|exact hB|(simp only[hq];exact hB)⟩
    ·exact h.elim
   ·split at h
    ·rename_i hq;exact⟨_,h,λB hB=>by first|exact hB|(simp only[hq];exact hB)⟩
    ·exact h.elim
   ·exact h.elim
  simp only[jP] at h
  obtain⟨b,h1,h2⟩:=key h
  rcases vJ h1 with⟨rfl,h1⟩|⟨rfl,h1⟩
  ·exact⟨_,h1,λB hB=>by simp only[jP];exact h2 _ hB⟩
  ·obtain⟨r,h3,h4⟩:=zHE h1
   exact⟨r,h3,λB hB=>by simp only[jP];exact h2 _ (h4 B hB)⟩
theorem zLT {kt et:TypeId}{m:Option Nat}{k:AV}{ok:Bool}{KV:AV->Prop}(hk:xO P kt et m k ok h KV):∃v,KV v/\∀B:AV->Prop,B v->xO P kt et m k ok h B:=by
 unfold xO at hk
 split at hk
 ·rename_i es z hes hz
  obtain⟨h1,hk⟩:=zG hk
  obtain⟨r,h2,h3⟩:=zHE hk
  exact⟨_,h2,λB hB=>by simp only[xO,hes,hz];exact zZ h1 (h3 _ hB)⟩
 ·exact hk.elim
theorem zS3 {o:Oper}{K:KO}(hc:cls P o≠0)(hk:vop P isLoc call o ρ L h K):
  ∃lv,K lv L h/\vop P isLoc call o ρ L h (Same lv L h)/\(cls P o=1->∀L2 h2,vop P isLoc call o ρ L2 h2 (Same lv L2 h2)):=by
 have fin:∀{op:Op} {lv:LV},o.op=op->(∀L2 h2,vop P isLoc call {o with op:=op} ρ L2 h2 (Same lv L2 h2))->∀L2 h2,vop P isLoc call o ρ L2 h2 (Same lv L2 h2):=by
  intro op lv ho hh;subst ho;exact hh
 have S:∀(lv:LV) L2 h2,Same lv L2 h2 lv L2 h2:=λlv L2 h2=>⟨rfl,rfl,rfl⟩
 unfold vop at hk
 split at hk
 ·rename_i x ho
  have:=fin (lv:=ev ρ x) ho λL2 h2=>by simp only[vop];exact S _ _ _
  exact⟨_,hk,this _ _,λ_=>this⟩
 ·rename_i x ho;simp[cls,ho] at hc
 ·rename_i c x y ho
  split at hk
  ·rename_i t hct
   rcases vJ hk with⟨rfl,hk⟩|⟨rfl,hk⟩
   ·have:=fin (lv:=ev ρ x) ho λL2 h2=>by simp only[vop,hct,vif];exact S _ _ _
    exact⟨_,hk,this _ _,λ_=>this⟩
   ·have:=fin (lv:=ev ρ y) ho λL2 h2=>by simp only[vop,hct,vif];exact S _ _ _
    exact⟨_,hk,this _ _,λ_=>this⟩
  ·exact hk.elim
 ·rename_i t ho;simp[cls,ho] at hc
 ·rename_i t x ho;simp[cls,ho] at hc
 ·rename_i t x ho
  obtain⟨v,h1,h2⟩:=zQ8 hk
  refine⟨_,h1,?_,λh1=>by simp[cls,ho] at h1⟩
  unfold vop
  rw[ho]
  exact h2 _ (S _ _ _)
 ·rename_i t a x ho;simp[cls,ho] at hc
 ·rename_i x ho
  split at hk
  ·rename_i hx
   have:=fin (lv:=_) ho λL2 h2=>by simp only[vop,hx];exact S _ _ _
   exact⟨_,hk,this _ _,λ_=>this⟩
  ·rename_i q hx
   cases q with
   |none=>exact hk.elim
   |some p=>
    have:=fin (lv:=_) ho λL2 h2=>by simp only[vop,hx,vPtr];exact S _ _ _
    exact⟨_,hk,this _ _,λ_=>this⟩
  ·rename_i hx
   have:=fin (lv:=_) ho λL2 h2=>by simp only[vop,hx];exact S _ _ _
   exact⟨_,hk,this _ _,λ_=>this⟩
  ·rename_i hx
   have:=fin (lv:=_) ho λL2 h2=>by simp only[vop,hx];exact S _ _ _
   exact⟨_,hk,this _ _,λ_=>this⟩
  ·exact hk.elim
 ·rename_i op t x y yt ho
  split at hk
  ·rename_i a b hx hy
   obtain⟨v,h1,h2,h3⟩:=zSW hk
   refine⟨_,h1,?_,λhcl=> ?_⟩
   ·unfold vop
    rw[ho]
    simp only[hx,hy]
    exact h2 _ (S _ _ _)
   ·have hn:∀e,P.underlying t≠some (.pointer e):=by
     intro e he
     simp[cls,ho,he] at hcl
    exact fin ho λL2 h2=>by simp only[vop,hx,hy];exact h3 hn _ _ (S _ _ _)
  ·exact hk.elim
 ·rename_i op x ho
  split at hk
  ·rename_i a hx
   unfold aUn at hk
   split at hk
   ·have:=fin (lv:=_) ho λL2 h2=>by simp only[vop,hx,aUn];exact S _ _ _
    exact⟨_,hk,this _ _,λ_=>this⟩
   ·have:=fin (lv:=_) ho λL2 h2=>by simp only[vop,hx,aUn];exact S _ _ _
    exact⟨_,hk,this _ _,λ_=>this⟩
   ·have:=fin (lv:=_) ho λL2 h2=>by simp only[vop,hx,aUn];exact S _ _ _
    exact⟨_,hk,this _ _,λ_=>this⟩
   ·exact hk.elim
  ·exact hk.elim
 ·rename_i src dst x ho
  split at hk
  ·rename_i sd k k' n hs hd hx
   have:=fin (lv:=_) ho λL2 h2=>by simp only[vop,hs,hd,hx];exact S _ _ _
   exact⟨_,hk,this _ _,λ_=>this⟩
  ·rename_i s hs hd hx
   have:=fin (lv:=_) ho λL2 h2=>by simp only[vop,hs,hd,hx];exact S _ _ _
   exact⟨_,hk,this _ _,λ_=>this⟩
  ·rename_i e s hs hd hx
   obtain⟨he,l,hl,hk⟩:=zG hk
   refine⟨_,hk,?_,λh1=>by simp[cls,ho,hd] at h1⟩
   unfold vop
   rw[ho]
   simp only[hs,hd,hx]
   exact zZ he ⟨l,hl,S _ _ _⟩
  ·rename_i e s hs hd hx
   simp[cls,ho,hd] at hc
  ·exact hk.elim
 ·rename_i s x f ho
  split at hk
  ·exact hk.elim
  ·rename_i off ft hf
   obtain⟨h1,hk⟩:=zG hk
   split at hk
   ·rename_i k i hx
    have:=fin (lv:=_) ho λL2 h2=>by simp only[vop,hf,hx];exact zZ h1 (S _ _ _)
    exact⟨_,hk,this _ _,λ_=>this⟩
   ·rename_i q hx
    cases q with
    |none=>exact hk.elim
    |some p=>
     have:=fin (lv:=_) ho λL2 h2=>by simp only[vop,hf,hx,vPtr];exact zZ h1 (S _ _ _)
     exact⟨_,hk,this _ _,λ_=>this⟩
   ·exact hk.elim
 ·rename_i s x f ho
  split at hk
  ·rename_i off ft cs hf hx
   split at hk
   ·rename_i z hz
    obtain⟨h1,hk⟩:=zG hk
    obtain⟨v,h3,h4⟩:=zJU hk
    have:=fin (lv:=_) ho λL2 h2=>by simp only[vop,hf,hx,hz];exact zZ h1 (h4 (λv'=>Same (.val v) L2 h2 (.val v') L2 h2) (S _ _ _))
    exact⟨_,h3,this _ _,λ_=>this⟩
   ·exact hk.elim
  ·exact hk.elim
 ·rename_i t x ix ho
  split at hk
  ·rename_i i e s hi hu hx
   obtain⟨h1,hk⟩:=zG hk
   cases s with
   |none=>exact hk.elim
   |some s=>
    obtain⟨g1,g2,hk⟩:=hk
    have:=fin (lv:=_) ho λL2 h2=>by simp only[vop,hi,hu,hx];exact zZ h1 ⟨g1,g2,S _ _ _⟩
    exact⟨_,hk,this _ _,λ_=>this⟩
  ·rename_i i n e q hi hu hx
   cases q with
   |none=>exact hk.elim
   |some p=>
    simp only[vPtr] at hk
    obtain⟨h1,hk⟩:=zG hk
    have:=fin (lv:=_) ho λL2 h2=>by simp only[vop,hi,hu,hx,vPtr];exact zZ h1 (S _ _ _)
    exact⟨_,hk,this _ _,λ_=>this⟩
  ·rename_i i n e k j hi hu hx
   obtain⟨h1,hk⟩:=zG hk
   have:=fin (lv:=_) ho λL2 h2=>by simp only[vop,hi,hu,hx];exact zZ h1 (S _ _ _)
   exact⟨_,hk,this _ _,λ_=>this⟩
  ·rename_i i n e g hi hu hx
   obtain⟨h1,a,j,ha,hk⟩:=zG hk
   refine⟨_,hk,?_,λh1=>by simp[cls,ho] at h1⟩
   unfold vop
   rw[ho]
   simp only[hi,hu,hx]
   exact zZ h1 ⟨a,j,ha,S _ _ _⟩
  ·exact hk.elim
 ·rename_i t x ix ho
  split at hk
  ·rename_i i s hi hu hx
   obtain⟨g1,hk⟩:=hk
   split at hk
   ·rename_i b hb
    have:=fin (lv:=_) ho λL2 h2=>by simp only[vop,hi,hu,hx,kF,hb];exact⟨g1,S _ _ _⟩
    exact⟨_,hk,this _ _,λ_=>this⟩
   ·exact hk.elim
  ·exact hk.elim
 ·rename_i t ps ho
  split at hk
  ·rename_i zs fs parts hz hu hp
   obtain⟨h1,hk⟩:=zG hk
   split at hk
   ·rename_i cells hf
    have:=fin (lv:=_) ho λL2 h2=>by simp only[vop,hz,hu,hp,hf];exact zZ h1 (S _ _ _)
    exact⟨_,hk,this _ _,λ_=>this⟩
   ·exact hk.elim
  ·rename_i zs n e parts hz hu hp
   obtain⟨h1,hk⟩:=zG hk
   split at hk
   ·rename_i cells hf
    have:=fin (lv:=_) ho λL2 h2=>by simp only[vop,hz,hu,hp,hf];exact zZ h1 (S _ _ _)
    exact⟨_,hk,this _ _,λ_=>this⟩
   ·exact hk.elim
  ·exact hk.elim
 ·rename_i t n ps ho;simp[cls,ho] at hc
 ·rename_i t x lo hi mx ho
  split at hk
  ·rename_i e s l hh m hu hx hl hhh hm
   obtain⟨h1,hk⟩:=zG hk
   cases s with
   |none=>
    obtain⟨g1,g2,g3,hk⟩:=hk
    have:=fin (lv:=_) ho λL2 h2=>by simp only[vop,hu,hx,hl,hhh,hm];exact zZ h1 ⟨g1,g2,g3,S _ _ _⟩
    exact⟨_,hk,this _ _,λ_=>this⟩
   |some s=>
    obtain⟨g0,g1,g2,g3,g4,hk⟩:=hk
    have:=fin (lv:=_) ho λL2 h2=>by simp only[vop,hu,hx,hl,hhh,hm];exact zZ h1 ⟨g0,g1,g2,g3,g4,S _ _ _⟩
    exact⟨_,hk,this _ _,λ_=>this⟩
  ·rename_i s l hh hu hx hl hhh hm
   obtain⟨g1,g2,g3,hk⟩:=hk
   have:=fin (lv:=_) ho λL2 h2=>by simp only[vop,hu,hx,hl,hhh,hm];exact⟨g1,g2,g3,S _ _ _⟩
   exact⟨_,hk,this _ _,λ_=>this⟩
  ·rename_i n e q l hh m hu hx hl hhh hm
   cases q with
   |none=>exact hk.elim
   |some p=>
    simp only[vPtr] at hk
    obtain⟨h1,g0,g1,g2,g3,g4,hk⟩:=zG hk
    have:=fin (lv:=_) ho λL2 h2=>by simp only[vop,hu,hx,hl,hhh,hm,vPtr];exact zZ h1 ⟨g0,g1,g2,g3,g4,S _ _ _⟩
    exact⟨_,hk,this _ _,λ_=>this⟩
  ·exact hk.elim
 ·rename_i t l c ho;simp[cls,ho] at hc
 ·rename_i t x ho
  split at hk
  ·rename_i n e s0 hu hx
   unfold vSl at hk
   split at hk
   rotate_left
   ·exact hk.elim
   rename_i s
   obtain⟨h1,hk⟩:=zG hk
   have:=fin (lv:=_) ho λL2 h2=>by simp only[vop,hu,hx,vSl];exact zZ h1 (S _ _ _)
   exact⟨_,hk,this _ _,λ_=>this⟩
  ·exact hk.elim
 ·rename_i t r ho;simp[cls,ho] at hc
 ·rename_i t x ix ok ho
  split at hk
  ·rename_i kt et m k z hu hx hix hz
   obtain⟨v,h1,h2⟩:=zLT hk
   refine⟨.val v,zR3 (K:=λu=>K (.val u) L h) h1,?_,λh1=>by simp[cls,ho] at h1⟩
   unfold vop
   rw[ho]
   simp only[hu,hx,hix,hz]
   refine h2 _ (zT8 (λu hu=> ?_) h1)
   obtain⟨rfl,hu⟩:=hu
   exact⟨rfl,S _ _ _⟩
  ·exact hk.elim
 ·rename_i t m k x ho;simp[cls,ho] at hc
 ·rename_i t m k x ho;simp[cls,ho] at hc
 ·rename_i t x ho;simp[cls,ho] at hc
 ·rename_i x isS ho;simp[cls,ho] at hc
 ·rename_i x ho;simp[cls,ho] at hc
 ·rename_i x i ho
  split at hk
  ·rename_i vs hx
   split at hk
   ·rename_i v hv
    have:=fin (lv:=_) ho λL2 h2=>by simp only[vop,hx,hv];exact S _ _ _
    exact⟨_,hk,this _ _,λ_=>this⟩
   ·exact hk.elim
  ·exact hk.elim
 ·rename_i fn f c ho
  split at hk
  ·exact hk.elim
  rename_i hyf
  split at hk
  ·rename_i a b ha hb
   have:=fin (lv:=_) ho λL2 h2=>by simp only[vop,hyf,ha,hb];exact S _ _ _
   exact⟨_,hk,this _ _,λ_=>this⟩
  ·exact hk.elim
 ·rename_i t x ho
  split at hk
  ·exact hk.elim
  ·rename_i d v hne hu hx
   have:=fin (lv:=LV.val (.iface t v)) ho λL2 h2=>by
    simp only[vop,hu,hx]
    exact S _ _ _
   exact⟨_,hk,this _ _,λ_=>this⟩
  ·exact hk.elim
 ·rename_i c ho
  split at hk
  ·exact hk.elim
  ·rename_i args ha
   split at hk
   ·rename_i f hcal;simp[cls,ho,hcal] at hc
   ·rename_i r name hcal;simp[cls,ho,hcal] at hc
   ·rename_i b hcal
    have b2:∀{lv:LV},xM P b c.argTypes.toList args L h (Same lv L h)->vop P isLoc call o ρ L h (Same lv L h):=λhh=>by unfold vop;rw[ho];simp only[ha,hcal];exact hh
    have hcl:b= .len->∀t kt et,c.argTypes.toList=[t]->P.underlying t=some (.map kt et)->cls P o=1->False:=by
     intro hb t kt et h1 h2 h3
     subst hb
     simp[cls,ho,hcal,h1,h2] at h3
    have bf:∀{lv:LV},(∀L2 h2,xM P b c.argTypes.toList args L2 h2 (Same lv L2 h2))->∀L2 h2,vop P isLoc call o ρ L2 h2 (Same lv L2 h2):=λhh=>fin ho λL2 h2=>by simp only[vop,ha,hcal];exact hh L2 h2
    generalize hat:c.argTypes.toList=at' at hk bf b2 hcl
    have hb:b= .len∨b= .min∨b= .max:=by
     cases b<;>simp[cls,ho,hcal] at hc<;>simp
    rcases hb with rfl|rfl|rfl
    ·unfold xM at hk
     split at hk
     ·split at hk
      ·rename_i t s e hu
       have:=bf (lv:=_) λL2 h2=>by simp only[xM,hu];exact S _ _ _
       exact⟨_,hk,this _ _,λ_=>this⟩
      ·exact hk.elim
     ·split at hk
      ·rename_i t s hu
       have:=bf (lv:=_) λL2 h2=>by simp only[xM,hu];exact S _ _ _
       exact⟨_,hk,this _ _,λ_=>this⟩
      ·exact hk.elim
     ·split at hk
      ·rename_i t m kt et hu
       unfold zI6 at hk
       split at hk
       ·rename_i es hes
        have:=b2 (lv:=_) (by simp only[xM,hu,zI6,hes];exact S _ _ _)
        exact⟨_,hk,this,λh1=>(hcl rfl _ _ _ rfl hu h1).elim⟩
       ·exact hk.elim
      ·exact hk.elim
     all_goals first|exact hk.elim|contradiction
    ·simp only[xM] at hk
     unfold minL at hk
     split at hk
     ·have:=bf (lv:=_) λL2 h2=>by simp only[xM,minL];exact S _ _ _
      exact⟨_,hk,this _ _,λ_=>this⟩
     ·obtain⟨h1,hk⟩:=zG hk
      have:=bf (lv:=_) λL2 h2=>by simp only[xM,minL];exact zZ h1 (S _ _ _)
      exact⟨_,hk,this _ _,λ_=>this⟩
     ·exact hk.elim
    ·simp only[xM] at hk
     unfold maxL at hk
     split at hk
     ·have:=bf (lv:=_) λL2 h2=>by simp only[xM,maxL];exact S _ _ _
      exact⟨_,hk,this _ _,λ_=>this⟩
     ·obtain⟨h1,hk⟩:=zG hk
      have:=bf (lv:=_) λL2 h2=>by simp only[xM,maxL];exact zZ h1 (S _ _ _)
      exact⟨_,hk,this _ _,λ_=>this⟩
     ·exact hk.elim
 ·exact hk.elim
end
section
variable{P:Program}{isLoc:Nat->Bool}{call:jU}{L:Locs}{h:Heap}{ρ ρ':List LV}
theorem zAC:∀{l:List Operand},(∀x∈l,ev ρ x=ev ρ' x)->vals ρ l=vals ρ' l
 | [],_=>rfl
 |x::l,hx=>by
  simp only[vals]
  rw[hx x (by simp),zAC (l:=l) λy hy=>hx y (by simp[hy])]
theorem zET {ps:Array (Nat×Operand)}(hx:∀x∈(ps.toList.map (·.2)),ev ρ x=ev ρ' x):zDJ ρ ps=zDJ ρ' ps:=by
 unfold zDJ
 rw[zAC hx]
theorem zBP {x:Operand}(hx:ev ρ x=ev ρ' x):evI ρ x=evI ρ' x:=by unfold evI;rw[hx]
theorem zEC {x:Option Operand}(hx:∀y,x=some y->ev ρ y=ev ρ' y):optI ρ x=optI ρ' x:=by
 cases x with
 |none=>rfl
 |some y=>simp only[optI];rw[zBP (hx y rfl)]
theorem zPT {o:Oper}{K:KO}(hx:∀x∈o.op.operands.toList,ev ρ x=ev ρ' x):vop P isLoc call o ρ L h K=vop P isLoc call o ρ' L h K:=by
 obtain⟨dst,op,type,pos,after,guard⟩:=o
 cases op<;>simp only[Op.operands,Call.operands] at hx<;>simp only[vop]
 case move x=>rw[hx x (by simp)]
 case assign x=>rw[hx x (by simp)]
 case pick c a b=>rw[hx c (by simp),hx a (by simp),hx b (by simp)]
 case box t x=>rw[hx x (by simp)]
 case load t x=>rw[hx x (by simp)]
 case store t a x=>rw[hx a (by simp),hx x (by simp)]
 case nilCheck x=>rw[hx x (by simp)]
 case binOp op t x y yt=>rw[hx x (by simp),hx y (by simp)]
 case unOp op t x=>rw[hx x (by simp)]
 case convert a b x=>rw[hx x (by simp)]
 case fieldAddr s x f=>rw[hx x (by simp)]
 case field s x f=>rw[hx x (by simp)]
 case indexAddr t x ix=>rw[hx x (by simp),zBP (hx ix (by simp))]
 case index t x ix=>rw[hx x (by simp),zBP (hx ix (by simp))]
 case build t ps=>rw[zET (by simpa using hx)]
 case buildSlice t n ps=>rw[zET (by simpa using hx)]
 case slice t x lo hi mx=>
  rw[hx x (by simp),zEC (x:=lo) (λy hy=>hx y (by simp[hy])),zEC (x:=hi) (λy hy=>hx y (by simp[hy])),zEC (x:=mx) (λy hy=>hx y (by simp[hy]))]
 case makeSlice t l c=>rw[zBP (hx l (by simp)),zBP (hx c (by simp))]
 case sliceToArrayPointer t x=>rw[hx x (by simp)]
 case lookup t x ix ok=>rw[hx x (by simp),hx ix (by simp)]
 case mapUpdate t m k x=>rw[hx m (by simp),hx k (by simp),hx x (by simp)]
 case insert t m k x=>rw[hx m (by simp),hx k (by simp),hx x (by simp)]
 case range t x=>rw[hx x (by simp)]
 case next x b=>rw[hx x (by simp)]
 case entry x=>rw[hx x (by simp)]
 case extract x i=>rw[hx x (by simp)]
 case makeFunc fn f c=>rw[zAC (l:=f.toList) (λy hy=>hx y (by simp at hy ⊢;exact .inl hy)),zAC (l:=c.toList) (λy hy=>hx y (by simp at hy ⊢;exact .inr hy))]
 case makeInterface t x=>rw[hx x (by simp)]
 case call c=>
  rw[zAC (l:=c.args.toList) (λy hy=>hx y (by simp at hy ⊢;exact .inr hy))]
  cases hc:c.callee with
  |value f=>simp only[hc] at hx ⊢;rw[hx f (by simp)]
  |invoke r m=>simp only[hc] at hx ⊢;rw[hx r (by simp)]
  |builtin b=>rfl
end
def xW(o:Oper):List Nat:=(o.after.toList.filter (Region.binds .any)).map (·.on)
inductive Bf(ops:Array Oper):Nat->Nat->Prop
 |edge {i j:Nat} {o:Oper}:ops[i]?=some o->j∈xW o->Bf ops i j
 |via {i e j:Nat} {o:Oper}:ops[i]?=some o->e∈xW o->Bf ops e j->Bf ops i j
def forceN{α:Type}(n:Nat)(k:Nat->α):α:=match n with |0=>k 0|m+1=>k (m+1)
theorem zRX {α:Type}(n:Nat)(k:Nat->α):forceN n k=k n:=by cases n<;>rfl
def zOD(rows:List Nat)(n i:Nat):Nat:=if i<n then rows.getD (n-1-i) 0 else 0
def zQG(rows:List Nat)(n:Nat):List Nat->Nat
 | []=>0
 |e::es=>(2^e|||zOD rows n e)|||zQG rows n es
def zNT{α:Type}:List Oper->Nat->List Nat->(List Nat->Nat->α)->α
 | [],n,rows,k=>k rows n
 |o::os,n,rows,k=>forceN (zQG rows n (xW o)) λv=>zNT os (n+1) (v::rows) k
def zGE(rows:List Nat)(n i j:Nat):Bool:=(zOD rows n i).testBit j
theorem zJN {rows:List Nat}{n:Nat}:∀{l:List Nat} {j:Nat},(zQG rows n l).testBit j=true->∃e∈l,e=j∨(zOD rows n e).testBit j=true
 | [],j,h=>by simp[zQG] at h
 |e::es,j,h=>by
  simp only[zQG,Nat.testBit_or,Bool.or_eq_true,Nat.testBit_two_pow,decide_eq_true_eq] at h
  rcases h with(h|h)|h
  ·exact⟨e,by simp,.inl h⟩
  ·exact⟨e,by simp,.inr h⟩
  ·obtain⟨e',h1,h2⟩:=zJN h;exact⟨e',by simp[h1],h2⟩
theorem zKX {ops:Array Oper}{α:Type}{k:List Nat->Nat->α}:∀(os:List Oper) (n:Nat) (rows:List Nat),rows.length=n->ops.toList.drop n=os->(∀i j,zGE rows n i j=true->Bf ops i j)->
  ∃rows' n',zNT os n rows k=k rows' n'/\∀i j,zGE rows' n' i j=true->Bf ops i j
 | [],n,rows,_,_,h=>⟨rows,n,rfl,h⟩
 |o::os,n,rows,hl,hd,h=>by
  simp only[zNT,zRX]
  have ho:ops[n]?=some o:=by
   have:(ops.toList.drop n)[0]?=some o:=by rw[hd];rfl
   simpa using this
  refine zKX os (n+1) _ (by simp[hl]) (by rw[<-List.drop_drop,hd];rfl) λi j hb=> ?_
  unfold zGE zOD at hb
  split at hb
  ·rename_i hi
   by_cases hin:i=n
   ·subst hin
    simp only[Nat.add_sub_cancel,Nat.sub_self,List.getD_cons_zero] at hb
    obtain⟨e,he,h2⟩:=zJN hb
    rcases h2 with rfl|h2
    ·exact .edge ho he
    ·exact .via ho he (h e j h2)
   ·have:n+1-1-i=(n-1-i)+1:=by omega
    rw[this,List.getD_cons_succ] at hb
    refine h i j ?_
    unfold zGE zOD
    rw[if_pos (by omega)]
    exact hb
  ·simp at hb
def zM8(P:Program)(ops:Array Oper)(rows:List Nat)(m:Nat):Bool:=
 let n:=ops.size
 Region.noSelect ops&&P.follows .mixedOrders&&
 (List.range n).all λi=>match ops[i]? with
  |none=>false
  |some o=>
   (xW o).all (λe=>decide (e<i))&&
   (match o.dst with |some d=>cls P o==0|| !(o.looksAt ops).contains d|none=>true)&&
   (List.range n).all λj=>i==j||match ops[j]? with
    |none=>false
    |some o'=>match o'.dst with
     |none=>true
     |some d=> !(o.dst==some d)&&(!(o.looksAt ops).contains d||(zGE rows m i j||(zGE rows m j i&&(cls P o==0||cls P o'==0))))
def zH9(P:Program)(ops:Array Oper)(listed:List Nat):Option Nat:=
 (List.range ops.size).find? λi=> !listed.contains i&&match ops[i]? with |some o=>cls P o !=0&&(xW o).all listed.contains|none=>false
def zG1(ops:Array Oper)(listed:List Nat):List Nat:=
 (List.range ops.size).filter λi=> !listed.contains i&&match ops[i]? with |some o=>(xW o).all listed.contains|none=>false
def vall:List Nat->(Nat->Prop)->Prop
 | [],_=>True
 | [j],f=>f j
 |j::js,f=>f j/\vall js f
theorem zMV {f:Nat->Prop}:∀{l:List Nat},vall l f->∀j∈l,f j
 | [],_,j,hj=>by simp at hj
 | [k],h,j,hj=>by simp at hj;subst hj;exact h
 |k::k'::l,h,j,hj=>by
  simp only[vall] at h
  rcases List.mem_cons.1 hj with rfl|hj
  ·exact h.1
  ·exact zMV h.2 j hj
def vg(P:Program)(isLoc:Nat->Bool)(call:jU)(ops:Array Oper)(o:Oper)(ρ:List LV)(L:Locs)(h:Heap)(K:KO):Prop:=
 match zCM ops o ρ with
 |none=>False
 |some b=>vif b (vop P isLoc call o ρ L h K) (K .und L h)
def zQI(P:Program)(isLoc:Nat->Bool)(call:jU)(ops:Array Oper)(i:Nat)(st:St):Prop:=
 match ops[i]? with
 |some o=>vg P isLoc call ops o st.ρ st.L st.h λlv _ _=>match o.dst with |some d=>lv=st.ρ.getD d .top|none=>True
 |none=>False
def zM6(P:Program)(isLoc:Nat->Bool)(call:jU)(ops:Array Oper)(st:St)(A:Prop):List Nat->Prop
 | []=>A
 |i::is=>zQI P isLoc call ops i st/\zM6 P isLoc call ops st A is
theorem zCS {P:Program}{isLoc:Nat->Bool}{call:jU}{ops:Array Oper}{st:St}{A:Prop}:∀{l:List Nat},zM6 P isLoc call ops st A l->A/\∀i∈l,zQI P isLoc call ops i st
 | [],h=>⟨h,by simp⟩
 |i::is,⟨h1,h2⟩=>⟨(zCS h2).1,by intro j hj;simp at hj;rcases hj with rfl|hj;exact h1;exact(zCS h2).2 j hj⟩
def zHS(P:Program)(ops:Array Oper)(rows:List Nat)(m:Nat)(listed:List Nat)(j:Nat):List Nat:=
 listed.filter λi=>match ops[i]? with |some o=>cls P o==2&& !zGE rows m j i|none=>false
def vany(P:Program)(isLoc:Nat->Bool)(call:jU)(ops:Array Oper)(rows:List Nat)(m:Nat):Nat->List Nat->St->(St->Prop)->Prop
 |0,_,_,_=>False
 |n+1,listed,st,K=>
  match zH9 P ops listed with
  |some i=>match ops[i]? with
   |some o=>jV P isLoc call ops o st λst'=>vany P isLoc call ops rows m n (i::listed) st' K
   |none=>False
  |none=>match zG1 ops listed with
   | []=>need ((List.range ops.size).all listed.contains) (K st)
   |j::js=>vall (j::js) λj=>match ops[j]? with
    |some o=>jV P isLoc call ops o st λst'=>zM6 P isLoc call ops st' (vany P isLoc call ops rows m n (j::listed) st' K) (zHS P ops rows m listed j)
    |none=>False
def zN2(P:Program)(isLoc:Nat->Bool)(call:jU):zGJ:=λ_ ops st K=>
 zNT ops.toList 0 [] λrows m=>need (zM8 P ops rows m) (vany P isLoc call ops rows m (ops.size+1) [] st K)
section
variable{P:Program}{isLoc:Nat->Bool}{call:jU}{ops:Array Oper}
structure OkD(P:Program)(ops:Array Oper):Prop where
 nosel:Region.noSelect ops=true
 mixed:P.follows .mixedOrders=true
 lt:∀(i:Nat) (o:Oper),ops[i]?=some o->∀e∈xW o,e<i
 self:∀(i:Nat) (o:Oper) (d:Nat),ops[i]?=some o->o.dst=some d->cls P o≠0->d∉o.looksAt ops
 dst:∀(i j:Nat) (o o':Oper) (d:Nat),ops[i]?=some o->ops[j]?=some o'->i≠j->o'.dst=some d->o.dst≠some d
 look:∀(i j:Nat) (o o':Oper) (d:Nat),ops[i]?=some o->ops[j]?=some o'->i≠j->o'.dst=some d->d∈o.looksAt ops->
  Bf ops i j∨(Bf ops j i/\(cls P o=0∨cls P o'=0))
theorem okD_of {rows:List Nat}{m:Nat}(hb:∀i j,zGE rows m i j=true->Bf ops i j)(h:zM8 P ops rows m=true):OkD P ops:=by
 simp only[zM8,Bool.and_eq_true,List.all_eq_true,List.mem_range] at h
 obtain⟨⟨h1,h2⟩,h3⟩:=h
 have at':∀(i:Nat) (o:Oper),ops[i]?=some o->_:=λi o ho=>h3 i (Array.getElem?_eq_some_iff.1 ho).1
 refine⟨h1,h2,?_,?_,?_,?_⟩
 ·intro i o ho e he
  have:=at' i o ho
  rw[ho] at this
  simp only[Bool.and_eq_true,List.all_eq_true] at this
  simpa using this.1.1 e he
 ·intro i o d ho hd hc
  have:=at' i o ho
  rw[ho] at this
  simp only[Bool.and_eq_true,List.all_eq_true,hd] at this
  have:=this.1.2
  simp[hc] at this
  exact this
 ·intro i j o o' d ho ho' hne hd
  have:=at' i o ho
  rw[ho] at this
  simp only[Bool.and_eq_true,List.all_eq_true] at this
  have:=this.2 j (by simpa using(Array.getElem?_eq_some_iff.1 ho').1)
  simp only[ho',hd,Bool.or_eq_true,Bool.and_eq_true,beq_iff_eq,hne,false_or] at this
  have:=this.1
  simpa using this
 ·intro i j o o' d ho ho' hne hd hl
  have:=at' i o ho
  rw[ho] at this
  simp only[Bool.and_eq_true,List.all_eq_true] at this
  have:=this.2 j (by simpa using(Array.getElem?_eq_some_iff.1 ho').1)
  simp only[ho',hd,Bool.or_eq_true,Bool.and_eq_true,beq_iff_eq,hne,false_or] at this
  have:=this.2
  simp only[Bool.not_eq_true',List.contains_eq_mem,decide_eq_false_iff_not,hl,not_true_eq_false,false_or] at this
  rcases this with h|⟨h,h'⟩
  ·exact .inl (hb _ _ h)
  ·exact .inr ⟨hb _ _ h,h'⟩
theorem Bf.closed {S:Nat->Prop}(hS:∀(i:Nat) (o:Oper),ops[i]?=some o->S i->∀e∈xW o,S e){i j:Nat}(h:Bf ops i j):(∀o,ops[i]?=some o->∀e∈xW o,S e)->S j:=by
 induction h with
 |edge ho he=>intro h;exact h _ ho _ he
 |via ho he _ ih=>
  intro h
  exact ih λo' ho' e' he'=>hS _ _ ho' (h _ ho _ he) _ he'
theorem vg_of {o:Oper}{st:St}{K:St->Prop}(hk:jV P isLoc call ops o st K):vg P isLoc call ops o st.ρ st.L st.h λv L h=>K (st.put o.dst v L h):=by
 unfold vg
 rcases zC8 hk with⟨hg,hk⟩|⟨hg,hk⟩<;>simp only[hg,vif]<;>exact hk
theorem zE9 {o:Oper}{ρ ρ':List LV}{L:Locs}{h:Heap}{K:KO}(hx:∀d∈o.looksAt ops,ρ[d]?=ρ'[d]?):vg P isLoc call ops o ρ L h K=vg P isLoc call ops o ρ' L h K:=by
 have h1:∀x∈o.op.operands.toList,ev ρ x=ev ρ' x:=by
  intro x hm
  cases x with
  |tmp t=>
   have:=hx t (by unfold Oper.looksAt;exact List.mem_append_left _ (List.mem_filterMap.2 ⟨.tmp t,hm,rfl⟩))
   simp only[ev,List.getD,this]
  |_=>rfl
 have hv:∀K,vop P isLoc call o ρ L h K=vop P isLoc call o ρ' L h K:=λK=>zPT h1
 have ha:zCM ops o ρ=zCM ops o ρ':=by
  unfold zCM
  cases hg:o.guard with
  |none=>rfl
  |some gw=>
   obtain⟨g,want⟩:=gw
   have hgv:jZ ops ρ g=jZ ops ρ' g:=by
    unfold jZ
    cases ht:(ops[g]?).bind (·.dst) with
    |none=>rfl
    |some t=>simp only[hx t (by simp[Oper.looksAt,hg,ht])]
   have hgo:zB4 ops ρ g=zB4 ops ρ' g:=by
    unfold zB4
    cases ht:(ops[g]?).bind (·.dst) with
    |none=>rfl
    |some t=>simp only[hx t (by simp[Oper.looksAt,hg,ht])]
   simp only[hgv,hgo]
 unfold vg
 simp only[ha,hv]
theorem zK6 {o:Oper}{ρ:List LV}{L:Locs}{h:Heap}{K:KO}(hc:cls P o≠0)(hk:vg P isLoc call ops o ρ L h K):
  ∃lv,K lv L h/\vg P isLoc call ops o ρ L h (Same lv L h)/\(cls P o=1->∀L2 h2,vg P isLoc call ops o ρ L2 h2 (Same lv L2 h2)):=by
 have S:∀(lv:LV) L2 h2,Same lv L2 h2 lv L2 h2:=λlv L2 h2=>⟨rfl,rfl,rfl⟩
 unfold vg at hk ⊢
 cases ha:zCM ops o ρ with
 |none=>simp only[ha] at hk
 |some b=>
  simp only[ha] at hk ⊢
  cases b<;>simp only[vif] at hk ⊢
  ·exact⟨.und,hk,S _ _ _,λ_=>S _⟩
  ·exact zS3 hc hk
end
section
variable{P:Program}{μ0:Ren}{h0:Heap}{w0:World}{isLoc:Nat->Bool}{ops:Array Oper}
theorem vg_wp {i:Nat}{o:Oper}{ρ:List LV}{L:Locs}{h:Heap}{K:KO}{μ:Ren}{lam:List Nat}{a:Act}{w:World}{next:Act->World->Prop}{Q:Exit->Act->World->Prop}(ho:ops[i]?=some o)
  (R:Rel μ0 h0 w0 μ lam L h w)(E:yB μ lam ρ a.tmps)(hk:vg P isLoc (AC P) ops o ρ L h K)(hn:zK4 μ0 h0 w0 μ lam K o.dst a next):wpOp P ops Q i next a w:=by
 unfold wpOp
 simp only[ho]
 unfold vg at hk
 split at hk
 ·exact hk.elim
 ·rename_i b hb
  rcases vJ hk with⟨rfl,hk⟩|⟨rfl,hk⟩
  ·rw[if_pos (zC7 E hb)]
   exact .inl (vop_wp R E hk hn)
  ·rw[if_neg (by rw[zC7 E hb];simp)]
   exact hn .und L h μ lam undef w hk R (.refl _) (xS.refl _) zPX
end
section
variable{P:Program}{μ0:Ren}{h0:Heap}{w0:World}{isLoc:Nat->Bool}{ops:Array Oper}
def Lr(lR:Array Bool)(i:Nat):Prop:=lR.getD i false=true
def Own(P:Program)(isLoc:Nat->Bool)(ops:Array Oper)(i:Nat)(st:St):Prop:=
 ∃o,ops[i]?=some o/\cls P o≠0/\∃lv,vg P isLoc (AC P) ops o st.ρ st.L st.h (Same lv st.L st.h)/\∀d,o.dst=some d->st.ρ.set d lv=st.ρ
structure DInv(P:Program)(μ0:Ren)(h0:Heap)(w0:World)(isLoc:Nat->Bool)(ops:Array Oper)(ws:List Nat)(μ:Ren)(lam:List Nat)(a:Act)
  (lA:List Nat)(st:St)(lR:Array Bool)(ρR:List LV)(a':Act)(w':World)(μ':Ren)(lam':List Nat):Prop where
 size:lR.size=ops.size
 sub:∀i,Lr lR i->i∈lA
 clA:∀(i:Nat) (o:Oper),ops[i]?=some o->i∈lA->∀e∈xW o,e∈lA
 clR:∀(i:Nat) (o:Oper),ops[i]?=some o->Lr lR i->∀e∈xW o,Lr lR e
 owed:∀i,i∈lA->¬Lr lR i->Own P isLoc ops i st
 len:ρR.length=st.ρ.length
 view:∀t,(∃i o,i∈lA/\¬Lr lR i/\ops[i]?=some o/\o.dst=some t)∨ρR[t]?=st.ρ[t]?
 post:Post μ0 h0 w0 μ lam a ws ⟨ρR,st.L,st.h⟩ a' w' μ' lam'
theorem zJS {listed:List Nat}{i:Nat}(h:zH9 P ops listed=some i):i∉listed/\∃o,ops[i]?=some o/\cls P o≠0/\∀e∈xW o,e∈listed:=by
 have:=List.find?_some h
 simp only[Bool.and_eq_true,Bool.not_eq_true',List.contains_eq_mem,decide_eq_false_iff_not] at this
 obtain⟨h1,h2⟩:=this
 refine⟨h1,?_⟩
 split at h2
 ·rename_i o ho
  simp only[Bool.and_eq_true,bne_iff_ne,List.all_eq_true,decide_eq_true_eq] at h2
  exact⟨o,ho,h2.1,λe he=>by simpa using h2.2 e he⟩
 ·simp at h2
theorem set_comm {α:Type}(l:List α){i j:Nat}(a b:α)(h:i≠j):(l.set i a).set j b=(l.set j b).set i a:=List.set_comm a b h
theorem Own.put (D:OkD P ops){i j:Nat}{o:Oper}{st:St}{lv:LV}(hO:Own P isLoc ops j st)(ho:ops[i]?=some o)(hne:i≠j)(hl:∀d o',o.dst=some d->ops[j]?=some o'->d∉o'.looksAt ops):
  Own P isLoc ops j (st.put o.dst lv st.L st.h):=by
 obtain⟨o',ho',hc,lv',hv,hs⟩:=hO
 refine⟨o',ho',hc,lv',?_,?_⟩
 ·simp only[St.put]
  rw[zE9 (ρ':=st.ρ)]
  ·exact hv
  ·intro t ht
   split
   ·rename_i d hd
    rw[List.getElem?_set,if_neg]
    intro h;subst h
    exact hl _ _ hd ho' ht
   ·rfl
 ·intro d' hd'
  simp only[St.put]
  split
  ·rename_i d hd
   have:d≠d':=by
    intro h;subst h
    exact D.dst i j o o' _ ho ho' hne hd' hd
   rw[set_comm _ _ _ this,hs d' hd']
  ·exact hs d' hd'
theorem zH2 (D:OkD P ops){rows:List Nat}{m:Nat}{ws:List Nat}{μ:Ren}{lam:List Nat}{a:Act}{lR:Array Bool}{ρR:List LV}{a':Act}{w':World}{μ':Ren}{lam':List Nat}{K:St->Prop}:
  ∀(n:Nat) (lA:List Nat) (st:St),vany P isLoc (AC P) ops rows m n lA st K->DInv P μ0 h0 w0 isLoc ops ws μ lam a lA st lR ρR a' w' μ' lam'->
   ∃n' lA' st',vany P isLoc (AC P) ops rows m (n'+1) lA' st' K/\DInv P μ0 h0 w0 isLoc ops ws μ lam a lA' st' lR ρR a' w' μ' lam'/\zH9 P ops lA'=none
 |0,_,_,h,_=>h.elim
 |n+1,lA,st,h,I=>by
  cases hr:zH9 P ops lA with
  |none=>exact⟨n,lA,st,h,I,hr⟩
  |some i=>
   obtain⟨hni,o,ho,hc,hb⟩:=zJS hr
   simp only[vany,hr,ho] at h
   obtain⟨lv,hk,hv,h1⟩:=zK6 hc (vg_of h)
   refine zH2 D n _ _ hk ?_
   have hself:∀d,o.dst=some d->d∉o.looksAt ops:=λd hd=>D.self i o d ho hd hc
   exact{
    size:=I.size
    sub:=λk hk=>List.mem_cons_of_mem _ (I.sub k hk)
    clA:=by
     intro k o' ho' hk' e he
     rcases List.mem_cons.1 hk' with rfl|hk'
     ·rw[ho] at ho';cases ho'
      exact List.mem_cons_of_mem _ (hb e he)
     ·exact List.mem_cons_of_mem _ (I.clA k o' ho' hk' e he)
    clR:=I.clR
    owed:=by
     intro k hk' hn
     by_cases hki:k=i
     ·subst hki
      refine⟨o,ho,hc,lv,?_,?_⟩
      ·simp only[St.put]
       rw[zE9 (ρ':=st.ρ)]
       ·exact hv
       ·intro t ht
        split
        ·rename_i d hd
         rw[List.getElem?_set,if_neg]
         intro h;subst h
         exact hself _ hd ht
        ·rfl
      ·intro d hd
       simp only[St.put,hd,List.set_set]
     ·have hkA:k∈lA:=(List.mem_cons.1 hk').resolve_left hki
      have hO:=I.owed k hkA hn
      refine hO.put D ho (Ne.symm hki) λd o' hd ho' hl=> ?_
      rcases D.look k i o' o d ho' ho hki hd hl with hbf|⟨_,hcc⟩
      ·exact hni (hbf.closed (S:=(· ∈lA)) I.clA λo2 ho2 e he=>I.clA k o2 ho2 hkA e he)
      ·obtain⟨o2,ho2,hc2,_⟩:=hO
       rw[ho'] at ho2;cases ho2
       exact hcc.elim hc2 hc
    len:=by
     simp only[St.put]
     split<;>simp[I.len]
    view:=by
     intro t
     by_cases ht:o.dst=some t
     ·exact .inl ⟨i,o,by simp,λhl=>hni (I.sub i hl),ho,ht⟩
     ·rcases I.view t with⟨k,o',h1,h2,h3,h4⟩|hv
      ·exact .inl ⟨k,o',List.mem_cons_of_mem _ h1,h2,h3,h4⟩
      ·refine .inr ?_
       rw[hv]
       simp only[St.put]
       split
       ·rename_i d hd
        rw[List.getElem?_set,if_neg]
        intro h;subst h;exact ht hd
       ·rfl
    post:=by simpa[St.put] using I.post}
def cnt(lR:Array Bool):Nat:=(lR.toList.filter (λb=> !b)).length
theorem zSC {lR:Array Bool}{i:Nat}(h:lR.getD i true=false):cnt (lR.setIfInBounds i true)+1=cnt lR:=by
 unfold cnt
 have hi:i<lR.size:=by
  rcases Nat.lt_or_ge i lR.size with h'|h'
  ·exact h'
  ·simp[Array.getElem?_eq_none h'] at h
 have key:∀(l:List Bool) (i:Nat),l[i]?=some false->((l.set i true).filter (λb=> !b)).length+1=(l.filter (λb=> !b)).length:=by
  intro l
  induction l with
  |nil=>intro i h;simp at h
  |cons x l ih=>
   intro i h
   cases i with
   |zero=>simp at h;subst h;simp
   |succ i=>
    simp at h
    have:=ih i h
    cases x<;>simp<;>omega
 rw[Array.toList_setIfInBounds]
 refine key _ _ ?_
 simp[hi] at h ⊢
 exact h
theorem zEY {lR:Array Bool}{i j:Nat}:Lr (lR.setIfInBounds i true) j↔(j=i/\i<lR.size)∨Lr lR j:=by
 unfold Lr
 by_cases h:i=j
 ·subst h
  by_cases hlt:i<lR.size
  ·simp[hlt]
  ·simp[hlt]
 ·rw[getD_set_ne false h]
  constructor
  ·exact .inr
  ·rintro(⟨rfl,_⟩|h');exact absurd rfl h;exact h'
theorem not_lr {lR:Array Bool}{i:Nat}(h:lR.getD i true=false):¬Lr lR i:=by
 unfold Lr
 intro h'
 by_cases hlt:i<lR.size
 ·simp[hlt] at h h'
  rw[h] at h';cases h'
 ·simp[hlt] at h'
theorem lr_of {lR:Array Bool}{i:Nat}(hlt:i<lR.size)(h:lR.getD i true≠false):Lr lR i:=by
 unfold Lr
 simp[hlt] at h ⊢
 exact h
theorem zPP (D:OkD P ops){lR:Array Bool}(hs:lR.size=ops.size)(h:Region.ready .any ops lR=[]):∀i,i<ops.size->Lr lR i:=by
 intro i
 induction i using Nat.strongRecOn with
 |_ i ih=>
  intro hi
  by_cases hl:lR.getD i true=false
  ·have:i∈Region.ready .any ops lR:=by
    refine mem_ready.2 ⟨hl,ops[i],by simp[hi],λe he hb=> ?_⟩
    have hm:e.on∈xW ops[i]:=by
     simp only[xW,List.mem_map,List.mem_filter]
     exact⟨e,⟨by simpa using he,hb⟩,rfl⟩
    have hlt:=D.lt i ops[i] (by simp[hi]) _ hm
    exact ih e.on hlt (by omega)
   rw[h] at this
   simp at this
  ·exact lr_of (by omega) hl
theorem zR8 (D:OkD P ops){rows:List Nat}{m:Nat}(hrows:∀i j,zGE rows m i j=true->Bf ops i j){ws:List Nat}(hws:∀(i:Nat) (o:Oper) (d:Nat),ops[i]?=some o->o.dst=some d->d∈ws)
  {μ:Ren}{lam:List Nat}{a:Act}{K:St->Prop}{Q:Exit->Act->World->Prop}
  (hq:∀st' a' w' μ' lam',K st'->Post μ0 h0 w0 μ lam a ws st' a' w' μ' lam'->Q .normal a' w'):
  ∀(fuel n:Nat) (lA:List Nat) (st:St) (lR:Array Bool) (ρR:List LV) (a':Act) (w':World) (μ':Ren) (lam':List Nat),cnt lR<=fuel->vany P isLoc (AC P) ops rows m n lA st K->
   DInv P μ0 h0 w0 isLoc ops ws μ lam a lA st lR ρR a' w' μ' lam'->wpAny P .any ops Q fuel lR a' w':=by
 have fin:∀(n:Nat) (lA:List Nat) (st:St) (lR:Array Bool) (ρR:List LV) (a':Act) (w':World) (μ':Ren) (lam':List Nat),vany P isLoc (AC P) ops rows m n lA st K->
   DInv P μ0 h0 w0 isLoc ops ws μ lam a lA st lR ρR a' w' μ' lam'->Region.ready .any ops lR=[]->Q .normal a' w':=by
  intro n lA st lR ρR a' w' μ' lam' hv I hr
  obtain⟨n,lA,st,hv,I,hro⟩:=zH2 D n lA st hv I
  have hall:=zPP D I.size hr
  have hE:zG1 ops lA=[]:=by
   unfold zG1
   rw[List.filter_eq_nil_iff]
   intro i hi
   have:i∈lA:=I.sub i (hall i (List.mem_range.1 hi))
   simp[this]
  simp only[vany,hro,hE] at hv
  obtain⟨_,hk⟩:=zG hv
  have hρ:ρR=st.ρ:=by
   refine List.ext_getElem? λt=> ?_
   rcases I.view t with⟨i,o,_,h2,h3,_⟩|h
   ·exact absurd (hall i (Array.getElem?_eq_some_iff.1 h3).1) h2
   ·exact h
  refine hq st a' w' μ' lam' hk ?_
  have:=I.post
  rw[hρ] at this
  exact this
 intro fuel
 induction fuel with
 |zero=>
  intro n lA st lR ρR a' w' μ' lam' hc hv I
  have hr:Region.ready .any ops lR=[]:=by
   refine List.eq_nil_iff_forall_not_mem.2 λi hi=> ?_
   have:=zSC (mem_ready.1 hi).1
   omega
  exact⟨hr,fin _ _ _ _ _ _ _ _ _ hv I hr⟩
 |succ fuel ih=>
  intro n lA st lR ρR a' w' μ' lam' hc hv I
  refine⟨fin _ _ _ _ _ _ _ _ _ hv I,λi hi=> ?_⟩
  obtain⟨n,lA,st,hv,I,hro⟩:=zH2 D n lA st hv I
  obtain⟨hun,o,ho,haft⟩:=mem_ready.1 hi
  have hnl:=not_lr hun
  have hisz:i<lR.size:=by rw[I.size];exact(Array.getElem?_eq_some_iff.1 ho).1
  have hbR:∀e∈xW o,Lr lR e:=by
   intro e he
   simp only[xW,List.mem_map,List.mem_filter] at he
   obtain⟨x,⟨hx,hb⟩,rfl⟩:=he
   exact haft x (by simpa using hx) hb
  have hbfR:∀j,Bf ops i j->Lr lR j:=λj hb=>hb.closed (S:=Lr lR) I.clR λo2 ho2 e he=>by
   rw[ho] at ho2;cases ho2;exact hbR e he
  have hcnt:cnt (lR.setIfInBounds i true)<=fuel:=by have:=zSC hun;omega
  have clR':∀(k:Nat) (o':Oper),ops[k]?=some o'->Lr (lR.setIfInBounds i true) k->∀e∈xW o',Lr (lR.setIfInBounds i true) e:=by
   intro k o' ho' hk e he
   rw[zEY] at hk ⊢
   rcases hk with⟨rfl,_⟩|hk
   ·rw[ho] at ho';cases ho';exact .inr (hbR e he)
   ·exact .inr (I.clR k o' ho' hk e he)
  by_cases hiA:i∈lA
  ·
   obtain⟨o2,ho2,hcls,lv,hvg,hset⟩:=I.owed i hiA hnl
   rw[ho] at ho2;cases ho2
   have hcong:∀t∈o.looksAt ops,ρR[t]?=st.ρ[t]?:=by
    intro t ht
    rcases I.view t with⟨k,o',h1,h2,h3,h4⟩|h
    ·exfalso
     by_cases hki:k=i
     ·subst hki
      rw[ho] at h3;cases h3
      exact D.self k o t ho h4 hcls ht
     ·rcases D.look i k o o' t ho h3 (Ne.symm hki) h4 ht with hbf|⟨_,hcc⟩
      ·exact h2 (hbfR k hbf)
      ·obtain⟨o3,ho3,hc3,_⟩:=I.owed k h1 h2
       rw[h3] at ho3;cases ho3
       exact hcc.elim hcls hc3
    ·exact h
   rw[<-zE9 hcong] at hvg
   refine vg_wp ho I.post.rel I.post.env hvg ?_
   intro lv' L' h' μ2 lam2 v w2 hsame R2 hle hlle hrel
   obtain⟨rfl,rfl,rfl⟩:=hsame
   have E2:=(I.post.env.mono hle hlle).put (d:=o.dst) hrel
   have p1:Post μ0 h0 w0 μ' lam' a' ws ⟨match o.dst with |some d=>ρR.set d lv'|none=>ρR,st.L,st.h⟩ (a'.put o.dst v) w2 μ2 lam2:=
    ⟨R2,E2,hle,hlle,zD4,zDH,λt ht=>zIC λhd=>ht (hws i o t ho hd)⟩
   refine ih (n+1) lA st _ _ _ _ μ2 lam2 hcnt hv {
    size:=by simpa using I.size
    sub:=by
     intro k hk
     rcases zEY.1 hk with⟨rfl,_⟩|hk
     ·exact hiA
     ·exact I.sub k hk
    clA:=I.clA
    clR:=clR'
    owed:=λk hk hn=>I.owed k hk λh=>hn (zEY.2 (.inr h))
    len:=by split<;>simp[I.len]
    view:=by
     intro t
     by_cases ht:o.dst=some t
     ·refine .inr ?_
      rw[ht]
      have:=hset t ht
      simp only
      rw[<-this,List.getElem?_set,List.getElem?_set]
      simp[I.len]
     ·rcases I.view t with⟨k,o',h1,h2,h3,h4⟩|h
      ·refine .inl ⟨k,o',h1,λhl=> ?_,h3,h4⟩
       rcases zEY.1 hl with⟨rfl,_⟩|hl
       ·rw[ho] at h3;cases h3;exact ht h4
       ·exact h2 hl
      ·refine .inr ?_
       rw[<-h]
       split
       ·rename_i d hd
        rw[List.getElem?_set,if_neg]
        intro h;subst h;exact ht hd
       ·rfl
    post:=I.post.trans p1 (λ_ h=>h) (λ_ h=>h)}
  ·
   have hiE:i∈zG1 ops lA:=by
    unfold zG1
    simp only[List.mem_filter,List.mem_range,Bool.and_eq_true,Bool.not_eq_true',List.contains_eq_mem,decide_eq_false_iff_not,ho,List.all_eq_true,decide_eq_true_eq]
    exact⟨by rw[<-I.size];exact hisz,hiA,λe he=>I.sub e (hbR e he)⟩
   simp only[vany,hro] at hv
   have hvi:vg P isLoc (AC P) ops o st.ρ st.L st.h λv L h=>zM6 P isLoc (AC P) ops (st.put o.dst v L h) (vany P isLoc (AC P) ops rows m n (i::lA) (st.put o.dst v L h) K) (zHS P ops rows m lA i):=by
    cases hE:zG1 ops lA with
    |nil=>rw[hE] at hiE;simp at hiE
    |cons j js=>
     rw[hE] at hv hiE
     have:=zMV hv i hiE
     simp only[ho] at this
     exact vg_of this
   have hcong:∀t∈o.looksAt ops,ρR[t]?=st.ρ[t]?:=by
    intro t ht
    rcases I.view t with⟨k,o',h1,h2,h3,h4⟩|h
    ·exfalso
     have hki:k≠i:=by rintro rfl;exact hiA h1
     rcases D.look i k o o' t ho h3 (Ne.symm hki) h4 ht with hbf|⟨hbf,_⟩
     ·exact h2 (hbfR k hbf)
     ·exact hiA (hbf.closed (S:=(· ∈lA)) I.clA λo2 ho2 e he=>I.clA k o2 ho2 h1 e he)
    ·exact h
   rw[<-zE9 hcong] at hvi
   refine vg_wp ho I.post.rel I.post.env hvi ?_
   intro lv L' h' μ2 lam2 v w2 hk R2 hle hlle hrel
   obtain⟨hk,hre⟩:=zCS hk
   have E2:=(I.post.env.mono hle hlle).put (d:=o.dst) hrel
   have p1:Post μ0 h0 w0 μ' lam' a' ws ⟨match o.dst with |some d=>ρR.set d lv|none=>ρR,L',h'⟩ (a'.put o.dst v) w2 μ2 lam2:=
    ⟨R2,E2,hle,hlle,zD4,zDH,λt ht=>zIC λhd=>ht (hws i o t ho hd)⟩
   refine ih n (i::lA) (st.put o.dst lv L' h') _ _ _ _ μ2 lam2 hcnt hk {
    size:=by simpa using I.size
    sub:=by
     intro k hk
     rcases zEY.1 hk with⟨rfl,_⟩|hk
     ·simp
     ·exact List.mem_cons_of_mem _ (I.sub k hk)
    clA:=by
     intro k o' ho' hk' e he
     rcases List.mem_cons.1 hk' with rfl|hk'
     ·rw[ho] at ho';cases ho'
      exact List.mem_cons_of_mem _ (I.sub e (hbR e he))
     ·exact List.mem_cons_of_mem _ (I.clA k o' ho' hk' e he)
    clR:=clR'
    owed:=by
     intro k hk' hn
     have hki:k≠i:=by rintro rfl;exact hn (zEY.2 (.inl ⟨rfl,hisz⟩))
     have hkA:k∈lA:=(List.mem_cons.1 hk').resolve_left hki
     have hkR:¬Lr lR k:=λh=>hn (zEY.2 (.inr h))
     have hO:=I.owed k hkA hkR
     have hlook:∀d o',o.dst=some d->ops[k]?=some o'->d∉o'.looksAt ops:=by
      intro d o' hd ho' hl
      rcases D.look k i o' o d ho' ho hki hd hl with hbf|⟨hbf,_⟩
      ·exact hiA (hbf.closed (S:=(· ∈lA)) I.clA λo2 ho2 e he=>I.clA k o2 ho2 hkA e he)
      ·exact hkR (hbfR k hbf)
     have hO2:=hO.put D (lv:=lv) ho (Ne.symm hki) hlook
     obtain⟨o',ho',hc,lv2,hv2,hs2⟩:=hO2
     have hst:(st.put o.dst lv L' h').ρ=(st.put o.dst lv st.L st.h).ρ:=rfl
     by_cases hc1:cls P o'=1
     ·obtain⟨lv3,⟨h1,_,_⟩,_,h3⟩:=zK6 hc hv2
      subst h1
      exact⟨o',ho',hc,lv3,h3 hc1 _ _,hs2⟩
     ·by_cases hc2:cls P o'=2
      ·have hm:k∈zHS P ops rows m lA i:=by
        unfold zHS
        rw[List.mem_filter]
        refine⟨hkA,?_⟩
        simp only[ho',hc2,beq_self_eq_true,Bool.true_and,Bool.not_eq_true']
        cases hbit:zGE rows m i k with
        |false=>rfl
        |true=>exact absurd (hbfR k (hrows _ _ hbit)) hkR
       have:=hre k hm
       unfold zQI at this
       simp only[ho'] at this
       obtain⟨lv3,h1,h2,_⟩:=zK6 hc this
       refine⟨o',ho',hc,lv3,h2,λd hd=> ?_⟩
       simp only[hd] at h1
       rw[h1]
       refine List.ext_getElem? λt=> ?_
       rw[List.getElem?_set]
       split
       ·rename_i hdt
        subst hdt
        split
        ·rename_i hlt
         simp[List.getD,hlt]
        ·rename_i hlt
         simp[List.getElem?_eq_none (Nat.le_of_not_lt hlt)]
       ·rfl
      ·exfalso
       have:cls P o'=0∨cls P o'=1∨cls P o'=2:=by
        unfold cls
        repeat' split
        all_goals simp
       rcases this with h|h|h
       ·exact hc h
       ·exact hc1 h
       ·exact hc2 h
    len:=by
     simp only[St.put]
     cases o.dst<;>simp[I.len]
    view:=by
     intro t
     rcases I.view t with⟨k,o',h1,h2,h3,h4⟩|h
     ·refine .inl ⟨k,o',List.mem_cons_of_mem _ h1,λhl=> ?_,h3,h4⟩
      rcases zEY.1 hl with⟨rfl,_⟩|hl
      ·exact hiA h1
      ·exact h2 hl
     ·refine .inr ?_
      simp only[St.put]
      split
      ·rename_i d hd
       simp only[hd]
       rw[List.getElem?_set,List.getElem?_set,h,I.len]
      ·rename_i hd
       simp only[hd]
       exact h
    post:=I.post.trans p1 (λ_ h=>h) (λ_ h=>h)}
theorem zFA {isLoc:Nat->Bool}:zN0 P (zN2 P isLoc (AC P)):=by
 intro μ0 h0 w0 id ops st K μ lam a w hk R E
 unfold zN2 at hk
 obtain⟨rows,m,he,hrows⟩:=zKX (ops:=ops) (k:=λrows m=>need (zM8 P ops rows m) (vany P isLoc (AC P) ops rows m (ops.size+1) [] st K)) ops.toList 0 [] rfl rfl (by
  intro i j h;simp[zGE,zOD] at h)
 rw[he] at hk
 obtain⟨hd,hk⟩:=zG hk
 have D:=okD_of hrows hd
 refine wp_region_any D.mixed ?_
 have Rd:Rel μ0 h0 w0 μ lam st.L st.h {w with drawn:=w.drawn+1}:=R.drawn rfl rfl rfl rfl
 refine zR8 (μ:=μ) (lam:=lam) (a:=a) (ws:=xG (.region id ops true)) D hrows (zJR id true) (λst' a' w' μ' lam' hK p=>⟨st',μ',lam',⟨rfl,hK⟩,p⟩) ops.size (ops.size+1) [] st _ st.ρ a _ μ lam ?_ hk ?_
 ·have:∀n,((List.replicate n false).filter (λb=> !b)).length=n:=by intro n;simp
  simp[cnt]
 ·have nl:∀i,¬Lr (Array.replicate ops.size false) i:=by
   intro i h
   unfold Lr at h
   by_cases hlt:i<ops.size
   ·simp[hlt] at h
   ·simp[hlt] at h
  exact{
   size:=by simp
   sub:=λi h=>absurd h (nl i)
   clA:=λi o _ h=>absurd h (by simp)
   clR:=λi o _ h=>absurd h (nl i)
   owed:=λi h=>absurd h (by simp)
   len:=rfl
   view:=λt=>.inr rfl
   post:=Post.start Rd E _}
end
end Go.Ab
namespace Go.Ab
def zE(locs:List Nat)(loops:List (Nat×List Nat×List Nat)):jT where
 loc d:=locs.contains d
 loops c:=match loops.find? (λx=>x.1==c) with |some (_,s,m)=>⟨s,m⟩|none=>⟨[],[]⟩
 plan _:=[]
def jJ(P:Program)(f:FuncId):Bool:=match P.funcs[f]? with |some fn=> !(fn.name== "runtime.NumGoroutine")&& !(Nat.beq f 1000000000)|none=>false
def VC(P:Program)(H:jT)(f:FuncId)(args:List AV)(h:Heap)(Q:AHp):Prop:=vfun P H (AC P) (zN2 P H.loc (AC P)) f args h Q
theorem zUK {P:Program}{H:jT}{f:FuncId}{args:List AV}{h:Heap}{Q:AHp}(hn:jJ P f=true)(hk:VC P H f args h Q):AC P f args h Q:=by
 unfold VC vfun at hk
 unfold jJ at hn
 cases hf:P.funcs[f]? with
 |none=>simp only[hf] at hk
 |some fn=>
  simp only[hf] at hk hn
  cases hb:fn.body with
  |none=>simp only[hb] at hk
  |some c=>
   simp only[hb] at hk
   have hn:(fn.name== "runtime.NumGoroutine")=false/\Nat.beq f 1000000000=false:=by simpa only[Bool.and_eq_true,Bool.not_eq_true'] using hn
   exact zPQ zFA hf hb hn.1 hn.2 hk
theorem zK {P:Program}{H:jT}{f:FuncId}{args:List AV}{h:Heap}{Q:AHp}{A:Prop}(hn:jJ P f=true)(e:A=VC P H f args h Q)(hk:A):AC P f args h Q:=
 zUK hn (e▸hk)
end Go.Ab
namespace Go.Ab
set_option linter.unusedSimpArgs false
set_option linter.unusedVariables false
section
variable{A B:Prop}
theorem vif_var {b:Bool}:vif b A B↔(b=true->A)/\(b=false->B):=by cases b<;>simp[vif]
theorem zNA {b:Bool}:need b A↔b=true/\A:=by cases b<;>simp[need]
theorem zB {b:Bool}(h1:b=true->A)(h2:b=false->B):vif b A B:=vif_var.2 ⟨h1,h2⟩
end
def Ext(h h':Heap):Prop:=∀(b:Nat) (B:Blk),h[b]?=some B->h'[b]?=some B
theorem Ext.refl (h:Heap):Ext h h:=λ_ _ e=>e
theorem Ext.trans {a b c:Heap}(h:Ext a b)(h':Ext b c):Ext a c:=λk B e=>h' k B (h k B e)
theorem Ext.len {h h':Heap}(e:Ext h h'):h.length<=h'.length:=by
 rcases Nat.eq_zero_or_pos h.length with h0|h0
 ·omega
 ·have hk:h.length-1<h.length:=by omega
  have:=e (h.length-1) _ (List.getElem?_eq_getElem hk)
  have:=zD this
  omega
theorem Ext.app (h t:Heap):Ext h (h++t):=λb B e=>by
 rw[List.getElem?_append_left (zD e)];exact e
theorem Ext.set {h0 h:Heap}{b:Nat}{B:Blk}(e:Ext h0 h)(hb:h0.length<=b):Ext h0 (h.set b B):=λk C hk=>by
 have:b≠k:=by have:=zD hk;omega
 rw[List.getElem?_set,if_neg this];exact e k C hk
theorem Ext.cells {h h':Heap}(e:Ext h h'){p:PA}{n:Nat}{c:List AV}(hc:zA h p n=some c):zA h' p n=some c:=by
 unfold zA at hc ⊢
 split at hc
 ·rename_i c' rw' hb
  rw[e _ _ hb];exact hc
 ·cases hc
theorem zE4 {h:Heap}{p:PA}{n:Nat}{c:List AV}(hc:zA h p n=some c):∃C rw,h[p.b]?=some (.cells C rw)/\p.o+n<=C.length/\c=(C.drop p.o).take n:=by
 unfold zA at hc
 split at hc
 ·rename_i C rw' hb
  split at hc
  ·rename_i hl;cases hc;exact⟨C,rw',hb,hl,rfl⟩
  ·cases hc
 ·cases hc
theorem zP {h:Heap}{p:PA}{n:Nat}{C:List AV}{rw':Bool}(hb:h[p.b]?=some (.cells C rw'))(hl:p.o+n<=C.length):zA h p n=some ((C.drop p.o).take n):=by
 unfold zA;rw[hb];simp only[if_pos hl]
theorem zA4 {h:Heap}{p:PA}{n k m:Nat}{c:List AV}(hc:zA h p n=some c)(hk:k+m<=n):zA h ⟨p.b,p.o+k⟩ m=some ((c.drop k).take m):=by
 obtain⟨C,rw',hb,hl,rfl⟩:=zE4 hc
 rw[zP (p:=⟨p.b,p.o+k⟩) hb (by show p.o+k+m<=_;omega)]
 simp only[List.drop_take,List.take_take,List.drop_drop,Nat.min_eq_left (by omega:m<=n-k)]
structure Enc(α:Type) where
 sz:Nat
 f:α->List AV
 len:∀a,(f a).length=sz
 pos:0<sz
 one:∀a,zX (f a)=true
section
variable{α:Type}(E:Enc α)
def Enc.all(l:List α):List AV:=(l.map E.f).flatten
variable{E}
theorem Enc.all_length {l:List α}:(E.all l).length=l.length*E.sz:=by
 induction l with
 |nil=>simp[Enc.all]
 |cons x l ih=>simp only[Enc.all,List.map_cons,List.flatten_cons,List.length_append,E.len,List.length_cons] at*;rw[ih];rw[Nat.add_mul];omega
theorem Enc.all_cons {x:α}{l:List α}:E.all (x::l)=E.f x++E.all l:=rfl
theorem Enc.all_append {l m:List α}:E.all (l++m)=E.all l++E.all m:=by simp[Enc.all]
theorem Enc.all_drop {l:List α}:∀{k:Nat},(E.all l).drop (k*E.sz)=E.all (l.drop k):=by
 induction l with
 |nil=>intro k;simp[Enc.all]
 |cons x l ih=>
  intro k
  cases k with
  |zero=>simp
  |succ k=>
   rw[Enc.all_cons,Nat.add_mul,Nat.one_mul,Nat.add_comm,<-List.drop_drop]
   rw[List.drop_left' (E.len x),ih,List.drop_succ_cons]
theorem Enc.all_take {l:List α}:∀{k:Nat},(E.all l).take (k*E.sz)=E.all (l.take k):=by
 induction l with
 |nil=>intro k;simp[Enc.all]
 |cons x l ih=>
  intro k
  cases k with
  |zero=>simp[Enc.all]
  |succ k=>
   rw[Enc.all_cons,Nat.add_mul,Nat.one_mul,Nat.add_comm,List.take_append,List.take_of_length_le (by rw[E.len];omega),E.len,Nat.add_sub_cancel_left,ih,List.take_succ_cons,Enc.all_cons]
theorem Enc.all_at {l:List α}{k:Nat}{x:α}(h:l[k]?=some x):((E.all l).drop (k*E.sz)).take E.sz=E.f x:=by
 rw[Enc.all_drop]
 have:l.drop k=x::l.drop (k+1):=by
  rw[List.drop_eq_getElem_cons (zD h)]
  congr 1
  rw[List.getElem?_eq_getElem (zD h)] at h
  exact Option.some.inj h
 rw[this,Enc.all_cons,List.take_left' (E.len x)]
def HasL(E:Enc α)(h:Heap)(q:OSl)(l:List α):Prop:=
 match q with
 |none=>l=[]
 |some s=>s.len=l.length/\s.len<=s.cap/\(s.opn=0∨s.opn=E.sz)/\zA h ⟨s.b,s.o⟩ (l.length*E.sz)=some (E.all l)
theorem HasL.len {h:Heap}{q:OSl}{l:List α}(H:HasL E h q l):zJ q=l.length:=by
 cases q with
 |none=>simp only[HasL] at H;subst H;rfl
 |some s=>exact H.1
theorem HasL.mono {h h':Heap}{q:OSl}{l:List α}(H:HasL E h q l)(e:Ext h h'):HasL E h' q l:=by
 cases q with
 |none=>exact H
 |some s=>exact⟨H.1,H.2.1,H.2.2.1,e.cells H.2.2.2⟩
theorem HasL.idx {h:Heap}{q:OSl}{l:List α}(H:HasL E h q l){i:Int}{K:PA->Prop}(h0:0<=i)(h1:i<l.length)
  (hK:∀p x,l[i.toNat]?=some x->zA h p E.sz=some (E.f x)->K p):vIdx q i E.sz K:=by
 cases q with
 |none=>simp only[HasL] at H;subst H;simp at h1;omega
 |some s=>
  have hi:i.toNat<l.length:=by omega
  refine⟨h0,by rw[H.1];exact h1,hK _ _ (List.getElem?_eq_getElem hi) ?_⟩
  have h2:i.toNat*E.sz+E.sz<=l.length*E.sz:=by
   have:(i.toNat+1)*E.sz<=l.length*E.sz:=Nat.mul_le_mul_right _ hi
   rw[Nat.add_mul,Nat.one_mul] at this;exact this
  rw[zA4 H.2.2.2 h2,Enc.all_at (List.getElem?_eq_getElem hi)]
theorem HasL.cells {h:Heap}{q:OSl}{l:List α}(H:HasL E h q l):kU h q (zJ q*E.sz)=some (E.all l):=by
 cases q with
 |none=>simp only[HasL] at H;subst H;simp[kU,zJ,Enc.all]
 |some s=>simp only[kU,zJ,H.1];exact H.2.2.2
theorem HasL.new {h:Heap}{l:List α}{n:Nat}(hn:n=l.length){c:List AV}(hc:c=E.all l):HasL E (h++[.cells c true]) (some ⟨h.length,0,n,n,0⟩) l:=by
 subst hn hc
 refine⟨rfl,Nat.le_refl _,.inl rfl,?_⟩
 rw[zP (C:=E.all l) (rw':=true) (by simp) (by simp[Enc.all_length])]
 simp[<-Enc.all_length]
theorem HasL.slice {h:Heap}{q:OSl}{l:List α}(H:HasL E h q l){lo:Int}{hi:Option Int}{K:OSl->Prop}(h0:0<=lo)(h1:lo<=hi.getD l.length)(h2:hi.getD l.length<=l.length)
  (hK:∀q',HasL E h q' ((l.take (hi.getD l.length).toNat).drop lo.toNat)->K q'):zW E.sz q lo hi none K:=by
 cases q with
 |none=>
  simp only[HasL] at H
  subst H
  simp only[List.length_nil] at h1 h2 hK
  have e1:hi.getD 0=0:=by
   have:hi.getD ((0:Nat):Int)=hi.getD 0:=rfl
   simp only[Int.ofNat_zero,Int.natCast_zero] at h1 h2
   omega
  have e0:lo=0:=by
   simp only[Int.natCast_zero] at h1 h2;omega
  refine⟨e0,e1,rfl,hK none ?_⟩
  simp[HasL]
 |some s=>
  obtain⟨a1,a2,a3,a4⟩:=H
  have hl:(s.len:Int)=l.length:=by rw[a1]
  refine⟨a3,h0,by rw[hl];exact h1,?_,by simp,hK _ ?_⟩
  ·simp only[hl,Option.getD_none];omega
  ·generalize hH:hi.getD (l.length:Int)=H at*
   have hHs:hi.getD (s.len:Int)=H:=by rw[hl];exact hH
   have hn:((l.take H.toNat).drop lo.toNat).length=(H-lo).toNat:=by simp;omega
   refine⟨by simp only[hHs,hn],by simp only[hHs,Option.getD_none];omega,by simp[a3],?_⟩
   have:=zA4 (k:=lo.toNat*E.sz) (m:=(H-lo).toNat*E.sz) a4 (by
    rw[<-Nat.add_mul];exact Nat.mul_le_mul_right _ (by omega))
   rw[hn]
   rw[this,Enc.all_drop,Enc.all_take,List.drop_take]
   congr 3
   omega
end
end Go.Ab
namespace Go.Ab
theorem zF {n:Int}(h: -9223372036854775808<=n/\n<=9223372036854775807):zC .i64 n=n:=by
 have e1:(2:Int)^64=18446744073709551616:=by decide
 have e2:(2:Int)^63=9223372036854775808:=by decide
 simp only[zC,IntKind.wrap,IntKind.bits,IntKind.signed,Bool.true_and,e1,e2]
 by_cases hn:n%18446744073709551616≥9223372036854775808
 ·rw[if_pos (by simpa using hn)];omega
 ·rw[if_neg (by simpa using hn)];omega
theorem zA7 {n:Int}(h:0<=n/\n<=18446744073709551615):zC .u64 n=n:=by
 simp only[zC,IntKind.wrap,IntKind.bits,IntKind.signed,Bool.false_and]
 simp only[Bool.false_eq_true,if_false]
 omega
theorem zAB {n:Int}:zC .u32 n=n%4294967296:=by
 simp[zC,IntKind.wrap,IntKind.bits,IntKind.signed]
theorem zMQ {n:Int}:zC .u8 n=n%256:=by
 simp[zC,IntKind.wrap,IntKind.bits,IntKind.signed]
theorem zMZ {a b:Int}(h:0<=a):a.tdiv b=a/b:=Int.tdiv_eq_ediv_of_nonneg h
end Go.Ab
namespace Go.Ab
set_option linter.unusedSimpArgs false
set_option linter.unusedVariables false
section
variable{α:Type}{E:Enc α}
theorem zFU {c xs:List AV}{o:Nat}:splice c o xs=c.take o++xs++c.drop (o+xs.length):=rfl
theorem zN7 {l m:List α}{k:Nat}(h:k+m.length<=l.length):splice (E.all l) (k*E.sz) (E.all m)=E.all (l.take k++m++l.drop (k+m.length)):=by
 rw[zFU,Enc.all_take,Enc.all_length,<-Nat.add_mul,Enc.all_drop,Enc.all_append,Enc.all_append]
theorem zGX {A B C xs:List AV}{k:Nat}(h:k+xs.length<=B.length):splice (A++(B++C)) (A.length+k) xs=A++(splice B k xs++C):=by
 rw[zFU,zFU,Nat.add_assoc,List.take_length_add_append,List.drop_length_add_append,List.take_append_of_le_length (by omega),List.drop_append_of_le_length h]
 simp
theorem splice_set {l:List α}{i k:Nat}{r r':α}{xs:List AV}(hi:l[i]?=some r)(hk:k+xs.length<=E.sz)(hr:E.f r'=splice (E.f r) k xs):
  splice (E.all l) (i*E.sz+k) xs=E.all (l.set i r'):=by
 have hlt:=zD hi
 have e1:l=l.take i++r::l.drop (i+1):=by
  have:l[i]=r:=by rw[List.getElem?_eq_getElem hlt] at hi;exact Option.some.inj hi
  rw[<-this,<-List.drop_eq_getElem_cons hlt,List.take_append_drop]
 have e2:l.set i r'=l.take i++r'::l.drop (i+1):=by
  rw[List.set_eq_take_append_cons_drop,if_pos hlt]
 rw[e2]
 have hA:(E.all (l.take i)).length=i*E.sz:=by rw[Enc.all_length,List.length_take];congr 1;omega
 conv=>lhs;rw[e1]
 rw[Enc.all_append,Enc.all_cons,Enc.all_append,Enc.all_cons,hr,<-hA,zGX (by rw[E.len];exact hk)]
def Mine(E:Enc α)(h0 h:Heap)(b:Nat)(l:List α):Prop:=Ext h0 h/\h0.length<=b/\h[b]?=some (.cells (E.all l) true)
theorem Mine.set {h0 h:Heap}{b:Nat}{l l':List α}(M:Mine E h0 h b l):Mine E h0 (h.set b (.cells (E.all l') true)) b l':=
 ⟨M.1.set M.2.1,M.2.1,by rw[List.getElem?_set_self (zD M.2.2)]⟩
theorem Mine.hasL {h0 h:Heap}{b:Nat}{l:List α}(M:Mine E h0 h b l){n:Nat}(hn:n=l.length):HasL E h (some ⟨b,0,n,n,0⟩) l:=by
 subst hn
 refine⟨rfl,Nat.le_refl _,.inl rfl,?_⟩
 rw[zP (p:=⟨b,0⟩) M.2.2 (by simp[Enc.all_length])]
 simp[<-Enc.all_length]
theorem Mine.new {h:Heap}{l:List α}{c:List AV}(hc:c=E.all l):Mine E h (h++[.cells c true]) h.length l:=⟨.app _ _,Nat.le_refl _,by simp[hc]⟩
theorem Mine.at {h0 h:Heap}{b:Nat}{l:List α}(M:Mine E h0 h b l){i n c:Nat}{opn:Nat}{K:PA->Prop}{ix:Int}(hix:ix=i)(hi:i<n)(hK:K ⟨b,i*E.sz⟩):vIdx (some ⟨b,0,n,c,opn⟩) ix E.sz K:=by
 subst hix
 refine⟨by omega,by show(i:Int)<(n:Int);omega,?_⟩
 simpa using hK
theorem Mine.store {h0 h:Heap}{b:Nat}{l:List α}(M:Mine E h0 h b l){i k:Nat}{r r':α}{xs:List AV}{K:Heap->Prop}{p:PA}(hp:p=⟨b,i*E.sz+k⟩)(hi:l[i]?=some r)(hk:k+xs.length<=E.sz)(hr:E.f r'=splice (E.f r) k xs)
  (hK:∀h',Mine E h0 h' b (l.set i r')->K h'):zL h p xs K:=by
 subst hp
 unfold zL
 rw[M.2.2]
 simp only
 have hlt:=zD hi
 refine⟨?_,?_⟩
 ·rw[Enc.all_length]
  have:(i+1)*E.sz<=l.length*E.sz:=Nat.mul_le_mul_right _ hlt
  rw[Nat.add_mul,Nat.one_mul] at this
  omega
 ·rw[splice_set hi hk hr]
  exact hK _ M.set
theorem Mine.copy {h0 h:Heap}{b:Nat}{l m:List α}(M:Mine E h0 h b l){k n c:Nat}{opn:Nat}{src:OSl}{K:Int->Heap->Prop}(H:HasL E h src m)(hk:k+n<=l.length){o:Nat}(ho:o=k*E.sz)
  (hK:∀h',Mine E h0 h' b (l.take k++m.take (min m.length n)++l.drop (k+min m.length n))->K (min m.length n:Nat) h'):zGH E.sz (some ⟨b,o,n,c,opn⟩) src h K:=by
 subst ho
 unfold zGH
 have hs:zJ (some (⟨b,k*E.sz,n,c,opn⟩:SL))=n:=rfl
 rw[H.len,hs]
 have hcells:kU h src (min m.length n*E.sz)=some (E.all (m.take (min m.length n))):=by
  have:=H.cells
  rw[H.len] at this
  cases src with
  |none=>simp only[HasL] at H;subst H;simp[kU,Enc.all]
  |some s=>
   simp only[kU] at this ⊢
   have:=zA4 (k:=0) (m:=min m.length n*E.sz) this (by simp;exact Nat.mul_le_mul_right _ (Nat.min_le_left _ _))
   simp only[Nat.add_zero,List.drop_zero,Enc.all_take] at this
   exact this
 refine⟨_,hcells,by rw[Enc.all_length,List.length_take];congr 1;omega,?_⟩
 refine⟨Nat.min_le_right _ _,?_⟩
 unfold zL
 simp only[M.2.2]
 have hl:(m.take (min m.length n)).length=min m.length n:=by rw[List.length_take];omega
 refine⟨by rw[Enc.all_length,Enc.all_length,hl,<-Nat.add_mul];exact Nat.mul_le_mul_right _ (by omega),?_⟩
 rw[zN7 (by rw[hl];omega),hl]
 exact hK _ M.set
end
end Go.Ab
namespace Go.Ab
def zOT:List LV->(List LV->Prop)->Prop
 | [],k=>k []
 |x::xs,k=>zOT xs λys=>k (x::ys)
theorem zFH:∀(l:List LV) (k:List LV->Prop),zOT l k=k l
 | [],k=>rfl
 |x::xs,k=>by unfold zOT;rw[zFH xs]
def zS2(P:Program)(isLoc:Nat->Bool)(call:jU)(ops:Array Oper):List Nat->St->(St->Prop)->Prop
 | [],st,K=>K st
 |i::is,st,K=>
  match ops[i]? with
  |none=>False
  |some o=>jV P isLoc call ops o st λst'=>zOT st'.ρ fun ρ=>zS2 P isLoc call ops is ⟨ρ,st'.L,st'.h⟩ K
theorem zMU {P:Program}{isLoc:Nat->Bool}{call:jU}{ops:Array Oper}:∀(l:List Nat) (st:St) (K:St->Prop),zS2 P isLoc call ops l st K=vops P isLoc call ops l st K
 | [],st,K=>rfl
 |i::is,st,K=>by
  unfold zS2 vops
  cases ops[i]? with
  |none=>rfl
  |some o=>
   show jV P isLoc call ops o st _=jV P isLoc call ops o st _
   congr 1
   funext st'
   rw[zFH,zMU is]
def vone(P:Program)(H:jT)(call:jU)(draw:zGJ)(c:Code)(cur:Nat)(st:St)(Q:Exit->St->Prop):Prop:=
 match c with
 | .region _ ops false=>zS2 P H.loc call ops (List.range ops.size) st (Q .normal)
 |c=>vT P H call draw c cur st Q
theorem zPU {P:Program}{H:jT}{call:jU}{draw:zGJ}(c:Code)(cur:Nat)(st:St)(Q:Exit->St->Prop):vone P H call draw c cur st Q=vT P H call draw c cur st Q:=by
 unfold vone
 split
 ·rw[zMU];rfl
 ·rfl
def vtop(P:Program)(H:jT)(call:jU)(draw:zGJ):Code->Nat->St->(Exit->St->Prop)->Prop
 | .seq a b,cur,st,Q=>vone P H call draw a cur st λe st'=>match e with
  | .normal=>zOT st'.ρ fun ρ=>vtop P H call draw b cur ⟨ρ,st'.L,st'.h⟩ Q
  |e=>Q e st'
 |c,cur,st,Q=>vone P H call draw c cur st Q
theorem vtop_eq {P:Program}{H:jT}{call:jU}{draw:zGJ}:∀(c:Code) (cur:Nat) (st:St) (Q:Exit->St->Prop),vtop P H call draw c cur st Q=vT P H call draw c cur st Q:=by
 intro c
 induction c with
 |seq a b iha ihb=>
  intro cur st Q
  show vone P H call draw a cur st _=vT P H call draw a cur st _
  rw[zPU]
  congr 1
  funext e st'
  cases e<;>try rfl
  simp only[zFH,ihb]
 |_=>intros;exact zPU _ _ _ _
def VCF(P:Program)(H:jT)(f:FuncId)(args:List AV)(h:Heap)(Q:AHp):Prop:=
 match P.funcs[f]? with
 |none=>False
 |some fn=>match fn.body with
  |none=>False
  |some c=>zOT (args.map .val++List.replicate (fn.ntmps-args.length) .top) fun ρ=>vtop P H (AC P) (zN2 P H.loc (AC P)) c 1000000 ⟨ρ,[],h⟩ λe st=>match e with
   | .normal=>vret P fn st Q
   | .ret=>vret P fn st Q
   |_=>False
theorem VCF_eq {P:Program}{H:jT}{f:FuncId}{args:List AV}{h:Heap}{Q:AHp}:VCF P H f args h Q=VC P H f args h Q:=by
 unfold VCF VC vfun
 cases P.funcs[f]? with
 |none=>rfl
 |some fn=>
  simp only
  cases fn.body with
  |none=>rfl
  |some c=>simp only[zFH,vtop_eq];rfl
theorem AC_byF {P:Program}{H:jT}{f:FuncId}{args:List AV}{h:Heap}{Q:AHp}{A:Prop}(hn:jJ P f=true)(e:A=VCF P H f args h Q)(hk:A):AC P f args h Q:=
 zK hn (e.trans VCF_eq) hk
end Go.Ab
