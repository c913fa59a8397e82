import Derived.Test.YtafmabnolelknaaGreatDoorDG5
namespace Go.Ab
set_option linter.unusedSimpArgs false
set_option linter.unusedVariables false
theorem zHM {P:Program}{G:Type}{Q:Exit->Act->World->Prop}{c:Code}(I:G->Act->World->Prop)(m:G->Nat)
  (round:∀g a w,I g a w->c.wp P (Exit.then (λa' w'=>∃g',I g' a' w'/\m g'<m g) Q) a w)(g:G)(a:Act)(w:World)(h:I g a w):(Code.loop c).wp P Q a w:=by
 have key:∀n g a w,m g=n->I g a w->∀b k cs,
   ∃e a' w',Q e a' w'/\Arrives P (lone (b.at a (.code c:: .inLoop c::k)) cs w) b k cs e a' w':=by
  intro n
  induction n using Nat.strongRecOn with
  |_ n ih=>
   intro g a w hn hI b k cs
   obtain⟨e,a₁,w₁,hq,harr⟩:=round g a w hI b (.inLoop c::k) cs
   cases e with
   |normal=>
    obtain⟨g',hI₁,hlt⟩:=hq
    obtain⟨e₂,a₂,w₂,hq₂,harr₂⟩:=ih (m g') (hn▸hlt) g' a₁ w₁ rfl hI₁ b k cs
    exact⟨e₂,a₂,w₂,hq₂,.of_steps (Steps.trans harr (.one step_inLoop)) harr₂⟩
   |exit id=>exact⟨_,a₁,w₁,hq,.pass (x:=.inLoop c) rfl (λ_ _=>.inl (by simp)) harr⟩
   |goto l=>exact⟨_,a₁,w₁,hq,.pass (x:=.inLoop c) rfl (λ_ _=>.inl (by simp)) harr⟩
   |ret=>exact⟨_,a₁,w₁,hq,.pass (x:=.inLoop c) rfl (λ_ _=>.inl (by simp)) harr⟩
   |panic ch=>exact⟨_,a₁,w₁,hq,.pass (x:=.inLoop c) rfl (λ_ _=>.inl (by simp)) harr⟩
   |outgrown=>exact⟨_,a₁,w₁,hq,.pass (x:=.inLoop c) rfl (λ_ _=>.inl (by simp)) harr⟩
 intro b k cs
 obtain⟨e,a',w',hq,harr⟩:=key _ g a w rfl h b k cs
 exact⟨e,a',w',hq,.of_steps (.one step_loop) harr⟩
section
variable{P:Program}{μ0:Ren}{h0:Heap}{w0:World}
structure Post(μ0:Ren)(h0:Heap)(w0:World)(μ:Ren)(lam:List Nat)(a:Act)(ws:List Nat)(st:St)(a':Act)(w':World)(μ':Ren)(lam':List Nat):Prop where
 rel:Rel μ0 h0 w0 μ' lam' st.L st.h w'
 env:yB μ' lam' st.ρ a'.tmps
 le:Ren.le μ μ'
 lle:xS lam lam'
 defers:a'.defers=a.defers
 size:a'.tmps.size=a.tmps.size
 keep:∀t,t∉ws->a'.tmps.getD t undef=a.tmps.getD t undef
def CPost(μ0:Ren)(h0:Heap)(w0:World)(μ:Ren)(lam:List Nat)(a:Act)(ws:List Nat)(Q:Exit->St->Prop)(e:Exit)(a':Act)(w':World):Prop:=
 ∃st μ' lam',Q e st/\Post μ0 h0 w0 μ lam a ws st a' w' μ' lam'
theorem Post.start {μ:Ren}{lam:List Nat}{st:St}{a:Act}{w:World}(R:Rel μ0 h0 w0 μ lam st.L st.h w)(E:yB μ lam st.ρ a.tmps)(ws:List Nat):Post μ0 h0 w0 μ lam a ws st a w μ lam:=
 ⟨R,E,.refl _,.refl _,rfl,rfl,λ_ _=>rfl⟩
theorem Post.trans {μ μ1 μ2:Ren}{lam lam1 lam2:List Nat}{a a1 a2:Act}{ws1 ws2 ws:List Nat}{st1 st2:St}{w1 w2:World}(p:Post μ0 h0 w0 μ lam a ws1 st1 a1 w1 μ1 lam1)(q:Post μ0 h0 w0 μ1 lam1 a1 ws2 st2 a2 w2 μ2 lam2)
  (h1:∀t∈ws1,t∈ws)(h2:∀t∈ws2,t∈ws):Post μ0 h0 w0 μ lam a ws st2 a2 w2 μ2 lam2:=
 ⟨q.rel,q.env,p.le.trans q.le,λ_ _ h=>q.lle _ _ (p.lle _ _ h),q.defers.trans p.defers,q.size.trans p.size,λt ht=>(q.keep t λh=>ht (h2 t h)).trans (p.keep t λh=>ht (h1 t h))⟩
theorem Post.weaken {μ μ1:Ren}{lam lam1:List Nat}{a a1:Act}{ws1 ws:List Nat}{st1:St}{w1:World}(p:Post μ0 h0 w0 μ lam a ws1 st1 a1 w1 μ1 lam1)(h1:∀t∈ws1,t∈ws):Post μ0 h0 w0 μ lam a ws st1 a1 w1 μ1 lam1:=
 {p with keep:=λt ht=>p.keep t λh=>ht (h1 t h)}
theorem yB.put {μ:Ren}{lam:List Nat}{ρ:List LV}{a:Act}(E:yB μ lam ρ a.tmps){d:Option Nat}{lv:LV}{v:Value}(hv:lv.rel μ lam v):
  yB μ lam (match d with |some d=>ρ.set d lv|none=>ρ) (a.put d v).tmps:=by
 cases d with
 |none=>exact E
 |some d=>
  refine⟨by simp[Act.put,E.len],λt x hx=> ?_⟩
  simp only[Act.put]
  rw[List.getElem?_set] at hx
  split at hx
  ·rename_i hdt
   subst hdt
   split at hx
   ·rename_i hlt
    cases hx
    have:d<a.tmps.size:=by rw[<-E.len];exact hlt
    simpa[this] using hv
   ·cases hx
  ·rename_i hne
   have:=E.get t x hx
   simpa[Array.getElem?_setIfInBounds,hne] using this
theorem zIC {a:Act}{d:Option Nat}{v:Value}{t:Nat}(h:d≠some t):(a.put d v).tmps.getD t undef=a.tmps.getD t undef:=by
 cases d with
 |none=>rfl
 |some d=>
  have:d≠t:=λh'=>h (by rw[h'])
  simp[Act.put,Array.getElem?_setIfInBounds,this]
theorem zDH {a:Act}{d:Option Nat}{v:Value}:(a.put d v).tmps.size=a.tmps.size:=by cases d<;>simp[Act.put]
theorem zD4 {a:Act}{d:Option Nat}{v:Value}:(a.put d v).defers=a.defers:=by cases d<;>simp[Act.put]
theorem zN1 {μ:Ren}{lam:List Nat}{ρ:List LV}{a:Act}(E:yB μ lam ρ a.tmps){ops:Array Oper}{j:Nat}{b:Bool}(h:jZ ops ρ j=some b):yielded ops a.tmps j=some b:=by
 simp only[jZ] at h
 split at h
 ·rename_i d hd
  split at h
  ·rename_i b' hb
   cases h
   have:=E.get d _ hb
   have hlt:d<a.tmps.size:=by rw[<-E.len];exact zD hb
   have e1:a.tmps.getD d undef= .bool b:=this
   unfold yielded
   rw[hd]
   have e2:a.tmps[d]?=some (.bool b):=by
    rw[Array.getElem?_eq_getElem hlt]
    simpa[hlt] using e1
   simp[e2]
  ·cases h
 ·cases h
theorem zQC {ops:Array Oper}{ρ:List LV}{j:Nat}{b:Bool}(h:jZ ops ρ j=some b):setG ops ρ j b=ρ:=by
 unfold jZ at h
 unfold setG
 split at h
 ·rename_i d hd
  split at h
  ·rename_i b' hb
   cases h
   refine List.ext_getElem? λt=> ?_
   rw[List.getElem?_set]
   split
   ·rename_i ht
    subst ht
    rw[if_pos (zD hb)]
    exact hb.symm
   ·rfl
  ·cases h
 ·cases h
theorem zC8 {isLoc:Nat->Bool}{call:jU}{ops:Array Oper}{o:Oper}{st:St}{K:St->Prop}(hk:jV P isLoc call ops o st K):
  (zCM ops o st.ρ=some true/\vop P isLoc call o st.ρ st.L st.h λv L h=>K (st.put o.dst v L h))∨(zCM ops o st.ρ=some false/\K (st.put o.dst .und st.L st.h)):=by
 unfold jV at hk
 unfold zCM
 split at hk
 ·rename_i hg;exact .inl ⟨by simp[hg],hk⟩
 ·rename_i j want hg
  split at hk
  ·rename_i ho
   exact .inr ⟨by simp[ho],hk⟩
  ·rename_i ho
   split at hk
   ·exact hk.elim
   ·rename_i b hb
    simp only[ho,hb]
    rcases vJ hk with⟨rfl,hk⟩|⟨rfl,hk⟩<;>rw[zQC hb] at hk<;>cases want<;>simp only[vside,Bool.not_true,Bool.not_false] at hk
    ·exact .inr ⟨rfl,hk⟩
    ·exact .inl ⟨rfl,hk⟩
    ·exact .inl ⟨rfl,hk⟩
    ·exact .inr ⟨rfl,hk⟩
theorem zC7 {μ:Ren}{lam:List Nat}{ρ:List LV}{a:Act}(E:yB μ lam ρ a.tmps){ops:Array Oper}{o:Oper}{b:Bool}(h:zCM ops o ρ=some b):Region.wanted o (yielded ops a.tmps)=b:=by
 unfold zCM at h
 unfold Region.wanted
 split at h
 ·rename_i hg;cases h;simp[hg]
 ·rename_i j want hg
  simp only[hg]
  split at h
  ·rename_i ho
   cases h
   unfold zB4 at ho
   split at ho
   ·rename_i d hd
    split at ho
    ·rename_i hb
     have:=E.get d _ hb
     have hlt:d<a.tmps.size:=by rw[<-E.len];exact zD hb
     have e1:∃cs,a.tmps.getD d undef= .tuple cs:=by
      obtain⟨cs,h1,_⟩:=this
      exact⟨cs,h1⟩
     obtain⟨cs,e1⟩:=e1
     have e2:a.tmps[d]?=some (.tuple cs):=by
      rw[Array.getElem?_eq_getElem hlt]
      simpa[hlt] using e1
     unfold yielded
     simp[hd,e2]
    ·cases ho
   ·cases ho
  ·simp only[Option.map_eq_some_iff] at h
   obtain⟨b',hb',rfl⟩:=h
   rw[zN1 E hb']
   cases b'<;>cases want<;>rfl
theorem zPX {μ:Ren}{lam:List Nat}:LV.und.rel μ lam undef:=⟨#[],rfl,rfl⟩
theorem zPS {isLoc:Nat->Bool}{ops:Array Oper}{ws:List Nat}(hws:∀(i:Nat) (o:Oper) (d:Nat),ops[i]?=some o->o.dst=some d->d∈ws){Q:Exit->Act->World->Prop}:
  ∀(is:List Nat) (st:St) (K:St->Prop) (μ:Ren) (lam:List Nat) (a:Act) (w:World),vops P isLoc (AC P) ops is st K->Rel μ0 h0 w0 μ lam st.L st.h w->yB μ lam st.ρ a.tmps->
   (∀st' a' w' μ' lam',K st'->Post μ0 h0 w0 μ lam a ws st' a' w' μ' lam'->Q .normal a' w')->wpOps P ops Q is a w
 | [],st,K,μ,lam,a,w,hk,R,E,hq=>hq _ _ _ _ _ hk (Post.start R E ws)
 |i::is,st,K,μ,lam,a,w,hk,R,E,hq=>by
  simp only[vops] at hk
  split at hk
  ·exact hk.elim
  ·rename_i o ho
   simp only[wpOps,ho]
   have fin:∀(lv:LV) (L':Locs) (h':Heap) (μ':Ren) (lam':List Nat) (v:Value) (w':World),vops P isLoc (AC P) ops is (st.put o.dst lv L' h') K->Rel μ0 h0 w0 μ' lam' L' h' w'->Ren.le μ μ'->xS lam lam'->lv.rel μ' lam' v->
     wpOps P ops Q is (a.put o.dst v) w':=by
    intro lv L' h' μ' lam' v w' hk' R' h1 h2 hv
    have E':=(E.mono h1 h2).put (d:=o.dst) hv
    refine zPS hws is _ K μ' lam' _ _ hk' R' E' λst2 a2 w2 μ2 lam2 hK p=>hq _ _ _ μ2 lam2 hK ?_
    have p1:Post μ0 h0 w0 μ lam a ws (st.put o.dst lv L' h') (a.put o.dst v) w' μ' lam':=
     ⟨R',E',h1,h2,zD4,zDH,λt ht=>zIC λhd=>ht (hws i o t ho hd)⟩
    exact p1.trans p (λ_ h=>h) (λ_ h=>h)
   rcases zC8 hk with⟨hg,hk⟩|⟨hg,hk⟩
   ·rw[if_pos (zC7 E hg)]
    exact .inl (vop_wp R E hk λlv L' h' μ' lam' v w' a1 a2 a3 a4 a5=>fin lv L' h' μ' lam' v w' a1 a2 a3 a4 a5)
   ·rw[if_neg (by rw[zC7 E hg];simp)]
    exact fin .und _ _ μ lam undef w hk R (.refl _) (xS.refl _) zPX
theorem zJR {ops:Array Oper}(id:Nat)(d:Bool):∀(i:Nat) (o:Oper) (t:Nat),ops[i]?=some o->o.dst=some t->t∈xG (.region id ops d):=by
 intro i o t ho hd
 simp only[xG,List.mem_filterMap]
 refine⟨o,?_,hd⟩
 have:=zD (l:=ops.toList) (i:=i) (x:=o) (by simpa using ho)
 exact List.mem_of_getElem? (by simpa using ho)
def zN0(P:Program)(draw:zGJ):Prop:=
 ∀(μ0:Ren) (h0:Heap) (w0:World) (id:Nat) (ops:Array Oper) (st:St) (K:St->Prop) (μ:Ren) (lam:List Nat) (a:Act) (w:World),draw id ops st K->
  Rel μ0 h0 w0 μ lam st.L st.h w->yB μ lam st.ρ a.tmps->(Code.region id ops true).wp P (CPost μ0 h0 w0 μ lam a (xG (.region id ops true)) λe st'=>e= .normal/\K st') a w
theorem kZ:∀{zs:List AV} {F:List AV->Prop},allL zs F->∀{xs:List AV},xJ zs xs=true->F xs
 | [],F,h,xs,hs=>by
  cases xs with
  |nil=>exact h
  |cons x xs=>simp[xJ] at hs
 |z::zs,F,h,[],hs=>by simp[xJ] at hs
 |z::zs,F,h,x::xs,hs=>by
  simp only[xJ,Bool.and_eq_true] at hs
  obtain⟨h1,h2⟩:=hs
  cases z<;>simp only[allL] at h<;>simp only[zJL] at h1
  case int k n=>
   cases x<;>simp at h1
   subst h1
   exact kZ (h _) h2
  case bool=>cases x<;>simp at h1;exact kZ (h _) h2
  case str=>cases x<;>simp at h1;exact kZ (h _) h2
  case ptr=>cases x<;>simp at h1;exact kZ (h _) h2
  case sl=>cases x<;>simp at h1;exact kZ (h _) h2
  case map=>cases x<;>simp at h1;exact kZ (h _) h2
  all_goals exact kZ (h _ h1) h2
theorem zGZ:∀{ts:List Nat} {ρ:List LV} {t:Nat} {lv:LV},(zJH ρ ts)[t]?=some lv->lv= .top∨(t∉ts/\ρ[t]?=some lv)
 | [],ρ,t,lv,h=>.inr ⟨by simp,h⟩
 |s::ts,ρ,t,lv,h=>by
  rcases zGZ (ts:=ts) h with h1|⟨h1,h2⟩
  ·exact .inl h1
  ·rw[List.getElem?_set] at h2
   split at h2
   ·split at h2
    ·cases h2;exact .inl rfl
    ·cases h2
   ·rename_i hne
    exact .inr ⟨by simp[h1];exact λhc=>hne hc.symm,h2⟩
theorem zDE:∀(ts:List Nat) (ρ:List LV),(zJH ρ ts).length=ρ.length
 | [],ρ=>rfl
 |s::ts,ρ=>by simp[zJH,zDE ts]
theorem zA9:∀(ss:List Nat) (vs:List AV) (ρ:List LV),(zDF ρ ss vs).length=ρ.length
 | [],vs,ρ=>by cases vs<;>rfl
 |s::ss,[],ρ=>rfl
 |s::ss,v::vs,ρ=>by simp[zDF,zA9 ss vs]
theorem zEQ:∀{ss:List Nat} {vs:List AV} {ρ:List LV} {t:Nat} {lv:LV},(zDF ρ ss vs)[t]?=some lv->(∃(i:Nat) (v:AV),ss[i]?=some t/\vs[i]?=some v/\lv= .val v)∨ρ[t]?=some lv
 | [],vs,ρ,t,lv,h=>by cases vs<;>exact .inr h
 |s::ss,[],ρ,t,lv,h=>.inr h
 |s::ss,v::vs,ρ,t,lv,h=>by
  rcases zEQ (ss:=ss) h with⟨i,u,h1,h2,h3⟩|h1
  ·exact .inl ⟨i+1,u,by simpa using h1,by simpa using h2,h3⟩
  ·rw[List.getElem?_set] at h1
   split at h1
   ·rename_i hst
    split at h1
    ·cases h1;exact .inl ⟨0,v,by simp[hst],by simp,rfl⟩
    ·cases h1
   ·exact .inr h1
theorem jM:∀{ss:List Nat} {ρ:List LV} {vs:List AV},zBY ρ ss=some vs->vs.length=ss.length/\∀(i s:Nat) (v:AV),ss[i]?=some s->vs[i]?=some v->ρ[s]?=some (.val v)
 | [],ρ,vs,h=>by simp[zBY] at h;subst h;simp
 |s::ss,ρ,vs,h=>by
  simp only[zBY] at h
  split at h
  ·rename_i v l hv hl
   cases h
   obtain⟨h1,h2⟩:=jM hl
   refine⟨by simp[h1],λi s' v' hs hv'=> ?_⟩
   cases i with
   |zero=>simp at hs hv';subst hs;subst hv';exact hv
   |succ i=>exact h2 i s' v' (by simpa using hs) (by simpa using hv')
  ·cases h
theorem vG:∀{ks:List Nat} {L L':Locs} {vs:List AV},vH L' ks=some vs->(∀k∈ks,∃c c':List AV,L[k]?=some c/\L'[k]?=some c'/\c'.length=c.length)->
  (vU L ks vs).length=L.length/\∀k:Nat,(vU L ks vs)[k]?=if k∈ks then L'[k]? else L[k]?
 | [],L,L',vs,h,hc=>by simp[vU]
 |k::ks,L,L',vs,h,hc=>by
  simp only[vH] at h
  split at h
  ·rename_i c' l hk hl
   cases h
   obtain⟨c,c2,h1,h2,h3⟩:=hc k (by simp)
   rw[hk] at h2;cases h2
   simp only[vU,h1]
   have e1:(c'++l).take c.length=c':=by rw[<-h3];simp
   have e2:(c'++l).drop c.length=l:=by rw[<-h3];simp
   rw[e1,e2]
   have hkl:=zD h1
   obtain⟨g1,g2⟩:=vG (ks:=ks) (L:=L.set k c') (L':=L') (vs:=l) hl (by
    intro j hj
    obtain⟨d,d',k1,k2,k3⟩:=hc j (by simp[hj])
    by_cases hjk:k=j
    ·subst hjk
     rw[h1] at k1;cases k1
     rw[hk] at k2;cases k2
     exact⟨c',c',by simp[hkl],hk,rfl⟩
    ·exact⟨d,d',by rw[List.getElem?_set,if_neg hjk];exact k1,k2,k3⟩)
   refine⟨by simpa using g1,λj=> ?_⟩
   rw[g2 j]
   by_cases hj:j∈ks
   ·simp[hj]
   ·by_cases hjk:j=k
    ·subst hjk
     simp[hj,hkl,hk]
    ·simp[hj,hjk,List.getElem?_set,Ne.symm hjk]
  ·cases h
theorem zBL {mods:List Nat}{L0 L:Locs}:∀{n:Nat},zGR mods L0 L n->∀k,k<n->(k∈mods/\∃c c0:List AV,L[k]?=some c/\L0[k]?=some c0/\c.length=c0.length)∨(k∉mods/\L[k]?=L0[k]?)
 |0,_,k,hk=>by omega
 |n+1,h,k,hk=>by
  obtain⟨h1,h2⟩:=h
  rcases Nat.lt_or_ge k n with hlt|hge
  ·exact zBL h2 k hlt
  ·obtain rfl:k=n:=by omega
   split at h1
   ·rename_i hc
    left
    refine⟨by simpa using hc,?_⟩
    split at h1
    ·rename_i c c0 e1 e2
     exact⟨c,c0,e1,e2,by simpa using(zG h1).1⟩
    ·exact h1.elim
   ·rename_i hc
    exact .inr ⟨by simpa using hc,h1⟩
theorem Rel.forget {μ:Ren}{lam:List Nat}{L L1:Locs}{h:Heap}{w:World}(R:Rel μ0 h0 w0 μ lam L h w){n:Nat}(hn:L1.length=n)(hle:n<=L.length)(hL:∀k,k<n->L1[k]?=L[k]?):Rel μ0 h0 w0 μ (lam.take n) L1 h w:=by
 have sub:∀k r:Nat,(lam.take n)[k]?=some r->k<n/\lam[k]?=some r:=by
  intro k r hk
  rw[List.getElem?_take] at hk
  split at hk
  ·exact⟨by assumption,hk⟩
  ·cases hk
 refine⟨R.evo,R.heap,⟨by simp[R.locs.len,hn];omega,?_,?_,?_,?_⟩⟩
 ·intro k c r hc hr
  obtain⟨h1,h2⟩:=sub k r hr
  rw[hL k h1] at hc
  exact R.locs.blk k c r hc h2
 ·intro k1 k2 r h1 h2
  exact R.locs.inj k1 k2 r (sub _ _ h1).2 (sub _ _ h2).2
 ·intro k r b B e hk
  exact R.locs.sep k r b B e (sub _ _ hk).2
 ·intro k r hk
  exact R.locs.new k r (sub _ _ hk).2
end
end Go.Ab
