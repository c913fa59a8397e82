import Derived.Test.YtafmabnolelknaaGreatDoorDG4
import Derived.MapKept
import Derived.WideKeyRuns
namespace Go.Ab
set_option linter.unusedSimpArgs false
set_option linter.unusedVariables false
open Go.MapKept
section
variable{P:Program}{μ0:Ren}{h0:Heap}{w0:World}{μ:Ren}{lam:List Nat}{L:Locs}{h:Heap}{w:World}{K:KO}
theorem relM.length {μ:Ren}:∀{es:List (AV×AV×Nat)} {l:List MapEntry},relM μ es l->l.length=es.length
 | [],_,r=>by rw[show _=[] from r];rfl
 |(k,v,n)::es,_,⟨E,Es,h1,_,_,_,h5⟩=>by rw[h1];simp[h5.length]
theorem relM.get {μ:Ren}:∀{es:List (AV×AV×Nat)} {l:List MapEntry},relM μ es l->∀{i:Nat} {x:AV×AV×Nat},es[i]?=some x->∃E,l[i]?=some E/\x.1.rel μ E.key/\x.2.1.rel μ E.val/\E.born=x.2.2
 | [],_,_,i,x,hx=>by simp at hx
 |(k,v,n)::es,_,⟨E,Es,h1,h2,h3,h4,h5⟩,i,x,hx=>by
  subst h1
  cases i with
  |zero=>simp at hx;subst hx;exact⟨E,rfl,h2,h3,h4⟩
  |succ i=>simp at hx;obtain⟨E',g1,g2⟩:=h5.get hx;exact⟨E',by simpa using g1,g2⟩
theorem relM.of_get {μ:Ren}:∀{es:List (AV×AV×Nat)} {l:List MapEntry},l.length=es.length->(∀(i:Nat) (x:AV×AV×Nat) (E:MapEntry),es[i]?=some x->l[i]?=some E->x.1.rel μ E.key/\x.2.1.rel μ E.val/\E.born=x.2.2)->relM μ es l
 | [],l,hl,_=>by simp at hl;exact hl
 |x::es,[],hl,_=>by simp at hl
 |(k,v,n)::es,E::Es,hl,hh=>by
  obtain⟨h1,h2,h3⟩:=hh 0 (k,v,n) E (by simp) (by simp)
  exact⟨E,Es,rfl,h1,h2,h3,relM.of_get (by simpa using hl) λi x E' hx hE=>hh (i+1) x E' (by simpa using hx) (by simpa using hE)⟩
theorem zRF {kt:TypeId}{d:TypeDesc}(hd:P.underlying kt=some d)(hns:∀fs,d≠ .struct fs)(hna:∀n e,d≠ .array n e){a b:AV}{va vb:Value}(ha:a.rel μ va)(hb:b.rel μ vb){KB:Bool->Prop}(hk:vW P kt a b KB):
  ∃r,Instr.sameNow d va vb=some r/\KB r/\(r=true->va=vb):=by
 unfold vW at hk
 rw[hd] at hk
 split at hk
 ·rename_i heq
  cases heq
  obtain⟨h1,hk2⟩:=zG hk
  obtain rfl:va=_:=ha
  obtain rfl:vb=_:=hb
  have:=of_decide_eq_true h1
  subst this
  refine⟨_,by simp only[Instr.sameNow,if_true],hk2,λh=> ?_⟩
  rw[eq_of_beq h]
 ·rename_i heq
  cases heq
  obtain rfl:va=_:=ha
  obtain rfl:vb=_:=hb
  refine⟨_,rfl,by rw[zAE];exact hk,λh=> ?_⟩
  rw[zAE] at h
  rw[eq_of_beq h]
 ·rename_i heq
  cases heq
  obtain rfl:va=_:=ha
  obtain rfl:vb=_:=hb
  refine⟨_,rfl,hk,λh=> ?_⟩
  rw[eq_of_beq h]
 ·rename_i heq
  cases heq
  exact absurd rfl (hns _)
 ·rename_i heq
  cases heq
  exact absurd rfl (hna _ _)
 ·exact hk.elim
theorem zKL {kt:TypeId}{d:TypeDesc}(hd:P.underlying kt=some d)(hns:∀fs,d≠ .struct fs)(hna:∀n e,d≠ .array n e){k:AV}{vk:Value}(hkv:k.rel μ vk):∀{es:List (AV×AV×Nat)} {ES:List MapEntry} {i:Nat} {KR:Option (Nat×AV×Nat)->Prop},
  relM μ es ES->jP P kt k es i KR->
  (Instr.findNow d vk ES i=some none/\KR none)∨∃(j:Nat) (k' v:AV) (n:Nat) (E:MapEntry),Instr.findNow d vk ES i=some (some (i+j,E.val))/\KR (some (i+j,v,n))/\es[j]?=some (k',v,n)/\ES[j]?=some E/\v.rel μ E.val/\E.key=vk/\E.born=n
 | [],ES,i,KR,r,hk=>by
  obtain rfl:ES=[]:=r
  exact .inl ⟨rfl,hk⟩
 |(k',v,n)::es,_,i,KR,⟨E,Es,h1,h2,h3,h4,h5⟩,hk=>by
  subst h1
  simp only[jP] at hk
  obtain⟨b,g1,g2,g3⟩:=zRF hd hns hna hkv h2 hk
  rcases vJ g2 with⟨rfl,g2⟩|⟨rfl,g2⟩
  ·right
   exact⟨0,k',v,n,E,by simp[Instr.findNow,g1],g2,rfl,rfl,h3,(g3 rfl).symm,h4⟩
  ·rcases zKL hd hns hna hkv h5 g2 with⟨f1,f2⟩|⟨j,k2,v2,n2,E2,f1,f2,f3,f4,f5,f6,f7⟩
   ·left
    exact⟨by simp only[Instr.findNow,g1];exact f1,f2⟩
   ·right
    refine⟨j+1,k2,v2,n2,E2,?_,?_,by simpa using f3,by simpa using f4,f5,f6,f7⟩
    ·simp only[Instr.findNow,g1];rw[f1];congr 3;omega
    ·rw[show i+(j+1)=i+1+j by omega];exact f2
theorem kO {kt:TypeId}{k:AV}{vk:Value}(hkv:k.rel μ vk)(h:zCK P kt k=true):∃d,P.underlying kt=some d/\IsKey d vk:=by
 unfold zCK at h
 split at h
 ·rename_i hu
  obtain rfl:vk=_:=hkv
  have:=of_decide_eq_true h
  subst this
  exact⟨_,hu,rfl⟩
 ·rename_i hu;obtain rfl:vk=_:=hkv;exact⟨_,hu,trivial⟩
 ·rename_i hu;obtain rfl:vk=_:=hkv;exact⟨_,hu,trivial⟩
 ·cases h
theorem zC1 {t:TypeId}{d:TypeDesc}{v:Value}(hu:P.underlying t=some d)(h:IsKey d v):tagg P t=false:=by
 cases d<;>simp_all [IsKey,tagg]
theorem zB3 {d:TypeDesc}{v:Value}(h:IsKey d v)(n:Nat):Instr.sameBits n v v=true:=by
 cases d<;>cases v<;>simp_all [IsKey,Instr.sameBits]
 rename_i s
 have:=zAE s.data.toList s.data.toList
 simpa using this
theorem kA {t:TypeId}{A:Array Value}{off:Nat}{v:Value}{d:TypeDesc}(hd:P.underlying t=some d)(ht:tagg P t=false)(hv:A.toList[off]?=some v):(Go.part t A off).run P w= .ok v w:=by
 have hv':A[off]?=some v:=by simpa using hv
 unfold Go.part
 rw[Sem.run_bind,zBA hd,ht]
 simp[hv']
theorem xA {x:AV}{xs:List AV}{A:Array Value}{off:Nat}(r:relL μ (x::xs) (A.toList.drop off)):∃y,A.toList[off]?=some y/\x.rel μ y/\A.toList.drop off=y::A.toList.drop (off+1)/\relL μ xs (A.toList.drop (off+1)):=by
 obtain⟨y,ys,e1,r1,r2⟩:=r
 have hy:A.toList[off]?=some y:=by
  have:(A.toList.drop off)[0]?=some y:=by rw[e1];rfl
  simpa using this
 have e2:A.toList.drop (off+1)=ys:=by rw[<-List.drop_drop,e1];rfl
 exact⟨y,hy,r1,by rw[e2];exact e1,by rw[e2];exact r2⟩
theorem zEZ {e:Bool}{n:Nat}{A:Array Value}{g:Field->PUnit->Sem (ForInStep PUnit)}
  (hg:∀(f:Field) (y:Value),f.name≠ "_"->(Go.part f.type A f.offset).run P w= .ok y w->(Instr.checkKey e (n+1) f.type y).run P w= .ok () w->(g f PUnit.unit).run P w= .ok (ForInStep.yield PUnit.unit) w):
  ∀{fs:List Field} {off:Nat} {xs:List AV},zCJ P fs off xs=true->relL μ xs (A.toList.drop off)->(forIn fs PUnit.unit g).run P w= .ok PUnit.unit w
 | [],off,[],h,r=>by simp
 | [],off,_::_,h,r=>by simp[zCJ] at h
 |f::fs,off,[],h,r=>by simp[zCJ] at h
 |f::fs,off,x::xs,h,r=>by
  simp only[zCJ,Bool.and_eq_true,beq_iff_eq,bne_iff_ne,ne_eq] at h
  obtain⟨h1,h2,h3,h4⟩:=h
  obtain⟨y,hy,r1,_,r3⟩:=xA r
  obtain⟨d,hd,hk⟩:=kO r1 h3
  have hp:(Go.part f.type A f.offset).run P w= .ok y w:=by rw[h1];exact kA hd (zC1 hd hk) hy
  rw[List.forIn_cons]
  simp only[Sem.run_bind,hg f y h2 hp (run_checkKey hd hk e n),Result.andThen_ok]
  exact zEZ hg h4 r3
theorem zF3 {n:Nat}:∀{fs:List Field} {off:Nat} {xs:List AV} {ys:List Value},zCJ P fs off xs=true->relL μ xs ys->((ys.zip ys).all λ(x,y)=>Instr.sameBits n x y)=true
 | [],off,[],ys,h,r=>by rw[show ys=[] from r];rfl
 | [],off,_::_,ys,h,r=>by simp[zCJ] at h
 |f::fs,off,[],ys,h,r=>by simp[zCJ] at h
 |f::fs,off,x::xs,ys,h,r=>by
  simp only[zCJ,Bool.and_eq_true] at h
  obtain⟨h1,h2,h3,h4⟩:=h
  obtain⟨y,zs,rfl,r1,r2⟩:=r
  obtain⟨d,hd,hk⟩:=kO r1 h3
  simp only[List.zip_cons_cons,List.all_cons,Bool.and_eq_true]
  exact⟨zB3 hk n,zF3 h4 r2⟩
theorem zC4 {xs:List AV}{A:Array Value}{off n:Nat}(r:relL μ xs (A.toList.drop off)):relL μ (xs.take n) (A.extract off (off+n)).toList:=by
 rw[Array.toList_extract,List.extract_eq_take_drop,Nat.add_sub_cancel_left]
 exact r.take n
theorem zCT {t:TypeId}{gs:Array Field}{A:Array Value}{off:Nat}{i:TypeInfo}(hd:P.underlying t=some (.struct gs))(hi:P.info? t=some i):(Go.part t A off).run P w= .ok (.agg (A.extract off (off+tsz P t))) w:=by
 unfold Go.part
 rw[Sem.run_bind,zBA hd]
 simp[tagg,hd,yE hi]
theorem zAX {e:Bool}{n:Nat}{A:Array Value}{g:Field->PUnit->Sem (ForInStep PUnit)}
  (hg:∀(f:Field) (y:Value),f.name≠ "_"->(Go.part f.type A f.offset).run P w= .ok y w->(Instr.checkKey e (n+1+1) f.type y).run P w= .ok () w->(g f PUnit.unit).run P w= .ok (ForInStep.yield PUnit.unit) w):
  ∀{fs:List Field} {off:Nat} {xs:List AV},zAY P fs off xs=true->relL μ xs (A.toList.drop off)->(forIn fs PUnit.unit g).run P w= .ok PUnit.unit w
 | [],off,xs,h,r=>by simp
 |f::fs,off,xs,h,r=>by
  simp only[zAY,Bool.and_eq_true,beq_iff_eq,bne_iff_ne,ne_eq] at h
  obtain⟨h1,h2,h⟩:=h
  rw[List.forIn_cons]
  split at h
  ·rename_i gs hu
   simp only[Bool.and_eq_true] at h
   obtain⟨⟨h3,h4⟩,h5,h6⟩:=h
   obtain⟨i,hi⟩:=Option.isSome_iff_exists.1 h3
   have hp:=zCT (w:=w) (A:=A) (off:=f.offset) hu hi
   have hx:relL μ (xs.take (tsz P f.type)) ((A.extract f.offset (f.offset+tsz P f.type)).toList.drop 0):=by rw[h1,List.drop_zero];exact zC4 r
   have hc:(Instr.checkKey e (n+1+1) f.type (.agg (A.extract f.offset (f.offset+tsz P f.type)))).run P w= .ok () w:=by
    rw[Instr.checkKey]
    simp only[Sem.run_bind,run_underlying hu,Result.andThen_ok]
    rw[<-Array.forIn_toList]
    have key:∀r:Result PUnit,r=Result.ok PUnit.unit w->(r.andThen λ_ w'=>Sem.run P (pure ()) w')=Result.ok () w:=by rintro r rfl;simp
    exact key _ (zEZ (μ:=μ) (e:=e) (n:=n) (A:=A.extract f.offset (f.offset+tsz P f.type)) (λf y hn hp hc=>by simp[hn,hp,hc]) h5 hx)
   simp only[Sem.run_bind,hg f _ h2 hp hc,Result.andThen_ok]
   exact zAX hg h6 (by rw[<-List.drop_drop];exact r.drop _)
  ·split at h
   ·rename_i x xs
    rw[Bool.and_eq_true] at h
    obtain⟨h3,h4⟩:=h
    obtain⟨y,hy,r1,_,r3⟩:=xA r
    obtain⟨d,hd,hk⟩:=kO r1 h3
    have hp:(Go.part f.type A f.offset).run P w= .ok y w:=by rw[h1];exact kA hd (zC1 hd hk) hy
    simp only[Sem.run_bind,hg f y h2 hp (run_checkKey hd hk e (n+1)),Result.andThen_ok]
    exact zAX hg h4 r3
   ·cases h
theorem zBJ {n:Nat}:∀{fs:List Field} {off:Nat} {xs:List AV} {ys:List Value},zAY P fs off xs=true->relL μ xs ys->((ys.zip ys).all λ(x,y)=>Instr.sameBits n x y)=true
 | [],off,xs,ys,h,r=>by
  simp only[zAY,List.isEmpty_iff] at h
  subst h
  rw[show ys=[] from r];rfl
 |f::fs,off,xs,ys,h,r=>by
  simp only[zAY,Bool.and_eq_true] at h
  obtain⟨h1,h2,h⟩:=h
  split at h
  ·rename_i gs hu
   simp only[Bool.and_eq_true] at h
   obtain⟨⟨h3,h4⟩,h5,h6⟩:=h
   have a:=zF3 (n:=n) h5 (r.take (tsz P f.type))
   have b:=zBJ (n:=n) h6 (r.drop (tsz P f.type))
   rw[<-List.take_append_drop (tsz P f.type) ys,List.zip_append rfl,List.all_append,a,b];rfl
  ·split at h
   ·rename_i x xs
    rw[Bool.and_eq_true] at h
    obtain⟨h3,h4⟩:=h
    obtain⟨y,zs,rfl,r1,r2⟩:=r
    obtain⟨d,hd,hk⟩:=kO r1 h3
    simp only[List.zip_cons_cons,List.all_cons,Bool.and_eq_true]
    exact⟨zB3 hk n,zBJ h4 r2⟩
   ·cases h
theorem zM1 {e:TypeId}(h:tsz P e=1):∃i,P.info? e=some i/\P.cellsOf e=1:=by
 have h':P.cellsOf e=1:=h
 unfold Program.cellsOf at h'
 cases hi:P.info? e with
 |none=>rw[hi] at h';simp at h'
 |some i=>exact⟨i,rfl,h⟩
theorem zDU {t:TypeId}{e:Bool}{n:Nat}{A:Array Value}{g:Nat->PUnit->Sem (ForInStep PUnit)}
  (hg:∀(j:Nat) (y:Value),(Go.part t A j).run P w= .ok y w->(Instr.checkKey e (n+1) t y).run P w= .ok () w->(g j PUnit.unit).run P w= .ok (ForInStep.yield PUnit.unit) w):
  ∀{xs:List AV} {off:Nat},zEH P t xs=true->relL μ xs (A.toList.drop off)->(forIn (List.range' off xs.length) PUnit.unit g).run P w= .ok PUnit.unit w
 | [],off,h,r=>by simp
 |x::xs,off,h,r=>by
  simp only[zEH,Bool.and_eq_true] at h
  obtain⟨y,hy,r1,_,r3⟩:=xA r
  obtain⟨d,hd,hk⟩:=kO r1 h.1
  have hp:(Go.part t A off).run P w= .ok y w:=kA hd (zC1 hd hk) hy
  rw[List.length_cons,List.range'_succ,List.forIn_cons]
  simp only[Sem.run_bind,hg off y hp (run_checkKey hd hk e n),Result.andThen_ok]
  exact zDU hg h.2 r3
theorem zE0 {n:Nat}{t:TypeId}:∀{xs:List AV} {ys:List Value},zEH P t xs=true->relL μ xs ys->((ys.zip ys).all λ(x,y)=>Instr.sameBits n x y)=true
 | [],ys,h,r=>by rw[show ys=[] from r];rfl
 |x::xs,ys,h,r=>by
  simp only[zEH,Bool.and_eq_true] at h
  obtain⟨y,zs,rfl,r1,r2⟩:=r
  obtain⟨d,hd,hk⟩:=kO r1 h.1
  simp only[List.zip_cons_cons,List.all_cons,Bool.and_eq_true]
  exact⟨zB3 hk n,zE0 h.2 r2⟩
theorem zB2 {kt:TypeId}{k:AV}{vk:Value}(hkv:k.rel μ vk)(h:zBK P kt k=true):(∀e,(Instr.checkKey e 10000 kt vk).run P w= .ok () w)/\Instr.sameBits 10000 vk vk=true:=by
 have plain:zCK P kt k=true->(∀e,(Instr.checkKey e 10000 kt vk).run P w= .ok () w)/\Instr.sameBits 10000 vk vk=true:=by
  intro h1
  obtain⟨d,hd,hk⟩:=kO hkv h1
  exact⟨λe=>run_checkKey hd hk e 9999,zB3 hk _⟩
 unfold zBK at h
 split at h
 ·rename_i hu;exact plain (by simp only[zCK,hu];exact h)
 ·rename_i hu;exact plain (by simp only[zCK,hu])
 ·rename_i hu;exact plain (by simp only[zCK,hu])
 ·rename_i fs xs hu
  obtain⟨A,rfl,hA⟩:=hkv
  refine⟨λe=> ?_,?_⟩
  ·show(Instr.checkKey e (9998+1+1) kt (.agg A)).run P w= .ok () w
   rw[Instr.checkKey]
   simp only[Sem.run_bind,run_underlying hu,Result.andThen_ok]
   rw[<-Array.forIn_toList]
   have key:∀r:Result PUnit,r=Result.ok PUnit.unit w->(r.andThen λ_ w'=>Sem.run P (pure ()) w')=Result.ok () w:=by rintro r rfl;simp
   exact key _ (zAX (μ:=μ) (e:=e) (n:=9997) (A:=A) (λf y hn hp hc=>by simp[hn,hp,hc]) h (by rw[List.drop_zero];exact hA))
  ·show Instr.sameBits (9999+1) (.agg A) (.agg A)=true
   simp only[Instr.sameBits,beq_self_eq_true,Bool.true_and]
   exact zBJ h hA
 ·rename_i n e xs hu
  obtain⟨A,rfl,hA⟩:=hkv
  simp only[Bool.and_eq_true,beq_iff_eq] at h
  obtain⟨h1,h2,h3⟩:=h
  refine⟨λe0=> ?_,?_⟩
  ·show(Instr.checkKey e0 (9998+1+1) kt (.agg A)).run P w= .ok () w
   rw[Instr.checkKey]
   simp only[Sem.run_bind,run_underlying hu,Result.andThen_ok]
   simp only[Std.Legacy.Range.forIn_eq_forIn_range',Std.Legacy.Range.size,Nat.sub_zero,Nat.add_one_sub_one,Nat.div_one]
   have key:∀r:Result PUnit,r=Result.ok PUnit.unit w->(r.andThen λ_ w'=>Sem.run P (pure ()) w')=Result.ok () w:=by rintro r rfl;simp
   rw[<-h1]
   obtain⟨i,hi,hs⟩:=zM1 h2
   exact key _ (zDU (μ:=μ) (e:=e0) (n:=9998) (A:=A) (off:=0) (λj y hp hc=>by simp[run_sizeOf w hi,hs,hp,hc]) h3 (by rw[List.drop_zero];exact hA))
  ·show Instr.sameBits (9999+1) (.agg A) (.agg A)=true
   simp only[Instr.sameBits,beq_self_eq_true,Bool.true_and]
   exact zE0 h3 hA
 ·cases h
theorem zEI {t:TypeId}{x y:AV}{v u:Value}{b:Bool}(h:zG9 P t x y=some b)(hx:x.rel μ v)(hy:y.rel μ u)(n:Nat):∃d,P.underlying t=some d/\tagg P t=false/\(Op.equalIn (n+1) t v u).run P w= .ok b w/\(b=true->v=u):=by
 unfold zG9 at h
 split at h
 ·rename_i hu
  split at h
  ·rename_i hk
   have:=of_decide_eq_true hk
   subst this
   obtain rfl:v=_:=hx
   obtain rfl:u=_:=hy
   cases h
   refine⟨_,hu,by simp[tagg,hu],?_,λh=>by rw[eq_of_beq h]⟩
   unfold Op.equalIn
   rw[Sem.run_bind,run_underlying hu]
   simp
  ·cases h
 ·rename_i hu
  obtain rfl:v=_:=hx
  obtain rfl:u=_:=hy
  cases h
  refine⟨_,hu,by simp[tagg,hu],?_,λh=>by rw[eq_of_beq h]⟩
  unfold Op.equalIn
  rw[Sem.run_bind,run_underlying hu]
  simp[zAE]
 ·rename_i hu
  obtain rfl:v=_:=hx
  obtain rfl:u=_:=hy
  cases h
  refine⟨_,hu,by simp[tagg,hu],?_,λh=>by rw[eq_of_beq h]⟩
  unfold Op.equalIn
  rw[Sem.run_bind,run_underlying hu]
  simp
 ·cases h
theorem zG7 {n:Nat}{A B:Array Value}:∀{fs:List Field} {off:Nat} {xs ys:List AV} {b:Bool},zDT P fs off xs ys=some b->relL μ xs (A.toList.drop off)->relL μ ys (B.toList.drop off)->
  (Op.eqFields (n+1) A B fs).run P w= .ok b w/\(b=true->A.toList.drop off=B.toList.drop off)
 | [],off,[],[],b,h,r,s=>by
  simp only[zDT,Option.some.injEq] at h
  subst h
  exact⟨by simp[Op.eqFields],λ_=>by rw[show A.toList.drop off=[] from r,show B.toList.drop off=[] from s]⟩
 | [],off,_::_,_,b,h,r,s=>by simp[zDT] at h
 | [],off,[],_::_,b,h,r,s=>by simp[zDT] at h
 |f::fs,off,[],_,b,h,r,s=>by simp[zDT] at h
 |f::fs,off,_::_,[],b,h,r,s=>by simp[zDT] at h
 |f::fs,off,x::xs,y::ys,b,h,r,s=>by
  simp only[zDT] at h
  split at h
  ·rename_i b1 b2 g1 g2 g3
   cases h
   simp only[Bool.and_eq_true,beq_iff_eq,bne_iff_ne,ne_eq] at g1
   obtain⟨v,hv,r1,r2,r3⟩:=xA r
   obtain⟨u,hu,s1,s2,s3⟩:=xA s
   obtain⟨d,hd,ht,he,hb⟩:=zEI (w:=w) g2 r1 s1 n
   obtain⟨hr,hrb⟩:=zG7 g3 r3 s3
   have p1:(Go.part f.type A f.offset).run P w= .ok v w:=by rw[g1.1];exact kA hd ht hv
   have p2:(Go.part f.type B f.offset).run P w= .ok u w:=by rw[g1.1];exact kA hd ht hu
   refine⟨?_,λhbb=> ?_⟩
   ·simp only[Op.eqFields]
    rw[if_pos (by simpa using g1.2)]
    simp only[Sem.run_bind,p1,p2,he,Result.andThen_ok]
    cases b1
    ·simp
    ·simpa using hr
   ·simp only[Bool.and_eq_true] at hbb
    rw[r2,s2,hb hbb.1,hrb hbb.2]
  ·cases h
theorem zCZ {n:Nat}{A B:Array Value}:∀{fs:List Field} {off:Nat} {xs ys:List AV} {b:Bool},zAZ P fs off xs ys=some b->relL μ xs (A.toList.drop off)->relL μ ys (B.toList.drop off)->
  (Op.eqFields (n+1+1) A B fs).run P w= .ok b w/\(b=true->A.toList.drop off=B.toList.drop off)
 | [],off,[],[],b,h,r,s=>by
  simp only[zAZ,Option.some.injEq] at h
  subst h
  exact⟨by simp[Op.eqFields],λ_=>by rw[show A.toList.drop off=[] from r,show B.toList.drop off=[] from s]⟩
 | [],off,_::_,_,b,h,r,s=>by simp[zAZ] at h
 | [],off,[],_::_,b,h,r,s=>by simp[zAZ] at h
 |f::fs,off,xs,ys,b,h,r,s=>by
  simp only[zAZ] at h
  split at h
  ·cases h
  rename_i g1
  simp only[Bool.and_eq_true,beq_iff_eq,bne_iff_ne,ne_eq] at g1
  split at h
  ·rename_i gs hu
   split at h
   ·cases h
   rename_i g2
   simp only[Bool.or_eq_false_iff,Bool.not_eq_false',Bool.and_eq_true] at g2
   obtain⟨g2,g3,g4,g5⟩:=g2
   split at h
   ·rename_i b1 b2 k1 k2
    cases h
    obtain⟨i,hi⟩:∃i,P.info? f.type=some i:=by
     cases hh:P.info? f.type with
     |none=>rw[hh] at g3;simp at g3
     |some i=>exact⟨i,rfl⟩
    have p1:=zCT (w:=w) (A:=A) (off:=f.offset) hu hi
    have p2:=zCT (w:=w) (A:=B) (off:=f.offset) hu hi
    have x1:relL μ (xs.take (tsz P f.type)) ((A.extract f.offset (f.offset+tsz P f.type)).toList.drop 0):=by rw[g1.1,List.drop_zero];exact zC4 r
    have x2:relL μ (ys.take (tsz P f.type)) ((B.extract f.offset (f.offset+tsz P f.type)).toList.drop 0):=by rw[g1.1,List.drop_zero];exact zC4 s
    have hf:P.fieldsOf f.type=gs:=by simp[Program.fieldsOf,hu]
    obtain⟨e1,e2⟩:=zG7 (w:=w) (n:=n) k1 x1 x2
    obtain⟨e3,e4⟩:=zCZ (A:=A) (B:=B) k2 (by rw[<-List.drop_drop];exact r.drop _) (by rw[<-List.drop_drop];exact s.drop _)
    have he:(Op.equalIn (n+1+1) f.type (.agg (A.extract f.offset (f.offset+tsz P f.type))) (.agg (B.extract f.offset (f.offset+tsz P f.type)))).run P w= .ok b1 w:=by
     rw[run_equalIn_struct w (n+1) f.type _ _ (by rw[hf];exact hu) g2,hf]
     exact e1
    refine⟨?_,λhbb=> ?_⟩
    ·simp only[Op.eqFields]
     rw[if_pos (by simpa using g1.2)]
     simp only[Sem.run_bind,p1,p2,he,Result.andThen_ok]
     cases b1
     ·simp
     ·simpa using e3
    ·simp only[Bool.and_eq_true] at hbb
     have t1:=e2 hbb.1
     have t2:=e4 hbb.2
     rw[List.drop_zero,List.drop_zero,Array.toList_extract,Array.toList_extract,List.extract_eq_take_drop,List.extract_eq_take_drop,Nat.add_sub_cancel_left,g1.1] at t1
     rw[<-List.take_append_drop (tsz P f.type) (A.toList.drop off),<-List.take_append_drop (tsz P f.type) (B.toList.drop off),t1,List.drop_drop,List.drop_drop,t2]
   ·cases h
  ·split at h
   ·rename_i x xs y ys
    split at h
    ·rename_i b1 b2 g2 g3
     cases h
     obtain⟨v,hv,r1,r2,r3⟩:=xA r
     obtain⟨u,hu,s1,s2,s3⟩:=xA s
     obtain⟨d,hd,ht,he,hb⟩:=zEI (w:=w) g2 r1 s1 (n+1)
     obtain⟨hr,hrb⟩:=zCZ g3 r3 s3
     have p1:(Go.part f.type A f.offset).run P w= .ok v w:=by rw[g1.1];exact kA hd ht hv
     have p2:(Go.part f.type B f.offset).run P w= .ok u w:=by rw[g1.1];exact kA hd ht hu
     refine⟨?_,λhbb=> ?_⟩
     ·simp only[Op.eqFields]
      rw[if_pos (by simpa using g1.2)]
      simp only[Sem.run_bind,p1,p2,he,Result.andThen_ok]
      cases b1
      ·simp
      ·simpa using hr
     ·simp only[Bool.and_eq_true] at hbb
      rw[r2,s2,hb hbb.1,hrb hbb.2]
    ·cases h
   ·cases h
theorem zTY {kt:TypeId}{fs:Array Field}{xs ys:List AV}{A B:Array Value}{b:Bool}(hu:P.underlying kt=some (.struct fs))(h:keyS P kt fs xs ys=some b)(r:relL μ xs A.toList)(s:relL μ ys B.toList):
  (Op.equal kt (.agg A) (.agg B)).run P w= .ok b w/\(b=true->A=B):=by
 unfold keyS at h
 split at h
 ·cases h
 ·rename_i hs
  have hf:P.fieldsOf kt=fs:=by simp[Program.fieldsOf,hu]
  obtain⟨h1,h2⟩:=zCZ (w:=w) (n:=9997) (A:=A) (B:=B) h (by simpa using r) (by simpa using s)
  refine⟨?_,λhb=> ?_⟩
  ·show(Op.equalIn (9999+1) kt (.agg A) (.agg B)).run P w= .ok b w
   rw[run_equalIn_struct w 9999 kt A B (by rw[hf];exact hu) hs,hf]
   exact h1
  ·have:=h2 hb
   simp only[List.drop_zero] at this
   exact Array.toList_inj.1 this
theorem zJ9 {n:Nat}{t:TypeId}(ht:tsz P t=1){A B:Array Value}:∀{xs ys:List AV} {off:Nat} {b:Bool},zLX P t xs ys=some b->relL μ xs (A.toList.drop off)->relL μ ys (B.toList.drop off)->
  (Op.eqItems (n+1) t (P.cellsOf t) A B (List.range' off xs.length)).run P w= .ok b w/\(b=true->A.toList.drop off=B.toList.drop off)
 | [],[],off,b,h,r,s=>by
  simp only[zLX,Option.some.injEq] at h
  subst h
  exact⟨by simp[Op.eqItems],λ_=>by rw[show A.toList.drop off=[] from r,show B.toList.drop off=[] from s]⟩
 | [],_::_,off,b,h,r,s=>by simp[zLX] at h
 |_::_,[],off,b,h,r,s=>by simp[zLX] at h
 |x::xs,y::ys,off,b,h,r,s=>by
  simp only[zLX] at h
  split at h
  ·rename_i b1 b2 g2 g3
   cases h
   obtain⟨v,hv,r1,r2,r3⟩:=xA r
   obtain⟨u,hu,s1,s2,s3⟩:=xA s
   obtain⟨d,hd,hta,he,hb⟩:=zEI (w:=w) g2 r1 s1 n
   obtain⟨hr,hrb⟩:=zJ9 ht g3 r3 s3
   have hc:P.cellsOf t=1:=ht
   have p1:(Go.part t A off).run P w= .ok v w:=kA hd hta hv
   have p2:(Go.part t B off).run P w= .ok u w:=kA hd hta hu
   refine⟨?_,λhbb=> ?_⟩
   ·rw[List.length_cons,List.range'_succ]
    simp only[Op.eqItems,hc,Nat.mul_one,Sem.run_bind,p1,p2,he,Result.andThen_ok]
    rw[hc] at hr
    cases b1
    ·simp
    ·simpa using hr
   ·simp only[Bool.and_eq_true] at hbb
    rw[r2,s2,hb hbb.1,hrb hbb.2]
  ·cases h
theorem zTZ {kt t:TypeId}{n:Nat}{xs ys:List AV}{A B:Array Value}{b:Bool}(hu:P.underlying kt=some (.array n t))(h:keyA P n t xs ys=some b)(r:relL μ xs A.toList)(s:relL μ ys B.toList):
  (Op.equal kt (.agg A) (.agg B)).run P w= .ok b w/\(b=true->A=B):=by
 unfold keyA at h
 split at h
 ·rename_i hs
  simp only[Bool.and_eq_true,beq_iff_eq] at hs
  obtain⟨i,hi,hc⟩:=zM1 hs.2.2
  obtain⟨h1,h2⟩:=zJ9 (w:=w) (n:=9998) (A:=A) (B:=B) (off:=0) hs.2.2 h (by simpa using r) (by simpa using s)
  refine⟨?_,λhb=> ?_⟩
  ·show(Op.equalIn (9999+1) kt (.agg A) (.agg B)).run P w= .ok b w
   rw[run_equalIn_array w 9999 A B hu hi,List.range_eq_range',<-hs.1]
   exact h1
  ·have:=h2 hb
   simp only[List.drop_zero] at this
   exact Array.toList_inj.1 this
 ·cases h
theorem zRG {kt:TypeId}(hu:(match P.underlying kt with |some (.array _ _)|some (.struct _)=>true|_=>false)=true){a b:AV}{va vb:Value}(ha:a.rel μ va)(hb:b.rel μ vb){KB:Bool->Prop}(hk:vW P kt a b KB):
  ∃r,(Op.equal kt va vb).run P w= .ok r w/\KB r/\(r=true->va=vb):=by
 unfold vW at hk
 split at hk
 ·rename_i heq;rw[heq] at hu;cases hu
 ·rename_i heq;rw[heq] at hu;cases hu
 ·rename_i heq;rw[heq] at hu;cases hu
 ·rename_i heq
  split at hk
  ·rename_i b hb'
   obtain⟨A,rfl,hA⟩:=ha
   obtain⟨B,rfl,hB⟩:=hb
   obtain⟨g1,g3⟩:=zTY (w:=w) heq hb' hA hB
   exact⟨b,g1,hk,λh=>by rw[g3 h]⟩
  ·exact hk.elim
 ·rename_i heq
  split at hk
  ·rename_i b hb'
   obtain⟨A,rfl,hA⟩:=ha
   obtain⟨B,rfl,hB⟩:=hb
   obtain⟨g1,g3⟩:=zTZ (w:=w) heq hb' hA hB
   exact⟨b,g1,hk,λh=>by rw[g3 h]⟩
  ·exact hk.elim
 ·exact hk.elim
theorem zKM {kt:TypeId}(hu:(match P.underlying kt with |some (.array _ _)|some (.struct _)=>true|_=>false)=true){k:AV}{vk:Value}(hkv:k.rel μ vk):∀{es:List (AV×AV×Nat)} {ES:List MapEntry} {i:Nat} {KR:Option (Nat×AV×Nat)->Prop},
  relM μ es ES->jP P kt k es i KR->
  ((Instr.findAsking kt vk ES i).run P w= .ok none w/\KR none)∨∃(j:Nat) (k' v:AV) (n:Nat) (E:MapEntry),(Instr.findAsking kt vk ES i).run P w= .ok (some (i+j,E.val)) w/\KR (some (i+j,v,n))/\es[j]?=some (k',v,n)/\ES[j]?=some E/\v.rel μ E.val/\E.key=vk/\E.born=n
 | [],ES,i,KR,r,hk=>by
  obtain rfl:ES=[]:=r
  exact .inl ⟨by simp[Instr.findAsking],hk⟩
 |(k',v,n)::es,_,i,KR,⟨E,Es,h1,h2,h3,h4,h5⟩,hk=>by
  subst h1
  simp only[jP] at hk
  obtain⟨r,g1,g2,g3⟩:=zRG (w:=w) hu hkv h2 hk
  rcases vJ g2 with⟨rfl,g2⟩|⟨rfl,g2⟩
  ·right
   exact⟨0,_,v,n,E,by simp[Instr.findAsking,g1],g2,rfl,rfl,h3,(g3 rfl).symm,h4⟩
  ·rcases zKM hu hkv h5 g2 with⟨f1,f2⟩|⟨j,k2,v2,n2,E2,f1,f2,f3,f4,f5,f6,f7⟩
   ·left
    exact⟨by simp only[Instr.findAsking,Sem.run_bind,g1,Result.andThen_ok];simpa using f1,f2⟩
   ·right
    refine⟨j+1,k2,v2,n2,E2,?_,?_,by simpa using f3,by simpa using f4,f5,f6,f7⟩
    ·simp only[Instr.findAsking,Sem.run_bind,g1,Result.andThen_ok]
     rw[show i+(j+1)=i+1+j by omega]
     simpa using f1
    ·rw[show i+(j+1)=i+1+j by omega];exact f2
theorem zOO {kt:TypeId}{k:AV}(h:zBK P kt k=true):∃d,P.underlying kt=some d:=by
 unfold zBK at h
 cases hu:P.underlying kt with
 |none=>rw[hu] at h;simp at h
 |some d=>exact⟨d,rfl⟩
theorem zF9 {kt:TypeId}{k:AV}{vk:Value}(hkv:k.rel μ vk)(hok:zBK P kt k=true){es:List (AV×AV×Nat)}{ES:List MapEntry}{KR:Option (Nat×AV×Nat)->Prop}(r:relM μ es ES)(hk:jP P kt k es 0 KR):
  ((Instr.findKey kt vk ES).run P w= .ok none w/\KR none)∨∃(j:Nat) (k' v:AV) (n:Nat) (E:MapEntry),(Instr.findKey kt vk ES).run P w= .ok (some (j,E.val)) w/\KR (some (j,v,n))/\es[j]?=some (k',v,n)/\ES[j]?=some E/\v.rel μ E.val/\E.key=vk/\E.born=n:=by
 obtain⟨d,hd⟩:=zOO hok
 by_cases hs:(match P.underlying kt with |some (.array _ _)|some (.struct _)=>true|_=>false)=true
 ·rw[run_findKey_eq w hs]
  have:=zKM (w:=w) hs hkv r hk
  simpa only[Nat.zero_add] using this
 ·have hns:∀fs,d≠ .struct fs:=λfs h=>hs (by rw[hd,h])
  have hna:∀n e,d≠ .array n e:=λn e h=>hs (by rw[hd,h])
  rcases zKL hd hns hna hkv r hk with⟨g1,g2⟩|⟨j,k',v,n,E,g1,g2,g3⟩
  ·exact .inl ⟨MapKept.run_findKey hd g1,g2⟩
  ·rw[Nat.zero_add] at g1 g2
   exact .inr ⟨j,k',v,n,E,MapKept.run_findKey hd g1,g2,g3⟩
theorem zBH (R:Rel μ0 h0 w0 μ lam L h w){b cl:Nat}{es:List (AV×AV×Nat)}(hb:h[b]?=some (.mp es cl)){v:Value}(hv:AV.rel μ (.map (some b)) v):
  ∃(e:ME) (ES:Array MapEntry),μ[b]?=some e/\v= .map (some e.r)/\w.heap[e.r]?=some (.map ES cl)/\relM μ es ES.toList:=by
 obtain⟨e,he,hv⟩:=hv
 obtain⟨ES,h1,h2⟩:=R.heap.blk b _ e hb he
 exact⟨e,ES,he,hv,h1,h2⟩
theorem zOJ (R:Rel μ0 h0 w0 μ lam L h w){t kt et:TypeId}(ht:P.underlying t=some (.map kt et)){m:Option Nat}{vm:Value}(hm:AV.rel μ (.map m) vm){k:AV}{vk:Value}(hkv:k.rel μ vk){ok:Bool}
  (hk:xO P kt et m k ok h λv=>K (.val v) L h):Out P μ0 h0 w0 μ lam w (Instr.lookup t vm vk ok) K:=by
 unfold xO at hk
 split at hk
 ·rename_i es z hes hz
  obtain⟨h1,hk⟩:=zG hk
  obtain⟨hchk,hbits⟩:=zB2 (w:=w) hkv h1
  obtain⟨i,zv,hi,hiz,hzz⟩:=zA8 hz
  have hzr:z.rel μ zv:=zED μ 4 zv z hzz
  have hzero:(zeroValue et).run P w= .ok zv w:=by simp[zeroValue,typeInfo,hi,hiz]
  obtain⟨ES,hrel,hget⟩:∃ES:Array MapEntry,relM μ es ES.toList/\∀(r':Option (Nat×Value)) (v:Value),(Instr.findKey kt vk ES.toList).run P w= .ok r' w->
    (v=match r' with |some (_,v)=>(if ok then .tuple #[v,.bool true] else v)|none=>(if ok then .tuple #[zv,.bool false] else zv))->(Instr.lookup t vm vk ok).run P w= .ok v w:=by
   cases m with
   |none=>
    obtain rfl:vm=_:=hm
    simp only[zE7,Option.some.injEq] at hes
    subst hes
    refine⟨#[],rfl,λr' v hf hv=> ?_⟩
    unfold Instr.lookup
    simp only[Sem.run_bind,run_underlying ht,Result.andThen_ok,Sem.run_pure,hchk,hf]
    cases r' with
    |none=>simp[hzero,hv]
    |some p=>simp[hv]
   |some b=>
    simp only[zE7] at hes
    split at hes
    ·rename_i es' cl hb
     cases hes
     obtain⟨e,ES,he,rfl,h2,h3⟩:=zBH R hb hm
     refine⟨ES,h3,λr' v hf hv=> ?_⟩
     unfold Instr.lookup
     simp only[Sem.run_bind,run_underlying ht,Result.andThen_ok,Sem.run_pure,MapKept.run_getObj_map h2,hchk,hf]
     cases r' with
     |none=>simp[hzero,hv]
     |some p=>simp[hv]
    ·cases hes
  rcases zF9 (w:=w) hkv h1 hrel hk with⟨g1,g2⟩|⟨j,k',v,n,E,g1,g2,g3,g4,g5,g6,g7⟩
  ·refine Out.same R (hget _ _ g1 rfl) g2 ?_
   cases ok
   ·exact hzr
   ·exact⟨_,rfl,⟨zv,[.bool false],rfl,hzr,_,_,rfl,rfl,rfl⟩⟩
  ·refine Out.same R (hget _ _ g1 rfl) g2 ?_
   cases ok
   ·exact g5
   ·exact⟨_,rfl,⟨E.val,[.bool true],rfl,g5,_,_,rfl,rfl,rfl⟩⟩
 ·exact hk.elim
theorem zAQ {r:Nat}{ES:Array MapEntry}{cl:Nat}(hb:w.heap[r]?=some (.map ES cl))(o:Obj):(setObj r o).run P w= .ok () (w.setBlk r o):=run_setObj_map o hb
theorem zG5 (R:Rel μ0 h0 w0 μ lam L h w){t kt et:TypeId}(ht:P.underlying t=some (.map kt et)){b:Nat}{vm:Value}(hm:AV.rel μ (.map (some b)) vm){k v:AV}{vk vv:Value}(hkv:k.rel μ vk)(hvv:v.rel μ vv)
  {KH:Heap->Prop}(hk:vX P kt b k v h KH):∃w' h',(Instr.mapUpdate t vm vk vv).run P w= .ok () w'/\KH h'/\Rel μ0 h0 w0 μ lam L h' w':=by
 unfold vX at hk
 split at hk
 ·rename_i es cl hb
  obtain⟨h1,hk⟩:=zG hk
  simp only[Bool.and_eq_true] at h1
  obtain⟨hchk,hbits⟩:=zB2 (w:=w) hkv h1.1
  obtain⟨e,ES,he,rfl,h2,h3⟩:=zBH R hb hm
  have hlt:=kW h2
  rcases zF9 (w:=w) hkv h1.1 h3 hk with⟨g1,g2⟩|⟨j,k',v',n,E,g1,g2,g3,g4,g5,g6,g7⟩
  ·refine⟨w.setBlk e.r (.map (ES.push ⟨vk,vv,cl⟩) (cl+1)),_,?_,g2,R.setB hb rfl he rfl h2 ?_⟩
   ·unfold Instr.mapUpdate
    simp only[Sem.run_bind,run_underlying ht,Result.andThen_ok,MapKept.run_getObj_map h2,hchk,g1,zAQ h2]
   ·refine⟨_,xD _ _ _ hlt,relM.of_get (by simp[h3.length]) λi x E' hx hE=> ?_⟩
    have hl:=h3.length
    simp at hl
    simp only[Array.toList_push] at hE
    rw[List.getElem?_append] at hx hE
    split at hx
    ·rename_i hi
     rw[if_pos (by simp[hl,hi])] at hE
     obtain⟨E2,q1,q2⟩:=h3.get hx
     rw[q1] at hE;cases hE;exact q2
    ·rename_i hi
     rw[if_neg (by simp[hl];omega)] at hE
     have:i-es.length=0:=by have:=zD hx;simp at this;omega
     rw[this] at hx
     rw[show i-ES.toList.length=0 by simp[hl];omega] at hE
     simp at hx hE
     subst hx;subst hE
     exact⟨hkv,hvv,rfl⟩
  ·refine⟨w.setBlk e.r (.map (ES.modify j λe=>{e with key:=vk,val:=vv}) cl),_,?_,g2,R.setB hb rfl he rfl h2 ?_⟩
   ·unfold Instr.mapUpdate
    have hstay:(Instr.keyThatStays (((ES[j]?).map (·.key)).getD vk) vk).run P w= .ok vk w:=by
     have:(((ES[j]?).map (·.key)).getD vk)=vk:=by
      have:ES[j]?=some E:=by simpa using g4
      rw[this];simpa using g6
     rw[this]
     unfold Instr.keyThatStays
     rw[hbits]
     rfl
    simp only[Sem.run_bind,run_underlying ht,Result.andThen_ok,MapKept.run_getObj_map h2,hchk,g1]
    rw[hstay]
    simp only[Result.andThen_ok]
    rw[zAQ h2]
   ·refine⟨_,xD _ _ _ hlt,relM.of_get (by simp[h3.length];try (have:=h3.length;simpa using this)) λi x E' hx hE=> ?_⟩
    have hE':(ES.modify j λe=>{e with key:=vk,val:=vv})[i]?=some E':=by rw[<-Array.getElem?_toList];exact hE
    rw[Array.getElem?_modify] at hE'
    rw[List.getElem?_set] at hx
    by_cases hij:j=i
    ·subst hij
     rw[if_pos rfl] at hx hE'
     rw[if_pos (zD g3)] at hx
     have:ES[j]?=some E:=by simpa using g4
     rw[this] at hE'
     simp at hE' hx
     subst hE';subst hx
     exact⟨hkv,hvv,g7⟩
    ·rw[if_neg hij] at hx hE'
     obtain⟨E2,q1,q2⟩:=h3.get hx
     have:ES[i]?=some E2:=by simpa using q1
     rw[this] at hE';simp at hE';subst hE';exact q2
 ·exact hk.elim
theorem zOK (R:Rel μ0 h0 w0 μ lam L h w){t u kt et ty:TypeId}(ht:P.underlying t=some (.map kt et)){m:Option Nat}{vm:Value}(hm:AV.rel μ (.map m) vm){k:AV}{vk:Value}(hkv:k.rel μ vk)
  {KH:Heap->Prop}(hk:vY P kt m k h KH):∃w' h',(Builtin.delete_ #[t,u] ty #[vm,vk]).run P w= .ok (.tuple #[]) w'/\KH h'/\Rel μ0 h0 w0 μ lam L h' w':=by
 unfold vY at hk
 split at hk
 ·obtain rfl:vm=_:=hm
  obtain⟨h1,hk⟩:=zG hk
  obtain⟨hchk,hbits⟩:=zB2 (w:=w) hkv h1
  refine⟨w,h,?_,hk,R⟩
  unfold Builtin.delete_
  simp[run_underlying ht,hchk]
 ·rename_i b
  split at hk
  ·rename_i es cl hb
   obtain⟨h1,hk⟩:=zG hk
   obtain⟨hchk,hbits⟩:=zB2 (w:=w) hkv h1
   obtain⟨e,ES,he,rfl,h2,h3⟩:=zBH R hb hm
   have hlt:=kW h2
   rcases zF9 (w:=w) hkv h1 h3 hk with⟨g1,g2⟩|⟨j,k',v',n,E,g1,g2,g3,g4,g5,g6,g7⟩
   ·refine⟨w.setBlk e.r (.map ES cl),_,?_,g2,R.setB hb rfl he rfl h2 ⟨_,xD _ _ _ hlt,h3⟩⟩
    unfold Builtin.delete_
    simp[run_underlying ht,hchk,MapKept.run_getObj_map h2,g1,zAQ h2]
   ·refine⟨w.setBlk e.r (.map (ES.eraseIdxIfInBounds j) cl),_,?_,g2,R.setB hb rfl he rfl h2 ⟨_,xD _ _ _ hlt,?_⟩⟩
    ·unfold Builtin.delete_
     simp[run_underlying ht,hchk,MapKept.run_getObj_map h2,g1,zAQ h2]
    ·have hj:j<ES.size:=by have:=zD g4;simpa using this
     have e1:(ES.eraseIdxIfInBounds j).toList=ES.toList.eraseIdx j:=by
      unfold Array.eraseIdxIfInBounds
      rw[dif_pos hj]
      exact Array.toList_eraseIdx ..
     rw[e1]
     have hl:=h3.length
     refine relM.of_get (by rw[List.length_eraseIdx,List.length_eraseIdx,hl]) λi x E' hx hE=> ?_
     rw[List.getElem?_eraseIdx] at hx hE
     split at hx
     ·rename_i hi
      rw[if_pos hi] at hE
      obtain⟨E2,q1,q2⟩:=h3.get hx
      rw[q1] at hE;cases hE;exact q2
     ·rename_i hi
      rw[if_neg hi] at hE
      obtain⟨E2,q1,q2⟩:=h3.get hx
      rw[q1] at hE;cases hE;exact q2
  ·exact hk.elim
theorem zLO (R:Rel μ0 h0 w0 μ lam L h w){t:TypeId}(hk:K (.val (.map (some h.length))) L (h++[.mp [] 0])):Out P μ0 h0 w0 μ lam w (Instr.makeMap t none) K:=by
 have hlen:=R.heap.len
 refine⟨.map (some w.heap.size),w.alloc (.map #[] 0),_,_,_,_,lam,?_,hk,R.allocB (.mp [] 0) (.map #[] 0) 0 ⟨#[],xN _ _,rfl⟩,Ren.le_append _ _,xS.refl _,?_⟩
 ·rfl
 ·exact⟨⟨w.heap.size,0,0⟩,by rw[<-hlen];simp,rfl⟩
theorem zQT (R:Rel μ0 h0 w0 μ lam L h w){t kt et:TypeId}(ht:P.underlying t=some (.map kt et)){m:Option Nat}{vm:Value}(hm:AV.rel μ (.map m) vm)
  (hk:zPV m h λb h'=>K (.val (.ptr (some ⟨b,0⟩))) L h'):Out P μ0 h0 w0 μ lam w (Instr.range t vm) K:=by
 have hlen:=R.heap.len
 cases m with
 |none=>
  obtain rfl:vm=_:=hm
  refine⟨.pointer (some ⟨w.heap.size,0,none⟩),w.alloc (.mapIter none 0 #[] 0),_,_,_,_,lam,?_,hk,R.allocB (.it none 0 [] 0) (.mapIter none 0 #[] 0) 0 ⟨rfl,none,xN _ _,rfl⟩,Ren.le_append _ _,xS.refl _,?_⟩
  ·simp[Instr.range,run_underlying ht]
  ·exact⟨⟨w.heap.size,0,0⟩,by rw[<-hlen];simp,rfl⟩
 |some b=>
  simp only[zPV] at hk
  split at hk
  ·rename_i es cl hb
   obtain⟨e,ES,he,rfl,h2,h3⟩:=zBH R hb hm
   refine⟨.pointer (some ⟨w.heap.size,0,none⟩),w.alloc (.mapIter (some e.r) cl #[] cl),_,_,_,_,lam,?_,hk,
    R.allocB (.it (some b) cl [] cl) (.mapIter (some e.r) cl #[] cl) 0 ⟨rfl,some e.r,xN _ _,e,Ren.le_append _ _ _ _ he,rfl⟩,Ren.le_append _ _,xS.refl _,?_⟩
   ·simp[Instr.range,run_underlying ht,MapKept.run_getObj_map h2]
   ·exact⟨⟨w.heap.size,0,0⟩,by rw[<-hlen];simp,rfl⟩
  ·exact hk.elim
theorem zIM (R:Rel μ0 h0 w0 μ lam L h w){b since last:Nat}{m:Option Nat}{seen:List Nat}(hb:h[b]?=some (.it m since seen last)){v:Value}(hv:AV.rel μ (.ptr (some ⟨b,0⟩)) v):
  ∃(e:ME) (mm:Option Nat),μ[b]?=some e/\v= .pointer (some ⟨e.r,0,none⟩)/\w.heap[e.r]?=some (.mapIter mm since seen.toArray last)/\relO μ m mm/\e.s=0:=by
 obtain⟨e,he,hv⟩:=hv
 obtain⟨h0,mm,h1,h2⟩:=R.heap.blk b _ e hb he
 exact⟨e,mm,he,by rw[hv];simp[h0],h1,h2,h0⟩
theorem relM.filter {μ:Ren}(p:Nat->Bool):∀{es:List (AV×AV×Nat)} {l:List MapEntry},relM μ es l->relM μ (es.filter λe=>p e.2.2) (l.filter λE=>p E.born)
 | [],_,r=>by rw[show _=[] from r];rfl
 |(k,v,n)::es,_,⟨E,Es,h1,h2,h3,h4,h5⟩=>by
  subst h1
  subst h4
  cases hp:p E.born with
  |true=>simp only[List.filter,hp];exact⟨E,_,rfl,h2,h3,rfl,h5.filter p⟩
  |false=>simp only[List.filter,hp];exact h5.filter p
theorem zNU {KE:AV×AV×Nat->Prop}:∀{l:List (AV×AV×Nat)},allE l KE->∀x∈l,KE x
 | [],_,x,hx=>by simp at hx
 | [e],h,x,hx=>by simp at hx;subst hx;exact h
 |e::e'::es,⟨h1,h2⟩,x,hx=>by
  rcases List.mem_cons.1 hx with rfl|hx
  ·exact h1
  ·exact zNU h2 x hx
theorem zAR {r:Nat}{a:Option Nat}{b d:Nat}{c:Array Nat}(h:w.heap[r]?=some (.mapIter a b c d)):(getObj r).run P w= .ok (.mapIter a b c d) w:=by simp[getObj,Sem.run,h]
theorem zH6 {r:Nat}{a:Option Nat}{b d:Nat}{c:Array Nat}(o':Obj)(h:w.heap[r]?=some (.mapIter a b c d)):(setObj r o').run P w= .ok () (w.setBlk r o'):=by
 simp[setObj,Sem.run,h,World.setBlk]
theorem zTN (R:Rel μ0 h0 w0 μ lam L h w){b:Nat}{ty:TypeId}{v:Value}(hv:AV.rel μ (.ptr (some ⟨b,0⟩)) v)(hk:PNext b h λx h'=>K (.val x) L h'):Out P μ0 h0 w0 μ lam w (Instr.next v false ty) K:=by
 unfold PNext at hk
 split at hk
 ·rename_i s1 s2 s3 hb
  obtain⟨e,mm,he,rfl,h1,h2,h3⟩:=zIM R hb hv
  obtain rfl:mm=none:=h2
  refine Out.same R (v:=.tuple #[.bool false]) ?_ hk ⟨_,rfl,_,_,rfl,rfl,rfl⟩
  simp only[Instr.next,Sem.run_bind,zAR h1,Result.andThen_ok]
  rfl
 ·rename_i m since seen last hb
  obtain⟨e,mm,he,rfl,h1,h2,h3⟩:=zIM R hb hv
  obtain⟨em,hem,rfl⟩:=h2
  split at hk
  ·rename_i es cl hm
   obtain⟨hall,hk⟩:=zG hk
   simp only[List.all_eq_true,Bool.and_eq_true,decide_eq_true_eq] at hall
   obtain⟨ES,g1,g2⟩:=R.heap.blk m _ em hm hem
   have hES:∀E∈ES.toList,E.born<since/\E.born<last:=by
    intro E hE
    obtain⟨i,hi⟩:=List.getElem?_of_mem hE
    have hl:=g2.length
    have hlt:=zD hi
    obtain⟨E',q1,q2,q3,q4⟩:=g2.get (i:=i) (x:=es[i]'(by omega)) (by simp)
    rw[hi] at q1;cases q1
    rw[q4]
    exact hall _ (List.getElem_mem _)
   have hif:(!seen.toArray.isEmpty&& !ES.isEmpty&&ES.all (λx=>decide (x.born≥last)))=false:=by
    cases hemp:ES.isEmpty with
    |true=>simp
    |false=>
     have:0<ES.size:=by
      rcases Nat.eq_zero_or_pos ES.size with h0|h0
      ·simp[Array.isEmpty,h0] at hemp
      ·exact h0
     have hx:=hES ES[0] (by simp)
     have:ES.all (λx=>decide (x.born≥last))=false:=by
      rw[Bool.eq_false_iff]
      intro hh
      have:=(Array.all_eq_true.1 hh) 0 this
      simp at this
      omega
     simp[this]
   have hfl:(ES.filter λe=> !seen.toArray.contains e.born).toList=ES.toList.filter λE=> !seen.contains E.born:=by
    rw[Array.toList_filter]
    congr 1
    funext E
    simp[Array.contains_eq_mem,List.contains_eq_mem]
   have hleft:=g2.filter λn=> !seen.contains n
   rw[<-hfl] at hleft
   generalize hLdef:(ES.filter λe=> !seen.toArray.contains e.born)=Lft at hleft
   have hmemL:∀x∈Lft.toList,x.born<since:=by
    intro x hx
    rw[<-hLdef] at hx
    rw[Array.toList_filter] at hx
    exact(hES x (List.mem_filter.1 hx).1).1
   have e1:Lft.filter (λx=>decide (x.born<since))=Lft:=Array.filter_eq_self.2 (λx hx=>by simpa using hmemL x (by simpa using hx))
   have e2:Lft.filter (λx=>decide (x.born≥since))= #[]:=by
    rw[Array.filter_eq_empty_iff]
    intro x hx
    have:=hmemL x (by simpa using hx)
    simp
    omega
   obtain⟨msg,hrun0⟩:∃msg:String,∀(X:Result Value),((do
     let candidates:=(if Lft.isEmpty then #[none] else #[])++Lft.map some
     match candidates[<-choose (.mapNext candidates.size)]? with
     |some (some e')=>do
      setObj e.r (.mapIter (some em.r) since (seen.toArray.push e'.born) cl)
      pure (.tuple #[.bool true,e'.key,e'.val])
     |some none=>pure (.tuple #[.bool false])
     |none=>stuck msg:Sem Value).run P w=X)->(Instr.next (.pointer (some ⟨e.r,0,none⟩)) false ty).run P w=X:=by
    apply Exists.intro
    intro X hX
    rw[<-hX]
    simp only[Instr.next,Sem.run_bind,zAR h1,MapKept.run_getObj_map g1,Result.andThen_ok,hif,Bool.false_eq_true,if_false,hLdef,e1,e2,Array.append_empty]
    rfl
   have hlenL:=hleft.length
   split at hk
   ·rename_i hnil
    have:zLV es seen=[]:=hnil
    unfold zLV at this
    rw[this] at hlenL
    have h0:Lft= #[]:=Array.eq_empty_of_size_eq_zero (by simpa using hlenL)
    refine Out.same R (v:=.tuple #[.bool false]) (hrun0 _ ?_) hk ⟨_,rfl,_,_,rfl,rfl,rfl⟩
    rw[h0]
    simp[choose,Sem.run,Question.forced]
   ·rename_i hne
    have hpos:0<Lft.size:=by
     rcases Nat.eq_zero_or_pos Lft.size with h0|h0
     ·exfalso
      apply hne
      unfold zLV
      apply List.eq_nil_of_length_eq_zero
      rw[<-hlenL]
      simpa using h0
     ·exact h0
    have hnE:Lft.isEmpty=false:=by unfold Array.isEmpty;exact decide_eq_false (by omega)
    have hch:∃(j:Nat) (w1:World),j<Lft.size/\(w1=w∨w1=w.drew)/\(choose (Question.mapNext Lft.size)).run P w= .ok j w1:=by
     by_cases hf:Lft.size<=1
     ·exact⟨0,w,by omega,.inl rfl,by simp[choose,Sem.run,Question.forced,hf]⟩
     ·exact⟨_,w.drew,Nat.mod_lt _ (by omega),.inr rfl,by
       simp only[choose,Sem.run,Question.forced,decide_eq_true_eq,hf,if_false,Question.cut]
       rfl⟩
    obtain⟨j,w1,hj,hw1,hchr⟩:=hch
    have R1:Rel μ0 h0 w0 μ lam L h w1:=by
     rcases hw1 with rfl|rfl
     ·exact R
     ·exact R.drawn rfl rfl rfl rfl
    have hh1:w1.heap=w.heap:=by rcases hw1 with rfl|rfl<;>rfl
    have h1':w1.heap[e.r]?=some (.mapIter (some em.r) since seen.toArray last):=by rw[hh1];exact h1
    obtain⟨x,hx⟩:∃x,(zLV es seen)[j]?=some x:=⟨_,List.getElem?_eq_getElem (by unfold zLV;rw[<-hlenL];simpa using hj)⟩
    obtain⟨E,q1,q2,q3,q4⟩:=hleft.get hx
    have hEj:Lft[j]=E:=by
     have:Lft[j]?=some E:=by simpa using q1
     rw[Array.getElem?_eq_getElem hj] at this
     exact Option.some.inj this
    have hKx:=zNU hk x (List.mem_of_getElem? hx)
    refine⟨.tuple #[.bool true,E.key,E.val],w1.setBlk e.r (.mapIter (some em.r) since (seen.toArray.push E.born) cl),_,_,_,μ,lam,hrun0 _ ?_,hKx,?_,.refl _,xS.refl _,?_⟩
    ·simp only[hnE,Bool.false_eq_true,if_false,Array.empty_append,Array.size_map,Sem.run_bind,hchr,Result.andThen_ok,Array.getElem?_map,Array.getElem?_eq_getElem hj,Option.map_some,hEj]
     rw[zH6 _ h1']
     rfl
    ·refine R1.setB hb rfl he rfl h1' ⟨h3,some em.r,?_,em,hem,rfl⟩
     rw[xD _ _ _ (kW h1'),q4]
     simp
    ·exact⟨_,rfl,_,_,rfl,rfl,_,_,rfl,q2,_,_,rfl,q3,rfl⟩
  ·exact hk.elim
 ·exact hk.elim
theorem relM.find {μ:Ren}(stamp:Nat):∀{es:List (AV×AV×Nat)} {l:List MapEntry},relM μ es l->∀{x},es.find? (λe=>e.2.2==stamp)=some x->∃E,l.find? (λE=>E.born==stamp)=some E/\x.1.rel μ E.key/\x.2.1.rel μ E.val
 | [],_,_,x,hx=>by simp at hx
 |(k,v,n)::es,_,⟨E,Es,h1,h2,h3,h4,h5⟩,x,hx=>by
  subst h1
  subst h4
  cases hp:E.born==stamp with
  |true=>simp only[List.find?,hp] at hx ⊢;cases hx;exact⟨E,rfl,h2,h3⟩
  |false=>simp only[List.find?,hp] at hx ⊢;exact h5.find stamp hx
theorem zJ4 (R:Rel μ0 h0 w0 μ lam L h w){b:Nat}{v:Value}(hv:AV.rel μ (.ptr (some ⟨b,0⟩)) v)(hk:zGG b h λx=>K (.val x) L h):Out P μ0 h0 w0 μ lam w (Instr.entry v) K:=by
 unfold zGG at hk
 split at hk
 ·rename_i m since seen stepped hb
  obtain⟨e,mm,he,rfl,h1,h2,h3⟩:=zIM R hb hv
  obtain⟨em,hem,rfl⟩:=h2
  split at hk
  ·rename_i stamp es cl hl hm
   obtain⟨hc,hk2⟩:=zG hk
   clear hk
   have hc':cl=stepped:=by simpa using hc
   subst hc'
   obtain⟨ES,g1,g2⟩:=R.heap.blk m _ em hm hem
   split at hk2
   ·rename_i x hx
    obtain⟨E,q1,q2,q3⟩:=g2.find stamp hx
    refine Out.same R (v:=.tuple #[E.key,E.val]) ?_ hk2 ⟨_,rfl,_,_,rfl,q2,_,_,rfl,q3,rfl⟩
    have hback:seen.toArray.back?=some stamp:=by simpa using hl
    have hfind:ES.find? (λE=>E.born==stamp)=some E:=by rw[<-Array.find?_toList];exact q1
    simp only[Instr.entry,Sem.run_bind,zAR h1,Result.andThen_ok,hback,MapKept.run_getObj_map g1]
    simp[hfind]
   ·exact hk2.elim
  ·exact hk.elim
 ·exact hk.elim
end
end Go.Ab
namespace Go.Ab
set_option linter.unusedSimpArgs false
set_option linter.unusedVariables false
def kM(P:Program)(f:FuncId):Bool:=match P.funcs[f]? with |some fn=>fn.body.isSome&&(!(fn.name== "runtime.NumGoroutine")&& !(Nat.beq f 1000000000))|none=>false
theorem zME {P:Program}{f:FuncId}(h:kM P f=true):Nat.beq f 1000000000=false:=by
 unfold kM at h
 split at h
 ·simp only[Bool.and_eq_true,Bool.not_eq_true'] at h
  exact h.2.2
 ·cases h
def zDZ(μ:Ren)(h:Heap)(w:World)(Q:AHp)(e:Ending)(w':World):Prop:=
 ∃v x h' μ',e= .returned v/\Q x h'/\Evo μ h w μ' h' w'/\HRel μ' h' w'/\x.rel μ' v
def AC(P:Program)(f:FuncId)(args:List AV)(h:Heap)(Q:AHp):Prop:=
 kM P f=true/\∀(μ:Ren) (w:World) (vs:List Value),HRel μ h w->relL μ args vs->Calls P f vs.toArray w (zDZ μ h w Q)
section
variable{P:Program}{μ0:Ren}{h0:Heap}{w0:World}{μ:Ren}{lam:List Nat}{L:Locs}{h:Heap}{w:World}{K:KO}
theorem Rel.call (R:Rel μ0 h0 w0 μ lam L h w){μ':Ren}{h':Heap}{w':World}(hev:Evo μ h w μ' h' w')(hh:HRel μ' h' w'):Rel μ0 h0 w0 μ' lam L h' w':=by
 have same:∀k r:Nat,lam[k]?=some r->w'.heap[r]?=w.heap[r]?:=by
  intro k r hk
  refine hev.frame r (R.locs.new k r hk).2 λb B e hb hB he=> ?_
  exact R.locs.sep k r b B e hk hb (by cases B<;>simp_all [Blk.rw,Blk.live]) he
 refine⟨R.evo.trans hev,hh,⟨R.locs.len,?_,R.locs.inj,?_,?_⟩⟩
 ·intro k c r hc hr
  obtain⟨C,t,fz,h1,h2,h3⟩:=R.locs.blk k c r hc hr
  exact⟨C,t,fz,by rw[same k r hr,h1],relL.mono hev.le _ _ h2,h3⟩
 ·intro k r b B e hk hb hB he
  have hnew:=(R.locs.new k r hk).2
  rcases hev.liv b B e hb hB he with h1|⟨b0,B0,e0,h1,h2,h3,h4⟩
  ·omega
  ·rw[<-h4];exact R.locs.sep k r b0 B0 e0 hk h1 h2 h3
 ·intro k r hk
  have:=R.locs.new k r hk
  have:=hev.size
  omega
theorem zBB {f:FuncId}(hf:kM P f=true)(args:Array Value):(callFunc f args).run P w= .ok (.enter f args) w:=by
 simp only[kM] at hf
 split at hf
 ·rename_i fn hfn
  simp only[Bool.and_eq_true,Bool.not_eq_true',Option.isSome_iff_exists] at hf
  obtain⟨⟨c,hc⟩,hn⟩:=hf
  unfold callFunc
  rw[Sem.run_bind,run_program]
  simp only[Result.andThen_ok,hfn,hn,Bool.false_eq_true,if_false,hc,Option.isNone_some]
  rfl
 ·cases hf
theorem zTQ (R:Rel μ0 h0 w0 μ lam L h w){t u ty e:TypeId}(ht:zE6 P t=some e){s src:OSl}{vs vx:Value}(hs:AV.rel μ (.sl s) vs)(hx:AV.rel μ (.sl src) vx){i:TypeInfo}(hi:P.info? e=some i)
  {KI:Int->Heap->Prop}(hk:zGH (tsz P e) s src h KI):
  ∃n w' h',(Builtin.copy_ #[t,u] ty #[vs,vx]).run P w= .ok (.int .i64 n) w'/\KI n h'/\Rel μ0 h0 w0 μ lam L h' w':=by
 have hu:=jC ht
 obtain⟨xs,hxs,hxl,hk⟩:=hk
 obtain⟨a,len,cap,news,rfl,rfl,hnl,hr,hone,ha,hn⟩:=zCR R hx (by
  by_cases h0:min (zJ src) (zJ s)*tsz P e=0
  ·exact .inl h0
  ·right
   have:min (zJ src) (zJ s)≠0:=λhc=>h0 (by rw[hc];simp)
   omega) hxs
 have hsz:tsz P e=i.size:=zBW hi
 have hfirst:(Builtin.firstCells i.size (min (zJ src) (zJ s)) (.slice a (zJ src) cap)).run P w= .ok news.toArray w:=by
  cases a with
  |none=>rw[hn rfl];exact run_firstCells_none w _ _ _ _
  |some a=>
   exact zA2 (w:=w) (by rw[hnl,hsz]) (ha a rfl) w rfl
 have hmin:Nat.min (zJ src) (zJ s)=min (zJ src) (zJ s):=rfl
 cases s with
 |none=>
  obtain rfl:vs=_:=hs
  obtain⟨hn0,hk⟩:=hk
  refine⟨_,w,h,?_,hk,R⟩
  unfold Builtin.copy_
  simp only[zJ] at hfirst hn0 ⊢
  simp[run_underlying hu,Builtin.lenOf,sizeOf,typeInfo,hi,hmin,goInt] at hfirst ⊢
  simp[hfirst]
 |some s=>
  obtain⟨m,c',q,hmm,rfl,hlc,hq,hx1,hx2⟩:=hs
  obtain⟨hle,hk⟩:=hk
  by_cases hc0:c'=0
  ·have hcap:s.cap<=c':=by
    by_cases ho':s.opn=0
    ·rw[hx1 ho'];omega
    ·exact(hx2 ho').1
   have hl0:s.len=0:=by omega
   have hn0:min (zJ src) (zJ (some s))=0:=by simp[zJ,hl0]
   have hxs0:xs=[]:=by apply List.eq_nil_of_length_eq_zero;rw[hxl,hn0];simp
   have hnews:news=[]:=by apply List.eq_nil_of_length_eq_zero;rw[hnl,hn0];simp
   subst hxs0;subst hnews
   simp only[zL] at hk
   split at hk
   ·rename_i c hc
    obtain⟨_,hk⟩:=hk
    rw[zAF,zH0 hc] at hk
    refine⟨_,w,h,?_,hk,R⟩
    unfold Builtin.copy_
    simp only[zJ] at hfirst ⊢
    simp[run_underlying hu,Builtin.lenOf,sizeOf,typeInfo,hi,hmin,goInt,zJ] at hfirst ⊢
    simp[hfirst,kT]
   ·exact hk.elim
  ·have hq':=hq.resolve_left hc0
   obtain⟨w',h',g1,g2,g3⟩:=zD1 (P:=P) R (p:=⟨s.b,s.o⟩) (hmm.resolve_right hc0) hr hone hk
   refine⟨_,w',h',?_,g2,g3⟩
   rw[<-hq'] at g1
   unfold Builtin.copy_
   simp only[zJ] at hfirst ⊢
   simp[run_underlying hu,Builtin.lenOf,sizeOf,typeInfo,hi,hmin,goInt] at hfirst ⊢
   simp[hfirst,g1]
theorem kL {μ:Ren}{x:AV}{vs:List Value}(h:relL μ [x] vs):∃v,vs=[v]/\x.rel μ v:=by
 obtain⟨y,ys,hl,hx,h'⟩:=h
 simp only[relL] at h'
 subst h'
 exact⟨y,hl,hx⟩
theorem zBZ {μ:Ren}{x y:AV}{vs:List Value}(h:relL μ [x,y] vs):∃v u,vs=[v,u]/\x.rel μ v/\y.rel μ u:=by
 obtain⟨v,ys,hl,hx,h'⟩:=h
 obtain⟨u,rfl,hy⟩:=kL h'
 exact⟨v,u,hl,hx,hy⟩
theorem zP5 (R:Rel μ0 h0 w0 μ lam L h w){u e':TypeId}(hu:P.underlying u=some (.slice e')){sz:Nat}{s:OSl}{v:Value}(hv:AV.rel μ (.sl s) v){xs:List AV}(hx:kU h s (zJ s*sz)=some xs):
  ∃news,Src P u sz v (zJ s) news w/\relL μ xs news/\zX xs=true:=by
 obtain⟨a,len,cap,news,rfl,rfl,hnl,hr,hone,ha,hn⟩:=zCR R hv (by
  by_cases h0:zJ s*sz=0
  ·exact .inl h0
  ·right
   have:zJ s≠0:=λhc=>h0 (by rw[hc];simp)
   omega) hx
 refine⟨news,⟨.inl ⟨e',hu⟩,rfl,?_⟩,hr,hone⟩
 cases a with
 |none=>
  intro w' _
  rw[hn rfl];exact run_firstCells_none w' _ _ _ _
 |some a=>
  exact zA2 (w:=w) hnl (ha a rfl)
theorem zN6 {u:TypeId}(hu:P.underlying u=some .string)(s:List UInt8):Src P u 1 (.string ⟨s.toArray⟩) s.length (s.map λb=>Value.int .u8 b.toNat) w:=by
 refine⟨.inr hu,by simp[Builtin.lenOf,ByteArray.size],λw' _=> ?_⟩
 simp only[Builtin.firstCells,Sem.run_pure]
 congr 1
 apply Array.ext'
 simp[ByteArray.data_extract]
theorem zL1 {u:TypeId}(h:zRJ P u=true):∃k,P.underlying u=some (.int k):=by
 simp only[zRJ] at h
 split at h
 ·rename_i k hk;exact⟨k,hk⟩
 ·cases h
theorem zLZ {u:TypeId}(h:zRI P u=true):P.underlying u=some .string:=by
 simp only[zRI] at h
 split at h
 ·assumption
 ·cases h
theorem zLQ (R:Rel μ0 h0 w0 μ lam L h w){b:Builtin}{argT:List TypeId}{ty:TypeId}{args:List AV}{vs:List Value}(hv:relL μ args vs)(hk:xM P b argT args L h K)(cs:Array Bool):
  ∃v w' lv L' h' μ',(builtin b argT.toArray ty cs vs.toArray).run P w= .ok (.value v) w'/\K lv L' h'/\Rel μ0 h0 w0 μ' lam L' h' w'/\Ren.le μ μ'/\lv.rel μ' lam v:=by
 have simple:∀{v:Value} {lv:LV} (s:Sem Value),builtin b argT.toArray ty cs vs.toArray=(do pure (.value (<-s)))->s.run P w= .ok v w->K lv L h->lv.rel μ lam v->
   ∃v w' lv L' h' μ',(builtin b argT.toArray ty cs vs.toArray).run P w= .ok (.value v) w'/\K lv L' h'/\Rel μ0 h0 w0 μ' lam L' h' w'/\Ren.le μ μ'/\lv.rel μ' lam v:=by
  intro v lv s e1 e2 e3 e4
  exact⟨v,w,lv,L,h,μ,by rw[e1,Sem.run_bind,e2];rfl,e3,R,.refl _,e4⟩
 unfold xM at hk
 split at hk
 ·rename_i t s
  obtain⟨v,rfl,hs⟩:=kL hv
  split at hk
  ·rename_i e hu
   refine simple (v:=.int .i64 (zJ s)) (Builtin.len_ #[t] ty #[v]) rfl ?_ hk rfl
   cases s with
   |none=>obtain rfl:v=_:=hs;simp[Builtin.len_,run_underlying hu,goInt,zJ]
   |some s=>obtain⟨m,c',q,hm,rfl,_⟩:=hs;simp[Builtin.len_,run_underlying hu,goInt,zJ]
  ·exact hk.elim
 ·rename_i t s
  obtain⟨v,rfl,hs⟩:=kL hv
  obtain rfl:v=_:=hs
  split at hk
  ·rename_i hu
   exact simple (v:=.int .i64 s.length) (Builtin.len_ #[t] ty #[_]) rfl (by
    have:(⟨s.toArray⟩:ByteArray).size=s.length:=by simp[ByteArray.size]
    simp only[Builtin.len_]
    simp[run_underlying hu,goInt]
    exact congrArg _ this) hk rfl
  ·exact hk.elim
 ·rename_i t m
  obtain⟨v,rfl,hs⟩:=kL hv
  split at hk
  ·rename_i kt et hu
   unfold zI6 at hk
   split at hk
   rotate_left
   ·exact hk.elim
   rename_i es hes
   cases m with
   |none=>
    obtain rfl:v=_:=hs
    simp only[zE7,Option.some.injEq] at hes
    subst hes
    exact simple (v:=.int .i64 0) (Builtin.len_ #[t] ty #[_]) rfl (by simp[Builtin.len_,run_underlying hu,goInt]) hk rfl
   |some b=>
    simp only[zE7] at hes
    split at hes
    ·rename_i es' cl hb
     cases hes
     obtain⟨e,ES,he,rfl,h2,h3⟩:=zBH R hb hs
     have hl:=h3.length
     refine simple (v:=.int .i64 es.length) (Builtin.len_ #[t] ty #[_]) rfl ?_ hk rfl
     simp only[Builtin.len_]
     simp[run_underlying hu,goInt,MapKept.run_getObj_map h2]
     have:ES.size=es.length:=by simpa using hl
     rw[this]
    ·cases hes
  ·exact hk.elim
 ·rename_i t u m k
  obtain⟨v,y,rfl,hs,hx⟩:=zBZ hv
  split at hk
  ·rename_i kt et hu
   obtain⟨w',h',g1,g2,g3⟩:=zOK (P:=P) (u:=u) (ty:=ty) R hu hs hx hk
   refine⟨.tuple #[],w',.val (.tup []),L,h',μ,?_,g2,g3,.refl _,⟨#[],rfl,rfl⟩⟩
   show Sem.run P (do pure (Next.value (<-Builtin.delete_ #[t,u] ty #[v,y]))) w=_
   rw[Sem.run_bind,g1];rfl
  ·exact hk.elim
 ·rename_i t s
  obtain⟨v,rfl,hs⟩:=kL hv
  split at hk
  ·exact hk.elim
  ·rename_i e he
   have hu:=jC he
   have done:∀{w':World} {h':Heap},(Builtin.clear_ #[t] ty #[v]).run P w= .ok (.tuple #[]) w'->K (.val (.tup [])) L h'->Rel μ0 h0 w0 μ lam L h' w'->
     ∃v1 w' lv L' h' μ',(builtin .clear #[t] ty cs #[v]).run P w= .ok (.value v1) w'/\K lv L' h'/\Rel μ0 h0 w0 μ' lam L' h' w'/\Ren.le μ μ'/\lv.rel μ' lam v1:=by
    intro w' h' g1 g2 g3
    refine⟨.tuple #[],w',.val (.tup []),L,h',μ,?_,g2,g3,.refl _,⟨#[],rfl,rfl⟩⟩
    show Sem.run P (do pure (Next.value (<-Builtin.clear_ #[t] ty #[v]))) w=_
    rw[Sem.run_bind,g1];rfl
   split at hk
   ·exact hk.elim
   rename_i zs hz
   cases s with
   |none=>
    obtain rfl:v=_:=hs
    exact done (by simp[Builtin.clear_,run_underlying hu]) hk R
   |some s=>
    obtain⟨m,c',q,hm,rfl,hlc,hq,hx1,hx2⟩:=hs
    simp only[zGI] at hk
    split at hk
    ·rename_i hlen
     exact done (by simp[Builtin.clear_,run_underlying hu,hlen]) hk R
    ·rename_i n hlen
     obtain⟨hone,hk⟩:=zG hk
     have hc0:c'≠0:=by
      have:s.cap<=c':=by
       by_cases ho:s.opn=0
       ·rw[hx1 ho];exact Nat.le_refl _
       ·exact(hx2 ho).1
      omega
     have hq':=hq.resolve_left hc0
     obtain⟨zv,hzr,hzc,hzl⟩:=jB hz w μ
     have hz2:(Builtin.zeroCells zv.cells (n+1)).toList=(List.replicate (n+1) zv.cells.toList).flatten:=by
      unfold Builtin.zeroCells
      exact zBV _ _
     have hone':zX (List.replicate (n+1) zs).flatten=true:=by
      simp only[zX,List.all_eq_true] at hone ⊢
      intro x hx
      obtain⟨l,hl1,hl2⟩:=List.mem_flatten.1 hx
      rw[(List.mem_replicate.1 hl1).2] at hl2
      exact hone x hl2
     obtain⟨w',h',g1,g2,g3⟩:=zD1 (P:=P) R (p:=⟨s.b,s.o⟩) (hm.resolve_right hc0) (relL.replicate hzc (n+1)) hone' hk
     refine done ?_ g2 g3
     simp only[Builtin.clear_]
     simp[run_underlying hu,hlen]
     rw[hzr]
     simp only[Result.andThen_ok]
     rw[hz2,hq',g1]
     rfl
 ·rename_i t s
  obtain⟨v,rfl,hs⟩:=kL hv
  split at hk
  ·rename_i e hu
   obtain rfl:v=_:=hs
   exact simple (v:=.int .i64 0) (Builtin.cap_ #[t] ty #[_]) rfl (by simp[Builtin.cap_,run_underlying hu,goInt]) hk rfl
  ·rename_i e s hu
   obtain⟨hop,hk⟩:=hk
   obtain⟨m,c',q,hm,rfl,hlc,hq,hx1,hx2⟩:=hs
   have:=hx1 hop
   subst this
   exact simple (v:=.int .i64 s.cap) (Builtin.cap_ #[t] ty #[_]) rfl (by simp[Builtin.cap_,run_underlying hu,goInt]) hk rfl
  ·exact hk.elim
 ·rename_i t u s x
  obtain⟨v,y,rfl,hs,hx⟩:=zBZ hv
  split at hk
  ·exact hk.elim
  ·rename_i e he
   split at hk
   ·exact hk.elim
   ·rename_i zs hz
    have hu:=jC he
    have hby:=(zG hk).1
    replace hk:=(zG hk).2
    simp at hby
    have fin:∀{n:Nat} {xs:List AV} {news:List Value},(∀i zv,P.info? e=some i->i.zero=some zv->App P t u ty e i zv y n news w)->relL μ xs news->zX xs=true->
      (vZ (tsz P e) (jA P e) s n xs h λs' h'=>K (.val (.sl s')) L h')->
      ∃v' w' lv L' h' μ',(builtin .append #[t,u] ty cs #[v,y]).run P w= .ok (.value v') w'/\K lv L' h'/\Rel μ0 h0 w0 μ' lam L' h' w'/\Ren.le μ μ'/\lv.rel μ' lam v':=by
     intro n xs news hA hr ho hkk
     obtain⟨v',w',s',h',μ',g1,g2,g3,g4,g5⟩:=zOL (P:=P) (ty:=ty) R he hz hA hr ho hs hby hkk
     refine⟨v',w',.val (.sl s'),L,h',μ',?_,g2,g3,g4,g5⟩
     show Sem.run P (do pure (Next.value (<-Builtin.append_ #[t,u] ty #[v,y]))) w=_
     rw[Sem.run_bind,g1];rfl
    split at hk
    ·rename_i k n hint
     obtain⟨ho,g1,g2,g3,hk⟩:=zG hk
     obtain rfl:y=_:=hx
     obtain⟨nn,rfl⟩:=zIN g1
     obtain⟨k',hu'⟩:=zL1 hint
     obtain⟨zv,hzr,hzc,hzl⟩:=jB hz w μ
     have hn2:nn*jA P e<=140737488355328:=by
      have:((nn*jA P e:Nat):Int)<=140737488355328:=by rw[Int.natCast_mul];exact g3
      omega
     have hone:zX (List.replicate nn zs).flatten=true:=by
      simp only[zX,List.all_eq_true] at ho ⊢
      intro x hx
      simp at hx
      obtain⟨_,⟨_,rfl⟩,hx⟩:=hx
      exact ho x hx
     refine fin (n:=nn) (news:=(List.replicate nn zv.cells.toList).flatten) ?_ (relL.replicate hzc nn) hone (by simpa using hk)
     intro i zv' hi hzi
     have hzv:zv'=zv:=by
      simp only[zeroValue,typeInfo,Sem.run_bind,run_program,Result.andThen_ok,hi,hzi,Sem.run_pure,Result.ok.injEq,and_true] at hzr
      exact hzr
     subst hzv
     have hby':jA P e=i.bytes:=by simp[jA,Program.bytesOf,hi]
     have hsz:zv'.cells.size=i.size:=by have:=hzc.length;simp at this;rw[this,hzl];exact zBW hi
     have hzl':(Builtin.zeroCells zv'.cells nn).toList=(List.replicate nn zv'.cells.toList).flatten:=by
      unfold Builtin.zeroCells
      exact zBV _ _
     rw[hby'] at hn2
     refine⟨λhf hst=>zH5 hu hu' hi hzi (by omega) (by simp[maxI] at g2;omega) hf hsz (by rw[hzl'];exact hst),λhg hb hm hold=> ?_⟩
     have:=zH4 (P:=P) (ty:=ty) (k:=k) hu hu' hi hzi (n:=nn) (by omega) (by simp[maxI] at g2;omega) hg hb hm hsz hold
     rw[hzl'] at this
     exact this
    ·rename_i src hint
     obtain⟨hte,xs,hxs,hk⟩:=zG hk
     obtain⟨e',he'⟩:=Option.isSome_iff_exists.1 hte
     obtain⟨news,S,hr,hone⟩:=zP5 R (jC he') hx hxs
     refine fin ?_ hr hone hk
     intro i zv hi hzi
     rw[zBW hi] at S
     exact App.of_src hu hi hzi S
    ·rename_i src hint
     obtain⟨h1,hk⟩:=zG hk
     simp only[Bool.and_eq_true,beq_iff_eq] at h1
     obtain⟨h1,h2⟩:=h1
     obtain rfl:y=_:=hx
     have hus:=zLZ h1
     refine fin (news:=src.map λb=>Value.int .u8 b.toNat) ?_ (zAS src) (zEW src) (by rw[h2];exact hk)
     intro i zv hi hzi
     have S:=zN6 (P:=P) (w:=w) hus src
     rw[<-h2,zBW hi] at S
     exact App.of_src hu hi hzi S
    ·exact hk.elim
 ·rename_i t u s src
  obtain⟨v,y,rfl,hs,hx⟩:=zBZ hv
  split at hk
  ·exact hk.elim
  ·rename_i e he
   obtain⟨h1,hk⟩:=zG hk
   obtain⟨i,hi⟩:=Option.isSome_iff_exists.1 h1
   obtain⟨n,w',h',g1,g2,g3⟩:=zTQ (P:=P) (u:=u) (ty:=ty) R he hs hx hi hk
   refine⟨.int .i64 n,w',_,L,h',μ,?_,g2,g3,.refl _,rfl⟩
   show Sem.run P (do pure (Next.value (<-Builtin.copy_ #[t,u] ty #[v,y]))) w=_
   rw[Sem.run_bind,g1];rfl
 ·unfold minL at hk
  split at hk
  ·obtain⟨v,rfl,hx⟩:=kL hv
   obtain rfl:v=_:=hx
   refine simple (Builtin.min_ argT.toArray ty #[_]) rfl ?_ hk rfl
   simp[Builtin.min_]
  ·rename_i k a k' b
   obtain⟨h1,hk⟩:=zG hk
   obtain⟨v,y,rfl,hx,hy⟩:=zBZ hv
   obtain rfl:v=_:=hx
   obtain rfl:y=_:=hy
   refine simple (v:=.int k (minI a b)) (Builtin.min_ argT.toArray ty #[_,_]) rfl ?_ hk rfl
   simp[Builtin.min_,Builtin.min2,minI]
  ·exact hk.elim
 ·unfold maxL at hk
  split at hk
  ·obtain⟨v,rfl,hx⟩:=kL hv
   obtain rfl:v=_:=hx
   refine simple (Builtin.max_ argT.toArray ty #[_]) rfl ?_ hk rfl
   simp[Builtin.max_]
  ·rename_i k a k' b
   obtain⟨h1,hk⟩:=zG hk
   obtain⟨v,y,rfl,hx,hy⟩:=zBZ hv
   obtain rfl:v=_:=hx
   obtain rfl:y=_:=hy
   refine simple (v:=.int k (zEF a b)) (Builtin.max_ argT.toArray ty #[_,_]) rfl ?_ hk rfl
   simp[Builtin.max_,Builtin.max2,zEF]
  ·exact hk.elim
 ·exact hk.elim
end
theorem exT_ex:∀{zs:List AV} {KL:List AV->Prop},exT zs KL->∃l,KL l
 | [],KL,h=>⟨[],h⟩
 |z::zs,KL,h=>by
  cases z<;>simp only[exT] at h
  all_goals
   obtain⟨l,h1,_,_⟩:=zDW h
   obtain⟨r,h2⟩:=exT_ex h1
   exact⟨_,h2⟩
theorem exV_ex {z:AV}{KV:AV->Prop}(h:exV z KV):∃u,KV u:=by
 by_cases hz:∃c,z= .tup c
 ·obtain⟨c,rfl⟩:=hz
  obtain⟨l,hl⟩:=exT_ex h
  exact⟨_,hl⟩
 ·obtain⟨u,hu,_⟩:=zIT (λc hc=>hz ⟨c,hc⟩) h
  exact⟨u,hu⟩
theorem jK:∀{zs:List AV} {A B:List AV->Prop},(∀l,A l->B l)->exL zs A->exL zs B
 | [],A,B,hm,h=>hm _ h
 |z::zs,A,B,hm,h=>by
  cases z<;>simp only[exL] at h ⊢
  case int=>obtain⟨n,h⟩:=h;exact⟨n,jK (λl=>hm _) h⟩
  case bool=>obtain⟨n,h⟩:=h;exact⟨n,jK (λl=>hm _) h⟩
  case str=>obtain⟨n,h⟩:=h;exact⟨n,jK (λl=>hm _) h⟩
  case ptr=>obtain⟨n,h⟩:=h;exact⟨n,jK (λl=>hm _) h⟩
  case sl=>obtain⟨n,h⟩:=h;exact⟨n,jK (λl=>hm _) h⟩
  case map=>obtain⟨n,h⟩:=h;exact⟨n,jK (λl=>hm _) h⟩
  all_goals obtain⟨n,h1,h⟩:=h;exact⟨n,h1,jK (λl=>hm _) h⟩
theorem zNO:∀{zs:List AV} {A B:List AV->Prop},(∀l,A l->B l)->exT zs A->exT zs B
 | [],A,B,hm,h=>hm _ h
 |z::zs,A,B,hm,h=>by
  cases z<;>simp only[exT] at h ⊢
  all_goals exact jK (λl hl=>zNO (λr=>hm _) hl) h
theorem zT8 {z:AV}{A B:AV->Prop}(hm:∀l,A l->B l)(h:exV z A):exV z B:=by
 cases z<;>simp only[exV] at h ⊢
 case agg=>exact jK (λl=>hm _) h
 case tup=>exact zNO (λl=>hm _) h
 all_goals
  refine jK (λl hl=> ?_) h
  split at hl
  ·exact hm _ hl
  ·exact hl.elim
theorem zR3 {z v:AV}{K:AV->Prop}(h:exV z λu=>v=u/\K u):K v:=by
 obtain⟨u,rfl,hu⟩:=exV_ex h
 exact hu
theorem zOP {P:Program}{kt:TypeId}{a b:AV}{A B:Bool->Prop}(hm:∀x,A x->B x)(h:vW P kt a b A):vW P kt a b B:=by
 unfold vW at h ⊢
 generalize P.underlying kt=d at h ⊢
 split at h
 ·obtain⟨h1,h2⟩:=zG h
  simp only[h1,need];exact hm _ h2
 ·exact hm _ h
 ·exact hm _ h
 ·split at h
  ·exact hm _ h
  ·exact h.elim
 ·split at h
  ·exact hm _ h
  ·exact h.elim
 ·exact h.elim
theorem zHF {P:Program}{kt:TypeId}{k:AV}:∀{es:List (AV×AV×Nat)} {i:Nat} {A B:Option (Nat×AV×Nat)->Prop},(∀r,A r->B r)->jP P kt k es i A->jP P kt k es i B
 | [],i,A,B,hm,h=>hm _ h
 |(k',v,n)::es,i,A,B,hm,h=>by
  simp only[jP] at h ⊢
  refine zOP (λb hb=> ?_) h
  cases b
  ·exact zHF hm hb
  ·exact hm _ hb
theorem zK3 {P:Program}{kt et:TypeId}{m:Option Nat}{k:AV}{ok:Bool}{h:Heap}{A B:AV->Prop}(hm:∀v,A v->B v)(hk:xO P kt et m k ok h A):xO P kt et m k ok h B:=by
 unfold xO at hk ⊢
 split at hk
 ·obtain⟨h1,hk⟩:=zG hk
  simp only[h1,need]
  exact zHF (λr=>hm _) hk
 ·exact hk.elim
theorem zMM {b:Nat}{h:Heap}{A B:AV->Prop}(hm:∀v,A v->B v)(hk:zGG b h A):zGG b h B:=by
 unfold zGG at hk ⊢
 split at hk
 ·split at hk
  ·obtain⟨h1,hk⟩:=zG hk
   simp only[h1,need]
   split at hk
   ·exact hm _ hk
   ·exact hk.elim
  ·exact hk.elim
 ·exact hk.elim
section
variable{P:Program}{μ0:Ren}{h0:Heap}{w0:World}{μ:Ren}{lam:List Nat}{L:Locs}{h:Heap}{w:World}{K:KO}
abbrev zK4(μ0:Ren)(h0:Heap)(w0:World)(μ:Ren)(lam:List Nat)(K:KO)(d:Option Tmp)(a:Act)(next:Act->World->Prop):Prop:=
 ∀(lv:LV) (L':Locs) (h':Heap) (μ':Ren) (lam':List Nat) (v:Value) (w':World),K lv L' h'->Rel μ0 h0 w0 μ' lam' L' h' w'->Ren.le μ μ'->xS lam lam'->lv.rel μ' lam' v->next (a.put d v) w'
theorem zY {o:Oper}{a:Act}{next:Act->World->Prop}{Q:Exit->Act->World->Prop}{s:Sem Value}(H:Out P μ0 h0 w0 μ lam w s K)(he:execOp a.eval o=(do pure (.value (<-s))))(hn:zK4 μ0 h0 w0 μ lam K o.dst a next):
  o.wp P a w next Q:=by
 obtain⟨v,w',lv,L',h',μ',lam',hr,hk,R',h1,h2,hv⟩:=H
 unfold Oper.wp
 rw[he,Sem.run_bind,hr]
 exact hn _ _ _ _ _ _ _ hk R' h1 h2 hv
theorem zGU {o:Oper}{a:Act}{next:Act->World->Prop}{Q:Exit->Act->World->Prop}(R:Rel μ0 h0 w0 μ lam L h w){g:FuncId}{args:List AV}{vs:List Value}(hv:relL μ args vs){z:AV}
  (H:AC P g args h λv h'=>exV z λu=>v=u/\K (.val u) L h')(he:(execOp a.eval o).run P w= .ok (.enter g vs.toArray) w)(hn:zK4 μ0 h0 w0 μ lam K o.dst a next):
  o.wp P a w next Q:=by
 unfold Oper.wp
 rw[he]
 refine(H.2 μ w vs R.heap hv).mono λe w' ⟨v,x,h',μ',hx,hq,hev,hh,hr⟩=> ?_
 subst hx
 obtain⟨u,rfl,hk⟩:=exV_ex hq
 exact hn _ _ _ _ _ _ _ hk (R.call hev hh) hev.le (xS.refl _) hr
theorem zOC {t:TypeId}{v:Value}{name:String}{g:FuncId}(hm:methodOf P t name=some g):∀n,(method (n+1) t v name).run P w= .ok (g,v) w:=by
 intro n
 simp only[methodOf] at hm
 split at hm
 ·cases hm
 ·rename_i i hi
  split at hm
  ·rename_i m hf
   split at hm
   ·rename_i hp
    have hpath:m.path.toList=[]:=by simpa using hp
    unfold method
    have hti:(typeInfo t).run P w= .ok i w:=by simp[typeInfo,hi]
    rw[Sem.run_bind,hti]
    simp only[Result.andThen_ok,hf]
    rw[Sem.run_bind,hpath]
    simp only[follow,Sem.run_pure,Result.andThen_ok]
    split at hm
    ·rename_i g' e hfn hu
     cases hm
     simp only[hfn,Sem.run_bind]
     unfold receiverAt
     rw[Sem.run_bind,run_underlying hu]
     simp[Place.get]
    ·cases hm
    ·rename_i g' d hfn hu hne
     cases hm
     simp only[hu,Sem.run_bind]
     unfold receiverAt
     rw[Sem.run_bind,run_underlying hne]
     simp[Place.get]
    ·cases hm
   ·cases hm
  ·cases hm
theorem zJM {t e:TypeId}{r:Addr}{name:String}{g:FuncId}(hm:zIJ P t name=some (g,e)){v:Value}(hl:(loadVar e r).run P w= .ok v w):∀n,(method (n+1) t (.pointer (some r)) name).run P w= .ok (g,v) w:=by
 intro n
 simp only[zIJ] at hm
 split at hm
 ·cases hm
 ·rename_i i hi
  split at hm
  ·rename_i m hf
   split at hm
   ·rename_i hp
    have hpath:m.path.toList=[]:=by simpa using hp
    unfold method
    have hti:(typeInfo t).run P w= .ok i w:=by simp[typeInfo,hi]
    rw[Sem.run_bind,hti]
    simp only[Result.andThen_ok,hf]
    rw[Sem.run_bind,hpath]
    simp only[follow,Sem.run_pure,Result.andThen_ok]
    split at hm
    ·rename_i g' e' hfn hu
     cases hm
     simp only[hfn,Sem.run_bind]
     unfold receiverAt
     rw[Sem.run_bind,run_underlying hu]
     simp only[Result.andThen_ok,Place.get,hp,if_true]
     have:∀s,(Builtin.ssaWrapNilChk_ #[t] t #[.pointer (some r),strVal "",strVal s]).run P w= .ok (.pointer (some r)) w:=by
      intro s
      rfl
     have hadr:(asAddr (.pointer (some r))).run P w= .ok r w:=rfl
     simp[this,hadr,hl]
    ·cases hm
   ·cases hm
  ·cases hm
theorem zI3 {o:Oper}{a:Act}{next:Act->World->Prop}{Q:Exit->Act->World->Prop}(R:Rel μ0 h0 w0 μ lam L h w){g:AV}{vg:Value}(hgv:g.rel μ vg){args:List AV}{vs:List Value}(hvs:relL μ args vs){name:String}{z:AV}
  (hk:kD P (AC P) g name args h λv h'=>exV z λu=>v=u/\K (.val u) L h')
  (he:(execOp a.eval o).run P w=(callMethod vg name vs.toArray).run P w)(hn:zK4 μ0 h0 w0 μ lam K o.dst a next):o.wp P a w next Q:=by
 unfold kD at hk
 split at hk
 ·rename_i t v
  have fin:∀{g':FuncId} {x:AV} {y0 y:Value},vg= .iface t y0->x.rel μ y->(match Nat.beq g' 1000000000 with |true=>False|false=>AC P g' (x::args) h (λv h'=>exV z λu=>v=u/\K (.val u) L h'))->(∀n,(method (n+1) t y0 name).run P w= .ok (g',y) w)->o.wp P a w next Q:=by
   intro g' x y0 y hv hy hk hmeth
   replace hk:AC P g' (x::args) h (λv h'=>exV z λu=>v=u/\K (.val u) L h'):=by
    split at hk
    ·exact hk.elim
    ·exact hk
   refine zGU (vs:=y::vs) R (show relL μ (x::args) _ from⟨_,_,rfl,hy,hvs⟩) hk ?_ hn
   rw[he,hv]
   unfold callMethod
   rw[Sem.run_bind,run_program]
   simp only[Result.andThen_ok]
   have hmm:=hmeth (P.types.size+99)
   rw[Sem.run_bind,show P.types.size+Made.depth=P.types.size+99+1 from rfl,hmm]
   simp only[Result.andThen_ok]
   rw[zBB hk.1]
   have: #[y]++vs.toArray=(y::vs).toArray:=by apply Array.ext';simp
   rw[this]
  obtain⟨y,hv,hy⟩:=hgv
  split at hk
  ·rename_i g' hm
   exact fin hv hy hk λn=>zOC hm n
  ·rename_i hm
   split at hk
   ·rename_i g' e p hma
    split at hk
    ·rename_i z' hz'
     split at hk
     ·rename_i hok
      obtain⟨e',he',rfl⟩:=hy
      obtain⟨c1,rw1,hc1,hpart⟩:=zEO (jH hok).2.2.2 hk
      obtain⟨C,t',fz,q1,q2,q3,q4,q5,q6⟩:=R.heap.blk _ _ _ hc1 he'
      obtain⟨i,zv,hi,_,_⟩:=zA8 hz'
      obtain⟨v',x,l1,l2,l3⟩:=zBI (P:=P) q1 q5 hz' hok hpart
      exact fin hv l3 l2 λn=>zJM hma l1 n
     ·exact hk.elim
    ·exact hk.elim
   ·exact hk.elim
 ·exact hk.elim
theorem vop_wp {isLoc:Nat->Bool}{o:Oper}{ρ:List LV}{a:Act}{next:Act->World->Prop}{Q:Exit->Act->World->Prop}(R:Rel μ0 h0 w0 μ lam L h w)(E:yB μ lam ρ a.tmps)
  (hk:vop P isLoc (AC P) o ρ L h K)(hn:zK4 μ0 h0 w0 μ lam K o.dst a next):o.wp P a w next Q:=by
 have ex:∀op,o.op=op->execOp a.eval o=execOp a.eval {o with op:=op}:=by intro op h;subst h;rfl
 unfold vop at hk
 split at hk
 ·rename_i x ho
  unfold Oper.wp
  rw[ex _ ho]
  exact hn _ _ _ _ _ _ _ hk R (.refl _) (xS.refl _) (E.ev x)
 ·rename_i x ho
  unfold Oper.wp
  rw[ex _ ho]
  exact hn _ _ _ _ _ _ _ hk R (.refl _) (xS.refl _) (E.ev x)
 ·rename_i c x y ho
  split at hk
  ·rename_i t hc
   have hcv:a.eval c=_:=E.val hc
   unfold Oper.wp
   rw[ex _ ho]
   rcases vJ hk with⟨rfl,hk⟩|⟨rfl,hk⟩
   ·have:(execOp a.eval {o with op:=.pick c x y}).run P w= .ok (.value (a.eval x)) w:=by simp[execOp,hcv,asBool]
    rw[this]
    exact hn _ _ _ _ _ _ _ hk R (.refl _) (xS.refl _) (E.ev x)
   ·have:(execOp a.eval {o with op:=.pick c x y}).run P w= .ok (.value (a.eval y)) w:=by simp[execOp,hcv,asBool]
    rw[this]
    exact hn _ _ _ _ _ _ _ hk R (.refl _) (xS.refl _) (E.ev y)
  ·exact hk.elim
 ·rename_i t ho
  split at hk
  ·rename_i zs d hz hd
   exact zY (zQZ R hz hk) (ex _ ho) hn
  ·exact hk.elim
 ·rename_i t x ho
  split at hk
  ·exact hk.elim
  ·rename_i v d hne hx hd
   exact zY (out_box R (E.val hx) (λc hc=>hne c (by rw[hc])) hk) (ex _ ho) hn
  ·exact hk.elim
 ·rename_i t x ho
  exact zY (zTP R E hk) (ex _ ho) hn
 ·rename_i t xa x ho
  split at hk
  ·rename_i v hx
   obtain⟨h1,hk⟩:=zG hk
   obtain⟨w',L',h',g1,g2,g3⟩:=zQR R E hx h1 hk
   unfold Oper.wp
   rw[ex _ ho]
   have:(execOp a.eval {o with op:=.store t xa x}).run P w= .ok .skip w':=by
    show Sem.run P (do Instr.storeAt t (a.eval xa) (a.eval x);pure Next.skip) w=_
    rw[Sem.run_bind,g1];rfl
   rw[this]
   exact hn _ _ _ _ _ _ _ g2 g3 (.refl _) (xS.refl _) trivial
  ·exact hk.elim
 ·rename_i x ho
  obtain⟨lv,g1,g2,g3⟩:=zJ2 R E hk o ho
  unfold Oper.wp
  rw[g1]
  exact hn _ _ _ _ _ _ _ g2 R (.refl _) (xS.refl _) g3
 ·rename_i op t x y yt ho
  split at hk
  ·rename_i xv yv hx hy
   exact zY (out_bin R (E.val hx) (E.val hy) hk) (ex _ ho) hn
  ·exact hk.elim
 ·rename_i op t x ho
  split at hk
  ·rename_i xv hx
   exact zY (out_un R (E.val hx) hk) (ex _ ho) hn
  ·exact hk.elim
 ·rename_i src dst x ho
  split at hk
  ·rename_i sd k k' n hs hd hx
   have hv:a.eval x=_:=E.val hx
   refine zY (s:=convert src dst (a.eval x)) (Out.same R (v:=.int k (zC k n)) ?_ hk rfl) (ex _ ho) hn
   rw[hv]
   unfold convert
   rw[Sem.run_bind,run_underlying hs]
   simp only[Result.andThen_ok]
   rw[Sem.run_bind,run_underlying hd]
   simp[Conv.intToInt,zC]
  ·rename_i s hs hd hx
   have hv:a.eval x=_:=E.val hx
   refine zY (s:=convert src dst (a.eval x)) (Out.same R (v:=.string ⟨s.toArray⟩) ?_ hk rfl) (ex _ ho) hn
   rw[hv]
   unfold convert
   rw[Sem.run_bind,run_underlying hs]
   simp only[Result.andThen_ok]
   rw[Sem.run_bind,run_underlying hd]
   rfl
  ·rename_i e s hs hd hx
   obtain⟨he,hk⟩:=zG hk
   exact zY (zEB R hs hd he (E.val hx) hk) (ex _ ho) hn
  ·rename_i e s hs hd hx
   obtain⟨he,hle,hk⟩:=zG hk
   have hv:a.eval x=_:=E.val hx
   exact zY (s:=convert src dst (a.eval x)) (by rw[hv];exact zD9 R hs hd he hle hk) (ex _ ho) hn
  ·exact hk.elim
 ·rename_i s x f ho
  exact zY (zIG R E hk) (ex _ ho) hn
 ·rename_i s x f ho
  exact zY (zQW R E hk) (ex _ ho) hn
 ·rename_i t x ix ho
  exact zY (zIF R E hk) (ex _ ho) hn
 ·rename_i t x ix ho
  exact zY (zQV R E hk) (ex _ ho) hn
 ·rename_i t ps ho
  exact zY (zQY R E hk) (ex _ ho) hn
 ·rename_i t n ps ho
  exact zY (zGO R E hk) (ex _ ho) hn
 ·rename_i t x lo hi mx ho
  exact zY (zQS R E hk) (ex _ ho) hn
 ·rename_i t l c ho
  split at hk
  ·exact hk.elim
  ·rename_i e he
   split at hk
   ·rename_i zs n m hz hl hc
    obtain⟨h1,hk⟩:=zG hk
    obtain⟨kl,hl'⟩:=E.int hl
    obtain⟨kc,hc'⟩:=E.int hc
    exact zY (s:=Instr.makeSlice t (a.eval l) (a.eval c)) (by rw[hl',hc'];exact zTO R he hz h1 hk) (ex _ ho) hn
   ·exact hk.elim
 ·rename_i t x ho
  split at hk
  ·rename_i n e s0 hu hx
   unfold vSl at hk
   split at hk
   rotate_left
   ·exact hk.elim
   rename_i s
   obtain⟨h1,hk⟩:=zG hk
   simp only[Bool.and_eq_true,decide_eq_true_eq] at h1
   obtain⟨m,c',q,hm,hv,hlc,hq,hx1,hx2⟩:=E.val hx
   have hc0:c'≠0:=by
    have:s.cap<=c':=by
     by_cases ho:s.opn=0
     ·rw[hx1 ho];exact Nat.le_refl _
     ·exact(hx2 ho).1
    omega
   have hq':=hq.resolve_left hc0
   refine zY (s:=Instr.arrayAt t (a.eval x)) (Out.same R (v:=.pointer (some ⟨m.r,m.s+s.o,none⟩)) ?_ hk ⟨m,hm.resolve_right hc0,rfl⟩) (ex _ ho) hn
   rw[hv,hq']
   have hnot:¬s.len<n:=by omega
   simp[Instr.arrayAt,run_underlying hu,hnot]
  ·exact hk.elim
 ·rename_i t r ho
  split at hk
  ·exact zY (s:=Instr.makeMap t none) (zLO R hk) (ex _ ho) hn
  ·exact hk.elim
 ·rename_i t x ix ok ho
  split at hk
  ·rename_i kt et m k z hu hx hix hz
   exact zY (zOJ R hu (E.val hx) (E.val hix) (zK3 (λv hv=>zR3 hv) hk)) (ex _ ho) hn
  ·exact hk.elim
 ·rename_i t m k x ho
  split at hk
  ·rename_i kt et m' kk v hu hm hkk hx
   unfold vMap at hk
   split at hk
   rotate_left
   ·exact hk.elim
   rename_i b
   obtain⟨w',h',g1,g2,g3⟩:=zG5 R hu (E.val hm) (E.val hkk) (E.val hx) hk
   unfold Oper.wp
   rw[ex _ ho]
   have:(execOp a.eval {o with op:=.mapUpdate t m k x}).run P w= .ok .skip w':=by
    show Sem.run P (do Instr.mapUpdate t (a.eval m) (a.eval k) (a.eval x);pure Next.skip) w=_
    rw[Sem.run_bind,g1];rfl
   rw[this]
   exact hn _ _ _ _ _ _ _ g2 g3 (.refl _) (xS.refl _) trivial
  ·exact hk.elim
 ·rename_i t m k x ho
  split at hk
  ·rename_i kt et m' kk v hu hm hkk hx
   unfold vMap at hk
   split at hk
   rotate_left
   ·exact hk.elim
   rename_i b
   obtain⟨w',h',g1,g2,g3⟩:=zG5 R hu (E.val hm) (E.val hkk) (E.val hx) hk
   unfold Oper.wp
   rw[ex _ ho]
   have:(execOp a.eval {o with op:=.insert t m k x}).run P w= .ok .skip w':=by
    show Sem.run P (do Instr.mapUpdate t (a.eval m) (a.eval k) (a.eval x);pure Next.skip) w=_
    rw[Sem.run_bind,g1];rfl
   rw[this]
   exact hn _ _ _ _ _ _ _ g2 g3 (.refl _) (xS.refl _) trivial
  ·exact hk.elim
 ·rename_i t x ho
  split at hk
  ·rename_i kt et m hu hx
   exact zY (zQT R hu (E.val hx) (m:=m) hk) (ex _ ho) hn
  ·exact hk.elim
 ·rename_i x isS ho
  split at hk
  ·rename_i p hx
   obtain⟨h1,hk⟩:=zG hk
   have h1':p.o=0:=of_decide_eq_true h1
   have hp:p=⟨p.b,0⟩:=by cases p;simp_all
   have hv:=E.val hx
   rw[hp] at hv
   have hk:PNext p.b h λv h'=>K (.val v) L h':=hk
   exact zY (zTN (ty:=o.type) R hv hk) (ex _ ho) hn
  ·exact hk.elim
 ·rename_i x ho
  split at hk
  ·rename_i p z hx hz
   obtain⟨h1,hk⟩:=zG hk
   have h1':p.o=0:=of_decide_eq_true h1
   have hp:p=⟨p.b,0⟩:=by cases p;simp_all
   have hv:=E.val hx
   rw[hp] at hv
   exact zY (zJ4 R hv (zMM (λv hv=>zR3 hv) hk)) (ex _ ho) hn
  ·rename_i p hx hz
   obtain⟨h1,hk⟩:=zG hk
   have h1':p.o=0:=of_decide_eq_true h1
   have hp:p=⟨p.b,0⟩:=by cases p;simp_all
   have hv:=E.val hx
   rw[hp] at hv
   exact zY (zJ4 R hv hk) (ex _ ho) hn
  ·exact hk.elim
 ·rename_i x i ho
  exact zY (zLP R E hk) (ex _ ho) hn
 ·rename_i fn f c ho
  exact zY (zJ3 R E hk) (ex _ ho) hn
 ·rename_i t x ho
  exact zY (zEA R E hk) (ex _ ho) hn
 ·rename_i c ho
  split at hk
  ·exact hk.elim
  ·rename_i args hargs
   have hvs:=E.vals _ _ hargs
   split at hk
   ·rename_i f hcal
    split at hk
    ·rename_i g z hg hz
     have hgv:=E.val hg
     unfold yV at hk
     split at hk
     ·rename_i name r cap
      obtain⟨f',c',hv,hf,hc⟩:=hgv
      obtain⟨y,hf1,hy⟩:=kL hf
      have hfe:f'= #[y]:=by apply Array.ext';simpa using hf1
      subst hfe
      refine zI3 R hy hvs hk ?_ hn
      rw[ex _ ho]
      show Sem.run P (do let d <-resolve a.eval c o.type;invoke d.target d.args) w=_
      have:(resolve a.eval c o.type).run P w= .ok {target:=.fn (.method name) c',args:= #[y]++c.args.map a.eval} w:=by
       unfold resolve
       simp[hcal,Deferred.ofValue,hv]
      rw[Sem.run_bind,this]
      have hargs': #[y]++c.args.map a.eval=(y::c.args.toList.map a.eval).toArray:=by apply Array.ext';simp
      simp only[Result.andThen_ok,invoke,hargs']
      have h1':(y::c.args.toList.map a.eval).toArray.extract 1 (y::c.args.toList.map a.eval).toArray.size=(c.args.toList.map a.eval).toArray:=by
       apply Array.ext'
       simp only[Array.toList_extract,List.extract_eq_drop_take']
       rw[List.take_of_length_le (by simp)]
       rfl
      show Sem.run P (callMethod y name ((y::c.args.toList.map a.eval).toArray.extract 1 (y::c.args.toList.map a.eval).toArray.size)) w=_
      rw[h1']
     unfold vCallV at hk
     split at hk
     ·rename_i g' first cap hne
      replace hk:AC P g' (first++args++cap) h (λv h'=>exV z λu=>v=u/\K (.val u) L h'):=by
       split at hk
       ·exact hk.elim
       ·exact hk
      obtain⟨f',c',hv,hf,hc⟩:=hgv
      refine zGU (vs:=f'.toList++c.args.toList.map a.eval++c'.toList) R ((hf.append hvs).append hc) hk ?_ hn
      rw[ex _ ho]
      show Sem.run P (do let d <-resolve a.eval c o.type;invoke d.target d.args) w=_
      have:(resolve a.eval c o.type).run P w= .ok {target:=.fn (.func g') c',args:=f'++c.args.map a.eval} w:=by
       unfold resolve
       simp[hcal,Deferred.ofValue,hv]
      rw[Sem.run_bind,this]
      simp only[Result.andThen_ok,invoke]
      rw[zBB hk.1]
      congr 2
      apply Array.ext'
      simp
     ·have:=zME hk.1
      simp at this
     ·exact hk.elim
    ·exact hk.elim
   ·rename_i r name hcal
    split at hk
    ·rename_i g z hg hz
     have hgv:=E.val hg
     refine zI3 R hgv hvs hk ?_ hn
     rw[ex _ ho]
     show Sem.run P (do let d <-resolve a.eval c o.type;invoke d.target d.args) w=_
     have:(resolve a.eval c o.type).run P w= .ok {target:=.fn (.method name) #[],args:= #[a.eval r]++c.args.map a.eval} w:=by
      unfold resolve
      simp[hcal]
     rw[Sem.run_bind,this]
     have hargs': #[a.eval r]++c.args.map a.eval=(a.eval r::c.args.toList.map a.eval).toArray:=by apply Array.ext';simp
     simp only[Result.andThen_ok,invoke,hargs']
     have h1':(a.eval r::c.args.toList.map a.eval).toArray.extract 1 (a.eval r::c.args.toList.map a.eval).toArray.size=(c.args.toList.map a.eval).toArray:=by
      apply Array.ext'
      simp only[Array.toList_extract,List.extract_eq_drop_take']
      rw[List.take_of_length_le (by simp)]
      rfl
     show Sem.run P (callMethod (a.eval r) name ((a.eval r::c.args.toList.map a.eval).toArray.extract 1 (a.eval r::c.args.toList.map a.eval).toArray.size)) w=_
     rw[h1']
    ·exact hk.elim
   ·rename_i b hcal
    obtain⟨v,w',lv,L',h',μ',g1,g2,g3,g4,g5⟩:=zLQ (ty:=o.type) R hvs hk (c.args.map λ| .const _=>true|_=>false)
    unfold Oper.wp
    rw[ex _ ho]
    have:(execOp a.eval {o with op:=.call c}).run P w= .ok (.value v) w':=by
     show Sem.run P (do let d <-resolve a.eval c o.type;invoke d.target d.args) w=_
     have:(resolve a.eval c o.type).run P w= .ok {target:=.builtin b c.argTypes o.type (c.args.map λ| .const _=>true|_=>false),args:=c.args.map a.eval} w:=by
      unfold resolve
      simp[hcal]
      intro x _
      cases x<;>rfl
     rw[Sem.run_bind,this]
     simp only[Result.andThen_ok,invoke]
     have e1:(c.args.map a.eval)=(c.args.toList.map a.eval).toArray:=by apply Array.ext';simp
     rw[e1]
     have e2:(c.args.map λ| .const _=>true|_=>false)=(c.args.map λ| .const _=>true|_=>false):=rfl
     refine Eq.trans ?_ g1
     congr 1
    rw[this]
    exact hn _ _ _ _ _ _ _ g2 g3 g4 (xS.refl _) g5
 ·exact hk.elim
end
end Go.Ab
