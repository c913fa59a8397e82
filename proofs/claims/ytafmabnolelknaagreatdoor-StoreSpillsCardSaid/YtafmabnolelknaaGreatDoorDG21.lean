import Derived.Test.YtafmabnolelknaaGreatDoorDG9
import Derived.Test.YtafmabnolelknaaGreatDoorDG10
import Derived.Test.YtafmabnolelknaaGreatDoorDG12
import Derived.Test.YtafmabnolelknaaGreatDoorDG14
import Derived.Test.YtafmabnolelknaaGreatDoorDG15
import Derived.Test.YtafmabnolelknaaGreatDoorDG19
import Derived.Test.YtafmabnolelknaaGreatDoorDG20
namespace Go.Proofs.YtafmabnolelknaaGreatDoor
open Go.Ab
open Go.Dsk hiding Bs
set_option linter.unusedVariables false
set_option linter.unusedSimpArgs false
abbrev secB(s:Bs):Nat->Int:=λi=>((s.getD i 0).toNat:Int)
abbrev secA(s:Bs):List AV:=cel .u8 64 (secB s)
def secE:Enc Bs:=⟨64,secA,λ_=>zA5,by omega,λ_=>zSJ⟩
theorem zN9 {s:Bs}(h:s.length=64):secA s=yG s:=by
 refine List.ext_getElem? λi=> ?_
 simp only[secA,cel,yG,List.getElem?_map]
 rcases Nat.lt_or_ge i 64 with hi|hi
 ·rw[List.getElem?_range hi,List.getElem?_eq_getElem (by omega)]
  simp[secB,List.getD_eq_getElem?_getD,List.getElem?_eq_getElem (by omega:i<s.length)]
 ·rw[List.getElem?_eq_none (by simp;omega),List.getElem?_eq_none (by omega)];rfl
theorem zJK:secA []=List.replicate 64 (AV.int .u8 0):=by
 refine List.ext_getElem? λi=> ?_
 simp only[secA,cel,List.getElem?_map]
 rcases Nat.lt_or_ge i 64 with hi|hi
 ·rw[List.getElem?_range hi,List.getElem?_replicate,if_pos hi];simp[secB]
 ·rw[List.getElem?_eq_none (by simp;omega),List.getElem?_replicate,if_neg (by omega)];rfl
def jF:Enc PD:=⟨66,λx=>[.ptr (some ⟨x.1,0⟩),.int .i64 (x.2.1:Nat)]++secA x.2.2,λ_=>by simp[zA5],by omega,λ_=>by
 have:= @zSJ .u8 64
 simp[zX,AV.one] at this ⊢
 exact λx hx=>this x hx⟩
inductive Role where
 |disk|map|pends|file|now (b:Nat)|safe (b:Nat)
deriving DecidableEq
abbrev yC:=Nat->Option Role
abbrev dsk(ow:yC):Nat->Prop:=λb=>ow b≠none
structure zK5(h:Heap)(ow:yC)(f:FA):Prop where
 role:ow f.b=some .file
 cells:∃qn qs,h[f.b]?=some (.cells [.str f.name,.sl qn,.sl qs] true)/\AppJ secE h qn f.now/\AppJ secE h qs f.safe/\
  (∀s,qn=some s->ow s.b=some (.now f.b))/\(∀s,qs=some s->ow s.b=some (.safe f.b))
abbrev Ents:=List (AV×AV×Nat)
def zKQ(f:FA):AV×AV:=(.str f.name,.ptr (some ⟨f.b,0⟩))
structure xH(h:Heap)(ow:yC)(p m:Nat)(qp:OSl)(es:Ents)(cl:Nat)(D:DS):Prop where
 live:∀b,ow b≠none->b<h.length
 pr:ow p=some .disk
 mr:ow m=some .map
 pb:h[p]?=some (.cells [.map (some m),.sl qp,.int .i64 D.limit,.int .i64 D.left,.bool D.off] true)
 mb:h[m]?=some (.mp es cl)
 ents:es.map (λe=>(e.1,e.2.1))=D.files.map zKQ
 born:(es.map (·.2.2)).Nodup
 clk:∀e∈es,e.2.2<cl
 pnd:AppJ jF h qp D.pends
 pndr:∀s,qp=some s->ow s.b=some .pends
 file:∀f∈D.files,zK5 h ow f
 names:(D.files.map (·.name)).Nodup
 blocks:(D.files.map (·.b)).Nodup
 pfile:∀x∈D.pends,∃f∈D.files,f.b=x.1/\x.2.1<f.now.length
 safe:∀f∈D.files,f.safe.length<=f.now.length
 nlen:∀f∈D.files,f.name.length<=24
 many:D.files.length<=256
 used:(D.files.map (·.now.length)).sum<=16384
 lim:D.limit<=16384
 lft: -1<=D.left/\D.left<=9223372036854775807
def xB(h:Heap)(ow:yC)(p:Nat)(D:DS):Prop:=∃m qp es cl,xH h ow p m qp es cl D
structure yQ(ow:yC)(h:Heap)(ow':yC)(h':Heap):Prop where
 keeps:zI (dsk ow) h h'
 len:h.length<=h'.length
 own:∀b,ow' b≠none->ow b≠none∨h.length<=b
theorem yQ.refl (ow:yC)(h:Heap):yQ ow h ow h:=⟨.refl _ _,Nat.le_refl _,λb hb=>.inl hb⟩
theorem yQ.trans {ow0 ow1 ow2:yC}{h0 h1 h2:Heap}(a:yQ ow0 h0 ow1 h1)(b:yQ ow1 h1 ow2 h2):yQ ow0 h0 ow2 h2:=by
 refine⟨λk B hk hB=> ?_,Nat.le_trans a.len b.len,λk hk=> ?_⟩
 ·refine b.keeps k B (λhn=> ?_) (a.keeps k B hk hB)
  rcases a.own k hn with h|h
  ·exact hk h
  ·have:=zD hB;omega
 ·rcases b.own k hk with h|h
  ·exact a.own k h
  ·exact .inr (Nat.le_trans a.len h)
theorem yQ.ext {ow:yC}{h h':Heap}(e:Ext h h'):yQ ow h ow h':=⟨zH e,e.len,λb hb=>.inl hb⟩
section
variable{h h':Heap}{ow ow':yC}{p m:Nat}{qp:OSl}{es:Ents}{cl:Nat}{D:DS}{f:FA}
theorem zK5.keeps (F:zK5 h ow f){X:Nat->Prop}(K:zI X h h')(hX:∀b,(ow b=some .file/\b=f.b)∨ow b=some (.now f.b)∨ow b=some (.safe f.b)->¬X b)
  (ho:∀b r,ow b=some r->ow' b=some r):zK5 h' ow' f:=by
 obtain⟨r,qn,qs,c,a1,a2,r1,r2⟩:=F
 exact⟨ho _ _ r,qn,qs,K _ _ (hX _ (.inl ⟨r,rfl⟩)) c,a1.keeps K (λs hs=>hX _ (.inr (.inl (r1 s hs)))),a2.keeps K (λs hs=>hX _ (.inr (.inr (r2 s hs)))),λs hs=>ho _ _ (r1 s hs),λs hs=>ho _ _ (r2 s hs)⟩
theorem xH.ext (C:xH h ow p m qp es cl D)(K:zI (λb=>ow b=none) h h')(hl:h.length<=h'.length):xH h' ow p m qp es cl D:=
 {C with
  live:=λb hb=>Nat.lt_of_lt_of_le (C.live b hb) hl
  pb:=K _ _ (by simp[C.pr]) C.pb
  mb:=K _ _ (by simp[C.mr]) C.mb
  pnd:=C.pnd.keeps K (λs hs=>by simp[C.pndr s hs])
  file:=λf hf=>(C.file f hf).keeps K (λb hb=>by rcases hb with⟨hb,_⟩|hb|hb<;>simp[hb]) (λ_ _ h=>h)}
theorem xB.ext (R:xB h ow p D)(K:zI (λb=>ow b=none) h h')(hl:h.length<=h'.length):xB h' ow p D:=by
 obtain⟨m,qp,es,cl,C⟩:=R;exact⟨m,qp,es,cl,C.ext K hl⟩
theorem xB.grow (R:xB h ow p D)(e:Ext h h'):xB h' ow p D:=R.ext (zH e) e.len
theorem xB.live (R:xB h ow p D):∀b,ow b≠none->b<h.length:=by obtain⟨m,qp,es,cl,C⟩:=R;exact C.live
theorem xH.at (C:xH h ow p m qp es cl D){k:Nat}{x:AV}(hx: [AV.map (some m),.sl qp,.int .i64 D.limit,.int .i64 D.left,.bool D.off][k]?=some x):zA h ⟨p,0+k⟩ 1=some [x]:=by
 have hk:k<5:=by simpa using zD hx
 rw[zP (p:=⟨p,0+k⟩) C.pb (by show 0+k+1<=5;omega)]
 simp only[Nat.zero_add]
 rw[List.take_one,List.head?_drop,hx]
 rfl
theorem xH.put (C:xH h ow p m qp es cl D){D':DS}{B:Blk}(hB:B= .cells [.map (some m),.sl qp,.int .i64 D'.limit,.int .i64 D'.left,.bool D'.off] true)
  (hf:D'.files=D.files)(hp:D'.pends=D.pends)(hl:D'.limit=D.limit)(hlf: -1<=D'.left/\D'.left<=9223372036854775807):xH (h.set p B) ow p m qp es cl D'/\yQ ow h ow (h.set p B):=by
 have K:zI (λb=>b=p) h (h.set p B):=zO rfl
 have ne:∀b r,ow b=some r->r≠ .disk->¬b=p:=λb r hr hn he=>by subst he;rw[C.pr] at hr;exact hn (Option.some.inj hr).symm
 refine⟨⟨λb hb=>by rw[List.length_set];exact C.live b hb,C.pr,C.mr,?_,?_,by rw[hf];exact C.ents,C.born,C.clk,?_,C.pndr,?_,by rw[hf];exact C.names,by rw[hf];exact C.blocks,by rw[hp,hf];exact C.pfile,by rw[hf];exact C.safe,by rw[hf];exact C.nlen,by rw[hf];exact C.many,by rw[hf];exact C.used,by rw[hl];exact C.lim,hlf⟩,⟨λb B' hb hB'=> ?_,by simp,λb hb=>.inl hb⟩⟩
 ·rw[List.getElem?_set_self (zD C.pb),hB]
 ·exact K _ _ (ne _ _ C.mr (by simp)) C.mb
 ·rw[hp];exact C.pnd.keeps K (λs hs=>ne _ _ (C.pndr s hs) (by simp))
 ·rw[hf]
  intro f hf
  exact(C.file f hf).keeps K (λb hb=>by rcases hb with⟨hb,_⟩|hb|hb<;>exact ne _ _ hb (by simp)) (λ_ _ h=>h)
 ·exact K _ _ (λhe=>by subst he;exact hb (by show ow _≠none;rw[C.pr];simp)) hB'
def xZ(ow:yC)(q:OSl)(r:Role):yC:=λb=>match q with
 |some s=>if b=s.b then some r else ow b
 |none=>ow b
theorem jD {n:Nat}{q:OSl}{r:Role}(hl:∀b,ow b≠none->b<n)(hq:∀s,q=some s->n<=s.b∨ow s.b=some r):∀b r',ow b=some r'->xZ ow q r b=some r':=by
 intro b r' hb
 unfold xZ
 cases q with
 |none=>exact hb
 |some s=>
  simp only
  split
  ·rename_i he
   subst he
   rcases hq s rfl with h|h
   ·have:=hl s.b (by simp[hb]);omega
   ·rw[h] at hb;exact hb
  ·exact hb
theorem xY {q:OSl}{r:Role}:∀s,q=some s->xZ ow q r s.b=some r:=by
 intro s hs;subst hs;simp[xZ]
theorem xI {n:Nat}{q:OSl}{r:Role}(hq:∀s,q=some s->n<=s.b∨ow s.b=some r):∀b,xZ ow q r b≠none->ow b≠none∨n<=b:=by
 intro b hb
 unfold xZ at hb
 cases q with
 |none=>exact .inl hb
 |some s=>
  simp only at hb
  split at hb
  ·rename_i he;subst he
   rcases hq s rfl with h|h
   ·exact .inr h
   ·exact .inl (by simp[h])
  ·exact .inl hb
theorem zG8:∀{es:Ents} {fs:List FA},es.map (λe=>(e.1,e.2.1))=fs.map zKQ->zC0 es=some (fs.map (·.name))
 | [],[],_=>rfl
 | [],f::fs,h=>by simp at h
 |e::es,[],h=>by simp at h
 |(k,v,n)::es,f::fs,h=>by
  simp only[List.map_cons,List.cons.injEq,zKQ,Prod.mk.injEq] at h
  obtain⟨⟨rfl,rfl⟩,h⟩:=h
  simp only[zC0,zG8 h,List.map_cons]
theorem zB5 {P:Program}{kt:TypeId}(hkt:P.underlying kt=some .string){s:Bs}{K:Option (Nat×AV×Nat)->Prop}:∀{es:Ents} {fs:List FA} {i:Nat},es.map (λe=>(e.1,e.2.1))=fs.map zKQ->
  (fs.find? (λf=>f.name==s)=none->K none)->(∀j f n,fs.find? (λf=>f.name==s)=some f->fs[j]?=some f->es[j]?=some (.str s,.ptr (some ⟨f.b,0⟩),n)->K (some (i+j,.ptr (some ⟨f.b,0⟩),n)))->jP P kt (.str s) es i K
 | [],[],i,_,h1,_=>h1 rfl
 | [],f::fs,i,h,_,_=>by simp at h
 |e::es,[],i,h,_,_=>by simp at h
 |(k,v,n)::es,f::fs,i,h,h1,h2=>by
  simp only[List.map_cons,List.cons.injEq,zKQ,Prod.mk.injEq] at h
  obtain⟨⟨rfl,rfl⟩,h⟩:=h
  unfold jP vW
  rw[hkt]
  refine zB (λg=> ?_) λg=> ?_
  ·have hs:s=f.name:=by simpa using g
   subst hs
   exact h2 0 f n (by simp) rfl rfl
  ·have hne:¬f.name=s:=λhe=>by subst he;simp at g
   have hf:(f::fs).find? (λf=>f.name==s)=fs.find? (λf=>f.name==s):=by
    have hb:(f.name==s)=false:=by simpa using hne
    simp only[List.find?_cons,hb]
   refine zB5 hkt h (λhn=>h1 (by rw[hf];exact hn)) λj g' n' e1 e2 e3=> ?_
   have:=h2 (j+1) g' n' (by rw[hf];exact e1) (by simpa using e2) (by simpa using e3)
   rw[show i+1+j=i+(j+1) by omega];exact this
theorem xH.look (C:xH h ow p m qp es cl D){s:Bs}{K:AV->Prop}(h0:D.find s=none->K (.ptr none))(h1:∀f,D.find s=some f->f∈D.files->f.name=s->K (.ptr (some ⟨f.b,0⟩))):xO Tryz.prog 9 166 (some m) (.str s) false h K:=by
 have hm:zE7 h (some m)=some es:=by simp only[zE7,C.mb]
 unfold xO
 rw[hm]
 have hz:tz Tryz.prog 166=some (.ptr none):=by kernel_rfl
 have hk:zBK Tryz.prog 9 (.str s)=true:=by simp only[zBK,Tryz.underlying9]
 simp only[hz,hk,need]
 refine zB5 Tryz.underlying9 C.ents (λhn=>h0 hn) λj f n e1 e2 e3=> ?_
 exact h1 f e1 (List.mem_of_getElem? e2) (by have:=List.find?_some e1;simpa using this)
end
section
variable{h h':Heap}{ow ow':yC}{p m:Nat}{qp:OSl}{es:Ents}{cl:Nat}{D:DS}{f:FA}{Q:AHp}
theorem d102 (R:xB h ow p D)(hQ:Q (.bool true) h):AC Tryz.prog 102 [.ptr (some ⟨p,0⟩)] h Q:=ac102 (by
 obtain⟨m,qp,es,cl,C⟩:=R
 unfold vc102
 exact⟨some m,C.at (k:=0) rfl,hQ⟩)
theorem d267 (R:xB h ow p D)(hQ:Q (.int .i64 (if D.off then 50 else 0)) h):AC Tryz.prog 267 [.ptr (some ⟨p,0⟩)] h Q:=ac267 (by
 unfold vc267
 refine d102 R ⟨_,rfl,?_⟩
 obtain⟨m,qp,es,cl,C⟩:=R
 refine⟨_,C.at (k:=4) rfl,zB (λg=> ?_) (λg=> ?_)⟩
 ·rw[g] at hQ;exact hQ
 ·rw[g] at hQ;exact hQ)
theorem d266 {s:Bs}(hQ:Q (.bool (mayN s)) h):AC Tryz.prog 266 [.str s] h Q:=ac266 (by
 unfold vc266
 unfold mayN at hQ
 refine zB (λg=> ?_) (λg=> ?_)
 ·replace g:=of_decide_eq_true g
  rw[decide_eq_true (by omega),Bool.true_and] at hQ
  have:decide ((s.length:Int)<=24)=decide (s.length<=24):=by congr 1;simp;omega
  rw[this];exact hQ
 ·replace g:=of_decide_eq_false g
  rw[decide_eq_false (by omega),Bool.false_and] at hQ
  exact hQ)
theorem d216 (R:xB h ow p D){s:Bs}(h0:D.off=true->Q (.tup [.ptr none,.int .i64 50]) h)(h1:D.off=false->D.find s=none->Q (.tup [.ptr none,.int .i64 4]) h)
  (h2:∀f,D.off=false->D.find s=some f->f∈D.files->f.name=s->Q (.tup [.ptr (some ⟨f.b,0⟩),.int .i64 0]) h):AC Tryz.prog 216 [.ptr (some ⟨p,0⟩),.str s] h Q:=ac216 (by
 unfold vc216
 refine d267 R ⟨_,rfl,?_⟩
 cases ho:D.off with
 |true=>exact h0 ho
 |false=>
  obtain⟨m,qp,es,cl,C⟩:=R
  refine⟨_,C.at (k:=0) rfl,C.look (λhn=>⟨_,rfl,h1 ho hn⟩) λf hf hm hs=>⟨_,rfl,h2 f ho hf hm hs⟩⟩)
theorem d217 (R:xB h ow p D)(hQ:∀h',xB h' ow p D.deed.2->yQ ow h ow h'->Q (.int .i64 D.deed.1) h'):AC Tryz.prog 217 [.ptr (some ⟨p,0⟩)] h Q:=ac217 (by
 obtain⟨m,qp,es,cl,C⟩:=R
 have hlf:=C.lft
 unfold vc217
 unfold DS.deed at hQ
 refine⟨D.left,C.at (k:=3) rfl,zB (λg=> ?_) (λg=> ?_)⟩
 ·have g:D.left=0:=by simpa using g
  rw[if_pos g] at hQ
  refine zCF C.pb (by simp) ?_
  obtain⟨C',S⟩:=C.put (D':={D with off:=true}) (B:=.cells (splice [.map (some m),.sl qp,.int .i64 D.limit,.int .i64 D.left,.bool D.off] (0+4) [.bool true]) true) rfl rfl rfl rfl hlf
  exact hQ _ ⟨_,_,_,_,C'⟩ S
 ·have g:¬D.left=0:=by simpa using g
  rw[if_neg g] at hQ
  refine⟨D.left,C.at (k:=3) rfl,zB (λg=> ?_) (λg=> ?_)⟩
  ·replace g:=of_decide_eq_true g
   rw[if_pos g] at hQ
   refine⟨D.left,C.at (k:=3) rfl,?_⟩
   rw[zF ⟨by omega,by omega⟩]
   refine zCF C.pb (by simp) ?_
   obtain⟨C',S⟩:=C.put (D':={D with left:=D.left-1}) (B:=.cells (splice [.map (some m),.sl qp,.int .i64 D.limit,.int .i64 D.left,.bool D.off] (0+3) [.int .i64 (D.left-1)]) true) rfl rfl rfl rfl (by simp only;omega)
   exact hQ _ ⟨_,_,_,_,C'⟩ S
  ·replace g:=of_decide_eq_false g
   rw[if_neg g] at hQ
   exact hQ _ ⟨_,_,_,_,C⟩ (.refl _ _))
theorem zK5.at (F:zK5 h ow f):∃qn qs,zA h ⟨f.b,0+0⟩ 1=some [.str f.name]/\zA h ⟨f.b,0+1⟩ 1=some [.sl qn]/\zA h ⟨f.b,0+2⟩ 1=some [.sl qs]/\h[f.b]?=some (.cells [.str f.name,.sl qn,.sl qs] true)/\AppJ secE h qn f.now/\AppJ secE h qs f.safe/\
  (∀s,qn=some s->ow s.b=some (.now f.b))/\(∀s,qs=some s->ow s.b=some (.safe f.b)):=by
 obtain⟨r,qn,qs,c,a⟩:=F
 exact⟨qn,qs,by rw[xQ c (by simp)];rfl,by rw[xQ c (by simp)];rfl,by rw[xQ c (by simp)];rfl,c,a⟩
theorem d159 (R:xB h ow p D){s:Bs}(h0:D.find s=none->Q (.tup [.int .i64 0,.int .i64 4]) h)(h1:∀f,D.find s=some f->Q (.tup [.int .i64 (f.now.length:Nat),.int .i64 0]) h):AC Tryz.prog 159 [.ptr (some ⟨p,0⟩),.str s] h Q:=ac159 (by
 unfold vc159
 refine d102 R ⟨_,rfl,?_⟩
 obtain⟨m,qp,es,cl,C⟩:=R
 refine⟨_,C.at (k:=0) rfl,C.look (λhn=>⟨_,rfl,h0 hn⟩) λf hf hm hs=>⟨_,rfl,?_⟩⟩
 obtain⟨qn,qs,c0,c1,c2,c,a1,a2,r1,r2⟩:=(C.file f hm).at
 refine⟨qn,c1,?_⟩
 rw[a1.hasL.len]
 exact h1 f hf)
theorem d63 {n:Int}(h0:0<=n)(h1:n<=16384)(hQ:∀ow,xB ((h++[.mp [] 0])++[.cells [.map (some h.length),.sl none,.int .i64 n,.int .i64 (-1),.bool false] true]) ow (h.length+1) (zBQ n)->(∀b,ow b≠none->h.length<=b)->Q (.tup [.ptr (some ⟨h.length+1,0⟩),.int .i64 0]) ((h++[.mp [] 0])++[.cells [.map (some h.length),.sl none,.int .i64 n,.int .i64 (-1),.bool false] true])):AC Tryz.prog 63 [.int .i64 n] h Q:=ac63 (by
 unfold vc63 PNew
 refine zB (λg=> ?_) (λ_=> ?_)
 ·replace g:=of_decide_eq_true g;omega
 refine zB (λg=> ?_) (λ_=> ?_)
 ·replace g:=of_decide_eq_true g;omega
 have e:(h++[Blk.mp [] 0]).length=h.length+1:=by simp
 rw[e]
 refine hQ (λb=>if b=h.length then some .map else if b=h.length+1 then some .disk else none) ⟨h.length,none,[],0,?_⟩ λb hb=> ?_
 ·refine⟨λb hb=> ?_,by simp,by simp,?_,?_,rfl,by simp,by simp,.inl ⟨rfl,rfl⟩,by simp,by simp[zBQ],by simp[zBQ],by simp[zBQ],by simp[zBQ],by simp[zBQ],by simp[zBQ],by simp[zBQ],by simp[zBQ],h1,by simp[zBQ]⟩
  ·simp only[ne_eq] at hb
   split at hb
   ·simp;omega
   ·split at hb
    ·simp;omega
    ·exact(hb rfl).elim
  ·rw[List.getElem?_append_right (by simp)];simp[zBQ]
  ·rw[List.getElem?_append_left (by simp)];simp
 ·simp only[ne_eq] at hb
  split at hb
  ·omega
  ·split at hb
   ·omega
   ·exact(hb rfl).elim)
end
theorem zFB {β:Type}{fs:List FA}{f f':FA}(e:FA->β)(hn:(fs.map (·.b)).Nodup)(hf:f∈fs)(hb:f'.b=f.b)(h:e f'=e f):(upF fs f').map e=fs.map e:=by
 rw[upF,List.map_map]
 apply List.map_congr_left
 intro g hg
 simp only[Function.comp]
 split
 ·rename_i h2
  have:=zFR hn hg hf (by rw[h2,hb])
  rw[this,h]
 ·rfl
theorem zHQ {fs:List FA}{f f':FA}(e:FA->Nat)(hn:(fs.map (·.b)).Nodup)(hf:f∈fs)(hb:f'.b=f.b):((upF fs f').map e).sum+e f=(fs.map e).sum+e f':=by
 induction fs with
 |nil=>cases hf
 |cons x fs ih=>
  have hn':=hn
  simp only[List.map_cons,List.nodup_cons,List.mem_map,not_exists,not_and] at hn
  rcases List.mem_cons.1 hf with rfl|hf
  ·have:upF fs f'=fs:=by
    unfold upF
    conv=>rhs;rw[<-List.map_id fs]
    apply List.map_congr_left
    intro g hg
    rw[if_neg (λh=>hn.1 g hg (by rw[h,hb]))];rfl
   have h1:upF (f::fs) f'=f'::upF fs f':=by simp[upF,hb]
   rw[h1,this]
   simp only[List.map_cons,List.sum_cons];omega
  ·have hx:¬x.b=f'.b:=λh=>hn.1 f hf (by rw[h,hb])
   have h1:upF (x::fs) f'=x::upF fs f':=by simp[upF,hx]
   rw[h1]
   simp only[List.map_cons,List.sum_cons]
   have:=ih hn.2 hf;omega
section
variable{h h':Heap}{ow ow':yC}{p m:Nat}{qp:OSl}{es:Ents}{cl:Nat}{D:DS}{f f':FA}{Q:AHp}
theorem xH.upFile (C:xH h ow p m qp es cl D)(hf:f∈D.files)(hb:f'.b=f.b)(hn:f'.name=f.name)(F':zK5 h' ow' f')
  (K:zI (λb=>b=f.b∨ow b=some (.now f.b)∨ow b=some (.safe f.b)) h h')(hl:h.length<=h'.length)(ho:∀b r,ow b=some r->ow' b=some r)
  (hol:∀b,ow' b≠none->b<h'.length)(hos:∀b,ow' b≠none->ow b≠none∨h.length<=b)
  (hpf:∀x∈D.pends,x.1=f.b->x.2.1<f'.now.length)(hs:f'.safe.length<=f'.now.length)(hu:((upF D.files f').map (·.now.length)).sum<=16384):
  xH h' ow' p m qp es cl {D with files:=upF D.files f'}/\yQ ow h ow' h':=by
 have hfr:=(C.file f hf).role
 have ne:∀b r,ow b=some r->r≠ .file->(∀k,r≠ .now k)->(∀k,r≠ .safe k)->¬(b=f.b∨ow b=some (.now f.b)∨ow b=some (.safe f.b)):=by
  intro b r hr h1 h2 h3 hc
  rcases hc with rfl|hc|hc
  ·rw[hfr] at hr;exact h1 (Option.some.inj hr).symm
  ·rw[hr] at hc;exact h2 _ (Option.some.inj hc)
  ·rw[hr] at hc;exact h3 _ (Option.some.inj hc)
 refine⟨⟨hol,ho _ _ C.pr,ho _ _ C.mr,?_,?_,?_,C.born,C.clk,?_,λs hs=>ho _ _ (C.pndr s hs),?_,?_,?_,?_,?_,?_,?_,hu,C.lim,C.lft⟩,⟨λb B hb hB=> ?_,hl,hos⟩⟩
 ·exact K _ _ (ne _ _ C.pr (by simp) (by simp) (by simp)) C.pb
 ·exact K _ _ (ne _ _ C.mr (by simp) (by simp) (by simp)) C.mb
 ·rw[C.ents];exact(zFB zKQ C.blocks hf hb (by simp[zKQ,hb,hn])).symm
 ·exact C.pnd.keeps K (λs hs=>ne _ _ (C.pndr s hs) (by simp) (by simp) (by simp))
 ·intro g hg
  rcases zK7 hg with rfl|⟨hg,hne⟩
  ·exact F'
  ·have hgb:g.b≠f.b:=by rw[<-hb];exact hne
   have hgr:=(C.file g hg).role
   refine(C.file g hg).keeps K (λb hc hx=> ?_) ho
   rcases hc with⟨h1,h2⟩|h1|h1
   ·rcases hx with rfl|hx|hx
    ·exact hgb h2.symm
    ·rw[h1] at hx;cases hx
    ·rw[h1] at hx;cases hx
   ·rcases hx with rfl|hx|hx
    ·rw[h1] at hfr;cases hfr
    ·rw[h1] at hx;exact hgb (Role.now.inj (Option.some.inj hx))
    ·rw[h1] at hx;cases hx
   ·rcases hx with rfl|hx|hx
    ·rw[h1] at hfr;cases hfr
    ·rw[h1] at hx;cases hx
    ·rw[h1] at hx;exact hgb (Role.safe.inj (Option.some.inj hx))
 ·show((upF D.files f').map (·.name)).Nodup
  rw[zFB (·.name) C.blocks hf hb hn];exact C.names
 ·show((upF D.files f').map (·.b)).Nodup
  rw[upF_b];exact C.blocks
 ·intro x hx
  obtain⟨g,hg,h1,h2⟩:=C.pfile x hx
  by_cases he:g.b=f'.b
  ·refine⟨f',List.mem_map.2 ⟨g,hg,by rw[if_pos he]⟩,by rw[<-he,h1],hpf x hx (by rw[<-h1,he,hb])⟩
  ·exact⟨g,List.mem_map.2 ⟨g,hg,by rw[if_neg he]⟩,h1,h2⟩
 ·intro g hg
  rcases zK7 hg with rfl|⟨hg,_⟩
  ·exact hs
  ·exact C.safe g hg
 ·intro g hg
  rcases zK7 hg with rfl|⟨hg,_⟩
  ·rw[hn];exact C.nlen f hf
  ·exact C.nlen g hg
 ·show(upF D.files f').length<=256
  rw[upF,List.length_map];exact C.many
 ·refine K _ _ (λhx=>hb ?_) hB
  show ow b≠none
  rcases hx with rfl|hx|hx
  ·rw[hfr];simp
  ·rw[hx];simp
  ·rw[hx];simp
theorem zKJ {s:Bs}(h:D.find s=none):s∉D.files.map (·.name):=by
 intro hm
 obtain⟨g,hg,rfl⟩:=List.mem_map.1 hm
 have:=List.find?_eq_none.1 h g hg
 simp at this
abbrev newB(s:Bs):Blk:=.cells [.str s,.sl none,.sl none] true
abbrev newE(h:Heap)(s:Bs)(cl:Nat):AV×AV×Nat:=(.str s,.ptr (some ⟨h.length,0⟩),cl)
theorem xH.addFile (C:xH h ow p m qp es cl D){s:Bs}(hs:D.find s=none)(h24:s.length<=24)(hm:D.files.length<256):
  ∃ow',xH ((h++[newB s]).set m (.mp (es++[newE h s cl]) (cl+1))) ow' p m qp (es++[newE h s cl]) (cl+1) {D with files:=D.files++[mkF h.length s]}/\
   yQ ow h ow' ((h++[newB s]).set m (.mp (es++[newE h s cl]) (cl+1))):=by
 generalize hB:Blk.mp (es++[newE h s cl]) (cl+1)=B
 have hml:=C.live m (by simp[C.mr])
 have hpl:=C.live p (by simp[C.pr])
 have K:zI (λb=>b=m) h ((h++[newB s]).set m B):=by
  intro b X hb hX
  rw[List.getElem?_set,if_neg (λe=>hb e.symm),List.getElem?_append_left (zD hX)];exact hX
 have ho:∀b r,ow b=some r->(λb=>if b=h.length then some .file else ow b) b=some r:=by
  intro b r hr
  have:=C.live b (by simp[hr])
  simp only
  rw[if_neg (by omega)];exact hr
 have ne:∀b r,ow b=some r->r≠ .map->¬b=m:=λb r hr hn he=>by subst he;rw[C.mr] at hr;exact hn (Option.some.inj hr).symm
 refine⟨λb=>if b=h.length then some .file else ow b,⟨λb hb=> ?_,ho _ _ C.pr,ho _ _ C.mr,K _ _ (ne _ _ C.pr (by simp)) C.pb,?_,?_,?_,?_,C.pnd.keeps K (λs hs=>ne _ _ (C.pndr s hs) (by simp)),λs hs=>ho _ _ (C.pndr s hs),?_,?_,?_,?_,?_,?_,?_,?_,C.lim,C.lft⟩,⟨λb X hb hX=> ?_,by simp,λb hb=> ?_⟩⟩
 ·simp only[ne_eq] at hb
  simp only[List.length_set,List.length_append,List.length_cons,List.length_nil]
  split at hb
  ·omega
  ·have:=C.live b hb;omega
 ·rw[List.getElem?_set_self (by simp;omega),hB]
 ·rw[List.map_append,List.map_append,C.ents];rfl
 ·rw[List.map_append,List.nodup_append]
  refine⟨C.born,by simp,λa ha b hb=> ?_⟩
  obtain⟨e,he,rfl⟩:=List.mem_map.1 ha
  have:=C.clk e he
  simp at hb;omega
 ·intro e he
  rcases List.mem_append.1 he with he|he
  ·have:=C.clk e he;omega
  ·simp at he;subst he;simp
 ·intro g hg
  rcases List.mem_append.1 hg with hg|hg
  ·exact(C.file g hg).keeps K (λb hc=>by rcases hc with⟨h1,_⟩|h1|h1<;>exact ne _ _ h1 (by simp)) ho
  ·simp only[List.mem_singleton] at hg
   subst hg
   refine⟨by simp[mkF],none,none,?_,.inl ⟨rfl,rfl⟩,.inl ⟨rfl,rfl⟩,by simp,by simp⟩
   rw[List.getElem?_set,if_neg (by simp only[mkF];omega),List.getElem?_append_right (by simp[mkF])]
   simp[mkF]
 ·rw[List.map_append,List.nodup_append]
  refine⟨C.names,by simp,λa ha b hb=> ?_⟩
  simp[mkF] at hb;subst hb
  intro he;subst he;exact zKJ hs ha
 ·rw[List.map_append,List.nodup_append]
  refine⟨C.blocks,by simp,λa ha b hb=> ?_⟩
  obtain⟨g,hg,rfl⟩:=List.mem_map.1 ha
  have:=C.live g.b (by simp[(C.file g hg).role])
  simp[mkF] at hb;omega
 ·intro x hx
  obtain⟨g,hg,h1⟩:=C.pfile x hx
  exact⟨g,List.mem_append_left _ hg,h1⟩
 ·intro g hg
  rcases List.mem_append.1 hg with hg|hg
  ·exact C.safe g hg
  ·simp at hg;subst hg;simp[mkF]
 ·intro g hg
  rcases List.mem_append.1 hg with hg|hg
  ·exact C.nlen g hg
  ·simp at hg;subst hg;exact h24
 ·simp;omega
 ·have:=C.used
  simp[mkF];exact this
 ·exact K _ _ (λhe=>by subst he;exact hb (by show ow _≠none;rw[C.mr];simp)) hX
 ·simp only[ne_eq] at hb
  split at hb
  ·right;omega
  ·exact .inl hb
theorem d195 (R:xB h ow p D){s:Bs}(hQ:∀b h' ow',xB h' ow' p (D.create s b).2->yQ ow h ow' h'->Q (.int .i64 (D.create s b).1) h'):AC Tryz.prog 195 [.ptr (some ⟨p,0⟩),.str s] h Q:=ac195 (by
 unfold vc195 PNew
 refine d102 R ⟨_,rfl,?_⟩
 refine d266 ⟨_,rfl,zB (λg=> ?_) (λg=> ?_)⟩
 ·have:=hQ 0 h ow
  unfold DS.create at this
  rw[if_pos g] at this
  exact this R (.refl _ _)
 refine d267 R ⟨_,rfl,?_⟩
 cases ho:D.off with
 |true=>
  have:=hQ 0 h ow
  unfold DS.create at this
  rw[g,ho] at this
  exact this R (.refl _ _)
 |false=>
  have R0:=R
  obtain⟨m,qp,es,cl,C⟩:=R
  refine⟨_,C.at (k:=0) rfl,C.look (λhn=>⟨_,rfl,?_⟩) λf hf hm hs=>⟨_,rfl,?_⟩⟩
  rotate_left
  ·have:=hQ 0 h ow
   unfold DS.create at this
   rw[g,ho,hf] at this
   exact this R0 (.refl _ _)
  refine⟨_,C.at (k:=0) rfl,?_⟩
  have hlen:es.length=D.files.length:=by have:=congrArg List.length C.ents;simpa using this
  show zI6 h (some m) _
  unfold zI6
  have hm:zE7 h (some m)=some es:=by simp only[zE7,C.mb]
  rw[hm]
  simp only[hlen]
  refine zB (λg2=> ?_) (λg2=> ?_)
  ·replace g2:=of_decide_eq_true g2
   have:=hQ 0 h ow
   unfold DS.create at this
   rw[g,ho,hn] at this
   simp only[Bool.false_eq_true,if_false,Option.isSome_none] at this
   rw[if_pos (by omega)] at this
   exact this R0 (.refl _ _)
  ·replace g2:=of_decide_eq_false g2
   have fin:∀b,D.create s b=if D.deed.1=0 then(0,{D.deed.2 with files:=D.files++[mkF b s]}) else D.deed:=by
    intro b
    unfold DS.create
    rw[g,ho,hn]
    simp only[Bool.false_eq_true,if_false,Option.isSome_none]
    rw[if_neg (by omega)]
   simp only[fin] at hQ
   refine d217 R0 λh20 R20 S20=>⟨_,rfl,zB (λg3=> ?_) (λg3=> ?_)⟩
   ·have g3:D.deed.1=0:=by simpa using g3
    simp only[if_pos g3] at hQ
    obtain⟨m2,qp2,es2,cl2,C2⟩:=R20
    refine⟨_,C2.at (k:=0) rfl,?_⟩
    show vMap (some m2) _
    unfold vMap
    simp only
    have hmb:(h20++[Blk.cells [.str s,.sl none,.sl none] true])[m2]?=some (.mp es2 cl2):=by
     rw[List.getElem?_append_left (C2.live m2 (by simp[C2.mr]))];exact C2.mb
    unfold vX
    rw[hmb]
    have hk:zBK Tryz.prog 9 (.str s)=true:=by simp only[zBK,Tryz.underlying9]
    simp only[hk,zLY,Bool.not_false,Bool.and_true,need]
    have hfd:D.deed.2.find s=none:=by unfold DS.find;rw[yY];exact hn
    have hff:D.deed.2.files.find? (λf=>f.name==s)=none:=hfd
    refine zB5 Tryz.underlying9 C2.ents (λ_=> ?_) λj f n e1 _ _=>by rw[hff] at e1;cases e1
    have h24:s.length<=24:=by
     simp only[mayN,Bool.not_eq_false',Bool.and_eq_true,decide_eq_true_eq] at g;exact g.2
    obtain⟨ow',C3,S3⟩:=C2.addFile hfd h24 (by rw[yY];omega)
    rw[yY] at C3
    have:=hQ h20.length _ ow' ⟨_,_,_,_,C3⟩ (S20.trans S3)
    rw[g3]
    exact this
   ·have g3:¬D.deed.1=0:=by simpa using g3
    simp only[if_neg g3] at hQ
    exact hQ 0 _ _ R20 S20)
end
def lisE:Enc (Bs×Nat):=⟨2,λx=>[.str x.1,.int .i64 (x.2:Nat)],λ_=>rfl,by omega,λ_=>rfl⟩
section
variable{h h':Heap}{ow ow':yC}{p m:Nat}{qp:OSl}{es:Ents}{cl:Nat}{D:DS}{f f':FA}{Q:AHp}
theorem zR0 (hn:(D.files.map (·.name)).Nodup)(hf:f∈D.files):D.find f.name=some f:=by
 have:(D.files.find? (λg=>g.name==f.name)).isSome:=by
  rw[List.find?_isSome];exact⟨f,hf,by simp⟩
 obtain⟨g,hg⟩:=Option.isSome_iff_exists.1 this
 have h1:=List.mem_of_find?_eq_some hg
 have h2:g.name=f.name:=by simpa using List.find?_some hg
 rw[DS.find,hg,uniq_n hn h1 hf h2]
theorem zTW (hn:(D.files.map (·.name)).Nodup):(D.list.map (·.2)).sum=D.used:=by
 have h1:D.list.map (·.2)=D.namesL.map D.lenOf:=by simp[DS.list,List.map_map,Function.comp_def]
 have hp:D.namesL.Perm (D.files.map (·.name)):=(List.perm_ext_iff_of_nodup zCL hn).2 λs=>zBU
 have h2:(D.files.map (·.name)).map D.lenOf=D.files.map (·.now.length):=by
  rw[List.map_map]
  apply List.map_congr_left
  intro g hg
  simp only[Function.comp,DS.lenOf,zR0 hn hg]
 rw[h1,DS.used,<-h2]
 exact(hp.map D.lenOf).sum_nat
theorem zLB (l:List Nat)(i:Nat):(l.take i).sum<=l.sum:=by
 conv=>rhs;rw[<-List.take_append_drop i l,List.sum_append]
 omega
theorem d62 (R:xB h ow p D)(hQ:∀q h',New lisE h h' q D.list->Q (.sl q) h'):AC Tryz.prog 62 [.ptr (some ⟨p,0⟩)] h Q:=ac62 (by
 unfold vc62 PNew
 refine d102 R ⟨_,rfl,zB (λg=>by cases g) (λ_=> ?_)⟩
 obtain⟨m,qp,es,cl,C⟩:=R
 refine⟨_,C.at (k:=0) rfl,?_⟩
 have hml:=C.live m (by simp[C.mr])
 refine keys_ac (g:=191) (by kernel_rfl) Tryz.keysLaw125 ⟨_,rfl,rfl,?_⟩
 have hx1:Ext h (h++[Blk.bx (.map (some m))]):=.app _ _
 have hss:=zG8 C.ents
 have hmany:=C.many
 refine zP9 (kt:=9) (m:=m) (cl:=cl) (es:=es) (ss:=D.files.map (·.name)) (ss':=D.namesL) (by kernel_rfl) Tryz.underlying9 Tryz.sortedLaw191 (by simp) (hx1 _ _ C.mb) hss ?_ ?_ C.names C.born C.clk (by simp;omega) (λs hs=> ?_) ?_
 ·exact(List.perm_ext_iff_of_nodup zCL C.names).2 λs=>zBU
 ·refine zBT.imp λhab=> ?_
  simp only[leB,decide_eq_true_eq]
  exact List.le_of_lt hab
 ·obtain⟨g,hg,rfl⟩:=List.mem_map.1 hs
  have:=C.nlen g hg;omega
 ·have hx2:Ext (h++[Blk.bx (.map (some m))]) (zD2 (h++[Blk.bx (.map (some m))]) D.namesL):=zLE
  obtain⟨q,e1,e2⟩:=zLD (h:=h++[Blk.bx (.map (some m))]) (l:=D.namesL)
  have hxs:=hx1.trans hx2
  rw[e1]
  generalize zD2 (h++[Blk.bx (.map (some m))]) D.namesL=hS at*
  have hlen:=e2.len
  have hnl:D.namesL.length<=256:=by
   have:=zE3 (l:=D.files.map (·.name));simp at this;unfold DS.namesL;omega
  refine⟨q,rfl,λxs h17=>∃(q13:OSl) (i:Nat),xs=[.sl q13,.int .i64 i]/\i<=D.namesL.length/\New lisE hS h17 q13 (D.list.take i),λxs _=>match xs with | [_,.int _ i]=>(D.namesL.length-i).toNat|_=>0,⟨none,0,rfl,by omega,by simpa using New.none⟩,?_⟩
  rintro q13 n14 h17 ⟨q13',i,hx,hi,N⟩
  simp only[List.cons.injEq,AV.int.injEq,AV.sl.injEq,true_and,and_true] at hx
  obtain⟨rfl,rfl⟩:=hx
  refine zB (λg=> ?_) (λg=> ?_)
  ·replace g:=of_decide_eq_true g
   refine HasL.idx (E:=strE) (e2.mono N.1) (by omega) (by omega) λpp x hx hc=>⟨x,hc,?_⟩
   have hx':D.namesL[i]?=some x:=by simpa using hx
   have C17:xH h17 ow p m qp es cl D:=C.ext (zH (hxs.trans N.1)) (hxs.trans N.1).len
   refine⟨_,C17.at (k:=0) rfl,?_⟩
   have hxm:x∈D.files.map (·.name):=zBU.1 (List.mem_of_getElem? hx')
   obtain⟨g0,hg0,hgn⟩:=List.mem_map.1 hxm
   refine C17.look (λhn=>(zKJ hn hxm).elim) λf hf hm hs=>⟨_,rfl,?_⟩
   obtain⟨qn,qs,c0,c1,c2,c,a1,a2,r1,r2⟩:=(C17.file f hm).at
   refine⟨qn,c1,?_⟩
   rw[a1.hasL.len]
   refine New.append (E:=lisE) (m:=[(x,f.now.length)]) (N.ext (Ext.app _ _)) (HasL.new (E:=lisE) (l:=[(x,f.now.length)]) (n:=1) rfl rfl) (by simp;omega) λq28 h29 N2=> ?_
   rw[zF ⟨by omega,by omega⟩]
   refine⟨trivial,⟨q28,i+1,by simp,by omega,?_⟩,by simp only;omega⟩
   have:D.list.take (i+1)=D.list.take i++[(x,f.now.length)]:=by
    rw[List.take_add_one]
    simp only[DS.list,List.getElem?_map,hx',Option.map_some,Option.toList_some]
    simp only[DS.lenOf,hf]
   rw[this];exact N2
  ·replace g:=of_decide_eq_false g
   have hi':i=D.namesL.length:=by omega
   subst hi'
   rw[List.take_of_length_le (by simp[DS.list])] at N
   exact hQ _ _ (N.of hxs))
theorem d268 (R:xB h ow p D)(hQ:∀h',Ext h h'->Q (.int .i64 (D.used:Nat)) h'):AC Tryz.prog 268 [.ptr (some ⟨p,0⟩)] h Q:=ac268 (by
 unfold vc268
 refine d62 R λq h3 N=>⟨q,rfl,?_⟩
 obtain⟨m,qp,es,cl,C⟩:=R
 have hs:=zTW C.names
 have hu:D.used<=16384:=C.used
 have hlen:=N.hasL.len
 have hll:D.list.length<=256:=by
  have:=zE3 (l:=D.files.map (·.name));have:=C.many
  simp[DS.list,DS.namesL] at*;omega
 refine⟨λxs h9=>h9=h3/\∃i:Nat,xs=[.int .i64 (((D.list.take i).map (·.2)).sum:Nat),.int .i64 i]/\i<=D.list.length,λxs _=>match xs with | [_,.int _ i]=>(D.list.length-i).toNat|_=>0,⟨rfl,0,by simp,by omega⟩,?_⟩
 rintro n5 n6 h9 ⟨rfl,i,hx,hi⟩
 simp only[List.cons.injEq,AV.int.injEq,true_and,and_true] at hx
 obtain⟨rfl,rfl⟩:=hx
 refine zB (λg=> ?_) (λg=> ?_)
 ·replace g:=of_decide_eq_true g
  refine HasL.idx (E:=lisE) N.hasL (by omega) (by omega) λpp x hx hc=>⟨x.1,_,hc,?_⟩
  have hx':D.list[i]?=some x:=by simpa using hx
  have e:((D.list.take (i+1)).map (·.2)).sum=((D.list.take i).map (·.2)).sum+x.2:=by
   rw[List.take_add_one,hx'];simp
  have hle:((D.list.take (i+1)).map (·.2)).sum<=D.used:=by
   rw[<-hs,List.map_take];exact zLB (D.list.map (·.2)) (i+1)
  have e2:((((D.list.take i).map (·.2)).sum:Nat):Int)+(x.2:Nat)=(((D.list.take (i+1)).map (·.2)).sum:Nat):=by omega
  rw[e2,zF ⟨by omega,by omega⟩,zF ⟨by omega,by omega⟩]
  exact⟨trivial,⟨rfl,i+1,by simp,by omega⟩,by simp only;omega⟩
 ·replace g:=of_decide_eq_false g
  have hi':i=D.list.length:=by omega
  subst hi'
  rw[List.take_length,hs]
  exact hQ _ N.1)
end
section
variable{h h':Heap}{ow ow':yC}{p m:Nat}{qp:OSl}{es:Ents}{cl:Nat}{D:DS}{f f':FA}{Q:AHp}
theorem xH.setPend (C:xH h ow p m qp es cl D){h1:Heap}{q':OSl}{l':List PD}(A:AppJ jF h1 q' l')(K:zI (λb=>ow b=some .pends) h h1)(hl:h.length<=h1.length)
  (hq:∀s,q'=some s->h.length<=s.b∨ow s.b=some .pends)(hp:∀x∈l',∃f∈D.files,f.b=x.1/\x.2.1<f.now.length){B:Blk}(hB:B= .cells [.map (some m),.sl q',.int .i64 D.limit,.int .i64 D.left,.bool D.off] true):
  xH (h1.set p B) (xZ ow q' .pends) p m q' es cl {D with pends:=l'}/\yQ ow h (xZ ow q' .pends) (h1.set p B):=by
 have ho:=jD (r:=.pends) C.live hq
 have hpl:=C.live p (by simp[C.pr])
 have K2:zI (λb=>b=p∨ow b=some .pends) h (h1.set p B):=by
  intro b X hb hX
  rw[List.getElem?_set,if_neg (λe=>hb (.inl e.symm))]
  exact K _ _ (λh=>hb (.inr h)) hX
 have ne:∀b r,ow b=some r->r≠ .disk->r≠ .pends->¬(b=p∨ow b=some .pends):=by
  intro b r hr h1 h2 hc
  rcases hc with rfl|hc
  ·rw[C.pr] at hr;exact h1 (Option.some.inj hr).symm
  ·rw[hr] at hc;exact h2 (Option.some.inj hc)
 have hqp:∀s,q'=some s->s.b≠p:=by
  intro s hs he
  rcases hq s hs with h|h
  ·omega
  ·rw[he,C.pr] at h;cases h
 refine⟨⟨λb hb=> ?_,ho _ _ C.pr,ho _ _ C.mr,?_,K2 _ _ (ne _ _ C.mr (by simp) (by simp)) C.mb,C.ents,C.born,C.clk,?_,xY,λf hf=> ?_,C.names,C.blocks,hp,C.safe,C.nlen,C.many,C.used,C.lim,C.lft⟩,⟨λb X hb hX=> ?_,by simpa using hl,λb hb=>xI hq b hb⟩⟩
 ·rw[List.length_set]
  rcases xI hq b hb with h|h
  ·exact Nat.lt_of_lt_of_le (C.live b h) hl
  ·have:∃s,q'=some s/\b=s.b:=by
    unfold xZ at hb
    cases q' with
    |none=>have:=C.live b hb;omega
    |some s=>
     simp only at hb
     split at hb
     ·rename_i he;exact⟨s,rfl,he⟩
     ·have:=C.live b hb;omega
   obtain⟨s,hs,rfl⟩:=this
   exact A.live s hs
 ·rw[List.getElem?_set_self (by omega),hB]
 ·refine A.keeps (X:=λb=>b=p) (zO rfl) (λs hs=>hqp s hs)
 ·exact(C.file f hf).keeps K2 (λb hc=>by rcases hc with⟨h1,_⟩|h1|h1<;>exact ne _ _ h1 (by simp) (by simp)) ho
 ·refine K2 _ _ (λhx=>hb ?_) hX
  show ow b≠none
  rcases hx with rfl|hx
  ·rw[C.pr];simp
  ·rw[hx];simp
theorem xH.setNow (C:xH h ow p m qp es cl D)(hf:f∈D.files){h1:Heap}{qn qs q':OSl}(hc:h[f.b]?=some (.cells [.str f.name,.sl qn,.sl qs] true))(a2:AppJ secE h qs f.safe)(r2:∀s,qs=some s->ow s.b=some (.safe f.b))
  {now':List Bs}(A:AppJ secE h1 q' now')(K:zI (λb=>ow b=some (.now f.b)) h h1)(hl:h.length<=h1.length)(hq:∀s,q'=some s->h.length<=s.b∨ow s.b=some (.now f.b))
  (hpf:∀x∈D.pends,x.1=f.b->x.2.1<now'.length)(hs:f.safe.length<=now'.length)(hu:((upF D.files {f with now:=now'}).map (·.now.length)).sum<=16384){B:Blk}(hB:B= .cells [.str f.name,.sl q',.sl qs] true):
  xH (h1.set f.b B) (xZ ow q' (.now f.b)) p m qp es cl {D with files:=upF D.files {f with now:=now'}}/\yQ ow h (xZ ow q' (.now f.b)) (h1.set f.b B):=by
 have ho:=jD (r:=.now f.b) C.live hq
 have hfr:=(C.file f hf).role
 have hfl:=C.live f.b (by simp[hfr])
 have hqf:∀s,q'=some s->s.b≠f.b:=by
  intro s hs he
  rcases hq s hs with h|h
  ·omega
  ·rw[he,hfr] at h;cases h
 have K2:zI (λb=>b=f.b∨ow b=some (.now f.b)) h (h1.set f.b B):=by
  intro b X hb hX
  rw[List.getElem?_set,if_neg (λe=>hb (.inl e.symm))]
  exact K _ _ (λh=>hb (.inr h)) hX
 refine C.upFile (f':={f with now:=now'}) hf rfl rfl ?_ (λb X hb hX=>K2 _ _ (λhx=>hb (hx.imp id .inl)) hX) (by simpa using hl) ho (λb hb=> ?_) (λb hb=>xI hq b hb) hpf hs hu
 ·refine⟨ho _ _ hfr,q',qs,?_,?_,?_,xY,λs hs=>ho _ _ (r2 s hs)⟩
  ·show(h1.set f.b B)[f.b]?=_
   rw[List.getElem?_set_self (by omega),hB]
  ·exact A.keeps (X:=λb=>b=f.b) (zO rfl) (λs hs=>hqf s hs)
  ·refine a2.keeps K2 (λs hs hx=> ?_)
   have:=r2 s hs
   rcases hx with hx|hx
   ·rw[hx,hfr] at this;cases this
   ·rw[this] at hx;cases hx
 ·rw[List.length_set]
  rcases xI hq b hb with h|h
  ·exact Nat.lt_of_lt_of_le (C.live b h) hl
  ·have:∃s,q'=some s/\b=s.b:=by
    unfold xZ at hb
    cases q' with
    |none=>have:=C.live b hb;omega
    |some s=>
     simp only at hb
     split at hb
     ·rename_i he;exact⟨s,rfl,he⟩
     ·have:=C.live b hb;omega
   obtain⟨s,hs,rfl⟩:=this
   exact A.live s hs
theorem zCQ {c xs:List AV}(h:c.length=xs.length):splice c 0 xs=xs:=by
 simp[splice,<-h]
theorem zTC {r s:Bs}:secE.f s=splice (secE.f r) 0 (secA s):=by
 rw[zCQ (by show(secA r).length=(secA s).length;simp[zA5])];rfl
theorem d269 (R:xB h ow p D)(hf:f∈D.files){i:Nat}(hi:i<f.now.length){s:Bs}(hpl:D.pends.length<=1000000)(hQ:∀h' ow',xB h' ow' p (D.write f i s)->yQ ow h ow' h'->Q (.tup []) h'):
  AC Tryz.prog 269 [.ptr (some ⟨p,0⟩),.ptr (some ⟨f.b,0⟩),.int .i64 (i:Nat),.agg (cel .u8 64 (secB s))] h Q:=ac269 (by
 unfold vc269 PNew
 obtain⟨m,qp,es,cl,C⟩:=R
 obtain⟨qn,qs,c0,c1,c2,c,a1,a2,r1,r2⟩:=(C.file f hf).at
 have hfr:=(C.file f hf).role
 refine⟨qn,c1,?_⟩
 refine AppJ.idx (E:=secE) a1 (by omega) (by omega) λpp x hx hcx hpp=> ?_
 have hx':f.now[i]?=some x:=by simpa using hx
 refine AppJ.store (E:=secE) (k:=0) (r':=s) (xs:=secA s) a1 hx' (by show 0+(secA s).length<=64;simp[zA5]) zTC (p:=pp) (λs' hs'=>by rw[hpp s' hs'];simp) λh8 A8 K8 hl8=> ?_
 have hsum:=zHQ (fs:=D.files) (f:=f) (f':={f with now:=f.now.set i s}) (·.now.length) C.blocks hf rfl
 have hu:=C.used
 have K8':zI (λb=>ow b=some (.now f.b)) h h8:=by
  intro b X hb hX
  exact K8 _ _ (λ⟨s',h1,h2⟩=>hb (by rw[<-h2];exact r1 s' h1)) hX
 have F8:zK5 h8 ow {f with now:=f.now.set i s}:=by
  refine⟨hfr,qn,qs,K8' _ _ (by simp[hfr]) c,A8,a2.keeps K8' (λs' hs'=>by simp[r2 s' hs']),r1,r2⟩
 obtain⟨C8,S8⟩:=C.upFile (f':={f with now:=f.now.set i s}) hf rfl rfl F8 (λb X hb hX=>K8' _ _ (λhx=>hb (.inr (.inl hx))) hX) (by omega) (λ_ _ h=>h) (λb hb=>by rw[hl8];exact C.live b hb) (λb hb=>.inl hb)
  (λx hx hxb=>by
   obtain⟨g,hg,h1,h2⟩:=C.pfile x hx
   have:=zFR C.blocks hg hf (by rw[h1,hxb])
   subst this
   simpa using h2) (by have:=C.safe f hf;simpa using this) (by simp only[List.length_set] at hsum;omega)
 refine⟨qp,C8.at (k:=1) rfl,?_⟩
 have hx12:Ext h8 (h8++[Blk.cells ([AV.ptr (some ⟨f.b,0⟩),.int .i64 (i:Nat)]++cel .u8 64 (secB s)) true]):=.app _ _
 refine⟨⟨qp,hx12.cells (C8.at (k:=1) rfl),rfl⟩,?_⟩
 have H1:HasL jF (h8++[Blk.cells ([AV.ptr (some ⟨f.b,0⟩),.int .i64 (i:Nat)]++cel .u8 64 (secB s)) true]) (some ⟨h8.length,0,1,1,0⟩) [(f.b,i,s)]:=
  HasL.new (E:=jF) (l:=[(f.b,i,s)]) (n:=1) rfl (by simp[Enc.all,jF])
 refine AppJ.append (E:=jF) (C8.pnd.ext hx12) H1 (by simp;omega) λq13 h14 A14 K14 hl14 hq14=> ?_
 have K14':zI (λb=>ow b=some .pends) h8 h14:=by
  intro b X hb hX
  exact K14 _ _ (λ⟨s',h1,h2⟩=>hb (by rw[<-h2];exact C8.pndr s' h1)) (hx12 _ _ hX)
 have hpb:h14[p]?=some (.cells [.map (some m),.sl qp,.int .i64 D.limit,.int .i64 D.left,.bool D.off] true):=K14' _ _ (by simp[C.pr]) C8.pb
 refine yP hpb (by simp) ?_
 simp only[List.length_append,List.length_cons,List.length_nil] at hl14 hq14
 obtain⟨C16,S16⟩:=C8.setPend (l':=D.pends++[(f.b,i,s)]) (q':=q13) A14 K14' (by omega) (λs' hs'=>by
   rcases hq14 s' hs' with h|⟨s2,h1,h2⟩
   ·left;omega
   ·right;rw[<-h2];exact C8.pndr s2 h1) (λx hx=>by
   rcases List.mem_append.1 hx with hx|hx
   ·exact C8.pfile x hx
   ·simp only[List.mem_singleton] at hx
    subst hx
    exact⟨{f with now:=f.now.set i s},List.mem_map.2 ⟨f,hf,by simp⟩,rfl,by simpa using hi⟩) (B:=.cells (splice [.map (some m),.sl qp,.int .i64 D.limit,.int .i64 D.left,.bool D.off] (0+1) [.sl q13]) true) rfl
 exact hQ _ _ ⟨_,_,_,_,C16⟩ (S8.trans S16))
set_option maxRecDepth 20000 in
theorem d196 (R:xB h ow p D){s b:Bs}{q:OSl}(H:HasL byE h q b)(hqo:∀s,q=some s->ow s.b=none)(hpl:D.pends.length<=1000000)
  (hQ:∀h' ow',xB h' ow' p (D.append s b).2->yQ ow h ow' h'->Q (.int .i64 (D.append s b).1) h'):AC Tryz.prog 196 [.ptr (some ⟨p,0⟩),.str s,.sl q] h Q:=ac196 (by
 unfold vc196
 refine d102 R ⟨_,rfl,zB (λ_=> ?_) (λg=>by cases g)⟩
 have hbl:=H.len
 refine zB (λg=> ?_) (λg=> ?_)
 ·have g:¬b.length=64:=by simp[hbl] at g;omega
  have:=hQ h ow
  unfold DS.append at this
  rw[if_pos g] at this
  exact this R (.refl _ _)
 have hb64:b.length=64:=by simp[hbl] at g;omega
 clear g
 unfold DS.append at hQ
 rw[if_neg (by omega)] at hQ
 refine d216 R (λho=>⟨_,_,rfl,?_⟩) (λho hn=>⟨_,_,rfl,?_⟩) λf ho hfd hf hfn=>⟨_,_,rfl,?_⟩
 ·rw[ho] at hQ
  exact hQ h ow R (.refl _ _)
 ·rw[ho,hn] at hQ
  exact hQ h ow R (.refl _ _)
 rw[ho,hfd] at hQ
 simp only[Bool.false_eq_true,if_false] at hQ
 have R0:=R
 obtain⟨m,qp,es,cl,C⟩:=R
 show ∃n12:Int,_
 refine⟨D.limit,C.at (k:=2) rfl,?_⟩
 refine d268 R0 λh14 hx14=>⟨_,rfl,⟨D.limit,hx14.cells (C.at (k:=2) rfl),rfl⟩,?_⟩
 have R14:=R0.grow hx14
 have S14:yQ ow h ow h14:=.ext hx14
 refine zB (λg2=> ?_) (λg2=> ?_)
 ·replace g2:=of_decide_eq_true g2
  rw[if_pos (by omega)] at hQ
  exact hQ h14 ow R14 S14
 replace g2:=of_decide_eq_false g2
 rw[if_neg (by omega)] at hQ
 refine d217 R14 λh17 R17 S17=>⟨_,rfl,?_⟩
 refine zB (λg3=> ?_) (λg3=> ?_)
 ·have g3:¬D.deed.1=0:=by simpa using g3
  rw[if_neg g3] at hQ
  exact hQ h17 ow R17 (S14.trans S17)
 have g3:D.deed.1=0:=by simpa using g3
 rw[if_pos g3] at hQ
 have S17':=S14.trans S17
 have hlimC:=C.lim
 have hblk:=C.blocks
 clear C
 obtain⟨m,qp,es,cl,C⟩:=R17
 have hf17:f∈D.deed.2.files:=by rw[yY];exact hf
 obtain⟨qn,qs,c0,c1,c2,c,a1,a2,r1,r2⟩:=(C.file f hf17).at
 have hfr:=(C.file f hf17).role
 refine⟨qn,c1,?_⟩
 unfold PNew
 have hx22:Ext h17 (h17++[Blk.cells (List.replicate 64 (AV.int .u8 0)) true]):=.app _ _
 have hul:D.used<=16384:=by omega
 have hnl:f.now.length<=D.used:=by
  have hsum:=zHQ (fs:=D.files) (f:=f) (f':={f with now:=[]}) (·.now.length) hblk hf rfl
  unfold DS.used;simp only[List.length_nil] at hsum;omega
 have hsum:=zHQ (fs:=D.files) (f:=f) (f':={f with now:=f.now++[[]]}) (·.now.length) hblk hf rfl
 refine AppJ.append (E:=secE) (m:=[([]:Bs)]) (a1.ext hx22) (HasL.new (E:=secE) (l:=[([]:Bs)]) (n:=1) rfl (by simp[Enc.all,secE,<-zJK])) (by simp;omega) λq23 h24 A24 K24 hl24 hq24=> ?_
 simp only[List.length_append,List.length_cons,List.length_nil] at hl24 hq24
 have K24':zI (λb=>ow b=some (.now f.b)) h17 h24:=by
  intro b X hb hX
  exact K24 _ _ (λ⟨s',h1,h2⟩=>hb (by rw[<-h2];exact r1 s' h1)) (hx22 _ _ hX)
 have hcf:h24[f.b]?=some (.cells [.str f.name,.sl qn,.sl qs] true):=K24' _ _ (by simp[hfr]) c
 refine yP hcf (by simp) ?_
 obtain⟨C26,S26⟩:=C.setNow hf17 (q':=q23) (now':=f.now++[[]]) c a2 r2 A24 K24' (by omega) (λs' hs'=>by
   rcases hq24 s' hs' with h|⟨s2,h1,h2⟩
   ·left;omega
   ·right;rw[<-h2];exact r1 s2 h1) (λx hx hxb=>by
   obtain⟨g,hg,h1,h2⟩:=C.pfile x hx
   have:=zFR C.blocks hg hf17 (by rw[h1,hxb])
   subst this
   simp;omega) (by have:=C.safe f hf17;simp;omega) (by rw[yY];simp only[List.length_append,List.length_cons,List.length_nil,DS.used] at*;omega)
   (B:=.cells (splice [.str f.name,.sl qn,.sl qs] (0+1) [.sl q23]) true) rfl
 rw[yY] at C26
 generalize hh26:h24.set f.b (.cells (splice [.str f.name,.sl qn,.sl qs] (0+1) [.sl q23]) true)=h26 at*
 have hf26:({f with now:=f.now++[[]]}:FA)∈upF D.files {f with now:=f.now++[[]]}:=List.mem_map.2 ⟨f,hf,by simp⟩
 have hcb:h26[f.b]?=some (.cells [.str f.name,.sl q23,.sl qs] true):=by
  rw[<-hh26,List.getElem?_set_self (zD hcf)];rfl
 refine⟨q23,by rw[xQ hcb (by simp)];rfl,?_⟩
 have S26':=S17'.trans S26
 have H26:HasL byE h26 q b:=S26'.keeps.hasL (λs' hs'=>by show ¬(ow s'.b≠none);simp[hqo s' hs']) H
 cases q with
 |none=>simp only[HasL] at H;subst H;simp at hb64
 |some sq=>
  have hsl:sq.len=64:=by rw[<-hb64];exact H.1
  unfold vSl
  refine zZ (by simp[hsl]) ?_
  refine zKO (b:=secB b) ?_
  refine And.intro ?_ ?_
  ·have:=H26.2.2.2
   rw[hb64] at this
   have e:cel .u8 64 (secB b)=byE.all b:=by rw[zEM];exact zN9 hb64
   rw[e];exact this
  ·have hl23:=A24.hasL.len
   have e:((zJ q23:Int) - 1)=((f.now.length:Nat):Int):=by rw[hl23];simp
   rw[e,zF ⟨by omega,by omega⟩]
   refine d269 (f:={f with now:=f.now++[[]]}) ⟨_,_,_,_,C26⟩ hf26 (i:=f.now.length) (by simp) (by show D.deed.2.pends.length<=_;rw[xK];exact hpl) λh32 ow32 R32 S32=>⟨rfl,?_⟩
   have hw:(DS.write {D.deed.2 with files:=upF D.files {f with now:=f.now++[[]]}} {f with now:=f.now++[[]]} f.now.length b)={D.deed.2 with files:=upF D.files {f with now:=f.now++[b]},pends:=D.pends++[(f.b,f.now.length,b)]}:=by
    unfold DS.write
    simp only[xK]
    have e1:upF (upF D.files {f with now:=f.now++[[]]}) {f with now:=(f.now++[[]]).set f.now.length b}=upF D.files {f with now:=(f.now++[[]]).set f.now.length b}:=zFP (f1:={f with now:=f.now++[[]]}) rfl
    rw[e1]
    have:(f.now++[[]]).set f.now.length b=f.now++[b]:=by simp
    rw[this]
   rw[hw] at R32
   exact hQ _ _ R32 (S26'.trans S32))
end
theorem zQO {s:Bs}:byE.all (pad s)=secA s:=by
 rw[zEM]
 simp[yG,pad,secA,secB,cel,List.map_map,Function.comp_def,List.getD_eq_getElem?_getD]
section
variable{h h':Heap}{ow ow':yC}{p m:Nat}{qp:OSl}{es:Ents}{cl:Nat}{D:DS}{f f':FA}{Q:AHp}
theorem d160 (R:xB h ow p D){s:Bs}{n:Int}(h0:∀v,(D.off=true->v=50)->(D.off=false->v=4)->(D.off=false->∀f,D.find s=some f->¬(0<=n/\n<f.now.length))->Q (.tup [.sl none,.int .i64 v]) h)
  (h1:∀f x q h',D.off=false->D.find s=some f->0<=n->f.now[n.toNat]?=some x->Ext h h'->HasL byE h' q (pad x)->(∀s,q=some s->h.length<=s.b)->Q (.tup [.sl q,.int .i64 0]) h'):AC Tryz.prog 160 [.ptr (some ⟨p,0⟩),.str s,.int .i64 n] h Q:=ac160 (by
 unfold vc160
 refine d216 R (λho=>⟨_,_,rfl,?_⟩) (λho hn=>⟨_,_,rfl,?_⟩) λf ho hfd hf hfn=>⟨_,_,rfl,?_⟩
 ·exact h0 50 (λ_=>rfl) (λh=>by rw[ho] at h;cases h) (λh=>by rw[ho] at h;cases h)
 ·exact h0 4 (λh=>by rw[ho] at h;cases h) (λ_=>rfl) (λ_ f hf=>by rw[hn] at hf;cases hf)
 obtain⟨m,qp,es,cl,C⟩:=R
 obtain⟨qn,qs,c0,c1,c2,c,a1,a2,r1,r2⟩:=(C.file f hf).at
 have bad:¬(0<=n/\n<f.now.length)->Q (.tup [.sl none,.int .i64 4]) h:=λhb=>h0 4 (λh=>by rw[ho] at h;cases h) (λ_=>rfl) (λ_ g hg=>by rw[hfd] at hg;cases hg;exact hb)
 show vif (decide (n<0)) _ _
 refine zB (λg=> ?_) (λg=> ?_)
 ·replace g:=of_decide_eq_true g
  exact bad (by omega)
 replace g:=of_decide_eq_false g
 have hlen:=a1.hasL.len
 refine⟨qn,c1,zB (λg2=> ?_) (λg2=> ?_)⟩
 ·replace g2:=of_decide_eq_true g2
  exact bad (by omega)
 replace g2:=of_decide_eq_false g2
 refine⟨qn,c1,AppJ.idx (E:=secE) a1 (by omega) (by omega) λpp x hx hc hpp=> ?_⟩
 have H:HasL byE h (some ⟨pp.b,pp.o,64,64,0⟩) (pad x):=by
  refine⟨zD8.symm,Nat.le_refl _,.inl rfl,?_⟩
  rw[zQO,zD8];exact hc
 refine HasL.slice (E:=byE) H (by omega) (by simp[zD8]) (by simp) λq13 H13=> ?_
 have H13:HasL byE h q13 (pad x):=by
  have e:((pad x).take ((Option.getD none ((pad x).length:Int))).toNat).drop (0:Int).toNat=pad x:=by simp
  rw[e] at H13;exact H13
 refine e235 H13 (by rw[zD8];omega) λq14 h15 hx15 H15 hq15=>⟨q14,rfl,?_⟩
 exact h1 f x q14 h15 ho hfd (by omega) hx hx15 H15 hq15)
theorem xH.setSafe (C:xH h ow p m qp es cl D)(hf:f∈D.files){h1:Heap}{qn qs q':OSl}(hc:h[f.b]?=some (.cells [.str f.name,.sl qn,.sl qs] true))(a1:AppJ secE h qn f.now)(r1:∀s,qn=some s->ow s.b=some (.now f.b))
  {safe':List Bs}(A:AppJ secE h1 q' safe')(K:zI (λb=>ow b=some (.safe f.b)) h h1)(hl:h.length<=h1.length)(hq:∀s,q'=some s->h.length<=s.b∨ow s.b=some (.safe f.b))
  (hs:safe'.length<=f.now.length){B:Blk}(hB:B= .cells [.str f.name,.sl qn,.sl q'] true):
  xH (h1.set f.b B) (xZ ow q' (.safe f.b)) p m qp es cl {D with files:=upF D.files {f with safe:=safe'}}/\yQ ow h (xZ ow q' (.safe f.b)) (h1.set f.b B):=by
 have ho:=jD (r:=.safe f.b) C.live hq
 have hfr:=(C.file f hf).role
 have hfl:=C.live f.b (by simp[hfr])
 have hqf:∀s,q'=some s->s.b≠f.b:=by
  intro s hs he
  rcases hq s hs with h|h
  ·omega
  ·rw[he,hfr] at h;cases h
 have K2:zI (λb=>b=f.b∨ow b=some (.safe f.b)) h (h1.set f.b B):=by
  intro b X hb hX
  rw[List.getElem?_set,if_neg (λe=>hb (.inl e.symm))]
  exact K _ _ (λh=>hb (.inr h)) hX
 refine C.upFile (f':={f with safe:=safe'}) hf rfl rfl ?_ (λb X hb hX=>K2 _ _ (λhx=>hb (hx.imp id .inr)) hX) (by simpa using hl) ho (λb hb=> ?_) (λb hb=>xI hq b hb) (λx hx hxb=>by
   obtain⟨g,hg,h1,h2⟩:=C.pfile x hx
   have:=zFR C.blocks hg hf (by rw[h1,hxb])
   subst this
   exact h2) hs ?_
 ·refine⟨ho _ _ hfr,qn,q',?_,?_,?_,λs hs=>ho _ _ (r1 s hs),xY⟩
  ·show(h1.set f.b B)[f.b]?=_
   rw[List.getElem?_set_self (by omega),hB]
  ·refine a1.keeps K2 (λs hs hx=> ?_)
   have:=r1 s hs
   rcases hx with hx|hx
   ·rw[hx,hfr] at this;cases this
   ·rw[this] at hx;cases hx
  ·exact A.keeps (X:=λb=>b=f.b) (zO rfl) (λs hs=>hqf s hs)
 ·rw[List.length_set]
  rcases xI hq b hb with h|h
  ·exact Nat.lt_of_lt_of_le (C.live b h) hl
  ·have:∃s,q'=some s/\b=s.b:=by
    unfold xZ at hb
    cases q' with
    |none=>have:=C.live b hb;omega
    |some s=>
     simp only at hb
     split at hb
     ·rename_i he;exact⟨s,rfl,he⟩
     ·have:=C.live b hb;omega
   obtain⟨s,hs,rfl⟩:=this
   exact A.live s hs
 ·have:=zFB (fs:=D.files) (f:=f) (f':={f with safe:=safe'}) (·.now.length) C.blocks hf rfl rfl
  rw[this];exact C.used
theorem zQ4 {s r:Bs}{n:Nat}(hn:n<=64):secE.f (mixS s r n)=splice (secE.f r) 0 ((secA s).take n):=by
 refine List.ext_getElem? λi=> ?_
 have hlen:((secA s).take n).length=n:=by rw[List.length_take,zA5];omega
 show(secA (mixS s r n))[i]?=_
 rw[kP (by rw[hlen];show 0+n<=(secA r).length;rw[zA5];omega),hlen,if_neg (by omega),Nat.zero_add,Nat.sub_zero]
 have hget:∀t:Bs,(secA t)[i]?=if i<64 then some (.int .u8 ((t.getD i 0).toNat:Nat)) else none:=by
  intro t
  simp only[secA,cel,List.getElem?_map]
  split
  ·rename_i hi;rw[List.getElem?_range hi];rfl
  ·rename_i hi;rw[List.getElem?_eq_none (by simp;omega)];rfl
 rw[hget]
 have hg:i<64->(mixS s r n).getD i 0=if i<n then s.getD i 0 else r.getD i 0:=by
  intro hi
  rw[mixS,List.getD_eq_getElem?_getD,List.getElem?_map,List.getElem?_range hi];rfl
 by_cases h1:i<n
 ·rw[if_pos h1,if_pos (by omega),List.getElem?_take,if_pos h1,hget,if_pos (by omega),hg (by omega),if_pos h1]
 ·rw[if_neg h1]
  show _=(secA r)[i]?
  rw[hget]
  split
  ·rename_i hi;rw[hg hi,if_neg h1]
  ·rfl
theorem minI_eq {a b:Int}:minI a b=min a b:=by
 unfold minI;split<;>omega
theorem zHR {fs:List FA}(hn:(fs.map (·.b)).Nodup)(hf:f∈fs):upF fs f=fs:=by
 unfold upF
 conv=>rhs;rw[<-List.map_id fs]
 apply List.map_congr_left
 intro g hg
 split
 ·rename_i h;rw[zFR hn hg hf h];rfl
 ·rfl
end
section
variable{h h':Heap}{ow ow':yC}{p m:Nat}{qp:OSl}{es:Ents}{cl:Nat}{D:DS}{f f':FA}{Q:AHp}
theorem zFQ {fs:List FA}{f f':FA}(hf:f∈fs)(hb:f'.b=f.b):f'∈upF fs f':=List.mem_map.2 ⟨f,hf,by rw[if_pos hb.symm]⟩
def zFY(h:Heap)(b:Nat):Nat:=match zA h ⟨b,0+2⟩ 1 with |some [.sl q]=>zJ q|_=>0
set_option maxRecDepth 20000 in
theorem d113 (C:xH h ow p m qp es cl D)(hf:f∈D.files){i:Nat}(hi:i<f.now.length){s:Bs}{n:Int}
  (hQ:∀h' ow',xH h' ow' p m qp es cl {D with files:=upF D.files (zAL f i s n)}->yQ ow h ow' h'->Q (.tup []) h'):
  AC Tryz.prog 167 [.agg ([.ptr (some ⟨f.b,0⟩),.int .i64 (i:Nat)]++cel .u8 64 (secB s)),.int .i64 n] h Q:=ac167 (by
 unfold vc167 PNew
 generalize hcs: [AV.ptr (some ⟨f.b,0⟩),.int .i64 (i:Nat)]++cel .u8 64 (secB s)=cs
 have hclen:cs.length=66:=by rw[<-hcs];simp[zA5]
 have hx6:Ext h (h++[Blk.cells cs true]):=.app _ _
 have C6:=C.ext (zH hx6) hx6.len
 have S6:yQ ow h ow (h++[Blk.cells cs true]):=.ext hx6
 have ha:(h++[Blk.cells cs true])[h.length]?=some (.cells cs true):=by simp
 have hoa:ow h.length=none:=by
  cases ho:ow h.length with
  |none=>rfl
  |some r=>have:=C.live h.length (by simp[ho]);omega
 generalize hh6:h++[Blk.cells cs true]=h6 at*
 rw[minI_eq]
 refine zB (λg=> ?_) (λg=> ?_)
 ·replace g:=of_decide_eq_true g
  have:zAL f i s n=f:=by unfold zAL;rw[if_pos (by omega)]
  rw[this,zHR C.blocks hf] at hQ
  exact hQ _ _ C6 S6
 replace g:=of_decide_eq_false g
 have hfr:=(C.file f hf).role
 let St:Heap->yC->Nat->Prop:=λh9 ow9 j=>xH h9 ow9 p m qp es cl {D with files:=upF D.files {f with safe:=yK f.safe j}}/\yQ ow h6 ow9 h9/\j<=i+1
 have hsl:=C.safe f hf
 have rd:∀{h9:Heap} {ow9:yC} {j:Nat},St h9 ow9 j->∃qn qs,zA h9 ⟨f.b,0+2⟩ 1=some [.sl qs]/\h9[f.b]?=some (.cells [.str f.name,.sl qn,.sl qs] true)/\AppJ secE h9 qn f.now/\AppJ secE h9 qs (yK f.safe j)/\(∀s,qn=some s->ow9 s.b=some (.now f.b))/\(∀s,qs=some s->ow9 s.b=some (.safe f.b))/\ow9 f.b=some .file:=by
  rintro h9 ow9 j ⟨C9,_,_⟩
  have F:=C9.file {f with safe:=yK f.safe j} (zFQ hf rfl)
  obtain⟨qn,qs,c0,c1,c2,c,a1,a2,r1,r2⟩:=F.at
  exact⟨qn,qs,c2,c,a1,a2,r1,r2,F.role⟩
 have box:∀{h9:Heap} {ow9:yC},yQ ow h6 ow9 h9->h9[h.length]?=some (.cells cs true):=λS=>S.keeps _ _ (by simp[hoa]) ha
 have b0:∀{h9:Heap},h9[h.length]?=some (.cells cs true)->zA h9 ⟨h.length,0⟩ 1=some [.ptr (some ⟨f.b,0⟩)]:=λhb=>by
  rw[zP (p:=⟨h.length,0⟩) hb (by rw[hclen];show 0+1<=66;omega),<-hcs];rfl
 have b1:∀{h9:Heap},h9[h.length]?=some (.cells cs true)->zA h9 ⟨h.length,1⟩ 1=some [.int .i64 (i:Nat)]:=λhb=>by
  rw[zP (p:=⟨h.length,1⟩) hb (by rw[hclen];show 1+1<=66;omega),<-hcs];rfl
 have hl6:h.length<h6.length:=by rw[<-hh6];simp
 have e0:upF D.files {f with safe:=yK f.safe 0}=D.files:=by rw[zID (by omega)];exact zHR C.blocks hf
 refine⟨λxs h9=>xs=[]/\∃ow9 j,St h9 ow9 j,λ_ h9=>i+1-zFY h9 f.b,⟨rfl,ow,0,by show xH h6 ow p m qp es cl {D with files:=upF D.files {f with safe:=yK f.safe 0}};rw[e0];exact C6,.refl _ _,by omega⟩,?_⟩
 rintro h9 ⟨_,ow9,j,S9⟩
 obtain⟨qn,qs,c2,c,a1,a2,r1,r2,fr9⟩:=rd S9
 have hb9:=box S9.2.1
 have hlq:=a2.hasL.len
 refine⟨_,b0 hb9,qs,c2,_,b1 hb9,zB (λg2=> ?_) (λg2=> ?_)⟩
 ·replace g2:=of_decide_eq_true g2
  have hx19:Ext h9 (h9++[Blk.cells (List.replicate 64 (AV.int .u8 0)) true]):=.app _ _
  refine⟨_,b0 hb9,_,b0 hb9,qs,c2,?_⟩
  refine⟨⟨qs,hx19.cells c2,rfl⟩,⟨_,hx19.cells (b0 hb9),rfl⟩,⟨_,hx19.cells (b0 hb9),rfl⟩,?_⟩
  have hpl:(yK f.safe j).length<=i:=by omega
  have hul:f.now.length<=16384:=by
   have hsum:=zHQ (fs:=D.files) (f:=f) (f':={f with now:=[]}) (·.now.length) C.blocks hf rfl
   have:=C.used
   simp only[List.length_nil] at hsum;omega
  refine AppJ.append (E:=secE) (m:=[([]:Bs)]) (a2.ext hx19) (HasL.new (E:=secE) (l:=[([]:Bs)]) (n:=1) rfl (by simp[Enc.all,secE,<-zJK])) (by simp;omega) λq20 h21 A21 K21 hl21 hq21=> ?_
  simp only[List.length_append,List.length_cons,List.length_nil] at hl21 hq21
  have K21':zI (λb=>ow9 b=some (.safe f.b)) h9 h21:=by
   intro b X hb hX
   exact K21 _ _ (λ⟨s',h1,h2⟩=>hb (by rw[<-h2];exact r2 s' h1)) (hx19 _ _ hX)
  have how9:ow9 h.length=none:=by
   cases ho:ow9 h.length with
   |none=>rfl
   |some r=>
    rcases S9.2.1.own h.length (by simp[ho]) with h1|h1
    ·exact(h1 hoa).elim
    ·omega
  have hb21:h21[h.length]?=some (.cells cs true):=K21' _ _ (by simp[how9]) hb9
  have hcf:h21[f.b]?=some (.cells [.str f.name,.sl qn,.sl qs] true):=K21' _ _ (by simp[fr9]) c
  refine⟨⟨_,b0 hb21,rfl⟩,?_⟩
  refine yP hcf (by simp) ?_
  obtain⟨C23,S23⟩:=S9.1.setSafe (f:={f with safe:=yK f.safe j}) (zFQ hf rfl) (q':=q20) (safe':=yK f.safe j++[[]]) c a1 r1 A21 K21' (by omega) (λs' hs'=>by
   rcases hq21 s' hs' with h|⟨s2,h1,h2⟩
   ·left;omega
   ·right;rw[<-h2];exact r2 s2 h1) (by simp;omega) (B:=.cells (splice [.str f.name,.sl qn,.sl qs] (0+2) [.sl q20]) true) rfl
  have e1:yK f.safe j++[[]]=yK f.safe ((yK f.safe j).length+1):=by
   rw[zQP]
   rcases Nat.le_total j f.safe.length with hj|hj
   ·rw[zID hj,Nat.max_eq_left hj];simp[yK]
   ·rw[Nat.max_eq_right hj]
    simp only[yK,List.append_assoc]
    congr 1
    rw[<-List.replicate_succ'];congr 1;omega
  have e2:upF (upF D.files {f with safe:=yK f.safe j}) {f with safe:=yK f.safe j++[[]]}=upF D.files {f with safe:=yK f.safe ((yK f.safe j).length+1)}:=by
   rw[<-e1];exact zFP (f1:={f with safe:=yK f.safe j}) rfl
  have C23':xH (h21.set f.b (.cells (splice [.str f.name,.sl qn,.sl qs] (0+2) [.sl q20]) true)) (xZ ow9 q20 (.safe f.b)) p m qp es cl {D with files:=upF D.files {f with safe:=yK f.safe ((yK f.safe j).length+1)}}:=by
   rw[<-e2];exact C23
  have hm9:zFY h9 f.b=(yK f.safe j).length:=by unfold zFY;rw[c2];exact hlq
  have hm23:zFY (h21.set f.b (.cells (splice [.str f.name,.sl qn,.sl qs] (0+2) [.sl q20]) true)) f.b=(yK f.safe j).length+1:=by
   have hb:(h21.set f.b (Blk.cells (splice [.str f.name,.sl qn,.sl qs] (0+2) [.sl q20]) true))[f.b]?=some (.cells [.str f.name,.sl qn,.sl q20] true):=by
    rw[List.getElem?_set_self (zD hcf)];rfl
   unfold zFY
   rw[xQ hb (by simp)]
   show zJ q20=_
   have:=A21.hasL.len
   simpa using this
  refine⟨trivial,⟨rfl,_,(yK f.safe j).length+1,C23',S9.2.1.trans S23,by omega⟩,?_⟩
  show i+1-_<i+1-_
  rw[hm9,hm23];omega
 ·replace g2:=of_decide_eq_false g2
  have hpl:i<(yK f.safe j).length:=by omega
  have hpe:yK f.safe j=yK f.safe (i+1):=by
   have:=S9.2.2
   have h1:yK (yK f.safe j) (i+1)=yK f.safe j:=zID (by omega)
   rw[<-h1,zLM (by omega)]
  refine⟨_,b0 hb9,qs,c2,_,b1 hb9,?_⟩
  refine AppJ.idx (E:=secE) a2 (by omega) (by omega) λpp r hr hc hpp=> ?_
  have hr':(yK f.safe j)[i]?=some r:=by simpa using hr
  have hn1:1<=min n 64:=by omega
  have hn64:(min n 64).toNat<=64:=by omega
  refine⟨.inl rfl,by omega,by simp;omega,by simp;omega,by simp,?_⟩
  refine⟨.inl rfl,by omega,by simp;omega,by simp;omega,by simp,?_⟩
  simp only[Option.getD_some,Option.getD_none,Int.sub_zero,Int.toNat_zero,Nat.zero_mul,Nat.add_zero]
  have hk:((min n 64).toNat)=(min n 64).toNat:=rfl
  generalize hkk:(min n 64).toNat=k at*
  have hk1:1<=k:=by omega
  refine⟨(secA s).take k,?_,?_⟩
  ·simp only[zJ,Nat.min_self,Nat.mul_one,kU]
   rw[zP (p:=⟨h.length,2⟩) hb9 (by rw[hclen];simp only;omega),<-hcs]
   rfl
  ·refine⟨by simp only[zJ,Nat.min_self,List.length_take,zA5];omega,by simp only[zJ];omega,?_⟩
   refine AppJ.store (E:=secE) (k:=0) (r':=mixS s r k) (i:=i) (r:=r) a2 hr' (by show 0+((secA s).take k).length<=64;rw[List.length_take,zA5];omega) (zQ4 hn64) (λs' hs'=>by rw[hpp s' hs'];simp) λh36 A36 K36 hl36=> ?_
   have K36':zI (λb=>ow9 b=some (.safe f.b)) h9 h36:=by
    intro b X hb hX
    exact K36 _ _ (λ⟨s',h1,h2⟩=>hb (by rw[<-h2];exact r2 s' h1)) hX
   have C9:=S9.1
   have hlen9:(yK f.safe j).length<=f.now.length:=C9.safe {f with safe:=yK f.safe j} (zFQ hf rfl)
   obtain⟨C37,S37⟩:=C9.upFile (f:={f with safe:=yK f.safe j}) (f':={f with safe:=(yK f.safe j).set i (mixS s r k)}) (zFQ hf rfl) rfl rfl
    ⟨fr9,qn,qs,K36' _ _ (by simp[fr9]) c,a1.keeps K36' (λs' hs'=>by simp[r1 s' hs']),A36,r1,r2⟩
    (λb X hb hX=>K36' _ _ (λhx=>hb (.inr (.inr hx))) hX) (by omega) (λ_ _ h=>h) (λb hb=>by rw[hl36];exact C9.live b hb) (λb hb=>.inl hb) (λx hx hxb=>by
     obtain⟨g0,hg,h1,h2⟩:=C9.pfile x hx
     have:=zFR C9.blocks hg (zFQ hf (f':={f with safe:=yK f.safe j}) rfl) (by rw[h1];exact hxb)
     subst this
     exact h2) (by simp;omega) (by
     have e0:upF (upF D.files {f with safe:=yK f.safe j}) {f with safe:=(yK f.safe j).set i (mixS s r k)}=upF D.files {f with safe:=(yK f.safe j).set i (mixS s r k)}:=zFP (f1:={f with safe:=yK f.safe j}) rfl
     show((upF (upF D.files {f with safe:=yK f.safe j}) {f with safe:=(yK f.safe j).set i (mixS s r k)}).map (·.now.length)).sum<=_
     have e4:=zFB (fs:=D.files) (f:=f) (f':={f with safe:=(yK f.safe j).set i (mixS s r k)}) (·.now.length) C.blocks hf rfl rfl
     rw[e0,e4];exact C.used)
   have e3:upF (upF D.files {f with safe:=yK f.safe j}) {f with safe:=(yK f.safe j).set i (mixS s r k)}=upF D.files (zAL f i s n):=by
    have:zAL f i s n={f with safe:=(yK f.safe j).set i (mixS s r k)}:=by
     unfold zAL
     rw[if_neg (by omega),<-hpe,hkk]
     congr 2
     rw[List.getD_eq_getElem?_getD,hr'];rfl
    rw[this];exact zFP (f1:={f with safe:=yK f.safe j}) rfl
   have C37':xH h36 ow9 p m qp es cl {D with files:=upF D.files (zAL f i s n)}:=by rw[<-e3];exact C37
   exact hQ _ _ C37' (S6.trans (S9.2.1.trans S37)))
end
theorem aEq_ptr {P:Program}{t e:TypeId}(hu:P.underlying t=some (.pointer e))(hz:0<tsz P e){h:Heap}{x b:Nat}{K:Bool->Prop}(hx:∃c,h[x]?=some (.cells c true))(hb:∃c,h[b]?=some (.cells c true))
  (hK:K (decide (x=b))):aEq P t h (.ptr (some ⟨x,0⟩)) (.ptr (some ⟨b,0⟩)) K:=by
 unfold aEq
 rw[hu]
 refine zZ (by simpa using hz) ?_
 unfold Go.Ab.ptrEq
 by_cases he:x=b
 ·subst he;simpa using hK
 ·rw[if_neg he]
  obtain⟨c,hc⟩:=hx
  obtain⟨c2,hc2⟩:=hb
  rw[decide_eq_false he] at hK
  simp only[hc,hc2]
  exact hK
set_option maxRecDepth 20000 in
theorem zR2 {h:Heap}{x b:Nat}{K:Bool->Prop}(hx:∃c,h[x]?=some (.cells c true))(hb:∃c,h[b]?=some (.cells c true))
  (hK:K (decide (x=b))):aEq Tryz.prog 166 h (.ptr (some ⟨x,0⟩)) (.ptr (some ⟨b,0⟩)) K:=by
 have hz:tsz Tryz.prog 173=3:=by kernel_rfl
 exact aEq_ptr (e:=173) Tryz.underlying166 (by rw[hz];omega) hx hb hK
section
variable{h h':Heap}{ow ow':yC}{p m:Nat}{qp:OSl}{es:Ents}{cl:Nat}{D:DS}{f f':FA}{Q:AHp}{q:OSl}{l:List PD}{a b:Nat}
set_option maxRecDepth 20000 in
theorem d285 {x:PD}(hb:h[a]?=some (.cells [.ptr (some ⟨b,0⟩)] true))(hx:∃c,h[x.1]?=some (.cells c true))(hf:∃c,h[b]?=some (.cells c true))(hQ:Q (.bool (decide (x.1=b))) h):
  AC Tryz.prog 285 [.agg ([.ptr (some ⟨x.1,0⟩),.int .i64 (x.2.1:Nat)]++cel .u8 64 (secB x.2.2)),.ptr (some ⟨a,0⟩)] h Q:=ac285 (by
 unfold vc285
 refine⟨some ⟨b,0⟩,by rw[zP (p:=⟨a,0⟩) hb (by simp)];rfl,?_⟩
 exact zR2 hx hf hQ)
theorem d348 (A:AppJ jF h q l)(hl:l.length<=1000000)(hb:h[a]?=some (.cells [.ptr (some ⟨b,0⟩)] true))(hx:∀x∈l,∃c,h[x.1]?=some (.cells c true))(hf:∃c,h[b]?=some (.cells c true))
  (hQ0:(∀x∈l,x.1≠b)->Q (.int .i64 (-1)) h)(hQ1:∀k x,l[k]?=some x->x.1=b->(∀y∈l.take k,y.1≠b)->Q (.int .i64 (k:Nat)) h):AC Tryz.prog 348 [.sl q,.func (.func 285) [] [.ptr (some ⟨a,0⟩)]] h Q:=ac348 (by
 unfold vc348
 have hlen:=A.hasL.len
 refine⟨λxs h6=>h6=h/\∃i:Nat,xs=[.int .i64 i]/\i<=l.length/\∀y∈l.take i,y.1≠b,λxs _=>match xs with | [.int _ i]=>(l.length-i).toNat|_=>0,⟨rfl,0,rfl,by omega,by simp⟩,?_⟩
 rintro n3 h6 ⟨rfl,i,hxs,hi,hn⟩
 simp only[List.cons.injEq,AV.int.injEq,true_and,and_true] at hxs
 subst hxs
 refine zB (λg=> ?_) (λg=> ?_)
 ·replace g:=of_decide_eq_true g
  refine AppJ.idx (E:=jF) A (by omega) (by omega) λpp x hx0 hc hpp=>⟨some ⟨x.1,0⟩,((x.2.1:Nat):Int),zKO (b:=secB x.2.2) ⟨hc,?_⟩⟩
  have hx':l[i]?=some x:=by simpa using hx0
  refine d285 hb (hx x (List.mem_of_getElem? hx')) hf ⟨_,rfl,zB (λg2=> ?_) (λg2=> ?_)⟩
  ·exact hQ1 i x hx' (of_decide_eq_true g2) hn
  ·replace g2:=of_decide_eq_false g2
   rw[zF ⟨by omega,by omega⟩]
   refine⟨trivial,⟨rfl,i+1,by simp,by omega,?_⟩,by simp only;omega⟩
   intro y hy
   rw[List.take_add_one,hx'] at hy
   rcases List.mem_append.1 hy with hy|hy
   ·exact hn y hy
   ·simp at hy;subst hy;exact g2
 ·replace g:=of_decide_eq_false g
  have:i=l.length:=by omega
  subst this
  rw[List.take_length] at hn
  exact hQ0 hn)
set_option maxRecDepth 20000 in
theorem d284 (A:AppJ jF h q l)(hl:l.length<=1000000)(hb:h[a]?=some (.cells [.ptr (some ⟨b,0⟩)] true))(hx:∀x∈l,∃c,h[x.1]?=some (.cells c true))(hf:∃c,h[b]?=some (.cells c true))
  (hsep:∀s,q=some s->s.b≠a/\s.b≠b/\∀x∈l,s.b≠x.1)
  (hQ:∀q' h',AppJ jF h' q' (l.filter (notB b))->zI (λc=>∃s,q=some s/\s.b=c) h h'->h'.length=h.length->(∀s',q'=some s'->∃s,q=some s/\s.b=s'.b)->Q (.sl q') h'):
  AC Tryz.prog 284 [.sl q,.func (.func 285) [] [.ptr (some ⟨a,0⟩)]] h Q:=ac284 (by
 unfold vc284
 have hlen:=A.hasL.len
 refine d348 A hl hb hx hf (λhn=>⟨_,rfl,?_⟩) λk x0 hk hkb hn=>⟨_,rfl,?_⟩
 ·have:=hQ q h
  rw[zHG hn] at this
  exact this A (.refl _ _) rfl (λs hs=>⟨s,hs,rfl⟩)
 have hkl:=zD hk
 refine zB (λg=>by simp at g) (λ_=> ?_)
 rw[zF ⟨by omega,by omega⟩]
 have h0:(l.take (k+1)).filter (notB b)=l.take k:=by
  rw[List.take_add_one,hk,List.filter_append,zHG hn]
  simp[notB,hkb]
 let I:Heap->Nat->Nat->Prop:=λh10 i j=>∃cur:List PD,AppJ jF h10 q cur/\cur.length=l.length/\cur.take i=(l.take j).filter (notB b)/\i<j/\j<=l.length/\cur.drop j=l.drop j/\zI (λc=>∃s,q=some s/\s.b=c) h h10/\h10.length=h.length
 refine⟨λxs h10=>∃i j:Nat,xs=[.int .i64 i,.int .i64 j]/\I h10 i j,λxs _=>match xs with | [_,.int _ j]=>(l.length-j).toNat|_=>0,⟨k,k+1,by simp,l,A,rfl,h0.symm,by omega,by omega,rfl,.refl _ _,rfl⟩,?_⟩
 rintro n6 n7 h10 ⟨i,j,hxs,cur,A10,hcl,hti,hij,hj,hdj,K10,hl10⟩
 simp only[List.cons.injEq,AV.int.injEq,true_and,and_true] at hxs
 obtain⟨rfl,rfl⟩:=hxs
 have kp:∀{c:Nat} {X:Blk},(∀s,q=some s->s.b≠c)->h[c]?=some X->h10[c]?=some X:=λhc hX=>K10 _ _ (λ⟨s,h1,h2⟩=>hc s h1 h2) hX
 refine zB (λg=> ?_) (λg=> ?_)
 ·replace g:=of_decide_eq_true g
  refine AppJ.idx (E:=jF) A10 (by omega) (by omega) λpp x hx0 hc hpp=>⟨some ⟨x.1,0⟩,((x.2.1:Nat):Int),zKO (b:=secB x.2.2) ⟨hc,?_⟩⟩
  have hx1:cur[j]?=some x:=by simpa using hx0
  have hx':l[j]?=some x:=by
   have e1:(cur.drop j)[0]?=cur[j]?:=by rw[List.getElem?_drop];simp
   have e2:(l.drop j)[0]?=l[j]?:=by rw[List.getElem?_drop];simp
   rw[<-e2,<-hdj,e1,hx1]
  have hxm:=List.mem_of_getElem? hx'
  obtain⟨c1,hc1⟩:=hx x hxm
  obtain⟨c2,hc2⟩:=hf
  have hd:cur.drop (j+1)=l.drop (j+1):=by
   have:=congrArg (List.drop 1) hdj
   simpa[List.drop_drop] using this
  refine d285 (kp (λs hs=>(hsep s hs).1) hb) ⟨c1,kp (λs hs=>(hsep s hs).2.2 x hxm) hc1⟩ ⟨c2,kp (λs hs=>(hsep s hs).2.1) hc2⟩ ⟨_,rfl,?_⟩
  refine zB (λg2=> ?_) (λg2=> ?_)
  ·have g2:x.1≠b:=by simpa using g2
   refine AppJ.idx (E:=jF) A10 (by omega) (by omega) λpp2 y hy hcy hpp2=> ?_
   refine AppJ.store (E:=jF) (k:=0) (r':=x) (xs:=jF.f x) A10 (i:=i) (r:=y) (by simpa using hy) (by rw[Nat.zero_add,jF.len];exact Nat.le_refl _) (by rw[zCQ (by rw[jF.len,jF.len])]) (λs' hs'=>by rw[hpp2 s' hs'];simp) λh19 A19 K19 hl19=> ?_
   rw[zF (n:=(i:Int)+1) ⟨by omega,by omega⟩,zF (n:=(j:Int)+1) ⟨by omega,by omega⟩]
   refine⟨trivial,⟨i+1,j+1,by simp,cur.set i x,A19,by simp[hcl],?_,by omega,by omega,?_,K10.trans K19,by omega⟩,by simp only;omega⟩
   ·rw[List.take_add_one,List.take_set_of_le (Nat.le_refl _),hti,List.getElem?_set_self (by omega),List.take_add_one,hx',List.filter_append]
    have:notB b x=true:=by simp[notB,g2]
    simp only[Option.toList_some,List.filter_cons,this,if_true,List.filter_nil]
   ·rw[List.drop_set_of_lt (by omega),hd]
  ·have g2:x.1=b:=by simpa using g2
   rw[zF (n:=(j:Int)+1) ⟨by omega,by omega⟩]
   refine⟨trivial,⟨i,j+1,by simp,cur,A10,hcl,?_,by omega,by omega,hd,K10,hl10⟩,by simp only;omega⟩
   rw[hti,List.take_add_one,hx',List.filter_append]
   simp[notB,g2]
 ·replace g:=of_decide_eq_false g
  have hje:j=l.length:=by omega
  subst hje
  rw[List.take_length] at hti
  rcases A10 with⟨rfl,rfl⟩|⟨a',c,o,jk,rfl,ho,hb5,hjl,hc⟩
  ·simp at hcl;omega
  have hal:(jF.all cur).length=cur.length*66:=Enc.all_length
  have hzl:∀n,(List.replicate n ([AV.ptr none,.int .i64 0]++List.replicate 64 (AV.int .u8 0))).flatten.length=n*66:=by
   intro n;simp
  refine⟨ho,by omega,by simp;omega,by simp;omega,by simp,?_⟩
  simp only[Option.getD_none,Int.toNat_natCast,Nat.zero_add]
  have e1:((cur.length:Nat):Int) - (i:Nat)=((cur.length-i:Nat):Int):=by omega
  rw[e1,Int.toNat_natCast]
  unfold zGI
  obtain⟨z,hz⟩:∃z,cur.length-i=z+1:=⟨cur.length-i-1,by omega⟩
  simp only[hz]
  refine zZ (by kernel_rfl) ?_
  unfold zL
  simp only[hb5]
  refine⟨by rw[hzl,List.length_append,hal];omega,?_⟩
  refine⟨ho,by omega,by simp,by simp;omega,by simp,?_⟩
  simp only[Option.getD_some,Option.getD_none,Int.toNat_natCast,Int.toNat_zero,Nat.zero_mul,Nat.add_zero,Int.sub_zero,Option.isNone_none,if_true]
  have hil:i=(l.filter (notB b)).length:=by rw[<-hti,List.length_take];omega
  refine hQ _ _ (.inr ⟨a',c,o,(List.replicate (z+1) ([AV.ptr none,.int .i64 0]++List.replicate 64 (AV.int .u8 0))).flatten++jk,by rw[hil],ho,?_,?_,by omega⟩) (K10.trans (zO ⟨_,rfl,rfl⟩)) (by simp[hl10]) (λs' hs'=>by cases hs';exact⟨_,rfl,rfl⟩)
  ·rw[List.getElem?_set_self (zD hb5),<-hti]
   congr 2
   have e2:jF.all cur=jF.all (cur.take i)++jF.all (cur.drop i):=by rw[<-Enc.all_append,List.take_append_drop]
   have e3:(jF.all (cur.take i)).length=i*66:=by rw[Enc.all_length,List.length_take];show min i cur.length*66=_;rw[Nat.min_eq_left (by omega)]
   have e4:(jF.all (cur.drop i)).length=(z+1)*66:=by rw[Enc.all_length,List.length_drop,hz];rfl
   rw[splice,hzl,e2,List.append_assoc (jF.all (cur.take i)),<-e3,List.take_left' rfl,<-List.drop_drop,List.drop_left' rfl,<-e4,List.drop_left' rfl,List.append_assoc]
  ·rw[List.length_append,hzl,hjl,<-hil]
   show(z+1)*66+(c-cur.length)*66=(c-i)*66
   rw[<-Nat.add_mul];congr 1;omega)
theorem d218 (C:xH h ow p m qp es cl D)(hf:f∈D.files)(hpl:D.pends.length<=1000000)(hQ:∀q' h' ow',xH h' ow' p m q' es cl (D.forget f.b)->yQ ow h ow' h'->Q (.tup []) h'):
  AC Tryz.prog 218 [.ptr (some ⟨p,0⟩),.ptr (some ⟨f.b,0⟩)] h Q:=ac218 (by
 unfold vc218 PNew
 have hx4:Ext h (h++[Blk.cells [.ptr (some ⟨f.b,0⟩)] true]):=.app _ _
 have C4:=C.ext (zH hx4) hx4.len
 refine⟨qp,C4.at (k:=1) rfl,?_⟩
 have zCE:∀g∈D.files,∃c,(h++[Blk.cells [.ptr (some ⟨f.b,0⟩)] true])[g.b]?=some (.cells c true):=by
  intro g hg
  obtain⟨_,qn,qs,c,_⟩:=C4.file g hg
  exact⟨_,c⟩
 have fne:∀g∈D.files,∀s,qp=some s->s.b≠g.b:=by
  intro g hg s hs he
  have h1:=C.pndr s hs
  have h2:=(C.file g hg).role
  rw[he,h2] at h1;cases h1
 refine d284 (b:=f.b) C4.pnd hpl (by simp) (λx hx=> ?_) (zCE f hf) (λs hs=>⟨?_,fne f hf s hs,λx hx=> ?_⟩) λq9 h8 A8 K8 hl8 hq9=>⟨q9,rfl,?_⟩
 ·obtain⟨g,hg,h1,_⟩:=C.pfile x hx
  rw[<-h1];exact zCE g hg
 ·have:=C.live s.b (by simp[C.pndr s hs]);omega
 ·obtain⟨g,hg,h1,_⟩:=C.pfile x hx
  rw[<-h1];exact fne g hg s hs
 have K8':zI (λb=>ow b=some .pends) h h8:=by
  intro b X hb hX
  exact K8 _ _ (λ⟨s',h1,h2⟩=>hb (by rw[<-h2];exact C.pndr s' h1)) (hx4 _ _ hX)
 have hpb:h8[p]?=some (.cells [.map (some m),.sl qp,.int .i64 D.limit,.int .i64 D.left,.bool D.off] true):=K8' _ _ (by simp[C.pr]) C.pb
 refine yP hpb (by simp) ?_
 simp only[List.length_append,List.length_cons,List.length_nil] at hl8
 obtain⟨C16,S16⟩:=C.setPend (l':=D.pends.filter (notB f.b)) (q':=q9) A8 K8' (by omega) (λs' hs'=>by
   obtain⟨s2,h1,h2⟩:=hq9 s' hs'
   right;rw[<-h2];exact C.pndr s2 h1) (λx hx=>C.pfile x (List.mem_filter.1 hx).1) (B:=.cells (splice [.map (some m),.sl qp,.int .i64 D.limit,.int .i64 D.left,.bool D.off] (0+1) [.sl q9]) true) rfl
 exact hQ _ _ _ C16 S16)
end
section
variable{h h':Heap}{ow ow':yC}{p m:Nat}{qp:OSl}{es:Ents}{cl:Nat}{D:DS}{f f':FA}{Q:AHp}
set_option maxRecDepth 20000 in
theorem d197 (R:xB h ow p D){s:Bs}(hpl:D.pends.length<=1000000)(hQ:∀h' ow',xB h' ow' p (D.sync s).2->yQ ow h ow' h'->Q (.int .i64 (D.sync s).1) h'):AC Tryz.prog 197 [.ptr (some ⟨p,0⟩),.str s] h Q:=ac197 (by
 unfold vc197
 unfold DS.sync at hQ
 refine d216 R (λho=>⟨_,_,rfl,?_⟩) (λho hn=>⟨_,_,rfl,?_⟩) λf ho hfd hf hfn=>⟨_,_,rfl,?_⟩
 ·rw[ho] at hQ;exact hQ h ow R (.refl _ _)
 ·rw[ho,hn] at hQ;exact hQ h ow R (.refl _ _)
 rw[ho,hfd] at hQ
 simp only[Bool.false_eq_true,if_false] at hQ
 show AC Tryz.prog 217 _ _ _
 refine d217 R λh8 R8 S8=>⟨_,rfl,zB (λg=> ?_) (λg=> ?_)⟩
 ·have g:¬D.deed.1=0:=by simpa using g
  rw[if_neg g] at hQ
  exact hQ h8 ow R8 S8
 have g:D.deed.1=0:=by simpa using g
 rw[if_pos g] at hQ
 obtain⟨m,qp,es,cl,C⟩:=R8
 have hf8:f∈D.deed.2.files:=by rw[yY];exact hf
 have hblk:(D.files.map (·.b)).Nodup:=by rw[<-yY];exact C.blocks
 refine⟨qp,C.at (k:=1) rfl,?_⟩
 have hlen:=C.pnd.hasL.len
 rw[xK] at hlen
 let St:Heap->yC->Nat->Prop:=λh9 ow9 j=>xH h9 ow9 p m qp es cl {D.deed.2 with files:=upF D.files (yI f (D.pends.take j))}/\yQ ow h8 ow9 h9
 have e0:upF D.files (yI f (D.pends.take 0))=D.deed.2.files:=by rw[yY];exact zHR hblk hf
 refine⟨λxs h15=>∃(i:Nat) (ow15:yC),xs=[.int .i64 i]/\i<=D.pends.length/\St h15 ow15 i,λxs _=>match xs with | [.int _ i]=>(D.pends.length-i).toNat|_=>0,⟨0,ow,rfl,by omega,by
  show xH h8 ow p m qp es cl {D.deed.2 with files:=upF D.files (yI f (D.pends.take 0))}
  rw[e0];exact C,.refl _ _⟩,?_⟩
 rintro n12 h15 ⟨i,ow15,hx,hi,C15,S15⟩
 simp only[List.cons.injEq,AV.int.injEq,true_and,and_true] at hx
 subst hx
 obtain⟨kb,kn,know⟩:=zKA (f:=f) (D.pends.take i)
 refine zB (λg1=> ?_) (λg1=> ?_)
 ·replace g1:=of_decide_eq_true g1
  have hpn:D.deed.2.pends=D.pends:=xK
  have A15:AppJ jF h15 qp D.pends:=by have:=C15.pnd;rwa[show({D.deed.2 with files:=upF D.files (yI f (D.pends.take i))}:DS).pends=D.pends from hpn] at this
  refine AppJ.idx (E:=jF) A15 (by omega) (by omega) λpp x hx0 hc hpp=>⟨some ⟨x.1,0⟩,((x.2.1:Nat):Int),zKO (b:=secB x.2.2) ⟨hc,?_⟩⟩
  have hx':D.pends[i]?=some x:=by simpa using hx0
  have ht:D.pends.take (i+1)=D.pends.take i++[x]:=by rw[List.take_add_one,hx'];rfl
  obtain⟨g2,hg2,hg2b,hg2l⟩:=C15.pfile x (by rw[show({D.deed.2 with files:=upF D.files (yI f (D.pends.take i))}:DS).pends=D.pends from hpn];exact List.mem_of_getElem? hx')
  have zCE:∀g∈upF D.files (yI f (D.pends.take i)),∃c,h15[g.b]?=some (.cells c true):=by
   intro g hg
   obtain⟨_,qn,qs,c,_⟩:=C15.file g hg
   exact⟨_,c⟩
  have hfin:yI f (D.pends.take i)∈upF D.files (yI f (D.pends.take i)):=zFQ hf kb
  refine zR2 (by rw[<-hg2b];exact zCE g2 hg2) (by rw[<-kb];exact zCE _ hfin) ?_
  rw[zF ⟨by omega,by omega⟩]
  refine zB (λg3=> ?_) (λg3=> ?_)
  ·replace g3:=of_decide_eq_true g3
   have hgl:x.2.1<(yI f (D.pends.take i)).now.length:=by
    have:=zFR C15.blocks hg2 hfin (by rw[hg2b,g3,kb])
    rw[<-this];exact hg2l
   rw[g3]
   rw[<-kb]
   refine d113 C15 hfin hgl λh22 ow22 C22 S22=>⟨rfl,trivial,⟨i+1,ow22,by simp,by omega,?_,S15.trans S22⟩,by simp only;omega⟩
   show xH h22 ow22 p m qp es cl {D.deed.2 with files:=upF D.files (yI f (D.pends.take (i+1)))}
   rw[ht,zBM,if_pos g3]
   have e1:upF (upF D.files (yI f (D.pends.take i))) (zAL (yI f (D.pends.take i)) x.2.1 x.2.2 64)=upF D.files (zAL (yI f (D.pends.take i)) x.2.1 x.2.2 64):=zFP (by rw[zRH.1])
   rw[<-e1]
   exact C22
  ·replace g3:=of_decide_eq_false g3
   refine⟨trivial,⟨i+1,ow15,by simp,by omega,?_,S15⟩,by simp only;omega⟩
   show xH h15 ow15 p m qp es cl {D.deed.2 with files:=upF D.files (yI f (D.pends.take (i+1)))}
   rw[ht,zBM,if_neg g3]
   exact C15
 ·replace g1:=of_decide_eq_false g1
  have:i=D.pends.length:=by omega
  subst this
  rw[List.take_length] at C15 kb
  have hfin:yI f D.pends∈upF D.files (yI f D.pends):=zFQ hf kb
  rw[<-kb]
  refine d218 C15 hfin (by show D.deed.2.pends.length<=_;rw[xK];exact hpl) λq' h24 ow24 C24 S24=>⟨rfl,?_⟩
  have:(DS.forget {D.deed.2 with files:=upF D.files (yI f D.pends)} (yI f D.pends).b)={D.deed.2 with files:=upF D.files (yI f D.pends),pends:=D.pends.filter (notB f.b)}:=by
   unfold DS.forget;simp only[xK,kb]
  rw[this] at C24
  exact hQ _ _ ⟨_,_,_,_,C24⟩ (S8.trans (S15.trans S24)))
end
section
variable{h h':Heap}{ow ow':yC}{p m:Nat}{qp:OSl}{es:Ents}{cl:Nat}{D:DS}{f f':FA}{Q:AHp}
theorem zHI:∀{fs:List FA} {j:Nat} {f:FA},(fs.map (·.b)).Nodup->fs[j]?=some f->fs.eraseIdx j=fs.filter (λg=> !(g.b==f.b))
 | [],j,f,_,h=>by simp at h
 |x::fs,0,f,hn,h=>by
  simp at h;subst h
  simp only[List.map_cons,List.nodup_cons,List.mem_map,not_exists,not_and] at hn
  simp only[List.eraseIdx_cons_zero,List.filter_cons,beq_self_eq_true,Bool.not_true,Bool.false_eq_true,if_false]
  exact(List.filter_eq_self.2 λg hg=>by simpa using hn.1 g hg).symm
 |x::fs,j+1,f,hn,h=>by
  have hf:fs[j]?=some f:=by simpa using h
  simp only[List.map_cons,List.nodup_cons,List.mem_map,not_exists,not_and] at hn
  have hx:¬x.b=f.b:=λhe=>hn.1 f (List.mem_of_getElem? hf) he.symm
  simp only[List.eraseIdx_cons_succ,List.filter_cons]
  rw[zHI hn.2 hf]
  simp[hx]
theorem vF {α β:Type}(g:α->β):∀(l:List α) (j:Nat),(l.eraseIdx j).map g=(l.map g).eraseIdx j
 | [],_=>rfl
 |x::l,0=>rfl
 |x::l,j+1=>by simp[vF g l j]
theorem zI9:∀{l:List Nat} {j x:Nat},l[j]?=some x->(l.eraseIdx j).sum+x=l.sum
 | [],j,x,h=>by simp at h
 |y::l,0,x,h=>by simp at h;subst h;simp;omega
 |y::l,j+1,x,h=>by
  have:=zI9 (l:=l) (j:=j) (x:=x) (by simpa using h)
  simp;omega
theorem zCV {α:Type}{l:List α}(h:l.Nodup)(j:Nat):(l.eraseIdx j).Nodup:=(List.eraseIdx_sublist l j).nodup h
end
end Go.Proofs.YtafmabnolelknaaGreatDoor


namespace Go.Proofs.YtafmabnolelknaaGreatDoor
open Go.Ab
open Go.Dsk hiding Bs
set_option linter.unusedVariables false
set_option linter.unusedSimpArgs false
section
attribute [local irreducible] jP vW
section
variable{h h':Heap}{ow ow':yC}{p m:Nat}{qp:OSl}{es:Ents}{cl:Nat}{D:DS}{f f':FA}{Q:AHp}
theorem xH.drop (C:xH h ow p m qp es cl D)(hf:f∈D.files){j:Nat}(hj:D.files[j]?=some f)(hpg:∀x∈D.pends,x.1≠f.b):
  xH (h.set m (.mp (es.eraseIdx j) cl)) ow p m qp (es.eraseIdx j) cl {D with files:=D.files.filter (λg=> !(g.b==f.b))}/\yQ ow h ow (h.set m (.mp (es.eraseIdx j) cl)):=by
 have hfi:D.files.eraseIdx j=D.files.filter (λg=> !(g.b==f.b)):=zHI C.blocks hj
 have hml:=C.live m (by simp[C.mr])
 have hpm:m≠p:=λe=>by have:=C.mr;rw[e,C.pr] at this;cases this
 have K:zI (λb=>b=m) h (h.set m (.mp (es.eraseIdx j) cl)):=zO rfl
 have hm1:∀g∈D.files.filter (λg=> !(g.b==f.b)),g∈D.files/\g.b≠f.b:=λg hg=>by
  have:=List.mem_filter.1 hg
  exact⟨this.1,by simpa using this.2⟩
 have hs1:((D.files.eraseIdx j).map (·.now.length)).sum+f.now.length=(D.files.map (·.now.length)).sum:=by
  rw[vF];exact zI9 (by rw[List.getElem?_map,hj];rfl)
 have hu:=C.used
 have hmr:=C.mr
 refine⟨⟨λb hb=>by rw[List.length_set];exact C.live b hb,C.pr,C.mr,K _ _ (λe=>hpm e.symm) C.pb,by rw[List.getElem?_set_self hml],?_,?_,?_,?_,C.pndr,?_,?_,?_,?_,?_,?_,?_,?_,C.lim,C.lft⟩,?_⟩
 ·show _=List.map zKQ (List.filter _ _)
  rw[<-hfi,vF,vF,C.ents]
 ·rw[vF];exact zCV C.born j
 ·exact λe he=>C.clk e (List.mem_of_mem_eraseIdx he)
 ·refine C.pnd.keeps K λs hs e=> ?_
  have:=C.pndr s hs
  rw[e,hmr] at this;cases this
 ·intro g hg
  refine(C.file g (hm1 g hg).1).keeps K (λb hb e=> ?_) λb r h=>h
  subst e
  rcases hb with⟨h1,_⟩|h1|h1<;> · rw[hmr] at h1;cases h1
 ·show(List.map _ (List.filter _ _)).Nodup
  rw[<-hfi,vF];exact zCV C.names j
 ·show(List.map _ (List.filter _ _)).Nodup
  rw[<-hfi,vF];exact zCV C.blocks j
 ·intro x hx
  obtain⟨g,g1,g2,g3⟩:=C.pfile x hx
  exact⟨g,List.mem_filter.2 ⟨g1,by have:=hpg x hx;rw[<-g2] at this;simpa using this⟩,g2,g3⟩
 ·exact λg hg=>C.safe g (hm1 g hg).1
 ·exact λg hg=>C.nlen g (hm1 g hg).1
 ·have:=C.many
  have h2:=List.length_filter_le (λg:FA=> !(g.b==f.b)) D.files
  show(List.filter _ _).length<=256
  omega
 ·show(List.map _ (List.filter _ _)).sum<=_
  rw[<-hfi];omega
 ·refine⟨λb B hb hB=>K b B (λe=>hb (by have e:b=m:=e;show ow b≠none;rw[e,hmr];simp)) hB,by simp,λb hb=>.inl hb⟩
theorem d142 (R:xB h ow p D){s:Bs}(hpl:D.pends.length<=1000000)(hQ:∀h' ow',xB h' ow' p (D.delete s).2->yQ ow h ow' h'->Q (.int .i64 (D.delete s).1) h'):AC Tryz.prog 142 [.ptr (some ⟨p,0⟩),.str s] h Q:=ac142 (by
 unfold vc142
 unfold DS.delete at hQ
 refine d216 R (λho=>⟨_,_,rfl,?_⟩) (λho hn=>⟨_,_,rfl,?_⟩) λf ho hfd hf hfn=>⟨_,_,rfl,?_⟩
 ·rw[ho] at hQ;exact hQ h ow R (.refl _ _)
 ·rw[ho,hn] at hQ;exact hQ h ow R (.refl _ _)
 rw[ho,hfd] at hQ
 simp only[Bool.false_eq_true,if_false] at hQ
 show AC Tryz.prog 217 _ _ _
 refine d217 R λh8 R8 S8=>⟨_,rfl,zB (λg=> ?_) (λg=> ?_)⟩
 ·have g:¬D.deed.1=0:=by simpa using g
  rw[if_neg g] at hQ;exact hQ h8 ow R8 S8
 have g:D.deed.1=0:=by simpa using g
 rw[if_pos g] at hQ
 obtain⟨m,qp,es,cl,C8⟩:=R8
 have hf8:f∈D.deed.2.files:=by rw[yY];exact hf
 refine d218 C8 hf8 (by rw[xK];exact hpl) λq' h11 ow11 C11 S11=>⟨rfl,?_⟩
 refine⟨some m,C11.at (k:=0) rfl,?_⟩
 unfold vY
 simp only[C11.mb]
 have hk:∀s,zBK Tryz.prog 9 (.str s)=true:=λs=>by simp only[zBK,Tryz.underlying9]
 simp only[hk,need]
 have hff:(D.deed.2.forget f.b).files.find? (λg=>g.name==s)=some f:=by
  show D.deed.2.files.find? _=_
  rw[yY];exact hfd
 refine zB5 Tryz.underlying9 C11.ents (λhn=>by rw[hff] at hn;cases hn) λj f0 n e1 e2 e3=> ?_
 rw[hff] at e1
 obtain rfl:f=f0:=Option.some.inj e1
 simp only[Nat.zero_add]
 obtain⟨C12,S12⟩:=C11.drop (f:=f) hf8 e2 (λx hx=>by
  have hx:x∈D.deed.2.pends.filter (notB f.b):=hx
  have:=(List.mem_filter.1 hx).2
  simpa[notB] using this)
 have e4:({D.deed.2.forget f.b with files:=(D.deed.2.forget f.b).files.filter (λg=> !(g.b==f.b))}:DS)={D.deed.2 with files:=D.files.filter (λg=> !(g.b==f.b)),pends:=D.pends.filter (notB f.b)}:=by
  unfold DS.forget
  rw[yY,xK]
 rw[e4] at C12
 exact hQ _ ow11 ⟨_,_,_,_,C12⟩ ((S8.trans S11).trans S12))
end
end
end Go.Proofs.YtafmabnolelknaaGreatDoor

