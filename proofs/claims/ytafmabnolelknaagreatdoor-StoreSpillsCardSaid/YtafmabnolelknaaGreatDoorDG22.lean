import Derived.Test.YtafmabnolelknaaGreatDoorDG1
import Derived.Test.YtafmabnolelknaaGreatDoorDG12
namespace Go.Man
open Go.Page Go.Dsk
open Go.Ab (splice)
set_option linter.unusedVariables false
set_option linter.unusedSimpArgs false
abbrev Bs:=List UInt8
structure Jr where
 E:Type
 S:Type
 enc:E->Bs
 dec:Bs->Option E
 emp:S
 app:S->E->Option S
 eds:S->List E
 dec_enc:∀(s s':S) (e:E),app s e=some s'->dec (enc e)=some e
variable{J:Jr}
def sz(J:Jr)(e:J.E):Nat:=max 1 (((J.enc e).length+41)/42)
def says(J:Jr):Nat->List Bs->Nat->J.S->J.S
 |0,_,_,s=>s
 |n+1,l,t,s=>match unrow l t with
  |none=>s
  |some (b,k)=>match J.dec b with
   |none=>s
   |some e=>match J.app s e with
    |none=>s
    |some s'=>says J n (l.drop k) (t+k) s'
def saysL(J:Jr)(l:List Bs):J.S:=says J l.length l 1 J.emp
theorem mix_len {s r:Bs}{n:Nat}:(mixS s r n).length=64:=by simp[mixS]
theorem mix_get {s r:Bs}{n i:Nat}(hi:i<64):(mixS s r n)[i]?=some (if i<n then s.getD i 0 else r.getD i 0):=by
 unfold mixS
 rw[List.getElem?_map,List.getElem?_range hi];rfl
def xE(b:Nat):Nat->List Bs->List PD
 |_,[]=>[]
 |i,p::l=>(b,i,p)::xE b (i+1) l
theorem jN {b:Nat}:∀{l:List Bs} {i:Nat} {p:Bs},xE b i (l++[p])=xE b i l++[(b,i+l.length,p)]
 | [],i,p=>by simp[xE]
 |x::l,i,p=>by
  simp only[List.cons_append,xE,jN,List.length_cons]
  rw[show i+1+l.length=i+(l.length+1) by omega]
theorem zBD {b:Nat}:∀{l:List Bs} {i:Nat} {x:PD},x∈xE b i l->x.1=b/\i<=x.2.1/\x.2.1<i+l.length
 | [],i,x,h=>by cases h
 |p::l,i,x,h=>by
  rcases List.mem_cons.1 h with rfl|h
  ·simp
  ·have:=zBD h
   simp only[List.length_cons]
   exact⟨this.1,by omega,by omega⟩
abbrev nJ:Bs:=[106,111,117,114,110,97,108]
abbrev nN:Bs:=[106,111,117,114,110,97,108,46,110,101,119]
structure DOk(D:DS):Prop where
 names:(D.files.map (·.name)).Nodup
 blocks:(D.files.map (·.b)).Nodup
 pfile:∀x∈D.pends,∃f∈D.files,f.b=x.1/\x.2.1<f.now.length
 safe:∀f∈D.files,f.safe.length<=f.now.length
variable{J:Jr}
structure Mid(J:Jr)(fs:List FA)(ps:List PD)(s:J.S):Prop where
 names:∀f∈fs,f.name=nJ∨f.name=nN
 jour:∀f∈fs,f.name=nJ->f.now=f.safe/\(∀x∈ps,x.1≠f.b)/\saysL J (f.now.map pad)=s
 none:(∀f∈fs,f.name≠nJ)->s=J.emp
 big:∀f∈fs,f.now.length<=2000
abbrev cut(D:DS):DS:={D with off:=true}
variable{J:Jr}{D:DS}{s:J.S}{es:List J.E}{e:J.E}{t:Bs}{b:Nat}{f:FA}
theorem zT7:D.find t=some f->f∈D.files/\f.name=t:=by
 intro h
 exact⟨List.mem_of_find?_eq_some h,by have:=List.find?_some h;simpa using this⟩
theorem zL5 (hn:(D.files.map (·.name)).Nodup)(hf:f∈D.files):D.find f.name=some f:=by
 cases h:D.find f.name with
 |none=>
  have:=List.find?_eq_none.1 h f hf
  simp at this
 |some g=>
  obtain⟨h1,h2⟩:=zT7 h
  rw[uniq_n hn h1 hf h2]
def Fr(D:DS)(l:List Bs):Prop:=∃f,D.find nN=some f/\f.now=l/\f.safe=[]/\D.pends=xE f.b 0 l
theorem zTV {p r:Bs}(hp:p.length=64):mixS p r 64=p:=by
 apply List.ext_getElem?
 intro i
 by_cases hi:i<64
 ·rw[mix_get hi,if_pos hi,List.getD_eq_getElem?_getD,List.getElem?_eq_getElem (by omega)];rfl
 ·rw[List.getElem?_eq_none (by rw[mix_len];omega),List.getElem?_eq_none (by omega)]
theorem jY {base:List Bs}:∀{l:List Bs} {f:FA},f.safe=base->(∀p∈l,p.length=64)->(yI f (xE f.b base.length l)).safe=base++l:=by
 intro l
 induction l using Go.Num.snoc_ind with
 |h0=>intro f hf _;simpa[xE,yI] using hf
 |h1 l p ih=>
  intro f hf hl
  have ih:=ih hf λq hq=>hl q (by simp[hq])
  rw[jN,zBM,if_pos rfl]
  unfold zAL
  rw[if_neg (by omega)]
  simp only
  rw[ih]
  have e:yK (base++l) (base.length+l.length+1)=base++l++[[]]:=by
   unfold yK
   rw[List.length_append,show base.length+l.length+1-(base.length+l.length)=1 by omega];rfl
  rw[e,show(min (64:Int) 64).toNat=64 by decide,zTV (hl p (by simp)),List.set_append_right _ _ (by simp),List.length_append]
  simp
theorem zFG {l:List Bs}{b i:Nat}:(xE b i l).filter (notB b)=[]:=by
 rw[List.filter_eq_nil_iff]
 intro x hx
 have:=(zBD hx).1
 simp[notB,this]
end Go.Man
namespace Go.Dsk
open Go.Man (xE jN jY zFG zL5 zBD)
set_option linter.unusedVariables false
set_option linter.unusedSimpArgs false
section
variable{D:DS}{f:FA}{b:Nat}{s:Bs}
def kJ(s:Bs):List Bs->DS->Int×DS
 | [],D=>(0,D)
 |x::l,D=>if(D.append s x).1=0 then kJ s l (D.append s x).2 else D.append s x
theorem jQ {x:Bs}{l:List Bs}(h:(D.append s x).1=0):kJ s (x::l) D=kJ s l (D.append s x).2:=if_pos h
theorem vR {x:Bs}{l:List Bs}(h:(D.append s x).1≠0):kJ s (x::l) D=D.append s x:=if_neg h
theorem zC6:∀{l m:List Bs} {D:DS},(kJ s l D).1=0->kJ s (l++m) D=kJ s m (kJ s l D).2
 | [],m,D,_=>rfl
 |x::l,m,D,h=>by
  by_cases h1:(D.append s x).1=0
  ·rw[jQ h1] at h ⊢
   rw[List.cons_append,jQ h1]
   exact zC6 h
  ·rw[vR h1] at h;exact absurd h h1
theorem zPO {x:Bs}:kJ s [x] D=D.append s x:=by
 by_cases h1:(D.append s x).1=0
 ·rw[jQ h1]
  show(0,(D.append s x).2)=_
  rw[<-h1]
 ·exact vR h1
theorem zSP {l:List Bs}{i:Nat}{x:Bs}{E:DS}(h:kJ s (l.take i) D=(0,E))(hx:l[i]?=some x)(he:(E.append s x).1=0):kJ s (l.take (i+1)) D=(0,(E.append s x).2):=by
 have e2:l.take (i+1)=l.take i++[x]:=by rw[List.take_add_one,hx];rfl
 rw[e2,zC6 (by rw[h]),h]
 simp only
 rw[zPO,<-he]
theorem zMH {l:List Bs}{i:Nat}{x:Bs}{E:DS}(h:kJ s (l.take i) D=(0,E))(hx:l[i]?=some x)(he:(E.append s x).1≠0):kJ s l D=E.append s x:=by
 have e2:l=l.take i++(x::l.drop (i+1)):=by
  have hi:i<l.length:=by
   rcases Nat.lt_or_ge i l.length with h|h
   ·exact h
   ·rw[List.getElem?_eq_none h] at hx;cases hx
  have:l.drop i=x::l.drop (i+1):=by
   rw[List.drop_eq_getElem_cons hi]
   rw[List.getElem?_eq_getElem hi] at hx
   rw[Option.some.inj hx]
  rw[<-this,List.take_append_drop]
 rw[e2,zC6 (by rw[h]),h]
 exact vR he
theorem zKY {x:Bs}:(D.append s x).2.pends.length<=D.pends.length+1:=by
 unfold DS.append
 split
 ·simp
 split
 ·simp
 split
 ·simp
 ·split
  ·simp
  ·split
   ·simp
   ·rw[xK];omega
theorem zE5:∀{l:List Bs} {D:DS},(kJ s l D).2.pends.length<=D.pends.length+l.length
 | [],D=>by simp[kJ]
 |x::l,D=>by
  have h1:=zKY (D:=D) (s:=s) (x:=x)
  by_cases h:(D.append s x).1=0
  ·rw[jQ h,List.length_cons]
   have:=zE5 (l:=l) (D:=(D.append s x).2)
   omega
  ·rw[vR h,List.length_cons];omega
theorem zKW (h:(D.create s b).1=0):(D.create s b).2.files=D.files++[mkF b s]:=by
 unfold DS.create at h ⊢
 split at h
 ·cases h
 split at h
 ·cases h
 split at h
 ·cases h
 split at h
 ·cases h
 split at h
 ·rename_i h1 h2 h3 h4 h5
  rw[if_neg h1,if_neg h2,if_neg h3,if_neg h4,if_pos h5]
 ·rename_i h5
  exact absurd h h5
theorem zKV:(D.create s b).2.pends=D.pends:=by
 unfold DS.create
 split
 ·rfl
 split
 ·rfl
 split
 ·rfl
 split
 ·rfl
 split
 ·exact xK
 ·exact xK
def DS.wr(D:DS)(s:Bs)(S:List Bs)(b:Nat):Int×DS:=
 if(D.create s b).1=0 then
  if(kJ s S (D.create s b).2).1=0 then(kJ s S (D.create s b).2).2.sync s else kJ s S (D.create s b).2
 else D.create s b
def kX(fs:List FA)(lim:Int):DS:=⟨fs,[],lim,-1,false⟩
theorem zMW {fs:List FA}{f g:FA}(hb:∀x∈fs,x.b≠f.b)(hg:g.b=f.b):upF (fs++[f]) g=fs++[g]:=by
 unfold upF
 rw[List.map_append]
 congr 1
 ·have:∀l:List FA,(∀x∈l,x.b≠f.b)->l.map (λx=>if x.b=g.b then g else x)=l:=by
   intro l hl
   induction l with
   |nil=>rfl
   |cons y l ih=>
    rw[List.map_cons,if_neg (by rw[hg];exact hl y (by simp)),ih (λx hx=>hl x (by simp[hx]))]
  exact this fs hb
 ·simp[hg]
theorem zKK {fs:List FA}{f:FA}{ps:List PD}{lim left:Int}{off:Bool}(hn:∀x∈fs,x.name≠f.name):(DS.mk (fs++[f]) ps lim left off).find f.name=some f:=by
 unfold DS.find
 simp only
 rw[List.find?_append,List.find?_eq_none.2 (λx hx=>by simpa using hn x hx)]
 simp
theorem zMG {fs:List FA}{f:FA}{ps:List PD}{lim:Int}{x:Bs}(hn:∀y∈fs,y.name≠f.name)(hb:∀y∈fs,y.b≠f.b)(hx:x.length=64)(hr:(((fs.map (·.now.length)).sum+f.now.length:Nat):Int)<lim):
  (DS.mk (fs++[f]) ps lim (-1) false).append f.name x=(0,⟨fs++[{f with now:=f.now++[x]}],ps++[(f.b,f.now.length,x)],lim,-1,false⟩):=by
 unfold DS.append
 rw[if_neg (by omega),if_neg (by simp),zKK hn]
 simp only
 have hu:(DS.mk (fs++[f]) ps lim (-1) false).used=(fs.map (·.now.length)).sum+f.now.length:=by simp[DS.used]
 rw[hu,if_neg (by omega)]
 have hd:(DS.mk (fs++[f]) ps lim (-1) false).deed=(0,DS.mk (fs++[f]) ps lim (-1) false):=rfl
 rw[hd,if_pos rfl]
 simp only
 rw[zMW (f:=f) (g:=⟨f.b,f.name,f.now++[x],f.safe⟩) hb rfl]
theorem zGF {fs:List FA}{b:Nat}{s:Bs}{lim:Int}{now0 safe:List Bs}(hn:∀y∈fs,y.name≠s)(hb:∀y∈fs,y.b≠b):∀{S now:List Bs} {ps:List PD},(∀x∈S,x.length=64)->(((fs.map (·.now.length)).sum+now.length+S.length:Nat):Int)<=lim->
  kJ s S ⟨fs++[⟨b,s,now,safe⟩],ps,lim,-1,false⟩=(0,⟨fs++[⟨b,s,now++S,safe⟩],ps++xE b now.length S,lim,-1,false⟩)
 | [],now,ps,_,_=>by simp[kJ,xE]
 |x::S,now,ps,h64,hr=>by
  have ha:=zMG (f:=⟨b,s,now,safe⟩) (ps:=ps) hn hb (h64 x (by simp)) (lim:=lim) (by simp only[List.length_cons] at hr ⊢;omega)
  rw[jQ (by rw[ha]),ha]
  simp only
  rw[zGF (now0:=now0) hn hb (λy hy=>h64 y (by simp[hy])) (by simp only[List.length_cons,List.length_append,List.length_nil] at hr ⊢;omega)]
  simp[xE]
theorem wr_calm {fs:List FA}{lim:Int}{s:Bs}{S:List Bs}{b:Nat}(hs:mayN s=true)(hn:∀y∈fs,y.name≠s)(hb:∀y∈fs,y.b≠b)(hf:fs.length<256)(h64:∀x∈S,x.length=64)(hr:(((fs.map (·.now.length)).sum+S.length:Nat):Int)<=lim):
  (kX fs lim).wr s S b=(0,kX (fs++[⟨b,s,S,S⟩]) lim):=by
 have hnone:(kX fs lim).find s=none:=by
  unfold DS.find kX
  exact List.find?_eq_none.2 (λx hx=>by simpa using hn x hx)
 have hc:(kX fs lim).create s b=(0,⟨fs++[⟨b,s,[],[]⟩],[],lim,-1,false⟩):=by
  unfold DS.create
  rw[if_neg (by simp[hs]),if_neg (by simp[kX]),if_neg (by simp[hnone]),if_neg (by simp[kX];omega)]
  rfl
 unfold DS.wr
 rw[hc,if_pos rfl]
 rw[zGF (now0:=[]) hn hb h64 (by simpa using hr),if_pos rfl]
 simp only[List.nil_append,List.length_nil]
 unfold DS.sync
 rw[if_neg (by simp),zKK (f:=⟨b,s,S,[]⟩) hn]
 simp only
 have hd:(DS.mk (fs++[⟨b,s,S,[]⟩]) (xE b 0 S) lim (-1) false).deed=(0,DS.mk (fs++[⟨b,s,S,[]⟩]) (xE b 0 S) lim (-1) false):=rfl
 rw[hd,if_pos rfl]
 have hk:yI ⟨b,s,S,[]⟩ (xE b 0 S)=⟨b,s,S,S⟩:=by
  have k1:=jY (base:=[]) (l:=S) (f:=⟨b,s,S,[]⟩) rfl h64
  obtain⟨k2,k3,k4⟩:=zKA (f:=⟨b,s,S,[]⟩) (xE b 0 S)
  simp only[List.length_nil,List.nil_append] at k1
  cases hF:yI ⟨b,s,S,[]⟩ (xE b 0 S) with
  |mk b' n' now' safe'=>
   rw[hF] at k1 k2 k3 k4
   simp only at k1 k2 k3 k4
   rw[k1,k2,k3,k4]
 simp only[hk]
 rw[zMW (f:=⟨b,s,S,[]⟩) (g:=⟨b,s,S,S⟩) hb rfl,zFG]
 rfl
end
end Go.Dsk
