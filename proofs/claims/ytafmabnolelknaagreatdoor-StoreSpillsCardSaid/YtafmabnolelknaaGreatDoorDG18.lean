import Derived.Test.YtafmabnolelknaaGreatDoorDG13
import Derived.Maps.Own
import Derived.Maps.Views
import Derived.Sort.KeysCollected
import Derived.Laws.AppendOwn
import Derived.CallsIn
namespace Go.Ab
open Go.Maps Go.MapKept
open Go.Proofs (encStr)
set_option linter.unusedSimpArgs false
set_option linter.unusedVariables false
abbrev zGD:Value->Option (DataW Unit×List MemPlace):=λ_=>some (.nil,[])
def SortedLaw(P:Program)(f g:FuncId)(kt:TypeId):Prop:=
 ∀(Bm b nn:Nat) (D0:DataW Unit) (w:World),Bm<w.heap.size->w.cell? ⟨Bm,0,none⟩=some (.map (some b))->w.ownsMap P kt zGD b nn D0->Maps.size D0<=maxLen->Maps.size D0*16<=140737488355328->
  Calls P f #[.func (.func g) #[] #[.pointer (some ⟨Bm,0,none⟩)]] w λe w'=>∃(v:Value) (ss:List (List UInt8)),e= .returned v/\ss.Perm (strKeys D0)/\
   w'.ownsRow w.heap.size kt 1 v ss.length ((ss.mergeSort leB).map encStr)/\(v= .slice none 0 0↔ss=[])/\Go.RowKit.Below w.heap.size w w'
def KeysLaw(P:Program)(f g:FuncId):Prop:=
 ∃t:TypeId,∀(mb:Option Nat) (w:World),Calls P f #[.map mb] w λe w'=>e= .returned (.func (.func g) #[] #[.pointer (some ⟨w.heap.size,0,none⟩)])/\w'=w.alloc (.cells #[.map mb] t)
theorem zH8 {μ:Ren}{h:Heap}{w:World}(H:HRel μ h w):Rel μ h w μ [] [] h w:=
 ⟨Evo.refl _ _ _,H,⟨rfl,by simp,by simp,by simp,by simp⟩⟩
theorem Rel.below {μ0:Ren}{h0:Heap}{w0:World}{μ:Ren}{h:Heap}{w w':World}(R:Rel μ0 h0 w0 μ [] [] h w)(B:Go.RowKit.Below w.heap.size w w'):Rel μ0 h0 w0 μ [] [] h w' where
 evo:={R.evo with
  size:=Nat.le_trans R.evo.size B.size
  frame:=λr hr hn=>by rw[B.block r (Nat.lt_of_lt_of_le hr R.evo.size)];exact R.evo.frame r hr hn
  os:=B.os.trans R.evo.os,tape:=B.tape.trans R.evo.tape,output:=B.output.trans R.evo.output}
 heap:=⟨R.heap.len,λb B' e hb he=>(R.heap.blk b B' e hb he).world (B.block _ (R.heap.bnd b e he)),R.heap.sep,λb e he=>Nat.lt_of_lt_of_le (R.heap.bnd b e he) B.size⟩
 locs:=⟨rfl,by simp,by simp,by simp,by simp⟩
theorem keys_ac {P:Program}{f g:FuncId}(hc:kM P f=true)(L:KeysLaw P f g){m:Option Nat}{h:Heap}{Q:AHp}(hq:Q (.func (.func g) [] [.ptr (some ⟨h.length,0⟩)]) (h++[.bx (.map m)])):AC P f [.map m] h Q:=by
 refine⟨hc,fun μ w vs H hv=> ?_⟩
 obtain⟨v,rfl,hm⟩:=kL hv
 obtain⟨t,L⟩:=L
 obtain⟨mb,rfl⟩:∃mb,v= .map mb:=by
  cases m with
  |none=>exact⟨none,hm⟩
  |some b=>obtain⟨e,_,hv⟩:=hm;exact⟨_,hv⟩
 refine(L mb w).mono λe w' ⟨he,hw⟩=> ?_
 subst hw
 have R:=(zH8 H).allocB (.bx (.map m)) (.cells #[.map mb] t) 1 ⟨rfl,.map mb,t,xN _ _,AV.rel.mono (Ren.le_append _ _) _ _ hm⟩
 refine⟨_,_,_,_,he,hq,R.evo,R.heap,?_⟩
 refine⟨#[],#[.pointer (some ⟨w.heap.size,0,none⟩)],rfl,rfl,_,_,rfl,⟨⟨w.heap.size,0,1⟩,?_,rfl⟩,rfl⟩
 rw[<-H.len];simp
theorem zJQ {μ:Ren}:∀{es:List (AV×AV×Nat)} {l:List MapEntry} {ss:List (List UInt8)},relM μ es l->zC0 es=some ss->l.map (·.key)=ss.map encStr/\l.map (·.born)=es.map (·.2.2)
 | [],l,ss,r,h=>by
  obtain rfl:l=[]:=r
  simp only[zC0,Option.some.injEq] at h
  subst h;exact⟨rfl,rfl⟩
 |(k,v,n)::es,l,ss,⟨E,Es,h1,h2,h3,h4,h5⟩,h=>by
  subst h1
  unfold zC0 at h
  split at h
  ·rename_i heq;cases heq
  ·rename_i s _ _ es' heq
   cases heq
   split at h
   ·rename_i l' hl
    cases h
    obtain⟨g1,g2⟩:=zJQ h5 hl
    have hk:E.key=encStr s:=h2
    simp[g1,g2,hk,h4]
   ·cases h
  ·cases h
def zQA(n:Nat):List (List UInt8)->AV
 | []=>.sl none
 |s::l=>.sl (some ⟨n,0,(s::l).length,(s::l).length,1⟩)
def zD2(h:Heap):List (List UInt8)->Heap
 | []=>h
 |s::l=>h++[.cells ((s::l).map .str) true]
theorem zP9 {P:Program}{f g:FuncId}{kt:TypeId}(hc:kM P f=true)(hkt:P.underlying kt=some .string)(L:SortedLaw P f g kt){p m cl:Nat}{es:List (AV×AV×Nat)}{ss ss':List (List UInt8)}{h:Heap}{Q:AHp}
  (hp:h[p]?=some (.bx (.map (some m))))(hm:h[m]?=some (.mp es cl))(hss:zC0 es=some ss)(hperm:ss'.Perm ss)(hsort:ss'.Pairwise (λa b=>leB a b=true))(hnd:ss.Nodup)(hbn:(es.map (·.2.2)).Nodup)(hbl:∀e∈es,e.2.2<cl)
  (hlen:ss.length<=1000000)(hl:∀s∈ss,s.length<=1000000)
  (hq:Q (zQA h.length ss') (zD2 h ss')):
  AC P f [.func (.func g) [] [.ptr (some ⟨p,0⟩)]] h Q:=by
 refine⟨hc,fun μ w vs H hv=> ?_⟩
 obtain⟨v,rfl,f',c',rfl,hf,hcc⟩:=kL hv
 obtain⟨y,hc1,hy⟩:=kL hcc
 have hfe:f'= #[]:=by apply Array.ext';exact hf
 have hce:c'= #[y]:=by apply Array.ext';exact hc1
 subst hfe hce
 obtain⟨e,he,rfl⟩:=hy
 obtain⟨hs0,y,t,hb1,hb2⟩:=H.blk p _ e hp he
 obtain⟨em,hem,rfl⟩:=hb2
 obtain⟨ES,hE1,hE2⟩:=H.blk m _ em hm hem
 obtain⟨hk1,hk2⟩:=zJQ hE2 hss
 have hsz:=hE2.length
 have hss_len:ss.length=es.length:=by
  have:=congrArg List.length hk1
  simp at this hsz
  omega
 have hESs:ES.size=es.length:=by simpa using hsz
 have hkey:∀x∈ES.toList,∃s∈ss,x.key=encStr s:=by
  intro x hx
  have:x.key∈ss.map encStr:=by rw[<-hk1];exact List.mem_map_of_mem hx
  obtain⟨s,hs,hs2⟩:=List.mem_map.1 this
  exact⟨s,hs,hs2.symm⟩
 have hread:∀x∈ES.toList,∃s∈ss,WideElems.rd P kt zGD x=some (.string s,.nil):=by
  intro x hx
  obtain⟨s,hs,hs2⟩:=hkey x hx
  refine⟨s,hs,?_⟩
  have:=hl s hs
  have hk:keyOf P kt (encStr s)=some (.string s):=WideMaps.keyOf_string_mk hkt (s:=⟨s.toArray⟩) (by simp[ByteArray.size,maxLen];omega)
  simp[WideElems.rd,hs2,hk]
 let D0:DataW Unit:=.map ((ES.toList.map (WideElems.rg P kt zGD)).foldr DataW.insert [])
 have hown:w.ownsMap P kt zGD em.r ES.size D0:=by
  refine⟨ES,cl,hE1,⟨by rw[hESs,<-hss_len];simp[maxLen];omega,⟨?_,?_,?_⟩,?_⟩,Nat.le_refl _,rfl⟩
  ·intro x hx
   have:x.born∈ES.toList.map (·.born):=List.mem_map_of_mem hx
   rw[hk2] at this
   obtain⟨e1,he1,he2⟩:=List.mem_map.1 this
   rw[<-he2];exact hbl _ he1
  ·rw[hk2];exact hbn
  ·rw[hk1]
   exact List.pairwise_map.2 (hnd.imp λhne heq=>hne (by simpa[encStr] using heq))
  ·intro x hx
   obtain⟨s,_,hs⟩:=hread x hx
   exact⟨_,hs⟩
 have hfold:∀(l:List (Lit×DataW Unit)),(l.foldr DataW.insert []).Perm l:=by
  intro l
  induction l with
  |nil=>exact .refl _
  |cons x l ih=>exact(WideShapes.insert_perm x _).trans (ih.cons x)
 have hkeys:(strKeys D0).Perm ss:=by
  have h1:(strKeys D0)=((ES.toList.map (WideElems.rg P kt zGD)).foldr DataW.insert []).map (λp=>strOf p.1):=rfl
  rw[h1]
  refine((hfold _).map _).trans ?_
  rw[List.map_map]
  have:ES.toList.map ((λp:Lit×DataW Unit=>strOf p.1)∘WideElems.rg P kt zGD)=ss:=by
   have hinj:(ES.toList.map ((λp:Lit×DataW Unit=>strOf p.1)∘WideElems.rg P kt zGD)).map encStr=ES.toList.map (·.key):=by
    rw[List.map_map]
    apply List.map_congr_left
    intro x hx
    obtain⟨s,hs,hs2⟩:=hread x hx
    obtain⟨s2,hs3,hs4⟩:=hkey x hx
    have hk:keyOf P kt (encStr s2)=some (.string s2):=WideMaps.keyOf_string_mk hkt (s:=⟨s2.toArray⟩) (by have:=hl s2 hs3;simp[ByteArray.size,maxLen];omega)
    simp[WideElems.rg,WideElems.rd,hs4,hk,strOf]
   rw[hk1] at hinj
   have inj:∀{a b:List (List UInt8)},a.map encStr=b.map encStr->a=b:=by
    intro a
    induction a with
    |nil=>intro b hb;cases b<;>simp at hb ⊢
    |cons x a ih=>intro b hb;cases b with
     |nil=>simp at hb
     |cons y b=>simp only[List.map_cons,List.cons.injEq] at hb;rw[ih hb.2,show x=y by simpa[encStr] using hb.1]
   exact inj hinj
  rw[this]
 have hD:Maps.size D0=ss.length:=by
  have:=hkeys.length_eq
  simpa[strKeys,D0,Maps.size] using this
 have hcell:w.cell? ⟨e.r,0,none⟩=some (.map (some em.r)):=by simp[World.cell?,hb1]
 have hptr:(⟨e.r,e.s+0,none⟩:Addr)=⟨e.r,0,none⟩:=by rw[hs0]
 show Calls P f #[.func (.func g) #[] #[.pointer (some ⟨e.r,e.s+0,none⟩)]] w _
 rw[hptr]
 refine(L e.r em.r ES.size D0 w (kW hb1) hcell hown (by rw[hD];simp[maxLen];omega) (by rw[hD];omega)).mono λen w' hh=> ?_
 obtain⟨v,ss2,he2,hp2,hrow,hnil,hbelow⟩:=hh
 have hsorted:ss2.mergeSort leB=ss':=by
  have e1:ss2.mergeSort leB=ss'.mergeSort leB:=mergeSort_of_perm (hp2.trans (hkeys.trans hperm.symm))
  rw[e1]
  exact List.mergeSort_of_pairwise hsort
 have hl2:ss2.length=ss'.length:=(hp2.trans (hkeys.trans hperm.symm)).length_eq
 have R:=(zH8 H).below hbelow
 cases hss':ss' with
 |nil=>
  subst hss'
  have:ss2=[]:=List.eq_nil_of_length_eq_zero hl2
  exact⟨_,_,_,_,he2,hq,R.evo,R.heap,hnil.2 this⟩
 |cons s0 l0=>
  rw[hss'] at hq
  have hne:ss2≠ []:=by intro h0;rw[h0,hss'] at hl2;simp at hl2
  obtain⟨hr0,hrow⟩:=hrow
  rcases hrow with⟨hv,_⟩|⟨gb,cap,cur,rfl,hge,hgb,hcap,hmax,hcur,htake⟩
  ·exact(hne (hnil.1 hv)).elim
  ·have hcs:cur.size=cap:=by omega
   have hlen2:ss2.length=(s0::l0).length:=by rw[hl2,hss']
   have R2:=R.adopt ⟨gb,0,cap⟩ (.cells ((s0::l0).map .str) true) (.inl hge) (kW hgb) ?_ ?_ (by simp)
   ·refine⟨_,.sl (some ⟨h.length,0,(s0::l0).length,(s0::l0).length,1⟩),_,_,he2,hq,R2.evo,R2.heap,⟨gb,0,cap⟩,cap,⟨gb,0,none⟩,?_,?_,Nat.le_refl _,.inr rfl,by simp,?_⟩
    ·rw[<-H.len];simp
    ·rw[hlen2]
    ·intro _
     simp only
     exact⟨by omega,by omega⟩
   ·refine⟨cur,kt,(0,0),hgb,by simp[hcs],by simp only[List.length_map];omega,?_,?_,λ_=>rfl⟩
    ·simp[zX,AV.one]
    ·intro i x hx
     have hi:=zD hx
     simp only[List.length_map] at hi
     rw[hsorted,hss'] at htake
     have h1:(cur.toList.take (ss2.length*1))[i]?=((s0::l0).map encStr)[i]?:=by rw[htake]
     rw[List.getElem?_take,if_pos (by omega)] at h1
     rw[List.getElem?_map] at h1 hx
     rcases hs:(s0::l0)[i]? with _|s
     ·rw[hs] at hx;cases hx
     ·rw[hs] at h1 hx
      simp only[Option.map_some,Option.some.injEq] at h1 hx
      subst hx
      refine⟨encStr s,?_,rfl⟩
      rw[Nat.zero_add]
      simpa using h1
   ·intro b B e' hb hlv he'
    have:=(zH8 H).heap.bnd b e' he'
    simp only;omega
end Go.Ab

