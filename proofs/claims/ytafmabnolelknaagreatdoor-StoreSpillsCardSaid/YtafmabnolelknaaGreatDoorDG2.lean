import Derived.Test.YtafmabnolelknaaGreatDoorDG1
import Derived.Laws.Entries
import Derived.ChangeKeysEq
namespace Go.Ab
set_option linter.unusedSimpArgs false
set_option linter.unusedVariables false
structure yB(μ:Ren)(lam:List Nat)(ρ:List LV)(tmps:Array Value):Prop where
 len:ρ.length=tmps.size
 get:∀(t:Nat) (lv:LV),ρ[t]?=some lv->lv.rel μ lam (tmps.getD t undef)
theorem yB.mono {μ μ':Ren}{lam lam':List Nat}{ρ:List LV}{tmps:Array Value}(E:yB μ lam ρ tmps)(h:Ren.le μ μ')(hl:xS lam lam'):yB μ' lam' ρ tmps:=
 ⟨E.len,λt lv ht=>(E.get t lv ht).mono h hl⟩
theorem yB.ev {μ:Ren}{lam:List Nat}{ρ:List LV}{a:Act}(E:yB μ lam ρ a.tmps)(x:Operand):(ev ρ x).rel μ lam (a.eval x):=by
 cases x with
 |tmp t=>
  simp only[Ab.ev,Act.eval,List.getD]
  cases h:ρ[t]? with
  |none=>simp[LV.rel]
  |some lv=>simpa using E.get t lv h
 |const v=>
  simp only[Ab.ev,Act.eval]
  split
  ·rename_i x hx;exact zED μ 4 v x hx
  ·trivial
 |global g=>trivial
 |func f=>exact⟨#[],#[],rfl,rfl,rfl⟩
theorem yB.val {μ:Ren}{lam:List Nat}{ρ:List LV}{a:Act}(E:yB μ lam ρ a.tmps){x:Operand}{v:AV}(h:Ab.ev ρ x= .val v):v.rel μ (a.eval x):=by
 have:=E.ev x;rw[h] at this;exact this
theorem yB.loc {μ:Ren}{lam:List Nat}{ρ:List LV}{a:Act}(E:yB μ lam ρ a.tmps){x:Operand}{k o:Nat}(h:Ab.ev ρ x= .loc k o):
  ∃r,lam[k]?=some r/\a.eval x= .pointer (some ⟨r,o,none⟩):=by
 have:=E.ev x;rw[h] at this;exact this
theorem yB.vals {μ:Ren}{lam:List Nat}{ρ:List LV}{a:Act}(E:yB μ lam ρ a.tmps):∀(os:List Operand) (l:List AV),Ab.vals ρ os=some l->relL μ l (os.map a.eval)
 | [],l,h=>by simp[Ab.vals] at h;subst h;rfl
 |o::os,l,h=>by
  simp only[Ab.vals] at h
  split at h
  ·rename_i x l' hx hl
   cases h
   exact⟨_,_,rfl,E.val hx,E.vals os l' hl⟩
  ·cases h
theorem yB.int {μ:Ren}{lam:List Nat}{ρ:List LV}{a:Act}(E:yB μ lam ρ a.tmps){x:Operand}{n:Int}(h:evI ρ x=some n):∃k,a.eval x= .int k n:=by
 simp only[evI] at h
 split at h
 ·rename_i k m hx;cases h;exact⟨k,E.val hx⟩
 ·cases h
def Out(P:Program)(μ0:Ren)(h0:Heap)(w0:World)(μ:Ren)(lam:List Nat)(w:World)(s:Sem Value)(K:KO):Prop:=
 ∃(v:Value) (w':World) (lv:LV) (L':Locs) (h':Heap) (μ':Ren) (lam':List Nat),
  s.run P w= .ok v w'/\K lv L' h'/\Rel μ0 h0 w0 μ' lam' L' h' w'/\Ren.le μ μ'/\xS lam lam'/\lv.rel μ' lam' v
section
variable{P:Program}{μ0:Ren}{h0:Heap}{w0:World}{μ:Ren}{lam:List Nat}{L:Locs}{h:Heap}{w:World}{K:KO}
theorem xS.refl (l:List Nat):xS l l:=λ_ _ h=>h
theorem Out.same {s:Sem Value}(R:Rel μ0 h0 w0 μ lam L h w){lv:LV}{v:Value}(hr:s.run P w= .ok v w)(hk:K lv L h)(hv:lv.rel μ lam v):Out P μ0 h0 w0 μ lam w s K:=
 ⟨v,w,lv,L,h,μ,lam,hr,hk,R,.refl _,.refl _,hv⟩
theorem zA8 {t:TypeId}{z:AV}(hz:tz P t=some z):∃i v,P.info? t=some i/\i.zero=some v/\ofV 4 v=some z:=by
 simp only[tz,Option.bind_eq_some_iff] at hz
 obtain⟨v,⟨i,hi,hv⟩,hz⟩:=hz
 exact⟨i,v,hi,hv,hz⟩
theorem jH {t:TypeId}{z:AV}(h:okTy P t z=true):z.cells.length=tsz P t/\isAgg z=tagg P t/\(∃d,P.underlying t=some d)/\∀c,z≠ .tup c:=by
 simp only[okTy,Bool.and_eq_true,beq_iff_eq,Option.isSome_iff_exists] at h
 exact⟨h.1.1.1,h.1.1.2,h.1.2,λc hc=>by rw[hc] at h;simp[zLY] at h⟩
theorem zBA {t:TypeId}{d:TypeDesc}(hd:P.underlying t=some d):(Go.isAgg t).run P w= .ok (tagg P t) w:=by
 unfold Go.isAgg tagg
 rw[Sem.run_bind,run_underlying hd]
 cases d<;>simp[hd]
theorem zBW {t:TypeId}{i:TypeInfo}(hi:P.info? t=some i):tsz P t=i.size:=by simp[tsz,Program.cellsOf,hi]
theorem yE {t:TypeId}{i:TypeInfo}(hi:P.info? t=some i):(sizeOf t).run P w= .ok (tsz P t) w:=run_sizeOf w hi
theorem zBI {μ:Ren}{r s:Nat}{C:Array Value}{t:TypeId}{fz:Nat×Nat}{c:List AV}(hw:w.heap[r]?=some (.cells C t fz))
  (hc:∀(i:Nat) (x:AV),c[i]?=some x->∃y,C[s+i]?=some y/\x.rel μ y){ty:TypeId}{z:AV}(hz:tz P ty=some z)(hok:okTy P ty z=true)
  {o:Nat}{KV:AV->Prop}(hp:part z c o KV):
  ∃v x,(loadVar ty ⟨r,s+o,none⟩).run P w= .ok v w/\KV x/\x.rel μ v:=by
 obtain⟨i,zv,hi,hzv,hz'⟩:=zA8 hz
 obtain⟨h1,h2,⟨d,hd⟩,_⟩:=jH hok
 have hag:=zBA (w:=w) hd
 simp only[part] at hp
 cases hg:isAgg z with
 |true=>
  rw[hg] at hp h2
  simp only[need] at hp
  split at hp
  ·rename_i hle
   simp at hle
   have hcells:∀j v,((C.toList.drop (s+o)).take (tsz P ty))[j]?=some v->w.cell? ((⟨r,s+o,none⟩:Addr).add j)=some v:=by
    intro j v hv
    rw[kC,zIY hw]
    rw[List.getElem?_take] at hv
    split at hv
    ·rw[List.getElem?_drop] at hv;simpa using hv
    ·cases hv
   have hlenC:∀j,j<tsz P ty->∃y,C[s+o+j]?=some y:=by
    intro j hj
    have:o+j<c.length:=by omega
    obtain⟨y,hy,_⟩:=hc (o+j) c[o+j] (by simp[this])
    exact⟨y,by rw[<-hy];congr 1;omega⟩
   have hlen:((C.toList.drop (s+o)).take (tsz P ty)).length=tsz P ty:=by
    simp only[List.length_take,List.length_drop,Array.length_toList]
    rcases Nat.eq_zero_or_pos (tsz P ty) with h0|hpos
    ·omega
    ·obtain⟨y,hy⟩:=hlenC (tsz P ty-1) (by omega)
     have:s+o+(tsz P ty-1)<C.size:=by
      rcases Nat.lt_or_ge (s+o+(tsz P ty-1)) C.size with h'|h'
      ·exact h'
      ·simp[Array.getElem?_eq_none h'] at hy
     omega
   have hrun:=run_loadCells_list (P:=P) w ⟨r,s+o,none⟩ _ hcells
   rw[hlen] at hrun
   refine⟨.agg ((C.toList.drop (s+o)).take (tsz P ty)).toArray,_,?_,hp,?_⟩
   ·unfold loadVar
    rw[Sem.run_bind,hag,<-h2]
    simp[yE hi,hrun]
   ·refine⟨_,rfl,?_⟩
    simp only
    rw[h1]
    refine relL.of_get (by simp only[List.length_take,List.length_drop] at hlen ⊢;rw[hlen];omega) λj x y hx hy=> ?_
    rw[List.getElem?_take] at hx hy
    split at hx
    ·rename_i hj
     rw[if_pos hj] at hy
     rw[List.getElem?_drop] at hx hy
     obtain⟨y',g1,g2⟩:=hc _ _ hx
     have:C.toList[s+o+j]?=some y':=by simpa[Nat.add_assoc] using g1
     rw[this] at hy;cases hy;exact g2
    ·cases hx
  ·exact hp.elim
 |false=>
  rw[hg] at hp h2
  simp only at hp
  split at hp
  ·rename_i v hv
   obtain⟨y,hy,hxy⟩:=hc o v hv
   refine⟨y,v,?_,hp,hxy⟩
   unfold loadVar
   rw[Sem.run_bind,hag,<-h2]
   have hcell:w.cell? ⟨r,s+o,none⟩=some y:=by rw[zIY hw,hy]
   simp[hcell]
  ·exact hp.elim
theorem zDW:∀{zs:List AV} {KL:List AV->Prop},exL zs KL->∃l,KL l/\l.length=zs.length/\(∀x∈l,x.one=true)
 | [],KL,h=>⟨[],h,rfl,by simp⟩
 |z::zs,KL,h=>by
  cases z<;>simp only[exL] at h
  all_goals first
   |(obtain⟨n,hv,h⟩:=h;obtain⟨l,h1,h2,h3⟩:=zDW h;exact⟨_,h1,by simp[h2],by intro x hx;simp at hx;rcases hx with rfl|hx;(first|exact hv|rfl);exact h3 x hx⟩)
   |(obtain⟨n,h⟩:=h;obtain⟨l,h1,h2,h3⟩:=zDW h;exact⟨_,h1,by simp[h2],by intro x hx;simp at hx;rcases hx with rfl|hx;rfl;exact h3 x hx⟩)
theorem vP {v:AV}(h:v.one=true):v.cells=[v]:=by cases v<;>simp[AV.one] at h<;>rfl
theorem zE1 {v:AV}(h:v.one=true):isAgg v=false:=by cases v<;>simp[AV.one] at h<;>rfl
theorem zIT {z:AV}{KV:AV->Prop}(hz:∀c,z≠ .tup c)(h:exV z KV):∃v,KV v/\isAgg v=isAgg z/\v.cells.length=z.cells.length/\(∀x∈v.cells,x.one=true):=by
 cases z<;>simp only[exV] at h
 case tup c=>exact absurd rfl (hz c)
 case agg zs=>obtain⟨l,h1,h2,h3⟩:=zDW h;exact⟨_,h1,rfl,h2,h3⟩
 all_goals
  obtain⟨l,h1,h2,h3⟩:=zDW h
  obtain⟨x,rfl⟩:∃x,l=[x]:=by
   match l,h2 with
   | [x],_=>exact⟨x,rfl⟩
  have hx:=h3 x (by simp)
  exact⟨x,h1,by rw[zE1 hx];rfl,by rw[vP hx];rfl,by rw[vP hx];simpa using hx⟩
theorem vQ {h:Heap}{p:PA}{n:Nat}{l:List AV}(hl:zA h p n=some l):∃c rw,h[p.b]?=some (.cells c rw)/\p.o+n<=c.length/\l=(c.drop p.o).take n:=by
 simp only[zA] at hl
 split at hl
 ·rename_i c rw hc
  split at hl
  ·cases hl;exact⟨c,rw,hc,by assumption,rfl⟩
  ·cases hl
 ·cases hl
theorem zEO {z:AV}{h:Heap}{p:PA}{KV:AV->Prop}(hz:∀c,z≠ .tup c)(hp:zSZ z h p KV):∃c rw,h[p.b]?=some (.cells c rw)/\part z c p.o KV:=by
 obtain⟨v,⟨h1,h2⟩,h3,h4,h5⟩:=zIT hz hp
 obtain⟨c,rw,g1,g2,g3⟩:=vQ h1
 refine⟨c,rw,g1,?_⟩
 unfold part
 cases hg:isAgg z with
 |true=>
  rw[hg] at h3
  cases v<;>simp[isAgg] at h3
  rename_i cs
  have g4:cs=(c.drop p.o).take z.cells.length:=g3
  simp only[need,g2,decide_true,<-g4]
  exact h2
 |false=>
  rw[hg] at h3
  have hzl:z.cells.length=1:=by cases z<;>simp[isAgg] at hg<;>simp[AV.cells]
  have hvc:v.cells=[v]:=by cases v<;>simp[isAgg] at h3<;>rfl
  rw[hvc,hzl] at g3
  have:c[p.o]?=some v:=by
   have:=congrArg (λl=>l[0]?) g3
   simp[List.getElem?_take,List.getElem?_drop] at this
   exact this.symm
  simp[this,h2]
end
section
variable{P:Program}{μ0:Ren}{h0:Heap}{w0:World}{μ:Ren}{lam:List Nat}{L:Locs}{h:Heap}{w:World}{K:KO}
theorem zG {b:Bool}{A:Prop}(h:need b A):b=true/\A:=by cases b<;>simp_all [need]
theorem zJ7 (l:List Nat)(m:List Nat):xS l (l++m):=by
 intro k r hk
 have:=zD hk
 rw[List.getElem?_append_left this];exact hk
theorem zOB (t:TypeId)(v:Value):(newVar t v).run P w= .ok ⟨w.heap.size,0,none⟩ (w.alloc (.cells v.cells t)):=by
 simp[newVar,newRow]
theorem zQU (R:Rel μ0 h0 w0 μ lam L h w){loc:Bool}{c:List AV}{t:TypeId}{v:Value}(hc:relL μ c v.cells.toList)(hk:vNew loc c L h K):
  Out P μ0 h0 w0 μ lam w (do pure (.pointer (some (<-newVar t v)))) K:=by
 have hrun:(do pure (.pointer (some (<-newVar t v))):Sem Value).run P w= .ok (.pointer (some ⟨w.heap.size,0,none⟩)) (w.alloc (.cells v.cells t)):=by
  rw[Sem.run_bind,zOB];rfl
 obtain⟨ho,hk⟩:=zG hk
 cases loc with
 |true=>
  simp only at hk
  refine⟨_,_,_,_,_,μ,lam++[w.heap.size],hrun,hk,R.allocLoc c v.cells t hc ho,.refl _,zJ7 _ _,w.heap.size,?_,rfl⟩
  rw[<-R.locs.len];simp
 |false=>
  simp only at hk
  have hl:=hc.length
  have hsz:v.cells.size=c.length:=by simpa using hl
  refine⟨_,_,_,_,_,_,lam,hrun,hk,R.alloc c v.cells t (by omega) ho (λi x hx=> ?_),Ren.le_append _ _,xS.refl _,⟨w.heap.size,0,v.cells.size⟩,?_,by simp⟩
  ·obtain⟨y,hy,hxy⟩:=hc.get hx
   exact⟨y,by simpa using hy,hxy⟩
  ·simp[R.heap.len]
theorem jB {t:TypeId}{zs:List AV}(hz:zAA P t=some zs)(w:World)(μ:Ren):∃v,(zeroValue t).run P w= .ok v w/\relL μ zs v.cells.toList/\zs.length=tsz P t:=by
 simp only[zAA] at hz
 split at hz
 ·rename_i z hz'
  split at hz
  ·rename_i hok
   cases hz
   obtain⟨i,v,hi,hzv,hv⟩:=zA8 hz'
   obtain⟨h1,_,_,h4⟩:=jH hok
   refine⟨v,?_,AV.rel.cells (zED μ 4 v z hv) h4,h1⟩
   simp only[zeroValue,typeInfo,Sem.run_bind,run_program,Result.andThen_ok,hi,Sem.run_pure,hzv]
  ·cases hz
 ·cases hz
theorem zQZ (R:Rel μ0 h0 w0 μ lam L h w){loc:Bool}{t:TypeId}{zs:List AV}(hz:zAA P t=some zs)(hk:vNew loc zs L h K):
  Out P μ0 h0 w0 μ lam w (Instr.alloc t true (.tuple #[])) K:=by
 obtain⟨v,hrun,hv,_⟩:=jB hz w μ
 obtain⟨v',w',lv,L',h',μ',lam',hr,rest⟩:=zQU (P:=P) (t:=t) (v:=v) R hv hk
 refine⟨v',w',lv,L',h',μ',lam',?_,rest⟩
 unfold Instr.alloc
 rw[Sem.run_bind,hrun]
 exact hr
theorem out_box (R:Rel μ0 h0 w0 μ lam L h w){loc:Bool}{t:TypeId}{x:AV}{v:Value}(hx:x.rel μ v)(ht:∀c,x≠ .tup c)(hk:vNew loc x.cells L h K):
  Out P μ0 h0 w0 μ lam w (Instr.box t v) K:=zQU R (AV.rel.cells hx ht) hk
theorem zTP (R:Rel μ0 h0 w0 μ lam L h w){ρ:List LV}{a:Act}(E:yB μ lam ρ a.tmps){t:TypeId}{x:Operand}(hk:zGK P t (ev ρ x) L h λv=>K (.val v) L h):
  Out P μ0 h0 w0 μ lam w (Instr.loadAt t (a.eval x)) K:=by
 simp only[zGK] at hk
 split at hk
 ·exact hk.elim
 ·rename_i z hz
  split at hk
  ·exact hk.elim
  ·rename_i hok
   have hok':=jH hok
   split at hk
   ·rename_i k o hx
    split at hk
    ·rename_i c hc
     obtain⟨r,hr,hv⟩:=E.loc hx
     obtain⟨C,t',fz,h1,h2,h3⟩:=R.locs.blk k c r hc hr
     obtain⟨v,x',g1,g2,g3⟩:=zBI (P:=P) (s:=0) h1 (λi x hx=>by simpa using h2.get hx) hz hok hk
     refine Out.same R ?_ g2 g3
     rw[hv]
     simpa[Instr.loadAt,Instr.sureAddr] using g1
    ·exact hk.elim
   ·rename_i q hx
    have hv:=E.val hx
    cases q with
    |none=>exact hk.elim
    |some p=>
     simp only[vPtr] at hk
     obtain⟨e,he,hv⟩:=hv
     obtain⟨c,rw',hc,hp⟩:=zEO hok'.2.2.2 hk
     obtain⟨C,t',fz,h1,h2,h3,h3',h4,h5⟩:=R.heap.blk p.b _ e hc he
     obtain⟨v,x',g1,g2,g3⟩:=zBI (P:=P) h1 h4 hz hok hp
     refine Out.same R ?_ g2 g3
     rw[hv]
     simpa[Instr.loadAt,Instr.sureAddr] using g1
   ·exact hk.elim
theorem zAJ {μ:Ren}:∀{xs:List AV} {vs:List Value},relL μ xs vs->zX xs=true->∀v∈vs,v.oneCell'=true
 | [],vs,h,_,v,hv=>by simp only[relL] at h;simp[h] at hv
 |x::xs,_,⟨y,ys,hl,hx,hxs⟩,ho,v,hv=>by
  subst hl
  simp only[zX,List.all_cons,Bool.and_eq_true] at ho
  simp at hv
  rcases hv with rfl|hv
  ·exact hx.oneCell ho.1
  ·exact zAJ hxs ho.2 v hv
theorem zD1 (R:Rel μ0 h0 w0 μ lam L h w){p:PA}{e:ME}(he:μ[p.b]?=some e){xs:List AV}{vs:List Value}(hv:relL μ xs vs)(ho:zX xs=true){KH:Heap->Prop}(hk:zL h p xs KH):
  ∃w' h',(storeCells ⟨e.r,e.s+p.o,none⟩ vs).run P w= .ok () w'/\KH h'/\Rel μ0 h0 w0 μ lam L h' w':=by
 simp only[zL] at hk
 split at hk
 ·rename_i c hc
  obtain⟨hle,hk⟩:=hk
  obtain⟨C,t',fz,h1,h2,h3,h3',h4,h5⟩:=R.heap.blk p.b _ e hc he
  have hl:=hv.length
  refine⟨_,_,kG vs w e.r (e.s+p.o) 0 C t' fz h1 (by omega) (zAJ hv ho) (λj _=>by rw[h5 rfl];simp),hk,?_⟩
  have:=R.store hc he hle hv ho h1
  simpa using this
 ·exact hk.elim
theorem zP4 (R:Rel μ0 h0 w0 μ lam L h w){k r o:Nat}{c:List AV}(hr:lam[k]?=some r)(hc:L[k]?=some c){xs:List AV}{vs:List Value}(hv:relL μ xs vs)(ho:zX xs=true)
  (hle:o+xs.length<=c.length):
  ∃w',(storeCells ⟨r,o,none⟩ vs).run P w= .ok () w'/\Rel μ0 h0 w0 μ lam (L.set k (splice c o xs)) h w':=by
 obtain⟨C,t',fz,h1,h2,h3⟩:=R.locs.blk k c r hc hr
 have hl:=hv.length
 have hcl:=h2.length
 have hC:C.size=c.length:=by simpa using hcl
 refine⟨_,kG vs w r o 0 C t' fz h1 (by omega) (zAJ hv ho) (λj _=>by rw[h3.1];simp),?_⟩
 have:=R.storeLoc hc hr hle hv ho h1
 simpa using this
theorem zER {t:TypeId}{a:Addr}{v:Value}(hsz:v.cells.size=tsz P t){i:TypeInfo}(hi:P.info? t=some i):
  (storeVar t a v).run P w=(storeCells a v.cells.toList).run P w:=by
 unfold storeVar
 rw[Sem.run_bind,yE hi]
 simp[hsz]
theorem zF5 {t:TypeId}(h:0<tsz P t):∃i,P.info? t=some i:=by
 cases hi:P.info? t with
 |none=>simp[tsz,Program.cellsOf,hi] at h
 |some i=>exact⟨i,rfl⟩
theorem zQR (R:Rel μ0 h0 w0 μ lam L h w){ρ:List LV}{a:Act}(E:yB μ lam ρ a.tmps){t:TypeId}{xa x:Operand}{v:AV}(hx:ev ρ x= .val v)
  (hneed:((P.info? t).isSome&&v.cells.length==tsz P t&&zX v.cells)=true)
  (hk:match ev ρ xa with
    | .loc k i=>match L[k]? with |some c=>need (decide (i+v.cells.length<=c.length)) (K .top (L.set k (splice c i v.cells)) h)|none=>False
    | .val (.ptr q)=>vPtr q λp=>zL h p v.cells λh'=>K .top L h'
    |_=>False):
  ∃w' L' h',(Instr.storeAt t (a.eval xa) (a.eval x)).run P w= .ok () w'/\K .top L' h'/\Rel μ0 h0 w0 μ lam L' h' w':=by
 simp only[Bool.and_eq_true,Option.isSome_iff_exists,beq_iff_eq] at hneed
 obtain⟨⟨⟨i,hi⟩,hsz⟩,ho⟩:=hneed
 have hv:=E.val hx
 have ht:∀c,v≠ .tup c:=by
  intro c hc;subst hc;simp[zX,AV.cells,AV.one] at ho
 have hcells:=AV.rel.cells hv ht
 have hcl:=hcells.length
 have hsz':(a.eval x).cells.size=tsz P t:=by rw[<-hsz,<-hcl];simp
 split at hk
 ·rename_i k o hxa
  obtain⟨r,hr,hav⟩:=E.loc hxa
  split at hk
  ·rename_i c hc
   simp only[need] at hk
   split at hk
   ·rename_i hle
    simp at hle
    obtain⟨w',g1,g2⟩:=zP4 (P:=P) R hr hc hcells ho hle
    refine⟨w',_,_,?_,hk,g2⟩
    rw[hav]
    simp only[Instr.storeAt,Instr.sureAddr,Sem.run_bind,Sem.run_pure,Result.andThen_ok]
    rw[zER hsz' hi,g1]
   ·exact hk.elim
  ·exact hk.elim
 ·rename_i q hxa
  have hav:=E.val hxa
  cases q with
  |none=>exact hk.elim
  |some p=>
   simp only[vPtr] at hk
   obtain⟨e,he,hav⟩:=hav
   obtain⟨w',h',g1,g2,g3⟩:=zD1 (P:=P) R he hcells ho hk
   refine⟨w',_,_,?_,g2,g3⟩
   rw[hav]
   simp only[Instr.storeAt,Instr.sureAddr,Sem.run_bind,Sem.run_pure,Result.andThen_ok]
   rw[zER hsz' hi,g1]
 ·exact hk.elim
theorem zJ2 (R:Rel μ0 h0 w0 μ lam L h w){ρ:List LV}{a:Act}(E:yB μ lam ρ a.tmps){x:Operand}
  (hk:match ev ρ x with
   | .loc k i=>K (.loc k i) L h
   | .val (.ptr q)=>vPtr q λp=>K (.val (.ptr (some p))) L h
   | .val (.func (.func f) a c)=>K (.val (.func (.func f) a c)) L h
   | .val (.iface t v)=>K (.val (.iface t v)) L h
   |_=>False)(o:Oper)(ho:o.op= .nilCheck x):
  ∃lv,(execOp a.eval o).run P w= .ok (.value (a.eval x)) w/\K lv L h/\lv.rel μ lam (a.eval x):=by
 have hrun:(∀v,a.eval x=v->(∃q,v= .pointer (some q))∨(∃f c d,v= .func (.func f) c d)∨(∃t y,v= .iface t y))->(execOp a.eval o).run P w= .ok (.value (a.eval x)) w:=by
  intro hv
  rcases hv _ rfl with⟨q,hq⟩|⟨f,c,d,hq⟩|⟨t,y,hq⟩<;>simp[execOp,ho,hq]
 have hev:=E.ev x
 split at hk
 ·rename_i k i hx
  rw[hx] at hev
  obtain⟨r,hr,hv⟩:=hev
  exact⟨_,hrun (λv hv'=>.inl ⟨_,hv'.symm.trans hv⟩),hk,r,hr,hv⟩
 ·rename_i q hx
  rw[hx] at hev
  cases q with
  |none=>exact hk.elim
  |some p=>
   have hev':=hev
   obtain⟨e,he,hv⟩:=hev
   exact⟨_,hrun (λv hv'=>.inl ⟨_,hv'.symm.trans hv⟩),hk,hev'⟩
 ·rename_i f c d hx
  rw[hx] at hev
  have hev':=hev
  obtain⟨f',c',hv,_⟩:=hev
  exact⟨_,hrun (λv hv'=>.inr (.inl ⟨_,_,_,hv'.symm.trans hv⟩)),hk,hev'⟩
 ·rename_i t v hx
  rw[hx] at hev
  have hev':=hev
  obtain⟨y,hv,_⟩:=hev
  exact⟨_,hrun (λv hv'=>.inr (.inr ⟨_,_,hv'.symm.trans hv⟩)),hk,hev'⟩
 ·exact hk.elim
theorem vJ {b:Bool}{A B:Prop}(h:vif b A B):(b=true/\A)∨(b=false/\B):=by cases b<;>simp_all [vif]
theorem zIG (R:Rel μ0 h0 w0 μ lam L h w){ρ:List LV}{a:Act}(E:yB μ lam ρ a.tmps){s:TypeId}{x:Operand}{f:Nat}
  (hk:match zB6 P s f with
  |none=>False
  |some (off,ft)=>
   need (decide (0<tsz P ft)) <|
    match ev ρ x with
    | .loc k i=>K (.loc k (i+off)) L h
    | .val (.ptr q)=>vPtr q λp=>K (.val (.ptr (some ⟨p.b,p.o+off⟩))) L h
    |_=>False):
  Out P μ0 h0 w0 μ lam w (Instr.fieldAt s (a.eval x) f) K:=by
 split at hk
 ·exact hk.elim
 ·rename_i off ft hf
  obtain⟨h1,hk⟩:=zG hk
  simp at h1
  obtain⟨i,hi⟩:=zF5 h1
  have hrun:∀r o:Nat,a.eval x= .pointer (some ⟨r,o,none⟩)->(Instr.fieldAt s (a.eval x) f).run P w= .ok (.pointer (some ⟨r,o+off,none⟩)) w:=by
   intro r o hv
   simp only[zB6] at hf
   split at hf
   ·rename_i fs hfs
    simp only[Option.map_eq_some_iff] at hf
    obtain⟨fd,hfd,heq⟩:=hf
    simp only[Prod.mk.injEq] at heq
    obtain⟨rfl,rfl⟩:=heq
    unfold Instr.fieldAt
    rw[Sem.run_bind,run_underlying hfs]
    simp only[Result.andThen_ok,hfd,hv,Instr.sureAddr,Sem.run_bind,Sem.run_pure,fieldPlace]
    rw[yE hi]
    simp only[Result.andThen_ok]
    rw[if_neg (by omega)]
    simp[kC]
   ·cases hf
  split at hk
  ·rename_i k i' hx
   obtain⟨r,hr,hv⟩:=E.loc hx
   exact Out.same R (hrun _ _ hv) hk ⟨r,hr,rfl⟩
  ·rename_i q hx
   have hv:=E.val hx
   cases q with
   |none=>exact hk.elim
   |some p=>
    simp only[vPtr] at hk
    obtain⟨e,he,hv⟩:=hv
    exact Out.same R (hrun _ _ hv) hk ⟨e,he,by simp[Nat.add_assoc]⟩
  ·exact hk.elim
theorem zGN (R:Rel μ0 h0 w0 μ lam L h w){t e:TypeId}(ht:P.underlying t=some (.slice e))(he:∃i,P.info? e=some i){s:OSl}{v:Value}(hv:AV.rel μ (.sl s) v){k:IntKind}{i:Int}
  (hk:vIdx s i (tsz P e) λp=>K (.val (.ptr (some p))) L h):
  Out P μ0 h0 w0 μ lam w (Instr.indexAt t v (.int k i)) K:=by
 cases s with
 |none=>exact hk.elim
 |some s=>
  obtain⟨g1,g2,hk⟩:=hk
  obtain⟨m,c',q,hm,rfl,hlc,hq,hx1,hx2⟩:=hv
  obtain⟨ei,hei⟩:=he
  have hc':c'≠0:=by
   intro h0
   by_cases ho:s.opn=0
   ·have:=hx1 ho;omega
   ·have:=(hx2 ho).1;omega
  have hq':=hq.resolve_left hc'
  subst hq'
  have hrun:(Instr.indexAt t (.slice (some ⟨m.r,m.s+s.o,none⟩) s.len c') (.int k i)).run P w= .ok (.pointer (some ⟨m.r,m.s+s.o+i.toNat*tsz P e,none⟩)) w:=by
   unfold Instr.indexAt
   simp only[asIntOf,Sem.run_bind,Sem.run_pure,Result.andThen_ok,run_underlying ht]
   rw[if_pos ⟨g1,g2⟩,Sem.run_bind,yE hei]
   simp[kC]
  refine Out.same R hrun hk ⟨m,hm.resolve_right hc',?_⟩
  simp[Nat.add_assoc]
theorem zIF (R:Rel μ0 h0 w0 μ lam L h w){ρ:List LV}{a:Act}(E:yB μ lam ρ a.tmps){t:TypeId}{x ix:Operand}
  (hk:match evI ρ ix,P.underlying t,ev ρ x,x with
  |some i,some (.slice e),.val (.sl s),_=>need (P.info? e).isSome (vIdx s i (tsz P e) λp=>K (.val (.ptr (some p))) L h)
  |some i,some (.array n e),.val (.ptr q),_=>vPtr q λp=>need ((P.info? e).isSome&&(decide (0<=i)&&decide (i<n))) (K (.val (.ptr (some ⟨p.b,p.o+i.toNat*tsz P e⟩))) L h)
  |some i,some (.array n e),.loc k j,_=>need ((P.info? e).isSome&&(decide (0<=i)&&decide (i<n))) (K (.loc k (j+i.toNat*tsz P e)) L h)
  |some i,some (.array n e),.top,.global g=>need ((P.info? e).isSome&&(decide (0<=i)&&decide (i<n))) (∃a j:Nat,h[a]?=some (.gm g j)/\K (.val (.ptr (some ⟨j,i.toNat*tsz P e⟩))) L h)
  |_,_,_,_=>False):
  Out P μ0 h0 w0 μ lam w (Instr.indexAt t (a.eval x) (a.eval ix)) K:=by
 split at hk
 ·rename_i i e s hi ht hx
  obtain⟨k,hk'⟩:=E.int hi
  rw[hk']
  obtain⟨h1,hk⟩:=zG hk
  exact zGN R ht (Option.isSome_iff_exists.1 h1) (E.val hx) hk
 ·rename_i i n e q hi ht hx
  obtain⟨k,hk'⟩:=E.int hi
  have hv:=E.val hx
  cases q with
  |none=>exact hk.elim
  |some p=>
   simp only[vPtr] at hk
   obtain⟨h1,hk⟩:=zG hk
   simp[Option.isSome_iff_exists] at h1
   obtain⟨m,hm,hv⟩:=hv
   obtain⟨⟨ei,hei⟩,h1⟩:=h1
   refine Out.same R (v:=.pointer (some ⟨m.r,m.s+p.o+i.toNat*tsz P e,none⟩)) ?_ hk ⟨m,hm,by simp[Nat.add_assoc]⟩
   rw[hk',hv]
   unfold Instr.indexAt
   simp only[asIntOf,Sem.run_bind,Sem.run_pure,Result.andThen_ok,run_underlying ht,Instr.sureAddr]
   rw[if_pos ⟨h1.1,h1.2⟩,Sem.run_bind,yE hei]
   simp[kC]
 ·rename_i i n e k' j hi ht hx
  obtain⟨k,hk'⟩:=E.int hi
  obtain⟨r,hr,hv⟩:=E.loc hx
  obtain⟨h1,hk⟩:=zG hk
  simp[Option.isSome_iff_exists] at h1
  obtain⟨⟨ei,hei⟩,h1⟩:=h1
  refine Out.same R (v:=.pointer (some ⟨r,j+i.toNat*tsz P e,none⟩)) ?_ hk ⟨r,hr,rfl⟩
  rw[hk',hv]
  unfold Instr.indexAt
  simp only[asIntOf,Sem.run_bind,Sem.run_pure,Result.andThen_ok,run_underlying ht,Instr.sureAddr]
  rw[if_pos ⟨h1.1,h1.2⟩,Sem.run_bind,yE hei]
  simp[kC]
 ·rename_i i n e g hi ht hx
  obtain⟨k,hk'⟩:=E.int hi
  obtain⟨h1,a',j,ha,hk⟩:=zG hk
  simp[Option.isSome_iff_exists] at h1
  obtain⟨⟨ei,hei⟩,h1⟩:=h1
  have hal:a'<μ.length:=by rw[R.heap.len];exact zD ha
  obtain⟨m,hm,hg,hs⟩:=R.heap.blk a' _ _ ha (List.getElem?_eq_getElem hal)
  refine Out.same R (v:=.pointer (some ⟨m.r,m.s+i.toNat*tsz P e,none⟩)) ?_ hk ⟨m,hm,rfl⟩
  have hv:a.eval (.global g)= .pointer (some ⟨m.r,m.s,none⟩):=by rw[hg,hs];rfl
  rw[hk',hv]
  unfold Instr.indexAt
  simp only[asIntOf,Sem.run_bind,Sem.run_pure,Result.andThen_ok,run_underlying ht,Instr.sureAddr]
  rw[if_pos ⟨h1.1,h1.2⟩,Sem.run_bind,yE hei]
  simp[kC]
 ·exact hk.elim
end
end Go.Ab
