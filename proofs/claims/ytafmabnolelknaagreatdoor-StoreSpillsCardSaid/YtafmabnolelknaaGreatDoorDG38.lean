import Derived.Test.YtafmabnolelknaaGreatDoorDG31
import Derived.Test.YtafmabnolelknaaGreatDoorDG32
import Derived.Test.YtafmabnolelknaaGreatDoorDG37
namespace Go.Proofs.YtafmabnolelknaaGreatDoor
open Go.Ab
open Go.Sto
set_option linter.unusedVariables false
set_option linter.unusedSimpArgs false
section
def LA(h:Heap):Prop:=∀i,i<8->h[i]?=(yL 0 gsAV)[i]?
theorem LA.len {h:Heap}(L:LA h):8<=h.length:=by
 have h7:h[7]?=some (.cells tab2 false):=L 7 (by omega)
 have:=zD h7
 omega
theorem LA.app (t:Heap):LA (yL 0 gsAV++t):=λi hi=>List.getElem?_append_left hi
theorem LA.keeps {h h':Heap}{X:Nat->Prop}(L:LA h)(K:zI X h h')(hX:∀b,X b->8<=b):LA h':=λi hi=>by
 have h1:=L i hi
 have h2:(yL 0 gsAV)[i]?=some ((yL 0 gsAV)[i]'hi):=List.getElem?_eq_getElem hi
 rw[h2] at h1 ⊢
 exact K _ _ (λhc=>by have:=hX i hc;omega) h1
theorem LA.laid (h:Heap)(L:LA h):Laid h:=⟨L 0 (by omega),by rw[<-zS7];exact L 1 (by omega)⟩
theorem LA.over {h:Heap}(L:LA h):OverL h:=by
 have e:h=yL 0 gsAV++h.drop 8:=by
  apply List.ext_getElem?
  intro i
  by_cases hi:i<8
  ·rw[List.getElem?_append_left (by exact hi)];exact L i hi
  ·rw[List.getElem?_append_right (by show 8<=i;omega)]
   show h[i]?=(h.drop 8)[i-8]?
   rw[List.getElem?_drop]
   congr 1;omega
 rw[e];exact zQQ _
theorem zGV:kR=twos:=by kernel_rfl
theorem dec_at:∀i:Fin 900,decB 20 (100+i.val)=[UInt8.ofNat (48+(100+i.val)/100),(twos[(100+i.val)%100*2]?).getD 0,(twos[(100+i.val)%100*2+1]?).getD 0]:=by decide+kernel
section
variable{h:Heap}{Q:AHp}{k:Nat}{n:Int}
theorem gk279 (h1:100<=k)(h2:k<130)(hQ:Q (.int .i64 (if k<128 then 7 else 8)) h):AC Tryz.prog 279 [.int .u64 (k:Nat)] h Q:=by
 have hh:(0:Int)<=((k:Nat):Int)/\Q (.int .i64 (if k<128 then 7 else 8)) h:=⟨by omega,hQ⟩
 have:k=100∨k=101∨k=102∨k=103∨k=104∨k=105∨k=106∨k=107∨k=108∨k=109∨k=110∨k=111∨k=112∨k=113∨k=114∨k=115∨k=116∨k=117∨k=118∨k=119∨k=120∨k=121∨k=122∨k=123∨k=124∨k=125∨k=126∨k=127∨k=128∨k=129:=by omega
 rcases this with rfl|rfl|rfl|rfl|rfl|rfl|rfl|rfl|rfl|rfl|rfl|rfl|rfl|rfl|rfl|rfl|rfl|rfl|rfl|rfl|rfl|rfl|rfl|rfl|rfl|rfl|rfl|rfl|rfl|rfl<;>exact zK (H:=zE [] []) (by kernel_rfl) (by kernel_rfl) hh
theorem gk327 (hm:h[2]?=some (.gm 0 3))(ht:h[3]?=some (.cells tab0 false))(h1:100<=k)(h2:k<130)(hQ:Q (.int .i64 3) h):AC Tryz.prog 327 [.int .u64 (k:Nat)] h Q:=ac327 (by
 unfold vc327
 refine gk279 h1 h2 ⟨_,rfl,?_⟩
 refine ac375 ?_
 unfold vc375
 refine⟨_,rfl,?_⟩
 have e:shrK .i64 (zC .i64 ((if k<128 then(7:Int) else 8)*78913)) 18=2:=by split<;>rfl
 rw[e]
 refine zZ rfl ⟨2,3,hm,100,?_,?_⟩
 ·rw[zP (p:=⟨3,(2:Int).toNat*1⟩) ht (by decide)];rfl
 refine ac376 ?_
 unfold vc376
 exact zB (λ_=>⟨_,rfl,hQ⟩) (λg=>by replace g:=of_decide_eq_false g;omega))
theorem zJA {s:List UInt8}{i:Nat}{K:AV->Prop}(hi:i<s.length)(hK:K (.int .u8 ((s[i]?).getD 0).toNat)):kF s (i:Nat) K:=by
 unfold kF
 refine⟨by omega,?_⟩
 rw[Int.toNat_natCast]
 rw[List.getElem?_eq_getElem hi] at hK ⊢
 exact hK
theorem pst {p o:Nat}{c xs:List AV}{K:Heap->Prop}(hb:h[p]?=some (.cells c true))(ho:o+xs.length<=c.length)(hK:K (h.set p (.cells (splice c o xs) true))):zL h ⟨p,o⟩ xs K:=by
 unfold zL
 simp only[hb]
 exact⟨ho,hK⟩
attribute [local irreducible] kR
set_option maxRecDepth 20000 in
theorem gk328 {a cap:Nat}{c:List AV}(hb:h[a]?=some (.cells c true))(hc:c.length=24)(k1:100<=k)(k2:k<1000)
  (hQ:∀h',h'[a]?=some (.cells (splice (splice (splice c 3 [.int .u8 ((kR[k%100*2+1]?).getD 0).toNat]) 2 [.int .u8 ((kR[k%100*2]?).getD 0).toNat]) 1 [.int .u8 ((48+k/100:Nat):Int)]) true)->Q (.tup []) h'):AC Tryz.prog 328 [.sl (some ⟨a,1,3,cap,0⟩),.int .u64 (k:Nat)] h Q:=ac328 (by
 have hl:kR.length=200:=by rw[zGV];exact zMX
 unfold vc328
 refine⟨λxs h7=>xs=[.int .u64 (k:Nat),.int .i64 3]/\h7=h,λ_ _=>0,⟨rfl,rfl⟩,?_⟩
 rintro n3 n4 h7 ⟨hx,rfl⟩
 simp only[List.cons.injEq,AV.int.injEq,true_and,and_true] at hx
 obtain⟨rfl,rfl⟩:=hx
 refine zB (λg=>by replace g:=of_decide_eq_true g;omega) (λ_=> ?_)
 refine zB (λg=>by replace g:=of_decide_eq_true g;omega) (λ_=> ?_)
 refine zB (λ_=> ?_) (λg=>by replace g:=of_decide_eq_false g;omega)
 have t1:Int.tmod (zC .u32 ((k:Nat):Int)) 100=((k%100:Nat):Int):=by
  rw[zAB,Int.tmod_eq_emod_of_nonneg (by omega)];omega
 have t2:zC .u32 (((k%100:Nat):Int)*2)=((k%100*2:Nat):Int):=by rw[zAB];omega
 have t3:zC .u32 (((k%100*2:Nat):Int)+1)=((k%100*2+1:Nat):Int):=by rw[zAB];omega
 have t4:Int.tdiv (zC .u32 ((k:Nat):Int)) 100=((k/100:Nat):Int):=by
  rw[zAB,Int.tdiv_eq_ediv_of_nonneg (by omega)];omega
 have t5:zC .u8 (zC .u32 (48+zC .u32 ((k/100:Nat):Int)))=((48+k/100:Nat):Int):=by
  rw[zAB,zAB,zMQ];omega
 rw[t1,t2,t3,t4,t5]
 refine zJA (by omega) (zJA (by omega) ?_)
 rw[show zC .i64 ((3:Int) - 1)=2 from rfl,show zC .i64 ((3:Int) - 2)=1 from rfl]
 have hlt:=zD hb
 refine⟨by omega,by show(2:Int)<((3:Nat):Int);omega,pst (p:=a) (o:=3) hb (by simp[splice,hc]) ?_⟩
 have b1:(h7.set a (.cells (splice c 3 [.int .u8 ((kR[k%100*2+1]?).getD 0).toNat]) true))[a]?=some (.cells (splice c 3 [.int .u8 ((kR[k%100*2+1]?).getD 0).toNat]) true):=List.getElem?_set_self hlt
 have l1:=zD b1
 generalize h7.set a (.cells (splice c 3 [AV.int .u8 ((kR[k%100*2+1]?).getD 0).toNat]) true)=g1 at*
 refine⟨by omega,by show(1:Int)<((3:Nat):Int);omega,pst (p:=a) (o:=2) b1 (by simp[splice,hc]) ?_⟩
 have b2:(g1.set a (.cells (splice (splice c 3 [.int .u8 ((kR[k%100*2+1]?).getD 0).toNat]) 2 [.int .u8 ((kR[k%100*2]?).getD 0).toNat]) true))[a]?=some (.cells (splice (splice c 3 [.int .u8 ((kR[k%100*2+1]?).getD 0).toNat]) 2 [.int .u8 ((kR[k%100*2]?).getD 0).toNat]) true):=List.getElem?_set_self l1
 have l2:=zD b2
 generalize g1.set a (.cells (splice (splice c 3 [AV.int .u8 ((kR[k%100*2+1]?).getD 0).toNat]) 2 [.int .u8 ((kR[k%100*2]?).getD 0).toNat]) true)=g2 at*
 refine zB (λ_=> ?_) (λg=>by replace g:=of_decide_eq_false g;omega)
 refine⟨by omega,by show(0:Int)<((3:Nat):Int);omega,pst (p:=a) (o:=1) b2 (by simp[splice,hc]) ?_⟩
 exact hQ _ (List.getElem?_set_self l2))
set_option maxRecDepth 20000 in
theorem t119 (k1:100<=k)(k2:k<130):AC Tryz.prog 119 [.int .i64 (k:Nat)] (yL 0 gsAV) λx _=>x= .str (decB 20 k):=ac119 (by
 unfold vc119
 refine ac187 ?_
 unfold vc187
 refine ac260 ?_
 unfold vc260
 refine zB (λ_=> ?_) (λg=>by simp at g)
 refine zB (λ_=> ?_) (λg=>by replace g:=of_decide_eq_false g;omega)
 refine zB (λg=>by replace g:=of_decide_eq_true g;omega) (λ_=> ?_)
 unfold PNew
 have hb:(yL 0 gsAV++[Blk.cells (List.replicate 24 (AV.int .u8 0)) true])[8]?=some (.cells (List.replicate 24 (.int .u8 0)) true):=rfl
 have hm:(yL 0 gsAV++[Blk.cells (List.replicate 24 (AV.int .u8 0)) true])[2]?=some (.gm 0 3):=rfl
 have ht:(yL 0 gsAV++[Blk.cells (List.replicate 24 (AV.int .u8 0)) true])[3]?=some (.cells tab0 false):=rfl
 rw[show(yL 0 gsAV).length=8 from rfl]
 generalize yL 0 gsAV++[Blk.cells (List.replicate 24 (AV.int .u8 0)) true]=h at*
 refine zB (λg=>by replace g:=of_decide_eq_true g;omega) (λ_=> ?_)
 rw[zA7 ⟨by omega,by omega⟩]
 refine gk327 hm ht k1 k2 ⟨_,rfl,?_⟩
 rw[show zC .i64 ((1:Int)+3)=4 from rfl]
 refine⟨.inl rfl,by omega,by decide,by decide,by decide,?_⟩
 refine gk328 (a:=8) (c:=List.replicate 24 (.int .u8 0)) hb (by simp) k1 (by omega) λh24 b24=>⟨rfl,?_⟩
 refine zB (λg=>by replace g:=of_decide_eq_true g;omega) (λ_=> ?_)
 refine⟨.inl rfl,by omega,by decide,by decide,by decide,?_⟩
 have hd:=dec_at ⟨k-100,by omega⟩
 simp only[show 100+(k-100)=k by omega] at hd
 refine⟨decB 20 k,?_,⟨_,rfl,⟨_,rfl,?_⟩⟩⟩
 ·rw[hd,<-zGV]
  show zA h24 ⟨8,1⟩ 3=_
  rw[zP (p:=⟨8,1⟩) b24 (by simp[splice])]
  have e1:(UInt8.ofNat (48+k/100)).toNat=48+k/100:=by
   rw[UInt8.toNat_ofNat'];omega
  simp only[yG,List.map_cons,List.map_nil,e1]
  rfl
 ·rfl)
theorem lIT (h0:Heap)(L:LA h0):ITH 130 h0:=λk hk h' Q K hQ=>by
 rcases Nat.lt_or_ge k 100 with h1|h1
 ·exact gk119 h1 hQ
 ·exact zMO (gs:=gsAV) (t119 h1 hk) (λ_ _ _ h=>h) (λ_ _ _ h=>h) (LA.keeps L K λb hb=>by have:=LA.len L;omega).over hQ
end
end
end Go.Proofs.YtafmabnolelknaaGreatDoor
