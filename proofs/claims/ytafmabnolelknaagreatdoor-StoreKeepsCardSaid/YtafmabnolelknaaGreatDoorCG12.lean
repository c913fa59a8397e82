namespace Go.Num
set_option linter.unusedVariables false
set_option linter.unusedSimpArgs false
abbrev Bs:=List UInt8
def wid(n:Nat):Nat:=if h:n<256 then 1 else 1+wid (n/256)
termination_by n
decreasing_by omega
theorem zHM {n:Nat}:1<=wid n:=by
  unfold wid;split<;>omega
theorem zFM:∀(k n:Nat),1<=k->(wid n<=k↔n<256^k)
  |0,n,h=>by omega
  |1,n,_=>by
    unfold wid
    split
    · simp;omega
    · have:=zHM (n:=n/256)
      constructor
      · intro h;omega
      · intro h;simp at h;omega
  |k+2,n,_=>by
    unfold wid
    have ih:=zFM (k+1) (n/256) (by omega)
    split
    · rename_i h
      have:256^1<=256^(k+2):=Nat.pow_le_pow_right (by omega) (by omega)
      constructor
      · intro _;omega
      · intro _;omega
    · have h1:256^(k+2)=256*256^(k+1):=by rw[Nat.pow_succ];omega
      have h2:1+wid (n/256)<=k+2↔wid (n/256)<=k+1:=by omega
      rw[h2,ih,h1]
      exact Nat.div_lt_iff_lt_mul (by omega) |>.trans (by rw[Nat.mul_comm])
def beL(n:Nat):Nat->Bs
  |0=>[]
  |k+1=>beL (n/256) k++[UInt8.ofNat (n%256)]
def beV(l:Bs):Nat:=l.foldl (λa b=>a*256+b.toNat) 0
theorem yJ:∀(k n:Nat),(beL n k).length=k
  |0,n=>rfl
  |k+1,n=>by simp[beL,yJ k]
theorem zFL {l:Bs}{x:UInt8}:beV (l++[x])=beV l*256+x.toNat:=by simp[beV]
theorem zMF:∀(k n:Nat),beV (beL n k)=n%256^k
  |0,n=>by simp[beL,beV,Nat.mod_one]
  |k+1,n=>by
    rw[beL,zFL,zMF k]
    have h1:(UInt8.ofNat (n%256)).toNat=n%256:=by simp
    rw[h1,Nat.pow_succ,Nat.mul_comm (256^k) 256,Nat.mod_mul]
    omega
theorem snoc_ind {α:Type}{P:List α->Prop}(h0:P [])(h1:∀l x,P l->P (l++[x]))(l:List α):P l:=by
  have:∀m:List α,P m.reverse:=by
    intro m
    induction m with
    |nil=>exact h0
    |cons x m ih=>rw[List.reverse_cons];exact h1 _ _ ih
  simpa using this l.reverse
theorem beV_lt:∀(l:Bs),beV l<256^l.length:=by
  intro l
  induction l using snoc_ind with
  |h0=>simp[beV]
  |h1 l x ih=>
    rw[zFL,List.length_append,List.length_cons,List.length_nil,Nat.pow_succ]
    have:=x.toNat_lt
    omega
theorem beL_beV:∀(l:Bs),beL (beV l) l.length=l:=by
  intro l
  induction l using snoc_ind with
  |h0=>rfl
  |h1 l x ih=>
    have hx:=x.toNat_lt
    rw[zFL,List.length_append,List.length_cons,List.length_nil,beL]
    have h1:(beV l*256+x.toNat)/256=beV l:=by omega
    have h2:(beV l*256+x.toNat)%256=x.toNat:=by omega
    rw[h1,h2,ih]
    simp
theorem zSO:∀(k n i:Nat),i<k->(beL n k)[i]?=some (UInt8.ofNat (n/256^(k-1-i)%256))
  |0,n,i,h=>by omega
  |k+1,n,i,h=>by
    rw[beL,List.getElem?_append,yJ]
    split
    · rename_i hi
      rw[zSO k (n/256) i hi,Nat.div_div_eq_div_mul]
      have:256*256^(k-1-i)=256^(k+1-1-i):=by
        rw[Nat.mul_comm,<-Nat.pow_succ];congr 1;omega
      rw[this]
    · have:i=k:=by omega
      subst this
      simp
def numB(n:Nat):Bs:=if n<240 then [UInt8.ofNat n] else if n<2288 then [UInt8.ofNat (240+(n-240)/256),UInt8.ofNat ((n-240)%256)] else UInt8.ofNat (246+wid n)::beL n (wid n)
def rdN:Bs->Option (Nat×Bs)
  | []=>none
  |c::l=>
    if c.toNat<240 then some (c.toNat,l)
    else if c.toNat<248 then(match l with | []=>none|x::l'=>some (240+(c.toNat-240)*256+x.toNat,l'))
    else if c.toNat<=254 then
      (if c.toNat-246<=l.length/\beV (l.take (c.toNat-246))<9223372036854775808/\2288<=beV (l.take (c.toNat-246))/\wid (beV (l.take (c.toNat-246)))=c.toNat-246
       then some (beV (l.take (c.toNat-246)),l.drop (c.toNat-246)) else none)
    else none
theorem zS8 {n:Nat}(h:n<256):(UInt8.ofNat n).toNat=n:=by simp;omega
theorem zT2 {c:UInt8}:UInt8.ofNat c.toNat=c:=by simp
theorem zAP {n:Nat}(hn:n<9223372036854775808){l:Bs}:rdN (numB n++l)=some (n,l):=by
  unfold numB
  split
  · simp only[List.cons_append,List.nil_append,rdN]
    rw[zS8 (by omega),if_pos (by omega)]
  · split
    · simp only[List.cons_append,List.nil_append,rdN]
      rw[zS8 (by omega),zS8 (by omega),if_neg (by omega),if_pos (by omega)]
      have:240+(240+(n-240)/256-240)*256+(n-240)%256=n:=by omega
      rw[this]
    · have hw:wid n<=8:=(zFM 8 n (by omega)).2 (by omega)
      have hw2:2<=wid n:=by
        rcases Nat.lt_or_ge (wid n) 2 with h|h
        · have:=(zFM 1 n (by omega)).1 (by omega)
          simp at this;omega
        · exact h
      simp only[List.cons_append,rdN]
      rw[zS8 (by omega),if_neg (by omega),if_neg (by omega),if_pos (by omega)]
      have e:246+wid n-246=wid n:=by omega
      have hv:beV ((beL n (wid n)++l).take (wid n))=n:=by
        rw[List.take_left' (yJ _ _),zMF]
        exact Nat.mod_eq_of_lt ((zFM _ n zHM).1 (Nat.le_refl _))
      rw[e,hv,if_pos ⟨by simp[yJ],hn,by omega,rfl⟩,List.drop_left' (yJ _ _)]
theorem zBY {b l:Bs}{n:Nat}(h:rdN b=some (n,l)):b=numB n++l/\n<9223372036854775808:=by
  cases b with
  |nil=>cases h
  |cons c t=>
    have hc:=c.toNat_lt
    simp only[rdN] at h
    split at h
    · rename_i h1
      cases h
      refine⟨?_,by omega⟩
      unfold numB
      rw[if_pos h1,zT2];rfl
    · split at h
      · rename_i h1 h2
        cases t with
        |nil=>cases h
        |cons x t=>
          have hx:=x.toNat_lt
          cases h
          refine⟨?_,by omega⟩
          unfold numB
          rw[if_neg (by omega),if_pos (by omega)]
          have e1:240+(240+(c.toNat-240)*256+x.toNat-240)/256=c.toNat:=by omega
          have e2:(240+(c.toNat-240)*256+x.toNat-240)%256=x.toNat:=by omega
          rw[e1,e2,zT2,zT2];rfl
      · split at h
        · split at h
          · rename_i h1 h2 h3 h4
            obtain⟨g1,g2,g3,g4⟩:=h4
            simp only[Option.some.injEq,Prod.mk.injEq] at h
            obtain⟨rfl,rfl⟩:=h
            refine⟨?_,g2⟩
            unfold numB
            rw[if_neg (by omega),if_neg (by omega),g4]
            have e1:246+(c.toNat-246)=c.toNat:=by omega
            have e2:beL (beV (t.take (c.toNat-246))) (c.toNat-246)=t.take (c.toNat-246):=by
              have:=beL_beV (t.take (c.toNat-246))
              rwa[List.length_take,Nat.min_eq_left g1] at this
            rw[e1,e2,zT2];simp
          · cases h
        · cases h
end Go.Num
namespace Go.Ent
set_option linter.unusedVariables false
set_option linter.unusedSimpArgs false
abbrev Ent:=Int×Int×Int×Int
def ltE(a b:Ent):Prop:=a.1<b.1∨a.1=b.1/\(a.2.1<b.2.1∨a.2.1=b.2.1/\(a.2.2.1<b.2.2.1∨a.2.2.1=b.2.2.1/\a.2.2.2<b.2.2.2))
instance (a b:Ent):Decidable (ltE a b):=by unfold ltE;infer_instance
abbrev leE(a b:Ent):Prop:=¬ltE b a
theorem ent_ext {a b:Ent}(h1:a.1=b.1)(h2:a.2.1=b.2.1)(h3:a.2.2.1=b.2.2.1)(h4:a.2.2.2=b.2.2.2):a=b:=by
 obtain⟨a1,a2,a3,a4⟩:=a
 obtain⟨b1,b2,b3,b4⟩:=b
 simp_all
theorem jO {a b c:Ent}(h1:leE a b)(h2:leE b c):leE a c:=by unfold leE ltE at*;omega
theorem zRE (a b:Ent):leE a b∨leE b a:=by unfold leE ltE;omega
theorem zDQ (a:Ent):leE a a:=by unfold leE ltE;omega
theorem leE_anti {a b:Ent}(h1:leE a b)(h2:leE b a):a=b:=by unfold leE ltE at*;exact ent_ext (by omega) (by omega) (by omega) (by omega)
theorem zRF {a b:Ent}(h:ltE a b):leE a b:=by unfold leE ltE at*;omega
def cmp1(a b:Int):Int:=if a<b then -1 else if a>b then 1 else 0
def orI(a b:Int):Int:=if a=0 then b else a
def cmpE(a b:Ent):Int:=orI (orI (cmp1 a.1 b.1) (cmp1 a.2.1 b.2.1)) (orI (cmp1 a.2.2.1 b.2.2.1) (cmp1 a.2.2.2 b.2.2.2))
theorem cmpE_lt {a b:Ent}:cmpE a b<0↔ltE a b:=by
 unfold cmpE orI cmp1 ltE
 repeat' split
 all_goals omega
theorem zSG {a b:Ent}:cmpE a b>0↔ltE b a:=by
 unfold cmpE orI cmp1 ltE
 repeat' split
 all_goals omega
abbrev zM(l:List Ent):Prop:=l.Pairwise leE
def leEb(a b:Ent):Bool:=decide (leE a b)
def yA(l:List Ent):List Ent:=l.mergeSort leEb
theorem yD (l:List Ent):zM (yA l):=by
 have:=List.pairwise_mergeSort (le:=leEb) (λa b c h1 h2=>by simp only[leEb,decide_eq_true_eq] at*;exact jO h1 h2) (λa b=>by simp only[leEb,Bool.or_eq_true,decide_eq_true_eq];exact zRE a b) l
 exact this.imp λh=>by simpa[leEb] using h
theorem zS (l:List Ent):(yA l).Perm l:=List.mergeSort_perm l leEb
theorem zCN:∀{l1 l2:List Ent},zM l1->zM l2->l1.Perm l2->l1=l2
 | [],l2,_,_,h=>h.nil_eq
 |a::l1,l2,h1,h2,h=>by
  cases l2 with
  |nil=>exact absurd h.length_eq (by simp)
  |cons b l2=>
   have hab:a=b:=by
    have ha:a∈b::l2:=h.mem_iff.1 (by simp)
    have hb:b∈a::l1:=h.mem_iff.2 (by simp)
    rcases List.mem_cons.1 ha with rfl|ha
    ·rfl
    rcases List.mem_cons.1 hb with rfl|hb
    ·rfl
    exact leE_anti (List.rel_of_pairwise_cons h1 hb) (List.rel_of_pairwise_cons h2 ha)
   subst hab
   rw[zCN h1.of_cons h2.of_cons (h.cons_inv)]
theorem jV {l m:List Ent}(hs:zM m)(hp:m.Perm l):yA l=m:=zCN (yD l) hs ((zS l).trans hp.symm)
theorem zHW {l m:List Ent}(hp:l.Perm m):yA l=yA m:=jV (yD m) ((zS m).trans hp.symm)
theorem zN6 {l:List Ent}(h:zM l):yA l=l:=jV h (.refl l)
theorem zHV {l:List Ent}(h:∀i a b,l[i]?=some a->l[i+1]?=some b->leE a b):zM l:=by
 induction l with
 |nil=>exact .nil
 |cons a l ih=>
  have hl:=ih λi x y hx hy=>h (i+1) x y (by simpa using hx) (by simpa using hy)
  refine .cons ?_ hl
  cases l with
  |nil=>simp
  |cons b l=>
   have hab:leE a b:=h 0 a b (by simp) (by simp)
   intro c hc
   rcases List.mem_cons.1 hc with rfl|hc
   ·exact hab
   ·exact jO hab (List.rel_of_pairwise_cons hl hc)
theorem zI0 {l:List Ent}(h:zM l){i:Nat}{a b:Ent}(ha:l[i]?=some a)(hb:l[i+1]?=some b):leE a b:=by
 obtain⟨hi,rfl⟩:=List.getElem?_eq_some_iff.1 ha
 obtain⟨hi2,rfl⟩:=List.getElem?_eq_some_iff.1 hb
 exact List.pairwise_iff_getElem.1 h i (i+1) hi hi2 (by omega)
instance (l:List Ent):Decidable (zM l):=by unfold zM;infer_instance
end Go.Ent
namespace Go.Ent
open Go.Num
set_option linter.unusedVariables false
set_option linter.unusedSimpArgs false
def yG(e:Ent):Bool:=decide (0<=e.1/\e.1<65536/\0<=e.2.1/\e.2.1<65536/\0<=e.2.2.1/\e.2.2.1<1048576/\0<=e.2.2.2/\e.2.2.2<1048576)
def entB(e:Ent):Bs:=numB e.1.toNat++numB e.2.1.toNat++(numB e.2.2.1.toNat++numB e.2.2.2.toNat)
def encL(l:List Ent):Bs:=l.flatMap entB
theorem zAZ {l m:List Ent}:encL (l++m)=encL l++encL m:=by simp[encL]
theorem zFI {e:Ent}:encL [e]=entB e:=by simp[encL]
theorem zI3 {n k:Nat}(hk:1<=k)(h:n<256^k):wid n<=k:=(zFM k n hk).2 h
theorem zDN {n:Nat}(h:n<65536):(numB n).length<=3:=by
 have:=zI3 (n:=n) (k:=2) (by omega) (by omega)
 unfold numB
 split
 ·simp
 ·split
  ·simp
  ·simp[yJ];omega
theorem zBB {n:Nat}(h:n<1048576):(numB n).length<=4:=by
 have:=zI3 (n:=n) (k:=3) (by omega) (by omega)
 unfold numB
 split
 ·simp
 ·split
  ·simp
  ·simp[yJ];omega
theorem zFD {n:Nat}:1<=(numB n).length:=by
 unfold numB
 split
 ·simp
 ·split<;>simp
theorem zIU {e:Ent}(h:yG e=true):(entB e).length<=14:=by
 have h:=of_decide_eq_true h
 have h1:=zDN (n:=e.1.toNat) (by omega)
 have h2:=zDN (n:=e.2.1.toNat) (by omega)
 have h3:=zBB (n:=e.2.2.1.toNat) (by omega)
 have h4:=zBB (n:=e.2.2.2.toNat) (by omega)
 simp only[entB,List.length_append];omega
theorem jY {e:Ent}:4<=(entB e).length:=by
 have h1:=zFD (n:=e.1.toNat)
 have h2:=zFD (n:=e.2.1.toNat)
 have h3:=zFD (n:=e.2.2.1.toNat)
 have h4:=zFD (n:=e.2.2.2.toNat)
 simp only[entB,List.length_append];omega
def rd4(b:Bs):Option (Ent×Bs):=
 match rdN b with
 |none=>none
 |some (x,b1)=>match rdN b1 with
  |none=>none
  |some (y,b2)=>match rdN b2 with
   |none=>none
   |some (z,b3)=>match rdN b3 with
    |none=>none
    |some (w,b4)=>some (((x:Int),(y:Int),(z:Int),(w:Int)),b4)
def rdE(b:Bs):Option (Ent×Bs):=match rd4 b with
 |some (e,b')=>if yG e then some (e,b') else none
 |none=>none
theorem zH9 {e:Ent}(h:yG e=true){b:Bs}:rdE (entB e++b)=some (e,b):=by
 have h':=of_decide_eq_true h
 obtain⟨x,y,z,w⟩:=e
 simp only at h'
 unfold rdE rd4 entB
 simp only
 rw[List.append_assoc,List.append_assoc,zAP (by omega)]
 simp only
 rw[zAP (by omega)]
 simp only
 rw[List.append_assoc,zAP (by omega)]
 simp only
 rw[zAP (by omega)]
 simp only[Int.toNat_of_nonneg h'.1,Int.toNat_of_nonneg h'.2.2.1,Int.toNat_of_nonneg h'.2.2.2.2.1,Int.toNat_of_nonneg h'.2.2.2.2.2.2.1]
 rw[if_pos h]
theorem zIT {b b':Bs}{e:Ent}(h:rdE b=some (e,b')):b=entB e++b'/\yG e=true:=by
 unfold rdE at h
 cases h4:rd4 b with
 |none=>rw[h4] at h;cases h
 |some r=>
  obtain⟨e1,b1⟩:=r
  rw[h4] at h
  simp only at h
  split at h
  ·rename_i hok
   cases h
   refine⟨?_,hok⟩
   unfold rd4 at h4
   cases g1:rdN b with
   |none=>rw[g1] at h4;cases h4
   |some r1=>
    obtain⟨x,c1⟩:=r1
    rw[g1] at h4;simp only at h4
    cases g2:rdN c1 with
    |none=>rw[g2] at h4;cases h4
    |some r2=>
     obtain⟨y,c2⟩:=r2
     rw[g2] at h4;simp only at h4
     cases g3:rdN c2 with
     |none=>rw[g3] at h4;cases h4
     |some r3=>
      obtain⟨z,c3⟩:=r3
      rw[g3] at h4;simp only at h4
      cases g5:rdN c3 with
      |none=>rw[g5] at h4;cases h4
      |some r4=>
       obtain⟨w,c4⟩:=r4
       rw[g5] at h4
       simp only[Option.some.injEq,Prod.mk.injEq] at h4
       obtain⟨rfl,rfl⟩:=h4
       obtain⟨rfl,_⟩:=zBY g1
       obtain⟨rfl,_⟩:=zBY g2
       obtain⟨rfl,_⟩:=zBY g3
       obtain⟨rfl,_⟩:=zBY g5
       simp[entB,List.append_assoc]
  ·cases h
theorem zQO {b b':Bs}{e:Ent}(h:rdE b=some (e,b')):b'.length<b.length:=by
 obtain⟨rfl,_⟩:=zIT h
 have:=jY (e:=e)
 rw[List.length_append];omega
def zCL:Nat->Bs->Option (List Ent)
 |_,[]=>some []
 |0,_::_=>none
 |n+1,x::b=>match rdE (x::b) with
  |none=>none
  |some (e,b')=>(zCL n b').map (e:: ·)
def jL(b:Bs):Option (List Ent):=zCL b.length b
theorem zCK:∀(n:Nat) (b:Bs) (l:List Ent),b.length<=n->(zCL n b=some l↔b=encL l/\∀e∈l,yG e=true)
 |n,[],l,h=>by
  constructor
  ·intro h;cases n<;>(simp only[zCL,Option.some.injEq] at h;subst h;exact⟨rfl,by simp⟩)
  ·rintro⟨h1,h2⟩
   cases l with
   |nil=>cases n<;>rfl
   |cons e l=>
    have:=jY (e:=e)
    have:=congrArg List.length h1
    simp[encL] at this;omega
 |0,x::b,l,h=>by simp at h
 |n+1,x::b,l,h=>by
  unfold zCL
  constructor
  ·intro h1
   cases hr:rdE (x::b) with
   |none=>rw[hr] at h1;cases h1
   |some r=>
    obtain⟨e,b'⟩:=r
    rw[hr] at h1
    simp only[Option.map_eq_some_iff] at h1
    obtain⟨l',hl',rfl⟩:=h1
    have hs:=zQO hr
    obtain⟨hb,hok⟩:=zIT hr
    obtain⟨g1,g2⟩:=(zCK n b' l' (by simp at h hs;omega)).1 hl'
    refine⟨by rw[hb,g1];simp[encL],?_⟩
    intro e' he'
    rcases List.mem_cons.1 he' with rfl|he'
    ·exact hok
    ·exact g2 _ he'
  ·rintro⟨h1,h2⟩
   cases l with
   |nil=>simp[encL] at h1
   |cons e l=>
    have e1:x::b=entB e++encL l:=by rw[h1];simp[encL]
    rw[e1,zH9 (h2 e (by simp))]
    simp only[Option.map_eq_some_iff]
    have hp:=jY (e:=e)
    have hl:(encL l).length<=n:=by
     have:=congrArg List.length e1
     rw[List.length_append] at this;simp at this h;omega
    exact⟨l,(zCK n _ l hl).2 ⟨rfl,λe' he'=>h2 e' (by simp[he'])⟩,rfl⟩
theorem jZ {b:Bs}{l:List Ent}:jL b=some l↔b=encL l/\∀e∈l,yG e=true:=zCK _ _ _ (Nat.le_refl _)
theorem zAA {l:List Ent}(h:∀e∈l,yG e=true):jL (encL l)=some l:=jZ.2 ⟨rfl,h⟩
theorem zN1 {l:List Ent}(h:∀e∈l,yG e=true){b:Bs}:jL (encL l++b)=(jL b).map (l++ ·):=by
 cases hu:jL b with
 |some m=>
  obtain⟨rfl,h2⟩:=jZ.1 hu
  rw[<-zAZ]
  exact zAA λe he=>(List.mem_append.1 he).elim (h e) (h2 e)
 |none=>
  cases hx:jL (encL l++b) with
  |none=>rfl
  |some m=>
   exfalso
   obtain⟨h1,h2⟩:=jZ.1 hx
   clear hx
   induction l generalizing m with
   |nil=>
    rw[show encL ([]:List Ent)=[] by rfl,List.nil_append] at h1
    rw[jZ.2 ⟨h1,h2⟩] at hu;cases hu
   |cons e l ih=>
    cases m with
    |nil=>
     have:=congrArg List.length h1
     have hp:=jY (e:=e)
     simp only[encL,List.flatMap_cons,List.flatMap_nil,List.length_append,List.length_nil] at this;omega
    |cons e' m=>
     have e1:entB e++(encL l++b)=entB e'++encL m:=by
      have:encL (e::l)=entB e++encL l:=by simp[encL]
      rw[this,List.append_assoc] at h1
      rw[h1];simp[encL]
     have e2:=congrArg rdE e1
     rw[zH9 (h e (by simp)),zH9 (h2 e' (by simp))] at e2
     simp only[Option.some.injEq,Prod.mk.injEq] at e2
     exact ih (λx hx=>h x (by simp[hx])) m e2.2 (λx hx=>h2 x (by simp[hx]))
theorem zK8 {b:Bs}(hne:b≠ [])(h:rdE b=none):jL b=none:=by
 cases b with
 |nil=>exact absurd rfl hne
 |cons x b=>unfold jL;rw[List.length_cons,zCL,h]
abbrev Gs:=List (List Ent)
def zLN(s:Gs×List Ent)(e:Ent):Gs×List Ent:=if(encL s.2).length+(entB e).length>43 then(s.1++[s.2],[e]) else(s.1,s.2++[e])
def pRun(l:List Ent):Gs×List Ent:=l.foldl zLN ([],[])
def pFin(s:Gs×List Ent):Gs:=if s.2=[] then s.1 else s.1++[s.2]
def zR(l:List Ent):Gs:=pFin (pRun l)
theorem zFZ {l:List Ent}{e:Ent}:pRun (l++[e])=zLN (pRun l) e:=by simp[pRun]
theorem snoc_ind {α:Type}{P:List α->Prop}(h0:P [])(h1:∀l x,P l->P (l++[x]))(l:List α):P l:=by
 have:∀m:List α,P m.reverse:=by
  intro m
  induction m with
  |nil=>exact h0
  |cons x m ih=>rw[List.reverse_cons];exact h1 _ _ ih
 simpa using this l.reverse
theorem zJ2 (l:List Ent):(pRun l).1.flatten++(pRun l).2=l:=by
 induction l using snoc_ind with
 |h0=>rfl
 |h1 l e ih=>
  rw[zFZ]
  unfold zLN
  split
  ·simp only[List.flatten_append,List.flatten_cons,List.flatten_nil,List.append_nil]
   rw[ih]
  ·simp only
   rw[<-List.append_assoc,ih]
theorem ok_snoc {l:List Ent}{e:Ent}(h:∀x∈l++[e],yG x=true):(∀x∈l,yG x=true)/\yG e=true:=⟨λx hx=>h x (by simp[hx]),h e (by simp)⟩
theorem zID (l:List Ent)(hok:∀e∈l,yG e=true):(∀g∈(pRun l).1,g≠ []/\(encL g).length<=43)/\(encL (pRun l).2).length<=43:=by
 induction l using snoc_ind with
 |h0=>simp[pRun,encL]
 |h1 l e ih=>
  obtain⟨h1,h2⟩:=ok_snoc hok
  obtain⟨i1,i2⟩:=ih h1
  have he:=zIU h2
  rw[zFZ]
  unfold zLN
  split
  ·rename_i h
   refine⟨λg hg=> ?_,by rw[zFI];omega⟩
   rcases List.mem_append.1 hg with hg|hg
   ·exact i1 g hg
   ·simp at hg;subst hg
    refine⟨λh0=> ?_,i2⟩
    rw[h0] at h
    simp[encL] at h;omega
  ·rename_i h
   refine⟨i1,?_⟩
   rw[zAZ,zFI,List.length_append];omega
theorem yW (l:List Ent):(zR l).flatten=l:=by
 have:=zJ2 l
 unfold zR pFin
 split
 ·rename_i h;rw[h,List.append_nil] at this;exact this
 ·rw[List.flatten_append];simpa using this
theorem yP {l:List Ent}(hok:∀e∈l,yG e=true):∀g∈zR l,g≠ []/\(encL g).length<=43:=by
 obtain⟨h1,h2⟩:=zID l hok
 unfold zR pFin
 split
 ·exact h1
 ·rename_i h
  intro g hg
  rcases List.mem_append.1 hg with hg|hg
  ·exact h1 g hg
  ·simp at hg;subst hg;exact⟨h,h2⟩
theorem zDM {l:List Ent}(hok:∀e∈l,yG e=true):∀g∈zR l,∀e∈g,yG e=true:=λg hg e he=>hok e (by rw[<-yW l];exact List.mem_flatten.2 ⟨g,hg,he⟩)
theorem zNK {gs:Gs}(h:∀g∈gs,g≠ []):gs.length<=gs.flatten.length:=by
 induction gs with
 |nil=>simp
 |cons g gs ih=>
  have h1:=ih λx hx=>h x (by simp[hx])
  have h2:g.length≠0:=λh0=>h g (by simp) (List.eq_nil_of_length_eq_zero h0)
  simp only[List.flatten_cons,List.length_append,List.length_cons] at*;omega
theorem kI {l:List Ent}(hok:∀e∈l,yG e=true):(zR l).length<=l.length:=by
 have:=zNK (gs:=zR l) λg hg=>(yP hok g hg).1
 rwa[yW] at this
theorem zHC {α:Type}:∀{a b:List (List α)},a.flatten=b.flatten->a.map List.length=b.map List.length->a=b
 | [],[],_,_=>rfl
 | [],_::_,_,h=>by simp at h
 |_::_,[],_,h=>by simp at h
 |x::a,y::b,h,hl=>by
  simp only[List.map_cons,List.cons.injEq] at hl
  simp only[List.flatten_cons] at h
  obtain⟨h1,h2⟩:=List.append_inj h hl.1
  rw[h1,zHC h2 hl.2]
end Go.Ent
namespace Go.Pool
open Go.Ent
set_option linter.unusedVariables false
set_option linter.unusedSimpArgs false
abbrev Bs:=List UInt8
structure Fr where
 name:Bs
 i:Int
 l:List Ent
 held:Nat
 mark:Bool
 is:Bool
def Fr.none:Fr:=⟨[],0,[],0,false,false⟩
structure PS where
 fr:List Fr
 hand:Nat
 reads:Nat
 hits:Nat
 losses:Nat
def Fr.at(s:Bs)(i:Int)(f:Fr):Bool:=f.is&&(f.name==s&&f.i==i)
def PS.at(P:PS)(s:Bs)(i:Int):Option Nat:=P.fr.findIdx? (Fr.at s i)
def PS.held(P:PS):Nat:=P.fr.countP λf=>decide (0<f.held)
def newP(n:Nat):PS:=⟨List.replicate n Fr.none,0,0,0,0⟩
def spin:Nat->List Fr->Nat->Option (Nat×List Fr×Nat)
 |0,_,_=>Option.none
 |n+1,fr,hand=>match fr[hand]? with
  |Option.none=>Option.none
  |some f=>if 0<f.held then spin n fr ((hand+1)%fr.length) else
    if f.mark then spin n (fr.set hand {f with mark:=false}) ((hand+1)%fr.length) else some (hand,fr,(hand+1)%fr.length)
theorem zNA {n u d a:Nat}(hu:u<n)(ha:a<n)(hd:(u+n-a)%n=d+1):(u+n-(a+1)%n)%n=d:=by
 rcases Nat.lt_or_ge (a+1) n with h|h
 ·rw[Nat.mod_eq_of_lt h]
  rcases Nat.lt_or_ge u a with h1|h1
  ·rw[Nat.mod_eq_of_lt (by omega)] at hd
   rw[Nat.mod_eq_of_lt (by omega)];omega
  ·have e:u+n-a=(u-a)+n:=by omega
   rw[e,Nat.add_mod_right,Nat.mod_eq_of_lt (by omega)] at hd
   have e2:u+n-(a+1)=(u-(a+1))+n:=by omega
   rw[e2,Nat.add_mod_right,Nat.mod_eq_of_lt (by omega)];omega
 ·have:a+1=n:=by omega
  rw[this,Nat.mod_self]
  rcases Nat.lt_or_ge (u+1) n with h1|h1
  ·rw[Nat.mod_eq_of_lt (by omega)] at hd
   rw[Nat.sub_zero,Nat.add_mod_right,Nat.mod_eq_of_lt hu];omega
  ·have e:u+n-a=n:=by omega
   rw[e,Nat.mod_self] at hd;omega
theorem zNB {n u a:Nat}(hu:u<n)(ha:a<n)(hd:(u+n-a)%n=0):a=u:=by
 rcases Nat.lt_or_ge u a with h1|h1
 ·rw[Nat.mod_eq_of_lt (by omega)] at hd;omega
 ·have e:u+n-a=(u-a)+n:=by omega
  rw[e,Nat.add_mod_right,Nat.mod_eq_of_lt (by omega)] at hd;omega
theorem zP7:∀(d:Nat) {m:Nat} {fr:List Fr} {hand u:Nat} {f:Fr},d<m->hand<fr.length->fr[u]?=some f->f.held=0->f.mark=false->(u+fr.length-hand)%fr.length=d->∃r,spin m fr hand=some r:=by
 intro d
 induction d with
 |zero=>
  intro m fr hand u f hm hh hf h0 h1 hd
  have hu:u<fr.length:=(List.getElem?_eq_some_iff.1 hf).1
  have:=zNB hu hh hd
  subst this
  obtain⟨m,rfl⟩:∃k,m=k+1:=⟨m-1,by omega⟩
  simp only[spin,hf,h0,h1]
  exact⟨_,rfl⟩
 |succ d ih=>
  intro m fr hand u f hm hh hf h0 h1 hd
  have hu:u<fr.length:=(List.getElem?_eq_some_iff.1 hf).1
  obtain⟨m,rfl⟩:∃k,m=k+1:=⟨m-1,by omega⟩
  have hn:=zNA hu hh hd
  have hh':(hand+1)%fr.length<fr.length:=Nat.mod_lt _ (by omega)
  have hg:fr[hand]?=some fr[hand]:=List.getElem?_eq_getElem hh
  simp only[spin,hg]
  split
  ·exact ih (by omega) hh' hf h0 h1 hn
  ·split
   ·rename_i hm1
    have hne:u≠hand:=by
     intro he;subst he;rw[hf] at hg;rw[<-Option.some.inj hg,h1] at hm1;cases hm1
    have hl:(fr.set hand {fr[hand] with mark:=false}).length=fr.length:=List.length_set
    have:=ih (m:=m) (fr:=fr.set hand {fr[hand] with mark:=false}) (hand:=(hand+1)%fr.length) (u:=u) (f:=f) (by omega) (by rw[hl];exact hh') (by rw[List.getElem?_set,if_neg (Ne.symm hne)];exact hf) h0 h1 (by rw[hl];exact hn)
    exact this
   ·exact⟨_,rfl⟩
theorem zP6:∀(d:Nat) {m:Nat} {fr:List Fr} {hand u:Nat} {f:Fr},d+fr.length<m->hand<fr.length->fr[u]?=some f->f.held=0->(u+fr.length-hand)%fr.length=d->∃r,spin m fr hand=some r:=by
 intro d
 induction d with
 |zero=>
  intro m fr hand u f hm hh hf h0 hd
  have hu:u<fr.length:=(List.getElem?_eq_some_iff.1 hf).1
  have:=zNB hu hh hd
  subst this
  obtain⟨m,rfl⟩:∃k,m=k+1:=⟨m-1,by omega⟩
  simp only[spin,hf,h0]
  split
  ·rename_i hc;omega
  split
  ·have hl:(fr.set hand {f with mark:=false}).length=fr.length:=List.length_set
   refine zP7 ((hand+fr.length-(hand+1)%fr.length)%fr.length) (u:=hand) (f:={f with mark:=false}) ?_ ?_ ?_ h0 rfl (by rw[List.length_set])
   ·have:=Nat.mod_lt (hand+fr.length-(hand+1)%fr.length) (show 0<fr.length by omega)
    omega
   ·rw[List.length_set];exact Nat.mod_lt _ (by omega)
   ·rw[List.getElem?_set_self hu];simp[h0]
  ·exact⟨_,rfl⟩
 |succ d ih=>
  intro m fr hand u f hm hh hf h0 hd
  have hu:u<fr.length:=(List.getElem?_eq_some_iff.1 hf).1
  obtain⟨m,rfl⟩:∃k,m=k+1:=⟨m-1,by omega⟩
  have hn:=zNA hu hh hd
  have hh':(hand+1)%fr.length<fr.length:=Nat.mod_lt _ (by omega)
  have hg:fr[hand]?=some fr[hand]:=List.getElem?_eq_getElem hh
  simp only[spin,hg]
  split
  ·exact ih (by omega) hh' hf h0 hn
  ·split
   ·rename_i hm0 hm1
    have hl:(fr.set hand {fr[hand] with mark:=false}).length=fr.length:=List.length_set
    by_cases hne:u=hand
    ·subst hne
     exact ih (m:=m) (fr:=fr.set u {fr[u] with mark:=false}) (hand:=(u+1)%fr.length) (u:=u) (f:={fr[u] with mark:=false}) (by rw[hl];omega) (by rw[hl];exact hh') (by rw[List.getElem?_set_self hu]) (by rw[hf] at hg;rw[<-Option.some.inj hg];exact h0) (by rw[hl];exact hn)
    ·exact ih (m:=m) (fr:=fr.set hand {fr[hand] with mark:=false}) (hand:=(hand+1)%fr.length) (u:=u) (f:=f) (by rw[hl];omega) (by rw[hl];exact hh') (by rw[List.getElem?_set,if_neg (Ne.symm hne)];exact hf) h0 (by rw[hl];exact hn)
   ·exact⟨_,rfl⟩
theorem zJE {fr:List Fr}{hand:Nat}(hh:hand<fr.length)(hf:∃f∈fr,f.held=0):∃r,spin (2*fr.length+1) fr hand=some r:=by
 obtain⟨f,hf,h0⟩:=hf
 obtain⟨u,hu⟩:=List.getElem?_of_mem hf
 have:=Nat.mod_lt (u+fr.length-hand) (show 0<fr.length by omega)
 exact zP6 _ (by omega) hh hu h0 rfl
def core(f:Fr):Bs×Int×List Ent×Nat×Bool:=(f.name,f.i,f.l,f.held,f.is)
theorem zTH {fr:List Fr}{k:Nat}{f g:Fr}(h:fr[k]?=some f)(hc:core g=core f):(fr.set k g).map core=fr.map core:=by
 rw[List.map_set,hc]
 apply List.ext_getElem?
 intro j
 rw[List.getElem?_set]
 split
 ·rename_i hj;subst hj
  obtain⟨hl,rfl⟩:=List.getElem?_eq_some_iff.1 h
  split
  ·simp[hl]
  ·rename_i h2;simp at h2;omega
 ·rfl
theorem zFT:∀{m:Nat} {fr fr':List Fr} {hand k hand':Nat},spin m fr hand=some (k,fr',hand')->hand<fr.length->fr'.map core=fr.map core/\k<fr.length/\hand'<fr.length/\(∀f,fr'[k]?=some f->f.held=0):=by
 intro m
 induction m with
 |zero=>intro fr fr' hand k hand' h;simp[spin] at h
 |succ m ih=>
  intro fr fr' hand k hand' h hh
  have hh':(hand+1)%fr.length<fr.length:=Nat.mod_lt _ (by omega)
  simp only[spin] at h
  split at h
  ·cases h
  ·rename_i f hf
   split at h
   ·exact ih h hh'
   ·rename_i h0
    split at h
    ·have hl:(fr.set hand {f with mark:=false}).length=fr.length:=List.length_set
     obtain⟨a,b,c,d⟩:=ih h (by rw[hl];exact hh')
     exact⟨a.trans (zTH hf rfl),by rw[hl] at b;exact b,by rw[hl] at c;exact c,d⟩
    ·cases h
     exact⟨rfl,hh,hh',λg hg=>by rw[hf] at hg;cases hg;omega⟩
def PS.place(P:PS):Option (Nat×PS):=match P.fr.findIdx? (λf=> !f.is) with
 |some k=>some (k,P)
 |Option.none=>if P.held=P.fr.length then Option.none else match spin (2*P.fr.length+1) P.fr P.hand with
  |some (k,fr,hand)=>some (k,{P with fr:=fr,hand:=hand,losses:=P.losses+1})
  |Option.none=>Option.none
def up(fr:List Fr)(k:Nat)(g:Fr->Fr):List Fr:=match fr[k]? with |some f=>fr.set k (g f)|Option.none=>fr
def PS.take(P:PS)(k:Nat)(s:Bs)(i:Int)(l:List Ent):PS:={P with fr:=P.fr.set k ⟨s,i,l,1,true,true⟩,reads:=P.reads+1}
def PS.hold(P:PS)(s:Bs)(i:Int)(r:Int×List Ent):Int×List Ent×PS:=match P.at s i with
 |some k=>(0,(match P.fr[k]? with |some f=>f.l|Option.none=>[]),{P with fr:=up P.fr k λf=>{f with held:=f.held+1,mark:=true},hits:=P.hits+1})
 |Option.none=>if r.1≠0 then(r.1,[],P) else match P.place with
  |Option.none=>(90,[],P)
  |some (k,P')=>(0,r.2,P'.take k s i r.2)
def PS.free(P:PS)(s:Bs)(i:Int):Int×PS:=match P.at s i with
 |Option.none=>(4,P)
 |some k=>match P.fr[k]? with
  |some f=>if f.held=0 then(4,P) else(0,{P with fr:=P.fr.set k {f with held:=f.held-1}})
  |Option.none=>(4,P)
def gone(s:Bs)(f:Fr):Bool:=f.is&&(f.name==s&&f.held==0)
def PS.drop(P:PS)(s:Bs):Nat×PS:=(P.fr.countP (gone s),{P with fr:=P.fr.map λf=>if gone s f then Fr.none else f})
structure PS.ok(P:PS):Prop where
 one:∀(j k:Nat) (f g:Fr),P.fr[j]?=some f->P.fr[k]?=some g->f.is=true->g.is=true->f.name=g.name->f.i=g.i->j=k
 hand:P.hand<P.fr.length∨P.hand=0
 few:P.fr.length<=1024
end Go.Pool
namespace Go.Crc
set_option linter.unusedVariables false
set_option linter.unusedSimpArgs false
abbrev W:=BitVec 32
abbrev poly:W:=0xedb88320#32
def step(c:W):W:=(c>>>1)^^^(if c.getLsbD 0 then poly else 0#32)
theorem zTE (a b:W):step (a^^^b)=step a^^^step b:=by
 unfold step
 rw[BitVec.ushiftRight_xor_distrib,BitVec.getLsbD_xor]
 cases a.getLsbD 0<;>cases b.getLsbD 0<;>simp only[Bool.xor_true,Bool.xor_false,Bool.false_eq_true,Bool.not_true,Bool.not_false,if_true,if_false,BitVec.xor_zero]
 ·rw[BitVec.xor_assoc]
 ·rw[BitVec.xor_assoc,BitVec.xor_assoc,BitVec.xor_comm poly]
 ·rw[BitVec.xor_assoc (a>>>1) poly,<-BitVec.xor_assoc poly (b>>>1) poly,BitVec.xor_comm poly (b>>>1),BitVec.xor_assoc (b>>>1),BitVec.xor_self,BitVec.xor_zero]
def zDA:Nat->W->W
 |0,c=>c
 |n+1,c=>step (zDA n c)
theorem zJA:∀(n:Nat) (a b:W),zDA n (a^^^b)=zDA n a^^^zDA n b
 |0,a,b=>rfl
 |n+1,a,b=>by simp only[zDA,zJA n,zTE]
theorem zJB:∀(m n:Nat) (c:W),zDA (m+n) c=zDA m (zDA n c)
 |0,n,c=>by rw[Nat.zero_add];rfl
 |m+1,n,c=>by rw[show m+1+n=(m+n)+1 by omega,zDA,zJB m n,zDA]
def b1(d:Bool):W:=if d then 1#32 else 0#32
abbrev Bs:=List UInt8
def ofB(b:UInt8):W:=BitVec.ofNat 32 b.toNat
def zFJ(c:W)(b:UInt8):W:=zDA 8 (c^^^ofB b)
def reg(c:W)(l:Bs):W:=l.foldl zFJ c
theorem zOD (c:W)(a b:Bs):reg c (a++b)=reg (reg c a) b:=by simp[reg]
def more(s:W)(l:Bs):W:= ~~~ reg (~~~ s) l
def sum(l:Bs):W:=more 0#32 l
def tail(s:W):Bs:=[UInt8.ofNat s.toNat,UInt8.ofNat (s.toNat/256),UInt8.ofNat (s.toNat/65536),UInt8.ofNat (s.toNat/16777216)]
theorem zC9 {s:W}:(tail s).length=4:=rfl
def tbl:List Nat:=[0x00000000,0x1db71064,0x3b6e20c8,0x26d930ac,0x76dc4190,0x6b6b51f4,0x4db26158,0x5005713c,0xedb88320,0xf00f9344,0xd6d6a3e8,0xcb61b38c,0x9b64c2b0,0x86d3d2d4,0xa00ae278,0xbdbdf21c]
theorem tbl_ok:∀n,n<16->zDA 4 (BitVec.ofNat 32 n)=BitVec.ofNat 32 (tbl.getD n 0):=by decide
theorem zDB {c:W}(h:c.getLsbD 0=false):step c=c>>>1:=by
 unfold step;rw[h];simp
theorem half (c:W):zDA 4 c=BitVec.ofNat 32 (tbl.getD (c.toNat%16) 0)^^^(c>>>4):=by
 have e:c=BitVec.ofNat 32 (c.toNat%16)^^^((c>>>4)<<<4):=by
  apply BitVec.eq_of_getLsbD_eq
  intro i hi
  rw[BitVec.getLsbD_xor,BitVec.getLsbD_ofNat,BitVec.getLsbD_shiftLeft,BitVec.getLsbD_ushiftRight]
  rw[show(16:Nat)=2^4 by rfl,Nat.testBit_mod_two_pow]
  by_cases h:i<4
  ·simp[h,hi];rfl
  ·simp[h,hi,show 4+(i-4)=i by omega]
 have e2:zDA 4 ((c>>>4)<<<4)=c>>>4:=by
  have g:∀k i,k<4->i<4-k->(((c>>>4)<<<4)>>>k).getLsbD i=false:=by
   intro k i hk hi
   rw[BitVec.getLsbD_ushiftRight,BitVec.getLsbD_shiftLeft]
   simp[show k+i<4 by omega]
  have s1:step ((c>>>4)<<<4)=((c>>>4)<<<4)>>>1:=zDB (by simp)
  have s2:step (((c>>>4)<<<4)>>>1)=((c>>>4)<<<4)>>>2:=by rw[zDB (g 1 0 (by omega) (by omega)),<-BitVec.shiftRight_add]
  have s3:step (((c>>>4)<<<4)>>>2)=((c>>>4)<<<4)>>>3:=by rw[zDB (g 2 0 (by omega) (by omega)),<-BitVec.shiftRight_add]
  have s4:step (((c>>>4)<<<4)>>>3)=((c>>>4)<<<4)>>>4:=by rw[zDB (g 3 0 (by omega) (by omega)),<-BitVec.shiftRight_add]
  show step (step (step (step ((c>>>4)<<<4))))=_
  rw[s1,s2,s3,s4]
  apply BitVec.eq_of_getLsbD_eq
  intro i hi
  rw[BitVec.getLsbD_ushiftRight,BitVec.getLsbD_shiftLeft,BitVec.getLsbD_ushiftRight]
  by_cases h:4+i<32
  ·simp[h,show ¬4+i<4 by omega,show 4+i-4=i by omega]
  ·have:(c>>>4).getLsbD i=false:=by rw[BitVec.getLsbD_ushiftRight];exact BitVec.getLsbD_of_ge c (4+i) (by omega)
   rw[this];simp[h]
 conv=>lhs;rw[e]
 rw[zJA,e2,tbl_ok _ (Nat.mod_lt _ (by omega))]
end Go.Crc
namespace Go.Page
open Go.Num Go.Crc
abbrev Bs:=List UInt8
set_option linter.unusedVariables false
set_option linter.unusedSimpArgs false
abbrev kW:Nat:=4611686018427387903
def body(tag:Nat)(b:Bs):Bs:=beL tag 8++(UInt8.ofNat b.length::(b++List.replicate (43-b.length) 0))
def put(tag:Nat)(b:Bs):Bs:=body tag b++tail (sum (body tag b))++beL tag 8
theorem zB5 {tag:Nat}{b:Bs}(h:b.length<=43):(body tag b).length=52:=by
 simp[body,yJ];omega
theorem zLK {tag:Nat}{b:Bs}(h:b.length<=43):(put tag b).length=64:=by
 simp[put,zB5 h,yJ,zC9]
theorem zM6 {tag:Nat}{b:Bs}:(put tag b).take 8=beL tag 8:=by
 unfold put body
 rw[List.append_assoc,List.append_assoc,List.take_append_of_le_length (by simp[yJ]),List.take_of_length_le (by simp[yJ])]
theorem zTP {tag:Nat}{b:Bs}(h:b.length<=43):(put tag b).drop 56=beL tag 8:=by
 unfold put
 rw[List.drop_append_of_le_length (by simp[zB5 h,zC9]),List.drop_of_length_le (by simp[zB5 h,zC9])];rfl
theorem zDG {tag:Nat}{b:Bs}:(put tag b)[8]?=some (UInt8.ofNat b.length):=by
 unfold put body
 rw[List.append_assoc,List.append_assoc,List.getElem?_append_right (by simp[yJ])]
 simp[yJ]
theorem zTQ {tag:Nat}{b:Bs}:((put tag b).drop 9).take b.length=b:=by
 unfold put body
 rw[List.append_assoc,List.append_assoc,List.drop_append,List.drop_of_length_le (by simp[yJ])]
 simp[yJ,List.append_assoc]
def Is(s:Bs)(tag:Nat)(b:Bs):Prop:=b.length<=43/\s=put tag b
def get(s:Bs)(tag:Nat):Option Bs:=
 let n:=(s.getD 8 0).toNat
 if n<=43/\put tag ((s.drop 9).take n)=s then some ((s.drop 9).take n) else none
theorem zDT {s:Bs}{tag:Nat}{b:Bs}:get s tag=some b↔Is s tag b:=by
 unfold get
 constructor
 ·intro h
  simp only at h
  split at h
  ·rename_i hc
   cases h
   refine⟨by rw[List.length_take];omega,hc.2.symm⟩
  ·cases h
 ·rintro⟨h1,rfl⟩
  have e:((put tag b).getD 8 0).toNat=b.length:=by
   rw[List.getD_eq_getElem?_getD,zDG];simp;omega
  simp only[e]
  rw[zTQ,if_pos ⟨h1,rfl⟩]
theorem zL2 {tag:Nat}{b:Bs}(h:b.length<=43):get (put tag b) tag=some b:=zDT.2 ⟨h,rfl⟩
def unrow:List Bs->Nat->Option (Bs×Nat)
 | [],_=>none
 |s::l,tag=>match get s tag with
  |some (0::x)=>some (x,1)
  |some (1::x)=>if x.length=42 then(unrow l (tag+1)).map λr=>(x++r.1,r.2+1) else none
  |_=>none
end Go.Page
namespace Go.Seg
open Go.Num hiding Bs
open Go.Ent Go.Page
set_option linter.unusedVariables false
set_option linter.unusedSimpArgs false
def zU(gs:Gs):List Ent:=gs.filterMap List.head?
theorem zC0 {g:List Ent}{e:Ent}{l:List Ent}{gs:Gs}(h:g=e::l):zU (g::gs)=e::zU gs:=by subst h;rfl
theorem vB:∀{gs:Gs},(∀g∈gs,g≠ [])->(zU gs).length=gs.length
 | [],_=>rfl
 |g::gs,h=>by
  cases hg:g with
  |nil=>exact absurd hg (h g (by simp))
  |cons e l=>rw[zC0 rfl,List.length_cons,vB λx hx=>h x (by simp[hx]),List.length_cons]
theorem zEH:∀{gs:Gs},(∀g∈gs,g≠ [])->∀(i:Nat) (g:List Ent),gs[i]?=some g->(zU gs)[i]?=g.head?
 | [],_,i,g,h=>by simp at h
 |g0::gs,hn,i,g,h=>by
  cases hg:g0 with
  |nil=>exact absurd hg (hn g0 (by simp))
  |cons e l=>
   rw[zC0 rfl]
   cases i with
   |zero=>simp at h;subst h;rw[hg];rfl
   |succ i=>
    have h':gs[i]?=some g:=by simpa using h
    rw[List.getElem?_cons_succ]
    exact zEH (λx hx=>hn x (by simp[hx])) i g h'
theorem zOP {gs:Gs}{e:Ent}(h:e∈zU gs):∃g∈gs,e∈g:=by
 obtain⟨g,hg,he⟩:=List.mem_filterMap.1 h
 exact⟨g,hg,List.mem_of_mem_head? he⟩
theorem zIO {a b:Gs}:zU (a++b)=zU a++zU b:=by simp[zU]
theorem zAX {gs:Gs}(h:zM gs.flatten):zM (zU gs):=by
 have:(zU gs).Sublist gs.flatten:=by
  clear h
  induction gs with
  |nil=>exact .slnil
  |cons g gs ih=>
   cases g with
   |nil=>exact ih
   |cons e l=>
    rw[zC0 rfl,List.flatten_cons,List.cons_append]
    exact .cons_cons _ (ih.trans (List.sublist_append_right _ _))
 exact List.Pairwise.sublist this h
def zDV(a b c:Nat):Bs:=numB a++numB b++numB c
def idx(l:List Ent):Gs:=zR (zU (zR l))
def xK(l:List Ent):List Bs:=(zR l).map encL++(idx l).map encL++[zDV l.length (zR l).length (idx l).length]
def kH:Nat->List Bs->List Bs
 |_,[]=>[]
 |t,b::l=>put t b::kH (t+1) l
theorem vA:∀(t:Nat) (l:List Bs),(kH t l).length=l.length
 |_,[]=>rfl
 |t,b::l=>by simp[kH,vA]
theorem zAF:∀(t:Nat) (l:List Bs) (i:Nat),(kH t l)[i]?=(l[i]?).map (put (t+i))
 |_,[],i=>by simp[kH]
 |t,b::l,0=>by simp[kH]
 |t,b::l,i+1=>by
  rw[kH,List.getElem?_cons_succ,List.getElem?_cons_succ,zAF (t+1) l i]
  congr 2;omega
theorem zDH:∀(t:Nat) (l m:List Bs),kH t (l++m)=kH t l++kH (t+l.length) m
 |t,[],m=>by simp[kH]
 |t,b::l,m=>by
  simp only[List.cons_append,kH,zDH (t+1) l m,List.length_cons]
  congr 3;omega
def yQ(base:Nat)(l:List Ent):List Bs:=kH base (xK l)
def zAK(base:Int):Bool:=decide (1<=base/\base<=2305843009213693952)
theorem zKC {l:List Ent}(hok:∀e∈l,yG e=true):∀e∈zU (zR l),yG e=true:=λe he=>by
 obtain⟨g,hg,h⟩:=zOP he
 exact zDM hok g hg e h
theorem zCZ {l:List Ent}(hok:∀e∈l,yG e=true):(idx l).length<=(zR l).length:=by
 have:=kI (zKC hok)
 rwa[vB λg hg=>(yP hok g hg).1] at this
theorem zED {n:Nat}(h:n<1048576):(numB n).length<=4:=zBB h
theorem zD6 {l:List Ent}(hok:∀e∈l,yG e=true)(hl:l.length<=16384):∀b∈xK l,b.length<=43:=by
 intro b hb
 have h1:=kI hok
 have h2:=zCZ hok
 rcases List.mem_append.1 hb with hb|hb
 ·rcases List.mem_append.1 hb with hb|hb
  ·obtain⟨g,hg,rfl⟩:=List.mem_map.1 hb
   exact(yP hok g hg).2
  ·obtain⟨g,hg,rfl⟩:=List.mem_map.1 hb
   exact(yP (zKC hok) g hg).2
 ·simp at hb;subst hb
  have g1:=zED (n:=l.length) (by omega)
  have g2:=zED (n:=(zR l).length) (by omega)
  have g3:=zED (n:=(idx l).length) (by omega)
  simp only[zDV,List.length_append];omega
theorem zD5 {l:List Ent}:(xK l).length=(zR l).length+(idx l).length+1:=by simp[xK];omega
theorem zAL {base:Nat}{l:List Ent}:(yQ base l).length=(zR l).length+(idx l).length+1:=by rw[yQ,vA,zD5]
theorem zLG {base:Nat}{l:List Ent}{i:Nat}{s:Bs}(h:(yQ base l)[i]?=some s):∃b∈xK l,(xK l)[i]?=some b/\s=put (base+i) b:=by
 unfold yQ at h
 rw[zAF] at h
 obtain⟨b,hb,rfl⟩:=Option.map_eq_some_iff.1 h
 exact⟨b,List.mem_of_getElem? hb,hb,rfl⟩
def kS(S:List Bs)(base i:Nat):Option (List Ent):=(S[i]?).bind λs=>(get s (base+i)).bind jL
def rd3(b:Bs):Option (Nat×Nat×Nat):=match rdN b with
 |none=>none
 |some (x,b1)=>match rdN b1 with
  |none=>none
  |some (y,b2)=>match rdN b2 with
   |none=>none
   |some (z,b3)=>if b3=[] then some (x,y,z) else none
theorem zQP {a b c:Nat}(ha:a<1000000)(hb:b<1000000)(hc:c<1000000):rd3 (zDV a b c)=some (a,b,c):=by
 unfold rd3 zDV
 rw[List.append_assoc,zAP (by omega)]
 simp only
 rw[zAP (by omega)]
 simp only
 have:numB c=numB c++[]:=by simp
 rw[this,zAP (by omega)]
 simp
def zGR(S:List Bs)(base:Nat):Option (Nat×Nat×Nat):=
 if S=[] then none else(((S[S.length-1]?).bind λs=>get s (base+(S.length-1))).bind rd3).bind λr=>
  if r.2.1+r.2.2+1=S.length then some r else none
def yL(S:List Bs)(base:Nat):Nat->Nat->Option Gs
 |_,0=>some []
 |i,n+1=>(kS S base i).bind λl=>(yL S base (i+1) n).map (l:: ·)
theorem zCD {S:List Bs}{base:Nat}:∀{n i:Nat} {gs:Gs} {l:List Ent},yL S base i n=some gs->kS S base (i+n)=some l->yL S base i (n+1)=some (gs++[l])
 |0,i,gs,l,h,hl=>by
  simp only[yL,Option.some.injEq] at h
  subst h
  unfold yL
  rw[Nat.add_zero] at hl
  rw[hl];rfl
 |n+1,i,gs,l,h,hl=>by
  unfold yL at h ⊢
  obtain⟨l0,h0,h1⟩:=Option.bind_eq_some_iff.1 h
  obtain⟨gs',h2,rfl⟩:=Option.map_eq_some_iff.1 h1
  rw[h0,Option.bind_some,zCD h2 (by rw[show i+1+n=i+(n+1) by omega];exact hl)]
  rfl
theorem zCE {S:List Bs}{base:Nat}:∀{n m i:Nat},n<m->kS S base (i+n)=none->yL S base i m=none
 |0,m+1,i,_,h=>by
  unfold yL;rw[Nat.add_zero] at h;rw[h];rfl
 |n+1,m+1,i,hm,h=>by
  unfold yL
  rw[zCE (n:=n) (m:=m) (i:=i+1) (by omega) (by rw[show i+1+n=i+(n+1) by omega];exact h)]
  cases kS S base i<;>rfl
def zJ6(S:List Bs)(base:Nat):Option (Nat×List Ent):=(zGR S base).bind λr=>(yL S base r.2.1 r.2.2).bind λgs=>
 if gs.flatten.length=r.2.1/\zM gs.flatten/\zR gs.flatten=gs then some (r.1,gs.flatten) else none
def zDK(S:List Bs)(base:Nat)(heads:List Ent)(i:Nat):Option (List Ent):=(kS S base i).bind λl=>if l≠ []/\zM l/\l.head?=heads[i]? then some l else none
def jG(S:List Bs)(base:Nat)(heads:List Ent):Nat->Option (List Ent)
 |0=>some []
 |n+1=>(jG S base heads n).bind λl=>(zDK S base heads n).map (l++ ·)
def allS(S:List Bs)(base count:Nat)(heads:List Ent):Option (List Ent):=(jG S base heads heads.length).bind λl=>if l.length=count/\zM l then some l else none
def jI(heads:List Ent)(e:Ent):Nat:=(heads.filter λh=>decide (ltE h e)).length-1
section
variable{base:Nat}{l:List Ent}
theorem zFY (hok:∀e∈l,yG e=true){i:Nat}{g:List Ent}(h:(zR l)[i]?=some g):kS (yQ base l) base i=some g:=by
 have hi:=(List.getElem?_eq_some_iff.1 h).1
 have hb:(xK l)[i]?=some (encL g):=by
  unfold xK
  rw[List.append_assoc,List.getElem?_append_left (by simpa using hi),List.getElem?_map,h];rfl
 have hg:=List.mem_of_getElem? h
 unfold kS yQ
 rw[zAF,hb]
 simp only[Option.map_some,Option.bind_some]
 rw[zL2 (yP hok g hg).2]
 exact zAA (zDM hok g hg)
theorem zOG (hok:∀e∈l,yG e=true){i:Nat}{g:List Ent}(h:(idx l)[i]?=some g):kS (yQ base l) base ((zR l).length+i)=some g:=by
 have hi:=(List.getElem?_eq_some_iff.1 h).1
 have hb:(xK l)[(zR l).length+i]?=some (encL g):=by
  unfold xK
  rw[List.append_assoc,List.getElem?_append_right (by simp),List.length_map,Nat.add_sub_cancel_left,List.getElem?_append_left (by simpa using hi),List.getElem?_map,h];rfl
 have hg:=List.mem_of_getElem? h
 unfold kS yQ
 rw[zAF,hb]
 simp only[Option.map_some,Option.bind_some]
 rw[zL2 (yP (zKC hok) g hg).2]
 exact zAA (zDM (zKC hok) g hg)
theorem zDL {S:List Bs}{base:Nat}:∀{gs:Gs} {i:Nat},(∀k g,gs[k]?=some g->kS S base (i+k)=some g)->yL S base i gs.length=some gs
 | [],i,h=>rfl
 |g::gs,i,h=>by
  show yL S base i (gs.length+1)=_
  unfold yL
  rw[show kS S base i=some g from h 0 g rfl,Option.bind_some,zDL (gs:=gs) λk g' hk=>by
   have:=h (k+1) g' (by simpa using hk)
   rwa[show i+1+k=i+(k+1) by omega]]
  rfl
theorem zIK (hok:∀e∈l,yG e=true)(hl:l.length<=16384):zGR (yQ base l) base=some (l.length,(zR l).length,(idx l).length):=by
 have hlen:=zAL (base:=base) (l:=l)
 have h1:=kI hok
 have h2:=zCZ hok
 unfold zGR
 rw[if_neg (by intro h;rw[h] at hlen;simp at hlen),hlen]
 have hb:(xK l)[(zR l).length+(idx l).length]?=some (zDV l.length (zR l).length (idx l).length):=by
  unfold xK
  rw[List.getElem?_append_right (by simp)];simp
 have hs:(yQ base l)[(zR l).length+(idx l).length+1-1]?=some (put (base+((zR l).length+(idx l).length)) (zDV l.length (zR l).length (idx l).length)):=by
  unfold yQ
  rw[zAF,Nat.add_sub_cancel,hb];rfl
 rw[hs,Option.bind_some,Nat.add_sub_cancel,zL2 (zD6 hok hl _ (by simp[xK])),Option.bind_some,zQP (by omega) (by omega) (by omega),Option.bind_some]
 simp
theorem zIG (hok:∀e∈l,yG e=true)(hl:l.length<=16384)(hs:zM l):zJ6 (yQ base l) base=some (l.length,zU (zR l)):=by
 unfold zJ6
 rw[zIK hok hl,Option.bind_some]
 have:=zDL (S:=yQ base l) (base:=base) (gs:=idx l) (i:=(zR l).length) λk g hk=>zOG hok hk
 simp only
 rw[this,Option.bind_some]
 have hf:(idx l).flatten=zU (zR l):=yW _
 rw[hf,if_pos ⟨vB λg hg=>(yP hok g hg).1,zAX (by rw[yW];exact hs),rfl⟩]
theorem zTT {S:List Bs}{i:Nat}{g:List Ent}(hok:∀e∈l,yG e=true)(hs:zM l)(h:(zR l)[i]?=some g)(hp:kS S base i=some g):zDK S base (zU (zR l)) i=some g:=by
 have hg:=List.mem_of_getElem? h
 unfold zDK
 rw[hp,Option.bind_some,if_pos]
 refine⟨(yP hok g hg).1,?_,(zEH (λg hg=>(yP hok g hg).1) i g h).symm⟩
 have:zM (zR l).flatten:=by rw[yW];exact hs
 obtain⟨a,b,hab⟩:=List.append_of_mem hg
 rw[hab,List.flatten_append,List.flatten_cons] at this
 exact(List.pairwise_append.1 (List.pairwise_append.1 this).2.1).1
theorem zDJ (hok:∀e∈l,yG e=true)(hs:zM l){i:Nat}{g:List Ent}(h:(zR l)[i]?=some g):zDK (yQ base l) base (zU (zR l)) i=some g:=zTT hok hs h (zFY hok h)
theorem zBA (hok:∀e∈l,yG e=true)(hs:zM l):∀n,n<=(zR l).length->jG (yQ base l) base (zU (zR l)) n=some ((zR l).take n).flatten
 |0,_=>rfl
 |n+1,h=>by
  unfold jG
  have hg:(zR l)[n]?=some ((zR l)[n]'(by omega)):=List.getElem?_eq_getElem _
  rw[zBA hok hs n (by omega),Option.bind_some,zDJ hok hs hg,List.take_add_one,hg,List.flatten_append]
  simp
theorem zKZ (hok:∀e∈l,yG e=true)(hs:zM l):allS (yQ base l) base l.length (zU (zR l))=some l:=by
 unfold allS
 rw[vB λg hg=>(yP hok g hg).1,zBA hok hs _ (Nat.le_refl _),List.take_length,yW,Option.bind_some,if_pos ⟨rfl,hs⟩]
end
end Go.Seg
namespace Go.Sto
open Go.Ent
set_option linter.unusedSimpArgs false
set_option linter.unusedVariables false
abbrev Mom:=Int×Int
abbrev momE(e:Ent):Mom:=(e.1,e.2.1)
def covB(f:List Mom)(m:Mom):Bool:=f.any λx=>decide (x.1<=m.1)&&decide (x.2<=m.2)
def zE6(a b:Mom):Mom:=(max a.1 b.1,max a.2 b.2)
def kE(l:List Ent):Mom:=l.foldl (λm e=>zE6 m (momE e)) (0,0)
theorem zSE {f:List Mom}{m m':Mom}(h:covB f m=true)(h1:m.1<=m'.1)(h2:m.2<=m'.2):covB f m'=true:=by
 unfold covB at h ⊢
 rw[List.any_eq_true] at h ⊢
 obtain⟨x,hx,hc⟩:=h
 refine⟨x,hx,?_⟩
 simp only[Bool.and_eq_true,decide_eq_true_eq] at hc ⊢
 omega
theorem zOU {l:List Ent}:∀{m:Mom},m.1<=(l.foldl (λm e=>zE6 m (momE e)) m).1/\m.2<=(l.foldl (λm e=>zE6 m (momE e)) m).2/\∀e∈l,e.1<=(l.foldl (λm e=>zE6 m (momE e)) m).1/\e.2.1<=(l.foldl (λm e=>zE6 m (momE e)) m).2:=by
 induction l with
 |nil=>intro m;exact⟨Int.le_refl _,Int.le_refl _,λe h=>by cases h⟩
 |cons x l ih=>
  intro m
  obtain⟨a,b,c⟩:=ih (m:=zE6 m (momE x))
  simp only[List.foldl_cons]
  have j1:m.1<=(zE6 m (momE x)).1/\x.1<=(zE6 m (momE x)).1:=⟨Int.le_max_left _ _,Int.le_max_right _ _⟩
  have j2:m.2<=(zE6 m (momE x)).2/\x.2.1<=(zE6 m (momE x)).2:=⟨Int.le_max_left _ _,Int.le_max_right _ _⟩
  refine⟨Int.le_trans j1.1 a,Int.le_trans j2.1 b,λe he=> ?_⟩
  rcases List.mem_cons.1 he with rfl|he
  ·exact⟨Int.le_trans j1.2 a,Int.le_trans j2.2 b⟩
  ·exact c e he
theorem zMA {f:List Mom}{l:List Ent}(h:covB f (kE l)=false){e:Ent}(he:e∈l):covB f (momE e)=false:=by
 cases hc:covB f (momE e) with
 |false=>rfl
 |true=>
  obtain⟨_,_,a⟩:=zOU (l:=l) (m:=(0,0))
  have:=zSE (m':=kE l) hc (a e he).1 (a e he).2
  rw[h] at this;cases this
structure Part where
 nm:List UInt8
 base:Nat
 l:List Ent
 fs:List (List Mom)
def Part.live(p:Part):List Ent:=p.l.filter λe=>p.fs.all λf=>covB f (momE e)
structure SS where
 nm:List UInt8
 lim:Nat
 k:Nat
 run:List Ent
 ps:List Part
def decB:Nat->Nat->List UInt8
 |0,_=>[]
 |n+1,k=>if k<10 then [UInt8.ofNat (48+k)] else decB n (k/10)++[UInt8.ofNat (48+k%10)]
def jR(s:List UInt8)(k:Nat):List UInt8:=s++[46]++decB 20 k
def vT(k:Nat):Nat:=1+k*1048576
def SS.live(S:SS):List Ent:=S.ps.flatMap Part.live
def SS.lies(S:SS):List Ent:=S.ps.flatMap Part.l
def SS.size(S:SS):Nat:=S.run.length+S.lies.length
def SS.next(S:SS)(l:List Ent):Part:=⟨jR S.nm S.k,vT S.k,l,[]⟩
def SS.spill(S:SS):Int×SS:=if S.run=[] then(0,S) else if 32<=S.ps.length then(31,S) else(0,{S with run:=[],ps:=S.ps++[S.next (yA S.run)],k:=S.k+1})
def SS.push(S:SS)(e:Ent):SS:={S with run:=S.run++[e]}
def SS.add(S:SS)(c:Int)(e:Ent):Int×SS:=if c≠0 then(c,S) else if S.lim<=S.run.length then(if S.spill.1=0 then(0,S.spill.2.push e) else S.spill) else(0,S.push e)
def SS.compact(S:SS):Int×SS:=if S.ps.length<2 then(0,S) else if S.live=[] then(0,{S with ps:=[]}) else(0,{S with ps:=[S.next (yA S.live)],k:=S.k+1})
def SS.keep(S:SS)(f:List Mom):SS:={S with run:=S.run.filter λe=>covB f (momE e),ps:=(S.ps.filter λp=>covB f (kE p.l)).map λp=>{p with fs:=p.fs++[f]}}
def SS.all(S:SS):List Ent:=yA (S.run++S.lies)
def Must(have':List Ent)(S:SS):Prop:=∃r,(have'++r).Perm (S.run++S.live)
variable{S:SS}{H:List Ent}
theorem Part.live_new {s:List UInt8}{b:Nat}{l:List Ent}:(Part.mk s b l []).live=l:=by
 simp only[Part.live,List.all_nil]
 rw[List.filter_eq_self.2]
 intro a _;rfl
theorem Must.spill (M:Must H S):Must H S.spill.2:=by
 unfold SS.spill
 split
 ·exact M
 split
 ·exact M
 obtain⟨r,hr⟩:=M
 refine⟨r,hr.trans ?_⟩
 show(S.run++S.live).Perm ([]++(S.ps++[S.next (yA S.run)]).flatMap Part.live)
 rw[List.nil_append,List.flatMap_append]
 refine List.perm_append_comm.trans (List.Perm.append_left _ ?_)
 simp only[List.flatMap_cons,List.flatMap_nil,List.append_nil,SS.next,Part.live_new]
 exact(zS _).symm
theorem Must.push (M:Must H S)(e:Ent):Must (H++[e]) (S.push e):=by
 obtain⟨r,hr⟩:=M
 refine⟨r,?_⟩
 show(H++[e]++r).Perm (S.run++[e]++S.live)
 rw[List.append_assoc,List.append_assoc]
 exact(List.perm_append_comm_assoc _ _ _).trans ((List.Perm.append_left _ hr).trans (List.perm_append_comm_assoc _ _ _))
theorem Must.add (M:Must H S){c:Int}{e:Ent}:((S.add c e).1=0->Must (H++[e]) (S.add c e).2)/\((S.add c e).1≠0->Must H (S.add c e).2):=by
 unfold SS.add
 split
 ·rename_i h;exact⟨λh0=>absurd h0 h,λ_=>M⟩
 split
 ·split
  ·exact⟨λ_=>M.spill.push e,λh0=>absurd rfl h0⟩
  ·rename_i h;exact⟨λh0=>absurd h0 h,λ_=>M.spill⟩
 ·exact⟨λ_=>M.push e,λh0=>absurd rfl h0⟩
theorem Must.compact (M:Must H S):Must H S.compact.2:=by
 unfold SS.compact
 split
 ·exact M
 obtain⟨r,hr⟩:=M
 split
 ·rename_i h
  refine⟨r,hr.trans ?_⟩
  rw[h]
  exact .refl _
 ·refine⟨r,hr.trans (List.Perm.append_left _ ?_)⟩
  show S.live.Perm ([S.next (yA S.live)].flatMap Part.live)
  simp only[List.flatMap_cons,List.flatMap_nil,List.append_nil,SS.next,Part.live_new]
  exact(zS _).symm
theorem zRD {p:Part}{f:List Mom}:({p with fs:=p.fs++[f]}:Part).live=p.live.filter λe=>covB f (momE e):=by
 simp only[Part.live,List.filter_filter,List.all_append,List.all_cons,List.all_nil,Bool.and_true]
 refine List.filter_congr λe _=> ?_
 rw[Bool.and_comm]
theorem Must.keep (M:Must H S)(f:List Mom):Must (H.filter λe=>covB f (momE e)) (S.keep f):=by
 obtain⟨r,hr⟩:=M
 refine⟨r.filter λe=>covB f (momE e),?_⟩
 rw[<-List.filter_append]
 refine(hr.filter _).trans ?_
 rw[List.filter_append]
 have:S.live.filter (λe=>covB f (momE e))=(S.keep f).live:=by
  show(S.ps.flatMap Part.live).filter _=((S.ps.filter λp=>covB f (kE p.l)).map λp=>({p with fs:=p.fs++[f]}:Part)).flatMap Part.live
  generalize S.ps=ps
  induction ps with
  |nil=>rfl
  |cons p ps ih=>
   rw[List.flatMap_cons,List.filter_append,ih,List.filter_cons]
   split
   ·rw[List.map_cons,List.flatMap_cons,zRD]
   ·rename_i hc
    have:p.live.filter (λe=>covB f (momE e))=[]:=by
     rw[List.filter_eq_nil_iff]
     intro e he
     rw[zMA (by simpa using hc) (List.mem_filter.1 he).1]
     simp
    rw[this,List.nil_append]
 rw[this]
 exact .refl _
theorem zDZ:∀{b a:List Ent},zM a->zM b->(∃r,(a++r).Perm b)->a.Sublist b
 | [],a,_,_,⟨r,hr⟩=>by
  have:(a++r).length=0:=hr.length_eq
  have:a=[]:=List.eq_nil_of_length_eq_zero (by rw[List.length_append] at this;omega)
  subst this;exact .slnil
 |y::b,[],_,_,_=>List.nil_sublist _
 |y::b,x::a,ha,hb,⟨r,hr⟩=>by
  have ha':=List.pairwise_cons.1 ha
  have hb':=List.pairwise_cons.1 hb
  by_cases hxy:x=y
  ·subst hxy
   exact(zDZ ha'.2 hb'.2 ⟨r,(List.perm_cons x).1 hr⟩).cons_cons x
  ·refine .cons y (zDZ ha hb'.2 ?_)
   have hy:y∈x::a++r:=hr.mem_iff.2 List.mem_cons_self
   have hxb:x∈y::b:=hr.mem_iff.1 (by simp)
   have hyx:leE y x:=by
    rcases List.mem_cons.1 hxb with h|h
    ·exact absurd h hxy
    ·exact hb'.1 x h
   have hyr:y∈r:=by
    rw[List.mem_append,List.mem_cons] at hy
    rcases hy with(h|h)|h
    ·exact absurd h.symm hxy
    ·exact absurd (leE_anti (ha'.1 y h) hyx) hxy
    ·exact h
   refine⟨r.erase y,?_⟩
   have p1:r.Perm (y::r.erase y):=List.perm_cons_erase hyr
   have p2:(x::a++r).Perm (y::(x::a++r.erase y)):=((List.Perm.append_left _ p1).trans List.perm_middle)
   exact(List.perm_cons y).1 (p2.symm.trans hr)
def zA2:List Ent->List Ent->List Ent
 |a,[]=>a
 | [],_::_=>[]
 |x::a,y::b=>if y=x then zA2 a b else zA2 (x::a) b
theorem zH0:∀{b a:List Ent},a.Sublist b->zA2 a b=[]
 | [],a,h=>by cases h;rfl
 |y::b,[],_=>rfl
 |y::b,x::a,h=>by
  unfold zA2
  split
  ·rename_i e
   subst e
   exact zH0 (by
    cases h with
    |cons _ h=>exact(List.sublist_cons_self y a).trans h
    |cons_cons _ h=>exact h)
  ·rename_i e
   cases h with
   |cons _ h=>exact zH0 h
   |cons_cons _ h=>exact absurd rfl e
theorem zRB {ps:List Part}:∃r,(ps.flatMap Part.live++r).Perm (ps.flatMap Part.l):=by
 induction ps with
 |nil=>exact⟨[],.refl _⟩
 |cons p ps ih=>
  obtain⟨r,hr⟩:=ih
  refine⟨p.l.filter (λe=> !(p.fs.all λf=>covB f (momE e)))++r,?_⟩
  rw[List.flatMap_cons,List.flatMap_cons]
  have h1:=List.filter_append_perm (λe=>p.fs.all λf=>covB f (momE e)) p.l
  have h2:(p.live++List.flatMap Part.live ps++(p.l.filter (λe=> !(p.fs.all λf=>covB f (momE e)))++r)).Perm ((p.live++p.l.filter (λe=> !(p.fs.all λf=>covB f (momE e))))++(List.flatMap Part.live ps++r)):=by
   rw[List.append_assoc,List.append_assoc]
   refine List.Perm.append_left _ ?_
   rw[<-List.append_assoc,<-List.append_assoc]
   exact List.Perm.append_right _ List.perm_append_comm
  exact h2.trans (List.Perm.append h1 hr)
theorem Must.told (M:Must H S):zA2 (yA H) S.all=[]:=by
 refine zH0 (zDZ (yD _) (yD _) ?_)
 obtain⟨r,hr⟩:=M
 obtain⟨r2,h2⟩:=zRB (ps:=S.ps)
 refine⟨r++r2,?_⟩
 have:(S.run++S.lies).Perm S.all:=(zS _).symm
 refine .trans ?_ this
 rw[<-List.append_assoc]
 have h3:(yA H++r).Perm (S.run++S.live):=(List.Perm.append_right _ (zS _)).trans hr
 refine(List.Perm.append_right r2 h3).trans ?_
 rw[List.append_assoc]
 exact List.Perm.append_left _ h2
theorem Must.start (h:S.run=[])(h2:S.ps=[]):Must [] S:=⟨[],by rw[h];show([]:List Ent).Perm ([]++S.ps.flatMap Part.live);rw[h2];exact .refl _⟩
end Go.Sto
namespace Go.Seg
open Go.Num hiding Bs
open Go.Ent Go.Page
set_option linter.unusedVariables false
set_option linter.unusedSimpArgs false
section
variable{base:Nat}{l:List Ent}{i:Nat}{s':Bs}
theorem zET {S:List Bs}{heads:List Ent}{k:Nat}(hp:zDK S base heads k=none):∀n,k<n->jG S base heads n=none
 |0,h=>by omega
 |n+1,h=>by
  unfold jG
  by_cases hk:k=n
  ·subst hk
   rw[hp]
   cases jG S base heads k<;>rfl
  ·rw[zET hp n (by omega)];rfl
end
end Go.Seg
namespace Go.Seg
open Go.Ent
set_option linter.unusedVariables false
set_option linter.unusedSimpArgs false
theorem zAH {a b c:Ent}(h1:leE a b)(h2:ltE b c):ltE a c:=by
 by_cases h:ltE a c
 ·exact h
 ·exact absurd (jO h h1) (λhn=>hn h2)
theorem zNL {l:List Ent}{e:Ent}{k:Nat}(hk:k<=l.length)(h1:∀i x,i<k->l[i]?=some x->ltE x e)(h2:∀i x,k<=i->l[i]?=some x->¬ltE x e):(l.filter λh=>decide (ltE h e)).length=k:=by
 have e1:l.filter (λh=>decide (ltE h e))=(l.take k).filter (λh=>decide (ltE h e))++(l.drop k).filter (λh=>decide (ltE h e)):=by
  rw[<-List.filter_append,List.take_append_drop]
 have e2:(l.take k).filter (λh=>decide (ltE h e))=l.take k:=List.filter_eq_self.2 λx hx=>by
  obtain⟨i,hi⟩:=List.getElem?_of_mem hx
  rw[List.getElem?_take] at hi
  split at hi
  ·rename_i hik
   exact decide_eq_true (h1 i x hik hi)
  ·cases hi
 have e3:(l.drop k).filter (λh=>decide (ltE h e))=[]:=List.filter_eq_nil_iff.2 λx hx=>by
  obtain⟨i,hi⟩:=List.getElem?_of_mem hx
  rw[List.getElem?_drop] at hi
  have:=h2 (k+i) x (by omega) hi
  simpa using this
 rw[e1,e2,e3,List.append_nil,List.length_take]
 omega
theorem zAD {l:List Ent}(hs:zM l):∀{i j:Nat} {a b:Ent},i<=j->l[i]?=some a->l[j]?=some b->leE a b:=by
 intro i j a b hij ha hb
 rcases Nat.lt_or_ge i j with h|h
 ·obtain⟨hi,rfl⟩:=List.getElem?_eq_some_iff.1 ha
  obtain⟨hj,rfl⟩:=List.getElem?_eq_some_iff.1 hb
  exact List.pairwise_iff_getElem.1 hs i j hi hj h
 ·have:i=j:=by omega
  subst this
  rw[ha] at hb;cases hb
  exact zDQ a
theorem zR4 {l:List Ent}{e:Ent}{k:Nat}(hk:k<=l.length)(h1:∀i x,i<k->l[i]?=some x->ltE x e)(h2:∀i x,k<=i->l[i]?=some x->¬ltE x e):jI l e=k-1:=by
 unfold jI;rw[zNL hk h1 h2]
end Go.Seg
namespace Go.Seg
open Go.Num hiding Bs snoc_ind
open Go.Ent Go.Page
set_option linter.unusedVariables false
set_option linter.unusedSimpArgs false
theorem zKR:∀{l:List Ent},4*l.length<=(encL l).length
 | []=>by simp[encL]
 |a::l=>by
  have:=jY (e:=a)
  have:=zKR (l:=l)
  simp only[encL,List.flatMap_cons,List.length_append,List.length_cons] at*
  omega
theorem zCR {S:List Bs}{base i:Nat}{l:List Ent}(h:kS S base i=some l):l.length<=10/\(∀e∈l,yG e=true)/\i<S.length:=by
 unfold kS at h
 obtain⟨s,hs,h⟩:=Option.bind_eq_some_iff.1 h
 obtain⟨b,hb,h⟩:=Option.bind_eq_some_iff.1 h
 obtain⟨h1,h2⟩:=jZ.1 h
 have h3:=(zDT.1 hb).1
 have h4:=zKR (l:=l)
 rw[h1] at h3
 exact⟨by omega,h2,(List.getElem?_eq_some_iff.1 hs).1⟩
theorem zG3 {S:List Bs}{base i:Nat}{heads l:List Ent}(h:zDK S base heads i=some l):kS S base i=some l/\l≠ []/\zM l/\l.head?=heads[i]?:=by
 unfold zDK at h
 obtain⟨g,hg,h⟩:=Option.bind_eq_some_iff.1 h
 split at h
 ·rename_i hc;cases h;exact⟨hg,hc⟩
 ·cases h
theorem zES {S:List Bs}{base:Nat}{heads:List Ent}:∀{n:Nat} {l:List Ent},jG S base heads n=some l->l.length<=10*n/\∀e∈l,yG e=true
 |0,l,h=>by cases h;simp
 |n+1,l,h=>by
  unfold jG at h
  obtain⟨l1,h1,h⟩:=Option.bind_eq_some_iff.1 h
  obtain⟨l2,h2,rfl⟩:=Option.map_eq_some_iff.1 h
  obtain⟨a1,a2⟩:=zES h1
  obtain⟨b1,b2,_⟩:=zCR (zG3 h2).1
  refine⟨by simp only[List.length_append];omega,λe he=> ?_⟩
  rcases List.mem_append.1 he with he|he
  ·exact a2 e he
  ·exact b2 e he
theorem zJY {S:List Bs}{base:Nat}{heads l g:List Ent}{n:Nat}(h1:jG S base heads n=some l)(h2:zDK S base heads n=some g):jG S base heads (n+1)=some (l++g):=by
 unfold jG;rw[h1,Option.bind_some,h2];rfl
end Go.Seg
namespace Go.Cur
open Go.Ent Go.Seg
set_option linter.unusedVariables false
set_option linter.unusedSimpArgs false
def kT(l:List Ent)(e:Ent):List Ent:=l.dropWhile λx=>decide (ltE x e)
theorem zEI {a b:List Ent}{e:Ent}(h:∀x∈a,ltE x e):kT (a++b) e=kT b e:=by
 unfold kT
 induction a with
 |nil=>rfl
 |cons x a ih=>
  rw[List.cons_append,List.dropWhile_cons_of_pos (by simp[h x (by simp)])]
  exact ih λy hy=>h y (by simp[hy])
theorem zHB {a b:List Ent}{x e:Ent}(h:∀y∈a,ltE y e)(hx:¬ltE x e):kT (a++x::b) e=x::b:=by
 rw[zEI h]
 unfold kT
 rw[List.dropWhile_cons_of_neg (by simp[hx])]
def rest(gs:List (List Ent))(i at':Nat):List Ent:=(gs[i]?.getD []).drop at'++(gs.drop (i+1)).flatten
section
variable{gs:List (List Ent)}{g:List Ent}{i at':Nat}{e:Ent}
theorem zNG (hg:gs[i]?=some g):gs.flatten=(gs.take i).flatten++(g++(gs.drop (i+1)).flatten):=by
 obtain⟨hi,rfl⟩:=List.getElem?_eq_some_iff.1 hg
 have:gs=gs.take i++gs[i]::gs.drop (i+1):=by rw[<-List.drop_eq_getElem_cons hi,List.take_append_drop]
 conv=>lhs;rw[this]
 rw[List.flatten_append,List.flatten_cons]
theorem zMI (hs:zM gs.flatten)(hne:∀g∈gs,g≠ []):∀x∈(gs.take (jI (zU gs) e)).flatten,ltE x e:=by
 intro x hx
 obtain⟨g0,hg0,hxg⟩:=List.mem_flatten.1 hx
 obtain⟨j,hj⟩:=List.getElem?_of_mem hg0
 rw[List.getElem?_take] at hj
 split at hj
 ·rename_i hjf
  have hsh:zM (zU gs):=zAX hs
  have hlen:=vB hne
  let k:=jI (zU gs) e
  have hk:k=((zU gs).filter λh=>decide (ltE h e)).length-1:=rfl
  have hfl:((zU gs).filter λh=>decide (ltE h e)).length<=(zU gs).length:=List.length_filter_le _ _
  have hk1:k<(zU gs).length:=by omega
  have hhk:(zU gs)[k]?=some (zU gs)[k]:=List.getElem?_eq_getElem hk1
  generalize(zU gs)[k]=hd at hhk
  have hlt:ltE hd e:=by
   apply Classical.byContradiction
   intro hn
   have hc:=zNL (l:=(zU gs).take k) (e:=e) (k:=((zU gs).take k).length) (Nat.le_refl _)
   have:((zU gs).filter λh=>decide (ltE h e)).length<=k:=by
    have e1:zU gs=(zU gs).take k++(zU gs).drop k:=(List.take_append_drop _ _).symm
    have e2:((zU gs).drop k).filter (λh=>decide (ltE h e))=[]:=List.filter_eq_nil_iff.2 λy hy=>by
     obtain⟨m,hm⟩:=List.getElem?_of_mem hy
     rw[List.getElem?_drop] at hm
     have:=zAD hsh (by omega:k<=k+m) hhk hm
     simpa using λhlt=>hn (zAH this hlt)
    rw[e1,List.filter_append,e2,List.append_nil]
    refine Nat.le_trans (List.length_filter_le _ _) ?_
    rw[List.length_take];omega
   omega
  have hgk:∃gk,gs[k]?=some gk/\gk.head?=some hd:=by
   have hkl:k<gs.length:=by omega
   refine⟨gs[k],List.getElem?_eq_getElem hkl,?_⟩
   rw[<-zEH hne k gs[k] (List.getElem?_eq_getElem hkl),hhk]
  obtain⟨gk,hgk,hhd⟩:=hgk
  have hle:leE x hd:=by
   have hsp:=zNG hgk
   have hxm:x∈(gs.take k).flatten:=hx
   have hdm:hd∈gk++(gs.drop (k+1)).flatten:=List.mem_append_left _ (List.mem_of_mem_head? (by rw[hhd];rfl))
   unfold zM at hs
   rw[hsp,List.pairwise_append] at hs
   exact hs.2.2 x hxm hd hdm
  exact zAH hle hlt
 ·cases hj
end
end Go.Cur
namespace Go.Sto
open Go.Ent Go.Cur
set_option linter.unusedSimpArgs false
set_option linter.unusedVariables false
variable{S:SS}{H:List Ent}
def atM(m:Mom)(e:Ent):Bool:=decide (e.1=m.1)&&decide (e.2.1=m.2)
theorem zEN {l:List Ent}(f:Ent->Bool):yA (l.filter f)=(yA l).filter f:=
 jV ((yD l).filter _) ((zS l).filter f)
theorem zMR {m:Mom}:∀{l:List Ent},zM l->(∀e∈l,¬ltE e (m.1,m.2,0,0))->l.takeWhile (atM m)=l.filter (atM m)
 | [],_,_=>rfl
 |x::l,hs,h=>by
  have hs':=List.pairwise_cons.1 hs
  rw[List.takeWhile_cons,List.filter_cons]
  by_cases hx:atM m x=true
  ·rw[if_pos hx,if_pos hx,zMR hs'.2 λe he=>h e (List.mem_cons_of_mem _ he)]
  ·rw[if_neg hx,if_neg hx]
   symm
   rw[List.filter_eq_nil_iff]
   intro y hy hya
   have h1:=hs'.1 y hy
   have h2:=h x List.mem_cons_self
   unfold atM at hx hya
   simp only[Bool.and_eq_true,decide_eq_true_eq] at hx hya
   unfold leE ltE at h1
   unfold ltE at h2
   simp only at h2
   omega
theorem zKI {l:List Ent}{m:Mom}(hs:zM l)(h0:∀e∈l,0<=e.2.2.1/\0<=e.2.2.2):(kT l (m.1,m.2,0,0)).filter (atM m)=l.filter (atM m)/\∀e∈kT l (m.1,m.2,0,0),¬ltE e (m.1,m.2,0,0):=by
 induction l with
 |nil=>exact⟨rfl,λe h=>by cases h⟩
 |cons x l ih=>
  have hs':=List.pairwise_cons.1 hs
  unfold kT
  rw[List.dropWhile_cons]
  by_cases hx:ltE x (m.1,m.2,0,0)
  ·rw[if_pos (by simpa using hx)]
   obtain⟨a,b⟩:=ih hs'.2 λe he=>h0 e (List.mem_cons_of_mem _ he)
   refine⟨?_,b⟩
   have hn:¬atM m x=true:=by
    have:=h0 x List.mem_cons_self
    unfold atM
    unfold ltE at hx
    simp only[Bool.and_eq_true,decide_eq_true_eq] at*
    omega
   rw[List.filter_cons,if_neg hn]
   exact a
  ·rw[if_neg (by simpa using hx)]
   refine⟨rfl,λe he=> ?_⟩
   rcases List.mem_cons.1 he with rfl|he
   ·exact hx
   ·exact λhc=>hx (leE_lt_of (hs'.1 e he) hc)
where
 leE_lt_of {a b c:Ent} (h1:leE a b) (h2:ltE b c):ltE a c:=by
  unfold leE ltE at*;omega
end Go.Sto
namespace Go.Sto
open Go.Ent
set_option linter.unusedSimpArgs false
set_option linter.unusedVariables false
variable{S:SS}{nm:List UInt8}{lim i:Nat}{e:Ent}{f:List Mom}{c:Int}
structure Bd(nm:List UInt8)(lim k0:Nat)(S:SS)(i:Nat):Prop where
 nm:S.nm=nm
 lim:S.lim=lim
 k:S.k<=k0+i
 size:S.size<=i
 fr:∀p∈S.ps,p.fs.length<=i/\∀f∈p.fs,f.length<=1000
variable{k0:Nat}
theorem Bd.mono (B:Bd nm lim k0 S i):Bd nm lim k0 S (i+1):=
 ⟨B.nm,B.lim,by have:=B.k;omega,by have:=B.size;omega,λp hp=>⟨by have:=(B.fr p hp).1;omega,(B.fr p hp).2⟩⟩
theorem zT7 (p:Part):p.live.length<=p.l.length:=List.length_filter_le _ _
theorem zF0:∀ps:List Part,(ps.flatMap Part.live).length<=(ps.flatMap Part.l).length
 | []=>Nat.le_refl _
 |p::ps=>by
  have:=zF0 ps
  have h2:=zT7 p
  rw[List.flatMap_cons,List.flatMap_cons,List.length_append,List.length_append]
  omega
theorem Bd.spill (B:Bd nm lim k0 S i):S.spill.2.size=S.size/\Bd nm lim k0 S.spill.2 (i+1)/\(S.spill.2.k<=S.k+1):=by
 have key:({S with run:=[],ps:=S.ps++[S.next (yA S.run)],k:=S.k+1}:SS).size=S.size:=by
  show([]:List Ent).length+((S.ps++[S.next (yA S.run)]).flatMap Part.l).length=S.run.length+(S.ps.flatMap Part.l).length
  rw[List.flatMap_append,List.flatMap_cons,List.flatMap_nil,List.append_nil,List.length_append]
  show 0+(_+(yA S.run).length)=_
  rw[(zS S.run).length_eq];omega
 unfold SS.spill
 split
 ·exact⟨rfl,B.mono,by simp only;omega⟩
 split
 ·exact⟨rfl,B.mono,by simp only;omega⟩
 refine⟨key,⟨B.nm,B.lim,by have:=B.k;simp only;omega,by have:=B.size;simp only;rw[key];omega,λp hp=> ?_⟩,by simp only;omega⟩
 rcases List.mem_append.1 hp with h|h
 ·exact(B.mono).fr p h
 ·rw[List.mem_singleton] at h;subst h
  exact⟨Nat.zero_le _,λf hf=>by cases hf⟩
theorem size_push:(S.push e).size=S.size+1:=by
 show(S.run++[e]).length+S.lies.length=S.run.length+S.lies.length+1
 rw[List.length_append];simp only[List.length_cons,List.length_nil];omega
theorem Bd.add (B:Bd nm lim k0 S i):Bd nm lim k0 (S.add c e).2 (i+1):=by
 obtain⟨h1,h2,h3⟩:=B.spill
 unfold SS.add
 split
 ·exact B.mono
 split
 ·split
  ·exact⟨h2.nm,h2.lim,h2.k,by have:=B.size;show(S.spill.2.push e).size<=_;rw[size_push,h1];omega,h2.fr⟩
  ·exact h2
 ·have m:=B.mono
  exact⟨m.nm,m.lim,m.k,by have:=B.size;show(S.push e).size<=_;rw[size_push];omega,m.fr⟩
theorem Bd.compact (B:Bd nm lim k0 S i):Bd nm lim k0 S.compact.2 (i+1):=by
 have hs:=B.size
 unfold SS.size at hs
 unfold SS.compact
 split
 ·exact B.mono
 split
 ·refine⟨B.nm,B.lim,by have:=B.k;simp only;omega,?_,λp hp=>by cases hp⟩
  show S.run.length+([]:List Ent).length<=_
  simp only[List.length_nil];omega
 ·refine⟨B.nm,B.lim,by have:=B.k;simp only;omega,?_,λp hp=> ?_⟩
  ·show S.run.length+([S.next (yA S.live)].flatMap Part.l).length<=_
   have:([S.next (yA S.live)].flatMap Part.l)=yA S.live:=by simp[SS.next]
   rw[this,(zS S.live).length_eq]
   have h2:=zF0 S.ps
   have h3:S.live.length<=S.lies.length:=h2
   omega
  ·rw[List.mem_singleton] at hp;subst hp
   exact⟨Nat.zero_le _,λf hf=>by cases hf⟩
theorem zF2 (g:Part->Bool)(u:Part->Part)(hu:∀p,(u p).l=p.l):∀ps:List Part,(((ps.filter g).map u).flatMap Part.l).length<=(ps.flatMap Part.l).length
 | []=>Nat.le_refl _
 |p::ps=>by
  have:=zF2 g u hu ps
  rw[List.flatMap_cons,List.length_append]
  by_cases h:g p=true
  ·rw[List.filter_cons_of_pos h,List.map_cons,List.flatMap_cons,List.length_append,hu];omega
  ·rw[List.filter_cons_of_neg h];omega
theorem Bd.keep (B:Bd nm lim k0 S i)(hf:f.length<=1000):Bd nm lim k0 (S.keep f) (i+1):=by
 have hs:=B.size
 unfold SS.size at hs
 have h1:(S.run.filter λe=>covB f (momE e)).length<=S.run.length:=List.length_filter_le _ _
 have h2:=zF2 (λp=>covB f (kE p.l)) (λp=>{p with fs:=p.fs++[f]}) (λ_=>rfl) S.ps
 refine⟨B.nm,B.lim,by have:=B.k;show S.k<=_;omega,?_,λp hp=> ?_⟩
 ·show(S.run.filter λe=>covB f (momE e)).length+_<=_
  have h3:(S.keep f).lies.length<=S.lies.length:=h2
  omega
 ·obtain⟨p0,h0,rfl⟩:=List.mem_map.1 hp
  have:=B.fr p0 (List.mem_filter.1 h0).1
  refine⟨by simp only[List.length_append,List.length_cons,List.length_nil];omega,λg hg=> ?_⟩
  rcases List.mem_append.1 hg with hg|hg
  ·exact this.2 g hg
  ·rw[List.mem_singleton] at hg;rw[hg];exact hf
end Go.Sto

