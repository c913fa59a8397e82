namespace Go.Num
set_option linter.unusedVariables false
set_option linter.unusedSimpArgs false
abbrev Bs:=List UInt8
def wid(n:Nat):Nat:=if h:n<256 then 1 else 1+wid (n/256)
termination_by n
decreasing_by omega
theorem zHN {n:Nat}:1<=wid n:=by
  unfold wid;split<;>omega
theorem zFO:∀(k n:Nat),1<=k->(wid n<=k↔n<256^k)
  |0,n,h=>by omega
  |1,n,_=>by
    unfold wid
    split
    · simp;omega
    · have:=zHN (n:=n/256)
      constructor
      · intro h;omega
      · intro h;simp at h;omega
  |k+2,n,_=>by
    unfold wid
    have ih:=zFO (k+1) (n/256) (by omega)
    split
    · rename_i h
      have:256^1<=256^(k+2):=Nat.pow_le_pow_right (by omega) (by omega)
      constructor
      · intro _;omega
      · intro _;omega
    · have h1:256^(k+2)=256*256^(k+1):=by rw[Nat.pow_succ];omega
      have h2:1+wid (n/256)<=k+2↔wid (n/256)<=k+1:=by omega
      rw[h2,ih,h1]
      exact Nat.div_lt_iff_lt_mul (by omega) |>.trans (by rw[Nat.mul_comm])
def beL(n:Nat):Nat->Bs
  |0=>[]
  |k+1=>beL (n/256) k++[UInt8.ofNat (n%256)]
def beV(l:Bs):Nat:=l.foldl (λa b=>a*256+b.toNat) 0
theorem yJ:∀(k n:Nat),(beL n k).length=k
  |0,n=>rfl
  |k+1,n=>by simp[beL,yJ k]
theorem zFN {l:Bs}{x:UInt8}:beV (l++[x])=beV l*256+x.toNat:=by simp[beV]
theorem zMF:∀(k n:Nat),beV (beL n k)=n%256^k
  |0,n=>by simp[beL,beV,Nat.mod_one]
  |k+1,n=>by
    rw[beL,zFN,zMF k]
    have h1:(UInt8.ofNat (n%256)).toNat=n%256:=by simp
    rw[h1,Nat.pow_succ,Nat.mul_comm (256^k) 256,Nat.mod_mul]
    omega
theorem snoc_ind {α:Type}{P:List α->Prop}(h0:P [])(h1:∀l x,P l->P (l++[x]))(l:List α):P l:=by
  have:∀m:List α,P m.reverse:=by
    intro m
    induction m with
    |nil=>exact h0
    |cons x m ih=>rw[List.reverse_cons];exact h1 _ _ ih
  simpa using this l.reverse
theorem beV_lt:∀(l:Bs),beV l<256^l.length:=by
  intro l
  induction l using snoc_ind with
  |h0=>simp[beV]
  |h1 l x ih=>
    rw[zFN,List.length_append,List.length_cons,List.length_nil,Nat.pow_succ]
    have:=x.toNat_lt
    omega
theorem beL_beV:∀(l:Bs),beL (beV l) l.length=l:=by
  intro l
  induction l using snoc_ind with
  |h0=>rfl
  |h1 l x ih=>
    have hx:=x.toNat_lt
    rw[zFN,List.length_append,List.length_cons,List.length_nil,beL]
    have h1:(beV l*256+x.toNat)/256=beV l:=by omega
    have h2:(beV l*256+x.toNat)%256=x.toNat:=by omega
    rw[h1,h2,ih]
    simp
theorem zSL:∀(k n i:Nat),i<k->(beL n k)[i]?=some (UInt8.ofNat (n/256^(k-1-i)%256))
  |0,n,i,h=>by omega
  |k+1,n,i,h=>by
    rw[beL,List.getElem?_append,yJ]
    split
    · rename_i hi
      rw[zSL k (n/256) i hi,Nat.div_div_eq_div_mul]
      have:256*256^(k-1-i)=256^(k+1-1-i):=by
        rw[Nat.mul_comm,<-Nat.pow_succ];congr 1;omega
      rw[this]
    · have:i=k:=by omega
      subst this
      simp
def numB(n:Nat):Bs:=if n<240 then [UInt8.ofNat n] else if n<2288 then [UInt8.ofNat (240+(n-240)/256),UInt8.ofNat ((n-240)%256)] else UInt8.ofNat (246+wid n)::beL n (wid n)
def rdN:Bs->Option (Nat×Bs)
  | []=>none
  |c::l=>
    if c.toNat<240 then some (c.toNat,l)
    else if c.toNat<248 then(match l with | []=>none|x::l'=>some (240+(c.toNat-240)*256+x.toNat,l'))
    else if c.toNat<=254 then
      (if c.toNat-246<=l.length/\beV (l.take (c.toNat-246))<9223372036854775808/\2288<=beV (l.take (c.toNat-246))/\wid (beV (l.take (c.toNat-246)))=c.toNat-246
       then some (beV (l.take (c.toNat-246)),l.drop (c.toNat-246)) else none)
    else none
theorem zS4 {n:Nat}(h:n<256):(UInt8.ofNat n).toNat=n:=by simp;omega
theorem zTT {c:UInt8}:UInt8.ofNat c.toNat=c:=by simp
theorem zAT {n:Nat}(hn:n<9223372036854775808){l:Bs}:rdN (numB n++l)=some (n,l):=by
  unfold numB
  split
  · simp only[List.cons_append,List.nil_append,rdN]
    rw[zS4 (by omega),if_pos (by omega)]
  · split
    · simp only[List.cons_append,List.nil_append,rdN]
      rw[zS4 (by omega),zS4 (by omega),if_neg (by omega),if_pos (by omega)]
      have:240+(240+(n-240)/256-240)*256+(n-240)%256=n:=by omega
      rw[this]
    · have hw:wid n<=8:=(zFO 8 n (by omega)).2 (by omega)
      have hw2:2<=wid n:=by
        rcases Nat.lt_or_ge (wid n) 2 with h|h
        · have:=(zFO 1 n (by omega)).1 (by omega)
          simp at this;omega
        · exact h
      simp only[List.cons_append,rdN]
      rw[zS4 (by omega),if_neg (by omega),if_neg (by omega),if_pos (by omega)]
      have e:246+wid n-246=wid n:=by omega
      have hv:beV ((beL n (wid n)++l).take (wid n))=n:=by
        rw[List.take_left' (yJ _ _),zMF]
        exact Nat.mod_eq_of_lt ((zFO _ n zHN).1 (Nat.le_refl _))
      rw[e,hv,if_pos ⟨by simp[yJ],hn,by omega,rfl⟩,List.drop_left' (yJ _ _)]
theorem zB1 {b l:Bs}{n:Nat}(h:rdN b=some (n,l)):b=numB n++l/\n<9223372036854775808:=by
  cases b with
  |nil=>cases h
  |cons c t=>
    have hc:=c.toNat_lt
    simp only[rdN] at h
    split at h
    · rename_i h1
      cases h
      refine⟨?_,by omega⟩
      unfold numB
      rw[if_pos h1,zTT];rfl
    · split at h
      · rename_i h1 h2
        cases t with
        |nil=>cases h
        |cons x t=>
          have hx:=x.toNat_lt
          cases h
          refine⟨?_,by omega⟩
          unfold numB
          rw[if_neg (by omega),if_pos (by omega)]
          have e1:240+(240+(c.toNat-240)*256+x.toNat-240)/256=c.toNat:=by omega
          have e2:(240+(c.toNat-240)*256+x.toNat-240)%256=x.toNat:=by omega
          rw[e1,e2,zTT,zTT];rfl
      · split at h
        · split at h
          · rename_i h1 h2 h3 h4
            obtain⟨g1,g2,g3,g4⟩:=h4
            simp only[Option.some.injEq,Prod.mk.injEq] at h
            obtain⟨rfl,rfl⟩:=h
            refine⟨?_,g2⟩
            unfold numB
            rw[if_neg (by omega),if_neg (by omega),g4]
            have e1:246+(c.toNat-246)=c.toNat:=by omega
            have e2:beL (beV (t.take (c.toNat-246))) (c.toNat-246)=t.take (c.toNat-246):=by
              have:=beL_beV (t.take (c.toNat-246))
              rwa[List.length_take,Nat.min_eq_left g1] at this
            rw[e1,e2,zTT];simp
          · cases h
        · cases h
end Go.Num
namespace Go.Ent
set_option linter.unusedVariables false
set_option linter.unusedSimpArgs false
abbrev Ent:=Int×Int×Int×Int
def ltE(a b:Ent):Prop:=a.1<b.1∨a.1=b.1/\(a.2.1<b.2.1∨a.2.1=b.2.1/\(a.2.2.1<b.2.2.1∨a.2.2.1=b.2.2.1/\a.2.2.2<b.2.2.2))
instance (a b:Ent):Decidable (ltE a b):=by unfold ltE;infer_instance
abbrev leE(a b:Ent):Prop:=¬ltE b a
theorem ent_ext {a b:Ent}(h1:a.1=b.1)(h2:a.2.1=b.2.1)(h3:a.2.2.1=b.2.2.1)(h4:a.2.2.2=b.2.2.2):a=b:=by
 obtain⟨a1,a2,a3,a4⟩:=a
 obtain⟨b1,b2,b3,b4⟩:=b
 simp_all
theorem jO {a b c:Ent}(h1:leE a b)(h2:leE b c):leE a c:=by unfold leE ltE at*;omega
theorem zRA (a b:Ent):leE a b∨leE b a:=by unfold leE ltE;omega
theorem zDR (a:Ent):leE a a:=by unfold leE ltE;omega
theorem leE_anti {a b:Ent}(h1:leE a b)(h2:leE b a):a=b:=by unfold leE ltE at*;exact ent_ext (by omega) (by omega) (by omega) (by omega)
theorem zRB {a b:Ent}(h:ltE a b):leE a b:=by unfold leE ltE at*;omega
def cmp1(a b:Int):Int:=if a<b then -1 else if a>b then 1 else 0
def orI(a b:Int):Int:=if a=0 then b else a
def cmpE(a b:Ent):Int:=orI (orI (cmp1 a.1 b.1) (cmp1 a.2.1 b.2.1)) (orI (cmp1 a.2.2.1 b.2.2.1) (cmp1 a.2.2.2 b.2.2.2))
theorem cmpE_lt {a b:Ent}:cmpE a b<0↔ltE a b:=by
 unfold cmpE orI cmp1 ltE
 repeat' split
 all_goals omega
theorem zSD {a b:Ent}:cmpE a b>0↔ltE b a:=by
 unfold cmpE orI cmp1 ltE
 repeat' split
 all_goals omega
abbrev zN(l:List Ent):Prop:=l.Pairwise leE
def leEb(a b:Ent):Bool:=decide (leE a b)
def yA(l:List Ent):List Ent:=l.mergeSort leEb
theorem yD (l:List Ent):zN (yA l):=by
 have:=List.pairwise_mergeSort (le:=leEb) (λa b c h1 h2=>by simp only[leEb,decide_eq_true_eq] at*;exact jO h1 h2) (λa b=>by simp only[leEb,Bool.or_eq_true,decide_eq_true_eq];exact zRA a b) l
 exact this.imp λh=>by simpa[leEb] using h
theorem zS (l:List Ent):(yA l).Perm l:=List.mergeSort_perm l leEb
theorem zAO:∀{l1 l2:List Ent},zN l1->zN l2->l1.Perm l2->l1=l2
 | [],l2,_,_,h=>h.nil_eq
 |a::l1,l2,h1,h2,h=>by
  cases l2 with
  |nil=>exact absurd h.length_eq (by simp)
  |cons b l2=>
   have hab:a=b:=by
    have ha:a∈b::l2:=h.mem_iff.1 (by simp)
    have hb:b∈a::l1:=h.mem_iff.2 (by simp)
    rcases List.mem_cons.1 ha with rfl|ha
    ·rfl
    rcases List.mem_cons.1 hb with rfl|hb
    ·rfl
    exact leE_anti (List.rel_of_pairwise_cons h1 hb) (List.rel_of_pairwise_cons h2 ha)
   subst hab
   rw[zAO h1.of_cons h2.of_cons (h.cons_inv)]
theorem jW {l m:List Ent}(hs:zN m)(hp:m.Perm l):yA l=m:=zAO (yD l) hs ((zS l).trans hp.symm)
theorem zHX {l m:List Ent}(hp:l.Perm m):yA l=yA m:=jW (yD m) ((zS m).trans hp.symm)
theorem zN8 {l:List Ent}(h:zN l):yA l=l:=jW h (.refl l)
theorem zHW {l:List Ent}(h:∀i a b,l[i]?=some a->l[i+1]?=some b->leE a b):zN l:=by
 induction l with
 |nil=>exact .nil
 |cons a l ih=>
  have hl:=ih λi x y hx hy=>h (i+1) x y (by simpa using hx) (by simpa using hy)
  refine .cons ?_ hl
  cases l with
  |nil=>simp
  |cons b l=>
   have hab:leE a b:=h 0 a b (by simp) (by simp)
   intro c hc
   rcases List.mem_cons.1 hc with rfl|hc
   ·exact hab
   ·exact jO hab (List.rel_of_pairwise_cons hl hc)
theorem zI1 {l:List Ent}(h:zN l){i:Nat}{a b:Ent}(ha:l[i]?=some a)(hb:l[i+1]?=some b):leE a b:=by
 obtain⟨hi,rfl⟩:=List.getElem?_eq_some_iff.1 ha
 obtain⟨hi2,rfl⟩:=List.getElem?_eq_some_iff.1 hb
 exact List.pairwise_iff_getElem.1 h i (i+1) hi hi2 (by omega)
instance (l:List Ent):Decidable (zN l):=by unfold zN;infer_instance
end Go.Ent
namespace Go.Ent
open Go.Num
set_option linter.unusedVariables false
set_option linter.unusedSimpArgs false
def yH(e:Ent):Bool:=decide (0<=e.1/\e.1<65536/\0<=e.2.1/\e.2.1<65536/\0<=e.2.2.1/\e.2.2.1<1048576/\0<=e.2.2.2/\e.2.2.2<1048576)
def entB(e:Ent):Bs:=numB e.1.toNat++numB e.2.1.toNat++(numB e.2.2.1.toNat++numB e.2.2.2.toNat)
def encL(l:List Ent):Bs:=l.flatMap entB
theorem zA3 {l m:List Ent}:encL (l++m)=encL l++encL m:=by simp[encL]
theorem zFK {e:Ent}:encL [e]=entB e:=by simp[encL]
theorem zI4 {n k:Nat}(hk:1<=k)(h:n<256^k):wid n<=k:=(zFO k n hk).2 h
theorem zDO {n:Nat}(h:n<65536):(numB n).length<=3:=by
 have:=zI4 (n:=n) (k:=2) (by omega) (by omega)
 unfold numB
 split
 ·simp
 ·split
  ·simp
  ·simp[yJ];omega
theorem zBF {n:Nat}(h:n<1048576):(numB n).length<=4:=by
 have:=zI4 (n:=n) (k:=3) (by omega) (by omega)
 unfold numB
 split
 ·simp
 ·split
  ·simp
  ·simp[yJ];omega
theorem zFF {n:Nat}:1<=(numB n).length:=by
 unfold numB
 split
 ·simp
 ·split<;>simp
theorem zIV {e:Ent}(h:yH e=true):(entB e).length<=14:=by
 have h:=of_decide_eq_true h
 have h1:=zDO (n:=e.1.toNat) (by omega)
 have h2:=zDO (n:=e.2.1.toNat) (by omega)
 have h3:=zBF (n:=e.2.2.1.toNat) (by omega)
 have h4:=zBF (n:=e.2.2.2.toNat) (by omega)
 simp only[entB,List.length_append];omega
theorem vA {e:Ent}:4<=(entB e).length:=by
 have h1:=zFF (n:=e.1.toNat)
 have h2:=zFF (n:=e.2.1.toNat)
 have h3:=zFF (n:=e.2.2.1.toNat)
 have h4:=zFF (n:=e.2.2.2.toNat)
 simp only[entB,List.length_append];omega
def rd4(b:Bs):Option (Ent×Bs):=
 match rdN b with
 |none=>none
 |some (x,b1)=>match rdN b1 with
  |none=>none
  |some (y,b2)=>match rdN b2 with
   |none=>none
   |some (z,b3)=>match rdN b3 with
    |none=>none
    |some (w,b4)=>some (((x:Int),(y:Int),(z:Int),(w:Int)),b4)
def rdE(b:Bs):Option (Ent×Bs):=match rd4 b with
 |some (e,b')=>if yH e then some (e,b') else none
 |none=>none
theorem zIA {e:Ent}(h:yH e=true){b:Bs}:rdE (entB e++b)=some (e,b):=by
 have h':=of_decide_eq_true h
 obtain⟨x,y,z,w⟩:=e
 simp only at h'
 unfold rdE rd4 entB
 simp only
 rw[List.append_assoc,List.append_assoc,zAT (by omega)]
 simp only
 rw[zAT (by omega)]
 simp only
 rw[List.append_assoc,zAT (by omega)]
 simp only
 rw[zAT (by omega)]
 simp only[Int.toNat_of_nonneg h'.1,Int.toNat_of_nonneg h'.2.2.1,Int.toNat_of_nonneg h'.2.2.2.2.1,Int.toNat_of_nonneg h'.2.2.2.2.2.2.1]
 rw[if_pos h]
theorem zIU {b b':Bs}{e:Ent}(h:rdE b=some (e,b')):b=entB e++b'/\yH e=true:=by
 unfold rdE at h
 cases h4:rd4 b with
 |none=>rw[h4] at h;cases h
 |some r=>
  obtain⟨e1,b1⟩:=r
  rw[h4] at h
  simp only at h
  split at h
  ·rename_i hok
   cases h
   refine⟨?_,hok⟩
   unfold rd4 at h4
   cases g1:rdN b with
   |none=>rw[g1] at h4;cases h4
   |some r1=>
    obtain⟨x,c1⟩:=r1
    rw[g1] at h4;simp only at h4
    cases g2:rdN c1 with
    |none=>rw[g2] at h4;cases h4
    |some r2=>
     obtain⟨y,c2⟩:=r2
     rw[g2] at h4;simp only at h4
     cases g3:rdN c2 with
     |none=>rw[g3] at h4;cases h4
     |some r3=>
      obtain⟨z,c3⟩:=r3
      rw[g3] at h4;simp only at h4
      cases g5:rdN c3 with
      |none=>rw[g5] at h4;cases h4
      |some r4=>
       obtain⟨w,c4⟩:=r4
       rw[g5] at h4
       simp only[Option.some.injEq,Prod.mk.injEq] at h4
       obtain⟨rfl,rfl⟩:=h4
       obtain⟨rfl,_⟩:=zB1 g1
       obtain⟨rfl,_⟩:=zB1 g2
       obtain⟨rfl,_⟩:=zB1 g3
       obtain⟨rfl,_⟩:=zB1 g5
       simp[entB,List.append_assoc]
  ·cases h
theorem zQL {b b':Bs}{e:Ent}(h:rdE b=some (e,b')):b'.length<b.length:=by
 obtain⟨rfl,_⟩:=zIU h
 have:=vA (e:=e)
 rw[List.length_append];omega
def zCP:Nat->Bs->Option (List Ent)
 |_,[]=>some []
 |0,_::_=>none
 |n+1,x::b=>match rdE (x::b) with
  |none=>none
  |some (e,b')=>(zCP n b').map (e:: ·)
def jL(b:Bs):Option (List Ent):=zCP b.length b
theorem zCO:∀(n:Nat) (b:Bs) (l:List Ent),b.length<=n->(zCP n b=some l↔b=encL l/\∀e∈l,yH e=true)
 |n,[],l,h=>by
  constructor
  ·intro h;cases n<;>(simp only[zCP,Option.some.injEq] at h;subst h;exact⟨rfl,by simp⟩)
  ·rintro⟨h1,h2⟩
   cases l with
   |nil=>cases n<;>rfl
   |cons e l=>
    have:=vA (e:=e)
    have:=congrArg List.length h1
    simp[encL] at this;omega
 |0,x::b,l,h=>by simp at h
 |n+1,x::b,l,h=>by
  unfold zCP
  constructor
  ·intro h1
   cases hr:rdE (x::b) with
   |none=>rw[hr] at h1;cases h1
   |some r=>
    obtain⟨e,b'⟩:=r
    rw[hr] at h1
    simp only[Option.map_eq_some_iff] at h1
    obtain⟨l',hl',rfl⟩:=h1
    have hs:=zQL hr
    obtain⟨hb,hok⟩:=zIU hr
    obtain⟨g1,g2⟩:=(zCO n b' l' (by simp at h hs;omega)).1 hl'
    refine⟨by rw[hb,g1];simp[encL],?_⟩
    intro e' he'
    rcases List.mem_cons.1 he' with rfl|he'
    ·exact hok
    ·exact g2 _ he'
  ·rintro⟨h1,h2⟩
   cases l with
   |nil=>simp[encL] at h1
   |cons e l=>
    have e1:x::b=entB e++encL l:=by rw[h1];simp[encL]
    rw[e1,zIA (h2 e (by simp))]
    simp only[Option.map_eq_some_iff]
    have hp:=vA (e:=e)
    have hl:(encL l).length<=n:=by
     have:=congrArg List.length e1
     rw[List.length_append] at this;simp at this h;omega
    exact⟨l,(zCO n _ l hl).2 ⟨rfl,λe' he'=>h2 e' (by simp[he'])⟩,rfl⟩
theorem vB {b:Bs}{l:List Ent}:jL b=some l↔b=encL l/\∀e∈l,yH e=true:=zCO _ _ _ (Nat.le_refl _)
theorem zAD {l:List Ent}(h:∀e∈l,yH e=true):jL (encL l)=some l:=vB.2 ⟨rfl,h⟩
theorem zN3 {l:List Ent}(h:∀e∈l,yH e=true){b:Bs}:jL (encL l++b)=(jL b).map (l++ ·):=by
 cases hu:jL b with
 |some m=>
  obtain⟨rfl,h2⟩:=vB.1 hu
  rw[<-zA3]
  exact zAD λe he=>(List.mem_append.1 he).elim (h e) (h2 e)
 |none=>
  cases hx:jL (encL l++b) with
  |none=>rfl
  |some m=>
   exfalso
   obtain⟨h1,h2⟩:=vB.1 hx
   clear hx
   induction l generalizing m with
   |nil=>
    rw[show encL ([]:List Ent)=[] by rfl,List.nil_append] at h1
    rw[vB.2 ⟨h1,h2⟩] at hu;cases hu
   |cons e l ih=>
    cases m with
    |nil=>
     have:=congrArg List.length h1
     have hp:=vA (e:=e)
     simp only[encL,List.flatMap_cons,List.flatMap_nil,List.length_append,List.length_nil] at this;omega
    |cons e' m=>
     have e1:entB e++(encL l++b)=entB e'++encL m:=by
      have:encL (e::l)=entB e++encL l:=by simp[encL]
      rw[this,List.append_assoc] at h1
      rw[h1];simp[encL]
     have e2:=congrArg rdE e1
     rw[zIA (h e (by simp)),zIA (h2 e' (by simp))] at e2
     simp only[Option.some.injEq,Prod.mk.injEq] at e2
     exact ih (λx hx=>h x (by simp[hx])) m e2.2 (λx hx=>h2 x (by simp[hx]))
theorem zK8 {b:Bs}(hne:b≠ [])(h:rdE b=none):jL b=none:=by
 cases b with
 |nil=>exact absurd rfl hne
 |cons x b=>unfold jL;rw[List.length_cons,zCP,h]
abbrev Gs:=List (List Ent)
def zLN(s:Gs×List Ent)(e:Ent):Gs×List Ent:=if(encL s.2).length+(entB e).length>43 then(s.1++[s.2],[e]) else(s.1,s.2++[e])
def pRun(l:List Ent):Gs×List Ent:=l.foldl zLN ([],[])
def pFin(s:Gs×List Ent):Gs:=if s.2=[] then s.1 else s.1++[s.2]
def zR(l:List Ent):Gs:=pFin (pRun l)
theorem zF1 {l:List Ent}{e:Ent}:pRun (l++[e])=zLN (pRun l) e:=by simp[pRun]
theorem snoc_ind {α:Type}{P:List α->Prop}(h0:P [])(h1:∀l x,P l->P (l++[x]))(l:List α):P l:=by
 have:∀m:List α,P m.reverse:=by
  intro m
  induction m with
  |nil=>exact h0
  |cons x m ih=>rw[List.reverse_cons];exact h1 _ _ ih
 simpa using this l.reverse
theorem zJ1 (l:List Ent):(pRun l).1.flatten++(pRun l).2=l:=by
 induction l using snoc_ind with
 |h0=>rfl
 |h1 l e ih=>
  rw[zF1]
  unfold zLN
  split
  ·simp only[List.flatten_append,List.flatten_cons,List.flatten_nil,List.append_nil]
   rw[ih]
  ·simp only
   rw[<-List.append_assoc,ih]
theorem ok_snoc {l:List Ent}{e:Ent}(h:∀x∈l++[e],yH x=true):(∀x∈l,yH x=true)/\yH e=true:=⟨λx hx=>h x (by simp[hx]),h e (by simp)⟩
theorem zIE (l:List Ent)(hok:∀e∈l,yH e=true):(∀g∈(pRun l).1,g≠ []/\(encL g).length<=43)/\(encL (pRun l).2).length<=43:=by
 induction l using snoc_ind with
 |h0=>simp[pRun,encL]
 |h1 l e ih=>
  obtain⟨h1,h2⟩:=ok_snoc hok
  obtain⟨i1,i2⟩:=ih h1
  have he:=zIV h2
  rw[zF1]
  unfold zLN
  split
  ·rename_i h
   refine⟨λg hg=> ?_,by rw[zFK];omega⟩
   rcases List.mem_append.1 hg with hg|hg
   ·exact i1 g hg
   ·simp at hg;subst hg
    refine⟨λh0=> ?_,i2⟩
    rw[h0] at h
    simp[encL] at h;omega
  ·rename_i h
   refine⟨i1,?_⟩
   rw[zA3,zFK,List.length_append];omega
theorem yX (l:List Ent):(zR l).flatten=l:=by
 have:=zJ1 l
 unfold zR pFin
 split
 ·rename_i h;rw[h,List.append_nil] at this;exact this
 ·rw[List.flatten_append];simpa using this
theorem yR {l:List Ent}(hok:∀e∈l,yH e=true):∀g∈zR l,g≠ []/\(encL g).length<=43:=by
 obtain⟨h1,h2⟩:=zIE l hok
 unfold zR pFin
 split
 ·exact h1
 ·rename_i h
  intro g hg
  rcases List.mem_append.1 hg with hg|hg
  ·exact h1 g hg
  ·simp at hg;subst hg;exact⟨h,h2⟩
theorem zDN {l:List Ent}(hok:∀e∈l,yH e=true):∀g∈zR l,∀e∈g,yH e=true:=λg hg e he=>hok e (by rw[<-yX l];exact List.mem_flatten.2 ⟨g,hg,he⟩)
theorem zNM {gs:Gs}(h:∀g∈gs,g≠ []):gs.length<=gs.flatten.length:=by
 induction gs with
 |nil=>simp
 |cons g gs ih=>
  have h1:=ih λx hx=>h x (by simp[hx])
  have h2:g.length≠0:=λh0=>h g (by simp) (List.eq_nil_of_length_eq_zero h0)
  simp only[List.flatten_cons,List.length_append,List.length_cons] at*;omega
theorem kI {l:List Ent}(hok:∀e∈l,yH e=true):(zR l).length<=l.length:=by
 have:=zNM (gs:=zR l) λg hg=>(yR hok g hg).1
 rwa[yX] at this
theorem zHD {α:Type}:∀{a b:List (List α)},a.flatten=b.flatten->a.map List.length=b.map List.length->a=b
 | [],[],_,_=>rfl
 | [],_::_,_,h=>by simp at h
 |_::_,[],_,h=>by simp at h
 |x::a,y::b,h,hl=>by
  simp only[List.map_cons,List.cons.injEq] at hl
  simp only[List.flatten_cons] at h
  obtain⟨h1,h2⟩:=List.append_inj h hl.1
  rw[h1,zHD h2 hl.2]
end Go.Ent
namespace Go.Pool
open Go.Ent
set_option linter.unusedVariables false
set_option linter.unusedSimpArgs false
abbrev Bs:=List UInt8
structure Fr where
 name:Bs
 i:Int
 l:List Ent
 held:Nat
 mark:Bool
 is:Bool
def Fr.none:Fr:=⟨[],0,[],0,false,false⟩
structure PS where
 fr:List Fr
 hand:Nat
 reads:Nat
 hits:Nat
 losses:Nat
def Fr.at(s:Bs)(i:Int)(f:Fr):Bool:=f.is&&(f.name==s&&f.i==i)
def PS.at(P:PS)(s:Bs)(i:Int):Option Nat:=P.fr.findIdx? (Fr.at s i)
def PS.held(P:PS):Nat:=P.fr.countP λf=>decide (0<f.held)
def newP(n:Nat):PS:=⟨List.replicate n Fr.none,0,0,0,0⟩
def spin:Nat->List Fr->Nat->Option (Nat×List Fr×Nat)
 |0,_,_=>Option.none
 |n+1,fr,hand=>match fr[hand]? with
  |Option.none=>Option.none
  |some f=>if 0<f.held then spin n fr ((hand+1)%fr.length) else
    if f.mark then spin n (fr.set hand {f with mark:=false}) ((hand+1)%fr.length) else some (hand,fr,(hand+1)%fr.length)
theorem zNB {n u d a:Nat}(hu:u<n)(ha:a<n)(hd:(u+n-a)%n=d+1):(u+n-(a+1)%n)%n=d:=by
 rcases Nat.lt_or_ge (a+1) n with h|h
 ·rw[Nat.mod_eq_of_lt h]
  rcases Nat.lt_or_ge u a with h1|h1
  ·rw[Nat.mod_eq_of_lt (by omega)] at hd
   rw[Nat.mod_eq_of_lt (by omega)];omega
  ·have e:u+n-a=(u-a)+n:=by omega
   rw[e,Nat.add_mod_right,Nat.mod_eq_of_lt (by omega)] at hd
   have e2:u+n-(a+1)=(u-(a+1))+n:=by omega
   rw[e2,Nat.add_mod_right,Nat.mod_eq_of_lt (by omega)];omega
 ·have:a+1=n:=by omega
  rw[this,Nat.mod_self]
  rcases Nat.lt_or_ge (u+1) n with h1|h1
  ·rw[Nat.mod_eq_of_lt (by omega)] at hd
   rw[Nat.sub_zero,Nat.add_mod_right,Nat.mod_eq_of_lt hu];omega
  ·have e:u+n-a=n:=by omega
   rw[e,Nat.mod_self] at hd;omega
theorem zNC {n u a:Nat}(hu:u<n)(ha:a<n)(hd:(u+n-a)%n=0):a=u:=by
 rcases Nat.lt_or_ge u a with h1|h1
 ·rw[Nat.mod_eq_of_lt (by omega)] at hd;omega
 ·have e:u+n-a=(u-a)+n:=by omega
  rw[e,Nat.add_mod_right,Nat.mod_eq_of_lt (by omega)] at hd;omega
theorem zP8:∀(d:Nat) {m:Nat} {fr:List Fr} {hand u:Nat} {f:Fr},d<m->hand<fr.length->fr[u]?=some f->f.held=0->f.mark=false->(u+fr.length-hand)%fr.length=d->∃r,spin m fr hand=some r:=by
 intro d
 induction d with
 |zero=>
  intro m fr hand u f hm hh hf h0 h1 hd
  have hu:u<fr.length:=(List.getElem?_eq_some_iff.1 hf).1
  have:=zNC hu hh hd
  subst this
  obtain⟨m,rfl⟩:∃k,m=k+1:=⟨m-1,by omega⟩
  simp only[spin,hf,h0,h1]
  exact⟨_,rfl⟩
 |succ d ih=>
  intro m fr hand u f hm hh hf h0 h1 hd
  have hu:u<fr.length:=(List.getElem?_eq_some_iff.1 hf).1
  obtain⟨m,rfl⟩:∃k,m=k+1:=⟨m-1,by omega⟩
  have hn:=zNB hu hh hd
  have hh':(hand+1)%fr.length<fr.length:=Nat.mod_lt _ (by omega)
  have hg:fr[hand]?=some fr[hand]:=List.getElem?_eq_getElem hh
  simp only[spin,hg]
  split
  ·exact ih (by omega) hh' hf h0 h1 hn
  ·split
   ·rename_i hm1
    have hne:u≠hand:=by
     intro he;subst he;rw[hf] at hg;rw[<-Option.some.inj hg,h1] at hm1;cases hm1
    have hl:(fr.set hand {fr[hand] with mark:=false}).length=fr.length:=List.length_set
    have:=ih (m:=m) (fr:=fr.set hand {fr[hand] with mark:=false}) (hand:=(hand+1)%fr.length) (u:=u) (f:=f) (by omega) (by rw[hl];exact hh') (by rw[List.getElem?_set,if_neg (Ne.symm hne)];exact hf) h0 h1 (by rw[hl];exact hn)
    exact this
   ·exact⟨_,rfl⟩
theorem zP7:∀(d:Nat) {m:Nat} {fr:List Fr} {hand u:Nat} {f:Fr},d+fr.length<m->hand<fr.length->fr[u]?=some f->f.held=0->(u+fr.length-hand)%fr.length=d->∃r,spin m fr hand=some r:=by
 intro d
 induction d with
 |zero=>
  intro m fr hand u f hm hh hf h0 hd
  have hu:u<fr.length:=(List.getElem?_eq_some_iff.1 hf).1
  have:=zNC hu hh hd
  subst this
  obtain⟨m,rfl⟩:∃k,m=k+1:=⟨m-1,by omega⟩
  simp only[spin,hf,h0]
  split
  ·rename_i hc;omega
  split
  ·have hl:(fr.set hand {f with mark:=false}).length=fr.length:=List.length_set
   refine zP8 ((hand+fr.length-(hand+1)%fr.length)%fr.length) (u:=hand) (f:={f with mark:=false}) ?_ ?_ ?_ h0 rfl (by rw[List.length_set])
   ·have:=Nat.mod_lt (hand+fr.length-(hand+1)%fr.length) (show 0<fr.length by omega)
    omega
   ·rw[List.length_set];exact Nat.mod_lt _ (by omega)
   ·rw[List.getElem?_set_self hu];simp[h0]
  ·exact⟨_,rfl⟩
 |succ d ih=>
  intro m fr hand u f hm hh hf h0 hd
  have hu:u<fr.length:=(List.getElem?_eq_some_iff.1 hf).1
  obtain⟨m,rfl⟩:∃k,m=k+1:=⟨m-1,by omega⟩
  have hn:=zNB hu hh hd
  have hh':(hand+1)%fr.length<fr.length:=Nat.mod_lt _ (by omega)
  have hg:fr[hand]?=some fr[hand]:=List.getElem?_eq_getElem hh
  simp only[spin,hg]
  split
  ·exact ih (by omega) hh' hf h0 hn
  ·split
   ·rename_i hm0 hm1
    have hl:(fr.set hand {fr[hand] with mark:=false}).length=fr.length:=List.length_set
    by_cases hne:u=hand
    ·subst hne
     exact ih (m:=m) (fr:=fr.set u {fr[u] with mark:=false}) (hand:=(u+1)%fr.length) (u:=u) (f:={fr[u] with mark:=false}) (by rw[hl];omega) (by rw[hl];exact hh') (by rw[List.getElem?_set_self hu]) (by rw[hf] at hg;rw[<-Option.some.inj hg];exact h0) (by rw[hl];exact hn)
    ·exact ih (m:=m) (fr:=fr.set hand {fr[hand] with mark:=false}) (hand:=(hand+1)%fr.length) (u:=u) (f:=f) (by rw[hl];omega) (by rw[hl];exact hh') (by rw[List.getElem?_set,if_neg (Ne.symm hne)];exact hf) h0 (by rw[hl];exact hn)
   ·exact⟨_,rfl⟩
theorem zJF {fr:List Fr}{hand:Nat}(hh:hand<fr.length)(hf:∃f∈fr,f.held=0):∃r,spin (2*fr.length+1) fr hand=some r:=by
 obtain⟨f,hf,h0⟩:=hf
 obtain⟨u,hu⟩:=List.getElem?_of_mem hf
 have:=Nat.mod_lt (u+fr.length-hand) (show 0<fr.length by omega)
 exact zP7 _ (by omega) hh hu h0 rfl
def core(f:Fr):Bs×Int×List Ent×Nat×Bool:=(f.name,f.i,f.l,f.held,f.is)
theorem zTB {fr:List Fr}{k:Nat}{f g:Fr}(h:fr[k]?=some f)(hc:core g=core f):(fr.set k g).map core=fr.map core:=by
 rw[List.map_set,hc]
 apply List.ext_getElem?
 intro j
 rw[List.getElem?_set]
 split
 ·rename_i hj;subst hj
  obtain⟨hl,rfl⟩:=List.getElem?_eq_some_iff.1 h
  split
  ·simp[hl]
  ·rename_i h2;simp at h2;omega
 ·rfl
theorem zFV:∀{m:Nat} {fr fr':List Fr} {hand k hand':Nat},spin m fr hand=some (k,fr',hand')->hand<fr.length->fr'.map core=fr.map core/\k<fr.length/\hand'<fr.length/\(∀f,fr'[k]?=some f->f.held=0):=by
 intro m
 induction m with
 |zero=>intro fr fr' hand k hand' h;simp[spin] at h
 |succ m ih=>
  intro fr fr' hand k hand' h hh
  have hh':(hand+1)%fr.length<fr.length:=Nat.mod_lt _ (by omega)
  simp only[spin] at h
  split at h
  ·cases h
  ·rename_i f hf
   split at h
   ·exact ih h hh'
   ·rename_i h0
    split at h
    ·have hl:(fr.set hand {f with mark:=false}).length=fr.length:=List.length_set
     obtain⟨a,b,c,d⟩:=ih h (by rw[hl];exact hh')
     exact⟨a.trans (zTB hf rfl),by rw[hl] at b;exact b,by rw[hl] at c;exact c,d⟩
    ·cases h
     exact⟨rfl,hh,hh',λg hg=>by rw[hf] at hg;cases hg;omega⟩
def PS.place(P:PS):Option (Nat×PS):=match P.fr.findIdx? (λf=> !f.is) with
 |some k=>some (k,P)
 |Option.none=>if P.held=P.fr.length then Option.none else match spin (2*P.fr.length+1) P.fr P.hand with
  |some (k,fr,hand)=>some (k,{P with fr:=fr,hand:=hand,losses:=P.losses+1})
  |Option.none=>Option.none
def up(fr:List Fr)(k:Nat)(g:Fr->Fr):List Fr:=match fr[k]? with |some f=>fr.set k (g f)|Option.none=>fr
def PS.take(P:PS)(k:Nat)(s:Bs)(i:Int)(l:List Ent):PS:={P with fr:=P.fr.set k ⟨s,i,l,1,true,true⟩,reads:=P.reads+1}
def PS.hold(P:PS)(s:Bs)(i:Int)(r:Int×List Ent):Int×List Ent×PS:=match P.at s i with
 |some k=>(0,(match P.fr[k]? with |some f=>f.l|Option.none=>[]),{P with fr:=up P.fr k λf=>{f with held:=f.held+1,mark:=true},hits:=P.hits+1})
 |Option.none=>if r.1≠0 then(r.1,[],P) else match P.place with
  |Option.none=>(90,[],P)
  |some (k,P')=>(0,r.2,P'.take k s i r.2)
def PS.free(P:PS)(s:Bs)(i:Int):Int×PS:=match P.at s i with
 |Option.none=>(4,P)
 |some k=>match P.fr[k]? with
  |some f=>if f.held=0 then(4,P) else(0,{P with fr:=P.fr.set k {f with held:=f.held-1}})
  |Option.none=>(4,P)
def gone(s:Bs)(f:Fr):Bool:=f.is&&(f.name==s&&f.held==0)
def PS.drop(P:PS)(s:Bs):Nat×PS:=(P.fr.countP (gone s),{P with fr:=P.fr.map λf=>if gone s f then Fr.none else f})
structure PS.ok(P:PS):Prop where
 one:∀(j k:Nat) (f g:Fr),P.fr[j]?=some f->P.fr[k]?=some g->f.is=true->g.is=true->f.name=g.name->f.i=g.i->j=k
 hand:P.hand<P.fr.length∨P.hand=0
 few:P.fr.length<=1024
end Go.Pool
namespace Go.Crc
set_option linter.unusedVariables false
set_option linter.unusedSimpArgs false
abbrev W:=BitVec 32
abbrev poly:W:=0xedb88320#32
def step(c:W):W:=(c>>>1)^^^(if c.getLsbD 0 then poly else 0#32)
theorem zS8 (a b:W):step (a^^^b)=step a^^^step b:=by
 unfold step
 rw[BitVec.ushiftRight_xor_distrib,BitVec.getLsbD_xor]
 cases a.getLsbD 0<;>cases b.getLsbD 0<;>simp only[Bool.xor_true,Bool.xor_false,Bool.false_eq_true,Bool.not_true,Bool.not_false,if_true,if_false,BitVec.xor_zero]
 ·rw[BitVec.xor_assoc]
 ·rw[BitVec.xor_assoc,BitVec.xor_assoc,BitVec.xor_comm poly]
 ·rw[BitVec.xor_assoc (a>>>1) poly,<-BitVec.xor_assoc poly (b>>>1) poly,BitVec.xor_comm poly (b>>>1),BitVec.xor_assoc (b>>>1),BitVec.xor_self,BitVec.xor_zero]
def zDC:Nat->W->W
 |0,c=>c
 |n+1,c=>step (zDC n c)
theorem zJB:∀(n:Nat) (a b:W),zDC n (a^^^b)=zDC n a^^^zDC n b
 |0,a,b=>rfl
 |n+1,a,b=>by simp only[zDC,zJB n,zS8]
theorem zJC:∀(m n:Nat) (c:W),zDC (m+n) c=zDC m (zDC n c)
 |0,n,c=>by rw[Nat.zero_add];rfl
 |m+1,n,c=>by rw[show m+1+n=(m+n)+1 by omega,zDC,zJC m n,zDC]
def b1(d:Bool):W:=if d then 1#32 else 0#32
abbrev Bs:=List UInt8
def ofB(b:UInt8):W:=BitVec.ofNat 32 b.toNat
def zFL(c:W)(b:UInt8):W:=zDC 8 (c^^^ofB b)
def reg(c:W)(l:Bs):W:=l.foldl zFL c
theorem zOF (c:W)(a b:Bs):reg c (a++b)=reg (reg c a) b:=by simp[reg]
def more(s:W)(l:Bs):W:= ~~~ reg (~~~ s) l
def sum(l:Bs):W:=more 0#32 l
def tail(s:W):Bs:=[UInt8.ofNat s.toNat,UInt8.ofNat (s.toNat/256),UInt8.ofNat (s.toNat/65536),UInt8.ofNat (s.toNat/16777216)]
theorem zDB {s:W}:(tail s).length=4:=rfl
def tbl:List Nat:=[0x00000000,0x1db71064,0x3b6e20c8,0x26d930ac,0x76dc4190,0x6b6b51f4,0x4db26158,0x5005713c,0xedb88320,0xf00f9344,0xd6d6a3e8,0xcb61b38c,0x9b64c2b0,0x86d3d2d4,0xa00ae278,0xbdbdf21c]
theorem tbl_ok:∀n,n<16->zDC 4 (BitVec.ofNat 32 n)=BitVec.ofNat 32 (tbl.getD n 0):=by decide
theorem zDD {c:W}(h:c.getLsbD 0=false):step c=c>>>1:=by
 unfold step;rw[h];simp
theorem half (c:W):zDC 4 c=BitVec.ofNat 32 (tbl.getD (c.toNat%16) 0)^^^(c>>>4):=by
 have e:c=BitVec.ofNat 32 (c.toNat%16)^^^((c>>>4)<<<4):=by
  apply BitVec.eq_of_getLsbD_eq
  intro i hi
  rw[BitVec.getLsbD_xor,BitVec.getLsbD_ofNat,BitVec.getLsbD_shiftLeft,BitVec.getLsbD_ushiftRight]
  rw[show(16:Nat)=2^4 by rfl,Nat.testBit_mod_two_pow]
  by_cases h:i<4
  ·simp[h,hi];rfl
  ·simp[h,hi,show 4+(i-4)=i by omega]
 have e2:zDC 4 ((c>>>4)<<<4)=c>>>4:=by
  have g:∀k i,k<4->i<4-k->(((c>>>4)<<<4)>>>k).getLsbD i=false:=by
   intro k i hk hi
   rw[BitVec.getLsbD_ushiftRight,BitVec.getLsbD_shiftLeft]
   simp[show k+i<4 by omega]
  have s1:step ((c>>>4)<<<4)=((c>>>4)<<<4)>>>1:=zDD (by simp)
  have s2:step (((c>>>4)<<<4)>>>1)=((c>>>4)<<<4)>>>2:=by rw[zDD (g 1 0 (by omega) (by omega)),<-BitVec.shiftRight_add]
  have s3:step (((c>>>4)<<<4)>>>2)=((c>>>4)<<<4)>>>3:=by rw[zDD (g 2 0 (by omega) (by omega)),<-BitVec.shiftRight_add]
  have s4:step (((c>>>4)<<<4)>>>3)=((c>>>4)<<<4)>>>4:=by rw[zDD (g 3 0 (by omega) (by omega)),<-BitVec.shiftRight_add]
  show step (step (step (step ((c>>>4)<<<4))))=_
  rw[s1,s2,s3,s4]
  apply BitVec.eq_of_getLsbD_eq
  intro i hi
  rw[BitVec.getLsbD_ushiftRight,BitVec.getLsbD_shiftLeft,BitVec.getLsbD_ushiftRight]
  by_cases h:4+i<32
  ·simp[h,show ¬4+i<4 by omega,show 4+i-4=i by omega]
  ·have:(c>>>4).getLsbD i=false:=by rw[BitVec.getLsbD_ushiftRight];exact BitVec.getLsbD_of_ge c (4+i) (by omega)
   rw[this];simp[h]
 conv=>lhs;rw[e]
 rw[zJB,e2,tbl_ok _ (Nat.mod_lt _ (by omega))]
end Go.Crc
namespace Go.Page
open Go.Num Go.Crc
abbrev Bs:=List UInt8
set_option linter.unusedVariables false
set_option linter.unusedSimpArgs false
abbrev kV:Nat:=4611686018427387903
def body(tag:Nat)(b:Bs):Bs:=beL tag 8++(UInt8.ofNat b.length::(b++List.replicate (43-b.length) 0))
def put(tag:Nat)(b:Bs):Bs:=body tag b++tail (sum (body tag b))++beL tag 8
theorem zB8 {tag:Nat}{b:Bs}(h:b.length<=43):(body tag b).length=52:=by
 simp[body,yJ];omega
theorem zLK {tag:Nat}{b:Bs}(h:b.length<=43):(put tag b).length=64:=by
 simp[put,zB8 h,yJ,zDB]
theorem zM7 {tag:Nat}{b:Bs}:(put tag b).take 8=beL tag 8:=by
 unfold put body
 rw[List.append_assoc,List.append_assoc,List.take_append_of_le_length (by simp[yJ]),List.take_of_length_le (by simp[yJ])]
theorem zTG {tag:Nat}{b:Bs}(h:b.length<=43):(put tag b).drop 56=beL tag 8:=by
 unfold put
 rw[List.drop_append_of_le_length (by simp[zB8 h,zDB]),List.drop_of_length_le (by simp[zB8 h,zDB])];rfl
theorem zDH {tag:Nat}{b:Bs}:(put tag b)[8]?=some (UInt8.ofNat b.length):=by
 unfold put body
 rw[List.append_assoc,List.append_assoc,List.getElem?_append_right (by simp[yJ])]
 simp[yJ]
theorem zTH {tag:Nat}{b:Bs}:((put tag b).drop 9).take b.length=b:=by
 unfold put body
 rw[List.append_assoc,List.append_assoc,List.drop_append,List.drop_of_length_le (by simp[yJ])]
 simp[yJ,List.append_assoc]
def Is(s:Bs)(tag:Nat)(b:Bs):Prop:=b.length<=43/\s=put tag b
def get(s:Bs)(tag:Nat):Option Bs:=
 let n:=(s.getD 8 0).toNat
 if n<=43/\put tag ((s.drop 9).take n)=s then some ((s.drop 9).take n) else none
theorem zDV {s:Bs}{tag:Nat}{b:Bs}:get s tag=some b↔Is s tag b:=by
 unfold get
 constructor
 ·intro h
  simp only at h
  split at h
  ·rename_i hc
   cases h
   refine⟨by rw[List.length_take];omega,hc.2.symm⟩
  ·cases h
 ·rintro⟨h1,rfl⟩
  have e:((put tag b).getD 8 0).toNat=b.length:=by
   rw[List.getD_eq_getElem?_getD,zDH];simp;omega
  simp only[e]
  rw[zTH,if_pos ⟨h1,rfl⟩]
theorem zL3 {tag:Nat}{b:Bs}(h:b.length<=43):get (put tag b) tag=some b:=zDV.2 ⟨h,rfl⟩
def unrow:List Bs->Nat->Option (Bs×Nat)
 | [],_=>none
 |s::l,tag=>match get s tag with
  |some (0::x)=>some (x,1)
  |some (1::x)=>if x.length=42 then(unrow l (tag+1)).map λr=>(x++r.1,r.2+1) else none
  |_=>none
end Go.Page
namespace Go.Seg
open Go.Num hiding Bs
open Go.Ent Go.Page
set_option linter.unusedVariables false
set_option linter.unusedSimpArgs false
def zV(gs:Gs):List Ent:=gs.filterMap List.head?
theorem zC3 {g:List Ent}{e:Ent}{l:List Ent}{gs:Gs}(h:g=e::l):zV (g::gs)=e::zV gs:=by subst h;rfl
theorem vD:∀{gs:Gs},(∀g∈gs,g≠ [])->(zV gs).length=gs.length
 | [],_=>rfl
 |g::gs,h=>by
  cases hg:g with
  |nil=>exact absurd hg (h g (by simp))
  |cons e l=>rw[zC3 rfl,List.length_cons,vD λx hx=>h x (by simp[hx]),List.length_cons]
theorem zEJ:∀{gs:Gs},(∀g∈gs,g≠ [])->∀(i:Nat) (g:List Ent),gs[i]?=some g->(zV gs)[i]?=g.head?
 | [],_,i,g,h=>by simp at h
 |g0::gs,hn,i,g,h=>by
  cases hg:g0 with
  |nil=>exact absurd hg (hn g0 (by simp))
  |cons e l=>
   rw[zC3 rfl]
   cases i with
   |zero=>simp at h;subst h;rw[hg];rfl
   |succ i=>
    have h':gs[i]?=some g:=by simpa using h
    rw[List.getElem?_cons_succ]
    exact zEJ (λx hx=>hn x (by simp[hx])) i g h'
theorem zOQ {gs:Gs}{e:Ent}(h:e∈zV gs):∃g∈gs,e∈g:=by
 obtain⟨g,hg,he⟩:=List.mem_filterMap.1 h
 exact⟨g,hg,List.mem_of_mem_head? he⟩
theorem zIP {a b:Gs}:zV (a++b)=zV a++zV b:=by simp[zV]
theorem zA1 {gs:Gs}(h:zN gs.flatten):zN (zV gs):=by
 have:(zV gs).Sublist gs.flatten:=by
  clear h
  induction gs with
  |nil=>exact .slnil
  |cons g gs ih=>
   cases g with
   |nil=>exact ih
   |cons e l=>
    rw[zC3 rfl,List.flatten_cons,List.cons_append]
    exact .cons_cons _ (ih.trans (List.sublist_append_right _ _))
 exact List.Pairwise.sublist this h
def zDX(a b c:Nat):Bs:=numB a++numB b++numB c
def idx(l:List Ent):Gs:=zR (zV (zR l))
def xL(l:List Ent):List Bs:=(zR l).map encL++(idx l).map encL++[zDX l.length (zR l).length (idx l).length]
def kH:Nat->List Bs->List Bs
 |_,[]=>[]
 |t,b::l=>put t b::kH (t+1) l
theorem vC:∀(t:Nat) (l:List Bs),(kH t l).length=l.length
 |_,[]=>rfl
 |t,b::l=>by simp[kH,vC]
theorem zAI:∀(t:Nat) (l:List Bs) (i:Nat),(kH t l)[i]?=(l[i]?).map (put (t+i))
 |_,[],i=>by simp[kH]
 |t,b::l,0=>by simp[kH]
 |t,b::l,i+1=>by
  rw[kH,List.getElem?_cons_succ,List.getElem?_cons_succ,zAI (t+1) l i]
  congr 2;omega
theorem zDI:∀(t:Nat) (l m:List Bs),kH t (l++m)=kH t l++kH (t+l.length) m
 |t,[],m=>by simp[kH]
 |t,b::l,m=>by
  simp only[List.cons_append,kH,zDI (t+1) l m,List.length_cons]
  congr 3;omega
def yS(base:Nat)(l:List Ent):List Bs:=kH base (xL l)
def zAN(base:Int):Bool:=decide (1<=base/\base<=2305843009213693952)
theorem zKC {l:List Ent}(hok:∀e∈l,yH e=true):∀e∈zV (zR l),yH e=true:=λe he=>by
 obtain⟨g,hg,h⟩:=zOQ he
 exact zDN hok g hg e h
theorem zC2 {l:List Ent}(hok:∀e∈l,yH e=true):(idx l).length<=(zR l).length:=by
 have:=kI (zKC hok)
 rwa[vD λg hg=>(yR hok g hg).1] at this
theorem zEE {n:Nat}(h:n<1048576):(numB n).length<=4:=zBF h
theorem zD7 {l:List Ent}(hok:∀e∈l,yH e=true)(hl:l.length<=16384):∀b∈xL l,b.length<=43:=by
 intro b hb
 have h1:=kI hok
 have h2:=zC2 hok
 rcases List.mem_append.1 hb with hb|hb
 ·rcases List.mem_append.1 hb with hb|hb
  ·obtain⟨g,hg,rfl⟩:=List.mem_map.1 hb
   exact(yR hok g hg).2
  ·obtain⟨g,hg,rfl⟩:=List.mem_map.1 hb
   exact(yR (zKC hok) g hg).2
 ·simp at hb;subst hb
  have g1:=zEE (n:=l.length) (by omega)
  have g2:=zEE (n:=(zR l).length) (by omega)
  have g3:=zEE (n:=(idx l).length) (by omega)
  simp only[zDX,List.length_append];omega
theorem zD6 {l:List Ent}:(xL l).length=(zR l).length+(idx l).length+1:=by simp[xL];omega
theorem zAP {base:Nat}{l:List Ent}:(yS base l).length=(zR l).length+(idx l).length+1:=by rw[yS,vC,zD6]
theorem zLH {base:Nat}{l:List Ent}{i:Nat}{s:Bs}(h:(yS base l)[i]?=some s):∃b∈xL l,(xL l)[i]?=some b/\s=put (base+i) b:=by
 unfold yS at h
 rw[zAI] at h
 obtain⟨b,hb,rfl⟩:=Option.map_eq_some_iff.1 h
 exact⟨b,List.mem_of_getElem? hb,hb,rfl⟩
def kQ(S:List Bs)(base i:Nat):Option (List Ent):=(S[i]?).bind λs=>(get s (base+i)).bind jL
def rd3(b:Bs):Option (Nat×Nat×Nat):=match rdN b with
 |none=>none
 |some (x,b1)=>match rdN b1 with
  |none=>none
  |some (y,b2)=>match rdN b2 with
   |none=>none
   |some (z,b3)=>if b3=[] then some (x,y,z) else none
theorem zQM {a b c:Nat}(ha:a<1000000)(hb:b<1000000)(hc:c<1000000):rd3 (zDX a b c)=some (a,b,c):=by
 unfold rd3 zDX
 rw[List.append_assoc,zAT (by omega)]
 simp only
 rw[zAT (by omega)]
 simp only
 have:numB c=numB c++[]:=by simp
 rw[this,zAT (by omega)]
 simp
def zGQ(S:List Bs)(base:Nat):Option (Nat×Nat×Nat):=
 if S=[] then none else(((S[S.length-1]?).bind λs=>get s (base+(S.length-1))).bind rd3).bind λr=>
  if r.2.1+r.2.2+1=S.length then some r else none
def yN(S:List Bs)(base:Nat):Nat->Nat->Option Gs
 |_,0=>some []
 |i,n+1=>(kQ S base i).bind λl=>(yN S base (i+1) n).map (l:: ·)
theorem zCH {S:List Bs}{base:Nat}:∀{n i:Nat} {gs:Gs} {l:List Ent},yN S base i n=some gs->kQ S base (i+n)=some l->yN S base i (n+1)=some (gs++[l])
 |0,i,gs,l,h,hl=>by
  simp only[yN,Option.some.injEq] at h
  subst h
  unfold yN
  rw[Nat.add_zero] at hl
  rw[hl];rfl
 |n+1,i,gs,l,h,hl=>by
  unfold yN at h ⊢
  obtain⟨l0,h0,h1⟩:=Option.bind_eq_some_iff.1 h
  obtain⟨gs',h2,rfl⟩:=Option.map_eq_some_iff.1 h1
  rw[h0,Option.bind_some,zCH h2 (by rw[show i+1+n=i+(n+1) by omega];exact hl)]
  rfl
theorem zCI {S:List Bs}{base:Nat}:∀{n m i:Nat},n<m->kQ S base (i+n)=none->yN S base i m=none
 |0,m+1,i,_,h=>by
  unfold yN;rw[Nat.add_zero] at h;rw[h];rfl
 |n+1,m+1,i,hm,h=>by
  unfold yN
  rw[zCI (n:=n) (m:=m) (i:=i+1) (by omega) (by rw[show i+1+n=i+(n+1) by omega];exact h)]
  cases kQ S base i<;>rfl
def zJ5(S:List Bs)(base:Nat):Option (Nat×List Ent):=(zGQ S base).bind λr=>(yN S base r.2.1 r.2.2).bind λgs=>
 if gs.flatten.length=r.2.1/\zN gs.flatten/\zR gs.flatten=gs then some (r.1,gs.flatten) else none
def zDL(S:List Bs)(base:Nat)(heads:List Ent)(i:Nat):Option (List Ent):=(kQ S base i).bind λl=>if l≠ []/\zN l/\l.head?=heads[i]? then some l else none
def jG(S:List Bs)(base:Nat)(heads:List Ent):Nat->Option (List Ent)
 |0=>some []
 |n+1=>(jG S base heads n).bind λl=>(zDL S base heads n).map (l++ ·)
def allS(S:List Bs)(base count:Nat)(heads:List Ent):Option (List Ent):=(jG S base heads heads.length).bind λl=>if l.length=count/\zN l then some l else none
def jI(heads:List Ent)(e:Ent):Nat:=(heads.filter λh=>decide (ltE h e)).length-1
section
variable{base:Nat}{l:List Ent}
theorem zF0 (hok:∀e∈l,yH e=true){i:Nat}{g:List Ent}(h:(zR l)[i]?=some g):kQ (yS base l) base i=some g:=by
 have hi:=(List.getElem?_eq_some_iff.1 h).1
 have hb:(xL l)[i]?=some (encL g):=by
  unfold xL
  rw[List.append_assoc,List.getElem?_append_left (by simpa using hi),List.getElem?_map,h];rfl
 have hg:=List.mem_of_getElem? h
 unfold kQ yS
 rw[zAI,hb]
 simp only[Option.map_some,Option.bind_some]
 rw[zL3 (yR hok g hg).2]
 exact zAD (zDN hok g hg)
theorem zOI (hok:∀e∈l,yH e=true){i:Nat}{g:List Ent}(h:(idx l)[i]?=some g):kQ (yS base l) base ((zR l).length+i)=some g:=by
 have hi:=(List.getElem?_eq_some_iff.1 h).1
 have hb:(xL l)[(zR l).length+i]?=some (encL g):=by
  unfold xL
  rw[List.append_assoc,List.getElem?_append_right (by simp),List.length_map,Nat.add_sub_cancel_left,List.getElem?_append_left (by simpa using hi),List.getElem?_map,h];rfl
 have hg:=List.mem_of_getElem? h
 unfold kQ yS
 rw[zAI,hb]
 simp only[Option.map_some,Option.bind_some]
 rw[zL3 (yR (zKC hok) g hg).2]
 exact zAD (zDN (zKC hok) g hg)
theorem zDM {S:List Bs}{base:Nat}:∀{gs:Gs} {i:Nat},(∀k g,gs[k]?=some g->kQ S base (i+k)=some g)->yN S base i gs.length=some gs
 | [],i,h=>rfl
 |g::gs,i,h=>by
  show yN S base i (gs.length+1)=_
  unfold yN
  rw[show kQ S base i=some g from h 0 g rfl,Option.bind_some,zDM (gs:=gs) λk g' hk=>by
   have:=h (k+1) g' (by simpa using hk)
   rwa[show i+1+k=i+(k+1) by omega]]
  rfl
theorem zIL (hok:∀e∈l,yH e=true)(hl:l.length<=16384):zGQ (yS base l) base=some (l.length,(zR l).length,(idx l).length):=by
 have hlen:=zAP (base:=base) (l:=l)
 have h1:=kI hok
 have h2:=zC2 hok
 unfold zGQ
 rw[if_neg (by intro h;rw[h] at hlen;simp at hlen),hlen]
 have hb:(xL l)[(zR l).length+(idx l).length]?=some (zDX l.length (zR l).length (idx l).length):=by
  unfold xL
  rw[List.getElem?_append_right (by simp)];simp
 have hs:(yS base l)[(zR l).length+(idx l).length+1-1]?=some (put (base+((zR l).length+(idx l).length)) (zDX l.length (zR l).length (idx l).length)):=by
  unfold yS
  rw[zAI,Nat.add_sub_cancel,hb];rfl
 rw[hs,Option.bind_some,Nat.add_sub_cancel,zL3 (zD7 hok hl _ (by simp[xL])),Option.bind_some,zQM (by omega) (by omega) (by omega),Option.bind_some]
 simp
theorem zIH (hok:∀e∈l,yH e=true)(hl:l.length<=16384)(hs:zN l):zJ5 (yS base l) base=some (l.length,zV (zR l)):=by
 unfold zJ5
 rw[zIL hok hl,Option.bind_some]
 have:=zDM (S:=yS base l) (base:=base) (gs:=idx l) (i:=(zR l).length) λk g hk=>zOI hok hk
 simp only
 rw[this,Option.bind_some]
 have hf:(idx l).flatten=zV (zR l):=yX _
 rw[hf,if_pos ⟨vD λg hg=>(yR hok g hg).1,zA1 (by rw[yX];exact hs),rfl⟩]
theorem zTK {S:List Bs}{i:Nat}{g:List Ent}(hok:∀e∈l,yH e=true)(hs:zN l)(h:(zR l)[i]?=some g)(hp:kQ S base i=some g):zDL S base (zV (zR l)) i=some g:=by
 have hg:=List.mem_of_getElem? h
 unfold zDL
 rw[hp,Option.bind_some,if_pos]
 refine⟨(yR hok g hg).1,?_,(zEJ (λg hg=>(yR hok g hg).1) i g h).symm⟩
 have:zN (zR l).flatten:=by rw[yX];exact hs
 obtain⟨a,b,hab⟩:=List.append_of_mem hg
 rw[hab,List.flatten_append,List.flatten_cons] at this
 exact(List.pairwise_append.1 (List.pairwise_append.1 this).2.1).1
theorem zDK (hok:∀e∈l,yH e=true)(hs:zN l){i:Nat}{g:List Ent}(h:(zR l)[i]?=some g):zDL (yS base l) base (zV (zR l)) i=some g:=zTK hok hs h (zF0 hok h)
theorem zBE (hok:∀e∈l,yH e=true)(hs:zN l):∀n,n<=(zR l).length->jG (yS base l) base (zV (zR l)) n=some ((zR l).take n).flatten
 |0,_=>rfl
 |n+1,h=>by
  unfold jG
  have hg:(zR l)[n]?=some ((zR l)[n]'(by omega)):=List.getElem?_eq_getElem _
  rw[zBE hok hs n (by omega),Option.bind_some,zDK hok hs hg,List.take_add_one,hg,List.flatten_append]
  simp
theorem zKZ (hok:∀e∈l,yH e=true)(hs:zN l):allS (yS base l) base l.length (zV (zR l))=some l:=by
 unfold allS
 rw[vD λg hg=>(yR hok g hg).1,zBE hok hs _ (Nat.le_refl _),List.take_length,yX,Option.bind_some,if_pos ⟨rfl,hs⟩]
end
end Go.Seg
namespace Go.Sto
open Go.Ent
set_option linter.unusedSimpArgs false
set_option linter.unusedVariables false
abbrev Mom:=Int×Int
abbrev momE(e:Ent):Mom:=(e.1,e.2.1)
def covB(f:List Mom)(m:Mom):Bool:=f.any λx=>decide (x.1<=m.1)&&decide (x.2<=m.2)
def joinM(a b:Mom):Mom:=(max a.1 b.1,max a.2 b.2)
def jS(l:List Ent):Mom:=l.foldl (λm e=>joinM m (momE e)) (0,0)
structure Part where
 nm:List UInt8
 base:Nat
 l:List Ent
 fs:List (List Mom)
def Part.live(p:Part):List Ent:=p.l.filter λe=>p.fs.all λf=>covB f (momE e)
structure SS where
 nm:List UInt8
 lim:Nat
 k:Nat
 run:List Ent
 ps:List Part
def decB:Nat->Nat->List UInt8
 |0,_=>[]
 |n+1,k=>if k<10 then [UInt8.ofNat (48+k)] else decB n (k/10)++[UInt8.ofNat (48+k%10)]
def jR(s:List UInt8)(k:Nat):List UInt8:=s++[46]++decB 20 k
def vV(k:Nat):Nat:=1+k*1048576
def SS.live(S:SS):List Ent:=S.ps.flatMap Part.live
def SS.lies(S:SS):List Ent:=S.ps.flatMap Part.l
def SS.size(S:SS):Nat:=S.run.length+S.lies.length
def SS.next(S:SS)(l:List Ent):Part:=⟨jR S.nm S.k,vV S.k,l,[]⟩
def SS.spill(S:SS):Int×SS:=if S.run=[] then(0,S) else if 32<=S.ps.length then(31,S) else(0,{S with run:=[],ps:=S.ps++[S.next (yA S.run)],k:=S.k+1})
def SS.push(S:SS)(e:Ent):SS:={S with run:=S.run++[e]}
def SS.add(S:SS)(c:Int)(e:Ent):Int×SS:=if c≠0 then(c,S) else if S.lim<=S.run.length then(if S.spill.1=0 then(0,S.spill.2.push e) else S.spill) else(0,S.push e)
def SS.compact(S:SS):Int×SS:=if S.ps.length<2 then(0,S) else if S.live=[] then(0,{S with ps:=[]}) else(0,{S with ps:=[S.next (yA S.live)],k:=S.k+1})
def SS.keep(S:SS)(f:List Mom):SS:={S with run:=S.run.filter λe=>covB f (momE e),ps:=(S.ps.filter λp=>covB f (jS p.l)).map λp=>{p with fs:=p.fs++[f]}}
def SS.all(S:SS):List Ent:=yA (S.run++S.lies)
variable{S:SS}{H:List Ent}
end Go.Sto
namespace Go.Seg
open Go.Num hiding Bs
open Go.Ent Go.Page
set_option linter.unusedVariables false
set_option linter.unusedSimpArgs false
section
variable{base:Nat}{l:List Ent}{i:Nat}{s':Bs}
theorem zEV {S:List Bs}{heads:List Ent}{k:Nat}(hp:zDL S base heads k=none):∀n,k<n->jG S base heads n=none
 |0,h=>by omega
 |n+1,h=>by
  unfold jG
  by_cases hk:k=n
  ·subst hk
   rw[hp]
   cases jG S base heads k<;>rfl
  ·rw[zEV hp n (by omega)];rfl
end
end Go.Seg
namespace Go.Seg
open Go.Ent
set_option linter.unusedVariables false
set_option linter.unusedSimpArgs false
theorem zAK {a b c:Ent}(h1:leE a b)(h2:ltE b c):ltE a c:=by
 by_cases h:ltE a c
 ·exact h
 ·exact absurd (jO h h1) (λhn=>hn h2)
theorem zNN {l:List Ent}{e:Ent}{k:Nat}(hk:k<=l.length)(h1:∀i x,i<k->l[i]?=some x->ltE x e)(h2:∀i x,k<=i->l[i]?=some x->¬ltE x e):(l.filter λh=>decide (ltE h e)).length=k:=by
 have e1:l.filter (λh=>decide (ltE h e))=(l.take k).filter (λh=>decide (ltE h e))++(l.drop k).filter (λh=>decide (ltE h e)):=by
  rw[<-List.filter_append,List.take_append_drop]
 have e2:(l.take k).filter (λh=>decide (ltE h e))=l.take k:=List.filter_eq_self.2 λx hx=>by
  obtain⟨i,hi⟩:=List.getElem?_of_mem hx
  rw[List.getElem?_take] at hi
  split at hi
  ·rename_i hik
   exact decide_eq_true (h1 i x hik hi)
  ·cases hi
 have e3:(l.drop k).filter (λh=>decide (ltE h e))=[]:=List.filter_eq_nil_iff.2 λx hx=>by
  obtain⟨i,hi⟩:=List.getElem?_of_mem hx
  rw[List.getElem?_drop] at hi
  have:=h2 (k+i) x (by omega) hi
  simpa using this
 rw[e1,e2,e3,List.append_nil,List.length_take]
 omega
theorem zAG {l:List Ent}(hs:zN l):∀{i j:Nat} {a b:Ent},i<=j->l[i]?=some a->l[j]?=some b->leE a b:=by
 intro i j a b hij ha hb
 rcases Nat.lt_or_ge i j with h|h
 ·obtain⟨hi,rfl⟩:=List.getElem?_eq_some_iff.1 ha
  obtain⟨hj,rfl⟩:=List.getElem?_eq_some_iff.1 hb
  exact List.pairwise_iff_getElem.1 hs i j hi hj h
 ·have:i=j:=by omega
  subst this
  rw[ha] at hb;cases hb
  exact zDR a
theorem zR1 {l:List Ent}{e:Ent}{k:Nat}(hk:k<=l.length)(h1:∀i x,i<k->l[i]?=some x->ltE x e)(h2:∀i x,k<=i->l[i]?=some x->¬ltE x e):jI l e=k-1:=by
 unfold jI;rw[zNN hk h1 h2]
end Go.Seg
namespace Go.Seg
open Go.Num hiding Bs snoc_ind
open Go.Ent Go.Page
set_option linter.unusedVariables false
set_option linter.unusedSimpArgs false
theorem zKR:∀{l:List Ent},4*l.length<=(encL l).length
 | []=>by simp[encL]
 |a::l=>by
  have:=vA (e:=a)
  have:=zKR (l:=l)
  simp only[encL,List.flatMap_cons,List.length_append,List.length_cons] at*
  omega
theorem zCU {S:List Bs}{base i:Nat}{l:List Ent}(h:kQ S base i=some l):l.length<=10/\(∀e∈l,yH e=true)/\i<S.length:=by
 unfold kQ at h
 obtain⟨s,hs,h⟩:=Option.bind_eq_some_iff.1 h
 obtain⟨b,hb,h⟩:=Option.bind_eq_some_iff.1 h
 obtain⟨h1,h2⟩:=vB.1 h
 have h3:=(zDV.1 hb).1
 have h4:=zKR (l:=l)
 rw[h1] at h3
 exact⟨by omega,h2,(List.getElem?_eq_some_iff.1 hs).1⟩
theorem zG4 {S:List Bs}{base i:Nat}{heads l:List Ent}(h:zDL S base heads i=some l):kQ S base i=some l/\l≠ []/\zN l/\l.head?=heads[i]?:=by
 unfold zDL at h
 obtain⟨g,hg,h⟩:=Option.bind_eq_some_iff.1 h
 split at h
 ·rename_i hc;cases h;exact⟨hg,hc⟩
 ·cases h
theorem zEU {S:List Bs}{base:Nat}{heads:List Ent}:∀{n:Nat} {l:List Ent},jG S base heads n=some l->l.length<=10*n/\∀e∈l,yH e=true
 |0,l,h=>by cases h;simp
 |n+1,l,h=>by
  unfold jG at h
  obtain⟨l1,h1,h⟩:=Option.bind_eq_some_iff.1 h
  obtain⟨l2,h2,rfl⟩:=Option.map_eq_some_iff.1 h
  obtain⟨a1,a2⟩:=zEU h1
  obtain⟨b1,b2,_⟩:=zCU (zG4 h2).1
  refine⟨by simp only[List.length_append];omega,λe he=> ?_⟩
  rcases List.mem_append.1 he with he|he
  ·exact a2 e he
  ·exact b2 e he
theorem zJX {S:List Bs}{base:Nat}{heads l g:List Ent}{n:Nat}(h1:jG S base heads n=some l)(h2:zDL S base heads n=some g):jG S base heads (n+1)=some (l++g):=by
 unfold jG;rw[h1,Option.bind_some,h2];rfl
end Go.Seg
namespace Go.Cur
open Go.Ent Go.Seg
set_option linter.unusedVariables false
set_option linter.unusedSimpArgs false
def kS(l:List Ent)(e:Ent):List Ent:=l.dropWhile λx=>decide (ltE x e)
theorem zEK {a b:List Ent}{e:Ent}(h:∀x∈a,ltE x e):kS (a++b) e=kS b e:=by
 unfold kS
 induction a with
 |nil=>rfl
 |cons x a ih=>
  rw[List.cons_append,List.dropWhile_cons_of_pos (by simp[h x (by simp)])]
  exact ih λy hy=>h y (by simp[hy])
theorem zHC {a b:List Ent}{x e:Ent}(h:∀y∈a,ltE y e)(hx:¬ltE x e):kS (a++x::b) e=x::b:=by
 rw[zEK h]
 unfold kS
 rw[List.dropWhile_cons_of_neg (by simp[hx])]
def rest(gs:List (List Ent))(i at':Nat):List Ent:=(gs[i]?.getD []).drop at'++(gs.drop (i+1)).flatten
section
variable{gs:List (List Ent)}{g:List Ent}{i at':Nat}{e:Ent}
theorem zNI (hg:gs[i]?=some g):gs.flatten=(gs.take i).flatten++(g++(gs.drop (i+1)).flatten):=by
 obtain⟨hi,rfl⟩:=List.getElem?_eq_some_iff.1 hg
 have:gs=gs.take i++gs[i]::gs.drop (i+1):=by rw[<-List.drop_eq_getElem_cons hi,List.take_append_drop]
 conv=>lhs;rw[this]
 rw[List.flatten_append,List.flatten_cons]
theorem zMI (hs:zN gs.flatten)(hne:∀g∈gs,g≠ []):∀x∈(gs.take (jI (zV gs) e)).flatten,ltE x e:=by
 intro x hx
 obtain⟨g0,hg0,hxg⟩:=List.mem_flatten.1 hx
 obtain⟨j,hj⟩:=List.getElem?_of_mem hg0
 rw[List.getElem?_take] at hj
 split at hj
 ·rename_i hjf
  have hsh:zN (zV gs):=zA1 hs
  have hlen:=vD hne
  let k:=jI (zV gs) e
  have hk:k=((zV gs).filter λh=>decide (ltE h e)).length-1:=rfl
  have hfl:((zV gs).filter λh=>decide (ltE h e)).length<=(zV gs).length:=List.length_filter_le _ _
  have hk1:k<(zV gs).length:=by omega
  have hhk:(zV gs)[k]?=some (zV gs)[k]:=List.getElem?_eq_getElem hk1
  generalize(zV gs)[k]=hd at hhk
  have hlt:ltE hd e:=by
   apply Classical.byContradiction
   intro hn
   have hc:=zNN (l:=(zV gs).take k) (e:=e) (k:=((zV gs).take k).length) (Nat.le_refl _)
   have:((zV gs).filter λh=>decide (ltE h e)).length<=k:=by
    have e1:zV gs=(zV gs).take k++(zV gs).drop k:=(List.take_append_drop _ _).symm
    have e2:((zV gs).drop k).filter (λh=>decide (ltE h e))=[]:=List.filter_eq_nil_iff.2 λy hy=>by
     obtain⟨m,hm⟩:=List.getElem?_of_mem hy
     rw[List.getElem?_drop] at hm
     have:=zAG hsh (by omega:k<=k+m) hhk hm
     simpa using λhlt=>hn (zAK this hlt)
    rw[e1,List.filter_append,e2,List.append_nil]
    refine Nat.le_trans (List.length_filter_le _ _) ?_
    rw[List.length_take];omega
   omega
  have hgk:∃gk,gs[k]?=some gk/\gk.head?=some hd:=by
   have hkl:k<gs.length:=by omega
   refine⟨gs[k],List.getElem?_eq_getElem hkl,?_⟩
   rw[<-zEJ hne k gs[k] (List.getElem?_eq_getElem hkl),hhk]
  obtain⟨gk,hgk,hhd⟩:=hgk
  have hle:leE x hd:=by
   have hsp:=zNI hgk
   have hxm:x∈(gs.take k).flatten:=hx
   have hdm:hd∈gk++(gs.drop (k+1)).flatten:=List.mem_append_left _ (List.mem_of_mem_head? (by rw[hhd];rfl))
   unfold zN at hs
   rw[hsp,List.pairwise_append] at hs
   exact hs.2.2 x hxm hd hdm
  exact zAK hle hlt
 ·cases hj
end
end Go.Cur
namespace Go.Sto
open Go.Ent Go.Cur
set_option linter.unusedSimpArgs false
set_option linter.unusedVariables false
variable{S:SS}{H:List Ent}
def atM(m:Mom)(e:Ent):Bool:=decide (e.1=m.1)&&decide (e.2.1=m.2)
theorem zEP {l:List Ent}(f:Ent->Bool):yA (l.filter f)=(yA l).filter f:=
 jW ((yD l).filter _) ((zS l).filter f)
theorem zMT {m:Mom}:∀{l:List Ent},zN l->(∀e∈l,¬ltE e (m.1,m.2,0,0))->l.takeWhile (atM m)=l.filter (atM m)
 | [],_,_=>rfl
 |x::l,hs,h=>by
  have hs':=List.pairwise_cons.1 hs
  rw[List.takeWhile_cons,List.filter_cons]
  by_cases hx:atM m x=true
  ·rw[if_pos hx,if_pos hx,zMT hs'.2 λe he=>h e (List.mem_cons_of_mem _ he)]
  ·rw[if_neg hx,if_neg hx]
   symm
   rw[List.filter_eq_nil_iff]
   intro y hy hya
   have h1:=hs'.1 y hy
   have h2:=h x List.mem_cons_self
   unfold atM at hx hya
   simp only[Bool.and_eq_true,decide_eq_true_eq] at hx hya
   unfold leE ltE at h1
   unfold ltE at h2
   simp only at h2
   omega
theorem zKI {l:List Ent}{m:Mom}(hs:zN l)(h0:∀e∈l,0<=e.2.2.1/\0<=e.2.2.2):(kS l (m.1,m.2,0,0)).filter (atM m)=l.filter (atM m)/\∀e∈kS l (m.1,m.2,0,0),¬ltE e (m.1,m.2,0,0):=by
 induction l with
 |nil=>exact⟨rfl,λe h=>by cases h⟩
 |cons x l ih=>
  have hs':=List.pairwise_cons.1 hs
  unfold kS
  rw[List.dropWhile_cons]
  by_cases hx:ltE x (m.1,m.2,0,0)
  ·rw[if_pos (by simpa using hx)]
   obtain⟨a,b⟩:=ih hs'.2 λe he=>h0 e (List.mem_cons_of_mem _ he)
   refine⟨?_,b⟩
   have hn:¬atM m x=true:=by
    have:=h0 x List.mem_cons_self
    unfold atM
    unfold ltE at hx
    simp only[Bool.and_eq_true,decide_eq_true_eq] at*
    omega
   rw[List.filter_cons,if_neg hn]
   exact a
  ·rw[if_neg (by simpa using hx)]
   refine⟨rfl,λe he=> ?_⟩
   rcases List.mem_cons.1 he with rfl|he
   ·exact hx
   ·exact λhc=>hx (leE_lt_of (hs'.1 e he) hc)
where
 leE_lt_of {a b c:Ent} (h1:leE a b) (h2:ltE b c):ltE a c:=by
  unfold leE ltE at*;omega
end Go.Sto

namespace Go.Sto
open Go.Ent
set_option linter.unusedSimpArgs false
set_option linter.unusedVariables false
variable{A B:SS}{i lim:Nat}{y:Ent}{c:Int}
structure Sp(lim i:Nat)(A B:SS):Prop where
 perm:(A.run++A.lies).Perm B.run
 bps:B.ps=[]
 blim:B.lim=4096/\B.k=9/\B.nm=[116]
 alim:A.lim=lim/\A.nm=[115]
 fs:∀p∈A.ps,p.fs=[]/\p.l≠ []
 k:A.k+A.ps.length<=2*A.lies.length
 few:B.run.length<=i
 run:A.run.length<=lim
theorem Sp.size (h:Sp lim i A B):A.size<=i/\B.size<=i/\A.k<=2*i:=by
 have h1:=h.perm.length_eq
 have h2:=h.few
 have h3:=h.k
 rw[List.length_append] at h1
 unfold SS.size
 have h4:B.lies=[]:=by unfold SS.lies;rw[h.bps];rfl
 rw[h4]
 simp only[List.length_nil]
 omega
theorem Sp.mono (h:Sp lim i A B):Sp lim (i+1) A B:=⟨h.perm,h.bps,h.blim,h.alim,h.fs,h.k,by have:=h.few;omega,h.run⟩
theorem zND:∀{ps:List Part},(∀p∈ps,p.fs=[]/\p.l≠ [])->ps.flatMap Part.live=ps.flatMap Part.l
 | [],_=>rfl
 |p::ps,h=>by
  rw[List.flatMap_cons,List.flatMap_cons,zND λp hp=>h p (List.mem_cons_of_mem _ hp)]
  congr 1
  unfold Part.live
  rw[(h p List.mem_cons_self).1]
  exact List.filter_eq_self.2 λ_ _=>rfl
theorem zJ6:∀{ps:List Part},(∀p∈ps,p.fs=[]/\p.l≠ [])->ps.length<=(ps.flatMap Part.l).length
 | [],_=>Nat.le_refl _
 |p::ps,h=>by
  have h1:=zJ6 (ps:=ps) λp hp=>h p (List.mem_cons_of_mem _ hp)
  have h2:p.l.length≠0:=λhc=>(h p List.mem_cons_self).2 (List.eq_nil_of_length_eq_zero hc)
  rw[List.flatMap_cons,List.length_append,List.length_cons]
  omega
theorem Sp.compact (h:Sp lim i A B):A.compact.1=0/\Sp lim i A.compact.2 B:=by
 unfold SS.compact
 split
 ·exact⟨rfl,h⟩
 rename_i h2
 have hl:A.live=A.lies:=zND h.fs
 have hm:A.ps.length<=A.lies.length:=zJ6 h.fs
 split
 ·rename_i h3
  rw[hl] at h3
  rw[h3] at hm
  simp only[List.length_nil] at hm
  omega
 ·rename_i h3
  have hp:=zS A.live
  have hlies:({A with ps:=[A.next (yA A.live)],k:=A.k+1}:SS).lies=yA A.live:=by simp[SS.lies,SS.next]
  refine⟨rfl,?_,h.bps,h.blim,h.alim,λp hp=> ?_,?_,h.few,h.run⟩
  ·rw[hlies]
   refine .trans (List.Perm.append_left _ hp) ?_
   rw[hl]
   exact h.perm
  ·rw[List.mem_singleton] at hp
   rw[hp]
   exact⟨rfl,λhc=>h3 (by have:=zS A.live;have hc:yA A.live=[]:=hc;rw[hc] at this;exact this.symm.eq_nil)⟩
  ·rw[hlies,hp.length_eq,hl]
   have:=h.k
   simp only[List.length_cons,List.length_nil]
   omega
theorem Sp.spill (h:Sp lim i A B):Sp lim i A.spill.2 B/\(A.spill.1=0∨A.spill.1=31/\A.spill.2=A/\32<=A.ps.length):=by
 unfold SS.spill
 split
 ·exact⟨h,.inl rfl⟩
 rename_i h1
 split
 ·rename_i h2;exact⟨h,.inr ⟨rfl,rfl,h2⟩⟩
 refine⟨?_,.inl rfl⟩
 have hp:=zS A.run
 have hlies:({A with run:=[],ps:=A.ps++[A.next (yA A.run)],k:=A.k+1}:SS).lies=A.lies++yA A.run:=by simp[SS.lies,SS.next]
 have hn:A.run.length≠0:=λhc=>h1 (List.eq_nil_of_length_eq_zero hc)
 refine⟨?_,h.bps,h.blim,h.alim,λp hp=> ?_,?_,h.few,Nat.zero_le _⟩
 ·rw[hlies,List.nil_append]
  refine .trans ?_ h.perm
  exact(List.perm_append_comm).trans (List.Perm.append_right _ hp)
 ·rcases List.mem_append.1 hp with hp|hp
  ·exact h.fs p hp
  ·rw[List.mem_singleton] at hp
   rw[hp]
   exact⟨rfl,λhc=>h1 (by have:=zS A.run;have hc:yA A.run=[]:=hc;rw[hc] at this;exact this.symm.eq_nil)⟩
 ·rw[hlies,List.length_append,List.length_append,hp.length_eq]
  have:=h.k
  simp only[List.length_cons,List.length_nil]
  omega
theorem Sp.push (h:Sp lim i A B)(hr:A.run.length<lim):Sp lim (i+1) (A.push y) (B.push y):=by
 refine⟨?_,h.bps,h.blim,h.alim,h.fs,h.k,?_,?_⟩
 ·show((A.run++[y])++A.lies).Perm (B.run++[y])
  rw[List.append_assoc]
  refine(List.Perm.append_left _ List.perm_append_comm).trans ?_
  rw[<-List.append_assoc]
  exact List.Perm.append_right _ h.perm
 ·show(B.run++[y]).length<=_
  have:=h.few
  rw[List.length_append];simp only[List.length_cons,List.length_nil];omega
 ·show(A.run++[y]).length<=_
  rw[List.length_append];simp only[List.length_cons,List.length_nil];omega
theorem Sp.add (h:Sp lim i A B)(hi:i<60)(hl:1<=lim)(hc:c≠31):((A.add c y).1=31/\(A.add c y).2=A/\A.run.length=lim)∨((A.add c y).1≠31/\(B.add c y).1=(A.add c y).1/\Sp lim (i+1) (A.add c y).2 (B.add c y).2):=by
 have hB:c=0->B.add c y=(0,B.push y):=λh0=>by
  unfold SS.add
  rw[if_neg (by simp[h0]),if_neg (by have:=h.few;have:=h.blim.1;omega)]
 have h1:c≠0->A.add c y=(c,A)/\B.add c y=(c,B):=λh0=>by
  unfold SS.add
  exact⟨if_pos h0,if_pos h0⟩
 by_cases h0:c=0
 ·rw[hB h0]
  unfold SS.add
  rw[if_neg (by simp[h0])]
  split
  ·rename_i h2
   obtain⟨s1,s2⟩:=h.spill
   split
   ·rename_i h3
    refine .inr ⟨by simp,rfl,s1.push ?_⟩
    unfold SS.spill at h3 ⊢
    split
    ·rename_i h4;simp only;rw[h4];exact hl
    split
    ·rename_i h4 h5;rw[if_neg h4,if_pos h5] at h3;simp at h3
    ·exact hl
   ·rename_i h3
    rcases s2 with s2|⟨s2,s3,_⟩
    ·exact absurd s2 h3
    ·have:=h.run
     have:=h.alim.1
     exact .inl ⟨s2,s3,by omega⟩
  ·rename_i h2
   have:=h.alim.1
   exact .inr ⟨by simp,rfl,h.push (by omega)⟩
 ·obtain⟨a,b⟩:=h1 h0
  rw[a,b]
  exact .inr ⟨hc,rfl,h.mono⟩
theorem Sp.told (h:Sp lim i A B):A.all=B.all:=by
 have hb:B.lies=[]:=by unfold SS.lies;rw[h.bps];rfl
 unfold SS.all
 rw[hb,List.append_nil]
 exact zAO (yD _) (yD _) ((zS _).trans (h.perm.trans (zS _).symm))
end Go.Sto
