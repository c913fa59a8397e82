import Derived.Test.YtnglhicedhcpbaaGreatDoorLG4
import Derived.Test.YtnglhicedhcpbaaGreatDoorLG9
import Derived.Test.YtnglhicedhcpbaaGreatDoorLG15
import Derived.Test.YtnglhicedhcpbaaGreatDoorLG18
import Derived.Deep.Slices
import Derived.Deep.Strs
namespace Go.Ab
open Go.ChangeShapes Go.WideShapes Go.ChangeAt Go.RowKit
set_option linter.unusedSimpArgs false
set_option linter.unusedVariables false
def xB (hp : Heap) : Prop := ∀ (b : Nat) (B : Blk), hp[b]? = some B -> B.rw = false
theorem xB.add {hp : Heap} (h : xB hp) {B : Blk} (hB : B.rw = false) : xB (hp ++ [B]) := by
 intro b B' hb
 rw [List.getElem?_append] at hb
 split at hb
 ·exact h b B' hb
 ·have : b - hp.length = 0 := by have := zD hb; simp at this; omega
  rw [this] at hb; simp at hb; subst hb; exact hB
theorem HRel.addRO {μ : Ren} {hp : Heap} {W : World} (H : HRel μ hp W) (ro : xB hp) {e : ME} {B : Blk} (hB : B.rw = false) (he : e.r < W.heap.size) (hb : vO (μ ++ [e]) W e B) : HRel (μ ++ [e]) (hp ++ [B]) W := by
 have ro' := ro.add hB
 have split2 : ∀ {b : Nat} {B' : Blk}, (hp ++ [B])[b]? = some B' -> (b < hp.length /\ hp[b]? = some B') ∨ (b = hp.length /\ B' = B) := by
  intro b B' hb
  rw [List.getElem?_append] at hb
  split at hb
  ·exact .inl ⟨by assumption, hb⟩
  ·have : b - hp.length = 0 := by have := zD hb; simp at this; omega
   rw [this] at hb; simp at hb
   exact .inr ⟨by omega, hb.symm⟩
 have splitm : ∀ {b : Nat} {e' : ME}, (μ ++ [e])[b]? = some e' -> (b < μ.length /\ μ[b]? = some e') ∨ (b = μ.length /\ e' = e) := by
  intro b e' hb
  rw [List.getElem?_append] at hb
  split at hb
  ·exact .inl ⟨by assumption, hb⟩
  ·have : b - μ.length = 0 := by have := zD hb; simp at this; omega
   rw [this] at hb; simp at hb
   exact .inr ⟨by omega, hb.symm⟩
 have hlen := H.len
 refine ⟨by simp [hlen], ?_, ?_, ?_⟩
 ·intro b B' e' h1 h2
  rcases split2 h1 with ⟨g1, g2⟩ | ⟨g1, rfl⟩ <;> rcases splitm h2 with ⟨g3, g4⟩ | ⟨g3, rfl⟩
  ·exact (H.blk b B' e' g2 g4).mono (Ren.le_append _ _)
  ·omega
  ·omega
  ·exact hb
 ·intro b1 b2 B1 B2 e1 e2 hne h1 h2 hrw
  rw [ro' b1 B1 h1] at hrw; cases hrw
 ·intro b e' h2
  rcases splitm h2 with ⟨g3, g4⟩ | ⟨g3, rfl⟩
  ·exact H.bnd b e' g4
  ·exact he
section
variable {H : Type} {enc : TypeId × Value -> H} {P : Program} {W : World} {α : Type}
theorem zHC [Inhabited α] (E : Enc α) {t e : TypeId} {v : Value} {fuel : Nat} {x : DataW H × List MemPlace} (ht : P.underlying t = some (.slice e)) (hC : P.cellsOf e = E.sz)
  (hel : ∀ (n : Nat) (cs' : List Value) (y : DataW H × List MemPlace), DataW.trod enc P W 0 (fun _ => true) true n e cs' = some y -> cs'.length = E.sz -> ∃ a, ∀ μ, relL μ (E.f a) cs')
  (hf : DataW.trod enc P W 0 (fun _ => true) true fuel t [v] = some x) {μ : Ren} {hp : Heap} (HH : HRel μ hp W) (ro : xB hp) {b0 : Nat} {c0 : List AV} {rw0 : Bool} (hb0 : hp[b0]? = some (.cells c0 rw0)) :
  ∃ (l1 : Ren) (bs : Heap) (q : OSl) (l : List α), HRel (μ ++ l1) (hp ++ bs) W /\ xB (hp ++ bs) /\ AV.rel (μ ++ l1) (.sl q) v /\ HasL E (hp ++ bs) q l := by
 have hμ := HH.len
 rcases Deep.open_slice ht hf with ⟨hcs, _⟩ | ⟨a, len, cap, m, n, D, Pl, hcs, _, hlc, hm, hmm, _, hx⟩
 ·simp at hcs
  subst hcs
  exact ⟨[], [], none, [], by simpa using HH, by simpa using ro, rfl, rfl⟩
 ·simp at hcs
  subst hcs
  simp only [if_true] at hmm
  subst hmm
  by_cases hcap : m = 0
  ·have hlen0 : len = 0 := by omega
   subst hcap hlen0
   refine ⟨[], [], some ⟨b0, 0, 0, 0, 0⟩, [], by simpa using HH, by simpa using ro, ⟨⟨0, 0, 0⟩, 0, _, .inr rfl, rfl, Nat.le_refl _, .inl rfl, fun _ => rfl, fun hn => absurd rfl hn⟩, rfl, Nat.le_refl _, .inl rfl, ?_⟩
   simp [zA, hb0, Enc.all]
  ·have h1 := hlc
   have hsp : ∃ (ab ao : Nat) (C : Array Value) (tt : TypeId) (fz : Nat × Nat), a = ⟨ab, ao, none⟩ /\ W.heap[ab]? = some (.cells C tt fz) := by
    obtain ⟨cs', hcl, htr⟩ := hx 0 (by omega)
    rw [hC] at hcl
    obtain ⟨_, hlen, hcell⟩ := World.cells?_some hcl
    have h0 := hcell 0 E.pos
    have hpos := E.pos
    have hget : cs'[0]? = some (cs'[0]'(by omega)) := List.getElem?_eq_getElem _
    rw [hget] at h0
    obtain ⟨ab, ao, sp⟩ := a
    have e0 : Addr.add (Addr.add ⟨ab, ao, sp⟩ (0 * E.sz)) 0 = ⟨ab, ao, sp⟩ := by simp [Addr.add]
    rw [e0] at h0
    unfold World.cell? at h0
    split at h0
    ·rename_i C tt fz hb
     cases sp with
     | none => exact ⟨ab, ao, C, tt, fz, rfl, hb⟩
     | some sp => simp at h0
    ·cases h0
   obtain ⟨ab, ao, C, tt, fz, rfl, hb⟩ := hsp
   have hbl := kD hb
   have hsz := E.pos
   have each : ∀ i, i < m -> ∃ a : α, ∀ (j : Nat) (x : AV), (E.f a)[j]? = some x -> ∃ y, C[ao + i * E.sz + j]? = some y /\ ∀ μ, x.rel μ y := by
    intro i hi
    obtain ⟨cs', hcl, htr⟩ := hx i hi
    rw [hC] at hcl
    obtain ⟨_, hlen, hcell⟩ := World.cells?_some hcl
    obtain ⟨a, ha⟩ := hel _ _ _ htr hlen
    refine ⟨a, fun j x hj => ?_⟩
    have hjl : j < E.sz := by have := zD hj; rw [E.len] at this; exact this
    have hget : cs'[j]? = some (cs'[j]'(by omega)) := List.getElem?_eq_getElem _
    refine ⟨cs'[j]'(by omega), ?_, fun μ => ?_⟩
    ·have := hcell j hjl
     unfold World.cell? at this
     have eb : ((Addr.add (Addr.add ⟨ab, ao, none⟩ (i * E.sz)) j)) = ⟨ab, ao + i * E.sz + j, none⟩ := by rw [xO, xO]
     rw [eb] at this
     simp only [hb] at this
     have this' : C[ao + i * E.sz + j]? = cs'[j]? := by simpa using this
     rw [this', hget]
    ·obtain ⟨y, g1, g2⟩ := (ha μ).get hj
     rw [hget] at g1; cases g1; exact g2
   obtain ⟨V, hV⟩ := Deep.choose_lt each
   generalize hl : (List.range len).map V = l
   have hll : l.length = len := by subst hl; simp
   have hgetl : ∀ i, i < len -> l[i]? = some (V i) := by
    intro i hi
    subst hl
    simp [hi]
   have lastc : ∀ i, i < m -> ao + i * E.sz + E.sz <= C.size := by
     intro i hi
     have hfl : (E.f (V i))[E.sz - 1]? = some ((E.f (V i))[E.sz - 1]'(by rw [E.len]; omega)) := List.getElem?_eq_getElem _
     obtain ⟨y, g1, _⟩ := hV i hi _ _ hfl
     have := (Array.getElem?_eq_some_iff.1 g1).1
     omega
   have haoC : ao <= C.size := by have := lastc 0 (by omega); omega
   have hlenC : len * E.sz <= C.size - ao := by
    rcases Nat.eq_zero_or_pos len with hz | hz
    ·subst hz; simp
    ·have := lastc (len - 1) (by omega)
     have e1 : (len - 1) * E.sz + E.sz = len * E.sz := by
      rw [<- Nat.succ_mul]; congr 1; omega
     omega
   refine ⟨[⟨ab, ao, C.size - ao⟩], [.cells (E.all l) false], some ⟨hp.length, 0, len, m, 0⟩, l, HH.addRO ro rfl hbl ⟨C, tt, fz, hb, by simp; omega, by rw [Enc.all_length, hll]; exact hlenC, ?_, ?_, by simp⟩, ro.add rfl, ?_, ?_⟩
   ·simp only [zU, List.all_eq_true]
    intro x hx'
    simp only [Enc.all, List.mem_flatten, List.mem_map] at hx'
    obtain ⟨l0, ⟨a, _, rfl⟩, h⟩ := hx'
    have := E.one a
    simp only [zU, List.all_eq_true] at this
    exact this x h
   ·intro j x hj
    have hjl := zD hj
    rw [Enc.all_length, hll] at hjl
    have hi : j / E.sz < len := Nat.div_lt_of_lt_mul (by rw [Nat.mul_comm]; exact hjl)
    have hdm : j / E.sz * E.sz + j % E.sz = j := by rw [Nat.mul_comm]; exact Nat.div_add_mod _ _
    have hml : j % E.sz < E.sz := Nat.mod_lt _ hsz
    have hat := Enc.all_at (E := E) (hgetl _ hi)
    have : (E.f (V (j / E.sz)))[j % E.sz]? = some x := by
     rw [<- hat, List.getElem?_take, if_pos hml, List.getElem?_drop, hdm, hj]
    obtain ⟨y, g1, g2⟩ := hV _ (by omega) _ _ this
    refine ⟨y, ?_, g2 _⟩
    rw [<- g1]
    simp only
    congr 1
    omega
   ·exact ⟨⟨ab, ao, C.size - ao⟩, m, _, .inl (by rw [<- hμ]; simp), rfl, h1, .inr rfl, fun _ => rfl, fun hn => absurd rfl hn⟩
   ·refine ⟨hll.symm, h1, .inl rfl, ?_⟩
    rw [zQ (C := E.all l) (rw' := false) (by simp) (by simp [Enc.all_length])]
    simp [<- Enc.all_length]
end
end Go.Ab
namespace Go.Ab
set_option linter.unusedSimpArgs false
set_option linter.unusedVariables false
abbrev Bs := List UInt8
def zM (X : Nat -> Prop) (h h' : Heap) : Prop := ∀ (b : Nat) (B : Blk), ¬ X b -> h[b]? = some B -> h'[b]? = some B
theorem zM.refl (X : Nat -> Prop) (h : Heap) : zM X h h := fun _ _ _ e => e
theorem zM.trans {X : Nat -> Prop} {a b c : Heap} (h : zM X a b) (h' : zM X b c) : zM X a c := fun k B hk e => h' k B hk (h k B hk e)
theorem zK {X : Nat -> Prop} {h h' : Heap} (e : Ext h h') : zM X h h' := fun b B _ hb => e b B hb
theorem zM.cells {X : Nat -> Prop} {h h' : Heap} (K : zM X h h') {p : PA} {n : Nat} {c : List AV} (hp : ¬ X p.b) (hc : zA h p n = some c) : zA h' p n = some c := by
 unfold zA at hc ⊢
 split at hc
 ·rename_i c' rw' hb
  rw [K _ _ hp hb]; exact hc
 ·cases hc
theorem zM.hasL {α : Type} {E : Enc α} {X : Nat -> Prop} {h h' : Heap} (K : zM X h h') {q : OSl} {l : List α} (hq : ∀ s, q = some s -> ¬ X s.b) (H : HasL E h q l) : HasL E h' q l := by
 cases q with
 | none => exact H
 | some s => exact ⟨H.1, H.2.1, H.2.2.1, K.cells (hq s rfl) H.2.2.2⟩
theorem HasL.live {α : Type} {E : Enc α} {h : Heap} {q : OSl} {l : List α} (H : HasL E h q l) : ∀ s, q = some s -> s.b < h.length := by
 intro s hs
 subst hs
 obtain ⟨c, rw, hb, _⟩ := vN H.2.2.2
 exact zD hb
theorem zZ {h : Heap} {p o k : Nat} {c : List AV} {rw' : Bool} (hb : h[p]? = some (.cells c rw')) (ho : o + k <= c.length) : zA h ⟨p, 0 + o⟩ k = some ((c.drop o).take k) := by
 rw [Nat.zero_add]; exact zQ (p := ⟨p, o⟩) hb ho
theorem zJ7 {h : Heap} {p o : Nat} {c xs : List AV} {K : Heap -> Prop} (hb : h[p]? = some (.cells c true)) (ho : o + xs.length <= c.length) (hK : K (h.set p (.cells (splice c o xs) true))) : zI h ⟨p, 0 + o⟩ xs K := by
 unfold zI
 simp only [hb, Nat.zero_add]
 exact ⟨ho, hK⟩
theorem yD {h : Heap} {p o : Nat} {c xs : List AV} {K : Heap -> Prop} (hb : h[p]? = some (.cells c true)) (ho : o + xs.length <= c.length) (hK : K (h.set p (.cells (splice c o xs) true))) : vPtr (some ⟨p, 0⟩) fun q => zI h ⟨q.b, q.o + o⟩ xs K := zJ7 hb ho hK
theorem zT {h : Heap} {p : Nat} {B : Blk} {X : Nat -> Prop} (hp : X p) : zM X h (h.set p B) := by
 intro b C hb hC
 rw [List.getElem?_set, if_neg]
 ·exact hC
 ·intro he; subst he; exact hb hp
def byE : Enc UInt8 := ⟨1, fun b => [.int .u8 b.toNat], fun _ => rfl, by omega, fun _ => rfl⟩
def intE : Enc Int := ⟨1, fun n => [.int .i64 n], fun _ => rfl, by omega, fun _ => rfl⟩
def slE : Enc (OSl) := ⟨1, fun q => [.sl q], fun _ => rfl, by omega, fun _ => rfl⟩
theorem jD {l : Bs} : byE.all l = zR l := by
 induction l with
 | nil => rfl
 | cons x l ih => rw [Enc.all_cons, ih]; rfl
theorem zBL {l : Bs} : (zR l).length = l.length := by simp [zR]
def Apd {α : Type} (E : Enc α) (h : Heap) (q : OSl) (l : List α) : Prop :=
 (q = none /\ l = []) ∨ ∃ a o, q = some ⟨a, 0, l.length, l.length, o⟩ /\ (o = 0 ∨ o = E.sz) /\ h[a]? = some (.cells (E.all l) true)
def New {α : Type} (E : Enc α) (h h' : Heap) (q : OSl) (l : List α) : Prop := Ext h h' /\ Apd E h' q l /\ ∀ s, q = some s -> h.length <= s.b
section
variable {α : Type} {E : Enc α} {h h' : Heap} {q : OSl} {l m : List α}
theorem Apd.hasL (A : Apd E h q l) : HasL E h q l := by
 rcases A with ⟨rfl, rfl⟩ | ⟨a, o, rfl, ho, hb⟩
 ·rfl
 ·refine ⟨rfl, Nat.le_refl _, ho, ?_⟩
  rw [zQ (p := ⟨a, 0⟩) hb (by simp [Enc.all_length])]
  simp [<- Enc.all_length]
theorem Apd.keeps {X : Nat -> Prop} (A : Apd E h q l) (K : zM X h h') (hq : ∀ s, q = some s -> ¬ X s.b) : Apd E h' q l := by
 rcases A with ⟨rfl, rfl⟩ | ⟨a, o, rfl, ho, hb⟩
 ·exact .inl ⟨rfl, rfl⟩
 ·exact .inr ⟨a, o, rfl, ho, K _ _ (hq _ rfl) hb⟩
theorem Apd.ext (A : Apd E h q l) (K : Ext h h') : Apd E h' q l := A.keeps (X := fun _ => False) (zK K) (fun _ _ h => h)
theorem Apd.mk {a o : Nat} {n : Nat} (hn : n = l.length) (ho : o = 0 ∨ o = E.sz) (hb : h[a]? = some (.cells (E.all l) true)) : Apd E h (some ⟨a, 0, n, n, o⟩) l := by
 subst hn; exact .inr ⟨a, o, rfl, ho, hb⟩
theorem Apd.append0 {by' : Nat} {K : OSl -> Heap -> Prop} (A : Apd E h q l) (hb : (l.length + m.length) * by' <= 140737488355328)
  (hK : ∀ q' h', Apd E h' q' (l ++ m) -> zM (fun b => ∃ s, q = some s /\ s.b = b) h h' -> h.length <= h'.length -> (∀ s', q' = some s' -> h.length <= s'.b ∨ ∃ s, q = some s /\ s.b = s'.b) -> K q' h') : vD E.sz by' q m.length (E.all m) h K := by
 refine ⟨by rw [Enc.all_length], ?_⟩
 rcases A with ⟨rfl, rfl⟩ | ⟨a, o, rfl, ho, hb5⟩
 ·simp only
  split
  ·rename_i hm
   have : m = [] := List.eq_nil_of_length_eq_zero hm
   subst this
   exact hK _ _ (.inl ⟨rfl, rfl⟩) (.refl _ _) (Nat.le_refl _) (fun s' h => by cases h)
  ·refine ⟨by simpa using hb, E.pos, hK _ _ (Apd.mk (by simp) (.inr rfl) (by simp)) (zK (Ext.app _ _)) (by simp) (fun s' h => by cases h; exact .inl (Nat.le_refl _))⟩
 ·simp only
  have hset : ∀ B : Blk, zM (fun b => ∃ s' : SL, some (⟨a, 0, l.length, l.length, o⟩ : SL) = some s' /\ s'.b = b) h (h.set a B) := by
   intro B b C hb hC
   rw [List.getElem?_set, if_neg]
   ·exact hC
   ·intro he; exact hb ⟨_, rfl, he⟩
  split
  ·rename_i hle
   have hm : m.length = 0 := by omega
   have : m = [] := List.eq_nil_of_length_eq_zero hm
   subst this
   rw [hb5]
   simp only
   have e0 : E.all ([] : List α) = [] := rfl
   refine ⟨by simp [Enc.all_length, e0], hK _ _ (Apd.mk (by simp) ho ?_) (hset _) (by simp) (fun s' h => by cases h; exact .inr ⟨_, rfl, rfl⟩)⟩
   have hlt := zD hb5
   rw [List.getElem?_set_self hlt]
   simp [Enc.all, splice, List.take_append_drop]
  ·have hold : zA h ⟨a, 0⟩ (l.length * E.sz) = some (E.all l) := by
    rw [zQ (p := ⟨a, 0⟩) hb5 (by simp [Enc.all_length])]
    simp [<- Enc.all_length]
   refine ⟨hb, E.pos, ?_⟩
   rw [hold, hb5]
   simp only
   rcases ho with rfl | rfl
   ·rw [if_pos rfl]
    exact hK _ _ (Apd.mk (by simp) (.inr rfl) (by simp [Enc.all_append])) (zK (Ext.app _ _)) (by simp) (fun s' h => by cases h; exact .inl (Nat.le_refl _))
   ·have h0' : ¬ E.sz = 0 := by have := E.pos; omega
    rw [if_neg h0']
    refine ⟨trivial, rfl, hK _ _ (Apd.mk (by simp) (.inr rfl) ?_) ((hset _).trans (zK (Ext.app _ _))) (by simp) (fun s' h => by cases h; exact .inl (Nat.le_refl _))⟩
    rw [List.getElem?_append_right (by simp)]
    simp [Enc.all_append]
theorem Apd.append {src : OSl} {by' : Nat} {K : OSl -> Heap -> Prop} (A : Apd E h q l) (H : HasL E h src m) (hb : (l.length + m.length) * by' <= 140737488355328)
  (hK : ∀ q' h', Apd E h' q' (l ++ m) -> zM (fun b => ∃ s, q = some s /\ s.b = b) h h' -> h.length <= h'.length -> (∀ s', q' = some s' -> h.length <= s'.b ∨ ∃ s, q = some s /\ s.b = s'.b) -> K q' h') : zC E.sz by' q src h K := by
 refine ⟨E.all m, H.cells, ?_⟩
 rw [H.len]
 exact A.append0 hb hK
theorem New.hasL (N : New E h h' q l) : HasL E h' q l := N.2.1.hasL
theorem New.ext {h2 : Heap} (N : New E h h' q l) (K : Ext h' h2) : New E h h2 q l := ⟨N.1.trans K, N.2.1.ext K, N.2.2⟩
theorem New.of {h0 : Heap} (N : New E h h' q l) (K : Ext h0 h) : New E h0 h' q l := ⟨K.trans N.1, N.2.1, fun s hs => by have := N.2.2 s hs; have := K.len; omega⟩
theorem New.append0 {by' : Nat} {K : OSl -> Heap -> Prop} (N : New E h h' q l) (hb : (l.length + m.length) * by' <= 140737488355328)
  (hK : ∀ q' h2, New E h h2 q' (l ++ m) -> K q' h2) : vD E.sz by' q m.length (E.all m) h' K := by
 refine N.2.1.append0 hb fun q' h2 A2 K2 hl hq => hK q' h2 ⟨?_, A2, ?_⟩
 ·intro b B hB
  exact K2 b B (fun ⟨s, a1, a2⟩ => by have := N.2.2 s a1; have := zD hB; omega) (N.1 _ _ hB)
 ·intro s hs
  have := N.1.len
  rcases hq s hs with a | ⟨s', a1, a2⟩
  ·omega
  ·have := N.2.2 s' a1; omega
theorem New.append {src : OSl} {by' : Nat} {K : OSl -> Heap -> Prop} (N : New E h h' q l) (H : HasL E h' src m) (hb : (l.length + m.length) * by' <= 140737488355328)
  (hK : ∀ q' h2, New E h h2 q' (l ++ m) -> K q' h2) : zC E.sz by' q src h' K := by
 refine ⟨E.all m, H.cells, ?_⟩
 rw [H.len]
 exact N.append0 hb hK
theorem New.mk1 {c : List AV} {n : Nat} (hn : n = l.length) (hc : c = E.all l) : New E h (h ++ [.cells c true]) (some ⟨h.length, 0, n, n, 0⟩) l :=
 ⟨.app _ _, Apd.mk hn (.inl rfl) (by rw [<- hc]; simp), fun s hs => by cases hs; exact Nat.le_refl _⟩
theorem New.none : New E h h none ([] : List α) := ⟨.refl _, .inl ⟨rfl, rfl⟩, fun s hs => by cases hs⟩
end
theorem zBU {l : Bs} {i : Nat} {b : UInt8} (hi : i < l.length) : splice (zR l) i [.int .u8 b.toNat] = zR (l.set i b) := by
 unfold splice zR
 rw [List.set_eq_take_append_cons_drop, if_pos hi]
 simp
theorem shr8 {n : Nat} : shrK .i64 (n : Int) 8 = ((n / 256 : Nat) : Int) := by
 have e : min ((8 : Int).toNat) IntKind.i64.bits = 8 := by decide
 simp only [shrK, e]
 rw [Int.fdiv_eq_ediv_of_nonneg _ (by decide)]
 simp
theorem shrB {n k : Nat} (hk : k <= 7) : shrK .i64 (n : Int) ((8 * k : Nat) : Int) = ((n / 256 ^ k : Nat) : Int) := by
 have e : min (((8 * k : Nat) : Int).toNat) IntKind.i64.bits = 8 * k := by
  have : IntKind.i64.bits = 64 := rfl
  rw [this]; omega
 simp only [shrK, e]
 rw [Int.fdiv_eq_ediv_of_nonneg _ (Int.pow_nonneg (by decide))]
 have : (256 : Nat) ^ k = 2 ^ (8 * k) := by rw [Nat.pow_mul]
 rw [this]
 simp
theorem u8c {n : Nat} : zE .u8 (n : Int) = ((UInt8.ofNat (n % 256)).toNat : Int) := by
 rw [zF1]; simp
theorem zQX {k : IntKind} {n : Nat} {b : Nat -> Int} : cel k (n + 1) b = .int k (b 0) :: cel k n (fun i => b (i + 1)) := by
 simp only [cel, List.range_succ_eq_map, List.map_cons, List.map_map]
 rfl
theorem zAN {k : IntKind} {n : Nat} {b : Nat -> Int} : (cel k n b).length = n := by simp [cel]
theorem zFU {k : IntKind} : ∀ {n : Nat} {b : Nat -> Int} {K : List AV -> Prop}, K (cel k n b) -> exC k n K
 | 0, b, K, h => h
 | n + 1, b, K, h => ⟨b 0, zFU (b := fun i => b (i + 1)) (by rw [zQX] at h; exact h)⟩
theorem zO8 {k : IntKind} {n : Nat} {b : Nat -> Int} : zU (cel k n b) = true := by
 simp [zU, cel, AV.one]
section
variable {α : Type} {E : Enc α} {h h' : Heap} {q : OSl} {l m : List α}
def AppJ (E : Enc α) (h : Heap) (q : OSl) (l : List α) : Prop :=
 (q = none /\ l = []) ∨ ∃ (a c o : Nat) (j : List AV), q = some ⟨a, 0, l.length, c, o⟩ /\ (o = 0 ∨ o = E.sz) /\ h[a]? = some (.cells (E.all l ++ j) true) /\ j.length = (c - l.length) * E.sz /\ l.length <= c
theorem AppJ.hasL (A : AppJ E h q l) : HasL E h q l := by
 rcases A with ⟨rfl, rfl⟩ | ⟨a, c, o, j, rfl, ho, hb, hj, hc⟩
 ·rfl
 ·refine ⟨rfl, hc, ho, ?_⟩
  rw [zQ (p := ⟨a, 0⟩) hb (by simp [Enc.all_length])]
  simp [<- Enc.all_length]
theorem AppJ.keeps {X : Nat -> Prop} (A : AppJ E h q l) (K : zM X h h') (hq : ∀ s, q = some s -> ¬ X s.b) : AppJ E h' q l := by
 rcases A with ⟨rfl, rfl⟩ | ⟨a, c, o, j, rfl, ho, hb, hj, hc⟩
 ·exact .inl ⟨rfl, rfl⟩
 ·exact .inr ⟨a, c, o, j, rfl, ho, K _ _ (hq _ rfl) hb, hj, hc⟩
theorem AppJ.ext (A : AppJ E h q l) (K : Ext h h') : AppJ E h' q l := A.keeps (X := fun _ => False) (zK K) (fun _ _ h => h)
theorem AppJ.of (A : Apd E h q l) : AppJ E h q l := by
 rcases A with ⟨rfl, rfl⟩ | ⟨a, o, rfl, ho, hb⟩
 ·exact .inl ⟨rfl, rfl⟩
 ·exact .inr ⟨a, l.length, o, [], rfl, ho, by simpa using hb, by simp, Nat.le_refl _⟩
theorem AppJ.live (A : AppJ E h q l) : ∀ s, q = some s -> s.b < h.length := by
 intro s hs
 rcases A with ⟨rfl, rfl⟩ | ⟨a, c, o, j, rfl, ho, hb, hj, hc⟩
 ·cases hs
 ·cases hs; exact zD hb
theorem AppJ.append0 {by' : Nat} {K : OSl -> Heap -> Prop} (A : AppJ E h q l) (hb : (l.length + m.length) * by' <= 140737488355328)
  (hK : ∀ q' h', AppJ E h' q' (l ++ m) -> zM (fun b => ∃ s, q = some s /\ s.b = b) h h' -> h.length <= h'.length -> (∀ s', q' = some s' -> h.length <= s'.b ∨ ∃ s, q = some s /\ s.b = s'.b) -> K q' h') : vD E.sz by' q m.length (E.all m) h K := by
 refine ⟨by rw [Enc.all_length], ?_⟩
 rcases A with ⟨rfl, rfl⟩ | ⟨a, c, o, j, rfl, ho, hb5, hj, hc⟩
 ·simp only
  split
  ·rename_i hm
   have : m = [] := List.eq_nil_of_length_eq_zero hm
   subst this
   exact hK _ _ (.inl ⟨rfl, rfl⟩) (.refl _ _) (Nat.le_refl _) (fun s' h => by cases h)
  ·refine ⟨by simpa using hb, E.pos, hK _ _ (.of (Apd.mk (by simp) (.inr rfl) (by simp))) (zK (Ext.app _ _)) (by simp) (fun s' h => by cases h; exact .inl (Nat.le_refl _))⟩
 ·simp only
  have hset : ∀ B : Blk, zM (fun b => ∃ s' : SL, some (⟨a, 0, l.length, c, o⟩ : SL) = some s' /\ s'.b = b) h (h.set a B) := by
   intro B b C hb hC
   rw [List.getElem?_set, if_neg]
   ·exact hC
   ·intro he; exact hb ⟨_, rfl, he⟩
  split
  ·rename_i hle
   rw [hb5]
   simp only
   have hl1 : (E.all l).length = l.length * E.sz := Enc.all_length
   have hm1 : (E.all m).length = m.length * E.sz := Enc.all_length
   have hmul : m.length * E.sz <= (c - l.length) * E.sz := Nat.mul_le_mul_right _ (by omega)
   have hsub : (c - (l.length + m.length)) * E.sz = (c - l.length) * E.sz - m.length * E.sz := by rw [<- Nat.sub_mul]; congr 1; omega
   refine ⟨by rw [List.length_append, hl1, hm1, hj]; omega, hK _ _ (.inr ⟨a, c, o, j.drop (m.length * E.sz), by simp, ho, ?_, ?_, by simp; omega⟩) (hset _) (by simp) (fun s' h => by cases h; exact .inr ⟨_, rfl, rfl⟩)⟩
   ·rw [List.getElem?_set_self (zD hb5)]
    congr 2
    rw [splice, Nat.zero_add, <- hl1, List.take_left' rfl, Enc.all_append, <- List.drop_drop, List.drop_left' rfl, hm1]
   ·rw [List.length_drop, hj, List.length_append, hsub]
  ·have hold : zA h ⟨a, 0⟩ (l.length * E.sz) = some (E.all l) := by
    rw [zQ (p := ⟨a, 0⟩) hb5 (by simp [Enc.all_length])]
    simp [<- Enc.all_length]
   refine ⟨hb, E.pos, ?_⟩
   rw [hold, hb5]
   simp only
   rcases ho with rfl | rfl
   ·rw [if_pos rfl]
    exact hK _ _ (.of (Apd.mk (by simp) (.inr rfl) (by simp [Enc.all_append]))) (zK (Ext.app _ _)) (by simp) (fun s' h => by cases h; exact .inl (Nat.le_refl _))
   ·have h0' : ¬ E.sz = 0 := by have := E.pos; omega
    rw [if_neg h0']
    refine ⟨trivial, rfl, hK _ _ (.of (Apd.mk (by simp) (.inr rfl) ?_)) ((hset _).trans (zK (Ext.app _ _))) (by simp) (fun s' h => by cases h; exact .inl (Nat.le_refl _))⟩
    rw [List.getElem?_append_right (by simp)]
    simp [Enc.all_append]
theorem AppJ.append {src : OSl} {by' : Nat} {K : OSl -> Heap -> Prop} (A : AppJ E h q l) (H : HasL E h src m) (hb : (l.length + m.length) * by' <= 140737488355328)
  (hK : ∀ q' h', AppJ E h' q' (l ++ m) -> zM (fun b => ∃ s, q = some s /\ s.b = b) h h' -> h.length <= h'.length -> (∀ s', q' = some s' -> h.length <= s'.b ∨ ∃ s, q = some s /\ s.b = s'.b) -> K q' h') : zC E.sz by' q src h K := by
 refine ⟨E.all m, H.cells, ?_⟩
 rw [H.len]
 exact A.append0 hb hK
theorem AppJ.store {i k : Nat} {r r' : α} {xs : List AV} {K : Heap -> Prop} (A : AppJ E h q l) (hi : l[i]? = some r) (hk : k + xs.length <= E.sz) (hr : E.f r' = splice (E.f r) k xs) {p : PA} (hp : ∀ s, q = some s -> p = ⟨s.b, i * E.sz + k⟩)
  (hK : ∀ h', AppJ E h' q (l.set i r') -> zM (fun b => ∃ s, q = some s /\ s.b = b) h h' -> h'.length = h.length -> K h') : zI h p xs K := by
 rcases A with ⟨rfl, rfl⟩ | ⟨a, c, o, j, rfl, ho, hb5, hj, hc⟩
 ·simp at hi
 ·have hp := hp _ rfl
  subst hp
  have hlt := zD hi
  have hl1 : (E.all l).length = l.length * E.sz := Enc.all_length
  have hmul : (i + 1) * E.sz <= l.length * E.sz := Nat.mul_le_mul_right _ hlt
  rw [Nat.add_mul, Nat.one_mul] at hmul
  unfold zI
  simp only [hb5]
  refine ⟨by rw [List.length_append, hl1]; omega, hK _ (.inr ⟨a, c, o, j, by simp, ho, ?_, by simpa using hj, by simpa using hc⟩) ?_ (by simp)⟩
  ·rw [List.getElem?_set_self (zD hb5)]
   congr 2
   have := zFE (A := []) (B := E.all l) (C := j) (xs := xs) (k := i * E.sz + k) (by rw [hl1]; omega)
   simp only [List.nil_append, List.length_nil, Nat.zero_add] at this
   rw [this, Go.Ab.splice_set hi hk hr]
  ·intro b C hb hC
   rw [List.getElem?_set, if_neg]
   ·exact hC
   ·intro he; exact hb ⟨_, rfl, he⟩
theorem AppJ.idx (A : AppJ E h q l) {i : Int} {K : PA -> Prop} (h0 : 0 <= i) (h1 : i < l.length)
  (hK : ∀ p x, l[i.toNat]? = some x -> zA h p E.sz = some (E.f x) -> (∀ s, q = some s -> p = ⟨s.b, i.toNat * E.sz⟩) -> K p) : vIdx q i E.sz K := by
 rcases A with ⟨rfl, rfl⟩ | ⟨a, c, o, j, rfl, ho, hb5, hj, hc⟩
 ·simp at h1; omega
 ·have A' : AppJ E h (some ⟨a, 0, l.length, c, o⟩) l := .inr ⟨a, c, o, j, rfl, ho, hb5, hj, hc⟩
  have hi : i.toNat < l.length := by omega
  refine ⟨h0, h1, hK _ _ (List.getElem?_eq_getElem hi) ?_ (fun s hs => by cases hs; simp)⟩
  have h2 : i.toNat * E.sz + E.sz <= l.length * E.sz := by
   have : (i.toNat + 1) * E.sz <= l.length * E.sz := Nat.mul_le_mul_right _ hi
   rw [Nat.add_mul, Nat.one_mul] at this; exact this
  have hc2 := A'.hasL.2.2.2
  rw [zW hc2 h2, Enc.all_at (List.getElem?_eq_getElem hi)]
end
theorem zLL {sz : Nat} {q : OSl} {lo : Int} {hi mx : Option Int} {K K2 : OSl -> Prop} (P : yC sz q lo hi mx K) (hK : ∀ q', K q' -> (∀ s', q' = some s' -> ∃ s, q = some s /\ s'.b = s.b) -> K2 q') : yC sz q lo hi mx K2 := by
 unfold yC at P ⊢
 cases q with
 | none => exact ⟨P.1, P.2.1, P.2.2.1, hK _ P.2.2.2 (fun s' h => by cases h)⟩
 | some s => exact ⟨P.1, P.2.1, P.2.2.1, P.2.2.2.1, P.2.2.2.2.1, hK _ P.2.2.2.2.2 (fun s' h => by cases h; exact ⟨s, rfl, rfl⟩)⟩
theorem HasL.slice2 {α : Type} {E : Enc α} {h : Heap} {q : OSl} {l : List α} (H : HasL E h q l) {lo : Int} {hi : Option Int} {K : OSl -> Prop} (h0 : 0 <= lo) (h1 : lo <= hi.getD l.length) (h2 : hi.getD l.length <= l.length)
  (hK : ∀ q', HasL E h q' ((l.take (hi.getD l.length).toNat).drop lo.toNat) -> (∀ s', q' = some s' -> ∃ s, q = some s /\ s'.b = s.b) -> K q') : yC E.sz q lo hi none K :=
 zLL (H.slice (K := fun q' => HasL E h q' ((l.take (hi.getD l.length).toNat).drop lo.toNat)) h0 h1 h2 fun _ h => h) hK
end Go.Ab


namespace Go.Ab
set_option linter.unusedVariables false
set_option linter.unusedSimpArgs false
def OwnL {α : Type} (E : Enc α) (h : Heap) (q : OSl) (l : List α) : Prop := (l = [] /\ ∃ a, q = some ⟨a, 0, 0, 0, 0⟩ /\ h[a]? = some (.cells [] true)) ∨ (l ≠ [] /\ ∃ a, q = some ⟨a, 0, l.length, l.length, E.sz⟩ /\ h[a]? = some (.cells (E.all l) true))
theorem OwnL.ext {α : Type} {E : Enc α} {h h' : Heap} {q : OSl} {l : List α} (O : OwnL E h q l) (K : Ext h h') : OwnL E h' q l := by
 rcases O with ⟨a, b, c, d⟩ | ⟨a, b, c, d⟩
 ·exact .inl ⟨a, b, c, K _ _ d⟩
 ·exact .inr ⟨a, b, c, K _ _ d⟩
theorem OwnL.hasL {α : Type} {E : Enc α} {h : Heap} {q : OSl} {l : List α} (O : OwnL E h q l) : HasL E h q l := by
 rcases O with ⟨rfl, a, rfl, hb⟩ | ⟨hne, a, rfl, hb⟩
 ·refine ⟨rfl, Nat.le_refl _, .inl rfl, ?_⟩
  simp [zA, hb, Enc.all]
 ·refine ⟨rfl, Nat.le_refl _, .inr rfl, ?_⟩
  rw [zQ (p := ⟨a, 0⟩) hb (by simp [Enc.all_length])]
  simp [<- Enc.all_length]
theorem zA6 {α : Type} {E : Enc α} {h : Heap} {a : Nat} {q : OSl} {l : List α} {by' : Nat} {K : OSl -> Heap -> Prop} (ha : h[a]? = some (.cells [] true)) (H : HasL E h q l) (hb : l.length * by' <= 140737488355328)
  (hK : ∀ q' h', Ext h h' -> OwnL E h' q' l -> (∀ s, q' = some s -> s.b = a ∨ h.length <= s.b) -> K q' h') : zC E.sz by' (some ⟨a, 0, 0, 0, 0⟩) q h K := by
 refine ⟨E.all l, H.cells, by rw [Enc.all_length, H.len], ?_⟩
 rw [H.len]
 simp only [Nat.zero_add, Nat.zero_mul]
 split
 ·rename_i h0
  have : l = [] := List.eq_nil_of_length_eq_zero (by omega)
  subst this
  rw [ha]
  have e0 : E.all ([] : List α) = [] := rfl
  simp only [e0, jP, List.length_nil]
  have hs : h.set a (.cells [] true) = h := zAE ha
  rw [hs]
  exact ⟨by simp, hK _ _ (.refl _) (.inl ⟨rfl, a, rfl, ha⟩) (fun s hs => by cases hs; exact .inl rfl)⟩
 ·rename_i h0
  refine ⟨hb, E.pos, ?_⟩
  have hc : zA h ⟨a, 0⟩ 0 = some [] := by simp [zA, ha]
  rw [hc, ha]
  simp only [if_true, List.nil_append]
  refine hK _ _ (.app _ _) (.inr ⟨fun h => h0 (by rw [h]; simp), h.length, rfl, by simp⟩) (fun s hs => by cases hs; exact .inr (Nat.le_refl _))
theorem zA9 {α : Type} {E : Enc α} {h : Heap} {q src : OSl} {l : List α} {x : α} {by' : Nat} {K : OSl -> Heap -> Prop} (O : OwnL E h q l) (H : HasL E h src [x]) (hb : (l.length + 1) * by' <= 140737488355328)
  (hK : ∀ q' h', OwnL E h' q' (l ++ [x]) -> zM (fun b => ∃ s, q = some s /\ s.b = b) h h' -> h.length <= h'.length -> (∀ s', q' = some s' -> h.length <= s'.b) -> K q' h') : zC E.sz by' q src h K := by
 refine ⟨E.all [x], H.cells, by rw [Enc.all_length, H.len], ?_⟩
 rw [H.len]
 rcases O with ⟨rfl, a, rfl, ha⟩ | ⟨hne, a, rfl, ha⟩
 ·simp only [List.length_cons, List.length_nil]
  rw [if_neg (by omega)]
  have hc : zA h ⟨a, 0⟩ (0 * E.sz) = some [] := by simp [zA, ha]
  simp only [List.length_nil] at hb
  refine ⟨hb, E.pos, ?_⟩
  rw [hc, ha]
  simp only [if_true, List.nil_append]
  exact hK _ _ (.inr ⟨by simp, h.length, rfl, by simp⟩) (zK (Ext.app _ _)) (by simp) (fun s hs => by cases hs; exact Nat.le_refl _)
 ·simp only [List.length_cons, List.length_nil]
  rw [if_neg (by omega)]
  have hc : zA h ⟨a, 0⟩ (l.length * E.sz) = some (E.all l) := by
   rw [zQ (p := ⟨a, 0⟩) ha (by simp [Enc.all_length])]
   simp [<- Enc.all_length]
  refine ⟨hb, E.pos, ?_⟩
  rw [hc, ha]
  simp only
  rw [if_neg (by have := E.pos; omega)]
  refine ⟨trivial, trivial, hK _ _ (.inr ⟨by simp, h.length, by simp, ?_⟩) ?_ (by simp) (fun s hs => by cases hs; exact Nat.le_refl _)⟩
  ·rw [List.getElem?_append_right (by simp)]
   simp [Enc.all_append]
  ·refine zM.trans ?_ (zK (Ext.app _ _))
   intro b B hb hB
   rw [List.getElem?_set, if_neg]
   ·exact hB
   ·intro he; exact hb ⟨_, rfl, he⟩
theorem OwnL.apd {α : Type} {E : Enc α} {h : Heap} {q : OSl} {l : List α} (O : OwnL E h q l) : Apd E h q l := by
 rcases O with ⟨rfl, a, rfl, hb⟩ | ⟨hne, a, rfl, hb⟩
 ·exact .inr ⟨a, 0, rfl, .inl rfl, by simpa [Enc.all] using hb⟩
 ·exact .inr ⟨a, E.sz, rfl, .inr rfl, hb⟩
theorem zET {α : Type} {E : Enc α} {h : Heap} {q : OSl} {l : List α} {by' : Nat} {K : OSl -> Heap -> Prop} (H : HasL E h q l) (hb : l.length * by' <= 140737488355328)
  (hK : ∀ q' h', New E h h' q' l -> K q' h') : zC E.sz by' (some ⟨h.length, 0, 0, 0, 0⟩) q (h ++ [.cells [] true]) K := by
 refine zA6 (by simp) (H.mono (.app _ _)) hb fun q' h' x O hq => hK q' h' ⟨(Ext.app _ _).trans x, O.apd, fun s hs => ?_⟩
 have := hq s hs
 simp at this
 omega
end Go.Ab
namespace Go.Ab
set_option linter.unusedVariables false
set_option linter.unusedSimpArgs false
open Go.Crc hiding Bs
abbrev u32 (c : W) : AV := .int .u32 ((c.toNat : Nat) : Int)
theorem zM0 {n : Nat} (h : n < 4294967296) : IntKind.wrap .u32 (n : Int) = n := by
 have : IntKind.wrap .u32 (n : Int) = (n : Int) % 4294967296 := by rfl
 rw [this]; omega
theorem of32 (a : W) : BitVec.ofInt 32 ((a.toNat : Nat) : Int) = a := by
 rw [BitVec.ofInt_natCast, BitVec.ofNat_toNat]; simp
theorem x32 (a b : W) : yR .u32 ((a.toNat : Nat) : Int) ((b.toNat : Nat) : Int) = (((a ^^^ b).toNat : Nat) : Int) := by
 unfold yR
 show IntKind.wrap .u32 (((BitVec.ofInt 32 ((a.toNat : Nat) : Int) ^^^ BitVec.ofInt 32 ((b.toNat : Nat) : Int)).toNat : Nat) : Int) = _
 rw [of32, of32, zM0 (BitVec.isLt _)]
theorem and32 (a b : W) : kE .u32 ((a.toNat : Nat) : Int) ((b.toNat : Nat) : Int) = (((a &&& b).toNat : Nat) : Int) := by
 unfold kE
 show IntKind.wrap .u32 (((BitVec.ofInt 32 ((a.toNat : Nat) : Int) &&& BitVec.ofInt 32 ((b.toNat : Nat) : Int)).toNat : Nat) : Int) = _
 rw [of32, of32, zM0 (BitVec.isLt _)]
theorem zQG (a : W) : yR .u32 4294967295 ((a.toNat : Nat) : Int) = (((~~~ a).toNat : Nat) : Int) := by
 have := x32 (BitVec.allOnes 32) a
 rw [BitVec.allOnes_xor] at this
 exact this
theorem zPV (a : W) (k : Nat) (hk : k <= 32) : shrK .u32 ((a.toNat : Nat) : Int) ((k : Nat) : Int) = (((a >>> k).toNat : Nat) : Int) := by
 unfold shrK
 have e : min ((k : Nat) : Int).toNat (IntKind.bits .u32) = k := by
  show min ((k : Nat) : Int).toNat 32 = k
  simp; omega
 rw [e, BitVec.toNat_ushiftRight, Nat.shiftRight_eq_div_pow]
 have h2 : ((2 : Int) ^ k) = ((2 ^ k : Nat) : Int) := by simp
 rw [h2, Int.fdiv_eq_ediv_of_nonneg _ (Int.natCast_nonneg _)]
 rfl
theorem wrapB (b : UInt8) : zE .u32 ((b.toNat : Nat) : Int) = (((ofB b).toNat : Nat) : Int) := by
 have := b.toNat_lt
 show IntKind.wrap .u32 _ = _
 rw [zM0 (by omega)]
 unfold ofB
 rw [BitVec.toNat_ofNat, Nat.mod_eq_of_lt (by omega)]
theorem and15 (c : W) : kE .u32 ((c.toNat : Nat) : Int) 15 = ((c.toNat % 16 : Nat) : Int) := by
 have := and32 c 15#32
 have e : (c &&& 15#32).toNat = c.toNat % 16 := by
  rw [BitVec.toNat_and]
  exact Nat.and_two_pow_sub_one_eq_mod c.toNat 4
 rw [e] at this
 exact this
theorem and1 (c : W) : kE .u32 ((c.toNat : Nat) : Int) 1 = if c.getLsbD 0 then 1 else 0 := by
 have := and32 c 1#32
 have e : (c &&& 1#32).toNat = c.toNat % 2 := by
  rw [BitVec.toNat_and]
  exact Nat.and_two_pow_sub_one_eq_mod c.toNat 1
 rw [e] at this
 refine Eq.trans this ?_
 have h0 : c.getLsbD 0 = decide (c.toNat % 2 = 1) := by
  show c.toNat.testBit 0 = _
  rw [Nat.testBit_zero]
 rw [h0]
 by_cases h : c.toNat % 2 = 1
 ·rw [h]; simp
 ·rw [if_neg (by simpa using h)]; omega
end Go.Ab
namespace Go.Ab
set_option linter.unusedVariables false
set_option linter.unusedSimpArgs false
def Lls {α : Type} (E : Enc α) (h : Heap) (q : OSl) (ls : List (List α)) : Prop :=
 ∃ qs : List (OSl), HasL slE h q qs /\ qs.length = ls.length /\ ∀ (i : Nat) (s : OSl) (l : List α), qs[i]? = some s -> ls[i]? = some l -> HasL E h s l
section
variable {α : Type} {E : Enc α} {h0 h h' : Heap} {q : OSl} {ls : List (List α)}
theorem Lls.mono (I : Lls E h q ls) (x : Ext h h') : Lls E h' q ls := by
 obtain ⟨qs, a, b, c⟩ := I
 exact ⟨qs, a.mono x, b, fun i s l h1 h2 => (c i s l h1 h2).mono x⟩
theorem Lls.len (I : Lls E h q ls) : zJ q = ls.length := by
 obtain ⟨qs, a, b, c⟩ := I
 rw [a.len, b]
theorem Lls.idx (I : Lls E h q ls) {i : Int} {K : PA -> Prop} (h0 : 0 <= i) (h1 : i < ls.length) (hK : ∀ p s l, ls[i.toNat]? = some l -> zA h p 1 = some [.sl s] -> HasL E h s l -> K p) : vIdx q i 1 K := by
 obtain ⟨qs, a, b, c⟩ := I
 refine HasL.idx (E := slE) a h0 (by omega) fun p s hs hc => ?_
 have hl : ls[i.toNat]? = some (ls[i.toNat]'(by omega)) := List.getElem?_eq_getElem _
 exact hK p s _ hl hc (c _ _ _ hs hl)
end
structure LL {α : Type} (E : Enc α) (h0 h : Heap) (out : OSl) (qs : List (OSl)) (ls : List (List α)) : Prop where
 ext : Ext h0 h
 oa : Apd slE h out qs
 ob : ∀ s, out = some s -> h0.length <= s.b
 len : qs.length = ls.length
 el : ∀ (i : Nat) (s : OSl) (l : List α), qs[i]? = some s -> ls[i]? = some l -> HasL E h s l
 eb : ∀ (i : Nat) (t : SL), qs[i]? = some (some t) -> h0.length <= t.b /\ ∀ o, out = some o -> o.b ≠ t.b
section
variable {α : Type} {E : Enc α} {h0 h h' : Heap} {out : OSl} {qs : List (OSl)} {ls : List (List α)}
theorem LL.nil (h : Heap) : LL E h h none [] [] := ⟨.refl _, .inl ⟨rfl, rfl⟩, by simp, rfl, by simp, by simp⟩
theorem LL.lls (L : LL E h0 h out qs ls) : Lls E h out ls := ⟨qs, L.oa.hasL, L.len, L.el⟩
theorem LL.grow (L : LL E h0 h out qs ls) (x : Ext h h') : LL E h0 h' out qs ls :=
 ⟨L.ext.trans x, L.oa.ext x, L.ob, L.len, fun i s l h1 h2 => (L.el i s l h1 h2).mono x, L.eb⟩
theorem LL.back {h00 : Heap} (L : LL E h0 h out qs ls) (x : Ext h00 h0) : LL E h00 h out qs ls :=
 ⟨x.trans L.ext, L.oa, fun s hs => Nat.le_trans x.len (L.ob s hs), L.len, L.el, fun i t ht => ⟨Nat.le_trans x.len (L.eb i t ht).1, (L.eb i t ht).2⟩⟩
theorem LL.live (L : LL E h0 h out qs ls) {i : Nat} {t : SL} (ht : qs[i]? = some (some t)) : t.b < h.length := by
 have hi := (List.getElem?_eq_some_iff.1 ht).1
 have hl : ls[i]? = some (ls[i]'(by rw [<- L.len]; exact hi)) := List.getElem?_eq_getElem _
 exact HasL.live (L.el i _ _ ht hl) t rfl
theorem LL.push {s : OSl} {l : List α} {by' : Nat} {K : OSl -> Heap -> Prop} (L : LL E h0 h out qs ls) (H : HasL E h s l) (hs : ∀ t, s = some t -> h0.length <= t.b /\ ∀ o, out = some o -> o.b ≠ t.b) (hb : (qs.length + 1) * by' <= 140737488355328)
  (hK : ∀ out' h', LL E h0 h' out' (qs ++ [s]) (ls ++ [l]) -> zM (fun b => ∃ o, out = some o /\ o.b = b) h h' -> h.length <= h'.length -> (∀ o', out' = some o' -> h.length <= o'.b ∨ ∃ o, out = some o /\ o.b = o'.b) -> K out' h') :
  zC 1 by' out (some ⟨h.length, 0, 1, 1, 0⟩) (h ++ [.cells [.sl s] true]) K := by
 have hx : Ext h (h ++ [Blk.cells [.sl s] true]) := .app _ _
 have L1 := L.grow hx
 refine Apd.append (E := slE) L1.oa (m := [s]) (HasL.new (E := slE) (l := [s]) (n := 1) rfl rfl) hb fun out' h' A K1 hl ho => ?_
 have Kall : zM (fun b => ∃ o, out = some o /\ o.b = b) h h' := (zK hx).trans K1
 have hlen : h.length <= h'.length := by have := hx.len; omega
 have ho' : ∀ o', out' = some o' -> h.length <= o'.b ∨ ∃ o, out = some o /\ o.b = o'.b := fun o' h1 => (ho o' h1).imp (fun h => by have := hx.len; omega) id
 have hne : ∀ {t : SL}, t.b < h.length -> (∀ o, out = some o -> o.b ≠ t.b) -> ∀ o', out' = some o' -> o'.b ≠ t.b := fun hlt hn o' h1 => by
  rcases ho' o' h1 with h2 | ⟨o, h2, h3⟩
  ·omega
  ·rw [<- h3]; exact hn o h2
 have notX : ∀ {t : SL}, (∀ o, out = some o -> o.b ≠ t.b) -> ¬ ∃ o, out = some o /\ o.b = t.b := fun hn ⟨o, h1, h2⟩ => hn o h1 h2
 refine hK out' h' ⟨?_, A, ?_, by simp [L.len], ?_, ?_⟩ Kall hlen ho'
 ·intro b B hB
  refine Kall b B (fun ⟨o, h1, h2⟩ => ?_) (L.ext _ _ hB)
  have := L.ob o h1; have := zD hB; omega
 ·intro o' h1
  rcases ho' o' h1 with h2 | ⟨o, h2, h3⟩
  ·have := L.ext.len; omega
  ·rw [<- h3]; exact L.ob o h2
 ·intro i s' l' g1 g2
  rw [List.getElem?_append] at g1 g2
  have hll := L.len
  split at g1
  ·rename_i hi
   rw [if_pos (by omega)] at g2
   exact Kall.hasL (fun t ht => notX (L.eb i t (by rw [g1, ht])).2) (L.el i s' l' g1 g2)
  ·rename_i hi
   rw [if_neg (by omega)] at g2
   have hz : i - qs.length = 0 := by
    have := (List.getElem?_eq_some_iff.1 g1).1; simp at this; omega
   rw [hz] at g1
   rw [<- hll, hz] at g2
   simp at g1 g2
   subst g1 g2
   exact Kall.hasL (fun t ht => notX (hs t ht).2) H
 ·intro i t g1
  rw [List.getElem?_append] at g1
  split at g1
  ·rename_i hi
   exact ⟨(L.eb i t g1).1, hne (L.live g1) (L.eb i t g1).2⟩
  ·rename_i hi
   have hz : i - qs.length = 0 := by
    have := (List.getElem?_eq_some_iff.1 g1).1; simp at this; omega
   rw [hz] at g1
   simp at g1
   exact ⟨(hs t g1).1, hne (HasL.live H t g1) (hs t g1).2⟩
end
end Go.Ab
namespace Go.Ab
open Go.ChangeShapes Go.WideShapes Go.ChangeAt Go.RowKit
set_option linter.unusedSimpArgs false
set_option linter.unusedVariables false
section
variable {P : Program} {W : World} {H : Type} {enc : TypeId × Value -> H} {α δ : Type}
theorem zHD {l m : List (DataW H)} {d : DataW H} (h : d ∈ l) : SizeOf.sizeOf d < SizeOf.sizeOf (DataW.slice l m) := by
 have := List.sizeOf_lt_of_mem h
 simp only [DataW.slice.sizeOf_spec]
 omega
set_option maxRecDepth 100000 in
theorem zLR [Inhabited α] [Inhabited δ] (E : Enc α) (R : Heap -> α -> δ -> Prop) (hR : ∀ {h h' : Heap} {a : α} {d : δ}, Ext h h' -> R h a d -> R h' a d)
  {t e : TypeId} {v : Value} {fuel : Nat} {x : DataW H × List MemPlace} (ht : P.underlying t = some (.slice e)) (hC : P.cellsOf e = E.sz)
  (hel : ∀ (n : Nat) (cs' : List Value) (y : DataW H × List MemPlace), SizeOf.sizeOf y.1 < SizeOf.sizeOf x.1 -> DataW.trod enc P W 0 (fun _ => true) true n e cs' = some y -> cs'.length = E.sz -> ∀ (μ : Ren) (hp : Heap), HRel μ hp W -> xB hp -> ∀ (b0 : Nat) (c0 : List AV) (rw0 : Bool), hp[b0]? = some (.cells c0 rw0) ->
   ∃ (l1 : Ren) (bs : Heap) (a : α) (d : δ), HRel (μ ++ l1) (hp ++ bs) W /\ xB (hp ++ bs) /\ relL (μ ++ l1) (E.f a) cs' /\ R (hp ++ bs) a d)
  (hf : DataW.trod enc P W 0 (fun _ => true) true fuel t [v] = some x) {μ0 : Ren} {hp0 : Heap} (HH : HRel μ0 hp0 W) (ro : xB hp0) {b0 : Nat} {c0 : List AV} {rw0 : Bool} (hb0 : hp0[b0]? = some (.cells c0 rw0)) :
  ∃ (l1 : Ren) (bs : Heap) (q : OSl) (L : List α) (l : List δ), HRel (μ0 ++ l1) (hp0 ++ bs) W /\ xB (hp0 ++ bs) /\ AV.rel (μ0 ++ l1) (.sl q) v /\ HasL E (hp0 ++ bs) q L /\ L.length = l.length /\
   ∀ (j : Nat) (a : α) (d : δ), L[j]? = some a -> l[j]? = some d -> R (hp0 ++ bs) a d := by
 have hsz := E.pos
 rcases Deep.open_slice ht hf with ⟨hcs, _⟩ | ⟨a, len0, cap, m, n, D, Pl, hcs, _, hlc, hm, hmm, hxe, hx⟩
 ·simp at hcs
  subst hcs
  exact ⟨[], [], none, [], [], by simpa using HH, by simpa using ro, rfl, rfl, rfl, by simp⟩
 ·simp at hcs
  subst hcs
  simp only [if_true] at hmm
  subst hmm
  by_cases hcap : m = 0
  ·have hl0 : len0 = 0 := by omega
   subst hcap hl0
   refine ⟨[], [], some ⟨b0, 0, 0, 0, 0⟩, [], [], by simpa using HH, by simpa using ro, ⟨⟨0, 0, 0⟩, 0, _, .inr rfl, rfl, Nat.le_refl _, .inl rfl, fun _ => rfl, fun hn => absurd rfl hn⟩, ⟨rfl, Nat.le_refl _, .inl rfl, ?_⟩, rfl, by simp⟩
   simp [zA, hb0, Enc.all]
  ·have h1 := hlc
   have hsp : ∃ (ab ao : Nat) (C : Array Value) (tt : TypeId) (fz : Nat × Nat), a = ⟨ab, ao, none⟩ /\ W.heap[ab]? = some (.cells C tt fz) /\ ao <= C.size := by
    obtain ⟨cs', hcl, htr⟩ := hx 0 (by omega)
    rw [hC] at hcl
    obtain ⟨_, hlen, hcell⟩ := World.cells?_some hcl
    have h0 := hcell 0 E.pos
    have hpos := E.pos
    have hget : cs'[0]? = some (cs'[0]'(by omega)) := List.getElem?_eq_getElem _
    rw [hget] at h0
    obtain ⟨ab, ao, sp⟩ := a
    have e0 : Addr.add (Addr.add ⟨ab, ao, sp⟩ (0 * E.sz)) 0 = ⟨ab, ao, sp⟩ := by simp [Addr.add]
    rw [e0] at h0
    unfold World.cell? at h0
    split at h0
    ·rename_i C tt fz hb
     cases sp with
     | none =>
      refine ⟨ab, ao, C, tt, fz, rfl, hb, ?_⟩
      exact Nat.le_of_lt (Array.getElem?_eq_some_iff.1 h0).1
     | some sp => simp at h0
    ·cases h0
   obtain ⟨ab, ao, C, tt, fz, rfl, hb, haoC⟩ := hsp
   have hbl := kD hb
   have inner : ∀ k, k <= len0 -> ∃ (l1 : Ren) (bs : Heap) (L : List α) (l : List δ), HRel (μ0 ++ l1) (hp0 ++ bs) W /\ xB (hp0 ++ bs) /\ L.length = k /\ l.length = k /\
     (∀ (j : Nat) (e : α), L[j]? = some e -> ∀ (t : Nat) (x : AV), (E.f e)[t]? = some x -> ∃ y, C[ao + j * E.sz + t]? = some y /\ x.rel (μ0 ++ l1) y) /\ (∀ (j : Nat) (e : α) (d : δ), L[j]? = some e -> l[j]? = some d -> R (hp0 ++ bs) e d) := by
    intro k
    induction k with
    | zero => intro _; exact ⟨[], [], [], [], by simpa using HH, by simpa using ro, rfl, rfl, by simp, by simp⟩
    | succ k ih =>
     intro hk
     obtain ⟨l1, bs, L, l, i1, i2, i4, i5, i6, i7⟩ := ih (by omega)
     have i3 : (hp0 ++ bs)[b0]? = some (.cells c0 rw0) := by rw [List.getElem?_append_left (zD hb0)]; exact hb0
     obtain ⟨cs', hcl, htr⟩ := hx k (by omega)
     rw [hC] at hcl
     obtain ⟨_, hlen, hcell⟩ := World.cells?_some hcl
     have hsd : SizeOf.sizeOf (D k, Pl k).1 < SizeOf.sizeOf x.1 := by
      rw [hxe]
      exact zHD (List.mem_map.2 ⟨k, List.mem_range.2 (by omega), rfl⟩)
     obtain ⟨l2, bs2, e, d, k1, k2, k3, k4⟩ := hel n cs' _ hsd htr hlen _ _ i1 i2 _ _ _ i3
     rw [List.append_assoc, List.append_assoc] at k1
     rw [List.append_assoc] at k2 k3 k4
     refine ⟨l1 ++ l2, bs ++ bs2, L ++ [e], l ++ [d], k1, k2, by simp [i4], by simp [i5], ?_, ?_⟩
     ·intro j x hj t z hz
      rw [List.getElem?_append] at hj
      split at hj
      ·obtain ⟨y, g1, g2⟩ := i6 j x hj t z hz
       exact ⟨y, g1, AV.rel.mono (by rw [<- List.append_assoc]; exact Ren.le_append _ _) _ _ g2⟩
      ·have hj0 : j - L.length = 0 := by have := zD hj; simp at this; omega
       rw [hj0] at hj
       simp at hj
       subst hj
       have hjk : j = k := by omega
       subst hjk
       obtain ⟨y, g1, g2⟩ := k3.get hz
       have ht : t < E.sz := by have := zD hz; rw [E.len] at this; exact this
       refine ⟨y, ?_, g2⟩
       have := hcell t ht
       rw [xO, xO] at this
       unfold World.cell? at this
       simp only [hb] at this
       rw [<- g1, <- this]
       simp
     ·intro j x z hj hz
      rw [List.getElem?_append] at hj hz
      split at hj
      ·rw [if_pos (by omega)] at hz
       exact hR (by rw [<- List.append_assoc]; exact Ext.app _ _) (i7 j x z hj hz)
      ·rw [if_neg (by omega)] at hz
       have hj0 : j - L.length = 0 := by have := zD hj; simp at this; omega
       have hz0 : j - l.length = 0 := by omega
       rw [hj0] at hj
       rw [hz0] at hz
       simp at hj hz
       subst hj hz
       exact k4
   obtain ⟨l1, bs, L, l, i1, i2, i4, i5, i6, i7⟩ := inner len0 (Nat.le_refl _)
   have hμ := i1.len
   have lastc : ∀ i, i < len0 -> ao + i * E.sz + E.sz <= C.size := by
    intro i hi
    have hLi : L[i]? = some (L[i]'(by omega)) := List.getElem?_eq_getElem _
    have hlast : (E.f (L[i]'(by omega)))[E.sz - 1]? = some ((E.f (L[i]'(by omega)))[E.sz - 1]'(by rw [E.len]; omega)) := List.getElem?_eq_getElem _
    obtain ⟨y, g1, _⟩ := i6 i _ hLi (E.sz - 1) _ hlast
    have := (Array.getElem?_eq_some_iff.1 g1).1
    omega
   have hlenC : len0 * E.sz <= C.size - ao := by
    rcases Nat.eq_zero_or_pos len0 with hz | hz
    ·subst hz; simp
    ·have := lastc (len0 - 1) (by omega)
     have e1 : (len0 - 1) * E.sz + E.sz = len0 * E.sz := by
      rw [<- Nat.succ_mul]; congr 1; omega
     omega
   have HB : HRel (μ0 ++ l1 ++ [⟨ab, ao, C.size - ao⟩]) (hp0 ++ bs ++ [.cells (E.all L) false]) W := by
    refine i1.addRO (e := ⟨ab, ao, C.size - ao⟩) (B := .cells (E.all L) false) i2 rfl hbl ⟨C, tt, fz, hb, ?_, ?_, ?_, ?_, ?_⟩
    ·show C.size = ao + (C.size - ao); omega
    ·rw [Enc.all_length, i4]; exact hlenC
    ·simp only [zU, List.all_eq_true]
     intro x hx'
     simp only [Enc.all, List.mem_flatten, List.mem_map] at hx'
     obtain ⟨l0, ⟨a, _, rfl⟩, h⟩ := hx'
     have := E.one a
     simp only [zU, List.all_eq_true] at this
     exact this x h
    ·intro j x hj
     have hjl := zD hj
     rw [Enc.all_length, i4] at hjl
     have hi : j / E.sz < len0 := Nat.div_lt_of_lt_mul (by rw [Nat.mul_comm]; exact hjl)
     have hLi : L[j / E.sz]? = some (L[j / E.sz]'(by omega)) := List.getElem?_eq_getElem _
     have hat := Enc.all_at (E := E) hLi
     have hdm : j / E.sz * E.sz + j % E.sz = j := by rw [Nat.mul_comm]; exact Nat.div_add_mod _ _
     have hml : j % E.sz < E.sz := Nat.mod_lt _ hsz
     have : (E.f (L[j / E.sz]'(by omega)))[j % E.sz]? = some x := by
      rw [<- hat, List.getElem?_take, if_pos hml, List.getElem?_drop, hdm, hj]
     obtain ⟨y, g1, g2⟩ := i6 _ _ hLi _ _ this
     refine ⟨y, ?_, AV.rel.mono (Ren.le_append _ _) _ _ g2⟩
     rw [<- g1]
     simp only
     congr 1
     omega
    ·intro hrw; cases hrw
   have ea : μ0 ++ l1 ++ [(⟨ab, ao, C.size - ao⟩ : ME)] = μ0 ++ (l1 ++ [⟨ab, ao, C.size - ao⟩]) := List.append_assoc _ _ _
   have eb : hp0 ++ bs ++ [Blk.cells (E.all L) false] = hp0 ++ (bs ++ [.cells (E.all L) false]) := List.append_assoc _ _ _
   refine ⟨l1 ++ [⟨ab, ao, C.size - ao⟩], bs ++ [.cells (E.all L) false], some ⟨(hp0 ++ bs).length, 0, len0, m, 0⟩, L, l, ?_, ?_, ?_, ?_, by omega, ?_⟩
   ·rw [<- ea, <- eb]; exact HB
   ·rw [<- eb]; exact i2.add rfl
   ·rw [<- ea]
    exact ⟨⟨ab, ao, C.size - ao⟩, m, _, .inl (by rw [<- hμ]; simp), rfl, h1, .inr rfl, fun _ => rfl, fun hn => absurd rfl hn⟩
   ·rw [<- eb]
    refine ⟨i4.symm, h1, .inl rfl, ?_⟩
    rw [zQ (C := E.all L) (rw' := false) (by simp) (by simp [Enc.all_length])]
    simp [<- Enc.all_length]
   ·intro j e d hj hd
    rw [<- eb]
    exact hR (Ext.app _ _) (i7 j e d hj hd)
end
end Go.Ab
