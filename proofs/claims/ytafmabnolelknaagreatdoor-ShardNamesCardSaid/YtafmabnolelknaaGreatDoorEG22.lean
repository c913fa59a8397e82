import Derived.Test.YtafmabnolelknaaGreatDoorEG3
import Derived.Test.YtafmabnolelknaaGreatDoorEG5
import Derived.Test.YtafmabnolelknaaGreatDoorEG8
import Derived.Test.YtafmabnolelknaaGreatDoorEG12
import Derived.Test.YtafmabnolelknaaGreatDoorEG13
import Derived.Test.YtafmabnolelknaaGreatDoorEG21
import Derived.Deep.Slices
import Derived.Deep.Strs
namespace Go.Ab
open Go.ChangeShapes Go.WideShapes Go.ChangeAt Go.RowKit
set_option linter.unusedSimpArgs false
set_option linter.unusedVariables false
def ReadOnly (hp : Heap) : Prop := ∀ (b : Nat) (B : Blk), hp[b]? = some B → B.rw = false
theorem ReadOnly.add {hp : Heap} (h : ReadOnly hp) {B : Blk} (hB : B.rw = false) : ReadOnly (hp ++ [B]) := by
 intro b B' hb
 rw [List.getElem?_append] at hb
 split at hb
 ·exact h b B' hb
 ·have : b - hp.length = 0 := by have := lt_of_get hb; simp at this; omega
  rw [this] at hb; simp at hb; subst hb; exact hB
theorem HRel.addRO {μ : Ren} {hp : Heap} {W : World} (H : HRel μ hp W) (ro : ReadOnly hp) {e : ME} {B : Blk} (hB : B.rw = false) (he : e.r < W.heap.size) (hb : BlkRel (μ ++ [e]) W e B) : HRel (μ ++ [e]) (hp ++ [B]) W := by
 have ro' := ro.add hB
 have split2 : ∀ {b : Nat} {B' : Blk}, (hp ++ [B])[b]? = some B' → (b < hp.length ∧ hp[b]? = some B') ∨ (b = hp.length ∧ B' = B) := by
  intro b B' hb
  rw [List.getElem?_append] at hb
  split at hb
  ·exact .inl ⟨by assumption, hb⟩
  ·have : b - hp.length = 0 := by have := lt_of_get hb; simp at this; omega
   rw [this] at hb; simp at hb
   exact .inr ⟨by omega, hb.symm⟩
 have splitm : ∀ {b : Nat} {e' : ME}, (μ ++ [e])[b]? = some e' → (b < μ.length ∧ μ[b]? = some e') ∨ (b = μ.length ∧ e' = e) := by
  intro b e' hb
  rw [List.getElem?_append] at hb
  split at hb
  ·exact .inl ⟨by assumption, hb⟩
  ·have : b - μ.length = 0 := by have := lt_of_get hb; simp at this; omega
   rw [this] at hb; simp at hb
   exact .inr ⟨by omega, hb.symm⟩
 have hlen := H.len
 refine ⟨by simp [hlen], ?_, ?_, ?_⟩
 ·intro b B' e' h1 h2
  rcases split2 h1 with ⟨g1, g2⟩ | ⟨g1, rfl⟩ <;> rcases splitm h2 with ⟨g3, g4⟩ | ⟨g3, rfl⟩
  ·exact (H.blk b B' e' g2 g4).mono (Ren.le_append _ _)
  ·omega
  ·omega
  ·exact hb
 ·intro b1 b2 B1 B2 e1 e2 hne h1 h2 hrw
  rw [ro' b1 B1 h1] at hrw; cases hrw
 ·intro b e' h2
  rcases splitm h2 with ⟨g3, g4⟩ | ⟨g3, rfl⟩
  ·exact H.bnd b e' g4
  ·exact he
section
variable {H : Type} {enc : TypeId × Value → H} {P : Program} {W : World} {α : Type}
theorem slice_in0 [Inhabited α] (E : Enc α) {t e : TypeId} {v : Value} {fuel : Nat} {x : DataW H × List MemPlace} (ht : P.underlying t = some (.slice e)) (hC : P.cellsOf e = E.sz)
  (hel : ∀ (n : Nat) (cs' : List Value) (y : DataW H × List MemPlace), DataW.trod enc P W 0 (fun _ => true) true n e cs' = some y → cs'.length = E.sz → ∃ a, ∀ μ, relL μ (E.f a) cs')
  (hf : DataW.trod enc P W 0 (fun _ => true) true fuel t [v] = some x) {μ : Ren} {hp : Heap} (HH : HRel μ hp W) (ro : ReadOnly hp) {b0 : Nat} {c0 : List AV} {rw0 : Bool} (hb0 : hp[b0]? = some (.cells c0 rw0)) :
  ∃ (l1 : Ren) (bs : Heap) (q : Option SL) (l : List α), HRel (μ ++ l1) (hp ++ bs) W ∧ ReadOnly (hp ++ bs) ∧ AV.rel (μ ++ l1) (.sl q) v ∧ HasL E (hp ++ bs) q l := by
 have hμ := HH.len
 rcases Deep.open_slice ht hf with ⟨hcs, _⟩ | ⟨a, len, cap, m, n, D, Pl, hcs, _, hlc, hm, hmm, _, hx⟩
 ·simp at hcs
  subst hcs
  exact ⟨[], [], none, [], by simpa using HH, by simpa using ro, rfl, rfl⟩
 ·simp at hcs
  subst hcs
  simp only [if_true] at hmm
  subst hmm
  by_cases hcap : m = 0
  ·have hlen0 : len = 0 := by omega
   subst hcap hlen0
   refine ⟨[], [], some ⟨b0, 0, 0, 0, 0⟩, [], by simpa using HH, by simpa using ro, ⟨⟨0, 0, 0⟩, 0, _, .inr rfl, rfl, Nat.le_refl _, .inl rfl, fun _ => rfl, fun hn => absurd rfl hn⟩, rfl, Nat.le_refl _, .inl rfl, ?_⟩
   simp [cellsAt, hb0, Enc.all]
  ·have h1 := hlc
   have hsp : ∃ (ab ao : Nat) (C : Array Value) (tt : TypeId) (fz : Nat × Nat), a = ⟨ab, ao, none⟩ ∧ W.heap[ab]? = some (.cells C tt fz) := by
    obtain ⟨cs', hcl, htr⟩ := hx 0 (by omega)
    rw [hC] at hcl
    obtain ⟨_, hlen, hcell⟩ := World.cells?_some hcl
    have h0 := hcell 0 E.pos
    have hpos := E.pos
    have hget : cs'[0]? = some (cs'[0]'(by omega)) := List.getElem?_eq_getElem _
    rw [hget] at h0
    obtain ⟨ab, ao, sp⟩ := a
    have e0 : Addr.add (Addr.add ⟨ab, ao, sp⟩ (0 * E.sz)) 0 = ⟨ab, ao, sp⟩ := by simp [Addr.add]
    rw [e0] at h0
    unfold World.cell? at h0
    split at h0
    ·rename_i C tt fz hb
     cases sp with
     | none => exact ⟨ab, ao, C, tt, fz, rfl, hb⟩
     | some sp => simp at h0
    ·cases h0
   obtain ⟨ab, ao, C, tt, fz, rfl, hb⟩ := hsp
   have hbl := heap_lt hb
   have hsz := E.pos
   have each : ∀ i, i < m → ∃ a : α, ∀ (j : Nat) (x : AV), (E.f a)[j]? = some x → ∃ y, C[ao + i * E.sz + j]? = some y ∧ ∀ μ, x.rel μ y := by
    intro i hi
    obtain ⟨cs', hcl, htr⟩ := hx i hi
    rw [hC] at hcl
    obtain ⟨_, hlen, hcell⟩ := World.cells?_some hcl
    obtain ⟨a, ha⟩ := hel _ _ _ htr hlen
    refine ⟨a, fun j x hj => ?_⟩
    have hjl : j < E.sz := by have := lt_of_get hj; rw [E.len] at this; exact this
    have hget : cs'[j]? = some (cs'[j]'(by omega)) := List.getElem?_eq_getElem _
    refine ⟨cs'[j]'(by omega), ?_, fun μ => ?_⟩
    ·have := hcell j hjl
     unfold World.cell? at this
     have eb : ((Addr.add (Addr.add ⟨ab, ao, none⟩ (i * E.sz)) j)) = ⟨ab, ao + i * E.sz + j, none⟩ := by rw [add_addr, add_addr]
     rw [eb] at this
     simp only [hb] at this
     have this' : C[ao + i * E.sz + j]? = cs'[j]? := by simpa using this
     rw [this', hget]
    ·obtain ⟨y, g1, g2⟩ := (ha μ).get hj
     rw [hget] at g1; cases g1; exact g2
   obtain ⟨V, hV⟩ := Deep.choose_lt each
   generalize hl : (List.range len).map V = l
   have hll : l.length = len := by subst hl; simp
   have hgetl : ∀ i, i < len → l[i]? = some (V i) := by
    intro i hi
    subst hl
    simp [hi]
   have lastc : ∀ i, i < m → ao + i * E.sz + E.sz ≤ C.size := by
     intro i hi
     have hfl : (E.f (V i))[E.sz - 1]? = some ((E.f (V i))[E.sz - 1]'(by rw [E.len]; omega)) := List.getElem?_eq_getElem _
     obtain ⟨y, g1, _⟩ := hV i hi _ _ hfl
     have := (Array.getElem?_eq_some_iff.1 g1).1
     omega
   have haoC : ao ≤ C.size := by have := lastc 0 (by omega); omega
   have hlenC : len * E.sz ≤ C.size - ao := by
    rcases Nat.eq_zero_or_pos len with hz | hz
    ·subst hz; simp
    ·have := lastc (len - 1) (by omega)
     have e1 : (len - 1) * E.sz + E.sz = len * E.sz := by
      rw [← Nat.succ_mul]; congr 1; omega
     omega
   refine ⟨[⟨ab, ao, C.size - ao⟩], [.cells (E.all l) false], some ⟨hp.length, 0, len, m, 0⟩, l, HH.addRO ro rfl hbl ⟨C, tt, fz, hb, by simp; omega, by rw [Enc.all_length, hll]; exact hlenC, ?_, ?_, by simp⟩, ro.add rfl, ?_, ?_⟩
   ·simp only [oneAll, List.all_eq_true]
    intro x hx'
    simp only [Enc.all, List.mem_flatten, List.mem_map] at hx'
    obtain ⟨l0, ⟨a, _, rfl⟩, h⟩ := hx'
    have := E.one a
    simp only [oneAll, List.all_eq_true] at this
    exact this x h
   ·intro j x hj
    have hjl := lt_of_get hj
    rw [Enc.all_length, hll] at hjl
    have hi : j / E.sz < len := Nat.div_lt_of_lt_mul (by rw [Nat.mul_comm]; exact hjl)
    have hdm : j / E.sz * E.sz + j % E.sz = j := by rw [Nat.mul_comm]; exact Nat.div_add_mod _ _
    have hml : j % E.sz < E.sz := Nat.mod_lt _ hsz
    have hat := Enc.all_at (E := E) (hgetl _ hi)
    have : (E.f (V (j / E.sz)))[j % E.sz]? = some x := by
     rw [← hat, List.getElem?_take, if_pos hml, List.getElem?_drop, hdm, hj]
    obtain ⟨y, g1, g2⟩ := hV _ (by omega) _ _ this
    refine ⟨y, ?_, g2 _⟩
    rw [← g1]
    simp only
    congr 1
    omega
   ·exact ⟨⟨ab, ao, C.size - ao⟩, m, _, .inl (by rw [← hμ]; simp), rfl, h1, .inr rfl, fun _ => rfl, fun hn => absurd rfl hn⟩
   ·refine ⟨hll.symm, h1, .inl rfl, ?_⟩
    rw [cellsAt_mk (C := E.all l) (rw' := false) (by simp) (by simp [Enc.all_length])]
    simp [← Enc.all_length]
end
end Go.Ab
namespace Go.Ab
set_option linter.unusedSimpArgs false
set_option linter.unusedVariables false
abbrev Bs := List UInt8
def Keeps (X : Nat → Prop) (h h' : Heap) : Prop := ∀ (b : Nat) (B : Blk), ¬ X b → h[b]? = some B → h'[b]? = some B
theorem Keeps.refl (X : Nat → Prop) (h : Heap) : Keeps X h h := fun _ _ _ e => e
theorem Keeps.trans {X : Nat → Prop} {a b c : Heap} (h : Keeps X a b) (h' : Keeps X b c) : Keeps X a c := fun k B hk e => h' k B hk (h k B hk e)
theorem keeps_of_ext {X : Nat → Prop} {h h' : Heap} (e : Ext h h') : Keeps X h h' := fun b B _ hb => e b B hb
theorem Keeps.cells {X : Nat → Prop} {h h' : Heap} (K : Keeps X h h') {p : PA} {n : Nat} {c : List AV} (hp : ¬ X p.b) (hc : cellsAt h p n = some c) : cellsAt h' p n = some c := by
 unfold cellsAt at hc ⊢
 split at hc
 ·rename_i c' rw' hb
  rw [K _ _ hp hb]; exact hc
 ·cases hc
theorem Keeps.hasL {α : Type} {E : Enc α} {X : Nat → Prop} {h h' : Heap} (K : Keeps X h h') {q : Option SL} {l : List α} (hq : ∀ s, q = some s → ¬ X s.b) (H : HasL E h q l) : HasL E h' q l := by
 cases q with
 | none => exact H
 | some s => exact ⟨H.1, H.2.1, H.2.2.1, K.cells (hq s rfl) H.2.2.2⟩
theorem HasL.live {α : Type} {E : Enc α} {h : Heap} {q : Option SL} {l : List α} (H : HasL E h q l) : ∀ s, q = some s → s.b < h.length := by
 intro s hs
 subst hs
 obtain ⟨c, rw, hb, _⟩ := cellsAt_some H.2.2.2
 exact lt_of_get hb
theorem store6 {h : Heap} {p o : Nat} {c xs : List AV} {K : Heap → Prop} (hb : h[p]? = some (.cells c true)) (ho : o + xs.length ≤ c.length) (hK : K (h.set p (.cells (splice c o xs) true))) : PStore h ⟨p, 0 + o⟩ xs K := by
 unfold PStore
 simp only [hb, Nat.zero_add]
 exact ⟨ho, hK⟩
theorem keeps_set {h : Heap} {p : Nat} {B : Blk} {X : Nat → Prop} (hp : X p) : Keeps X h (h.set p B) := by
 intro b C hb hC
 rw [List.getElem?_set, if_neg]
 ·exact hC
 ·intro he; subst he; exact hb hp
def byE : Enc UInt8 := ⟨1, fun b => [.int .u8 b.toNat], fun _ => rfl, by omega, fun _ => rfl⟩
def intE : Enc Int := ⟨1, fun n => [.int .i64 n], fun _ => rfl, by omega, fun _ => rfl⟩
def slE : Enc (Option SL) := ⟨1, fun q => [.sl q], fun _ => rfl, by omega, fun _ => rfl⟩
theorem byE_all {l : Bs} : byE.all l = byteAVs l := by
 induction l with
 | nil => rfl
 | cons x l ih => rw [Enc.all_cons, ih]; rfl
theorem byAV_len {l : Bs} : (byteAVs l).length = l.length := by simp [byteAVs]
def Apd {α : Type} (E : Enc α) (h : Heap) (q : Option SL) (l : List α) : Prop :=
 (q = none ∧ l = []) ∨ ∃ a o, q = some ⟨a, 0, l.length, l.length, o⟩ ∧ (o = 0 ∨ o = E.sz) ∧ h[a]? = some (.cells (E.all l) true)
def New {α : Type} (E : Enc α) (h h' : Heap) (q : Option SL) (l : List α) : Prop := Ext h h' ∧ Apd E h' q l ∧ ∀ s, q = some s → h.length ≤ s.b
section
variable {α : Type} {E : Enc α} {h h' : Heap} {q : Option SL} {l m : List α}
theorem Apd.hasL (A : Apd E h q l) : HasL E h q l := by
 rcases A with ⟨rfl, rfl⟩ | ⟨a, o, rfl, ho, hb⟩
 ·rfl
 ·refine ⟨rfl, Nat.le_refl _, ho, ?_⟩
  rw [cellsAt_mk (p := ⟨a, 0⟩) hb (by simp [Enc.all_length])]
  simp [← Enc.all_length]
theorem Apd.keeps {X : Nat → Prop} (A : Apd E h q l) (K : Keeps X h h') (hq : ∀ s, q = some s → ¬ X s.b) : Apd E h' q l := by
 rcases A with ⟨rfl, rfl⟩ | ⟨a, o, rfl, ho, hb⟩
 ·exact .inl ⟨rfl, rfl⟩
 ·exact .inr ⟨a, o, rfl, ho, K _ _ (hq _ rfl) hb⟩
theorem Apd.ext (A : Apd E h q l) (K : Ext h h') : Apd E h' q l := A.keeps (X := fun _ => False) (keeps_of_ext K) (fun _ _ h => h)
theorem Apd.mk {a o : Nat} {n : Nat} (hn : n = l.length) (ho : o = 0 ∨ o = E.sz) (hb : h[a]? = some (.cells (E.all l) true)) : Apd E h (some ⟨a, 0, n, n, o⟩) l := by
 subst hn; exact .inr ⟨a, o, rfl, ho, hb⟩
theorem Apd.append0 {by' : Nat} {K : Option SL → Heap → Prop} (A : Apd E h q l) (hb : (l.length + m.length) * by' ≤ 140737488355328)
  (hK : ∀ q' h', Apd E h' q' (l ++ m) → Keeps (fun b => ∃ s, q = some s ∧ s.b = b) h h' → h.length ≤ h'.length → (∀ s', q' = some s' → h.length ≤ s'.b ∨ ∃ s, q = some s ∧ s.b = s'.b) → K q' h') : PAppend E.sz by' q m.length (E.all m) h K := by
 refine ⟨by rw [Enc.all_length], ?_⟩
 rcases A with ⟨rfl, rfl⟩ | ⟨a, o, rfl, ho, hb5⟩
 ·simp only
  split
  ·rename_i hm
   have : m = [] := List.eq_nil_of_length_eq_zero hm
   subst this
   exact hK _ _ (.inl ⟨rfl, rfl⟩) (.refl _ _) (Nat.le_refl _) (fun s' h => by cases h)
  ·refine ⟨by simpa using hb, E.pos, hK _ _ (Apd.mk (by simp) (.inr rfl) (by simp)) (keeps_of_ext (Ext.app _ _)) (by simp) (fun s' h => by cases h; exact .inl (Nat.le_refl _))⟩
 ·simp only
  have hset : ∀ B : Blk, Keeps (fun b => ∃ s' : SL, some (⟨a, 0, l.length, l.length, o⟩ : SL) = some s' ∧ s'.b = b) h (h.set a B) := by
   intro B b C hb hC
   rw [List.getElem?_set, if_neg]
   ·exact hC
   ·intro he; exact hb ⟨_, rfl, he⟩
  split
  ·rename_i hle
   have hm : m.length = 0 := by omega
   have : m = [] := List.eq_nil_of_length_eq_zero hm
   subst this
   rw [hb5]
   simp only
   have e0 : E.all ([] : List α) = [] := rfl
   refine ⟨by simp [Enc.all_length, e0], hK _ _ (Apd.mk (by simp) ho ?_) (hset _) (by simp) (fun s' h => by cases h; exact .inr ⟨_, rfl, rfl⟩)⟩
   have hlt := lt_of_get hb5
   rw [List.getElem?_set_self hlt]
   simp [Enc.all, splice, List.take_append_drop]
  ·have hold : cellsAt h ⟨a, 0⟩ (l.length * E.sz) = some (E.all l) := by
    rw [cellsAt_mk (p := ⟨a, 0⟩) hb5 (by simp [Enc.all_length])]
    simp [← Enc.all_length]
   refine ⟨hb, E.pos, ?_⟩
   rw [hold, hb5]
   simp only
   rcases ho with rfl | rfl
   ·rw [if_pos rfl]
    exact hK _ _ (Apd.mk (by simp) (.inr rfl) (by simp [Enc.all_append])) (keeps_of_ext (Ext.app _ _)) (by simp) (fun s' h => by cases h; exact .inl (Nat.le_refl _))
   ·have h0' : ¬ E.sz = 0 := by have := E.pos; omega
    rw [if_neg h0']
    refine ⟨trivial, rfl, hK _ _ (Apd.mk (by simp) (.inr rfl) ?_) ((hset _).trans (keeps_of_ext (Ext.app _ _))) (by simp) (fun s' h => by cases h; exact .inl (Nat.le_refl _))⟩
    rw [List.getElem?_append_right (by simp)]
    simp [Enc.all_append]
theorem Apd.append {src : Option SL} {by' : Nat} {K : Option SL → Heap → Prop} (A : Apd E h q l) (H : HasL E h src m) (hb : (l.length + m.length) * by' ≤ 140737488355328)
  (hK : ∀ q' h', Apd E h' q' (l ++ m) → Keeps (fun b => ∃ s, q = some s ∧ s.b = b) h h' → h.length ≤ h'.length → (∀ s', q' = some s' → h.length ≤ s'.b ∨ ∃ s, q = some s ∧ s.b = s'.b) → K q' h') : PAppendS E.sz by' q src h K := by
 refine ⟨E.all m, H.cells, ?_⟩
 rw [H.len]
 exact A.append0 hb hK
theorem New.hasL (N : New E h h' q l) : HasL E h' q l := N.2.1.hasL
theorem New.ext {h2 : Heap} (N : New E h h' q l) (K : Ext h' h2) : New E h h2 q l := ⟨N.1.trans K, N.2.1.ext K, N.2.2⟩
theorem New.append0 {by' : Nat} {K : Option SL → Heap → Prop} (N : New E h h' q l) (hb : (l.length + m.length) * by' ≤ 140737488355328)
  (hK : ∀ q' h2, New E h h2 q' (l ++ m) → K q' h2) : PAppend E.sz by' q m.length (E.all m) h' K := by
 refine N.2.1.append0 hb fun q' h2 A2 K2 hl hq => hK q' h2 ⟨?_, A2, ?_⟩
 ·intro b B hB
  exact K2 b B (fun ⟨s, a1, a2⟩ => by have := N.2.2 s a1; have := lt_of_get hB; omega) (N.1 _ _ hB)
 ·intro s hs
  have := N.1.len
  rcases hq s hs with a | ⟨s', a1, a2⟩
  ·omega
  ·have := N.2.2 s' a1; omega
theorem New.append {src : Option SL} {by' : Nat} {K : Option SL → Heap → Prop} (N : New E h h' q l) (H : HasL E h' src m) (hb : (l.length + m.length) * by' ≤ 140737488355328)
  (hK : ∀ q' h2, New E h h2 q' (l ++ m) → K q' h2) : PAppendS E.sz by' q src h' K := by
 refine ⟨E.all m, H.cells, ?_⟩
 rw [H.len]
 exact N.append0 hb hK
theorem New.mk1 {c : List AV} {n : Nat} (hn : n = l.length) (hc : c = E.all l) : New E h (h ++ [.cells c true]) (some ⟨h.length, 0, n, n, 0⟩) l :=
 ⟨.app _ _, Apd.mk hn (.inl rfl) (by rw [← hc]; simp), fun s hs => by cases hs; exact Nat.le_refl _⟩
theorem New.none : New E h h none ([] : List α) := ⟨.refl _, .inl ⟨rfl, rfl⟩, fun s hs => by cases hs⟩
end
theorem splice_setB {l : Bs} {i : Nat} {b : UInt8} (hi : i < l.length) : splice (byteAVs l) i [.int .u8 b.toNat] = byteAVs (l.set i b) := by
 unfold splice byteAVs
 rw [List.set_eq_take_append_cons_drop, if_pos hi]
 simp
theorem shr8 {n : Nat} : shrK .i64 (n : Int) 8 = ((n / 256 : Nat) : Int) := by
 have e : min ((8 : Int).toNat) IntKind.i64.bits = 8 := by decide
 simp only [shrK, e]
 rw [Int.fdiv_eq_ediv_of_nonneg _ (by decide)]
 simp
theorem shrB {n k : Nat} (hk : k ≤ 7) : shrK .i64 (n : Int) ((8 * k : Nat) : Int) = ((n / 256 ^ k : Nat) : Int) := by
 have e : min (((8 * k : Nat) : Int).toNat) IntKind.i64.bits = 8 * k := by
  have : IntKind.i64.bits = 64 := rfl
  rw [this]; omega
 simp only [shrK, e]
 rw [Int.fdiv_eq_ediv_of_nonneg _ (Int.pow_nonneg (by decide))]
 have : (256 : Nat) ^ k = 2 ^ (8 * k) := by rw [Nat.pow_mul]
 rw [this]
 simp
theorem u8c {n : Nat} : wrapK .u8 (n : Int) = ((UInt8.ofNat (n % 256)).toNat : Int) := by
 rw [wrapK_u8]; simp
theorem pslice_blk {sz : Nat} {q : Option SL} {lo : Int} {hi mx : Option Int} {K K2 : Option SL → Prop} (P : PSlice sz q lo hi mx K) (hK : ∀ q', K q' → (∀ s', q' = some s' → ∃ s, q = some s ∧ s'.b = s.b) → K2 q') : PSlice sz q lo hi mx K2 := by
 unfold PSlice at P ⊢
 cases q with
 | none => exact ⟨P.1, P.2.1, P.2.2.1, hK _ P.2.2.2 (fun s' h => by cases h)⟩
 | some s => exact ⟨P.1, P.2.1, P.2.2.1, P.2.2.2.1, P.2.2.2.2.1, hK _ P.2.2.2.2.2 (fun s' h => by cases h; exact ⟨s, rfl, rfl⟩)⟩
theorem HasL.slice2 {α : Type} {E : Enc α} {h : Heap} {q : Option SL} {l : List α} (H : HasL E h q l) {lo : Int} {hi : Option Int} {K : Option SL → Prop} (h0 : 0 ≤ lo) (h1 : lo ≤ hi.getD l.length) (h2 : hi.getD l.length ≤ l.length)
  (hK : ∀ q', HasL E h q' ((l.take (hi.getD l.length).toNat).drop lo.toNat) → (∀ s', q' = some s' → ∃ s, q = some s ∧ s'.b = s.b) → K q') : PSlice E.sz q lo hi none K :=
 pslice_blk (H.slice (K := fun q' => HasL E h q' ((l.take (hi.getD l.length).toNat).drop lo.toNat)) h0 h1 h2 fun _ h => h) hK
end Go.Ab
namespace Go.Ab
open Go.ChangeShapes Go.WideShapes Go.ChangeAt Go.RowKit
set_option linter.unusedSimpArgs false
set_option linter.unusedVariables false
section
variable {P : Program} {W : World} {H : Type} {enc : TypeId × Value → H} {α δ : Type}
theorem cell_slice_max {u e : TypeId} {a : Addr} {len cap : Nat} {r : Reach} {base : Nat} (hu : P.underlying u = some (.slice e)) (h : Cell.okWide P W r base u (.slice (some a) len cap)) : (cap : Int) ≤ 9223372036854775807 ∧ ∃ C tt fz, W.heap[a.block]? = some (.cells C tt fz) := by
 unfold Cell.okWide at h
 rw [hu] at h
 simp only [Cell.ok, hu] at h
 obtain ⟨_, h1, _, _, row, cells, h3, _⟩ := h
 refine ⟨h1, ?_⟩
 unfold World.shape? at h3
 split at h3
 ·rename_i C tt fz hb; exact ⟨C, tt, fz, hb⟩
 ·cases h3
end
end Go.Ab

namespace Go.Ab
set_option linter.unusedVariables false
set_option linter.unusedSimpArgs false
open Go.Crc hiding Bs
abbrev u32 (c : W) : AV := .int .u32 ((c.toNat : Nat) : Int)
theorem wrap32 {n : Nat} (h : n < 4294967296) : IntKind.wrap .u32 (n : Int) = n := by
 have : IntKind.wrap .u32 (n : Int) = (n : Int) % 4294967296 := by rfl
 rw [this]; omega
theorem of32 (a : W) : BitVec.ofInt 32 ((a.toNat : Nat) : Int) = a := by
 rw [BitVec.ofInt_natCast, BitVec.ofNat_toNat]; simp
theorem x32 (a b : W) : bitsXor .u32 ((a.toNat : Nat) : Int) ((b.toNat : Nat) : Int) = (((a ^^^ b).toNat : Nat) : Int) := by
 unfold bitsXor
 show IntKind.wrap .u32 (((BitVec.ofInt 32 ((a.toNat : Nat) : Int) ^^^ BitVec.ofInt 32 ((b.toNat : Nat) : Int)).toNat : Nat) : Int) = _
 rw [of32, of32, wrap32 (BitVec.isLt _)]
theorem and32 (a b : W) : bitsAnd .u32 ((a.toNat : Nat) : Int) ((b.toNat : Nat) : Int) = (((a &&& b).toNat : Nat) : Int) := by
 unfold bitsAnd
 show IntKind.wrap .u32 (((BitVec.ofInt 32 ((a.toNat : Nat) : Int) &&& BitVec.ofInt 32 ((b.toNat : Nat) : Int)).toNat : Nat) : Int) = _
 rw [of32, of32, wrap32 (BitVec.isLt _)]
theorem not32 (a : W) : bitsXor .u32 4294967295 ((a.toNat : Nat) : Int) = (((~~~ a).toNat : Nat) : Int) := by
 have := x32 (BitVec.allOnes 32) a
 rw [BitVec.allOnes_xor] at this
 exact this
theorem shr32 (a : W) (k : Nat) (hk : k ≤ 32) : shrK .u32 ((a.toNat : Nat) : Int) ((k : Nat) : Int) = (((a >>> k).toNat : Nat) : Int) := by
 unfold shrK
 have e : min ((k : Nat) : Int).toNat (IntKind.bits .u32) = k := by
  show min ((k : Nat) : Int).toNat 32 = k
  simp; omega
 rw [e, BitVec.toNat_ushiftRight, Nat.shiftRight_eq_div_pow]
 have h2 : ((2 : Int) ^ k) = ((2 ^ k : Nat) : Int) := by simp
 rw [h2, Int.fdiv_eq_ediv_of_nonneg _ (Int.natCast_nonneg _)]
 rfl
theorem and15 (c : W) : bitsAnd .u32 ((c.toNat : Nat) : Int) 15 = ((c.toNat % 16 : Nat) : Int) := by
 have := and32 c 15#32
 have e : (c &&& 15#32).toNat = c.toNat % 16 := by
  rw [BitVec.toNat_and]
  exact Nat.and_two_pow_sub_one_eq_mod c.toNat 4
 rw [e] at this
 exact this
end Go.Ab
namespace Go.Ab
open Go.Crc (W tbl)
set_option linter.unusedVariables false
set_option linter.unusedSimpArgs false
def tE (i : Nat) : Nat := Nat.mod (Nat.shiftRight 9937593612760466100516450665319420528403982636753068485404800763335476026940182181175496972418787619281442302519629725716261212251300561153615832085954560 (Nat.mul 32 i)) 4294967296
def mst (r b : Nat) : Nat := Nat.xor (tE (Nat.mod (Nat.xor (tE (Nat.mod (Nat.xor r b) 16)) (Nat.div (Nat.xor r b) 16)) 16)) (Nat.div (Nat.xor (tE (Nat.mod (Nat.xor r b) 16)) (Nat.div (Nat.xor r b) 16)) 16)
theorem tE_eq : ∀ i, i < 16 → tE i = tbl.getD i 0 := by decide +kernel
theorem tbl_lt : ∀ i, i < 16 → tbl.getD i 0 < 4294967296 := by decide +kernel
abbrev tW (i : Nat) : W := BitVec.ofNat 32 (tbl.getD i 0)
def stepW (c x : W) : W := tW ((tW ((c ^^^ x).toNat % 16) ^^^ ((c ^^^ x) >>> 4)).toNat % 16) ^^^ ((tW ((c ^^^ x).toNat % 16) ^^^ ((c ^^^ x) >>> 4)) >>> 4)
theorem tW_nat {i : Nat} (h : i < 16) : (tW i).toNat = tE i := by
 rw [BitVec.toNat_ofNat, tE_eq i h, Nat.mod_eq_of_lt (tbl_lt i h)]
theorem half_nat (z : W) : (tW (z.toNat % 16) ^^^ (z >>> 4)).toNat = Nat.xor (tE (Nat.mod z.toNat 16)) (Nat.div z.toNat 16) := by
 rw [BitVec.toNat_xor, tW_nat (Nat.mod_lt _ (by omega)), BitVec.toNat_ushiftRight, Nat.shiftRight_eq_div_pow]
 rfl
theorem stepW_nat (c x : W) : (stepW c x).toNat = mst c.toNat x.toNat := by
 unfold stepW
 rw [half_nat, half_nat, BitVec.toNat_xor]
 rfl
theorem not_nat (c : W) : (~~~ c).toNat = Nat.xor 4294967295 c.toNat := by
 have := BitVec.allOnes_xor (x := c)
 rw [← this, BitVec.toNat_xor]
 rfl
def mgo : List AV → Nat → (Nat → Bool) → Bool
 | [], r, k => k r
 | .int .u8 (.ofNat b) :: l, r, k => Nat.blt b 256 && fN (mst r b) fun r' => mgo l r' k
 | _ :: _, _, _ => false
def foldW : List Nat → W → W
 | [], c => c
 | b :: l, c => foldW l (stepW c (BitVec.ofNat 32 b))
theorem mgo_ok {k : Nat → Bool} : ∀ {l : List AV} {c : W}, mgo l c.toNat k = true → ∃ bs : List Nat, l = bs.map (fun b => AV.int .u8 (b : Nat)) ∧ (∀ b ∈ bs, b < 256) ∧ k (foldW bs c).toNat = true
 | [], c, h => ⟨[], rfl, by simp, h⟩
 | .int .u8 (.ofNat b) :: l, c, h => by
  unfold mgo at h
  rw [Bool.and_eq_true, fN_eq] at h
  have hb : b < 256 := by simpa [Nat.blt_eq] using h.1
  have e : mst c.toNat b = (stepW c (BitVec.ofNat 32 b)).toNat := by
   rw [stepW_nat, BitVec.toNat_ofNat, Nat.mod_eq_of_lt (by omega)]
  rw [e] at h
  obtain ⟨bs, h1, h2, h3⟩ := mgo_ok h.2
  exact ⟨b :: bs, by rw [h1]; rfl, fun x hx => by
   rcases List.mem_cons.1 hx with rfl | hx
   ·exact hb
   ·exact h2 x hx, h3⟩
 | .int .u8 (.negSucc b) :: l, c, h => by simp [mgo] at h
 | .int .u16 _ :: l, c, h => by simp [mgo] at h
 | .int .u32 _ :: l, c, h => by simp [mgo] at h
 | .int .u64 _ :: l, c, h => by simp [mgo] at h
 | .int .i8 _ :: l, c, h => by simp [mgo] at h
 | .int .i16 _ :: l, c, h => by simp [mgo] at h
 | .int .i32 _ :: l, c, h => by simp [mgo] at h
 | .int .i64 _ :: l, c, h => by simp [mgo] at h
 | .bool _ :: l, c, h => by simp [mgo] at h
 | .str _ :: l, c, h => by simp [mgo] at h
 | .ptr _ :: l, c, h => by simp [mgo] at h
 | .sl _ :: l, c, h => by simp [mgo] at h
 | .map _ :: l, c, h => by simp [mgo] at h
 | .func _ _ _ :: l, c, h => by simp [mgo] at h
 | .nilfunc :: l, c, h => by simp [mgo] at h
 | .iface _ _ :: l, c, h => by simp [mgo] at h
 | .niliface :: l, c, h => by simp [mgo] at h
 | .agg _ :: l, c, h => by simp [mgo] at h
 | .tup _ :: l, c, h => by simp [mgo] at h
end Go.Ab
namespace Go.Ab
open Go.ChangeShapes Go.WideShapes Go.ChangeAt Go.RowKit
set_option linter.unusedSimpArgs false
set_option linter.unusedVariables false
section
variable {P : Program} {W : World} {H : Type} {enc : TypeId × Value → H} {α δ : Type}
theorem sizeOf_slice {l m : List (DataW H)} {d : DataW H} (h : d ∈ l) : SizeOf.sizeOf d < SizeOf.sizeOf (DataW.slice l m) := by
 have := List.sizeOf_lt_of_mem h
 simp only [DataW.slice.sizeOf_spec]
 omega
theorem sizeOf_agg {l : List (DataW H)} {d : DataW H} (h : d ∈ l) : SizeOf.sizeOf d < SizeOf.sizeOf (DataW.agg l) := by
 have := List.sizeOf_lt_of_mem h
 simp only [DataW.agg.sizeOf_spec]
 omega
set_option maxRecDepth 100000 in
theorem nested_in0 [Inhabited α] [Inhabited δ] (E : Enc α) (R : Heap → α → δ → Prop) (hR : ∀ {h h' : Heap} {a : α} {d : δ}, Ext h h' → R h a d → R h' a d)
  {t e : TypeId} {v : Value} {fuel : Nat} {x : DataW H × List MemPlace} (ht : P.underlying t = some (.slice e)) (hC : P.cellsOf e = E.sz)
  (hel : ∀ (n : Nat) (cs' : List Value) (y : DataW H × List MemPlace), SizeOf.sizeOf y.1 < SizeOf.sizeOf x.1 → DataW.trod enc P W 0 (fun _ => true) true n e cs' = some y → cs'.length = E.sz → ∀ (μ : Ren) (hp : Heap), HRel μ hp W → ReadOnly hp → ∀ (b0 : Nat) (c0 : List AV) (rw0 : Bool), hp[b0]? = some (.cells c0 rw0) →
   ∃ (l1 : Ren) (bs : Heap) (a : α) (d : δ), HRel (μ ++ l1) (hp ++ bs) W ∧ ReadOnly (hp ++ bs) ∧ relL (μ ++ l1) (E.f a) cs' ∧ R (hp ++ bs) a d)
  (hf : DataW.trod enc P W 0 (fun _ => true) true fuel t [v] = some x) {μ0 : Ren} {hp0 : Heap} (HH : HRel μ0 hp0 W) (ro : ReadOnly hp0) {b0 : Nat} {c0 : List AV} {rw0 : Bool} (hb0 : hp0[b0]? = some (.cells c0 rw0)) :
  ∃ (l1 : Ren) (bs : Heap) (q : Option SL) (L : List α) (l : List δ), HRel (μ0 ++ l1) (hp0 ++ bs) W ∧ ReadOnly (hp0 ++ bs) ∧ AV.rel (μ0 ++ l1) (.sl q) v ∧ HasL E (hp0 ++ bs) q L ∧ L.length = l.length ∧
   ∀ (j : Nat) (a : α) (d : δ), L[j]? = some a → l[j]? = some d → R (hp0 ++ bs) a d := by
 have hsz := E.pos
 rcases Deep.open_slice ht hf with ⟨hcs, _⟩ | ⟨a, len0, cap, m, n, D, Pl, hcs, _, hlc, hm, hmm, hxe, hx⟩
 ·simp at hcs
  subst hcs
  exact ⟨[], [], none, [], [], by simpa using HH, by simpa using ro, rfl, rfl, rfl, by simp⟩
 ·simp at hcs
  subst hcs
  simp only [if_true] at hmm
  subst hmm
  by_cases hcap : m = 0
  ·have hl0 : len0 = 0 := by omega
   subst hcap hl0
   refine ⟨[], [], some ⟨b0, 0, 0, 0, 0⟩, [], [], by simpa using HH, by simpa using ro, ⟨⟨0, 0, 0⟩, 0, _, .inr rfl, rfl, Nat.le_refl _, .inl rfl, fun _ => rfl, fun hn => absurd rfl hn⟩, ⟨rfl, Nat.le_refl _, .inl rfl, ?_⟩, rfl, by simp⟩
   simp [cellsAt, hb0, Enc.all]
  ·have h1 := hlc
   have hsp : ∃ (ab ao : Nat) (C : Array Value) (tt : TypeId) (fz : Nat × Nat), a = ⟨ab, ao, none⟩ ∧ W.heap[ab]? = some (.cells C tt fz) ∧ ao ≤ C.size := by
    obtain ⟨cs', hcl, htr⟩ := hx 0 (by omega)
    rw [hC] at hcl
    obtain ⟨_, hlen, hcell⟩ := World.cells?_some hcl
    have h0 := hcell 0 E.pos
    have hpos := E.pos
    have hget : cs'[0]? = some (cs'[0]'(by omega)) := List.getElem?_eq_getElem _
    rw [hget] at h0
    obtain ⟨ab, ao, sp⟩ := a
    have e0 : Addr.add (Addr.add ⟨ab, ao, sp⟩ (0 * E.sz)) 0 = ⟨ab, ao, sp⟩ := by simp [Addr.add]
    rw [e0] at h0
    unfold World.cell? at h0
    split at h0
    ·rename_i C tt fz hb
     cases sp with
     | none =>
      refine ⟨ab, ao, C, tt, fz, rfl, hb, ?_⟩
      exact Nat.le_of_lt (Array.getElem?_eq_some_iff.1 h0).1
     | some sp => simp at h0
    ·cases h0
   obtain ⟨ab, ao, C, tt, fz, rfl, hb, haoC⟩ := hsp
   have hbl := heap_lt hb
   have inner : ∀ k, k ≤ len0 → ∃ (l1 : Ren) (bs : Heap) (L : List α) (l : List δ), HRel (μ0 ++ l1) (hp0 ++ bs) W ∧ ReadOnly (hp0 ++ bs) ∧ L.length = k ∧ l.length = k ∧
     (∀ (j : Nat) (e : α), L[j]? = some e → ∀ (t : Nat) (x : AV), (E.f e)[t]? = some x → ∃ y, C[ao + j * E.sz + t]? = some y ∧ x.rel (μ0 ++ l1) y) ∧ (∀ (j : Nat) (e : α) (d : δ), L[j]? = some e → l[j]? = some d → R (hp0 ++ bs) e d) := by
    intro k
    induction k with
    | zero => intro _; exact ⟨[], [], [], [], by simpa using HH, by simpa using ro, rfl, rfl, by simp, by simp⟩
    | succ k ih =>
     intro hk
     obtain ⟨l1, bs, L, l, i1, i2, i4, i5, i6, i7⟩ := ih (by omega)
     have i3 : (hp0 ++ bs)[b0]? = some (.cells c0 rw0) := by rw [List.getElem?_append_left (lt_of_get hb0)]; exact hb0
     obtain ⟨cs', hcl, htr⟩ := hx k (by omega)
     rw [hC] at hcl
     obtain ⟨_, hlen, hcell⟩ := World.cells?_some hcl
     have hsd : SizeOf.sizeOf (D k, Pl k).1 < SizeOf.sizeOf x.1 := by
      rw [hxe]
      exact sizeOf_slice (List.mem_map.2 ⟨k, List.mem_range.2 (by omega), rfl⟩)
     obtain ⟨l2, bs2, e, d, k1, k2, k3, k4⟩ := hel n cs' _ hsd htr hlen _ _ i1 i2 _ _ _ i3
     rw [List.append_assoc, List.append_assoc] at k1
     rw [List.append_assoc] at k2 k3 k4
     refine ⟨l1 ++ l2, bs ++ bs2, L ++ [e], l ++ [d], k1, k2, by simp [i4], by simp [i5], ?_, ?_⟩
     ·intro j x hj t z hz
      rw [List.getElem?_append] at hj
      split at hj
      ·obtain ⟨y, g1, g2⟩ := i6 j x hj t z hz
       exact ⟨y, g1, AV.rel.mono (by rw [← List.append_assoc]; exact Ren.le_append _ _) _ _ g2⟩
      ·have hj0 : j - L.length = 0 := by have := lt_of_get hj; simp at this; omega
       rw [hj0] at hj
       simp at hj
       subst hj
       have hjk : j = k := by omega
       subst hjk
       obtain ⟨y, g1, g2⟩ := k3.get hz
       have ht : t < E.sz := by have := lt_of_get hz; rw [E.len] at this; exact this
       refine ⟨y, ?_, g2⟩
       have := hcell t ht
       rw [add_addr, add_addr] at this
       unfold World.cell? at this
       simp only [hb] at this
       rw [← g1, ← this]
       simp
     ·intro j x z hj hz
      rw [List.getElem?_append] at hj hz
      split at hj
      ·rw [if_pos (by omega)] at hz
       exact hR (by rw [← List.append_assoc]; exact Ext.app _ _) (i7 j x z hj hz)
      ·rw [if_neg (by omega)] at hz
       have hj0 : j - L.length = 0 := by have := lt_of_get hj; simp at this; omega
       have hz0 : j - l.length = 0 := by omega
       rw [hj0] at hj
       rw [hz0] at hz
       simp at hj hz
       subst hj hz
       exact k4
   obtain ⟨l1, bs, L, l, i1, i2, i4, i5, i6, i7⟩ := inner len0 (Nat.le_refl _)
   have hμ := i1.len
   have lastc : ∀ i, i < len0 → ao + i * E.sz + E.sz ≤ C.size := by
    intro i hi
    have hLi : L[i]? = some (L[i]'(by omega)) := List.getElem?_eq_getElem _
    have hlast : (E.f (L[i]'(by omega)))[E.sz - 1]? = some ((E.f (L[i]'(by omega)))[E.sz - 1]'(by rw [E.len]; omega)) := List.getElem?_eq_getElem _
    obtain ⟨y, g1, _⟩ := i6 i _ hLi (E.sz - 1) _ hlast
    have := (Array.getElem?_eq_some_iff.1 g1).1
    omega
   have hlenC : len0 * E.sz ≤ C.size - ao := by
    rcases Nat.eq_zero_or_pos len0 with hz | hz
    ·subst hz; simp
    ·have := lastc (len0 - 1) (by omega)
     have e1 : (len0 - 1) * E.sz + E.sz = len0 * E.sz := by
      rw [← Nat.succ_mul]; congr 1; omega
     omega
   have HB : HRel (μ0 ++ l1 ++ [⟨ab, ao, C.size - ao⟩]) (hp0 ++ bs ++ [.cells (E.all L) false]) W := by
    refine i1.addRO (e := ⟨ab, ao, C.size - ao⟩) (B := .cells (E.all L) false) i2 rfl hbl ⟨C, tt, fz, hb, ?_, ?_, ?_, ?_, ?_⟩
    ·show C.size = ao + (C.size - ao); omega
    ·rw [Enc.all_length, i4]; exact hlenC
    ·simp only [oneAll, List.all_eq_true]
     intro x hx'
     simp only [Enc.all, List.mem_flatten, List.mem_map] at hx'
     obtain ⟨l0, ⟨a, _, rfl⟩, h⟩ := hx'
     have := E.one a
     simp only [oneAll, List.all_eq_true] at this
     exact this x h
    ·intro j x hj
     have hjl := lt_of_get hj
     rw [Enc.all_length, i4] at hjl
     have hi : j / E.sz < len0 := Nat.div_lt_of_lt_mul (by rw [Nat.mul_comm]; exact hjl)
     have hLi : L[j / E.sz]? = some (L[j / E.sz]'(by omega)) := List.getElem?_eq_getElem _
     have hat := Enc.all_at (E := E) hLi
     have hdm : j / E.sz * E.sz + j % E.sz = j := by rw [Nat.mul_comm]; exact Nat.div_add_mod _ _
     have hml : j % E.sz < E.sz := Nat.mod_lt _ hsz
     have : (E.f (L[j / E.sz]'(by omega)))[j % E.sz]? = some x := by
      rw [← hat, List.getElem?_take, if_pos hml, List.getElem?_drop, hdm, hj]
     obtain ⟨y, g1, g2⟩ := i6 _ _ hLi _ _ this
     refine ⟨y, ?_, AV.rel.mono (Ren.le_append _ _) _ _ g2⟩
     rw [← g1]
     simp only
     congr 1
     omega
    ·intro hrw; cases hrw
   have ea : μ0 ++ l1 ++ [(⟨ab, ao, C.size - ao⟩ : ME)] = μ0 ++ (l1 ++ [⟨ab, ao, C.size - ao⟩]) := List.append_assoc _ _ _
   have eb : hp0 ++ bs ++ [Blk.cells (E.all L) false] = hp0 ++ (bs ++ [.cells (E.all L) false]) := List.append_assoc _ _ _
   refine ⟨l1 ++ [⟨ab, ao, C.size - ao⟩], bs ++ [.cells (E.all L) false], some ⟨(hp0 ++ bs).length, 0, len0, m, 0⟩, L, l, ?_, ?_, ?_, ?_, by omega, ?_⟩
   ·rw [← ea, ← eb]; exact HB
   ·rw [← eb]; exact i2.add rfl
   ·rw [← ea]
    exact ⟨⟨ab, ao, C.size - ao⟩, m, _, .inl (by rw [← hμ]; simp), rfl, h1, .inr rfl, fun _ => rfl, fun hn => absurd rfl hn⟩
   ·rw [← eb]
    refine ⟨i4.symm, h1, .inl rfl, ?_⟩
    rw [cellsAt_mk (C := E.all L) (rw' := false) (by simp) (by simp [Enc.all_length])]
    simp [← Enc.all_length]
   ·intro j e d hj hd
    rw [← eb]
    exact hR (Ext.app _ _) (i7 j e d hj hd)
end
end Go.Ab
namespace Go.Ab
set_option linter.unusedVariables false
set_option linter.unusedSimpArgs false
def OwnL {α : Type} (E : Enc α) (h : Heap) (q : Option SL) (l : List α) : Prop := (l = [] ∧ ∃ a, q = some ⟨a, 0, 0, 0, 0⟩ ∧ h[a]? = some (.cells [] true)) ∨ (l ≠ [] ∧ ∃ a, q = some ⟨a, 0, l.length, l.length, E.sz⟩ ∧ h[a]? = some (.cells (E.all l) true))
theorem OwnL.hasL {α : Type} {E : Enc α} {h : Heap} {q : Option SL} {l : List α} (O : OwnL E h q l) : HasL E h q l := by
 rcases O with ⟨rfl, a, rfl, hb⟩ | ⟨hne, a, rfl, hb⟩
 ·refine ⟨rfl, Nat.le_refl _, .inl rfl, ?_⟩
  simp [cellsAt, hb, Enc.all]
 ·refine ⟨rfl, Nat.le_refl _, .inr rfl, ?_⟩
  rw [cellsAt_mk (p := ⟨a, 0⟩) hb (by simp [Enc.all_length])]
  simp [← Enc.all_length]
theorem copy0 {α : Type} {E : Enc α} {h : Heap} {a : Nat} {q : Option SL} {l : List α} {by' : Nat} {K : Option SL → Heap → Prop} (ha : h[a]? = some (.cells [] true)) (H : HasL E h q l) (hb : l.length * by' ≤ 140737488355328)
  (hK : ∀ q' h', Ext h h' → OwnL E h' q' l → (∀ s, q' = some s → s.b = a ∨ h.length ≤ s.b) → K q' h') : PAppendS E.sz by' (some ⟨a, 0, 0, 0, 0⟩) q h K := by
 refine ⟨E.all l, H.cells, by rw [Enc.all_length, H.len], ?_⟩
 rw [H.len]
 simp only [Nat.zero_add, Nat.zero_mul]
 split
 ·rename_i h0
  have : l = [] := List.eq_nil_of_length_eq_zero (by omega)
  subst this
  rw [ha]
  have e0 : E.all ([] : List α) = [] := rfl
  simp only [e0, splice_nil, List.length_nil]
  have hs : h.set a (.cells [] true) = h := set_same ha
  rw [hs]
  exact ⟨by simp, hK _ _ (.refl _) (.inl ⟨rfl, a, rfl, ha⟩) (fun s hs => by cases hs; exact .inl rfl)⟩
 ·rename_i h0
  refine ⟨hb, E.pos, ?_⟩
  have hc : cellsAt h ⟨a, 0⟩ 0 = some [] := by simp [cellsAt, ha]
  rw [hc, ha]
  simp only [if_true, List.nil_append]
  refine hK _ _ (.app _ _) (.inr ⟨fun h => h0 (by rw [h]; simp), h.length, rfl, by simp⟩) (fun s hs => by cases hs; exact .inr (Nat.le_refl _))
theorem OwnL.apd {α : Type} {E : Enc α} {h : Heap} {q : Option SL} {l : List α} (O : OwnL E h q l) : Apd E h q l := by
 rcases O with ⟨rfl, a, rfl, hb⟩ | ⟨hne, a, rfl, hb⟩
 ·exact .inr ⟨a, 0, rfl, .inl rfl, by simpa [Enc.all] using hb⟩
 ·exact .inr ⟨a, E.sz, rfl, .inr rfl, hb⟩
theorem copyNew {α : Type} {E : Enc α} {h : Heap} {q : Option SL} {l : List α} {by' : Nat} {K : Option SL → Heap → Prop} (H : HasL E h q l) (hb : l.length * by' ≤ 140737488355328)
  (hK : ∀ q' h', New E h h' q' l → K q' h') : PAppendS E.sz by' (some ⟨h.length, 0, 0, 0, 0⟩) q (h ++ [.cells [] true]) K := by
 refine copy0 (by simp) (H.mono (.app _ _)) hb fun q' h' x O hq => hK q' h' ⟨(Ext.app _ _).trans x, O.apd, fun s hs => ?_⟩
 have := hq s hs
 simp at this
 omega
structure LL {α : Type} (E : Enc α) (h0 h : Heap) (out : Option SL) (qs : List (Option SL)) (ls : List (List α)) : Prop where
 ext : Ext h0 h
 oa : Apd slE h out qs
 ob : ∀ s, out = some s → h0.length ≤ s.b
 len : qs.length = ls.length
 el : ∀ (i : Nat) (s : Option SL) (l : List α), qs[i]? = some s → ls[i]? = some l → HasL E h s l
 eb : ∀ (i : Nat) (t : SL), qs[i]? = some (some t) → h0.length ≤ t.b ∧ ∀ o, out = some o → o.b ≠ t.b
end Go.Ab
namespace Go.Pool
open Go.Ab hiding Bs
open Go.Ent
set_option linter.unusedVariables false
set_option linter.unusedSimpArgs false
structure RF where
 name : Bs
 i : Int
 q : Option SL
 held : Nat
 mark : Bool
 is : Bool
def rfE : Enc RF := ⟨6, fun f => [.str f.name, .int .i64 f.i, .sl f.q, .int .i64 (f.held : Nat), .bool f.mark, .bool f.is], fun _ => rfl, by omega, fun _ => rfl⟩
abbrev spotV (s : Bs) (i : Int) : AV := .agg [.str s, .int .i64 i]
abbrev Ents := List (AV × AV × Nat)
structure EncZ where
 e : Enc Ent
 z : Nat → Prop
structure RelF (E : EncZ) (h : Heap) (p fb mb : Nat) (r : RF) (f : Fr) : Prop where
 name : r.name = f.name
 i : r.i = f.i
 held : r.held = f.held
 mark : r.mark = f.mark
 is : r.is = f.is
 l : HasL E.e h r.q f.l
 sep : ∀ s, r.q = some s → s.b ≠ p ∧ s.b ≠ fb ∧ s.b ≠ mb ∧ ¬ E.z s.b
abbrev poolB (fb mb n hand hits reads losses : Nat) : Blk := .cells [.sl (some ⟨fb, 0, n, n, 0⟩), .map (some mb), .int .i64 (hand : Nat), .int .i64 (hits : Nat), .int .i64 (reads : Nat), .int .i64 (losses : Nat)] true
structure PoolC (E : EncZ) (h : Heap) (p fb mb : Nat) (rs : List RF) (es : Ents) (cl : Nat) (P : PS) : Prop where
 pb : h[p]? = some (poolB fb mb P.fr.length P.hand P.hits P.reads P.losses)
 fbk : h[fb]? = some (.cells (rfE.all rs) true)
 mbk : h[mb]? = some (.mp es cl)
 rl : rs.length = P.fr.length
 rel : ∀ (k : Nat) (r : RF) (f : Fr), rs[k]? = some r → P.fr[k]? = some f → RelF E h p fb mb r f
 keys : ∀ e ∈ es, ∃ (k : Nat) (f : Fr), P.fr[k]? = some f ∧ f.is = true ∧ e.1 = spotV f.name f.i ∧ e.2.1 = .int .i64 (k : Nat)
 all : ∀ (k : Nat) (f : Fr), P.fr[k]? = some f → f.is = true → ∃ n, (spotV f.name f.i, AV.int .i64 (k : Nat), n) ∈ es
 nd : (es.map (·.1)).Nodup
 ok : P.ok
 ne : p ≠ fb ∧ p ≠ mb ∧ fb ≠ mb
theorem set_at {α : Type} {l : List α} {k j : Nat} {a g : α} (h : (l.set k a)[j]? = some g) : (j = k ∧ g = a) ∨ (j ≠ k ∧ l[j]? = some g) := by
 rw [List.getElem?_set] at h
 by_cases hj : k = j
 ·subst hj
  rw [if_pos rfl] at h
  by_cases hl : k < l.length
  ·rw [if_pos hl] at h; cases h; exact .inl ⟨rfl, rfl⟩
  ·rw [if_neg hl] at h; cases h
 ·rw [if_neg hj] at h; exact .inr ⟨fun hc => hj hc.symm, h⟩
theorem ex_least {p : Nat → Prop} (h : ∃ n, p n) : ∃ n, p n ∧ ∀ m, p m → n ≤ m := by
 obtain ⟨n, hn⟩ := h
 induction n using Nat.strongRecOn with
 | _ n ih =>
  by_cases hc : ∃ m, m < n ∧ p m
  ·obtain ⟨m, h1, h2⟩ := hc
   exact ih m h1 h2
  ·exact ⟨n, hn, fun m hm => by
    rcases Nat.lt_or_ge m n with h | h
    ·exact absurd ⟨m, h, hm⟩ hc
    ·exact h⟩
open Classical in
noncomputable def least (p : Nat → Prop) : Nat := if h : ∃ n, p n then Classical.choose (ex_least h) else 0
end Go.Pool




namespace Go.Pool
open Go.Ent
set_option linter.unusedVariables false
set_option linter.unusedSimpArgs false
def Own (pg : Nat → List Ent) (s : Bs) (pages : Nat) (P : PS) : Prop := ∀ f ∈ P.fr, f.is = true → f.name = s ∧ ∃ j : Nat, j < pages ∧ f.i = (j : Nat) ∧ f.l = pg j
abbrev Pg := Bs × Nat
def dist : List Pg → Nat
 | [] => 0
 | x :: xs => if x ∈ xs then dist xs else dist xs + 1
end Go.Pool



