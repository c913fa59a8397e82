import Derived.Test.YtnglhicedhcpbaaGreatDoorHG1
import Derived.Test.YtnglhicedhcpbaaGreatDoorHG5
import Derived.Test.YtnglhicedhcpbaaGreatDoorHG7
import Derived.Test.YtnglhicedhcpbaaGreatDoorHG10
import Derived.Test.YtnglhicedhcpbaaGreatDoorHG14
import Derived.Deep.Slices
import Derived.Deep.Strs
namespace Go.Ab
open Go.ChangeShapes Go.WideShapes Go.ChangeAt Go.RowKit
set_option linter.unusedSimpArgs false
set_option linter.unusedVariables false
def ReadOnly (hp : Heap) : Prop := ∀ (b : Nat) (B : Blk), hp[b]? = some B → B.rw = false
theorem ReadOnly.add {hp : Heap} (h : ReadOnly hp) {B : Blk} (hB : B.rw = false) : ReadOnly (hp ++ [B]) := by
  intro b B' hb
  rw [List.getElem?_append] at hb
  split at hb
  · exact h b B' hb
  · have : b - hp.length = 0 := by have := lt_of_get hb; simp at this; omega
    rw [this] at hb; simp at hb; subst hb; exact hB
theorem HRel.addRO {μ : Ren} {hp : Heap} {W : World} (H : HRel μ hp W) (ro : ReadOnly hp) {e : ME} {B : Blk} (hB : B.rw = false) (he : e.r < W.heap.size) (hb : BlkRel (μ ++ [e]) W e B) : HRel (μ ++ [e]) (hp ++ [B]) W := by
  have ro' := ro.add hB
  have split2 : ∀ {b : Nat} {B' : Blk}, (hp ++ [B])[b]? = some B' → (b < hp.length ∧ hp[b]? = some B') ∨ (b = hp.length ∧ B' = B) := by
    intro b B' hb
    rw [List.getElem?_append] at hb
    split at hb
    · exact .inl ⟨by assumption, hb⟩
    · have : b - hp.length = 0 := by have := lt_of_get hb; simp at this; omega
      rw [this] at hb; simp at hb
      exact .inr ⟨by omega, hb.symm⟩
  have splitm : ∀ {b : Nat} {e' : ME}, (μ ++ [e])[b]? = some e' → (b < μ.length ∧ μ[b]? = some e') ∨ (b = μ.length ∧ e' = e) := by
    intro b e' hb
    rw [List.getElem?_append] at hb
    split at hb
    · exact .inl ⟨by assumption, hb⟩
    · have : b - μ.length = 0 := by have := lt_of_get hb; simp at this; omega
      rw [this] at hb; simp at hb
      exact .inr ⟨by omega, hb.symm⟩
  have hlen := H.len
  refine ⟨by simp [hlen], ?_, ?_, ?_⟩
  · intro b B' e' h1 h2
    rcases split2 h1 with ⟨g1, g2⟩ | ⟨g1, rfl⟩ <;> rcases splitm h2 with ⟨g3, g4⟩ | ⟨g3, rfl⟩
    · exact (H.blk b B' e' g2 g4).mono (Ren.le_append _ _)
    · omega
    · omega
    · exact hb
  · intro b1 b2 B1 B2 e1 e2 hne h1 h2 hrw
    rw [ro' b1 B1 h1] at hrw; cases hrw
  · intro b e' h2
    rcases splitm h2 with ⟨g3, g4⟩ | ⟨g3, rfl⟩
    · exact H.bnd b e' g4
    · exact he
section
variable {H : Type} {enc : TypeId × Value → H} {P : Program} {W : World} {α : Type}
theorem slice_in [Inhabited α] (E : Enc α) {t e : TypeId} {v : Value} {r : Reach} {base : Nat} {fuel : Nat} {x : DataW H × List MemPlace} (ht : P.underlying t = some (.slice e)) (hC : P.cellsOf e = E.sz)
    (hel : ∀ (n : Nat) (cs' : List Value) (y : DataW H × List MemPlace), DataW.trod enc P W 0 (fun _ => true) true n e cs' = some y → cs'.length = E.sz → ∃ a, ∀ μ, relL μ (E.f a) cs')
    (hv : Cell.okWide P W r base t v) (hf : DataW.trod enc P W 0 (fun _ => true) true fuel t [v] = some x) {μ : Ren} {hp : Heap} (HH : HRel μ hp W) (ro : ReadOnly hp) :
    ∃ (l1 : Ren) (bs : Heap) (q : Option SL) (l : List α), HRel (μ ++ l1) (hp ++ bs) W ∧ ReadOnly (hp ++ bs) ∧ AV.rel (μ ++ l1) (.sl q) v ∧ HasL E (hp ++ bs) q l := by
  have hμ := HH.len
  rcases Deep.open_slice ht hf with ⟨hcs, _⟩ | ⟨a, len, cap, m, n, D, Pl, hcs, _, hlc, hm, hmm, _, hx⟩
  · simp at hcs
    subst hcs
    exact ⟨[], [], none, [], by simpa using HH, by simpa using ro, rfl, rfl⟩
  · simp at hcs
    subst hcs
    simp only [if_true] at hmm
    subst hmm
    rcases cell_slice ht hv with hnil | ⟨ab, ao, len', cap', heq, h1, hbl⟩
    · cases hnil
    · cases heq
      have hspot : ∃ C tt fz, W.heap[ab]? = some (.cells C tt fz) := by
        unfold Cell.okWide at hv
        rw [ht] at hv
        simp only [Cell.ok, ht] at hv
        obtain ⟨_, _, _, _, row, cells, h3, _⟩ := hv
        unfold World.shape? at h3
        split at h3
        · rename_i C tt fz hb; exact ⟨C, tt, fz, hb⟩
        · cases h3
      obtain ⟨C, tt, fz, hb⟩ := hspot
      have hsz := E.pos
      have each : ∀ i, i < m → ∃ a : α, ∀ (j : Nat) (x : AV), (E.f a)[j]? = some x → ∃ y, C[ao + i * E.sz + j]? = some y ∧ ∀ μ, x.rel μ y := by
        intro i hi
        obtain ⟨cs', hcl, htr⟩ := hx i hi
        rw [hC] at hcl
        obtain ⟨_, hlen, hcell⟩ := World.cells?_some hcl
        obtain ⟨a, ha⟩ := hel _ _ _ htr hlen
        refine ⟨a, fun j x hj => ?_⟩
        have hjl : j < E.sz := by have := lt_of_get hj; rw [E.len] at this; exact this
        have hget : cs'[j]? = some (cs'[j]'(by omega)) := List.getElem?_eq_getElem _
        refine ⟨cs'[j]'(by omega), ?_, fun μ => ?_⟩
        · have := hcell j hjl
          unfold World.cell? at this
          have eb : ((Addr.add (Addr.add ⟨ab, ao, none⟩ (i * E.sz)) j)) = ⟨ab, ao + i * E.sz + j, none⟩ := by rw [add_addr, add_addr]
          rw [eb] at this
          simp only [hb] at this
          have this' : C[ao + i * E.sz + j]? = cs'[j]? := by simpa using this
          rw [this', hget]
        · obtain ⟨y, g1, g2⟩ := (ha μ).get hj
          rw [hget] at g1; cases g1; exact g2
      obtain ⟨V, hV⟩ := Deep.choose_lt each
      generalize hl : (List.range len).map V = l
      have hll : l.length = len := by subst hl; simp
      have hgetl : ∀ i, i < len → l[i]? = some (V i) := by
        intro i hi
        subst hl
        simp [hi]
      by_cases hcap : m = 0
      · have hnil : l = [] := List.eq_nil_of_length_eq_zero (by omega)
        subst hnil
        refine ⟨[⟨ab, 0, C.size⟩], [.cells [] false], some ⟨hp.length, 0, len, m, 0⟩, [], HH.addRO ro rfl hbl ⟨C, tt, fz, hb, by simp, by simp, rfl, by simp, by simp⟩, ro.add rfl, ?_, ?_⟩
        · exact ⟨⟨ab, 0, C.size⟩, m, _, .inr hcap, rfl, h1, .inl hcap, fun _ => rfl, fun hn => absurd rfl hn⟩
        · refine ⟨by simpa using hll.symm, h1, .inl rfl, ?_⟩
          simp [cellsAt, Enc.all]
      · have lastc : ∀ i, i < m → ao + i * E.sz + E.sz ≤ C.size := by
          intro i hi
          have hfl : (E.f (V i))[E.sz - 1]? = some ((E.f (V i))[E.sz - 1]'(by rw [E.len]; omega)) := List.getElem?_eq_getElem _
          obtain ⟨y, g1, _⟩ := hV i hi _ _ hfl
          have := (Array.getElem?_eq_some_iff.1 g1).1
          omega
        have haoC : ao ≤ C.size := by have := lastc 0 (by omega); omega
        have hlenC : len * E.sz ≤ C.size - ao := by
          rcases Nat.eq_zero_or_pos len with hz | hz
          · subst hz; simp
          · have := lastc (len - 1) (by omega)
            have e1 : (len - 1) * E.sz + E.sz = len * E.sz := by
              rw [← Nat.succ_mul]; congr 1; omega
            omega
        refine ⟨[⟨ab, ao, C.size - ao⟩], [.cells (E.all l) false], some ⟨hp.length, 0, len, m, 0⟩, l, HH.addRO ro rfl hbl ⟨C, tt, fz, hb, by simp; omega, by rw [Enc.all_length, hll]; exact hlenC, ?_, ?_, by simp⟩, ro.add rfl, ?_, ?_⟩
        · simp only [oneAll, List.all_eq_true]
          intro x hx'
          simp only [Enc.all, List.mem_flatten, List.mem_map] at hx'
          obtain ⟨l0, ⟨a, _, rfl⟩, h⟩ := hx'
          have := E.one a
          simp only [oneAll, List.all_eq_true] at this
          exact this x h
        · intro j x hj
          have hjl := lt_of_get hj
          rw [Enc.all_length, hll] at hjl
          have hi : j / E.sz < len := Nat.div_lt_of_lt_mul (by rw [Nat.mul_comm]; exact hjl)
          have hdm : j / E.sz * E.sz + j % E.sz = j := by rw [Nat.mul_comm]; exact Nat.div_add_mod _ _
          have hml : j % E.sz < E.sz := Nat.mod_lt _ hsz
          have hat := Enc.all_at (E := E) (hgetl _ hi)
          have : (E.f (V (j / E.sz)))[j % E.sz]? = some x := by
            rw [← hat, List.getElem?_take, if_pos hml, List.getElem?_drop, hdm, hj]
          obtain ⟨y, g1, g2⟩ := hV _ (by omega) _ _ this
          refine ⟨y, ?_, g2 _⟩
          rw [← g1]
          simp only
          congr 1
          omega
        · exact ⟨⟨ab, ao, C.size - ao⟩, m, _, .inl (by rw [← hμ]; simp), rfl, h1, .inr rfl, fun _ => rfl, fun hn => absurd rfl hn⟩
        · refine ⟨hll.symm, h1, .inl rfl, ?_⟩
          rw [cellsAt_mk (C := E.all l) (rw' := false) (by simp) (by simp [Enc.all_length])]
          simp [← Enc.all_length]
end
end Go.Ab
namespace Go.Ab
set_option linter.unusedSimpArgs false
set_option linter.unusedVariables false
abbrev Bs := List UInt8
def Keeps (X : Nat → Prop) (h h' : Heap) : Prop := ∀ (b : Nat) (B : Blk), ¬ X b → h[b]? = some B → h'[b]? = some B
theorem Keeps.refl (X : Nat → Prop) (h : Heap) : Keeps X h h := fun _ _ _ e => e
theorem Keeps.trans {X : Nat → Prop} {a b c : Heap} (h : Keeps X a b) (h' : Keeps X b c) : Keeps X a c := fun k B hk e => h' k B hk (h k B hk e)
theorem keeps_of_ext {X : Nat → Prop} {h h' : Heap} (e : Ext h h') : Keeps X h h' := fun b B _ hb => e b B hb
theorem Keeps.cells {X : Nat → Prop} {h h' : Heap} (K : Keeps X h h') {p : PA} {n : Nat} {c : List AV} (hp : ¬ X p.b) (hc : cellsAt h p n = some c) : cellsAt h' p n = some c := by
  unfold cellsAt at hc ⊢
  split at hc
  · rename_i c' rw' hb
    rw [K _ _ hp hb]; exact hc
  · cases hc
theorem Keeps.hasL {α : Type} {E : Enc α} {X : Nat → Prop} {h h' : Heap} (K : Keeps X h h') {q : Option SL} {l : List α} (hq : ∀ s, q = some s → ¬ X s.b) (H : HasL E h q l) : HasL E h' q l := by
  cases q with
  | none => exact H
  | some s => exact ⟨H.1, H.2.1, H.2.2.1, K.cells (hq s rfl) H.2.2.2⟩
theorem HasL.live {α : Type} {E : Enc α} {h : Heap} {q : Option SL} {l : List α} (H : HasL E h q l) : ∀ s, q = some s → s.b < h.length := by
  intro s hs
  subst hs
  obtain ⟨c, rw, hb, _⟩ := cellsAt_some H.2.2.2
  exact lt_of_get hb
theorem cells6 {h : Heap} {p o k : Nat} {c : List AV} {rw' : Bool} (hb : h[p]? = some (.cells c rw')) (ho : o + k ≤ c.length) : cellsAt h ⟨p, 0 + o⟩ k = some ((c.drop o).take k) := by
  rw [Nat.zero_add]; exact cellsAt_mk (p := ⟨p, o⟩) hb ho
theorem store6 {h : Heap} {p o : Nat} {c xs : List AV} {K : Heap → Prop} (hb : h[p]? = some (.cells c true)) (ho : o + xs.length ≤ c.length) (hK : K (h.set p (.cells (splice c o xs) true))) : PStore h ⟨p, 0 + o⟩ xs K := by
  unfold PStore
  simp only [hb, Nat.zero_add]
  exact ⟨ho, hK⟩
theorem store6v {h : Heap} {p o : Nat} {c xs : List AV} {K : Heap → Prop} (hb : h[p]? = some (.cells c true)) (ho : o + xs.length ≤ c.length) (hK : K (h.set p (.cells (splice c o xs) true))) : vPtr (some ⟨p, 0⟩) fun q => PStore h ⟨q.b, q.o + o⟩ xs K := store6 hb ho hK
theorem keeps_set {h : Heap} {p : Nat} {B : Blk} {X : Nat → Prop} (hp : X p) : Keeps X h (h.set p B) := by
  intro b C hb hC
  rw [List.getElem?_set, if_neg]
  · exact hC
  · intro he; subst he; exact hb hp
def byE : Enc UInt8 := ⟨1, fun b => [.int .u8 b.toNat], fun _ => rfl, by omega, fun _ => rfl⟩
def intE : Enc Int := ⟨1, fun n => [.int .i64 n], fun _ => rfl, by omega, fun _ => rfl⟩
def slE : Enc (Option SL) := ⟨1, fun q => [.sl q], fun _ => rfl, by omega, fun _ => rfl⟩
theorem byE_all {l : Bs} : byE.all l = byteAVs l := by
  induction l with
  | nil => rfl
  | cons x l ih => rw [Enc.all_cons, ih]; rfl
theorem byAV_len {l : Bs} : (byteAVs l).length = l.length := by simp [byteAVs]
def Apd {α : Type} (E : Enc α) (h : Heap) (q : Option SL) (l : List α) : Prop :=
  (q = none ∧ l = []) ∨ ∃ a o, q = some ⟨a, 0, l.length, l.length, o⟩ ∧ (o = 0 ∨ o = E.sz) ∧ h[a]? = some (.cells (E.all l) true)
def New {α : Type} (E : Enc α) (h h' : Heap) (q : Option SL) (l : List α) : Prop := Ext h h' ∧ Apd E h' q l ∧ ∀ s, q = some s → h.length ≤ s.b
section
variable {α : Type} {E : Enc α} {h h' : Heap} {q : Option SL} {l m : List α}
theorem Apd.hasL (A : Apd E h q l) : HasL E h q l := by
  rcases A with ⟨rfl, rfl⟩ | ⟨a, o, rfl, ho, hb⟩
  · rfl
  · refine ⟨rfl, Nat.le_refl _, ho, ?_⟩
    rw [cellsAt_mk (p := ⟨a, 0⟩) hb (by simp [Enc.all_length])]
    simp [← Enc.all_length]
theorem Apd.keeps {X : Nat → Prop} (A : Apd E h q l) (K : Keeps X h h') (hq : ∀ s, q = some s → ¬ X s.b) : Apd E h' q l := by
  rcases A with ⟨rfl, rfl⟩ | ⟨a, o, rfl, ho, hb⟩
  · exact .inl ⟨rfl, rfl⟩
  · exact .inr ⟨a, o, rfl, ho, K _ _ (hq _ rfl) hb⟩
theorem Apd.ext (A : Apd E h q l) (K : Ext h h') : Apd E h' q l := A.keeps (X := fun _ => False) (keeps_of_ext K) (fun _ _ h => h)
theorem Apd.mk {a o : Nat} {n : Nat} (hn : n = l.length) (ho : o = 0 ∨ o = E.sz) (hb : h[a]? = some (.cells (E.all l) true)) : Apd E h (some ⟨a, 0, n, n, o⟩) l := by
  subst hn; exact .inr ⟨a, o, rfl, ho, hb⟩
theorem Apd.append0 {by' : Nat} {K : Option SL → Heap → Prop} (A : Apd E h q l) (hb : (l.length + m.length) * by' ≤ 140737488355328)
    (hK : ∀ q' h', Apd E h' q' (l ++ m) → Keeps (fun b => ∃ s, q = some s ∧ s.b = b) h h' → h.length ≤ h'.length → (∀ s', q' = some s' → h.length ≤ s'.b ∨ ∃ s, q = some s ∧ s.b = s'.b) → K q' h') : PAppend E.sz by' q m.length (E.all m) h K := by
  refine ⟨by rw [Enc.all_length], ?_⟩
  rcases A with ⟨rfl, rfl⟩ | ⟨a, o, rfl, ho, hb5⟩
  · simp only
    split
    · rename_i hm
      have : m = [] := List.eq_nil_of_length_eq_zero hm
      subst this
      exact hK _ _ (.inl ⟨rfl, rfl⟩) (.refl _ _) (Nat.le_refl _) (fun s' h => by cases h)
    · refine ⟨by simpa using hb, E.pos, hK _ _ (Apd.mk (by simp) (.inr rfl) (by simp)) (keeps_of_ext (Ext.app _ _)) (by simp) (fun s' h => by cases h; exact .inl (Nat.le_refl _))⟩
  · simp only
    have hset : ∀ B : Blk, Keeps (fun b => ∃ s' : SL, some (⟨a, 0, l.length, l.length, o⟩ : SL) = some s' ∧ s'.b = b) h (h.set a B) := by
      intro B b C hb hC
      rw [List.getElem?_set, if_neg]
      · exact hC
      · intro he; exact hb ⟨_, rfl, he⟩
    split
    · rename_i hle
      have hm : m.length = 0 := by omega
      have : m = [] := List.eq_nil_of_length_eq_zero hm
      subst this
      rw [hb5]
      simp only
      have e0 : E.all ([] : List α) = [] := rfl
      refine ⟨by simp [Enc.all_length, e0], hK _ _ (Apd.mk (by simp) ho ?_) (hset _) (by simp) (fun s' h => by cases h; exact .inr ⟨_, rfl, rfl⟩)⟩
      have hlt := lt_of_get hb5
      rw [List.getElem?_set_self hlt]
      simp [Enc.all, splice, List.take_append_drop]
    · have hold : cellsAt h ⟨a, 0⟩ (l.length * E.sz) = some (E.all l) := by
        rw [cellsAt_mk (p := ⟨a, 0⟩) hb5 (by simp [Enc.all_length])]
        simp [← Enc.all_length]
      refine ⟨hb, E.pos, ?_⟩
      rw [hold, hb5]
      simp only
      rcases ho with rfl | rfl
      · rw [if_pos rfl]
        exact hK _ _ (Apd.mk (by simp) (.inr rfl) (by simp [Enc.all_append])) (keeps_of_ext (Ext.app _ _)) (by simp) (fun s' h => by cases h; exact .inl (Nat.le_refl _))
      · have h0' : ¬ E.sz = 0 := by have := E.pos; omega
        rw [if_neg h0']
        refine ⟨trivial, rfl, hK _ _ (Apd.mk (by simp) (.inr rfl) ?_) ((hset _).trans (keeps_of_ext (Ext.app _ _))) (by simp) (fun s' h => by cases h; exact .inl (Nat.le_refl _))⟩
        rw [List.getElem?_append_right (by simp)]
        simp [Enc.all_append]
theorem Apd.append {src : Option SL} {by' : Nat} {K : Option SL → Heap → Prop} (A : Apd E h q l) (H : HasL E h src m) (hb : (l.length + m.length) * by' ≤ 140737488355328)
    (hK : ∀ q' h', Apd E h' q' (l ++ m) → Keeps (fun b => ∃ s, q = some s ∧ s.b = b) h h' → h.length ≤ h'.length → (∀ s', q' = some s' → h.length ≤ s'.b ∨ ∃ s, q = some s ∧ s.b = s'.b) → K q' h') : PAppendS E.sz by' q src h K := by
  refine ⟨E.all m, H.cells, ?_⟩
  rw [H.len]
  exact A.append0 hb hK
theorem New.hasL (N : New E h h' q l) : HasL E h' q l := N.2.1.hasL
theorem New.ext {h2 : Heap} (N : New E h h' q l) (K : Ext h' h2) : New E h h2 q l := ⟨N.1.trans K, N.2.1.ext K, N.2.2⟩
theorem New.of {h0 : Heap} (N : New E h h' q l) (K : Ext h0 h) : New E h0 h' q l := ⟨K.trans N.1, N.2.1, fun s hs => by have := N.2.2 s hs; have := K.len; omega⟩
theorem New.append0 {by' : Nat} {K : Option SL → Heap → Prop} (N : New E h h' q l) (hb : (l.length + m.length) * by' ≤ 140737488355328)
    (hK : ∀ q' h2, New E h h2 q' (l ++ m) → K q' h2) : PAppend E.sz by' q m.length (E.all m) h' K := by
  refine N.2.1.append0 hb fun q' h2 A2 K2 hl hq => hK q' h2 ⟨?_, A2, ?_⟩
  · intro b B hB
    exact K2 b B (fun ⟨s, a1, a2⟩ => by have := N.2.2 s a1; have := lt_of_get hB; omega) (N.1 _ _ hB)
  · intro s hs
    have := N.1.len
    rcases hq s hs with a | ⟨s', a1, a2⟩
    · omega
    · have := N.2.2 s' a1; omega
theorem New.append {src : Option SL} {by' : Nat} {K : Option SL → Heap → Prop} (N : New E h h' q l) (H : HasL E h' src m) (hb : (l.length + m.length) * by' ≤ 140737488355328)
    (hK : ∀ q' h2, New E h h2 q' (l ++ m) → K q' h2) : PAppendS E.sz by' q src h' K := by
  refine ⟨E.all m, H.cells, ?_⟩
  rw [H.len]
  exact N.append0 hb hK
theorem New.mk1 {c : List AV} {n : Nat} (hn : n = l.length) (hc : c = E.all l) : New E h (h ++ [.cells c true]) (some ⟨h.length, 0, n, n, 0⟩) l :=
  ⟨.app _ _, Apd.mk hn (.inl rfl) (by rw [← hc]; simp), fun s hs => by cases hs; exact Nat.le_refl _⟩
theorem New.none : New E h h none ([] : List α) := ⟨.refl _, .inl ⟨rfl, rfl⟩, fun s hs => by cases hs⟩
end
theorem splice_setB {l : Bs} {i : Nat} {b : UInt8} (hi : i < l.length) : splice (byteAVs l) i [.int .u8 b.toNat] = byteAVs (l.set i b) := by
  unfold splice byteAVs
  rw [List.set_eq_take_append_cons_drop, if_pos hi]
  simp
theorem shr8 {n : Nat} : shrK .i64 (n : Int) 8 = ((n / 256 : Nat) : Int) := by
  have e : min ((8 : Int).toNat) IntKind.i64.bits = 8 := by decide
  simp only [shrK, e]
  rw [Int.fdiv_eq_ediv_of_nonneg _ (by decide)]
  simp
theorem shrB {n k : Nat} (hk : k ≤ 7) : shrK .i64 (n : Int) ((8 * k : Nat) : Int) = ((n / 256 ^ k : Nat) : Int) := by
  have e : min (((8 * k : Nat) : Int).toNat) IntKind.i64.bits = 8 * k := by
    have : IntKind.i64.bits = 64 := rfl
    rw [this]; omega
  simp only [shrK, e]
  rw [Int.fdiv_eq_ediv_of_nonneg _ (Int.pow_nonneg (by decide))]
  have : (256 : Nat) ^ k = 2 ^ (8 * k) := by rw [Nat.pow_mul]
  rw [this]
  simp
theorem u8c {n : Nat} : wrapK .u8 (n : Int) = ((UInt8.ofNat (n % 256)).toNat : Int) := by
  rw [wrapK_u8]; simp
theorem cel_succ {k : IntKind} {n : Nat} {b : Nat → Int} : cel k (n + 1) b = .int k (b 0) :: cel k n (fun i => b (i + 1)) := by
  simp only [cel, List.range_succ_eq_map, List.map_cons, List.map_map]
  rfl
theorem cel_len {k : IntKind} {n : Nat} {b : Nat → Int} : (cel k n b).length = n := by simp [cel]
theorem exC_mk {k : IntKind} : ∀ {n : Nat} {b : Nat → Int} {K : List AV → Prop}, K (cel k n b) → exC k n K
  | 0, b, K, h => h
  | n + 1, b, K, h => ⟨b 0, exC_mk (b := fun i => b (i + 1)) (by rw [cel_succ] at h; exact h)⟩
theorem cel_one {k : IntKind} {n : Nat} {b : Nat → Int} : oneAll (cel k n b) = true := by
  simp [oneAll, cel, AV.one]
section
variable {α : Type} {E : Enc α} {h h' : Heap} {q : Option SL} {l m : List α}
def AppJ (E : Enc α) (h : Heap) (q : Option SL) (l : List α) : Prop :=
  (q = none ∧ l = []) ∨ ∃ (a c o : Nat) (j : List AV), q = some ⟨a, 0, l.length, c, o⟩ ∧ (o = 0 ∨ o = E.sz) ∧ h[a]? = some (.cells (E.all l ++ j) true) ∧ j.length = (c - l.length) * E.sz ∧ l.length ≤ c
theorem AppJ.hasL (A : AppJ E h q l) : HasL E h q l := by
  rcases A with ⟨rfl, rfl⟩ | ⟨a, c, o, j, rfl, ho, hb, hj, hc⟩
  · rfl
  · refine ⟨rfl, hc, ho, ?_⟩
    rw [cellsAt_mk (p := ⟨a, 0⟩) hb (by simp [Enc.all_length])]
    simp [← Enc.all_length]
theorem AppJ.keeps {X : Nat → Prop} (A : AppJ E h q l) (K : Keeps X h h') (hq : ∀ s, q = some s → ¬ X s.b) : AppJ E h' q l := by
  rcases A with ⟨rfl, rfl⟩ | ⟨a, c, o, j, rfl, ho, hb, hj, hc⟩
  · exact .inl ⟨rfl, rfl⟩
  · exact .inr ⟨a, c, o, j, rfl, ho, K _ _ (hq _ rfl) hb, hj, hc⟩
theorem AppJ.ext (A : AppJ E h q l) (K : Ext h h') : AppJ E h' q l := A.keeps (X := fun _ => False) (keeps_of_ext K) (fun _ _ h => h)
theorem AppJ.of (A : Apd E h q l) : AppJ E h q l := by
  rcases A with ⟨rfl, rfl⟩ | ⟨a, o, rfl, ho, hb⟩
  · exact .inl ⟨rfl, rfl⟩
  · exact .inr ⟨a, l.length, o, [], rfl, ho, by simpa using hb, by simp, Nat.le_refl _⟩
theorem AppJ.live (A : AppJ E h q l) : ∀ s, q = some s → s.b < h.length := by
  intro s hs
  rcases A with ⟨rfl, rfl⟩ | ⟨a, c, o, j, rfl, ho, hb, hj, hc⟩
  · cases hs
  · cases hs; exact lt_of_get hb
theorem AppJ.append0 {by' : Nat} {K : Option SL → Heap → Prop} (A : AppJ E h q l) (hb : (l.length + m.length) * by' ≤ 140737488355328)
    (hK : ∀ q' h', AppJ E h' q' (l ++ m) → Keeps (fun b => ∃ s, q = some s ∧ s.b = b) h h' → h.length ≤ h'.length → (∀ s', q' = some s' → h.length ≤ s'.b ∨ ∃ s, q = some s ∧ s.b = s'.b) → K q' h') : PAppend E.sz by' q m.length (E.all m) h K := by
  refine ⟨by rw [Enc.all_length], ?_⟩
  rcases A with ⟨rfl, rfl⟩ | ⟨a, c, o, j, rfl, ho, hb5, hj, hc⟩
  · simp only
    split
    · rename_i hm
      have : m = [] := List.eq_nil_of_length_eq_zero hm
      subst this
      exact hK _ _ (.inl ⟨rfl, rfl⟩) (.refl _ _) (Nat.le_refl _) (fun s' h => by cases h)
    · refine ⟨by simpa using hb, E.pos, hK _ _ (.of (Apd.mk (by simp) (.inr rfl) (by simp))) (keeps_of_ext (Ext.app _ _)) (by simp) (fun s' h => by cases h; exact .inl (Nat.le_refl _))⟩
  · simp only
    have hset : ∀ B : Blk, Keeps (fun b => ∃ s' : SL, some (⟨a, 0, l.length, c, o⟩ : SL) = some s' ∧ s'.b = b) h (h.set a B) := by
      intro B b C hb hC
      rw [List.getElem?_set, if_neg]
      · exact hC
      · intro he; exact hb ⟨_, rfl, he⟩
    split
    · rename_i hle
      rw [hb5]
      simp only
      have hl1 : (E.all l).length = l.length * E.sz := Enc.all_length
      have hm1 : (E.all m).length = m.length * E.sz := Enc.all_length
      have hmul : m.length * E.sz ≤ (c - l.length) * E.sz := Nat.mul_le_mul_right _ (by omega)
      have hsub : (c - (l.length + m.length)) * E.sz = (c - l.length) * E.sz - m.length * E.sz := by rw [← Nat.sub_mul]; congr 1; omega
      refine ⟨by rw [List.length_append, hl1, hm1, hj]; omega, hK _ _ (.inr ⟨a, c, o, j.drop (m.length * E.sz), by simp, ho, ?_, ?_, by simp; omega⟩) (hset _) (by simp) (fun s' h => by cases h; exact .inr ⟨_, rfl, rfl⟩)⟩
      · rw [List.getElem?_set_self (lt_of_get hb5)]
        congr 2
        rw [splice, Nat.zero_add, ← hl1, List.take_left' rfl, Enc.all_append, ← List.drop_drop, List.drop_left' rfl, hm1]
      · rw [List.length_drop, hj, List.length_append, hsub]
    · have hold : cellsAt h ⟨a, 0⟩ (l.length * E.sz) = some (E.all l) := by
        rw [cellsAt_mk (p := ⟨a, 0⟩) hb5 (by simp [Enc.all_length])]
        simp [← Enc.all_length]
      refine ⟨hb, E.pos, ?_⟩
      rw [hold, hb5]
      simp only
      rcases ho with rfl | rfl
      · rw [if_pos rfl]
        exact hK _ _ (.of (Apd.mk (by simp) (.inr rfl) (by simp [Enc.all_append]))) (keeps_of_ext (Ext.app _ _)) (by simp) (fun s' h => by cases h; exact .inl (Nat.le_refl _))
      · have h0' : ¬ E.sz = 0 := by have := E.pos; omega
        rw [if_neg h0']
        refine ⟨trivial, rfl, hK _ _ (.of (Apd.mk (by simp) (.inr rfl) ?_)) ((hset _).trans (keeps_of_ext (Ext.app _ _))) (by simp) (fun s' h => by cases h; exact .inl (Nat.le_refl _))⟩
        rw [List.getElem?_append_right (by simp)]
        simp [Enc.all_append]
theorem AppJ.append {src : Option SL} {by' : Nat} {K : Option SL → Heap → Prop} (A : AppJ E h q l) (H : HasL E h src m) (hb : (l.length + m.length) * by' ≤ 140737488355328)
    (hK : ∀ q' h', AppJ E h' q' (l ++ m) → Keeps (fun b => ∃ s, q = some s ∧ s.b = b) h h' → h.length ≤ h'.length → (∀ s', q' = some s' → h.length ≤ s'.b ∨ ∃ s, q = some s ∧ s.b = s'.b) → K q' h') : PAppendS E.sz by' q src h K := by
  refine ⟨E.all m, H.cells, ?_⟩
  rw [H.len]
  exact A.append0 hb hK
theorem AppJ.store {i k : Nat} {r r' : α} {xs : List AV} {K : Heap → Prop} (A : AppJ E h q l) (hi : l[i]? = some r) (hk : k + xs.length ≤ E.sz) (hr : E.f r' = splice (E.f r) k xs) {p : PA} (hp : ∀ s, q = some s → p = ⟨s.b, i * E.sz + k⟩)
    (hK : ∀ h', AppJ E h' q (l.set i r') → Keeps (fun b => ∃ s, q = some s ∧ s.b = b) h h' → h'.length = h.length → K h') : PStore h p xs K := by
  rcases A with ⟨rfl, rfl⟩ | ⟨a, c, o, j, rfl, ho, hb5, hj, hc⟩
  · simp at hi
  · have hp := hp _ rfl
    subst hp
    have hlt := lt_of_get hi
    have hl1 : (E.all l).length = l.length * E.sz := Enc.all_length
    have hmul : (i + 1) * E.sz ≤ l.length * E.sz := Nat.mul_le_mul_right _ hlt
    rw [Nat.add_mul, Nat.one_mul] at hmul
    unfold PStore
    simp only [hb5]
    refine ⟨by rw [List.length_append, hl1]; omega, hK _ (.inr ⟨a, c, o, j, by simp, ho, ?_, by simpa using hj, by simpa using hc⟩) ?_ (by simp)⟩
    · rw [List.getElem?_set_self (lt_of_get hb5)]
      congr 2
      have := splice_app (A := []) (B := E.all l) (C := j) (xs := xs) (k := i * E.sz + k) (by rw [hl1]; omega)
      simp only [List.nil_append, List.length_nil, Nat.zero_add] at this
      rw [this, Go.Ab.splice_set hi hk hr]
    · intro b C hb hC
      rw [List.getElem?_set, if_neg]
      · exact hC
      · intro he; exact hb ⟨_, rfl, he⟩
theorem AppJ.idx (A : AppJ E h q l) {i : Int} {K : PA → Prop} (h0 : 0 ≤ i) (h1 : i < l.length)
    (hK : ∀ p x, l[i.toNat]? = some x → cellsAt h p E.sz = some (E.f x) → (∀ s, q = some s → p = ⟨s.b, i.toNat * E.sz⟩) → K p) : vIdx q i E.sz K := by
  rcases A with ⟨rfl, rfl⟩ | ⟨a, c, o, j, rfl, ho, hb5, hj, hc⟩
  · simp at h1; omega
  · have A' : AppJ E h (some ⟨a, 0, l.length, c, o⟩) l := .inr ⟨a, c, o, j, rfl, ho, hb5, hj, hc⟩
    have hi : i.toNat < l.length := by omega
    refine ⟨h0, h1, hK _ _ (List.getElem?_eq_getElem hi) ?_ (fun s hs => by cases hs; simp)⟩
    have h2 : i.toNat * E.sz + E.sz ≤ l.length * E.sz := by
      have : (i.toNat + 1) * E.sz ≤ l.length * E.sz := Nat.mul_le_mul_right _ hi
      rw [Nat.add_mul, Nat.one_mul] at this; exact this
    have hc2 := A'.hasL.2.2.2
    rw [cellsAt_sub hc2 h2, Enc.all_at (List.getElem?_eq_getElem hi)]
end
theorem pslice_blk {sz : Nat} {q : Option SL} {lo : Int} {hi mx : Option Int} {K K2 : Option SL → Prop} (P : PSlice sz q lo hi mx K) (hK : ∀ q', K q' → (∀ s', q' = some s' → ∃ s, q = some s ∧ s'.b = s.b) → K2 q') : PSlice sz q lo hi mx K2 := by
  unfold PSlice at P ⊢
  cases q with
  | none => exact ⟨P.1, P.2.1, P.2.2.1, hK _ P.2.2.2 (fun s' h => by cases h)⟩
  | some s => exact ⟨P.1, P.2.1, P.2.2.1, P.2.2.2.1, P.2.2.2.2.1, hK _ P.2.2.2.2.2 (fun s' h => by cases h; exact ⟨s, rfl, rfl⟩)⟩
theorem HasL.slice2 {α : Type} {E : Enc α} {h : Heap} {q : Option SL} {l : List α} (H : HasL E h q l) {lo : Int} {hi : Option Int} {K : Option SL → Prop} (h0 : 0 ≤ lo) (h1 : lo ≤ hi.getD l.length) (h2 : hi.getD l.length ≤ l.length)
    (hK : ∀ q', HasL E h q' ((l.take (hi.getD l.length).toNat).drop lo.toNat) → (∀ s', q' = some s' → ∃ s, q = some s ∧ s'.b = s.b) → K q') : PSlice E.sz q lo hi none K :=
  pslice_blk (H.slice (K := fun q' => HasL E h q' ((l.take (hi.getD l.length).toNat).drop lo.toNat)) h0 h1 h2 fun _ h => h) hK
end Go.Ab
namespace Go.Ab
set_option linter.unusedVariables false
set_option linter.unusedSimpArgs false
def OwnL {α : Type} (E : Enc α) (h : Heap) (q : Option SL) (l : List α) : Prop := (l = [] ∧ ∃ a, q = some ⟨a, 0, 0, 0, 0⟩ ∧ h[a]? = some (.cells [] true)) ∨ (l ≠ [] ∧ ∃ a, q = some ⟨a, 0, l.length, l.length, E.sz⟩ ∧ h[a]? = some (.cells (E.all l) true))
theorem OwnL.hasL {α : Type} {E : Enc α} {h : Heap} {q : Option SL} {l : List α} (O : OwnL E h q l) : HasL E h q l := by
  rcases O with ⟨rfl, a, rfl, hb⟩ | ⟨hne, a, rfl, hb⟩
  · refine ⟨rfl, Nat.le_refl _, .inl rfl, ?_⟩
    simp [cellsAt, hb, Enc.all]
  · refine ⟨rfl, Nat.le_refl _, .inr rfl, ?_⟩
    rw [cellsAt_mk (p := ⟨a, 0⟩) hb (by simp [Enc.all_length])]
    simp [← Enc.all_length]
theorem copy0 {α : Type} {E : Enc α} {h : Heap} {a : Nat} {q : Option SL} {l : List α} {by' : Nat} {K : Option SL → Heap → Prop} (ha : h[a]? = some (.cells [] true)) (H : HasL E h q l) (hb : l.length * by' ≤ 140737488355328)
    (hK : ∀ q' h', Ext h h' → OwnL E h' q' l → (∀ s, q' = some s → s.b = a ∨ h.length ≤ s.b) → K q' h') : PAppendS E.sz by' (some ⟨a, 0, 0, 0, 0⟩) q h K := by
  refine ⟨E.all l, H.cells, by rw [Enc.all_length, H.len], ?_⟩
  rw [H.len]
  simp only [Nat.zero_add, Nat.zero_mul]
  split
  · rename_i h0
    have : l = [] := List.eq_nil_of_length_eq_zero (by omega)
    subst this
    rw [ha]
    have e0 : E.all ([] : List α) = [] := rfl
    simp only [e0, splice_nil, List.length_nil]
    have hs : h.set a (.cells [] true) = h := set_same ha
    rw [hs]
    exact ⟨by simp, hK _ _ (.refl _) (.inl ⟨rfl, a, rfl, ha⟩) (fun s hs => by cases hs; exact .inl rfl)⟩
  · rename_i h0
    refine ⟨hb, E.pos, ?_⟩
    have hc : cellsAt h ⟨a, 0⟩ 0 = some [] := by simp [cellsAt, ha]
    rw [hc, ha]
    simp only [if_true, List.nil_append]
    refine hK _ _ (.app _ _) (.inr ⟨fun h => h0 (by rw [h]; simp), h.length, rfl, by simp⟩) (fun s hs => by cases hs; exact .inr (Nat.le_refl _))
theorem OwnL.apd {α : Type} {E : Enc α} {h : Heap} {q : Option SL} {l : List α} (O : OwnL E h q l) : Apd E h q l := by
  rcases O with ⟨rfl, a, rfl, hb⟩ | ⟨hne, a, rfl, hb⟩
  · exact .inr ⟨a, 0, rfl, .inl rfl, by simpa [Enc.all] using hb⟩
  · exact .inr ⟨a, E.sz, rfl, .inr rfl, hb⟩
theorem copyNew {α : Type} {E : Enc α} {h : Heap} {q : Option SL} {l : List α} {by' : Nat} {K : Option SL → Heap → Prop} (H : HasL E h q l) (hb : l.length * by' ≤ 140737488355328)
    (hK : ∀ q' h', New E h h' q' l → K q' h') : PAppendS E.sz by' (some ⟨h.length, 0, 0, 0, 0⟩) q (h ++ [.cells [] true]) K := by
  refine copy0 (by simp) (H.mono (.app _ _)) hb fun q' h' x O hq => hK q' h' ⟨(Ext.app _ _).trans x, O.apd, fun s hs => ?_⟩
  have := hq s hs
  simp at this
  omega
end Go.Ab
namespace Go.Pool
open Go.Ab hiding Bs
open Go.Ent
set_option linter.unusedVariables false
set_option linter.unusedSimpArgs false
theorem at_some {P : PS} (hk : P.ok) {s : Bs} {i : Int} {k : Nat} {f : Fr} (hf : P.fr[k]? = some f) (h1 : f.is = true) (h2 : f.name = s) (h3 : f.i = i) : P.at s i = some k := by
  unfold PS.at
  obtain ⟨hl, rfl⟩ := List.getElem?_eq_some_iff.1 hf
  rw [List.findIdx?_eq_some_iff_getElem]
  refine ⟨hl, by simp [Fr.at, h1, h2, h3], fun j hj hc => ?_⟩
  simp only [Fr.at, Bool.and_eq_true, beq_iff_eq] at hc
  have := hk.one j k _ _ (List.getElem?_eq_getElem (Nat.lt_trans hj hl)) hf hc.1 h1 (by rw [hc.2.1, h2]) (by rw [hc.2.2, h3])
  omega
theorem of_at {P : PS} {s : Bs} {i : Int} {k : Nat} (h : P.at s i = some k) : ∃ f, P.fr[k]? = some f ∧ f.is = true ∧ f.name = s ∧ f.i = i := by
  unfold PS.at at h
  rw [List.findIdx?_eq_some_iff_getElem] at h
  obtain ⟨hl, h1, _⟩ := h
  simp only [Fr.at, Bool.and_eq_true, beq_iff_eq] at h1
  exact ⟨_, List.getElem?_eq_getElem hl, h1.1, h1.2.1, h1.2.2⟩
theorem at_none {P : PS} {s : Bs} {i : Int} (h : ∀ f ∈ P.fr, f.is = true → f.name = s → f.i ≠ i) : P.at s i = none := by
  cases he : P.at s i with
  | none => rfl
  | some k =>
    obtain ⟨f, hf, h1, h2, h3⟩ := of_at he
    exact absurd h3 (h f (List.mem_of_getElem? hf) h1 h2)
theorem at_not {P : PS} {s : Bs} {i : Int} (hk : P.ok) (h : P.at s i = none) : ∀ (k : Nat) (f : Fr), P.fr[k]? = some f → f.is = true → f.name = s → f.i ≠ i := by
  intro k f hf h1 h2 h3
  rw [at_some hk hf h1 h2 h3] at h; cases h
structure RF where
  name : Bs
  i : Int
  q : Option SL
  held : Nat
  mark : Bool
  is : Bool
def rfE : Enc RF := ⟨6, fun f => [.str f.name, .int .i64 f.i, .sl f.q, .int .i64 (f.held : Nat), .bool f.mark, .bool f.is], fun _ => rfl, by omega, fun _ => rfl⟩
abbrev spotV (s : Bs) (i : Int) : AV := .agg [.str s, .int .i64 i]
abbrev Ents := List (AV × AV × Nat)
structure EncZ where
  e : Enc Ent
  z : Nat → Prop
structure RelF (E : EncZ) (h : Heap) (p fb mb : Nat) (r : RF) (f : Fr) : Prop where
  name : r.name = f.name
  i : r.i = f.i
  held : r.held = f.held
  mark : r.mark = f.mark
  is : r.is = f.is
  l : HasL E.e h r.q f.l
  sep : ∀ s, r.q = some s → s.b ≠ p ∧ s.b ≠ fb ∧ s.b ≠ mb ∧ ¬ E.z s.b
abbrev poolB (fb mb n hand hits reads losses : Nat) : Blk := .cells [.sl (some ⟨fb, 0, n, n, 0⟩), .map (some mb), .int .i64 (hand : Nat), .int .i64 (hits : Nat), .int .i64 (reads : Nat), .int .i64 (losses : Nat)] true
structure PoolC (E : EncZ) (h : Heap) (p fb mb : Nat) (rs : List RF) (es : Ents) (cl : Nat) (P : PS) : Prop where
  pb : h[p]? = some (poolB fb mb P.fr.length P.hand P.hits P.reads P.losses)
  fbk : h[fb]? = some (.cells (rfE.all rs) true)
  mbk : h[mb]? = some (.mp es cl)
  rl : rs.length = P.fr.length
  rel : ∀ (k : Nat) (r : RF) (f : Fr), rs[k]? = some r → P.fr[k]? = some f → RelF E h p fb mb r f
  keys : ∀ e ∈ es, ∃ (k : Nat) (f : Fr), P.fr[k]? = some f ∧ f.is = true ∧ e.1 = spotV f.name f.i ∧ e.2.1 = .int .i64 (k : Nat)
  all : ∀ (k : Nat) (f : Fr), P.fr[k]? = some f → f.is = true → ∃ n, (spotV f.name f.i, AV.int .i64 (k : Nat), n) ∈ es
  nd : (es.map (·.1)).Nodup
  ok : P.ok
  ne : p ≠ fb ∧ p ≠ mb ∧ fb ≠ mb
def PoolR (E : EncZ) (h : Heap) (p fb mb : Nat) (P : PS) : Prop := ∃ rs es cl, PoolC E h p fb mb rs es cl P
abbrev pbl (p fb mb : Nat) : Nat → Prop := fun b => b = p ∨ b = fb ∨ b = mb
structure PS.lt (P : PS) (N : Nat) : Prop where
  held : ∀ f ∈ P.fr, f.held ≤ N
  hits : P.hits ≤ N
  reads : P.reads ≤ N
  losses : P.losses ≤ N
theorem PS.lt.mono {P : PS} {N M : Nat} (h : P.lt N) (hm : N ≤ M) : P.lt M := ⟨fun f hf => Nat.le_trans (h.held f hf) hm, Nat.le_trans h.hits hm, Nat.le_trans h.reads hm, Nat.le_trans h.losses hm⟩
section
variable {E : EncZ} {h h' : Heap} {p fb mb : Nat} {rs : List RF} {es : Ents} {cl : Nat} {P : PS}
theorem RelF.keeps {X : Nat → Prop} {r : RF} {f : Fr} (R : RelF E h p fb mb r f) (K : Keeps X h h') (hX : ∀ b, b ≠ p → b ≠ fb → b ≠ mb → b < h.length → ¬ X b) : RelF E h' p fb mb r f :=
  ⟨R.name, R.i, R.held, R.mark, R.is, K.hasL (fun s hs => let ⟨a, b, c, d⟩ := R.sep s hs; hX _ a b c (HasL.live R.l s hs)) R.l, R.sep⟩
theorem RelF.keepsZ {X : Nat → Prop} {r : RF} {f : Fr} (R : RelF E h p fb mb r f) (K : Keeps X h h') (hX : ∀ b, X b → E.z b) : RelF E h' p fb mb r f :=
  ⟨R.name, R.i, R.held, R.mark, R.is, K.hasL (fun s hs hc => (R.sep s hs).2.2.2 (hX _ hc)) R.l, R.sep⟩
theorem PoolC.keepsZ {X : Nat → Prop} (C : PoolC E h p fb mb rs es cl P) (K : Keeps X h h') (hX : ∀ b, X b → E.z b) (hp : ¬ X p ∧ ¬ X fb ∧ ¬ X mb) : PoolC E h' p fb mb rs es cl P :=
  { C with
    pb := K _ _ hp.1 C.pb
    fbk := K _ _ hp.2.1 C.fbk
    mbk := K _ _ hp.2.2 C.mbk
    rel := fun k r f hr hf => (C.rel k r f hr hf).keepsZ K hX }
theorem PoolC.more {z : Nat → Prop} (C : PoolC E h p fb mb rs es cl P) (hz : ∀ b, z b → E.z b ∨ h.length ≤ b) : PoolC ⟨E.e, z⟩ h p fb mb rs es cl P :=
  { C with rel := fun k r f hr hf =>
      let R := C.rel k r f hr hf
      ⟨R.name, R.i, R.held, R.mark, R.is, R.l, fun s hs => let ⟨a, b, c, d⟩ := R.sep s hs; ⟨a, b, c, fun hc => by
        rcases hz _ hc with h1 | h1
        · exact d h1
        · have := HasL.live R.l s hs; omega⟩⟩ }
theorem PoolC.keeps {X : Nat → Prop} (C : PoolC E h p fb mb rs es cl P) (K : Keeps X h h') (hX : ∀ b, b < h.length → ¬ X b) : PoolC E h' p fb mb rs es cl P :=
  { C with
    pb := K _ _ (hX _ (lt_of_get C.pb)) C.pb
    fbk := K _ _ (hX _ (lt_of_get C.fbk)) C.fbk
    mbk := K _ _ (hX _ (lt_of_get C.mbk)) C.mbk
    rel := fun k r f hr hf => (C.rel k r f hr hf).keeps K (fun b _ _ _ hb => hX b hb) }
theorem PoolR.ext (R : PoolR E h p fb mb P) (K : Ext h h') : PoolR E h' p fb mb P := by
  obtain ⟨rs, es, cl, C⟩ := R
  exact ⟨rs, es, cl, C.keeps (X := fun _ => False) (keeps_of_ext K) (fun _ _ h => h)⟩
theorem PoolC.at (C : PoolC E h p fb mb rs es cl P) {k : Nat} {x : AV} (hx : [AV.sl (some ⟨fb, 0, P.fr.length, P.fr.length, 0⟩), .map (some mb), .int .i64 (P.hand : Nat), .int .i64 (P.hits : Nat), .int .i64 (P.reads : Nat), .int .i64 (P.losses : Nat)][k]? = some x) : cellsAt h ⟨p, 0 + k⟩ 1 = some [x] := by
  have hk : k < 6 := by
    have := (List.getElem?_eq_some_iff.1 hx).1
    simpa using this
  rw [cells6 C.pb (by simp only [List.length_cons, List.length_nil]; omega)]
  match k, hk with
  | 0, _ | 1, _ | 2, _ | 3, _ | 4, _ | 5, _ => cases hx; rfl
theorem findP_spot {Pg : Program} {kt : TypeId} (hK : ∀ (s s' : Bs) (i i' : Int) (K : Bool → Prop), K ((s == s') && (i == i')) → keyIs Pg kt (spotV s i) (spotV s' i') K) {s : Bs} {i : Int} {K : Option (Nat × AV × Nat) → Prop} : ∀ {es : Ents} {n0 : Nat},
    (∀ e ∈ es, ∃ s' i', e.1 = spotV s' i') → ((∀ e ∈ es, e.1 ≠ spotV s i) → K none) → (∀ j v n, es[j]? = some (spotV s i, v, n) → K (some (n0 + j, v, n))) → findP Pg kt (spotV s i) es n0 K
  | [], n0, _, h0, _ => h0 (by simp)
  | (k', v, n) :: es, n0, hes, h0, h1 => by
    obtain ⟨s', i', rfl⟩ : ∃ s' i', k' = spotV s' i' := hes (k', v, n) (by simp)
    refine hK _ _ _ _ _ ?_
    by_cases he : s = s' ∧ i = i'
    · obtain ⟨rfl, rfl⟩ := he
      simp only [beq_self_eq_true, Bool.and_self, vif]
      have := h1 0 v n rfl
      rwa [Nat.add_zero] at this
    · have hb : ((s == s') && (i == i')) = false := by
        rw [Bool.and_eq_false_iff]
        rcases Decidable.em (s = s') with h | h
        · exact .inr (by simpa using fun hi => he ⟨h, hi⟩)
        · exact .inl (by simpa using h)
      rw [hb]
      simp only [vif]
      refine findP_spot hK (fun e hm => hes e (by simp [hm])) (fun hn => h0 fun e hm => ?_) fun j v' n' hj => ?_
      · rcases List.mem_cons.1 hm with rfl | hm
        · intro hc
          simp only [AV.agg.injEq, List.cons.injEq, AV.str.injEq, AV.int.injEq, true_and, and_true] at hc
          exact he ⟨hc.1.symm, hc.2.symm⟩
        · exact hn e hm
      · have := h1 (j + 1) v' n' hj
        rwa [show n0 + (j + 1) = n0 + 1 + j by omega] at this
theorem PoolC.find (C : PoolC E h p fb mb rs es cl P) {Pg : Program} {kt : TypeId} (hK : ∀ (s s' : Bs) (i i' : Int) (K : Bool → Prop), K ((s == s') && (i == i')) → keyIs Pg kt (spotV s i) (spotV s' i') K) {s : Bs} {i : Int} {K : Option (Nat × AV × Nat) → Prop}
    (h0 : P.at s i = none → K none) (h1 : ∀ j k n, P.at s i = some k → es[j]? = some (spotV s i, .int .i64 (k : Nat), n) → K (some (j, .int .i64 (k : Nat), n))) : findP Pg kt (spotV s i) es 0 K := by
  refine findP_spot hK (fun e he => let ⟨k, f, _, _, h3, _⟩ := C.keys e he; ⟨_, _, h3⟩) (fun hn => h0 (at_none fun f hf h1 h2 h3 => ?_)) fun j v n hj => ?_
  · obtain ⟨k, hk⟩ := List.getElem?_of_mem hf
    obtain ⟨n, hm⟩ := C.all k f hk h1
    exact hn _ hm (by rw [h2, h3])
  · obtain ⟨k, f, hf, hi, e1, e2⟩ := C.keys _ (List.mem_of_getElem? hj)
    simp only at e1 e2
    subst e2
    simp only [AV.agg.injEq, List.cons.injEq, AV.str.injEq, AV.int.injEq, true_and, and_true] at e1
    rw [Nat.zero_add]
    exact h1 j k n (at_some C.ok hf hi e1.1.symm e1.2.symm) hj
end
theorem set_at {α : Type} {l : List α} {k j : Nat} {a g : α} (h : (l.set k a)[j]? = some g) : (j = k ∧ g = a) ∨ (j ≠ k ∧ l[j]? = some g) := by
  rw [List.getElem?_set] at h
  by_cases hj : k = j
  · subst hj
    rw [if_pos rfl] at h
    by_cases hl : k < l.length
    · rw [if_pos hl] at h; cases h; exact .inl ⟨rfl, rfl⟩
    · rw [if_neg hl] at h; cases h
  · rw [if_neg hj] at h; exact .inr ⟨fun hc => hj hc.symm, h⟩
section
variable {E : EncZ} {h h' : Heap} {p fb mb : Nat} {rs : List RF} {es : Ents} {cl : Nat} {P P' : PS}
theorem PS.ok.setF (o : P.ok) {k : Nat} {f f' : Fr} (hf : P.fr[k]? = some f) (h1 : f'.name = f.name) (h2 : f'.i = f.i) (h3 : f'.is = f.is) : PS.ok { P with fr := P.fr.set k f' } := by
  have key : ∀ (j : Nat) (g : Fr), (P.fr.set k f')[j]? = some g → ∃ g0, P.fr[j]? = some g0 ∧ g.name = g0.name ∧ g.i = g0.i ∧ g.is = g0.is := by
    intro j g hg
    rcases set_at hg with ⟨rfl, rfl⟩ | ⟨_, hg⟩
    · exact ⟨f, hf, h1, h2, h3⟩
    · exact ⟨g, hg, rfl, rfl, rfl⟩
  refine ⟨fun j1 j2 f1 f2 e1 e2 i1 i2 n1 n2 => ?_, by simp only [List.length_set]; exact o.hand, by simp only [List.length_set]; exact o.few⟩
  obtain ⟨g1, a1, a2, a3, a4⟩ := key j1 f1 e1
  obtain ⟨g2, b1, b2, b3, b4⟩ := key j2 f2 e2
  exact o.one j1 j2 g1 g2 a1 b1 (by rw [← a4]; exact i1) (by rw [← b4]; exact i2) (by rw [← a2, ← b2]; exact n1) (by rw [← a3, ← b3]; exact n2)
theorem fb_set (C : PoolC E h p fb mb rs es cl P) {B : Blk} : Keeps (fun b => b = fb) h (h.set fb B) := keeps_set rfl
theorem PoolC.setF (C : PoolC E h p fb mb rs es cl P) {k : Nat} {r' : RF} {f f' : Fr} (hf : P.fr[k]? = some f) (R' : RelF E h p fb mb r' f') (h1 : f'.name = f.name) (h2 : f'.i = f.i) (h3 : f'.is = f.is) :
    PoolC E (h.set fb (.cells (rfE.all (rs.set k r')) true)) p fb mb (rs.set k r') es cl { P with fr := P.fr.set k f' } := by
  have hfl := lt_of_get C.fbk
  have hkl := (List.getElem?_eq_some_iff.1 hf).1
  have K := fb_set C (B := .cells (rfE.all (rs.set k r')) true)
  have key : ∀ (j : Nat) (g : Fr), (P.fr.set k f')[j]? = some g → ∃ g0, P.fr[j]? = some g0 ∧ g.name = g0.name ∧ g.i = g0.i ∧ g.is = g0.is := by
    intro j g hg
    rcases set_at hg with ⟨rfl, rfl⟩ | ⟨_, hg⟩
    · exact ⟨f, hf, h1, h2, h3⟩
    · exact ⟨g, hg, rfl, rfl, rfl⟩
  refine ⟨?_, by rw [List.getElem?_set_self hfl], K _ _ (fun hx => C.ne.2.2 hx.symm) C.mbk, by rw [List.length_set, List.length_set]; exact C.rl, ?_, ?_, ?_, C.nd, C.ok.setF hf h1 h2 h3, C.ne⟩
  · simp only [List.length_set]
    exact K _ _ C.ne.1 C.pb
  · intro j r g hr hg
    rw [List.getElem?_set] at hr
    simp only at hg
    rw [List.getElem?_set] at hg
    by_cases hj : k = j
    · subst hj
      rw [if_pos rfl] at hr hg
      rw [if_pos (by rw [C.rl]; exact hkl)] at hr
      rw [if_pos hkl] at hg
      cases hr; cases hg
      exact R'.keeps K (fun b _ hb _ _ hx => hb hx)
    · rw [if_neg hj] at hr hg
      exact (C.rel j r g hr hg).keeps K (fun b _ hb _ _ hx => hb hx)
  · intro e he
    obtain ⟨j, g, hg, hi, e1, e2⟩ := C.keys e he
    by_cases hj : k = j
    · subst hj
      rw [hf] at hg; cases hg
      exact ⟨k, f', by simp [hkl], by rw [h3]; exact hi, by rw [h1, h2]; exact e1, e2⟩
    · exact ⟨j, g, by simp only; rw [List.getElem?_set, if_neg hj]; exact hg, hi, e1, e2⟩
  · intro j g hg hi
    obtain ⟨g0, a1, a2, a3, a4⟩ := key j g hg
    obtain ⟨n, hn⟩ := C.all j g0 a1 (by rw [← a4]; exact hi)
    exact ⟨n, by rw [a2, a3]; exact hn⟩
theorem PoolC.setP (C : PoolC E h p fb mb rs es cl P) (hfr : P'.fr = P.fr) (hh : P'.hand < P.fr.length ∨ P'.hand = 0) : PoolC E (h.set p (poolB fb mb P.fr.length P'.hand P'.hits P'.reads P'.losses)) p fb mb rs es cl P' := by
  have hpl := lt_of_get C.pb
  have K : Keeps (fun b => b = p) h (h.set p (poolB fb mb P.fr.length P'.hand P'.hits P'.reads P'.losses)) := keeps_set rfl
  refine ⟨by rw [hfr, List.getElem?_set_self hpl], K _ _ (fun hx => C.ne.1 hx.symm) C.fbk, K _ _ (fun hx => C.ne.2.1 hx.symm) C.mbk, by rw [hfr]; exact C.rl, ?_, ?_, ?_, C.nd, ⟨by rw [hfr]; exact C.ok.one, by rw [hfr]; exact hh, by rw [hfr]; exact C.ok.few⟩, C.ne⟩
  · intro k r f hr hf
    rw [hfr] at hf
    exact (C.rel k r f hr hf).keeps K (fun b hb _ _ _ hx => hb hx)
  · intro e he
    rw [hfr]; exact C.keys e he
  · intro k f hf hi
    rw [hfr] at hf; exact C.all k f hf hi
theorem PoolC.setK (C : PoolC E h p fb mb rs es cl P) {k : Nat} {r' : RF} {f f' : Fr} (hf : P.fr[k]? = some f) (R' : RelF E h p fb mb r' f') {es' : Ents} {cl' : Nat} {B : Blk} (hB : B = .mp es' cl')
    (hkeys : ∀ e ∈ es', (f'.is = true ∧ e.1 = spotV f'.name f'.i ∧ e.2.1 = .int .i64 (k : Nat)) ∨ (e ∈ es ∧ ¬ (f.is = true ∧ e.1 = spotV f.name f.i)))
    (hnew : f'.is = true → ∃ n, (spotV f'.name f'.i, AV.int .i64 (k : Nat), n) ∈ es') (hold : ∀ e ∈ es, ¬ (f.is = true ∧ e.1 = spotV f.name f.i) → e ∈ es') (hnd : (es'.map (·.1)).Nodup)
    (hne : f'.is = true → ∀ (j : Nat) (g : Fr), j ≠ k → P.fr[j]? = some g → g.is = true → g.name = f'.name → g.i ≠ f'.i) :
    PoolC E ((h.set fb (.cells (rfE.all (rs.set k r')) true)).set mb B) p fb mb (rs.set k r') es' cl' { P with fr := P.fr.set k f' } := by
  subst hB
  have hfl := lt_of_get C.fbk
  have hml := lt_of_get C.mbk
  have hkl := (List.getElem?_eq_some_iff.1 hf).1
  have K : Keeps (fun b => b = fb ∨ b = mb) h ((h.set fb (.cells (rfE.all (rs.set k r')) true)).set mb (.mp es' cl')) := by
    refine Keeps.trans (b := h.set fb (.cells (rfE.all (rs.set k r')) true)) (keeps_set (.inl rfl)) (keeps_set (.inr rfl))
  have at1 : ∀ (j : Nat) (g : Fr), (P.fr.set k f')[j]? = some g → (j = k ∧ g = f') ∨ (j ≠ k ∧ P.fr[j]? = some g) := fun j g hg => set_at hg
  refine ⟨?_, ?_, ?_, by rw [List.length_set, List.length_set]; exact C.rl, ?_, ?_, ?_, hnd, ⟨?_, by simp only [List.length_set]; exact C.ok.hand, by simp only [List.length_set]; exact C.ok.few⟩, C.ne⟩
  · simp only [List.length_set]
    exact K _ _ (fun hx => by rcases hx with hx | hx; exact C.ne.1 hx; exact C.ne.2.1 hx) C.pb
  · rw [List.getElem?_set, if_neg (fun hx => C.ne.2.2 hx.symm), List.getElem?_set_self hfl]
  · rw [List.getElem?_set_self (by rw [List.length_set]; exact hml)]
  · intro j r g hr hg
    rw [List.getElem?_set] at hr
    rcases at1 j g hg with ⟨rfl, rfl⟩ | ⟨hj, hg⟩
    · rw [if_pos rfl, if_pos (by rw [C.rl]; exact hkl)] at hr
      cases hr
      exact R'.keeps K (fun b _ h1 h2 _ hx => by rcases hx with hx | hx; exact h1 hx; exact h2 hx)
    · rw [if_neg (fun hc => hj hc.symm)] at hr
      exact (C.rel j r g hr hg).keeps K (fun b _ h1 h2 _ hx => by rcases hx with hx | hx; exact h1 hx; exact h2 hx)
  · intro e he
    rcases hkeys e he with ⟨a, b, c⟩ | ⟨a, b⟩
    · exact ⟨k, f', by simp [hkl], a, b, c⟩
    · obtain ⟨j, g, hg, hi, e1, e2⟩ := C.keys e a
      have hj : j ≠ k := by
        rintro rfl
        rw [hf] at hg; cases hg
        exact b ⟨hi, e1⟩
      exact ⟨j, g, by simp only; rw [List.getElem?_set, if_neg (fun hc => hj hc.symm)]; exact hg, hi, e1, e2⟩
  · intro j g hg hi
    rcases at1 j g hg with ⟨rfl, rfl⟩ | ⟨hj, hg⟩
    · exact hnew hi
    · obtain ⟨n, hn⟩ := C.all j g hg hi
      refine ⟨n, hold _ hn fun hc => ?_⟩
      have h2 := hc.2
      simp only [AV.agg.injEq, List.cons.injEq, AV.str.injEq, AV.int.injEq, true_and, and_true] at h2
      exact hj (C.ok.one j k g f hg hf hi hc.1 h2.1 h2.2)
  · intro j1 j2 f1 f2 e1 e2 i1 i2 n1 n2
    rcases at1 j1 f1 e1 with ⟨rfl, rfl⟩ | ⟨a1, a2⟩
    · rcases at1 j2 f2 e2 with ⟨rfl, rfl⟩ | ⟨b1, b2⟩
      · rfl
      · exact absurd n2.symm (hne i1 j2 f2 b1 b2 i2 n1.symm)
    · rcases at1 j2 f2 e2 with ⟨rfl, rfl⟩ | ⟨b1, b2⟩
      · exact absurd n2 (hne i2 j1 f1 a1 a2 i1 n1)
      · exact C.ok.one j1 j2 f1 f2 a2 b2 i1 i2 n1 n2
theorem erase_keys (C : PoolC E h p fb mb rs es cl P) {j : Nat} {e0 : AV × AV × Nat} (hj : es[j]? = some e0) : (∀ e ∈ es.eraseIdx j, e ∈ es ∧ e.1 ≠ e0.1) ∧ (∀ e ∈ es, e.1 ≠ e0.1 → e ∈ es.eraseIdx j) ∧ ((es.eraseIdx j).map (·.1)).Nodup := by
  have hjl := (List.getElem?_eq_some_iff.1 hj).1
  have hsub : ((es.eraseIdx j).map (·.1)).Nodup := C.nd.sublist ((List.eraseIdx_sublist es j).map _)
  have hmem : ∀ e, e ∈ es.eraseIdx j ↔ ∃ i, i ≠ j ∧ es[i]? = some e := fun e => by
    rw [List.mem_eraseIdx_iff_getElem?]
  refine ⟨fun e he => ?_, fun e he hne => ?_, hsub⟩
  · obtain ⟨i, hi, hie⟩ := (hmem e).1 he
    refine ⟨List.mem_of_getElem? hie, fun hc => hi ?_⟩
    have h1 : (es.map (·.1))[i]? = some e.1 := by rw [List.getElem?_map, hie]; rfl
    have h2 : (es.map (·.1))[j]? = some e0.1 := by rw [List.getElem?_map, hj]; rfl
    obtain ⟨hil, g1⟩ := List.getElem?_eq_some_iff.1 h1
    obtain ⟨hjl2, g2⟩ := List.getElem?_eq_some_iff.1 h2
    have hh := List.pairwise_iff_getElem.1 C.nd
    rcases Nat.lt_trichotomy i j with hlt | heq | hlt
    · exact absurd (by rw [g1, g2, hc]) (hh i j hil hjl2 hlt)
    · exact heq
    · exact absurd (by rw [g1, g2, hc]) (hh j i hjl2 hil hlt)
  · obtain ⟨i, hi⟩ := List.getElem?_of_mem he
    refine (hmem e).2 ⟨i, ?_, hi⟩
    rintro rfl
    rw [hj] at hi; cases hi
    exact hne rfl
end
theorem ex_least {p : Nat → Prop} (h : ∃ n, p n) : ∃ n, p n ∧ ∀ m, p m → n ≤ m := by
  obtain ⟨n, hn⟩ := h
  induction n using Nat.strongRecOn with
  | _ n ih =>
    by_cases hc : ∃ m, m < n ∧ p m
    · obtain ⟨m, h1, h2⟩ := hc
      exact ih m h1 h2
    · exact ⟨n, hn, fun m hm => by
        rcases Nat.lt_or_ge m n with h | h
        · exact absurd ⟨m, h, hm⟩ hc
        · exact h⟩
open Classical in
noncomputable def least (p : Nat → Prop) : Nat := if h : ∃ n, p n then Classical.choose (ex_least h) else 0
theorem least_is {p : Nat → Prop} (h : ∃ n, p n) : p (least p) := by
  unfold least; rw [dif_pos h]; exact (Classical.choose_spec (ex_least h)).1
theorem least_le {p : Nat → Prop} {n : Nat} (h : p n) : least p ≤ n := by
  unfold least; rw [dif_pos ⟨n, h⟩]; exact (Classical.choose_spec (ex_least ⟨n, h⟩)).2 n h
structure PoolD (E : EncZ) (h : Heap) (p fb mb : Nat) (k0 : Nat) (rs : List RF) (es : Ents) (cl : Nat) (P : PS) : Prop where
  pb : h[p]? = some (poolB fb mb P.fr.length P.hand P.hits P.reads P.losses)
  fbk : h[fb]? = some (.cells (rfE.all rs) true)
  mbk : h[mb]? = some (.mp es cl)
  rl : rs.length = P.fr.length
  rel : ∀ (k : Nat) (r : RF) (f : Fr), rs[k]? = some r → P.fr[k]? = some f → RelF E h p fb mb r f
  keys : ∀ e ∈ es, ∃ (k : Nat) (f : Fr), k ≠ k0 ∧ P.fr[k]? = some f ∧ f.is = true ∧ e.1 = spotV f.name f.i ∧ e.2.1 = .int .i64 (k : Nat)
  all : ∀ (k : Nat) (f : Fr), k ≠ k0 → P.fr[k]? = some f → f.is = true → ∃ n, (spotV f.name f.i, AV.int .i64 (k : Nat), n) ∈ es
  nd : (es.map (·.1)).Nodup
  ok : P.ok
  ne : p ≠ fb ∧ p ≠ mb ∧ fb ≠ mb
  k0 : k0 < P.fr.length
section
variable {E : EncZ} {h h' : Heap} {p fb mb k : Nat} {rs : List RF} {es : Ents} {cl : Nat} {P P' : PS}
theorem PoolC.empty (C : PoolC E h p fb mb rs es cl P) {f : Fr} (hf : P.fr[k]? = some f) (hi : f.is = false) : PoolD E h p fb mb k rs es cl P := by
  refine ⟨C.pb, C.fbk, C.mbk, C.rl, C.rel, fun e he => ?_, fun j g _ h1 h2 => C.all j g h1 h2, C.nd, C.ok, C.ne, (List.getElem?_eq_some_iff.1 hf).1⟩
  obtain ⟨j, g, h1, h2, h3, h4⟩ := C.keys e he
  refine ⟨j, g, ?_, h1, h2, h3, h4⟩
  rintro rfl
  rw [hf] at h1; cases h1
  rw [hi] at h2; cases h2
theorem PoolC.forget (C : PoolC E h p fb mb rs es cl P) {f : Fr} (hf : P.fr[k]? = some f) {j : Nat} {n : Nat} (hj : es[j]? = some (spotV f.name f.i, .int .i64 (k : Nat), n)) : PoolD E (h.set mb (.mp (es.eraseIdx j) cl)) p fb mb k rs (es.eraseIdx j) cl P := by
  have hml := lt_of_get C.mbk
  have K : Keeps (fun b => b = mb) h (h.set mb (.mp (es.eraseIdx j) cl)) := keeps_set rfl
  obtain ⟨e1, e2, e3⟩ := erase_keys C hj
  obtain ⟨k', f', hk', hi', h1, h2⟩ := C.keys _ (List.mem_of_getElem? hj)
  have hkk : k' = k := by
    simp only [AV.int.injEq, true_and] at h2
    omega
  subst hkk
  rw [hf] at hk'; cases hk'
  refine ⟨K _ _ C.ne.2.1 C.pb, K _ _ C.ne.2.2 C.fbk, by rw [List.getElem?_set_self hml], C.rl, fun j r g hr hg => (C.rel j r g hr hg).keeps K (fun b _ _ h3 _ hx => h3 hx), fun e he => ?_, fun j g hjk hg hi => ?_, e3, C.ok, C.ne, (List.getElem?_eq_some_iff.1 hf).1⟩
  · obtain ⟨a, b⟩ := e1 e he
    obtain ⟨k2, f2, a1, a2, a3, a4⟩ := C.keys e a
    refine ⟨k2, f2, ?_, a1, a2, a3, a4⟩
    rintro rfl
    rw [hf] at a1; cases a1
    exact b a3
  · obtain ⟨n2, hn2⟩ := C.all j g hg hi
    refine ⟨n2, e2 _ hn2 fun hc => hjk ?_⟩
    simp only [AV.agg.injEq, List.cons.injEq, AV.str.injEq, AV.int.injEq, true_and, and_true] at hc
    exact C.ok.one j k' g f hg hf hi hi' hc.1 hc.2
theorem PoolD.setP (C : PoolD E h p fb mb k rs es cl P) (hfr : P'.fr = P.fr) (hh : P'.hand < P.fr.length ∨ P'.hand = 0) : PoolD E (h.set p (poolB fb mb P.fr.length P'.hand P'.hits P'.reads P'.losses)) p fb mb k rs es cl P' := by
  have hpl := lt_of_get C.pb
  have K : Keeps (fun b => b = p) h (h.set p (poolB fb mb P.fr.length P'.hand P'.hits P'.reads P'.losses)) := keeps_set rfl
  refine ⟨by rw [hfr, List.getElem?_set_self hpl], K _ _ (fun hx => C.ne.1 hx.symm) C.fbk, K _ _ (fun hx => C.ne.2.1 hx.symm) C.mbk, by rw [hfr]; exact C.rl, ?_, ?_, ?_, C.nd, ⟨by rw [hfr]; exact C.ok.one, by rw [hfr]; exact hh, by rw [hfr]; exact C.ok.few⟩, C.ne, by rw [hfr]; exact C.k0⟩
  · intro k r f hr hf
    rw [hfr] at hf
    exact (C.rel k r f hr hf).keeps K (fun b hb _ _ _ hx => hb hx)
  · intro e he
    rw [hfr]; exact C.keys e he
  · intro k f hk hf hi
    rw [hfr] at hf; exact C.all k f hk hf hi
theorem PoolD.take (C : PoolD E h p fb mb k rs es cl P) {r' : RF} {f' : Fr} (R' : RelF E h p fb mb r' f') (hi : f'.is = true) (hne : ∀ (j : Nat) (g : Fr), j ≠ k → P.fr[j]? = some g → g.is = true → g.name = f'.name → g.i ≠ f'.i) :
    PoolC E ((h.set fb (.cells (rfE.all (rs.set k r')) true)).set mb (.mp (es ++ [(spotV f'.name f'.i, .int .i64 (k : Nat), cl)]) (cl + 1))) p fb mb (rs.set k r') (es ++ [(spotV f'.name f'.i, .int .i64 (k : Nat), cl)]) (cl + 1) { P with fr := P.fr.set k f' } := by
  have hfl := lt_of_get C.fbk
  have hml := lt_of_get C.mbk
  have hkl := C.k0
  have K : Keeps (fun b => b = fb ∨ b = mb) h ((h.set fb (.cells (rfE.all (rs.set k r')) true)).set mb (.mp (es ++ [(spotV f'.name f'.i, .int .i64 (k : Nat), cl)]) (cl + 1))) := by
    refine Keeps.trans (b := h.set fb (.cells (rfE.all (rs.set k r')) true)) (keeps_set (.inl rfl)) (keeps_set (.inr rfl))
  refine ⟨?_, ?_, ?_, by rw [List.length_set, List.length_set]; exact C.rl, ?_, ?_, ?_, ?_, ⟨?_, by simp only [List.length_set]; exact C.ok.hand, by simp only [List.length_set]; exact C.ok.few⟩, C.ne⟩
  · simp only [List.length_set]
    exact K _ _ (fun hx => by rcases hx with hx | hx; exact C.ne.1 hx; exact C.ne.2.1 hx) C.pb
  · rw [List.getElem?_set, if_neg (fun hx => C.ne.2.2 hx.symm), List.getElem?_set_self hfl]
  · rw [List.getElem?_set_self (by rw [List.length_set]; exact hml)]
  · intro j r g hr hg
    rcases set_at hg with ⟨rfl, rfl⟩ | ⟨hj, hg⟩
    · rcases set_at hr with ⟨_, rfl⟩ | ⟨hc, _⟩
      · exact R'.keeps K (fun b _ h1 h2 _ hx => by rcases hx with hx | hx; exact h1 hx; exact h2 hx)
      · exact absurd rfl hc
    · rcases set_at hr with ⟨hc, _⟩ | ⟨_, hr⟩
      · exact absurd hc hj
      · exact (C.rel j r g hr hg).keeps K (fun b _ h1 h2 _ hx => by rcases hx with hx | hx; exact h1 hx; exact h2 hx)
  · intro e he
    rcases List.mem_append.1 he with he | he
    · obtain ⟨j, g, hj, hg, hi', e1, e2⟩ := C.keys e he
      exact ⟨j, g, by simp only; rw [List.getElem?_set, if_neg (fun hc => hj hc.symm)]; exact hg, hi', e1, e2⟩
    · simp only [List.mem_cons, List.not_mem_nil, or_false] at he
      subst he
      exact ⟨k, f', by simp [hkl], hi, rfl, rfl⟩
  · intro j g hg hi'
    rcases set_at hg with ⟨rfl, rfl⟩ | ⟨hj, hg⟩
    · exact ⟨cl, by simp⟩
    · obtain ⟨n, hn⟩ := C.all j g hj hg hi'
      exact ⟨n, List.mem_append_left _ hn⟩
  · rw [List.map_append, List.nodup_append]
    refine ⟨C.nd, by simp, fun a ha b hb => ?_⟩
    simp only [List.map_cons, List.map_nil, List.mem_cons, List.not_mem_nil, or_false] at hb
    subst hb
    rintro rfl
    obtain ⟨e, he, hea⟩ := List.mem_map.1 ha
    obtain ⟨j, g, hj, hg, hi', e1, _⟩ := C.keys e he
    rw [hea] at e1
    simp only [AV.agg.injEq, List.cons.injEq, AV.str.injEq, AV.int.injEq, true_and, and_true] at e1
    exact hne j g hj hg hi' e1.1.symm e1.2.symm
  · intro j1 j2 f1 f2 e1 e2 i1 i2 n1 n2
    rcases set_at e1 with ⟨rfl, rfl⟩ | ⟨a1, a2⟩
    · rcases set_at e2 with ⟨rfl, rfl⟩ | ⟨b1, b2⟩
      · rfl
      · exact absurd n2.symm (hne j2 f2 b1 b2 i2 n1.symm)
    · rcases set_at e2 with ⟨rfl, rfl⟩ | ⟨b1, b2⟩
      · exact absurd n2 (hne j1 f1 a1 a2 i1 n1)
      · exact C.ok.one j1 j2 f1 f2 a2 b2 i1 i2 n1 n2
end
section
variable {h h' : Heap} {fb k n : Nat} {rs : List RF} {r r' : RF}
theorem fidx {i : Int} (hi : i = (k : Nat)) (hk : k < n) {K : PA → Prop} (hK : K ⟨fb, k * 6⟩) : vIdx (some ⟨fb, 0, n, n, 0⟩) i 6 K := by
  subst hi
  refine ⟨by omega, by simp only; omega, ?_⟩
  simp only [Int.toNat_natCast, Nat.zero_add]
  exact hK
theorem fpart (hb : h[fb]? = some (.cells (rfE.all rs) true)) (hr : rs[k]? = some r) {j m : Nat} (hj : j + m ≤ 6) : cellsAt h ⟨fb, k * 6 + j⟩ m = some (((rfE.f r).drop j).take m) := by
  have hk := (List.getElem?_eq_some_iff.1 hr).1
  have h6 : rfE.sz = 6 := rfl
  have hl : (rfE.all rs).length = rs.length * 6 := Enc.all_length
  have h2 : k * 6 + 6 ≤ rs.length * 6 := by omega
  rw [cellsAt_mk (p := ⟨fb, k * 6 + j⟩) hb (by simp only; omega)]
  have e := Enc.all_at (E := rfE) hr
  rw [h6] at e
  rw [← e, List.drop_take, List.take_take, List.drop_drop]
  congr 2
  omega
theorem fcell (hb : h[fb]? = some (.cells (rfE.all rs) true)) (hr : rs[k]? = some r) {j : Nat} {x : AV} (hx : (rfE.f r)[j]? = some x) : cellsAt h ⟨fb, k * 6 + j⟩ 1 = some [x] := by
  have hj : j < 6 := (List.getElem?_eq_some_iff.1 hx).1
  rw [fpart hb hr (by omega)]
  obtain ⟨hl, rfl⟩ := List.getElem?_eq_some_iff.1 hx
  rw [List.drop_eq_getElem_cons hl]
  rfl
theorem fstore (hb : h[fb]? = some (.cells (rfE.all rs) true)) (hr : rs[k]? = some r) {j : Nat} {xs : List AV} (hj : j + xs.length ≤ 6) (hr' : rfE.f r' = splice (rfE.f r) j xs) {K : Heap → Prop} (hK : K (h.set fb (.cells (rfE.all (rs.set k r')) true))) : PStore h ⟨fb, k * 6 + j⟩ xs K := by
  have hk := (List.getElem?_eq_some_iff.1 hr).1
  have hl : (rfE.all rs).length = rs.length * 6 := Enc.all_length
  unfold PStore
  simp only [hb]
  refine ⟨by omega, ?_⟩
  have := splice_set (E := rfE) (i := k) (k := j) (xs := xs) (r' := r') hr hj hr'
  have h6 : rfE.sz = 6 := rfl
  rw [h6] at this
  rw [this]
  exact hK
theorem pool_store {p fb mb n hand hits reads losses : Nat} (hb : h[p]? = some (poolB fb mb n hand hits reads losses)) {j : Nat} {x : AV} (hj : j < 6) {K : Heap → Prop} (hK : K (h.set p (.cells (splice [AV.sl (some ⟨fb, 0, n, n, 0⟩), .map (some mb), .int .i64 (hand : Nat), .int .i64 (hits : Nat), .int .i64 (reads : Nat), .int .i64 (losses : Nat)] j [x]) true))) : PStore h ⟨p, 0 + j⟩ [x] K :=
  store6 hb (by simp; omega) hK
theorem countP_take {α : Type} {l : List α} {i : Nat} {x : α} (q : α → Bool) (hx : l[i]? = some x) : (l.take (i + 1)).countP q = (l.take i).countP q + if q x then 1 else 0 := by
  rw [List.take_add_one, hx]
  simp only [Option.toList, List.countP_append, List.countP_cons, List.countP_nil, Nat.zero_add]
theorem findIdx_none {α : Type} {l : List α} {q : α → Bool} (h : ∀ x ∈ l, q x = false) : l.findIdx? q = none := by
  rw [List.findIdx?_eq_none_iff]; exact h
theorem findIdx_at {α : Type} {l : List α} {q : α → Bool} {k : Nat} {x : α} (h0 : ∀ y ∈ l.take k, q y = false) (hx : l[k]? = some x) (h1 : q x = true) : l.findIdx? q = some k := by
  obtain ⟨hl, rfl⟩ := List.getElem?_eq_some_iff.1 hx
  rw [List.findIdx?_eq_some_iff_getElem]
  refine ⟨hl, h1, fun j hj => ?_⟩
  have : l[j] ∈ l.take k := List.mem_of_getElem? (i := j) (by rw [List.getElem?_take, if_pos hj]; exact List.getElem?_eq_getElem _)
  simp [h0 _ this]
end
end Go.Pool


namespace Go.Ab
set_option linter.unusedVariables false
set_option linter.unusedSimpArgs false
def Lls {α : Type} (E : Enc α) (h : Heap) (q : Option SL) (ls : List (List α)) : Prop :=
  ∃ qs : List (Option SL), HasL slE h q qs ∧ qs.length = ls.length ∧ ∀ (i : Nat) (s : Option SL) (l : List α), qs[i]? = some s → ls[i]? = some l → HasL E h s l
section
variable {α : Type} {E : Enc α} {h0 h h' : Heap} {q : Option SL} {ls : List (List α)}
theorem Lls.mono (I : Lls E h q ls) (x : Ext h h') : Lls E h' q ls := by
  obtain ⟨qs, a, b, c⟩ := I
  exact ⟨qs, a.mono x, b, fun i s l h1 h2 => (c i s l h1 h2).mono x⟩
theorem Lls.len (I : Lls E h q ls) : slLen q = ls.length := by
  obtain ⟨qs, a, b, c⟩ := I
  rw [a.len, b]
theorem Lls.idx (I : Lls E h q ls) {i : Int} {K : PA → Prop} (h0 : 0 ≤ i) (h1 : i < ls.length) (hK : ∀ p s l, ls[i.toNat]? = some l → cellsAt h p 1 = some [.sl s] → HasL E h s l → K p) : vIdx q i 1 K := by
  obtain ⟨qs, a, b, c⟩ := I
  refine HasL.idx (E := slE) a h0 (by omega) fun p s hs hc => ?_
  have hl : ls[i.toNat]? = some (ls[i.toNat]'(by omega)) := List.getElem?_eq_getElem _
  exact hK p s _ hl hc (c _ _ _ hs hl)
end
structure LL {α : Type} (E : Enc α) (h0 h : Heap) (out : Option SL) (qs : List (Option SL)) (ls : List (List α)) : Prop where
  ext : Ext h0 h
  oa : Apd slE h out qs
  ob : ∀ s, out = some s → h0.length ≤ s.b
  len : qs.length = ls.length
  el : ∀ (i : Nat) (s : Option SL) (l : List α), qs[i]? = some s → ls[i]? = some l → HasL E h s l
  eb : ∀ (i : Nat) (t : SL), qs[i]? = some (some t) → h0.length ≤ t.b ∧ ∀ o, out = some o → o.b ≠ t.b
section
variable {α : Type} {E : Enc α} {h0 h h' : Heap} {out : Option SL} {qs : List (Option SL)} {ls : List (List α)}
theorem LL.nil (h : Heap) : LL E h h none [] [] := ⟨.refl _, .inl ⟨rfl, rfl⟩, by simp, rfl, by simp, by simp⟩
theorem LL.lls (L : LL E h0 h out qs ls) : Lls E h out ls := ⟨qs, L.oa.hasL, L.len, L.el⟩
theorem LL.grow (L : LL E h0 h out qs ls) (x : Ext h h') : LL E h0 h' out qs ls :=
  ⟨L.ext.trans x, L.oa.ext x, L.ob, L.len, fun i s l h1 h2 => (L.el i s l h1 h2).mono x, L.eb⟩
theorem LL.live (L : LL E h0 h out qs ls) {i : Nat} {t : SL} (ht : qs[i]? = some (some t)) : t.b < h.length := by
  have hi := (List.getElem?_eq_some_iff.1 ht).1
  have hl : ls[i]? = some (ls[i]'(by rw [← L.len]; exact hi)) := List.getElem?_eq_getElem _
  exact HasL.live (L.el i _ _ ht hl) t rfl
theorem LL.keeps {X : Nat → Prop} (L : LL E h0 h out qs ls) (K : Keeps X h h') (h1 : ∀ b, X b → h0.length ≤ b) (h2 : ∀ o, out = some o → ¬ X o.b) (h3 : ∀ (i : Nat) (t : SL), qs[i]? = some (some t) → ¬ X t.b) : LL E h0 h' out qs ls := by
  refine ⟨fun b B hB => K b B (fun hX => ?_) (L.ext _ _ hB), L.oa.keeps K h2, L.ob, L.len, fun i s l g1 g2 => K.hasL (fun t ht => h3 i t (by rw [g1, ht])) (L.el i s l g1 g2), L.eb⟩
  have := h1 b hX
  have := lt_of_get hB
  omega
theorem LL.push {s : Option SL} {l : List α} {by' : Nat} {K : Option SL → Heap → Prop} (L : LL E h0 h out qs ls) (H : HasL E h s l) (hs : ∀ t, s = some t → h0.length ≤ t.b ∧ ∀ o, out = some o → o.b ≠ t.b) (hb : (qs.length + 1) * by' ≤ 140737488355328)
    (hK : ∀ out' h', LL E h0 h' out' (qs ++ [s]) (ls ++ [l]) → Keeps (fun b => ∃ o, out = some o ∧ o.b = b) h h' → h.length ≤ h'.length → (∀ o', out' = some o' → h.length ≤ o'.b ∨ ∃ o, out = some o ∧ o.b = o'.b) → K out' h') :
    PAppendS 1 by' out (some ⟨h.length, 0, 1, 1, 0⟩) (h ++ [.cells [.sl s] true]) K := by
  have hx : Ext h (h ++ [Blk.cells [.sl s] true]) := .app _ _
  have L1 := L.grow hx
  refine Apd.append (E := slE) L1.oa (m := [s]) (HasL.new (E := slE) (l := [s]) (n := 1) rfl rfl) hb fun out' h' A K1 hl ho => ?_
  have Kall : Keeps (fun b => ∃ o, out = some o ∧ o.b = b) h h' := (keeps_of_ext hx).trans K1
  have hlen : h.length ≤ h'.length := by have := hx.len; omega
  have ho' : ∀ o', out' = some o' → h.length ≤ o'.b ∨ ∃ o, out = some o ∧ o.b = o'.b := fun o' h1 => (ho o' h1).imp (fun h => by have := hx.len; omega) id
  have hne : ∀ {t : SL}, t.b < h.length → (∀ o, out = some o → o.b ≠ t.b) → ∀ o', out' = some o' → o'.b ≠ t.b := fun hlt hn o' h1 => by
    rcases ho' o' h1 with h2 | ⟨o, h2, h3⟩
    · omega
    · rw [← h3]; exact hn o h2
  have notX : ∀ {t : SL}, (∀ o, out = some o → o.b ≠ t.b) → ¬ ∃ o, out = some o ∧ o.b = t.b := fun hn ⟨o, h1, h2⟩ => hn o h1 h2
  refine hK out' h' ⟨?_, A, ?_, by simp [L.len], ?_, ?_⟩ Kall hlen ho'
  · intro b B hB
    refine Kall b B (fun ⟨o, h1, h2⟩ => ?_) (L.ext _ _ hB)
    have := L.ob o h1; have := lt_of_get hB; omega
  · intro o' h1
    rcases ho' o' h1 with h2 | ⟨o, h2, h3⟩
    · have := L.ext.len; omega
    · rw [← h3]; exact L.ob o h2
  · intro i s' l' g1 g2
    rw [List.getElem?_append] at g1 g2
    have hll := L.len
    split at g1
    · rename_i hi
      rw [if_pos (by omega)] at g2
      exact Kall.hasL (fun t ht => notX (L.eb i t (by rw [g1, ht])).2) (L.el i s' l' g1 g2)
    · rename_i hi
      rw [if_neg (by omega)] at g2
      have hz : i - qs.length = 0 := by
        have := (List.getElem?_eq_some_iff.1 g1).1; simp at this; omega
      rw [hz] at g1
      rw [← hll, hz] at g2
      simp at g1 g2
      subst g1 g2
      exact Kall.hasL (fun t ht => notX (hs t ht).2) H
  · intro i t g1
    rw [List.getElem?_append] at g1
    split at g1
    · rename_i hi
      exact ⟨(L.eb i t g1).1, hne (L.live g1) (L.eb i t g1).2⟩
    · rename_i hi
      have hz : i - qs.length = 0 := by
        have := (List.getElem?_eq_some_iff.1 g1).1; simp at this; omega
      rw [hz] at g1
      simp at g1
      exact ⟨(hs t g1).1, hne (HasL.live H t g1) (hs t g1).2⟩
theorem LL.set {s : Option SL} {l : List α} {i : Nat} {ix : Int} {K : Heap → Prop} (L : LL E h0 h out qs ls) (hix : ix = i) (hi : i < ls.length) (H : HasL E h s l) (hs : ∀ t, s = some t → h0.length ≤ t.b ∧ ∀ o, out = some o → o.b ≠ t.b)
    (hK : ∀ h', LL E h0 h' out (qs.set i s) (ls.set i l) → Keeps (fun b => ∃ o, out = some o ∧ o.b = b) h h' → h'.length = h.length → K h') : vIdx out ix 1 fun p => PStore h p [.sl s] K := by
  subst hix
  have hql := L.len
  rcases L.oa with ⟨rfl, h2⟩ | ⟨a, o, ho, h2, hb⟩
  · rw [h2] at hql; simp at hql; omega
  · have hidx : (((i : Nat) : Int)).toNat = i := by simp
    rw [ho]
    refine ⟨by omega, by simp only; omega, ?_⟩
    simp only [hidx, Nat.zero_add]
    have hlen : (slE.all qs).length = qs.length := by rw [Enc.all_length]; exact Nat.mul_one _
    unfold PStore
    simp only
    rw [hb]
    refine ⟨by simp; omega, ?_⟩
    have hsp : splice (slE.all qs) (i * 1) [.sl s] = slE.all (qs.set i s) := by
      have hg : qs[i]? = some (qs[i]'(by omega)) := List.getElem?_eq_getElem _
      have := splice_set (E := slE) (k := 0) (r' := s) (xs := [.sl s]) hg (by simp [slE]) rfl
      simpa [slE] using this
    rw [hsp]
    have hK1 : Keeps (fun b => ∃ o, out = some o ∧ o.b = b) h (h.set a (.cells (slE.all (qs.set i s)) true)) := keeps_set ⟨_, ho, rfl⟩
    have hlt := lt_of_get hb
    have notX : ∀ {t : SL}, (∀ o, out = some o → o.b ≠ t.b) → ¬ ∃ o, out = some o ∧ o.b = t.b := fun hn ⟨o, h1, h2⟩ => hn o h1 h2
    refine hK _ ⟨?_, .inr ⟨a, o, by rw [ho, List.length_set], h2, by rw [List.getElem?_set_self hlt]⟩, L.ob, by simp [hql], ?_, ?_⟩ hK1 (by simp)
    · intro b B hB
      refine hK1 b B (fun ⟨o', h1, h2⟩ => ?_) (L.ext _ _ hB)
      have := L.ob o' h1; have := lt_of_get hB; omega
    · intro k s' l' g1 g2
      rw [List.getElem?_set] at g1 g2
      by_cases hk : i = k
      · subst hk
        rw [if_pos rfl, if_pos (by omega)] at g1 g2
        cases g1; cases g2
        exact hK1.hasL (fun t ht => notX (hs t ht).2) H
      · rw [if_neg hk] at g1 g2
        exact hK1.hasL (fun t ht => notX (L.eb k t (by rw [g1, ht])).2) (L.el k s' l' g1 g2)
    · intro k t g1
      rw [List.getElem?_set] at g1
      by_cases hk : i = k
      · subst hk
        rw [if_pos rfl, if_pos (by omega)] at g1
        cases g1
        exact hs t rfl
      · rw [if_neg hk] at g1
        exact L.eb k t g1
end
end Go.Ab
namespace Go.Ab
set_option linter.unusedVariables false
set_option linter.unusedSimpArgs false
open Go.Crc hiding Bs
abbrev u32 (c : W) : AV := .int .u32 ((c.toNat : Nat) : Int)
theorem wrap32 {n : Nat} (h : n < 4294967296) : IntKind.wrap .u32 (n : Int) = n := by
  have : IntKind.wrap .u32 (n : Int) = (n : Int) % 4294967296 := by rfl
  rw [this]; omega
theorem of32 (a : W) : BitVec.ofInt 32 ((a.toNat : Nat) : Int) = a := by
  rw [BitVec.ofInt_natCast, BitVec.ofNat_toNat]; simp
theorem x32 (a b : W) : bitsXor .u32 ((a.toNat : Nat) : Int) ((b.toNat : Nat) : Int) = (((a ^^^ b).toNat : Nat) : Int) := by
  unfold bitsXor
  show IntKind.wrap .u32 (((BitVec.ofInt 32 ((a.toNat : Nat) : Int) ^^^ BitVec.ofInt 32 ((b.toNat : Nat) : Int)).toNat : Nat) : Int) = _
  rw [of32, of32, wrap32 (BitVec.isLt _)]
theorem and32 (a b : W) : bitsAnd .u32 ((a.toNat : Nat) : Int) ((b.toNat : Nat) : Int) = (((a &&& b).toNat : Nat) : Int) := by
  unfold bitsAnd
  show IntKind.wrap .u32 (((BitVec.ofInt 32 ((a.toNat : Nat) : Int) &&& BitVec.ofInt 32 ((b.toNat : Nat) : Int)).toNat : Nat) : Int) = _
  rw [of32, of32, wrap32 (BitVec.isLt _)]
theorem not32 (a : W) : bitsXor .u32 4294967295 ((a.toNat : Nat) : Int) = (((~~~ a).toNat : Nat) : Int) := by
  have := x32 (BitVec.allOnes 32) a
  rw [BitVec.allOnes_xor] at this
  exact this
theorem shr32 (a : W) (k : Nat) (hk : k ≤ 32) : shrK .u32 ((a.toNat : Nat) : Int) ((k : Nat) : Int) = (((a >>> k).toNat : Nat) : Int) := by
  unfold shrK
  have e : min ((k : Nat) : Int).toNat (IntKind.bits .u32) = k := by
    show min ((k : Nat) : Int).toNat 32 = k
    simp; omega
  rw [e, BitVec.toNat_ushiftRight, Nat.shiftRight_eq_div_pow]
  have h2 : ((2 : Int) ^ k) = ((2 ^ k : Nat) : Int) := by simp
  rw [h2, Int.fdiv_eq_ediv_of_nonneg _ (Int.natCast_nonneg _)]
  rfl
theorem wrapB (b : UInt8) : wrapK .u32 ((b.toNat : Nat) : Int) = (((ofB b).toNat : Nat) : Int) := by
  have := b.toNat_lt
  show IntKind.wrap .u32 _ = _
  rw [wrap32 (by omega)]
  unfold ofB
  rw [BitVec.toNat_ofNat, Nat.mod_eq_of_lt (by omega)]
theorem and15 (c : W) : bitsAnd .u32 ((c.toNat : Nat) : Int) 15 = ((c.toNat % 16 : Nat) : Int) := by
  have := and32 c 15#32
  have e : (c &&& 15#32).toNat = c.toNat % 16 := by
    rw [BitVec.toNat_and]
    exact Nat.and_two_pow_sub_one_eq_mod c.toNat 4
  rw [e] at this
  exact this
theorem and1 (c : W) : bitsAnd .u32 ((c.toNat : Nat) : Int) 1 = if c.getLsbD 0 then 1 else 0 := by
  have := and32 c 1#32
  have e : (c &&& 1#32).toNat = c.toNat % 2 := by
    rw [BitVec.toNat_and]
    exact Nat.and_two_pow_sub_one_eq_mod c.toNat 1
  rw [e] at this
  refine Eq.trans this ?_
  have h0 : c.getLsbD 0 = decide (c.toNat % 2 = 1) := by
    show c.toNat.testBit 0 = _
    rw [Nat.testBit_zero]
  rw [h0]
  by_cases h : c.toNat % 2 = 1
  · rw [h]; simp
  · rw [if_neg (by simpa using h)]; omega
end Go.Ab
namespace Go.Pool
open Go.Ent
set_option linter.unusedVariables false
set_option linter.unusedSimpArgs false
structure PS.sm (P : PS) (N : Nat) : Prop where
  lt : P.lt N
  l : ∀ f ∈ P.fr, f.l.length ≤ 1000
theorem PS.sm.mono {P : PS} {N M : Nat} (h : P.sm N) (hm : N ≤ M) : P.sm M := ⟨h.lt.mono hm, h.l⟩
theorem sm_new {n : Nat} : (newP n).sm 0 := by
  refine ⟨⟨fun f hf => ?_, Nat.le_refl _, Nat.le_refl _, Nat.le_refl _⟩, fun f hf => ?_⟩
  · rw [List.eq_of_mem_replicate hf]; exact Nat.le_refl _
  · rw [List.eq_of_mem_replicate hf]; exact Nat.zero_le _
theorem core_mem {fr fr' : List Fr} (hc : fr'.map core = fr.map core) {f : Fr} (hf : f ∈ fr') : ∃ g ∈ fr, core f = core g := by
  have : core f ∈ fr.map core := by rw [← hc]; exact List.mem_map_of_mem hf
  obtain ⟨g, hg, he⟩ := List.mem_map.1 this
  exact ⟨g, hg, he.symm⟩
theorem place_core {P P' : PS} {k : Nat} (h : P.place = some (k, P')) (hh : P.hand < P.fr.length ∨ P.hand = 0) : P'.fr.map core = P.fr.map core ∧ P'.hits = P.hits ∧ P'.reads = P.reads ∧ P'.losses ≤ P.losses + 1 := by
  unfold PS.place at h
  split at h
  · cases h; exact ⟨rfl, rfl, rfl, Nat.le_succ _⟩
  · split at h
    · cases h
    · rename_i hne
      split at h
      · rename_i k2 fr2 hd2 hsp
        cases h
        have hlt : P.hand < P.fr.length := by
          rcases hh with h1 | h1
          · exact h1
          · rcases Nat.eq_zero_or_pos P.fr.length with h2 | h2
            · exfalso
              apply hne
              unfold PS.held
              rw [List.eq_nil_of_length_eq_zero h2]; rfl
            · omega
        exact ⟨(spin_core hsp hlt).1, rfl, rfl, Nat.le_refl _⟩
      · cases h
theorem hold_sm {P : PS} {N : Nat} (h : P.sm N) (hh : P.hand < P.fr.length ∨ P.hand = 0) {s : Bs} {i : Int} {r : Int × List Ent} (hr : r.2.length ≤ 1000) : (P.hold s i r).2.2.sm (N + 1) := by
  unfold PS.hold
  split
  · rename_i k hk
    refine ⟨⟨fun f hf => ?_, Nat.succ_le_succ h.lt.hits, Nat.le_succ_of_le h.lt.reads, Nat.le_succ_of_le h.lt.losses⟩, fun f hf => ?_⟩
    · simp only [up] at hf
      split at hf
      · rename_i g hg
        rcases List.mem_or_eq_of_mem_set hf with hf | rfl
        · exact Nat.le_succ_of_le (h.lt.held f hf)
        · exact Nat.succ_le_succ (h.lt.held g (List.mem_of_getElem? hg))
      · exact Nat.le_succ_of_le (h.lt.held f hf)
    · simp only [up] at hf
      split at hf
      · rename_i g hg
        rcases List.mem_or_eq_of_mem_set hf with hf | rfl
        · exact h.l f hf
        · exact h.l g (List.mem_of_getElem? hg)
      · exact h.l f hf
  · split
    · exact h.mono (Nat.le_succ _)
    · split
      · exact h.mono (Nat.le_succ _)
      · rename_i k P' hp
        obtain ⟨c1, c2, c3, c4⟩ := place_core hp hh
        refine ⟨⟨fun f hf => ?_, by show P'.hits ≤ _; rw [c2]; exact Nat.le_succ_of_le h.lt.hits, by show P'.reads + 1 ≤ _; rw [c3]; exact Nat.succ_le_succ h.lt.reads, by show P'.losses ≤ _; exact Nat.le_trans c4 (Nat.succ_le_succ h.lt.losses)⟩, fun f hf => ?_⟩
        · rcases List.mem_or_eq_of_mem_set hf with hf | rfl
          · obtain ⟨g, hg, he⟩ := core_mem c1 hf
            simp only [core, Prod.mk.injEq] at he
            rw [he.2.2.2.1]; exact Nat.le_succ_of_le (h.lt.held g hg)
          · show 1 ≤ N + 1; omega
        · rcases List.mem_or_eq_of_mem_set hf with hf | rfl
          · obtain ⟨g, hg, he⟩ := core_mem c1 hf
            simp only [core, Prod.mk.injEq] at he
            rw [he.2.2.1]; exact h.l g hg
          · exact hr
theorem free_sm {P : PS} {N : Nat} (h : P.sm N) {s : Bs} {i : Int} : (P.free s i).2.sm N := by
  unfold PS.free
  split
  · exact h
  · split
    · split
      · exact h
      · rename_i k _ f hf _
        refine ⟨⟨fun g hg => ?_, h.lt.hits, h.lt.reads, h.lt.losses⟩, fun g hg => ?_⟩
        · rcases List.mem_or_eq_of_mem_set hg with hg | rfl
          · exact h.lt.held g hg
          · have := h.lt.held f (List.mem_of_getElem? hf)
            show f.held - 1 ≤ N; omega
        · rcases List.mem_or_eq_of_mem_set hg with hg | rfl
          · exact h.l g hg
          · exact h.l f (List.mem_of_getElem? hf)
    · exact h
theorem drop_sm {P : PS} {N : Nat} (h : P.sm N) {s : Bs} : (P.drop s).2.sm N := by
  refine ⟨⟨fun g hg => ?_, h.lt.hits, h.lt.reads, h.lt.losses⟩, fun g hg => ?_⟩
  · obtain ⟨f, hf, rfl⟩ := List.mem_map.1 hg
    split
    · exact Nat.zero_le _
    · exact h.lt.held f hf
  · obtain ⟨f, hf, rfl⟩ := List.mem_map.1 hg
    split
    · exact Nat.zero_le _
    · exact h.l f hf
end Go.Pool
