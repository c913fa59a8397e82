/- A slice that came in stands for a list of its elements, beside whatever else came in. -/
import Derived.Test.YtnmbpghijbmhbaaGreatDoorAG11
import Derived.Deep.Slices
import Derived.Deep.Strs
namespace Go.Ab
open Go.ChangeShapes Go.WideShapes Go.ChangeAt Go.RowKit
set_option linter.unusedSimpArgs false
set_option linter.unusedVariables false

def ReadOnly (hp : Heap) : Prop := ∀ (b : Nat) (B : Blk), hp[b]? = some B → B.rw = false
theorem ReadOnly.add {hp : Heap} (h : ReadOnly hp) {B : Blk} (hB : B.rw = false) : ReadOnly (hp ++ [B]) := by
  intro b B' hb
  rw [List.getElem?_append] at hb
  split at hb
  · exact h b B' hb
  · have : b - hp.length = 0 := by have := lt_of_get hb; simp at this; omega
    rw [this] at hb; simp at hb; subst hb; exact hB

theorem HRel.addRO {μ : Ren} {hp : Heap} {W : World} (H : HRel μ hp W) (ro : ReadOnly hp) {e : ME} {B : Blk} (hB : B.rw = false) (he : e.r < W.heap.size) (hb : BlkRel (μ ++ [e]) W e B) : HRel (μ ++ [e]) (hp ++ [B]) W := by
  have ro' := ro.add hB
  have split2 : ∀ {b : Nat} {B' : Blk}, (hp ++ [B])[b]? = some B' → (b < hp.length ∧ hp[b]? = some B') ∨ (b = hp.length ∧ B' = B) := by
    intro b B' hb
    rw [List.getElem?_append] at hb
    split at hb
    · exact .inl ⟨by assumption, hb⟩
    · have : b - hp.length = 0 := by have := lt_of_get hb; simp at this; omega
      rw [this] at hb; simp at hb
      exact .inr ⟨by omega, hb.symm⟩
  have splitm : ∀ {b : Nat} {e' : ME}, (μ ++ [e])[b]? = some e' → (b < μ.length ∧ μ[b]? = some e') ∨ (b = μ.length ∧ e' = e) := by
    intro b e' hb
    rw [List.getElem?_append] at hb
    split at hb
    · exact .inl ⟨by assumption, hb⟩
    · have : b - μ.length = 0 := by have := lt_of_get hb; simp at this; omega
      rw [this] at hb; simp at hb
      exact .inr ⟨by omega, hb.symm⟩
  have hlen := H.len
  refine ⟨by simp [hlen], ?_, ?_, ?_⟩
  · intro b B' e' h1 h2
    rcases split2 h1 with ⟨g1, g2⟩ | ⟨g1, rfl⟩ <;> rcases splitm h2 with ⟨g3, g4⟩ | ⟨g3, rfl⟩
    · exact (H.blk b B' e' g2 g4).mono (Ren.le_append _ _)
    · omega
    · omega
    · exact hb
  · intro b1 b2 B1 B2 e1 e2 hne h1 h2 hrw
    rw [ro' b1 B1 h1] at hrw; cases hrw
  · intro b e' h2
    rcases splitm h2 with ⟨g3, g4⟩ | ⟨g3, rfl⟩
    · exact H.bnd b e' g4
    · exact he

section
variable {H : Type} {enc : TypeId × Value → H} {P : Program} {W : World} {α : Type}

theorem slice_in [Inhabited α] (E : Enc α) {t e : TypeId} {v : Value} {r : Reach} {base : Nat} {fuel : Nat} {x : DataW H × List MemPlace} (ht : P.underlying t = some (.slice e)) (hC : P.cellsOf e = E.sz)
    (hel : ∀ (n : Nat) (cs' : List Value) (y : DataW H × List MemPlace), DataW.trod enc P W 0 (fun _ => true) true n e cs' = some y → cs'.length = E.sz → ∃ a, ∀ μ, relL μ (E.f a) cs')
    (hv : Cell.okWide P W r base t v) (hf : DataW.trod enc P W 0 (fun _ => true) true fuel t [v] = some x) {μ : Ren} {hp : Heap} (HH : HRel μ hp W) (ro : ReadOnly hp) :
    ∃ (l1 : Ren) (bs : Heap) (q : Option SL) (l : List α), HRel (μ ++ l1) (hp ++ bs) W ∧ ReadOnly (hp ++ bs) ∧ AV.rel (μ ++ l1) (.sl q) v ∧ HasL E (hp ++ bs) q l := by
  have hμ := HH.len
  rcases Deep.open_slice ht hf with ⟨hcs, _⟩ | ⟨a, len, cap, m, n, D, Pl, hcs, _, hlc, hm, hmm, _, hx⟩
  · simp at hcs
    subst hcs
    exact ⟨[], [], none, [], by simpa using HH, by simpa using ro, rfl, rfl⟩
  · simp at hcs
    subst hcs
    simp only [if_true] at hmm
    subst hmm
    rcases cell_slice ht hv with hnil | ⟨ab, ao, len', cap', heq, h1, hbl⟩
    · cases hnil
    · cases heq
      have hspot : ∃ C tt fz, W.heap[ab]? = some (.cells C tt fz) := by
        unfold Cell.okWide at hv
        rw [ht] at hv
        simp only [Cell.ok, ht] at hv
        obtain ⟨_, _, _, _, row, cells, h3, _⟩ := hv
        unfold World.shape? at h3
        split at h3
        · rename_i C tt fz hb; exact ⟨C, tt, fz, hb⟩
        · cases h3
      obtain ⟨C, tt, fz, hb⟩ := hspot
      have hsz := E.pos
      have each : ∀ i, i < m → ∃ a : α, ∀ (j : Nat) (x : AV), (E.f a)[j]? = some x → ∃ y, C[ao + i * E.sz + j]? = some y ∧ ∀ μ, x.rel μ y := by
        intro i hi
        obtain ⟨cs', hcl, htr⟩ := hx i hi
        rw [hC] at hcl
        obtain ⟨_, hlen, hcell⟩ := World.cells?_some hcl
        obtain ⟨a, ha⟩ := hel _ _ _ htr hlen
        refine ⟨a, fun j x hj => ?_⟩
        have hjl : j < E.sz := by have := lt_of_get hj; rw [E.len] at this; exact this
        have hget : cs'[j]? = some (cs'[j]'(by omega)) := List.getElem?_eq_getElem _
        refine ⟨cs'[j]'(by omega), ?_, fun μ => ?_⟩
        · have := hcell j hjl
          unfold World.cell? at this
          have eb : ((Addr.add (Addr.add ⟨ab, ao, none⟩ (i * E.sz)) j)) = ⟨ab, ao + i * E.sz + j, none⟩ := by rw [add_addr, add_addr]
          rw [eb] at this
          simp only [hb] at this
          have this' : C[ao + i * E.sz + j]? = cs'[j]? := by simpa using this
          rw [this', hget]
        · obtain ⟨y, g1, g2⟩ := (ha μ).get hj
          rw [hget] at g1; cases g1; exact g2
      obtain ⟨V, hV⟩ := Deep.choose_lt each
      generalize hl : (List.range len).map V = l
      have hll : l.length = len := by subst hl; simp
      have hgetl : ∀ i, i < len → l[i]? = some (V i) := by
        intro i hi
        subst hl
        simp [hi]
      by_cases hcap : m = 0
      · have hnil : l = [] := List.eq_nil_of_length_eq_zero (by omega)
        subst hnil
        refine ⟨[⟨ab, 0, C.size⟩], [.cells [] false], some ⟨hp.length, 0, len, m, 0⟩, [], HH.addRO ro rfl hbl ⟨C, tt, fz, hb, by simp, by simp, rfl, by simp, by simp⟩, ro.add rfl, ?_, ?_⟩
        · exact ⟨⟨ab, 0, C.size⟩, m, _, .inr hcap, rfl, h1, .inl hcap, fun _ => rfl, fun hn => absurd rfl hn⟩
        · refine ⟨by simpa using hll.symm, h1, .inl rfl, ?_⟩
          simp [cellsAt, Enc.all]
      · have lastc : ∀ i, i < m → ao + i * E.sz + E.sz ≤ C.size := by
          intro i hi
          have hfl : (E.f (V i))[E.sz - 1]? = some ((E.f (V i))[E.sz - 1]'(by rw [E.len]; omega)) := List.getElem?_eq_getElem _
          obtain ⟨y, g1, _⟩ := hV i hi _ _ hfl
          have := (Array.getElem?_eq_some_iff.1 g1).1
          omega
        have haoC : ao ≤ C.size := by have := lastc 0 (by omega); omega
        have hlenC : len * E.sz ≤ C.size - ao := by
          rcases Nat.eq_zero_or_pos len with hz | hz
          · subst hz; simp
          · have := lastc (len - 1) (by omega)
            have e1 : (len - 1) * E.sz + E.sz = len * E.sz := by
              rw [← Nat.succ_mul]; congr 1; omega
            omega
        refine ⟨[⟨ab, ao, C.size - ao⟩], [.cells (E.all l) false], some ⟨hp.length, 0, len, m, 0⟩, l, HH.addRO ro rfl hbl ⟨C, tt, fz, hb, by simp; omega, by rw [Enc.all_length, hll]; exact hlenC, ?_, ?_, by simp⟩, ro.add rfl, ?_, ?_⟩
        · simp only [oneAll, List.all_eq_true]
          intro x hx'
          simp only [Enc.all, List.mem_flatten, List.mem_map] at hx'
          obtain ⟨l0, ⟨a, _, rfl⟩, h⟩ := hx'
          have := E.one a
          simp only [oneAll, List.all_eq_true] at this
          exact this x h
        · intro j x hj
          have hjl := lt_of_get hj
          rw [Enc.all_length, hll] at hjl
          have hi : j / E.sz < len := Nat.div_lt_of_lt_mul (by rw [Nat.mul_comm]; exact hjl)
          have hdm : j / E.sz * E.sz + j % E.sz = j := by rw [Nat.mul_comm]; exact Nat.div_add_mod _ _
          have hml : j % E.sz < E.sz := Nat.mod_lt _ hsz
          have hat := Enc.all_at (E := E) (hgetl _ hi)
          have : (E.f (V (j / E.sz)))[j % E.sz]? = some x := by
            rw [← hat, List.getElem?_take, if_pos hml, List.getElem?_drop, hdm, hj]
          obtain ⟨y, g1, g2⟩ := hV _ (by omega) _ _ this
          refine ⟨y, ?_, g2 _⟩
          rw [← g1]
          simp only
          congr 1
          omega
        · exact ⟨⟨ab, ao, C.size - ao⟩, m, _, .inl (by rw [← hμ]; simp), rfl, h1, .inr rfl, fun _ => rfl, fun hn => absurd rfl hn⟩
        · refine ⟨hll.symm, h1, .inl rfl, ?_⟩
          rw [cellsAt_mk (C := E.all l) (rw' := false) (by simp) (by simp [Enc.all_length])]
          simp [← Enc.all_length]
/-- The same of a slice of which nothing is known but how it reads; b0: some block of cells. -/
theorem slice_in0 [Inhabited α] (E : Enc α) {t e : TypeId} {v : Value} {fuel : Nat} {x : DataW H × List MemPlace} (ht : P.underlying t = some (.slice e)) (hC : P.cellsOf e = E.sz)
    (hel : ∀ (n : Nat) (cs' : List Value) (y : DataW H × List MemPlace), DataW.trod enc P W 0 (fun _ => true) true n e cs' = some y → cs'.length = E.sz → ∃ a, ∀ μ, relL μ (E.f a) cs')
    (hf : DataW.trod enc P W 0 (fun _ => true) true fuel t [v] = some x) {μ : Ren} {hp : Heap} (HH : HRel μ hp W) (ro : ReadOnly hp) {b0 : Nat} {c0 : List AV} {rw0 : Bool} (hb0 : hp[b0]? = some (.cells c0 rw0)) :
    ∃ (l1 : Ren) (bs : Heap) (q : Option SL) (l : List α), HRel (μ ++ l1) (hp ++ bs) W ∧ ReadOnly (hp ++ bs) ∧ AV.rel (μ ++ l1) (.sl q) v ∧ HasL E (hp ++ bs) q l := by
  have hμ := HH.len
  rcases Deep.open_slice ht hf with ⟨hcs, _⟩ | ⟨a, len, cap, m, n, D, Pl, hcs, _, hlc, hm, hmm, _, hx⟩
  · simp at hcs
    subst hcs
    exact ⟨[], [], none, [], by simpa using HH, by simpa using ro, rfl, rfl⟩
  · simp at hcs
    subst hcs
    simp only [if_true] at hmm
    subst hmm
    by_cases hcap : m = 0
    · have hlen0 : len = 0 := by omega
      subst hcap hlen0
      refine ⟨[], [], some ⟨b0, 0, 0, 0, 0⟩, [], by simpa using HH, by simpa using ro, ⟨⟨0, 0, 0⟩, 0, _, .inr rfl, rfl, Nat.le_refl _, .inl rfl, fun _ => rfl, fun hn => absurd rfl hn⟩, rfl, Nat.le_refl _, .inl rfl, ?_⟩
      simp [cellsAt, hb0, Enc.all]
    · have h1 := hlc
      have hsp : ∃ (ab ao : Nat) (C : Array Value) (tt : TypeId) (fz : Nat × Nat), a = ⟨ab, ao, none⟩ ∧ W.heap[ab]? = some (.cells C tt fz) := by
        obtain ⟨cs', hcl, htr⟩ := hx 0 (by omega)
        rw [hC] at hcl
        obtain ⟨_, hlen, hcell⟩ := World.cells?_some hcl
        have h0 := hcell 0 E.pos
        have hpos := E.pos
        have hget : cs'[0]? = some (cs'[0]'(by omega)) := List.getElem?_eq_getElem _
        rw [hget] at h0
        obtain ⟨ab, ao, sp⟩ := a
        have e0 : Addr.add (Addr.add ⟨ab, ao, sp⟩ (0 * E.sz)) 0 = ⟨ab, ao, sp⟩ := by simp [Addr.add]
        rw [e0] at h0
        unfold World.cell? at h0
        split at h0
        · rename_i C tt fz hb
          cases sp with
          | none => exact ⟨ab, ao, C, tt, fz, rfl, hb⟩
          | some sp => simp at h0
        · cases h0
      obtain ⟨ab, ao, C, tt, fz, rfl, hb⟩ := hsp
      have hbl := heap_lt hb
      have hsz := E.pos
      have each : ∀ i, i < m → ∃ a : α, ∀ (j : Nat) (x : AV), (E.f a)[j]? = some x → ∃ y, C[ao + i * E.sz + j]? = some y ∧ ∀ μ, x.rel μ y := by
        intro i hi
        obtain ⟨cs', hcl, htr⟩ := hx i hi
        rw [hC] at hcl
        obtain ⟨_, hlen, hcell⟩ := World.cells?_some hcl
        obtain ⟨a, ha⟩ := hel _ _ _ htr hlen
        refine ⟨a, fun j x hj => ?_⟩
        have hjl : j < E.sz := by have := lt_of_get hj; rw [E.len] at this; exact this
        have hget : cs'[j]? = some (cs'[j]'(by omega)) := List.getElem?_eq_getElem _
        refine ⟨cs'[j]'(by omega), ?_, fun μ => ?_⟩
        · have := hcell j hjl
          unfold World.cell? at this
          have eb : ((Addr.add (Addr.add ⟨ab, ao, none⟩ (i * E.sz)) j)) = ⟨ab, ao + i * E.sz + j, none⟩ := by rw [add_addr, add_addr]
          rw [eb] at this
          simp only [hb] at this
          have this' : C[ao + i * E.sz + j]? = cs'[j]? := by simpa using this
          rw [this', hget]
        · obtain ⟨y, g1, g2⟩ := (ha μ).get hj
          rw [hget] at g1; cases g1; exact g2
      obtain ⟨V, hV⟩ := Deep.choose_lt each
      generalize hl : (List.range len).map V = l
      have hll : l.length = len := by subst hl; simp
      have hgetl : ∀ i, i < len → l[i]? = some (V i) := by
        intro i hi
        subst hl
        simp [hi]
      have lastc : ∀ i, i < m → ao + i * E.sz + E.sz ≤ C.size := by
          intro i hi
          have hfl : (E.f (V i))[E.sz - 1]? = some ((E.f (V i))[E.sz - 1]'(by rw [E.len]; omega)) := List.getElem?_eq_getElem _
          obtain ⟨y, g1, _⟩ := hV i hi _ _ hfl
          have := (Array.getElem?_eq_some_iff.1 g1).1
          omega
      have haoC : ao ≤ C.size := by have := lastc 0 (by omega); omega
      have hlenC : len * E.sz ≤ C.size - ao := by
        rcases Nat.eq_zero_or_pos len with hz | hz
        · subst hz; simp
        · have := lastc (len - 1) (by omega)
          have e1 : (len - 1) * E.sz + E.sz = len * E.sz := by
            rw [← Nat.succ_mul]; congr 1; omega
          omega
      refine ⟨[⟨ab, ao, C.size - ao⟩], [.cells (E.all l) false], some ⟨hp.length, 0, len, m, 0⟩, l, HH.addRO ro rfl hbl ⟨C, tt, fz, hb, by simp; omega, by rw [Enc.all_length, hll]; exact hlenC, ?_, ?_, by simp⟩, ro.add rfl, ?_, ?_⟩
      · simp only [oneAll, List.all_eq_true]
        intro x hx'
        simp only [Enc.all, List.mem_flatten, List.mem_map] at hx'
        obtain ⟨l0, ⟨a, _, rfl⟩, h⟩ := hx'
        have := E.one a
        simp only [oneAll, List.all_eq_true] at this
        exact this x h
      · intro j x hj
        have hjl := lt_of_get hj
        rw [Enc.all_length, hll] at hjl
        have hi : j / E.sz < len := Nat.div_lt_of_lt_mul (by rw [Nat.mul_comm]; exact hjl)
        have hdm : j / E.sz * E.sz + j % E.sz = j := by rw [Nat.mul_comm]; exact Nat.div_add_mod _ _
        have hml : j % E.sz < E.sz := Nat.mod_lt _ hsz
        have hat := Enc.all_at (E := E) (hgetl _ hi)
        have : (E.f (V (j / E.sz)))[j % E.sz]? = some x := by
          rw [← hat, List.getElem?_take, if_pos hml, List.getElem?_drop, hdm, hj]
        obtain ⟨y, g1, g2⟩ := hV _ (by omega) _ _ this
        refine ⟨y, ?_, g2 _⟩
        rw [← g1]
        simp only
        congr 1
        omega
      · exact ⟨⟨ab, ao, C.size - ao⟩, m, _, .inl (by rw [← hμ]; simp), rfl, h1, .inr rfl, fun _ => rfl, fun hn => absurd rfl hn⟩
      · refine ⟨hll.symm, h1, .inl rfl, ?_⟩
        rw [cellsAt_mk (C := E.all l) (rw' := false) (by simp) (by simp [Enc.all_length])]
        simp [← Enc.all_length]
end
end Go.Ab
