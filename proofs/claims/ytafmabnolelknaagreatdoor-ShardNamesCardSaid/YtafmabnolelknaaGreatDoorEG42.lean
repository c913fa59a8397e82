import Derived.Test.YtafmabnolelknaaGreatDoorEG13
import Derived.Test.YtafmabnolelknaaGreatDoorEG19
import Derived.Test.YtafmabnolelknaaGreatDoorEG22
import Derived.Lib.LaidU8
namespace Go.Ab
set_option linter.unusedVariables false
set_option linter.unusedSimpArgs false
theorem laid_cells_v {P : Program} {gi : Nat} {W : World} {nm : String} {ty e : TypeId} {n : Nat} {k : IntKind} {tbl : List Int} (h : Go.Lib.VarReads P W nm (.agg (tbl.map fun n => .lit (.int k n)))) (hg : P.globalNamed nm = some gi) (ht : (P.globals[gi]?).map (·.type) = some ty)
  (hu : P.underlying ty = some (.array n e)) (hc : P.cellsOf e = 1) (hct : P.cellsOf ty = n) (he : P.underlying e = some (.int k)) (hn : tbl.length = n) : ∃ C t fz, W.heap[gi]? = some (.cells C t fz) ∧ C.toList = tbl.map (.int k) := by
 obtain ⟨g, t, cs, fuel, p, hg', ht', hv, hd⟩ := h
 obtain rfl := Option.some.inj (hg.symm.trans hg')
 obtain rfl := Option.some.inj (ht.symm.trans ht')
 obtain ⟨xs, m, _, ex, hcl, hl, hel⟩ := DataW.trod_array hu hd
 rw [hct] at hcl
 have e3 : xs.map (·.1) = tbl.map fun n => (DataW.lit (.int k n) : DataW Unit) := (DataW.agg.inj (Prod.mk.inj ex).1).symm
 simp only [World.var?, hg, Option.bind_some] at hv
 split at hv
 ·rename_i C t' fz hb
  have hv' := Option.some.inj hv
  rw [hv'] at hb
  refine ⟨cs, t', fz, hb, List.ext_getElem? fun r => ?_⟩
  by_cases hr : r < n
  ·have hE := hel r hr
   rw [hc, Nat.mul_one, List.getElem?_eq_getElem (by omega)] at hE
   obtain ⟨z, e1, e2, _⟩ := DataW.trod_int he hE
   have e4 : (xs.map (·.1))[r]? = (tbl.map fun n => (DataW.lit (.int k n) : DataW Unit))[r]? := by rw [e3]
   rw [List.getElem?_map, List.getElem?_map, List.getElem?_eq_getElem (by omega : r < xs.length), List.getElem?_eq_getElem (by omega : r < tbl.length), e2] at e4
   simp only [Option.map_some, Option.some.injEq, DataW.lit.injEq, Lit.int.injEq, true_and] at e4
   have h0 : ((cs.toList.drop r).take 1)[0]? = some (.int k z) := by rw [e1]; rfl
   have h1 : cs.toList[r]? = some (.int k z) := by simpa using h0
   rw [h1, List.getElem?_map, List.getElem?_eq_getElem (by omega : r < tbl.length), e4]
   rfl
  ·rw [List.getElem?_eq_none (by omega), List.getElem?_eq_none (by rw [List.length_map]; omega)]
 ·cases hv
theorem laid_all {W : World} : ∀ (gs : List (Nat × List AV)) (μ : Ren) (h : Heap), HRel μ h W → (∀ (b : Nat) (B : Blk), h[b]? = some B → B.rw = false) → (∀ (b g j : Nat), h[b]? = some (.gm g j) → j < h.length) →
  (∀ (b : Nat) (c : List AV) (r : Bool), h[b]? = some (.cells c r) → ∀ x ∈ c, ∀ (μ μ' : Ren) (y : Value), x.rel μ y → x.rel μ' y) → (∀ (i : Nat) (B : Blk), h[i]? = some B → (∃ g j, B = .gm g j) ∨ ∃ c r, B = .cells c r) →
  (∀ g c, (g, c) ∈ gs → ∃ (k : IntKind) (tbl : List Int) (C : Array Value) (t : TypeId) (fz : Nat × Nat), W.heap[g]? = some (.cells C t fz) ∧ C.toList = tbl.map (.int k) ∧ c = tbl.map (.int k)) →
  ∃ μ1, HRel (μ ++ μ1) (h ++ laidHs h.length gs) W
 | [], μ, h, H, _, _, _, _, _ => ⟨[], by simpa [laidHs] using H⟩
 | (g, c) :: gs, μ, h, H, h1, h2, h3, h4, h5 => by
  obtain ⟨k, tbl, C, t, fz, k1, k2, k3⟩ := h5 g c (by simp)
  have hpl : ∀ x ∈ c, ∀ (μ μ' : Ren) (y : Value), x.rel μ y → x.rel μ' y := by
   intro x hx μ μ' y hr
   rw [k3] at hx
   obtain ⟨z, _, rfl⟩ := List.mem_map.1 hx
   exact hr
  have H' := H.lay h1 (c := c) k1 (by rw [k3, ← Array.length_toList, k2]; simp) (by rw [k3]; simp [oneAll, AV.one]) (fun μ i x hx => by
   rw [k3, List.getElem?_map] at hx
   cases hk : tbl[i]? with
   | none => rw [hk] at hx; cases hx
   | some z =>
    rw [hk] at hx; cases hx
    refine ⟨.int k z, ?_, rfl⟩
    rw [← Array.getElem?_toList, k2, List.getElem?_map, hk]; rfl) h2 h3 h4
  have back : ∀ (b : Nat) (B : Blk), (h ++ [.gm g (h.length + 1), .cells c false])[b]? = some B → h[b]? = some B ∨ B = .gm g (h.length + 1) ∨ B = .cells c false := by
   intro b B hb
   by_cases hi : b < h.length
   ·exact .inl (by rw [← hb, List.getElem?_append_left hi])
   ·rw [List.getElem?_append_right (by omega)] at hb
    have := List.mem_of_getElem? hb
    simp at this
    exact .inr this
  obtain ⟨μ1, H2⟩ := laid_all gs _ _ H' (fun b B hb => by
    rcases back b B hb with h | rfl | rfl
    ·exact h1 b B h
    ·rfl
    ·rfl) (fun b g' j hb => by
    rw [List.length_append]
    rcases back b _ hb with h | h | h
    ·have := h2 b g' j h; omega
    ·cases h; simp
    ·cases h) (fun b c' r hb => by
    rcases back b _ hb with h | h | h
    ·exact h3 b c' r h
    ·cases h
    ·cases h; exact hpl) (fun i B hb => by
    rcases back i B hb with h | rfl | rfl
    ·exact h4 i B h
    ·exact .inl ⟨_, _, rfl⟩
    ·exact .inr ⟨_, _, rfl⟩) (fun g' c' hm => h5 g' c' (by simp [hm]))
  refine ⟨[⟨g, 0, 0⟩, ⟨g, 0, C.size⟩] ++ μ1, ?_⟩
  rw [← List.append_assoc]
  simpa [laidHs, List.append_assoc] using H2
theorem laid_all0 {W : World} {gs : List (Nat × List AV)} (h : ∀ g c, (g, c) ∈ gs → ∃ (k : IntKind) (tbl : List Int) (C : Array Value) (t : TypeId) (fz : Nat × Nat), W.heap[g]? = some (.cells C t fz) ∧ C.toList = tbl.map (.int k) ∧ c = tbl.map (.int k)) : ∃ μ, HRel μ (laidHs 0 gs) W := by
 obtain ⟨μ, H⟩ := laid_all gs [] [] (HRel_nil W) (by simp) (by simp) (by simp) (by simp) h
 exact ⟨μ, by simpa using H⟩
end Go.Ab
