import Derived.Test.YtnglhicedhcpbaaGreatDoorLG15
import Derived.OpenShut
import Derived.LaidLaws
import Derived.FnData
import Derived.SevenTiedAt
namespace Go.Ab
set_option linter.unusedVariables false
set_option linter.unusedSimpArgs false
theorem zLV {P : Program} {W : World} {nm : String} {ty e : TypeId} {n : Nat} {tbl : List Int} (h : laidMet P [(nm, .agg (tbl.map fun n => .lit (.int .u32 n)))] W) (hg : P.globalNamed nm = some 0) (ht : (P.globals[0]?).map (·.type) = some ty)
  (hu : P.underlying ty = some (.array n e)) (hc : P.cellsOf e = 1) (hct : P.cellsOf ty = n) (he : P.underlying e = some (.int .u32)) (hn : tbl.length = n) : ∃ C t fz, W.heap[0]? = some (.cells C t fz) /\ C.toList = tbl.map (.int .u32) := by
 obtain ⟨ps, ⟨g, t, cs, fuel, p, q, hg', ht', hv, hd, _, _⟩, _, _⟩ := h
 obtain rfl := Option.some.inj (hg.symm.trans hg')
 obtain rfl := Option.some.inj (ht.symm.trans ht')
 obtain ⟨xs, m, _, ex, hcl, hl, hel⟩ := DataW.trod_array hu hd
 rw [hct] at hcl
 have e3 : xs.map (·.1) = tbl.map fun n => (DataW.lit (.int .u32 n) : DataW Unit) := (DataW.agg.inj (Prod.mk.inj ex).1).symm
 simp only [World.var?, hg, Option.bind_some] at hv
 split at hv
 ·rename_i C t' fz hb
  have hv' := Option.some.inj hv
  rw [hv'] at hb
  refine ⟨cs, t', fz, hb, List.ext_getElem? fun r => ?_⟩
  by_cases hr : r < n
  ·have hE := hel r hr
   rw [hc, Nat.mul_one, List.getElem?_eq_getElem (by omega)] at hE
   obtain ⟨z, e1, e2, _⟩ := DataW.trod_int he hE
   have e4 : (xs.map (·.1))[r]? = (tbl.map fun n => (DataW.lit (.int .u32 n) : DataW Unit))[r]? := by rw [e3]
   rw [List.getElem?_map, List.getElem?_map, List.getElem?_eq_getElem (by omega : r < xs.length), List.getElem?_eq_getElem (by omega : r < tbl.length), e2] at e4
   simp only [Option.map_some, Option.some.injEq, DataW.lit.injEq, Lit.int.injEq, true_and] at e4
   have h0 : ((cs.toList.drop r).take 1)[0]? = some (.int .u32 z) := by rw [e1]; rfl
   have h1 : cs.toList[r]? = some (.int .u32 z) := by simpa using h0
   rw [h1, List.getElem?_map, List.getElem?_eq_getElem (by omega : r < tbl.length), e4]
   rfl
  ·rw [List.getElem?_eq_none (by omega), List.getElem?_eq_none (by rw [List.length_map]; omega)]
 ·cases hv
theorem zH5 {W : World} {tbl : List Int} {C : Array Value} {t : TypeId} {fz : Nat × Nat} (hb : W.heap[0]? = some (.cells C t fz)) (hC : C.toList = tbl.map (.int .u32)) : HRel [⟨0, 0, 0⟩, ⟨0, 0, C.size⟩] (laidH 0 (tbl.map (.int .u32))) W := by
 have hs : 0 < W.heap.size := by
  rcases Nat.lt_or_ge 0 W.heap.size with h | h
  ·exact h
  ·simp [Array.getElem?_eq_none h] at hb
 refine ⟨rfl, ?_, ?_, ?_⟩
 ·intro b B e h he
  match b with
  | 0 => cases h; exact ⟨_, rfl, rfl, rfl⟩
  | 1 =>
   cases h; cases he
   have hl : C.size = tbl.length := by rw [<- Array.length_toList, hC, List.length_map]
   refine ⟨C, t, fz, hb, by simp, by rw [List.length_map]; exact Nat.le_of_eq hl.symm, by simp [zU, AV.one], fun i x hx => ?_, fun h => by cases h⟩
   rw [List.getElem?_map] at hx
   cases hk : tbl[i]? with
   | none => rw [hk] at hx; cases hx
   | some z =>
    rw [hk] at hx; cases hx
    refine ⟨.int .u32 z, ?_, rfl⟩
    rw [Nat.zero_add, <- Array.getElem?_toList, hC, List.getElem?_map, hk]; rfl
  | b + 2 => simp at h
 ·intro b1 b2 B1 B2 e1 e2 hne hb1 hb2 hr
  rw [zKN b1 B1 hb1] at hr; cases hr
 ·intro b e he
  match b with
  | 0 => cases he; exact hs
  | 1 => cases he; exact hs
  | b + 2 => simp at he
end Go.Ab
