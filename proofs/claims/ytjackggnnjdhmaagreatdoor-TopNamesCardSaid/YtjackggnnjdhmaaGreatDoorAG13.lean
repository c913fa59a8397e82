import Derived.Test.YtjackggnnjdhmaaGreatDoorAG5
import Derived.Test.YtjackggnnjdhmaaGreatDoorAG10
import Derived.Test.YtjackggnnjdhmaaGreatDoorAG12
import Derived.Lib.LaidU8
import Derived.Test.YtjackggnnjdhmaaGreatDoorRows
import Derived.Test.YtjackggnnjdhmaaGreatDoorCards
import Derived.ChangeSame
import Derived.ChangeVars
import Derived.JoinedOf
import Derived.RowKit
import Derived.RowKitTokens
import Derived.LaidLaws
import Derived.LaidMore
import Derived.Lay
import Derived.LaidOnce
import Derived.Stop.Joined
namespace Go.Proofs.YtjackggnnjdhmaaGreatDoor
open Go.Ab
set_option linter.unusedVariables false
noncomputable def zb0 : Blk := c (bs 64 0x11f00010001020a6d61726b2e302e312e3001010a6d61726b2e302e312e310101000000000000000000000000c8bb46ea0000000000000001)
noncomputable def zb1 : Blk := c (bs 192 0x1040001020000000000000000000000000000000000000000000000000000000000000000000000000000000099657a6d0000000000000001000000000000000204000102000000000000000000000000000000000000000000000000000000000000000000000000000000000c1bb15200000000000000020000000000000003030101010000000000000000000000000000000000000000000000000000000000000000000000000000000037dba5830000000000000003)
noncomputable def zb2 : Blk := c (bs 192 0x104000101000000000000000000000000000000000000000000000000000000000000000000000000000000003bd2338e000000000000000100000000000000020400010100000000000000000000000000000000000000000000000000000000000000000000000000000000aeacf8b100000000000000020000000000000003030101010000000000000000000000000000000000000000000000000000000000000000000000000000000037dba5830000000000000003)
noncomputable def zb3 : Blk := c (bs 64 0x10800020200000203000000000000000000000000000000000000000000000000000000000000000000000000d608d0ed0000000000000001)
noncomputable def mCr : EntM := ⟨8, [p 8 0, s 9 0 1 1 1], [.gm 0 1, d [q 1, q 10, q 100, q 1000, q 10000, q 100000, q 1000000, q 10000000, q 100000000, q 1000000000, q 10000000000, q 100000000000, q 1000000000000, q 10000000000000, q 100000000000000, q 1000000000000000, q 10000000000000000, q 100000000000000000, q 1000000000000000000, q 10000000000000000000], .gm 6 3, d [y 0, y 498536548, y 997073096, y 651767980, y 1994146192, y 1802195444, y 1303535960, y 1342533948, y 3988292384, y 4027552580, y 3604390888, y 3412177804, y 2607071920, y 2262029012, y 2685067896, y 3183342108], .gm 5 5, d (bs 64 0x1380239311c033d3a2a32261d11043e2f3b242d2b33163527211e18120c053f37301b3c2925102e232c153420170b361a280f22141f0a190e13090d080706), .gm 4 7, d (bs 32 0x11c021d0e18031e16140f191104081f1b0d17151310071a0c12060b050a09), c [m 10, s 11 0 2 3 66, i 16384, i 0, tt], c [i 64], e [(t [106, 111, 117, 114, 110, 97, 108], p 12 0, 1), (t [109, 97, 114, 107, 46, 48, 46, 49, 46, 48], p 13 0, 2), (t [109, 97, 114, 107, 46, 48, 46, 49, 46, 49], p 14 0, 3), (t [109, 97, 114, 107, 46, 48, 46, 50, 46, 48], p 15 0, 4)] 5, c (rp 1 [p 15 0, i 0, u 0, u 0, u 0, u 0] (rp 1 [u 0, u 0, u 0, u 1, u 8, u 0] (rp 1 [u 2, u 2, u 0, u 0, u 2, u 3] (rp 6 [u 0, u 0, u 0, u 0, u 0, u 0] (rp 1 [u 214, u 8, u 208, u 237, u 0, u 0] (rp 1 [u 0, u 0, u 0, u 0, u 0, u 1] (rp 1 [p 15 0, i 1, u 0, u 0, u 0, u 0] (rp 1 [u 0, u 0, u 0, u 2, u 4, u 0] (rp 1 [u 2, u 2, u 0, u 0, u 0, u 0] (rp 6 [u 0, u 0, u 0, u 0, u 0, u 0] (rp 1 [u 127, u 144, u 138, u 106, u 0, u 0] (rp 1 [u 0, u 0, u 0, u 0, u 0, u 2] (rp 1 [pn, i 0, u 0, u 0, u 0, u 0] (rp 10 [u 0, u 0, u 0, u 0, u 0, u 0] [])))))))))))))), c [t [106, 111, 117, 114, 110, 97, 108], s 16 0 1 1 64, s 17 0 1 1 64], c [t [109, 97, 114, 107, 46, 48, 46, 49, 46, 48], s 18 0 3 3 64, s 19 0 3 3 64], c [t [109, 97, 114, 107, 46, 48, 46, 49, 46, 49], s 20 0 3 3 64, s 21 0 3 3 64], c [t [109, 97, 114, 107, 46, 48, 46, 50, 46, 48], s 22 0 2 2 64, sn], zb0, zb0, zb1, zb1, zb2, zb2, c (bs 128 0x10800020200000203000000000000000000000000000000000000000000000000000000000000000000000000d608d0ed0000000000000001000000000000000204000202000000000000000000000000000000000000000000000000000000000000000000000000000000007f908a6a0000000000000002)], .tup [], [(8, c [m 10, sn, i 16384, j 0, ff]), (12, c [t [106, 111, 117, 114, 110, 97, 108], s 23 0 1 1 64, s 17 0 1 1 64]), (13, c [t [109, 97, 114, 107, 46, 48, 46, 49, 46, 48], s 24 0 3 3 64, s 19 0 3 3 64]), (14, c [t [109, 97, 114, 107, 46, 48, 46, 49, 46, 49], s 25 0 3 3 64, s 21 0 3 3 64]), (15, c [t [109, 97, 114, 107, 46, 48, 46, 50, 46, 48], s 26 0 1 1 64, s 27 0 1 1 64])], [zb0, zb1, zb2, zb3, zb3]⟩
end Go.Proofs.YtjackggnnjdhmaaGreatDoor
namespace Go.Ab
set_option linter.unusedVariables false
set_option linter.unusedSimpArgs false
theorem laid_cells_v {P : Program} {gi : Nat} {W : World} {nm : String} {ty e : TypeId} {n : Nat} {k : IntKind} {tbl : List Int} (h : Go.Lib.VarReads P W nm (.agg (tbl.map fun n => .lit (.int k n)))) (hg : P.globalNamed nm = some gi) (ht : (P.globals[gi]?).map (·.type) = some ty)
  (hu : P.underlying ty = some (.array n e)) (hc : P.cellsOf e = 1) (hct : P.cellsOf ty = n) (he : P.underlying e = some (.int k)) (hn : tbl.length = n) : ∃ C t fz, W.heap[gi]? = some (.cells C t fz) ∧ C.toList = tbl.map (.int k) := by
 obtain ⟨g, t, cs, fuel, p, hg', ht', hv, hd⟩ := h
 obtain rfl := Option.some.inj (hg.symm.trans hg')
 obtain rfl := Option.some.inj (ht.symm.trans ht')
 obtain ⟨xs, m, _, ex, hcl, hl, hel⟩ := DataW.trod_array hu hd
 rw [hct] at hcl
 have e3 : xs.map (·.1) = tbl.map fun n => (DataW.lit (.int k n) : DataW Unit) := (DataW.agg.inj (Prod.mk.inj ex).1).symm
 simp only [World.var?, hg, Option.bind_some] at hv
 split at hv
 ·rename_i C t' fz hb
  have hv' := Option.some.inj hv
  rw [hv'] at hb
  refine ⟨cs, t', fz, hb, List.ext_getElem? fun r => ?_⟩
  by_cases hr : r < n
  ·have hE := hel r hr
   rw [hc, Nat.mul_one, List.getElem?_eq_getElem (by omega)] at hE
   obtain ⟨z, e1, e2, _⟩ := DataW.trod_int he hE
   have e4 : (xs.map (·.1))[r]? = (tbl.map fun n => (DataW.lit (.int k n) : DataW Unit))[r]? := by rw [e3]
   rw [List.getElem?_map, List.getElem?_map, List.getElem?_eq_getElem (by omega : r < xs.length), List.getElem?_eq_getElem (by omega : r < tbl.length), e2] at e4
   simp only [Option.map_some, Option.some.injEq, DataW.lit.injEq, Lit.int.injEq, true_and] at e4
   have h0 : ((cs.toList.drop r).take 1)[0]? = some (.int k z) := by rw [e1]; rfl
   have h1 : cs.toList[r]? = some (.int k z) := by simpa using h0
   rw [h1, List.getElem?_map, List.getElem?_eq_getElem (by omega : r < tbl.length), e4]
   rfl
  ·rw [List.getElem?_eq_none (by omega), List.getElem?_eq_none (by rw [List.length_map]; omega)]
 ·cases hv
theorem laid_all {W : World} : ∀ (gs : List (Nat × List AV)) (μ : Ren) (h : Heap), HRel μ h W → (∀ (b : Nat) (B : Blk), h[b]? = some B → B.rw = false) → (∀ (b g j : Nat), h[b]? = some (.gm g j) → j < h.length) →
  (∀ (b : Nat) (c : List AV) (r : Bool), h[b]? = some (.cells c r) → ∀ x ∈ c, ∀ (μ μ' : Ren) (y : Value), x.rel μ y → x.rel μ' y) → (∀ (i : Nat) (B : Blk), h[i]? = some B → (∃ g j, B = .gm g j) ∨ ∃ c r, B = .cells c r) →
  (∀ g c, (g, c) ∈ gs → ∃ (k : IntKind) (tbl : List Int) (C : Array Value) (t : TypeId) (fz : Nat × Nat), W.heap[g]? = some (.cells C t fz) ∧ C.toList = tbl.map (.int k) ∧ c = tbl.map (.int k)) →
  ∃ μ1, HRel (μ ++ μ1) (h ++ laidHs h.length gs) W
 | [], μ, h, H, _, _, _, _, _ => ⟨[], by simpa [laidHs] using H⟩
 | (g, c) :: gs, μ, h, H, h1, h2, h3, h4, h5 => by
  obtain ⟨k, tbl, C, t, fz, k1, k2, k3⟩ := h5 g c (by simp)
  have hpl : ∀ x ∈ c, ∀ (μ μ' : Ren) (y : Value), x.rel μ y → x.rel μ' y := by
   intro x hx μ μ' y hr
   rw [k3] at hx
   obtain ⟨z, _, rfl⟩ := List.mem_map.1 hx
   exact hr
  have H' := H.lay h1 (c := c) k1 (by rw [k3, ← Array.length_toList, k2]; simp) (by rw [k3]; simp [oneAll, AV.one]) (fun μ i x hx => by
   rw [k3, List.getElem?_map] at hx
   cases hk : tbl[i]? with
   | none => rw [hk] at hx; cases hx
   | some z =>
    rw [hk] at hx; cases hx
    refine ⟨.int k z, ?_, rfl⟩
    rw [← Array.getElem?_toList, k2, List.getElem?_map, hk]; rfl) h2 h3 h4
  have back : ∀ (b : Nat) (B : Blk), (h ++ [.gm g (h.length + 1), .cells c false])[b]? = some B → h[b]? = some B ∨ B = .gm g (h.length + 1) ∨ B = .cells c false := by
   intro b B hb
   by_cases hi : b < h.length
   ·exact .inl (by rw [← hb, List.getElem?_append_left hi])
   ·rw [List.getElem?_append_right (by omega)] at hb
    have := List.mem_of_getElem? hb
    simp at this
    exact .inr this
  obtain ⟨μ1, H2⟩ := laid_all gs _ _ H' (fun b B hb => by
    rcases back b B hb with h | rfl | rfl
    ·exact h1 b B h
    ·rfl
    ·rfl) (fun b g' j hb => by
    rw [List.length_append]
    rcases back b _ hb with h | h | h
    ·have := h2 b g' j h; omega
    ·cases h; simp
    ·cases h) (fun b c' r hb => by
    rcases back b _ hb with h | h | h
    ·exact h3 b c' r h
    ·cases h
    ·cases h; exact hpl) (fun i B hb => by
    rcases back i B hb with h | rfl | rfl
    ·exact h4 i B h
    ·exact .inl ⟨_, _, rfl⟩
    ·exact .inr ⟨_, _, rfl⟩) (fun g' c' hm => h5 g' c' (by simp [hm]))
  refine ⟨[⟨g, 0, 0⟩, ⟨g, 0, C.size⟩] ++ μ1, ?_⟩
  rw [← List.append_assoc]
  simpa [laidHs, List.append_assoc] using H2
theorem laid_all0 {W : World} {gs : List (Nat × List AV)} (h : ∀ g c, (g, c) ∈ gs → ∃ (k : IntKind) (tbl : List Int) (C : Array Value) (t : TypeId) (fz : Nat × Nat), W.heap[g]? = some (.cells C t fz) ∧ C.toList = tbl.map (.int k) ∧ c = tbl.map (.int k)) : ∃ μ, HRel μ (laidHs 0 gs) W := by
 obtain ⟨μ, H⟩ := laid_all gs [] [] (HRel_nil W) (by simp) (by simp) (by simp) (by simp) h
 exact ⟨μ, by simpa using H⟩
end Go.Ab
namespace Go.Proofs.YtjackggnnjdhmaaGreatDoor
open Go.Ab
open Go.ChangeShapes Go.WideShapes Go.ChangeAt Go.RowKit
set_option linter.unusedVariables false
set_option linter.unusedSimpArgs false
abbrev laidL : List (String × DataW Unit) := Rows.topNamesRow.laid
def nums (l : List AV) : List Int := l.map fun x => match x with | .int _ n => n | _ => 0
def laidN (i : Nat) : String := (Rows.topNamesRow.laid.map (·.1)).getD i ""
def laidT : List (String × DataW Unit) := [(laidN 0, .agg ((nums tab1).map fun n => .lit (.int .u32 n))), (laidN 1, .agg ((nums tab0).map fun n => .lit (.int .u64 n))), (laidN 2, .agg ((nums tab3).map fun n => .lit (.int .u8 n))), (laidN 3, .agg ((nums tab2).map fun n => .lit (.int .u8 n)))]
theorem laidL_T : laidL = laidT := by kernel_rfl
theorem tab0_T : tab0 = (nums tab0).map (.int .u64) := by kernel_rfl
theorem tab1_T : tab1 = (nums tab1).map (.int .u32) := by kernel_rfl
theorem tab2_T : tab2 = (nums tab2).map (.int .u8) := by kernel_rfl
theorem tab3_T : tab3 = (nums tab3).map (.int .u8) := by kernel_rfl
theorem laid_heap {W : World} (h : laidMet Tryz.prog laidL W) : ∃ μ : Ren, HRel μ (laidHs 0 gsAV) W := by
 rw [laidL_T] at h
 refine laid_all0 fun g c hm => ?_
 have r1 := Go.Lib.laidMet.reads h (n := laidN 0) (d := .agg ((nums tab1).map fun n => .lit (.int .u32 n))) (by simp [laidT])
 have r0 := Go.Lib.laidMet.reads h (n := laidN 1) (d := .agg ((nums tab0).map fun n => .lit (.int .u64 n))) (by simp [laidT])
 have r3 := Go.Lib.laidMet.reads h (n := laidN 2) (d := .agg ((nums tab3).map fun n => .lit (.int .u8 n))) (by simp [laidT])
 have r2 := Go.Lib.laidMet.reads h (n := laidN 3) (d := .agg ((nums tab2).map fun n => .lit (.int .u8 n))) (by simp [laidT])
 simp only [gsAV, List.mem_cons, Prod.mk.injEq, List.not_mem_nil, or_false] at hm
 rcases hm with ⟨rfl, rfl⟩ | ⟨rfl, rfl⟩ | ⟨rfl, rfl⟩ | ⟨rfl, rfl⟩
 ·obtain ⟨C, t, fz, k1, k2⟩ := laid_cells_v (gi := 0) (ty := 347) (e := 217) (n := 20) r0 (by kernel_rfl) (by kernel_rfl) (by kernel_rfl) (by kernel_rfl) (by kernel_rfl) (by kernel_rfl) (by kernel_rfl)
  exact ⟨_, _, C, t, fz, k1, k2, tab0_T⟩
 ·obtain ⟨C, t, fz, k1, k2⟩ := laid_cells_v (gi := 6) (ty := 732) (e := 318) (n := 16) r1 (by kernel_rfl) (by kernel_rfl) (by kernel_rfl) (by kernel_rfl) (by kernel_rfl) (by kernel_rfl) (by kernel_rfl)
  exact ⟨_, _, C, t, fz, k1, k2, tab1_T⟩
 ·obtain ⟨C, t, fz, k1, k2⟩ := laid_cells_v (gi := 5) (ty := 426) (e := 5) (n := 64) r2 (by kernel_rfl) (by kernel_rfl) (by kernel_rfl) (by kernel_rfl) (by kernel_rfl) (by kernel_rfl) (by kernel_rfl)
  exact ⟨_, _, C, t, fz, k1, k2, tab2_T⟩
 ·obtain ⟨C, t, fz, k1, k2⟩ := laid_cells_v (gi := 4) (ty := 510) (e := 5) (n := 32) r3 (by kernel_rfl) (by kernel_rfl) (by kernel_rfl) (by kernel_rfl) (by kernel_rfl) (by kernel_rfl) (by kernel_rfl)
  exact ⟨_, _, C, t, fz, k1, k2, tab3_T⟩
end Go.Proofs.YtjackggnnjdhmaaGreatDoor
namespace Go.Proofs.YtjackggnnjdhmaaGreatDoor
open Go.Ab
open Go.ChangeShapes Go.WideShapes Go.ChangeAt Go.RowKit
set_option maxRecDepth 100000
theorem wi8 (os : Os) : World.layIfaces Tryz.prog (World.holding Tryz.prog os { blocks := #[], args := #[] }) laidL (World.laidAll Tryz.prog os laidL) = true := by kernel_rfl
end Go.Proofs.YtjackggnnjdhmaaGreatDoor
