/- EditApplies answers yes for every list of edits, at every epoch. -/
import Derived.Test.YtceplmmmlindnaaCR4h
import Derived.Test.YtceplmmmlindnaaCAb24
namespace Go.Proofs.Ytceplmmmlindnaa
open Go.Ab
open Go.ChangeShapes Go.WideShapes Go.ChangeAt Go.RowKit
set_option linter.unusedVariables false
set_option linter.unusedSimpArgs false

section
variable {H : Type} {enc : TypeId × Value → H} {W : World}
set_option maxRecDepth 100000 in
theorem ref_in (n : Nat) (cs' : List Value) (y : DataW H × List MemPlace) (h : DataW.trod enc Try.prog W 0 (fun _ => true) true n 104 cs' = some y) (hl : cs'.length = refE.sz) : ∃ a, ∀ μ, relL μ (refE.f a) cs' := by
  obtain ⟨y0, y1, y2, n', _, _, h0, h1, h2⟩ := Deep.trod_struct3 Try.underlying104 h
  match cs', hl with
  | [c0, c1, c2], _ =>
    have h0 : DataW.trod enc Try.prog W 0 (fun _ => true) true n' 9 [c0] = some y0 := h0
    have h1 : DataW.trod enc Try.prog W 0 (fun _ => true) true n' 3 [c1] = some y1 := h1
    have h2 : DataW.trod enc Try.prog W 0 (fun _ => true) true n' 3 [c2] = some y2 := h2
    obtain ⟨s, e0, _, _⟩ := DataW.trod_string Try.underlying9 h0
    obtain ⟨a, e1, _, _⟩ := DataW.trod_int Try.underlying3 h1
    obtain ⟨b, e2, _, _⟩ := DataW.trod_int Try.underlying3 h2
    simp at e0 e1 e2
    subst e0 e1 e2
    exact ⟨(s.data.toList, a, b), fun μ => ⟨_, _, rfl, by simp [AV.rel], _, _, rfl, rfl, _, _, rfl, rfl, rfl⟩⟩

set_option maxRecDepth 100000 in
/-- An edit's cells, over some blocks more. -/
theorem edit_cells {n : Nat} {cs' : List Value} {y : DataW H × List MemPlace} (h : DataW.trod enc Try.prog W 0 (fun _ => true) true n 26 cs' = some y) (hl : cs'.length = 4) {μ : Ren} {hp : Heap} (HH : HRel μ hp W) (ro : ReadOnly hp) {b0 : Nat} {c0 : List AV} {rw0 : Bool} (hb0 : hp[b0]? = some (.cells c0 rw0)) :
    ∃ (l1 : Ren) (bs : Heap) (e : EV) (d : ED), HRel (μ ++ l1) (hp ++ bs) W ∧ ReadOnly (hp ++ bs) ∧ relL (μ ++ l1) (edE.f e) cs' ∧ EdR (hp ++ bs) e d := by
  obtain ⟨y0, y1, y2, n', _, _, h0, h1, h2⟩ := Deep.trod_struct3 Try.underlying26 h
  match cs', hl with
  | [x0, x1, x2, x3], _ =>
    have h0 : DataW.trod enc Try.prog W 0 (fun _ => true) true n' 3 [x0] = some y0 := h0
    have h1 : DataW.trod enc Try.prog W 0 (fun _ => true) true n' 23 [x1, x2] = some y1 := h1
    have h2 : DataW.trod enc Try.prog W 0 (fun _ => true) true n' 24 [x3] = some y2 := h2
    obtain ⟨z0, z1, n2, _, _, g0, g1⟩ := trod_struct2 Try.underlying23 h1
    have g0 : DataW.trod enc Try.prog W 0 (fun _ => true) true n2 3 [x1] = some z0 := g0
    have g1 : DataW.trod enc Try.prog W 0 (fun _ => true) true n2 3 [x2] = some z1 := g1
    obtain ⟨a, e0, _, _⟩ := DataW.trod_int Try.underlying3 h0
    obtain ⟨b, e1, _, _⟩ := DataW.trod_int Try.underlying3 g0
    obtain ⟨c, e2, _, _⟩ := DataW.trod_int Try.underlying3 g1
    simp at e0 e1 e2
    subst e0 e1 e2
    obtain ⟨l1, bs, q, l, k1, k2, k3, k4⟩ := slice_in0 refE Try.underlying24 (by kernel_rfl) ref_in h2 HH ro hb0
    exact ⟨l1, bs, (a, b, c, q), (a, b, c, l), k1, k2, ⟨_, _, rfl, rfl, _, _, rfl, rfl, _, _, rfl, rfl, _, _, rfl, k3, rfl⟩, rfl, rfl, rfl, k4⟩

set_option maxRecDepth 100000 in
/-- Edits that came in. -/
theorem edits_in {v : Value} {d : DataW H} {p : List MemPlace} {r : Reach} {base : Nat} (hv0 : Value.okWide Try.prog W r base 41 v) (h : DataW.Trod enc Try.prog W 0 (fun _ => true) true 41 v d p) :
    ∃ (μ : Ren) (hp : Heap) (q : Option SL) (l : List ED), HRel μ hp W ∧ ReadOnly hp ∧ AV.rel μ (.sl q) v ∧ InL hp q l := by
  have hv : Cell.okWide Try.prog W r base 41 v := by
    unfold Value.okWide at hv0
    rw [Try.underlying41] at hv0
    exact hv0
  obtain ⟨a0, len0, cap0, rfl⟩ := okWide_slice Try.underlying41 hv0
  obtain ⟨fuel, hf⟩ := h
  have hnil : HRel [] [] W := hrel_nil W
  have hC : Try.prog.cellsOf 26 = 4 := by kernel_rfl
  rcases Deep.open_slice Try.underlying41 hf with ⟨hcs, _⟩ | ⟨a, len, cap, m, n, D, Pl, hcs, _, hlc, hm, hmm, _, hx⟩
  · simp [Value.cells] at hcs
    obtain ⟨rfl, rfl, rfl⟩ := hcs
    exact ⟨[], [], none, [], hnil, fun b B hb => by simp at hb, rfl, [], rfl, rfl, by simp⟩
  · simp [Value.cells] at hcs
    obtain ⟨rfl, rfl, rfl⟩ := hcs
    simp only [if_true] at hmm
    subst hmm
    rcases cell_slice Try.underlying41 hv with hn0 | ⟨ab, ao, len', cap', heq, h1, hbl⟩
    · cases hn0
    · cases heq
      have hspot : ∃ C tt fz, W.heap[ab]? = some (.cells C tt fz) := by
        unfold Cell.okWide at hv
        rw [Try.underlying41] at hv
        simp only [Cell.ok, Try.underlying41] at hv
        obtain ⟨_, _, _, _, row, cells, h3, _⟩ := hv
        unfold World.shape? at h3
        split at h3
        · rename_i C tt fz hb; exact ⟨C, tt, fz, hb⟩
        · cases h3
      obtain ⟨C, tt, fz, hb⟩ := hspot
      have ro0 : ReadOnly ([] : Heap) := fun b B hb => by simp at hb
      have H0 : HRel [⟨ab, 0, C.size⟩] [.cells [] false] W := hnil.addRO ro0 rfl hbl ⟨C, tt, fz, hb, by simp, by simp, rfl, by simp, by simp⟩
      have R0 : ReadOnly [Blk.cells [] false] := ro0.add rfl
      by_cases hcap : m = 0
      · have hl0 : len0 = 0 := by omega
        subst hcap hl0
        refine ⟨_, _, some ⟨0, 0, 0, 0, 0⟩, [], H0, R0, ⟨⟨ab, 0, C.size⟩, 0, _, .inr rfl, rfl, Nat.le_refl _, .inl rfl, fun _ => rfl, fun hn => absurd rfl hn⟩, [], ⟨rfl, Nat.le_refl _, .inl rfl, ?_⟩, rfl, by simp⟩
        simp [cellsAt, Enc.all]
      · have inner : ∀ k, k ≤ len0 → ∃ (μ : Ren) (hp : Heap) (L : List EV) (l : List ED), HRel μ hp W ∧ ReadOnly hp ∧ hp[0]? = some (.cells [] false) ∧ L.length = k ∧ l.length = k ∧
            (∀ (j : Nat) (e : EV), L[j]? = some e → ∀ (t : Nat) (x : AV), (edE.f e)[t]? = some x → ∃ y, C[ao + j * 4 + t]? = some y ∧ x.rel μ y) ∧ (∀ (j : Nat) (e : EV) (d : ED), L[j]? = some e → l[j]? = some d → EdR hp e d) := by
          intro k
          induction k with
          | zero => intro _; exact ⟨_, _, [], [], H0, R0, rfl, rfl, rfl, by simp, by simp⟩
          | succ k ih =>
            intro hk
            obtain ⟨μ, hp, L, l, i1, i2, i3, i4, i5, i6, i7⟩ := ih (by omega)
            obtain ⟨cs', hcl, htr⟩ := hx k (by omega)
            rw [hC] at hcl
            obtain ⟨_, hlen, hcell⟩ := World.cells?_some hcl
            obtain ⟨l1, bs, e, d, k1, k2, k3, k4⟩ := edit_cells htr hlen i1 i2 i3
            refine ⟨μ ++ l1, hp ++ bs, L ++ [e], l ++ [d], k1, k2, ?_, by simp [i4], by simp [i5], ?_, ?_⟩
            · rw [List.getElem?_append_left (lt_of_get i3)]; exact i3
            · intro j x hj t z hz
              rw [List.getElem?_append] at hj
              split at hj
              · obtain ⟨y, g1, g2⟩ := i6 j x hj t z hz
                exact ⟨y, g1, AV.rel.mono (Ren.le_append _ _) _ _ g2⟩
              · have hj0 : j - L.length = 0 := by have := lt_of_get hj; simp at this; omega
                rw [hj0] at hj
                simp at hj
                subst hj
                have hjk : j = k := by omega
                subst hjk
                obtain ⟨y, g1, g2⟩ := k3.get hz
                have ht : t < 4 := lt_of_get hz
                refine ⟨y, ?_, g2⟩
                have := hcell t ht
                rw [add_addr, add_addr] at this
                unfold World.cell? at this
                simp only [hb] at this
                rw [← g1, ← this]
                simp
            · intro j x z hj hz
              rw [List.getElem?_append] at hj hz
              split at hj
              · rw [if_pos (by omega)] at hz
                have r := i7 j x z hj hz
                exact ⟨r.1, r.2.1, r.2.2.1, r.2.2.2.mono (Ext.app _ _)⟩
              · rw [if_neg (by omega)] at hz
                have hj0 : j - L.length = 0 := by have := lt_of_get hj; simp at this; omega
                have hz0 : j - l.length = 0 := by omega
                rw [hj0] at hj
                rw [hz0] at hz
                simp at hj hz
                subst hj hz
                exact k4
        obtain ⟨μ, hp, L, l, i1, i2, i3, i4, i5, i6, i7⟩ := inner len0 (Nat.le_refl _)
        have hμ := i1.len
        have lastc : ∀ i, i < len0 → ao + i * 4 + 4 ≤ C.size := by
          intro i hi
          have hLi : L[i]? = some (L[i]'(by omega)) := List.getElem?_eq_getElem _
          obtain ⟨y, g1, _⟩ := i6 i _ hLi 3 _ rfl
          have := (Array.getElem?_eq_some_iff.1 g1).1
          omega
        have haoC : ao ≤ C.size := by
          obtain ⟨cs', hcl, htr⟩ := hx 0 (by omega)
          rw [hC] at hcl
          obtain ⟨_, hlen, hcell⟩ := World.cells?_some hcl
          have h0 := hcell 0 (by omega)
          rw [add_addr, add_addr] at h0
          unfold World.cell? at h0
          simp only [hb] at h0
          have hget : cs'[0]? = some (cs'[0]'(by omega)) := List.getElem?_eq_getElem _
          rw [hget] at h0
          simp at h0
          have := (Array.getElem?_eq_some_iff.1 h0).1
          omega
        have hlenC : len0 * 4 ≤ C.size - ao := by
          rcases Nat.eq_zero_or_pos len0 with hz | hz
          · omega
          · have := lastc (len0 - 1) (by omega); omega
        have HB : HRel (μ ++ [⟨ab, ao, C.size - ao⟩]) (hp ++ [.cells (edE.all L) false]) W := by
          refine i1.addRO (e := ⟨ab, ao, C.size - ao⟩) (B := .cells (edE.all L) false) i2 rfl hbl ⟨C, tt, fz, hb, ?_, ?_, ?_, ?_, ?_⟩
          · show C.size = ao + (C.size - ao); omega
          · rw [Enc.all_length, i4]; exact hlenC
          · simp only [oneAll, List.all_eq_true]
            intro x hx'
            simp only [Enc.all, List.mem_flatten, List.mem_map] at hx'
            obtain ⟨l0, ⟨a, _, rfl⟩, h⟩ := hx'
            have := edE.one a
            simp only [oneAll, List.all_eq_true] at this
            exact this x h
          · intro j x hj
            have hjl := lt_of_get hj
            rw [Enc.all_length, i4] at hjl
            have hjl : j < len0 * 4 := hjl
            have hi : j / 4 < L.length := by omega
            have hLi : L[j / 4]? = some (L[j / 4]'hi) := List.getElem?_eq_getElem _
            have hat := Enc.all_at (E := edE) hLi
            have hdm : j / 4 * 4 + j % 4 = j := by omega
            have : (edE.f (L[j / 4]'hi))[j % 4]? = some x := by
              rw [← hat, List.getElem?_take, if_pos (show j % 4 < edE.sz from (by show j % 4 < 4; omega)), List.getElem?_drop]
              show (edE.all L)[j / 4 * 4 + j % 4]? = _
              rw [hdm, hj]
            obtain ⟨y, g1, g2⟩ := i6 _ _ hLi _ _ this
            refine ⟨y, ?_, AV.rel.mono (Ren.le_append _ _) _ _ g2⟩
            rw [← g1]
            simp only
            congr 1
            omega
          · intro hrw; cases hrw
        refine ⟨_, _, some ⟨hp.length, 0, len0, m, 0⟩, l, HB, i2.add rfl, ?_, L, ?_, by omega, ?_⟩
        · exact ⟨⟨ab, ao, C.size - ao⟩, m, _, .inl (by rw [← hμ]; simp), rfl, h1, .inr rfl, fun _ => rfl, fun hn => absurd rfl hn⟩
        · refine ⟨i4.symm, h1, .inl rfl, ?_⟩
          rw [cellsAt_mk (C := edE.all L) (rw' := false) (by simp) (by simp [Enc.all_length])]
          simp [← Enc.all_length]
        · intro j e d hj hd
          have r := i7 j e d hj hd
          exact ⟨r.1, r.2.1, r.2.2.1, r.2.2.2.mono (Ext.app _ _)⟩
end

set_option maxRecDepth 100000 in
theorem editApplies_lifted (os : Os) (started : os.Started) (H : Type) (enc : TypeId × Value → H) :
    ReturnsInHanded {} Try.checked os 5 .any (Rows.editAppliesSpec.pre6 enc Try.prog Try.f5 Rows.editAppliesRow.domain false) (Rows.editAppliesSpec.post enc Try.prog Try.f5 false true false false) := by
  refine returnsInHanded_of_change (C := Try.checked) own started (by kernel_rfl) Try.func5
    (ChangeSpec.witness6 (enc := enc) (C := Try.checked) false ⟨#[], #[.slice none 0 0, .int .i64 0], []⟩ 8 (by kernel_rfl) (by kernel_rfl) (by kernel_rfl) (by kernel_rfl)) ?_
  intro W base args ds gs before hval0 hW _ _
  have hval : ∀ (j : Nat) t v, Try.f5.params[j]? = some t → args[j]? = some v → Value.okWide Try.prog W .any base t v := hval0
  have hW' := hW
  obtain ⟨p, q, hA0, hV, rfl, hfz, hnd⟩ := hW
  have hA : DataW.TrodAll enc Try.prog W 0 (fun _ => true) true Try.f5.params.toList args.toList ds p := hA0
  rw [Try.params5] at hA hval
  obtain ⟨v0, vs0, d0, ds0, p0, q0, hargs, rfl, rfl, h0, r0⟩ := trodAll_cons hA
  obtain ⟨v1, vs1, d1, ds1, p1, q1, rfl, rfl, rfl, h1, r1⟩ := trodAll_cons r0
  obtain ⟨rfl, rfl, rfl⟩ := trodAll_nil r1
  obtain rfl : args = #[v0, v1] := by cases args; simp_all
  obtain ⟨rfl, rfl⟩ := trodVars_none hV
  obtain ⟨μ, hp, q, l, k1, k2, k3, k4⟩ := edits_in (hval 0 41 v0 rfl rfl) h0
  obtain ⟨n, rfl, rfl, rfl, wa⟩ := open_int Try.underlying3 (hval 1 3 v1 rfl rfl) h1
  refine (calls_of_AC (args := #[v0, .int .i64 n]) (s5 (n := n) k4) k1 ⟨_, _, rfl, k3, _, _, rfl, rfl, rfl⟩ k2).mono fun e W' ⟨he, hb⟩ => ?_
  exact ⟨_, he, post_yes hW' rfl rfl (by kernel_rfl) Try.underlying4 (by kernel_rfl) hb⟩

theorem editApplies_holds : Rows.EditAppliesSaid :=
  OpenClaim.holds_of_wide 5 Try.f5 rfl rfl rfl rfl rfl rfl rfl ⟨rfl, rfl, rfl, rfl, rfl⟩ rfl rfl rfl rfl rfl (by kernel_rfl) Try.func5 (by kernel_rfl)
    (of_decide_eq_true (by kernel_rfl)) (by unfold Func.isWrapper; first | (rw [if_pos (by decide +kernel)]; kernel_rfl) | (rw [if_neg (by decide +kernel)]; exact ⟨rfl, rfl⟩))
    (fun os started H enc _ => editApplies_lifted os started H enc)
end Go.Proofs.Ytceplmmmlindnaa
