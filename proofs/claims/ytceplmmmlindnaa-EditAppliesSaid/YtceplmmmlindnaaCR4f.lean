/- The document's Names. -/
import Derived.Test.YtceplmmmlindnaaCR4e
namespace Go.Proofs.Ytceplmmmlindnaa
open Go.Ab
set_option linter.unusedVariables false
set_option linter.unusedSimpArgs false

theorem Own.grow {α : Type} {E : Enc α} {h : Heap} {q : Option SL} {l : List α} (O : Own E h q l) (hl : l ≠ []) : Grow E h q l := by
  rcases O with ⟨rfl, _⟩ | ⟨_, a, rfl, hb⟩
  · exact (hl rfl).elim
  · exact ⟨fun b B hb => by simp at hb, Nat.zero_le _, rfl, rfl, rfl, rfl, hb⟩

theorem insA {h : Heap} {q : Option SL} {o : List Str} {k : Nat} {n : Str} {K : Option SL → Heap → Prop} (H : HasL strE h q o) (hk : k ≤ o.length) (hl : o.length ≤ 100000)
    (hK : ∀ q' h', Ext h h' → HasL strE h' q' (o.take k ++ n :: o.drop k) → K q' h') :
    PSlice 1 q 0 (some (k : Int)) none fun q27 => PSlice 1 q (k : Int) none none fun q28 =>
      (PNew [] true h fun a29 h30 =>
        (PAppendS 1 16 (some ⟨a29, 0, 0, 0, 0⟩) q27 h30 fun q31 h32 => PNew [.str n] true h32 fun a33 h34 => PAppendS 1 16 q31 (some ⟨a33, 0, 1, 1, 0⟩) h34 fun q35 h36 => PAppendS 1 16 q35 q28 h36 K) ∧
        (PNew [.str n] true h30 fun a39 h40 => PAppendS 1 16 (some ⟨a29, 0, 0, 0, 0⟩) q27 h40 fun q41 h42 => PAppendS 1 16 q41 (some ⟨a39, 0, 1, 1, 0⟩) h42 fun q43 h44 => PAppendS 1 16 q43 q28 h44 K)) ∧
      (PNew [.str n] true h fun a47 h48 => PNew [] true h48 fun a49 h50 => PAppendS 1 16 (some ⟨a49, 0, 0, 0, 0⟩) q27 h50 fun q51 h52 => PAppendS 1 16 q51 (some ⟨a47, 0, 1, 1, 0⟩) h52 fun q53 h54 => PAppendS 1 16 q53 q28 h54 K) := by
  refine HasL.slice (E := strE) H (by omega) (by simp) (by simpa using hk) fun q27 H27 => ?_
  refine HasL.slice (E := strE) H (by omega) (by simpa using hk) (by simp) fun q28 H28 => ?_
  have H27 : HasL strE h q27 (o.take k) := by simpa using H27
  have H28 : HasL strE h q28 (o.drop k) := by simpa using H28
  have lt : (o.take k).length ≤ 100000 := by simp; omega
  have ld : (o.take k).length + (o.drop k).length = o.length := by simp; omega
  have fin : ∀ (h1 : Heap) (q31 : Option SL) (a : Nat), Ext h h1 → Own strE h1 q31 (o.take k) → (∀ s, q31 = some s → h.length ≤ s.b) → h1[a]? = some (.cells [.str n] true) → PAppendS 1 16 q31 (some ⟨a, 0, 1, 1, 0⟩) h1 fun q35 h36 => PAppendS 1 16 q35 q28 h36 K := by
    intro h1 q31 a hx O hq ha
    have hsrc : HasL strE h1 (some ⟨a, 0, 1, 1, 0⟩) [n] := by
      refine ⟨rfl, Nat.le_refl _, .inl rfl, ?_⟩
      rw [cellsAt_mk (p := ⟨a, 0⟩) ha (by simp [strE])]
      simp [Enc.all, strE]
    refine appendOne (E := strE) O hsrc (by omega) fun q2 h2 O2 K2 hl2 hq2 => ?_
    have hx2 : Ext h h2 := fun b B hB => K2 b B (fun ⟨s, a1, a2⟩ => by have := hq s a1; have := lt_of_get hB; omega) (hx _ _ hB)
    refine Grow.append (E := strE) (O2.grow (by simp)) (H28.mono hx2) (by simp at ld ⊢; omega) fun q3 h3 G3 K3 hl3 hq3 => hK q3 h3 ?_ ?_
    · intro b B hB
      exact K3 b B (fun ⟨s, a1, a2⟩ => by have := hq2 s a1; have := lt_of_get hB; have := hx.len; omega) (hx2 _ _ hB)
    · have := Acc.hasL G3
      simpa using this
  unfold PNew
  refine ⟨⟨?_, ?_⟩, ?_⟩
  · refine copy0 (E := strE) (a := h.length) (by simp) (H27.mono (Ext.app _ _)) (by omega) fun q31 h32 hx O hq => ?_
    refine fin _ q31 _ (((Ext.app _ _).trans hx).trans (Ext.app _ _)) (O.ext (Ext.app _ _)) (fun s hs => ?_) (by simp)
    rcases hq s hs with a | a
    · omega
    · simp at a; omega
  · refine copy0 (E := strE) (a := h.length) (by rw [List.getElem?_append_left (by simp)]; simp) ((H27.mono (Ext.app _ _)).mono (Ext.app _ _)) (by omega) fun q31 h32 hx O hq => ?_
    refine fin _ q31 _ (((Ext.app _ _).trans (Ext.app _ _)).trans hx) O (fun s hs => ?_) (hx _ _ (by simp))
    rcases hq s hs with a | a
    · omega
    · simp at a; omega
  · refine copy0 (E := strE) (a := (h ++ [Blk.cells [AV.str n] true]).length) (by simp) ((H27.mono (Ext.app _ _)).mono (Ext.app _ _)) (by omega) fun q31 h32 hx O hq => ?_
    refine fin _ q31 _ (((Ext.app _ _).trans (Ext.app _ _)).trans hx) O (fun s hs => ?_) (hx _ _ (by rw [List.getElem?_append_left (by simp)]; simp))
    rcases hq s hs with a | a
    · simp at a; omega
    · simp at a; omega

section
variable {h : Heap} {Q : AV → Heap → Prop} {p : Nat} {has : Bool} {done : List ED} {mark : ED}

/-- The document's Names. -/
theorem u83 (S : StV h p has done mark) (hd : done.length ≤ 100) (hrl : ∀ d ∈ edits has done mark, d.2.2.2.length ≤ 256) (hQ : ∀ q h', Ext h h' → HasL strE h' q (docNames (namesOf (edits has done mark))) → Q (.sl q) h') : AC Try.prog 83 [.ptr (some ⟨p, 0⟩)] h Q := ac83 (by
  have hlen : (edits has done mark).length ≤ 101 := by
    unfold edits; cases has <;> simp <;> omega
  have hv82 := fun (Q : AV → Heap → Prop) hQ => u82 (Q := Q) S hd hQ
  generalize edits has done mark = l at *
  unfold vc83
  refine hv82 _ fun q4 h3 hx3 hE => ⟨q4, rfl, ?_⟩
  obtain ⟨L, gL, hL, he⟩ := hE
  have gl := gL.len
  have nl : (namesOf l).length ≤ 25856 := by have := namesOf_len hrl; omega
  refine ⟨fun xs h9 => ∃ (q : Option SL) (i : Nat), xs = [.sl q, .int .i64 i] ∧ i ≤ l.length ∧ Ext h3 h9 ∧ HasL strE h9 q (docNames (namesOf (l.take i))), fun xs _ => match xs with | [_, .int _ i] => (l.length - i).toNat | _ => 0, ⟨none, 0, rfl, by omega, .refl _, rfl⟩, ?_⟩
  rintro q5 i h9 ⟨q5', i', hx, hi, hx9, H9⟩
  simp only [List.cons.injEq, AV.int.injEq, AV.sl.injEq, true_and, and_true] at hx
  obtain ⟨rfl, rfl⟩ := hx
  refine vif_mk (fun h1 => ?_) (fun h1 => ?_)
  · simp only [decide_eq_true_eq] at h1
    have hdl : i' < l.length := by omega
    have hd' : l[i']? = some l[i'] := List.getElem?_eq_getElem hdl
    have hr256 := hrl l[i'] (List.getElem_mem _)
    generalize hdd : l[i'] = d at *
    have nl2 : (namesOf (l.take i')).length ≤ 25856 := by
      have h1 := namesOf_len (l := l.take i') (fun d hd => hrl d (List.mem_of_mem_take hd)); have h2 : (l.take i').length ≤ l.length := List.length_take_le' _ _; omega
    refine ⟨fun xs h14 => ∃ (q : Option SL) (k : Nat), xs = [.sl q, .int .i64 k] ∧ k ≤ d.2.2.2.length ∧ Ext h3 h14 ∧ HasL strE h14 q (docNames (namesOf (l.take i') ++ refNames (d.2.2.2.take k))), fun xs _ => match xs with | [_, .int _ i] => (d.2.2.2.length - i).toNat | _ => 0, ⟨q5, 0, rfl, by omega, hx9, by simpa [refNames] using H9⟩, ?_⟩
    rintro q10 k h14 ⟨q10', k', hxk, hk, hx14, H14⟩
    simp only [List.cons.injEq, AV.int.injEq, AV.sl.injEq, true_and, and_true] at hxk
    obtain ⟨rfl, rfl⟩ := hxk
    have atE : ∀ {K : PA → Prop}, (∀ pp x, EdR h14 x d → cellsAt h14 pp 4 = some (edE.f x) → K pp) → vIdx q4 (i' : Int) 4 K := by
      intro K hK
      refine HasL.idx (E := edE) (gL.mono hx14) (by omega) (by omega) fun pp x hx hc' => hK pp x ?_ hc'
      have r := he i' x d (by simpa using hx) hd'
      exact ⟨r.1, r.2.1, r.2.2.1, r.2.2.2.mono hx14⟩
    refine atE fun pp x hR hc' => ⟨x.2.2.2, by have := cellsAt_sub (k := 3) (m := 1) hc' (by omega); simpa [edE] using this, ?_⟩
    have rl := hR.2.2.2.len
    refine vif_mk (fun g1 => ?_) (fun g1 => ?_)
    · simp only [decide_eq_true_eq] at g1
      refine atE fun pp2 x2 hR2 hc2 => ⟨x2.2.2.2, by have := cellsAt_sub (k := 3) (m := 1) hc2 (by omega); simpa [edE] using this, ?_⟩
      refine HasL.idx (E := refE) hR2.2.2.2 (by omega) (by omega) fun pp3 y hy hcy => ?_
      have hy' : d.2.2.2[k']? = some y := by simpa using hy
      refine ⟨y.1, by have := cellsAt_sub (k := 0) (m := 1) hcy (by simp [refE]); simpa [refE] using this, ?_⟩
      have nxt : docNames (namesOf (l.take i') ++ refNames (d.2.2.2.take (k' + 1))) = insR y.1 (docNames (namesOf (l.take i') ++ refNames (d.2.2.2.take k'))) := by
        rw [take_succ_names hy', ← List.append_assoc, docNames_snoc]
      have olen : (docNames (namesOf (l.take i') ++ refNames (d.2.2.2.take k'))).length ≤ 100000 := by
        have h1 := docNames_len (l := namesOf (l.take i') ++ refNames (d.2.2.2.take k'))
        have h2 : (refNames (d.2.2.2.take k')).length ≤ 256 := by
          rw [refNames, List.length_map]; have := List.length_take_le k' d.2.2.2; omega
        rw [List.length_append] at h1; omega
      rw [wrapK_i64 (n := (k' : Int) + 1) ⟨by omega, by omega⟩]
      generalize hoo : docNames (namesOf (l.take i') ++ refNames (d.2.2.2.take k')) = o at *
      have ol := H14.len
      refine ⟨fun xs h24 => ∃ (j : Nat), xs = [.int .i64 j] ∧ j ≤ o.length ∧ h24 = h14 ∧ (∀ t x, t < j → o[t]? = some x → bytesLess x y.1 = true), fun xs _ => match xs with | [.int _ i] => (o.length - i).toNat | _ => 0, ⟨0, rfl, by omega, rfl, fun t x ht => by omega⟩, ?_⟩
      rintro j h24 ⟨j', hxj, hj, rfl, hless⟩
      simp only [List.cons.injEq, AV.int.injEq, true_and, and_true] at hxj
      subst hxj
      have stay : (∀ x, o[j']? = some x → bytesLess x y.1 = false) → o[j']? = some y.1 → HasL strE h24 q10 (insR y.1 o) := by
        intro h2 h3
        rw [insR_at hless hj h2, if_pos h3]; exact H14
      have put : ∀ q' h', (∀ x, o[j']? = some x → bytesLess x y.1 = false) → o[j']? ≠ some y.1 → HasL strE h' q' (o.take j' ++ y.1 :: o.drop j') → HasL strE h' q' (insR y.1 o) := by
        intro q' h' h2 h3 h4
        rw [insR_at hless hj h2, if_neg h3]; exact h4
      have goOn : ∀ q' h', Ext h24 h' → HasL strE h' q' (insR y.1 o) → True ∧ (∃ (q : Option SL) (k : Nat), [AV.sl q', AV.int .i64 ((k' : Int) + 1)] = [.sl q, .int .i64 k] ∧ k ≤ d.2.2.2.length ∧ Ext h3 h' ∧ HasL strE h' q (docNames (namesOf (l.take i') ++ refNames (d.2.2.2.take k)))) ∧ (d.2.2.2.length - ((k' : Int) + 1)).toNat < (d.2.2.2.length - (k' : Int)).toNat := by
        intro q' h' hx' H'
        refine ⟨trivial, ⟨q', k' + 1, by simp, by omega, hx14.trans hx', by rw [nxt]; exact H'⟩, by omega⟩
      refine vif_mk (fun g2 => ?_) (fun g2 => ?_)
      · simp only [decide_eq_true_eq] at g2
        have atO : ∀ {K : PA → Prop}, (∀ pp x, o[j']? = some x → cellsAt h24 pp 1 = some [.str x] → K pp) → vIdx q10 (j' : Int) 1 K := by
          intro K hK
          refine HasL.idx (E := strE) H14 (by omega) (by omega) fun pp x hx hc' => hK pp x (by simpa using hx) hc'
        refine atO fun pp4 z hz hcz => ⟨z, hcz, vif_mk (fun g3 => ?_) (fun g3 => ?_)⟩
        · rw [wrapK_i64 ⟨by omega, by omega⟩]
          refine ⟨trivial, ⟨j' + 1, by simp, by omega, rfl, fun t x ht hx => ?_⟩, by simp only; omega⟩
          rcases Nat.lt_or_ge t j' with h | h
          · exact hless t x h hx
          · have : t = j' := by omega
            subst this; rw [hz] at hx; cases hx; exact g3
        · have hnl : ∀ x, o[j']? = some x → bytesLess x y.1 = false := fun x hx => by rw [hz] at hx; cases hx; exact g3
          refine vif_mk (fun g4 => ?_) (fun g4 => ?_)
          · have : (j' : Int) = slLen q10 := by simpa using g4
            omega
          · refine atO fun pp5 z' hz' hcz' => ⟨z', hcz', vif_mk (fun g5 => ?_) (fun g5 => ?_)⟩
            · rw [hz] at hz'; cases hz'
              have hne : o[j']? ≠ some y.1 := by rw [hz]; simpa using g5
              exact insA (k := j') H14 hj olen fun q' h' hx' H' => goOn q' h' hx' (put q' h' hnl hne H')
            · rw [hz] at hz'; cases hz'
              have heq : o[j']? = some y.1 := by rw [hz]; simpa using g5
              exact goOn q10 h24 (.refl _) (stay hnl heq)
      · simp only [decide_eq_false_iff_not] at g2
        have hj' : j' = o.length := by omega
        have hnone : o[j']? = none := by rw [List.getElem?_eq_none]; omega
        refine vif_mk (fun g4 => ?_) (fun g4 => ?_)
        · exact insA (k := j') H14 hj olen fun q' h' hx' H' => goOn q' h' hx' (put q' h' (fun x hx => by rw [hnone] at hx; cases hx) (by rw [hnone]; simp) H')
        · have : ¬ (j' : Int) = slLen q10 := by simpa using g4
          omega
    · simp only [decide_eq_false_iff_not] at g1
      have hk' : k' = d.2.2.2.length := by omega
      subst hk'
      rw [List.take_length] at H14
      rw [wrapK_i64 ⟨by omega, by omega⟩]
      refine ⟨trivial, ⟨q10, i' + 1, by simp, by omega, hx14, ?_⟩, ?_⟩
      · rw [take_succ_namesOf hd']; exact H14
      · simp only; omega
  · simp only [decide_eq_false_iff_not] at h1
    have hi' : i' = l.length := by omega
    subst hi'
    rw [List.take_length] at H9
    exact hQ q5 h9 (hx3.trans hx9) H9)
end
end Go.Proofs.Ytceplmmmlindnaa
