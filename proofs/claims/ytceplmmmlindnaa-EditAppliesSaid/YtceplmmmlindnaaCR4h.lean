/- EditApplies answers yes. -/
import Derived.Test.YtceplmmmlindnaaCR4g
namespace Go.Proofs.Ytceplmmmlindnaa
open Go.Ab
set_option linter.unusedVariables false
set_option linter.unusedSimpArgs false

section
variable {h : Heap} {Q : AV → Heap → Prop}

theorem St2.ext {h h' : Heap} {D : Nat → Prop} {p : Nat} {has : Bool} {done : List ED} {mark : ED} (S : St2 h D p has done mark) (K : Ext h h') : St2 h' D p has done mark :=
  S.keeps (X := fun _ => False) (keeps_of_ext K) (fun _ _ h => h) K.len

theorem s5 {q : Option SL} {l : List ED} {n : Int} (hL : InL h q l) : AC Try.prog 5 [.sl q, .int .i64 n] h fun v _ => v = .bool true := ac5 (by
  have hlen : slLen q = l.length := hL.len
  unfold vc5 PNew
  refine t22 ⟨_, rfl, s13 ⟨true, rfl, ?_⟩⟩
  refine vif_mk (fun g => by simp at g) fun _ => vif_mk (fun g => by simp at g) fun _ => ?_
  generalize hh9 : h ++ [zeroB] ++ [zeroB] = h9
  have hl3 : (h ++ [zeroB]).length = h.length + 1 := by simp
  have hl9 : h9.length = h.length + 2 := by rw [← hh9]; simp
  have hx9 : Ext h h9 := by rw [← hh9]; exact (Ext.app _ _).trans (Ext.app _ _)
  have hs9 : h9[h.length]? = some zeroB := by rw [← hh9]; simp
  have ht9 : h9[h.length + 1]? = some zeroB := by
    rw [← hh9, List.getElem?_append_right (by simp)]; simp
  rw [hl3]
  have fr : ∀ h' : Heap, h'[h.length + 1]? = some zeroB → RefS h' (fun b => b = h.length) (h.length + 1) false [] zeroD := fun h' hb =>
    ⟨none, zeroV, [], hb, by omega, (fun s hs => (by cases hs)), rfl, rfl, by simp, ⟨rfl, rfl, rfl, rfl⟩, (fun s hs => (by cases hs)), by simp, by simp⟩
  have fs : St2 h9 (fun b => b = h.length) h.length false [] zeroD :=
    ⟨none, zeroV, [], hs9, rfl, (fun s hs => (by cases hs)), .start _, rfl, by simp, ⟨rfl, rfl, rfl, rfl⟩, (fun s hs => (by cases hs)), by simp, by simp, fun b hb => by omega⟩
  refine ⟨fun xs h14 => ∃ i : Nat, xs = [.int .i64 i] ∧ i ≤ 60 ∧ Ext h h14 ∧ ∃ D has done mark, St2 h14 D h.length has done mark ∧ RefS h14 D (h.length + 1) has done mark ∧ (∀ b, D b → h.length ≤ b) ∧ Vld has done mark ∧ done.length ≤ i,
    fun xs _ => match xs with | [.int _ i] => (l.length - i).toNat | _ => 0,
    ⟨0, rfl, by omega, hx9, _, false, [], zeroD, fs, fr _ ht9, fun b hb => by omega, ⟨by simp, by simp, fun _ => rfl⟩, by simp⟩, ?_⟩
  rintro i h14 ⟨i', hx, hi, x14, D, has, done, mark, S, R, hD, V, hd⟩
  simp only [List.cons.injEq, AV.int.injEq, true_and, and_true] at hx
  subst hx
  refine vif_mk (fun g1 => ?_) (fun _ => rfl)
  refine vif_mk (fun g2 => ?_) (fun _ => rfl)
  simp only [decide_eq_true_eq] at g1 g2
  obtain ⟨L, g0, hLl, he0⟩ := hL
  have hil : i' < l.length := by omega
  have hdd : l[i']? = some l[i'] := List.getElem?_eq_getElem hil
  have hLi : L[i']? = some (L[i']'(by omega)) := List.getElem?_eq_getElem _
  have hR0 := he0 i' _ _ hLi hdd
  generalize L[i'] = x at *
  generalize l[i'] = d at *
  have atA : ∀ {K : PA → Prop}, (∀ pp, cellsAt h pp 4 = some (edE.f x) → K pp) → vIdx q (i' : Int) 4 K := by
    intro K hK
    refine HasL.idx (E := edE) g0 (by omega) (by omega) fun pp y hy hc => hK pp ?_
    have hy' : L[i']? = some y := by simpa using hy
    rw [hLi] at hy'; cases hy'; exact hc
  have hR : ∀ h', Ext h h' → EdR h' x d := fun h' hx' => ⟨hR0.1, hR0.2.1, hR0.2.2.1, hR0.2.2.2.mono hx'⟩
  have hlow : ∀ s, x.2.2.2 = some s → s.b < h.length := HasL.live hR0.2.2.2
  refine atA fun pp hc => ⟨x.1, x.2.1, x.2.2.1, x.2.2.2, x14.cells hc, ?_⟩
  refine s12 (l := d.2.2.2) (hR _ x14).2.2.2 fun b _ => ⟨b, rfl, ?_⟩
  have next : ∀ (h29 : Heap), Ext h h29 → (∃ D has done mark, St2 h29 D h.length has done mark ∧ RefS h29 D (h.length + 1) has done mark ∧ (∀ b, D b → h.length ≤ b) ∧ Vld has done mark ∧ done.length ≤ i' + 1) → _ := fun h29 x29 hst2 =>
    (⟨trivial, ⟨i' + 1, by rw [wrapK_i64 ⟨by omega, by omega⟩]; simp, by omega, x29, hst2⟩, by rw [wrapK_i64 ⟨by omega, by omega⟩]; omega⟩ :
      (True) ∧ (∃ i : Nat, [AV.int .i64 (wrapK .i64 ((i' : Int) + 1))] = [.int .i64 i] ∧ i ≤ 60 ∧ Ext h h29 ∧ ∃ D has done mark, St2 h29 D h.length has done mark ∧ RefS h29 D (h.length + 1) has done mark ∧ (∀ b, D b → h.length ≤ b) ∧ Vld has done mark ∧ done.length ≤ i) ∧ ((l.length : Int) - wrapK .i64 ((i' : Int) + 1)).toNat < ((l.length : Int) - (i' : Int)).toNat)
  refine vif_mk (fun g3 => next h14 x14 ⟨D, has, done, mark, S, R, hD, V, by omega⟩) fun _ => ?_
  refine atA fun pp2 hc2 => ⟨x.1, x.2.1, x.2.2.1, x.2.2.2, x14.cells hc2, ?_⟩
  refine atA fun pp3 hc3 => ⟨x.1, x.2.1, x.2.2.1, x.2.2.2, x14.cells hc3, ?_⟩
  have hDl : ∀ b, D b → b < h14.length := by obtain ⟨_, _, _, _, _, _, _, _, _, _, _, _, _, h11⟩ := S; exact h11
  refine v23 (e := x) S (hR _ x14) (fun s hs hDs => by have := hlow s hs; have := hD _ hDs; omega) (by omega) (fun hno => ?_) (fun h34 D' hyes S34 hD' K34 l34 => ?_)
  · refine ⟨_, rfl, ⟨x.1, x.2.1, x.2.2.1, x.2.2.2, x14.cells hc3, rfl⟩, ?_⟩
    refine u24 (e := x) R hDl (hR _ x14) (fun s hs => ⟨fun hDs => by have := hlow s hs; have := hD _ hDs; omega, by have := hlow s hs; omega⟩) (by omega) (fun _ => ?_) (fun h' hyes _ _ _ => by rw [hno] at hyes; cases hyes)
    refine ⟨_, rfl, vif_mk (fun g => by simp at g) fun _ => ?_⟩
    exact u25 S.view R.view V (by omega) fun h40 hx40 => ⟨true, rfl, vif_mk (fun g => by simp at g) fun _ => next h40 (x14.trans hx40) ⟨D, has, done, mark, S.ext hx40, R.ext hx40, hD, V, by omega⟩⟩
  · have R34 : RefS h34 D' (h.length + 1) has done mark := R.keeps K34 hD'
    have x34 : Ext h h34 := fun b B hB => K34 b B (fun hb => by have := hD b hb; have := lt_of_get hB; omega) (x14 _ _ hB)
    have hD2 : ∀ b, D' b → h.length ≤ b := fun b hb => by
      rcases hD' b hb with h1 | h1
      · exact hD b h1
      · have := x14.len; omega
    have hDl' : ∀ b, D' b → b < h34.length := by obtain ⟨_, _, _, _, _, _, _, _, _, _, _, _, _, h11⟩ := S34; exact h11
    have hnp : ¬ D' (h.length + 1) := by obtain ⟨_, _, _, _, h2, _⟩ := R34; exact h2
    refine ⟨_, rfl, ⟨x.1, x.2.1, x.2.2.1, x.2.2.2, x34.cells hc3, rfl⟩, ?_⟩
    refine u24 (e := x) R34 hDl' (hR _ x34) (fun s hs => ⟨fun hDs => by have := hlow s hs; have := hD2 _ hDs; omega, by have := hlow s hs; omega⟩) (by omega) (fun hno => by rw [hno] at hyes; cases hyes) (fun h37 _ R37 K37 l37 => ?_)
    refine ⟨_, rfl, vif_mk (fun g => by simp at g) fun _ => ?_⟩
    have S37 := S34.keeps K37 (fun b hb he => hnp (he ▸ hb)) l37
    have x37 : Ext h h37 := fun b B hB => K37 b B (fun hb => by have := lt_of_get hB; omega) (x34 _ _ hB)
    have V' := V.step hyes
    have hd' : (nDone done d).length ≤ i' + 1 := by
      unfold nDone
      split
      · simp; omega
      · omega
    exact u25 S37.view R37.view V' (by omega) fun h40 hx40 => ⟨true, rfl, vif_mk (fun g => by simp at g) fun _ => next h40 (x37.trans hx40) ⟨D', _, _, _, S37.ext hx40, R37.ext hx40, hD2, V', by omega⟩⟩)
end
end Go.Proofs.Ytceplmmmlindnaa
