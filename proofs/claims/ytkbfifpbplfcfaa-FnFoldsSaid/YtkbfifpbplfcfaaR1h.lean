/- FnSpreads answers yes for every function and every record, and leaves them as they were. -/
import Derived.Test.YtkbfifpbplfcfaaR1g
namespace Go.Proofs
open Go.Ab
set_option linter.unusedVariables false
set_option linter.unusedSimpArgs false

section
variable {h : Heap} {Q : AV → Heap → Prop}

theorem take_eq_of {α : Type} {l m : List α} {i : Nat} (h : l.take i = m.take i) {x : α} (h1 : l[i]? = some x) (h2 : m[i]? = some x) : l.take (i + 1) = m.take (i + 1) := by
  rw [List.take_add_one, List.take_add_one, h, h1, h2]

theorem s19 {q1 q2 : Option SL} {l m : List (Int × Int)} (H1 : HasL recE h q1 l) (H2 : HasL recE h q2 m) (hl : l.length ≤ 4611686018427387904) (hQ : Q (.bool (decide (l = m))) h) :
    AC Try.prog 19 [.sl q1, .sl q2] h Q := ac19 (by
  have hq : ∀ b : Bool, (b = true ↔ l = m) → Q (.bool b) h := by
    intro b hb
    have : b = decide (l = m) := by rw [Bool.eq_iff_iff]; simpa using hb
    rw [this]; exact hQ
  unfold vc19
  rw [H1.len, H2.len]
  simp only [vif_ne]
  refine ⟨fun g => hq _ ⟨fun e => by simp at e, fun e => absurd (by rw [e]) g⟩, fun g => ?_⟩
  have hlen : l.length = m.length := by omega
  refine ⟨fun xs h' => ∃ i : Nat, xs = [.int .i64 i] ∧ h' = h ∧ i ≤ l.length ∧ l.take i = m.take i, left l.length, ⟨0, rfl, rfl, by simp, by simp⟩, ?_⟩
  rintro n h' ⟨i, e, rfl, hi, ha⟩
  cases e
  simp only [vif_dec]
  refine ⟨fun g1 => ?_, fun g1 => ?_⟩
  · refine H1.idx (E := recE) (by omega) (by omega) fun p x hx hc => ⟨_, _, hc, ?_⟩
    refine H2.idx (E := recE) (by omega) (by omega) fun p' y hy hc' => ⟨_, _, hc', ?_⟩
    simp only [Int.toNat_natCast] at hx hy
    rw [vif_not]
    refine vif_mk (fun e => ?_) fun e => ?_
    · have exy : x = y := by
        simp only [Bool.and_true, Bool.and_eq_true, beq_iff_eq] at e
        exact Prod.ext e.1 e.2
      subst exy
      refine ⟨trivial, ⟨i + 1, ?_, trivial, by omega, take_eq_of ha hx hy⟩, ?_⟩
      · rw [wrapK_i64 (by omega)]; rfl
      · rw [wrapK_i64 (by omega)]; simp only [left]; omega
    · refine hq _ ⟨fun e => by simp at e, fun elm => ?_⟩
      subst elm
      rw [hx] at hy
      cases hy
      simp at e
  · refine hq _ ⟨fun _ => ?_, fun _ => rfl⟩
    have e1 : l.take i = l := List.take_of_length_le (by omega)
    have e2 : m.take i = m := List.take_of_length_le (by omega)
    rw [← e1, ← e2, ha])

def mayC (l : List (Int × Int)) : Int := if l.all okR then (if l.length > 4096 then 31 else 0) else 30

theorem s21 {q : Option SL} {l : List (Int × Int)} (H : HasL recE h q l) (hl : l.length ≤ 4611686018427387904) (hQ : Q (.int .i64 (mayC l)) h) : AC Try.prog 21 [.sl q] h Q := ac21 (by
  unfold vc21
  refine ⟨fun xs h' => ∃ i : Nat, xs = [.int .i64 i] ∧ h' = h ∧ i ≤ l.length ∧ (l.take i).all okR = true, left l.length, ⟨0, rfl, rfl, by simp, by simp⟩, ?_⟩
  rintro n h' ⟨i, e, rfl, hi, ha⟩
  cases e
  rw [H.len]
  simp only [vif_dec]
  refine ⟨fun g1 => ?_, fun g1 => ?_⟩
  · refine H.idx (E := recE) (by omega) (by omega) fun p x hx hc => ?_
    simp only [Int.toNat_natCast] at hx
    refine ⟨_, _, hc, s12 ⟨_, rfl, ?_⟩⟩
    rw [vif_not]
    refine vif_mk (fun hx' => ?_) fun hx' => ?_
    · refine ⟨trivial, ⟨i + 1, ?_, rfl, by omega, take_succ_all hx ha hx'⟩, ?_⟩
      · rw [wrapK_i64 (by omega)]; rfl
      · rw [wrapK_i64 (by omega)]; simp only [left]; omega
    · have hall : l.all okR = false := by
        rw [List.all_eq_false]
        have e1 : okR x = false := hx'
        exact ⟨x, List.mem_of_getElem? hx, by simp [e1]⟩
      simpa [mayC, hall] using hQ
  · have : l.take i = l := List.take_of_length_le (by omega)
    rw [this] at ha
    refine ⟨fun g => ?_, fun g => ?_⟩
    · have g' : l.length > 4096 := by omega
      simpa [mayC, ha, g'] using hQ
    · have g' : ¬ l.length > 4096 := by omega
      simpa [mayC, ha, g'] using hQ)

def spreadF (k : Int) (r : Int × Int) (i : Nat) : Int × Int := if k = 14 then (r.1, (r.2 + (i : Int)) % 1048576) else r
theorem spreadV_eq {k a : Int} {r : Int × Int} (h : k ≠ 15) : spreadV k a r = (List.range a.toNat).map (spreadF k r) := by
  unfold spreadV
  rw [if_neg h]
  split
  · rename_i g
    have : spreadF k r = fun (i : Nat) => (r.1, (r.2 + (i : Int)) % 1048576) := by funext i; simp [spreadF, g]
    rw [this]
  · rename_i g
    have : spreadF k r = fun (i : Nat) => r := by funext i; simp [spreadF, g]
    rw [this, List.map_const']
    simp

theorem s20 {k a x y : Int} (hf : fam k a = 3) (hr : okR (x, y) = true) (hQ : ∀ h' q, Ext h h' → HasL recE h' q (spreadV k a (x, y)) → Q (.sl q) h') :
    AC Try.prog 20 [.agg [.int .i64 k, .int .i64 a], .agg [.int .i64 x, .int .i64 y]] h Q := ac20 (by
  rw [okR_iff] at hr
  obtain ⟨⟨x0, x1⟩, y0, y1⟩ := hr
  simp only at x0 x1 y0 y1
  have ha := fam_range (show fam k a ≠ 0 by omega)
  have ha8 := fam_spread hf
  obtain ⟨n, rfl⟩ := Int.eq_ofNat_of_zero_le ha.1
  unfold vc20
  simp only [vif_eq]
  refine ⟨fun g => ?_, fun g15 => ?_⟩
  · refine hQ _ _ (.app _ _) ?_
    have : spreadV k n (x, y) = [(x, y), (y, x)] := by simp [spreadV, g]
    rw [this]
    exact HasL.new (l := [(x, y), (y, x)]) rfl rfl
  · rw [spreadV_eq g15] at hQ
    refine ⟨fun xs h' => ∃ (i : Nat) (q : Option SL), xs = [.sl q, .int .i64 i] ∧ i ≤ n ∧ Acc recE h h' q ((List.range i).map (spreadF k (x, y))), fun xs h' => left n (xs.drop 1) h', ⟨0, none, rfl, by omega, Acc.start h⟩, ?_⟩
    rintro q i' h' ⟨i, q', e, hi, A⟩
    cases e
    have use : ∀ (h2 : Heap) (v : Int), i < n → Ext h' h2 → spreadF k (x, y) i = (x, v) → PNew [.int .i64 x, .int .i64 v] true h2 fun a15 h16 => PAppendS 2 16 q (some ⟨a15, 0, 1, 1, 0⟩) h16 fun q17 h18 =>
        (True ∧ True ∧ True) ∧ (∃ (i_1 : Nat) (q_1 : Option SL), [AV.sl q17, .int .i64 (wrapK .i64 ((i : Int) + 1))] = [.sl q_1, .int .i64 i_1] ∧ i_1 ≤ n ∧ Acc recE h h18 q_1 ((List.range i_1).map (spreadF k (x, y)))) ∧
        left n ([AV.sl q17, .int .i64 (wrapK .i64 ((i : Int) + 1))].drop 1) h18 < left n ([AV.sl q, .int .i64 (i : Int)].drop 1) h' := by
      intro h2 v hin e2 hv
      have A2 := (A.mono e2).mono (.app _ [.cells [.int .i64 x, .int .i64 v] true])
      refine A2.append (E := recE) (m := [(x, v)]) (HasL.new (l := [(x, v)]) rfl rfl) (by simp; omega) fun q3 h3 A3 => ⟨⟨trivial, trivial, trivial⟩, ⟨i + 1, q3, ?_, by omega, ?_⟩, ?_⟩
      · rw [wrapK_i64 (by omega)]; rfl
      · rw [List.range_succ, List.map_append, List.map_singleton, hv]; exact A3
      · rw [wrapK_i64 (by omega)]; simp only [left, List.drop_succ_cons, List.drop_zero]; omega
    simp only [vif_dec]
    refine ⟨fun g1 => ⟨fun g14 => ?_, fun g14 => ?_⟩, fun g1 => ?_⟩
    · rw [wrapK_i64 (by omega)]
      refine s31 (by omega) ⟨_, rfl, ?_⟩
      exact use h' _ (by omega) (.refl _) (by simp [spreadF, g14])
    · exact use h' _ (by omega) (.refl _) (by simp [spreadF, g14])
    · have : i = n := by omega
      subst this
      exact hQ _ _ A.ext A.hasL)

theorem spreadV_len {k a : Int} {r : Int × Int} (hf : fam k a = 3) : (spreadV k a r).length ≤ 8 := by
  have ha := fam_range (show fam k a ≠ 0 by omega)
  have := fam_spread hf
  by_cases h : k = 15
  · simp [spreadV, h]
  · rw [spreadV_eq h]; simp; omega
theorem spreadV_ok {k a : Int} {r : Int × Int} (hr : okR r = true) : (spreadV k a r).all okR = true := by
  have hr' := okR_iff.1 hr
  by_cases h : k = 15
  · simp only [spreadV, h, if_true, List.all_cons, hr, Bool.true_and, List.all_nil, Bool.and_true]
    rw [okR_iff]; simp only; omega
  · rw [spreadV_eq h, List.all_eq_true]
    intro x hx
    simp only [List.mem_map] at hx
    obtain ⟨i, _, rfl⟩ := hx
    unfold spreadF
    split
    · rw [okR_iff]; simp only; omega
    · exact hr

theorem s5 {k a x y : Int} : AC Try.prog 5 [.agg [.int .i64 k, .int .i64 a], .agg [.int .i64 x, .int .i64 y]] h Yes := ac5 (by
  unfold vc5
  refine s18 (fun g h1 e1 => ?_) fun g h1 q e1 Hq => ?_
  · refine ⟨_, _, rfl, s9 fun h2 _ => ⟨_, rfl, vif_f rfl (s10 ⟨_, rfl, ?_⟩)⟩⟩
    exact vif_f (by simp) (vif_t (by simpa using g) rfl)
  · obtain ⟨hf, hr⟩ := wantE_zero g
    refine ⟨_, _, rfl, s9 fun h2 e2 => ⟨_, rfl, vif_f rfl (s10 ⟨_, rfl, ?_⟩)⟩⟩
    refine vif_f (by rw [g]; rfl) (vif_f rfl (s20 hf hr fun h3 q3 e3 H3 => ⟨_, rfl, ?_⟩))
    have Hq3 := (Hq.mono e2).mono e3
    have hlen := spreadV_len (r := (x, y)) hf
    refine s19 Hq3 H3 (by omega) ⟨_, rfl, vif_t (by simp) ?_⟩
    rw [Hq3.len]
    refine vif_t (by simp; omega) (s21 Hq3 (by omega) ⟨_, rfl, ?_⟩)
    have : mayC (spreadV k a (x, y)) = 0 := by
      unfold mayC
      rw [if_pos (spreadV_ok hr), if_neg (by omega)]
    rw [this]
    rfl)
end
end Go.Proofs
namespace Go.Proofs.Ytkbfifpbplfcfaa
open Go.Ab
open Go.ChangeShapes Go.WideShapes Go.ChangeAt Go.RowKit
set_option linter.unusedVariables false

set_option maxRecDepth 100000 in
theorem spreads_lifted (os : Os) (started : os.Started) (H : Type) (enc : TypeId × Value → H) :
    ReturnsInHanded {} Try.checked os 5 .any (Rows.fnSpreadsSpec.pre6 enc Try.prog Try.f5 Rows.fnSpreadsRow.domain false) (Rows.fnSpreadsSpec.post enc Try.prog Try.f5 false true false false) := by
  refine returnsInHanded_of_change (C := Try.checked) own started (by kernel_rfl) Try.func5
    (ChangeSpec.witness6 (enc := enc) (C := Try.checked) false ⟨#[], #[.agg #[.int .i64 0, .int .i64 0], .agg #[.int .i64 0, .int .i64 0]], []⟩ 8 (by kernel_rfl) (by kernel_rfl) (by kernel_rfl) (by kernel_rfl)) ?_
  intro W base args ds gs before hval0 hW _ _
  have hval : ∀ (j : Nat) t v, Try.f5.params[j]? = some t → args[j]? = some v → Value.okWide Try.prog W .any base t v := hval0
  have hW' := hW
  obtain ⟨p, q, hA0, hV, rfl, hfz, hnd⟩ := hW
  have hA : DataW.TrodAll enc Try.prog W 0 (fun _ => true) true Try.f5.params.toList args.toList ds p := hA0
  rw [Try.params5] at hA hval
  obtain ⟨v0, v1, d0, d1, p0, p1, rfl, rfl, rfl, h0, h1⟩ := trodAll_two hA
  obtain ⟨rfl, rfl⟩ := trodVars_none hV
  obtain ⟨a, b, rfl, wa, wb, rfl, rfl⟩ := open_two Try.underlying23 (by kernel_rfl) cells23 Try.underlying3 Try.underlying3 (hval 0 23 v0 rfl rfl) h0
  obtain ⟨c, d, rfl, wc, wd, rfl, rfl⟩ := open_two Try.underlying25 (by kernel_rfl) cells25 Try.underlying3 Try.underlying3 (hval 1 25 v1 rfl rfl) h1
  clear hA0 hval0
  refine (two_calls s5).mono fun e W' ⟨he, hb⟩ => ?_
  exact ⟨_, he, post_yes hW' rfl rfl (by kernel_rfl) Try.underlying4 (by kernel_rfl) hb⟩

theorem spreads_holds : Rows.FnSpreadsSaid :=
  OpenClaim.holds_of_wide 5 Try.f5 rfl rfl rfl rfl rfl rfl rfl ⟨rfl, rfl, rfl, rfl, rfl⟩ rfl rfl rfl rfl rfl (by kernel_rfl) Try.func5 (by kernel_rfl)
    (of_decide_eq_true (by kernel_rfl)) (by unfold Func.isWrapper; first | (rw [if_pos (by decide +kernel)]; kernel_rfl) | (rw [if_neg (by decide +kernel)]; exact ⟨rfl, rfl⟩))
    (fun os started H enc _ => spreads_lifted os started H enc)
end Go.Proofs.Ytkbfifpbplfcfaa
