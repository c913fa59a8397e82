/- Records in order: Compare, Sort. -/
import Derived.Test.YtkbfifpbplfcfaaR1h
namespace Go.Proofs
open Go.Ab
set_option linter.unusedVariables false
set_option linter.unusedSimpArgs false

section
variable {h : Heap} {Q : AV → Heap → Prop}

def leR (r s : Int × Int) : Bool := decide (r.1 < s.1 ∨ (r.1 = s.1 ∧ r.2 ≤ s.2))
theorem leR_iff {r s : Int × Int} : leR r s = true ↔ r.1 < s.1 ∨ (r.1 = s.1 ∧ r.2 ≤ s.2) := by simp [leR]
theorem leR_trans (a b c : Int × Int) (h1 : leR a b = true) (h2 : leR b c = true) : leR a c = true := by
  rw [leR_iff] at *; omega
theorem leR_total (a b : Int × Int) : (leR a b || leR b a) = true := by
  rw [Bool.or_eq_true, leR_iff, leR_iff]; omega
theorem leR_antisymm {a b : Int × Int} (h1 : leR a b = true) (h2 : leR b a = true) : a = b := by
  rw [leR_iff] at *; exact Prod.ext (by omega) (by omega)

/-- A number that is not above zero just where the one comes ahead of the other, or is it. -/
theorem s38 {a b c d : Int} (hQ : ∀ n : Int, (n ≤ 0 ↔ leR (a, b) (c, d) = true) → (n = 0 ↔ (a, b) = (c, d)) → (-1 ≤ n ∧ n ≤ 1) → Q (.int .i64 n) h) :
    AC Try.prog 38 [.agg [.int .i64 a, .int .i64 b], .agg [.int .i64 c, .int .i64 d]] h Q := ac38 (by
  unfold vc38
  simp only [vif_dec, vif_eq, vif_and, vif_true, Prod.mk.injEq, leR_iff] at hQ ⊢
  refine ⟨fun g => hQ _ (by omega) (by omega) (by omega), fun g => ⟨fun g1 => ⟨fun g2 => hQ _ (by omega) (by omega) (by omega), fun g2 => ⟨fun _ => ⟨fun g3 => hQ _ (by omega) (by omega) (by omega), fun g3 => hQ _ (by omega) (by omega) (by omega)⟩, fun g3 => hQ _ (by omega) (by omega) (by omega)⟩⟩,
    fun g1 => ⟨fun g3 => absurd g3 g1, fun g3 => hQ _ (by omega) (by omega) (by omega)⟩⟩⟩)

/-- The first of one list, to the end of another. -/
theorem take_head {h0 h' : Heap} {qa qo : Option SL} {x : Int × Int} {xs out : List (Int × Int)} {K : Option SL → Heap → Option SL → Prop} (Ha : HasL recE h0 qa (x :: xs)) (Ao : Acc recE h0 h' qo out) (hb : (out.length + 1) * 16 ≤ 140737488355328)
    (hK : ∀ qo' h3 qa', Acc recE h0 h3 qo' (out ++ [x]) → HasL recE h0 qa' xs → K qo' h3 qa') :
    vIdx qa 0 2 fun p => ∃ n : Int, ∃ m : Int, cellsAt h' p 2 = some [.int .i64 n, .int .i64 m] ∧
      PNew [.int .i64 n, .int .i64 m] true h' fun a h2 => PAppendS 2 16 qo (some ⟨a, 0, 1, 1, 0⟩) h2 fun q h3 => PSlice 2 qa 1 none none fun q' => K q h3 q' := by
  refine (Ha.mono Ao.ext).idx (E := recE) (by omega) (by simp) fun p r hr hc => ?_
  simp at hr
  subst hr
  refine ⟨_, _, hc, ?_⟩
  refine (Ao.mono (.app _ _)).append (E := recE) (m := [x]) (HasL.new (l := [x]) rfl rfl) (by simpa using hb) fun qo' h3 A3 => ?_
  refine Ha.slice (E := recE) (hi := none) (by omega) (by simp; omega) (by simp) fun q' Hq => hK _ _ _ A3 ?_
  simpa using Hq

theorem HasL_new' {α : Type} {E : Enc α} {h : Heap} {l : List α} {n opn : Nat} (hn : n = l.length) {c : List AV} (hc : c = E.all l) (ho : opn = 0 ∨ opn = E.sz) : HasL E (h ++ [.cells c true]) (some ⟨h.length, 0, n, n, opn⟩) l := by
  subst hn hc
  refine ⟨rfl, Nat.le_refl _, ho, ?_⟩
  rw [cellsAt_mk (C := E.all l) (rw' := true) (by simp) (by simp [Enc.all_length])]
  simp [← Enc.all_length]

/-- append([]T{}, l...) -/
theorem append_copy {α : Type} {E : Enc α} {h : Heap} {q : Option SL} {l : List α} {by' : Nat} {K : Option SL → Heap → Prop} (H : HasL E h q l) (hb : l.length * by' ≤ 140737488355328) (hK : ∀ q' h', Ext h h' → HasL E h' q' l → K q' h') :
    PNew [] true h fun a h3 => PAppendS E.sz by' (some ⟨a, 0, 0, 0, 0⟩) q h3 K := by
  unfold PNew
  have H' := H.mono (.app h [.cells [] true])
  have hex := Ext.app h [.cells [] true]
  have hat : (h ++ [Blk.cells [] true])[h.length]? = some (.cells [] true) := by simp
  generalize h ++ [Blk.cells [] true] = h1 at H' hex hat ⊢
  refine ⟨E.all l, H'.cells, by rw [Enc.all_length, H'.len], ?_⟩
  rw [H'.len]
  simp only
  split
  · rename_i hz
    have hl0 : l.length = 0 := by omega
    have : l = [] := List.eq_nil_of_length_eq_zero hl0
    subst this
    rw [hat]
    simp only
    refine ⟨by simp [Enc.all], hK _ _ ?_ ?_⟩
    · exact hex.set (Nat.le_refl _)
    · refine ⟨rfl, Nat.le_refl _, .inl rfl, ?_⟩
      have hlt := lt_of_get hat
      rw [cellsAt_mk (C := splice [] (0 + 0 * E.sz) (E.all ([] : List α))) (rw' := true) (by show (h1.set h.length _)[h.length]? = _; rw [List.getElem?_set_self hlt]) (by simp)]
      simp [Enc.all]
  · refine ⟨by simpa using hb, E.pos, ?_⟩
    have hold : cellsAt h1 ⟨h.length, 0⟩ (0 * E.sz) = some [] := by
      rw [cellsAt_mk (C := []) (rw' := true) hat (by simp)]; simp
    rw [hold, hat]
    simp only [if_true, List.nil_append, Nat.zero_add]
    exact hK _ _ (hex.trans (.app _ _)) (HasL_new' rfl rfl (.inr rfl))

def merge2 (q : List AV) (_ : Heap) : Nat := match q with | .sl a :: .sl b :: _ => slLen a + slLen b | _ => 0

theorem merge_nil_right {le : Int × Int → Int × Int → Bool} {l : List (Int × Int)} : l.merge [] le = l := by cases l <;> simp [List.merge]

theorem s23 : ∀ (n : Nat) {h : Heap} {Q : AV → Heap → Prop} {q : Option SL} {l : List (Int × Int)}, l.length ≤ n → HasL recE h q l → l.length ≤ 1099511627776 →
    (∀ h' q' l', Ext h h' → HasL recE h' q' l' → l'.Perm l → l'.Pairwise (fun a b => leR a b = true) → Q (.sl q') h') → AC Try.prog 23 [.sl q] h Q := by
  intro n
  induction n with
  | zero =>
    intro h Q q l hn H hl hQ
    refine ac23 ?_
    unfold vc23
    have hnil : l = [] := List.eq_nil_of_length_eq_zero (by omega)
    subst hnil
    refine vif_t (by rw [H.len]; decide) ?_
    exact append_copy (E := recE) H (by simp) fun q' h' e H' => hQ _ _ _ e H' (.refl _) .nil
  | succ n ih =>
    intro h Q q l hn H hl hQ
    refine ac23 ?_
    unfold vc23
    simp only [H.len]
    refine vif_mk (fun g => ?_) fun g => ?_
    · have g : l.length < 2 := by simp at g; omega
      refine append_copy (E := recE) H (by omega) fun q' h' e H' => hQ _ _ _ e H' (.refl _) ?_
      match l, g with
      | [], _ => exact .nil
      | [x], _ => simp
    · have g : ¬ l.length < 2 := by simp at g; omega
      have hd : wrapK .i64 (Int.tdiv (l.length : Int) 2) = ((l.length / 2 : Nat) : Int) := by
        rw [tdiv_pos (by omega), wrapK_i64 (by omega)]; omega
      rw [hd]
      refine H.slice (E := recE) (hi := some ((l.length / 2 : Nat) : Int)) (by omega) (by simp; omega) (by simp; omega) fun qa Ha => ?_
      refine H.slice (E := recE) (hi := none) (by omega) (by simp; omega) (by simp) fun qb Hb => ?_
      simp only [Option.getD_some, Int.toNat_natCast, Int.toNat_zero, List.drop_zero, Option.getD_none, List.take_length] at Ha Hb
      refine ih (by simp; omega) Ha (by simp; omega) fun h1 q1 la e1 H1 P1 S1 => ⟨_, rfl, ?_⟩
      refine ih (by simp; omega) (Hb.mono e1) (by simp; omega) fun h2 q2 lb e2 H2 P2 S2 => ⟨_, rfl, ?_⟩
      have H1 := H1.mono e2
      have hperm : (la.merge lb leR).Perm l := by
        refine (List.merge_perm_append leR).trans ?_
        refine (P1.append P2).trans ?_
        rw [List.take_append_drop]
      have hsort : (la.merge lb leR).Pairwise (fun a b => leR a b = true) := List.pairwise_merge leR_trans leR_total _ _ S1 S2
      have hlen : (la.merge lb leR).length = l.length := hperm.length_eq
      refine ⟨fun xs h' => ∃ (qa qb qo : Option SL) (a b out : List (Int × Int)), xs = [.sl qa, .sl qb, .sl qo] ∧ HasL recE h2 qa a ∧ HasL recE h2 qb b ∧ Acc recE h2 h' qo out ∧ out ++ a.merge b leR = la.merge lb leR, merge2,
        ⟨_, _, _, _, _, [], rfl, H1, H2, Acc.start _, rfl⟩, ?_⟩
      rintro qa qb qo h3 ⟨_, _, _, a, b, out, e, Ha, Hb, Ao, hm⟩
      cases e
      simp only [Ha.len, Hb.len]
      have hbound : (out.length + 1) * 16 ≤ 140737488355328 ∨ (a = [] ∧ b = []) := by
        have := congrArg List.length hm
        simp only [List.length_append, List.length_merge, hlen] at this
        cases a <;> cases b <;> simp at this ⊢ <;> omega
      have stepA : ∀ x xs, a = x :: xs → out ++ [x] ++ xs.merge b leR = la.merge lb leR → ∀ qo' h4 qa', Acc recE h2 h4 qo' (out ++ [x]) → HasL recE h2 qa' xs →
          (∃ (qa_1 qb_1 qo : Option SL) (a b out : List (Int × Int)), [AV.sl qa', .sl qb, .sl qo'] = [.sl qa_1, .sl qb_1, .sl qo] ∧ HasL recE h2 qa_1 a ∧ HasL recE h2 qb_1 b ∧ Acc recE h2 h4 qo out ∧ out ++ a.merge b leR = la.merge lb leR) ∧
          merge2 [AV.sl qa', .sl qb, .sl qo'] h4 < merge2 [.sl qa, .sl qb, .sl qo] h3 := by
        intro x xs hax hm' qo' h4 qa' A4 Hqa
        refine ⟨⟨_, _, _, _, _, _, rfl, Hqa, Hb, A4, hm'⟩, ?_⟩
        simp only [merge2, Hqa.len, Ha.len, hax, List.length_cons]; omega
      have stepB : ∀ y ys, b = y :: ys → out ++ [y] ++ a.merge ys leR = la.merge lb leR → ∀ qo' h4 qb', Acc recE h2 h4 qo' (out ++ [y]) → HasL recE h2 qb' ys →
          (∃ (qa_1 qb_1 qo : Option SL) (a b out : List (Int × Int)), [AV.sl qa, .sl qb', .sl qo'] = [.sl qa_1, .sl qb_1, .sl qo] ∧ HasL recE h2 qa_1 a ∧ HasL recE h2 qb_1 b ∧ Acc recE h2 h4 qo out ∧ out ++ a.merge b leR = la.merge lb leR) ∧
          merge2 [AV.sl qa, .sl qb', .sl qo'] h4 < merge2 [.sl qa, .sl qb, .sl qo] h3 := by
        intro y ys hby hm' qo' h4 qb' A4 Hqb
        refine ⟨⟨_, _, _, _, _, _, rfl, Ha, Hqb, A4, hm'⟩, ?_⟩
        simp only [merge2, Hqb.len, Hb.len, hby, List.length_cons]; omega
      cases a with
      | nil =>
        cases b with
        | nil =>
          refine vif_f (by simp) (vif_f (by simp) ?_)
          have e0 : out = la.merge lb leR := by simpa [List.merge] using hm
          subst e0
          exact hQ _ _ _ ((e1.trans e2).trans Ao.ext) Ao.hasL hperm hsort
        | cons y ys =>
          refine vif_f (by simp) (vif_t (by simp) (vif_f (by simp; omega) (vif_f (by simp) ?_)))
          refine take_head Hb Ao (hbound.resolve_right (by simp)) fun qo' h4 qb' A4 Hq4 => ?_
          exact ⟨trivial, stepB y ys rfl (by rw [← hm]; simp [List.merge]) _ _ _ A4 Hq4⟩
      | cons x xs =>
        cases b with
        | nil =>
          refine vif_t (by simp) (vif_t (by simp) ?_)
          refine take_head Ha Ao (hbound.resolve_right (by simp)) fun qo' h4 qa' A4 Hq4 => ?_
          exact ⟨trivial, stepA x xs rfl (by rw [← hm]; simp [merge_nil_right]) _ _ _ A4 Hq4⟩
        | cons y ys =>
          refine vif_t (by simp) (vif_f (by simp; omega) (vif_t (by simp) ?_))
          refine (Ha.mono Ao.ext).idx (E := recE) (by omega) (by simp) fun p r hr hc => ⟨_, _, hc, ?_⟩
          refine (Hb.mono Ao.ext).idx (E := recE) (by omega) (by simp) fun p' r' hr' hc' => ⟨_, _, hc', ?_⟩
          simp at hr hr'
          subst hr hr'
          refine s38 fun k hk _ _ => ⟨_, rfl, ?_⟩
          refine vif_mk (fun g => ?_) fun g => ?_
          · have hle : leR x y = true := hk.1 (by simpa using g)
            refine take_head Ha Ao (hbound.resolve_right (by simp)) fun qo' h4 qa' A4 Hq4 => ?_
            exact ⟨trivial, stepA x xs rfl (by rw [← hm]; simp [List.merge, hle]) _ _ _ A4 Hq4⟩
          · have hle : leR x y = false := by
              cases hc : leR x y with
              | false => rfl
              | true => have := hk.2 hc; simp at g; omega
            refine take_head Hb Ao (hbound.resolve_right (by simp)) fun qo' h4 qb' A4 Hq4 => ?_
            exact ⟨trivial, stepB y ys rfl (by rw [← hm]; simp [List.merge, hle]) _ _ _ A4 Hq4⟩
end
end Go.Proofs
