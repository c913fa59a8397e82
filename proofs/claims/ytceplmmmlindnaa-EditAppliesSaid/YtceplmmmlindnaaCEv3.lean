/- Running the abstract machine by the kernel: what it answers holds. The operations. -/
import Derived.Test.YtceplmmmlindnaaCEv2
namespace Go.Ab
set_option linter.unusedSimpArgs false
set_option linter.unusedVariables false

def HFor (e : EH) (h : Heap) : Prop := e.t.For h ∧ e.n = h.length

theorem eev_eq {t : T LV} {ρ : List LV} (R : t.For ρ) (x : Operand) : eev t x = ev ρ x := by
  cases x with
  | tmp i => simp only [eev, ev, R i, List.getD]; cases ρ[i]? <;> rfl
  | const v => rfl
  | global _ => rfl
  | func _ => rfl
theorem evals_eq {t : T LV} {ρ : List LV} (R : t.For ρ) : ∀ l, evals t l = vals ρ l
  | [] => rfl
  | o :: os => by
    simp only [evals, vals, eev_eq R, evals_eq R os]
    cases ev ρ o with
    | val x => cases vals ρ os <;> rfl
    | loc _ _ => rfl
    | top => rfl
theorem eevI_eq {t : T LV} {ρ : List LV} (R : t.For ρ) (x : Operand) : eevI t x = evI ρ x := by
  unfold eevI evI
  rw [eev_eq R]
  cases ev ρ x with
  | val v => cases v <;> rfl
  | loc _ _ => rfl
  | top => rfl
theorem eoptI_eq {t : T LV} {ρ : List LV} (R : t.For ρ) (x : Option Operand) : eoptI t x = optI ρ x := by cases x <;> simp only [eoptI, optI, eevI_eq R]
theorem fVals_ok {t : T LV} {ρ : List LV} (R : t.For ρ) : ∀ {l : List Operand} {k : List AV → Bool}, fVals t l k = true → ∃ vs, vals ρ l = some vs ∧ k vs = true
  | [], k, h => ⟨[], rfl, h⟩
  | o :: os, k, h => by
    simp only [fVals, eev_eq R] at h
    cases ho : ev ρ o with
    | val x =>
      rw [ho] at h
      obtain ⟨vs, h1, h2⟩ := fVals_ok R (l := os) h
      exact ⟨x :: vs, by simp only [vals, ho, h1], h2⟩
    | loc _ _ => rw [ho] at h; simp at h
    | top => rw [ho] at h; simp at h

theorem eNew_ok {e : EH} {h : Heap} (H : HFor e h) {c : List AV} {rw : Bool} {k : Nat → EH → Bool} (hk : eNew c rw e k = true) : ∃ e', HFor e' (h ++ [.cells c rw]) ∧ k h.length e' = true := by
  unfold eNew at hk
  rw [H.2] at hk
  obtain ⟨t', h1, h2⟩ := H.1.add hk
  rw [fN_eq] at h1
  exact ⟨_, ⟨h2, by simp⟩, h1⟩

theorem eCells_ok {e : EH} {h : Heap} (H : HFor e h) {b o n : Nat} {k : List AV → Bool} (hk : eCells e b o n k = true) : ∃ l, cellsAt h ⟨b, o⟩ n = some l ∧ k l = true := by
  unfold eCells at hk
  rw [H.1 b] at hk
  cases hb : h[b]? with
  | none => rw [hb] at hk; simp at hk
  | some B =>
    rw [hb] at hk
    cases B with
    | cells c rw =>
      obtain ⟨h1, h2⟩ := tk_ok hk
      exact ⟨_, by simp only [cellsAt, hb, h1, if_true], h2⟩
    | mp es cl => simp at hk
    | it _ _ _ _ => simp at hk
    | bx _ => simp at hk
    | dead => simp at hk

theorem eslCells_ok {e : EH} {h : Heap} (H : HFor e h) {s : Option SL} {n : Nat} {k : List AV → Bool} (hk : eslCells e s n k = true) : ∃ l, slCells h s n = some l ∧ k l = true := by
  cases s with
  | some s => exact eCells_ok H hk
  | none => cases n with
    | zero => exact ⟨[], rfl, hk⟩
    | succ n => simp [eslCells] at hk

theorem eStore_ok {e : EH} {h : Heap} (H : HFor e h) {b o : Nat} {xs : List AV} {k : EH → Bool} (hk : eStore e b o xs k = true) :
    ∃ c e', h[b]? = some (.cells c true) ∧ o + xs.length ≤ c.length ∧ HFor e' (h.set b (.cells (splice c o xs) true)) ∧ k e' = true := by
  unfold eStore at hk
  rw [H.1 b] at hk
  split at hk
  · rename_i c hb
    obtain ⟨h1, h2⟩ := spl_ok hk
    obtain ⟨t', h3, h4⟩ := H.1.put h2
    exact ⟨c, _, hb, h1, ⟨h4, by simp [H.2]⟩, h3⟩
  · simp at hk

theorem sameShape_one {z v : AV} (h : sameShape z v = true) (hz : ∀ c, z ≠ .tup c) : v.one = true := by
  cases z <;> cases v <;> simp_all [sameShape, AV.one]

theorem exL_mk : ∀ {zs l : List AV} {K : List AV → Prop}, sameShapes zs l = true → K l → exL zs K
  | [], [], K, _, hk => hk
  | [], _ :: _, K, h, _ => by simp [sameShapes] at h
  | _ :: _, [], K, h, _ => by simp [sameShapes] at h
  | z :: zs, v :: l, K, h, hk => by
    simp only [sameShapes, Bool.and_eq_true] at h
    obtain ⟨h1, h2⟩ := h
    cases z <;> cases v <;> simp only [sameShape, AV.one, decide_eq_true_eq, Bool.false_eq_true] at h1 <;> simp only [exL]
    case int.int => subst h1; exact ⟨_, exL_mk h2 hk⟩
    case bool.bool => exact ⟨_, exL_mk h2 hk⟩
    case str.str => exact ⟨_, exL_mk h2 hk⟩
    case ptr.ptr => exact ⟨_, exL_mk h2 hk⟩
    case sl.sl => exact ⟨_, exL_mk h2 hk⟩
    case map.map => exact ⟨_, exL_mk h2 hk⟩
    all_goals exact ⟨_, rfl, exL_mk h2 hk⟩

theorem exL_one {z v : AV} {K : AV → Prop} (h : sameShape z v = true) (hk : K v) : exL [z] (fun l => match l with | [x] => K x | _ => False) :=
  exL_mk (l := [v]) (by simp [sameShapes, h]) hk

theorem exT_mk : ∀ {vs l : List AV} {K : List AV → Prop}, shT vs l = true → K l → exT vs K
  | [], [], K, _, hk => hk
  | [], _ :: _, K, h, _ => by simp [shT] at h
  | z :: vs, [], K, h, _ => by cases z <;> simp [shT] at h
  | z :: vs, x :: r, K, h, hk => by
    cases z
    case agg zs =>
      cases x <;> simp only [shT, Bool.and_eq_true, Bool.false_eq_true] at h
      simp only [exT]
      exact exL_mk h.1 (exT_mk h.2 hk)
    all_goals
      simp only [shT, Bool.and_eq_true] at h
      simp only [exT]
      exact exL_mk h.1 (exT_mk h.2 hk)

theorem exV_mk {z v : AV} {K : AV → Prop} (h : shV z v = true) (hk : K v) : exV z K := by
  cases z
  case agg zs =>
    cases v <;> simp only [shV, Bool.false_eq_true] at h
    exact exL_mk h hk
  case tup vs =>
    cases v <;> simp only [shV, Bool.false_eq_true] at h
    exact exT_mk h hk
  all_goals
    simp only [shV] at h
    simp only [exV]
    exact exL_mk h hk

theorem ePart_ok {z : AV} {c : List AV} {o : Nat} {k : AV → Bool} {K : AV → Prop} (h : ePart z c o k = true) (hk : ∀ v, k v = true → K v) : part z c o K := by
  cases z
  case agg zs =>
    obtain ⟨h1, h2⟩ := tk_ok h
    simp only [part, isAgg, AV.cells]
    exact need_mk (decide_eq_true h1) (hk _ h2)
  case tup zs => simp [ePart] at h
  all_goals
    obtain ⟨v, h1, h2⟩ := at1_ok h
    simp only [part, isAgg, h1]
    exact hk _ h2

theorem eLoad_ok {e : EH} {h : Heap} (H : HFor e h) {z : AV} {b o : Nat} {k : AV → Bool} {K : AV → Prop} (hk : eLoad z e b o k = true) (hK : ∀ v, k v = true → K v) : PLoad z h ⟨b, o⟩ K := by
  unfold eLoad at hk
  rw [H.1 b] at hk
  split at hk
  · rename_i c rw hb
    have one : ∀ z : AV, (∀ c, z ≠ .agg c) → (∀ c, z ≠ .tup c) → at1 c o (fun v => sameShape z v && k v) = true → PLoad z h ⟨b, o⟩ K := by
      intro z hz1 hz2 hk
      obtain ⟨v, h1, h2⟩ := at1_ok hk
      simp only [Bool.and_eq_true] at h2
      have hv := cells_of_one (sameShape_one h2.1 hz2)
      have hz : z.cells.length = 1 := by cases z <;> first | rfl | exact absurd rfl (hz1 _)
      have hlt := lt_of_get h1
      refine exV_mk (v := v) ?_ ⟨?_, hK _ h2.2⟩
      · cases z <;> first | exact absurd rfl (hz1 _) | exact absurd rfl (hz2 _) | simp [shV, sameShapes, h2.1]
      · simp only [cellsAt, hb, hz, hv]
        rw [if_pos (by omega)]
        congr 1
        rw [List.take_one, List.head?_drop, h1]; rfl
    cases z
    case agg zs =>
      obtain ⟨h1, h2⟩ := tk_ok hk
      simp only [Bool.and_eq_true] at h2
      refine exV_mk (v := .agg _) h2.1 ⟨?_, hK _ h2.2⟩
      simp only [cellsAt, hb, AV.cells, h1, if_true]
    case tup zs => simp at hk
    all_goals exact one _ (fun c h => by cases h) (fun c h => by cases h) hk
  · simp at hk

theorem ebool_ok {b : Bool} {k : AV → Bool} (h : ebool b k = true) : k (.bool b) = true := by cases b <;> exact h

theorem eInt_ok {op : BinOp} {q : IntKind} {a b : Int} {k : AV → Bool} {K : AV → Prop} (hK : ∀ v, k v = true → K v) (h : eInt op q a b k = true) : aInt op q a b K := by
  cases op <;> simp only [eInt, eint, fI_eq, Bool.and_eq_true, Bool.false_eq_true] at h <;> simp only [aInt]
  case quo => exact need_mk h.1 (hK _ h.2)
  case rem => exact need_mk h.1 (hK _ h.2)
  all_goals first | exact hK _ h | exact hK _ (ebool_ok h)

theorem eStr_ok {op : BinOp} {a b : List UInt8} {k : AV → Bool} {K : AV → Prop} (hK : ∀ v, k v = true → K v) (h : eStr op a b k = true) : aStr op a b K := by
  cases op <;> simp only [eStr, ap_eq, Bool.and_eq_true, Bool.false_eq_true] at h <;> simp only [aStr]
  case add => exact need_mk h.1 (hK _ h.2)
  all_goals first | exact hK _ h | exact hK _ (ebool_ok h)

theorem eeqFs_ok {P : Program} {n : Nat} (ih : ∀ (t : TypeId) (xs ys : List AV) (k : Bool → List AV → List AV → Bool) (K : Bool → List AV → List AV → Prop), (∀ b x y, k b x y = true → K b x y) → eeqT P n t xs ys k = true → eqT P n t xs ys K) :
    ∀ (fs : List Field) (off : Nat) (xs ys : List AV) (k : Bool → List AV → List AV → Bool) (K : Bool → List AV → List AV → Prop), (∀ b x y, k b x y = true → K b x y) → eeqFs P (eeqT P n) fs off xs ys k = true → eqFs P (eqT P n) fs off xs ys K
  | [], off, xs, ys, k, K, hK, h => hK _ _ _ h
  | f :: fs, off, xs, ys, k, K, hK, h => by
    simp only [eeqFs] at h
    rw [Bool.and_eq_true] at h
    simp only [eqFs]
    exact need_mk h.1 (ih _ _ _ _ _ (fun b x y hb => eeqFs_ok ih fs _ _ _ _ _ (fun b' x' y' => hK _ _ _) hb) h.2)

theorem eeqT_ok {P : Program} : ∀ (n : Nat) (t : TypeId) (xs ys : List AV) (k : Bool → List AV → List AV → Bool) (K : Bool → List AV → List AV → Prop), (∀ b x y, k b x y = true → K b x y) → eeqT P n t xs ys k = true → eqT P n t xs ys K
  | 0, t, xs, ys, k, K, hK, h => by simp [eeqT] at h
  | n + 1, t, xs, ys, k, K, hK, h => by
    unfold eeqT at h
    unfold eqT
    split at h
    · rename_i hu
      rw [Bool.and_eq_true] at h
      simp only [hu]
      exact need_mk h.1 (hK _ _ _ h.2)
    · rename_i hu
      rw [Bool.and_eq_true] at h
      simp only [hu]
      exact need_mk h.1 (hK _ _ _ h.2)
    · rename_i hu
      rw [Bool.and_eq_true] at h
      simp only [hu]
      exact need_mk h.1 (hK _ _ _ h.2)
    · rename_i fs hu
      rw [Bool.and_eq_true] at h
      simp only [hu]
      refine need_mk h.1 (eeqFs_ok (eeqT_ok n) _ _ _ _ _ _ (fun b x y hb => ?_) h.2)
      rw [Bool.and_eq_true] at hb
      exact need_mk hb.1 (hK _ _ _ hb.2)
    · simp at h

theorem eptrEq_ok {e : EH} {h : Heap} (H : HFor e h) {p q : PA} {k : Bool → Bool} {K : Bool → Prop} (hK : ∀ v, k v = true → K v) (hk : eptrEq e p q k = true) : ptrEq h p q K := by
  unfold eptrEq at hk
  unfold ptrEq
  cases hb : Nat.beq p.b q.b with
  | true => rw [hb] at hk; rw [if_pos (Nat.eq_of_beq_eq_true hb)]; exact hK _ hk
  | false =>
    rw [hb] at hk
    rw [if_neg (Nat.ne_of_beq_eq_false hb)]
    simp only [H.1 p.b, H.1 q.b] at hk
    split at hk
    · rename_i h1 h2; simp only [h1, h2]; exact hK _ hk
    · simp at hk

theorem eEq_ok {P : Program} {e : EH} {h : Heap} (H : HFor e h) {t : TypeId} {x y : AV} {k : Bool → Bool} {K : Bool → Prop} (hK : ∀ v, k v = true → K v) (hk : eEq P t e x y k = true) : aEq P t h x y K := by
  unfold eEq at hk
  unfold aEq
  split at hk
  · rename_i hu; simp only [hu]; exact hK _ hk
  · rename_i hu; rw [Bool.and_eq_true] at hk; simp only [hu]; exact need_mk hk.1 (eeqT_ok _ _ _ _ _ _ (fun b _ _ hb => hK _ hb) hk.2)
  · rename_i hu; simp only [hu]; exact hK _ hk
  · rename_i hu; simp only [hu]; exact hK _ hk
  · rename_i hu; rw [Bool.and_eq_true] at hk; simp only [hu]; exact need_mk hk.1 (eptrEq_ok H hK hk.2)
  · rename_i hu; simp only [hu]; exact hK _ hk
  · rename_i hu; simp only [hu]; exact hK _ hk
  · rename_i hu; simp only [hu]; exact hK _ hk
  · rename_i hu; simp only [hu]; exact hK _ hk
  · simp at hk

theorem eBin_ok {P : Program} {e : EH} {h : Heap} (H : HFor e h) {op : BinOp} {t : TypeId} {x y : AV} {k : AV → Bool} {K : AV → Prop} (hK : ∀ v, k v = true → K v) (hk : eBin P op t e x y k = true) : aBin P op t h x y K := by
  unfold eBin at hk
  split at hk
  · simp only [aBin]
    unfold eIntS at hk
    unfold aIntS
    split at hk
    · simp only [fI_eq, Bool.and_eq_true] at hk; exact need_mk hk.1 (hK _ hk.2)
    · simp only [fI_eq, Bool.and_eq_true] at hk; exact need_mk hk.1 (hK _ hk.2)
    · rename_i h1 h2
      rw [Bool.and_eq_true] at hk
      split
      · exact (h1 rfl).elim
      · exact (h2 rfl).elim
      · exact need_mk hk.1 (eInt_ok hK hk.2)
  · simp only [aBin]; exact eStr_ok hK hk
  · rename_i h1 h2
    rw [aBin_else h1 h2]
    unfold eCmp at hk
    unfold aCmp
    split at hk
    · exact eEq_ok H (fun b hb => hK _ (ebool_ok hb)) hk
    · exact eEq_ok H (fun b hb => hK _ (ebool_ok hb)) hk
    · simp at hk

theorem eUn_ok {op : UnOp} {x : AV} {k : AV → Bool} {K : AV → Prop} (hK : ∀ v, k v = true → K v) (hk : eUn op x k = true) : aUn op x K := by
  unfold eUn at hk
  unfold aUn
  split at hk
  · simp only [eint, fI_eq] at hk; exact hK _ hk
  · simp only [fI_eq] at hk; exact hK _ hk
  · exact hK _ (ebool_ok hk)
  · simp at hk

theorem eRow_eq (b o len cap opn : Nat) (k : Option SL → Bool) : eRow b o len cap opn k = k (some ⟨b, o, len, cap, opn⟩) := by simp only [eRow, fN_eq]

theorem eAppend_ok {e : EH} {h : Heap} (H : HFor e h) {sz bytes : Nat} {s : Option SL} {n : Nat} {xs : List AV} {k : Option SL → EH → Bool} {K : Option SL → Heap → Prop}
    (hK : ∀ s e' h', HFor e' h' → k s e' = true → K s h') (hk : eAppend sz bytes s n xs e k = true) : PAppend sz bytes s n xs h K := by
  unfold eAppend at hk
  rw [Bool.and_eq_true] at hk
  obtain ⟨h0, hk⟩ := hk
  refine ⟨by simpa using h0, ?_⟩
  split at hk
  · cases n with
    | zero => exact (if_pos rfl).mpr (hK _ _ _ H hk)
    | succ n =>
      rw [Bool.and_eq_true] at hk
      obtain ⟨h1, hk⟩ := hk
      simp only [Bool.and_eq_true, decide_eq_true_eq] at h1
      obtain ⟨e', H', hk⟩ := eNew_ok H hk
      rw [eRow_eq] at hk
      rw [if_neg (by omega)]
      exact ⟨h1.1, h1.2, hK _ _ _ H' hk⟩
  · rename_i s
    split at hk
    · rename_i hle
      have hle' : s.len + n ≤ s.cap := Nat.le_of_ble_eq_true hle
      simp only [hle', if_true]
      rw [H.1 s.b] at hk
      split at hk
      · rename_i c hb
        obtain ⟨h1, h2⟩ := spl_ok hk
        obtain ⟨t', h3, h4⟩ := H.1.put h2
        rw [eRow_eq] at h3
        simp only [hb]
        exact ⟨h1, hK _ _ _ ⟨h4, by simp [H.2]⟩ h3⟩
      all_goals
        rename_i hb
        cases n with
        | zero => simp only [hb]; exact ⟨trivial, hK _ _ _ H hk⟩
        | succ n => simp at hk
    · rename_i hle
      have hle' : ¬ s.len + n ≤ s.cap := fun h => by rw [Nat.ble_eq_true_of_le h] at hle; cases hle
      simp only [hle', if_false]
      rw [Bool.and_eq_true] at hk
      obtain ⟨h1, hk⟩ := hk
      simp only [Bool.and_eq_true, decide_eq_true_eq] at h1
      refine ⟨h1.1, h1.2, ?_⟩
      rw [H.1 s.b] at hk
      split at hk
      · rename_i c rw hb
        obtain ⟨g1, g2⟩ := tk_ok hk
        simp only [cellsAt, hb, g1, if_true]
        cases ho : s.opn with
        | zero =>
          simp only [ho, ap_eq] at g2
          obtain ⟨e', H', g3⟩ := eNew_ok H g2
          rw [eRow_eq] at g3
          simp only [if_true]
          exact hK _ _ _ H' g3
        | succ m =>
          simp only [ho, ap_eq] at g2
          rw [Bool.and_eq_true, Bool.and_eq_true] at g2
          obtain ⟨⟨g4, g5⟩, g6⟩ := g2
          obtain ⟨t', g7, g8⟩ := H.1.put g6
          obtain ⟨e', H', g9⟩ := eNew_ok (e := ⟨t', e.n⟩) (h := h.set s.b .dead) ⟨g8, by simp [H.2]⟩ g7
          rw [eRow_eq] at g9
          have hl : (h.set s.b .dead).length = h.length := by simp
          rw [hl] at g9
          rw [if_neg (by omega)]
          exact ⟨g4, by simpa using g5, hK _ _ _ H' g9⟩
      · simp at hk

theorem eCopy_ok {e : EH} {h : Heap} (H : HFor e h) {sz : Nat} {s : Option SL} {n : Nat} {xs : List AV} {k : EH → Bool} {K : Heap → Prop} (hK : ∀ e' h', HFor e' h' → k e' = true → K h') (hk : eCopy sz s n xs e k = true) :
    PCopy sz s n xs h K := by
  unfold eCopy at hk
  rw [Bool.and_eq_true] at hk
  obtain ⟨h0, hk⟩ := hk
  refine ⟨by simpa using h0, ?_⟩
  cases s with
  | none => cases n with
    | zero => exact ⟨rfl, hK _ _ H hk⟩
    | succ n => simp at hk
  | some s =>
    simp only at hk
    rw [Bool.and_eq_true] at hk
    obtain ⟨h1, hk⟩ := hk
    obtain ⟨c, e', h2, h3, h4, h5⟩ := eStore_ok H hk
    refine ⟨Nat.le_of_ble_eq_true h1, ?_⟩
    simp only [PStore, h2]
    exact ⟨h3, hK _ _ h4 h5⟩

theorem eSlice_ok {sz : Nat} {s : Option SL} {lo : Int} {hi mx : Option Int} {k : Option SL → Bool} {K : Option SL → Prop} (hK : ∀ s, k s = true → K s) (hk : eSlice sz s lo hi mx k = true) : PSlice sz s lo hi mx K := by
  unfold eSlice at hk
  unfold PSlice
  cases s with
  | none =>
    simp only [Bool.and_eq_true, beq_iff_eq] at hk
    exact ⟨hk.1.1.1, hk.1.1.2, hk.1.2, hK _ hk.2⟩
  | some s =>
    simp only [eRow_eq, Bool.and_eq_true, Bool.or_eq_true, beq_iff_eq, decide_eq_true_eq] at hk
    obtain ⟨⟨⟨⟨⟨h1, h2⟩, h3⟩, h4⟩, h5⟩, h6⟩ := hk
    exact ⟨h1, h2, h3, h4, h5, hK _ h6⟩

theorem estrSlice_ok {s : List UInt8} {lo : Int} {hi : Option Int} {k : List UInt8 → Bool} {K : List UInt8 → Prop} (hK : ∀ s, k s = true → K s) (hk : estrSlice s lo hi k = true) : strSlice s lo hi K := by
  unfold estrSlice at hk
  rw [Bool.and_eq_true] at hk
  obtain ⟨h1, h2⟩ := hk
  simp only [Bool.and_eq_true, decide_eq_true_eq] at h1
  obtain ⟨h3, h4⟩ := tk_ok h2
  refine ⟨h1.1.1, h1.1.2, h1.2, hK _ ?_⟩
  rw [List.drop_take]
  exact h4

theorem eBytes_ok : ∀ {l : List AV} {k : List UInt8 → Bool}, eBytes l k = true → ∃ bs, l = byteAVs bs ∧ k bs = true
  | [], k, h => ⟨[], rfl, h⟩
  | v :: l, k, h => by
    unfold eBytes at h
    split at h
    · rename_i heq; cases heq
    · rename_i n l' heq
      cases heq
      split at h
      · rename_i m
        rw [Bool.and_eq_true] at h
        obtain ⟨h1, h2⟩ := h
        obtain ⟨bs, h3, h4⟩ := eBytes_ok h2
        have hm : m < 256 := by simpa [Nat.blt_eq] using h1
        refine ⟨UInt8.ofNat m :: bs, ?_, h4⟩
        simp only [byteAVs, List.map_cons] at h3 ⊢
        rw [h3]
        congr 2
        simp [Nat.mod_eq_of_lt hm]
      · simp at h
    · simp at h
theorem fBytes_eq : ∀ (l : List UInt8) (k : List AV → Bool), fBytes l k = k (byteAVs l)
  | [], k => rfl
  | b :: l, k => by simp only [fBytes, fN_eq, fBytes_eq l]; rfl

theorem eMake_ok {e : EH} {h : Heap} (H : HFor e h) {zs : List AV} {bytes : Nat} {l c : Int} {k : Option SL → EH → Bool} {K : Option SL → Heap → Prop}
    (hK : ∀ s e' h', HFor e' h' → k s e' = true → K s h') (hk : eMake zs bytes l c e k = true) : PMake zs bytes l c h K := by
  unfold eMake at hk
  rw [Bool.and_eq_true] at hk
  obtain ⟨h1, h2⟩ := hk
  simp only [Bool.and_eq_true, decide_eq_true_eq] at h1
  rw [fL_eq] at h2
  obtain ⟨e', H', h3⟩ := eNew_ok H h2
  rw [eRow_eq] at h3
  exact ⟨h1.1.1.1, h1.1.1.2, h1.1.2, h1.2, hK _ _ _ H' h3⟩

theorem ekeyIs_ok {P : Program} {kt : TypeId} {a b : AV} {r : Bool} (h : ekeyIs P kt a b = some r) {K : Bool → Prop} (hk : K r) : keyIs P kt a b K := by
  unfold ekeyIs at h
  unfold keyIs
  generalize P.underlying kt = d at h ⊢
  split at h
  · split at h
    · rename_i hd
      cases h
      exact need_mk hd hk
    · cases h
  · cases h; exact hk
  · cases h; exact hk
  · cases h

theorem efind_ok {P : Program} {kt : TypeId} {k : AV} : ∀ {es : List (AV × AV × Nat)} {i : Nat} {KB : Option (Nat × AV × Nat) → Bool} {K : Option (Nat × AV × Nat) → Prop}, (∀ r, KB r = true → K r) → efind P kt k es i KB = true → findP P kt k es i K
  | [], i, KB, K, hK, h => hK _ h
  | (k', v, n) :: es, i, KB, K, hK, h => by
    unfold efind at h
    unfold findP
    split at h
    · rename_i he; exact ekeyIs_ok he (hK _ h)
    · rename_i he
      rw [fN_eq] at h
      exact ekeyIs_ok he (efind_ok hK h)
    · simp at h

theorem emapEs_eq {e : EH} {h : Heap} (H : HFor e h) (m : Option Nat) : emapEs e m = mapEs h m := by
  cases m with
  | none => rfl
  | some b =>
    simp only [emapEs, mapEs, H.1 b]
    rcases h[b]? with _ | B
    · rfl
    · cases B <;> rfl

theorem eLookup_ok {P : Program} {e : EH} {h : Heap} (H : HFor e h) {kt et : TypeId} {m : Option Nat} {k : AV} {ok : Bool} {KB : AV → Bool} {K : AV → Prop} (hK : ∀ v, KB v = true → K v) (hk : eLookup P kt et m k ok e KB = true) :
    PLookup P kt et m k ok h K := by
  unfold eLookup at hk
  rw [emapEs_eq H] at hk
  unfold PLookup
  split at hk
  · rename_i es z hes hz
    rw [Bool.and_eq_true] at hk
    simp only [hes, hz]
    refine need_mk hk.1 (efind_ok (fun r hr => ?_) hk.2)
    split at hr <;> exact hK _ hr
  · simp at hk

theorem eset_ok {α : Type} : ∀ {l : List α} {i : Nat} {x : α} {k : List α → Bool}, eset l i x k = true → k (l.set i x) = true
  | [], i, x, k, h => h
  | y :: l, 0, x, k, h => h
  | y :: l, i + 1, x, k, h => eset_ok (l := l) (k := fun l => k (y :: l)) h
theorem eerase_ok {α : Type} : ∀ {l : List α} {i : Nat} {k : List α → Bool}, eerase l i k = true → k (l.eraseIdx i) = true
  | [], i, k, h => h
  | y :: l, 0, k, h => h
  | y :: l, i + 1, k, h => eerase_ok (l := l) (k := fun l => k (y :: l)) h

theorem eUpdate_ok {P : Program} {e : EH} {h : Heap} (H : HFor e h) {kt : TypeId} {b : Nat} {k v : AV} {KB : EH → Bool} {K : Heap → Prop} (hK : ∀ e' h', HFor e' h' → KB e' = true → K h') (hk : eUpdate P kt b k v e KB = true) :
    PUpdate P kt b k v h K := by
  unfold eUpdate at hk
  rw [H.1 b] at hk
  unfold PUpdate
  split at hk
  · rename_i es cl hb
    rw [Bool.and_eq_true] at hk
    simp only [hb]
    refine need_mk hk.1 (efind_ok (fun r hr => ?_) hk.2)
    split at hr
    · have := eset_ok hr
      obtain ⟨t', h1, h2⟩ := H.1.put this
      exact hK _ _ ⟨h2, by simp [H.2]⟩ h1
    · rw [ap_eq, fN_eq] at hr
      obtain ⟨t', h1, h2⟩ := H.1.put hr
      exact hK _ _ ⟨h2, by simp [H.2]⟩ h1
  · simp at hk

theorem eDelete_ok {P : Program} {e : EH} {h : Heap} (H : HFor e h) {kt : TypeId} {m : Option Nat} {k : AV} {KB : EH → Bool} {K : Heap → Prop} (hK : ∀ e' h', HFor e' h' → KB e' = true → K h') (hk : eDelete P kt m k e KB = true) :
    PDelete P kt m k h K := by
  unfold eDelete at hk
  unfold PDelete
  split at hk
  · rw [Bool.and_eq_true] at hk; exact need_mk hk.1 (hK _ _ H hk.2)
  · rename_i b
    rw [H.1 b] at hk
    split at hk
    · rename_i es cl hb
      rw [Bool.and_eq_true] at hk
      simp only [hb]
      refine need_mk hk.1 (efind_ok (fun r hr => ?_) hk.2)
      split at hr
      · have := eerase_ok hr
        obtain ⟨t', h1, h2⟩ := H.1.put this
        exact hK _ _ ⟨h2, by simp [H.2]⟩ h1
      · obtain ⟨t', h1, h2⟩ := H.1.put hr
        exact hK _ _ ⟨h2, by simp [H.2]⟩ h1
    · simp at hk

theorem ballE_ok : ∀ {l : List (AV × AV × Nat)} {KB : AV × AV × Nat → Bool} {K : AV × AV × Nat → Prop}, (∀ x, KB x = true → K x) → ballE l KB = true → allE l K
  | [], KB, K, hK, h => trivial
  | [x], KB, K, hK, h => hK _ h
  | x :: y :: l, KB, K, hK, h => by
    simp only [ballE, Bool.and_eq_true] at h
    exact ⟨hK _ h.1, ballE_ok hK h.2⟩

theorem eNext_ok {e : EH} {h : Heap} (H : HFor e h) {b : Nat} {KB : AV → EH → Bool} {K : AV → Heap → Prop} (hK : ∀ v e' h', HFor e' h' → KB v e' = true → K v h') (hk : eNext b e KB = true) : PNext b h K := by
  unfold eNext at hk
  rw [H.1 b] at hk
  unfold PNext
  split at hk
  · rename_i hb; simp only [hb]; exact hK _ _ _ H hk
  · rename_i m since seen last hb
    rw [H.1 m] at hk
    simp only [hb]
    split at hk
    · rename_i es cl hm
      rw [Bool.and_eq_true] at hk
      simp only [hm]
      refine need_mk hk.1 ?_
      replace hk := hk.2
      split at hk
      · rename_i hl; simp only [hl]; exact hK _ _ _ H hk
      · rename_i l hne
        split
        · rename_i hl; exact (hne hl).elim
        · refine ballE_ok (fun x hx => ?_) hk
          rw [ap_eq] at hx
          obtain ⟨t', h1, h2⟩ := H.1.put hx
          exact hK _ _ _ ⟨h2, by simp [H.2]⟩ h1
    · simp at hk
  · simp at hk

theorem eEntry_ok {e : EH} {h : Heap} (H : HFor e h) {b : Nat} {KB : AV → Bool} {K : AV → Prop} (hK : ∀ v, KB v = true → K v) (hk : eEntry b e KB = true) : PEntry b h K := by
  unfold eEntry at hk
  rw [H.1 b] at hk
  unfold PEntry
  split at hk
  · rename_i m since seen stepped hb
    rw [H.1 m] at hk
    simp only [hb]
    split at hk
    · rename_i stamp es cl hl hm
      rw [Bool.and_eq_true] at hk
      simp only [hl, hm]
      refine need_mk hk.1 ?_
      replace hk := hk.2
      split at hk
      · rename_i k v n hf; simp only [hf]; exact hK _ hk
      · simp at hk
    · simp at hk
  · simp at hk

theorem eNewB_ok {e : EH} {h : Heap} (H : HFor e h) {B : Blk} {k : Nat → EH → Bool} (hk : eNewB B e k = true) : ∃ e', HFor e' (h ++ [B]) ∧ k h.length e' = true := by
  unfold eNewB at hk
  rw [H.2] at hk
  obtain ⟨t', h1, h2⟩ := H.1.add hk
  rw [fN_eq] at h1
  exact ⟨_, ⟨h2, by simp⟩, h1⟩

theorem eBuiltin_ok {P : Program} {e : EH} {h : Heap} (H : HFor e h) {b : Builtin} {argT : List TypeId} {args : List AV} {k : EK} {K : KO}
    (hK : ∀ v e' h', HFor e' h' → k v e' = true → K v [] h') (hk : eBuiltin P b argT args e k = true) : vBuiltin P b argT args [] h K := by
  unfold eBuiltin at hk
  split at hk
  · split at hk
    · rename_i hu; simp only [vBuiltin, hu]; exact hK _ _ _ H hk
    · simp at hk
  · split at hk
    · rename_i hu; simp only [vBuiltin, hu]; rw [fN_eq] at hk; exact hK _ _ _ H hk
    · simp at hk
  · rw [emapEs_eq H] at hk
    split at hk
    · rename_i hu hes; simp only [vBuiltin, hu, hes]; rw [fN_eq] at hk; exact hK _ _ _ H hk
    · simp at hk
  · split at hk
    · rename_i hu; simp only [vBuiltin, hu]; exact eDelete_ok H (fun e' h' H' hs => hK _ _ _ H' hs) hk
    · simp at hk
  · split at hk
    · simp at hk
    · rename_i e1 he
      split at hk
      · rename_i hz; simp only [vBuiltin, he, hz]; exact hK _ _ _ H hk
      · rename_i zs s hz
        simp only [vBuiltin, he, hz]
        split at hk
        · rename_i hl; simp only [hl]; exact hK _ _ _ H hk
        · rename_i n hl
          rw [Bool.and_eq_true] at hk
          obtain ⟨c, e', h2, h3, h4, h5⟩ := eStore_ok H hk.2
          simp only [hl]
          refine need_mk hk.1 ?_
          simp only [PStore, h2]
          exact ⟨h3, hK _ _ _ h4 h5⟩
      · simp at hk
  · split at hk
    · rename_i hu; simp only [vBuiltin, hu]; exact hK _ _ _ H hk
    · rename_i hu; simp only [vBuiltin, hu]; rw [Bool.and_eq_true] at hk; exact ⟨by simpa using hk.1, hK _ _ _ H hk.2⟩
    · simp at hk
  · split at hk
    · simp at hk
    · rename_i e' he
      split at hk
      · simp at hk
      · rename_i zs hz
        rw [Bool.and_eq_true] at hk
        obtain ⟨h1, hk⟩ := hk
        simp only [vBuiltin, he, hz]
        refine need_mk h1 ?_
        split at hk
        · rename_i hi
          rw [Bool.and_eq_true] at hk
          obtain ⟨h2, hk⟩ := hk
          simp only [Bool.and_eq_true, decide_eq_true_eq] at h2
          rw [fN_eq, fL_eq] at hk
          simp only [hi]
          exact need_mk h2.1.1.1 ⟨h2.1.1.2, h2.1.2, h2.2, eAppend_ok H (fun s e' h' H' hs => hK _ _ _ H' hs) hk⟩
        · rename_i hi
          rw [Bool.and_eq_true] at hk
          obtain ⟨h2, hk⟩ := hk
          obtain ⟨xs, h3, h4⟩ := eslCells_ok H hk
          simp only [hi]
          exact need_mk h2 ⟨xs, h3, eAppend_ok H (fun s e' h' H' hs => hK _ _ _ H' hs) h4⟩
        · rename_i hi
          rw [Bool.and_eq_true] at hk
          obtain ⟨h2, hk⟩ := hk
          rw [fN_eq, fBytes_eq] at hk
          simp only [hi]
          exact need_mk h2 (eAppend_ok H (fun s e' h' H' hs => hK _ _ _ H' hs) hk)
        · simp at hk
  · split at hk
    · simp at hk
    · rename_i e' he
      rw [Bool.and_eq_true] at hk
      obtain ⟨h1, hk⟩ := hk
      rw [fN_eq] at hk
      obtain ⟨xs, h3, h4⟩ := eslCells_ok H hk
      simp only [vBuiltin, he]
      refine need_mk h1 ⟨xs, h3, eCopy_ok H (fun e' h' H' hs => ?_) h4⟩
      exact hK _ _ _ H' hs
  · simp only [vBuiltin]
    unfold eminL at hk
    unfold minL
    split at hk
    · exact hK _ _ _ H hk
    · rw [Bool.and_eq_true, fI_eq] at hk; exact need_mk hk.1 (hK _ _ _ H hk.2)
    · simp at hk
  · simp only [vBuiltin]
    unfold emaxL at hk
    unfold maxL
    split at hk
    · exact hK _ _ _ H hk
    · rw [Bool.and_eq_true, fI_eq] at hk; exact need_mk hk.1 (hK _ _ _ H hk.2)
    · simp at hk
  · simp at hk

theorem efillA_ok {place : Nat → Option (Nat × Nat)} : ∀ {ps : List (Nat × AV)} {cells : List AV} {k : List AV → Bool}, efillA place cells ps k = true → ∃ c, fillA place cells ps = some c ∧ k c = true
  | [], cells, k, h => ⟨_, rfl, h⟩
  | (i, v) :: rest, cells, k, h => by
    unfold efillA at h
    unfold fillA
    split at h
    · simp at h
    · rename_i off size hp
      rw [Bool.and_eq_true] at h
      obtain ⟨h1, h2⟩ := h
      obtain ⟨h3, h4⟩ := spl_ok h2
      simp only [hp]
      rw [if_neg (by simp at h1; omega)]
      exact efillA_ok h4

theorem epartsA_ok {t : T LV} {ρ : List LV} (R : t.For ρ) {ps : Array (Nat × Operand)} {k : List (Nat × AV) → Bool} (h : epartsA t ps k = true) : ∃ parts, partsA ρ ps = some parts ∧ k parts = true := by
  unfold epartsA at h
  obtain ⟨vs, h1, h2⟩ := fVals_ok R h
  exact ⟨_, by simp only [partsA, h1, Option.map_some], h2⟩

def CallOK (P : Program) (call : ECall) : Prop := ∀ (f : FuncId) (args : List AV) (e : EH) (h : Heap) (k : AV → EH → Bool) (Q : AV → Heap → Prop), HFor e h →
  (∀ v e' h', HFor e' h' → k v e' = true → Q v h') → call f args e k = true → AC P f args h Q

theorem eInvoke_ok {P : Program} {call : ECall} (C : CallOK P call) {e : EH} {h : Heap} (H : HFor e h) {r : AV} {name : String} {args : List AV} {k : AV → EH → Bool} {K : AV → Heap → Prop}
    (hK : ∀ v e' h', HFor e' h' → k v e' = true → K v h') (hk : eInvoke P call r name args e k = true) : vInvoke P (AC P) r name args h K := by
  unfold eInvoke at hk
  split at hk
  · split at hk
    · rename_i m hm
      simp only [vInvoke, hm]
      exact C _ _ _ _ _ _ H hK hk
    · rename_i hm
      simp only [vInvoke, hm]
      split at hk
      · rename_i g1 e1 p hma
        simp only [hma]
        split at hk
        · rename_i z1 hz1
          rw [Bool.and_eq_true] at hk
          simp only [hz1, hk.1]
          refine eLoad_ok H hk.2 fun x hx => ?_
          exact C _ _ _ _ _ _ H hK hx
        · simp at hk
      · simp at hk
  · simp at hk

set_option maxHeartbeats 1000000 in
theorem eop_ok {P : Program} {call : ECall} (C : CallOK P call) {o : Oper} {t : T LV} {ρ : List LV} (R : t.For ρ) {e : EH} {h : Heap} (H : HFor e h) {k : EK} {K : KO}
    (hK : ∀ v e' h', HFor e' h' → k v e' = true → K v [] h') (hk : eop P call o t e k = true) : vop P (fun _ => false) (AC P) o ρ [] h K := by
  unfold eop at hk
  simp only [eev_eq R, evals_eq R, eevI_eq R, eoptI_eq R] at hk
  unfold vop
  split at hk
  · rename_i ho; simp only [ho]; exact hK _ _ _ H hk
  · rename_i ho; simp only [ho]; exact hK _ _ _ H hk
  · rename_i ho; simp only [ho]
    split at hk
    · rename_i hc; simp only [hc, vif]; exact hK _ _ _ H hk
    · rename_i hc; simp only [hc, vif]; exact hK _ _ _ H hk
    · simp at hk
  · rename_i ty ho; simp only [ho]
    split at hk
    · rename_i zs d hz hdst
      rw [Bool.and_eq_true] at hk
      obtain ⟨e', H', h1⟩ := eNew_ok H hk.2
      simp only [hz, hdst]; exact need_mk hk.1 (hK _ _ _ H' h1)
    · simp at hk
  · rename_i ty x ho; simp only [ho]
    split at hk
    · rename_i v d hv hdst
      rw [Bool.and_eq_true, Bool.and_eq_true] at hk
      obtain ⟨⟨h0, h1⟩, hk⟩ := hk
      obtain ⟨e', H', h2⟩ := eNew_ok H hk
      cases v <;> first | (simp [isTup] at h0; done) | (simp only [hv, hdst]; exact need_mk h1 (hK _ _ _ H' h2))
    · simp at hk
  · rename_i ty x ho; simp only [ho]
    split at hk
    · rename_i z p hz hx
      rw [Bool.and_eq_true] at hk
      simp only [vLoad, hz, hk.1, hx, vPtr]
      exact eLoad_ok H hk.2 (fun v hv => hK _ _ _ H hv)
    · simp at hk
  · rename_i ty a x ho; simp only [ho]
    split at hk
    · rename_i v p hx ha
      rw [Bool.and_eq_true] at hk
      obtain ⟨c, e', h2, h3, h4, h5⟩ := eStore_ok H hk.2
      simp only [hx, ha, vPtr, PStore, h2]
      exact need_mk hk.1 ⟨h3, hK _ _ _ h4 h5⟩
    · simp at hk
  · rename_i x ho; simp only [ho]
    split at hk
    · rename_i hx; simp only [hx, vPtr]; exact hK _ _ _ H hk
    · rename_i hx; simp only [hx]; exact hK _ _ _ H hk
    · rename_i hx; simp only [hx]; exact hK _ _ _ H hk
    · simp at hk
  · rename_i op ty x y u ho; simp only [ho]
    split at hk
    · rename_i a b hx hy
      simp only [hx, hy]
      exact eBin_ok H (fun v hv => hK _ _ _ H hv) hk
    · simp at hk
  · rename_i ho; simp only [ho]
    split at hk
    · rename_i a hx
      simp only [hx]
      exact eUn_ok (fun v hv => hK _ _ _ H hv) hk
    · simp at hk
  · rename_i ho; simp only [ho]
    split at hk
    · rename_i h1 h2 h3
      simp only [eint, fI_eq] at hk
      simp only [h1, h2, h3]
      exact hK _ _ _ H hk
    · rename_i h1 h2 h3; simp only [h1, h2, h3]; exact hK _ _ _ H hk
    · rename_i h1 h2 h3
      rw [Bool.and_eq_true] at hk
      obtain ⟨l, h4, h5⟩ := eslCells_ok H hk.2
      obtain ⟨bs, h6, h7⟩ := eBytes_ok h5
      simp only [h1, h2, h3]
      exact need_mk hk.1 ⟨bs, by rw [h4, h6], hK _ _ _ H h7⟩
    · rename_i h1 h2 h3
      rw [Bool.and_eq_true, Bool.and_eq_true] at hk
      obtain ⟨⟨h4, h5⟩, h6⟩ := hk
      rw [fBytes_eq] at h6
      obtain ⟨e', H', h7⟩ := eNew_ok H h6
      rw [fN_eq] at h7
      simp only [h1, h2, h3]
      exact need_mk h4 ⟨by simpa using h5, hK _ _ _ H' h7⟩
    · simp at hk
  · rename_i ho; simp only [ho]
    split at hk
    · rename_i hf hx
      rw [Bool.and_eq_true, fN_eq] at hk
      simp only [hf, hx, vPtr]
      exact need_mk hk.1 (hK _ _ _ H hk.2)
    · simp at hk
  · rename_i ho; simp only [ho]
    split at hk
    · rename_i hf hx
      split at hk
      · rename_i z hz
        rw [Bool.and_eq_true] at hk
        simp only [hf, hx, hz]
        exact need_mk hk.1 (ePart_ok hk.2 fun v hv => hK _ _ _ H hv)
      · simp at hk
    · simp at hk
  · rename_i ho; simp only [ho]
    split at hk
    · rename_i hi hu hx
      rw [Bool.and_eq_true, Bool.and_eq_true, Bool.and_eq_true, fN_eq] at hk
      obtain ⟨⟨⟨h1, h2⟩, h3⟩, hk⟩ := hk
      simp only [hi, hu, hx, vIdx]
      exact need_mk h1 ⟨by simpa using h2, by simpa using h3, hK _ _ _ H hk⟩
    · rename_i hi hu hx
      rw [Bool.and_eq_true, fN_eq] at hk
      simp only [hi, hu, hx, vPtr]
      exact need_mk hk.1 (hK _ _ _ H hk.2)
    · simp at hk
  · rename_i ho; simp only [ho]
    split at hk
    · rename_i hi hu hx
      rw [Bool.and_eq_true] at hk
      obtain ⟨b, h1, h2⟩ := at1_ok hk.2
      rw [fN_eq] at h2
      simp only [hi, hu, hx, strIdx]
      refine ⟨by simpa using hk.1, ?_⟩
      simp only [h1]
      exact hK _ _ _ H h2
    · simp at hk
  · rename_i ho; simp only [ho]
    split at hk
    · rename_i zs fs hz hu
      obtain ⟨parts, h1, h2⟩ := epartsA_ok R hk
      rw [Bool.and_eq_true] at h2
      obtain ⟨c, h3, h4⟩ := efillA_ok h2.2
      simp only [hz, hu, h1]
      refine need_mk h2.1 ?_
      simp only [h3]
      exact hK _ _ _ H h4
    · rename_i zs n e1 hz hu
      obtain ⟨parts, h1, h2⟩ := epartsA_ok R hk
      rw [Bool.and_eq_true] at h2
      obtain ⟨c, h3, h4⟩ := efillA_ok h2.2
      simp only [hz, hu, h1]
      refine need_mk h2.1 ?_
      simp only [h3]
      exact hK _ _ _ H h4
    · simp at hk
  · rename_i ho; simp only [ho]
    split at hk
    · simp at hk
    · rename_i e1 he
      split at hk
      · rename_i zs hz
        obtain ⟨parts, h1, h2⟩ := epartsA_ok R hk
        rw [Bool.and_eq_true, fL_eq] at h2
        obtain ⟨c, h3, h4⟩ := efillA_ok h2.2
        rw [Bool.and_eq_true] at h4
        obtain ⟨e', H', h5⟩ := eNew_ok H h4.2
        simp only [he, hz, h1]
        refine need_mk h2.1 ?_
        simp only [h3]
        exact need_mk h4.1 (hK _ _ _ H' h5)
      · simp at hk
  · rename_i ho; simp only [ho]
    split at hk
    · rename_i hu hx hl hh hm
      rw [Bool.and_eq_true] at hk
      simp only [hu, hx, hl, hh, hm]
      exact need_mk hk.1 (eSlice_ok (fun s hs => hK _ _ _ H hs) hk.2)
    · rename_i hu hx hl hh hm
      simp only [hu, hx, hl, hh, hm]
      exact estrSlice_ok (fun s hs => hK _ _ _ H hs) hk
    · rename_i hu hx hl hh hm
      rw [Bool.and_eq_true] at hk
      simp only [hu, hx, hl, hh, hm, vPtr]
      exact need_mk hk.1 (eSlice_ok (fun s hs => hK _ _ _ H hs) hk.2)
    · simp at hk
  · rename_i ho; simp only [ho]
    split at hk
    · simp at hk
    · rename_i e1 he
      split at hk
      · rename_i zs n m hz hn hm
        rw [Bool.and_eq_true] at hk
        simp only [he, hz, hn, hm]
        exact need_mk hk.1 (eMake_ok H (fun s e' h' H' hs => hK _ _ _ H' hs) hk.2)
      · simp at hk
  · rename_i ho; simp only [ho]
    split at hk
    · rename_i n _ s hu hx
      rw [Bool.and_eq_true] at hk
      simp only [hu, hx]
      exact need_mk hk.1 (hK _ _ _ H hk.2)
    · simp at hk
  · rename_i ho; simp only [ho]
    split at hk
    · obtain ⟨e', H', h1⟩ := eNewB_ok H hk
      exact hK _ _ _ H' h1
    · simp at hk
  · rename_i ho; simp only [ho]
    split at hk
    · rename_i hu hx hix
      simp only [hu, hx, hix]
      exact eLookup_ok H (fun v hv => hK _ _ _ H hv) hk
    · simp at hk
  · rename_i ho; simp only [ho]
    split at hk
    · rename_i hu hm hkk hx
      simp only [hu, hm, hkk, hx]
      exact eUpdate_ok H (fun e' h' H' hs => hK _ _ _ H' hs) hk
    · simp at hk
  · rename_i ho; simp only [ho]
    split at hk
    · rename_i hu hx
      obtain ⟨e', H', h1⟩ := eNewB_ok H hk
      simp only [hu, hx]
      exact hK _ _ _ H' h1
    · rename_i b hu hx
      simp only [H.1 b] at hk
      simp only [hu, hx]
      split at hk
      · rename_i es cl hb
        obtain ⟨e', H', h1⟩ := eNewB_ok H hk
        simp only [hb]
        exact hK _ _ _ H' h1
      · simp at hk
    · simp at hk
  · rename_i ho; simp only [ho]
    split at hk
    · rename_i p hx
      rw [Bool.and_eq_true] at hk
      simp only [hx]
      exact need_mk hk.1 (eNext_ok H (fun v e' h' H' hs => hK _ _ _ H' hs) hk.2)
    · simp at hk
  · rename_i ho; simp only [ho]
    split at hk
    · rename_i p hx
      rw [Bool.and_eq_true] at hk
      simp only [hx]
      exact need_mk hk.1 (eEntry_ok H (fun v hv => hK _ _ _ H hv) hk.2)
    · simp at hk
  · rename_i ho; simp only [ho]
    split at hk
    · rename_i vs hx
      obtain ⟨v, h1, h2⟩ := at1_ok hk
      simp only [hx, h1]
      exact hK _ _ _ H h2
    · simp at hk
  · rename_i ho; simp only [ho]
    obtain ⟨a, h1, h2⟩ := fVals_ok R hk
    obtain ⟨b, h3, h4⟩ := fVals_ok R h2
    simp only [h1, h3]
    exact hK _ _ _ H h4
  · rename_i ho; simp only [ho]
    split at hk
    · simp at hk
    · rename_i d v hne hu hx
      simp only [hu, hx]
      exact hK _ _ _ H hk
    · simp at hk
  · rename_i c ho; simp only [ho]
    obtain ⟨args, h1, hk⟩ := fVals_ok R hk
    simp only [h1]
    split at hk
    · rename_i f hc
      simp only [hc]
      split at hk
      · rename_i g z hg hz
        simp only [hg, hz]
        have hKK : ∀ v e' h', HFor e' h' → (shV z v && k (.val v) e') = true → exV z fun u => v = u ∧ K (.val u) [] h' := fun v e' h' H' hv => by
          rw [Bool.and_eq_true] at hv
          exact exV_mk hv.1 ⟨rfl, hK _ _ _ H' hv.2⟩
        unfold eCallF at hk
        unfold vCallF
        split at hk
        · exact eInvoke_ok C H hKK hk
        · rename_i hne
          split
          · exact (hne _ _ _ rfl).elim
          · unfold eCallV at hk
            split at hk
            · rw [ap_eq, ap_eq] at hk
              simp only [vCallV]
              rw [List.append_assoc]
              exact C _ _ _ _ _ _ H hKK hk
            · simp at hk
      · simp at hk
    · rename_i r name hc
      simp only [hc]
      split at hk
      · rename_i g z hg hz
        simp only [hg, hz]
        exact eInvoke_ok C H (fun v e' h' H' hv => by
          rw [Bool.and_eq_true] at hv
          exact exV_mk hv.1 ⟨rfl, hK _ _ _ H' hv.2⟩) hk
      · simp at hk
    · rename_i b hc
      simp only [hc]
      exact eBuiltin_ok H hK hk
  · simp at hk
end Go.Ab
