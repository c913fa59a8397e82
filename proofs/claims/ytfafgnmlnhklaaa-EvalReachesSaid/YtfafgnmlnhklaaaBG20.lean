/- What a graph tells; its bags; a round. -/
import Derived.Test.YtfafgnmlnhklaaaBG19
namespace Go.Proofs.Ytfafgnmlnhklaaa
open Go.Ab
set_option linter.unusedVariables false
set_option linter.unusedSimpArgs false

theorem runG_inv {oth : Oth} {Pv : List Bag → Prop} : ∀ {l : List NT} {bags vars : List Bag}, (∀ n ∈ l, ∀ bags vars, (∀ b ∈ bags, GoodB b) → Pv vars → (oth n bags vars).1 = 0 → GoodB (oth n bags vars).2.1 ∧ Pv (oth n bags vars).2.2) → (∀ b ∈ bags, GoodB b) → Pv vars → (runG oth l bags vars).1 = 0 → (∀ b ∈ (runG oth l bags vars).2.1, GoodB b) ∧ Pv (runG oth l bags vars).2.2
  | [], bags, vars, _, hb, hv, _ => ⟨hb, hv⟩
  | n :: l, bags, vars, ho, hb, hv, h => by
    unfold runG at h ⊢
    by_cases hz : (stepG oth n bags vars).1 = 0
    · rw [if_pos hz] at h ⊢
      have hs : GoodB (stepG oth n bags vars).2.1 ∧ Pv (stepG oth n bags vars).2.2 := by
        unfold stepG at hz ⊢
        by_cases hop : isOpN n = true
        · rw [if_pos hop] at hz ⊢
          exact ⟨opR_good hz, hv⟩
        · rw [if_neg hop] at hz ⊢
          exact ho n (by simp) bags vars hb hv hz
      refine runG_inv (fun m hm => ho m (by simp [hm])) (fun b hb2 => ?_) hs.2 h
      rcases List.mem_append.1 hb2 with a | a
      · exact hb b a
      · simp only [List.mem_singleton] at a; subst a; exact hs.1
    · rw [if_neg hz] at h
      exact absurd h hz
theorem lastD_good {l : List Bag} (h : ∀ b ∈ l, GoodB b) : GoodB (l.getLastD []) := by
  rw [List.getLastD_eq_getLast?]
  cases e : l.getLast? with
  | none => exact good_nil
  | some b => exact h b (List.mem_of_getLast? e)
theorem getD_may {l : List Bag} {i : Nat} (h : ∀ b ∈ l, mayC b = 0) : mayC (l.getD i []) = 0 := by
  rw [List.getD_eq_getElem?_getD]
  cases e : l[i]? with
  | none => exact good_nil.1
  | some g => exact h g (List.mem_of_getElem? e)
theorem roundV_good {body : List NT} {outer : List Bag} {x : Bag} (ho : ∀ b ∈ outer, mayC b = 0) (hx : mayC x = 0) (h : (roundV body outer x).1 = 0) : GoodB (roundV body outer x).2 := by
  refine lastD_good (runG_inv (Pv := fun _ => True) (fun n _ bags vars hb _ hz => ⟨?_, trivial⟩) (by simp) trivial h).1
  unfold othI
  split
  · exact good_sort (getD_may ho)
  · exact good_sort hx
theorem loopV_good {body : List NT} {outer : List Bag} (ho : ∀ b ∈ outer, mayC b = 0) : ∀ {m : Nat} {x : Bag} {vars : List Bag}, GoodB x → (∀ v ∈ vars, GoodB v) → (loopV body outer m x vars).1 = 0 → GoodB (loopV body outer m x vars).2.1 ∧ (∀ v ∈ (loopV body outer m x vars).2.2, GoodB v) ∧ (loopV body outer m x vars).2.2.length ≤ vars.length + m
  | 0, x, vars, hx, hv, _ => ⟨hx, hv, by simp [loopV]⟩
  | m + 1, x, vars, hx, hv, h => by
    unfold loopV at h ⊢
    by_cases hz : (roundV body outer x).1 = 0
    · rw [if_pos hz] at h ⊢
      by_cases hs : sortR x = sortR (roundV body outer x).2
      · rw [if_pos hs]
        exact ⟨hx, hv, by simp⟩
      · rw [if_neg hs] at h ⊢
        have hg := roundV_good ho hx.1 hz
        obtain ⟨a, b, c⟩ := loopV_good ho hg (fun v hv2 => by
          rcases List.mem_append.1 hv2 with a | a
          · exact hv v a
          · simp only [List.mem_singleton] at a; subst a; exact hg) h
        refine ⟨a, b, ?_⟩
        rw [List.length_append, List.length_cons, List.length_nil] at c
        omega
    · rw [if_neg hz] at h
      exact absurd h hz
theorem loopV_last {body : List NT} {outer : List Bag} : ∀ {m : Nat} {x : Bag} {vars : List Bag}, vars.getLast? = some x → (loopV body outer m x vars).1 = 0 → (loopV body outer m x vars).2.2.getLast? = some (loopV body outer m x vars).2.1
  | 0, x, vars, h, _ => h
  | m + 1, x, vars, h, hz => by
    unfold loopV at hz ⊢
    by_cases h0 : (roundV body outer x).1 = 0
    · rw [if_pos h0] at hz ⊢
      by_cases hs : sortR x = sortR (roundV body outer x).2
      · rw [if_pos hs]; exact h
      · rw [if_neg hs] at hz ⊢
        exact loopV_last (by simp) hz
    · rw [if_neg h0] at hz; exact absurd hz h0
/-- What is known of bags and of what a loop came to. -/
theorem run_good {l : List NT} {out : Int} {inputs : List Bag} (h : evalE l out inputs = 0) : (∀ b ∈ (runG (othO inputs) l [] []).2.1, GoodB b) ∧ (∀ v ∈ (runG (othO inputs) l [] []).2.2, GoodB v) ∧ (runG (othO inputs) l [] []).2.2.length ≤ 65 := by
  obtain ⟨ok, hl, hi, hz⟩ := evalE_zero h
  have may := insE0 hi
  refine runG_inv (Pv := fun vars => (∀ v ∈ vars, GoodB v) ∧ vars.length ≤ 65) (fun n hn bags vars hb hv hz => ?_) (by simp) ⟨by simp, by simp⟩ hz
  obtain ⟨i, hni⟩ := List.mem_iff_getElem?.1 hn
  have hok := ok.node i n hni
  unfold othO at hz ⊢
  by_cases h9 : n.op = 9
  · rw [if_pos h9] at hz ⊢
    have hx : GoodB (loopX n bags) := getD_good hb
    obtain ⟨a, b, c⟩ := loopV_good (fun b hb2 => (hb b hb2).1) hx (vars := [loopX n bags]) (by simpa using hx) hz
    have num := hok.2.1
    unfold NumOk at num
    rw [if_neg (by omega), if_pos h9] at num
    simp only [List.length_cons, List.length_nil] at c
    exact ⟨a, b, by omega⟩
  · rw [if_neg h9]
    exact ⟨good_sort (getD_may may), hv⟩

section
variable {h : Heap} {Q : AV → Heap → Prop} {q q3 : Option SL} {l : List NT} {out : Int} {inputs : List Bag}
theorem Made.inGG0 {n0 : Nat} {q : Option SL} {ls : List Bag} (M : Made n0 h q ls) : InGG (fun b => b < h.length) h q ls := M.inGG
set_option maxRecDepth 20000 in
/-- Eval -/
theorem c11 (R : NodesR h q l) (L : Lens l) (G : InGG (fun b => b < h.length) h q3 inputs) (hil : ∀ x ∈ inputs, x.length ≤ 1000000)
    (h1 : evalE l out inputs ≠ 0 → ∀ h', Ext h h' → Q (.tup [.agg [.sl none, .int .i64 0, .sl none], .int .i64 (evalE l out inputs)]) h')
    (h2 : evalE l out inputs = 0 → ∀ qo qv h', Ext h h' → HasL recE h' qo ((runG (othO inputs) l [] []).2.1.getD out.toNat []) → InGG (fun b => b < h'.length) h' qv (runG (othO inputs) l [] []).2.2 → Q (.tup [.agg [.sl qo, .int .i64 (((runG (othO inputs) l [] []).2.2.length - 1 : Nat) : Int), .sl qv], .int .i64 0]) h') :
    AC Try.prog 11 [.agg [.sl q, .int .i64 out], .sl q3] h Q := ac11 (by
  unfold vc11
  refine c28 R L G hil (fun hne h5 x5 => ⟨none, _, rfl, vif_mk (fun _ => h1 hne h5 x5) (fun g => absurd (by simpa using g) hne)⟩) (fun hz own p qv h5 W x5 ho gb => ⟨some ⟨p, 0⟩, 0, rfl, vif_mk (fun g => by simp at g) (fun _ => ?_)⟩)
  obtain ⟨ok, hl, hi, hz2⟩ := evalE_zero hz
  obtain ⟨_, gv, lv⟩ := run_good hz
  have hlen := runG_len hz2
  have h2 := h2 hz
  generalize runG (othO inputs) l [] [] = r at *
  obtain ⟨q9, c11, B9, _⟩ := W.cells
  have cq : cellsAt h5 ⟨p, 0⟩ 1 = some [.sl q9] := by unfold cellsAt; simp [c11]
  have cv : cellsAt h5 ⟨p, 3⟩ 1 = some [.sl qv] := by unfold cellsAt; simp [c11]
  simp only [List.length_nil, Nat.zero_add] at hlen
  have okl := ok.len
  have oko := ok.out
  refine ⟨q9, cq, qv, cv, qv, cv, c29 B9.inGG (by omega) (fun b hb => by have := (gb b hb).len; omega) fun q16 h15 x15 M15 => ⟨q16, rfl, ⟨qv, x15.cells cv, rfl⟩, ⟨qv, x15.cells cv, rfl⟩, rfl, ?_⟩⟩
  refine M15.inGG.idx (i := out.toNat) (by omega) (by omega) fun p17 q18 b hb hc17 Hb f18 => ⟨q18, hc17, ?_⟩
  refine c29 (W.vs.ext x15).inGG (by omega) (fun b hb => by have := (gv b hb).len; omega) fun q21 h20 x20 M20 => ⟨q21, rfl, ⟨q18, x20.cells hc17, rfl⟩, ⟨qv, (x15.trans x20).cells cv, rfl⟩, rfl, ?_⟩
  have eb : r.2.1.getD out.toNat [] = b := by rw [List.getD_eq_getElem?_getD, hb]; rfl
  have em : maxI2 0 (wrapK .i64 ((slLen qv : Int) - 1)) = ((r.2.2.length - 1 : Nat) : Int) := by
    rw [W.vs.len, wrapK_i64 ⟨by omega, by omega⟩]
    unfold maxI2
    split <;> omega
  rw [em]
  exact h2 q18 q21 h20 (x5.trans (x15.trans x20)) (by rw [eb]; exact Hb.mono x20) M20.inGG)
/-- Bags -/
theorem c26 (R : NodesR h q l) (L : Lens l) (G : InGG (fun b => b < h.length) h q3 inputs) (hil : ∀ x ∈ inputs, x.length ≤ 1000000)
    (h1 : evalE l out inputs ≠ 0 → ∀ h', Ext h h' → Q (.tup [.sl none, .int .i64 (evalE l out inputs)]) h')
    (h2 : evalE l out inputs = 0 → ∀ q' h', Ext h h' → InGG (fun b => b < h'.length) h' q' (runG (othO inputs) l [] []).2.1 → Q (.tup [.sl q', .int .i64 0]) h') :
    AC Try.prog 26 [.agg [.sl q, .int .i64 out], .sl q3] h Q := ac26 (by
  unfold vc26
  refine c28 R L G hil (fun hne h5 x5 => ⟨none, _, rfl, vif_mk (fun _ => h1 hne h5 x5) (fun g => absurd (by simpa using g) hne)⟩) (fun hz own p qv h5 W x5 ho gb => ⟨some ⟨p, 0⟩, 0, rfl, vif_mk (fun g => by simp at g) (fun _ => ?_)⟩)
  obtain ⟨ok, hl, hi, hz2⟩ := evalE_zero hz
  have hlen := runG_len hz2
  have okl := ok.len
  simp only [List.length_nil, Nat.zero_add] at hlen
  obtain ⟨q9, c11, B9, _⟩ := W.cells
  refine ⟨q9, by show cellsAt h5 ⟨p, 0⟩ 1 = _; unfold cellsAt; simp [c11], c29 B9.inGG (by omega) (fun b hb => by have := (gb b hb).len; omega) fun q16 h15 x15 M15 => ⟨q16, rfl, ?_⟩⟩
  exact h2 hz q16 h15 (x5.trans x15) M15.inGG)
set_option maxRecDepth 20000 in
/-- Round -/
theorem c27 {F : Nat → Prop} {outer : List Bag} {x : Bag} {q4 : Option SL} {i : Nat} {n : NT} (R : NodesR h q l) (L : Lens l) (ok : OkG l out) (hat : loopAt l = some i) (hn : l[i]? = some n) (hol : outer.length = i) (G : InGG F h q3 outer) (H : HasL recE h q4 x) (ho : ∀ b ∈ outer, mayC b = 0) (hx : mayC x = 0)
    (h1 : (roundV n.body outer x).1 ≠ 0 → ∀ q' h', Ext h h' → Q (.tup [.sl q', .int .i64 (roundV n.body outer x).1]) h')
    (h2 : (roundV n.body outer x).1 = 0 → ∀ q' h', Ext h h' → HasL recE h' q' (roundV n.body outer x).2 → Q (.tup [.sl q', .int .i64 0]) h') :
    AC Try.prog 27 [.agg [.sl q, .int .i64 out], .sl q3, .sl q4] h Q := ac27 (by
  unfold vc27
  have hil := lt_of_get hn
  have okl := ok.len
  have h9 : n.op = 9 := by
    unfold loopAt at hat
    rw [List.findIdx?_eq_some_iff_getElem] at hat
    obtain ⟨a, b, _⟩ := hat
    rw [List.getElem?_eq_getElem a] at hn
    cases hn
    simpa using b
  have hb : OkB n.body outer.length := by
    have := (ok.node i n hn).2.2
    rw [if_pos h9] at this
    rw [hol]; exact this
  refine c43 R L fun e h6 x6 e0 _ => ⟨e, rfl, ?_⟩
  rw [e0 ok]
  refine vif_mk (fun g => by simp at g) (fun _ => ?_)
  refine c44 (R.mono x6) L ok fun h9' x9 => ⟨fun j hj => ?_, fun hnone => by rw [hat] at hnone; cases hnone⟩
  rw [hat] at hj
  cases hj
  refine ⟨_, true, rfl, vif_mk (fun g => by simp at g) (fun _ => ?_)⟩
  rw [G.len, hol]
  refine vif_mk (fun g => by simp at g) (fun _ => ?_)
  have x69 := x6.trans x9
  have lens : ∀ b ∈ outer, b.length ≤ 1000000 := fun b hb => by have := (mayC0 (ho b hb)).2; omega
  refine c29 (G.mono x69) (by omega) lens fun q14 h13 x13 M13 => ⟨q14, rfl, ?_⟩
  have H13 := H.mono (x69.trans x13)
  refine Made.put M13 x13.len (.refl _) H13 (fun u t hu ht => ?_) (by omega) fun q17 h18 M18 K18 l18 => ?_
  · obtain ⟨qs, m1, m2, m3, m4⟩ := M13
    have := m3 t ht
    have := H.live u hu
    have := x69.len
    omega
  have x18 : Ext h9' h18 := fun b C hC => K18 b C (lt_of_get hC) (x13 _ _ hC)
  have G18 := M18.inGG
  have may : ∀ b ∈ outer ++ [x], mayC b = 0 := fun b hb => by
    rcases List.mem_append.1 hb with a | a
    · exact ho b a
    · simp only [List.mem_singleton] at a; subst a; exact hx
  refine ⟨fun xs h22 => h22 = h18 ∧ ∃ j : Nat, xs = [.int .i64 j], fun xs _ => match xs with | [.int _ j] => ((outer ++ [x]).length - j).toNat | _ => 0, ⟨rfl, 0, rfl⟩, ?_⟩
  rintro n19 h22 ⟨rfl, j, hxs⟩
  simp only [List.cons.injEq, AV.int.injEq, true_and, and_true] at hxs
  subst hxs
  rw [G18.len]
  refine vif_mk (fun g => ?_) (fun g => ?_)
  · replace g := of_decide_eq_true g
    refine G18.idx (i := j) (by omega) rfl fun pp s b hb hc Hb f => ⟨s, hc, ?_⟩
    have hbm := may b (List.mem_of_getElem? hb)
    have := (mayC0 hbm).2
    refine c38 Hb (by omega) ⟨_, rfl, ?_⟩
    rw [hbm]
    refine vif_mk (fun g => by simp at g) (fun _ => ?_)
    have hlo : (outer ++ [x]).length ≤ 1000 := by rw [List.length_append]; simp; omega
    rw [wrapK_i64 ⟨by omega, by omega⟩]
    exact ⟨⟨rfl, trivial⟩, ⟨rfl, j + 1, by simp⟩, by simp only; omega⟩
  · have xx := x69.trans x18
    refine (R.mono xx).idx (i := i) hil rfl fun p28 c n' hn' hc28 Rc => ⟨c.qb, cellsAt_sub (k := 5) (m := 1) hc28 (by omega), ?_⟩
    rw [hn] at hn'
    obtain rfl : n = n' := Option.some.inj hn'
    refine c45 (G.mono xx) (H.mono xx) Rc.body hb ho hx (fun hne h31 x31 => ⟨none, _, rfl, pnew_mk ?_⟩) (fun hz q32 h31 x31 H31 f31 g31 => ⟨q32, 0, rfl, pnew_mk ?_⟩)
    · have N35 : New recE h31 (h31 ++ [Blk.cells [] true]) (some ⟨h31.length, 0, 0, 0, 0⟩) [] := New.mk1 (l := []) (n := 0) rfl rfl
      refine N35.append (E := recE) (src := none) (m := []) rfl (by simp) fun q36 h37 N37 => ?_
      exact h1 hne q36 h37 (xx.trans (x31.trans N37.1))
    · have N35 : New recE h31 (h31 ++ [Blk.cells [] true]) (some ⟨h31.length, 0, 0, 0, 0⟩) [] := New.mk1 (l := []) (n := 0) rfl rfl
      have := g31.len
      refine N35.append (E := recE) (H31.mono (Ext.app _ _)) (by simp; omega) fun q36 h37 N37 => ?_
      exact h2 hz q36 h37 (xx.trans (x31.trans N37.1)) N37.hasL)
end
end Go.Proofs.Ytfafgnmlnhklaaa

/- The graph that reaches, laid out. -/
namespace Go.Proofs.Ytfafgnmlnhklaaa
open Go.Ab
set_option linter.unusedVariables false
set_option linter.unusedSimpArgs false

section
variable {h : Heap} {Q : AV → Heap → Prop}
theorem lit_get {h B : Heap} {k : Nat} : (h ++ B)[h.length + k]? = B[k]? := by
  rw [List.getElem?_append_right (by omega)]
  congr 1; omega
theorem HasL.lit {α : Type} {E : Enc α} {h B : Heap} {k n : Nat} {l : List α} (hn : n = l.length) (hB : B[k]? = some (.cells (E.all l) true)) : HasL E (h ++ B) (some ⟨h.length + k, 0, n, n, 0⟩) l := by
  refine ⟨hn, Nat.le_refl _, .inl rfl, ?_⟩
  have := @lit_get h B k
  rw [hB] at this
  rw [cellsAt_mk this (by simp [Enc.all_length])]
  simp only [List.drop_zero, ← Enc.all_length, List.take_length]
def bodyN : List NT := [.mk 10 [] 0 0 0 [], .mk 11 [] 0 0 0 [], .mk 6 [0, 1] 23 0 0 [], .mk 2 [2] 3 0 0 [], .mk 2 [3] 5 1 0 [], .mk 8 [0, 4] 0 0 0 [], .mk 7 [5] 0 0 0 []]
/-- The graph that reaches. -/
def reachN (most : Int) : List NT := [.mk 1 [] 0 0 0 [], .mk 1 [] 0 0 1 [], .mk 9 [1] 0 0 most bodyN]
theorem nodeR_leaf {h : Heap} {op k a A : Int} {qi : Option SL} {ins : List Int} (hi : HasL intE h qi ins) : NodeR h ⟨op, qi, k, a, A, none⟩ (.mk op ins k a A []) :=
  .mk hi (L := []) rfl rfl (by simp)
set_option maxRecDepth 20000 in
/-- Reach -/
theorem c12 {most : Int} (hQ : ∀ q' h', Ext h h' → NodesR h' q' (reachN most) → Q (.agg [.sl q', .int .i64 2]) h') : AC Try.prog 12 [.int .i64 most] h Q := ac12 (by
  unfold vc12
  refine pnew_mk (pnew_mk (pnew_mk (pnew_mk (pnew_mk (pnew_mk (pnew_mk (pnew_mk ?_)))))))
  simp only [List.append_assoc, List.cons_append, List.nil_append, List.length_append, List.length_cons, List.length_nil, Nat.zero_add, Nat.reduceAdd]
  generalize hB : ([Blk.cells [.int .i64 1] true, .cells [.int .i64 0, .int .i64 1] true, .cells [.int .i64 2] true, .cells [.int .i64 3] true, .cells [.int .i64 0, .int .i64 4] true, .cells [.int .i64 5] true, _, _] : Heap) = B
  have b : ∀ k C, B[k]? = some C → (h ++ B)[h.length + k]? = some C := fun k C hk => by rw [lit_get, hk]
  have i0 : HasL intE (h ++ B) (some ⟨h.length + 0, 0, 1, 1, 0⟩) [1] := HasL.lit rfl (by rw [← hB]; rfl)
  have i1 : HasL intE (h ++ B) (some ⟨h.length + 1, 0, 2, 2, 0⟩) [0, 1] := HasL.lit rfl (by rw [← hB]; rfl)
  have i2 : HasL intE (h ++ B) (some ⟨h.length + 2, 0, 1, 1, 0⟩) [2] := HasL.lit rfl (by rw [← hB]; rfl)
  have i3 : HasL intE (h ++ B) (some ⟨h.length + 3, 0, 1, 1, 0⟩) [3] := HasL.lit rfl (by rw [← hB]; rfl)
  have i4 : HasL intE (h ++ B) (some ⟨h.length + 4, 0, 2, 2, 0⟩) [0, 4] := HasL.lit rfl (by rw [← hB]; rfl)
  have i5 : HasL intE (h ++ B) (some ⟨h.length + 5, 0, 1, 1, 0⟩) [5] := HasL.lit rfl (by rw [← hB]; rfl)
  have i6 : HasL nodeE (h ++ B) (some ⟨h.length + 6, 0, 7, 7, 0⟩) [⟨10, none, 0, 0, 0, none⟩, ⟨11, none, 0, 0, 0, none⟩, ⟨6, some ⟨h.length + 1, 0, 2, 2, 0⟩, 23, 0, 0, none⟩, ⟨2, some ⟨h.length + 2, 0, 1, 1, 0⟩, 3, 0, 0, none⟩, ⟨2, some ⟨h.length + 3, 0, 1, 1, 0⟩, 5, 1, 0, none⟩, ⟨8, some ⟨h.length + 4, 0, 2, 2, 0⟩, 0, 0, 0, none⟩, ⟨7, some ⟨h.length + 5, 0, 1, 1, 0⟩, 0, 0, 0, none⟩] := HasL.lit rfl (by rw [← hB]; rfl)
  have i7 : HasL nodeE (h ++ B) (some ⟨h.length + 7, 0, 3, 3, 0⟩) [⟨1, none, 0, 0, 0, none⟩, ⟨1, none, 0, 0, 1, none⟩, ⟨9, some ⟨h.length + 0, 0, 1, 1, 0⟩, 0, 0, most, some ⟨h.length + 6, 0, 7, 7, 0⟩⟩] := HasL.lit rfl (by rw [← hB]; rfl)
  refine hQ _ _ (Ext.app _ _) ⟨_, i7, rfl, fun i c n hc hn => ?_⟩
  match i with
  | 0 => cases hc; cases hn; exact nodeR_leaf rfl
  | 1 => cases hc; cases hn; exact nodeR_leaf rfl
  | 2 =>
    cases hc; cases hn
    refine .mk i0 i6 rfl fun i c n hc hn => ?_
    match i with
    | 0 => cases hc; cases hn; exact nodeR_leaf rfl
    | 1 => cases hc; cases hn; exact nodeR_leaf rfl
    | 2 => cases hc; cases hn; exact nodeR_leaf i1
    | 3 => cases hc; cases hn; exact nodeR_leaf i2
    | 4 => cases hc; cases hn; exact nodeR_leaf i3
    | 5 => cases hc; cases hn; exact nodeR_leaf i4
    | 6 => cases hc; cases hn; exact nodeR_leaf i5
    | i + 7 => simp at hc
  | i + 3 => simp at hc)
theorem base_lit {n : NT} {i : Nat} (h1 : decide (1 ≤ n.op ∧ n.op ≤ 11 ∧ n.ins.length = arityV n.op ∧ (if famV n.op = 0 then n.k = 0 ∧ n.a = 0 else fam n.k n.a = famV n.op)) = true) (h2 : (n.ins.all fun x => decide (0 ≤ x ∧ x < i)) = true) : Base n i := by
  obtain ⟨a, b, c, d⟩ := of_decide_eq_true h1
  refine ⟨⟨a, b⟩, c, fun x hx => ?_, d⟩
  have := List.all_eq_true.1 h2 x hx
  simpa using this
theorem bodyN_ok : OkB bodyN 2 := by
  refine ⟨by decide, by decide, fun i n hn => ?_⟩
  match i with
  | 0 => cases hn; exact ⟨base_lit (by decide) (by decide), by unfold NumOk; decide, rfl⟩
  | 1 => cases hn; exact ⟨base_lit (by decide) (by decide), by unfold NumOk; decide, rfl⟩
  | 2 => cases hn; exact ⟨base_lit (by decide) (by decide), by unfold NumOk; decide, rfl⟩
  | 3 => cases hn; exact ⟨base_lit (by decide) (by decide), by unfold NumOk; decide, rfl⟩
  | 4 => cases hn; exact ⟨base_lit (by decide) (by decide), by unfold NumOk; decide, rfl⟩
  | 5 => cases hn; exact ⟨base_lit (by decide) (by decide), by unfold NumOk; decide, rfl⟩
  | 6 => cases hn; exact ⟨base_lit (by decide) (by decide), by unfold NumOk; decide, rfl⟩
  | i + 7 => simp [bodyN] at hn
theorem reachN_ok {most : Int} (hm : 1 ≤ most ∧ most ≤ 64) : OkG (reachN most) 2 := by
  refine ⟨by simp [reachN], by simp [reachN], fun i n hn => ?_, by simp [reachN, loopsV, NT.op]⟩
  match i with
  | 0 => cases hn; exact ⟨base_lit (by decide) (by decide), by unfold NumOk; decide, rfl⟩
  | 1 => cases hn; exact ⟨base_lit (by decide) (by decide), by unfold NumOk; decide, rfl⟩
  | 2 =>
    cases hn
    refine ⟨⟨(by decide : 1 ≤ (9 : Int) ∧ (9 : Int) ≤ 11), rfl, (by decide : ∀ x ∈ ([1] : List Int), 0 ≤ x ∧ x < ((2 : Nat) : Int)), (by decide : if famV 9 = 0 then (0 : Int) = 0 ∧ (0 : Int) = 0 else fam 0 0 = famV 9)⟩, ?_, bodyN_ok⟩
    show NumOk 9 most (-1)
    unfold NumOk
    rw [if_neg (by decide), if_pos rfl]
    exact ⟨rfl, hm.1, hm.2⟩
  | i + 3 => simp [reachN] at hn
theorem reachN_lens {most : Int} : Lens (reachN most) := by
  refine ⟨by simp [reachN], fun n hn => ?_⟩
  simp only [reachN, List.mem_cons, List.not_mem_nil, or_false] at hn
  rcases hn with rfl | rfl | rfl
  · exact ⟨by decide, by simp [NT.body]⟩
  · exact ⟨by decide, by simp [NT.body]⟩
  · refine ⟨by simp [NT.ins], fun m hm => ?_⟩
    have hm : m ∈ bodyN := hm
    simp only [bodyN, List.mem_cons, List.not_mem_nil, or_false] at hm
    rcases hm with rfl | rfl | rfl | rfl | rfl | rfl | rfl <;> simp [NT.ins]
theorem reachE {most : Int} {inputs : List Bag} (hm : 1 ≤ most ∧ most ≤ 64) (hi : inputs.length ≤ 4) (h0 : insE inputs = 0) : evalE (reachN most) 2 inputs = (runG (othO inputs) (reachN most) [] []).1 := by
  unfold evalE
  rw [if_pos (reachN_ok hm), if_neg (by omega), if_pos h0]
end
end Go.Proofs.Ytfafgnmlnhklaaa

/- What is reached: by rounds over edges, and by the loop of the graph. -/
namespace Go.Proofs.Ytfafgnmlnhklaaa
open Go.Ab
set_option linter.unusedVariables false
set_option linter.unusedSimpArgs false

inductive Rch (E : List Rec) (s : Int) : Int → Prop where
  | base : Rch E s s
  | step {e : Rec} : Rch E s e.1 → e ∈ E → Rch E s e.2

def stepS (S : List Int) (e : Rec) : List Int := if e.1 ∈ S then (if e.2 ∈ S then S else S ++ [e.2]) else S
def passS (E : List Rec) (S : List Int) : List Int := E.foldl stepS S
def roundsS (E : List Rec) (s : Int) : Nat → List Int
  | 0 => [s]
  | n + 1 => passS E (roundsS E s n)
def ClosedS (E : List Rec) (S : List Int) : Prop := ∀ e ∈ E, e.1 ∈ S → e.2 ∈ S
theorem stepS_sub {S : List Int} {e : Rec} {x : Int} (h : x ∈ S) : x ∈ stepS S e := by
  unfold stepS
  split
  · split
    · exact h
    · exact List.mem_append.2 (.inl h)
  · exact h
theorem stepS_len {S : List Int} {e : Rec} : S.length ≤ (stepS S e).length := by
  unfold stepS
  split
  · split <;> simp
  · exact Nat.le_refl _
theorem stepS_eq {S : List Int} {e : Rec} (h : (stepS S e).length = S.length) : stepS S e = S ∧ (e.1 ∈ S → e.2 ∈ S) := by
  unfold stepS at h ⊢
  split at h
  · rename_i h1
    rw [if_pos h1]
    split at h
    · rename_i h2
      rw [if_pos h2]
      exact ⟨rfl, fun _ => h2⟩
    · simp at h
  · rename_i h1
    rw [if_neg h1]
    exact ⟨rfl, fun h => absurd h h1⟩
theorem stepS_id {S : List Int} {e : Rec} (h : e.1 ∈ S → e.2 ∈ S) : stepS S e = S := by
  unfold stepS
  split
  · rename_i h1
    rw [if_pos (h h1)]
  · rfl
theorem stepS_nodup {S : List Int} {e : Rec} (h : S.Nodup) : (stepS S e).Nodup := by
  unfold stepS
  split
  · split
    · exact h
    · rename_i h2
      rw [List.nodup_append]
      exact ⟨h, by simp, fun a ha b hb => by simp at hb; subst hb; intro he; subst he; exact h2 ha⟩
  · exact h
theorem stepS_rch {E : List Rec} {s : Int} {S : List Int} {e : Rec} (he : e ∈ E) (h : ∀ x ∈ S, Rch E s x) : ∀ x ∈ stepS S e, Rch E s x := by
  intro x hx
  unfold stepS at hx
  split at hx
  · rename_i h1
    split at hx
    · exact h x hx
    · rcases List.mem_append.1 hx with hx | hx
      · exact h x hx
      · simp at hx; subst hx; exact .step (h _ h1) he
  · exact h x hx
theorem foldS_len : ∀ (L : List Rec) (S : List Int), S.length ≤ (L.foldl stepS S).length
  | [], S => Nat.le_refl _
  | e :: L, S => Nat.le_trans stepS_len (foldS_len L (stepS S e))
theorem foldS_sub {x : Int} : ∀ (L : List Rec) (S : List Int), x ∈ S → x ∈ L.foldl stepS S
  | [], S, h => h
  | e :: L, S, h => foldS_sub L (stepS S e) (stepS_sub h)
theorem foldS_nodup : ∀ (L : List Rec) (S : List Int), S.Nodup → (L.foldl stepS S).Nodup
  | [], S, h => h
  | e :: L, S, h => foldS_nodup L (stepS S e) (stepS_nodup h)
theorem foldS_rch {E : List Rec} {s : Int} : ∀ (L : List Rec) (S : List Int), (∀ e ∈ L, e ∈ E) → (∀ x ∈ S, Rch E s x) → ∀ x ∈ L.foldl stepS S, Rch E s x
  | [], S, _, h => h
  | e :: L, S, hL, h => foldS_rch L (stepS S e) (fun x hx => hL x (by simp [hx])) (stepS_rch (hL e (by simp)) h)
theorem foldS_eq : ∀ (L : List Rec) (S : List Int), (L.foldl stepS S).length = S.length → ∀ e ∈ L, e.1 ∈ S → e.2 ∈ S
  | [], S, _, e, he, _ => by simp at he
  | e :: L, S, h, x, hx, h1 => by
    have a := foldS_len L (stepS S e)
    have b := stepS_len (S := S) (e := e)
    simp only [List.foldl_cons] at h
    obtain ⟨c, d⟩ := stepS_eq (S := S) (e := e) (by omega)
    rcases List.mem_cons.1 hx with rfl | hx
    · exact d h1
    · rw [c] at h
      exact foldS_eq L S h x hx h1
theorem foldS_id : ∀ (L : List Rec) (S : List Int), (∀ e ∈ L, e.1 ∈ S → e.2 ∈ S) → L.foldl stepS S = S
  | [], S, _ => rfl
  | e :: L, S, h => by
    rw [List.foldl_cons, stepS_id (h e (by simp))]
    exact foldS_id L S fun x hx => h x (by simp [hx])
theorem rounds_base {E : List Rec} {s : Int} : ∀ n, s ∈ roundsS E s n
  | 0 => by simp [roundsS]
  | n + 1 => foldS_sub E _ (rounds_base n)
theorem rounds_nodup {E : List Rec} {s : Int} : ∀ n, (roundsS E s n).Nodup
  | 0 => by simp [roundsS]
  | n + 1 => foldS_nodup E _ (rounds_nodup n)
theorem rounds_rch {E : List Rec} {s : Int} : ∀ n, ∀ x ∈ roundsS E s n, Rch E s x
  | 0 => fun x hx => by simp [roundsS] at hx; subst hx; exact .base
  | n + 1 => foldS_rch E _ (fun _ h => h) (rounds_rch n)
theorem rounds_grow {E : List Rec} {s : Int} : ∀ n, n + 1 ≤ (roundsS E s n).length ∨ ClosedS E (roundsS E s n)
  | 0 => .inl (by simp [roundsS])
  | n + 1 => by
    rcases rounds_grow (E := E) (s := s) n with h | h
    · have a := foldS_len E (roundsS E s n)
      by_cases e : (E.foldl stepS (roundsS E s n)).length = (roundsS E s n).length
      · refine .inr ?_
        have hc := foldS_eq E _ e
        have : roundsS E s (n + 1) = roundsS E s n := foldS_id E _ hc
        rw [this]; exact hc
      · refine .inl ?_
        show n + 1 + 1 ≤ (E.foldl stepS (roundsS E s n)).length
        omega
    · refine .inr ?_
      have : roundsS E s (n + 1) = roundsS E s n := foldS_id E _ h
      rw [this]; exact h
theorem nodup_leI : ∀ {a b : List Int}, a.Nodup → (∀ x ∈ a, x ∈ b) → a.length ≤ b.length
  | [], _, _, _ => by simp
  | x :: a, b, hn, hs => by
    obtain ⟨h1, h2⟩ := List.nodup_cons.1 hn
    have hx := hs x (by simp)
    have := nodup_leI (b := b.erase x) h2 fun y hy => (List.mem_erase_of_ne (fun e => h1 (by rw [← e]; exact hy))).2 (hs y (by simp [hy]))
    rw [List.length_erase_of_mem hx] at this
    have := List.length_pos_of_mem hx
    simp only [List.length_cons]; omega
/-- Twelve numbers. -/
def In12 (x : Int) : Prop := 0 ≤ x ∧ x < 12
def EOk (E : List Rec) : Prop := E.length ≤ 30 ∧ ∀ e ∈ E, In12 e.1 ∧ In12 e.2
theorem Rch.in12 {E : List Rec} {s : Int} (hE : EOk E) (hs : In12 s) {x : Int} (h : Rch E s x) : In12 x := by
  cases h with
  | base => exact hs
  | step _ he => exact (hE.2 _ he).2
theorem nodup12 {a : List Int} (h : a.Nodup) (hi : ∀ x ∈ a, In12 x) : a.length ≤ 12 := by
  have := nodup_leI (b := (List.range 12).map Int.ofNat) h fun x hx => by
    obtain ⟨h0, h1⟩ := hi x hx
    exact List.mem_map.2 ⟨x.toNat, by simp; omega, by simp; omega⟩
  simpa using this
theorem rounds_iff {E : List Rec} {s : Int} (hE : EOk E) (hs : In12 s) {x : Int} : x ∈ roundsS E s 12 ↔ Rch E s x := by
  refine ⟨rounds_rch 12 x, fun h => ?_⟩
  have hc : ClosedS E (roundsS E s 12) := by
    rcases rounds_grow (E := E) (s := s) 12 with h | h
    · have := nodup12 (rounds_nodup (E := E) (s := s) 12) fun x hx => (rounds_rch 12 x hx).in12 hE hs
      omega
    · exact h
  induction h with
  | base => exact rounds_base 12
  | step _ he ih => exact hc _ he ih

/-! The loop. -/
theorem ddf_memQ {x : Rec} : ∀ {l : List Rec} {p : Rec}, x ∈ ddf p l ∨ x = p ↔ x ∈ l ∨ x = p
  | [], p => Iff.rfl
  | y :: l, p => by
    unfold ddf
    by_cases h : y = p
    · rw [if_pos h, ddf_memQ, List.mem_cons, h]
      constructor
      · rintro (a | a)
        · exact .inl (.inr a)
        · exact .inr a
      · rintro ((a | a) | a)
        · exact .inr a
        · exact .inl a
        · exact .inr a
    · rw [if_neg h, List.mem_cons, List.mem_cons]
      have := ddf_memQ (x := x) (l := l) (p := y)
      constructor
      · rintro ((a | a) | a)
        · exact .inl (.inl a)
        · rcases this.1 (.inl a) with b | b
          · exact .inl (.inr b)
          · exact .inl (.inl b)
        · exact .inr a
      · rintro ((a | a) | a)
        · exact .inl (.inl a)
        · rcases this.2 (.inl a) with b | b
          · exact .inl (.inr b)
          · exact .inl (.inl b)
        · exact .inr a
theorem dd_memQ {x : Rec} {l : List Rec} : x ∈ dd l ↔ x ∈ l := by
  cases l with
  | nil => exact Iff.rfl
  | cons y l =>
    have := ddf_memQ (x := x) (l := l) (p := y)
    rw [dd, List.mem_cons, List.mem_cons, or_comm, this, or_comm]
abbrev StrR (l : List Rec) : Prop := l.Pairwise fun a b => leR a b = true ∧ a ≠ b
theorem ddf_strQ : ∀ {l : List Rec} {p : Rec}, (p :: l).Pairwise (fun a b => leR a b = true) → StrR (p :: ddf p l)
  | [], p, _ => by simp [ddf, StrR]
  | y :: l, p, h => by
    have hy := List.pairwise_cons.1 h
    have hl := List.pairwise_cons.1 hy.2
    unfold ddf
    by_cases e : y = p
    · rw [if_pos e]
      exact ddf_strQ (List.pairwise_cons.2 ⟨fun z hz => hy.1 z (by simp [hz]), hl.2⟩)
    · rw [if_neg e]
      have ih := ddf_strQ hy.2
      refine List.pairwise_cons.2 ⟨fun z hz => ?_, ih⟩
      have hpy := hy.1 y (by simp)
      rcases List.mem_cons.1 hz with rfl | hz
      · exact ⟨hpy, fun e2 => e e2.symm⟩
      · have h2 := (List.pairwise_cons.1 ih).1 z hz
        refine ⟨leR_trans _ _ _ hpy h2.1, fun e2 => ?_⟩
        subst e2
        exact e (leR_antisymm h2.1 hpy)
theorem dd_strQ {l : List Rec} : StrR (dd (sortR l)) := by
  have h := sortR_sorted l
  cases e : sortR l with
  | nil => simp [dd, StrR]
  | cons x m => rw [e] at h; exact ddf_strQ h
theorem StrR.sorted {l : List Rec} (h : StrR l) : sortR l = l := sortR_eq (h.imp fun h => h.1) (.refl l)
theorem str_uniqQ : ∀ {l1 l2 : List Rec}, StrR l1 → StrR l2 → (∀ x, x ∈ l1 ↔ x ∈ l2) → l1 = l2
  | [], [], _, _, _ => rfl
  | [], y :: _, _, _, h => by have := (h y).2 (by simp); simp at this
  | x :: _, [], _, _, h => by have := (h x).1 (by simp); simp at this
  | x :: l1, y :: l2, h1, h2, h => by
    have a1 := List.pairwise_cons.1 h1
    have a2 := List.pairwise_cons.1 h2
    have e : x = y := by
      rcases List.mem_cons.1 ((h x).1 (by simp)) with e | e
      · exact e
      · rcases List.mem_cons.1 ((h y).2 (by simp)) with e2 | e2
        · exact e2.symm
        · exact leR_antisymm (a1.1 y e2).1 (a2.1 x e).1
    subst e
    rw [str_uniqQ a1.2 a2.2 fun z => ?_]
    have hz := h z
    simp only [List.mem_cons] at hz
    constructor
    · intro hm
      rcases hz.1 (.inr hm) with e | e
      · exact absurd e.symm (a1.1 z hm).2
      · exact e
    · intro hm
      rcases hz.2 (.inr hm) with e | e
      · exact absurd e.symm (a2.1 z hm).2
      · exact e
end Go.Proofs.Ytfafgnmlnhklaaa

/- What the graph that reaches tells: just what is reached. -/
namespace Go.Proofs.Ytfafgnmlnhklaaa
open Go.Ab
set_option linter.unusedVariables false
set_option linter.unusedSimpArgs false

theorem runG_go {oth : Oth} {n : NT} {l : List NT} {bags vars b v : List Bag} {x : Bag} (h : stepG oth n bags vars = (0, x, v)) : runG oth (n :: l) bags vars = runG oth l (bags ++ [x]) v := by
  rw [runG, h, if_pos rfl]
theorem stepG_oth {oth : Oth} {n : NT} {bags vars : List Bag} (h : isOpN n = false) : stepG oth n bags vars = oth n bags vars := by
  unfold stepG
  rw [h]; rfl
/-- A bag that may be, so long. -/
def SmB (n : Nat) (l : Bag) : Prop := l.all okR = true ∧ l.length ≤ n
theorem SmB.may {n : Nat} {l : Bag} (h : SmB n l) (hn : n ≤ 4096) : mayC l = 0 := by
  unfold mayC
  rw [h.1, if_pos rfl, if_neg (by have := h.2; omega)]
theorem SmB.sort {n : Nat} {l : Bag} (h : SmB n l) : SmB n (sortR l) := ⟨by rw [all_perm (sortR_perm l)]; exact h.1, by rw [sortR_len]; exact h.2⟩
theorem stepG_op {oth : Oth} {n : NT} {bags vars : List Bag} (h : isOpN n = true) (hlen : (insOf n bags).length = n.ins.length) (hi : insE (insOf n bags) = 0) (hm : (madeV n.op n.k n.a (insOf n bags)).length ≤ 4096) :
    stepG oth n bags vars = (0, sortR (madeV n.op n.k n.a (insOf n bags)), vars) := by
  have e : applyE n.op n.ins.length n.k n.a n.A n.body.length (insOf n bags) = 0 := by
    unfold applyE
    have h' : isOp n.op n.ins.length n.k n.a n.A n.body.length = true := h
    rw [h', if_neg (by simp [hlen]), if_neg (by simp [hi]), if_neg (by omega)]
  unfold stepG opR
  rw [h, if_pos rfl, if_pos e]
theorem flatMap_len {α β : Type} {f : α → List β} {k : Nat} : ∀ {l : List α}, (∀ x ∈ l, (f x).length ≤ k) → (l.flatMap f).length ≤ l.length * k
  | [], _ => by simp
  | x :: l, h => by
    rw [List.flatMap_cons, List.length_append, List.length_cons, Nat.add_mul, Nat.one_mul]
    have a := h x (by simp)
    have b := flatMap_len (l := l) fun y hy => h y (by simp [hy])
    omega
theorem all_memR {l : Bag} (h : ∀ r ∈ l, (0 ≤ r.1 ∧ r.1 ≤ 1048575) ∧ (0 ≤ r.2 ∧ r.2 ≤ 1048575)) : l.all okR = true := List.all_eq_true.2 fun r hr => okR_iff.2 (h r hr)
/-- What a bag in the loop is like. -/
structure XOk (E : List Rec) (s : Int) (x : Bag) : Prop where
  str : StrR x
  mem : ∀ r ∈ x, r.2 = 0 ∧ Rch E s r.1
  base : (s, 0) ∈ x
section
variable {E : List Rec} {s : Int} {x : Bag}
theorem XOk.len (h : XOk E s x) (hE : EOk E) (hs : In12 s) : x.length ≤ 12 := by
  have hn : (x.map (·.1)).Nodup := by
    rw [List.Nodup, List.pairwise_map]
    refine (h.str.imp_of_mem fun {a b} ha hb hab => ?_)
    intro e
    exact hab.2 (Prod.ext e ((h.mem a ha).1.trans (h.mem b hb).1.symm))
  have := nodup12 hn fun k hk => by
    obtain ⟨r, hr, rfl⟩ := List.mem_map.1 hk
    exact (h.mem r hr).2.in12 hE hs
  simpa using this
theorem XOk.sm (h : XOk E s x) (hE : EOk E) (hs : In12 s) : SmB 12 x := by
  refine ⟨all_memR fun r hr => ?_, h.len hE hs⟩
  obtain ⟨a, b⟩ := h.mem r hr
  have := b.in12 hE hs
  unfold In12 at this
  omega
theorem EOk.sm (hE : EOk E) : SmB 30 E := by
  refine ⟨all_memR fun r hr => ?_, hE.1⟩
  have := hE.2 r hr
  unfold In12 at this
  omega
/-- A round. -/
theorem roundE {sF : Bag} (hx : SmB 12 x) (hE : SmB 30 E) : ∃ y, roundV bodyN [sortR E, sF] x = (0, y) ∧ StrR y ∧ ∀ r, r ∈ y ↔ r ∈ x ∨ ∃ r0 ∈ x, ∃ e ∈ E, e.1 = r0.1 ∧ r = (e.2, r0.2 % 1) := by
  unfold roundV
  have hb0 : SmB 12 (sortR x) := hx.sort
  have hb1 : SmB 30 (sortR (sortR E)) := hE.sort.sort
  have m0 : ∀ r, r ∈ sortR x ↔ r ∈ x := fun r => (sortR_perm x).mem_iff
  have m1 : ∀ r, r ∈ sortR (sortR E) ↔ r ∈ E := fun r => (sortR_perm _).mem_iff.trans (sortR_perm E).mem_iff
  generalize g0 : sortR x = b0 at *
  generalize g1 : sortR (sortR E) = b1 at *
  have ok0 := List.all_eq_true.1 hb0.1
  have ok1 := List.all_eq_true.1 hb1.1
  -- pairs
  have l2 : (pairAll 23 b0 b1).length ≤ 360 := by
    have := flatMap_len (l := b0) (k := 30) (f := fun x => (b1.filter fun y => y.1 == x.1).map fun y => pairV 23 x y) fun r hr => by
      rw [List.length_map]
      exact Nat.le_trans (List.length_filter_le _ _) hb1.2
    have h2 := hb0.2
    unfold pairAll
    omega
  have m2 : ∀ r, r ∈ sortR (pairAll 23 b0 b1) ↔ ∃ r0 ∈ x, ∃ e ∈ E, e.1 = r0.1 ∧ r = (r0.2, e.2) := by
    intro r
    rw [(sortR_perm _).mem_iff]
    unfold pairAll
    simp only [List.mem_flatMap, List.mem_map, List.mem_filter, beq_iff_eq]
    constructor
    · rintro ⟨a, ha, e, ⟨he, hk⟩, rfl⟩
      exact ⟨a, (m0 a).1 ha, e, (m1 e).1 he, hk, by unfold pairV; simp⟩
    · rintro ⟨a, ha, e, he, hk, rfl⟩
      exact ⟨a, (m0 a).2 ha, e, ⟨(m1 e).2 he, hk⟩, by unfold pairV; simp⟩
  have hb2 : SmB 360 (sortR (pairAll 23 b0 b1)) := by
    refine ⟨List.all_eq_true.2 fun r hr => ?_, by rw [sortR_len]; exact l2⟩
    obtain ⟨a, ha, e, he, _, rfl⟩ := (m2 r).1 hr
    have h1 := okR_iff.1 (ok0 a ((m0 a).2 ha))
    have h2 := okR_iff.1 (ok1 e ((m1 e).2 he))
    exact okR_iff.2 ⟨h1.2, h2.2⟩
  generalize g2 : sortR (pairAll 23 b0 b1) = b2 at *
  -- swapped
  have m3 : ∀ r, r ∈ sortR (b2.flatMap (oneV 2 3 0)) ↔ ∃ a ∈ b2, r = (a.2, a.1) := by
    intro r
    rw [(sortR_perm _).mem_iff]
    simp only [List.mem_flatMap]
    constructor
    · rintro ⟨a, ha, h⟩
      refine ⟨a, ha, ?_⟩
      simpa [oneV, mapV] using h
    · rintro ⟨a, ha, rfl⟩
      exact ⟨a, ha, by simp [oneV, mapV]⟩
  have l3 : (b2.flatMap (oneV 2 3 0)).length ≤ 360 := by
    have := flatMap_len (l := b2) (k := 1) (f := oneV 2 3 0) fun r hr => by simp [oneV]
    have h2 := hb2.2
    omega
  have ok2 := List.all_eq_true.1 hb2.1
  have hb3 : SmB 360 (sortR (b2.flatMap (oneV 2 3 0))) := by
    refine ⟨List.all_eq_true.2 fun r hr => ?_, by rw [sortR_len]; exact l3⟩
    obtain ⟨a, ha, rfl⟩ := (m3 r).1 hr
    have h1 := okR_iff.1 (ok2 a ha)
    exact okR_iff.2 ⟨h1.2, h1.1⟩
  generalize g3 : sortR (b2.flatMap (oneV 2 3 0)) = b3 at *
  have m4 : ∀ r, r ∈ sortR (b3.flatMap (oneV 2 5 1)) ↔ ∃ a ∈ b3, r = (a.1, a.2 % 1) := by
    intro r
    rw [(sortR_perm _).mem_iff]
    simp only [List.mem_flatMap]
    constructor
    · rintro ⟨a, ha, h⟩
      refine ⟨a, ha, ?_⟩
      simpa [oneV, mapV] using h
    · rintro ⟨a, ha, rfl⟩
      exact ⟨a, ha, by simp [oneV, mapV]⟩
  have l4 : (b3.flatMap (oneV 2 5 1)).length ≤ 360 := by
    have := flatMap_len (l := b3) (k := 1) (f := oneV 2 5 1) fun r hr => by simp [oneV]
    have h2 := hb3.2
    omega
  have ok3 := List.all_eq_true.1 hb3.1
  have hb4 : SmB 360 (sortR (b3.flatMap (oneV 2 5 1))) := by
    refine ⟨List.all_eq_true.2 fun r hr => ?_, by rw [sortR_len]; exact l4⟩
    obtain ⟨a, ha, rfl⟩ := (m4 r).1 hr
    have h1 := okR_iff.1 (ok3 a ha)
    exact okR_iff.2 ⟨h1.1, by simp only; omega⟩
  generalize g4 : sortR (b3.flatMap (oneV 2 5 1)) = b4 at *
  have hb5 : SmB 372 (sortR (b0 ++ b4)) := by
    refine ⟨?_, ?_⟩
    · rw [all_perm (sortR_perm _), List.all_append, hb0.1, hb4.1]; rfl
    · rw [sortR_len, List.length_append]; have := hb0.2; have := hb4.2; omega
  have m5 : ∀ r, r ∈ sortR (b0 ++ b4) ↔ r ∈ b0 ∨ r ∈ b4 := fun r => (sortR_perm _).mem_iff.trans List.mem_append
  have l5 : (b0 ++ b4).length ≤ 4096 := by rw [List.length_append]; have := hb0.2; have := hb4.2; omega
  generalize g5 : sortR (b0 ++ b4) = b5 at *
  have l6 : (dd (sortR b5)).length ≤ 372 := by have := dd_len (l := sortR b5); rw [sortR_len] at this; have := hb5.2; omega
  have e : ∀ oth : Oth, oth = othI [sortR E, sF] x → runG oth bodyN [] [] = (0, [b0, b1, b2, b3, b4, b5, sortR (dd (sortR b5))], []) := by
    intro oth ho
    unfold bodyN
    rw [runG_go (x := b0) (v := []) (b := []) (by rw [stepG_oth (by decide), ho, ← g0]; rfl)]
    rw [runG_go (x := b1) (v := []) (b := []) (by rw [stepG_oth (by decide), ho, ← g1]; rfl)]
    rw [runG_go (x := b2) (v := []) (b := []) (by
      rw [stepG_op (by decide) rfl (by show insE [b0, b1] = 0; simp [insE, hb0.may (by omega), hb1.may (by omega)]) (by show (pairAll 23 b0 b1).length ≤ 4096; omega), ← g2]; rfl)]
    rw [runG_go (x := b3) (v := []) (b := []) (by
      rw [stepG_op (by decide) rfl (by show insE [b2] = 0; simp [insE, hb2.may (by omega)]) (by show (b2.flatMap (oneV 2 3 0)).length ≤ 4096; omega), ← g3]; rfl)]
    rw [runG_go (x := b4) (v := []) (b := []) (by
      rw [stepG_op (by decide) rfl (by show insE [b3] = 0; simp [insE, hb3.may (by omega)]) (by show (b3.flatMap (oneV 2 5 1)).length ≤ 4096; omega), ← g4]; rfl)]
    rw [runG_go (x := b5) (v := []) (b := []) (by
      rw [stepG_op (by decide) rfl (by show insE [b0, b4] = 0; simp [insE, hb0.may (by omega), hb4.may (by omega)]) (by show (b0 ++ b4).length ≤ 4096; exact l5), ← g5]; rfl)]
    rw [runG_go (x := sortR (dd (sortR b5))) (v := []) (b := []) (by
      rw [stepG_op (by decide) rfl (by show insE [b5] = 0; simp [insE, hb5.may (by omega)]) (by show (dd (sortR b5)).length ≤ 4096; omega)]; rfl)]
    rfl
  rw [e _ rfl]
  refine ⟨_, rfl, ?_, fun r => ?_⟩
  · show StrR (sortR (dd (sortR b5)))
    rw [StrR.sorted dd_strQ]; exact dd_strQ
  · show r ∈ sortR (dd (sortR b5)) ↔ _
    rw [(sortR_perm _).mem_iff, dd_memQ, (sortR_perm _).mem_iff, m5 r, m0 r, m4 r]
    constructor
    · rintro (h | ⟨a, ha, rfl⟩)
      · exact .inl h
      · obtain ⟨c, hc, rfl⟩ := (m3 a).1 ha
        obtain ⟨r0, hr, e, he, hk, rfl⟩ := (m2 c).1 hc
        exact .inr ⟨r0, hr, e, he, hk, rfl⟩
    · rintro (h | ⟨r0, hr, e, he, hk, rfl⟩)
      · exact .inl h
      · exact .inr ⟨(e.2, r0.2), (m3 _).2 ⟨(r0.2, e.2), (m2 _).2 ⟨r0, hr, e, he, hk, rfl⟩, rfl⟩, rfl⟩
/-- .. of what is reached. -/
theorem roundX {sF : Bag} (hE : EOk E) (hs : In12 s) (hx : XOk E s x) : ∃ y, roundV bodyN [sortR E, sF] x = (0, y) ∧ XOk E s y ∧ (∀ r ∈ x, r ∈ y) ∧ (x = y → ∀ e ∈ E, (e.1, (0 : Int)) ∈ x → (e.2, (0 : Int)) ∈ x) := by
  obtain ⟨y, h1, h2, h3⟩ := roundE (sF := sF) (hx.sm hE hs) hE.sm
  refine ⟨y, h1, ⟨h2, fun r hr => ?_, (h3 _).2 (.inl hx.base)⟩, fun r hr => (h3 r).2 (.inl hr), fun e f hf h0 => ?_⟩
  · rcases (h3 r).1 hr with h | ⟨r0, hr0, e, he, hk, rfl⟩
    · exact hx.mem r h
    · exact ⟨by simp only; omega, .step (by rw [hk]; exact (hx.mem r0 hr0).2) he⟩
  · rw [e]
    exact (h3 _).2 (.inr ⟨_, h0, f, hf, rfl, rfl⟩)
theorem nodup_leR : ∀ {a b : List Rec}, a.Nodup → (∀ x ∈ a, x ∈ b) → a.length ≤ b.length
  | [], _, _, _ => by simp
  | x :: a, b, hn, hs => by
    obtain ⟨h1, h2⟩ := List.nodup_cons.1 hn
    have hx := hs x (by simp)
    have := nodup_leR (b := b.erase x) h2 fun y hy => (List.mem_erase_of_ne (fun e => h1 (by rw [← e]; exact hy))).2 (hs y (by simp [hy]))
    rw [List.length_erase_of_mem hx] at this
    have := List.length_pos_of_mem hx
    simp only [List.length_cons]; omega
theorem str_len {x y : Bag} (hx : StrR x) (hy : StrR y) (h : ∀ r ∈ x, r ∈ y) (hn : x ≠ y) : x.length + 1 ≤ y.length := by
  have nd : x.Nodup := hx.imp fun h => h.2
  by_cases e : ∃ r ∈ y, r ∉ x
  · obtain ⟨r, hr, hx⟩ := e
    have := nodup_leR (a := r :: x) (b := y) (List.nodup_cons.2 ⟨hx, nd⟩) fun z hz => by
      rcases List.mem_cons.1 hz with rfl | hz
      · exact hr
      · exact h z hz
    simpa using this
  · exact absurd (str_uniqQ hx hy fun r => ⟨h r, fun hr => Classical.byContradiction fun hc => e ⟨r, hr, hc⟩⟩) hn
theorem loopX_ok {sF : Bag} (hE : EOk E) (hs : In12 s) : ∀ (m : Nat) (x : Bag) (vars : List Bag), XOk E s x → 13 ≤ m + x.length → ∃ X v, loopV bodyN [sortR E, sF] m x vars = (0, X, v) ∧ XOk E s X ∧ ∀ e ∈ E, (e.1, (0 : Int)) ∈ X → (e.2, (0 : Int)) ∈ X
  | 0, x, vars, hx, hm => by have := hx.len hE hs; omega
  | m + 1, x, vars, hx, hm => by
    obtain ⟨y, h1, h2, h3, h4⟩ := roundX (sF := sF) hE hs hx
    rw [loopV, h1, if_pos rfl]
    show ∃ X v, (if sortR x = sortR y then _ else _) = _ ∧ _
    rw [hx.str.sorted, h2.str.sorted]
    by_cases e : x = y
    · rw [if_pos e]
      exact ⟨x, vars, rfl, hx, h4 e⟩
    · rw [if_neg e]
      have := str_len hx.str h2.str h3 e
      exact loopX_ok hE hs m y _ h2 (by omega)
def wantS (S : List Int) : Bag := ((List.range 12).filter fun (k : Nat) => decide ((k : Int) ∈ S)).map fun (k : Nat) => ((k : Int), (0 : Int))
theorem want_str {S : List Int} : StrR (wantS S) := by
  unfold wantS StrR
  rw [List.pairwise_map]
  refine (List.Pairwise.sublist List.filter_sublist List.pairwise_lt_range).imp fun {a b} h => ⟨leR_iff.2 (.inl (by simp only; omega)), fun e => ?_⟩
  have := congrArg Prod.fst e
  simp only at this
  omega
/-- What the graph tells. -/
theorem reach_run (hE : EOk E) (hs : In12 s) : ∃ v, runG (othO [E, [(s, 0)]]) (reachN 20) [] [] = (0, [sortR E, [(s, 0)], wantS (roundsS E s 12)], v) := by
  have hx : XOk E s [(s, 0)] := ⟨by simp [StrR], fun r hr => by simp at hr; subst hr; exact ⟨rfl, .base⟩, by simp⟩
  obtain ⟨X, v, h1, h2, h3⟩ := loopX_ok (sF := [(s, 0)]) hE hs 20 [(s, 0)] [[(s, 0)]] hx (by simp)
  have e : X = wantS (roundsS E s 12) := by
    refine str_uniqQ h2.str want_str fun r => ?_
    have cl : ∀ k, Rch E s k → (k, (0 : Int)) ∈ X := fun k hk => by
      induction hk with
      | base => exact h2.base
      | step _ he ih => exact h3 _ he ih
    unfold wantS
    simp only [List.mem_map, List.mem_filter, List.mem_range, decide_eq_true_eq]
    constructor
    · intro hr
      obtain ⟨a, b⟩ := h2.mem r hr
      have i := b.in12 hE hs
      unfold In12 at i
      refine ⟨r.1.toNat, ⟨by omega, ?_⟩, Prod.ext (by simp only; omega) a.symm⟩
      rw [Int.toNat_of_nonneg i.1]
      exact (rounds_iff hE hs).2 b
    · rintro ⟨k, ⟨_, hk⟩, rfl⟩
      exact cl _ ((rounds_iff hE hs).1 hk)
  refine ⟨v, ?_⟩
  unfold reachN
  rw [runG_go (x := sortR E) (v := []) (b := []) (by rw [stepG_oth (by decide)]; rfl)]
  rw [runG_go (x := [(s, 0)]) (v := []) (b := []) (by rw [stepG_oth (by decide)]; rfl)]
  rw [runG_go (x := X) (v := v) (b := []) (by
    rw [stepG_oth (by rfl)]
    show loopV bodyN [sortR E, [(s, 0)]] 20 [(s, 0)] [[(s, 0)]] = _
    exact h1)]
  rw [e]
  rfl
end
end Go.Proofs.Ytfafgnmlnhklaaa
