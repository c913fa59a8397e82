/- The reference's Eval; what is told is the same; EvalTells, EvalOrder. -/
import Derived.Test.YtfafgnmlnhklaaaGreatAG20
namespace Go.Proofs.YtfafgnmlnhklaaaGreat
open Go.Ab
set_option linter.unusedVariables false
set_option linter.unusedSimpArgs false

section
variable {own F F2 F3 X : Nat → Prop} {h h' h0 : Heap} {q q3 q7 qi qb : Option SL} {ls bags vars : List Bag} {Q : AV → Heap → Prop} {l : List NT} {out : Int} {inputs : List Bag}
set_option maxRecDepth 20000 in
/-- Bags, of the reference. -/
theorem c13 (R : NodesR h q l) (G : InGG F h q3 inputs) (ok : OkG l out) (may : ∀ b ∈ inputs, mayC b = 0)
    (h1 : (runG (othO inputs) l [] []).1 ≠ 0 → ∀ h', Ext h h' → Q (.tup [.sl none, .sl none, .int .i64 (runG (othO inputs) l [] []).1]) h')
    (h2 : (runG (othO inputs) l [] []).1 = 0 → ∀ q4 q5 h', Ext h h' → InGG (fun b => b < h'.length) h' q4 (runG (othO inputs) l [] []).2.1 → InGG (fun b => b < h'.length) h' q5 (runG (othO inputs) l [] []).2.2 → (∀ b ∈ (runG (othO inputs) l [] []).2.1, GoodB b) → Q (.tup [.sl q4, .sl q5, .int .i64 0]) h') :
    AC Tryz.prog 13 [.agg [.sl q, .int .i64 out], .sl q3] h Q := ac13 (by
  unfold vc13
  rw [R.len, G.len]
  have okl := ok.len
  refine ⟨fun xs h9 => ∃ (i : Nat) (own : Nat → Prop) (q4 q5 : Option SL) (bags vars : List Bag), xs = [.sl q4, .sl q5, .int .i64 i] ∧ i ≤ l.length ∧ bags.length = i ∧ Row h.length Any own h9 q4 bags ∧ InGG (fun b => ¬ own b) h9 q5 vars ∧ Ext h h9 ∧ (∀ b ∈ bags, GoodB b) ∧ runG (othO inputs) l [] [] = runG (othO inputs) (l.drop i) bags vars, fun xs _ => match xs with | [_, _, .int _ i] => (l.length - i).toNat | _ => 0, ⟨0, _, none, none, [], [], rfl, by omega, rfl, .nil, ⟨[], rfl, rfl, (fun s hs => by cases hs), by simp⟩, .refl _, by simp, rfl⟩, ?_⟩
  rintro q4 q5 n6 h9 ⟨i, own, q4', q5', bags, vars, hxs, hi, hbl, W, V, x9, gb, er⟩
  simp only [List.cons.injEq, AV.int.injEq, AV.sl.injEq, true_and, and_true] at hxs
  obtain ⟨rfl, rfl, rfl⟩ := hxs
  refine vif_mk (fun g => ?_) (fun g => ?_)
  · replace g := of_decide_eq_true g
    have hn : l[i]? = some l[i] := List.getElem?_eq_getElem (by omega)
    have hd : l.drop i = l[i] :: l.drop (i + 1) := List.drop_eq_getElem_cons (by omega)
    generalize hnn : l[i] = n at *
    have hP := ok.node i n hn
    rw [hd, runG] at er
    have w : wrapK .i64 ((i : Int) + 1) = ((i + 1 : Nat) : Int) := by rw [wrapK_i64 ⟨by omega, by omega⟩]; omega
    rw [w]
    have fin : ∀ {h20 : Heap} {q21 q5' : Option SL} {y : Bag} {vars' : List Bag}, stepG (othO inputs) n bags vars = (0, y, vars') → Ext h9 h20 → HasL recE h20 q21 y → (∀ u, q21 = some u → ¬ own u.b) → GoodB y → InGG (fun b => ¬ own b) h20 q5' vars' →
        PNew [.sl q21] true h20 fun a h22 => PAppendS 1 24 q4 (some ⟨a, 0, 1, 1, 0⟩) h22 fun q27 h28 => ((some [.sl q, .int .i64 out] : Option (List AV)) = some [.sl q, .int .i64 out] ∧ True) ∧ (∃ (i' : Nat) (own : Nat → Prop) (q4 q5 : Option SL) (bags vars : List Bag), [AV.sl q27, .sl q5', .int .i64 ((i + 1 : Nat) : Int)] = [.sl q4, .sl q5, .int .i64 i'] ∧ i' ≤ l.length ∧ bags.length = i' ∧ Row h.length Any own h28 q4 bags ∧ InGG (fun b => ¬ own b) h28 q5 vars ∧ Ext h h28 ∧ (∀ b ∈ bags, GoodB b) ∧ runG (othO inputs) l [] [] = runG (othO inputs) (l.drop i') bags vars) ∧ ((l.length : Int) - ((i + 1 : Nat) : Int)).toNat < ((l.length : Int) - (i : Int)).toNat := by
      intro h20 q21 q5' y vars' hs x20 H21 f21 g21 V20
      have W20 := W.ext x20
      refine W20.push (by have := x9.len; have := x20.len; omega) H21 (fun u hu => ⟨f21 u hu, trivial⟩) (by omega) fun q' h' own' R' K' l' o' => ?_
      rw [hs, if_pos rfl] at er
      refine ⟨⟨rfl, trivial⟩, ⟨i + 1, own', q', q5', _, vars', rfl, by omega, by rw [List.length_append, hbl]; rfl, R', ?_, fun b C hC => K' b C (fun hb => by have := W.low b hb; have := lt_of_get hC; omega) (x20 _ _ (x9 _ _ hC)), fun b hb => ?_, er⟩, by omega⟩
      · refine ((V20.live).keeps K' (fun b hb => hb.1)).imp fun b hb ho => ?_
        rcases o' b ho with a | a
        · exact hb.1 a
        · omega
      · rcases List.mem_append.1 hb with a | a
        · exact gb b a
        · simp only [List.mem_singleton] at a; subst a; exact g21
    refine R.idx (i := i) (by omega) rfl fun p7 c n' hn' hc7 Rc0 => ⟨_, _, _, _, _, _, x9.cells hc7, ?_⟩
    rw [hn] at hn'
    obtain rfl : n = n' := Option.some.inj hn'
    obtain ⟨e1, e2, e3, e4⟩ := Rc0.same
    have Rc := Rc0.mono x9
    have hk := okN_isOp hP
    have nf : (n.op = 1 ∨ n.op = 9) → isOpN n = false := fun h => by
      cases hh : isOpN n with
      | false => rfl
      | true => have := hk.1 hh; omega
    have fresh : ∀ {b : Nat}, h9.length ≤ b → ¬ own b := fun hb ho => by have := W.live _ ho; omega
    have eta : AV.agg [.int .i64 n.op, .sl c.qi, .int .i64 n.k, .int .i64 n.a, .int .i64 n.A, .sl c.qb] = .agg c.cs := by rw [← e1, ← e2, ← e3, ← e4]; rfl
    rw [e1, e2, e3, e4]
    refine vif_mk (fun g1 => ?_) (fun g1 => vif_mk (fun g2 => ?_) (fun g2 => ?_))
    · have g1 : n.op = 1 := by simpa using g1
      have hf := nf (.inl g1)
      have es : stepG (othO inputs) n bags vars = (0, sortR (inputs.getD n.A.toNat []), vars) := by unfold stepG othO; simp [hf, g1]
      rcases okN_kinds hP hf with ⟨h9', _⟩ | ⟨_, hA0, hA1⟩
      · omega
      refine vif_mk (fun g3 => ?_) (fun g3 => ?_)
      · have g3 := of_decide_eq_true g3
        refine (G.mono x9).idx (i := n.A.toNat) (by omega) (by omega) fun pp s b hb hc Hb f => ⟨s, hc, ?_⟩
        have hbm := may b (List.mem_of_getElem? hb)
        have := (mayC0 hbm).2
        have eb : inputs.getD n.A.toNat [] = b := by rw [List.getD_eq_getElem?_getD, hb]; rfl
        rw [eb] at es
        refine c19 Hb (by omega) fun q18 h17 x17 H17 f17 => ⟨q18, rfl, ?_⟩
        exact fin es x17 H17 (fun u hu => fresh (f17 u hu)) (good_sort hbm) (V.mono x17)
      · have g3 := of_decide_eq_false g3
        have e0 : inputs.getD n.A.toNat [] = [] := by rw [List.getD_eq_getElem?_getD, List.getElem?_eq_none (by omega)]; rfl
        rw [e0] at es
        have es0 : sortR ([] : Bag) = [] := good_nil.self
        rw [es0] at es
        exact fin (q21 := none) es (.refl _) rfl (fun u hu => by cases hu) good_nil V
    · have g1 : n.op ≠ 1 := by simpa using g1
      have g2 : n.op = 9 := by simpa using g2
      have hf := nf (.inr g2)
      have es : stepG (othO inputs) n bags vars = loopV n.body bags n.A.toNat (loopX n bags) [loopX n bags] := by unfold stepG othO; simp [hf, g2]
      obtain ⟨hi1, hA, hB⟩ : n.ins.length = 1 ∧ (1 ≤ n.A ∧ n.A ≤ 64) ∧ OkB n.body i := by
        rcases okN_kinds hP hf with ⟨_, a⟩ | ⟨h1', _⟩
        · exact a
        · omega
      refine Rc.ins.idx (E := intE) (by omega) (by omega) fun p30 y hy hcy => ⟨y, hcy, ?_⟩
      have hy0 : n.ins[0]? = some y := by simpa using hy
      obtain ⟨y0, y1⟩ := hP.1.ins y (List.mem_of_getElem? hy0)
      refine W.bgs.idx (i := y.toNat) (by omega) (by omega) fun p32 q33 x hx hc33 H33 f33 => ⟨q33, hc33, ?_⟩
      have ex : loopX n bags = x := by
        unfold loopX
        rw [List.getD_eq_getElem?_getD, List.getD_eq_getElem?_getD, hy0]
        simp only [Option.getD_some]
        rw [hx]; rfl
      rw [ex] at es
      have gx := gb x (List.mem_of_getElem? hx)
      rw [eta]
      refine c33 Rc W.bgs.inGG H33 (by rw [hbl]; exact hB) gb gx hA (fun hne h35 x35 => ⟨none, _, rfl, vif_mk (fun g => absurd (by simpa using g) hne) (fun _ => vif_mk (fun _ => ?_) (fun g => absurd (by simpa using g) hne))⟩) (fun hz q36 h35 x35 V35 => ⟨q36, 0, rfl, vif_mk (fun _ => ?_) (fun g => by simp at g)⟩)
      · rw [es] at er
        rw [if_neg hne] at er
        rw [er] at h1
        exact h1 hne h35 (x9.trans x35)
      · have hlast := loopV_last (body := n.body) (outer := bags) (m := n.A.toNat) (x := x) (vars := [x]) rfl hz
        obtain ⟨gy, gv, lv⟩ := loopV_good (fun b hb => (gb b hb).1) gx (vars := [x]) (by simpa using gx) hz
        rw [List.getLast?_eq_getElem?] at hlast
        have hlt := lt_of_get hlast
        simp only [List.length_cons, List.length_nil] at lv
        rw [V35.len, wrapK_i64 ⟨by omega, by omega⟩]
        have V35' : InGG (fun b => ¬ own b) h35 q36 (loopV n.body bags n.A.toNat x [x]).2.2 := V35.imp fun b hb ho => by
          rcases hb with a | ⟨u, hu, rfl⟩
          · exact fresh a ho
          · exact (f33 u hu).1 ho
        refine V35'.idx (i := (loopV n.body bags n.A.toNat x [x]).2.2.length - 1) (by omega) (by omega) fun p38 q39 b hb hc39 H39 f39 => ⟨q39, hc39, vif_mk (fun g => by simp at g) (fun _ => ?_)⟩
        rw [hlast] at hb
        obtain rfl := Option.some.inj hb
        refine fin ?_ x35 H39 f39 gy V35'
        rw [es]
        exact Prod.ext hz rfl
    · have g1 : n.op ≠ 1 := by simpa using g1
      have g2 : n.op ≠ 9 := by simpa using g2
      have hop : isOpN n = true := by
        cases hh : isOpN n with
        | true => rfl
        | false => rcases okN_kinds hP hh with a | a <;> omega
      have es : stepG (othO inputs) n bags vars = ((opR n (insOf n bags)).1, (opR n (insOf n bags)).2, vars) := by unfold stepG; rw [if_pos hop]
      have arl : arityV n.op ≤ 2 := by unfold arityV; repeat' split
                                       all_goals omega
      have il := hP.1.len
      have hi1 : ∀ l ∈ insOf n bags, l.length ≤ 1000000 := by
        intro l hl
        obtain ⟨y, _, rfl⟩ := List.mem_map.1 hl
        have := (getD_good (i := y.toNat) gb).len
        omega
      have eA : (slLen c.qi : Nat) = n.ins.length := Rc.ins.len
      have eB : (slLen c.qb : Nat) = n.body.length := Rc.body.len
      refine c34 W.bgs.inGG Rc.ins (by rw [hbl]; exact hP.1.ins) (by omega) fun q34 h33 x33 G33 => ⟨q34, rfl, rfl, ?_⟩
      refine c23 G33 (by rw [List.length_map]; omega) hi1 (fun hn h36 x36 => ⟨none, _, rfl, vif_mk (fun _ => ?_) (fun g => absurd (by simpa using g) hn)⟩) (fun hz q37 h36 x36 H36 f36 => ⟨q37, 0, rfl, vif_mk (fun g => by simp at g) (fun _ => ?_)⟩)
      · rw [eA, eB] at hn ⊢
        have e : (opR n (insOf n bags)).1 = applyE n.op n.ins.length n.k n.a n.A n.body.length (n.ins.map fun i => bags.getD i.toNat []) := by
          unfold opR
          exact congrArg Prod.fst (if_neg hn)
        rw [es] at er
        simp only at er
        rw [e, if_neg hn] at er
        rw [er] at h1
        exact h1 hn h36 (x9.trans (x33.trans x36))
      · rw [eA, eB] at hz
        have e : opR n (insOf n bags) = (0, sortR (madeV n.op n.k n.a (insOf n bags))) := by
          unfold opR
          exact if_pos hz
        have gg := opR_good (n := n) (ins := insOf n bags) (by rw [e])
        rw [e] at es gg
        exact fin es (x33.trans x36) H36 (fun u hu => fresh (by have := f36 u hu; have := x33.len; omega)) gg (V.mono (x33.trans x36))
  · replace g := of_decide_eq_false g
    have e : l.drop i = [] := List.drop_eq_nil_of_le (by omega)
    rw [e] at er
    rw [er] at h2
    exact h2 rfl q4 q5 h9 x9 W.bgs.inGG ((V.live).imp fun b hb => hb.2) gb)
/-- May, of the reference. -/
theorem c32 (G : InGG F h q3 inputs) (hil : ∀ x ∈ inputs, x.length ≤ 1000000) (hQ : Q (.int .i64 (if inputs.length > 4 then 1 else insE inputs)) h) : AC Tryz.prog 32 [.sl q3] h Q := ac32 (by
  unfold vc32
  rw [G.len]
  refine vif_mk (fun g => ?_) (fun g => ?_)
  · have g := of_decide_eq_true g
    rw [if_pos (by omega)] at hQ; exact hQ
  have g := of_decide_eq_false g
  rw [if_neg (by omega)] at hQ
  refine ⟨fun xs h14 => h14 = h ∧ ∃ i : Nat, xs = [.int .i64 i] ∧ i ≤ inputs.length ∧ insE (inputs.take i) = 0, fun xs _ => match xs with | [.int _ i] => (inputs.length - i).toNat | _ => 0, ⟨rfl, 0, rfl, by omega, rfl⟩, ?_⟩
  rintro n11 h14 ⟨rfl, i, hx, hi, he⟩
  simp only [List.cons.injEq, AV.int.injEq, true_and, and_true] at hx
  subst hx
  refine vif_mk (fun g3 => ?_) (fun g3 => ?_)
  · replace g3 := of_decide_eq_true g3
    refine G.idx (i := i) (by omega) rfl fun pp s b hb hc Hb f => ⟨s, hc, ?_⟩
    have hlm := hil b (List.mem_of_getElem? hb)
    have happ := insE_app (l := b) he
    have e : inputs.take (i + 1) = inputs.take i ++ [b] := by rw [List.take_add_one, hb]; rfl
    refine o45 Hb (by omega) ⟨_, rfl, vif_mk (fun g4 => ?_) (fun g4 => ?_)⟩
    · have g4 : mayC b ≠ 0 := by simpa using g4
      have hE : insE inputs = mayC b := by
        rw [← happ, ← e]
        conv => lhs; rw [← List.take_append_drop (i + 1) inputs]
        exact insE_pre (by rw [e, happ]; exact g4)
      rw [hE] at hQ
      exact hQ
    · have g4 : mayC b = 0 := by simpa using g4
      rw [wrapK_i64 ⟨by omega, by omega⟩]
      exact ⟨trivial, ⟨rfl, i + 1, by simp, by omega, by rw [e, happ]; exact g4⟩, by simp only; omega⟩
  · replace g3 := of_decide_eq_false g3
    have e : inputs.take i = inputs := List.take_of_length_le (by omega)
    rw [e] at he
    rw [he] at hQ
    exact hQ)
/-- Eval, of the reference. -/
theorem c10 (R : NodesR h q l) (L : Lens l) (G : InGG F h q3 inputs) (hil : ∀ x ∈ inputs, x.length ≤ 1000000)
    (h1 : evalE l out inputs ≠ 0 → ∀ h', Ext h h' → Q (.tup [.agg [.sl none, .int .i64 0, .sl none], .int .i64 (evalE l out inputs)]) h')
    (h2 : evalE l out inputs = 0 → ∀ qo qv h', Ext h h' → HasL recE h' qo ((runG (othO inputs) l [] []).2.1.getD out.toNat []) → InGG (fun b => b < h'.length) h' qv (runG (othO inputs) l [] []).2.2 → Q (.tup [.agg [.sl qo, .int .i64 (((runG (othO inputs) l [] []).2.2.length - 1 : Nat) : Int), .sl qv], .int .i64 0]) h') :
    AC Tryz.prog 10 [.agg [.sl q, .int .i64 out], .sl q3] h Q := ac10 (by
  unfold vc10
  refine c31 R L fun b h5 x5 hb => ⟨b, rfl, ?_⟩
  by_cases ok : OkG l out
  · rw [hb.2 ok]
    refine vif_mk (fun g => by simp at g) (fun _ => ?_)
    have ev : evalE l out inputs = if inputs.length > 4 then 1 else if insE inputs = 0 then (runG (othO inputs) l [] []).1 else insE inputs := by unfold evalE; rw [if_pos ok]
    refine c32 (G.mono x5) hil ⟨_, rfl, ?_⟩
    by_cases hm : inputs.length > 4
    · rw [if_pos hm] at ev ⊢
      rw [ev] at h1
      exact vif_mk (fun _ => h1 (by decide) h5 x5) (fun g => by simp at g)
    rw [if_neg hm] at ev ⊢
    by_cases hi : insE inputs = 0
    · rw [if_pos hi] at ev
      rw [hi]
      refine vif_mk (fun g => by simp at g) (fun _ => ?_)
      rw [ev] at h1 h2
      refine c13 (R.mono x5) (G.mono x5) ok (insE0 hi) (fun hne h11 x11 => ⟨none, none, _, rfl, vif_mk (fun _ => h1 hne h11 (x5.trans x11)) (fun g => absurd (by simpa using g) hne)⟩) (fun hz q12 q13 h11 x11 G12 G13 gb => ⟨q12, q13, 0, rfl, vif_mk (fun g => by simp at g) (fun _ => ?_)⟩)
      obtain ⟨_, gv, lv⟩ := run_good (ev.trans hz)
      have hlen := runG_len hz
      have h2 := h2 hz
      generalize runG (othO inputs) l [] [] = r at *
      have oko := ok.out
      simp only [List.length_nil, Nat.zero_add] at hlen
      refine G12.idx (i := out.toNat) (by omega) (by omega) fun p15 q16 b hb hc Hb f => ⟨q16, hc, ?_⟩
      have eb : r.2.1.getD out.toNat [] = b := by rw [List.getD_eq_getElem?_getD, hb]; rfl
      rw [eb] at h2
      have h2 := h2 q16 q13 h11 (x5.trans x11) Hb G13
      rw [G13.len]
      refine vif_mk (fun g => ?_) (fun g => ?_)
      · have g := of_decide_eq_true g
        rw [wrapK_i64 ⟨by omega, by omega⟩]
        have e : ((r.2.2.length : Nat) : Int) - 1 = ((r.2.2.length - 1 : Nat) : Int) := by omega
        rw [e]; exact h2
      · have g := of_decide_eq_false g
        have e : r.2.2.length - 1 = 0 := by omega
        rw [e] at h2; exact h2
    · rw [if_neg hi] at ev
      rw [ev] at h1
      exact vif_mk (fun _ => h1 hi h5 x5) (fun g => absurd (by simpa using g) hi)
  · have : b = false := by
      cases b with
      | false => rfl
      | true => exact absurd (hb.1 rfl) ok
    subst this
    have ev : evalE l out inputs = 170 := by unfold evalE; rw [if_neg ok]
    rw [ev] at h1
    exact vif_mk (fun _ => h1 (by decide) h5 x5) (fun g => by simp at g))

/-- SameBags -/
theorem c14 {q1 q2 : Option SL} (G : InGG F h q1 ls) (G2 : InGG F2 h q2 ls) (hl : ls.length ≤ 1000000) (hb : ∀ b ∈ ls, b.length ≤ 1000000) (hQ : Q (.bool true) h) : AC Tryz.prog 14 [.sl q1, .sl q2] h Q := ac14 (by
  unfold vc14
  rw [G.len, G2.len]
  refine vif_mk (fun g => by simp at g) (fun _ => ?_)
  refine ⟨fun xs h14 => h14 = h ∧ ∃ i : Nat, xs = [.int .i64 i] ∧ i ≤ ls.length, fun xs _ => match xs with | [.int _ i] => (ls.length - i).toNat | _ => 0, ⟨rfl, 0, rfl, by omega⟩, ?_⟩
  rintro n11 h14 ⟨rfl, i, hx, hi⟩
  simp only [List.cons.injEq, AV.int.injEq, true_and, and_true] at hx
  subst hx
  refine vif_mk (fun g3 => ?_) (fun g3 => hQ)
  replace g3 := of_decide_eq_true g3
  refine G.idx (i := i) (by omega) rfl fun p s b hb1 hc Hb f => ⟨s, hc, G2.idx (i := i) (by omega) rfl fun p2 s2 b2 hb2 hc2 Hb2 f2 => ⟨s2, hc2, ?_⟩⟩
  rw [hb1] at hb2
  obtain rfl := Option.some.inj hb2
  have := hb b (List.mem_of_getElem? hb1)
  refine o17 Hb Hb2 (by omega) ⟨_, rfl, vif_mk (fun g => by simp at g) (fun _ => ?_)⟩
  rw [wrapK_i64 ⟨by omega, by omega⟩]
  exact ⟨trivial, ⟨rfl, i + 1, by simp, by omega⟩, by simp only; omega⟩)
/-- Same, of what was told. -/
theorem c12 {q1 q3 q4 q6 : Option SL} {a : Bag} {n : Int} (H1 : HasL recE h q1 a) (H4 : HasL recE h q4 a) (ha : a.length ≤ 1000000) (G : InGG F h q3 ls) (G2 : InGG F2 h q6 ls) (hl : ls.length ≤ 1000000) (hb : ∀ b ∈ ls, b.length ≤ 1000000) (hQ : Q (.bool true) h) :
    AC Tryz.prog 12 [.agg [.sl q1, .int .i64 n, .sl q3], .agg [.sl q4, .int .i64 n, .sl q6]] h Q := ac12 (by
  unfold vc12
  refine vif_mk (fun _ => ?_) (fun g => by simp at g)
  exact o17 H1 H4 (by omega) ⟨_, rfl, vif_mk (fun _ => c14 G G2 hl hb ⟨_, rfl, hQ⟩) (fun g => by simp at g)⟩)
theorem inGG_nil : InGG Any h none [] := ⟨[], rfl, rfl, (fun s hs => by cases hs), by simp⟩

set_option maxRecDepth 20000 in
/-- EvalTells -/
theorem s3 (s8 : ∀ {h : Heap} {Q : AV → Heap → Prop}, Q (.bool true) h → AC Tryz.prog 8 [] h Q) (R : NodesR h q l) (G : InGG (fun b => b < h.length) h q3 inputs) (hQ : ∀ h', Q (.bool true) h') : AC Tryz.prog 3 [.agg [.sl q, .int .i64 out], .sl q3] h Q := ac3 (by
  unfold vc3
  refine c7 R G fun b hb => ⟨b, rfl, vif_mk (fun _ => s8 ⟨_, rfl, hQ _⟩) (fun g => ?_)⟩
  obtain ⟨hs, hil, hi5⟩ := hb g
  have L := hs.lens
  have hil1 : ∀ x ∈ inputs, x.length ≤ 1000000 := fun x hx => by have := hi5 x hx; omega
  have up : ∀ {h'}, Ext h h' → InGG (fun b => b < h'.length) h' q3 inputs := fun x => ((G.mono x).live).imp fun b hb => hb.2
  by_cases hz : evalE l out inputs = 0
  · obtain ⟨ok, hl4, hi0, hz2⟩ := evalE_zero hz
    obtain ⟨gb, gv, lv⟩ := run_good hz
    have hlen := runG_len hz2
    have okl := ok.len
    simp only [List.length_nil, Nat.zero_add] at hlen
    refine c9 R L G hil1 (fun hn => absurd hz hn) fun _ q12 q14 h11 x11 H12 G14 => ⟨q12, _, q14, 0, rfl, ?_⟩
    refine c10 (R.mono x11) L (up x11) hil1 (fun hn => absurd hz hn) fun _ q18 q20 h17 x17 H18 G20 => ⟨q18, _, q20, 0, rfl, ?_⟩
    have x2 := x11.trans x17
    refine c11 (R.mono x2) L (up x2) hil1 (fun hn => absurd hz hn) fun _ q24 h23 x23 G24 => ⟨q24, 0, rfl, s8 ⟨true, rfl, ?_⟩⟩
    have x3 := x2.trans x23
    refine vif_mk (fun g => by simp at g) (fun _ => vif_mk (fun g => by simp at g) (fun _ => vif_mk (fun g => by simp at g) (fun _ => ?_)))
    have go : GoodB ((runG (othO inputs) l [] []).2.1.getD out.toNat []) := getD_good gb
    have gol := go.len
    refine c12 (H12.mono (x17.trans x23)) (H18.mono x23) (by omega) (G14.mono (x17.trans x23)) (G20.mono x23) (by omega) (fun b hb => by have := (gv b hb).len; omega) ⟨true, rfl, vif_mk (fun g => by simp at g) (fun _ => vif_mk (fun g => by simp at g) (fun _ => ?_))⟩
    refine c13 (R.mono x3) (G.mono x3) ok (insE0 hi0) (fun hn => absurd hz2 hn) fun _ q34 q35 h33 x33 G34 G35 _ => ⟨q34, q35, 0, rfl, ?_⟩
    exact c14 (G24.mono x33) G34 (by omega) (fun b hb => by have := (gb b hb).len; omega) ⟨true, rfl, hQ _⟩
  · refine c9 R L G hil1 (fun _ h11 x11 => ⟨none, _, none, _, rfl, ?_⟩) (fun hn => absurd hn hz)
    refine c10 (R.mono x11) L (up x11) hil1 (fun _ h17 x17 => ⟨none, _, none, _, rfl, ?_⟩) (fun hn => absurd hn hz)
    have x2 := x11.trans x17
    refine c11 (R.mono x2) L (up x2) hil1 (fun _ h23 x23 => ⟨none, _, rfl, s8 ⟨true, rfl, ?_⟩⟩) (fun hn => absurd hn hz)
    refine vif_mk (fun g => by simp at g) (fun _ => vif_mk (fun g => by simp at g) (fun _ => vif_mk (fun g => by simp at g) (fun _ => ?_)))
    refine c12 (a := []) (ls := []) rfl rfl (by simp) inGG_nil inGG_nil (by simp) (by simp) ⟨true, rfl, vif_mk (fun g => by simp at g) (fun _ => vif_mk (fun _ => hQ _) (fun g => absurd (by simpa using g) hz))⟩)

theorem insE_sort : ∀ {ls : List Bag}, insE (ls.map sortR) = insE ls
  | [] => rfl
  | b :: ls => by
    simp only [List.map_cons, insE]
    rw [mayC_perm (sortR_perm b), insE_sort]
theorem othO_sort {inputs : List Bag} : othO (inputs.map sortR) = othO inputs := by
  funext n bags vars
  unfold othO
  split
  · rfl
  · congr 2
    rw [List.getD_eq_getElem?_getD, List.getD_eq_getElem?_getD, List.getElem?_map]
    cases inputs[n.A.toNat]? with
    | none => rfl
    | some b =>
      simp only [Option.map_some, Option.getD_some]
      exact sortR_eq (sortR_sorted b) (.refl _)
theorem evalE_sort {inputs : List Bag} : evalE l out (inputs.map sortR) = evalE l out inputs := by
  unfold evalE
  rw [List.length_map, insE_sort, othO_sort]
set_option maxRecDepth 20000 in
/-- EvalOrder -/
theorem s5 (s8 : ∀ {h : Heap} {Q : AV → Heap → Prop}, Q (.bool true) h → AC Tryz.prog 8 [] h Q) (R : NodesR h q l) (G : InGG (fun b => b < h.length) h q3 inputs) (hQ : ∀ h', Q (.bool true) h') : AC Tryz.prog 5 [.agg [.sl q, .int .i64 out], .sl q3] h Q := ac5 (by
  unfold vc5
  refine c7 R G fun b hb => ⟨b, rfl, vif_mk (fun _ => s8 ⟨_, rfl, hQ _⟩) (fun g => ?_)⟩
  obtain ⟨hs, hil, hi5⟩ := hb g
  have L := hs.lens
  have hil1 : ∀ x ∈ inputs, x.length ≤ 1000000 := fun x hx => by have := hi5 x hx; omega
  have up : ∀ {h'}, Ext h h' → InGG (fun b => b < h'.length) h' q3 inputs := fun x => ((G.mono x).live).imp fun b hb => hb.2
  rw [G.len]
  refine ⟨fun xs h14 => ∃ (q10 : Option SL) (i : Nat), xs = [.sl q10, .int .i64 i] ∧ i ≤ inputs.length ∧ Ext h h14 ∧ Made h.length h14 q10 ((inputs.take i).map sortR), fun xs _ => match xs with | [_, .int _ i] => (inputs.length - i).toNat | _ => 0, ⟨none, 0, rfl, by omega, .refl _, by simpa using Made.nil⟩, ?_⟩
  rintro q10 n11 h14 ⟨q10', i, hx, hi, x14, M14⟩
  simp only [List.cons.injEq, AV.int.injEq, AV.sl.injEq, true_and, and_true] at hx
  obtain ⟨rfl, rfl⟩ := hx
  refine vif_mk (fun g1 => ?_) (fun g1 => ?_)
  · replace g1 := of_decide_eq_true g1
    refine (G.mono x14).idx (i := i) (by omega) rfl fun p s b hb hc Hb f => ⟨s, hc, ?_⟩
    have hlb := hi5 b (List.mem_of_getElem? hb)
    refine c19 Hb (by omega) fun q19 h18 x18 H18 f18 => ⟨q19, rfl, ?_⟩
    refine Made.put M14 x14.len x18 H18 (fun u t hu ht => ?_) (by rw [List.length_map, List.length_take]; omega) fun q' h' M' K' l' => ?_
    · have := f18 u hu
      have := M14.live t ht
      omega
    · rw [wrapK_i64 ⟨by omega, by omega⟩]
      refine ⟨⟨rfl, trivial⟩, ⟨q', i + 1, by simp, by omega, fun b C hC => K' b C (lt_of_get hC) (x18 _ _ (x14 _ _ hC)), ?_⟩, by simp only; omega⟩
      rw [List.take_add_one, hb, List.map_append]
      exact M'
  · replace g1 := of_decide_eq_false g1
    have e : inputs.take i = inputs := List.take_of_length_le (by omega)
    rw [e] at M14
    have G14 := M14.inGG
    have hil2 : ∀ x ∈ inputs.map sortR, x.length ≤ 1000000 := fun x hx => by
      obtain ⟨b, hb, rfl⟩ := List.mem_map.1 hx
      rw [sortR_len]; exact hil1 b hb
    have up2 : ∀ {h'}, Ext h14 h' → InGG (fun b => b < h'.length) h' q10 (inputs.map sortR) := fun x => ((G14.mono x).live).imp fun b hb => hb.2
    by_cases hz : evalE l out inputs = 0
    · obtain ⟨gb, gv, lv⟩ := run_good hz
      refine c9 (R.mono x14) L (up x14) hil1 (fun hn => absurd hz hn) fun _ q26 q28 h25 x25 H26 G28 => ⟨q26, _, q28, 0, rfl, ?_⟩
      refine c9 (R.mono (x14.trans x25)) L (up2 x25) hil2 (fun hn => absurd (evalE_sort.trans hz) hn) fun _ q32 q34 h31 x31 H32 G34 => ⟨q32, _, q34, 0, rfl, s8 ⟨true, rfl, ?_⟩⟩
      rw [othO_sort] at H32 G34 ⊢
      refine vif_mk (fun _ => vif_mk (fun _ => ?_) (fun g => by simp at g)) (fun g => by simp at g)
      have go : GoodB ((runG (othO inputs) l [] []).2.1.getD out.toNat []) := getD_good gb
      have gol := go.len
      exact c12 (H26.mono x31) H32 (by omega) (G28.mono x31) G34 (by omega) (fun b hb => by have := (gv b hb).len; omega) ⟨true, rfl, hQ _⟩
    · refine c9 (R.mono x14) L (up x14) hil1 (fun _ h25 x25 => ⟨none, _, none, _, rfl, ?_⟩) (fun hn => absurd hn hz)
      refine c9 (R.mono (x14.trans x25)) L (up2 x25) hil2 (fun _ h31 x31 => ⟨none, _, none, _, rfl, s8 ⟨true, rfl, ?_⟩⟩) (fun hn => absurd (evalE_sort.symm.trans hn) hz)
      rw [evalE_sort]
      refine vif_mk (fun _ => vif_mk (fun _ => ?_) (fun g => by simp at g)) (fun g => by simp at g)
      exact c12 (a := []) (ls := []) rfl rfl (by simp) inGG_nil inGG_nil (by simp) (by simp) ⟨true, rfl, hQ _⟩)
end
end Go.Proofs.YtfafgnmlnhklaaaGreat

/- What a loop comes to is what rounds make: EvalGoes. -/
namespace Go.Proofs.YtfafgnmlnhklaaaGreat
open Go.Ab
set_option linter.unusedVariables false
set_option linter.unusedSimpArgs false

theorem runG_app {oth : Oth} : ∀ {l1 l2 : List NT} {b v : List Bag}, runG oth (l1 ++ l2) b v = if (runG oth l1 b v).1 = 0 then runG oth l2 (runG oth l1 b v).2.1 (runG oth l1 b v).2.2 else ((runG oth l1 b v).1, [], [])
  | [], l2, b, v => by simp [runG]
  | n :: l1, l2, b, v => by
    rw [List.cons_append, runG, runG]
    by_cases h : (stepG oth n b v).1 = 0
    · rw [if_pos h, if_pos h, runG_app]
    · rw [if_neg h, if_neg h]
      simp only [if_neg h]
theorem runG_pre {oth : Oth} : ∀ {l : List NT} {b v : List Bag}, (runG oth l b v).1 = 0 → ∃ t, (runG oth l b v).2.1 = b ++ t
  | [], b, v, _ => ⟨[], by simp [runG]⟩
  | n :: l, b, v, h => by
    rw [runG] at h ⊢
    by_cases hz : (stepG oth n b v).1 = 0
    · rw [if_pos hz] at h ⊢
      obtain ⟨t, e⟩ := runG_pre h
      exact ⟨(stepG oth n b v).2.1 :: t, by rw [e, List.append_assoc]; rfl⟩
    · rw [if_neg hz] at h; exact absurd h hz
theorem runG_vars {inputs : List Bag} : ∀ {l : List NT} {b v : List Bag}, (∀ m ∈ l, m.op ≠ 9) → (runG (othO inputs) l b v).1 = 0 → (runG (othO inputs) l b v).2.2 = v
  | [], b, v, _, _ => rfl
  | n :: l, b, v, hn, h => by
    rw [runG] at h ⊢
    by_cases hz : (stepG (othO inputs) n b v).1 = 0
    · rw [if_pos hz] at h ⊢
      rw [runG_vars (fun m hm => hn m (by simp [hm])) h]
      unfold stepG
      split
      · rfl
      · unfold othO
        rw [if_neg (hn n (by simp))]
    · rw [if_neg hz] at h; exact absurd h hz
theorem run_loop {l : List NT} {out : Int} {inputs : List Bag} {i : Nat} {n : NT} (hz : evalE l out inputs = 0) (hat : loopAt l = some i) (hn : l[i]? = some n) :
    (runG (othO inputs) l [] []).2.1[i]? = some (loopV n.body ((runG (othO inputs) l [] []).2.1.take i) n.A.toNat (loopX n ((runG (othO inputs) l [] []).2.1.take i)) [loopX n ((runG (othO inputs) l [] []).2.1.take i)]).2.1 ∧
    loopV n.body ((runG (othO inputs) l [] []).2.1.take i) n.A.toNat (loopX n ((runG (othO inputs) l [] []).2.1.take i)) [loopX n ((runG (othO inputs) l [] []).2.1.take i)] = (0, (loopV n.body ((runG (othO inputs) l [] []).2.1.take i) n.A.toNat (loopX n ((runG (othO inputs) l [] []).2.1.take i)) [loopX n ((runG (othO inputs) l [] []).2.1.take i)]).2.1, (runG (othO inputs) l [] []).2.2) ∧ n.op = 9 := by
  obtain ⟨ok, _, _, hr⟩ := evalE_zero hz
  have hlt := lt_of_get hn
  have h9 : n.op = 9 := by
    unfold loopAt at hat
    rw [List.findIdx?_eq_some_iff_getElem] at hat
    obtain ⟨a, b, _⟩ := hat
    rw [List.getElem?_eq_getElem a] at hn
    cases hn
    simpa using b
  have hd : l = l.take i ++ n :: l.drop (i + 1) := by
    conv => lhs; rw [← List.take_append_drop i l, List.drop_eq_getElem_cons hlt]
    rw [List.getElem?_eq_getElem hlt] at hn
    cases hn; rfl
  have hop : isOpN n = false := by
    have := okN_isOp (ok.node i n hn)
    cases hh : isOpN n with
    | false => rfl
    | true => have := this.1 hh; omega
  have hno : ∀ m ∈ l.drop (i + 1), m.op ≠ 9 := by
    have h1 := ok.one
    rw [hd] at h1
    unfold loopsV at h1
    rw [List.countP_append, List.countP_cons, if_pos (by simp [h9])] at h1
    have h0 : List.countP (fun n : NT => n.op == 9) (l.drop (i + 1)) = 0 := by omega
    rw [List.countP_eq_zero] at h0
    intro m hm
    simpa using h0 m hm
  have e := runG_app (oth := othO inputs) (l1 := l.take i) (l2 := n :: l.drop (i + 1)) (b := []) (v := [])
  rw [← hd] at e
  by_cases h1 : (runG (othO inputs) (l.take i) [] []).1 = 0
  · have hl1 := runG_len h1
    simp only [List.length_nil, Nat.zero_add, List.length_take] at hl1
    rw [if_pos h1, runG] at e
    generalize runG (othO inputs) (l.take i) [] [] = r1 at *
    have es : stepG (othO inputs) n r1.2.1 r1.2.2 = loopV n.body r1.2.1 n.A.toNat (loopX n r1.2.1) [loopX n r1.2.1] := by unfold stepG othO; simp [hop, h9]
    rw [es] at e
    by_cases h2 : (loopV n.body r1.2.1 n.A.toNat (loopX n r1.2.1) [loopX n r1.2.1]).1 = 0
    · rw [if_pos h2] at e
      rw [e] at hr
      obtain ⟨t, et⟩ := runG_pre hr
      have ev := runG_vars hno hr
      rw [← e] at et ev
      have htk : (runG (othO inputs) l [] []).2.1.take i = r1.2.1 := by rw [et, List.append_assoc, List.take_left' (by omega)]
      rw [htk, ev]
      refine ⟨?_, Prod.ext h2 (Prod.ext rfl rfl), h9⟩
      rw [et, List.append_assoc, List.getElem?_append_right (by omega)]
      have : i - r1.2.1.length = 0 := by omega
      rw [this]; rfl
    · rw [if_neg h2] at e
      rw [e] at hr
      exact absurd hr h2
  · rw [if_neg h1] at e
    rw [e] at hr
    exact absurd hr h1
theorem loopV_chain {body : List NT} {outer : List Bag} : ∀ {m : Nat} {x : Bag} {vars : List Bag}, vars.getLast? = some x → (loopV body outer m x vars).1 = 0 →
    ∃ t, (loopV body outer m x vars).2.2 = vars ++ t ∧ t.length ≤ m ∧ (∀ j a b, vars.length ≤ j + 1 → (vars ++ t)[j]? = some a → (vars ++ t)[j + 1]? = some b → roundV body outer a = (0, b) ∧ sortR a ≠ sortR b) ∧
      (t.length < m → (roundV body outer (loopV body outer m x vars).2.1).1 = 0 ∧ sortR (loopV body outer m x vars).2.1 = sortR (roundV body outer (loopV body outer m x vars).2.1).2)
  | 0, x, vars, hl, h => ⟨[], by simp [loopV], by simp, fun j a b hj ha hb => by rw [List.append_nil] at hb; have := lt_of_get hb; omega, fun h => by simp at h⟩
  | m + 1, x, vars, hl, h => by
    unfold loopV at h ⊢
    by_cases h0 : (roundV body outer x).1 = 0
    · rw [if_pos h0] at h ⊢
      by_cases hs : sortR x = sortR (roundV body outer x).2
      · rw [if_pos hs]
        exact ⟨[], by simp, by simp, fun j a b hj ha hb => by rw [List.append_nil] at hb; have := lt_of_get hb; omega, fun _ => ⟨h0, hs⟩⟩
      · rw [if_neg hs] at h ⊢
        obtain ⟨t, e1, e2, e3, e4⟩ := loopV_chain (m := m) (x := (roundV body outer x).2) (vars := vars ++ [(roundV body outer x).2]) (by simp) h
        refine ⟨(roundV body outer x).2 :: t, by rw [e1, List.append_assoc]; rfl, by simp; omega, fun j a b hj ha hb => ?_, fun ht => e4 (by simp at ht; omega)⟩
        have ea : vars ++ (roundV body outer x).2 :: t = (vars ++ [(roundV body outer x).2]) ++ t := by rw [List.append_assoc]; rfl
        by_cases hjv : vars.length = j + 1
        · have hax : a = x := by
            rw [List.getLast?_eq_getElem?, hjv] at hl
            rw [List.getElem?_append_left (by omega)] at ha
            simp only [Nat.add_sub_cancel] at hl
            rw [hl] at ha
            exact (Option.some.inj ha).symm
          have hbx : b = (roundV body outer x).2 := by
            rw [List.getElem?_append_right (by omega), hjv, Nat.sub_self] at hb
            simpa using hb.symm
          subst hax hbx
          exact ⟨Prod.ext h0 rfl, hs⟩
        · rw [ea] at ha hb
          exact e3 j a b (by rw [List.length_append]; simp; omega) ha hb
    · rw [if_neg h0] at h; exact absurd h h0

section
variable {F : Nat → Prop} {h h' : Heap} {q q3 : Option SL} {ls : List Bag} {Q : AV → Heap → Prop} {l : List NT} {out : Int} {inputs : List Bag}
theorem c18 {q1 q2 : Option SL} {a b : Bag} (H1 : HasL recE h q1 a) (H2 : HasL recE h q2 b) (ha : a.length ≤ 1000000) (hb : b.length ≤ 1000000) (hK : ∀ h', Ext h h' → Q (.bool (decide (sortR a = sortR b))) h') : AC Tryz.prog 18 [.sl q1, .sl q2] h Q := ac18 (by
  unfold vc18
  rw [H1.len, H2.len]
  refine vif_mk (fun _ => ?_) (fun g => ?_)
  · refine c19 H1 (by omega) fun q5 h4 x4 H4 _ => ⟨q5, rfl, c19 (H2.mono x4) (by omega) fun q8 h7 x7 H7 _ => ⟨q8, rfl, o17 (H4.mono x7) H7 (by rw [sortR_len]; omega) ⟨_, rfl, hK _ (x4.trans x7)⟩⟩⟩
  · have hd : decide (sortR a = sortR b) = false := by
      refine decide_eq_false fun e => ?_
      have := congrArg List.length e
      rw [sortR_len, sortR_len] at this
      rw [this] at g; simp at g
    have := hK _ (.refl _)
    rw [hd] at this; exact this)
/-- The first so many. -/
theorem InGG.take (G : InGG F h q ls) {i : Nat} (hi : i ≤ ls.length) {K : Option SL → Prop} (hK : ∀ q', InGG F h q' (ls.take i) → K q') : PSlice 1 q 0 (some (i : Int)) none K := by
  obtain ⟨qs, a, b, c, d⟩ := G
  refine a.slice2 (E := slE) (by omega) (by simp) (by simp; omega) fun q' H' hq => hK q' ⟨qs.take i, by simpa using H', by rw [List.length_take, List.length_take, b], fun s hs => ?_, fun j s g hs hg => ?_⟩
  · obtain ⟨s0, e0, e1⟩ := hq s hs
    rw [e1]; exact c s0 e0
  · rw [List.getElem?_take] at hs hg
    split at hs
    · rename_i hj
      rw [if_pos hj] at hg
      exact d j s g hs hg
    · cases hs

set_option maxRecDepth 20000 in
/-- EvalGoes -/
theorem s4 (s8 : ∀ {h : Heap} {Q : AV → Heap → Prop}, Q (.bool true) h → AC Tryz.prog 8 [] h Q) (R : NodesR h q l) (G : InGG (fun b => b < h.length) h q3 inputs) (hQ : ∀ h', Q (.bool true) h') : AC Tryz.prog 4 [.agg [.sl q, .int .i64 out], .sl q3] h Q := ac4 (by
  unfold vc4
  refine c7 R G fun b hb => ⟨b, rfl, vif_mk (fun _ => s8 ⟨_, rfl, hQ _⟩) (fun g => ?_)⟩
  obtain ⟨hs, hil, hi5⟩ := hb g
  have L := hs.lens
  have hil1 : ∀ x ∈ inputs, x.length ≤ 1000000 := fun x hx => by have := hi5 x hx; omega
  have up : ∀ {h'}, Ext h h' → InGG (fun b => b < h'.length) h' q3 inputs := fun x => ((G.mono x).live).imp fun b hb => hb.2
  by_cases hz : evalE l out inputs = 0
  · obtain ⟨ok, hl4, hi0, hz2⟩ := evalE_zero hz
    obtain ⟨gb, gv, lv⟩ := run_good hz
    have hlen := runG_len hz2
    have okl := ok.len
    simp only [List.length_nil, Nat.zero_add] at hlen
    refine c9 R L G hil1 (fun hn => absurd hz hn) fun _ q12 q14 h11 x11 H12 G14 => ⟨q12, _, q14, 0, rfl, ?_⟩
    refine c15 (R.mono x11) L.1 ⟨fun i hat => ⟨_, rfl, s8 ⟨true, rfl, ?_⟩⟩, fun hnone => ⟨_, rfl, s8 ⟨true, rfl, vif_mk (fun g => by simp at g) (fun _ => vif_mk (fun g => by simp at g) (fun _ => vif_mk (fun _ => s8 ⟨_, rfl, hQ _⟩) (fun g => by simp at g)))⟩⟩⟩
    refine vif_mk (fun g => by simp at g) (fun _ => vif_mk (fun g => by simp at g) (fun _ => vif_mk (fun g => ?_) (fun _ => ?_)))
    · have g := of_decide_eq_true g; omega
    refine c11 (R.mono x11) L (up x11) hil1 (fun hn => absurd hz hn) fun _ q33 h32 x32 G33 => ⟨q33, 0, rfl, ?_⟩
    have hil2 : i < l.length := by
      unfold loopAt at hat
      rw [List.findIdx?_eq_some_iff_getElem] at hat
      exact hat.1
    have hn : l[i]? = some l[i] := List.getElem?_eq_getElem hil2
    generalize l[i] = n at *
    obtain ⟨hbi, hlv, h9⟩ := run_loop hz hat hn
    have num := (ok.node i n hn).2.1
    unfold NumOk at num
    rw [if_neg (by omega), if_pos h9] at num
    generalize runG (othO inputs) l [] [] = r at *
    have hx0 := loopV_last (body := n.body) (outer := r.2.1.take i) (m := n.A.toNat) (x := loopX n (r.2.1.take i)) (vars := [loopX n (r.2.1.take i)]) rfl (by rw [hlv])
    obtain ⟨t, e1, e2, e3, e4⟩ := loopV_chain (body := n.body) (outer := r.2.1.take i) (m := n.A.toNat) (x := loopX n (r.2.1.take i)) (vars := [loopX n (r.2.1.take i)]) rfl (by rw [hlv])
    rw [hlv] at e1 hx0
    simp only at e1 hx0
    generalize hX : (loopV n.body (r.2.1.take i) n.A.toNat (loopX n (r.2.1.take i)) [loopX n (r.2.1.take i)]).2.1 = X at *
    have hvl : r.2.2.length = t.length + 1 := by rw [e1]; simp
    rw [← e1] at e3
    have hout : (r.2.1.take i).length = i := by rw [List.length_take]; omega
    have may : ∀ b ∈ r.2.1.take i, mayC b = 0 := fun b hb => (gb b (List.mem_of_mem_take hb)).1
    refine vif_mk (fun g => by simp at g) (fun _ => ?_)
    rw [G14.len, hvl]
    have ew : wrapK .i64 (((t.length + 1 - 1 : Nat) : Int) + 1) = ((t.length + 1 : Nat) : Int) := by rw [wrapK_i64 ⟨by omega, by omega⟩]; omega
    have er : (t.length + 1 - 1 : Nat) = t.length := by omega
    rw [ew, er]
    refine vif_mk (fun g => by simp at g) (fun _ => ?_)
    have x3 := x11.trans x32
    have nodeAt : ∀ {h' : Heap} {K : PA → Prop}, Ext h h' → (∀ p, cellsAt h' ⟨p.b, p.o + 4⟩ 1 = some [.int .i64 n.A] → K p) → vIdx q (i : Int) 6 K := fun {h' K} x hK => (R.mono x).idx (i := i) hil2 rfl fun p c n' hn' hc Rc => by
      rw [hn] at hn'
      obtain rfl : n = n' := Option.some.inj hn'
      refine hK p ?_
      rw [cellsAt_sub (k := 4) (m := 1) hc (by omega), ← Rc.same.2.2.2]; rfl
    refine nodeAt x3 fun p35 hc35 => ⟨n.A, hc35, vif_mk (fun g => ?_) (fun _ => ?_)⟩
    · have g := of_decide_eq_true g; omega
    have fin : ∀ {h40 : Heap}, Ext h32 h40 → vIdx q33 (i : Int) 1 fun p43 => ∃ q44 : Option SL, cellsAt h40 p43 1 = some [.sl q44] ∧ vIdx q14 (t.length : Int) 1 fun p45 => ∃ q46 : Option SL, cellsAt h40 p45 1 = some [.sl q46] ∧
        AC Tryz.prog 17 [.sl q44, .sl q46] h40 fun v47 h48 => ∃ b49 : Bool, v47 = .bool b49 ∧ Q (.bool b49) h48 := by
      intro h40 x40
      refine (G33.mono x40).idx (i := i) (by omega) rfl fun p s b hb hc Hb f => ⟨s, hc, ((G14.mono x32).mono x40).idx (i := t.length) (by omega) rfl fun p2 s2 b2 hb2 hc2 Hb2 f2 => ⟨s2, hc2, ?_⟩⟩
      rw [hbi] at hb
      rw [List.getLast?_eq_getElem?, hvl, Nat.add_sub_cancel] at hx0
      rw [hx0] at hb2
      obtain rfl := Option.some.inj hb
      obtain rfl := Option.some.inj hb2
      have := (gb X (List.mem_of_getElem? hbi)).len
      exact o17 Hb Hb2 (by omega) ⟨_, rfl, by simpa using hQ _⟩
    refine ⟨fun xs h40 => Ext h32 h40 ∧ ∃ j : Nat, xs = [.int .i64 j], fun xs _ => match xs with | [.int _ j] => (((t.length + 1 : Nat) : Int) - j).toNat | _ => 0, ⟨.refl _, 0, rfl⟩, ?_⟩
    rintro n37 h40 ⟨x40, j, hxs⟩
    simp only [List.cons.injEq, AV.int.injEq, true_and, and_true] at hxs
    subst hxs
    refine vif_mk (fun g => ?_) (fun _ => fin x40)
    replace g := of_decide_eq_true g
    refine nodeAt (x3.trans x40) fun p41 hc41 => ⟨n.A, hc41, vif_mk (fun _ => fin x40) (fun gA => ?_)⟩
    have gA : (j : Int) ≠ n.A := by simpa using gA
    have G14' := (G14.mono x32).mono x40
    have hlt := (run_good hz).2.2
    refine (G33.mono x40).take (i := i) (by omega) fun q50 G50 => ?_
    refine G14'.idx (i := j) (by omega) rfl fun p51 q52 a ha hc51 Ha f51 => ⟨q52, hc51, ?_⟩
    have ga := gv a (List.mem_of_getElem? ha)
    have gal := ga.len
    rw [wrapK_i64 (n := (j : Int) + 1) ⟨by omega, by omega⟩]
    by_cases hj : j < t.length
    · have hb : r.2.2[j + 1]? = some (r.2.2[j + 1]'(by omega)) := List.getElem?_eq_getElem _
      generalize r.2.2[j + 1]'(by omega) = b2 at *
      obtain ⟨hr, hne⟩ := e3 j a b2 (by simp) ha hb
      have gb2 := gv b2 (List.mem_of_getElem? hb)
      have gbl := gb2.len
      refine c16 (i := i) (n := n) (R.mono (x3.trans x40)) L ok hat hn hout G50 Ha may ga.1 (fun hn => by rw [hr] at hn; exact absurd rfl hn) (fun _ q55 h54 x54 H54 => ⟨q55, 0, rfl, vif_mk (fun g => by simp at g) (fun _ => ?_)⟩)
      have H54 : HasL recE h54 q55 b2 := by rw [hr] at H54; exact H54
      refine vif_mk (fun _ => ?_) (fun g2 => by have g2 := of_decide_eq_false g2; omega)
      refine (G14'.mono x54).idx (i := j + 1) (by omega) (by omega) fun p57 q58 b3 hb3 hc57 H57 f57 => ⟨q58, hc57, ?_⟩
      rw [hb] at hb3
      obtain rfl := Option.some.inj hb3
      refine o17 H54 H57 (by omega) ⟨_, rfl, vif_mk (fun g => by simp at g) (fun _ => ?_)⟩
      refine (G14'.mono x54).idx (i := j) (by omega) rfl fun p62 q63 a2 ha2 hc62 H62 f62 => ⟨q63, hc62, ?_⟩
      rw [ha] at ha2
      obtain rfl := Option.some.inj ha2
      refine c18 H54 H62 (by omega) (by omega) fun h65 x65 => ⟨_, rfl, vif_mk (fun g => ?_) (fun _ => vif_mk (fun g2 => ?_) (fun _ => ?_))⟩
      · exact absurd (of_decide_eq_true g).symm hne
      · have g2 : (j : Int) = (t.length : Int) := by simpa using g2
        omega
      · exact ⟨⟨rfl, rfl, trivial⟩, ⟨x40.trans (x54.trans x65), j + 1, by simp⟩, by simp only; omega⟩
    · have hjt : j = t.length := by omega
      have haX : a = X := by
        rw [List.getLast?_eq_getElem?, hvl, Nat.add_sub_cancel, ← hjt] at hx0
        rw [hx0] at ha
        exact (Option.some.inj ha).symm
      subst haX
      obtain ⟨hr, hsame⟩ := e4 (by omega)
      have gr := roundV_good may ga.1 hr
      have grl := gr.len
      refine c16 (i := i) (n := n) (R.mono (x3.trans x40)) L ok hat hn hout G50 Ha may ga.1 (fun hn => absurd hr hn) (fun _ q55 h54 x54 H54 => ⟨q55, 0, rfl, vif_mk (fun g => by simp at g) (fun _ => ?_)⟩)
      refine vif_mk (fun g2 => by have g2 := of_decide_eq_true g2; omega) (fun _ => vif_mk (fun _ => ?_) (fun g3 => ?_))
      · refine (G14'.mono x54).idx (i := j) (by omega) rfl fun p72 q73 a2 ha2 hc72 H72 f72 => ⟨q73, hc72, ?_⟩
        rw [ha] at ha2
        obtain rfl := Option.some.inj ha2
        refine c18 H54 H72 (by omega) (by omega) fun h75 x75 => ⟨_, rfl, vif_mk (fun g => ?_) (fun _ => ?_)⟩
        · rw [decide_eq_true hsame.symm] at g; simp at g
        · exact ⟨⟨rfl, rfl, trivial⟩, ⟨x40.trans (x54.trans x75), j + 1, by simp⟩, by simp only; omega⟩
      · rw [hjt] at g3; simp at g3
  · refine c9 R L G hil1 (fun _ h11 x11 => ⟨none, _, none, _, rfl, ?_⟩) (fun hn => absurd hn hz)
    have fin : ∀ n18 : Int, AC Tryz.prog 8 [] h11 fun v19 h20 => ∃ b21 : Bool, v19 = .bool b21 ∧ vif (!b21) (AC Tryz.prog 8 [] h20 fun v22 h23 => ∃ b24 : Bool, v22 = .bool b24 ∧ Q (.bool b24) h23) (vif (evalE l out inputs != 0) (AC Tryz.prog 8 [] h20 fun v25 h26 => ∃ b27 : Bool, v25 = .bool b27 ∧ Q (.bool b27) h26) False) := fun n18 =>
      s8 ⟨true, rfl, vif_mk (fun g => by simp at g) (fun _ => vif_mk (fun _ => s8 ⟨_, rfl, hQ _⟩) (fun g => absurd (by simpa using g) hz))⟩
    refine c15 (R.mono x11) L.1 ⟨fun i hat => ⟨_, rfl, s8 ⟨true, rfl, vif_mk (fun g => by simp at g) (fun _ => vif_mk (fun _ => s8 ⟨_, rfl, hQ _⟩) (fun g => absurd (by simpa using g) hz))⟩⟩, fun hnone => ⟨_, rfl, s8 ⟨true, rfl, vif_mk (fun g => by simp at g) (fun _ => vif_mk (fun _ => s8 ⟨_, rfl, hQ _⟩) (fun g => absurd (by simpa using g) hz))⟩⟩⟩)
end
end Go.Proofs.YtfafgnmlnhklaaaGreat
