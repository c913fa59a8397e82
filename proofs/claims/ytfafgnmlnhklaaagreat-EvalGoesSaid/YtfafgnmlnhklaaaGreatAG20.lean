/- A maker makes all bags; a round; a loop. -/
import Derived.Test.YtfafgnmlnhklaaaGreatAG19
namespace Go.Proofs.YtfafgnmlnhklaaaGreat
open Go.Ab
set_option linter.unusedVariables false
set_option linter.unusedSimpArgs false

theorem okN_isOp {loop : Int} {n : NT} {i : Nat} (ok : OkN loop n i) : isOpN n = true ↔ n.op ≠ 1 ∧ n.op ≠ 9 ∧ n.op ≠ 10 ∧ n.op ≠ 11 := by
  obtain ⟨b, num, bd⟩ := ok
  have hop := b.op
  constructor
  · intro h
    have := isOp_cases h
    omega
  · intro h
    have hA : n.A = 0 := by
      unfold NumOk at num
      rw [if_neg h.1, if_neg h.2.1, if_neg h.2.2.1, if_neg h.2.2.2] at num
      exact num
    rw [if_neg h.2.1] at bd
    have hfn := b.fn
    unfold isOpN isOp
    rw [bd, hA, b.len]
    have d1 : decide (2 ≤ n.op) = true := decide_eq_true (by omega)
    have d2 : decide (n.op ≤ 8) = true := decide_eq_true (by omega)
    rw [d1, d2]
    simp only [List.length_nil, decide_true, Bool.and_self, Bool.true_and]
    split
    · rename_i g
      have : famV n.op = 0 := by unfold famV; rw [if_neg (by omega)]
      rw [if_pos this] at hfn
      simp [hfn.1, hfn.2]
    · rename_i g
      have : famV n.op = n.op - 1 := by unfold famV; rw [if_pos (by omega)]
      rw [if_neg (by omega), this] at hfn
      simp [hfn]

section
variable {own F : Nat → Prop} {h h0 : Heap} {q q2 qv : Option SL} {vars : List Bag} {Q : AV → Heap → Prop} {l : List NT} {fv : AV} {rest : List AV} {p : Nat} {oth : Oth}
set_option maxRecDepth 20000 in
/-- all: whatever the other nodes are made by. -/
theorem c52 {RV : List AV → Option SL → List Bag → List Bag → Prop} {Pn : NT → Nat → Prop} (hF : ∀ b, h0.length ≤ b → F b) (hfv : fv.one = true) (R0 : NodesR h0 q2 l) (hl : l.length ≤ 32) (hP : ∀ i n, l[i]? = some n → Pn n i) (hbase : ∀ n i, Pn n i → Base n i)
    (hrv : ∀ rest qv vars bags x, RV rest qv vars bags → RV rest qv vars (bags ++ [x]))
    (hother : ∀ {i : Nat} {n : NT} {c : NC} {bags : List Bag} {own : Nat → Prop} {h : Heap} {rest : List AV} {qv : Option SL} {vars : List Bag} {K : AV → Heap → Prop}, l[i]? = some n → Pn n i → bags.length = i → isOpN n = false → NodeR h0 c n → Ext h0 h → (∀ b, own b → h0.length ≤ b) →
      WH own F h p fv rest qv vars bags → RV rest qv vars bags → (∀ b ∈ bags, GoodB b) →
      ((oth n bags vars).1 ≠ 0 → ∀ h', Ext h0 h' → K (.tup [.sl none, .int .i64 (oth n bags vars).1]) h') →
      ((oth n bags vars).1 = 0 → ∀ own' h' rest' qv' q', WH own' F h' p fv rest' qv' (oth n bags vars).2.2 bags → RV rest' qv' (oth n bags vars).2.2 bags → MStep own h own' h' → HasL recE h' q' (oth n bags vars).2.1 → (∀ u, q' = some u → ¬ own' u.b ∧ F u.b) → GoodB (oth n bags vars).2.1 → K (.tup [.sl q', .int .i64 0]) h') →
      vCallF Tryz.prog (AC Tryz.prog) fv [.agg c.cs] h K)
    (W : WH own F h p fv rest qv vars []) (hrv0 : RV rest qv vars []) (x0 : Ext h0 h) (ho : ∀ b, own b → h0.length ≤ b)
    (h1 : (runG oth l [] vars).1 ≠ 0 → ∀ h', Ext h0 h' → Q (.int .i64 (runG oth l [] vars).1) h')
    (h2 : (runG oth l [] vars).1 = 0 → ∀ own' h' rest' qv', WH own' F h' p fv rest' qv' (runG oth l [] vars).2.2 (runG oth l [] vars).2.1 → RV rest' qv' (runG oth l [] vars).2.2 (runG oth l [] vars).2.1 → MStep own h own' h' → Ext h0 h' → (∀ b ∈ (runG oth l [] vars).2.1, GoodB b) → Q (.int .i64 0) h') :
    AC Tryz.prog 52 [.ptr (some ⟨p, 0⟩), .sl q2] h Q := ac52 (by
  unfold vc52
  rw [R0.len]
  refine ⟨fun xs h6 => ∃ (i : Nat) (own1 : Nat → Prop) (rest1 : List AV) (qv1 : Option SL) (vars1 bags1 : List Bag), xs = [.int .i64 i] ∧ i ≤ l.length ∧ bags1.length = i ∧ WH own1 F h6 p fv rest1 qv1 vars1 bags1 ∧ RV rest1 qv1 vars1 bags1 ∧ MStep own h own1 h6 ∧ Ext h0 h6 ∧ (∀ b, own1 b → h0.length ≤ b) ∧ (∀ b ∈ bags1, GoodB b) ∧ runG oth l [] vars = runG oth (l.drop i) bags1 vars1, left l.length, ⟨0, own, rest, qv, vars, [], rfl, by omega, rfl, W, hrv0, .refl _ _, x0, ho, by simp, rfl⟩, ?_⟩
  rintro n3 h6 ⟨i, own1, rest1, qv1, vars1, bags1, hx, hi, hbl, W1, rv1, S1, x1, o1, gb, er⟩
  simp only [List.cons.injEq, AV.int.injEq, true_and, and_true] at hx
  subst hx
  refine vif_mk (fun g => ?_) (fun g => ?_)
  · replace g := of_decide_eq_true g
    have hn : l[i]? = some l[i] := List.getElem?_eq_getElem (by omega)
    have hd : l.drop i = l[i] :: l.drop (i + 1) := List.drop_eq_getElem_cons (by omega)
    generalize hnn : l[i] = n at *
    have hPn := hP i n hn
    have base := hbase n i hPn
    rw [hd, runG] at er
    have w : wrapK .i64 ((i : Int) + 1) = ((i + 1 : Nat) : Int) := by rw [wrapK_i64 ⟨by omega, by omega⟩]; omega
    rw [w]
    -- what comes behind a node's bag
    have fin : ∀ {own2 h20 rest2 qv2 q21}, (stepG oth n bags1 vars1).1 = 0 → WH own2 F h20 p fv rest2 qv2 (stepG oth n bags1 vars1).2.2 bags1 → RV rest2 qv2 (stepG oth n bags1 vars1).2.2 bags1 → MStep own1 h6 own2 h20 → HasL recE h20 q21 (stepG oth n bags1 vars1).2.1 → (∀ u, q21 = some u → ¬ own2 u.b ∧ F u.b) → GoodB (stepG oth n bags1 vars1).2.1 →
        vPtr (some ⟨p, 0⟩) fun p23 => ∃ q24 : Option SL, cellsAt h20 ⟨p23.b, p23.o + 0⟩ 1 = some [.sl q24] ∧ PNew [.sl q21] true h20 fun a25 h26 => PAppendS 1 24 q24 (some ⟨a25, 0, 1, 1, 0⟩) h26 fun q27 h28 => vPtr (some ⟨p, 0⟩) fun p29 => PStore h28 ⟨p29.b, p29.o + 0⟩ [.sl q27] fun h30 =>
          (True) ∧ (∃ (i' : Nat) (own1 : Nat → Prop) (rest1 : List AV) (qv1 : Option SL) (vars1 bags1 : List Bag), [AV.int .i64 ((i + 1 : Nat) : Int)] = [.int .i64 i'] ∧ i' ≤ l.length ∧ bags1.length = i' ∧ WH own1 F h30 p fv rest1 qv1 vars1 bags1 ∧ RV rest1 qv1 vars1 bags1 ∧ MStep own h own1 h30 ∧ Ext h0 h30 ∧ (∀ b, own1 b → h0.length ≤ b) ∧ (∀ b ∈ bags1, GoodB b) ∧ runG oth l [] vars = runG oth (l.drop i') bags1 vars1) ∧ left l.length [AV.int .i64 ((i + 1 : Nat) : Int)] h30 < left l.length [AV.int .i64 (i : Int)] h6 := by
      intro own2 h20 rest2 qv2 q21 hz W2 rv2 S2 H21 f21 g21
      refine W2.push H21 f21 (by omega) fun own3 h30 W3 S3 => ?_
      have S13 := S2.trans S3
      rw [if_pos hz] at er
      refine ⟨trivial, ⟨i + 1, own3, rest2, qv2, _, _, rfl, by omega, by rw [List.length_append, hbl]; rfl, W3, hrv _ _ _ _ _ rv2, S1.trans S13, fun b C hC => S13.keeps b C (fun hb => by have := o1 b hb; have := lt_of_get hC; omega) (x1 _ _ hC), fun b hb => ?_, fun b hb => ?_, er⟩, by simp only [left]; omega⟩
      · rcases S13.grow b hb with a | a
        · exact o1 b a
        · have := x1.len; omega
      · rcases List.mem_append.1 hb with a | a
        · exact gb b a
        · simp only [List.mem_singleton] at a; subst a; exact g21
    have bad : (stepG oth n bags1 vars1).1 ≠ 0 → ∀ h', Ext h0 h' → Q (.int .i64 (stepG oth n bags1 vars1).1) h' := by
      intro hne h' x'
      rw [if_neg hne] at er
      rw [er] at h1
      exact h1 hne h' x'
    obtain ⟨qb1, hc1, B1, _⟩ := W1.cells
    refine R0.idx (i := i) (by omega) rfl fun p7 c n' hn' hc7 Rc0 => ⟨_, _, _, _, _, _, x1.cells hc7, ?_⟩
    have Rc6 := Rc0.mono x1
    rw [hn] at hn'
    obtain rfl : n = n' := Option.some.inj hn'
    refine ⟨fv, hfv, ?_, ?_⟩
    · show cellsAt h6 ⟨p, 1⟩ 1 = some fv.cells
      have : fv.cells = [fv] := by cases fv <;> first | rfl | (simp [AV.one] at hfv)
      rw [this]
      unfold cellsAt; simp [hc1]
    obtain ⟨e1, e2, e3, e4⟩ := Rc6.same
    have hisop : isOp c.op (slLen c.qi) c.k c.a c.A (slLen c.qb) = isOpN n := by
      rw [e1, e2, e3, e4, Rc6.ins.len, Rc6.body.len]; rfl
    refine c24 ⟨_, rfl, ?_⟩
    rw [hisop]
    refine vif_mk (fun gop => ?_) (fun gop => ?_)
    · have es : stepG oth n bags1 vars1 = ((opR n (insOf n bags1)).1, (opR n (insOf n bags1)).2, vars1) := by unfold stepG; rw [if_pos gop]
      rw [es] at fin bad
      have hbl2 := base.len
      have arl : arityV n.op ≤ 2 := by unfold arityV; repeat' split
                                       all_goals omega
      refine c85 (c := c) (by unfold cellsAt; simp [hc1]) B1 Rc6 (by rw [hbl]; exact base.ins) (by omega) gb (fun hne h20 x20 => ⟨none, _, rfl, vif_mk (fun _ => bad hne h20 (x1.trans x20)) (fun g => ?_)⟩) (fun hz q21 h20 N20 => ⟨q21, 0, rfl, vif_mk (fun g => by simp at g) (fun _ => ?_)⟩)
      · exact absurd (by simpa using g) hne
      · refine fin hz (W1.ext N20.1) rv1 (MStep.ext N20.1) N20.hasL (fun u hu => ?_) (opR_good hz)
        have := N20.2.2 u hu
        exact ⟨fun ho => by have := W1.live _ ho; omega, hF _ (by have := x1.len; omega)⟩
    · have gop : isOpN n = false := by simpa using gop
      have es : stepG oth n bags1 vars1 = oth n bags1 vars1 := by unfold stepG; rw [gop]; rfl
      rw [es] at fin bad
      exact hother hn hPn hbl gop Rc0 x1 o1 W1 rv1 gb (fun hne h' x' => ⟨none, _, rfl, vif_mk (fun _ => bad hne h' x') (fun g => absurd (by simpa using g) hne)⟩) (fun hz own' h' rest' qv' q' W' rv' S' H' f' g' => ⟨q', 0, rfl, vif_mk (fun g => by simp at g) (fun _ => fin hz W' rv' S' H' f' g')⟩)
  · replace g := of_decide_eq_false g
    have e : l.drop i = [] := List.drop_eq_nil_of_le (by omega)
    rw [e] at er
    rw [er] at h2
    exact h2 rfl own1 h6 rest1 qv1 W1 rv1 S1 x1 gb)

/-- slices.Equal -/
theorem c129 {q1 q2 : Option SL} {a b : Bag} (H1 : HasL recE h q1 a) (H2 : HasL recE h q2 b) (hl : a.length ≤ 1000000) (hQ : Q (.bool (decide (a = b))) h) : AC Tryz.prog 129 [.sl q1, .sl q2] h Q := ac129 (by
  unfold vc129
  have hq : ∀ c : Bool, (c = true ↔ a = b) → Q (.bool c) h := by
    intro c hc
    have : c = decide (a = b) := by rw [Bool.eq_iff_iff]; simpa using hc
    rw [this]; exact hQ
  rw [H1.len, H2.len]
  refine vif_mk (fun g => hq _ ?_) (fun g => ?_)
  · have : a.length ≠ b.length := by intro e; rw [e] at g; simp at g
    simp only [Bool.false_eq_true, false_iff]
    intro e; exact this (by rw [e])
  have hab : a.length = b.length := by
    have : ((a.length : Nat) : Int) = (b.length : Nat) := by simpa using g
    omega
  refine ⟨fun xs h6 => h6 = h ∧ ∃ i : Nat, xs = [.int .i64 i] ∧ i ≤ a.length ∧ a.take i = b.take i, left a.length, ⟨rfl, 0, rfl, by omega, by simp⟩, ?_⟩
  rintro n3 h6 ⟨rfl, i, hx, hi, ha⟩
  simp only [List.cons.injEq, AV.int.injEq, true_and, and_true] at hx
  subst hx
  refine vif_mk (fun g2 => ?_) (fun g2 => hq _ ?_)
  · replace g2 := of_decide_eq_true g2
    refine H1.idx (E := recE) (by omega) (by omega) fun p x hx hc => ⟨_, _, hc, H2.idx (E := recE) (by omega) (by omega) fun p2 y hy hc2 => ⟨_, _, hc2, vif_mk (fun g3 => hq _ ?_) (fun g3 => ?_)⟩⟩
    · rw [Int.toNat_natCast] at hx hy
      simp only [Bool.false_eq_true, false_iff]
      rintro rfl
      rw [hx] at hy
      cases hy
      simp at g3
    · rw [Int.toNat_natCast] at hx hy
      have e : x = y := by
        simp only [Bool.and_true, Bool.not_eq_false', Bool.and_eq_true, beq_iff_eq] at g3
        exact Prod.ext g3.1 g3.2
      subst e
      rw [wrapK_i64 ⟨by omega, by omega⟩]
      exact ⟨trivial, ⟨rfl, i + 1, by simp, by omega, by rw [List.take_add_one, List.take_add_one, ha, hx, hy]⟩, by simp only [left]; omega⟩
  · replace g2 := of_decide_eq_false g2
    rw [List.take_of_length_le (by omega), List.take_of_length_le (by omega)] at ha
    simp [ha])
/-- rec.Same -/
theorem c109 {q1 q2 : Option SL} {a b : Bag} (H1 : HasL recE h q1 a) (H2 : HasL recE h q2 b) (hl : a.length ≤ 1000000) (hl2 : b.length ≤ 1000000) (hQ : ∀ h', Ext h h' → Q (.bool (decide (sortR a = sortR b))) h') : AC Tryz.prog 109 [.sl q1, .sl q2] h Q := ac109 (by
  unfold vc109
  refine c74 H1 hl fun q5 h4 N4 => ⟨q5, rfl, c74 (H2.mono N4.1) hl2 fun q8 h7 N7 => ⟨q8, rfl, ?_⟩⟩
  exact c129 (N4.hasL.mono N7.1) N7.hasL (by rw [sortR_len]; exact hl) ⟨_, rfl, hQ _ (N4.1.trans N7.1)⟩)

def othI (outer : List Bag) (x : Bag) : Oth := fun n bags vars => if n.op = 11 then (0, sortR (outer.getD n.A.toNat []), vars) else (0, sortR x, vars)
/-- What comes of a round. -/
def roundV (body : List NT) (outer : List Bag) (x : Bag) : Int × Bag := ((runG (othI outer x) body [] []).1, (runG (othI outer x) body [] []).2.1.getLastD [])
theorem okI_kinds {loop : Nat} {n : NT} {i : Nat} (ok : OkI loop n i) (h : isOpN n = false) : n.op = 10 ∨ n.op = 11 ∧ 0 ≤ n.A ∧ n.A < loop := by
  have hk := okN_isOp (okI_iff.2 ok)
  have num := ok.2.1
  have : ¬ (n.op ≠ 1 ∧ n.op ≠ 9 ∧ n.op ≠ 10 ∧ n.op ≠ 11) := fun hh => by rw [hk.2 hh] at h; cases h
  unfold NumOk at num
  by_cases h1 : n.op = 1
  · rw [if_pos h1] at num; omega
  rw [if_neg h1] at num
  by_cases h9 : n.op = 9
  · rw [if_pos h9] at num; omega
  rw [if_neg h9] at num
  by_cases h10 : n.op = 10
  · exact .inl h10
  rw [if_neg h10] at num
  have h11 : n.op = 11 := by
    apply Classical.byContradiction
    intro hc
    exact this ⟨h1, h9, h10, hc⟩
  rw [if_pos h11] at num
  exact .inr ⟨h11, num.2⟩
set_option maxRecDepth 20000 in
/-- body -/
theorem c38 {F : Nat → Prop} {outer : List Bag} {x : Bag} {q1 q2 q3 : Option SL} {body : List NT} (G : InGG F h q1 outer) (H : HasL recE h q2 x) (R : NodesR h q3 body) (ok : OkB body outer.length) (ho : ∀ b ∈ outer, mayC b = 0) (hx : mayC x = 0)
    (h1 : (roundV body outer x).1 ≠ 0 → ∀ h', Ext h h' → Q (.tup [.sl none, .int .i64 (roundV body outer x).1]) h')
    (h2 : (roundV body outer x).1 = 0 → ∀ q' h', Ext h h' → HasL recE h' q' (roundV body outer x).2 → (∀ u, q' = some u → h.length ≤ u.b) → GoodB (roundV body outer x).2 → Q (.tup [.sl q', .int .i64 0]) h') :
    AC Tryz.prog 38 [.agg [.sl q1, .sl q2], .sl q3] h Q := ac38 (by
  unfold vc38
  refine pnew_mk ?_
  have x5 := Ext.app h [Blk.cells [.sl none, .func (.func 62) [.agg [.sl q1, .sl q2]] []] true]
  have b5 : (h ++ [Blk.cells [AV.sl none, .func (.func 62) [.agg [.sl q1, .sl q2]] []] true])[h.length]? = some (.cells [.sl none, .func (.func 62) [.agg [.sl q1, .sl q2]] []] true) := by simp
  have l5 : (h ++ [Blk.cells [AV.sl none, .func (.func 62) [.agg [.sl q1, .sl q2]] []] true]).length = h.length + 1 := by simp
  generalize h ++ [Blk.cells [.sl none, .func (.func 62) [.agg [.sl q1, .sl q2]] []] true] = h5 at *
  have W5 : WH (fun b => b = h.length) (fun b => h.length ≤ b) h5 h.length (.func (.func 62) [.agg [.sl q1, .sl q2]] []) [] none [] [] :=
    ⟨⟨none, b5, .nil, fun s hs => by cases hs⟩, .nil, (fun t ht => by cases ht), rfl, fun b hb => by omega⟩
  refine c52 (oth := othI outer x) (RV := fun _ _ _ _ => True) (Pn := fun n i => OkI outer.length n i) (fun b hb => hb) rfl R ok.2.1 ok.2.2 (fun n i h => h.1) (fun _ _ _ _ _ h => h)
    (fun {i n c bags own h6 rest qv vars K} hln hP hbl gop Rc x6 o6 W6 _ gb _ k2 => ?_) W5 trivial x5 (fun b hb => by omega) (fun hne h7 x7 => ⟨_, rfl, vif_mk (fun _ => h1 hne h7 x7) (fun g => absurd (by simpa using g) hne)⟩) (fun hz own' h7 rest' qv' W7 _ S7 x7 gb => ⟨0, rfl, vif_mk (fun g => by simp at g) (fun _ => ?_)⟩)
  · have k62 : AC Tryz.prog 62 [.agg [.sl q1, .sl q2], .agg c.cs] h6 K := ac62 (by
      unfold vc62
      obtain ⟨e1, e2, e3, e4⟩ := Rc.same
      rw [e1, e4]
      rcases okI_kinds hP gop with h10 | ⟨h11, hA0, hA1⟩
      · refine vif_mk (fun g => by rw [h10] at g; simp at g) (fun _ => ?_)
        have eo : othI outer x n bags vars = (0, sortR x, vars) := by unfold othI; rw [if_neg (by omega)]
        rw [eo] at k2
        have := (mayC0 hx).2
        refine c44 (H.mono x6) (by omega) (fun hn => absurd hx hn) fun _ q' h' N => ⟨q', 0, rfl, ?_⟩
        exact k2 rfl own h' rest qv q' (W6.ext N.1) trivial (MStep.ext N.1) N.hasL (fun u hu => ⟨fun hb => by have := W6.live _ hb; have := N.2.2 u hu; omega, by have := N.2.2 u hu; have := x6.len; omega⟩) (good_sort hx)
      · refine vif_mk (fun _ => ?_) (fun g => by rw [h11] at g; simp at g)
        have eo : othI outer x n bags vars = (0, sortR (outer.getD n.A.toNat []), vars) := by unfold othI; rw [if_pos h11]
        rw [eo] at k2
        refine (G.mono x6).idx (i := n.A.toNat) (by omega) (by omega) fun pp s b hb hc Hb f => ⟨s, hc, ?_⟩
        have eb : outer.getD n.A.toNat [] = b := by rw [List.getD_eq_getElem?_getD, hb]; rfl
        rw [eb] at k2
        have hbm := ho b (List.mem_of_getElem? hb)
        have := (mayC0 hbm).2
        refine c44 Hb (by omega) (fun hn => absurd hbm hn) fun _ q' h' N => ⟨q', 0, rfl, ?_⟩
        exact k2 rfl own h' rest qv q' (W6.ext N.1) trivial (MStep.ext N.1) N.hasL (fun u hu => ⟨fun hb => by have := W6.live _ hb; have := N.2.2 u hu; omega, by have := N.2.2 u hu; have := x6.len; omega⟩) (good_sort hbm))
    exact k62
  · obtain ⟨q, c1, B7, _⟩ := W7.cells
    have hc : cellsAt h7 ⟨h.length, 0⟩ 1 = some [.sl q] := by unfold cellsAt; simp [c1]
    refine ⟨q, hc, q, hc, ?_⟩
    have hlen := runG_len hz
    have h1l := ok.1
    have h2l := ok.2.1
    simp only [List.length_nil, Nat.zero_add] at hlen
    rw [B7.len, hlen, wrapK_i64 ⟨by omega, by omega⟩]
    refine B7.idx (i := body.length - 1) (by omega) (by omega) fun p11 s g hg hc11 Hs fs => ⟨s, hc11, ?_⟩
    have el : (runG (othI outer x) body [] []).2.1.getLastD [] = g := by
      rw [List.getLastD_eq_getLast?, List.getLast?_eq_getElem?, hlen, hg]; rfl
    have er : (roundV body outer x).2 = g := el
    rw [er] at h2
    exact h2 hz s h7 x7 Hs (fun u hu => (fs u hu).2) (gb g (List.mem_of_getElem? hg)))

/-- What a loop comes to. -/
def loopV (body : List NT) (outer : List Bag) : Nat → Bag → List Bag → Int × Bag × List Bag
  | 0, x, vars => (0, x, vars)
  | m + 1, x, vars => if (roundV body outer x).1 = 0 then (if sortR x = sortR (roundV body outer x).2 then (0, x, vars) else loopV body outer m (roundV body outer x).2 (vars ++ [(roundV body outer x).2])) else ((roundV body outer x).1, [], [])
def loopX (n : NT) (bags : List Bag) : Bag := bags.getD (n.ins.getD 0 0).toNat []
def othO (inputs : List Bag) : Oth := fun n bags vars => if n.op = 9 then loopV n.body bags n.A.toNat (loopX n bags) [loopX n bags] else (0, sortR (inputs.getD n.A.toNat []), vars)
set_option maxRecDepth 20000 in
/-- loop -/
theorem c84 {F : Nat → Prop} {c : NC} {n : NT} {qin : Option SL} {bags : List Bag} {qv0 : Option SL} (hF : ∀ b, h0.length ≤ b → F b) (R0 : NodeR h0 c n) (x0 : Ext h0 h) (ho : ∀ b, own b → h0.length ≤ b) (ok : OkB n.body bags.length) (hi : n.ins.length = 1) (hins : ∀ y ∈ n.ins, 0 ≤ y ∧ y < bags.length) (hA : 1 ≤ n.A ∧ n.A ≤ 64)
    (W : WH own F h p fv [.sl qin, .sl qv0] qv vars bags) (gb : ∀ b ∈ bags, GoodB b)
    (h1 : (loopV n.body bags n.A.toNat (loopX n bags) [loopX n bags]).1 ≠ 0 → ∀ h', Ext h0 h' → Q (.tup [.sl none, .int .i64 (loopV n.body bags n.A.toNat (loopX n bags) [loopX n bags]).1]) h')
    (h2 : (loopV n.body bags n.A.toNat (loopX n bags) [loopX n bags]).1 = 0 → ∀ own' h' qv' q', WH own' F h' p fv [.sl qin, .sl qv'] qv' (loopV n.body bags n.A.toNat (loopX n bags) [loopX n bags]).2.2 bags → MStep own h own' h' → HasL recE h' q' (loopV n.body bags n.A.toNat (loopX n bags) [loopX n bags]).2.1 → (∀ u, q' = some u → ¬ own' u.b ∧ F u.b) → GoodB (loopV n.body bags n.A.toNat (loopX n bags) [loopX n bags]).2.1 → Q (.tup [.sl q', .int .i64 0]) h') :
    AC Tryz.prog 84 [.ptr (some ⟨p, 0⟩), .agg c.cs] h Q := ac84 (by
  unfold vc84
  obtain ⟨e1, e2, e3, e4⟩ := R0.same
  obtain ⟨q9, c9, B9, _⟩ := W.cells
  refine ⟨q9, by show cellsAt h ⟨p, 0⟩ 1 = _; unfold cellsAt; simp [c9], ?_⟩
  refine (R0.ins.mono x0).idx (E := intE) (by omega) (by omega) fun p10 y hy hcy => ⟨y, hcy, ?_⟩
  have hy0 : n.ins[0]? = some y := by simpa using hy
  obtain ⟨y0, y1⟩ := hins y (List.mem_of_getElem? hy0)
  refine B9.idx (i := y.toNat) (by omega) (by omega) fun p12 q13 x hx hc13 H13 f13 => ⟨q13, hc13, ?_⟩
  have ex : loopX n bags = x := by
    unfold loopX
    rw [List.getD_eq_getElem?_getD, List.getD_eq_getElem?_getD, hy0]
    simp only [Option.getD_some]
    rw [hx]; rfl
  rw [ex] at h1 h2
  have gx := gb x (List.mem_of_getElem? hx)
  refine W.setv H13 f13 fun own1 h17 qv1 W17 S17 => ?_
  have H17 := S17.hasL H13 fun u hu => (f13 u hu).1
  have keepX : ∀ {own' h'}, MStep own h own' h' → Ext h0 h' := fun S b C hC => S.keeps b C (fun hb => by have := ho b hb; have := lt_of_get hC; omega) (x0 _ _ hC)
  rw [e4]
  refine ⟨fun xs h22 => ∃ (j : Nat) (own2 : Nat → Prop) (qv2 q18 : Option SL) (x2 : Bag) (vars2 : List Bag), xs = [.sl q18, .int .i64 j] ∧ (j : Int) ≤ n.A ∧ WH own2 F h22 p fv [.sl qin, .sl qv2] qv2 vars2 bags ∧ MStep own h own2 h22 ∧ HasL recE h22 q18 x2 ∧ (∀ u, q18 = some u → ¬ own2 u.b ∧ F u.b) ∧ GoodB x2 ∧ vars2.length ≤ j + 1 ∧ loopV n.body bags n.A.toNat x [x] = loopV n.body bags (n.A.toNat - j) x2 vars2, fun xs _ => match xs with | [_, .int _ j] => (n.A - j).toNat | _ => 0, ⟨0, own1, qv1, q13, x, [x], rfl, by omega, W17, S17, H17.1, fun u hu => ⟨H17.2 u hu, (f13 u hu).2⟩, gx, by simp, rfl⟩, ?_⟩
  rintro q18 n19 h22 ⟨j, own2, qv2, q18', x2, vars2, hxs, hj, W22, S22, H22, f22, g22, vl, el⟩
  simp only [List.cons.injEq, AV.int.injEq, AV.sl.injEq, true_and, and_true] at hxs
  obtain ⟨rfl, rfl⟩ := hxs
  refine vif_mk (fun g => ?_) (fun g => ?_)
  · replace g := of_decide_eq_true g
    have ej : n.A.toNat - j = (n.A.toNat - (j + 1)) + 1 := by omega
    rw [ej, loopV] at el
    obtain ⟨q24, c24, B24, _⟩ := W22.cells
    refine ⟨q24, by show cellsAt h22 ⟨p, 0⟩ 1 = _; unfold cellsAt; simp [c24], ?_⟩
    refine c38 B24.inGG H22 (R0.body.mono (keepX S22)) ok (fun b hb => (gb b hb).1) g22.1 (fun hne h26 x26 => ⟨none, _, rfl, vif_mk (fun _ => ?_) (fun g => absurd (by simpa using g) hne)⟩) (fun hz q27 h26 x26 H26 f26 g26 => ⟨q27, 0, rfl, vif_mk (fun g => by simp at g) (fun _ => ?_)⟩)
    · rw [if_neg hne] at el
      rw [el] at h1
      exact h1 hne h26 ((keepX S22).trans x26)
    · rw [if_pos hz] at el
      have l2 := g22.len
      have l3 := g26.len
      refine c109 (H22.mono x26) H26 (by omega) (by omega) fun h30 x30 => ⟨_, rfl, vif_mk (fun gs => ?_) (fun gs => ?_)⟩
      · rw [if_pos (of_decide_eq_true gs)] at el
        rw [el] at h2
        have xx := x26.trans x30
        exact h2 rfl own2 h30 qv2 q18 (W22.ext xx) (S22.trans (MStep.ext xx)) (H22.mono xx) f22 g22
      · rw [if_neg (of_decide_eq_false gs)] at el
        have xx := x26.trans x30
        have W30 := W22.ext xx
        have f30 : ∀ u, q27 = some u → ¬ own2 u.b ∧ F u.b := fun u hu => ⟨fun hb => by have := W22.live _ hb; have := f26 u hu; omega, hF _ (by have := f26 u hu; have := (keepX S22).len; omega)⟩
        refine W30.pushv (H26.mono x30) f30 (by omega) fun own3 h39 qv3 W39 S39 => ?_
        have H39 := S39.hasL (H26.mono x30) fun u hu => (f30 u hu).1
        rw [wrapK_i64 ⟨by omega, by omega⟩]
        exact ⟨⟨rfl, trivial⟩, ⟨j + 1, own3, qv3, q27, _, _, rfl, by omega, W39, (S22.trans (MStep.ext xx)).trans S39, H39.1, fun u hu => ⟨H39.2 u hu, (f30 u hu).2⟩, g26, by simp; omega, el⟩, by simp only; omega⟩
  · replace g := of_decide_eq_false g
    have ej : n.A.toNat - j = 0 := by omega
    rw [ej, loopV] at el
    rw [el] at h2
    exact h2 rfl own2 h22 qv2 q18 W22 S22 H22 f22 g22)
end
end Go.Proofs.YtfafgnmlnhklaaaGreat

/- A graph's run; copies; what is told. -/
namespace Go.Proofs.YtfafgnmlnhklaaaGreat
open Go.Ab
set_option linter.unusedVariables false
set_option linter.unusedSimpArgs false

theorem okN_kinds {n : NT} {i : Nat} (ok : OkN (-1) n i) (h : isOpN n = false) : n.op = 9 ∧ n.ins.length = 1 ∧ (1 ≤ n.A ∧ n.A ≤ 64) ∧ OkB n.body i ∨ n.op = 1 ∧ 0 ≤ n.A ∧ n.A < 4 := by
  have hk := okN_isOp ok
  obtain ⟨b, num, bd⟩ := ok
  have : ¬ (n.op ≠ 1 ∧ n.op ≠ 9 ∧ n.op ≠ 10 ∧ n.op ≠ 11) := fun hh => by rw [hk.2 hh] at h; cases h
  unfold NumOk at num
  by_cases h1 : n.op = 1
  · rw [if_pos h1] at num; exact .inr ⟨h1, num.2⟩
  rw [if_neg h1] at num
  by_cases h9 : n.op = 9
  · rw [if_pos h9] at num
    rw [if_pos h9] at bd
    refine .inl ⟨h9, ?_, num.2, bd⟩
    rw [b.len, h9]; rfl
  rw [if_neg h9] at num
  by_cases h10 : n.op = 10
  · rw [if_pos h10] at num; omega
  rw [if_neg h10] at num
  by_cases h11 : n.op = 11
  · rw [if_pos h11] at num; omega
  · exact absurd ⟨h1, h9, h10, h11⟩ this

open Classical in
/-- What a run ends with. -/
noncomputable def evalE (l : List NT) (out : Int) (inputs : List Bag) : Int :=
  if OkG l out then (if inputs.length > 4 then 1 else if insE inputs = 0 then (runG (othO inputs) l [] []).1 else insE inputs) else 170
theorem evalE_zero {l : List NT} {out : Int} {inputs : List Bag} (h : evalE l out inputs = 0) : OkG l out ∧ inputs.length ≤ 4 ∧ insE inputs = 0 ∧ (runG (othO inputs) l [] []).1 = 0 := by
  unfold evalE at h
  split at h
  · rename_i g
    split at h
    · cases h
    · rename_i g1
      split at h
      · rename_i g2; exact ⟨g, by omega, g2, h⟩
      · rename_i g2; exact absurd h g2
  · cases h
abbrev Any : Nat → Prop := fun _ => True

section
variable {h : Heap} {Q : AV → Heap → Prop} {q q3 : Option SL} {l : List NT} {out : Int} {inputs : List Bag}
set_option maxRecDepth 20000 in
/-- run -/
theorem c29 (R : NodesR h q l) (L : Lens l) (G : InGG (fun b => b < h.length) h q3 inputs) (hil : ∀ x ∈ inputs, x.length ≤ 1000000)
    (h1 : evalE l out inputs ≠ 0 → ∀ h', Ext h h' → Q (.tup [.ptr none, .int .i64 (evalE l out inputs)]) h')
    (h2 : evalE l out inputs = 0 → ∀ own p qv h', WH own Any h' p (.func (.func 51) [.ptr (some ⟨p, 0⟩)] []) [.sl q3, .sl qv] qv (runG (othO inputs) l [] []).2.2 (runG (othO inputs) l [] []).2.1 → Ext h h' → (∀ b, own b → h.length ≤ b) → (∀ b ∈ (runG (othO inputs) l [] []).2.1, GoodB b) → Q (.tup [.ptr (some ⟨p, 0⟩), .int .i64 0]) h') :
    AC Tryz.prog 29 [.agg [.sl q, .int .i64 out], .sl q3] h Q := ac29 (by
  unfold vc29
  refine c35 R L fun e h5 x5 e0 e1 => ⟨e, rfl, ?_⟩
  by_cases ok : OkG l out
  · rw [e0 ok]
    refine vif_mk (fun g => by simp at g) (fun _ => ?_)
    have ev : evalE l out inputs = if inputs.length > 4 then 1 else if insE inputs = 0 then (runG (othO inputs) l [] []).1 else insE inputs := by unfold evalE; rw [if_pos ok]
    rw [G.len]
    refine vif_mk (fun g => ?_) (fun g => ?_)
    · have g := of_decide_eq_true g
      rw [if_pos (by omega)] at ev
      rw [ev] at h1
      exact h1 (by decide) h5 x5
    have g := of_decide_eq_false g
    rw [if_neg (by omega)] at ev
    refine ⟨fun xs h14 => h14 = h5 ∧ ∃ i : Nat, xs = [.int .i64 i] ∧ i ≤ inputs.length ∧ insE (inputs.take i) = 0, fun xs _ => match xs with | [.int _ i] => (inputs.length - i).toNat | _ => 0, ⟨rfl, 0, rfl, by omega, rfl⟩, ?_⟩
    rintro n11 h14 ⟨rfl, i, hx, hi, he⟩
    simp only [List.cons.injEq, AV.int.injEq, true_and, and_true] at hx
    subst hx
    refine vif_mk (fun g3 => ?_) (fun g3 => ?_)
    · replace g3 := of_decide_eq_true g3
      refine (G.mono x5).idx (i := i) (by omega) rfl fun pp s b hb hc Hb f => ⟨s, hc, ?_⟩
      have hlm := hil b (List.mem_of_getElem? hb)
      have happ := insE_app (l := b) he
      have e : inputs.take (i + 1) = inputs.take i ++ [b] := by rw [List.take_add_one, hb]; rfl
      refine c37 Hb (by omega) ⟨_, rfl, vif_mk (fun g4 => ?_) (fun g4 => ?_)⟩
      · have g4 : mayC b ≠ 0 := by simpa using g4
        have hE : insE inputs = mayC b := by
          rw [← happ, ← e]
          conv => lhs; rw [← List.take_append_drop (i + 1) inputs]
          exact insE_pre (by rw [e, happ]; exact g4)
        rw [hE, if_neg g4] at ev
        rw [ev] at h1
        exact h1 g4 h14 x5
      · have g4 : mayC b = 0 := by simpa using g4
        rw [wrapK_i64 ⟨by omega, by omega⟩]
        exact ⟨⟨rfl, trivial⟩, ⟨rfl, i + 1, by simp, by omega, by rw [e, happ]; exact g4⟩, by simp only; omega⟩
    · replace g3 := of_decide_eq_false g3
      have e : inputs.take i = inputs := List.take_of_length_le (by omega)
      rw [e] at he
      rw [if_pos he] at ev
      have may : ∀ b ∈ inputs, mayC b = 0 := insE0 he
      refine pnew_mk ?_
      have x17 := Ext.app h14 [Blk.cells [.sl none, .nilfunc, .sl q3, .sl none] true]
      have b17 : (h14 ++ [Blk.cells [AV.sl none, .nilfunc, .sl q3, .sl none] true])[h14.length]? = some (.cells [.sl none, .nilfunc, .sl q3, .sl none] true) := by simp
      have l17 : (h14 ++ [Blk.cells [AV.sl none, .nilfunc, .sl q3, .sl none] true]).length = h14.length + 1 := by simp
      generalize h14 ++ [Blk.cells [.sl none, .nilfunc, .sl q3, .sl none] true] = h17 at *
      have e1 : (⟨h14.length, 1⟩ : PA) = ⟨h14.length, 0 + 1⟩ := rfl
      rw [e1]
      refine store6 (o := 1) b17 (by simp) ?_
      have es : splice [AV.sl none, .nilfunc, .sl q3, .sl none] 1 [.func (.func 51) [.ptr (some ⟨h14.length, 0⟩)] []] = [.sl none, .func (.func 51) [.ptr (some ⟨h14.length, 0⟩)] [], .sl q3, .sl none] := by simp [splice]
      rw [es]
      have x18 : Ext h14 (h17.set h14.length (.cells [.sl none, .func (.func 51) [.ptr (some ⟨h14.length, 0⟩)] [], .sl q3, .sl none] true)) := x17.set (Nat.le_refl _)
      have b18 : (h17.set h14.length (.cells [.sl none, .func (.func 51) [.ptr (some ⟨h14.length, 0⟩)] [], .sl q3, .sl none] true))[h14.length]? = some (.cells [.sl none, .func (.func 51) [.ptr (some ⟨h14.length, 0⟩)] [], .sl q3, .sl none] true) := List.getElem?_set_self (lt_of_get b17)
      have l18 : (h17.set h14.length (.cells [.sl none, .func (.func 51) [.ptr (some ⟨h14.length, 0⟩)] [], .sl q3, .sl none] true)).length = h14.length + 1 := by rw [List.length_set, l17]
      generalize hp : h14.length = p at *
      generalize h17.set p _ = h18 at *
      have W18 : WH (fun b => b = p) Any h18 p (.func (.func 51) [.ptr (some ⟨p, 0⟩)] []) [.sl q3, .sl none] none [] [] :=
        ⟨⟨none, b18, .nil, fun s hs => by cases hs⟩, .nil, (fun t ht => by cases ht), rfl, fun b hb => by omega⟩
      refine c52 (h0 := h14) (oth := othO inputs) (RV := fun rest qv _ _ => rest = [.sl q3, .sl qv]) (Pn := fun n i => OkN (-1) n i) (fun _ _ => trivial) rfl (R.mono x5) ok.len.2 ok.node (fun n i h => h.1) (fun _ _ _ _ _ h => h)
        (fun {i n c bags own h6 rest qv vars K} hln hP hbl gop Rc x6 o6 W6 rv6 gb k1 k2 => ?_) W18 rfl x18 (fun b hb => by rw [hb, hp]; exact Nat.le_refl _) (fun hne h7 x7 => ⟨_, rfl, vif_mk (fun _ => by rw [← ev]; rw [← ev] at hne; exact h1 hne h7 (x5.trans x7)) (fun g => absurd (by simpa using g) hne)⟩) (fun hz own' h7 rest' qv' W7 rv7 S7 x7 gb => ⟨0, rfl, vif_mk (fun g => by simp at g) (fun _ => ?_)⟩)
      · subst rv6
        have k51 : AC Tryz.prog 51 [.ptr (some ⟨p, 0⟩), .agg c.cs] h6 K := ac51 (by
          unfold vc51
          obtain ⟨e1, e2, e3, e4⟩ := Rc.same
          rw [e1, e4]
          rcases okN_kinds hP gop with ⟨h9, hi1, hA, hB⟩ | ⟨h1', hA0, hA1⟩
          · refine vif_mk (fun _ => ?_) (fun g => by rw [h9] at g; simp at g)
            have eo : othO inputs n bags vars = loopV n.body bags n.A.toNat (loopX n bags) [loopX n bags] := by unfold othO; rw [if_pos h9]
            rw [eo] at k1 k2
            rw [← hbl] at hB
            have hb := hP.1.ins
            rw [← e1, ← e4]
            refine c84 (F := Any) (fun _ _ => trivial) Rc x6 o6 hB hi1 (by rw [hbl]; exact hb) hA W6 gb (fun hne h' x' => ⟨none, _, rfl, k1 hne h' x'⟩) (fun hz own' h' qv' q' W' S' H' f' g' => ⟨q', 0, rfl, k2 hz own' h' _ qv' q' W' rfl S' H' f' g'⟩)
          · refine vif_mk (fun g => by rw [h1'] at g; simp at g) (fun _ => ?_)
            have eo : othO inputs n bags vars = (0, sortR (inputs.getD n.A.toNat []), vars) := by unfold othO; rw [if_neg (by omega)]
            rw [eo] at k2
            obtain ⟨q9, c9, _, _⟩ := W6.cells
            have c2 : cellsAt h6 ⟨p, 2⟩ 1 = some [.sl q3] := by unfold cellsAt; simp [c9]
            refine ⟨q3, c2, ?_⟩
            rw [G.len]
            refine vif_mk (fun g => ?_) (fun g => ⟨q3, c2, ?_⟩)
            · have g := of_decide_eq_true g
              have e0 : inputs.getD n.A.toNat [] = [] := by rw [List.getD_eq_getElem?_getD, List.getElem?_eq_none (by omega)]; rfl
              rw [e0] at k2
              have es0 : sortR ([] : Bag) = [] := good_nil.self
              rw [es0] at k2
              exact k2 rfl own h6 _ qv none W6 rfl (.refl _ _) rfl (fun u hu => by cases hu) good_nil
            · have g := of_decide_eq_false g
              refine ((G.mono x5).mono x6).idx (i := n.A.toNat) (by omega) (by omega) fun pp s b hb hc Hb f => ⟨s, hc, ?_⟩
              have eb : inputs.getD n.A.toNat [] = b := by rw [List.getD_eq_getElem?_getD, hb]; rfl
              rw [eb] at k2
              have hbm := may b (List.mem_of_getElem? hb)
              have := (mayC0 hbm).2
              refine c44 Hb (by omega) (fun hn => absurd hbm hn) fun _ q' h' N => ⟨q', 0, rfl, ?_⟩
              exact k2 rfl own h' _ qv q' (W6.ext N.1) rfl (MStep.ext N.1) N.hasL (fun u hu => ⟨fun hb => by have := W6.live _ hb; have := N.2.2 u hu; omega, trivial⟩) (good_sort hbm))
        exact k51
      · subst rv7
        rw [ev] at h2
        refine h2 hz own' p qv' h7 W7 (x5.trans x7) (fun b hb => ?_) gb
        rcases S7.grow b hb with a | a
        · have := x5.len; omega
        · have := x5.len; omega
  · rw [e1 ok]
    have ev : evalE l out inputs = 170 := by unfold evalE; rw [if_neg ok]
    rw [ev] at h1
    exact vif_mk (fun _ => h1 (by decide) h5 x5) (fun g => by simp at g))

/-- copies -/
theorem c30 {F : Nat → Prop} {bags : List Bag} (G : InGG F h q bags) (hl : bags.length ≤ 1000000) (hbl : ∀ b ∈ bags, b.length ≤ 1000000) (hQ : ∀ q' h', Ext h h' → Made h.length h' q' bags → Q (.sl q') h') : AC Tryz.prog 30 [.sl q] h Q := ac30 (by
  unfold vc30
  rw [G.len]
  refine ⟨fun xs h6 => ∃ (q2 : Option SL) (i : Nat), xs = [.sl q2, .int .i64 i] ∧ i ≤ bags.length ∧ Ext h h6 ∧ Made h.length h6 q2 (bags.take i), fun xs _ => match xs with | [_, .int _ i] => (bags.length - i).toNat | _ => 0, ⟨none, 0, rfl, by omega, .refl _, by simpa using Made.nil⟩, ?_⟩
  rintro q2 n3 h6 ⟨q2', i, hx, hi, x6, M6⟩
  simp only [List.cons.injEq, AV.int.injEq, AV.sl.injEq, true_and, and_true] at hx
  obtain ⟨rfl, rfl⟩ := hx
  refine vif_mk (fun g => ?_) (fun g => ?_)
  · replace g := of_decide_eq_true g
    refine (G.mono x6).idx (i := i) (by omega) rfl fun p7 s b hb hc Hb f => ⟨s, hc, pnew_mk ?_⟩
    have hlb := hbl b (List.mem_of_getElem? hb)
    have x10 := Ext.app h6 [Blk.cells [] true]
    have N10 : New recE h6 (h6 ++ [Blk.cells [] true]) (some ⟨h6.length, 0, 0, 0, 0⟩) [] := New.mk1 (l := []) (n := 0) rfl rfl
    generalize h6 ++ [Blk.cells [] true] = h10 at *
    refine N10.append (E := recE) (Hb.mono x10) (by simp; omega) fun q11 h12 N12 => ?_
    refine Made.put M6 x6.len N12.1 (l := b) N12.hasL (fun u t hu ht => ?_) (by rw [List.length_take]; omega) fun q' h' M' K' l' => ?_
    · have := N12.2.2 u hu
      have := M6.live t ht
      omega
    · rw [wrapK_i64 ⟨by omega, by omega⟩]
      refine ⟨trivial, ⟨q', i + 1, by simp, by omega, fun b C hC => K' b C (lt_of_get hC) (N12.1 _ _ (x6 _ _ hC)), ?_⟩, by simp only; omega⟩
      rw [List.take_add_one, hb]
      exact M'
  · replace g := of_decide_eq_false g
    have e : bags.take i = bags := List.take_of_length_le (by omega)
    rw [e] at M6
    exact hQ q2 h6 x6 M6)
end
end Go.Proofs.YtfafgnmlnhklaaaGreat

/- What a graph tells; its bags; a round. -/
namespace Go.Proofs.YtfafgnmlnhklaaaGreat
open Go.Ab
set_option linter.unusedVariables false
set_option linter.unusedSimpArgs false

theorem runG_inv {oth : Oth} {Pv : List Bag → Prop} : ∀ {l : List NT} {bags vars : List Bag}, (∀ n ∈ l, ∀ bags vars, (∀ b ∈ bags, GoodB b) → Pv vars → (oth n bags vars).1 = 0 → GoodB (oth n bags vars).2.1 ∧ Pv (oth n bags vars).2.2) → (∀ b ∈ bags, GoodB b) → Pv vars → (runG oth l bags vars).1 = 0 → (∀ b ∈ (runG oth l bags vars).2.1, GoodB b) ∧ Pv (runG oth l bags vars).2.2
  | [], bags, vars, _, hb, hv, _ => ⟨hb, hv⟩
  | n :: l, bags, vars, ho, hb, hv, h => by
    unfold runG at h ⊢
    by_cases hz : (stepG oth n bags vars).1 = 0
    · rw [if_pos hz] at h ⊢
      have hs : GoodB (stepG oth n bags vars).2.1 ∧ Pv (stepG oth n bags vars).2.2 := by
        unfold stepG at hz ⊢
        by_cases hop : isOpN n = true
        · rw [if_pos hop] at hz ⊢
          exact ⟨opR_good hz, hv⟩
        · rw [if_neg hop] at hz ⊢
          exact ho n (by simp) bags vars hb hv hz
      refine runG_inv (fun m hm => ho m (by simp [hm])) (fun b hb2 => ?_) hs.2 h
      rcases List.mem_append.1 hb2 with a | a
      · exact hb b a
      · simp only [List.mem_singleton] at a; subst a; exact hs.1
    · rw [if_neg hz] at h
      exact absurd h hz
theorem lastD_good {l : List Bag} (h : ∀ b ∈ l, GoodB b) : GoodB (l.getLastD []) := by
  rw [List.getLastD_eq_getLast?]
  cases e : l.getLast? with
  | none => exact good_nil
  | some b => exact h b (List.mem_of_getLast? e)
theorem getD_may {l : List Bag} {i : Nat} (h : ∀ b ∈ l, mayC b = 0) : mayC (l.getD i []) = 0 := by
  rw [List.getD_eq_getElem?_getD]
  cases e : l[i]? with
  | none => exact good_nil.1
  | some g => exact h g (List.mem_of_getElem? e)
theorem roundV_good {body : List NT} {outer : List Bag} {x : Bag} (ho : ∀ b ∈ outer, mayC b = 0) (hx : mayC x = 0) (h : (roundV body outer x).1 = 0) : GoodB (roundV body outer x).2 := by
  refine lastD_good (runG_inv (Pv := fun _ => True) (fun n _ bags vars hb _ hz => ⟨?_, trivial⟩) (by simp) trivial h).1
  unfold othI
  split
  · exact good_sort (getD_may ho)
  · exact good_sort hx
theorem loopV_good {body : List NT} {outer : List Bag} (ho : ∀ b ∈ outer, mayC b = 0) : ∀ {m : Nat} {x : Bag} {vars : List Bag}, GoodB x → (∀ v ∈ vars, GoodB v) → (loopV body outer m x vars).1 = 0 → GoodB (loopV body outer m x vars).2.1 ∧ (∀ v ∈ (loopV body outer m x vars).2.2, GoodB v) ∧ (loopV body outer m x vars).2.2.length ≤ vars.length + m
  | 0, x, vars, hx, hv, _ => ⟨hx, hv, by simp [loopV]⟩
  | m + 1, x, vars, hx, hv, h => by
    unfold loopV at h ⊢
    by_cases hz : (roundV body outer x).1 = 0
    · rw [if_pos hz] at h ⊢
      by_cases hs : sortR x = sortR (roundV body outer x).2
      · rw [if_pos hs]
        exact ⟨hx, hv, by simp⟩
      · rw [if_neg hs] at h ⊢
        have hg := roundV_good ho hx.1 hz
        obtain ⟨a, b, c⟩ := loopV_good ho hg (fun v hv2 => by
          rcases List.mem_append.1 hv2 with a | a
          · exact hv v a
          · simp only [List.mem_singleton] at a; subst a; exact hg) h
        refine ⟨a, b, ?_⟩
        rw [List.length_append, List.length_cons, List.length_nil] at c
        omega
    · rw [if_neg hz] at h
      exact absurd h hz
theorem loopV_last {body : List NT} {outer : List Bag} : ∀ {m : Nat} {x : Bag} {vars : List Bag}, vars.getLast? = some x → (loopV body outer m x vars).1 = 0 → (loopV body outer m x vars).2.2.getLast? = some (loopV body outer m x vars).2.1
  | 0, x, vars, h, _ => h
  | m + 1, x, vars, h, hz => by
    unfold loopV at hz ⊢
    by_cases h0 : (roundV body outer x).1 = 0
    · rw [if_pos h0] at hz ⊢
      by_cases hs : sortR x = sortR (roundV body outer x).2
      · rw [if_pos hs]; exact h
      · rw [if_neg hs] at hz ⊢
        exact loopV_last (by simp) hz
    · rw [if_neg h0] at hz; exact absurd hz h0
/-- What is known of bags and of what a loop came to. -/
theorem run_good {l : List NT} {out : Int} {inputs : List Bag} (h : evalE l out inputs = 0) : (∀ b ∈ (runG (othO inputs) l [] []).2.1, GoodB b) ∧ (∀ v ∈ (runG (othO inputs) l [] []).2.2, GoodB v) ∧ (runG (othO inputs) l [] []).2.2.length ≤ 65 := by
  obtain ⟨ok, hl, hi, hz⟩ := evalE_zero h
  have may := insE0 hi
  refine runG_inv (Pv := fun vars => (∀ v ∈ vars, GoodB v) ∧ vars.length ≤ 65) (fun n hn bags vars hb hv hz => ?_) (by simp) ⟨by simp, by simp⟩ hz
  obtain ⟨i, hni⟩ := List.mem_iff_getElem?.1 hn
  have hok := ok.node i n hni
  unfold othO at hz ⊢
  by_cases h9 : n.op = 9
  · rw [if_pos h9] at hz ⊢
    have hx : GoodB (loopX n bags) := getD_good hb
    obtain ⟨a, b, c⟩ := loopV_good (fun b hb2 => (hb b hb2).1) hx (vars := [loopX n bags]) (by simpa using hx) hz
    have num := hok.2.1
    unfold NumOk at num
    rw [if_neg (by omega), if_pos h9] at num
    simp only [List.length_cons, List.length_nil] at c
    exact ⟨a, b, by omega⟩
  · rw [if_neg h9]
    exact ⟨good_sort (getD_may may), hv⟩

section
variable {h : Heap} {Q : AV → Heap → Prop} {q q3 : Option SL} {l : List NT} {out : Int} {inputs : List Bag}
theorem Made.inGG0 {n0 : Nat} {q : Option SL} {ls : List Bag} (M : Made n0 h q ls) : InGG (fun b => b < h.length) h q ls := M.inGG
set_option maxRecDepth 20000 in
/-- Eval -/
theorem c9 (R : NodesR h q l) (L : Lens l) (G : InGG (fun b => b < h.length) h q3 inputs) (hil : ∀ x ∈ inputs, x.length ≤ 1000000)
    (h1 : evalE l out inputs ≠ 0 → ∀ h', Ext h h' → Q (.tup [.agg [.sl none, .int .i64 0, .sl none], .int .i64 (evalE l out inputs)]) h')
    (h2 : evalE l out inputs = 0 → ∀ qo qv h', Ext h h' → HasL recE h' qo ((runG (othO inputs) l [] []).2.1.getD out.toNat []) → InGG (fun b => b < h'.length) h' qv (runG (othO inputs) l [] []).2.2 → Q (.tup [.agg [.sl qo, .int .i64 (((runG (othO inputs) l [] []).2.2.length - 1 : Nat) : Int), .sl qv], .int .i64 0]) h') :
    AC Tryz.prog 9 [.agg [.sl q, .int .i64 out], .sl q3] h Q := ac9 (by
  unfold vc9
  refine c29 R L G hil (fun hne h5 x5 => ⟨none, _, rfl, vif_mk (fun _ => h1 hne h5 x5) (fun g => absurd (by simpa using g) hne)⟩) (fun hz own p qv h5 W x5 ho gb => ⟨some ⟨p, 0⟩, 0, rfl, vif_mk (fun g => by simp at g) (fun _ => ?_)⟩)
  obtain ⟨ok, hl, hi, hz2⟩ := evalE_zero hz
  obtain ⟨_, gv, lv⟩ := run_good hz
  have hlen := runG_len hz2
  have h2 := h2 hz
  generalize runG (othO inputs) l [] [] = r at *
  obtain ⟨q9, c9, B9, _⟩ := W.cells
  have cq : cellsAt h5 ⟨p, 0⟩ 1 = some [.sl q9] := by unfold cellsAt; simp [c9]
  have cv : cellsAt h5 ⟨p, 3⟩ 1 = some [.sl qv] := by unfold cellsAt; simp [c9]
  simp only [List.length_nil, Nat.zero_add] at hlen
  have okl := ok.len
  have oko := ok.out
  refine ⟨q9, cq, qv, cv, qv, cv, c30 B9.inGG (by omega) (fun b hb => by have := (gb b hb).len; omega) fun q16 h15 x15 M15 => ⟨q16, rfl, ⟨qv, x15.cells cv, rfl⟩, ⟨qv, x15.cells cv, rfl⟩, rfl, ?_⟩⟩
  refine M15.inGG.idx (i := out.toNat) (by omega) (by omega) fun p17 q18 b hb hc17 Hb f18 => ⟨q18, hc17, ?_⟩
  refine c30 (W.vs.ext x15).inGG (by omega) (fun b hb => by have := (gv b hb).len; omega) fun q21 h20 x20 M20 => ⟨q21, rfl, ⟨q18, x20.cells hc17, rfl⟩, ⟨qv, (x15.trans x20).cells cv, rfl⟩, rfl, ?_⟩
  have eb : r.2.1.getD out.toNat [] = b := by rw [List.getD_eq_getElem?_getD, hb]; rfl
  have em : maxI2 0 (wrapK .i64 ((slLen qv : Int) - 1)) = ((r.2.2.length - 1 : Nat) : Int) := by
    rw [W.vs.len, wrapK_i64 ⟨by omega, by omega⟩]
    unfold maxI2
    split <;> omega
  rw [em]
  exact h2 q18 q21 h20 (x5.trans (x15.trans x20)) (by rw [eb]; exact Hb.mono x20) M20.inGG)
/-- Bags -/
theorem c11 (R : NodesR h q l) (L : Lens l) (G : InGG (fun b => b < h.length) h q3 inputs) (hil : ∀ x ∈ inputs, x.length ≤ 1000000)
    (h1 : evalE l out inputs ≠ 0 → ∀ h', Ext h h' → Q (.tup [.sl none, .int .i64 (evalE l out inputs)]) h')
    (h2 : evalE l out inputs = 0 → ∀ q' h', Ext h h' → InGG (fun b => b < h'.length) h' q' (runG (othO inputs) l [] []).2.1 → Q (.tup [.sl q', .int .i64 0]) h') :
    AC Tryz.prog 11 [.agg [.sl q, .int .i64 out], .sl q3] h Q := ac11 (by
  unfold vc11
  refine c29 R L G hil (fun hne h5 x5 => ⟨none, _, rfl, vif_mk (fun _ => h1 hne h5 x5) (fun g => absurd (by simpa using g) hne)⟩) (fun hz own p qv h5 W x5 ho gb => ⟨some ⟨p, 0⟩, 0, rfl, vif_mk (fun g => by simp at g) (fun _ => ?_)⟩)
  obtain ⟨ok, hl, hi, hz2⟩ := evalE_zero hz
  have hlen := runG_len hz2
  have okl := ok.len
  simp only [List.length_nil, Nat.zero_add] at hlen
  obtain ⟨q9, c9, B9, _⟩ := W.cells
  refine ⟨q9, by show cellsAt h5 ⟨p, 0⟩ 1 = _; unfold cellsAt; simp [c9], c30 B9.inGG (by omega) (fun b hb => by have := (gb b hb).len; omega) fun q16 h15 x15 M15 => ⟨q16, rfl, ?_⟩⟩
  exact h2 hz q16 h15 (x5.trans x15) M15.inGG)
set_option maxRecDepth 20000 in
/-- Round -/
theorem c16 {F : Nat → Prop} {outer : List Bag} {x : Bag} {q4 : Option SL} {i : Nat} {n : NT} (R : NodesR h q l) (L : Lens l) (ok : OkG l out) (hat : loopAt l = some i) (hn : l[i]? = some n) (hol : outer.length = i) (G : InGG F h q3 outer) (H : HasL recE h q4 x) (ho : ∀ b ∈ outer, mayC b = 0) (hx : mayC x = 0)
    (h1 : (roundV n.body outer x).1 ≠ 0 → ∀ q' h', Ext h h' → Q (.tup [.sl q', .int .i64 (roundV n.body outer x).1]) h')
    (h2 : (roundV n.body outer x).1 = 0 → ∀ q' h', Ext h h' → HasL recE h' q' (roundV n.body outer x).2 → Q (.tup [.sl q', .int .i64 0]) h') :
    AC Tryz.prog 16 [.agg [.sl q, .int .i64 out], .sl q3, .sl q4] h Q := ac16 (by
  unfold vc16
  have hil := lt_of_get hn
  have okl := ok.len
  have h9 : n.op = 9 := by
    unfold loopAt at hat
    rw [List.findIdx?_eq_some_iff_getElem] at hat
    obtain ⟨a, b, _⟩ := hat
    rw [List.getElem?_eq_getElem a] at hn
    cases hn
    simpa using b
  have hb : OkB n.body outer.length := by
    have := (ok.node i n hn).2.2
    rw [if_pos h9] at this
    rw [hol]; exact this
  refine c35 R L fun e h6 x6 e0 _ => ⟨e, rfl, ?_⟩
  rw [e0 ok]
  refine vif_mk (fun g => by simp at g) (fun _ => ?_)
  refine c36 (R.mono x6) L ok fun h9' x9 => ⟨fun j hj => ?_, fun hnone => by rw [hat] at hnone; cases hnone⟩
  rw [hat] at hj
  cases hj
  refine ⟨_, true, rfl, vif_mk (fun g => by simp at g) (fun _ => ?_)⟩
  rw [G.len, hol]
  refine vif_mk (fun g => by simp at g) (fun _ => ?_)
  have x69 := x6.trans x9
  have lens : ∀ b ∈ outer, b.length ≤ 1000000 := fun b hb => by have := (mayC0 (ho b hb)).2; omega
  refine c30 (G.mono x69) (by omega) lens fun q14 h13 x13 M13 => ⟨q14, rfl, ?_⟩
  have H13 := H.mono (x69.trans x13)
  refine Made.put M13 x13.len (.refl _) H13 (fun u t hu ht => ?_) (by omega) fun q17 h18 M18 K18 l18 => ?_
  · obtain ⟨qs, m1, m2, m3, m4⟩ := M13
    have := m3 t ht
    have := H.live u hu
    have := x69.len
    omega
  have x18 : Ext h9' h18 := fun b C hC => K18 b C (lt_of_get hC) (x13 _ _ hC)
  have G18 := M18.inGG
  have may : ∀ b ∈ outer ++ [x], mayC b = 0 := fun b hb => by
    rcases List.mem_append.1 hb with a | a
    · exact ho b a
    · simp only [List.mem_singleton] at a; subst a; exact hx
  refine ⟨fun xs h22 => h22 = h18 ∧ ∃ j : Nat, xs = [.int .i64 j], fun xs _ => match xs with | [.int _ j] => ((outer ++ [x]).length - j).toNat | _ => 0, ⟨rfl, 0, rfl⟩, ?_⟩
  rintro n19 h22 ⟨rfl, j, hxs⟩
  simp only [List.cons.injEq, AV.int.injEq, true_and, and_true] at hxs
  subst hxs
  rw [G18.len]
  refine vif_mk (fun g => ?_) (fun g => ?_)
  · replace g := of_decide_eq_true g
    refine G18.idx (i := j) (by omega) rfl fun pp s b hb hc Hb f => ⟨s, hc, ?_⟩
    have hbm := may b (List.mem_of_getElem? hb)
    have := (mayC0 hbm).2
    refine c37 Hb (by omega) ⟨_, rfl, ?_⟩
    rw [hbm]
    refine vif_mk (fun g => by simp at g) (fun _ => ?_)
    have hlo : (outer ++ [x]).length ≤ 1000 := by rw [List.length_append]; simp; omega
    rw [wrapK_i64 ⟨by omega, by omega⟩]
    exact ⟨⟨rfl, trivial⟩, ⟨rfl, j + 1, by simp⟩, by simp only; omega⟩
  · have xx := x69.trans x18
    refine (R.mono xx).idx (i := i) hil rfl fun p28 c n' hn' hc28 Rc => ⟨c.qb, cellsAt_sub (k := 5) (m := 1) hc28 (by omega), ?_⟩
    rw [hn] at hn'
    obtain rfl : n = n' := Option.some.inj hn'
    refine c38 (G.mono xx) (H.mono xx) Rc.body hb ho hx (fun hne h31 x31 => ⟨none, _, rfl, pnew_mk ?_⟩) (fun hz q32 h31 x31 H31 f31 g31 => ⟨q32, 0, rfl, pnew_mk ?_⟩)
    · have N35 : New recE h31 (h31 ++ [Blk.cells [] true]) (some ⟨h31.length, 0, 0, 0, 0⟩) [] := New.mk1 (l := []) (n := 0) rfl rfl
      refine N35.append (E := recE) (src := none) (m := []) rfl (by simp) fun q36 h37 N37 => ?_
      exact h1 hne q36 h37 (xx.trans (x31.trans N37.1))
    · have N35 : New recE h31 (h31 ++ [Blk.cells [] true]) (some ⟨h31.length, 0, 0, 0, 0⟩) [] := New.mk1 (l := []) (n := 0) rfl rfl
      have := g31.len
      refine N35.append (E := recE) (H31.mono (Ext.app _ _)) (by simp; omega) fun q36 h37 N37 => ?_
      exact h2 hz q36 h37 (xx.trans (x31.trans N37.1)) N37.hasL)
end
end Go.Proofs.YtfafgnmlnhklaaaGreat

/- The reference's rounds, loops, bags. -/
namespace Go.Proofs.YtfafgnmlnhklaaaGreat
open Go.Ab
set_option linter.unusedVariables false
set_option linter.unusedSimpArgs false

section
variable {own F X : Nat → Prop} {h h' h0 : Heap} {q q3 q7 qi qb : Option SL} {ls bags vars : List Bag} {Q : AV → Heap → Prop} {l : List NT} {out : Int} {inputs : List Bag}
theorem InGG.live (G : InGG F h q ls) : InGG (fun b => F b ∧ b < h.length) h q ls := by
  obtain ⟨qs, a, b, c, d⟩ := G
  exact ⟨qs, a, b, fun s hs => ⟨c s hs, a.live s hs⟩, fun i s g hs hg => ⟨(d i s g hs hg).1, fun u hu => ⟨(d i s g hs hg).2 u hu, (d i s g hs hg).1.live u hu⟩⟩⟩
theorem InGG.imp {F' : Nat → Prop} (G : InGG F h q ls) (hF : ∀ b, F b → F' b) : InGG F' h q ls := by
  obtain ⟨qs, a, b, c, d⟩ := G
  exact ⟨qs, a, b, fun s hs => hF _ (c s hs), fun i s g hs hg => ⟨(d i s g hs hg).1, fun u hu => hF _ ((d i s g hs hg).2 u hu)⟩⟩
/-- ins, of the reference. -/
theorem c34 {op k a A : Int} {ins : List Int} (G : InGG F h q7 bags) (H : HasL intE h qi ins) (hins : ∀ y ∈ ins, 0 ≤ y ∧ y < bags.length) (hl : ins.length ≤ 1000000)
    (hQ : ∀ q' h', Ext h h' → InGG (fun b => b < h'.length) h' q' (ins.map fun i => bags.getD i.toNat []) → Q (.sl q') h') :
    AC Tryz.prog 34 [.agg [.int .i64 op, .sl qi, .int .i64 k, .int .i64 a, .int .i64 A, .sl qb], .sl q7] h Q := ac34 (by
  unfold vc34
  rw [H.len]
  refine ⟨fun xs h12 => ∃ (q8 : Option SL) (i : Nat), xs = [.sl q8, .int .i64 i] ∧ i ≤ ins.length ∧ Ext h h12 ∧ Made h.length h12 q8 ((ins.take i).map fun i => bags.getD i.toNat []), fun xs _ => match xs with | [_, .int _ i] => (ins.length - i).toNat | _ => 0, ⟨none, 0, rfl, by omega, .refl _, by simpa using Made.nil⟩, ?_⟩
  rintro q8 n9 h12 ⟨q8', i, hx, hi, x12, M12⟩
  simp only [List.cons.injEq, AV.int.injEq, AV.sl.injEq, true_and, and_true] at hx
  obtain ⟨rfl, rfl⟩ := hx
  refine vif_mk (fun g => ?_) (fun g => ?_)
  · replace g := of_decide_eq_true g
    refine (H.mono x12).idx (E := intE) (by omega) (by omega) fun p13 y hy hcy => ⟨y, hcy, ?_⟩
    rw [Int.toNat_natCast] at hy
    obtain ⟨y0, y1⟩ := hins y (List.mem_of_getElem? hy)
    refine G.idx (i := y.toNat) (by omega) (by omega) fun p17 s gb hg hcs Hs _ => ⟨s, x12.cells hcs, ?_⟩
    have eb : bags.getD y.toNat [] = gb := by rw [List.getD_eq_getElem?_getD, hg]; rfl
    have hsl := Hs.live
    refine Made.put M12 x12.len (.refl _) (Hs.mono x12) (fun u t hu ht => ?_) (by rw [List.length_map, List.length_take]; omega) fun q' h' M' K' l' => ?_
    · obtain ⟨qs, m1, m2, m3, m4⟩ := M12
      have := m3 t ht
      have := hsl u hu
      omega
    · rw [wrapK_i64 ⟨by omega, by omega⟩]
      refine ⟨⟨rfl, trivial⟩, ⟨q', i + 1, by simp, by omega, fun b C hC => K' b C (lt_of_get hC) (x12 _ _ hC), ?_⟩, by simp only; omega⟩
      rw [List.take_add_one, hy, List.map_append, ← eb] at *
      exact M'
  · replace g := of_decide_eq_false g
    have e : ins.take i = ins := List.take_of_length_le (by omega)
    rw [e] at M12
    exact hQ q8 h12 x12 M12.inGG)

/-- A row of bags, nobody else's. -/
structure Row (n0 : Nat) (F : Nat → Prop) (own : Nat → Prop) (h : Heap) (q : Option SL) (ls : List Bag) : Prop where
  bgs : BGS own F h q ls
  low : ∀ b, own b → n0 ≤ b
  live : ∀ b, own b → b < h.length
theorem Row.ext {n0 : Nat} (R : Row n0 F own h q ls) (e : Ext h h') : Row n0 F own h' q ls :=
  ⟨R.bgs.ext e, R.low, fun b hb => by have := R.live b hb; have := e.len; omega⟩
theorem Row.nil {n0 : Nat} : Row n0 F (fun _ => False) h none [] := ⟨.nil, fun b hb => hb.elim, fun b hb => hb.elim⟩
/-- One bag more. -/
theorem Row.push {n0 : Nat} {q2 : Option SL} {x : Bag} {K : Option SL → Heap → Prop} (R : Row n0 F own h q ls) (hn0 : n0 ≤ h.length) (H : HasL recE h q2 x) (hq2 : ∀ u, q2 = some u → ¬ own u.b ∧ F u.b) (hl : ls.length ≤ 1000000)
    (hK : ∀ (q' : Option SL) (h' : Heap) (own' : Nat → Prop), Row n0 F own' h' q' (ls ++ [x]) → Keeps own h h' → h.length ≤ h'.length → (∀ b, own' b → own b ∨ h.length ≤ b) → K q' h') :
    PNew [.sl q2] true h fun a h2 => PAppendS 1 24 q (some ⟨a, 0, 1, 1, 0⟩) h2 K := by
  obtain ⟨B, lo, lv⟩ := R
  refine B.push lv H hq2 hl fun q' h' own' B' ho K' l' hq' => ?_
  have bo : ∀ s, q = some s → own s.b := by
    obtain ⟨qs, _, _, d, _⟩ := B
    exact d
  have o' : ∀ b, own' b → own b ∨ h.length ≤ b := fun b hb => by
    rcases (ho b).1 hb with a | ⟨s', a1, a2⟩
    · exact .inl a
    · rcases hq' s' a1 with b1 | ⟨s, b1, b2⟩
      · exact .inr (by omega)
      · left; rw [← a2, ← b2]; exact bo s b1
  refine hK q' h' own' ⟨B', fun b hb => ?_, fun b hb => ?_⟩ (fun b C hb hC => K' b C (fun ⟨s, a1, a2⟩ => hb (by rw [← a2]; exact bo s a1)) hC) l' o'
  · rcases o' b hb with a | a
    · exact lo b a
    · omega
  · rcases (ho b).1 hb with a | ⟨s', a1, a2⟩
    · have := lv b a; omega
    · rcases hq' s' a1 with b1 | ⟨s, b1, b2⟩
      · omega
      · have := lv _ (bo s b1); omega

set_option maxRecDepth 20000 in
/-- Round, of the reference. -/
theorem c54 {outer : List Bag} {x : Bag} {q1 q2 q3 : Option SL} {body : List NT} (R : NodesR h q1 body) (G : InGG F h q2 outer) (H : HasL recE h q3 x) (ok : OkB body outer.length) (ho : ∀ b ∈ outer, mayC b = 0) (hx : mayC x = 0)
    (h1 : (roundV body outer x).1 ≠ 0 → ∀ h', Ext h h' → Q (.tup [.sl none, .int .i64 (roundV body outer x).1]) h')
    (h2 : (roundV body outer x).1 = 0 → ∀ q' h', Ext h h' → HasL recE h' q' (roundV body outer x).2 → (∀ u, q' = some u → h.length ≤ u.b) → Q (.tup [.sl q', .int .i64 0]) h') :
    AC Tryz.prog 54 [.sl q1, .sl q2, .sl q3] h Q := ac54 (by
  unfold vc54
  rw [R.len]
  have okl := ok.1
  have oku := ok.2.1
  have hxl := (mayC0 hx).2
  refine ⟨fun xs h8 => ∃ (i : Nat) (own : Nat → Prop) (q4 : Option SL) (bags : List Bag), xs = [.sl q4, .int .i64 i] ∧ i ≤ body.length ∧ bags.length = i ∧ Row h.length (fun b => h.length ≤ b) own h8 q4 bags ∧ Ext h h8 ∧ (∀ b ∈ bags, GoodB b) ∧ runG (othI outer x) body [] [] = runG (othI outer x) (body.drop i) bags [], fun xs _ => match xs with | [_, .int _ i] => (body.length - i).toNat | _ => 0, ⟨0, _, none, [], rfl, by omega, rfl, .nil, .refl _, by simp, rfl⟩, ?_⟩
  rintro q4 n5 h8 ⟨i, own, q4', bags, hxs, hi, hbl, W, x8, gb, er⟩
  simp only [List.cons.injEq, AV.int.injEq, AV.sl.injEq, true_and, and_true] at hxs
  obtain ⟨rfl, rfl⟩ := hxs
  refine vif_mk (fun g => ?_) (fun g => ?_)
  · replace g := of_decide_eq_true g
    have hn : body[i]? = some body[i] := List.getElem?_eq_getElem (by omega)
    have hd : body.drop i = body[i] :: body.drop (i + 1) := List.drop_eq_getElem_cons (by omega)
    generalize hnn : body[i] = n at *
    have hP := ok.2.2 i n hn
    rw [hd, runG] at er
    have w : wrapK .i64 ((i : Int) + 1) = ((i + 1 : Nat) : Int) := by rw [wrapK_i64 ⟨by omega, by omega⟩]; omega
    rw [w]
    have fin : ∀ {h20 : Heap} {q21 : Option SL} {y : Bag}, stepG (othI outer x) n bags [] = (0, y, []) → Ext h8 h20 → HasL recE h20 q21 y → (∀ u, q21 = some u → h8.length ≤ u.b) → GoodB y →
        PNew [.sl q21] true h20 fun a h22 => PAppendS 1 24 q4 (some ⟨a, 0, 1, 1, 0⟩) h22 fun q27 h28 => (True) ∧ (∃ (i' : Nat) (own : Nat → Prop) (q4 : Option SL) (bags : List Bag), [AV.sl q27, .int .i64 ((i + 1 : Nat) : Int)] = [.sl q4, .int .i64 i'] ∧ i' ≤ body.length ∧ bags.length = i' ∧ Row h.length (fun b => h.length ≤ b) own h28 q4 bags ∧ Ext h h28 ∧ (∀ b ∈ bags, GoodB b) ∧ runG (othI outer x) body [] [] = runG (othI outer x) (body.drop i') bags []) ∧ ((body.length : Int) - ((i + 1 : Nat) : Int)).toNat < ((body.length : Int) - (i : Int)).toNat := by
      intro h20 q21 y hs x20 H21 f21 g21
      have W20 := W.ext x20
      refine W20.push (by have := x8.len; have := x20.len; omega) H21 (fun u hu => ⟨fun hb => by have := W.live _ hb; have := f21 u hu; omega, by have := f21 u hu; have := x8.len; omega⟩) (by omega) fun q' h' own' R' K' l' o' => ?_
      rw [hs, if_pos rfl] at er
      refine ⟨trivial, ⟨i + 1, own', q', _, rfl, by omega, by rw [List.length_append, hbl]; rfl, R', fun b C hC => K' b C (fun hb => by have := W.low b hb; have := lt_of_get hC; omega) (x20 _ _ (x8 _ _ hC)), fun b hb => ?_, er⟩, by omega⟩
      rcases List.mem_append.1 hb with a | a
      · exact gb b a
      · simp only [List.mem_singleton] at a; subst a; exact g21
    refine R.idx (i := i) (by omega) rfl fun p7 c n' hn' hc7 Rc0 => ⟨_, _, _, _, _, _, x8.cells hc7, ?_⟩
    rw [hn] at hn'
    obtain rfl : n = n' := Option.some.inj hn'
    obtain ⟨e1, e2, e3, e4⟩ := Rc0.same
    have Rc := Rc0.mono x8
    rw [e1, e4]
    have hk := okN_isOp (okI_iff.2 hP)
    refine vif_mk (fun g1 => ?_) (fun g1 => vif_mk (fun g2 => ?_) (fun g2 => ?_))
    · have g1 : n.op = 10 := by simpa using g1
      have hf : isOpN n = false := by
        cases hh : isOpN n with
        | false => rfl
        | true => have := hk.1 hh; omega
      refine c19 (H.mono x8) (by omega) fun q18 h17 x17 H17 f17 => ⟨q18, rfl, ?_⟩
      exact fin (by unfold stepG othI; simp [hf, g1]) x17 H17 f17 (good_sort hx)
    · have g1 : n.op ≠ 10 := by simpa using g1
      have g2 : n.op = 11 := by simpa using g2
      have hf : isOpN n = false := by
        cases hh : isOpN n with
        | false => rfl
        | true => have := hk.1 hh; omega
      rcases okI_kinds hP hf with h10 | ⟨_, hA0, hA1⟩
      · exact absurd h10 g1
      refine (G.mono x8).idx (i := n.A.toNat) (by omega) (by omega) fun pp s b hb hc Hb f => ⟨s, hc, ?_⟩
      have hbm := ho b (List.mem_of_getElem? hb)
      have := (mayC0 hbm).2
      have eb : outer.getD n.A.toNat [] = b := by rw [List.getD_eq_getElem?_getD, hb]; rfl
      refine c19 Hb (by omega) fun q18 h17 x17 H17 f17 => ⟨q18, rfl, ?_⟩
      exact fin (by unfold stepG othI; simp only [hf, g2, eb, Bool.false_eq_true, if_false, if_true]) x17 H17 f17 (good_sort hbm)
    · have g1 : n.op ≠ 10 := by simpa using g1
      have g2 : n.op ≠ 11 := by simpa using g2
      have hop : isOpN n = true := by
        cases hh : isOpN n with
        | true => rfl
        | false => rcases okI_kinds hP hh with a | a <;> omega
      have es : stepG (othI outer x) n bags [] = ((opR n (insOf n bags)).1, (opR n (insOf n bags)).2, []) := by unfold stepG; rw [if_pos hop]
      have arl : arityV n.op ≤ 2 := by unfold arityV; repeat' split
                                       all_goals omega
      have il := hP.1.len
      have hi1 : ∀ l ∈ insOf n bags, l.length ≤ 1000000 := by
        intro l hl
        obtain ⟨y, _, rfl⟩ := List.mem_map.1 hl
        have := (getD_good (i := y.toNat) gb).len
        omega
      have eA : (slLen c.qi : Nat) = n.ins.length := Rc.ins.len
      have eB : (slLen c.qb : Nat) = n.body.length := Rc.body.len
      refine c34 W.bgs.inGG Rc.ins (by rw [hbl]; exact hP.1.ins) (by omega) fun q34 h33 x33 G33 => ⟨q34, rfl, rfl, ?_⟩
      refine c23 G33 (by rw [List.length_map]; omega) hi1 (fun hn h36 x36 => ⟨none, _, rfl, vif_mk (fun _ => ?_) (fun g => absurd (by simpa using g) hn)⟩) (fun hz q37 h36 x36 H36 f36 => ⟨q37, 0, rfl, vif_mk (fun g => by simp at g) (fun _ => ?_)⟩)
      · rw [e2, e3, eA, eB] at hn ⊢
        have e : (opR n (insOf n bags)).1 = applyE n.op n.ins.length n.k n.a n.A n.body.length (n.ins.map fun i => bags.getD i.toNat []) := by
          unfold opR
          exact congrArg Prod.fst (if_neg hn)
        rw [es] at er
        simp only at er
        rw [e, if_neg hn] at er
        have er1 : (roundV body outer x).1 = applyE n.op n.ins.length n.k n.a n.A n.body.length (n.ins.map fun i => bags.getD i.toNat []) := by
          unfold roundV; rw [er]
        rw [er1] at h1
        exact h1 hn h36 (x8.trans (x33.trans x36))
      · rw [e2, e3, eA, eB] at hz
        rw [e2, e3] at H36
        have e : opR n (insOf n bags) = (0, sortR (madeV n.op n.k n.a (insOf n bags))) := by
          unfold opR
          exact if_pos hz
        have gg := opR_good (n := n) (ins := insOf n bags) (by rw [e])
        rw [e] at es gg
        exact fin es (x33.trans x36) H36 (fun u hu => by have := f36 u hu; have := x33.len; omega) gg
  · replace g := of_decide_eq_false g
    have e : body.drop i = [] := List.drop_eq_nil_of_le (by omega)
    rw [e] at er
    rw [W.bgs.len, hbl, wrapK_i64 ⟨by omega, by omega⟩]
    refine W.bgs.idx (i := bags.length - 1) (by omega) (by omega) fun p43 s b hb hc Hb fb => ⟨s, hc, ?_⟩
    have er1 : roundV body outer x = (0, b) := by
      unfold roundV; rw [er, runG]
      simp only
      rw [List.getLastD_eq_getLast?, List.getLast?_eq_getElem?, hb]; rfl
    rw [er1] at h2
    exact h2 rfl s h8 x8 Hb (fun u hu => (fb u hu).2))
set_option maxRecDepth 20000 in
/-- loop, of the reference. -/
theorem c33 {outer : List Bag} {x : Bag} {c : NC} {n : NT} {q7 q8 : Option SL} (R : NodeR h c n) (G : InGG F h q7 outer) (H : HasL recE h q8 x) (ok : OkB n.body outer.length) (ho : ∀ b ∈ outer, GoodB b) (gx : GoodB x) (hA : 1 ≤ n.A ∧ n.A ≤ 64)
    (h1 : (loopV n.body outer n.A.toNat x [x]).1 ≠ 0 → ∀ h', Ext h h' → Q (.tup [.sl none, .int .i64 (loopV n.body outer n.A.toNat x [x]).1]) h')
    (h2 : (loopV n.body outer n.A.toNat x [x]).1 = 0 → ∀ q' h', Ext h h' → InGG (fun b => h.length ≤ b ∨ ∃ u, q8 = some u ∧ u.b = b) h' q' (loopV n.body outer n.A.toNat x [x]).2.2 → Q (.tup [.sl q', .int .i64 0]) h') :
    AC Tryz.prog 33 [.agg c.cs, .sl q7, .sl q8] h Q := ac33 (by
  unfold vc33
  obtain ⟨e1, e2, e3, e4⟩ := R.same
  refine pnew_mk ?_
  have x10 := Ext.app h [Blk.cells [.sl q8] true]
  have A10 : AppJ slE (h ++ [Blk.cells [.sl q8] true]) (some ⟨h.length, 0, 1, 1, 0⟩) [q8] := .of (Apd.mk rfl (.inl rfl) (by simp; rfl))
  have l10 : (h ++ [Blk.cells [AV.sl q8] true]).length = h.length + 1 := by simp
  generalize h ++ [Blk.cells [.sl q8] true] = h10 at *
  have W10 : Row h.length (fun b => h.length ≤ b ∨ ∃ u, q8 = some u ∧ u.b = b) (fun b => b = h.length) h10 (some ⟨h.length, 0, 1, 1, 0⟩) [x] := by
    refine ⟨⟨[q8], A10, rfl, fun s hs => by cases hs; rfl, fun i s g hs hg => ?_⟩, fun b hb => by omega, fun b hb => by omega⟩
    match i with
    | 0 =>
      simp only [List.getElem?_cons_zero, Option.some.injEq] at hs hg
      subst hs; subst hg
      exact ⟨H.mono x10, fun u hu => ⟨fun e => by have := H.live u hu; omega, .inr ⟨u, hu, rfl⟩⟩⟩
    | i + 1 => simp at hs
  rw [e4]
  refine ⟨fun xs h16 => ∃ (j : Nat) (own : Nat → Prop) (q11 q12 : Option SL) (x2 : Bag) (vars : List Bag), xs = [.sl q11, .sl q12, .int .i64 j] ∧ (j : Int) ≤ n.A ∧ Row h.length (fun b => h.length ≤ b ∨ ∃ u, q8 = some u ∧ u.b = b) own h16 q12 vars ∧ Ext h h16 ∧ HasL recE h16 q11 x2 ∧ (∀ u, q11 = some u → ¬ own u.b) ∧ GoodB x2 ∧ vars.length ≤ j + 1 ∧ loopV n.body outer n.A.toNat x [x] = loopV n.body outer (n.A.toNat - j) x2 vars, fun xs _ => match xs with | [_, _, .int _ j] => (n.A - j).toNat | _ => 0, ⟨0, _, q8, _, x, [x], rfl, by omega, W10, x10, H.mono x10, fun u hu e => by have := H.live u hu; omega, gx, by simp, rfl⟩, ?_⟩
  rintro q11 q12 n13 h16 ⟨j, own, q11', q12', x2, vars, hxs, hj, W, x16, H16, f16, g16, vl, el⟩
  simp only [List.cons.injEq, AV.int.injEq, AV.sl.injEq, true_and, and_true] at hxs
  obtain ⟨rfl, rfl, rfl⟩ := hxs
  refine vif_mk (fun g => ?_) (fun g => ?_)
  · replace g := of_decide_eq_true g
    have ej : n.A.toNat - j = (n.A.toNat - (j + 1)) + 1 := by omega
    rw [ej, loopV] at el
    refine c54 (R.body.mono x16) (G.mono x16) H16 ok (fun b hb => (ho b hb).1) g16.1 (fun hne h18 x18 => ⟨none, _, rfl, vif_mk (fun _ => ?_) (fun g => absurd (by simpa using g) hne)⟩) (fun hz q19 h18 x18 H18 f18 => ⟨q19, 0, rfl, vif_mk (fun g => by simp at g) (fun _ => ?_)⟩)
    · rw [if_neg hne] at el
      rw [el] at h1
      exact h1 hne h18 (x16.trans x18)
    · rw [if_pos hz] at el
      have g18 := roundV_good (fun b hb => (ho b hb).1) g16.1 hz
      have l2 := g16.len
      have l3 := g18.len
      have c18 : ∀ {K : AV → Heap → Prop}, (∀ h', Ext h18 h' → K (.bool (decide (sortR x2 = sortR (roundV n.body outer x2).2))) h') → AC Tryz.prog 18 [.sl q11, .sl q19] h18 K := fun {K} hK => ac18 (by
        unfold vc18
        rw [(H16.mono x18).len, H18.len]
        refine vif_mk (fun _ => ?_) (fun g => ?_)
        · refine c19 (H16.mono x18) (by omega) fun q5 h4 x4 H4 _ => ⟨q5, rfl, c19 (H18.mono x4) (by omega) fun q8 h7 x7 H7 _ => ⟨q8, rfl, o17 (H4.mono x7) H7 (by rw [sortR_len]; omega) ⟨_, rfl, hK _ (x4.trans x7)⟩⟩⟩
        · have hd : decide (sortR x2 = sortR (roundV n.body outer x2).2) = false := by
            refine decide_eq_false fun e => ?_
            have := congrArg List.length e
            rw [sortR_len, sortR_len] at this
            rw [this] at g; simp at g
          have := hK _ (.refl _)
          rw [hd] at this; exact this)
      refine c18 fun h22 x22 => ⟨_, rfl, vif_mk (fun gs => ?_) (fun gs => ?_)⟩
      · rw [if_pos (of_decide_eq_true gs)] at el
        rw [el] at h2
        have xx := x18.trans x22
        exact h2 rfl q12 h22 (x16.trans xx) (by
          have := (W.ext xx).bgs
          obtain ⟨qs, a, b, c, d⟩ := this
          exact ⟨qs, a.hasL, b, fun s hs => .inl (W.low _ (c s hs)), fun i s g hs hg => ⟨(d i s g hs hg).1, fun u hu => ((d i s g hs hg).2 u hu).2⟩⟩)
      · rw [if_neg (of_decide_eq_false gs)] at el
        have xx := x18.trans x22
        have ll := x16.len
        refine (W.ext xx).push (by have := xx.len; omega) (H18.mono x22) (fun u hu => ⟨fun hb => by have := W.live _ hb; have := f18 u hu; omega, .inl (by have := f18 u hu; omega)⟩) (by omega) fun q26 h27 own' W27 K27 l27 o27 => ?_
        rw [wrapK_i64 ⟨by omega, by omega⟩]
        have H27 : HasL recE h27 q19 (roundV n.body outer x2).2 := K27.hasL (fun u hu hb => by have := W.live _ hb; have := f18 u hu; omega) (H18.mono x22)
        refine ⟨⟨rfl, trivial⟩, ⟨j + 1, own', q19, q26, _, _, rfl, by omega, W27, fun b C hC => K27 b C (fun hb => by have := W.low b hb; have := lt_of_get hC; omega) (xx _ _ (x16 _ _ hC)), H27, fun u hu hb => ?_, g18, by simp; omega, el⟩, by simp only; omega⟩
        have hlv := (H18.mono x22).live u hu
        rcases o27 _ hb with a | a
        · have := W.live _ a; have := f18 u hu; omega
        · omega
  · replace g := of_decide_eq_false g
    have ej : n.A.toNat - j = 0 := by omega
    rw [ej, loopV] at el
    rw [el] at h2
    refine h2 rfl q12 h16 x16 ?_
    obtain ⟨qs, a, b, c, d⟩ := W.bgs
    exact ⟨qs, a.hasL, b, fun s hs => .inl (W.low _ (c s hs)), fun i s g hs hg => ⟨(d i s g hs hg).1, fun u hu => ((d i s g hs hg).2 u hu).2⟩⟩)
end
end Go.Proofs.YtfafgnmlnhklaaaGreat
