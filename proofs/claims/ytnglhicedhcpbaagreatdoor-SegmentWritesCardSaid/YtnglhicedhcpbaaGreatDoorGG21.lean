/- The document's reader of numbers. -/
import Derived.Test.YtnglhicedhcpbaaGreatDoorGG20
namespace Go.Proofs.YtnglhicedhcpbaaGreatDoor
open Go.Ab
open Go.Num hiding Bs
set_option linter.unusedVariables false
set_option linter.unusedSimpArgs false
theorem tk1 {c : UInt8} {l : Bs} : tk 1 (some (c :: l)) = some ([c], l) := by simp [tk]; omega
theorem numB_len_eq {n : Nat} : (numB n).length = if n < 240 then 1 else if n < 2288 then 2 else 1 + wid n := by
  unfold numB
  split
  · rfl
  · split
    · rfl
    · simp [beL_len]; omega

theorem vptr_mk {p : PA} {K : PA → Prop} (h : K p) : vPtr (some p) K := h
section
variable {h : Heap} {Q : AV → Heap → Prop} {p : Nat} {o : Option Bs}
set_option maxRecDepth 20000 in
/-- Num. -/
theorem u135 (R : Rd h p o) (hl : Bd o) (hQ : ∀ h', Fr p h h' → Rd h' p (stO (nm o)) → Q (.int .i64 (valN (nm o))) h') : AC Tryz.prog 135 [.ptr (some ⟨p, 0⟩)] h Q := ac135 (by
  unfold vc135
  have bad0 : nm o = none → ∀ o' h3, Fr p h h3 → Rd h3 p o' → PStore h3 ⟨p, 0 + 1⟩ [.bool true] fun h4 => Q (.int .i64 0) h4 := by
    intro e o' h3 F3 R3
    rw [e] at hQ
    exact rd_fail R3 fun h4 F4 R4 => hQ h4 (F3.trans F4) R4
  refine u211 R hl (fun ht h3 F3 R3 => ⟨none, rfl, ?_⟩) (fun a b ht q4 h3 F3 H3 _ R3 => ⟨q4, rfl, ?_⟩)
  · refine ⟨_, rd_bad R3, vif_mk (fun _ => ?_) (fun g => by cases g)⟩
    match o with
    | none => exact hQ h3 F3 R3
    | some [] => exact hQ h3 F3 R3
    | some (c :: l) => rw [tk1] at ht; cases ht
  · refine ⟨_, rd_bad R3, vif_mk (fun g => by cases g) (fun _ => ?_)⟩
    match o with
    | none => cases ht
    | some [] => simp [tk] at ht
    | some (c :: l) =>
      rw [tk1] at ht
      simp only [Option.some.injEq, Prod.mk.injEq] at ht
      obtain ⟨rfl, rfl⟩ := ht
      have hcl := hl _ rfl
      rw [List.length_cons] at hcl
      have hc := c.toNat_lt
      refine HasL.idx (E := byE) H3 (by omega) (by simp) fun pp x hx hcx => ?_
      have hx : c = x := by simpa using hx
      subst hx
      refine ⟨((c.toNat : Nat) : Int), hcx, ?_⟩
      rw [wrapK_i64 (n := (c.toNat : Int)) ⟨by omega, by omega⟩]
      refine vif_mk (fun g => ?_) (fun g => ?_)
      · replace g := of_decide_eq_true g
        have e : nm (some (c :: l)) = some (c.toNat, l) := by simp only [nm, rdN]; rw [if_pos (by omega)]
        rw [e] at hQ
        exact hQ h3 F3 R3
      replace g := of_decide_eq_false g
      refine vif_mk (fun g2 => ?_) (fun g2 => ?_)
      · replace g2 := of_decide_eq_true g2
        refine u212 R3 (fun l' h => by cases h; omega) fun h6 F6 R6 => ⟨_, rfl, ?_⟩
        cases l with
        | nil =>
          have e : nm (some (c :: [])) = none := by simp only [nm, rdN]; rw [if_neg (by omega), if_pos (by omega)]
          rw [fx1_nil] at R6
          exact ⟨_, rd_bad R6, vif_mk (fun _ => bad0 e _ _ (F3.trans F6) R6) (fun g => by cases g)⟩
        | cons x l =>
          have hx := x.toNat_lt
          have e : nm (some (c :: x :: l)) = some (240 + (c.toNat - 240) * 256 + x.toNat, l) := by simp only [nm, rdN]; rw [if_neg (by omega), if_pos (by omega)]
          rw [e] at hQ
          rw [fx1] at R6 ⊢
          simp only [stO] at R6
          refine ⟨_, rd_bad R6, vif_mk (fun g => by cases g) (fun _ => ?_)⟩
          rw [valN_some, wrapK_i64 (n := (c.toNat : Int) - 240) ⟨by omega, by omega⟩, wrapK_i64 (n := 256 * ((c.toNat : Int) - 240)) ⟨by omega, by omega⟩, wrapK_i64 (n := 240 + 256 * ((c.toNat : Int) - 240)) ⟨by omega, by omega⟩, wrapK_i64 (n := 240 + 256 * ((c.toNat : Int) - 240) + (x.toNat : Int)) ⟨by omega, by omega⟩]
          have e3 : (240 + 256 * ((c.toNat : Int) - 240) + (x.toNat : Int)) = ((240 + (c.toNat - 240) * 256 + x.toNat : Nat) : Int) := by omega
          rw [e3]
          refine t141 (by simp only [M63]; omega) fun q18 h17 N => ⟨q18, rfl, ?_⟩
          refine u213 hc ⟨_, rfl, ?_⟩
          have hln := N.hasL.len
          rw [numB_len_eq, if_neg (by omega), if_pos (by omega)] at hln
          rw [hln, if_pos (by omega)]
          refine vif_mk (fun g => by cases g) (fun _ => ?_)
          exact hQ h17 ((F3.trans F6).trans (Fr.ofExt N.1)) (R6.ext N.1)
      replace g2 := of_decide_eq_false g2
      refine vif_mk (fun g3 => ?_) (fun g3 => ?_)
      · replace g3 := of_decide_eq_true g3
        rw [wrapK_i64 (n := (c.toNat : Int) - 246) ⟨by omega, by omega⟩]
        have ek : ((c.toNat : Int) - 246) = ((c.toNat - 246 : Nat) : Int) := by omega
        rw [ek]
        generalize hk : c.toNat - 246 = k at *
        have ern : nm (some (c :: l)) = if k ≤ l.length ∧ beV (l.take k) < 9223372036854775808 ∧ 2288 ≤ beV (l.take k) ∧ wid (beV (l.take k)) = k then some (beV (l.take k), l.drop k) else none := by
          simp only [nm, rdN]
          rw [if_neg (by omega), if_neg (by omega), if_pos (by omega), hk]
        have efx : fx (k : Int) (some l) = if k ≤ l.length then (if beV (l.take k) < M63 then some (beV (l.take k), l.drop k) else none) else none := by
          unfold fx
          rw [if_pos (by omega)]
          simp only [tk]
          by_cases hkl : k ≤ l.length
          · rw [if_pos (by omega), if_pos hkl]; simp
          · rw [if_neg (by omega), if_neg hkl]
        refine u212 R3 (fun l' h => by cases h; omega) fun h12 F12 R12 => ⟨_, rfl, ?_⟩
        refine ⟨_, rd_bad R12, ?_⟩
        by_cases hok : k ≤ l.length ∧ beV (l.take k) < M63
        · rw [if_pos hok.1, if_pos hok.2] at efx
          rw [efx] at R12 ⊢
          simp only [stO] at R12
          rw [valN_some]
          refine vif_mk (fun g => by cases g) (fun _ => ?_)
          have h63 := hok.2
          simp only [M63] at h63
          refine t141 hok.2 fun q18 h17 N => ⟨q18, rfl, ?_⟩
          refine u213 hc ⟨_, rfl, ?_⟩
          have hln := N.hasL.len
          rw [if_neg (by omega)]
          have F17 := (F3.trans F12).trans (Fr.ofExt N.1)
          refine vif_mk (fun g5 => ?_) (fun g5 => ?_)
          · refine bad0 ?_ _ _ F17 (R12.ext N.1)
            rw [ern, if_neg]
            rintro ⟨a1, a2, a3, a4⟩
            rw [numB_len_eq, if_neg (by omega), if_neg (by omega), a4] at hln
            rw [hln] at g5
            have : ((1 + k : Nat) : Int) ≠ ((c.toNat - 245 : Nat) : Int) := by simpa using g5
            omega
          · have hlen : ((slLen q18 : Nat) : Int) = ((c.toNat - 245 : Nat) : Int) := by simpa using g5
            rw [hln, numB_len_eq] at hlen
            have h2288 : 2288 ≤ beV (l.take k) := by
              rcases Nat.lt_or_ge (beV (l.take k)) 2288 with hh | hh
              · exfalso
                split at hlen
                · omega
                · omega
              · exact hh
            rw [if_neg (by omega), if_neg (by omega)] at hlen
            rw [if_pos ⟨hok.1, h63, h2288, by omega⟩] at ern
            rw [ern] at hQ
            exact hQ h17 F17 (R12.ext N.1)
        · have hf : fx (k : Int) (some l) = none := by
            rw [efx]
            by_cases h1 : k ≤ l.length
            · rw [if_pos h1, if_neg (fun h2 => hok ⟨h1, h2⟩)]
            · rw [if_neg h1]
          rw [hf] at R12 ⊢
          refine vif_mk (fun _ => bad0 ?_ _ _ (F3.trans F12) R12) (fun g => by cases g)
          rw [ern, if_neg]
          rintro ⟨a1, a2, _⟩
          exact hok ⟨a1, a2⟩
      · replace g3 := of_decide_eq_false g3
        have e : nm (some (c :: l)) = none := by simp only [nm, rdN]; rw [if_neg (by omega), if_neg (by omega), if_neg (by omega)]
        refine vptr_mk (rd_fail R3 fun h4 F4 R4 => ⟨_, rd_bad R4, vif_mk (fun _ => bad0 e _ _ (F3.trans F4) R4) (fun g => by cases g)⟩))

end
end Go.Proofs.YtnglhicedhcpbaaGreatDoor

/- Packs as entries: the engine's and the document's. -/
namespace Go.Proofs.YtnglhicedhcpbaaGreatDoor
open Go.Ab
open Go.Num hiding Bs snoc_ind
open Go.Ent
set_option linter.unusedVariables false
set_option linter.unusedSimpArgs false

attribute [local irreducible] momErr recErr
/-- Two numbers. -/
def rd2 (o : Option Bs) : Option ((Nat × Nat) × Bs) := match nm o with
  | none => none
  | some (x, b) => match rdN b with
    | none => none
    | some (y, c) => some ((x, y), c)
theorem rd4_rd2 {b : Bs} : rd4 b = match rd2 (some b) with
    | none => none
    | some ((x, y), r) => match rd2 (some r) with
      | none => none
      | some ((z, w), t) => some (((x : Int), (y : Int), (z : Int), (w : Int)), t) := by
  unfold rd4 rd2 nm
  simp only
  cases rdN b with
  | none => rfl
  | some r =>
    obtain ⟨x, b1⟩ := r
    simp only
    cases rdN b1 with
    | none => rfl
    | some r =>
      obtain ⟨y, b2⟩ := r
      simp only
      cases rdN b2 with
      | none => rfl
      | some r =>
        obtain ⟨z, b3⟩ := r
        simp only
        cases rdN b3 with
        | none => rfl
        | some r => rfl
theorem rd2_len {b r : Bs} {x : Nat × Nat} (h : rd2 (some b) = some (x, r)) : r.length ≤ b.length := by
  unfold rd2 nm at h
  simp only at h
  cases h1 : rdN b with
  | none => rw [h1] at h; cases h
  | some r1 =>
    obtain ⟨x1, b1⟩ := r1
    rw [h1] at h; simp only at h
    cases h2 : rdN b1 with
    | none => rw [h2] at h; cases h
    | some r2 =>
      obtain ⟨y1, b2⟩ := r2
      rw [h2] at h
      simp only [Option.some.injEq, Prod.mk.injEq] at h
      obtain ⟨_, rfl⟩ := h
      have := rdN_len h1; have := rdN_len h2; omega

section
variable {h : Heap} {Q : AV → Heap → Prop} {p : Nat} {o : Option Bs}
/-- Two numbers are read by whatever reads one. -/
theorem two_nums {F : Nat} (num : ∀ {h : Heap} {Q : AV → Heap → Prop} {o : Option Bs}, Rd h p o → Bd o → (∀ h', Fr p h h' → Rd h' p (stO (nm o)) → Q (.int .i64 (valN (nm o))) h') → AC Tryz.prog F [.ptr (some ⟨p, 0⟩)] h Q)
    (R : Rd h p o) (hl : Bd o) {K : Int → Int → Heap → Prop} (h0 : rd2 o = none → ∀ a b h', Fr p h h' → Rd h' p none → K a b h') (h1 : ∀ x y r h', rd2 o = some ((x, y), r) → Fr p h h' → Rd h' p (some r) → K (x : Nat) (y : Nat) h') :
    AC Tryz.prog F [.ptr (some ⟨p, 0⟩)] h fun v2 h3 => ∃ n4 : Int, v2 = .int .i64 n4 ∧ AC Tryz.prog F [.ptr (some ⟨p, 0⟩)] h3 fun v5 h6 => ∃ n7 : Int, v5 = .int .i64 n7 ∧ K n4 n7 h6 := by
  refine num R hl fun h3 F3 R3 => ⟨_, rfl, ?_⟩
  refine num R3 hl.nm fun h6 F6 R6 => ⟨_, rfl, ?_⟩
  have F := F3.trans F6
  cases hn : nm o with
  | none =>
    rw [hn] at R6
    exact h0 (by unfold rd2; rw [hn]) _ _ _ F R6
  | some r1 =>
    obtain ⟨x, b⟩ := r1
    rw [hn] at R6
    cases hm : rdN b with
    | none =>
      have : nm (stO (some (x, b))) = none := hm
      rw [this] at R6
      exact h0 (by unfold rd2; rw [hn]; simp only; rw [hm]) _ _ _ F R6
    | some r2 =>
      obtain ⟨y, c⟩ := r2
      have : nm (stO (some (x, b))) = some (y, c) := hm
      rw [this] at R6 ⊢
      exact h1 x y c _ (by unfold rd2; rw [hn]; simp only; rw [hm]) F R6
abbrev momV (x y : Nat) : AV := if momErr x y = 0 then .agg [.int .i64 (x : Nat), .int .i64 (y : Nat)] else .agg [.int .i64 0, .int .i64 0]
abbrev recV (x y : Nat) : AV := if recErr x y = 0 then .agg [.int .i64 (x : Nat), .int .i64 (y : Nat)] else .agg [.int .i64 0, .int .i64 0]
/-- moment.Read -/
theorem k225 (R : Rd h p o) (hl : Bd o) (h0 : rd2 o = none → ∀ h', Fr p h h' → Rd h' p none → Q (.tup [.agg [.int .i64 0, .int .i64 0], .int .i64 10]) h')
    (h1 : ∀ x y r h', rd2 o = some ((x, y), r) → Fr p h h' → Rd h' p (some r) → Q (.tup [momV x y, .int .i64 (momErr x y)]) h') : AC Tryz.prog 225 [.ptr (some ⟨p, 0⟩)] h Q := ac225 (by
  unfold vc225
  refine two_nums (F := 159) (fun R hl hQ => e159 R hl hQ) R hl (fun hr a b h' F R' => ?_) (fun x y r h' hr F R' => ?_)
  · exact e231 R' ⟨_, rfl, vif_mk (fun _ => h0 hr _ F R') (fun g => by cases g)⟩
  · refine e231 R' ⟨_, rfl, vif_mk (fun g => by cases g) (fun _ => ?_)⟩
    have h1 := h1 x y r h' hr F R'
    refine k186 ⟨_, rfl, vif_mk (fun g => ?_) (fun g => ?_)⟩
    · have g : momErr x y ≠ 0 := by simpa using g
      unfold momV at h1; rw [if_neg g] at h1; exact h1
    · have g : momErr x y = 0 := by simpa using g
      unfold momV at h1; rw [if_pos g, g] at h1; exact h1)
theorem k226 (R : Rd h p o) (hl : Bd o) (h0 : rd2 o = none → ∀ h', Fr p h h' → Rd h' p none → Q (.tup [.agg [.int .i64 0, .int .i64 0], .int .i64 10]) h')
    (h1 : ∀ x y r h', rd2 o = some ((x, y), r) → Fr p h h' → Rd h' p (some r) → Q (.tup [recV x y, .int .i64 (recErr x y)]) h') : AC Tryz.prog 226 [.ptr (some ⟨p, 0⟩)] h Q := ac226 (by
  unfold vc226
  refine two_nums (F := 159) (fun R hl hQ => e159 R hl hQ) R hl (fun hr a b h' F R' => ?_) (fun x y r h' hr F R' => ?_)
  · exact e231 R' ⟨_, rfl, vif_mk (fun _ => h0 hr _ F R') (fun g => by cases g)⟩
  · refine e231 R' ⟨_, rfl, vif_mk (fun g => by cases g) (fun _ => ?_)⟩
    have h1 := h1 x y r h' hr F R'
    refine k267 ⟨_, rfl, vif_mk (fun g => ?_) (fun g => ?_)⟩
    · have g : recErr x y ≠ 0 := by simpa using g
      unfold recV at h1; rw [if_neg g] at h1; exact h1
    · have g : recErr x y = 0 := by simpa using g
      unfold recV at h1; rw [if_pos g, g] at h1; exact h1)
theorem k206 {a b : Int} (hQ : Q (.bool (decide (momErr a b = 0))) h) : AC Tryz.prog 206 [.agg [.int .i64 a, .int .i64 b]] h Q := ac206 (by
  unfold vc206
  have no : ¬ (0 ≤ a ∧ a < 65536 ∧ 0 ≤ b ∧ b < 65536) → Q (.bool false) h := fun hc => by unfold momErr at hQ; rw [if_neg hc] at hQ; exact hQ
  refine vif_mk (fun g1 => ?_) (fun g => no (by have := of_decide_eq_false g; omega))
  refine vif_mk (fun g2 => ?_) (fun g => no (by have := of_decide_eq_false g; omega))
  refine vif_mk (fun g3 => ?_) (fun g => no (by have := of_decide_eq_false g; omega))
  replace g1 := of_decide_eq_true g1
  replace g2 := of_decide_eq_true g2
  replace g3 := of_decide_eq_true g3
  by_cases h4 : b < 65536
  · rw [decide_eq_true h4]; unfold momErr at hQ; rw [if_pos (by omega)] at hQ; exact hQ
  · rw [decide_eq_false h4]; exact no (by omega))
theorem k207 {a b : Int} (hQ : Q (.bool (decide (recErr a b = 0))) h) : AC Tryz.prog 207 [.agg [.int .i64 a, .int .i64 b]] h Q := ac207 (by
  unfold vc207
  have no : ¬ (0 ≤ a ∧ a < 1048576 ∧ 0 ≤ b ∧ b < 1048576) → Q (.bool false) h := fun hc => by unfold recErr at hQ; rw [if_neg hc] at hQ; exact hQ
  refine vif_mk (fun g1 => ?_) (fun g => no (by have := of_decide_eq_false g; omega))
  refine vif_mk (fun g2 => ?_) (fun g => no (by have := of_decide_eq_false g; omega))
  refine vif_mk (fun g3 => ?_) (fun g => no (by have := of_decide_eq_false g; omega))
  replace g1 := of_decide_eq_true g1
  replace g2 := of_decide_eq_true g2
  replace g3 := of_decide_eq_true g3
  by_cases h4 : b < 1048576
  · rw [decide_eq_true h4]; unfold recErr at hQ; rw [if_pos (by omega)] at hQ; exact hQ
  · rw [decide_eq_false h4]; exact no (by omega))
theorem rd_flag {o : Option Bs} (R : Rd h p o) {K : Bool → Prop} (hK : K o.isNone) : vPtr (some ⟨p, 0⟩) fun p8 => ∃ b9 : Bool, cellsAt h ⟨p8.b, p8.o + 1⟩ 1 = some [.bool b9] ∧ K b9 := ⟨_, rd_bad R, hK⟩
/-- The document's reads. -/
theorem k214 (R : Rd h p o) (hl : Bd o) (h0 : rd2 o = none → ∀ h', Fr p h h' → Rd h' p none → Q (.tup [.agg [.int .i64 0, .int .i64 0], .int .i64 10]) h')
    (h1 : ∀ x y r h', rd2 o = some ((x, y), r) → Fr p h h' → Rd h' p (some r) → Q (.tup [momV x y, .int .i64 (momErr x y)]) h') : AC Tryz.prog 214 [.ptr (some ⟨p, 0⟩)] h Q := ac214 (by
  unfold vc214
  refine two_nums (F := 135) (fun R hl hQ => u135 R hl hQ) R hl (fun hr a b h' F R' => ?_) (fun x y r h' hr F R' => ?_)
  · exact rd_flag R' (vif_mk (fun _ => h0 hr _ F R') (fun g => by cases g))
  · refine rd_flag R' (vif_mk (fun g => by cases g) (fun _ => ?_))
    have h1 := h1 x y r h' hr F R'
    refine k206 ⟨_, rfl, vif_mk (fun g => ?_) (fun g => ?_)⟩
    · have g : momErr x y ≠ 0 := by simpa using g
      unfold momV at h1; rw [if_neg g] at h1
      rcases momErr_cases x y with ⟨h2, _⟩ | ⟨h2, _⟩
      · exact absurd h2 g
      · rw [h2] at h1; exact h1
    · have g : momErr x y = 0 := by simpa using g
      unfold momV at h1; rw [if_pos g, g] at h1; exact h1)
theorem k215 (R : Rd h p o) (hl : Bd o) (h0 : rd2 o = none → ∀ h', Fr p h h' → Rd h' p none → Q (.tup [.agg [.int .i64 0, .int .i64 0], .int .i64 10]) h')
    (h1 : ∀ x y r h', rd2 o = some ((x, y), r) → Fr p h h' → Rd h' p (some r) → Q (.tup [recV x y, .int .i64 (recErr x y)]) h') : AC Tryz.prog 215 [.ptr (some ⟨p, 0⟩)] h Q := ac215 (by
  unfold vc215
  refine two_nums (F := 135) (fun R hl hQ => u135 R hl hQ) R hl (fun hr a b h' F R' => ?_) (fun x y r h' hr F R' => ?_)
  · exact rd_flag R' (vif_mk (fun _ => h0 hr _ F R') (fun g => by cases g))
  · refine rd_flag R' (vif_mk (fun g => by cases g) (fun _ => ?_))
    have h1 := h1 x y r h' hr F R'
    refine k207 ⟨_, rfl, vif_mk (fun g => ?_) (fun g => ?_)⟩
    · have g : recErr x y ≠ 0 := by simpa using g
      unfold recV at h1; rw [if_neg g] at h1
      rcases recErr_cases x y with ⟨h2, _⟩ | ⟨h2, _⟩
      · exact absurd h2 g
      · rw [h2] at h1; exact h1
    · have g : recErr x y = 0 := by simpa using g
      unfold recV at h1; rw [if_pos g, g] at h1; exact h1)
/-- What an entry's four numbers come to. -/
theorem ent_read {mf rf : Nat} (mom : ∀ {h : Heap} {Q : AV → Heap → Prop} {o : Option Bs}, Rd h p o → Bd o → (rd2 o = none → ∀ h', Fr p h h' → Rd h' p none → Q (.tup [.agg [.int .i64 0, .int .i64 0], .int .i64 10]) h') →
      (∀ x y r h', rd2 o = some ((x, y), r) → Fr p h h' → Rd h' p (some r) → Q (.tup [momV x y, .int .i64 (momErr x y)]) h') → AC Tryz.prog mf [.ptr (some ⟨p, 0⟩)] h Q)
    (rec : ∀ {h : Heap} {Q : AV → Heap → Prop} {o : Option Bs}, Rd h p o → Bd o → (rd2 o = none → ∀ h', Fr p h h' → Rd h' p none → Q (.tup [.agg [.int .i64 0, .int .i64 0], .int .i64 10]) h') →
      (∀ x y r h', rd2 o = some ((x, y), r) → Fr p h h' → Rd h' p (some r) → Q (.tup [recV x y, .int .i64 (recErr x y)]) h') → AC Tryz.prog rf [.ptr (some ⟨p, 0⟩)] h Q)
    {b : Bs} (R : Rd h p (some b)) (hl : b.length ≤ 100000) {K : Int → Int → Int → Int → Int → Int → Heap → Prop}
    (h0 : rdE b = none → ∀ a1 a2 e1 a3 a4 e2 h', Fr p h h' → (e1 ≠ 0 ∨ e2 ≠ 0) → K a1 a2 e1 a3 a4 e2 h')
    (h1 : ∀ e r h', rdE b = some (e, r) → Fr p h h' → Rd h' p (some r) → K e.1 e.2.1 0 e.2.2.1 e.2.2.2 0 h') :
    AC Tryz.prog mf [.ptr (some ⟨p, 0⟩)] h fun v12 h13 => ∃ n14 : Int, ∃ n15 : Int, ∃ n16 : Int, v12 = .tup [.agg [.int .i64 n14, .int .i64 n15], .int .i64 n16] ∧
      AC Tryz.prog rf [.ptr (some ⟨p, 0⟩)] h13 fun v17 h18 => ∃ n19 : Int, ∃ n20 : Int, ∃ n21 : Int, v17 = .tup [.agg [.int .i64 n19, .int .i64 n20], .int .i64 n21] ∧ K n14 n15 n16 n19 n20 n21 h18 := by
  have bd : Bd (some b) := fun l hl' => by cases hl'; exact hl
  refine mom R bd (fun hr h13 F13 R13 => ⟨0, 0, 10, rfl, ?_⟩) (fun x y r h13 hr F13 R13 => ?_)
  · have hE : rdE b = none := by unfold rdE; rw [rd4_rd2, hr]
    refine rec R13 (fun l h => by cases h) (fun _ h18 F18 _ => ⟨0, 0, 10, rfl, h0 hE _ _ _ _ _ _ _ (F13.trans F18) (.inl (by omega))⟩) (fun x y r h' hr' _ _ => by unfold rd2 nm at hr'; cases hr')
  have hrl := rd2_len hr
  have bd2 : Bd (some r) := fun l hl' => by cases hl'; omega
  rcases momErr_cases x y with ⟨m1, m2⟩ | ⟨m1, m2⟩
  · refine ⟨x, y, 0, by unfold momV; rw [m1]; rfl, ?_⟩
    refine rec R13 bd2 (fun hr2 h18 F18 _ => ⟨0, 0, 10, rfl, h0 (by unfold rdE; rw [rd4_rd2, hr]; simp only; rw [hr2]) _ _ _ _ _ _ _ (F13.trans F18) (.inr (by omega))⟩) (fun z w t h18 hr2 F18 R18 => ?_)
    have h4 : rd4 b = some (((x : Int), (y : Int), (z : Int), (w : Int)), t) := by rw [rd4_rd2, hr]; simp only; rw [hr2]
    rcases recErr_cases z w with ⟨r1, r2⟩ | ⟨r1, r2⟩
    · refine ⟨z, w, 0, by unfold recV; rw [r1]; rfl, h1 ((x : Int), (y : Int), (z : Int), (w : Int)) t _ ?_ (F13.trans F18) R18⟩
      unfold rdE; rw [h4]; simp only
      rw [if_pos (by unfold entOk; simp only [decide_eq_true_eq]; omega)]
    · refine ⟨0, 0, 30, by unfold recV; rw [r1]; rfl, h0 ?_ _ _ _ _ _ _ _ (F13.trans F18) (.inr (by omega))⟩
      unfold rdE; rw [h4]; simp only
      rw [if_neg (by unfold entOk; simp only [decide_eq_true_eq]; omega)]
  · refine ⟨0, 0, 40, by unfold momV; rw [m1]; rfl, ?_⟩
    have hE : rdE b = none := by
      unfold rdE; rw [rd4_rd2, hr]; simp only
      cases hr2 : rd2 (some r) with
      | none => rfl
      | some q =>
        obtain ⟨⟨z, w⟩, t⟩ := q
        simp only
        rw [if_neg (by unfold entOk; simp only [decide_eq_true_eq]; omega)]
    refine rec R13 bd2 (fun hr2 h18 F18 _ => ⟨0, 0, 10, rfl, h0 hE _ _ _ _ _ _ _ (F13.trans F18) (.inl (by omega))⟩) (fun z w t h18 hr2 F18 R18 => ?_)
    rcases recErr_cases z w with ⟨r1, r2⟩ | ⟨r1, r2⟩
    · exact ⟨z, w, 0, by unfold recV; rw [r1]; rfl, h0 hE _ _ _ _ _ _ _ (F13.trans F18) (.inl (by omega))⟩
    · exact ⟨0, 0, 30, by unfold recV; rw [r1]; rfl, h0 hE _ _ _ _ _ _ _ (F13.trans F18) (.inl (by omega))⟩
theorem k224 {l : Bs} (R : Rd h p (some l)) (hQ : Q (.int .i64 (l.length : Nat)) h) : AC Tryz.prog 224 [.ptr (some ⟨p, 0⟩)] h Q := ac224 (by
  unfold vc224
  refine e231 R ⟨_, rfl, vif_mk (fun g => by cases g) (fun _ => ?_)⟩
  obtain ⟨q, hc, H, _⟩ := rd_buf R
  refine ⟨q, hc, ?_⟩
  rw [H.len]; exact hQ)
/-- Entries that are read, one by one. -/
structure UnI (h0 : Heap) (p : Nat) (b : Bs) (h : Heap) (q : Option SL) (done : List Ent) (rest : Bs) : Prop where
  ext : Ext h0 h
  out : Apd entE h q done
  ob : ∀ s, q = some s → p < s.b
  rd : Rd h p (some rest)
  ok : ∀ e ∈ done, entOk e = true
  eq : b = encL done ++ rest
theorem UnI.next {h0 h h' : Heap} {b rest r : Bs} {q : Option SL} {done : List Ent} {e : Ent} {K : Option SL → Heap → Prop} (I : UnI h0 p b h q done rest) (hp : h0.length ≤ p) (hb : b.length ≤ 1000) (hr : rdE rest = some (e, r)) (F : Fr p h h') (R : Rd h' p (some r))
    (hK : ∀ q' h'', UnI h0 p b h'' q' (done ++ [e]) r → slLen q' = slLen q + 1 → K q' h'') : PAppendS 4 32 q (some ⟨h'.length, 0, 1, 1, 0⟩) (h' ++ [.cells [.int .i64 e.1, .int .i64 e.2.1, .int .i64 e.2.2.1, .int .i64 e.2.2.2] true]) K := by
  obtain ⟨hrest, hok⟩ := entB_rdE hr
  have A1 : Apd entE h' q done := I.out.keeps F.keeps (fun s hs he => by have := I.ob s hs; omega)
  have hx : Ext h' (h' ++ [Blk.cells [.int .i64 e.1, .int .i64 e.2.1, .int .i64 e.2.2.1, .int .i64 e.2.2.2] true]) := .app _ _
  have hlen := I.out.hasL.len
  have hpl : p < h.length := I.rd.live
  have hdl : done.length ≤ b.length := by
    have h1 := congrArg List.length I.eq
    have h2 : ∀ l : List Ent, l.length ≤ (encL l).length := by
      intro l
      induction l with
      | nil => simp
      | cons a l ih => have := entB_pos (e := a); simp only [encL, List.flatMap_cons, List.length_append, List.length_cons] at *; omega
    have := h2 done
    rw [List.length_append] at h1; omega
  refine Apd.append (E := entE) (A1.ext hx) (m := [e]) (HasL.new (E := entE) (l := [e]) (n := 1) rfl rfl) (by simp; omega) fun q' h'' A K2 hl ho => hK q' h'' ?_ ?_
  · have bnd : ∀ s', q' = some s' → p < s'.b := fun s' hs' => by
      rcases ho s' hs' with h1 | ⟨s, h1, h2⟩
      · have := F.len; simp at h1; omega
      · rw [← h2]; exact I.ob s h1
    refine ⟨?_, A, bnd, ?_, ?_, ?_⟩
    · intro k B hk
      have hk0 := lt_of_get hk
      have h1 := I.ext _ _ hk
      have h2 := F.keeps k B (fun he => by have he : k = p := he; omega) h1
      exact K2 k B (fun ⟨s, g1, g2⟩ => by have := I.ob s g1; omega) (hx _ _ h2)
    · exact (R.ext hx).keeps K2 (fun k hk ⟨s, g1, g2⟩ => by have := I.ob s g1; omega)
    · intro x hxm
      rcases List.mem_append.1 hxm with hxm | hxm
      · exact I.ok x hxm
      · simp at hxm; subst hxm; exact hok
    · rw [I.eq, hrest, encL_append, encL_one, List.append_assoc]
  · have := A.hasL.len
    rw [this, hlen]; simp
theorem unpack_of {b : Bs} {h0 : Heap} {q : Option SL} {done : List Ent} {rest : Bs} (I : UnI h0 p b h q done rest) : unpack b = (unpack rest).map (done ++ ·) := by
  rw [I.eq, unpack_app I.ok]
theorem entE_le {b : Bs} {h0 : Heap} {q : Option SL} {done : List Ent} {rest : Bs} (I : UnI h0 p b h q done rest) : slLen q ≤ b.length := by
  rw [I.out.hasL.len]
  have h1 := congrArg List.length I.eq
  have h2 : ∀ l : List Ent, l.length ≤ (encL l).length := by
    intro l
    induction l with
    | nil => simp
    | cons a l ih => have := entB_pos (e := a); simp only [encL, List.flatMap_cons, List.length_append, List.length_cons] at *; omega
  have := h2 done
  rw [List.length_append] at h1; omega
/-- Unpack -/
theorem k156 {q : Option SL} {b : Bs} (H : HasL byE h q b) (hl : b.length ≤ 100000) (h0 : (b.length > 43 ∨ unpack b = none) → ∀ (e : Int) h', e ≠ 0 → Ext h h' → Q (.tup [.sl none, .int .i64 e]) h')
    (h1 : ∀ l q' h', b.length ≤ 43 → unpack b = some l → Ext h h' → Apd entE h' q' l → (∀ s, q' = some s → h.length ≤ s.b) → Q (.tup [.sl q', .int .i64 0]) h') : AC Tryz.prog 156 [.sl q] h Q := ac156 (by
  unfold vc156 PNew
  have hlen := H.len
  refine vif_mk (fun g => h0 (.inl (by have := of_decide_eq_true g; omega)) _ _ (by omega) (.refl _)) (fun g => ?_)
  replace g := of_decide_eq_false g
  refine e158 H hl fun p h3 hx hp R => ⟨_, rfl, ?_⟩
  refine ⟨fun xs h8 => ∃ (q5 : Option SL) (done : List Ent) (rest : Bs), xs = [.sl q5] ∧ UnI h p b h8 q5 done rest, fun xs _ => match xs with | [.sl q] => 100 - slLen q | _ => 0, ⟨none, [], b, rfl, hx, .inl ⟨rfl, rfl⟩, by simp, R, by simp, by simp [encL]⟩, ?_⟩
  rintro q5 h8 ⟨q5', done, rest, hxs, I⟩
  simp only [List.cons.injEq, AV.sl.injEq, and_true] at hxs
  subst hxs
  have hu := unpack_of I
  have hle := entE_le I
  have hrl : rest.length ≤ b.length := by have := congrArg List.length I.eq; rw [List.length_append] at this; omega
  refine k224 I.rd ⟨_, rfl, vif_mk (fun g2 => ?_) (fun g2 => ?_)⟩
  · replace g2 := of_decide_eq_true g2
    refine ent_read (mf := 225) (rf := 226) (fun R hl => k225 R hl) (fun R hl => k226 R hl) I.rd (by omega) (fun hE a1 a2 e1 a3 a4 e2 h' F he => ?_) (fun e r h' hE F R' => ?_)
    · have hn : unpack b = none := by rw [hu, unpack_none (by intro h; rw [h] at g2; simp at g2) hE]; rfl
      have xF : Ext h h' := F.ext I.ext hp
      rcases he with he | he
      · exact vif_mk (fun _ => h0 (.inr hn) _ _ (by omega) xF) (fun g => absurd (by simpa using g) he)
      · exact vif_mk (fun _ => h0 (.inr hn) _ _ (by omega) xF) (fun _ => vif_mk (fun _ => h0 (.inr hn) _ _ (by omega) xF) (fun g => absurd (by simpa using g) he))
    · refine vif_mk (fun g => by simp at g) (fun _ => vif_mk (fun g => by simp at g) (fun _ => ?_))
      refine I.next (by have := hx.len; omega) (by omega) hE F R' fun q' h'' I' hsl => ?_
      have := entE_le I'
      exact ⟨trivial, ⟨q', _, _, rfl, I'⟩, by simp only; omega⟩
  · replace g2 := of_decide_eq_false g2
    have hr : rest = [] := List.eq_nil_of_length_eq_zero (by omega)
    subst hr
    exact h1 done q5 h8 (by omega) (by rw [hu]; simp [unpack, unpackN]) I.ext I.out fun s hs => by have := I.ob s hs; omega)
/-- The document's. -/
theorem k136 {q : Option SL} {b : Bs} (H : HasL byE h q b) (hl : b.length ≤ 1000) (h0 : unpack b = none → ∀ h', Q (.tup [.sl none, .bool false]) h')
    (h1 : ∀ l q' h', unpack b = some l → Ext h h' → Apd entE h' q' l → (∀ s, q' = some s → h.length ≤ s.b) → Q (.tup [.sl q', .bool true]) h') : AC Tryz.prog 136 [.sl q] h Q := ac136 (by
  unfold vc136 PNew
  have hlen := H.len
  refine copyNew (E := byE) H (by omega) fun q4 h5 N => ?_
  have hx : Ext h (h5 ++ [Blk.cells [.sl q4, .bool false] true]) := N.1.trans (.app _ _)
  have R : Rd (h5 ++ [Blk.cells [.sl q4, .bool false] true]) h5.length (some b) := ⟨q4, by simp, N.hasL.mono (.app _ _), fun s hs => HasL.live N.hasL s hs⟩
  refine ⟨fun xs h8 => ∃ (q5 : Option SL) (done : List Ent) (rest : Bs), xs = [.sl q5] ∧ UnI h h5.length b h8 q5 done rest, fun xs _ => match xs with | [.sl q] => 2000 - slLen q | _ => 0, ⟨none, [], b, rfl, hx, .inl ⟨rfl, rfl⟩, by simp, R, by simp, by simp [encL]⟩, ?_⟩
  rintro q5 h8 ⟨q5', done, rest, hxs, I⟩
  simp only [List.cons.injEq, AV.sl.injEq, and_true] at hxs
  subst hxs
  have hu := unpack_of I
  have hle := entE_le I
  have hrl : rest.length ≤ b.length := by have := congrArg List.length I.eq; rw [List.length_append] at this; omega
  obtain ⟨q12, hc, H12, _⟩ := rd_buf I.rd
  have l12 := H12.len
  refine ⟨q12, hc, vif_mk (fun g2 => ?_) (fun g2 => ?_)⟩
  · replace g2 := of_decide_eq_true g2
    refine ⟨_, rd_bad I.rd, vif_mk (fun _ => ?_) (fun g => by simp at g)⟩
    refine ent_read (mf := 214) (rf := 215) (fun R hl => k214 R hl) (fun R hl => k215 R hl) I.rd (by omega) (fun hE a1 a2 e1 a3 a4 e2 h' _ he => ?_) (fun e r h' hE F R' => ?_)
    · have hn : unpack b = none := by rw [hu, unpack_none (by intro h; rw [h] at l12; simp at l12; omega) hE]; rfl
      rcases he with he | he
      · exact vif_mk (fun _ => h0 hn _) (fun g => absurd (by simpa using g) he)
      · exact vif_mk (fun _ => h0 hn _) (fun _ => vif_mk (fun _ => h0 hn _) (fun g => absurd (by simpa using g) he))
    · refine vif_mk (fun g => by simp at g) (fun _ => vif_mk (fun g => by simp at g) (fun _ => ?_))
      refine I.next (by have := N.1.len; omega) (by omega) hE F R' fun q' h'' I' hsl => ?_
      have := entE_le I'
      exact ⟨trivial, ⟨q', _, _, rfl, I'⟩, by simp only; omega⟩
  · replace g2 := of_decide_eq_false g2
    have hr : rest = [] := List.eq_nil_of_length_eq_zero (by omega)
    subst hr
    exact h1 done q5 h8 (by rw [hu]; simp [unpack, unpackN]) I.ext I.out fun s hs => by have := I.ob s hs; have := N.1.len; omega)
end
end Go.Proofs.YtnglhicedhcpbaaGreatDoor

/- The document's Sort of entries. -/
namespace Go.Proofs.YtnglhicedhcpbaaGreatDoor
open Go.Ab
open Go.Num hiding Bs snoc_ind
open Go.Ent
set_option linter.unusedVariables false
set_option linter.unusedSimpArgs false
section
variable {h h' : Heap} {Q : AV → Heap → Prop}

end
end Go.Proofs.YtnglhicedhcpbaaGreatDoor
