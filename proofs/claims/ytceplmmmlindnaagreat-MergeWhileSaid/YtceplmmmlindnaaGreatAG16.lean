/- The merger's laws answer yes. -/
import Derived.Test.YtceplmmmlindnaaGreatAG11
import Derived.Test.YtceplmmmlindnaaGreatAG13
import Derived.Test.YtceplmmmlindnaaGreatAG15
namespace Go.Proofs.YtceplmmmlindnaaGreat
open Go.Ab
set_option linter.unusedVariables false
set_option linter.unusedSimpArgs false

section
variable {h h' : Heap} {Q : AV → Heap → Prop} {q : Option SL} {ls : List (List Ent)}
theorem noOvr : OvrOK Tryz.prog (fun _ => none) := by intro f g h; cases h
theorem s7 (hQ : Q (.bool true) h) : AC Tryz.prog 7 [] h Q :=
  AC_frame (v := .bool true) (erun_ok noOvr 60 7 _ _ _ _ _ HFor_nil (fun v e' h' _ hv => isTrue_ok hv) run7) (fun _ _ h => h) (fun _ _ _ h => h) hQ

theorem may64 (g : mayC ls = 0) : ls.length ≤ 64 := by unfold mayC at g; split at g <;> omega

/-- MergeLists -/
theorem s3 (I : InLL h q ls) (hll : ls.length ≤ 9223372036854775807) (hQ : ∀ h', Q (.bool true) h') : AC Tryz.prog 3 [.sl q] h Q := ac3 (by
  unfold vc3
  refine z6 I fun b hb => ⟨b, rfl, vif_mk (fun _ => s7 ⟨true, rfl, hQ _⟩) (fun g => ?_)⟩
  have F := hb g
  by_cases hm : mayC ls = 0
  · refine y8 I F hll (fun g => absurd hm g) fun _ q10 h9 x9 H10 => ⟨q10, 0, rfl, ?_⟩
    refine z9 (I.mono x9) F ⟨_, rfl, s7 ⟨true, rfl, ?_⟩⟩
    rw [hm]
    refine vif_mk (fun _ => ?_) (fun g => by simp at g)
    refine vif_mk (fun _ => ?_) (fun g => by simp at g)
    refine vif_mk (fun g => by simp at g) (fun _ => ?_)
    refine vif_mk (fun _ => ?_) (fun g => by simp at g)
    have hs := (fits_all F (may64 hm)).2
    refine z11 (I.mono x9) hs (by have := may64 hm; omega) fun q20 h19 N19 => ⟨q20, rfl, ?_⟩
    have hlen : (sortE ls.flatten).length ≤ 1000 := by
      rw [(sortE_perm _).length_eq, List.length_flatten]; exact hs
    exact z10 (H10.mono N19.1) N19.hasL (by omega) (fun _ => ⟨true, rfl, hQ _⟩) rfl
  · refine y8 I F hll (fun _ h9 x9 => ⟨none, _, rfl, ?_⟩) fun g => absurd g hm
    refine z9 (I.mono x9) F ⟨_, rfl, s7 ⟨true, rfl, ?_⟩⟩
    refine vif_mk (fun _ => ?_) (fun g => by simp at g)
    refine vif_mk (fun _ => ?_) (fun g => by simp at g)
    refine vif_mk (fun _ => ?_) (fun g => by simp at g; exact absurd g hm)
    exact vif_mk (fun _ => hQ _) (fun g => by simp [slLen] at g))

theorem drop_at {S : List Ent} {i : Nat} {e : Ent} {r : List Ent} (h : S.drop i = e :: r) : S[i]? = some e ∧ S.drop (i + 1) = r := by
  have h0 : (S.drop i)[0]? = some e := by rw [h]; rfl
  rw [List.getElem?_drop] at h0
  refine ⟨by simpa using h0, ?_⟩
  rw [← List.drop_drop, h]; rfl

/-- What is behind the told ones. -/
theorem tail4 {p : Nat} {ow : Roles} {q21 : Option SL} {S : List Ent} {i : Nat} {c : Nat} {n1 : Nat} {R : AV → Heap → Prop} {h28 : Heap} (M : Mg h28 ow p (S.drop i) c) (H21 : HasL entE h28 q21 S) (hS : S.length ≤ 1000) (hi : i ≤ S.length) (hc : c = slLen q) (ho21 : ∀ s, q21 = some s → ow s.b = none)
    (hQ : ∀ h', R (.bool true) h') :
    AC Tryz.prog 15 [.ptr (some ⟨p, 0⟩)] h28 fun v49 h50 => ∃ n51 : Int, v49 = .int .i64 n51 ∧
 vif (decide (n51 < 0))
 (R (.bool false) h50)
 (AC Tryz.prog 15 [.ptr (some ⟨p, 0⟩)] h50 fun v52 h53 => ∃ n54 : Int, v52 = .int .i64 n54 ∧
 vif (decide (n54 > (slLen q : Int)))
 (R (.bool false) h53)
 (AC Tryz.prog 15 [.ptr (some ⟨p, 0⟩)] h53 fun v55 h56 => ∃ n57 : Int, v55 = .int .i64 n57 ∧
 vif (!((n57 == 0) == ((i : Int) == (slLen q21 : Int))))
 (R (.bool false) h56)
 (AC Tryz.prog 16 [.ptr (some ⟨p, 0⟩)] h56 fun v58 h59 => ∃ q60 : Option SL, ∃ n61 : Int, v58 = .tup [.sl q60, .int .i64 n61] ∧
 AC Tryz.prog 13 [.ptr (some ⟨p, 0⟩)] h59 fun v62 h63 => ∃ n64 : Int, ∃ n65 : Int, ∃ n66 : Int, ∃ n67 : Int, ∃ b68 : Bool, v62 = .tup [.agg [.int .i64 n64, .int .i64 n65, .int .i64 n66, .int .i64 n67], .bool b68] ∧
 AC Tryz.prog 14 [.ptr (some ⟨p, 0⟩)] h63 fun v69 h70 => ∃ n71 : Int, ∃ n72 : Int, ∃ n73 : Int, ∃ n74 : Int, ∃ b75 : Bool, ∃ n76 : Int, v69 = .tup [.agg [.int .i64 n71, .int .i64 n72, .int .i64 n73, .int .i64 n74], .bool b75, .int .i64 n76] ∧
 vif (n61 == 0)
 (PSlice 4 q21 (i : Int) none none fun q77 =>
 AC Tryz.prog 10 [.sl q60, .sl q77] h70 fun v78 h79 => ∃ b80 : Bool, v78 = .bool b80 ∧
 vif b80
 (vif (!b68)
 (vif (!b75)
 (R (.bool (n76 == 0)) h79)
 (R (.bool false) h79))
 (R (.bool false) h79))
 (R (.bool false) h79))
 (R (.bool false) h70)))) := by
  have hl := H21.len
  refine y15 M fun k1 k1c _ => ⟨_, rfl, vif_mk (fun g => by have := of_decide_eq_true g; omega) (fun _ => ?_)⟩
  refine y15 M fun k2 k2c _ => ⟨_, rfl, vif_mk (fun g => by have := of_decide_eq_true g; omega) (fun _ => ?_)⟩
  refine y15 M fun k3 k3c k3z => ⟨_, rfl, vif_mk (fun g => ?_) (fun _ => ?_)⟩
  · exfalso
    have hz : (((k3 : Int) == 0) == ((i : Int) == (slLen q21 : Int))) = true := by
      by_cases hk : k3 = 0
      · have h2 := k3z.1 hk
        have : S.length ≤ i := List.drop_eq_nil_iff.1 h2
        have : i = S.length := by omega
        subst hk
        simp [hl, this]
      · have h2 : ¬ S.drop i = [] := fun e => hk (k3z.2 e)
        rw [List.drop_eq_nil_iff] at h2
        have a1 : ((k3 : Int) == 0) = false := by simp; omega
        have a2 : ((i : Int) == (slLen q21 : Int)) = false := by simp [hl]; omega
        rw [a1, a2]; rfl
    rw [hz] at g
    cases g
  refine y16 M (by rw [List.length_drop]; omega) fun q60 h59 M59 A59 K59 l59 n59 => ⟨q60, 0, rfl, ?_⟩
  refine y13 M59 (fun _ => ⟨_, _, _, _, _, rfl, ?_⟩) (fun e r hn => by cases hn)
  refine y14 M59 (fun _ => ⟨_, _, _, _, _, _, rfl, ?_⟩) (fun e r h' hn => by cases hn)
  refine vif_mk (fun _ => ?_) (fun g => by simp at g)
  have H59 : HasL entE h59 q21 S := K59.hasL (fun s hs hn => hn (ho21 s hs)) H21
  refine HasL.slice (E := entE) H59 (by omega) (by simp; omega) (by simp) fun q77 H77 => ?_
  have e1 : (S.take ((Option.getD none ((S.length : Nat) : Int))).toNat).drop ((i : Int)).toNat = S.drop i := by simp
  rw [e1] at H77
  refine z10 A59.hasL H77 (by rw [List.length_drop]; omega) (fun _ => ⟨true, rfl, ?_⟩) rfl
  refine vif_mk (fun _ => ?_) (fun g => by simp at g)
  refine vif_mk (fun _ => ?_) (fun g => by simp at g)
  exact vif_mk (fun _ => hQ _) (fun g => by simp at g)

/-- MergeTells -/
theorem s4 {n2 : Int} (I : InLL h q ls) (hll : ls.length ≤ 9223372036854775807) (hQ : ∀ h', Q (.bool true) h') : AC Tryz.prog 4 [.sl q, .int .i64 n2] h Q := ac4 (by
  unfold vc4
  have hlen := I.len
  refine z6 I fun b hb => ⟨b, rfl, vif_mk (fun _ => s7 ⟨true, rfl, hQ _⟩) (fun g => ?_)⟩
  have F := hb g
  refine z9 I F ⟨_, rfl, vif_mk (fun _ => s7 ⟨true, rfl, hQ _⟩) (fun g => ?_)⟩
  have hm : mayC ls = 0 := by simpa using g
  have hs := (fits_all F (may64 hm)).2
  refine z12 I F hll (fun g => absurd hm g) fun _ h16 p ow x16 M16 o16 => ⟨_, 0, rfl, ?_⟩
  refine z11 (I.mono x16) hs (by have := may64 hm; omega) fun q21 h20 N20 => ⟨q21, rfl, s7 ⟨true, rfl, ?_⟩⟩
  have hS : (sortE ls.flatten).length ≤ 1000 := by
    rw [(sortE_perm _).length_eq, List.length_flatten]; exact hs
  generalize sortE ls.flatten = S at *
  refine vif_mk (fun g => by simp at g) (fun _ => ?_)
  refine vif_mk (fun g => by simp at g) (fun _ => ?_)
  refine vif_mk (fun g => by simp at g) (fun _ => ?_)
  have ho21 : ∀ s, q21 = some s → ow s.b = none := fun s hs => by
    by_cases e : ow s.b = none
    · exact e
    · have := M16.live s.b e; have := N20.2.2 s hs; omega
  refine ⟨fun xs h28 => ∃ i : Nat, xs = [.int .i64 i] ∧ i ≤ S.length ∧ Mg h28 ow p (S.drop i) ls.length ∧ HasL entE h28 q21 S, fun xs _ => match xs with | [.int _ i] => (S.length - i).toNat | _ => 0, ⟨0, rfl, by omega, M16.grow N20.1, N20.hasL⟩, ?_⟩
  rintro n25 h28 ⟨i, hx, hi, M28, H28⟩
  simp only [List.cons.injEq, AV.int.injEq, true_and, and_true] at hx
  subst hx
  have hl := H28.len
  refine vif_mk (fun g1 => ?_) (fun g1 => ?_)
  · replace g1 := of_decide_eq_true g1
    refine vif_mk (fun g2 => ?_) (fun g2 => ?_)
    · have hne : S.drop i ≠ [] := by rw [Ne, List.drop_eq_nil_iff]; omega
      refine y13 M28 (fun hn => absurd hn hne) fun e r he => ⟨_, _, _, _, _, rfl, ?_⟩
      refine y14 M28 (fun hn => absurd hn hne) fun e' r' h37 he' M37 K37 l37 => ⟨_, _, _, _, _, _, rfl, ?_⟩
      rw [he] at he'
      simp only [List.cons.injEq] at he'
      obtain ⟨rfl, rfl⟩ := he'
      obtain ⟨d1, d2⟩ := drop_at he
      have H37 : HasL entE h37 q21 S := K37.hasL (fun s hs hn => hn (ho21 s hs)) H28
      refine vif_mk (fun g => by simp at g) (fun _ => ?_)
      refine vif_mk (fun g => by simp at g) (fun _ => ?_)
      refine vif_mk (fun g => by simp at g) (fun _ => ?_)
      refine idx4 H37 d1 rfl fun pp hc => ⟨_, _, _, _, hc, ?_⟩
      refine vif_mk (fun g => by simp at g) (fun _ => ?_)
      refine vif_mk (fun g => by simp at g) (fun _ => ?_)
      rw [wrapK_i64 ⟨by omega, by omega⟩]
      exact ⟨trivial, ⟨i + 1, by simp, by omega, by rw [d2]; exact M37, H37⟩, by simp only; omega⟩
    · exact tail4 (n1 := 0) M28 H28 hS hi hlen.symm ho21 hQ
  · exact tail4 (n1 := 0) M28 H28 hS hi hlen.symm ho21 hQ)

theorem tw_at {P : Ent → Bool} {S : List Ent} {i : Nat} (hi : i ≤ S.length) (h1 : ∀ x ∈ S.take i, P x = true) (h2 : ∀ e, S[i]? = some e → P e = false) : S.takeWhile P = S.take i ∧ S.dropWhile P = S.drop i := by
  have := tw (P := P) (out := S.take i) (m6 := S.drop i) h1 (by
    cases hd : S.drop i with
    | nil => exact .inl rfl
    | cons e r => exact .inr ⟨e, r, rfl, h2 e (drop_at hd).1⟩)
  rw [List.take_append_drop] at this
  exact this

theorem tail5 {p : Nat} {ow : Roles} {q24 : Option SL} {S : List Ent} {i : Nat} {c : Nat} {n2 : Int} {R : AV → Heap → Prop} {h28 : Heap} (M : Mg h28 ow p S c) (H24 : HasL entE h28 q24 S) (hS : S.length ≤ 1000) (hi : i ≤ S.length) (ho24 : ∀ s, q24 = some s → ow s.b = none)
    (h1 : ∀ x ∈ S.take i, x.2.2.1 < n2) (h2 : ∀ e, S[i]? = some e → ¬ e.2.2.1 < n2) (hQ : ∀ h', R (.bool true) h') :
 PNew [.int .i64 n2] true h28 fun a31 h32 =>
 AC Tryz.prog 17 [.ptr (some ⟨p, 0⟩), .func (.func 18) [.ptr (some ⟨a31, 0⟩)] []] h32 fun v33 h34 => ∃ q35 : Option SL, ∃ n36 : Int, v33 = .tup [.sl q35, .int .i64 n36] ∧
 AC Tryz.prog 16 [.ptr (some ⟨p, 0⟩)] h34 fun v37 h38 => ∃ q39 : Option SL, ∃ n40 : Int, v37 = .tup [.sl q39, .int .i64 n40] ∧
 vif (n36 == 0)
 (PSlice 4 q24 0 (some (i : Int)) none fun q41 =>
 AC Tryz.prog 10 [.sl q35, .sl q41] h38 fun v42 h43 => ∃ b44 : Bool, v42 = .bool b44 ∧
 vif b44
 (vif (n40 == 0)
 (PSlice 4 q24 (i : Int) none none fun q45 =>
 AC Tryz.prog 10 [.sl q39, .sl q45] h43 fun v46 h47 => ∃ b48 : Bool, v46 = .bool b48 ∧
 R (.bool b48) h47)
 (R (.bool false) h43))
 (R (.bool false) h43))
 (R (.bool false) h38) := by
  have hl := H24.len
  show AC Tryz.prog 17 _ _ _
  have x32 := Ext.app h28 [Blk.cells [.int .i64 n2] true]
  have hb32 : (h28 ++ [Blk.cells [.int .i64 n2] true])[h28.length]? = some (.cells [.int .i64 n2] true) := by simp
  have l32 : (h28 ++ [Blk.cells [AV.int .i64 n2] true]).length = h28.length + 1 := by simp
  generalize h28 ++ [Blk.cells [.int .i64 n2] true] = h32 at *
  have hown : ow h28.length = none := by
    by_cases e : ow h28.length = none
    · exact e
    · have := M.live _ e; omega
  obtain ⟨t1, t2⟩ := tw_at (P := fun e => decide (e.2.2.1 < n2)) hi (fun x hx => decide_eq_true (h1 x hx)) (fun e he => decide_eq_false (h2 e he))
  refine y17 (P := fun e => decide (e.2.2.1 < n2)) (M.grow x32) (by omega) (fun h8 e K K8 hK => ?_) fun q35 h34 M34 A34 K34 l34 n34 => ⟨q35, 0, rfl, ?_⟩
  · unfold vCallF vCallV
    exact z18 (K8 _ _ (by simp [hown]) hb32) hK
  rw [t1] at A34; rw [t2] at M34
  refine y16 M34 (by rw [List.length_drop]; omega) fun q39 h38 M38 A38 K38 l38 n38 => ⟨q39, 0, rfl, ?_⟩
  have hnone : ∀ b, h28.length ≤ b → ow b = none := fun b hb => by
    by_cases e : ow b = none
    · exact e
    · have := M.live b e; omega
  have H38 : HasL entE h38 q24 S := K38.hasL (fun s hs hn => hn (ho24 s hs)) (K34.hasL (fun s hs hn => hn (ho24 s hs)) (H24.mono x32))
  have A35 : HasL entE h38 q35 (S.take i) := K38.hasL (fun s hs hn => hn (hnone _ (by have := n34 s hs; omega))) A34.hasL
  refine vif_mk (fun _ => ?_) (fun g => by simp at g)
  refine HasL.slice (E := entE) H38 (by omega) (by simp) (by simp; omega) fun q41 H41 => ?_
  have e1 : (S.take ((Option.getD (some (i : Int)) ((S.length : Nat) : Int))).toNat).drop (0 : Int).toNat = S.take i := by simp
  rw [e1] at H41
  refine z10 A35 H41 (by rw [List.length_take]; omega) (fun _ => ⟨true, rfl, ?_⟩) rfl
  refine vif_mk (fun _ => ?_) (fun g => by simp at g)
  refine vif_mk (fun _ => ?_) (fun g => by simp at g)
  refine HasL.slice (E := entE) H38 (by omega) (by simp; omega) (by simp) fun q45 H45 => ?_
  have e2 : (S.take ((Option.getD none ((S.length : Nat) : Int))).toNat).drop ((i : Int)).toNat = S.drop i := by simp
  rw [e2] at H45
  exact z10 A38.hasL H45 (by rw [List.length_drop]; omega) (fun _ => ⟨true, rfl, hQ _⟩) rfl

/-- MergeWhile -/
theorem s5 {n2 : Int} (I : InLL h q ls) (hll : ls.length ≤ 9223372036854775807) (hQ : ∀ h', Q (.bool true) h') : AC Tryz.prog 5 [.sl q, .int .i64 n2] h Q := ac5 (by
  unfold vc5
  have hlen := I.len
  refine z6 I fun b hb => ⟨b, rfl, vif_mk (fun _ => s7 ⟨true, rfl, hQ _⟩) (fun g => ?_)⟩
  have F := hb g
  refine z9 I F ⟨_, rfl, vif_mk (fun _ => s7 ⟨true, rfl, hQ _⟩) (fun g => ?_)⟩
  have hm : mayC ls = 0 := by simpa using g
  have hs := (fits_all F (may64 hm)).2
  refine z12 I F hll (fun g => absurd hm g) fun _ h16 p ow x16 M16 o16 => ⟨_, 0, rfl, s7 ⟨true, rfl, ?_⟩⟩
  refine vif_mk (fun g => by simp at g) (fun _ => ?_)
  refine vif_mk (fun g => by simp at g) (fun _ => ?_)
  refine vif_mk (fun g => by simp at g) (fun _ => ?_)
  refine z11 (I.mono x16) hs (by have := may64 hm; omega) fun q24 h23 N23 => ⟨q24, rfl, ?_⟩
  have hS : (sortE ls.flatten).length ≤ 1000 := by
    rw [(sortE_perm _).length_eq, List.length_flatten]; exact hs
  generalize sortE ls.flatten = S at *
  have ho24 : ∀ s, q24 = some s → ow s.b = none := fun s hs => by
    by_cases e : ow s.b = none
    · exact e
    · have := M16.live s.b e; have := N23.2.2 s hs; omega
  have M23 := M16.grow N23.1
  refine ⟨fun xs h28 => h28 = h23 ∧ ∃ i : Nat, xs = [.int .i64 i] ∧ i ≤ S.length ∧ ∀ x ∈ S.take i, x.2.2.1 < n2, fun xs _ => match xs with | [.int _ i] => (S.length - i).toNat | _ => 0, ⟨rfl, 0, rfl, by omega, by simp⟩, ?_⟩
  rintro n25 h28 ⟨rfl, i, hx, hi, ht⟩
  simp only [List.cons.injEq, AV.int.injEq, true_and, and_true] at hx
  subst hx
  have H28 := N23.hasL
  have hl := H28.len
  refine vif_mk (fun g1 => ?_) (fun g1 => ?_)
  · replace g1 := of_decide_eq_true g1
    have hxi : S[i]? = some S[i] := List.getElem?_eq_getElem (by omega)
    generalize S[i] = e at *
    refine idx4 H28 hxi rfl fun pp hc => ⟨e.2.2.1, ?_, ?_⟩
    · have := cellsAt_sub (k := 2) (m := 1) hc (by omega)
      simpa using this
    refine vif_mk (fun g2 => ?_) (fun g2 => ?_)
    · replace g2 := of_decide_eq_true g2
      rw [wrapK_i64 ⟨by omega, by omega⟩]
      refine ⟨trivial, ⟨rfl, i + 1, by simp, by omega, fun x hx => ?_⟩, by simp only; omega⟩
      rw [List.take_add_one, hxi] at hx
      rcases List.mem_append.1 hx with hx | hx
      · exact ht x hx
      · simp only [Option.toList_some, List.mem_singleton] at hx; rw [hx]; exact g2
    · replace g2 := of_decide_eq_false g2
      exact tail5 M23 H28 hS hi ho24 ht (fun e' he => by rw [hxi] at he; cases he; exact g2) hQ
  · replace g1 := of_decide_eq_false g1
    exact tail5 M23 H28 hS hi ho24 ht (fun e' he => by have := lt_of_get he; omega) hQ)
end
end Go.Proofs.YtceplmmmlindnaaGreat

/- Lists of entries that came in. -/
namespace Go.Proofs.YtceplmmmlindnaaGreat
open Go.Ab
open Go.ChangeShapes Go.WideShapes Go.ChangeAt Go.RowKit
set_option linter.unusedVariables false
set_option linter.unusedSimpArgs false

section
variable {H : Type} {enc : TypeId × Value → H} {W : World}
set_option maxRecDepth 100000 in
theorem ent_in (n : Nat) (cs' : List Value) (y : DataW H × List MemPlace) (h : DataW.trod enc Tryz.prog W 0 (fun _ => true) true n 40 cs' = some y) (hl : cs'.length = entE.sz) : ∃ a, ∀ μ, relL μ (entE.f a) cs' := by
  obtain ⟨y0, y1, n', _, _, h0, h1⟩ := trod_struct2 Tryz.underlying40 h
  match cs', hl with
  | [c0, c1, c2, c3], _ =>
    have h0 : DataW.trod enc Tryz.prog W 0 (fun _ => true) true n' 36 [c0, c1] = some y0 := h0
    have h1 : DataW.trod enc Tryz.prog W 0 (fun _ => true) true n' 38 [c2, c3] = some y1 := h1
    obtain ⟨z0, z1, n2, _, _, g0, g1⟩ := trod_struct2 Tryz.underlying36 h0
    obtain ⟨z2, z3, n3, _, _, g2, g3⟩ := trod_struct2 Tryz.underlying38 h1
    have g0 : DataW.trod enc Tryz.prog W 0 (fun _ => true) true n2 3 [c0] = some z0 := g0
    have g1 : DataW.trod enc Tryz.prog W 0 (fun _ => true) true n2 3 [c1] = some z1 := g1
    have g2 : DataW.trod enc Tryz.prog W 0 (fun _ => true) true n3 3 [c2] = some z2 := g2
    have g3 : DataW.trod enc Tryz.prog W 0 (fun _ => true) true n3 3 [c3] = some z3 := g3
    obtain ⟨a, e0, _, _⟩ := DataW.trod_int Tryz.underlying3 g0
    obtain ⟨b, e1, _, _⟩ := DataW.trod_int Tryz.underlying3 g1
    obtain ⟨c, e2, _, _⟩ := DataW.trod_int Tryz.underlying3 g2
    obtain ⟨d, e3, _, _⟩ := DataW.trod_int Tryz.underlying3 g3
    simp at e0 e1 e2 e3
    subst e0 e1 e2 e3
    exact ⟨(a, b, c, d), fun μ => ⟨_, _, rfl, rfl, _, _, rfl, rfl, _, _, rfl, rfl, _, _, rfl, rfl, rfl⟩⟩

theorem val_int {P : Program} {u : TypeId} {k : IntKind} {x : Value} {r : Reach} {base : Nat} (hu : P.underlying u = some (.int k)) (h : Value.okWide P W r base u x) : ∃ n, x = .int k n := by
  unfold Value.okWide at h
  rw [hu] at h
  exact cell_int hu h
set_option maxRecDepth 100000 in
theorem okc {v : Value} {r : Reach} {base : Nat} (hv0 : Value.okWide Tryz.prog W r base 22 v) : Cell.okWide Tryz.prog W r base 22 v := by
  unfold Value.okWide at hv0
  rw [Tryz.underlying22] at hv0
  exact hv0
set_option maxRecDepth 100000 in
/-- Lists of entries that came in. -/
theorem lists_in {v : Value} {d : DataW H} {p : List MemPlace} {r : Reach} {base : Nat} (hv : Value.okWide Tryz.prog W r base 22 v) (h : DataW.Trod enc Tryz.prog W 0 (fun _ => true) true 22 v d p) :
    ∃ (μ : Ren) (hp : Heap) (q : Option SL) (ls : List (List Ent)), HRel μ hp W ∧ ReadOnly hp ∧ AV.rel μ (.sl q) v ∧ InLL hp q ls ∧ ls.length ≤ 9223372036854775807 := by
  obtain ⟨μ, hp, q, L, l, k1, k2, k3, k4, k5, k6, k7⟩ := nested_in slE (fun h q l => HasL entE h q l) (fun x Hl => Hl.mono x) Tryz.underlying22 (by kernel_rfl) (fun n cs' y hy hl μ hp HH ro b0 c0 rw0 hb => by
    match cs', hl with
    | [c], _ =>
      obtain ⟨l1, bs, q, l, k1, k2, k3, k4⟩ := slice_in0 entE Tryz.underlying25 (by kernel_rfl) ent_in hy HH ro hb
      exact ⟨l1, bs, q, l, k1, k2, ⟨_, _, rfl, k3, rfl⟩, k4⟩) (okc hv) h
  exact ⟨μ, hp, q, l, k1, k2, k3, ⟨L, k4, k5, k7⟩, by omega⟩
end

end Go.Proofs.YtceplmmmlindnaaGreat
