/- EditCodes answers yes for all two edits. -/
import Derived.Test.YtceplmmmlindnaaDG17
import Derived.Test.YtceplmmmlindnaaDG18
namespace Go.Proofs.Ytceplmmmlindnaa
open Go.Ab
open Go.ChangeShapes Go.WideShapes Go.ChangeAt Go.RowKit
set_option linter.unusedVariables false
set_option linter.unusedSimpArgs false

section
variable {H : Type} {enc : TypeId × Value → H} {W : World}
set_option maxRecDepth 100000 in
theorem ref_in (n : Nat) (cs' : List Value) (y : DataW H × List MemPlace) (h : DataW.trod enc Try.prog W 0 (fun _ => true) true n 104 cs' = some y) (hl : cs'.length = refE.sz) : ∃ a, ∀ μ, relL μ (refE.f a) cs' := by
  obtain ⟨y0, y1, y2, n', _, _, h0, h1, h2⟩ := Deep.trod_struct3 Try.underlying104 h
  match cs', hl with
  | [c0, c1, c2], _ =>
    have h0 : DataW.trod enc Try.prog W 0 (fun _ => true) true n' 9 [c0] = some y0 := h0
    have h1 : DataW.trod enc Try.prog W 0 (fun _ => true) true n' 3 [c1] = some y1 := h1
    have h2 : DataW.trod enc Try.prog W 0 (fun _ => true) true n' 3 [c2] = some y2 := h2
    obtain ⟨s, e0, _, _⟩ := DataW.trod_string Try.underlying9 h0
    obtain ⟨a, e1, _, _⟩ := DataW.trod_int Try.underlying3 h1
    obtain ⟨b, e2, _, _⟩ := DataW.trod_int Try.underlying3 h2
    simp at e0 e1 e2
    subst e0 e1 e2
    exact ⟨(s.data.toList, a, b), fun μ => ⟨_, _, rfl, by simp [AV.rel], _, _, rfl, rfl, _, _, rfl, rfl, rfl⟩⟩

set_option maxRecDepth 100000 in
/-- An edit that came in. -/
theorem edit_in {v : Value} {d : DataW H} {p : List MemPlace} {r : Reach} {base : Nat} (hv : Value.okWide Try.prog W r base 26 v) (h : DataW.Trod enc Try.prog W 0 (fun _ => true) true 26 v d p) {μ : Ren} {hp : Heap} (HH : HRel μ hp W) (ro : ReadOnly hp) :
    ∃ (l1 : Ren) (bs : Heap) (a b c : Int) (q : Option SL) (l : List (List UInt8 × Int × Int)), HRel (μ ++ l1) (hp ++ bs) W ∧ ReadOnly (hp ++ bs) ∧ AV.rel (μ ++ l1) (.agg [.int .i64 a, .int .i64 b, .int .i64 c, .sl q]) v ∧ HasL refE (hp ++ bs) q l := by
  obtain ⟨cs, rfl, hl, hc⟩ := row_cells (ts := [3, 3, 3, 24]) Try.underlying26 (.inl ⟨_, rfl⟩) hv (by kernel_rfl) (by kernel_rfl)
  obtain ⟨x0, g0, h0⟩ := hc 0 3 rfl
  obtain ⟨x1, g1, h1⟩ := hc 1 3 rfl
  obtain ⟨x2, g2, h2⟩ := hc 2 3 rfl
  obtain ⟨x3, g3, h3⟩ := hc 3 24 rfl
  obtain rfl : cs = [x0, x1, x2, x3] := by
    match cs, hl with
    | [y0, y1, y2, y3], _ => simp at g0 g1 g2 g3; simp_all
  obtain ⟨a, rfl⟩ := cell_int Try.underlying3 h0
  obtain ⟨b, rfl⟩ := cell_int Try.underlying3 h1
  obtain ⟨c, rfl⟩ := cell_int Try.underlying3 h2
  obtain ⟨fuel, hf⟩ := h
  obtain ⟨y0, y1, y2, n', _, _, _, _, t2⟩ := Deep.trod_struct3 Try.underlying26 hf
  have t2 : DataW.trod enc Try.prog W 0 (fun _ => true) true n' 24 [x3] = some y2 := t2
  obtain ⟨l1, bs, q, l, k1, k2, k3, k4⟩ := slice_in refE Try.underlying24 (by kernel_rfl) ref_in h3 t2 HH ro
  exact ⟨l1, bs, a, b, c, q, l, k1, k2, ⟨_, rfl, _, _, rfl, rfl, _, _, rfl, rfl, _, _, rfl, rfl, _, _, rfl, k3, rfl⟩, k4⟩
end


set_option maxRecDepth 100000 in
theorem editCodes_lifted (os : Os) (started : os.Started) (H : Type) (enc : TypeId × Value → H) :
    ReturnsInHanded {} Try.checked os 3 .any (Rows.editCodesSpec.pre6 enc Try.prog Try.f3 Rows.editCodesRow.domain false) (Rows.editCodesSpec.post enc Try.prog Try.f3 false true false false) := by
  refine returnsInHanded_of_change (C := Try.checked) own started (by kernel_rfl) Try.func3
    (ChangeSpec.witness6 (enc := enc) (C := Try.checked) false ⟨#[], #[.agg #[.int .i64 0, .int .i64 0, .int .i64 0, .slice none 0 0], .agg #[.int .i64 0, .int .i64 0, .int .i64 0, .slice none 0 0]], []⟩ 8 (by kernel_rfl) (by kernel_rfl) (by kernel_rfl) (by kernel_rfl)) ?_
  intro W base args ds gs before hval0 hW _ _
  have hval : ∀ (j : Nat) t v, Try.f3.params[j]? = some t → args[j]? = some v → Value.okWide Try.prog W .any base t v := hval0
  have hW' := hW
  obtain ⟨p, q, hA0, hV, rfl, hfz, hnd⟩ := hW
  have hA : DataW.TrodAll enc Try.prog W 0 (fun _ => true) true Try.f3.params.toList args.toList ds p := hA0
  rw [Try.params3] at hA hval
  obtain ⟨v0, vs0, d0, ds0, p0, q0, hargs, rfl, rfl, h0, r0⟩ := trodAll_cons hA
  obtain ⟨v1, vs1, d1, ds1, p1, q1, rfl, rfl, rfl, h1, r1⟩ := trodAll_cons r0
  obtain ⟨rfl, rfl, rfl⟩ := trodAll_nil r1
  obtain rfl : args = #[v0, v1] := by cases args; simp_all
  obtain ⟨rfl, rfl⟩ := trodVars_none hV
  obtain ⟨l1, bs, a, b, c, q, l, k1, k2, k3, k4⟩ := edit_in (hval 0 26 v0 rfl rfl) h0 (hrel_nil W) (by intro b B hb; simp at hb)
  obtain ⟨l2, bs2, a2, b2, c2, q2, l3, m1, m2, m3, m4⟩ := edit_in (hval 1 26 v1 rfl rfl) h1 k1 k2
  refine (calls_of_AC (args := #[v0, v1]) (s3 (e := (a, b, c, q)) (e2 := (a2, b2, c2, q2)) (d := (a, b, c, l)) (d2 := (a2, b2, c2, l3)) ⟨rfl, rfl, rfl, k4.mono (Ext.app _ _)⟩ ⟨rfl, rfl, rfl, m4⟩) m1 ⟨_, _, rfl, AV.rel.mono (Ren.le_append _ _) _ _ k3, _, _, rfl, m3, rfl⟩ m2).mono fun e W' ⟨he, hb⟩ => ?_
  exact ⟨_, he, post_yes hW' rfl rfl (by kernel_rfl) Try.underlying4 (by kernel_rfl) hb⟩

theorem editCodes_holds : Rows.EditCodesSaid :=
  OpenClaim.holds_of_wide 3 Try.f3 rfl rfl rfl rfl rfl rfl rfl ⟨rfl, rfl, rfl, rfl, rfl⟩ rfl rfl rfl rfl rfl (by kernel_rfl) Try.func3 (by kernel_rfl)
    (of_decide_eq_true (by kernel_rfl)) (by unfold Func.isWrapper; first | (rw [if_pos (by decide +kernel)]; kernel_rfl) | (rw [if_neg (by decide +kernel)]; exact ⟨rfl, rfl⟩))
    (fun os started H enc _ => editCodes_lifted os started H enc)
end Go.Proofs.Ytceplmmmlindnaa
