/- OperParts answers yes for all records and every number. -/
import Derived.Test.YtfafgnmlnhklaaaAG12
import Derived.Test.YtfafgnmlnhklaaaAG23
import Derived.Test.YtfafgnmlnhklaaaAG24
namespace Go.Proofs.Ytfafgnmlnhklaaa
open Go.Ab
open Go.ChangeShapes Go.WideShapes Go.ChangeAt Go.RowKit
set_option linter.unusedVariables false
set_option linter.unusedSimpArgs false

/-- Records whose numbers are in their range. -/
abbrev WRec := { r : Rec // (-9223372036854775808 ≤ r.1 ∧ r.1 ≤ 9223372036854775807) ∧ (-9223372036854775808 ≤ r.2 ∧ r.2 ≤ 9223372036854775807) }
instance : Inhabited WRec := ⟨⟨(0, 0), by decide⟩⟩
def wrecE : Enc WRec := ⟨2, fun r => recE.f r.1, fun _ => rfl, by omega, fun _ => rfl⟩
theorem wrecE_all : ∀ (l : List WRec), wrecE.all l = recE.all (l.map (·.1))
  | [] => rfl
  | x :: l => by rw [Enc.all_cons, List.map_cons, Enc.all_cons, wrecE_all l]; rfl
theorem wrecE_has {h : Heap} {q : Option SL} {l : List WRec} (H : HasL wrecE h q l) : HasL recE h q (l.map (·.1)) := by
  cases q with
  | none => have : l = [] := H; subst this; rfl
  | some s =>
    obtain ⟨a, b, c, d⟩ := H
    refine ⟨by rw [List.length_map]; exact a, b, c, ?_⟩
    rw [List.length_map, ← wrecE_all]; exact d
theorem wf_range {n : Int} (h : (Lit.int .i64 n).wf = true) : -9223372036854775808 ≤ n ∧ n ≤ 9223372036854775807 := by
  simp [Lit.wf, IntKind.min, IntKind.max, IntKind.signed, IntKind.bits] at h
  omega
section
variable {H : Type} {enc : TypeId × Value → H} {W : World}
set_option maxRecDepth 100000 in
theorem wrec_in (n : Nat) (cs' : List Value) (y : DataW H × List MemPlace) (h : DataW.trod enc Try.prog W 0 (fun _ => true) true n 26 cs' = some y) (hl : cs'.length = wrecE.sz) : ∃ a, ∀ μ, relL μ (wrecE.f a) cs' := by
  obtain ⟨y0, y1, n', _, _, h0, h1⟩ := trod_struct2 Try.underlying26 h
  match cs', hl with
  | [c0, c1], _ =>
    have h0 : DataW.trod enc Try.prog W 0 (fun _ => true) true n' 3 [c0] = some y0 := h0
    have h1 : DataW.trod enc Try.prog W 0 (fun _ => true) true n' 3 [c1] = some y1 := h1
    obtain ⟨a, e0, _, w0⟩ := DataW.trod_int Try.underlying3 h0
    obtain ⟨b, e1, _, w1⟩ := DataW.trod_int Try.underlying3 h1
    simp at e0 e1
    subst e0 e1
    exact ⟨⟨(a, b), wf_range w0, wf_range w1⟩, fun μ => ⟨_, _, rfl, rfl, _, _, rfl, rfl, rfl⟩⟩
set_option maxRecDepth 100000 in
/-- A bag that came in: its numbers are in their range. -/
theorem wbag_in {v : Value} {d : DataW H} {p : List MemPlace} {r : Reach} {base : Nat} (hv0 : Value.okWide Try.prog W r base 24 v) (h : DataW.Trod enc Try.prog W 0 (fun _ => true) true 24 v d p) {μ : Ren} {hp : Heap} (HH : HRel μ hp W) (ro : ReadOnly hp) :
    ∃ (l1 : Ren) (bs : Heap) (q : Option SL) (l : List Rec), HRel (μ ++ l1) (hp ++ bs) W ∧ ReadOnly (hp ++ bs) ∧ AV.rel (μ ++ l1) (.sl q) v ∧ HasL recE (hp ++ bs) q l ∧ ∀ r ∈ l, -9223372036854775808 ≤ r.1 ∧ r.1 ≤ 9223372036854775807 := by
  have hv : Cell.okWide Try.prog W r base 24 v := by
    unfold Value.okWide at hv0
    rw [Try.underlying24] at hv0
    exact hv0
  obtain ⟨fuel, hf⟩ := h
  have hc : v.cells.toList = [v] := by
    rcases cell_slice Try.underlying24 hv with rfl | ⟨b, o, len, cap, rfl, _, _⟩ <;> simp [Value.cells]
  rw [hc] at hf
  obtain ⟨l1, bs, q, l, k1, k2, k3, k4⟩ := slice_in wrecE Try.underlying24 (by kernel_rfl) wrec_in hv hf HH ro
  refine ⟨l1, bs, q, l.map (·.1), k1, k2, k3, wrecE_has k4, fun r hr => ?_⟩
  obtain ⟨u, _, rfl⟩ := List.mem_map.1 hr
  exact u.2.1
set_option maxRecDepth 100000 in
theorem int_val {v : Value} {r : Reach} {base : Nat} (hv0 : Value.okWide Try.prog W r base 3 v) : ∃ n, v = .int .i64 n := by
  unfold Value.okWide at hv0
  rw [Try.underlying3] at hv0
  exact cell_int Try.underlying3 hv0
end

set_option maxRecDepth 100000 in
theorem operParts_lifted (os : Os) (started : os.Started) (H : Type) (enc : TypeId × Value → H) :
    ReturnsInHanded {} Try.checked os 4 .any (Rows.operPartsSpec.pre6 enc Try.prog Try.f4 Rows.operPartsRow.domain false) (Rows.operPartsSpec.post enc Try.prog Try.f4 false true false false) := by
  refine returnsInHanded_of_change (C := Try.checked) own started (by kernel_rfl) Try.func4
    (ChangeSpec.witness6 (enc := enc) (C := Try.checked) false ⟨#[], #[.slice none 0 0, .int .i64 0], []⟩ 8 (by kernel_rfl) (by kernel_rfl) (by kernel_rfl) (by kernel_rfl)) ?_
  intro W base args ds gs before hval0 hW _ _
  have hval : ∀ (j : Nat) t v, Try.f4.params[j]? = some t → args[j]? = some v → Value.okWide Try.prog W .any base t v := hval0
  have hW' := hW
  obtain ⟨p, q, hA0, hV, rfl, hfz, hnd⟩ := hW
  have hA : DataW.TrodAll enc Try.prog W 0 (fun _ => true) true Try.f4.params.toList args.toList ds p := hA0
  rw [Try.params4] at hA hval
  obtain ⟨v0, vs0, d0, ds0, p0, q0, hargs, rfl, rfl, h0, r0⟩ := trodAll_cons hA
  obtain ⟨v1, vs1, d1, ds1, p1, q1, rfl, rfl, rfl, h1, r1⟩ := trodAll_cons r0
  obtain ⟨rfl, rfl, rfl⟩ := trodAll_nil r1
  obtain rfl : args = #[v0, v1] := by cases args; simp_all
  obtain ⟨rfl, rfl⟩ := trodVars_none hV
  obtain ⟨l1, bs, q, l, k1, k2, k3, k4, k5⟩ := wbag_in (hval 0 24 v0 rfl rfl) h0 (hrel_nil W) (by intro b B hb; simp at hb)
  obtain ⟨n, rfl⟩ := int_val (hval 1 3 v1 rfl rfl)
  refine (calls_of_AC (args := #[v0, .int .i64 n]) (s4 k4 k5 (fun _ => (rfl : AV.bool true = AV.bool true))) k1 ⟨_, _, rfl, k3, _, _, rfl, rfl, rfl⟩ k2).mono fun e W' ⟨he, hb⟩ => ?_
  exact ⟨_, he, post_yes hW' rfl rfl (by kernel_rfl) Try.underlying4 (by kernel_rfl) hb⟩

theorem operParts_holds : Rows.OperPartsSaid :=
  OpenClaim.holds_of_wide 4 Try.f4 rfl rfl rfl rfl rfl rfl rfl ⟨rfl, rfl, rfl, rfl, rfl⟩ rfl rfl rfl rfl rfl (by kernel_rfl) Try.func4 (by kernel_rfl)
    (of_decide_eq_true (by kernel_rfl)) (by unfold Func.isWrapper; first | (rw [if_pos (by decide +kernel)]; kernel_rfl) | (rw [if_neg (by decide +kernel)]; exact ⟨rfl, rfl⟩))
    (fun os started H enc _ => operParts_lifted os started H enc)
end Go.Proofs.Ytfafgnmlnhklaaa
