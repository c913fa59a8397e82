/- SegmentNobody answers yes for every entry and every number. -/
import Derived.Test.YtnglhicedhcpbaaGreatDoorAG15
import Derived.Test.YtnglhicedhcpbaaGreatDoorAG19
import Derived.Test.YtnglhicedhcpbaaGreatDoorAG21
import Derived.Test.YtnglhicedhcpbaaGreatDoorAG22
import Derived.Test.YtnglhicedhcpbaaGreatDoorRows
import Derived.Test.YtnglhicedhcpbaaGreatDoorTie
import Derived.Test.YtnglhicedhcpbaaGreatDoorCards
import Derived.ChangeSame
import Derived.ChangeVars
import Derived.JoinedOf
import Derived.RowKit
import Derived.RowKitTokens
import Derived.LaidLaws
import Derived.LaidMore
import Derived.Lay
import Derived.LaidOnce
import Derived.Stop.Joined
namespace Go.Proofs.YtnglhicedhcpbaaGreatDoor
open Go.Ab
open Go.ChangeShapes Go.WideShapes Go.ChangeAt Go.RowKit
set_option linter.unusedVariables false
set_option linter.unusedSimpArgs false

theorem laid_run {f : FuncId} {args : List AV} {v : AV} {h : Heap} {Q : AV → Heap → Prop} (hk : wlaid Tryz.prog slotsOf ovF 60 0 tblAV f args (fun x _ => avEq x v) = true) (ha : ∀ (μ μ' : Ren) (vs : List Value), relL μ args vs → relL μ' args vs) (hv : ∀ (μ μ' : Ren) (x : Value), v.rel μ x → v.rel μ' x)
    (L : Laid h) (hQ : Q v h) : AC Tryz.prog f args h Q := by
  obtain ⟨e, H, hr⟩ := erun_laid hk
  exact AC_frame_g (v := v) (erun_ok Tryz.ovOk 60 f _ _ _ _ _ H (fun x e' h' _ hx => avEq_ok _ _ hx) hr) ha hv L.1 L.2 tbl_plain hQ

set_option maxRecDepth 100000 in
theorem runw25 : wlaid Tryz.prog slotsOf ovF 60 0 tblAV 25 [.ptr none, .str [115], .int .i64 1, .sl none] (fun x _ => avEq x (.int .i64 6)) = true := by kernel_rfl
set_option maxRecDepth 100000 in
theorem runw16 (n : Int) : wlaid Tryz.prog slotsOf ovF 60 0 tblAV 16 [.ptr none, .int .i64 n] (fun x _ => avEq x (.tup [.sl none, .int .i64 6])) = true := by kernel_rfl
set_option maxRecDepth 100000 in
theorem runw17 : wlaid Tryz.prog slotsOf ovF 60 0 tblAV 17 [.ptr none] (fun x _ => avEq x (.tup [.sl none, .int .i64 6])) = true := by kernel_rfl
set_option maxRecDepth 100000 in
theorem runw18 : wlaid Tryz.prog slotsOf ovF 60 0 tblAV 18 [.ptr none, .str [115], .int .i64 1] (fun x _ => avEq x (.tup [.ptr none, .int .i64 6])) = true := by kernel_rfl
set_option maxRecDepth 100000 in
theorem runw20 : wlaid Tryz.prog slotsOf ovF 60 0 tblAV 20 [.ptr none] (fun x _ => avEq x (.str [])) = true := by kernel_rfl
set_option maxRecDepth 100000 in
theorem runw21 : wlaid Tryz.prog slotsOf ovF 60 0 tblAV 21 [.ptr none] (fun x _ => avEq x (.int .i64 0)) = true := by kernel_rfl
set_option maxRecDepth 100000 in
theorem runw22 : wlaid Tryz.prog slotsOf ovF 60 0 tblAV 22 [.ptr none] (fun x _ => avEq x (.int .i64 0)) = true := by kernel_rfl
set_option maxRecDepth 100000 in
theorem runw23 (a b c d : Int) : wlaid Tryz.prog slotsOf ovF 60 0 tblAV 23 [.ptr none, .agg [.int .i64 a, .int .i64 b, .int .i64 c, .int .i64 d]] (fun x _ => avEq x (.int .i64 0)) = true := by kernel_rfl
set_option maxRecDepth 100000 in
theorem runw24 : wlaid Tryz.prog slotsOf ovF 60 0 tblAV 24 [.ptr none] (fun x _ => avEq x (.int .i64 6)) = true := by kernel_rfl

theorem n15 {n : Int} {h : Heap} {Q : AV → Heap → Prop} (L : Laid h) (hQ : Q (.tup [.agg [.int .i64 0, .int .i64 0, .int .i64 0, .int .i64 0], .bool false]) h) : AC Tryz.prog 15 [.ptr none, .int .i64 n] h Q := ac15 (by
  unfold vc15
  refine vif_mk (fun _ => hQ) (fun g => ?_)
  refine laid_run runw22 (fun _ _ _ h => h) (fun _ _ _ h => h) L ⟨_, rfl, ?_⟩
  exact vif_mk (fun _ => hQ) (fun g2 => by have := of_decide_eq_false g; have := of_decide_eq_false g2; omega))
/-- SegmentNobody -/
theorem s3 {a b c d n : Int} {h : Heap} (L : Laid h) : AC Tryz.prog 3 [.agg [.int .i64 a, .int .i64 b, .int .i64 c, .int .i64 d], .int .i64 n] h fun v _ => v = .bool true := ac3 (by
  unfold vc3
  refine n15 L ⟨_, _, _, _, _, rfl, ?_⟩
  refine laid_run (runw16 n) (fun _ _ _ h => h) (fun _ _ _ h => h) L ⟨_, _, rfl, ?_⟩
  refine laid_run runw17 (fun _ _ _ h => h) (fun _ _ _ h => h) L ⟨_, _, rfl, ?_⟩
  refine laid_run runw18 (fun _ _ _ h => h) (fun _ _ _ h => h) L ⟨_, _, rfl, ?_⟩
  refine s19 L ⟨_, rfl, ?_⟩
  refine laid_run runw20 (fun _ _ _ h => h) (fun _ _ _ h => h) L ⟨_, rfl, ?_⟩
  refine laid_run runw21 (fun _ _ _ h => h) (fun _ _ _ h => h) L ⟨_, rfl, ?_⟩
  refine laid_run runw22 (fun _ _ _ h => h) (fun _ _ _ h => h) L ⟨_, rfl, ?_⟩
  refine laid_run (runw23 a b c d) (fun _ _ _ h => h) (fun _ _ _ h => h) L ⟨_, rfl, ?_⟩
  refine laid_run runw24 (fun _ _ _ h => h) (fun _ _ _ h => h) L ⟨_, rfl, ?_⟩
  refine laid_run runw25 (fun _ _ _ h => h) (fun _ _ _ h => h) L ⟨_, rfl, ?_⟩
  rfl)
/-- The variable's name. -/
abbrev halvesN : String := Rows.segmentNobodyRow.named.headD ""
abbrev laidL : List (String × DataW Unit) := [(halvesN, Rows.laid_oxbow_crc_halves)]
def laidT : List (String × DataW Unit) := [(halvesN, .agg ((Go.Crc.tbl.map fun n => ((n : Nat) : Int)).map fun n => .lit (.int .u32 n)))]
theorem laidL_T : laidL = laidT := by kernel_rfl
theorem tblAV_T : ((Go.Crc.tbl.map fun n => ((n : Nat) : Int)).map (AV.int .u32)) = tblAV := by kernel_rfl
/-- What the condition gives: the variable's mark and its cells. -/
theorem laid_heap {W : World} (h : laidMet Tryz.prog laidL W) : ∃ e0 e1 : ME, HRel [e0, e1] (laidH 0 tblAV) W := by
  rw [laidL_T] at h
  obtain ⟨C, t, fz, h1, h2⟩ := laid_cells (tbl := Go.Crc.tbl.map fun n => ((n : Nat) : Int)) h (by kernel_rfl) (by kernel_rfl) (n := 16) (e := 113) (ty := 355) (by kernel_rfl) (by kernel_rfl) (by kernel_rfl) (by kernel_rfl) (by kernel_rfl)
  have := hrel_of_laid h1 h2
  rw [tblAV_T] at this
  exact ⟨_, _, this⟩
theorem laidH_Laid {t : Heap} : Laid (laidH 0 tblAV ++ t) := ⟨rfl, rfl⟩

set_option maxRecDepth 100000 in
theorem four_cells {W : World} {base : Nat} {r : Reach} {v : Value} (hv : Value.okWide Tryz.prog W r base 27 v) : ∃ a b c d : Int, v = .agg #[.int .i64 a, .int .i64 b, .int .i64 c, .int .i64 d] := by
  obtain ⟨cs, rfl, hl, hc⟩ := row_cells (ts := [3, 3, 3, 3]) Tryz.underlying27 (.inl ⟨_, rfl⟩) hv (by kernel_rfl) (by kernel_rfl)
  obtain ⟨x0, g0, h0⟩ := hc 0 3 rfl
  obtain ⟨x1, g1, h1⟩ := hc 1 3 rfl
  obtain ⟨x2, g2, h2⟩ := hc 2 3 rfl
  obtain ⟨x3, g3, h3⟩ := hc 3 3 rfl
  obtain rfl : cs = [x0, x1, x2, x3] := by
    match cs, hl with
    | [y0, y1, y2, y3], _ => simp at g0 g1 g2 g3; simp_all
  obtain ⟨a, rfl⟩ := cell_int Tryz.underlying3 h0
  obtain ⟨b, rfl⟩ := cell_int Tryz.underlying3 h1
  obtain ⟨c, rfl⟩ := cell_int Tryz.underlying3 h2
  obtain ⟨d, rfl⟩ := cell_int Tryz.underlying3 h3
  exact ⟨a, b, c, d, rfl⟩
set_option maxRecDepth 100000 in
theorem segmentNobody_lifted (os : Os) (started : os.Started) (H : Type) (enc : TypeId × Value → H) :
    ReturnsInHanded {} Tryz.checked os 3 .any (fun w args => (Rows.segmentNobodySpec.pre enc Tryz.prog Tryz.f3 Rows.segmentNobodyRow.domain false w args ∧ laidMetH Tryz.prog laidL w) ∧ sizedMet enc Tryz.prog Tryz.f3 (OpenSpec.ofChange Rows.segmentNobodySpec) false w args)
      (Rows.segmentNobodySpec.post enc Tryz.prog Tryz.f3 false true false false) := by
  refine returnsInHanded_of_change_and (C := Tryz.checked) (X := fun w _ => laidMetH Tryz.prog laidL w) (fun _ _ _ hh h => h.of_heap hh) own3 started (by kernel_rfl) Tryz.func3
    (ChangeSpec.witness_shaped (enc := enc) (C := Tryz.checked) (os := os) (X := fun w _ => laidMetH Tryz.prog laidL w) false (World.laidAll Tryz.prog os laidL) #[.agg #[.int .i64 0, .int .i64 0, .int .i64 0, .int .i64 0], .int .i64 0] 8 (World.laidAll_os _ _ _)
      (World.shaped_of_ZipB (by kernel_rfl) (by kernel_rfl)) (by kernel_rfl) (by kernel_rfl) (by kernel_rfl)
      (by rw [MakeChecks.laidMetH_plain _ _ _ (by kernel_rfl)]; exact laidMet_laidAll _ (by kernel_rfl) (by kernel_rfl))) ?_
  intro W base args ds gs before hval0 hW hc _ hL _
  have hval : ∀ (j : Nat) t v, Tryz.f3.params[j]? = some t → args[j]? = some v → Value.okWide Tryz.prog W .any base t v := hval0
  have hW' := hW
  obtain ⟨p, q, hA0, hV, rfl, _, _⟩ := hW
  have hA : DataW.TrodAll enc Tryz.prog W 0 (fun _ => true) true Tryz.f3.params.toList args.toList ds p := hA0
  rw [Tryz.params3] at hA hval
  obtain ⟨v0, vs0, d0, ds0, p0, q0, hargs, rfl, rfl, h0, r0⟩ := trodAll_cons hA
  obtain ⟨v1, vs1, d1, ds1, p1, q1, rfl, rfl, rfl, h1, r1⟩ := trodAll_cons r0
  obtain ⟨rfl, rfl, rfl⟩ := trodAll_nil r1
  obtain rfl : args = #[v0, v1] := by cases args; simp_all
  obtain ⟨rfl, rfl⟩ := trodVars_none hV
  obtain ⟨a, b, c, d, rfl⟩ := four_cells (hval 0 27 v0 rfl rfl)
  obtain ⟨n, rfl, rfl, rfl, wa⟩ := open_int Tryz.underlying3 (hval 1 3 v1 rfl rfl) h1
  have hL' : laidMet Tryz.prog laidL W := by rwa [MakeChecks.laidMetH_plain _ _ _ (by kernel_rfl)] at hL
  obtain ⟨e0, e1, HH⟩ := laid_heap hL'
  refine (calls_of_AC (args := #[.agg #[.int .i64 a, .int .i64 b, .int .i64 c, .int .i64 d], .int .i64 n]) (s3 (a := a) (b := b) (c := c) (d := d) (n := n) ⟨rfl, rfl⟩) HH ⟨_, _, rfl, ⟨_, rfl, _, _, rfl, rfl, _, _, rfl, rfl, _, _, rfl, rfl, _, _, rfl, rfl, rfl⟩, _, _, rfl, rfl, rfl⟩ laidH_ro).mono fun e W' ⟨he, hb⟩ => ?_
  exact ⟨_, he, post_yes hW' rfl rfl (by kernel_rfl) Tryz.underlying4 (by kernel_rfl) hb⟩

theorem segmentNobody_row : Rows.SegmentNobodySaid :=
  OpenClaim.holds_of_wide 3 Tryz.f3 rfl rfl rfl rfl rfl rfl rfl ⟨rfl, rfl, rfl, rfl, rfl⟩ rfl rfl rfl rfl rfl card3_name Tryz.func3 closed3
    (of_decide_eq_true (by kernel_rfl)) (by unfold Func.isWrapper; first | (rw [if_pos (by decide +kernel)]; kernel_rfl) | (rw [if_neg (by decide +kernel)]; exact ⟨rfl, rfl⟩))
    (fun os started H enc _ => segmentNobody_lifted os started H enc)
theorem segmentNobody_holds : Rows.SegmentNobodyCardSaid :=
  Claim7.holds_tied_plain_at .later [] [.data] true (true, "167e363518a68182c5c761e88d2ab89c747fc052803a2d80bb731255294a9900") false segmentNobody_row (fun _ h => by cases h) card3_wf (fun _ h => by cases h) segmentNobody_row_tie rfl ⟨rfl, rfl⟩ card_main rfl
    (fun f fn hf hfn => by
      obtain rfl : f = 3 := Option.some.inj (card3_name.symm.trans hf) |>.symm
      obtain rfl : fn = Tryz.f3 := (Option.some.inj (Tryz.func3.symm.trans hfn)).symm
      exact ⟨card_looks, fun j t ht => by
        rw [Tryz.params3] at ht
        have hm : t ∈ [27, 3] := by simpa using Array.mem_of_getElem? ht
        exact (show Tryz.prog.wantsStandIn t = false by simpa using List.all_eq_true.1 card3_stand t hm)⟩)
    card3_goes
end Go.Proofs.YtnglhicedhcpbaaGreatDoor
