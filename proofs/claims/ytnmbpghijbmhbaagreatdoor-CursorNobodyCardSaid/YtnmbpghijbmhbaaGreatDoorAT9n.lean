/- CursorNobody answers yes for every entry and every number. -/
import Derived.Test.YtnmbpghijbmhbaaGreatDoorAG17
import Derived.Test.YtnmbpghijbmhbaaGreatDoorAG19
import Derived.Test.YtnmbpghijbmhbaaGreatDoorAG20
import Derived.Test.YtnmbpghijbmhbaaGreatDoorAG21
import Derived.Test.YtnmbpghijbmhbaaGreatDoorAG22
import Derived.Test.YtnmbpghijbmhbaaGreatDoorRows
import Derived.Test.YtnmbpghijbmhbaaGreatDoorTie
import Derived.Test.YtnmbpghijbmhbaaGreatDoorCards
import Derived.ChangeSame
import Derived.ChangeVars
import Derived.JoinedOf
import Derived.RowKit
import Derived.RowKitTokens
import Derived.LaidLaws
import Derived.LaidMore
import Derived.Lay
import Derived.LaidOnce
import Derived.Stop.Joined
namespace Go.Proofs.YtnmbpghijbmhbaaGreatDoor
open Go.Ab
open Go.ChangeShapes Go.WideShapes Go.ChangeAt Go.RowKit
set_option linter.unusedVariables false
set_option linter.unusedSimpArgs false

theorem s6 (a b c d : Int) : AC Tryz.prog 6 [.agg [.int .i64 a, .int .i64 b, .int .i64 c, .int .i64 d]] (laidH 1 tblAV) fun v _ => v = .bool true := by
  obtain ⟨e, H, hr⟩ := erun_laid (runw6 a b c d)
  exact erun_ok Tryz.ovOk 60 6 _ _ _ _ _ H (fun x e' h' _ hx => isTrue_ok hx) hr
/-- The variable's name. -/
abbrev halvesN : String := Rows.cursorNobodyRow.named.headD ""
abbrev laidL : List (String × DataW Unit) := [(halvesN, Rows.laid_oxbow_crc_halves)]
def laidT : List (String × DataW Unit) := [(halvesN, .agg ((Go.Crc.tbl.map fun n => ((n : Nat) : Int)).map fun n => .lit (.int .u32 n)))]
theorem laidL_T : laidL = laidT := by kernel_rfl
theorem tblAV_T : ((Go.Crc.tbl.map fun n => ((n : Nat) : Int)).map (AV.int .u32)) = tblAV := by kernel_rfl
/-- What the condition gives: the variable's mark and its cells. -/
theorem laid_heap {W : World} (h : laidMet Tryz.prog laidL W) : ∃ e0 e1 : ME, HRel [e0, e1] (laidH 1 tblAV) W := by
  rw [laidL_T] at h
  obtain ⟨C, t, fz, h1, h2⟩ := laid_cells_g (tbl := Go.Crc.tbl.map fun n => ((n : Nat) : Int)) h (by kernel_rfl) (by kernel_rfl) (n := 16) (e := 56) (ty := 390) (by kernel_rfl) (by kernel_rfl) (by kernel_rfl) (by kernel_rfl) (by kernel_rfl)
  have := hrel_of_laid_g h1 h2
  rw [tblAV_T] at this
  exact ⟨_, _, this⟩

set_option maxRecDepth 100000 in
theorem four_cells {W : World} {base : Nat} {r : Reach} {v : Value} (hv : Value.okWide Tryz.prog W r base 28 v) : ∃ a b c d : Int, v = .agg #[.int .i64 a, .int .i64 b, .int .i64 c, .int .i64 d] := by
  obtain ⟨cs, rfl, hl, hc⟩ := row_cells (ts := [3, 3, 3, 3]) Tryz.underlying28 (.inl ⟨_, rfl⟩) hv (by kernel_rfl) (by kernel_rfl)
  obtain ⟨x0, g0, h0⟩ := hc 0 3 rfl
  obtain ⟨x1, g1, h1⟩ := hc 1 3 rfl
  obtain ⟨x2, g2, h2⟩ := hc 2 3 rfl
  obtain ⟨x3, g3, h3⟩ := hc 3 3 rfl
  obtain rfl : cs = [x0, x1, x2, x3] := by
    match cs, hl with
    | [y0, y1, y2, y3], _ => simp at g0 g1 g2 g3; simp_all
  obtain ⟨a, rfl⟩ := cell_int Tryz.underlying3 h0
  obtain ⟨b, rfl⟩ := cell_int Tryz.underlying3 h1
  obtain ⟨c, rfl⟩ := cell_int Tryz.underlying3 h2
  obtain ⟨d, rfl⟩ := cell_int Tryz.underlying3 h3
  exact ⟨a, b, c, d, rfl⟩
set_option maxRecDepth 100000 in
theorem cursorNobody_lifted (os : Os) (started : os.Started) (H : Type) (enc : TypeId × Value → H) :
    ReturnsInHanded {} Tryz.checked os 6 .any (fun w args => (Rows.cursorNobodySpec.pre enc Tryz.prog Tryz.f6 Rows.cursorNobodyRow.domain false w args ∧ laidMetH Tryz.prog laidL w) ∧ sizedMet enc Tryz.prog Tryz.f6 (OpenSpec.ofChange Rows.cursorNobodySpec) false w args)
      (Rows.cursorNobodySpec.post enc Tryz.prog Tryz.f6 false true false false) := by
  refine returnsInHanded_of_change_and (C := Tryz.checked) (X := fun w _ => laidMetH Tryz.prog laidL w) (fun _ _ _ hh h => h.of_heap hh) own6 started (by kernel_rfl) Tryz.func6
    (ChangeSpec.witness_shaped (enc := enc) (C := Tryz.checked) (os := os) (X := fun w _ => laidMetH Tryz.prog laidL w) false (World.laidAll Tryz.prog os laidL) #[.agg #[.int .i64 0, .int .i64 0, .int .i64 0, .int .i64 0]] 8 (World.laidAll_os _ _ _)
      (World.shaped_of_ZipB (by kernel_rfl) (by kernel_rfl)) (by kernel_rfl) (by kernel_rfl) (by kernel_rfl)
      (by rw [MakeChecks.laidMetH_plain _ _ _ (by kernel_rfl)]; exact laidMet_laidAll _ (by kernel_rfl) (by kernel_rfl))) ?_
  intro W base args ds gs before hval0 hW hc _ hL _
  have hval : ∀ (j : Nat) t v, Tryz.f6.params[j]? = some t → args[j]? = some v → Value.okWide Tryz.prog W .any base t v := hval0
  have hW' := hW
  obtain ⟨p, q, hA0, hV, rfl, _, _⟩ := hW
  have hA : DataW.TrodAll enc Tryz.prog W 0 (fun _ => true) true Tryz.f6.params.toList args.toList ds p := hA0
  rw [Tryz.params6] at hA hval
  obtain ⟨v0, vs0, d0, ds0, p0, q0, hargs, rfl, rfl, h0, r0⟩ := trodAll_cons hA
  obtain ⟨rfl, rfl, rfl⟩ := trodAll_nil r0
  obtain rfl : args = #[v0] := by cases args; simp_all
  obtain ⟨rfl, rfl⟩ := trodVars_none hV
  obtain ⟨a, b, c, d, rfl⟩ := four_cells (hval 0 28 v0 rfl rfl)
  have hL' : laidMet Tryz.prog laidL W := by rwa [MakeChecks.laidMetH_plain _ _ _ (by kernel_rfl)] at hL
  obtain ⟨e0, e1, HH⟩ := laid_heap hL'
  refine (calls_of_AC (args := #[.agg #[.int .i64 a, .int .i64 b, .int .i64 c, .int .i64 d]]) (s6 a b c d) HH ⟨_, _, rfl, ⟨_, rfl, _, _, rfl, rfl, _, _, rfl, rfl, _, _, rfl, rfl, _, _, rfl, rfl, rfl⟩, rfl⟩ laidH_ro).mono fun e W' ⟨he, hb⟩ => ?_
  exact ⟨_, he, post_yes hW' rfl rfl (by kernel_rfl) Tryz.underlying4 (by kernel_rfl) hb⟩

theorem cursorNobody_row : Rows.CursorNobodySaid :=
  OpenClaim.holds_of_wide 6 Tryz.f6 rfl rfl rfl rfl rfl rfl rfl ⟨rfl, rfl, rfl, rfl, rfl⟩ rfl rfl rfl rfl rfl card6_name Tryz.func6 closed6
    (of_decide_eq_true (by kernel_rfl)) (by unfold Func.isWrapper; first | (rw [if_pos (by decide +kernel)]; kernel_rfl) | (rw [if_neg (by decide +kernel)]; exact ⟨rfl, rfl⟩))
    (fun os started H enc _ => cursorNobody_lifted os started H enc)
theorem cursorNobody_holds : Rows.CursorNobodyCardSaid :=
  Claim7.holds_tied_plain_at .later [] [.data] true (true, "576785b55aa8774404f818fb15051f68669d0173158b8aaa76405364f7855e59") false cursorNobody_row (fun _ h => by cases h) card6_wf (fun _ h => by cases h) cursorNobody_row_tie rfl ⟨rfl, rfl⟩ card_main rfl
    (fun f fn hf hfn => by
      obtain rfl : f = 6 := Option.some.inj (card6_name.symm.trans hf) |>.symm
      obtain rfl : fn = Tryz.f6 := (Option.some.inj (Tryz.func6.symm.trans hfn)).symm
      exact ⟨card_looks, fun j t ht => by
        rw [Tryz.params6] at ht
        have hm : t ∈ [28] := by simpa using Array.mem_of_getElem? ht
        exact (show Tryz.prog.wantsStandIn t = false by simpa using List.all_eq_true.1 card6_stand t hm)⟩)
    card6_goes
end Go.Proofs.YtnmbpghijbmhbaaGreatDoor
