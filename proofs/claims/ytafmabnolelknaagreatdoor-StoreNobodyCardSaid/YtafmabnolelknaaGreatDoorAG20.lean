import Derived.Test.YtafmabnolelknaaGreatDoorAG11
import Derived.Test.YtafmabnolelknaaGreatDoorAG12
import Derived.Test.YtafmabnolelknaaGreatDoorAG18
import Derived.Test.YtafmabnolelknaaGreatDoorAG19
namespace Go.Proofs.YtafmabnolelknaaGreatDoor
open Go.Ab
set_option linter.unusedVariables false
set_option linter.unusedSimpArgs false
def OverL (h : Heap) : Prop := ∀ (μ : Ren) (w : World), HRel μ h w → ∃ μ1, HRel μ1 (laidHs 0 gsAV) w
def isInt : AV → Bool
  | .int _ _ => true
  | _ => false
theorem isInt_plain {x : AV} (h : isInt x = true) : ∀ (μ μ' : Ren) (y : Value), x.rel μ y → x.rel μ' y := by
  cases x <;> simp [isInt] at h
  intro μ μ' y h; exact h
theorem tabs_int : ∀ x ∈ tab0 ++ tab1 ++ tab3 ++ tab2, isInt x = true := by
  have : (tab0 ++ tab1 ++ tab3 ++ tab2).all isInt = true := by kernel_rfl
  exact List.all_eq_true.1 this
theorem laid_forms : ∀ (i : Nat) (B : Blk), (laidHs 0 gsAV)[i]? = some B → (∃ g j, B = .gm g j ∧ j < 8) ∨ ∃ c, B = .cells c false ∧ ∀ x ∈ c, isInt x = true := by
  intro i B h
  match i with
  | 0 => cases h; exact .inl ⟨_, _, rfl, by omega⟩
  | 1 => cases h; exact .inr ⟨_, rfl, fun x hx => tabs_int x (by simp [hx])⟩
  | 2 => cases h; exact .inl ⟨_, _, rfl, by omega⟩
  | 3 => cases h; exact .inr ⟨_, rfl, fun x hx => tabs_int x (by simp [hx])⟩
  | 4 => cases h; exact .inl ⟨_, _, rfl, by omega⟩
  | 5 => cases h; exact .inr ⟨_, rfl, fun x hx => tabs_int x (by simp [hx])⟩
  | 6 => cases h; exact .inl ⟨_, _, rfl, by omega⟩
  | 7 => cases h; exact .inr ⟨_, rfl, fun x hx => tabs_int x (by simp [hx])⟩
  | i + 8 => simp [laidHs, gsAV] at h
theorem overL_app (t : Heap) : OverL (laidHs 0 gsAV ++ t) := by
  intro μ w hh
  have hlen : (laidHs 0 gsAV).length = 8 := rfl
  refine ⟨_, hh.pre (gs := gsAV) (fun i hi => List.getElem?_append_left hi) (by rw [List.length_append]; omega) ?_ ?_ ?_⟩
  · intro i g j h
    rcases laid_forms i _ h with ⟨g', j', e, hj⟩ | ⟨c, e, _⟩
    · cases e; rw [hlen]; exact hj
    · cases e
  · intro i c rw h x hx
    rcases laid_forms i _ h with ⟨g', j', e, hj⟩ | ⟨c', e, hc⟩
    · cases e
    · cases e; exact isInt_plain (hc x hx)
  · intro i B h
    rcases laid_forms i B h with ⟨g', j', e, _⟩ | ⟨c', e, _⟩
    · exact .inl ⟨_, _, e⟩
    · exact .inr ⟨_, _, e⟩
theorem laid_run {f : FuncId} {args : List AV} {v : AV} {h : Heap} {Q : AV → Heap → Prop} (hk : wlaidE 0 gsAV ⟨.e, 0⟩ (fun h => wrun Tryz.prog slotsOf ovD 60 f args h fun x _ => avEq x v) = true) (ha : ∀ (μ μ' : Ren) (vs : List Value), relL μ args vs → relL μ' args vs) (hv : ∀ (μ μ' : Ren) (x : Value), v.rel μ x → v.rel μ' x)
    (L : OverL h) (hQ : Q v h) : AC Tryz.prog f args h Q := by
  obtain ⟨e, H, hr⟩ := wlaidE_ok gsAV 0 _ [] _ HFor_nil hk
  exact AC_frame_gs (gs := gsAV) (v := v) (wrun_ok ovD_ok (by simpa using H) (fun x e' h' _ hx => avEq_ok _ _ hx) hr) ha hv L hQ
theorem s13 {h : Heap} {Q : AV → Heap → Prop} (L : OverL h) (hQ : Q (.bool true) h) : AC Tryz.prog 13 [] h Q := by
  obtain ⟨e, H, hr⟩ := wlaidE_ok gsAV 0 _ [] _ HFor_nil runw13
  exact AC_frame_gs (gs := gsAV) (v := .bool true) (wrun_ok ovD_ok (by simpa using H) (fun x e' h' _ hx => isTrue_ok hx) hr) (fun _ _ _ h => h) (fun _ _ _ h => h) L hQ
noncomputable abbrev nilRun (f : FuncId) (args : List AV) (v : AV) : Bool := wlaidE 0 gsAV ⟨.e, 0⟩ (fun h => wrun Tryz.prog slotsOf ovD 60 f args h fun x _ => avEq x v)
set_option maxRecDepth 100000 in
theorem runw68 : nilRun 68 [.ptr none] (.bool false) = true := by kernel_rfl
set_option maxRecDepth 100000 in
theorem runw27 (a b : Int) : nilRun 27 [.ptr none, .agg [.int .i64 a, .int .i64 b]] (.tup [.sl none, .int .i64 6]) = true := by kernel_rfl
set_option maxRecDepth 100000 in
theorem runw19 : nilRun 19 [.ptr none] (.tup [.sl none, .int .i64 6]) = true := by kernel_rfl
set_option maxRecDepth 100000 in
theorem runw14 (a b c d : Int) : nilRun 14 [.ptr none, .agg [.int .i64 a, .int .i64 b, .int .i64 c, .int .i64 d]] (.int .i64 6) = true := by kernel_rfl
set_option maxRecDepth 100000 in
theorem runw15 : nilRun 15 [.ptr none] (.int .i64 6) = true := by kernel_rfl
set_option maxRecDepth 100000 in
theorem runw16 : nilRun 16 [.ptr none] (.int .i64 6) = true := by kernel_rfl
set_option maxRecDepth 100000 in
theorem runw28 : nilRun 28 [.ptr none, .agg [.str [], .int .i64 0, .int .i64 0]] (.int .i64 6) = true := by kernel_rfl
set_option maxRecDepth 100000 in
theorem runw29 : nilRun 29 [.ptr none] (.int .i64 6) = true := by kernel_rfl
set_option maxRecDepth 100000 in
theorem runw23 : nilRun 23 [.ptr none] (.sl none) = true := by kernel_rfl
set_option maxRecDepth 100000 in
theorem runw26 : nilRun 26 [.ptr none] (.int .i64 0) = true := by kernel_rfl
set_option maxRecDepth 100000 in
theorem runw24 : nilRun 24 [.ptr none] (.int .i64 0) = true := by kernel_rfl
set_option maxRecDepth 100000 in
theorem runw30 : nilRun 30 [.ptr none] (.int .i64 0) = true := by kernel_rfl
theorem n17 {q : Option SL} {h : Heap} {Q : AV → Heap → Prop} (L : OverL h) (hQ : Q (.tup [.int .i64 0, .int .i64 6]) h) : AC Tryz.prog 17 [.ptr none, .sl q] h Q := ac17 (by
  unfold vc17
  refine laid_run runw68 (fun _ _ _ h => h) (fun _ _ _ h => h) L ⟨_, rfl, ?_⟩
  exact vif_mk (fun _ => hQ) (fun g => by simp at g))
theorem s5 {n1 n2 n3 n4 n5 n7 : Int} {q6 q8 : Option SL} {h : Heap} (L : OverL h) : AC Tryz.prog 5 [.agg [.int .i64 n1, .int .i64 n2, .int .i64 n3, .int .i64 n4, .int .i64 n5, .sl q6, .int .i64 n7, .sl q8]] h fun v _ => v = .bool true := ac5 (by
  unfold vc5
  refine laid_run (runw27 n2 n3) (fun _ _ _ h => h) (fun _ _ _ h => h) L ⟨_, _, rfl, ?_⟩
  refine laid_run runw19 (fun _ _ _ h => h) (fun _ _ _ h => h) L ⟨_, _, rfl, ?_⟩
  refine n17 L ⟨_, _, rfl, ?_⟩
  refine s13 L ⟨_, rfl, ?_⟩
  refine vif_mk (fun _ => ?_) (fun g => by cases g)
  refine laid_run (runw14 n2 n3 n4 n5) (fun _ _ _ h => h) (fun _ _ _ h => h) L ⟨_, rfl, ?_⟩
  refine vif_mk (fun _ => ?_) (fun g => by simp at g)
  refine laid_run runw15 (fun _ _ _ h => h) (fun _ _ _ h => h) L ⟨_, rfl, ?_⟩
  refine vif_mk (fun _ => ?_) (fun g => by simp at g)
  refine laid_run runw16 (fun _ _ _ h => h) (fun _ _ _ h => h) L ⟨_, rfl, ?_⟩
  refine vif_mk (fun _ => ?_) (fun g => by simp at g)
  refine laid_run runw28 (fun _ _ _ h => h) (fun _ _ _ h => h) L ⟨_, rfl, ?_⟩
  refine vif_mk (fun _ => ?_) (fun g => by simp at g)
  refine vif_mk (fun _ => ?_) (fun g => by simp at g)
  refine vif_mk (fun _ => ?_) (fun g => by simp at g)
  refine vif_mk (fun _ => ?_) (fun g => by simp at g)
  refine laid_run runw29 (fun _ _ _ h => h) (fun _ _ _ h => h) L ⟨_, rfl, ?_⟩
  refine vif_mk (fun _ => ?_) (fun g => by simp at g)
  refine laid_run runw23 (fun _ _ _ h => h) (fun _ _ _ h => h) L ⟨_, rfl, ?_⟩
  refine vif_mk (fun _ => ?_) (fun g => by simp [slLen] at g)
  refine laid_run runw26 (fun _ _ _ h => h) (fun _ _ _ h => h) L ⟨_, rfl, ?_⟩
  refine vif_mk (fun _ => ?_) (fun g => by simp at g)
  refine laid_run runw24 (fun _ _ _ h => h) (fun _ _ _ h => h) L ⟨_, rfl, ?_⟩
  refine vif_mk (fun _ => ?_) (fun g => by simp at g)
  refine laid_run runw30 (fun _ _ _ h => h) (fun _ _ _ h => h) L ⟨_, rfl, ?_⟩
  rfl)
end Go.Proofs.YtafmabnolelknaaGreatDoor
