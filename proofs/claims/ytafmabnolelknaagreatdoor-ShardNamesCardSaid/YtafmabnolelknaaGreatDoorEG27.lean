import Derived.Test.YtafmabnolelknaaGreatDoorEG18
import Derived.Test.YtafmabnolelknaaGreatDoorEG20
import Derived.Test.YtafmabnolelknaaGreatDoorEG23
import Derived.Test.YtafmabnolelknaaGreatDoorEG26
import Derived.Laws.StructEq
namespace Go.Proofs.YtafmabnolelknaaGreatDoor
open Go.Ab
set_option linter.unusedVariables false
set_option linter.unusedSimpArgs false
set_option maxRecDepth 100000
noncomputable def ovX : Ovr := fun f => match f == 396 with
 | true => some eMore
 | false => ov0 f
theorem ovX_ok : OvrOK Tryz.prog ovX := by
 intro f g hg args e h k Q H hQ hk
 unfold ovX at hg
 split at hg
 ·rename_i hf
  cases hg
  have hf' : f = 396 := by simpa using hf
  subst hf'
  exact eMore_ok args e h k Q H hQ hk
 ·exact Tryz.ovOk f g hg args e h k Q H hQ hk
noncomputable def ePorts (args : List AV) (h : EH) (k : AV → EH → Bool) : Bool :=
 match args with
 | [.ptr (some p), .agg [.int .i64 n2, .int .i64 n3]] => eCells h p.b (p.o + 2) 2 fun c => match c with
  | [.sl q5, .int .i64 n6] => frun Tryz.prog slotsOf ovX 60 179 [.agg [.sl q5, .int .i64 n6], .agg [.int .i64 n2, .int .i64 n3]] h fun v h8 => (match v with
   | .tup [.agg [.int .i64 n9, .sl q10, .int .i64 n11, .int .i64 n12, .int .i64 n13, .sl q14], .bool b] => eCells h8 p.b (p.o + 2) 2 fun c' => avEqL c' [.sl q5, .int .i64 n6] && (match b with
    | false => k (.int .i64 0) h8
    | true => frun Tryz.prog slotsOf ovX 60 180 [.int .i64 n9] h8 fun v h17 => match v with
     | .int .i64 n18 => k (.int .i64 (maxI2 1 n18)) h17
     | _ => false)
   | _ => false)
  | _ => false
 | _ => false
theorem ePorts_ok : ∀ (args : List AV) (e : EH) (h : Heap) (k : AV → EH → Bool) (Q : AV → Heap → Prop), HFor e h → (∀ v e' h', HFor e' h' → k v e' = true → Q v h') → ePorts args e k = true → AC Tryz.prog 112 args h Q := by
 intro args e h k Q H hQ hk
 unfold ePorts at hk
 split at hk
 ·rename_i p n2 n3
  obtain ⟨l, hc, hk⟩ := eCells_ok H hk
  split at hk
  ·rename_i q5 n6
   have main : ∀ Q2 : AV → Heap → Prop, (∀ (n9 : Int) (q10 : Option SL) (n11 n12 n13 : Int) (q14 : Option SL) (b : Bool) (h8 : Heap), cellsAt h8 ⟨p.b, p.o + 2⟩ 2 = some [.sl q5, .int .i64 n6] → (b = false → Q (.int .i64 0) h8) → (b = true → AC Tryz.prog 180 [.int .i64 n9] h8 fun v h17 => ∃ n18 : Int, v = .int .i64 n18 ∧ Q (.int .i64 (maxI2 1 n18)) h17) → Q2 (.tup [.agg [.int .i64 n9, .sl q10, .int .i64 n11, .int .i64 n12, .int .i64 n13, .sl q14], .bool b]) h8) →
     AC Tryz.prog 179 [.agg [.sl q5, .int .i64 n6], .agg [.int .i64 n2, .int .i64 n3]] h Q2 := by
    intro Q2 hQ2
    refine frun_ok ovX_ok H (fun v e1 h1 H1 hk => ?_) hk
    split at hk
    ·rename_i n9 q10 n11 n12 n13 q14 b
     obtain ⟨l2, hc2, hk⟩ := eCells_ok H1 hk
     rw [Bool.and_eq_true] at hk
     have he := avEqL_ok _ _ hk.1
     subst he
     refine hQ2 _ _ _ _ _ _ _ _ hc2 (fun hb => ?_) (fun hb => ?_)
     ·subst hb; exact hQ _ _ _ H1 hk.2
     ·subst hb
      refine frun_ok ovX_ok H1 (fun v e2 h2 H2 hk => ?_) hk.2
      split at hk
      ·exact ⟨_, rfl, hQ _ _ _ H2 hk⟩
      ·simp at hk
    ·simp at hk
   refine ac112 ⟨q5, n6, hc, main _ fun n9 q10 n11 n12 n13 q14 b h8 c8 h0 h1 => ⟨_, _, _, _, _, _, _, rfl, rfl, ⟨_, _, c8, rfl⟩, vif_mk (fun hb => h0 (by simpa using hb)) (fun hb => h1 (by simpa using hb))⟩, rfl, ⟨_, _, hc, rfl⟩, main _ fun n9 q10 n11 n12 n13 q14 b h8 c8 h0 h1 => ⟨_, _, _, _, _, _, _, rfl, vif_mk (fun hb => h0 (by simpa using hb)) (fun hb => h1 (by simpa using hb))⟩⟩
  ·simp at hk
 ·simp at hk
noncomputable def ovA : Ovr := fun f => match f == 112 with
 | true => some ePorts
 | false => ovX f
theorem ovA_ok : OvrOK Tryz.prog ovA := by
 intro f g hg args e h k Q H hQ hk
 unfold ovA at hg
 split at hg
 ·rename_i hf
  cases hg
  have hf' : f = 112 := by simpa using hf
  subst hf'
  exact ePorts_ok args e h k Q H hQ hk
 ·exact ovX_ok f g hg args e h k Q H hQ hk
noncomputable def ovB : Ovr := fun f => match f == 323 with
 | true => some (espfun Tryz.prog slotsOf (frun Tryz.prog slotsOf ovA 60) f)
 | false => ovA f
theorem callOK_frun {ov : Ovr} (O : OvrOK Tryz.prog ov) (n : Nat) : CallOK Tryz.prog (frun Tryz.prog slotsOf ov n) := fun f args e h k Q H hQ hk => frun_ok O H hQ hk
theorem ovB_ok : OvrOK Tryz.prog ovB := by
 intro f g hg args e h k Q H hQ hk
 unfold ovB at hg
 split at hg
 ·cases hg
  exact espfun_ok (callOK_frun ovA_ok 60) slotsOf f args e h k Q H hQ hk
 ·exact ovA_ok f g hg args e h k Q H hQ hk
noncomputable def eReadB (args : List AV) (h : EH) (k : AV → EH → Bool) : Bool :=
 match args with
 | [.ptr p1, .sl q2, .agg [.int .i64 n3, .int .i64 n4, .int .i64 n5, .int .i64 n6], v7] => frun Tryz.prog slotsOf ovB 60 149 [.ptr p1, .agg [.int .i64 n3, .int .i64 n4, .int .i64 n5, .int .i64 n6]] h fun v h => match v with
  | .tup [.sl q, .int .i64 e] => (match e != 0 with
   | true => k (.tup [.sl none, .int .i64 e]) h
   | false => eNew [.sl q2] true h fun a h => frun Tryz.prog slotsOf ovB 60 150 [.sl (some ⟨a, 0, 1, 1, 0⟩), .sl q] h fun v h => (match v with
    | .tup [.ptr p, .int .i64 e] => (match e != 0 with
     | true => k (.tup [.sl none, .int .i64 e]) h
     | false => frun Tryz.prog slotsOf ovB 60 152 [.ptr p, v7] h fun v h => (match v with
      | .tup [.sl q20, .int .i64 n21] => frun Tryz.prog slotsOf ovB 60 151 [.ptr p] h fun _ h => k (.tup [.sl q20, .int .i64 n21]) h
      | _ => false))
    | _ => false))
  | _ => false
 | _ => false
theorem eReadB_ok : ∀ (args : List AV) (e : EH) (h : Heap) (k : AV → EH → Bool) (Q : AV → Heap → Prop), HFor e h → (∀ v e' h', HFor e' h' → k v e' = true → Q v h') → eReadB args e k = true → AC Tryz.prog 85 args h Q := by
 intro args e h k Q H hQ hk
 unfold eReadB at hk
 split at hk
 ·rename_i p1 q2 n3 n4 n5 n6 v7
  refine ac85 ?_
  unfold vc85
  refine frun_ok ovB_ok H (fun v e1 h1 H1 hk => ?_) hk
  split at hk
  ·rename_i q10 n11
   refine ⟨q10, n11, rfl, ?_⟩
   split at hk
   ·rename_i hz
    exact vif_mk (fun _ => hQ _ _ _ H1 hk) (fun g => by rw [hz] at g; cases g)
   ·rename_i hz
    refine vif_mk (fun g => by rw [hz] at g; cases g) (fun _ => ?_)
    obtain ⟨e2, H2, hk⟩ := eNew_ok H1 hk
    refine frun_ok ovB_ok H2 (fun v e3 h3 H3 hk => ?_) hk
    split at hk
    ·rename_i p16 n17
     refine ⟨p16, n17, rfl, ?_⟩
     split at hk
     ·rename_i hz
      exact vif_mk (fun _ => hQ _ _ _ H3 hk) (fun g => by rw [hz] at g; cases g)
     ·rename_i hz
      refine vif_mk (fun g => by rw [hz] at g; cases g) (fun _ => ?_)
      refine frun_ok ovB_ok H3 (fun v e4 h4 H4 hk => ?_) hk
      split at hk
      ·rename_i q20 n21
       refine ⟨q20, n21, rfl, ?_⟩
       exact frun_okD ovB_ok (by rfl) H4 (fun v e5 h5 H5 hk => hQ _ _ _ H5 hk) hk
      ·simp at hk
    ·simp at hk
  ·simp at hk
 ·simp at hk
noncomputable def ovC : Ovr := fun f => match f == 85 with
 | true => some eReadB
 | false => ovB f
theorem ovC_ok : OvrOK Tryz.prog ovC := by
 intro f g hg args e h k Q H hQ hk
 unfold ovC at hg
 split at hg
 ·rename_i hf
  cases hg
  have hf' : f = 85 := by simpa using hf
  subst hf'
  exact eReadB_ok args e h k Q H hQ hk
 ·exact ovB_ok f g hg args e h k Q H hQ hk
noncomputable def ovS : Ovr := fun f => match [45, 49, 51, 52, 54, 55].contains f with
 | true => some (espfun Tryz.prog slotsOf (frun Tryz.prog slotsOf ovC 60) f)
 | false => ovC f
theorem ovS_ok : OvrOK Tryz.prog ovS := by
 intro f g hg args e h k Q H hQ hk
 unfold ovS at hg
 split at hg
 ·cases hg
  exact espfun_ok (callOK_frun ovC_ok 60) slotsOf f args e h k Q H hQ hk
 ·exact ovC_ok f g hg args e h k Q H hQ hk
end Go.Proofs.YtafmabnolelknaaGreatDoor
namespace Go.Proofs.YtafmabnolelknaaGreatDoor
open Go.Ab
set_option linter.unusedVariables false
set_option maxRecDepth 100000 in
theorem runw40 : wlaidE 0 gsAV ⟨.e, 0⟩ (fun h => frun Tryz.prog slotsOf ovS 60 40 [] h isTrue) = true := by kernel_rfl
end Go.Proofs.YtafmabnolelknaaGreatDoor
