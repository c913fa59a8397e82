/- ShardLimits answers yes for everything that it may be asked. -/
import Derived.Test.YtafmabnolelknaaGreatDoorFG5
import Derived.Test.YtafmabnolelknaaGreatDoorFG9
import Derived.Test.YtafmabnolelknaaGreatDoorFG10
import Derived.Test.YtafmabnolelknaaGreatDoorFG12
namespace Go.Proofs.YtafmabnolelknaaGreatDoor
open Go.Ab
open Go.Z7 Go.Yj
open Go.ChangeShapes Go.WideShapes Go.ChangeAt Go.RowKit
set_option linter.unusedVariables false
set_option linter.unusedSimpArgs false
set_option maxRecDepth 100000 in
theorem adR (os : Os) (started : os.Started) (H : Type) (enc : TypeId × Value → H) :
    ReturnsInHanded {} Tryz.checked os 11 .any (fun w args => (Rows.shardLimitsSpec.pre enc Tryz.prog Tryz.f11 Rows.shardLimitsRow.domain false w args ∧ laidMetH Tryz.prog Hh w) ∧ sizedMet enc Tryz.prog Tryz.f11 (OpenSpec.ofChange Rows.shardLimitsSpec) false w args)
      (Rows.shardLimitsSpec.post enc Tryz.prog Tryz.f11 false true false false) := by
  refine returnsInHanded_of_change_and (C := Tryz.checked) (X := fun w _ => laidMetH Tryz.prog Hh w) (fun _ _ _ hh h => h.of_heap hh) apy started (by kernel_rfl) Tryz.func11
    (ChangeSpec.witness_shaped (enc := enc) (C := Tryz.checked) (os := os) (X := fun w _ => laidMetH Tryz.prog Hh w) false (World.laidAll Tryz.prog os Hh) #[.slice none 0 0, .slice none 0 0, .int .i64 0] 8 (World.laidAll_os _ _ _)
      (World.shaped_of_ZipB (by kernel_rfl) (by kernel_rfl)) (by kernel_rfl) (by kernel_rfl) (by kernel_rfl)
      (by rw [MakeChecks.laidMetH_plain _ _ _ (by kernel_rfl)]; exact laidMet_laidAll _ (by kernel_rfl) (by kernel_rfl))) ?_
  intro W base args ds gs before akW hW hc _ hL _
  have Jn : ∀ (j : Nat) t v, Tryz.f11.params[j]? = some t → args[j]? = some v → Value.okWide Tryz.prog W .any base t v := akW
  have FR := hW
  obtain ⟨p, q, hA0, hV, rfl, _, _⟩ := hW
  have hA : DataW.TrodAll enc Tryz.prog W 0 (fun _ => true) true Tryz.f11.params.toList args.toList ds p := hA0
  rw [Tryz.params11] at hA Jn
  obtain ⟨v0, vs0, d0, ds0, p0, q0, OU, rfl, rfl, h0, r0⟩ := trodAll_cons hA
  obtain ⟨v1, vs1, d1, ds1, p1, q1, rfl, rfl, rfl, h1, r1⟩ := trodAll_cons r0
  obtain ⟨v2, vs2, d2, ds2, p2, q2, rfl, rfl, rfl, h2, r2⟩ := trodAll_cons r1
  obtain ⟨rfl, rfl, rfl⟩ := trodAll_nil r2
  obtain rfl : args = #[v0, v1, v2] := by cases args; simp_all
  obtain ⟨rfl, rfl⟩ := trodVars_none hV
  have hL' : laidMet Tryz.prog Hh W := by rwa [MakeChecks.laidMetH_plain _ _ _ (by kernel_rfl)] at hL
  obtain ⟨μ, HH⟩ := ag2 hL'
  have c0 := abe (Jn 0 60 v0 rfl rfl)
  obtain ⟨a0, apT, asa, rfl⟩ := okWide_slice Tryz.underlying60 (Jn 0 60 v0 rfl rfl)
  obtain ⟨fu0, Dq⟩ := h0
  obtain ⟨m0, bs0, q0, l0, H0, ro0, wM, wj⟩ := gK LR.Yy Tryz.underlying60 (by kernel_rfl) aaP c0 Dq HH (yc T8 0)
  have c1 := abe (Jn 1 60 v1 rfl rfl)
  obtain ⟨a1, acw, ar_, rfl⟩ := okWide_slice Tryz.underlying60 (Jn 1 60 v1 rfl rfl)
  obtain ⟨fu1, FW⟩ := h1
  obtain ⟨m1, FH, q1, l1, H1, ro1, ab9, adf⟩ := gK LR.Yy Tryz.underlying60 (by kernel_rfl) aaP c1 FW H0 ro0
  obtain ⟨n2, rfl, rfl, rfl, w2⟩ := open_int Tryz.underlying3 (Jn 2 3 v2 rfl rfl) h2
  have wM := AV.rel.mono (Ren.U8 _ m1) _ _ wM
  have wj := wj.mono (Ext.app _ FH)
  simp only [List.append_assoc] at wj adf wM ab9 H1 ro1
  refine (afu (args := #[.slice a0 apT asa, .slice a1 acw ar_, .int .i64 n2]) (Kv l40 (LA.app _) wj adf fun _ => rfl) H1 ⟨_, _, rfl, wM, ⟨_, _, rfl, ab9, ⟨_, _, rfl, rfl, rfl⟩⟩⟩ ro1).mono fun e W' ⟨he, hb⟩ => ?_
  exact ⟨_, he, ahV FR rfl rfl (by kernel_rfl) Tryz.underlying4 (by kernel_rfl) hb⟩
theorem adY:Rows.ShardLimitsSaid:=OpenClaim.holds_of_wide 11 Tryz.f11 rfl rfl rfl rfl rfl rfl rfl ⟨rfl,rfl,rfl,rfl,rfl⟩ rfl rfl rfl rfl rfl jA Tryz.func11 aiq (of_decide_eq_true (by kernel_rfl)) (by unfold Func.isWrapper;first|(rw[if_pos (by decide+kernel)];kernel_rfl)|(rw[if_neg (by decide+kernel)];exact⟨rfl,rfl⟩)) (λos started H enc _=>adR os started H enc)
theorem shardLimits_holds:Rows.ShardLimitsCardSaid:=Claim7.holds_tied_plain_at .later [] [.data,.data,.data,.data] true (true,"a135674dfacc129f112544c4b8fa39b787132e786b4bf04053af45495352e943") false adY (λ_ h=>by cases h) aho (λ_ h=>by cases h) shardLimits_row_tie rfl ⟨rfl,rfl⟩ ahn rfl (λf fn hf WV=>by obtain rfl:f=11:=Option.some.inj (jA.symm.trans hf)|>.symm;obtain rfl:fn=Tryz.f11:=(Option.some.inj (Tryz.func11.symm.trans WV)).symm;exact⟨agd,λj t ht=>by rw[Tryz.params11]at ht;(have hm:t∈[60,60,3]:=by simpa using Array.mem_of_getElem? ht);exact(show Tryz.prog.wantsStandIn t=false by simpa using List.all_eq_true.1 aeC t hm)⟩) aft
end Go.Proofs.YtafmabnolelknaaGreatDoor
