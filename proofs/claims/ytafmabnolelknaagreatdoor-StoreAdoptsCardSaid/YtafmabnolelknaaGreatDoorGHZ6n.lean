/- StoreAdopts answers yes for everything that it may be asked. -/
import Derived.Test.YtafmabnolelknaaGreatDoorGG9
import Derived.Test.YtafmabnolelknaaGreatDoorGG11
namespace Go.Proofs.YtafmabnolelknaaGreatDoor
open Go.Ab
open Go.Z7 Go.XM
open Go.ChangeShapes Go.WideShapes Go.ChangeAt Go.RowKit
set_option linter.unusedVariables false
set_option linter.unusedSimpArgs false
set_option maxRecDepth 100000 in
theorem aik (os : Os) (started : os.Started) (H : Type) (enc : TypeId × Value → H) :
    ReturnsInHanded {} Tryz.checked os 6 .any (fun w args => (Rows.storeAdoptsSpec.pre enc Tryz.prog Tryz.f6 Rows.storeAdoptsRow.domain false w args ∧ laidMetH Tryz.prog Gi w) ∧ sizedMet enc Tryz.prog Tryz.f6 (OpenSpec.ofChange Rows.storeAdoptsSpec) false w args)
      (Rows.storeAdoptsSpec.post enc Tryz.prog Tryz.f6 false true false false) := by
  refine returnsInHanded_of_change_and (C := Tryz.checked) (X := fun w _ => laidMetH Tryz.prog Gi w) (fun _ _ _ hh h => h.of_heap hh) auo started (by kernel_rfl) Tryz.func6
    (ChangeSpec.witness_shaped (enc := enc) (C := Tryz.checked) (os := os) (X := fun w _ => laidMetH Tryz.prog Gi w) false (World.laidAll Tryz.prog os Gi) #[.int .i64 0, .slice none 0 0, .int .i64 0] 8 (World.laidAll_os _ _ _)
      (World.shaped_of_ZipB (by kernel_rfl) (by kernel_rfl)) (by kernel_rfl) (by kernel_rfl) (by kernel_rfl)
      (by rw [MakeChecks.laidMetH_plain _ _ _ (by kernel_rfl)]; exact laidMet_laidAll _ (by kernel_rfl) (by kernel_rfl))) ?_
  intro W base args ds gs before aoI hW hc _ hL _
  have DO : ∀ (j : Nat) t v, Tryz.f6.params[j]? = some t → args[j]? = some v → Value.okWide Tryz.prog W .any base t v := aoI
  have O4 := hW
  obtain ⟨p, q, hA0, hV, rfl, _, _⟩ := hW
  have hA : DataW.TrodAll enc Tryz.prog W 0 (fun _ => true) true Tryz.f6.params.toList args.toList ds p := hA0
  rw [Tryz.params6] at hA DO
  obtain ⟨v0, vs0, d0, ds0, p0, q0, Bt, rfl, rfl, h0, r0⟩ := trodAll_cons hA
  obtain ⟨v1, vs1, d1, ds1, p1, q1, rfl, rfl, rfl, h1, r1⟩ := trodAll_cons r0
  obtain ⟨v2, vs2, d2, ds2, p2, q2, rfl, rfl, rfl, h2, r2⟩ := trodAll_cons r1
  obtain ⟨rfl, rfl, rfl⟩ := trodAll_nil r2
  obtain rfl : args = #[v0, v1, v2] := by cases args; simp_all
  obtain ⟨rfl, rfl⟩ := trodVars_none hV
  have hL' : laidMet Tryz.prog Gi W := by rwa [MakeChecks.laidMetH_plain _ _ _ (by kernel_rfl)] at hL
  obtain ⟨μ, HH⟩ := ak9 hL'
  obtain ⟨n0, rfl, rfl, rfl, w0⟩ := open_int Tryz.underlying3 (DO 0 3 v0 rfl rfl) h0
  obtain ⟨a1, afL, ayg, rfl⟩ := okWide_slice Tryz.underlying22 (DO 1 22 v1 rfl rfl)
  obtain ⟨fu1, Fl⟩ := h1
  obtain ⟨m1, jT, q1, l1, H1, ro1, ati, awN, aA0⟩ := anM Fl HH (re uM 0) (b0 := 1) rfl
  obtain ⟨n2, rfl, rfl, rfl, w2⟩ := open_int Tryz.underlying3 (DO 2 3 v2 rfl rfl) h2
  refine (ajp (args := #[.int .i64 n0, .slice a1 afL ayg, .int .i64 n2]) (s6 anS awN (fun _ => rfl) (Q := fun v _ => v = .bool true)) H1 ⟨_, _, rfl, rfl, ⟨_, _, rfl, ati, ⟨_, _, rfl, rfl, rfl⟩⟩⟩ ro1).mono fun e W' ⟨he, hb⟩ => ?_
  exact ⟨_, he, al2 O4 rfl rfl (by kernel_rfl) Tryz.underlying4 (by kernel_rfl) hb⟩
theorem aiq:Rows.StoreAdoptsSaid:=OpenClaim.holds_of_wide 6 Tryz.f6 rfl rfl rfl rfl rfl rfl rfl ⟨rfl,rfl,rfl,rfl,rfl⟩ rfl rfl rfl rfl rfl fT Tryz.func6 ano (of_decide_eq_true (by kernel_rfl)) (by unfold Func.isWrapper;first|(rw[if_pos (by decide+kernel)];kernel_rfl)|(rw[if_neg (by decide+kernel)];exact⟨rfl,rfl⟩)) (λos started H enc _=>aik os started H enc)
theorem storeAdopts_holds:Rows.StoreAdoptsCardSaid:=Claim7.holds_tied_plain_at .later [] [.data,.data,.data,.data] true (true,"a135674dfacc129f112544c4b8fa39b787132e786b4bf04053af45495352e943") false aiq (λ_ h=>by cases h) amx (λ_ h=>by cases h) storeAdopts_row_tie rfl ⟨rfl,rfl⟩ alz rfl (λf fn hf We=>by obtain rfl:f=6:=Option.some.inj (fT.symm.trans hf)|>.symm;obtain rfl:fn=Tryz.f6:=(Option.some.inj (Tryz.func6.symm.trans We)).symm;exact⟨akt,λj t ht=>by rw[Tryz.params6]at ht;(have hm:t∈[3,22,3]:=by simpa using Array.mem_of_getElem? ht);exact(show Tryz.prog.wantsStandIn t=false by simpa using List.all_eq_true.1 ajo t hm)⟩) aku
end Go.Proofs.YtafmabnolelknaaGreatDoor
