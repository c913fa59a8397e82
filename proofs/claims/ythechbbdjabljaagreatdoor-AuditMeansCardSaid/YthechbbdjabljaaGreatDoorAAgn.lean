/- AuditMeans answers yes for every script: what is meant by it, and its tasks. -/
import Derived.Test.YthechbbdjabljaaGreatDoorAG9
import Derived.Test.YthechbbdjabljaaGreatDoorAG13
import Derived.Test.YthechbbdjabljaaGreatDoorAG41
import Derived.Test.YthechbbdjabljaaGreatDoorAG43
import Derived.Test.YthechbbdjabljaaGreatDoorAG47
import Derived.Test.YthechbbdjabljaaGreatDoorAG50
namespace Go.Proofs.YthechbbdjabljaaGreatDoor
open Go.Ab
open Go.ChangeShapes Go.WideShapes Go.ChangeAt Go.RowKit
set_option linter.unusedVariables false
set_option linter.unusedSimpArgs false
theorem agG{t h':Heap}(x:Ext (Xr 0 Ue++t) h'):qG h':=by have hl8:(Xr 0 Ue).length=8:=rfl;(have e:h'=Xr 0 Ue++h'.drop 8:=by apply List.ext_getElem?;intro i;by_cases hi:i<8;(·rw[List.getElem?_append_left (by omega)];have h1:(Xr 0 Ue++t)[i]?=(Xr 0 Ue)[i]?:=List.getElem?_append_left (by omega);have h2:(Xr 0 Ue)[i]?=some ((Xr 0 Ue)[i]'(by omega)):=List.getElem?_eq_getElem (by omega);rw[h2];exact x _ _ (h1.trans h2));·rw[List.getElem?_append_right (by omega),hl8,List.getElem?_drop];congr 1;omega);rw[e];exact agH _
set_option maxRecDepth 100000 in
theorem aeu (os : Os) (started : os.Started) (H : Type) (enc : TypeId × Value → H) :
    ReturnsInHanded {} Tryz.checked os 3 .any (fun w args => (Rows.auditMeansSpec.pre enc Tryz.prog Tryz.f3 Rows.auditMeansRow.domain false w args ∧ laidMetH Tryz.prog S9 w) ∧ sizedMet enc Tryz.prog Tryz.f3 (OpenSpec.ofChange Rows.auditMeansSpec) false w args)
      (Rows.auditMeansSpec.post enc Tryz.prog Tryz.f3 false true false false) := by
  refine returnsInHanded_of_change_and (C := Tryz.checked) (X := fun w _ => laidMetH Tryz.prog S9 w) (fun _ _ _ hh h => h.of_heap hh) Q7 started wi1 Tryz.func3
    (ChangeSpec.witness_shaped (enc := enc) (C := Tryz.checked) (os := os) (X := fun w _ => laidMetH Tryz.prog S9 w) false (World.laidAll Tryz.prog os S9) #[.agg #[.int .i64 0, .int .i64 0, .int .i64 0, .int .i64 0, .slice none 0 0, .int .i64 0, .slice none 0 0, .slice none 0 0]] 8 (World.laidAll_os _ _ _)
      (World.shaped_of_ZipB (wi2 os) (wi3 os)) (wi4 os) (wi5 os enc) (wi6 os enc)
      (by rw [MakeChecks.laidMetH_plain _ _ _ wi9]; exact laidMet_laidAll _ (wi7 os) (wi8 os))) ?_
  intro W base args ds gs before al4 hW hc _ hL _
  have wY : ∀ (j : Nat) t v, Tryz.f3.params[j]? = some t → args[j]? = some v → Value.okWide Tryz.prog W .any base t v := al4
  have vt := hW
  obtain ⟨p, q, Ax, hV, rfl, _, _⟩ := hW
  have hA : DataW.TrodAll enc Tryz.prog W 0 (fun _ => true) true Tryz.f3.params.toList args.toList ds p := Ax
  rw [Tryz.params3] at hA wY
  obtain ⟨v0, vs0, d0, ds0, p0, q0, Qv, rfl, rfl, h0, r0⟩ := trodAll_cons hA
  obtain ⟨rfl, rfl, rfl⟩ := trodAll_nil r0
  obtain rfl : args = #[v0] := by cases args; simp_all
  obtain ⟨rfl, rfl⟩ := trodVars_none hV
  have hL' : laidMet Tryz.prog S9 W := by rwa [MakeChecks.laidMetH_plain _ _ _ wi9] at hL
  obtain ⟨μ, HH⟩ := agV hL'
  obtain ⟨l1, bs, n1, n2, n3, n4, q5, n6, q7, q8, l, ins, Y0, k1, k2, k3, R, G, A⟩ := agD (wY 0 30 v0 rfl rfl) h0 HH (zH Ue 0) (b0 := 1) (c0 := Lf) (rw0 := false) rfl
  refine (afr (args := #[v0]) (s3 (fun x hQ => s5 (agG x) hQ) R G A (Q := fun v _ => v = .bool true) (fun _ _ => rfl)) k1 ⟨_, _, rfl, k3, rfl⟩ k2).mono fun e W' ⟨he, hb⟩ => ?_
  exact ⟨_, he, ahL vt rfl rfl (by kernel_rfl) Tryz.underlying4 anR hb⟩
theorem afq:([30].all λu=>!Tryz.prog.wantsStandIn u)=true:=by kernel_rfl
theorem aeF:Rows.AuditMeansSaid:=OpenClaim.holds_of_wide 3 Tryz.f3 rfl rfl rfl rfl rfl rfl rfl ⟨rfl,rfl,rfl,rfl,rfl⟩ rfl rfl rfl rfl rfl tO Tryz.func3 ajI (of_decide_eq_true (by kernel_rfl)) (by unfold Func.isWrapper;first|(rw[if_pos (by decide+kernel)];kernel_rfl)|(rw[if_neg (by decide+kernel)];exact⟨rfl,rfl⟩)) (λos started H enc _=>aeu os started H enc)
theorem auditMeans_holds:Rows.AuditMeansCardSaid:=Claim7.holds_tied_plain_at .later [] [.data,.data,.data,.data] true (true,"04af38e6d994046ee2a0ab266d455f3dc8f49c2954db86a729523a669ae50df8") false aeF (λ_ h=>by cases h) aih (λ_ h=>by cases h) aep rfl ⟨rfl,rfl⟩ ahj rfl (λf fn hf WE=>by obtain rfl:f=3:=Option.some.inj (tO.symm.trans hf)|>.symm;obtain rfl:fn=Tryz.f3:=(Option.some.inj (Tryz.func3.symm.trans WE)).symm;exact⟨agq,λj t ht=>by rw[Tryz.params3]at ht;(have hm:t∈[30]:=by simpa using Array.mem_of_getElem? ht);exact(show Tryz.prog.wantsStandIn t=false by simpa using List.all_eq_true.1 afq t hm)⟩) agr
end Go.Proofs.YthechbbdjabljaaGreatDoor
