/- StoreRot answers yes for everything that it may be asked. -/
import Derived.Test.YtafmabnolelknaaGreatDoorHG6
import Derived.Test.YtafmabnolelknaaGreatDoorHG8
namespace Go.Proofs.YtafmabnolelknaaGreatDoor
open Go.Ab
open Go.Z9 Go.X7
open Go.ChangeShapes Go.WideShapes Go.ChangeAt Go.RowKit
set_option linter.unusedVariables false
set_option linter.unusedSimpArgs false
set_option maxRecDepth 100000 in
theorem ae6 (os : Os) (started : os.Started) (H : Type) (enc : TypeId × Value → H) :
    ReturnsInHanded {} Tryz.checked os 7 .any (fun w args => (Rows.storeRotSpec.pre enc Tryz.prog Tryz.f7 Rows.storeRotRow.domain false w args ∧ laidMetH Tryz.prog GI w) ∧ sizedMet enc Tryz.prog Tryz.f7 (OpenSpec.ofChange Rows.storeRotSpec) false w args)
      (Rows.storeRotSpec.post enc Tryz.prog Tryz.f7 false true false false) := by
  refine returnsInHanded_of_change_and (C := Tryz.checked) (X := fun w _ => laidMetH Tryz.prog GI w) (fun _ _ _ hh h => h.of_heap hh) aqN started (by kernel_rfl) Tryz.func7
    (ChangeSpec.witness_shaped (enc := enc) (C := Tryz.checked) (os := os) (X := fun w _ => laidMetH Tryz.prog GI w) false (World.laidAll Tryz.prog os GI) #[.int .i64 0, .slice none 0 0, .int .i64 0, .int .i64 0, .int .i64 0, .int .u32 0, .agg #[.int .i64 0, .int .i64 0]] 8 (World.laidAll_os _ _ _)
      (World.shaped_of_ZipB (by kernel_rfl) (by kernel_rfl)) (by kernel_rfl) (by kernel_rfl) (by kernel_rfl)
      (by rw [MakeChecks.laidMetH_plain _ _ _ (by kernel_rfl)]; exact laidMet_laidAll _ (by kernel_rfl) (by kernel_rfl))) ?_
  intro W base args ds gs before alU hW hc _ hL _
  have Ms : ∀ (j : Nat) t v, Tryz.f7.params[j]? = some t → args[j]? = some v → Value.okWide Tryz.prog W .any base t v := alU
  have Pp := hW
  obtain ⟨p, q, hA0, hV, rfl, _, _⟩ := hW
  have hA : DataW.TrodAll enc Tryz.prog W 0 (fun _ => true) true Tryz.f7.params.toList args.toList ds p := hA0
  rw [Tryz.params7] at hA Ms
  obtain ⟨v0, vs0, d0, ds0, p0, q0, Bv, rfl, rfl, h0, r0⟩ := trodAll_cons hA
  obtain ⟨v1, vs1, d1, ds1, p1, q1, rfl, rfl, rfl, h1, r1⟩ := trodAll_cons r0
  obtain ⟨v2, vs2, d2, ds2, p2, q2, rfl, rfl, rfl, h2, r2⟩ := trodAll_cons r1
  obtain ⟨v3, vs3, d3, ds3, p3, q3, rfl, rfl, rfl, h3, r3⟩ := trodAll_cons r2
  obtain ⟨v4, vs4, d4, ds4, p4, q4, rfl, rfl, rfl, h4, r4⟩ := trodAll_cons r3
  obtain ⟨v5, vs5, d5, ds5, p5, q5, rfl, rfl, rfl, h5, r5⟩ := trodAll_cons r4
  obtain ⟨v6, vs6, d6, ds6, p6, q6, rfl, rfl, rfl, h6, r6⟩ := trodAll_cons r5
  obtain ⟨rfl, rfl, rfl⟩ := trodAll_nil r6
  obtain rfl : args = #[v0, v1, v2, v3, v4, v5, v6] := by cases args; simp_all
  obtain ⟨rfl, rfl⟩ := trodVars_none hV
  have hL' : laidMet Tryz.prog GI W := by rwa [MakeChecks.laidMetH_plain _ _ _ (by kernel_rfl)] at hL
  obtain ⟨μ, HH⟩ := ah3 hL'
  obtain ⟨n0, rfl, rfl, rfl, w0⟩ := open_int Tryz.underlying3 (Ms 0 3 v0 rfl rfl) h0
  obtain ⟨a1, adB, aub, rfl⟩ := okWide_slice Tryz.underlying22 (Ms 1 22 v1 rfl rfl)
  obtain ⟨fu1, FI⟩ := h1
  obtain ⟨m1, kj, q1, l1, H1, ro1, aqo, atc, awl⟩ := akR FI HH (rF u5 0) (b0 := 1) rfl
  obtain ⟨n2, rfl, rfl, rfl, w2⟩ := open_int Tryz.underlying3 (Ms 2 3 v2 rfl rfl) h2
  obtain ⟨n3, rfl, rfl, rfl, w3⟩ := open_int Tryz.underlying3 (Ms 3 3 v3 rfl rfl) h3
  obtain ⟨n4, rfl, rfl, rfl, w4⟩ := open_int Tryz.underlying3 (Ms 4 3 v4 rfl rfl) h4
  obtain ⟨n5, rfl, rfl, rfl, w5⟩ := open_int Tryz.underlying71 (Ms 5 71 v5 rfl rfl) h5
  obtain ⟨t5, rfl, b5⟩ := ajG w5
  obtain ⟨x6, y6, rfl⟩ := ahj (Ms 6 24 v6 rfl rfl)
  refine (af7 (args := #[.int .i64 n0, .slice a1 adB aub, .int .i64 n2, .int .i64 n3, .int .i64 n4, .int .u32 (t5 : Nat), .agg #[.int .i64 x6, .int .i64 y6]]) (s7 akX atc b5 (m := (x6, y6)) (fun _ => rfl) (Q := fun v _ => v = .bool true)) H1 ⟨_, _, rfl, rfl, ⟨_, _, rfl, aqo, ⟨_, _, rfl, rfl, ⟨_, _, rfl, rfl, ⟨_, _, rfl, rfl, ⟨_, _, rfl, rfl, ⟨_, _, rfl, ⟨_, rfl, _, _, rfl, rfl, _, _, rfl, rfl, rfl⟩, rfl⟩⟩⟩⟩⟩⟩⟩ ro1).mono fun e W' ⟨he, hb⟩ => ?_
  exact ⟨_, he, ai0 Pp rfl rfl (by kernel_rfl) Tryz.underlying4 (by kernel_rfl) hb⟩
theorem aft:Rows.StoreRotSaid:=OpenClaim.holds_of_wide 7 Tryz.f7 rfl rfl rfl rfl rfl rfl rfl ⟨rfl,rfl,rfl,rfl,rfl⟩ rfl rfl rfl rfl rfl gC Tryz.func7 akt (of_decide_eq_true (by kernel_rfl)) (by unfold Func.isWrapper;first|(rw[if_pos (by decide+kernel)];kernel_rfl)|(rw[if_neg (by decide+kernel)];exact⟨rfl,rfl⟩)) (λos started H enc _=>ae6 os started H enc)
theorem storeRot_holds:Rows.StoreRotCardSaid:=Claim7.holds_tied_plain_at .later [] [.data,.data,.data,.data] true (true,"a135674dfacc129f112544c4b8fa39b787132e786b4bf04053af45495352e943") false aft (λ_ h=>by cases h) ajx (λ_ h=>by cases h) storeRot_row_tie rfl ⟨rfl,rfl⟩ aiw rfl (λf fn hf WC=>by obtain rfl:f=7:=Option.some.inj (gC.symm.trans hf)|>.symm;obtain rfl:fn=Tryz.f7:=(Option.some.inj (Tryz.func7.symm.trans WC)).symm;exact⟨aha,λj t ht=>by rw[Tryz.params7]at ht;(have hm:t∈[3,22,3,3,3,71,24]:=by simpa using Array.mem_of_getElem? ht);exact(show Tryz.prog.wantsStandIn t=false by simpa using List.all_eq_true.1 af6 t hm)⟩) ahb
end Go.Proofs.YtafmabnolelknaaGreatDoor
