import Derived.Test.YtafmabnolelknaaGreatDoorBG11
import Derived.Test.YtafmabnolelknaaGreatDoorBG12
import Derived.Test.YtafmabnolelknaaGreatDoorBG22
import Derived.Test.YtafmabnolelknaaGreatDoorBG23
import Derived.Test.YtafmabnolelknaaGreatDoorBG27
import Derived.Laws.Small
namespace Go.Proofs.YtafmabnolelknaaGreatDoor
open Go.Ab
set_option linter.unusedVariables false
set_option linter.unusedSimpArgs false
theorem AC_frame_ro {P : Program} {f : FuncId} {args : List AV} {h : Heap} {v : AV} {Q : AV → Heap → Prop} (H : AC P f args h fun x _ => x = v) (hro : ∀ (b : Nat) (B : Blk), h[b]? = some B → B.rw = false) (hv : ∀ (μ μ' : Ren) (x : Value), v.rel μ x → v.rel μ' x) (hq : Q v h) : AC P f args h Q := by
 refine ⟨H.1, fun μ w vs hh hx => ?_⟩
 have := H.2 μ w vs hh hx
 refine this.mono fun e w' ⟨x, y, h', μ', he, hy, ev, _, hr⟩ => ?_
 subst hy
 have hB : ∀ k, k < w.heap.size → w'.heap[k]? = w.heap[k]? := fun k hk => ev.frame k hk (fun b B e hb hrw _ => by rw [hro b B hb] at hrw; cases hrw)
 refine ⟨x, y, h, μ, he, hq, ⟨.refl _, Nat.le_refl _, ev.size, fun k hk _ => hB k hk, fun b B e hb hrw he => .inr ⟨b, B, e, hb, hrw, he, rfl⟩, fun b B e hb hrw he => .inr ⟨b, B, e, hb, hrw, he, rfl⟩, ev.os, ev.tape, ev.output⟩, ?_, hv _ _ _ hr⟩
 exact ⟨hh.len, fun b B e hb he => (hh.blk b B e hb he).world (hB _ (hh.bnd b e he)), hh.sep, fun b e he => Nat.lt_of_lt_of_le (hh.bnd b e he) ev.size⟩
abbrev overD : Heap := laidHs 0 gsAV ++ [.dead, .dead]
noncomputable abbrev deadRun (f : FuncId) (args : List AV) (v : AV) : Bool := wlaidE 0 gsAV ⟨.e, 0⟩ (fun h => eNewB .dead h fun _ h => eNewB .dead h fun _ h => frun Tryz.prog slotsOf ovS 60 f args h fun x _ => avEq x v)
theorem overD_ro : ∀ (b : Nat) (B : Blk), overD[b]? = some B → B.rw = false := by
 intro b B h
 unfold overD at h
 rw [List.getElem?_append] at h
 split at h
 ·exact laidHs_ro gsAV 0 b B h
 ·generalize b - (laidHs 0 gsAV).length = k at h
  match k with
  | 0 => cases h; rfl
  | 1 => cases h; rfl
  | k + 2 => simp at h
theorem dead_run {f : FuncId} {args : List AV} {v : AV} {Q : AV → Heap → Prop} (hk : deadRun f args v = true) (hv : ∀ (μ μ' : Ren) (x : Value), v.rel μ x → v.rel μ' x) (hQ : Q v overD) : AC Tryz.prog f args overD Q := by
 obtain ⟨e, H, hr⟩ := wlaidE_ok gsAV 0 _ [] _ HFor_nil hk
 obtain ⟨e1, H1, hr⟩ := eNewB_ok H hr
 obtain ⟨e2, H2, hr⟩ := eNewB_ok H1 hr
 refine AC_frame_ro (v := v) ?_ overD_ro hv hQ
 have H3 : HFor e2 overD := by unfold overD; simpa using H2
 exact frun_ok ovS_ok H3 (fun x e' h' _ hx => avEq_ok _ _ hx) hr
theorem s40 {Q : AV → Heap → Prop} (hQ : Q (.bool true) overD) : AC Tryz.prog 40 [] overD Q := by
 obtain ⟨e, H, hr⟩ := wlaidE_ok gsAV 0 _ [] _ HFor_nil runw40
 exact AC_frame_gs (gs := gsAV) (v := .bool true) (frun_ok ovS_ok (by simpa using H) (fun x e' h' _ hx => isTrue_ok hx) hr) (fun _ _ _ h => h) (fun _ _ _ h => h) (overL_app _) hQ
set_option maxRecDepth 100000 in
theorem runw58 (a b c d e : Int) : deadRun 58 [.ptr none, .agg [.int .i64 a, .int .i64 b, .int .i64 c], .agg [.int .i64 d, .int .i64 e]] (.tup [.sl none, .int .i64 6]) = true := by kernel_rfl
set_option maxRecDepth 100000 in
theorem runw45 (a b d e : Int) : deadRun 45 [.ptr none, .agg [.int .i64 a, .int .i64 b], .agg [.int .i64 d, .int .i64 e]] (.tup [.sl none, .int .i64 6]) = true := by kernel_rfl
set_option maxRecDepth 100000 in
theorem runw49 (a b : Int) (q : Option SL) : deadRun 49 [.ptr none, .agg [.int .i64 a, .int .i64 b], .sl q] (.tup [.int .i64 0, .int .i64 6]) = true := by kernel_rfl
set_option maxRecDepth 100000 in
theorem runw56 (a b c : Int) : deadRun 56 [.ptr none, .agg [.int .i64 a, .int .i64 b, .int .i64 c]] (.tup [.str [], .bool false]) = true := by kernel_rfl
set_option maxRecDepth 100000 in
theorem runw43 (a b c d e : Int) (q : Option SL) : deadRun 43 [.ptr none, .agg [.int .i64 a, .int .i64 b, .int .i64 c], .agg [.int .i64 d, .int .i64 e], .sl q] (.int .i64 6) = true := by kernel_rfl
set_option maxRecDepth 100000 in
theorem runw51 : deadRun 51 [.ptr none] (.int .i64 6) = true := by kernel_rfl
set_option maxRecDepth 100000 in
theorem runw54 : deadRun 54 [.ptr none] (.int .i64 0) = true := by kernel_rfl
set_option maxRecDepth 100000 in
theorem runw52 : deadRun 52 [.ptr none] (.int .i64 0) = true := by kernel_rfl
set_option maxRecDepth 100000 in
theorem runw55 : deadRun 55 [.ptr none] (.int .i64 6) = true := by kernel_rfl
theorem s10 {n1 n2 n3 n4 n5 n6 : Int} {q7 q8 : Option SL} : AC Tryz.prog 10 [.agg [.int .i64 n1, .int .i64 n2, .int .i64 n3, .int .i64 n4, .int .i64 n5, .int .i64 n6, .sl q7, .sl q8]] overD fun v _ => v = .bool true := ac10 (by
 unfold vc10
 refine dead_run (runw58 n2 n3 n4 n5 n6) (fun _ _ _ h => h) ⟨_, _, rfl, ?_⟩
 refine dead_run (runw45 n2 n3 n5 n6) (fun _ _ _ h => h) ⟨_, _, rfl, ?_⟩
 refine dead_run (runw49 n2 n3 q8) (fun _ _ _ h => h) ⟨_, _, rfl, ?_⟩
 refine dead_run (runw56 n2 n3 n4) (fun _ _ _ h => h) ⟨_, _, rfl, ?_⟩
 refine s40 ⟨_, rfl, ?_⟩
 refine vif_mk (fun _ => ?_) (fun g => by cases g)
 refine dead_run (runw43 n2 n3 n4 n5 n6 q7) (fun _ _ _ h => h) ⟨_, rfl, ?_⟩
 refine vif_mk (fun _ => ?_) (fun g => by simp at g)
 refine vif_mk (fun _ => ?_) (fun g => by simp at g)
 refine vif_mk (fun _ => ?_) (fun g => by simp at g)
 refine vif_mk (fun _ => ?_) (fun g => by simp at g)
 refine dead_run runw51 (fun _ _ _ h => h) ⟨_, rfl, ?_⟩
 refine vif_mk (fun _ => ?_) (fun g => by simp at g)
 refine dead_run runw54 (fun _ _ _ h => h) ⟨_, rfl, ?_⟩
 refine vif_mk (fun _ => ?_) (fun g => by simp at g)
 refine dead_run runw52 (fun _ _ _ h => h) ⟨_, rfl, ?_⟩
 refine vif_mk (fun _ => ?_) (fun g => by simp at g)
 refine dead_run runw55 (fun _ _ _ h => h) ⟨_, rfl, ?_⟩
 refine vif_mk (fun _ => ?_) (fun g => by simp at g)
 refine vif_mk (fun _ => ?_) (fun g => by simp at g)
 rfl)
end Go.Proofs.YtafmabnolelknaaGreatDoor
