import Derived.Test.YtnglhicedhcpbaaGreatDoorLG13
import Derived.Maps.AppendAt
namespace Go.Proofs
open Go.RowKit Go.Shelf
section
attribute [local go_sem] Oper.semAt_some
namespace Chk
def encP (b off : Nat) (x : Nat × Nat) : Value := .slice (some ⟨b, off + x.1, none⟩) x.2 x.2
theorem zJO (F : Fence) (n : Nat) (h7 : F.fn 280) (hro : F.round = none) (hn : 1 <= n) (Bs Os Bn On n₀ b off len cap c : Nat) (hc1 : 1 <= c) (hcm : c <= 1000000) (hlc : len <= cap) (hreach : len <= 1000000000) (hb : Bs < n₀) (hbn : Bn < n₀)
  (w : World) (hn₀ : n₀ <= w.heap.size) (hBs : w.cell? ⟨Bs, Os, none⟩ = some (.slice (some ⟨b, off, none⟩) len cap)) (hBn : w.cell? ⟨Bn, On, none⟩ = some (.int .i64 c)) :
  SeqStopsK F n Tryz.prog 280 #[.pointer (some ⟨Bs, Os, none⟩), .pointer (some ⟨Bn, On, none⟩)] (fun x => #[.slice (some ⟨b, off + x.1, none⟩) x.2 x.2]) (Below n₀) (fun ys => ∃ k, len <= k * c /\ (k = 0 ∨ (k - 1) * c < len) /\ ys = upto (part len c) k) (fun _ => True) len w := fun l J Jx W hW hJ _ hY h0 => by
 have e1 := (hW.cell (p := ⟨Bs, Os, none⟩) (by simp only; omega)).trans hBs
 have e2 := (hW.cell (p := ⟨Bn, On, none⟩) (by simp only; omega)).trans hBn
 refine (zO7 F n h7 hro hn l Bs Os Bn On n₀ b off len cap c hc1 hcm hlc hreach hb hbn J Jx W hJ hY e1 e2 h0).mono ?_
 rintro e W' ⟨he, ⟨k, h1, h2, h3⟩ | ⟨pre, h1⟩⟩
 ·exact ⟨he, .inl ⟨_, ⟨k, h1, h2, rfl⟩, h3⟩⟩
 ·exact ⟨he, .inr ⟨pre, trivial, h1⟩⟩
set_option maxRecDepth 100000 in
theorem info100 : (Tryz.prog.info? 100).map (fun i => (i.zero, i.size, i.bytes)) = some (some (.slice none 0 0), 1, 24) := by kernel_rfl
set_option maxRecDepth 100000 in
set_option maxHeartbeats 4000000 in
theorem seq_in (F : Fence) (n : Nat) (h3 : F.fn 279) (h7 : F.fn 280) (hro : F.round = none) (hn : 3 <= n) (Bs Os Bn On b off len cap c : Nat) (hc1 : 1 <= c) (hcm : c <= 1000000) (hlc : len <= cap) (hreach : len <= 1000000000)
  (w : World) (hb : Bs < w.heap.size) (hbn : Bn < w.heap.size) (hBs : w.cell? ⟨Bs, Os, none⟩ = some (.slice (some ⟨b, off, none⟩) len cap)) (hBn : w.cell? ⟨Bn, On, none⟩ = some (.int .i64 c)) :
  CallsIn F n Tryz.prog 279 #[.slice none 0 0, .func (.func 280) #[] #[.pointer (some ⟨Bs, Os, none⟩), .pointer (some ⟨Bn, On, none⟩)]] w fun e W' =>
   ∃ v k, e = .returned v /\ len <= k * c /\ (k = 0 ∨ (k - 1) * c < len) /\ W'.ownsRow w.heap.size 100 1 v k ((upto (part len c) k).map (encP b off)) /\ Below w.heap.size w W' := by
 have h1 : 1 <= n := by omega
 obtain ⟨i0, hi, hz0, hz1, hz2⟩ := info_parts info100
 refine callsIn_of_wp_marks Tryz.func279 rfl h3 ?_ hro
 simp only [Tryz.ntmps279, List.size_toArray, List.length_cons, List.length_nil, Nat.reduceAdd, Nat.reduceSub, Array.replicate_succ, Array.replicate_zero, List.push_toArray, List.append_toArray, List.nil_append, List.cons_append]
 gi_wp2
 have bO := Boxed.new w 97 (.slice none 0 0)
 have hB0 : Below w.heap.size w (w.alloc (.cells #[.slice none 0 0] 97)) := (Below.refl _ w).alloc (Nat.le_refl _) _
 refine wpIn_rangeFunc_ownG hro h1 (gf := 280) (lb := #[.pointer (some ⟨Bs, Os, none⟩), .pointer (some ⟨Bn, On, none⟩)]) rfl h7 (enters_of Tryz.func280 (by kernel_rfl) rfl)
  (zJO F (n - 1) h7 hro (by omega) Bs Os Bn On w.heap.size b off len cap c hc1 hcm hlc hreach hb hbn _ (by simp) ((hB0.cell (p := ⟨Bs, Os, none⟩) hb).trans hBs) ((hB0.cell (p := ⟨Bn, On, none⟩) hbn).trans hBn)) belowK_t (belowK_b (by simp)) (Below.refl _ _) (fun _ => rfl)
  (fun (pre : List (Nat × Nat)) W => (∃ v, Boxed W w.heap.size 97 v /\ W.ownsRow w.heap.size 100 1 v pre.length (pre.map (encP b off)) /\ True) /\ Below w.heap.size w W)
  (fun _ _ _ => False)
  (OwnFrom.and (Own.from (holdsRow_own w.heap.size w.heap.size 97 100 1 (fun (pre : List (Nat × Nat)) => pre.length) (fun pre => pre.map (encP b off)) (fun pre v => True)) _) (ownFrom_below (Nat.le_refl _) (by simp)))
  (fun _ _ _ _ _ hs _ _ => hs)
  ⟨⟨_, bO, World.ownsRow_nil _ _ _ _, trivial⟩, hB0⟩
  (fun x => { tmps := #[.slice none 0 0, .func (.func 280) #[] #[.pointer (some ⟨Bs, Os, none⟩), .pointer (some ⟨Bn, On, none⟩)], .pointer (some ⟨w.heap.size, 0, none⟩), undef, .slice none 0 0, .slice (some ⟨b, off + x.1, none⟩) x.2 x.2, .func (.func 280) #[] #[.pointer (some ⟨Bs, Os, none⟩), .pointer (some ⟨Bn, On, none⟩)], .slice (some ⟨b, off + x.1, none⟩) x.2 x.2, undef, undef, undef, undef, undef], defers := [] }) ?assign ?body ?done ?stop
 case assign =>
  intro l x W K hK
  gi_wp2
  exact hK
 case body =>
  rintro l pre x W ⟨⟨v, hv, hrow, _⟩, hB⟩ hlt
  have hc := hv.cell
  have hmax : 1000000001 <= maxLen := by simp [maxLen]
  gi_wp2_with (gi_at_builtin; refine wpListIn_append_own _ rfl _ _ 97 rfl w.heap.size 100 i0 (.slice none 0 0) 1 24 Tryz.underlying97 hi hz0 hz1 hz2 rfl (by decide) _ _ _ rfl (hrow.alloc _) ⟨W.heap.size, 0, none⟩ 1 1 [.slice (some ⟨b, off + x.1, none⟩) x.2 x.2] rfl rfl (cell_one_new _ _ _) (by simp [Value.oneCell']) (by omega) (by omega) (by have := hB.size; simp; omega) ?_; intro v' w1 hown' hgrow _; obtain ⟨g', cap', rfl⟩ := ownsRow_succ hown'; obtain ⟨hv1, hv2, hr2, hk2, hb2⟩ := hv.appended (by decide) hrow hB.size (Nat.le_refl _) hown' hgrow; have hc1 := hv1.cell; have hf1 := hv1.frozen)
  exact ⟨hk2.from _, hb2, ⟨_, hv2, by simpa [encP] using hr2, trivial⟩, hB.trans hb2⟩
 case done =>
  rintro D ys W hD ⟨k, k1, k2, rfl⟩ ⟨⟨v, hv, hrow, _⟩, hB⟩ hK
  have hc := hv.cell
  gi_wp2
  refine ⟨by simp, .inl ⟨_, _, rfl, run_takeDeferred hK, ?_⟩⟩
  rw [zD8] at hrow
  exact ⟨_, results_tmp rfl _ _ _, v, k, rfl, k1, k2, ownsRow_putObj hrow _ hK rfl, hB.trans (belowK_b (w := w) (Nat.le_refl _) W D _ _ (by simp at hD; omega) hK rfl rfl)⟩
 case stop =>
  rintro D c pre W _ _ h _
  exact h.elim
end Chk
end
section
attribute [local go_sem] Oper.semAt_some
namespace Chk
set_option maxRecDepth 100000 in
set_option maxHeartbeats 1000000 in
theorem zL5 (F : Fence) (n : Nat) (h2 : F.fn 247) (h3 : F.fn 279) (h7 : F.fn 280) (hro : F.round = none) (hn : 4 <= n) (Bs Os Bn On b off len cap c : Nat) (hc1 : 1 <= c) (hcm : c <= 1000000) (hlc : len <= cap) (hreach : len <= 1000000000)
  (w : World) (hb : Bs < w.heap.size) (hbn : Bn < w.heap.size) (hBs : w.cell? ⟨Bs, Os, none⟩ = some (.slice (some ⟨b, off, none⟩) len cap)) (hBn : w.cell? ⟨Bn, On, none⟩ = some (.int .i64 c)) :
  CallsIn F n Tryz.prog 247 #[.func (.func 280) #[] #[.pointer (some ⟨Bs, Os, none⟩), .pointer (some ⟨Bn, On, none⟩)]] w fun e W' =>
   ∃ v k, e = .returned v /\ len <= k * c /\ (k = 0 ∨ (k - 1) * c < len) /\ W'.ownsRow w.heap.size 100 1 v k ((upto (part len c) k).map (encP b off)) /\ Below w.heap.size w W' := by
 have h1 : 1 <= n := by omega
 refine callsIn_of_wp Tryz.func247 rfl h2 ?_ hro
 simp only [Tryz.ntmps247, List.size_toArray, List.length_cons, List.length_nil, Nat.reduceAdd, Nat.reduceSub, Array.replicate_succ, Array.replicate_zero, List.push_toArray, List.append_toArray, List.nil_append, List.cons_append]
 gi_wp2_with (gi_at_call 279; refine (seq_in F (n - 1) h3 h7 hro (by omega) Bs Os Bn On b off len cap c hc1 hcm hlc hreach w hb hbn hBs hBn).mono ?_; rintro e w' ⟨v, k, rfl, k1, k2, k3, k4⟩)
 go_ret
 exact ⟨v, k, rfl, k1, k2, k3, k4⟩
end Chk
end
end Go.Proofs
