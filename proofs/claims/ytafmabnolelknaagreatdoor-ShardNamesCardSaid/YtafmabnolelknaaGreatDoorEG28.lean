import Derived.Test.YtafmabnolelknaaGreatDoorEG8
import Derived.Test.YtafmabnolelknaaGreatDoorEG10
import Derived.Test.YtafmabnolelknaaGreatDoorEG12
import Derived.Test.YtafmabnolelknaaGreatDoorEG13
import Derived.Test.YtafmabnolelknaaGreatDoorEG22
import Derived.Test.YtafmabnolelknaaGreatDoorProg
import Derived.KernelRfl
import Derived.ChangeSame
import Derived.ChangeVars
namespace Go.Proofs.YtafmabnolelknaaGreatDoor
open Go.Ab
open Go.ChangeShapes Go.WideShapes Go.ChangeAt Go.RowKit
set_option linter.unusedVariables false
set_option linter.unusedSimpArgs false
inductive NT where
  | mk (op : Int) (ins : List Int) (k a A : Int) (body : List NT)
instance : Inhabited NT := ⟨.mk 0 [] 0 0 0 []⟩
namespace NT
def op : NT → Int | .mk o _ _ _ _ _ => o
def ins : NT → List Int | .mk _ i _ _ _ _ => i
def k : NT → Int | .mk _ _ k _ _ _ => k
def a : NT → Int | .mk _ _ _ a _ _ => a
def A : NT → Int | .mk _ _ _ _ A _ => A
def body : NT → List NT | .mk _ _ _ _ _ b => b
end NT
structure NC where
  op : Int
  qi : Option SL
  k : Int
  a : Int
  A : Int
  qb : Option SL
instance : Inhabited NC := ⟨⟨0, none, 0, 0, 0, none⟩⟩
def NC.cs (c : NC) : List AV := [.int .i64 c.op, .sl c.qi, .int .i64 c.k, .int .i64 c.a, .int .i64 c.A, .sl c.qb]
def nodeE : Enc NC := ⟨6, NC.cs, fun _ => rfl, by omega, fun _ => rfl⟩
inductive NodeR (h : Heap) : NC → NT → Prop where
  | mk {op k a A : Int} {qi qb : Option SL} {ins : List Int} {body : List NT} {L : List NC} (hi : HasL intE h qi ins) (hb : HasL nodeE h qb L) (hl : L.length = body.length)
      (he : ∀ (i : Nat) (c : NC) (n : NT), L[i]? = some c → body[i]? = some n → NodeR h c n) : NodeR h ⟨op, qi, k, a, A, qb⟩ (.mk op ins k a A body)
def NodesR (h : Heap) (q : Option SL) (l : List NT) : Prop := ∃ L : List NC, HasL nodeE h q L ∧ L.length = l.length ∧ ∀ (i : Nat) (c : NC) (n : NT), L[i]? = some c → l[i]? = some n → NodeR h c n
theorem NodeR.mono {h h' : Heap} (x : Ext h h') {c : NC} {n : NT} (r : NodeR h c n) : NodeR h' c n := by
  induction r with
  | mk hi hb hl he ih => exact .mk (hi.mono x) (hb.mono x) hl ih
theorem NodesR.mono {h h' : Heap} {q : Option SL} {l : List NT} (x : Ext h h') (r : NodesR h q l) : NodesR h' q l := by
  obtain ⟨L, h1, h2, h3⟩ := r
  exact ⟨L, h1.mono x, h2, fun i c n hc hn => (h3 i c n hc hn).mono x⟩
theorem NodesR.len {h : Heap} {q : Option SL} {l : List NT} (r : NodesR h q l) : slLen q = l.length := by
  obtain ⟨L, h1, h2, _⟩ := r
  rw [h1.len, h2]
theorem NodeR.ins {h : Heap} {c : NC} {n : NT} (r : NodeR h c n) : HasL intE h c.qi n.ins := by
  cases r with | mk hi hb hl he => exact hi
theorem NodeR.body {h : Heap} {c : NC} {n : NT} (r : NodeR h c n) : NodesR h c.qb n.body := by
  cases r with | mk hi hb hl he => exact ⟨_, hb, hl, he⟩
theorem NodeR.same {h : Heap} {c : NC} {n : NT} (r : NodeR h c n) : c.op = n.op ∧ c.k = n.k ∧ c.a = n.a ∧ c.A = n.A := by
  cases r with | mk hi hb hl he => exact ⟨rfl, rfl, rfl, rfl⟩
theorem NodesR.idx {h : Heap} {q : Option SL} {l : List NT} (r : NodesR h q l) {i : Nat} (hi : i < l.length) {ix : Int} (hix : ix = i) {K : PA → Prop} (hK : ∀ p c n, l[i]? = some n → cellsAt h p 6 = some c.cs → NodeR h c n → K p) : vIdx q ix 6 K := by
  obtain ⟨L, h1, h2, h3⟩ := r
  refine h1.idx (E := nodeE) (by omega) (by omega) fun p c hc hcx => ?_
  have e : ix.toNat = i := by omega
  rw [e] at hc
  have hn : l[i]? = some l[i] := List.getElem?_eq_getElem hi
  exact hK p c _ hn hcx (h3 i c _ hc hn)
theorem NodesR.idx6 {h : Heap} {q : Option SL} {l : List NT} (r : NodesR h q l) {i : Nat} (hi : i < l.length) {ix : Int} (hix : ix = i) {K : PA → Int → Option SL → Int → Int → Int → Option SL → Prop}
    (hK : ∀ p c n, l[i]? = some n → NodeR h c n → K p c.op c.qi c.k c.a c.A c.qb) :
    vIdx q ix 6 fun p7 => ∃ n8 : Int, ∃ q9 : Option SL, ∃ n10 n11 n12 : Int, ∃ q13 : Option SL, cellsAt h p7 6 = some [.int .i64 n8, .sl q9, .int .i64 n10, .int .i64 n11, .int .i64 n12, .sl q13] ∧ K p7 n8 q9 n10 n11 n12 q13 :=
  r.idx hi hix fun p c n hn hc hr => ⟨_, _, _, _, _, _, hc, hK p c n hn hr⟩
section
variable {H : Type} {enc : TypeId × Value → H} {W : World}
theorem intn_in (n : Nat) (cs' : List Value) (y : DataW H × List MemPlace) (h : DataW.trod enc Tryz.prog W 0 (fun _ => true) true n 3 cs' = some y) (hl : cs'.length = intE.sz) : ∃ a, ∀ μ, relL μ (intE.f a) cs' := by
  match cs', hl with
  | [c0], _ =>
    obtain ⟨a, e0, _, _⟩ := DataW.trod_int Tryz.underlying3 h
    simp at e0
    subst e0
    exact ⟨a, fun μ => ⟨_, _, rfl, rfl, rfl⟩⟩
set_option maxRecDepth 100000 in
theorem node_tree : ∀ (m : Nat) (n : Nat) (cs' : List Value) (y : DataW H × List MemPlace), SizeOf.sizeOf y.1 ≤ m → DataW.trod enc Tryz.prog W 0 (fun _ => true) true n 187 cs' = some y → cs'.length = 6 → ∀ (μ : Ren) (hp : Heap), HRel μ hp W → ReadOnly hp → ∀ (b0 : Nat) (c0 : List AV) (rw0 : Bool), hp[b0]? = some (.cells c0 rw0) →
      ∃ (l1 : Ren) (bs : Heap) (c : NC) (t : NT), HRel (μ ++ l1) (hp ++ bs) W ∧ ReadOnly (hp ++ bs) ∧ relL (μ ++ l1) (nodeE.f c) cs' ∧ NodeR (hp ++ bs) c t := by
  intro m
  induction m with
  | zero =>
    intro n cs' y hy
    exfalso
    cases hd : y.1 <;> rw [hd] at hy <;> simp at hy
  | succ m ih =>
    intro n cs' y hy h hl μ hp HH ro b0 c0 rw0 hb0
    obtain ⟨xs, n', _, rfl, _, hlen, hf⟩ := DataW.trod_struct Tryz.underlying187 h
    match cs', hl with
    | [v0, v1, v2, v3, v4, v5], _ =>
    match xs, hlen with
    | [y0, y1, y2, y3, y4], _ =>
      have h0 : DataW.trod enc Tryz.prog W 0 (fun _ => true) true n' 3 [v0] = some y0 := hf 0 _ rfl
      have h1 : DataW.trod enc Tryz.prog W 0 (fun _ => true) true n' 34 [v1] = some y1 := hf 1 _ rfl
      have h2 : DataW.trod enc Tryz.prog W 0 (fun _ => true) true n' 185 [v2, v3] = some y2 := hf 2 _ rfl
      have h3 : DataW.trod enc Tryz.prog W 0 (fun _ => true) true n' 3 [v4] = some y3 := hf 3 _ rfl
      have h4 : DataW.trod enc Tryz.prog W 0 (fun _ => true) true n' 77 [v5] = some y4 := hf 4 _ rfl
      obtain ⟨op, e0, _, _⟩ := DataW.trod_int Tryz.underlying3 h0
      obtain ⟨A, e3, _, _⟩ := DataW.trod_int Tryz.underlying3 h3
      obtain ⟨z0, z1, n2, _, _, g0, g1⟩ := trod_struct2 Tryz.underlying185 h2
      have g0 : DataW.trod enc Tryz.prog W 0 (fun _ => true) true n2 3 [v2] = some z0 := g0
      have g1 : DataW.trod enc Tryz.prog W 0 (fun _ => true) true n2 3 [v3] = some z1 := g1
      obtain ⟨k, e1, _, _⟩ := DataW.trod_int Tryz.underlying3 g0
      obtain ⟨a, e2, _, _⟩ := DataW.trod_int Tryz.underlying3 g1
      simp at e0 e1 e2 e3
      subst e0 e1 e2 e3
      obtain ⟨l1, bs1, qi, ins, i1, i2, i3, i4⟩ := slice_in0 intE Tryz.underlying34 (by kernel_rfl) intn_in h1 HH ro hb0
      have hb1 : (hp ++ bs1)[b0]? = some (.cells c0 rw0) := by rw [List.getElem?_append_left (lt_of_get hb0)]; exact hb0
      have hs4 : SizeOf.sizeOf y4.1 < SizeOf.sizeOf (DataW.agg [y0.1, y1.1, y2.1, y3.1, y4.1]) := sizeOf_agg (by simp)
      have hy : SizeOf.sizeOf (DataW.agg [y0.1, y1.1, y2.1, y3.1, y4.1]) ≤ m + 1 := hy
      obtain ⟨l2, bs2, qb, L, l, j1, j2, j3, j4, j5, j6⟩ := nested_in0 nodeE NodeR (fun x r => r.mono x) Tryz.underlying77 (by kernel_rfl)
        (fun n cs' y hs => ih n cs' y (by omega)) h4 i1 i2 hb1
      have e1 : μ ++ l1 ++ l2 = μ ++ (l1 ++ l2) := List.append_assoc _ _ _
      have e2 : hp ++ bs1 ++ bs2 = hp ++ (bs1 ++ bs2) := List.append_assoc _ _ _
      refine ⟨l1 ++ l2, bs1 ++ bs2, ⟨op, qi, k, a, A, qb⟩, .mk op ins k a A l, by rw [← e1, ← e2]; exact j1, by rw [← e2]; exact j2, ?_, ?_⟩
      · rw [← e1]
        exact ⟨_, _, rfl, rfl, _, _, rfl, AV.rel.mono (Ren.le_append _ _) _ _ i3, _, _, rfl, rfl, _, _, rfl, rfl, _, _, rfl, rfl, _, _, rfl, j3, rfl⟩
      · rw [← e2]
        exact .mk (i4.mono (Ext.app _ _)) j4 j5 j6
set_option maxRecDepth 100000 in
theorem graph_in {v : Value} {r : Reach} {base : Nat} {d : DataW H} {p : List MemPlace} (hv : Value.okWide Tryz.prog W r base 79 v) (h : DataW.Trod enc Tryz.prog W 0 (fun _ => true) true 79 v d p) {μ : Ren} {hp : Heap} (HH : HRel μ hp W) (ro : ReadOnly hp) :
    ∃ (l1 : Ren) (bs : Heap) (q : Option SL) (out : Int) (l : List NT), HRel (μ ++ l1) (hp ++ bs) W ∧ ReadOnly (hp ++ bs) ∧ AV.rel (μ ++ l1) (.agg [.sl q, .int .i64 out]) v ∧ NodesR (hp ++ bs) q l := by
  obtain ⟨cs, rfl, hl, hc⟩ := row_cells (ts := [77, 3]) Tryz.underlying79 (.inl ⟨_, rfl⟩) hv (by kernel_rfl) (by kernel_rfl)
  obtain ⟨fuel, hf⟩ := h
  match cs, hl with
  | [v0, v1], _ =>
    obtain ⟨x0, gx, hv0⟩ := hc 0 77 rfl
    simp at gx
    subst gx
    obtain ⟨y0, y1, n', _, _, h0, h1⟩ := trod_struct2 Tryz.underlying79 hf
    have h0 : DataW.trod enc Tryz.prog W 0 (fun _ => true) true n' 77 [v0] = some y0 := h0
    have h1 : DataW.trod enc Tryz.prog W 0 (fun _ => true) true n' 3 [v1] = some y1 := h1
    obtain ⟨out, e1, _, _⟩ := DataW.trod_int Tryz.underlying3 h1
    simp at e1
    subst e1
    rcases cell_slice Tryz.underlying77 hv0 with rfl | ⟨b, o, len, cap, rfl, hlc, hbl⟩
    · exact ⟨[], [], none, out, [], by simpa using HH, by simpa using ro, ⟨_, rfl, _, _, rfl, rfl, _, _, rfl, rfl, rfl⟩, [], rfl, rfl, by simp⟩
    · obtain ⟨hmax, C, tt, fz, hb⟩ := cell_slice_max Tryz.underlying77 hv0
      simp only at hb
      have H0 := HH.addRO ro (e := ⟨b, 0, C.size⟩) (B := .cells [] false) rfl hbl ⟨C, tt, fz, hb, by simp, by simp, rfl, by simp, by simp⟩
      obtain ⟨l2, bs2, qb, L, l, j1, j2, j3, j4, j5, j6⟩ := nested_in0 nodeE NodeR (fun x r => r.mono x) Tryz.underlying77 (by kernel_rfl)
        (fun n cs' y hs => node_tree _ n cs' y (Nat.le_refl _)) h0 H0 (ro.add (B := .cells [] false) rfl) (b0 := hp.length) (c0 := []) (rw0 := false) (by simp)
      have e1 : μ ++ [(⟨b, 0, C.size⟩ : ME)] ++ l2 = μ ++ ([⟨b, 0, C.size⟩] ++ l2) := List.append_assoc _ _ _
      have e2 : hp ++ [Blk.cells [] false] ++ bs2 = hp ++ ([.cells [] false] ++ bs2) := List.append_assoc _ _ _
      refine ⟨[⟨b, 0, C.size⟩] ++ l2, [.cells [] false] ++ bs2, qb, out, l, by rw [← e1, ← e2]; exact j1, by rw [← e2]; exact j2, ?_, by rw [← e2]; exact ⟨L, j4, j5, j6⟩⟩
      rw [← e1]
      exact ⟨_, rfl, _, _, rfl, j3, _, _, rfl, rfl, rfl⟩
end
end Go.Proofs.YtafmabnolelknaaGreatDoor
namespace Go.Proofs.YtafmabnolelknaaGreatDoor
open Go.Ab
set_option linter.unusedVariables false
set_option linter.unusedSimpArgs false
def left (n : Nat) : List AV → Heap → Nat := fun xs _ => match xs with | [.int _ i] => (n - i).toNat | _ => 0
theorem pnew_mk {c : List AV} {rw' : Bool} {h : Heap} {K : Nat → Heap → Prop} (hk : K h.length (h ++ [.cells c rw'])) : PNew c rw' h K := hk
def arityV (op : Int) : Nat := if op = 6 ∨ op = 8 then 2 else if op = 2 ∨ op = 3 ∨ op = 4 ∨ op = 5 ∨ op = 7 ∨ op = 9 then 1 else 0
def kindF (k : Int) : Int := if k < 1 then 0 else if k ≤ 8 then 1 else if k ≤ 12 then 2 else if k ≤ 15 then 3 else if k ≤ 19 then 4 else if k ≤ 23 then 5 else 0
def bndF (k : Int) : Int × Int := if k = 4 ∨ k = 5 ∨ k = 6 then (1, 1048575) else if k = 1 ∨ k = 2 ∨ k = 7 ∨ k = 8 ∨ k = 9 ∨ k = 10 ∨ k = 11 then (0, 1048575) else if k = 13 ∨ k = 14 then (0, 8) else (0, 0)
def fam (k a : Int) : Int := if kindF k = 0 ∨ a < (bndF k).1 ∨ a > (bndF k).2 then 0 else kindF k
theorem fam_pos {k a : Int} (h : fam k a ≠ 0) : 1 ≤ k ∧ k ≤ 23 ∧ 0 ≤ a ∧ a ≤ 1048575 := by
 unfold fam at h
 split at h
 ·exact absurd rfl h
 ·rename_i g
  have hk : kindF k ≠ 0 := fun hc => g (.inl hc)
  have h1 : ¬ a < (bndF k).1 := fun hc => g (.inr (.inl hc))
  have h2 : ¬ a > (bndF k).2 := fun hc => g (.inr (.inr hc))
  have hkk : 1 ≤ k ∧ k ≤ 23 := by
   unfold kindF at hk
   repeat' split at hk
   all_goals omega
  unfold bndF at h1 h2
  repeat' split at h1
  all_goals (simp only at h1)
  all_goals (repeat' split at h2)
  all_goals (simp only at h2)
  all_goals omega
def famV (op : Int) : Int := if 2 ≤ op ∧ op ≤ 6 then op - 1 else 0
structure NBase (n : NT) (i : Nat) : Prop where
 op : 1 ≤ n.op ∧ n.op ≤ 11
 len : n.ins.length = arityV n.op
 ins : ∀ x ∈ n.ins, 0 ≤ x ∧ x < i
 fn : if famV n.op = 0 then n.k = 0 ∧ n.a = 0 else fam n.k n.a = famV n.op
def NumOk (op A loop : Int) : Prop :=
 if op = 1 then loop = -1 ∧ 0 ≤ A ∧ A < 4 else if op = 9 then loop = -1 ∧ 1 ≤ A ∧ A ≤ 64 else if op = 10 then loop ≠ -1 ∧ A = 0 else if op = 11 then loop ≠ -1 ∧ 0 ≤ A ∧ A < loop else A = 0
def OkI (loop : Nat) (n : NT) (i : Nat) : Prop := NBase n i ∧ NumOk n.op n.A loop ∧ n.body = []
def OkB (l : List NT) (loop : Nat) : Prop := 1 ≤ l.length ∧ l.length ≤ 32 ∧ ∀ i n, l[i]? = some n → OkI loop n i
def OkN (loop : Int) (n : NT) (i : Nat) : Prop := NBase n i ∧ NumOk n.op n.A loop ∧ if n.op = 9 then OkB n.body i else n.body = []
def loopsV (l : List NT) : Nat := l.countP fun n => n.op == 9
structure OkG (l : List NT) (out : Int) : Prop where
 len : 1 ≤ l.length ∧ l.length ≤ 32
 out : 0 ≤ out ∧ out < l.length
 node : ∀ i n, l[i]? = some n → OkN (-1) n i
 one : loopsV l ≤ 1
theorem okI_iff {loop : Nat} {n : NT} {i : Nat} : OkN loop n i ↔ OkI loop n i := by
 unfold OkN OkI
 constructor
 ·rintro ⟨a, b, c⟩
  refine ⟨a, b, ?_⟩
  by_cases h : n.op = 9
  ·unfold NumOk at b
   rw [if_neg (by omega), if_pos h] at b
   omega
  ·rwa [if_neg h] at c
 ·rintro ⟨a, b, c⟩
  refine ⟨a, b, ?_⟩
  have h : n.op ≠ 9 := by
   intro h
   unfold NumOk at b
   rw [if_neg (by omega), if_pos h] at b
   omega
  rwa [if_neg h]
section
variable {h : Heap} {Q : AV → Heap → Prop} {q qi qb : Option SL} {op k a A : Int} {n : NT} {c : NC} {i : Nat} {l : List NT}
theorem y254 (hQ : ∀ f b, (b = true ↔ 1 ≤ op ∧ op ≤ 11) → f = famV op → Q (.tup [.agg [.int .i64 (arityV op : Nat), .int .i64 f], .bool b]) h) : AC Tryz.prog 254 [.int .i64 op] h Q := ac254 (by
 unfold vc254
 have hq : ∀ (m f : Int) (b : Bool), m = (arityV op : Nat) → (b = true ↔ 1 ≤ op ∧ op ≤ 11) → f = famV op → Q (.tup [.agg [.int .i64 m, .int .i64 f], .bool b]) h := by
  rintro m f b rfl h1 h2; exact hQ f b h1 h2
 unfold arityV famV at hq
 repeat' (first | refine vif_mk (fun g => ?_) (fun g => ?_))
 all_goals (simp only [beq_iff_eq, beq_eq_false_iff_ne] at *)
 all_goals (try subst op)
 all_goals (refine hq _ _ _ ?_ ?_ ?_)
 all_goals (try decide)
 ·rw [if_neg (by omega), if_neg (by omega)]; rfl
 ·simp; omega
 ·rw [if_neg (by omega)])
theorem y402 {p : PA} {m x : Int} (hc : cellsAt h p 1 = some [.int .i64 m]) (hQ : Q (.bool (decide (0 ≤ x ∧ x < m))) h) : AC Tryz.prog 402 [.int .i64 x, .ptr (some p)] h Q := ac402 (by
 unfold vc402
 refine vif_mk (fun g => ⟨m, hc, ?_⟩) (fun g => ?_)
 ·have g := of_decide_eq_true g
  have e : decide (0 ≤ x ∧ x < m) = decide (x < m) := by rw [Bool.eq_iff_iff]; simp; omega
  rw [← e]; exact hQ
 ·have g := of_decide_eq_false g
  have e : decide (0 ≤ x ∧ x < m) = false := decide_eq_false (by omega)
  rw [← e]; exact hQ)
theorem y404 {p p9 : PA} {m x : Int} (hv : cellsAt h p 1 = some [.func (.func 402) [] [.ptr (some p9)]]) (hc : cellsAt h p9 1 = some [.int .i64 m]) (hQ : Q (.bool (!decide (0 ≤ x ∧ x < m))) h) : AC Tryz.prog 404 [.int .i64 x, .ptr (some p)] h Q := ac404 (by
 unfold vc404
 exact ⟨.func (.func 402) [] [.ptr (some p9)], rfl, hv, y402 hc ⟨_, rfl, hQ⟩⟩)
theorem y403 {p p9 : PA} {m : Int} {ins : List Int} (hv : cellsAt h p 1 = some [.func (.func 402) [] [.ptr (some p9)]]) (hc : cellsAt h p9 1 = some [.int .i64 m]) (H : HasL intE h q ins) (hl : ins.length ≤ 1000000)
  (hQ : ∀ b, (b = true ↔ ∃ x ∈ ins, ¬ (0 ≤ x ∧ x < m)) → Q (.bool b) h) : AC Tryz.prog 403 [.sl q, .func (.func 404) [] [.ptr (some p)]] h Q := ac403 (by
 unfold vc403
 refine ac418 ?_
 unfold vc418
 refine ⟨fun xs h6 => h6 = h ∧ ∃ i : Nat, xs = [.int .i64 i] ∧ i ≤ ins.length ∧ ∀ x ∈ ins.take i, 0 ≤ x ∧ x < m, left ins.length, ⟨rfl, 0, rfl, by omega, by simp⟩, ?_⟩
 rintro n3 h6 ⟨rfl, i, hx, hi, ha⟩
 simp only [List.cons.injEq, AV.int.injEq, true_and, and_true] at hx
 subst hx
 rw [H.len]
 refine vif_mk (fun g => ?_) (fun g => ?_)
 ·replace g := of_decide_eq_true g
  refine H.idx (E := intE) (by omega) (by omega) fun p x hx hcx => ⟨x, hcx, y404 hv hc ⟨_, rfl, vif_mk (fun g1 => ?_) (fun g1 => ?_)⟩⟩
  ·refine ⟨_, rfl, hQ _ ?_⟩
   simp only [decide_eq_true_eq]
   exact ⟨fun _ => ⟨x, List.mem_of_getElem? hx, by simp only [Bool.not_eq_true', decide_eq_false_iff_not] at g1; exact g1⟩, fun _ => by omega⟩
  ·simp only [Int.toNat_natCast] at hx
   rw [wrapK_i64 ⟨by omega, by omega⟩]
   refine ⟨trivial, ⟨rfl, i + 1, by simp, by omega, fun y hy => ?_⟩, by simp only [left]; omega⟩
   rw [List.take_add_one, hx] at hy
   rcases List.mem_append.1 hy with hy | hy
   ·exact ha y hy
   ·simp only [Option.toList_some, List.mem_singleton] at hy
    subst hy; simpa using g1
 ·replace g := of_decide_eq_false g
  have e : ins.take i = ins := List.take_of_length_le (by omega)
  rw [e] at ha
  refine ⟨_, rfl, hQ _ ?_⟩
  simp only [decide_eq_true_eq]
  exact ⟨fun g => by omega, fun ⟨x, hx, hn⟩ => absurd (ha x hx) hn⟩)
theorem y427 (hQ : Q (.tup [.int .i64 (bndF k).1, .int .i64 (bndF k).2]) h) : AC Tryz.prog 427 [.int .i64 k] h Q := ac427 (by
 unfold vc427
 have hq : ∀ a b : Int, bndF k = (a, b) → Q (.tup [.int .i64 a, .int .i64 b]) h := fun a b hb => by rw [hb] at hQ; exact hQ
 repeat' (first | refine vif_mk (fun g => ?_) (fun g => ?_))
 all_goals (simp only [beq_iff_eq, beq_eq_false_iff_ne] at *)
 all_goals (try subst k)
 all_goals (refine hq _ _ ?_)
 all_goals (try decide)
 unfold bndF
 rw [if_neg (by omega), if_neg (by omega), if_neg (by omega)])
theorem y426 (hQ : Q (.int .i64 (kindF k)) h) : AC Tryz.prog 426 [.int .i64 k] h Q := ac426 (by
 unfold vc426
 have hq : ∀ a : Int, kindF k = a → Q (.int .i64 a) h := fun a ha => by rw [ha] at hQ; exact hQ
 repeat' (first | refine vif_mk (fun g => ?_) (fun g => ?_))
 all_goals (simp only [decide_eq_true_eq, decide_eq_false_iff_not] at *)
 all_goals (refine hq _ ?_)
 all_goals (unfold kindF)
 all_goals (repeat' split)
 all_goals omega)
theorem y419 (hQ : Q (.int .i64 (fam k a)) h) : AC Tryz.prog 419 [.agg [.int .i64 k, .int .i64 a]] h Q := ac419 (by
 have hq : ∀ c : Int, fam k a = c → Q (.int .i64 c) h := by rintro c rfl; exact hQ
 unfold vc419
 have no : (kindF k = 0 ∨ a < (bndF k).1 ∨ a > (bndF k).2) → Q (.int .i64 0) h := fun hc => hq 0 (by unfold fam; rw [if_pos hc])
 refine ac425 ?_
 unfold vc425
 refine y427 ⟨_, _, rfl, y426 ⟨_, rfl, ?_⟩⟩
 refine vif_mk (fun g => ?_) (fun g => vif_mk (fun g2 => ?_) (fun g2 => vif_mk (fun g3 => ?_) (fun g3 => ?_)))
 ·exact ⟨_, rfl, vif_mk (fun _ => no (.inl (by simpa using g))) (fun g => by simp at g)⟩
 ·exact ⟨_, rfl, vif_mk (fun _ => no (.inr (.inl (of_decide_eq_true g2)))) (fun g => by simp at g)⟩
 ·exact ⟨_, rfl, vif_mk (fun _ => no (.inr (.inr (of_decide_eq_true g3)))) (fun g => by simp at g)⟩
 ·refine ⟨_, rfl, vif_mk (fun g => by simp at g) (fun _ => y426 ⟨_, rfl, hq _ ?_⟩)⟩
  have g : kindF k ≠ 0 := by simpa using g
  unfold fam
  rw [if_neg]
  rintro (h1 | h1 | h1)
  ·exact g h1
  ·exact of_decide_eq_false g2 h1
  ·exact of_decide_eq_false g3 h1)
theorem y405 {f : Int} (hQ : ∀ b, (b = true ↔ if f = 0 then k = 0 ∧ a = 0 else fam k a = f) → Q (.bool b) h) : AC Tryz.prog 405 [.agg [.int .i64 op, .sl qi, .int .i64 k, .int .i64 a, .int .i64 A, .sl qb], .int .i64 f] h Q := ac405 (by
 unfold vc405
 refine vif_mk (fun g => ?_) (fun g => ?_)
 ·have g : f = 0 := by simpa using g
  exact hQ _ (by rw [if_pos g]; simp)
 ·have g : f ≠ 0 := by simpa using g
  exact y419 ⟨_, rfl, hQ _ (by rw [if_neg g]; simp)⟩)
theorem y406 {loop : Int} (hQ : ∀ b, (b = true ↔ NumOk op A loop) → Q (.bool b) h) : AC Tryz.prog 406 [.agg [.int .i64 op, .sl qi, .int .i64 k, .int .i64 a, .int .i64 A, .sl qb], .int .i64 loop] h Q := ac406 (by
 unfold vc406
 unfold NumOk at hQ
 repeat' (first | refine vif_mk (fun g => ?_) (fun g => ?_))
 all_goals (simp only [beq_iff_eq, beq_eq_false_iff_ne, bne_iff_ne, Bool.not_eq_true', Bool.not_eq_false', decide_eq_true_eq, decide_eq_false_iff_not, Classical.not_not, ne_eq, bne_eq_false_iff_eq] at *)
 all_goals (refine hQ _ ?_)
 all_goals (simp [*])
 all_goals (try omega))
theorem body_nil {l : List NT} : l = [] ↔ l.length = 0 := List.length_eq_zero_iff.symm
set_option maxRecDepth 20000 in
theorem y365 {loop : Int} (R : NodeR h c n) (hn : n.ins.length ≤ 1000000)
  (hlist : n.op = 9 → NumOk n.op n.A loop → ∀ {h' : Heap} {Q' : AV → Heap → Prop}, Ext h h' → (∀ b h'', Ext h' h'' → (b = true ↔ OkB n.body i) → Q' (.bool b) h'') → AC Tryz.prog 312 [.sl c.qb, .int .i64 i] h' Q')
  (hQ : ∀ b h', Ext h h' → (b = true ↔ OkN loop n i) → Q (.bool b) h') : AC Tryz.prog 365 [.agg c.cs, .int .i64 i, .int .i64 loop] h Q := ac365 (by
 unfold vc365
 obtain ⟨e1, e2, e3, e4⟩ := R.same
 have no : ∀ {h'}, Ext h h' → ¬ OkN loop n i → Q (.bool false) h' := fun x hn => hQ _ _ x (by simp [hn])
 refine pnew_mk ?_
 have x10 := Ext.app h [Blk.cells [.int .i64 (i : Int)] true]
 have c10 : cellsAt (h ++ [Blk.cells [AV.int .i64 (i : Int)] true]) ⟨h.length, 0⟩ 1 = some [.int .i64 i] := by unfold cellsAt; simp
 have l10 : (h ++ [Blk.cells [AV.int .i64 (i : Int)] true]).length = h.length + 1 := by simp
 generalize h ++ [Blk.cells [.int .i64 (i : Int)] true] = h10 at *
 refine y254 fun f b hb hf => ⟨_, f, b, rfl, pnew_mk ?_⟩
 have x17 := Ext.app h10 [Blk.cells [.nilfunc] true]
 have b17 : (h10 ++ [Blk.cells [AV.nilfunc] true])[h10.length]? = some (.cells [.nilfunc] true) := by simp
 have l17 : (h10 ++ [Blk.cells [AV.nilfunc] true]).length = h10.length + 1 := by simp
 generalize h10 ++ [Blk.cells [.nilfunc] true] = h17 at *
 refine store6 (o := 0) (xs := [.func (.func 402) [] [.ptr (some ⟨h.length, 0⟩)]]) b17 (by simp) ?_
 have x18 : Ext h10 (h17.set h10.length (.cells (splice [.nilfunc] 0 [.func (.func 402) [] [.ptr (some ⟨h.length, 0⟩)]]) true)) := x17.set (Nat.le_refl _)
 have c18 : cellsAt (h17.set h10.length (.cells (splice [.nilfunc] 0 [.func (.func 402) [] [.ptr (some ⟨h.length, 0⟩)]]) true)) ⟨h10.length, 0⟩ 1 = some [.func (.func 402) [] [.ptr (some ⟨h.length, 0⟩)]] := by
  unfold cellsAt
  have := lt_of_get b17
  simp [splice, this]
 generalize h17.set h10.length _ = h18 at *
 have x := x10.trans x18
 have R18 := R.mono x
 rw [e1] at hb hf
 rw [e1, e2, e3, e4]
 refine vif_mk (fun g => no x fun ok => ?_) (fun g => ?_)
 ·have := hb.2 ok.1.op
  rw [this] at g; simp at g
 rw [R18.ins.len]
 refine vif_mk (fun g1 => no x fun ok => ?_) (fun g1 => ?_)
 ·rw [ok.1.len] at g1; simp at g1
 have g : b = true := by simpa using g
 have hop := hb.1 g
 have g1 : n.ins.length = arityV n.op := by
  have : ((n.ins.length : Nat) : Int) = (arityV n.op : Nat) := by simpa using g1
  omega
 refine y403 c18 (x18.cells c10) R18.ins hn fun b21 hb21 => ⟨b21, rfl, vif_mk (fun g2 => no x fun ok => ?_) (fun g2 => ?_)⟩
 ·obtain ⟨y, hy, hny⟩ := hb21.1 g2
  exact hny (ok.1.ins y hy)
 have hins : ∀ y ∈ n.ins, 0 ≤ y ∧ y < i := by
  intro y hy
  apply Classical.byContradiction
  intro hc
  rw [hb21.2 ⟨y, hy, hc⟩] at g2; simp at g2
 refine y405 fun b24 hb24 => ⟨b24, rfl, vif_mk (fun g3 => no x fun ok => ?_) (fun g3 => ?_)⟩
 ·have : b24 = true := hb24.2 (by rw [hf]; exact ok.1.fn)
  rw [this] at g3; simp at g3
 have hfn := hb24.1 (by simpa using g3)
 rw [hf] at hfn
 have base : NBase n i := ⟨hop, g1, hins, hfn⟩
 refine y406 fun b27 hb27 => ⟨b27, rfl, vif_mk (fun g4 => no x fun ok => ?_) (fun g4 => ?_)⟩
 ·have : b27 = true := hb27.2 ok.2.1
  rw [this] at g4; simp at g4
 have hnum := hb27.1 (by simpa using g4)
 refine vif_mk (fun g5 => ?_) (fun g5 => ?_)
 ·have g5 : n.op ≠ 9 := by simpa using g5
  refine hQ _ _ x ?_
  unfold OkN
  rw [if_neg g5, R18.body.len, body_nil]
  simp only [base, hnum, true_and, beq_iff_eq]
  omega
 ·have g5 : n.op = 9 := by simpa using g5
  refine ⟨(i : Int), x18.cells c10, hlist g5 hnum x fun b31 h30 x30 hb31 => ⟨b31, rfl, hQ _ _ (x.trans x30) ?_⟩⟩
  unfold OkN
  rw [if_pos g5]
  simp only [base, hnum, true_and]
  exact hb31)
theorem y312g {loop : Int} {P : NT → Nat → Prop} (R : NodesR h q l)
  (hnode : l.length ≤ 32 → ∀ {i : Nat} {c : NC} {n : NT} {h' : Heap} {Q' : AV → Heap → Prop}, l[i]? = some n → Ext h h' → NodeR h' c n → (∀ b h'', Ext h' h'' → (b = true ↔ P n i) → Q' (.bool b) h'') → AC Tryz.prog 365 [.agg c.cs, .int .i64 i, .int .i64 loop] h' Q')
  (hQ : ∀ b h', Ext h h' → (b = true ↔ 1 ≤ l.length ∧ l.length ≤ 32 ∧ ∀ i n, l[i]? = some n → P n i) → Q (.bool b) h') : AC Tryz.prog 312 [.sl q, .int .i64 loop] h Q := ac312 (by
 unfold vc312
 rw [R.len]
 refine vif_mk (fun g => hQ _ _ (.refl _) ?_) (fun g => vif_mk (fun g1 => hQ _ _ (.refl _) ?_) (fun g1 => ?_))
 ·have g := of_decide_eq_true g
  simp; omega
 ·have g1 := of_decide_eq_true g1
  simp; omega
 have g := of_decide_eq_false g
 have g1 := of_decide_eq_false g1
 refine ⟨fun xs h6 => Ext h h6 ∧ ∃ i : Nat, xs = [.int .i64 i] ∧ i ≤ l.length ∧ ∀ j n, j < i → l[j]? = some n → P n j, left l.length, ⟨.refl _, 0, rfl, by omega, by omega⟩, ?_⟩
 rintro n3 h6 ⟨x6, i, hx, hi, ha⟩
 simp only [List.cons.injEq, AV.int.injEq, true_and, and_true] at hx
 subst hx
 refine vif_mk (fun g2 => ?_) (fun g2 => ?_)
 ·replace g2 := of_decide_eq_true g2
  refine (R.mono x6).idx6 (i := i) (by omega) rfl (K := fun p n8 q9 n10 n11 n12 q13 => AC Tryz.prog 365 [.agg [.int .i64 n8, .sl q9, .int .i64 n10, .int .i64 n11, .int .i64 n12, .sl q13], .int .i64 (i : Int), .int .i64 loop] h6 _) fun p c n hn Rn => ?_
  refine hnode (by omega) hn x6 Rn fun b h15 x15 hb => ⟨b, rfl, vif_mk (fun g3 => hQ _ _ (x6.trans x15) ?_) (fun g3 => ?_)⟩
  ·have g3 : b = false := by simpa using g3
   simp only [Bool.false_eq_true, false_iff]
   intro ok
   rw [hb.2 (ok.2.2 i n hn)] at g3; simp at g3
  ·have g3 : b = true := by simpa using g3
   rw [wrapK_i64 ⟨by omega, by omega⟩]
   refine ⟨trivial, ⟨x6.trans x15, i + 1, by simp, by omega, fun j m hj hm => ?_⟩, by simp only [left]; omega⟩
   by_cases e : j = i
   ·subst e; rw [hn] at hm; cases hm; exact hb.1 g3
   ·exact ha j m (by omega) hm
 ·replace g2 := of_decide_eq_false g2
  refine hQ _ _ x6 ?_
  simp only [true_iff]
  exact ⟨by omega, by omega, fun j m hm => ha j m (by have := lt_of_get hm; omega) hm⟩)
theorem y312b {loop : Nat} (R : NodesR h q l) (hn : ∀ n ∈ l, n.ins.length ≤ 1000000) (hQ : ∀ b h', Ext h h' → (b = true ↔ OkB l loop) → Q (.bool b) h') : AC Tryz.prog 312 [.sl q, .int .i64 loop] h Q :=
 y312g (P := fun n i => OkI loop n i) R (fun _ {i c n h' Q'} hln x Rn hK => y365 (loop := (loop : Int)) Rn (hn n (List.mem_of_getElem? hln)) (fun h9 hnum => by
  exfalso
  unfold NumOk at hnum
  rw [if_neg (by omega), if_pos h9] at hnum
  omega) fun b h'' x' hb => hK b h'' x' (hb.trans okI_iff)) hQ
theorem y313 {out : Int} (R : NodesR h q l) (hl : l.length ≤ 1000000) (hQ : Q (.int .i64 (loopsV l : Nat)) h) : AC Tryz.prog 313 [.agg [.sl q, .int .i64 out]] h Q := ac313 (by
 unfold vc313
 rw [R.len]
 refine ⟨fun xs h6 => h6 = h ∧ ∃ i : Nat, xs = [.int .i64 (loopsV (l.take i) : Nat), .int .i64 i] ∧ i ≤ l.length, fun xs _ => match xs with | [_, .int _ i] => (l.length - i).toNat | _ => 0, ⟨rfl, 0, rfl, by omega⟩, ?_⟩
 rintro n3 n4 h6 ⟨rfl, i, hx, hi⟩
 simp only [List.cons.injEq, AV.int.injEq, true_and, and_true] at hx
 obtain ⟨rfl, rfl⟩ := hx
 have hle : loopsV (l.take i) ≤ l.length := Nat.le_trans List.countP_le_length (by rw [List.length_take]; omega)
 refine vif_mk (fun g2 => ?_) (fun g2 => ?_)
 ·replace g2 := of_decide_eq_true g2
  rw [wrapK_i64 (n := (i : Int) + 1) ⟨by omega, by omega⟩, wrapK_i64 (n := ((loopsV (l.take i) : Nat) : Int) + 1) ⟨by omega, by omega⟩]
  refine R.idx (i := i) (by omega) rfl fun p c n hn hc Rn => ⟨_, _, _, _, _, _, hc, ?_⟩
  have e := Rn.same.1
  have ls : loopsV (l.take (i + 1)) = loopsV (l.take i) + if n.op == 9 then 1 else 0 := by
   unfold loopsV
   rw [List.take_add_one, hn, List.countP_append]
   simp [List.countP_cons]
  rw [e]
  refine vif_mk (fun g3 => ?_) (fun g3 => ?_)
  ·rw [if_pos g3] at ls
   exact ⟨⟨rfl, trivial⟩, ⟨rfl, i + 1, by rw [ls]; simp, by omega⟩, by simp only; omega⟩
  ·rw [if_neg (by rw [g3]; simp)] at ls
   exact ⟨⟨rfl, trivial⟩, ⟨rfl, i + 1, by rw [ls]; simp, by omega⟩, by simp only; omega⟩
 ·replace g2 := of_decide_eq_false g2
  have e : l.take i = l := List.take_of_length_le (by omega)
  rw [e]; exact hQ)
def Lens (l : List NT) : Prop := l.length ≤ 1000000 ∧ ∀ n ∈ l, n.ins.length ≤ 1000000 ∧ ∀ m ∈ n.body, m.ins.length ≤ 1000000
theorem y244 {out : Int} (R : NodesR h q l) (L : Lens l) (hQ : ∀ e h', Ext h h' → (OkG l out → e = 0) → (¬ OkG l out → e = 170) → Q (.int .i64 e) h') : AC Tryz.prog 244 [.agg [.sl q, .int .i64 out]] h Q := ac244 (by
 unfold vc244
 have no : ∀ {h'}, Ext h h' → ¬ OkG l out → Q (.int .i64 170) h' := fun x hn => hQ _ _ x (fun ok => absurd ok hn) (fun _ => rfl)
 refine y312g (P := fun n i => OkN (-1) n i) R (fun _ {i c n h' Q'} hln x Rn hK => y365 Rn (L.2 n (List.mem_of_getElem? hln)).1 (fun _ _ {h2 Q2} x2 hK2 => y312b ((Rn.mono x2).body) (fun m hm => (L.2 n (List.mem_of_getElem? hln)).2 m hm) hK2) hK) fun b h4 x4 hb => ⟨b, rfl, vif_mk (fun g => no x4 fun ok => ?_) (fun g => ?_)⟩
 ·rw [hb.2 ⟨ok.len.1, ok.len.2, ok.node⟩] at g; simp at g
 obtain ⟨b1, b2, b3⟩ := hb.1 (by simpa using g)
 rw [R.len]
 refine vif_mk (fun g1 => no x4 fun ok => ?_) (fun g1 => vif_mk (fun g2 => no x4 fun ok => ?_) (fun g2 => ?_))
 ·have g1 := of_decide_eq_true g1; have := ok.out; omega
 ·have g2 := of_decide_eq_true g2; have := ok.out; omega
 have g1 := of_decide_eq_false g1
 have g2 := of_decide_eq_false g2
 refine y313 (R.mono x4) L.1 ⟨_, rfl, vif_mk (fun g3 => no x4 fun ok => ?_) (fun g3 => ?_)⟩
 ·have g3 := of_decide_eq_true g3; have := ok.one; omega
 have g3 := of_decide_eq_false g3
 exact hQ _ _ x4 (fun _ => rfl) (fun hn => absurd ⟨⟨b1, b2⟩, ⟨by omega, by omega⟩, b3, by omega⟩ hn))
end
section
variable {h : Heap}
def Sized : Nat → List NT → Prop
 | 0, _ => False
 | m + 1, l => l.length ≤ 40 ∧ ∀ n ∈ l, n.ins.length ≤ 40 ∧ (n.body ≠ [] → Sized m n.body)
theorem Sized.lens {l : List NT} (h : Sized 4 l) : Lens l := by
 refine ⟨by have := h.1; omega, fun n hn => ⟨by have := (h.2 n hn).1; omega, fun m hm => ?_⟩⟩
 have := (h.2 n hn).2 (by intro e; rw [e] at hm; simp at hm)
 have := (this.2 m hm).1
 omega
theorem y39 : ∀ (d : Nat) {l : List NT} {q : Option SL} {Q : AV → Heap → Prop}, d ≤ 4 → NodesR h q l → (∀ b, (b = false → Sized d l) → Q (.bool b) h) → AC Tryz.prog 39 [.sl q, .int .i64 (4 - d : Int)] h Q := by
 intro d
 induction d with
 | zero => intro l q Q hd R hQ; exact ac39 (by
  unfold vc39
  rw [R.len]
  exact vif_mk (fun _ => hQ _ (by simp)) (fun _ => vif_mk (fun _ => hQ _ (by simp)) (fun g => by simp at g)))
 | succ d ih => intro l q Q hd R hQ; exact ac39 (by
  unfold vc39
  rw [R.len]
  refine vif_mk (fun _ => hQ _ (by simp)) (fun g => vif_mk (fun _ => hQ _ (by simp)) (fun g1 => ?_))
  have g := of_decide_eq_false g
  refine ⟨fun xs h6 => h6 = h ∧ ∃ i : Nat, xs = [.int .i64 i] ∧ i ≤ l.length ∧ ∀ n ∈ l.take i, n.ins.length ≤ 40 ∧ (n.body ≠ [] → Sized d n.body), left l.length, ⟨rfl, 0, rfl, by omega, by simp⟩, ?_⟩
  rintro n3 h6 ⟨rfl, i, hx, hi, ha⟩
  simp only [List.cons.injEq, AV.int.injEq, true_and, and_true] at hx
  subst hx
  refine vif_mk (fun g2 => ?_) (fun g2 => ?_)
  ·replace g2 := of_decide_eq_true g2
   have step : ∀ n, l[i]? = some n → n.ins.length ≤ 40 → (n.body ≠ [] → Sized d n.body) → (∀ m ∈ l.take (i + 1), m.ins.length ≤ 40 ∧ (m.body ≠ [] → Sized d m.body)) := fun n hn h1 h2 m hm => by
    rw [List.take_add_one, hn] at hm
    rcases List.mem_append.1 hm with hm | hm
    ·exact ha m hm
    ·simp only [Option.toList_some, List.mem_singleton] at hm
     subst hm; exact ⟨h1, h2⟩
   rw [wrapK_i64 (n := (i : Int) + 1) ⟨by omega, by omega⟩]
   refine R.idx (i := i) (by omega) rfl fun p c n hn hc Rn => ⟨c.qi, cellsAt_sub (k := 1) (m := 1) hc (by omega), ?_⟩
   rw [Rn.ins.len]
   refine vif_mk (fun _ => hQ _ (by simp)) (fun g3 => ?_)
   have g3 := of_decide_eq_false g3
   refine R.idx (i := i) (by omega) rfl fun p c n2 hn2 hc Rn2 => ⟨c.qb, cellsAt_sub (k := 5) (m := 1) hc (by omega), ?_⟩
   rw [hn] at hn2; cases hn2
   rw [Rn2.body.len]
   refine vif_mk (fun g4 => ?_) (fun g4 => ?_)
   ·refine R.idx (i := i) (by omega) rfl fun p c n2 hn2 hc Rn3 => ⟨c.qb, cellsAt_sub (k := 5) (m := 1) hc (by omega), ?_⟩
    rw [hn] at hn2; cases hn2
    have e : wrapK .i64 ((4 - ((d + 1 : Nat) : Int)) + 1) = (4 - (d : Int)) := by rw [wrapK_i64 ⟨by omega, by omega⟩]; omega
    rw [e]
    refine ih (by omega) Rn3.body fun b hb => ⟨b, rfl, vif_mk (fun _ => hQ _ (by simp)) (fun g5 => ?_)⟩
    exact ⟨trivial, ⟨rfl, i + 1, by simp, by omega, step n hn (by omega) (fun _ => hb g5)⟩, by simp only [left]; omega⟩
   ·have g4 := of_decide_eq_false g4
    have e : n.body = [] := List.eq_nil_of_length_eq_zero (by omega)
    exact ⟨trivial, ⟨rfl, i + 1, by simp, by omega, step n hn (by omega) (fun hne => absurd e hne)⟩, by simp only [left]; omega⟩
  ·replace g2 := of_decide_eq_false g2
   have e : l.take i = l := List.take_of_length_le (by omega)
   rw [e] at ha
   exact hQ _ fun _ => ⟨by omega, ha⟩)
end
end Go.Proofs.YtafmabnolelknaaGreatDoor
