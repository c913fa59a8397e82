import Derived.Test.YtnglhicedhcpbaaGreatDoorHG1
import Derived.Test.YtnglhicedhcpbaaGreatDoorHG3
import Derived.Test.YtnglhicedhcpbaaGreatDoorHG11
import Derived.Test.YtnglhicedhcpbaaGreatDoorHG13
import Derived.Test.YtnglhicedhcpbaaGreatDoorHG16
import Derived.Test.YtnglhicedhcpbaaGreatDoorHG19
import Derived.Test.YtnglhicedhcpbaaGreatDoorHG24
import Derived.Test.YtnglhicedhcpbaaGreatDoorHG25
namespace Go.Proofs.YtnglhicedhcpbaaGreatDoor
open Go.Ab
open Go.Ent Go.Seg
open Go.Pool hiding Bs Ents set_at
set_option linter.unusedVariables false
set_option linter.unusedSimpArgs false
def xfE : Enc Pool.Fr := ⟨5, fun f => [.str f.name, .int .i64 f.i, .int .i64 (f.held : Nat), .bool f.mark, .bool f.is], fun _ => rfl, by omega, fun _ => rfl⟩
abbrev xB (xb n hand hits reads losses : Nat) : Blk := .cells [.sl (some ⟨xb, 0, n, n, 0⟩), .int .i64 (hand : Nat), .int .i64 (hits : Nat), .int .i64 (reads : Nat), .int .i64 (losses : Nat)] true
structure XR (h : Heap) (xp xb : Nat) (P : PS) : Prop where
  pb : h[xp]? = some (xB xb P.fr.length P.hand P.hits P.reads P.losses)
  fb : h[xb]? = some (.cells (xfE.all P.fr) true)
  ne : xp ≠ xb
abbrev xbl (xp xb : Nat) : Nat → Prop := fun b => b = xp ∨ b = xb
section
variable {h h' : Heap} {Q : AV → Heap → Prop} {xp xb k n : Nat} {P P' : PS} {f f' : Pool.Fr}
theorem XR.at (X : XR h xp xb P) {k : Nat} {x : AV} (hx : [AV.sl (some ⟨xb, 0, P.fr.length, P.fr.length, 0⟩), .int .i64 (P.hand : Nat), .int .i64 (P.hits : Nat), .int .i64 (P.reads : Nat), .int .i64 (P.losses : Nat)][k]? = some x) : cellsAt h ⟨xp, 0 + k⟩ 1 = some [x] := by
  have hk : k < 5 := by
    have := (List.getElem?_eq_some_iff.1 hx).1
    simpa using this
  rw [cells6 X.pb (by simp only [List.length_cons, List.length_nil]; omega)]
  match k, hk with
  | 0, _ | 1, _ | 2, _ | 3, _ | 4, _ => cases hx; rfl
theorem XR.keeps {Z : Nat → Prop} (X : XR h xp xb P) (K : Keeps Z h h') (h1 : ¬ Z xp) (h2 : ¬ Z xb) : XR h' xp xb P := ⟨K _ _ h1 X.pb, K _ _ h2 X.fb, X.ne⟩
theorem XR.ext (X : XR h xp xb P) (x : Ext h h') : XR h' xp xb P := ⟨x _ _ X.pb, x _ _ X.fb, X.ne⟩
theorem XR.setF (X : XR h xp xb P) {k : Nat} {f' : Pool.Fr} : XR (h.set xb (.cells (xfE.all (P.fr.set k f')) true)) xp xb { P with fr := P.fr.set k f' } := by
  refine ⟨?_, ?_, X.ne⟩
  · rw [List.getElem?_set, if_neg (Ne.symm X.ne)]
    simp only [List.length_set]; exact X.pb
  · rw [List.getElem?_set_self (lt_of_get X.fb)]
theorem XR.setP (X : XR h xp xb P) (hf : P'.fr = P.fr) : XR (h.set xp (xB xb P'.fr.length P'.hand P'.hits P'.reads P'.losses)) xp xb P' := by
  refine ⟨?_, ?_, X.ne⟩
  · rw [List.getElem?_set_self (lt_of_get X.pb)]
  · rw [List.getElem?_set, if_neg X.ne, hf]; exact X.fb
theorem xidx {i : Int} (hi : i = (k : Nat)) (hk : k < n) {K : PA → Prop} (hK : K ⟨xb, k * 5⟩) : vIdx (some ⟨xb, 0, n, n, 0⟩) i 5 K := by
  subst hi
  refine ⟨by omega, by simp only; omega, ?_⟩
  simp only [Int.toNat_natCast, Nat.zero_add]
  exact hK
theorem xcell {fr : List Pool.Fr} (hb : h[xb]? = some (.cells (xfE.all fr) true)) (hr : fr[k]? = some f) {j : Nat} {x : AV} (hx : (xfE.f f)[j]? = some x) : cellsAt h ⟨xb, k * 5 + j⟩ 1 = some [x] := by
  have hj : j < 5 := (List.getElem?_eq_some_iff.1 hx).1
  have hk := (List.getElem?_eq_some_iff.1 hr).1
  have h6 : xfE.sz = 5 := rfl
  have hl : (xfE.all fr).length = fr.length * 5 := Enc.all_length
  have h2 : k * 5 + 5 ≤ fr.length * 5 := by omega
  rw [cellsAt_mk (p := ⟨xb, k * 5 + j⟩) hb (by simp only; omega)]
  have e := Enc.all_at (E := xfE) hr
  rw [h6] at e
  have e2 : (((xfE.all fr).drop (k * 5)).take 5).drop j = (xfE.f f).drop j := by rw [e]
  obtain ⟨hl2, rfl⟩ := List.getElem?_eq_some_iff.1 hx
  have e3 : ((xfE.all fr).drop (k * 5 + j)).take 1 = ((xfE.f f).drop j).take 1 := by
    rw [← e2, List.drop_take, List.take_take, List.drop_drop]
    congr 1
    omega
  simp only
  rw [e3, List.drop_eq_getElem_cons hl2]
  rfl
theorem xstore {fr : List Pool.Fr} (hb : h[xb]? = some (.cells (xfE.all fr) true)) (hr : fr[k]? = some f) {j : Nat} {xs : List AV} (hj : j + xs.length ≤ 5) (hr' : xfE.f f' = splice (xfE.f f) j xs) {K : Heap → Prop} (hK : K (h.set xb (.cells (xfE.all (fr.set k f')) true))) : PStore h ⟨xb, k * 5 + j⟩ xs K := by
  have hk := (List.getElem?_eq_some_iff.1 hr).1
  have hl : (xfE.all fr).length = fr.length * 5 := Enc.all_length
  unfold PStore
  simp only [hb]
  refine ⟨by omega, ?_⟩
  have := splice_set (E := xfE) (i := k) (k := j) (xs := xs) (r' := f') hr hj hr'
  have h6 : xfE.sz = 5 := rfl
  rw [h6] at this
  rw [this]
  exact hK
theorem xst_hand {n hand hits reads losses x : Nat} (hb : h[xp]? = some (xB xb n hand hits reads losses)) {K : Heap → Prop} (hK : K (h.set xp (xB xb n x hits reads losses))) : vPtr (some ⟨xp, 0⟩) fun q => PStore h ⟨q.b, q.o + 1⟩ [.int .i64 (x : Nat)] K := store6 (o := 1) hb (by simp) hK
theorem xst_hits {n hand hits reads losses x : Nat} (hb : h[xp]? = some (xB xb n hand hits reads losses)) {K : Heap → Prop} (hK : K (h.set xp (xB xb n hand x reads losses))) : vPtr (some ⟨xp, 0⟩) fun q => PStore h ⟨q.b, q.o + 2 + 0⟩ [.int .i64 (x : Nat)] K := store6 (o := 2) hb (by simp) hK
theorem xst_reads {n hand hits reads losses x : Nat} (hb : h[xp]? = some (xB xb n hand hits reads losses)) {K : Heap → Prop} (hK : K (h.set xp (xB xb n hand hits x losses))) : vPtr (some ⟨xp, 0⟩) fun q => PStore h ⟨q.b, (q.o + 2) + 1⟩ [.int .i64 (x : Nat)] K := store6 (o := 3) hb (by simp) hK
theorem xst_losses {n hand hits reads losses x : Nat} (hb : h[xp]? = some (xB xb n hand hits reads losses)) {K : Heap → Prop} (hK : K (h.set xp (xB xb n hand hits reads x))) : vPtr (some ⟨xp, 0⟩) fun q => PStore h ⟨q.b, (q.o + 2) + 2⟩ [.int .i64 (x : Nat)] K := store6 (o := 4) hb (by simp) hK
theorem k81 (X : XR h xp xb P) (few : P.fr.length ≤ 1024) (hQ : Q (.int .i64 (P.held : Nat)) h) : AC Tryz.prog 81 [.ptr (some ⟨xp, 0⟩)] h Q := ac81 (by
  unfold vc81
  refine ⟨fun xs h11 => h11 = h ∧ ∃ i : Nat, xs = [.int .i64 ((P.fr.take i).countP fun f => decide (0 < f.held) : Nat), .int .i64 (i : Nat)] ∧ i ≤ P.fr.length, fun xs _ => match xs with | [_, .int _ i] => (P.fr.length - i).toNat | _ => 0, ⟨rfl, 0, rfl, by omega⟩, ?_⟩
  rintro n7 n8 h11 ⟨rfl, i, hx, hi⟩
  simp only [List.cons.injEq, AV.int.injEq, true_and, and_true] at hx
  obtain ⟨rfl, rfl⟩ := hx
  have hc : ((P.fr.take i).countP fun f => decide (0 < f.held)) ≤ i := by
    have := List.countP_le_length (p := fun f : Pool.Fr => decide (0 < f.held)) (l := P.fr.take i)
    rw [List.length_take] at this; omega
  refine ⟨_, X.at (k := 0) rfl, ?_⟩
  refine vif_mk (fun g => ?_) (fun g => ?_)
  · have g : i < P.fr.length := by have := of_decide_eq_true g; simp only [slLen] at this; omega
    refine ⟨_, X.at (k := 0) rfl, xidx rfl g ?_⟩
    have hf : P.fr[i]? = some P.fr[i] := List.getElem?_eq_getElem g
    generalize P.fr[i] = f at hf
    refine ⟨_, xcell X.fb hf (j := 2) rfl, ?_⟩
    have ct := countP_take (fun f : Pool.Fr => decide (0 < f.held)) hf
    rw [wrapK_i64 (n := (i : Int) + 1) ⟨by omega, by omega⟩]
    refine vif_mk (fun g2 => ?_) (fun g2 => ?_)
    · have g2 : 0 < f.held := by have := of_decide_eq_true g2; omega
      rw [if_pos (by simpa using g2)] at ct
      rw [wrapK_i64 ⟨by omega, by omega⟩]
      exact ⟨trivial, ⟨rfl, i + 1, by rw [ct]; simp, by omega⟩, by simp only; omega⟩
    · have g2 : f.held = 0 := by have := of_decide_eq_false g2; omega
      rw [if_neg (by simp [g2])] at ct
      exact ⟨trivial, ⟨rfl, i + 1, by rw [ct]; simp, by omega⟩, by simp only; omega⟩
  · have g : ¬ i < P.fr.length := by have := of_decide_eq_false g; simp only [slLen] at this; omega
    have : i = P.fr.length := by omega
    subst this
    rw [List.take_length]
    exact hQ)
theorem k82 (X : XR h xp xb P) (few : P.fr.length ≤ 1024) (hQ : Q (.int .i64 (P.used : Nat)) h) : AC Tryz.prog 82 [.ptr (some ⟨xp, 0⟩)] h Q := ac82 (by
  unfold vc82
  refine ⟨fun xs h11 => h11 = h ∧ ∃ i : Nat, xs = [.int .i64 ((P.fr.take i).countP fun f => f.is : Nat), .int .i64 (i : Nat)] ∧ i ≤ P.fr.length, fun xs _ => match xs with | [_, .int _ i] => (P.fr.length - i).toNat | _ => 0, ⟨rfl, 0, rfl, by omega⟩, ?_⟩
  rintro n7 n8 h11 ⟨rfl, i, hx, hi⟩
  simp only [List.cons.injEq, AV.int.injEq, true_and, and_true] at hx
  obtain ⟨rfl, rfl⟩ := hx
  have hc : ((P.fr.take i).countP fun f => f.is) ≤ i := by
    have := List.countP_le_length (p := fun f : Pool.Fr => f.is) (l := P.fr.take i)
    rw [List.length_take] at this; omega
  refine ⟨_, X.at (k := 0) rfl, ?_⟩
  refine vif_mk (fun g => ?_) (fun g => ?_)
  · have g : i < P.fr.length := by have := of_decide_eq_true g; simp only [slLen] at this; omega
    refine ⟨_, X.at (k := 0) rfl, xidx rfl g ?_⟩
    have hf : P.fr[i]? = some P.fr[i] := List.getElem?_eq_getElem g
    generalize P.fr[i] = f at hf
    refine ⟨_, xcell X.fb hf (j := 4) rfl, ?_⟩
    have ct := countP_take (fun f : Pool.Fr => f.is) hf
    rw [wrapK_i64 (n := (i : Int) + 1) ⟨by omega, by omega⟩]
    refine vif_mk (fun g2 => ?_) (fun g2 => ?_)
    · rw [if_pos g2] at ct
      rw [wrapK_i64 ⟨by omega, by omega⟩]
      exact ⟨trivial, ⟨rfl, i + 1, by rw [ct]; simp, by omega⟩, by simp only; omega⟩
    · rw [if_neg (by simp [g2])] at ct
      exact ⟨trivial, ⟨rfl, i + 1, by rw [ct]; simp, by omega⟩, by simp only; omega⟩
  · have g : ¬ i < P.fr.length := by have := of_decide_eq_false g; simp only [slLen] at this; omega
    have : i = P.fr.length := by omega
    subst this
    rw [List.take_length]
    exact hQ)
theorem k83 {s : Bs} {i : Int} (X : XR h xp xb P) (few : P.fr.length ≤ 1024) (h0 : P.at s i = none → Q (.int .i64 (-1)) h) (h1 : ∀ k : Nat, P.at s i = some k → Q (.int .i64 (k : Nat)) h) : AC Tryz.prog 83 [.ptr (some ⟨xp, 0⟩), .str s, .int .i64 i] h Q := ac83 (by
  unfold vc83
  refine ⟨fun xs h5 => h5 = h ∧ ∃ j : Nat, xs = [.int .i64 (j : Nat)] ∧ j ≤ P.fr.length ∧ ∀ f ∈ P.fr.take j, Fr.at s i f = false, fun xs _ => match xs with | [.int _ j] => (P.fr.length - j).toNat | _ => 0, ⟨rfl, 0, rfl, by omega, by simp⟩, ?_⟩
  rintro n2 h5 ⟨rfl, j, hx, hi, hn⟩
  simp only [List.cons.injEq, AV.int.injEq, true_and, and_true] at hx
  subst hx
  refine ⟨_, X.at (k := 0) rfl, ?_⟩
  refine vif_mk (fun g => ?_) (fun g => ?_)
  · have g : j < P.fr.length := by have := of_decide_eq_true g; simp only [slLen] at this; omega
    have hf : P.fr[j]? = some P.fr[j] := List.getElem?_eq_getElem g
    generalize P.fr[j] = f at hf
    rw [wrapK_i64 ⟨by omega, by omega⟩]
    have go : Fr.at s i f = false → True ∧ (h5 = h5 ∧ ∃ j' : Nat, [AV.int .i64 ((j : Int) + 1)] = [.int .i64 (j' : Nat)] ∧ j' ≤ P.fr.length ∧ ∀ f ∈ P.fr.take j', Fr.at s i f = false) ∧ ((P.fr.length : Int) - ((j : Int) + 1)).toNat < ((P.fr.length : Int) - (j : Int)).toNat := fun hat => by
      refine ⟨trivial, ⟨rfl, j + 1, by simp, by omega, fun f2 hfm => ?_⟩, by omega⟩
      rw [List.take_add_one, hf] at hfm
      rcases List.mem_append.1 hfm with hm | hm
      · exact hn f2 hm
      · simp only [Option.toList, List.mem_singleton] at hm
        subst hm; exact hat
    refine ⟨_, X.at (k := 0) rfl, xidx rfl g ⟨_, xcell X.fb hf (j := 4) rfl, ?_⟩⟩
    refine vif_mk (fun g1 => ?_) (fun g1 => go (by unfold Fr.at; rw [g1]; rfl))
    refine ⟨_, X.at (k := 0) rfl, xidx rfl g ⟨_, xcell X.fb hf (j := 0) rfl, ?_⟩⟩
    refine vif_mk (fun g2 => ?_) (fun g2 => go (by unfold Fr.at; rw [g2]; simp))
    refine ⟨_, X.at (k := 0) rfl, xidx rfl g ⟨_, xcell X.fb hf (j := 1) rfl, ?_⟩⟩
    refine vif_mk (fun g3 => ?_) (fun g3 => go (by unfold Fr.at; rw [g3]; simp))
    refine h1 j (findIdx_at hn hf ?_)
    unfold Fr.at
    rw [g1, g2, g3]; rfl
  · have g : ¬ j < P.fr.length := by have := of_decide_eq_false g; simp only [slLen] at this; omega
    have : j = P.fr.length := by omega
    subst this
    rw [List.take_length] at hn
    exact h0 (findIdx_none hn))
theorem k153 {N : Nat} {s : Bs} {i : Int} (X : XR h xp xb P) (few : P.fr.length ≤ 1024) (hN : P.lt N) (hs : N ≤ 1000000000)
    (hQ : ∀ h', XR h' xp xb (P.free s i).2 → Keeps (xbl xp xb) h h' → h'.length = h.length → Q (.int .i64 (P.free s i).1) h') : AC Tryz.prog 153 [.ptr (some ⟨xp, 0⟩), .str s, .int .i64 i] h Q := ac153 (by
  unfold vc153
  unfold PS.free at hQ
  refine k83 X few (fun hn => ⟨_, rfl, vif_mk (fun _ => ?_) (fun g => by simp at g)⟩) fun k hk => ⟨_, rfl, vif_mk (fun g => by have := of_decide_eq_true g; omega) (fun _ => ?_)⟩
  · rw [hn] at hQ; exact hQ h X (.refl _ _) rfl
  rw [hk] at hQ
  obtain ⟨f, hf, _⟩ := of_at hk
  simp only [hf] at hQ
  have hkl := (List.getElem?_eq_some_iff.1 hf).1
  have hh := hN.held f (List.mem_of_getElem? hf)
  refine ⟨_, X.at (k := 0) rfl, xidx rfl hkl ⟨_, xcell X.fb hf (j := 2) rfl, ?_⟩⟩
  refine vif_mk (fun g => ?_) (fun g => ?_)
  · have g : f.held = 0 := by simpa using g
    rw [if_pos g] at hQ
    exact hQ h X (.refl _ _) rfl
  · have g : f.held ≠ 0 := by simpa using g
    rw [if_neg g] at hQ
    refine ⟨_, X.at (k := 0) rfl, xidx rfl hkl ⟨_, xcell X.fb hf (j := 2) rfl, xidx rfl hkl ?_⟩⟩
    have e1 : wrapK .i64 (((f.held : Nat) : Int) - 1) = ((f.held - 1 : Nat) : Int) := by rw [wrapK_i64 ⟨by omega, by omega⟩]; omega
    rw [e1]
    refine xstore (f' := { f with held := f.held - 1 }) X.fb hf (by simp) rfl ?_
    exact hQ _ X.setF (keeps_set (.inr rfl)) List.length_set)
theorem k79 {n : Nat} (hn : n ≤ 1024) (hQ : ∀ h', XR h' (h.length + 1) h.length (newP n) → Ext h h' → Q (.ptr (some ⟨h.length + 1, 0⟩)) h') : AC Tryz.prog 79 [.int .i64 (n : Nat)] h Q := ac79 (by
  unfold vc79 PMake PNew
  refine vif_mk (fun g => by have := of_decide_eq_true g; omega) (fun _ => vif_mk (fun g => by have := of_decide_eq_true g; omega) (fun _ => ?_))
  refine ⟨by omega, by omega, by omega, by simp only [maxI]; omega, ?_⟩
  simp only [Int.toNat_natCast, List.length_append, List.length_cons, List.length_nil]
  have hrep : (List.replicate n [AV.str [], .int .i64 0, .int .i64 0, .bool false, .bool false]).flatten = xfE.all (List.replicate n Fr.none) := by
    unfold Enc.all; rw [List.map_replicate]; rfl
  rw [hrep]
  refine hQ _ ⟨?_, ?_, by omega⟩ ((Ext.app _ _).trans (Ext.app _ _))
  · simp [newP]
  · simp [newP])
theorem k79no {n : Int} (hn : n < 0 ∨ 1024 < n) (hQ : Q (.ptr none) h) : AC Tryz.prog 79 [.int .i64 n] h Q := ac79 (by
  unfold vc79
  exact vif_mk (fun _ => hQ) (fun g1 => vif_mk (fun _ => hQ) (fun g2 => by have := of_decide_eq_false g1; have := of_decide_eq_false g2; omega)))
end
section
variable {h h' : Heap} {Q : AV → Heap → Prop} {xp xb k n : Nat} {P P' : PS} {f f' : Pool.Fr}
structure XJ (h10 h : Heap) (xp xb : Nat) (P0 : PS) (r0 : Nat × List Pool.Fr × Nat) (n : Nat) : Prop where
  ex : ∃ P, XR h xp xb P ∧ spin n P.fr P.hand = some r0 ∧ P.hand < P.fr.length ∧ P.fr.length = P0.fr.length ∧ P.hits = P0.hits ∧ P.reads = P0.reads ∧ P.losses = P0.losses
  keep : Keeps (xbl xp xb) h10 h
  len : h.length = h10.length
theorem k222 {N : Nat} (X : XR h xp xb P) (ok : P.ok) (hN : P.lt N) (hs : N ≤ 1000000000) (h0 : P.place = none → Q (.int .i64 (-1)) h)
    (h1 : ∀ (k : Nat) P' h', P.place = some (k, P') → XR h' xp xb P' → Keeps (xbl xp xb) h h' → h'.length = h.length → Q (.int .i64 (k : Nat)) h') :
    AC Tryz.prog 222 [.ptr (some ⟨xp, 0⟩)] h Q := ac222 (by
  unfold vc222
  have few := ok.few
  refine ⟨fun xs h5 => h5 = h ∧ ∃ j : Nat, xs = [.int .i64 (j : Nat)] ∧ j ≤ P.fr.length ∧ ∀ f ∈ P.fr.take j, (!f.is) = false, fun xs _ => match xs with | [.int _ j] => (P.fr.length - j).toNat | _ => 0, ⟨rfl, 0, rfl, by omega, by simp⟩, ?_⟩
  rintro n2 h5 ⟨rfl, j, hx, hi, hn⟩
  simp only [List.cons.injEq, AV.int.injEq, true_and, and_true] at hx
  subst hx
  refine ⟨_, X.at (k := 0) rfl, ?_⟩
  refine vif_mk (fun g => ?_) (fun g => ?_)
  · have g : j < P.fr.length := by have := of_decide_eq_true g; simp only [slLen] at this; omega
    have hf : P.fr[j]? = some P.fr[j] := List.getElem?_eq_getElem g
    generalize P.fr[j] = f at hf
    refine ⟨_, X.at (k := 0) rfl, xidx rfl g ⟨_, xcell X.fb hf (j := 4) rfl, ?_⟩⟩
    refine vif_mk (fun g2 => ?_) (fun g2 => ?_)
    · have hk := findIdx_at hn hf g2
      refine h1 j P h5 ?_ X (.refl _ _) rfl
      unfold PS.place
      rw [hk]
    · rw [wrapK_i64 ⟨by omega, by omega⟩]
      refine ⟨trivial, ⟨rfl, j + 1, by simp, by omega, fun f2 hfm => ?_⟩, by simp only; omega⟩
      rw [List.take_add_one, hf] at hfm
      rcases List.mem_append.1 hfm with hm | hm
      · exact hn f2 hm
      · simp only [Option.toList, List.mem_singleton] at hm
        subst hm; exact g2
  have g0 : ¬ j < P.fr.length := by have := of_decide_eq_false g; simp only [slLen] at this; omega
  have hj : j = P.fr.length := by omega
  subst hj
  rw [List.take_length] at hn
  have hfull : ∀ f ∈ P.fr, f.is = true := fun f hf => by simpa using hn f hf
  have hn2 : P.fr.findIdx? (fun f => !f.is) = none := findIdx_none hn
  refine ⟨_, X.at (k := 0) rfl, ?_⟩
  refine k81 X few ⟨_, rfl, ⟨_, X.at (k := 0) rfl, rfl⟩, ?_⟩
  refine vif_mk (fun g => h0 ?_) (fun g => ?_)
  · have g : P.held = P.fr.length := by
      have : ((P.held : Nat) : Int) = ((P.fr.length : Nat) : Int) := by simpa [slLen] using g
      omega
    unfold PS.place
    rw [hn2]; simp only; rw [if_pos g]
  have g : P.held ≠ P.fr.length := fun hc => by rw [hc] at g; simp [slLen] at g
  have hun : ∃ f ∈ P.fr, f.held = 0 := by
    apply Classical.byContradiction
    intro hc
    apply g
    unfold PS.held
    rw [List.countP_eq_length]
    intro f hf
    simp only [decide_eq_true_eq]
    apply Classical.byContradiction
    intro h2
    exact hc ⟨f, hf, by omega⟩
  have hne : 0 < P.fr.length := by
    obtain ⟨f, hf, _⟩ := hun
    exact List.length_pos_of_mem hf
  have hhand : P.hand < P.fr.length := by rcases ok.hand with h2 | h2 <;> omega
  obtain ⟨⟨k0, fr0, hand0⟩, hsp⟩ := spin_some hhand hun
  have hpl : P.place = some (k0, { P with fr := fr0, hand := hand0, losses := P.losses + 1 }) := by
    unfold PS.place
    rw [hn2]; simp only; rw [if_neg g, hsp]
  have J0 : XJ h5 h5 xp xb P (k0, fr0, hand0) (2 * P.fr.length + 1) := ⟨⟨P, X, hsp, hhand, rfl, rfl, rfl, rfl⟩, .refl _ _, rfl⟩
  refine ⟨fun xs h14 => xs = [] ∧ ∃ n, XJ h5 h14 xp xb P (k0, fr0, hand0) n, fun _ h14 => least fun n => XJ h5 h14 xp xb P (k0, fr0, hand0) n, ⟨rfl, _, J0⟩, ?_⟩
  rintro h14 ⟨_, hex⟩
  have J := least_is hex
  generalize hm : least (fun n => XJ h5 h14 xp xb P (k0, fr0, hand0) n) = n at *
  obtain ⟨⟨P1, X1, hs1, hh1, hl1, e1, e2, e3⟩, K1, l1⟩ := J
  cases n with
  | zero => simp [spin] at hs1
  | succ n =>
    have hf : P1.fr[P1.hand]? = some P1.fr[P1.hand] := List.getElem?_eq_getElem hh1
    generalize P1.fr[P1.hand] = f at hf
    simp only [spin, hf] at hs1
    have hhn : (P1.hand + 1) % P1.fr.length < P1.fr.length := Nat.mod_lt _ (by omega)
    refine ⟨_, X1.at (k := 1) rfl, ⟨_, X1.at (k := 1) rfl, ⟨_, X1.at (k := 0) rfl, ?_⟩⟩⟩
    refine need_var.2 ⟨by simp only [slLen, Bool.not_eq_true', beq_eq_false_iff_ne, ne_eq]; omega, ?_⟩
    have em : Int.tmod (wrapK .i64 (((P1.hand : Nat) : Int) + 1)) (slLen (some ⟨xb, 0, P1.fr.length, P1.fr.length, 0⟩) : Int) = (((P1.hand + 1) % P1.fr.length : Nat) : Int) := by
      rw [wrapK_i64 ⟨by omega, by omega⟩, Int.tmod_eq_emod_of_nonneg (by omega)]
      rfl
    rw [em]
    refine xst_hand X1.pb ?_
    have X16 := X1.setP (P' := { P1 with hand := (P1.hand + 1) % P1.fr.length }) rfl
    have K16 : Keeps (xbl xp xb) h14 (h14.set xp (xB xb P1.fr.length ((P1.hand + 1) % P1.fr.length) P1.hits P1.reads P1.losses)) := keeps_set (.inl rfl)
    have l16 : (h14.set xp (xB xb P1.fr.length ((P1.hand + 1) % P1.fr.length) P1.hits P1.reads P1.losses)).length = h14.length := List.length_set
    simp only at X16
    generalize h14.set xp (xB xb P1.fr.length ((P1.hand + 1) % P1.fr.length) P1.hits P1.reads P1.losses) = h16 at *
    refine ⟨_, X16.at (k := 0) rfl, xidx rfl hh1 ?_⟩
    refine ⟨_, xcell X16.fb hf (j := 2) rfl, ?_⟩
    refine vif_mk (fun gh => ?_) (fun gh => ?_)
    · have gh : 0 < f.held := by have := of_decide_eq_true gh; omega
      rw [if_pos gh] at hs1
      have J16 : XJ h5 h16 xp xb P (k0, fr0, hand0) n := ⟨⟨_, X16, hs1, hhn, hl1, e1, e2, e3⟩, K1.trans K16, by omega⟩
      refine ⟨trivial, ⟨rfl, n, J16⟩, ?_⟩
      have := least_le (p := fun n => XJ h5 h16 xp xb P (k0, fr0, hand0) n) J16
      show Pool.least _ < Pool.least _
      rw [hm]
      omega
    · have gh : f.held = 0 := by have := of_decide_eq_false gh; omega
      rw [if_neg (by omega)] at hs1
      refine ⟨_, X16.at (k := 0) rfl, xidx rfl hh1 ?_⟩
      refine ⟨_, xcell X16.fb hf (j := 3) rfl, ?_⟩
      refine vif_mk (fun gm => ?_) (fun gm => ?_)
      · rw [if_pos gm] at hs1
        refine ⟨_, X16.at (k := 0) rfl, xidx rfl hh1 ?_⟩
        refine xstore (f' := { f with mark := false }) X16.fb hf (by simp) rfl ?_
        have X23 := X16.setF (k := P1.hand) (f' := { f with mark := false })
        have K23 : Keeps (xbl xp xb) h16 (h16.set xb (.cells (xfE.all (P1.fr.set P1.hand { f with mark := false })) true)) := keeps_set (.inr rfl)
        have l23 : (h16.set xb (.cells (xfE.all (P1.fr.set P1.hand { f with mark := false })) true)).length = h16.length := List.length_set
        simp only at X23
        generalize h16.set xb (.cells (xfE.all (P1.fr.set P1.hand { f with mark := false })) true) = h23 at *
        have J23 : XJ h5 h23 xp xb P (k0, fr0, hand0) n := ⟨⟨_, X23, hs1, by simp only [List.length_set]; exact hhn, by simp only [List.length_set]; exact hl1, e1, e2, e3⟩, (K1.trans K16).trans K23, by omega⟩
        refine ⟨trivial, ⟨rfl, n, J23⟩, ?_⟩
        have := least_le (p := fun n => XJ h5 h23 xp xb P (k0, fr0, hand0) n) J23
        show Pool.least _ < Pool.least _
        rw [hm]
        omega
      · rw [if_neg (by simp [gm])] at hs1
        simp only [Option.some.injEq, Prod.mk.injEq] at hs1
        obtain ⟨rfl, rfl, rfl⟩ := hs1
        refine ⟨_, X16.at (k := 4) rfl, ?_⟩
        have hls := hN.losses
        have e5 : wrapK .i64 (((P1.losses : Nat) : Int) + 1) = ((P1.losses + 1 : Nat) : Int) := by rw [wrapK_i64 ⟨by omega, by omega⟩]; omega
        simp only at e5 ⊢
        rw [e5]
        refine xst_losses X16.pb ?_
        have X32 := X16.setP (P' := { P with fr := P1.fr, hand := (P1.hand + 1) % P1.fr.length, losses := P.losses + 1 }) rfl
        have := h1 P1.hand _ _ hpl (by simp only [← e1, ← e2, ← e3] at X32; simp only [← e1, ← e2, ← e3]; exact X32) ((K1.trans K16).trans (keeps_set (.inl rfl))) (by rw [List.length_set]; omega)
        simp only [e1, e2, e3] at this ⊢
        exact this)
theorem k152 {N : Nat} {s : Bs} {i e : Int} {l : List Ent} (X : XR h xp xb P) (ok : P.ok) (hN : P.lt N) (hs : N ≤ 1000000000)
    (hQ : ∀ h', XR h' xp xb (P.hold s i (e, l)).2.2 → Keeps (xbl xp xb) h h' → h'.length = h.length → Q (.int .i64 (P.hold s i (e, l)).1) h') :
    AC Tryz.prog 152 [.ptr (some ⟨xp, 0⟩), .str s, .int .i64 i, .int .i64 e] h Q := ac152 (by
  unfold vc152
  have few := ok.few
  unfold PS.hold at hQ
  refine k83 X few (fun hn => ⟨_, rfl, vif_mk (fun g => by simp at g) (fun _ => ?_)⟩) fun k hk => ⟨_, rfl, vif_mk (fun _ => ?_) (fun g => by have := of_decide_eq_false g; omega)⟩
  · rw [hn] at hQ
    simp only at hQ
    refine vif_mk (fun g => ?_) (fun g => ?_)
    · rw [if_pos (by simpa using g)] at hQ
      exact hQ h X (.refl _ _) rfl
    · rw [if_neg (by simpa using g)] at hQ
      refine k222 X ok hN hs (fun hp => ⟨_, rfl, vif_mk (fun _ => ?_) (fun g => by simp at g)⟩) fun k P' h2 hp X2 K2 l2 => ⟨_, rfl, vif_mk (fun g => by have := of_decide_eq_true g; omega) (fun _ => ?_)⟩
      · rw [hp] at hQ; exact hQ h X (.refl _ _) rfl
      · rw [hp] at hQ
        simp only at hQ
        have hk : k < P'.fr.length ∧ P'.reads = P.reads := by
          unfold PS.place at hp
          split at hp
          · rename_i k1 h1
            cases hp
            rw [List.findIdx?_eq_some_iff_getElem] at h1
            exact ⟨h1.1, rfl⟩
          · split at hp
            · cases hp
            · split at hp
              · rename_i k1 fr1 hd1 hs1
                cases hp
                have h3 : P.hand < P.fr.length := by
                  rcases ok.hand with h4 | h4
                  · exact h4
                  · rcases Nat.eq_zero_or_pos P.fr.length with h5 | h5
                    · exact absurd (by unfold PS.held; rw [List.length_eq_zero_iff.1 h5]; rfl : P.held = P.fr.length) (by assumption)
                    · omega
                have h6 := spin_core hs1 h3
                have h7 : fr1.length = P.fr.length := by have := congrArg List.length h6.1; simpa using this
                exact ⟨by simp only; rw [h7]; exact h6.2.1, rfl⟩
              · cases hp
        have hf : P'.fr[k]? = some P'.fr[k] := List.getElem?_eq_getElem hk.1
        refine ⟨_, X2.at (k := 0) rfl, xidx rfl hk.1 ?_⟩
        have st : ∀ {K : Heap → Prop}, K (h2.set xb (.cells (xfE.all (P'.fr.set k ⟨s, i, l, 1, true, true⟩)) true)) → PStore h2 ⟨xb, k * 5⟩ [.str s, .int .i64 i, .int .i64 1, .bool true, .bool true] K := fun hK => xstore (j := 0) (f' := ⟨s, i, l, 1, true, true⟩) X2.fb hf (by simp) rfl hK
        refine st ?_
        have X3 := X2.setF (k := k) (f' := ⟨s, i, l, 1, true, true⟩)
        have K3 : Keeps (xbl xp xb) h2 (h2.set xb (.cells (xfE.all (P'.fr.set k ⟨s, i, l, 1, true, true⟩)) true)) := keeps_set (.inr rfl)
        have l3 : (h2.set xb (.cells (xfE.all (P'.fr.set k ⟨s, i, l, 1, true, true⟩)) true)).length = h2.length := List.length_set
        generalize h2.set xb (.cells (xfE.all (P'.fr.set k ⟨s, i, l, 1, true, true⟩)) true) = h3 at *
        refine ⟨_, X3.at (k := 3) rfl, ?_⟩
        have hr := hN.reads
        have e5 : wrapK .i64 (((P'.reads : Nat) : Int) + 1) = ((P'.reads + 1 : Nat) : Int) := by rw [wrapK_i64 ⟨by omega, by omega⟩]; omega
        simp only at e5 ⊢
        rw [e5]
        refine xst_reads X3.pb ?_
        exact hQ _ (X3.setP (P' := P'.take k s i l) rfl) ((K2.trans K3).trans (keeps_set (.inl rfl))) (by rw [List.length_set]; omega)
  · rw [hk] at hQ
    simp only at hQ
    obtain ⟨f, hf, _⟩ := of_at hk
    have hkl := (List.getElem?_eq_some_iff.1 hf).1
    have hh := hN.held f (List.mem_of_getElem? hf)
    have hhit := hN.hits
    unfold up at hQ
    simp only [hf] at hQ
    refine ⟨_, X.at (k := 0) rfl, xidx rfl hkl ⟨_, xcell X.fb hf (j := 2) rfl, xidx rfl hkl ?_⟩⟩
    have e1 : wrapK .i64 (((f.held : Nat) : Int) + 1) = ((f.held + 1 : Nat) : Int) := by rw [wrapK_i64 ⟨by omega, by omega⟩]; omega
    rw [e1]
    refine xstore (f' := { f with held := f.held + 1 }) X.fb hf (by simp) rfl ?_
    have X2 := X.setF (k := k) (f' := { f with held := f.held + 1 })
    have K2 : Keeps (xbl xp xb) h (h.set xb (.cells (xfE.all (P.fr.set k { f with held := f.held + 1 })) true)) := keeps_set (.inr rfl)
    have l2 : (h.set xb (.cells (xfE.all (P.fr.set k { f with held := f.held + 1 })) true)).length = h.length := List.length_set
    generalize h.set xb (.cells (xfE.all (P.fr.set k { f with held := f.held + 1 })) true) = h2 at *
    have hf2 : (P.fr.set k { f with held := f.held + 1 })[k]? = some { f with held := f.held + 1 } := set_get hkl
    refine ⟨_, X2.at (k := 0) rfl, xidx rfl (by simp only [List.length_set]; exact hkl) ?_⟩
    refine xstore (f' := { f with held := f.held + 1, mark := true }) X2.fb hf2 (by simp) rfl ?_
    have X3 := X2.setF (k := k) (f' := { f with held := f.held + 1, mark := true })
    simp only [List.set_set] at X3 ⊢
    have K3 : Keeps (xbl xp xb) h2 (h2.set xb (.cells (xfE.all (P.fr.set k { f with held := f.held + 1, mark := true })) true)) := keeps_set (.inr rfl)
    have l3 : (h2.set xb (.cells (xfE.all (P.fr.set k { f with held := f.held + 1, mark := true })) true)).length = h2.length := List.length_set
    generalize h2.set xb (.cells (xfE.all (P.fr.set k { f with held := f.held + 1, mark := true })) true) = h3 at *
    refine ⟨_, X3.at (k := 2) rfl, ?_⟩
    have e2 : wrapK .i64 (((P.hits : Nat) : Int) + 1) = ((P.hits + 1 : Nat) : Int) := by rw [wrapK_i64 ⟨by omega, by omega⟩]; omega
    simp only at e2 ⊢
    rw [e2]
    refine xst_hits X3.pb ?_
    exact hQ _ (X3.setP (P' := { P with fr := P.fr.set k { f with held := f.held + 1, mark := true }, hits := P.hits + 1 }) rfl) ((K2.trans K3).trans (keeps_set (.inl rfl))) (by rw [List.length_set]; omega))
theorem k154 {s : Bs} (X : XR h xp xb P) (few : P.fr.length ≤ 1024) (hQ : ∀ h', XR h' xp xb (P.drop s).2 → Keeps (xbl xp xb) h h' → h'.length = h.length → Q (.int .i64 ((P.drop s).1 : Nat)) h') : AC Tryz.prog 154 [.ptr (some ⟨xp, 0⟩), .str s] h Q := ac154 (by
  unfold vc154
  refine ⟨fun xs h12 => ∃ i : Nat, xs = [.int .i64 ((P.fr.take i).countP (gone s) : Nat), .int .i64 (i : Nat)] ∧ i ≤ P.fr.length ∧ XR h12 xp xb { P with fr := dropL P.fr s i } ∧ Keeps (xbl xp xb) h h12 ∧ h12.length = h.length,
    fun xs _ => match xs with | [_, .int _ i] => (P.fr.length - i).toNat | _ => 0, ⟨0, rfl, by omega, by simpa [dropL] using X, .refl _ _, rfl⟩, ?_⟩
  rintro n8 n9 h12 ⟨i, hx, hi, X1, K1, l1⟩
  simp only [List.cons.injEq, AV.int.injEq, true_and, and_true] at hx
  obtain ⟨rfl, rfl⟩ := hx
  have hc : ((P.fr.take i).countP (gone s)) ≤ i := by
    have := List.countP_le_length (p := gone s) (l := P.fr.take i)
    rw [List.length_take] at this; omega
  refine ⟨_, X1.at (k := 0) rfl, ?_⟩
  refine vif_mk (fun g => ?_) (fun g => ?_)
  · have g : i < P.fr.length := by have := of_decide_eq_true g; simp only [slLen, dropL_len] at this; omega
    have hf : P.fr[i]? = some P.fr[i] := List.getElem?_eq_getElem g
    generalize P.fr[i] = f at hf
    have hf1 : (dropL P.fr s i)[i]? = some f := by rw [dropL_get g]; exact hf
    have hi1 : i < (dropL P.fr s i).length := by rw [dropL_len]; exact g
    have ct := countP_take (gone s) hf
    rw [wrapK_i64 (n := (i : Int) + 1) ⟨by omega, by omega⟩]
    have stay : gone s f = false → True ∧ (∃ i' : Nat, [AV.int .i64 ((P.fr.take i).countP (gone s) : Nat), .int .i64 ((i : Int) + 1)] = [.int .i64 ((P.fr.take i').countP (gone s) : Nat), .int .i64 (i' : Nat)] ∧ i' ≤ P.fr.length ∧ XR h12 xp xb { P with fr := dropL P.fr s i' } ∧ Keeps (xbl xp xb) h h12 ∧ h12.length = h.length) ∧ ((P.fr.length : Int) - ((i : Int) + 1)).toNat < ((P.fr.length : Int) - (i : Int)).toNat := fun hg => by
      rw [hg] at ct
      refine ⟨trivial, ⟨i + 1, by rw [ct]; simp, by omega, by rw [dropL_same hf hg]; exact X1, K1, l1⟩, by omega⟩
    refine ⟨_, X1.at (k := 0) rfl, xidx rfl hi1 ⟨_, xcell X1.fb hf1 (j := 4) rfl, ?_⟩⟩
    refine vif_mk (fun g1 => ?_) (fun g1 => stay (by unfold gone; rw [g1]; rfl))
    refine ⟨_, X1.at (k := 0) rfl, xidx rfl hi1 ⟨_, xcell X1.fb hf1 (j := 0) rfl, ?_⟩⟩
    refine vif_mk (fun g2 => ?_) (fun g2 => stay (by unfold gone; rw [g2]; simp))
    refine ⟨_, X1.at (k := 0) rfl, xidx rfl hi1 ⟨_, xcell X1.fb hf1 (j := 2) rfl, ?_⟩⟩
    refine vif_mk (fun g3 => ?_) (fun g3 => stay (by unfold gone; have g3 : f.held ≠ 0 := by simpa using g3
                                                     simp [g3]))
    have g3 : f.held = 0 := by simpa using g3
    have hgo : gone s f = true := by unfold gone; rw [g1, g2, g3]; rfl
    rw [hgo] at ct
    refine ⟨_, X1.at (k := 0) rfl, xidx rfl hi1 ?_⟩
    have st : ∀ {K : Heap → Prop}, K (h12.set xb (.cells (xfE.all ((dropL P.fr s i).set i Fr.none)) true)) → PStore h12 ⟨xb, i * 5⟩ [.str [], .int .i64 0, .int .i64 0, .bool false, .bool false] K := fun hK => xstore (j := 0) (f' := Fr.none) X1.fb hf1 (by simp) rfl hK
    refine st ?_
    have X2 := X1.setF (k := i) (f' := Fr.none)
    have hgf : gf s f = Fr.none := by unfold gf; rw [hgo]; rfl
    have hds := dropL_set (s := s) hf
    rw [hgf] at hds
    rw [hds]
    simp only [hds] at X2
    have e7 : wrapK .i64 ((((P.fr.take i).countP (gone s) : Nat) : Int) + 1) = (((P.fr.take i).countP (gone s) + 1 : Nat) : Int) := by rw [wrapK_i64 ⟨by omega, by omega⟩]; omega
    rw [e7]
    exact ⟨trivial, ⟨i + 1, by rw [ct]; simp, by omega, X2, K1.trans (keeps_set (.inr rfl)), by rw [List.length_set]; exact l1⟩, by simp only; omega⟩
  · have g : ¬ i < P.fr.length := by have := of_decide_eq_false g; simp only [slLen, dropL_len] at this; omega
    have : i = P.fr.length := by omega
    subst this
    rw [List.take_length] at *
    rw [dropL_end] at X1
    exact hQ h12 X1 K1 l1)
end
end Go.Proofs.YtnglhicedhcpbaaGreatDoor
namespace Go.Proofs.YtnglhicedhcpbaaGreatDoor
open Go.Ab
open Go.Num hiding Bs snoc_ind
open Go.Ent Go.Seg
open Go.Page hiding Bs get
open Go.Dsk hiding Bs
open Go.Man (pendsOf pendsOf_snoc keepAll_pends notB_all find_of pendsOf_b)
set_option linter.unusedVariables false
set_option linter.unusedSimpArgs false
section
attribute [local irreducible] momErr recErr
section
variable {h : Heap} {Q : AV → Heap → Prop} {ow : Roles} {p : Nat} {D : DS}
theorem k25D {n : Int} {s : Bs} {q : Option SL} {l : List Ent} (L : Laid h) (R : DiskR h ow p D) (hpl : D.pends.length ≤ 900000) (H : HasL entE h q l) (hl : l.length ≤ 100000)
    (h0 : mayS n l ≠ 0 → ∀ h', Ext h h' → Q (.int .i64 (mayS n l)) h')
    (h1 : ∀ base : Nat, n = base → 1 ≤ base → base ≤ 2305843009213693952 → mayE l = 0 → SortedL l → ∀ b h' ow', ((D.create s b).1 = 0 → ∀ y ∈ D.files, y.b ≠ b) → DiskR h' ow' p (D.wr s (sectors base l) b).2 → DStep ow h ow' h' → Q (.int .i64 (D.wr s (sectors base l) b).1) h') :
    AC Tryz.prog 25 [.ptr (some ⟨p, 0⟩), .str s, .int .i64 n, .sl q] h Q := ac25 (by
  unfold vc25
  refine k86 ⟨_, rfl, ?_⟩
  rcases mayS_cases (n := n) (l := l) with ⟨m1, m2⟩ | hrest
  · rw [m1]
    rw [m2] at h0
    exact vif_mk (fun _ => h0 (by omega) _ (.refl _)) (fun g => by cases g)
  have m1 : baseOk n = true := by
    rcases hrest with ⟨m, _⟩ | ⟨m, _⟩ | ⟨m, _⟩ <;> exact m
  rw [m1]
  refine vif_mk (fun g => by cases g) (fun _ => ?_)
  obtain ⟨base, rfl, b1, b2⟩ := baseOk_nat m1
  refine k93 L H hl ⟨b1, b2⟩ (fun hm => ⟨_, _, rfl, vif_mk (fun _ => ?_) (fun g => absurd (by simpa using g) hm)⟩) fun hm q10 qs10 h9 L9 => ⟨_, _, rfl, vif_mk (fun g => by simp at g) (fun _ => ?_)⟩
  · rcases hrest with ⟨_, m2, m3⟩ | ⟨_, m2, _⟩ | ⟨_, m2, _⟩
    · rw [m3] at h0; exact h0 m2 _ (.refl _)
    · exact absurd m2 hm
    · exact absurd m2 hm
  obtain ⟨hok, hlm⟩ := mayE_ok.1 hm
  refine z85 (H.mono L9.ext) (by omega) fun h13 x13 => ⟨_, rfl, vif_mk (fun g => ?_) (fun g => ?_)⟩
  · simp only [Bool.not_eq_true', decide_eq_false_iff_not] at g
    rcases hrest with ⟨_, m2, m3⟩ | ⟨_, _, m2, m3⟩ | ⟨_, _, m2, _⟩
    · exact absurd hm m2
    · rw [m3] at h0; exact h0 (by omega) _ (L9.ext.trans x13)
    · exact absurd m2 g
  have g : SortedL l := by simpa using g
  have h1 := h1 base rfl b1 b2 hm g
  generalize hS : sectors base l = S at *
  have h64 : ∀ x ∈ S, x.length = 64 := by rw [← hS]; exact sectors_len64 hok hlm
  have hSl : S.length ≤ 40000 := by
    rw [← hS, sectors_len]
    have := packG_len hok; have := idx_len hok; omega
  have x0 : Ext h h13 := L9.ext.trans x13
  have I13 : LlsB byE h13 q10 S h.length h9.length := (LL.llsB L9).keeps (X := fun _ => False) (keeps_of_ext x13) (fun _ _ _ h => h)
  have lI := I13.len
  have R13 := R.grow x0
  refine d95 R13 fun b h16 ow16 R16 S16 => ⟨_, rfl, ?_⟩
  have h1 := h1 b
  unfold DS.wr at h1
  refine vif_mk (fun g => ?_) (fun g => ?_)
  · have g : ¬ (D.create s b).1 = 0 := by simpa using g
    rw [if_neg g] at h1
    exact h1 _ _ (fun hc => absurd hc g) R16 ((DStep.ext x0).trans S16)
  have g : (D.create s b).1 = 0 := by simpa using g
  rw [if_pos g] at h1
  have fresh : ∀ y ∈ D.files, y.b ≠ b := by
    obtain ⟨_, _, _, _, C16⟩ := R16
    have hb := C16.blocks
    rw [create_files g, List.map_append, List.nodup_append] at hb
    intro y hy hc
    exact hb.2.2 y.b (List.mem_map_of_mem hy) b (by simp [mkF]) hc
  have h1 := fun h' ow' => h1 h' ow' (fun _ => fresh)
  have hpl0 : (D.create s b).2.pends.length ≤ 900000 := by rw [create_pends]; exact hpl
  generalize (D.create s b).2 = D0 at *
  have hown : ∀ (ow' : Roles) (h' : Heap), DStep ow h13 ow' h' → ∀ c, h.length ≤ c → c < h9.length → ow' c = none := fun ow' h' st c c1 c2 => by
    cases hc : ow' c with
    | none => rfl
    | some r =>
      exfalso
      rcases st.own c (by rw [hc]; simp) with h2 | h2
      · have := R.live c h2; omega
      · have := x13.len; omega
  have hXs : ∀ (ow' : Roles) (h' : Heap), DStep ow h13 ow' h' → ∀ c, h.length ≤ c → c < h9.length → ¬ dsk ow' c := fun ow' h' st c c1 c2 hc => hc (hown ow' h' st c c1 c2)
  refine ⟨fun xs h21 => ∃ (i : Nat) (ow21 : Roles) (E : DS), xs = [.int .i64 i] ∧ i ≤ S.length ∧ appAll s (S.take i) D0 = (0, E) ∧ DiskR h21 ow21 p E ∧ DStep ow h13 ow21 h21 ∧ LlsB byE h21 q10 S h.length h9.length,
    fun xs _ => match xs with | [.int _ i] => (S.length - i).toNat | _ => 0, ⟨0, ow16, D0, rfl, by omega, rfl, R16, S16, I13.keeps S16.keeps (fun c c1 c2 hc => by have := R.live c hc; omega)⟩, ?_⟩
  rintro n18 h21 ⟨i, ow21, E, hx, hi, hE, R21, S21, I21⟩
  simp only [List.cons.injEq, AV.int.injEq, true_and, and_true] at hx
  subst hx
  have htl : (S.take i).length = i := by rw [List.length_take]; omega
  have hple : E.pends.length ≤ 1000000 := by
    have := appAll_pends (s := s) (l := S.take i) (D := D0)
    rw [hE, htl] at this
    simp only at this
    omega
  refine vif_mk (fun g2 => ?_) (fun g2 => ?_)
  · replace g2 := of_decide_eq_true g2
    refine I21.idx (by omega) (by omega) fun p22 q23 x hx hc Hx hxb => ⟨q23, hc, ?_⟩
    have hx' : S[i]? = some x := by simpa using hx
    refine d96 R21 Hx (fun t ht => hown ow21 h21 S21 _ (hxb t ht).1 (hxb t ht).2) hple fun h25 ow25 R25 S25 => ⟨_, rfl, ?_⟩
    refine vif_mk (fun g3 => ?_) (fun g3 => ?_)
    · have g3 : (E.append s x).1 ≠ 0 := by simpa using g3
      have hst := appAll_stop hE hx' g3
      rw [hst, if_neg g3] at h1
      exact h1 _ _ R25 ((DStep.ext x0).trans (S21.trans S25))
    · have g3 : (E.append s x).1 = 0 := by simpa using g3
      rw [wrapK_i64 ⟨by omega, by omega⟩]
      exact ⟨trivial, ⟨i + 1, ow25, _, by simp, by omega, appAll_go hE hx' g3, R25, S21.trans S25, I21.keeps S25.keeps (hXs ow21 h21 S21)⟩, by simp only; omega⟩
  · replace g2 := of_decide_eq_false g2
    have : i = S.length := by omega
    subst this
    rw [List.take_length] at hE
    rw [hE, if_pos rfl] at h1
    exact d97 R21 hple fun h28 ow28 R28 S28 => ⟨_, rfl, h1 _ _ R28 ((DStep.ext x0).trans (S21.trans S28))⟩)
end
end
end Go.Proofs.YtnglhicedhcpbaaGreatDoor



namespace Go.Proofs.YtnglhicedhcpbaaGreatDoor
open Go.Ab
open Go.Num hiding Bs snoc_ind
open Go.Ent Go.Seg
open Go.Page hiding Bs get
open Go.Dsk hiding Bs
set_option linter.unusedVariables false
set_option linter.unusedSimpArgs false
theorem mayS_ok {base : Nat} {l : List Ent} (hb : baseOk base = true) (hm : mayE l = 0) (hs : SortedL l) : mayS base l = 0 := by
  unfold mayS
  rw [hb, if_neg (by simp), if_neg (by simp [hm]), if_pos hs]
theorem map_pad : ∀ {l : List Bs}, (∀ x ∈ l, x.length = 64) → l.map pad = l
  | [], _ => rfl
  | y :: l, h => by rw [List.map_cons, pad_self (h y (by simp)), map_pad (fun x hx => h x (by simp [hx]))]
section
variable {h : Heap} {Q : AV → Heap → Prop}
end
def ptrE : Enc Nat := ⟨1, fun b => [.ptr (some ⟨b, 0⟩)], fun _ => rfl, by omega, fun _ => rfl⟩
structure SegW (h : Heap) (dp k sp : Nat) (q : Option SL) : Prop where
  at' : h[sp]? = some (segC dp (nameK k) (baseK k) (cntK k) q)
  hd : Apd entE h q (headsK k)
theorem SegW.keeps {h h' : Heap} {dp k sp : Nat} {q : Option SL} {X : Nat → Prop} (S : SegW h dp k sp q) (K : Keeps X h h') (h1 : ¬ X sp) (h2 : ∀ t, q = some t → ¬ X t.b) : SegW h' dp k sp q :=
  ⟨K _ _ h1 S.at', S.hd.keeps K h2⟩
structure NW (h0 h : Heap) (ow : Roles) (dp a : Nat) (qS qL : Option SL) (fs : List FA) (sps : List Nat) (ls : List (Option SL)) (kf k : Nat) : Prop where
  ext : Ext h0 h
  disk : DiskR h ow dp (calmD fs 1000)
  fl : fs.length = kf
  fn : ∀ (j : Nat) (f : FA), fs[j]? = some f → f.name = nameK j ∧ f.now = SK j ∧ f.safe = SK j
  sl : sps.length = k
  cell : h[a]? = some (.cells [.ptr (some ⟨dp, 0⟩), .sl qS, .sl qL] true)
  aS : Apd ptrE h qS sps
  aL : Apd slE h qL ls
  ll : ls.length ≤ 10
  sS : ∀ t, qS = some t → ow t.b = none ∧ t.b ≠ a ∧ h0.length ≤ t.b
  sL : ∀ t, qL = some t → ow t.b = none ∧ t.b ≠ a ∧ h0.length ≤ t.b
  sSL : ∀ t u, qS = some t → qL = some u → t.b ≠ u.b
  own : ow a = none
  new : h0.length ≤ a
  old : ∀ b, ow b ≠ none → h0.length ≤ b
  seg : ∀ (j sp : Nat), sps[j]? = some sp → ∃ q, SegW h dp j sp q ∧ (∀ b, (b = sp ∨ ∃ t, q = some t ∧ t.b = b) → ow b = none ∧ b ≠ a ∧ h0.length ≤ b ∧ (∀ t, qS = some t → b ≠ t.b) ∧ (∀ t, qL = some t → b ≠ t.b))
section
variable {h h' : Heap} {Q : AV → Heap → Prop}
theorem k72 (hQ : ∀ q h', Ext h h' → (∀ (k : Nat) (K : PA → Prop), k < 3 → (∀ p, cellsAt h' p 1 = some [.str (nameK k)] → K p) → vIdx q (k : Nat) 1 K) → Q (.sl q) h') : AC Tryz.prog 72 [] h Q := ac72 (by
  unfold vc72 PNew
  refine hQ _ _ (.app _ _) fun k K hk hK => ?_
  refine ⟨by omega, by simp only; omega, hK _ ?_⟩
  have hb : (h ++ [Blk.cells [.str [97], .str [98], .str [99]] true])[h.length]? = some (.cells [.str [97], .str [98], .str [99]] true) := by simp
  match k, hk with
  | 0, _ => rw [cellsAt_mk (p := ⟨h.length, 0 + ((0 : Nat) : Int).toNat * 1⟩) hb (by simp)]; rfl
  | 1, _ => rw [cellsAt_mk (p := ⟨h.length, 0 + ((1 : Nat) : Int).toNat * 1⟩) hb (by simp)]; rfl
  | 2, _ => rw [cellsAt_mk (p := ⟨h.length, 0 + ((2 : Nat) : Int).toNat * 1⟩) hb (by simp)]; rfl)
variable {h0 : Heap} {ow : Roles} {dp a k kf : Nat} {qS qL : Option SL} {fs : List FA} {sps : List Nat} {ls : List (Option SL)}
theorem NW.grow (W : NW h0 h ow dp a qS qL fs sps ls kf k) (x : Ext h h') : NW h0 h' ow dp a qS qL fs sps ls kf k :=
  { W with
    ext := W.ext.trans x
    disk := W.disk.grow x
    cell := x _ _ W.cell
    aS := W.aS.ext x
    aL := W.aL.ext x
    seg := fun j sp hj => let ⟨q, s, r⟩ := W.seg j sp hj; ⟨q, s.keeps (X := fun _ => False) (keeps_of_ext x) (fun h => h) (fun _ _ h => h), r⟩ }
theorem nameK_ne {i j : Nat} (hi : i < 3) (hj : j < 3) (h : i ≠ j) : nameK i ≠ nameK j := by
  match i, hi, j, hj with
  | 0, _, 0, _ | 1, _, 1, _ | 2, _, 2, _ => exact absurd rfl h
  | 0, _, 1, _ | 0, _, 2, _ | 1, _, 0, _ | 1, _, 2, _ | 2, _, 0, _ | 2, _, 1, _ => decide
theorem nameK_may {k : Nat} (hk : k < 3) : mayN (nameK k) = true := by
  match k, hk with
  | 0, _ | 1, _ | 2, _ => rfl
theorem used_le : ∀ {fs : List FA} {c : Nat}, (∀ f ∈ fs, f.now.length ≤ c) → (fs.map (·.now.length)).sum ≤ c * fs.length
  | [], c, _ => by simp
  | f :: fs, c, h => by
    have h1 := h f (by simp)
    have h2 := used_le (fs := fs) (c := c) (fun g hg => h g (by simp [hg]))
    simp only [List.map_cons, List.sum_cons, List.length_cons, Nat.mul_add, Nat.mul_one]
    omega
theorem SK64 {k : Nat} (hk : k < 3) : ∀ x ∈ SK k, x.length = 64 := by
  have h1 := cntK_le hk
  exact sectors_len64 (ents_ok (by omega)) (by rw [ents_len]; omega)
theorem NW.write (W : NW h0 h ow dp a qS qL fs sps ls k k) (L : Laid h) (hk : k < 3) {q : Option SL} (H : HasL entE h q (ents (cntK k)))
    (hQ : ∀ b h' ow', NW h0 h' ow' dp a qS qL (fs ++ [⟨b, nameK k, SK k, SK k⟩]) sps ls (k + 1) k → DStep ow h ow' h' → Q (.int .i64 0) h') : AC Tryz.prog 25 [.ptr (some ⟨dp, 0⟩), .str (nameK k), .int .i64 (baseK k : Nat), .sl q] h Q := by
  have hc := cntK_le hk
  have hok := ents_ok (n := cntK k) (by omega)
  have hm : mayE (ents (cntK k)) = 0 := mayE_ok.2 ⟨hok, by rw [ents_len]; omega⟩
  have hbo : baseOk (baseK k : Int) = true := decide_eq_true ⟨by unfold baseK; omega, by unfold baseK; omega⟩
  have hnames : ∀ y ∈ fs, y.name ≠ nameK k := fun y hy => by
    obtain ⟨j, hj⟩ := List.getElem?_of_mem hy
    have hjl := (List.getElem?_eq_some_iff.1 hj).1
    rw [W.fl] at hjl
    rw [(W.fn j y hj).1]
    exact nameK_ne (by omega) hk (by omega)
  refine k25D L W.disk (by simp [calmD]) H (by rw [ents_len]; omega) (fun hn => absurd (mayS_ok hbo hm ents_sorted) hn) fun base' he _ _ _ _ b h' ow' hfr R' S' => ?_
  obtain rfl : baseK k = base' := by omega
  have hcr : ((calmD fs 1000).create (nameK k) b).1 = 0 := by
    unfold DS.create
    have hnone : (calmD fs 1000).find (nameK k) = none := by
      unfold DS.find calmD
      exact List.find?_eq_none.2 (fun x hx => by simpa using hnames x hx)
    rw [if_neg (by simp [nameK_may hk]), if_neg (by simp [calmD]), if_neg (by simp [hnone]), if_neg (by simp [calmD]; have := W.fl; omega)]
    rfl
  have hb := hfr hcr
  have hw := wr_calm (lim := 1000) (S := SK k) (b := b) (nameK_may hk) hnames hb (by have := W.fl; omega) (SK64 hk) (by
    have h1 := used_le (fs := fs) (c := 213) (fun f hf => by
      obtain ⟨j, hj⟩ := List.getElem?_of_mem hf
      have hjl := (List.getElem?_eq_some_iff.1 hj).1
      rw [W.fl] at hjl
      rw [(W.fn j f hj).2.1]
      exact SK_len (by omega))
    rw [W.fl] at h1
    have h2 := SK_len hk
    omega)
  have e : sectors (baseK k) (ents (cntK k)) = SK k := rfl
  rw [e, hw] at R' ⊢
  have live := W.disk.live
  have keep : ∀ x, ow x = none → ¬ dsk ow x := fun x hx hc => hc hx
  have non : ∀ x, x < h.length → ow x = none → ow' x = none := fun x hx ho => by
    cases hc : ow' x with
    | none => rfl
    | some r =>
      exfalso
      rcases S'.own x (by rw [hc]; simp) with h1 | h1
      · exact h1 ho
      · omega
  refine hQ b h' ow' ⟨?_, R', by rw [List.length_append, W.fl]; rfl, ?_, W.sl, S'.keeps _ _ (keep _ W.own) W.cell, W.aS.keeps S'.keeps (fun t ht => keep _ (W.sS t ht).1), W.aL.keeps S'.keeps (fun t ht => keep _ (W.sL t ht).1), W.ll, ?_, ?_, W.sSL, non _ (lt_of_get W.cell) W.own, W.new, ?_, ?_⟩ S'
  · intro c B hB
    refine S'.keeps _ _ (fun hc => ?_) (W.ext _ _ hB)
    have := W.old c hc; have := lt_of_get hB; omega
  · intro j f hj
    rcases Nat.lt_or_ge j fs.length with h1 | h1
    · rw [List.getElem?_append_left h1] at hj
      exact W.fn j f hj
    · rw [List.getElem?_append_right h1] at hj
      have h2 : j - fs.length = 0 := by
        have := (List.getElem?_eq_some_iff.1 hj).1
        simpa using this
      rw [h2] at hj
      cases hj
      have : j = k := by have := W.fl; omega
      subst this
      exact ⟨rfl, rfl, rfl⟩
  · intro t ht
    obtain ⟨a1, a2, a3⟩ := W.sS t ht
    exact ⟨non _ (HasL.live W.aS.hasL t ht) a1, a2, a3⟩
  · intro t ht
    obtain ⟨a1, a2, a3⟩ := W.sL t ht
    exact ⟨non _ (HasL.live W.aL.hasL t ht) a1, a2, a3⟩
  · intro c hc
    rcases S'.own c hc with h1 | h1
    · exact W.old c h1
    · have := W.ext.len; omega
  · intro j sp hj
    obtain ⟨q, Sg, sep⟩ := W.seg j sp hj
    refine ⟨q, Sg.keeps S'.keeps (keep _ (sep sp (.inl rfl)).1) (fun t ht => keep _ (sep t.b (.inr ⟨t, ht, rfl⟩)).1), fun c hc => ?_⟩
    obtain ⟨a1, a2, a3, a4, a5⟩ := sep c hc
    refine ⟨non c ?_ a1, a2, a3, a4, a5⟩
    rcases hc with rfl | ⟨t, ht, rfl⟩
    · exact lt_of_get Sg.at'
    · exact HasL.live Sg.hd.hasL t ht
theorem NW.lies (W : NW h0 h ow dp a qS qL fs sps ls kf k) {j : Nat} (hj : j < kf) (hk : kf ≤ 3) : Lies (calmD fs 1000) (nameK j) (SK j) := by
  have hf : fs[j]? = some (fs[j]'(by rw [W.fl]; exact hj)) := List.getElem?_eq_getElem _
  generalize fs[j]'(by rw [W.fl]; exact hj) = f at hf
  obtain ⟨h1, h2, _⟩ := W.fn j f hf
  refine ⟨rfl, f, ?_, ?_⟩
  · obtain ⟨_, _, _, _, C⟩ := W.disk
    have hn : (fs.map (·.name)).Nodup := C.names
    rw [← h1]
    unfold DS.find calmD
    simp only
    have hfm := List.mem_of_getElem? hf
    cases hc : fs.find? (fun g => g.name == f.name) with
    | none => exact absurd (List.find?_eq_none.1 hc f hfm) (by simp)
    | some g =>
      have hg1 := List.mem_of_find?_eq_some hc
      have hg2 : g.name = f.name := by simpa using List.find?_some hc
      rw [uniq_n hn hg1 hfm hg2]
  · rw [h2, map_pad (SK64 (by omega))]
theorem NW.pushS {sp : Nat} {q : Option SL} {K : Heap → Prop} (W : NW h0 h ow dp a qS qL fs sps ls kf k) (hk : k ≤ 3) (Sg : SegW h dp k sp q) (sep : ∀ b, (b = sp ∨ ∃ t, q = some t ∧ t.b = b) → ow b = none ∧ b ≠ a ∧ h0.length ≤ b ∧ (∀ t, qS = some t → b ≠ t.b) ∧ (∀ t, qL = some t → b ≠ t.b))
    (hK : ∀ q43 h45, NW h0 h45 ow dp a q43 qL fs (sps ++ [sp]) ls kf (k + 1) → K h45) : PAppendS 1 8 qS (some ⟨h.length, 0, 1, 1, 0⟩) (h ++ [.cells [.ptr (some ⟨sp, 0⟩)] true]) fun q43 h44 => PStore h44 ⟨a, 1⟩ [.sl q43] K := by
  have x : Ext h (h ++ [Blk.cells [.ptr (some ⟨sp, 0⟩)] true]) := .app _ _
  have W1 := W.grow x
  have Sg1 := Sg.keeps (X := fun _ => False) (keeps_of_ext x) (fun h => h) (fun _ _ h => h)
  have hal := lt_of_get W.cell
  refine Apd.append (E := ptrE) W1.aS (HasL.new (E := ptrE) (l := [sp]) (n := 1) rfl rfl) (by rw [W.sl]; simp; omega) fun q43 h44 A44 K44 l44 f44 => ?_
  have fresh : ∀ o, q43 = some o → h.length + 1 ≤ o.b ∨ ∃ u, qS = some u ∧ u.b = o.b := fun o ho => by
    have := f44 o ho
    simpa using this
  have na : ¬ (∃ u, qS = some u ∧ u.b = a) := fun ⟨u, hu, hb⟩ => (W.sS u hu).2.1 hb
  have b44 := K44 _ _ na W1.cell
  have hal44 := lt_of_get b44
  have K2 : Keeps (fun b => b = a) h44 (h44.set a (.cells [.ptr (some ⟨dp, 0⟩), .sl q43, .sl qL] true)) := keeps_set rfl
  have KK : Keeps (fun b => b = a ∨ ∃ u, qS = some u ∧ u.b = b) (h ++ [Blk.cells [.ptr (some ⟨sp, 0⟩)] true]) (h44.set a (.cells [.ptr (some ⟨dp, 0⟩), .sl q43, .sl qL] true)) := fun c B hc hB => K2 _ _ (fun h => hc (.inl h)) (K44 _ _ (fun h => hc (.inr h)) hB)
  have f43 : ∀ t, q43 = some t → ow t.b = none ∧ t.b ≠ a ∧ h0.length ≤ t.b := fun t ht => by
    rcases fresh t ht with h1 | ⟨u, hu, hb⟩
    · refine ⟨?_, by omega, by have := W.ext.len; omega⟩
      cases ho : ow t.b with
      | none => rfl
      | some r => have := W.disk.live t.b (by rw [ho]; simp); omega
    · rw [← hb]; exact W.sS u hu
  have nw : ∀ c, ow c = none → c ≠ a → (∀ t, qS = some t → c ≠ t.b) → ¬ (c = a ∨ ∃ u, qS = some u ∧ u.b = c) := fun c _ h1 h2 hc => by
    rcases hc with hc | ⟨u, hu, hb⟩
    · exact h1 hc
    · exact h2 u hu hb.symm
  have owned : ∀ c, ow c ≠ none → ¬ (c = a ∨ ∃ u, qS = some u ∧ u.b = c) := fun c ho hc => by
    rcases hc with rfl | ⟨u, hu, rfl⟩
    · exact ho W.own
    · exact ho (W.sS u hu).1
  have := store6 (o := 1) (xs := [.sl q43]) (K := K) b44 (by simp)
  rw [Nat.zero_add] at this
  have ln : h.length + 1 ≤ h44.length := by simpa using l44
  have sl43 : ∀ t u, q43 = some t → qL = some u → t.b ≠ u.b := fun t u ht hu => by
    rcases fresh t ht with h1 | ⟨v, hv, hb⟩
    · have := HasL.live W.aL.hasL u hu; omega
    · rw [← hb]; exact W.sSL v u hv hu
  refine this (hK q43 _ ⟨?_, ?_, W.fl, W.fn, by rw [List.length_append, W.sl]; rfl, ?_, ?_, ?_, W.ll, f43, W.sL, sl43, W.own, W.new, W.old, ?_⟩)
  · intro c B hB
    refine KK _ _ (fun hc => ?_) (W1.ext _ _ hB)
    have hcl := lt_of_get hB
    rcases hc with rfl | ⟨u, hu, rfl⟩
    · have := W.new; omega
    · have := (W.sS u hu).2.2; omega
  · refine W1.disk.ext (fun c B hc hB => KK _ _ (owned c hc) hB) (by rw [List.length_set]; simp; omega)
  · rw [show splice [AV.ptr (some ⟨dp, 0⟩), .sl qS, .sl qL] 1 [.sl q43] = [AV.ptr (some ⟨dp, 0⟩), .sl q43, .sl qL] from rfl, List.getElem?_set_self hal44]
  · exact A44.keeps K2 fun t ht hc => (f43 t ht).2.1 hc
  · exact W1.aL.keeps KK fun t ht => nw _ (W.sL t ht).1 (W.sL t ht).2.1 fun u hu hc => W.sSL u t hu ht hc.symm
  · intro j sp' hj
    have key : ∀ (j sp' : Nat) (q' : Option SL), SegW (h ++ [Blk.cells [.ptr (some ⟨sp, 0⟩)] true]) dp j sp' q' → (∀ b, (b = sp' ∨ ∃ t, q' = some t ∧ t.b = b) → ow b = none ∧ b ≠ a ∧ h0.length ≤ b ∧ (∀ t, qS = some t → b ≠ t.b) ∧ (∀ t, qL = some t → b ≠ t.b) ∧ b < h.length) →
        ∃ q, SegW (h44.set a (.cells [.ptr (some ⟨dp, 0⟩), .sl q43, .sl qL] true)) dp j sp' q ∧ (∀ b, (b = sp' ∨ ∃ t, q = some t ∧ t.b = b) → ow b = none ∧ b ≠ a ∧ h0.length ≤ b ∧ (∀ t, q43 = some t → b ≠ t.b) ∧ (∀ t, qL = some t → b ≠ t.b)) := by
      intro j sp' q' S' sep'
      refine ⟨q', S'.keeps KK ?_ (fun t ht => ?_), fun c hc => ?_⟩
      · obtain ⟨a1, a2, _, a4, _⟩ := sep' sp' (.inl rfl)
        exact nw _ a1 a2 a4
      · obtain ⟨a1, a2, _, a4, _⟩ := sep' t.b (.inr ⟨t, ht, rfl⟩)
        exact nw _ a1 a2 a4
      · obtain ⟨a1, a2, a3, a4, a5, a6⟩ := sep' c hc
        refine ⟨a1, a2, a3, fun t ht => ?_, a5⟩
        rcases fresh t ht with h1 | ⟨v, hv, hb⟩
        · omega
        · rw [← hb]; exact a4 v hv
    rcases Nat.lt_or_ge j sps.length with h1 | h1
    · rw [List.getElem?_append_left h1] at hj
      obtain ⟨q', S0, sep0⟩ := W.seg j sp' hj
      refine key j sp' q' (S0.keeps (X := fun _ => False) (keeps_of_ext x) (fun h => h) (fun _ _ h => h)) fun c hc => ?_
      obtain ⟨a1, a2, a3, a4, a5⟩ := sep0 c hc
      refine ⟨a1, a2, a3, a4, a5, ?_⟩
      rcases hc with rfl | ⟨t, ht, rfl⟩
      · exact lt_of_get S0.at'
      · exact HasL.live S0.hd.hasL t ht
    · rw [List.getElem?_append_right h1] at hj
      have h2 : j - sps.length = 0 := by
        have := (List.getElem?_eq_some_iff.1 hj).1
        simpa using this
      rw [h2] at hj
      cases hj
      have : j = k := by have := W.sl; omega
      subst this
      refine key j sp q Sg1 fun c hc => ?_
      obtain ⟨a1, a2, a3, a4, a5⟩ := sep c hc
      refine ⟨a1, a2, a3, a4, a5, ?_⟩
      rcases hc with rfl | ⟨t, ht, rfl⟩
      · exact lt_of_get Sg.at'
      · exact HasL.live Sg.hd.hasL t ht
end
section
variable {h h' : Heap} {Q : AV → Heap → Prop} {h0 : Heap} {ow : Roles} {dp a k kf : Nat} {qS qL : Option SL} {fs : List FA} {sps : List Nat} {ls : List (Option SL)}
theorem NW.pushL {s : Option SL} {K : Heap → Prop} (W : NW h0 h ow dp a qS qL fs sps ls kf k) (hl : ls.length ≤ 9)
    (hK : ∀ q49 h51, NW h0 h51 ow dp a qS q49 fs sps (ls ++ [s]) kf k → K h51) : PAppendS 1 24 qL (some ⟨h.length, 0, 1, 1, 0⟩) (h ++ [.cells [.sl s] true]) fun q49 h50 => PStore h50 ⟨a, 2⟩ [.sl q49] K := by
  have x : Ext h (h ++ [Blk.cells [.sl s] true]) := .app _ _
  have W1 := W.grow x
  have hal := lt_of_get W.cell
  refine Apd.append (E := slE) W1.aL (HasL.new (E := slE) (l := [s]) (n := 1) rfl rfl) (by simp; omega) fun q43 h44 A44 K44 l44 f44 => ?_
  have fresh : ∀ o, q43 = some o → h.length + 1 ≤ o.b ∨ ∃ u, qL = some u ∧ u.b = o.b := fun o ho => by
    have := f44 o ho
    simpa using this
  have na : ¬ (∃ u, qL = some u ∧ u.b = a) := fun ⟨u, hu, hb⟩ => (W.sL u hu).2.1 hb
  have b44 := K44 _ _ na W1.cell
  have hal44 := lt_of_get b44
  have K2 : Keeps (fun b => b = a) h44 (h44.set a (.cells [.ptr (some ⟨dp, 0⟩), .sl qS, .sl q43] true)) := keeps_set rfl
  have KK : Keeps (fun b => b = a ∨ ∃ u, qL = some u ∧ u.b = b) (h ++ [Blk.cells [.sl s] true]) (h44.set a (.cells [.ptr (some ⟨dp, 0⟩), .sl qS, .sl q43] true)) := fun c B hc hB => K2 _ _ (fun h => hc (.inl h)) (K44 _ _ (fun h => hc (.inr h)) hB)
  have f43 : ∀ t, q43 = some t → ow t.b = none ∧ t.b ≠ a ∧ h0.length ≤ t.b := fun t ht => by
    rcases fresh t ht with h1 | ⟨u, hu, hb⟩
    · refine ⟨?_, by omega, by have := W.ext.len; omega⟩
      cases ho : ow t.b with
      | none => rfl
      | some r => have := W.disk.live t.b (by rw [ho]; simp); omega
    · rw [← hb]; exact W.sL u hu
  have nw : ∀ c, c ≠ a → (∀ t, qL = some t → c ≠ t.b) → ¬ (c = a ∨ ∃ u, qL = some u ∧ u.b = c) := fun c h1 h2 hc => by
    rcases hc with hc | ⟨u, hu, hb⟩
    · exact h1 hc
    · exact h2 u hu hb.symm
  have owned : ∀ c, ow c ≠ none → ¬ (c = a ∨ ∃ u, qL = some u ∧ u.b = c) := fun c ho hc => by
    rcases hc with rfl | ⟨u, hu, rfl⟩
    · exact ho W.own
    · exact ho (W.sL u hu).1
  have := store6 (o := 2) (xs := [.sl q43]) (K := K) b44 (by simp)
  rw [Nat.zero_add] at this
  have ln : h.length + 1 ≤ h44.length := by simpa using l44
  have sl43 : ∀ t u, qS = some t → q43 = some u → t.b ≠ u.b := fun t u ht hu => by
    rcases fresh u hu with h1 | ⟨v, hv, hb⟩
    · have := HasL.live W.aS.hasL t ht; omega
    · rw [← hb]; exact W.sSL t v ht hv
  refine this (hK q43 _ ⟨?_, ?_, W.fl, W.fn, W.sl, ?_, ?_, ?_, by simp; omega, W.sS, f43, sl43, W.own, W.new, W.old, ?_⟩)
  · intro c B hB
    refine KK _ _ (fun hc => ?_) (W1.ext _ _ hB)
    have hcl := lt_of_get hB
    rcases hc with rfl | ⟨u, hu, rfl⟩
    · have := W.new; omega
    · have := (W.sL u hu).2.2; omega
  · refine W1.disk.ext (fun c B hc hB => KK _ _ (owned c hc) hB) (by rw [List.length_set]; simp; omega)
  · rw [show splice [AV.ptr (some ⟨dp, 0⟩), .sl qS, .sl qL] 2 [.sl q43] = [AV.ptr (some ⟨dp, 0⟩), .sl qS, .sl q43] from rfl, List.getElem?_set_self hal44]
  · exact W1.aS.keeps KK fun t ht => nw _ (W.sS t ht).2.1 fun u hu => W.sSL t u ht hu
  · exact A44.keeps K2 fun t ht hc => (f43 t ht).2.1 hc
  · intro j sp' hj
    obtain ⟨q', S0, sep0⟩ := W.seg j sp' hj
    have S1 := S0.keeps (X := fun _ => False) (keeps_of_ext x) (fun h => h) (fun _ _ h => h)
    refine ⟨q', S1.keeps KK ?_ (fun t ht => ?_), fun c hc => ?_⟩
    · obtain ⟨_, a2, _, _, a5⟩ := sep0 sp' (.inl rfl)
      exact nw _ a2 a5
    · obtain ⟨_, a2, _, _, a5⟩ := sep0 t.b (.inr ⟨t, ht, rfl⟩)
      exact nw _ a2 a5
    · obtain ⟨a1, a2, a3, a4, a5⟩ := sep0 c hc
      have a6 : c < h.length := by
        rcases hc with rfl | ⟨t, ht, rfl⟩
        · exact lt_of_get S0.at'
        · exact HasL.live S0.hd.hasL t ht
      refine ⟨a1, a2, a3, a4, fun t ht => ?_⟩
      rcases fresh t ht with h1 | ⟨v, hv, hb⟩
      · omega
      · rw [← hb]; exact a5 v hv
theorem ent_div {i : Nat} (hi : i < 200) : [AV.int .i64 0, .int .i64 0, .int .i64 (Int.tmod (i : Int) 200), .int .i64 (wrapK .i64 (Int.tdiv (i : Int) 200))] = entE.f (ent0 i) := by
  have e1 : Int.tmod (i : Int) 200 = (i : Int) := by rw [Int.tmod_eq_emod_of_nonneg (by omega)]; omega
  have e2 : Int.tdiv (i : Int) 200 = 0 := by rw [Int.tdiv_eq_ediv_of_nonneg (by omega)]; omega
  rw [e1, e2, wrapK_i64 ⟨by omega, by omega⟩]
  rfl
theorem cnt_int {k : Nat} (hk : k < 3) : wrapK .i64 ((wrapK .i64 (10 * (wrapK .i64 ((wrapK .i64 ((wrapK .i64 (2 * (k : Int))) * (k : Int))) + 3)))) - 4) = (cntK k : Nat) := by
  match k, hk with
  | 0, _ | 1, _ | 2, _ => decide
theorem base_int {k : Nat} (hk : k < 3) : wrapK .i64 ((wrapK .i64 (100 * (k : Int))) + 1) = (baseK k : Nat) := by
  match k, hk with
  | 0, _ | 1, _ | 2, _ => decide
set_option maxHeartbeats 1000000 in
theorem k67 (L : Laid h) (hQ : ∀ a h' ow dp qS qL fs sps ls, NW h h' ow dp a qS qL fs sps ls 3 3 → Q (.ptr (some ⟨a, 0⟩)) h') : AC Tryz.prog 67 [] h Q := ac67 (by
  unfold vc67 PNew
  refine d26 (by omega) (by omega) fun ow R0 B0 => ⟨_, _, rfl, vif_mk (fun g => by simp at g) (fun _ => vif_mk (fun g => by simp at g) (fun _ => ?_))⟩
  have x1 : Ext h (h ++ [Blk.mp [] 0] ++ [Blk.cells [.map (some h.length), .sl none, .int .i64 1000, .int .i64 (-1), .bool false] true]) := (Ext.app _ _).trans (Ext.app _ _)
  generalize h ++ [Blk.mp [] 0] ++ [Blk.cells [.map (some h.length), .sl none, .int .i64 1000, .int .i64 (-1), .bool false] true] = h2 at *
  generalize h.length + 1 = dp at *
  have x6 : Ext h2 (h2 ++ [Blk.cells [.ptr (some ⟨dp, 0⟩), .sl none, .sl none] true]) := .app _ _
  have W0 : NW h (h2 ++ [Blk.cells [.ptr (some ⟨dp, 0⟩), .sl none, .sl none] true]) ow dp h2.length none none [] [] [] 0 0 := by
    refine ⟨x1.trans x6, R0.grow x6, rfl, by simp, rfl, by simp, .inl ⟨rfl, rfl⟩, .inl ⟨rfl, rfl⟩, by simp, by simp, by simp, by simp, ?_, x1.len, B0, by simp⟩
    cases ho : ow h2.length with
    | none => rfl
    | some r => have := R0.live h2.length (by rw [ho]; simp); omega
  generalize h2 ++ [Blk.cells [.ptr (some ⟨dp, 0⟩), .sl none, .sl none] true] = h6 at *
  generalize h2.length = a at *
  refine ⟨fun xs h10 => ∃ (k : Nat) (ow' : Roles) (qS qL : Option SL) (fs : List FA) (sps : List Nat) (ls : List (Option SL)), xs = [.int .i64 (k : Nat)] ∧ k ≤ 3 ∧ ls.length = k ∧ NW h h10 ow' dp a qS qL fs sps ls k k, fun xs _ => match xs with | [.int _ i] => (3 - i).toNat | _ => 0, ⟨0, ow, none, none, [], [], [], rfl, by omega, rfl, W0⟩, ?_⟩
  rintro n7 h10 ⟨k, ow', qS, qL, fs, sps, ls, hx, hk3, hll, W⟩
  simp only [List.cons.injEq, AV.int.injEq, true_and, and_true] at hx
  subst hx
  refine vif_mk (fun g => ?_) (fun g => ?_)
  rotate_left
  · have g : k = 3 := by have := of_decide_eq_false g; omega
    subst g
    exact hQ a h10 ow' dp qS qL fs sps ls W
  have hk : k < 3 := by have := of_decide_eq_true g; omega
  have hc := cntK_le hk
  rw [cnt_int hk]
  refine ⟨fun xs h15 => ∃ (q11 : Option SL) (i : Nat), xs = [.sl q11, .int .i64 (i : Nat)] ∧ i ≤ cntK k ∧ New entE h10 h15 q11 (ents i), fun xs _ => match xs with | [_, .int _ i] => (cntK k - i).toNat | _ => 0, ⟨none, 0, rfl, by omega, New.none⟩, ?_⟩
  rintro q11 n12 h15 ⟨q11', i, hx, hi, N15⟩
  simp only [List.cons.injEq, AV.sl.injEq, AV.int.injEq, true_and, and_true] at hx
  obtain ⟨rfl, rfl⟩ := hx
  refine vif_mk (fun g => ?_) (fun g => ?_)
  · replace g := of_decide_eq_true g
    rw [wrapK_i64 (n := (i : Int) + 1) ⟨by omega, by omega⟩]
    refine New.append (E := entE) (N15.ext (.app _ _)) (HasL.new (E := entE) (l := [ent0 i]) (n := 1) rfl (by rw [ent_div (by omega)]; simp [Enc.all])) (by rw [ents_len]; simp; omega) fun q18 h19 N19 => ?_
    rw [← ents_succ] at N19
    exact ⟨trivial, ⟨q18, i + 1, by simp, by omega, N19⟩, by simp only; omega⟩
  replace g := of_decide_eq_false g
  have hie : i = cntK k := by omega
  subst hie
  refine z59 (cntK k) (by rw [ents_len]; exact Nat.le_refl _) N15.hasL (by rw [ents_len]; omega) fun q22 h21 N21 => ⟨q22, rfl, ?_⟩
  rw [sortE_self ents_sorted] at N21
  refine k72 fun q25 h24 x24 hidx => ⟨q25, rfl, hidx k _ hk fun p hc26 => ⟨_, hc26, ?_⟩⟩
  rw [base_int hk]
  have x1024 := (N15.1.trans N21.1).trans x24
  have W24 := W.grow x1024
  have L24 := L.ext W24.ext
  refine W24.write L24 hk (N21.hasL.mono x24) fun b h29 ow29 W29 S29 => ⟨_, rfl, vif_mk (fun g => by simp at g) (fun _ => ?_)⟩
  refine k72 fun q33 h32 x32 hidx2 => ⟨q33, rfl, hidx2 k _ hk fun p hc34 => ⟨_, hc34, ?_⟩⟩
  have W32 := W29.grow x32
  have Z := W32.lies (j := k) (by omega) (by omega)
  have bK : 1 ≤ baseK k ∧ baseK k ≤ 1000 := by unfold baseK; omega
  have hop := openK hk
  have hSl := SK_len hk
  refine k18 (L.ext W32.ext) W32.disk Z bK.1 (by omega) (by omega) (fun hn => by rw [hop] at hn; cases hn) fun c heads sp q h37 ho O => ⟨_, _, rfl, vif_mk (fun g => by simp at g) (fun _ => vif_mk (fun g => by simp at g) (fun _ => ?_))⟩
  rw [hop] at ho; cases ho
  have W37 := W32.grow O.keep
  have spl := lt_of_get O.at'
  refine ⟨qS, ?_, ?_⟩
  · rw [cellsAt_mk (p := ⟨a, 1⟩) W37.cell (by simp)]; rfl
  have l32 := W32.disk.live
  have hn : ∀ b, h32.length ≤ b → ow29 b = none := fun b hb => by
    cases ho : ow29 b with
    | none => rfl
    | some r => have := l32 b (by rw [ho]; simp); omega
  refine W37.pushS (by omega) ⟨O.at', O.hd⟩ (fun b hb => ?_) fun q43 h45 W45 => ?_
  · have hb2 : h32.length ≤ b := by
      rcases hb with rfl | ⟨t, ht, rfl⟩
      · exact O.new
      · exact O.hq t ht
    refine ⟨hn b hb2, ?_, ?_, fun t ht => ?_, fun t ht => ?_⟩
    · have := lt_of_get W32.cell; omega
    · have := W32.ext.len; omega
    · have := HasL.live W32.aS.hasL t ht; omega
    · have := HasL.live W32.aL.hasL t ht; omega
  refine ⟨qL, ?_, ?_⟩
  · rw [cellsAt_mk (p := ⟨a, 2⟩) W45.cell (by simp)]; rfl
  refine W45.pushL (by omega) fun q49 h51 W51 => ?_
  rw [wrapK_i64 ⟨by omega, by omega⟩]
  exact ⟨trivial, ⟨k + 1, ow29, q43, q49, fs ++ [⟨b, nameK k, SK k, SK k⟩], sps ++ [sp], ls ++ [q22], by simp, by omega, by simp; omega, W51⟩, by simp only; omega⟩)
end
end Go.Proofs.YtnglhicedhcpbaaGreatDoor
namespace Go.Proofs.YtnglhicedhcpbaaGreatDoor
open Go.Ab
open Go.Num hiding Bs snoc_ind
open Go.Ent Go.Seg
open Go.Page hiding Bs get
open Go.Dsk hiding Bs
open Go.Pool hiding Bs Ents set_at Fr least
set_option linter.unusedVariables false
set_option linter.unusedSimpArgs false
def pageR (k : Nat) (n : Int) : Int × List Ent := if 0 ≤ n ∧ n < (headsK k).length then (0, ((packG (ents (cntK k)))[n.toNat]?).getD []) else (4, [])
theorem pageR_some {k : Nat} (hk : k < 3) {n : Int} (h0 : 0 ≤ n) (h1 : n < (headsK k).length) : ∃ g, (packG (ents (cntK k)))[n.toNat]? = some g ∧ pageR k n = (0, g) ∧ pageS (SK k) (baseK k) (headsK k) n.toNat = some g ∧ g ≠ [] ∧ g.length ≤ 10 := by
  rw [headsK_len hk] at h1
  have hl : n.toNat < (packG (ents (cntK k))).length := by omega
  refine ⟨_, List.getElem?_eq_getElem hl, ?_, pageK hk (List.getElem?_eq_getElem hl), ?_⟩
  · unfold pageR
    rw [if_pos ⟨h0, by rw [headsK_len hk]; exact h1⟩, List.getElem?_eq_getElem hl]; rfl
  · have hp := pageK hk (List.getElem?_eq_getElem hl)
    exact ⟨(pageS_some hp).2.1, (packAt_some (pageS_some hp).1).1⟩
theorem pageR_len {k : Nat} (hk : k < 3) {n : Int} : (pageR k n).2.length ≤ 10 := by
  by_cases h : 0 ≤ n ∧ n < (headsK k).length
  · obtain ⟨g, _, e, _, _, hl⟩ := pageR_some hk h.1 h.2
    rw [e]; exact hl
  · unfold pageR; rw [if_neg h]; simp
section
variable {h0 hW h h' : Heap} {Q : AV → Heap → Prop} {ow : Roles} {dp a k kf sp : Nat} {qS qL q : Option SL} {fs : List FA} {sps : List Nat} {ls : List (Option SL)} {p fb mb : Nat} {P : PS}
theorem NW.keeps {X : Nat → Prop} (W : NW h0 h ow dp a qS qL fs sps ls kf k) (K : Keeps X h h') (hX : ∀ b, b < h.length → ¬ X b) (hl : h.length ≤ h'.length) : NW h0 h' ow dp a qS qL fs sps ls kf k :=
  W.grow fun b B hB => K b B (hX b (lt_of_get hB)) hB
theorem k16o {s : Bs} {base count : Nat} {heads : List Ent} {n : Int} (hs : h[sp]? = some (segC dp s base count q)) (H : HasL entE h q heads) (hn : ¬ (0 ≤ n ∧ n < heads.length)) (hQ : Q (.tup [.sl none, .int .i64 4]) h) : AC Tryz.prog 16 [.ptr (some ⟨sp, 0⟩), .int .i64 n] h Q := ac16 (by
  unfold vc16
  refine vif_mk (fun g => by simp at g) (fun _ => ⟨_, seg_at hs (k := 0) rfl, vif_mk (fun g => by simp at g) (fun _ => ?_)⟩)
  exact k15 hs H (fun _ => ⟨_, _, _, _, _, rfl, vif_mk (fun _ => hQ) (fun g => by simp at g)⟩) (fun e h1 he => absurd ⟨h1, by
    have := (List.getElem?_eq_some_iff.1 he).1; omega⟩ hn))
theorem NW.page {j : Nat} {n : Int} (W : NW h0 h ow dp a qS qL fs sps ls 3 3) (L : Laid h0) (hj : sps[j]? = some sp)
    (hE : (pageR j n).1 ≠ 0 → ∀ h', Ext h h' → Q (.tup [.sl none, .int .i64 (pageR j n).1]) h') (hQ : (pageR j n).1 = 0 → ∀ q h', Ext h h' → HasL entE h' q (pageR j n).2 → (∀ t, q = some t → h.length ≤ t.b) → Q (.tup [.sl q, .int .i64 0]) h') :
    AC Tryz.prog 16 [.ptr (some ⟨sp, 0⟩), .int .i64 n] h Q := by
  have hj3 : j < 3 := by rw [← W.sl]; exact (List.getElem?_eq_some_iff.1 hj).1
  obtain ⟨q, S, _⟩ := W.seg j sp hj
  by_cases hn : 0 ≤ n ∧ n < (headsK j).length
  · obtain ⟨g, h1, h2, h3, h4, h5⟩ := pageR_some hj3 hn.1 hn.2
    rw [h2] at hQ hE
    have Z := W.lies (j := j) hj3 (by omega)
    have hSl := SK_len hj3
    have hop := openS_some (openK hj3)
    obtain ⟨m, rfl⟩ := Int.eq_ofNat_of_zero_le hn.1
    refine k16 (L.ext W.ext) W.disk Z (by unfold baseK; omega) (by unfold baseK; omega) (by omega) S.at' S.hd.hasL hop.2 (by have := hn.2; omega) (fun hc => ?_) fun l q' h' hl x A f => ?_
    · simp only [Int.toNat_natCast] at h3
      rw [h3] at hc; cases hc
    · simp only [Int.toNat_natCast] at h3
      rw [h3] at hl; cases hl
      exact hQ rfl q' h' x A.hasL f
  · have e : pageR j n = (4, []) := by unfold pageR; rw [if_neg hn]
    rw [e] at hE
    exact k16o S.at' S.hd.hasL hn (hE (by simp) h (.refl _))
structure WP (h0 hW h : Heap) (ow : Roles) (dp a : Nat) (qS qL : Option SL) (fs : List FA) (sps : List Nat) (ls : List (Option SL)) (p fb mb : Nat) (P : PS) (N : Nat) : Prop where
  W : NW h0 hW ow dp a qS qL fs sps ls 3 3
  L : Laid h0
  K : Keeps (pbl p fb mb) hW h
  len : hW.length ≤ h.length
  new : ∀ b, pbl p fb mb b → hW.length ≤ b
  R : PoolR (entZ fun _ => False) h p fb mb P
  sm : P.sm N
  nl : N ≤ 1000000
theorem WP.now {N : Nat} (T : WP h0 hW h ow dp a qS qL fs sps ls p fb mb P N) : NW h0 h ow dp a qS qL fs sps ls 3 3 := T.W.keeps T.K (fun b hb hc => by have := T.new b hc; omega) T.len
theorem WP.segs {N : Nat} (T : WP h0 hW h ow dp a qS qL fs sps ls p fb mb P N) : cellsAt h ⟨a, 0 + 1⟩ 1 = some [.sl qS] := by
  rw [cells6 T.now.cell (by simp)]; rfl
theorem NW.idx {K : PA → Prop} {i : Int} (W : NW h0 h ow dp a qS qL fs sps ls 3 3) (h0' : 0 ≤ i) (h1 : i < 3) (hK : ∀ pp sp, sps[i.toNat]? = some sp → cellsAt h pp 1 = some [.ptr (some ⟨sp, 0⟩)] → K pp) : vIdx qS i 1 K :=
  HasL.idx (E := ptrE) W.aS.hasL h0' (by have := W.sl; omega) fun pp sp hs hc => hK pp sp hs hc
theorem WP.hold {N j : Nat} {n : Int} (T : WP h0 hW h ow dp a qS qL fs sps ls p fb mb P N) (hj : sps[j]? = some sp)
    (hQ : ∀ q' h', (N + 1 ≤ 1000000 → WP h0 hW h' ow dp a qS qL fs sps ls p fb mb (P.hold (nameK j) n (pageR j n)).2.2 (N + 1)) → Keeps (pbl p fb mb) h h' → h.length ≤ h'.length → ((P.hold (nameK j) n (pageR j n)).1 = 0 → HasL entE h' q' (P.hold (nameK j) n (pageR j n)).2.1 ∧ ∀ t, q' = some t → h.length ≤ t.b) →
      ((P.hold (nameK j) n (pageR j n)).1 ≠ 0 → q' = none) → Q (.tup [.sl q', .int .i64 (P.hold (nameK j) n (pageR j n)).1]) h') : AC Tryz.prog 70 [.ptr (some ⟨p, 0⟩), .ptr (some ⟨sp, 0⟩), .int .i64 n] h Q := by
  obtain ⟨rs, es, cl, C⟩ := T.R
  have W := T.now
  have hj3 : j < 3 := by rw [← W.sl]; exact (List.getElem?_eq_some_iff.1 hj).1
  obtain ⟨q, S, _⟩ := W.seg j sp hj
  obtain ⟨q2, S2, _⟩ := T.W.seg j sp hj
  have hspW := lt_of_get S2.at'
  have hnl := T.nl
  refine k70 (s := nameK j) (base := baseK j) (count := cntK j) (q0 := q) (dp := dp) (r := pageR j n) C T.sm.lt (by omega) (fun f hf => by have := T.sm.l f hf; omega) (by have := pageR_len hj3 (n := n); omega) (fun _ h => h.elim) S.at' (fun hc => by have := T.new _ hc; omega)
    (fun {h'} {K} x hE hK => (W.grow x).page T.L hj (fun he h2 x2 => hE he h2 x2) (fun he q h2 x2 H f => hK he q h2 x2 H f)) fun q' h' R' K' l' h1 h2 => ?_
  refine hQ q' h' (fun hN => ⟨T.W, T.L, T.K.trans K', Nat.le_trans T.len l', T.new, R', hold_sm T.sm C.ok.hand (by have := pageR_len hj3 (n := n); omega), hN⟩) K' l' h1 h2
theorem WP.free {N : Nat} {s : Bs} {n : Int} (T : WP h0 hW h ow dp a qS qL fs sps ls p fb mb P N)
    (hQ : ∀ h', WP h0 hW h' ow dp a qS qL fs sps ls p fb mb (P.free s n).2 N → Keeps (pbl p fb mb) h h' → h'.length = h.length → Q (.int .i64 (P.free s n).1) h') : AC Tryz.prog 71 [.ptr (some ⟨p, 0⟩), .str s, .int .i64 n] h Q := by
  obtain ⟨rs, es, cl, C⟩ := T.R
  have hnl := T.nl
  exact k71 C T.sm.lt (by omega) fun h' rs' C' K' l' => hQ h' ⟨T.W, T.L, T.K.trans K', by have := T.len; omega, T.new, ⟨_, _, _, C'⟩, free_sm T.sm, T.nl⟩ K' l'
theorem WP.drop {N : Nat} {s : Bs} (T : WP h0 hW h ow dp a qS qL fs sps ls p fb mb P N)
    (hQ : ∀ h', WP h0 hW h' ow dp a qS qL fs sps ls p fb mb (P.drop s).2 N → Keeps (pbl p fb mb) h h' → h'.length = h.length → Q (.int .i64 ((P.drop s).1 : Nat)) h') : AC Tryz.prog 73 [.ptr (some ⟨p, 0⟩), .str s] h Q := by
  obtain ⟨rs, es, cl, C⟩ := T.R
  exact k73 C fun h' R' K' l' => hQ h' ⟨T.W, T.L, T.K.trans K', by have := T.len; omega, T.new, R', drop_sm T.sm, T.nl⟩ K' l'
theorem WP.hold2 {N j : Nat} {n r1 : Int} {l1 : List Ent} {P1 : PS} (T : WP h0 hW h ow dp a qS qL fs sps ls p fb mb P N) (hj : sps[j]? = some sp) (e : P.hold (nameK j) n (pageR j n) = (r1, l1, P1))
    (hQ : ∀ q' h', (N + 1 ≤ 1000000 → WP h0 hW h' ow dp a qS qL fs sps ls p fb mb P1 (N + 1)) → Keeps (pbl p fb mb) h h' → h.length ≤ h'.length → (r1 = 0 → HasL entE h' q' l1 ∧ ∀ t, q' = some t → h.length ≤ t.b) → (r1 ≠ 0 → q' = none) → Q (.tup [.sl q', .int .i64 r1]) h') :
    AC Tryz.prog 70 [.ptr (some ⟨p, 0⟩), .ptr (some ⟨sp, 0⟩), .int .i64 n] h Q := T.hold hj (by rw [e]; exact hQ)
theorem WP.free2 {N : Nat} {s : Bs} {n r1 : Int} {P1 : PS} (T : WP h0 hW h ow dp a qS qL fs sps ls p fb mb P N) (e : P.free s n = (r1, P1))
    (hQ : ∀ h', WP h0 hW h' ow dp a qS qL fs sps ls p fb mb P1 N → Keeps (pbl p fb mb) h h' → h'.length = h.length → Q (.int .i64 r1) h') : AC Tryz.prog 71 [.ptr (some ⟨p, 0⟩), .str s, .int .i64 n] h Q := T.free (by rw [e]; exact hQ)
theorem WP.drop2 {N : Nat} {s : Bs} {r1 : Nat} {P1 : PS} (T : WP h0 hW h ow dp a qS qL fs sps ls p fb mb P N) (e : P.drop s = (r1, P1))
    (hQ : ∀ h', WP h0 hW h' ow dp a qS qL fs sps ls p fb mb P1 N → Keeps (pbl p fb mb) h h' → h'.length = h.length → Q (.int .i64 (r1 : Nat)) h') : AC Tryz.prog 73 [.ptr (some ⟨p, 0⟩), .str s] h Q := T.drop (by rw [e]; exact hQ)
theorem WP.has {N : Nat} {s : Bs} {n : Int} (T : WP h0 hW h ow dp a qS qL fs sps ls p fb mb P N) (hQ : Q (.bool (P.at s n).isSome) h) : AC Tryz.prog 74 [.ptr (some ⟨p, 0⟩), .str s, .int .i64 n] h Q := by
  obtain ⟨rs, es, cl, C⟩ := T.R
  exact k74 C hQ
theorem WP.heldN {N : Nat} (T : WP h0 hW h ow dp a qS qL fs sps ls p fb mb P N) (hQ : Q (.int .i64 (P.held : Nat)) h) : AC Tryz.prog 75 [.ptr (some ⟨p, 0⟩)] h Q := by
  obtain ⟨rs, es, cl, C⟩ := T.R
  exact k75 C hQ
theorem WP.usedN {N : Nat} (T : WP h0 hW h ow dp a qS qL fs sps ls p fb mb P N) (hQ : Q (.int .i64 (P.used : Nat)) h) : AC Tryz.prog 76 [.ptr (some ⟨p, 0⟩)] h Q := by
  obtain ⟨rs, es, cl, C⟩ := T.R
  exact k76 C hQ
theorem WP.frames {N : Nat} (T : WP h0 hW h ow dp a qS qL fs sps ls p fb mb P N) (hQ : Q (.int .i64 (P.fr.length : Nat)) h) : AC Tryz.prog 77 [.ptr (some ⟨p, 0⟩)] h Q := by
  obtain ⟨rs, es, cl, C⟩ := T.R
  exact k77 C hQ
theorem WP.stats {N : Nat} (T : WP h0 hW h ow dp a qS qL fs sps ls p fb mb P N) (hQ : Q (.agg [.int .i64 (P.hits : Nat), .int .i64 (P.reads : Nat), .int .i64 (P.losses : Nat)]) h) : AC Tryz.prog 78 [.ptr (some ⟨p, 0⟩)] h Q := by
  obtain ⟨rs, es, cl, C⟩ := T.R
  exact k78 C hQ
theorem WP.make {n : Nat} (W : NW h0 h ow dp a qS qL fs sps ls 3 3) (L : Laid h0) (hn : n ≤ 1024) (hQ : ∀ h' p fb mb, WP h0 h h' ow dp a qS qL fs sps ls p fb mb (newP n) 0 → Ext h h' → Q (.tup [.ptr (some ⟨p, 0⟩), .int .i64 0]) h') : AC Tryz.prog 69 [.int .i64 (n : Nat)] h Q := by
  refine k69 hn fun h' C x => hQ h' _ _ _ ⟨W, L, keeps_of_ext x, x.len, fun b hb => ?_, ⟨_, _, _, C⟩, sm_new, by omega⟩ x
  rcases hb with rfl | rfl | rfl <;> omega
end
def pageB (B : BadS) (k : Nat) (n : Int) : Int × List Ent := if 0 ≤ n ∧ n < (headsK k).length then if B k n.toNat then (80, []) else pageR k n else (4, [])
theorem pageB_len {B : BadS} {k : Nat} (hk : k < 3) {n : Int} : (pageB B k n).2.length ≤ 10 := by
  unfold pageB
  split
  · split
    · simp
    · exact pageR_len hk
  · simp
structure NB (h0 h : Heap) (ow : Roles) (dp a : Nat) (qS qL : Option SL) (fs : List FA) (sps : List Nat) (B : BadS) (n0 : Nat) : Prop where
  ext : Ext h0 h
  L : Laid h0
  disk : DiskR h ow dp (calmD fs 1000)
  fl : fs.length = 3
  fn : ∀ (j : Nat) (f : FA), fs[j]? = some f → f.name = nameK j ∧ f.now = tS (SK j) (B j) ∧ f.safe = tS (SK j) (B j)
  sl : sps.length = 3
  cell : h[a]? = some (.cells [.ptr (some ⟨dp, 0⟩), .sl qS, .sl qL] true)
  aS : HasL ptrE h qS sps
  sS : ∀ t, qS = some t → ow t.b = none ∧ t.b < n0
  own : ow a = none ∧ a < n0
  old : ∀ b, ow b ≠ none → h0.length ≤ b
  le : h0.length ≤ n0
  seg : ∀ (j sp : Nat), sps[j]? = some sp → ∃ q, h[sp]? = some (segC dp (nameK j) (baseK j) (cntK j) q) ∧ HasL entE h q (headsK j) ∧ ∀ b, (b = sp ∨ ∃ t, q = some t ∧ t.b = b) → ow b = none ∧ b < n0
section
variable {h0 hW h h' : Heap} {Q : AV → Heap → Prop} {ow : Roles} {dp a k kf sp n0 : Nat} {qS qL q : Option SL} {fs : List FA} {sps : List Nat} {ls : List (Option SL)} {p fb mb : Nat} {P : PS} {B : BadS}
theorem NB.of (W : NW h0 h ow dp a qS qL fs sps ls 3 3) (L : Laid h0) : NB h0 h ow dp a qS qL fs sps (fun _ _ => false) h.length := by
  refine ⟨W.ext, L, W.disk, W.fl, fun j f hf => ?_, W.sl, W.cell, W.aS.hasL, fun t ht => ⟨(W.sS t ht).1, HasL.live W.aS.hasL t ht⟩, ⟨W.own, lt_of_get W.cell⟩, W.old, W.ext.len, fun j sp hj => ?_⟩
  · obtain ⟨h1, h2, h3⟩ := W.fn j f hf
    rw [tS_none]; exact ⟨h1, h2, h3⟩
  · obtain ⟨q, S, sep⟩ := W.seg j sp hj
    refine ⟨q, S.at', S.hd.hasL, fun b hb => ⟨(sep b hb).1, ?_⟩⟩
    rcases hb with rfl | ⟨t, ht, rfl⟩
    · exact lt_of_get S.at'
    · exact HasL.live S.hd.hasL t ht
theorem NB.laid (W : NB h0 h ow dp a qS qL fs sps B n0) : Laid h := W.L.ext W.ext
theorem NB.keeps {X : Nat → Prop} (W : NB h0 h ow dp a qS qL fs sps B n0) (K : Keeps X h h') (hX : ∀ b, X b → n0 ≤ b ∧ ow b = none) (hl : h.length ≤ h'.length) : NB h0 h' ow dp a qS qL fs sps B n0 := by
  refine ⟨fun c A hA => ?_, W.L, W.disk.ext (fun c A hc hA => K _ _ (fun hx => hc (hX c hx).2) hA) hl, W.fl, W.fn, W.sl, ?_, ?_, W.sS, W.own, W.old, W.le, fun j sp hj => ?_⟩
  · refine K _ _ (fun hx => ?_) (W.ext _ _ hA)
    have := (hX c hx).1; have := lt_of_get hA; have := W.le; omega
  · refine K _ _ (fun hx => ?_) W.cell
    have := (hX a hx).1; have := W.own.2; omega
  · refine K.hasL (fun t ht hx => ?_) W.aS
    have := (hX _ hx).1; have := (W.sS t ht).2; omega
  · obtain ⟨q, h1, h2, h3⟩ := W.seg j sp hj
    refine ⟨q, K _ _ (fun hx => ?_) h1, K.hasL (fun t ht hx => ?_) h2, h3⟩
    · have := (hX _ hx).1; have := (h3 sp (.inl rfl)).2; omega
    · have := (hX _ hx).1; have := (h3 t.b (.inr ⟨t, ht, rfl⟩)).2; omega
theorem NB.grow (W : NB h0 h ow dp a qS qL fs sps B n0) (x : Ext h h') : NB h0 h' ow dp a qS qL fs sps B n0 := W.keeps (X := fun _ => False) (keeps_of_ext x) (fun _ h => h.elim) x.len
theorem NB.segs (W : NB h0 h ow dp a qS qL fs sps B n0) : cellsAt h ⟨a, 0 + 1⟩ 1 = some [.sl qS] := by
  rw [cells6 W.cell (by simp)]; rfl
theorem NB.diskAt (W : NB h0 h ow dp a qS qL fs sps B n0) : cellsAt h ⟨a, 0 + 0⟩ 1 = some [.ptr (some ⟨dp, 0⟩)] := by
  rw [cells6 W.cell (by simp)]; rfl
theorem NB.idx {K : PA → Prop} {i : Int} (W : NB h0 h ow dp a qS qL fs sps B n0) (h0' : 0 ≤ i) (h1 : i < 3) (hK : ∀ pp sp, sps[i.toNat]? = some sp → cellsAt h pp 1 = some [.ptr (some ⟨sp, 0⟩)] → K pp) : vIdx qS i 1 K :=
  HasL.idx (E := ptrE) W.aS h0' (by have := W.sl; omega) fun pp sp hs hc => hK pp sp hs hc
theorem NB.file (W : NB h0 h ow dp a qS qL fs sps B n0) {j : Nat} (hj : j < 3) : ∃ f, fs[j]? = some f ∧ (calmD fs 1000).find (nameK j) = some f := by
  have hf : fs[j]? = some (fs[j]'(by rw [W.fl]; exact hj)) := List.getElem?_eq_getElem _
  generalize fs[j]'(by rw [W.fl]; exact hj) = f at hf
  obtain ⟨h1, h2, _⟩ := W.fn j f hf
  refine ⟨f, hf, ?_⟩
  obtain ⟨_, _, _, _, C⟩ := W.disk
  have hn : (fs.map (·.name)).Nodup := C.names
  rw [← h1]
  unfold DS.find calmD
  simp only
  have hfm := List.mem_of_getElem? hf
  cases hc : fs.find? (fun g => g.name == f.name) with
  | none => exact absurd (List.find?_eq_none.1 hc f hfm) (by simp)
  | some g =>
    have hg1 := List.mem_of_find?_eq_some hc
    have hg2 : g.name = f.name := by simpa using List.find?_some hc
    obtain ⟨i, hi⟩ := List.getElem?_of_mem hg1
    have hil := (List.getElem?_eq_some_iff.1 hi).1
    have hjl := (List.getElem?_eq_some_iff.1 hf).1
    have : i = j := (List.getElem?_inj (by rw [List.length_map]; exact hil) hn).1 (by rw [List.getElem?_map, List.getElem?_map, hi, hf]; simp only [Option.map_some, hg2])
    subst this
    rw [hf] at hi; cases hi; rfl
theorem NB.page {j : Nat} {n : Int} (W : NB h0 h ow dp a qS qL fs sps B n0) (hj : sps[j]? = some sp)
    (hE : (pageB B j n).1 ≠ 0 → ∀ h', Ext h h' → Q (.tup [.sl none, .int .i64 (pageB B j n).1]) h') (hQ : (pageB B j n).1 = 0 → ∀ q h', Ext h h' → HasL entE h' q (pageB B j n).2 → (∀ t, q = some t → h.length ≤ t.b) → Q (.tup [.sl q, .int .i64 0]) h') :
    AC Tryz.prog 16 [.ptr (some ⟨sp, 0⟩), .int .i64 n] h Q := by
  have hj3 : j < 3 := by rw [← W.sl]; exact (List.getElem?_eq_some_iff.1 hj).1
  obtain ⟨q, S1, S2, _⟩ := W.seg j sp hj
  by_cases hn : 0 ≤ n ∧ n < (headsK j).length
  · obtain ⟨g, h1, h2, h3, h4, h5⟩ := pageR_some hj3 hn.1 hn.2
    have e : pageB B j n = if B j n.toNat then (80, []) else (0, g) := by unfold pageB; rw [if_pos hn, h2]
    rw [e] at hQ hE
    obtain ⟨f, hf, hfind⟩ := W.file hj3
    obtain ⟨f1, f2, f3⟩ := W.fn j f hf
    have h64 := tS_64 (B := B j) (SK64 hj3)
    have Z : Lies (calmD fs 1000) (nameK j) (tS (SK j) (B j)) := ⟨rfl, f, hfind, by rw [f2, map_pad h64]⟩
    have hSl := SK_len hj3
    have hop := openS_some (openK hj3)
    obtain ⟨m, rfl⟩ := Int.eq_ofNat_of_zero_le hn.1
    simp only [Int.toNat_natCast] at h3 hQ hE
    refine k16 W.laid W.disk Z (by unfold baseK; omega) (by unfold baseK; omega) (by rw [tS_len]; omega) S1 S2 (by rw [tS_len]; exact hop.2) (by have := hn.2; omega) (fun hc => ?_) fun l q' h' hl x A f => ?_
    · cases hb : B j m with
      | false => rw [pageS_t_good hb, h3] at hc; cases hc
      | true => rw [if_pos hb] at hE; exact hE (by simp)
    · cases hb : B j m with
      | true => rw [pageS_t_bad hb h3] at hl; cases hl
      | false =>
        rw [pageS_t_good hb, h3] at hl; cases hl
        rw [if_neg (by rw [hb]; simp)] at hQ
        exact hQ rfl q' h' x A.hasL f
  · have e : pageB B j n = (4, []) := by unfold pageB; rw [if_neg hn]
    rw [e] at hE
    exact k16o S1 S2 hn (hE (by simp) h (.refl _))
theorem NB.flip {j i : Nat} {K : AV → Heap → Prop} (W : NB h0 h ow dp a qS qL fs sps B n0) (hj : j < 3) (hi : i < (headsK j).length) (hn : n0 ≤ h.length)
    (hK : ∀ h' ow' fs', NB h0 h' ow' dp a qS qL fs' sps (tog B j i) n0 → DStep ow h ow' h' → K (.int .i64 0) h') :
    AC Tryz.prog 65 [.ptr (some ⟨dp, 0⟩), .str (nameK j), .int .i64 (i : Nat), .int .i64 200, .int .u32 5] h K := by
  obtain ⟨f, hf, hfind⟩ := W.file hj
  obtain ⟨f1, f2, f3⟩ := W.fn j f hf
  have h64 := tS_64 (B := B j) (SK64 hj)
  have hop := openS_some (openK hj)
  have hiS : i < (SK j).length := Nat.lt_of_lt_of_le hi hop.2
  have hfm := List.mem_of_getElem? hf
  refine k65 (at' := 200) (turn := 5) W.disk hfind (by rw [f2, tS_len]; exact hiS) (by omega) (by omega) (by rw [f2]; exact h64) (by rw [f3]; exact h64) fun h' ow' R' S' => ?_
  have hu : (fs.map (·.b)).Nodup := by obtain ⟨_, _, _, _, C⟩ := W.disk; exact C.blocks
  have kp : ∀ b, ow b = none → ¬ dsk ow b := fun b hb hc => hc hb
  have non : ∀ b, b < n0 → ow b = none → ow' b = none := fun b hb ho => by
    cases hc : ow' b with
    | none => rfl
    | some r =>
      exfalso
      rcases S'.own b (by rw [hc]; simp) with h1 | h1
      · exact h1 ho
      · omega
  refine hK h' ow' (upF fs (flipF f i 200 5)) ⟨fun c A hA => S'.keeps _ _ (fun hc => by have := W.old c hc; have := lt_of_get hA; omega) (W.ext _ _ hA), W.L, R', by simp [upF, W.fl], fun k g hg => ?_, W.sl, S'.keeps _ _ (kp _ W.own.1) W.cell, S'.keeps.hasL (fun t ht => kp _ (W.sS t ht).1) W.aS,
    fun t ht => ⟨non _ (W.sS t ht).2 (W.sS t ht).1, (W.sS t ht).2⟩, ⟨non _ W.own.2 W.own.1, W.own.2⟩, fun b hb => ?_, W.le, fun j sp hj => ?_⟩ S'
  · unfold upF at hg
    rw [List.getElem?_map] at hg
    cases hk : fs[k]? with
    | none => rw [hk] at hg; cases hg
    | some g0 =>
      rw [hk] at hg
      simp only [Option.map_some, Option.some.injEq] at hg
      obtain ⟨g1, g2, g3⟩ := W.fn k g0 hk
      have hfb : (flipF f i 200 5).b = f.b := rfl
      by_cases hb : g0.b = f.b
      · rw [if_pos (by rw [hfb]; exact hb)] at hg
        have hgf : g0 = f := uniq_b hu (List.mem_of_getElem? hk) hfm hb
        subst hgf
        have hkl := (List.getElem?_eq_some_iff.1 hk).1
        have hkj : k = j := by
          apply Classical.byContradiction
          intro hc
          exact nameK_ne (by have := W.fl; omega) hj hc (by rw [← g1, ← f1])
        subst hkj
        subst hg
        refine ⟨f1, ?_, ?_⟩
        · show g0.now.set i (Go.Seg.flip (g0.now.getD i []) 200 5) = _
          rw [f2]; exact tS_set (SK64 hj) hiS
        · show g0.safe.set i (Go.Seg.flip (g0.safe.getD i []) 200 5) = _
          rw [f3]; exact tS_set (SK64 hj) hiS
      · rw [if_neg (by rw [hfb]; exact hb)] at hg
        subst hg
        have hkj : k ≠ j := by
          rintro rfl
          rw [hf] at hk; cases hk; exact hb rfl
        rw [tog_ne hkj]
        exact ⟨g1, g2, g3⟩
  · rcases S'.own b hb with h1 | h1
    · exact W.old b h1
    · have := W.le; omega
  · obtain ⟨q, h1, h2, h3⟩ := W.seg j sp hj
    refine ⟨q, S'.keeps _ _ (kp _ (h3 sp (.inl rfl)).1) h1, S'.keeps.hasL (fun t ht => kp _ (h3 _ (.inr ⟨t, ht, rfl⟩)).1) h2, fun b hb => ⟨non b (h3 b hb).2 (h3 b hb).1, (h3 b hb).2⟩⟩
end
end Go.Proofs.YtnglhicedhcpbaaGreatDoor
