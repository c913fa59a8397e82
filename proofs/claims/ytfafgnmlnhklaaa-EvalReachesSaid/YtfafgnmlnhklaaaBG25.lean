/- EvalReaches: the walk. -/
import Derived.Test.YtfafgnmlnhklaaaBG20
import Derived.Test.YtfafgnmlnhklaaaBG24
namespace Go.Proofs.Ytfafgnmlnhklaaa
open Go.Ab
set_option linter.unusedVariables false
set_option linter.unusedSimpArgs false

/-- The edge of a number. -/
def edgeOf (x : Int) : Rec := (wrapK .i64 (Int.tdiv (Int.tmod (wrapK .i64 ((Int.tmod x 144) + 144)) 144) 12), Int.tmod (Int.tmod (wrapK .i64 ((Int.tmod x 144) + 144)) 144) 12)
theorem edgeOf_in (x : Int) : In12 (edgeOf x).1 ∧ In12 (edgeOf x).2 := by
  have a1 := Int.lt_tmod_of_pos x (b := 144) (by omega)
  have a2 := Int.tmod_lt_of_pos x (b := 144) (by omega)
  unfold edgeOf In12
  generalize Int.tmod x 144 = y at *
  rw [wrapK_i64 (n := y + 144) ⟨by omega, by omega⟩]
  rw [Int.tmod_eq_emod_of_nonneg (a := y + 144) (b := 144) (by omega)]
  have b1 : 0 ≤ (y + 144) % 144 := by omega
  have b2 : (y + 144) % 144 < 144 := by omega
  generalize (y + 144) % 144 = m at *
  rw [Int.tdiv_eq_ediv_of_nonneg b1, Int.tmod_eq_emod_of_nonneg (a := m) b1, wrapK_i64 (n := m / 12) ⟨by omega, by omega⟩]
  simp only
  omega
/-- What a map of marks holds. -/
def entB (e : Int × Nat) : AV × AV × Nat := (.int .i64 e.1, .bool true, e.2)
theorem findP_B {P : Program} {kt : TypeId} (hkt : P.underlying kt = some (.int .i64)) {k : Int} {K : Option (Nat × AV × Nat) → Prop} : ∀ {ks : List (Int × Nat)} {i : Nat}, ((k ∉ ks.map (·.1)) → K none) → (∀ j n, ks[j]? = some (k, n) → K (some (i + j, .bool true, n))) → findP P kt (.int .i64 k) (ks.map entB) i K
  | [], i, h0, h1 => h0 (by simp)
  | e :: ks, i, h0, h1 => by
    simp only [List.map_cons, entB]
    unfold findP keyIs
    rw [hkt]
    refine need_mk (by simp) (vif_mk (fun g => ?_) (fun g => ?_))
    · have g : k = e.1 := by simpa using g
      have := h1 0 e.2 (by simp [g])
      simpa using this
    · have g : k ≠ e.1 := by simpa using g
      refine findP_B hkt (fun hn => h0 (by simp only [List.map_cons, List.mem_cons]; exact fun h => h.elim g hn)) fun j n hj => ?_
      have := h1 (j + 1) n (by simpa using hj)
      rw [show i + (j + 1) = i + 1 + j by omega] at this
      exact this
theorem tz4 : tz Try.prog 4 = some (.bool false) := by kernel_rfl
section
attribute [local irreducible] need keyOk
variable {h : Heap} {ks : List (Int × Nat)} {cl b : Nat} {k : Int}
theorem lookB {K : AV → Prop} (hb : h[b]? = some (.mp (ks.map entB) cl)) (hK : K (.bool (decide (k ∈ ks.map (·.1))))) : PLookup Try.prog 3 4 (some b) (.int .i64 k) false h K := by
  unfold PLookup mapEs
  simp only [hb, tz4]
  refine need_mk kok ?_
  refine findP_B Try.underlying3 (fun hn => ?_) fun j n hj => ?_
  · rw [decide_eq_false hn] at hK; exact hK
  · have : k ∈ ks.map (·.1) := List.mem_map.2 ⟨_, List.mem_of_getElem? hj, rfl⟩
    rw [decide_eq_true this] at hK; exact hK
theorem updB {h0 : Heap} {K : Heap → Prop} (hK : ∀ (ks' : List (Int × Nat)) (cl' : Nat), ks'.map (·.1) = (if k ∈ ks.map (·.1) then ks.map (·.1) else ks.map (·.1) ++ [k]) → K (h0 ++ [.mp (ks'.map entB) cl'])) : PUpdate Try.prog 3 h0.length (.int .i64 k) (.bool true) (h0 ++ [.mp (ks.map entB) cl]) K := by
  unfold PUpdate
  have e : (h0 ++ [Blk.mp (ks.map entB) cl])[h0.length]? = some (.mp (ks.map entB) cl) := by simp
  have es : ∀ B : Blk, (h0 ++ [Blk.mp (ks.map entB) cl]).set h0.length B = h0 ++ [B] := fun B => by simp
  rw [e]
  refine need_mk (by rw [kok]; rfl) ?_
  refine findP_B Try.underlying3 (fun hn => ?_) fun j n hj => ?_
  · rw [es]
    have := hK (ks ++ [(k, cl)]) (cl + 1) (by rw [if_neg hn]; simp)
    simpa [entB] using this
  · have hm : k ∈ ks.map (·.1) := List.mem_map.2 ⟨_, List.mem_of_getElem? hj, rfl⟩
    have e2 : (ks.map entB).set (0 + j) (.int .i64 k, .bool true, n) = ks.map entB := by
      rw [Nat.zero_add]
      refine List.ext_getElem? fun i => ?_
      rw [List.getElem?_set]
      split
      · rename_i hi
        subst hi
        split
        · rw [List.getElem?_map, hj]; rfl
        · rename_i hl; rw [List.getElem?_eq_none (by omega)]
      · rfl
    show K ((h0 ++ [Blk.mp (ks.map entB) cl]).set h0.length (Blk.mp ((ks.map entB).set (0 + j) (.int .i64 k, .bool true, n)) cl))
    rw [es, e2]
    exact hK ks cl (by rw [if_pos hm])
end
def wantN (S : List Int) (i : Nat) : Bag := ((List.range i).filter fun (k : Nat) => decide ((k : Int) ∈ S)).map fun (k : Nat) => ((k : Int), (0 : Int))
theorem wantN_succ {S : List Int} {i : Nat} : wantN S (i + 1) = wantN S i ++ if (i : Int) ∈ S then [((i : Int), (0 : Int))] else [] := by
  unfold wantN
  rw [List.range_succ, List.filter_append, List.map_append]
  congr 1
  by_cases h : (i : Int) ∈ S
  · rw [if_pos h, List.filter_cons_of_pos (by simpa using h)]; rfl
  · rw [if_neg h, List.filter_cons_of_neg (by simpa using h)]; rfl
theorem wantN_len {S : List Int} {i : Nat} : (wantN S i).length ≤ i := by
  unfold wantN
  rw [List.length_map]
  have := List.length_filter_le (fun (k : Nat) => decide ((k : Int) ∈ S)) (List.range i)
  rw [List.length_range] at this
  exact this
section
variable {h : Heap} {Q : AV → Heap → Prop} {q : Option SL} {l : List Int} {s : Int}
theorem c10 {a b : Int} (hQ : Q (.agg [.int .i64 a, .int .i64 b]) h) : AC Try.prog 10 [.int .i64 a, .int .i64 b] h Q := ac10 hQ
set_option maxRecDepth 20000 in
/-- EvalReaches -/
theorem s3 (H : HasL intE h q l) (hQ : ∀ h', Q (.bool true) h') : AC Try.prog 3 [.sl q, .int .i64 s] h Q := ac3 (by
  unfold vc3
  rw [H.len]
  refine vif_mk (fun _ => s9 ⟨_, rfl, hQ _⟩) (fun g => vif_mk (fun _ => s9 ⟨_, rfl, hQ _⟩) (fun g1 => vif_mk (fun _ => s9 ⟨_, rfl, hQ _⟩) (fun g2 => ?_)))
  replace g := of_decide_eq_false g
  replace g1 := of_decide_eq_false g1
  replace g2 := of_decide_eq_false g2
  have hs : In12 s := ⟨by omega, by omega⟩
  have hl : l.length ≤ 30 := by omega
  refine ⟨fun xs h16 => ∃ (q12 : Option SL) (i : Nat), xs = [.sl q12, .int .i64 i] ∧ i ≤ l.length ∧ New recE h h16 q12 ((l.take i).map edgeOf), fun xs _ => match xs with | [_, .int _ i] => (l.length - i).toNat | _ => 0, ⟨none, 0, rfl, by omega, by simpa using New.none⟩, ?_⟩
  rintro q12 n13 h16 ⟨q12', i, hx, hi, N16⟩
  simp only [List.cons.injEq, AV.int.injEq, AV.sl.injEq, true_and, and_true] at hx
  obtain ⟨rfl, rfl⟩ := hx
  refine vif_mk (fun g3 => ?_) (fun g3 => ?_)
  · replace g3 := of_decide_eq_true g3
    have w : wrapK .i64 ((i : Int) + 1) = ((i + 1 : Nat) : Int) := by rw [wrapK_i64 ⟨by omega, by omega⟩]; omega
    rw [w]
    have hx : l[i]? = some l[i] := List.getElem?_eq_getElem (by omega)
    have et : l.take (i + 1) = l.take i ++ [l[i]] := by rw [List.take_add_one, hx]; rfl
    refine (H.mono N16.1).idx (E := intE) (by omega) (by omega) fun p17 y hy hc => ?_
    have ey : y = l[i] := by rw [Int.toNat_natCast, hx] at hy; exact (Option.some.inj hy).symm
    subst ey
    refine ⟨_, hc, c10 ⟨_, _, rfl, pnew_mk ?_⟩⟩
    have x24 := Ext.app h16 [Blk.cells [.int .i64 (edgeOf l[i]).1, .int .i64 (edgeOf l[i]).2] true]
    have Hn : HasL recE (h16 ++ [Blk.cells [.int .i64 (edgeOf l[i]).1, .int .i64 (edgeOf l[i]).2] true]) (some ⟨h16.length, 0, 1, 1, 0⟩) [edgeOf l[i]] := HasL.new (n := 1) rfl rfl
    refine (N16.ext x24).append (E := recE) Hn (by simp only [List.length_map, List.length_take, List.length_cons, List.length_nil]; omega) fun q25 h26 N26 => ⟨trivial, ⟨q25, i + 1, rfl, by omega, ?_⟩, by simp only; omega⟩
    rw [et, List.map_append]
    exact N26
  replace g3 := of_decide_eq_false g3
  rw [List.take_of_length_le (by omega)] at N16
  have hE : EOk (l.map edgeOf) := by
    refine ⟨by rw [List.length_map]; exact hl, fun e he => ?_⟩
    obtain ⟨x, _, rfl⟩ := List.mem_map.1 he
    exact edgeOf_in x
  have HE := N16.hasL
  clear N16 H g3 hi
  generalize l.map edgeOf = E at *
  have hEl := hE.1
  refine updB (ks := []) fun ks0 cl0 hk0 => ?_
  simp only [List.map_nil, List.not_mem_nil, if_false, List.nil_append] at hk0
  have HM : ∀ B : Blk, HasL recE (h16 ++ [B]) q12 E := fun B => HE.mono (Ext.app _ _)
  refine ⟨fun xs h31 => ∃ (i : Nat) (ks : List (Int × Nat)) (cl : Nat), xs = [.int .i64 i] ∧ i ≤ 12 ∧ h31 = h16 ++ [.mp (ks.map entB) cl] ∧ ks.map (·.1) = roundsS E s i, fun xs _ => match xs with | [.int _ i] => (12 - i).toNat | _ => 0, ⟨0, ks0, cl0, rfl, by omega, rfl, hk0⟩, ?_⟩
  rintro n28 h31 ⟨i, ks, cl, hx, hi, rfl, hks⟩
  simp only [List.cons.injEq, AV.int.injEq, true_and, and_true] at hx
  subst hx
  refine vif_mk (fun g3 => ?_) (fun g3 => ?_)
  · replace g3 := of_decide_eq_true g3
    have w : wrapK .i64 ((i : Int) + 1) = ((i + 1 : Nat) : Int) := by rw [wrapK_i64 ⟨by omega, by omega⟩]; omega
    rw [w]
    refine ⟨fun xs h35 => ∃ (j : Nat) (ks : List (Int × Nat)) (cl : Nat), xs = [.int .i64 j] ∧ j ≤ E.length ∧ h35 = h16 ++ [.mp (ks.map entB) cl] ∧ ks.map (·.1) = (E.take j).foldl stepS (roundsS E s i), fun xs _ => match xs with | [.int _ j] => (E.length - j).toNat | _ => 0, ⟨0, ks, cl, rfl, by omega, rfl, by simpa using hks⟩, ?_⟩
    rintro n32 h35 ⟨j, ks2, cl2, hx, hj, rfl, hks2⟩
    simp only [List.cons.injEq, AV.int.injEq, true_and, and_true] at hx
    subst hx
    rw [HE.len]
    refine vif_mk (fun g4 => ?_) (fun g4 => ?_)
    · replace g4 := of_decide_eq_true g4
      have w : wrapK .i64 ((j : Int) + 1) = ((j + 1 : Nat) : Int) := by rw [wrapK_i64 ⟨by omega, by omega⟩]; omega
      rw [w]
      have hx : E[j]? = some E[j] := List.getElem?_eq_getElem (by omega)
      have et : (E.take (j + 1)).foldl stepS (roundsS E s i) = stepS ((E.take j).foldl stepS (roundsS E s i)) E[j] := by rw [List.take_add_one, hx, List.foldl_append]; rfl
      rw [← hks2] at et
      generalize E[j] = e at *
      have at1 : ∀ {B : Blk} {K : PA → Prop}, (∀ p, cellsAt (h16 ++ [B]) p 2 = some [.int .i64 e.1, .int .i64 e.2] → K p) → vIdx q12 (j : Int) 2 K := fun {B K} hK => (HM B).idx (E := recE) (by omega) (by omega) fun p y hy hc => by
        have : y = e := by rw [Int.toNat_natCast, hx] at hy; exact (Option.some.inj hy).symm
        subst this; exact hK p hc
      refine at1 fun p hp => ⟨e.1, cellsAt_sub (k := 0) (m := 1) hp (by omega), lookB (ks := ks2) (cl := cl2) (by simp) ⟨_, rfl, ?_⟩⟩
      refine vif_mk (fun g5 => ?_) (fun g5 => ?_)
      · replace g5 := of_decide_eq_true g5
        refine at1 fun p hp => ⟨e.2, cellsAt_sub (k := 1) (m := 1) hp (by omega), updB fun ks3 cl3 hk3 => ⟨trivial, ⟨j + 1, ks3, cl3, rfl, by omega, rfl, ?_⟩, by simp only; omega⟩⟩
        rw [hk3, et]
        unfold stepS
        rw [if_pos g5]
      · replace g5 := of_decide_eq_false g5
        refine ⟨trivial, ⟨j + 1, ks2, cl2, rfl, by omega, rfl, ?_⟩, by simp only; omega⟩
        rw [et]
        unfold stepS
        rw [if_neg g5]
    · replace g4 := of_decide_eq_false g4
      refine ⟨trivial, ⟨i + 1, ks2, cl2, rfl, by omega, rfl, ?_⟩, by simp only; omega⟩
      rw [hks2, List.take_of_length_le (by omega)]
      rfl
  replace g3 := of_decide_eq_false g3
  have hi : i = 12 := by omega
  subst hi
  have HE := HM (.mp (ks.map entB) cl)
  have hmp : (h16 ++ [Blk.mp (ks.map entB) cl])[h16.length]? = some (.mp (ks.map entB) cl) := by simp
  clear HM g3
  generalize h16 ++ [Blk.mp (ks.map entB) cl] = h31 at *
  refine ⟨fun xs h47 => ∃ (q43 : Option SL) (i : Nat), xs = [.sl q43, .int .i64 i] ∧ i ≤ 12 ∧ New recE h31 h47 q43 (wantN (roundsS E s 12) i), fun xs _ => match xs with | [_, .int _ i] => (12 - i).toNat | _ => 0, ⟨none, 0, rfl, by omega, New.none⟩, ?_⟩
  rintro q43 n44 h47 ⟨q43', i, hx, hi, N47⟩
  simp only [List.cons.injEq, AV.int.injEq, AV.sl.injEq, true_and, and_true] at hx
  obtain ⟨rfl, rfl⟩ := hx
  refine vif_mk (fun g3 => ?_) (fun g3 => ?_)
  · replace g3 := of_decide_eq_true g3
    have w : wrapK .i64 ((i : Int) + 1) = ((i + 1 : Nat) : Int) := by rw [wrapK_i64 ⟨by omega, by omega⟩]; omega
    rw [w]
    refine lookB (N47.1 _ _ hmp) ⟨_, rfl, ?_⟩
    rw [hks]
    refine vif_mk (fun g5 => ?_) (fun g5 => ?_)
    · replace g5 := of_decide_eq_true g5
      refine c10 ⟨_, _, rfl, pnew_mk ?_⟩
      have x55 := Ext.app h47 [Blk.cells [.int .i64 (i : Int), .int .i64 0] true]
      have Hn : HasL recE (h47 ++ [Blk.cells [.int .i64 (i : Int), .int .i64 0] true]) (some ⟨h47.length, 0, 1, 1, 0⟩) [((i : Int), (0 : Int))] := HasL.new (n := 1) rfl rfl
      have hb := wantN_len (S := roundsS E s 12) (i := i)
      refine (N47.ext x55).append (E := recE) Hn (by simp only [List.length_cons, List.length_nil]; omega) fun q56 h57 N57 => ⟨trivial, ⟨q56, i + 1, rfl, by omega, ?_⟩, by simp only; omega⟩
      rw [wantN_succ, if_pos g5]
      exact N57
    · replace g5 := of_decide_eq_false g5
      refine ⟨trivial, ⟨q43, i + 1, rfl, by omega, ?_⟩, by simp only; omega⟩
      rw [wantN_succ, if_neg g5, List.append_nil]
      exact N47
  replace g3 := of_decide_eq_false g3
  have hi : i = 12 := by omega
  subst hi
  have HW := N47.hasL
  have HE := HE.mono N47.1
  refine c12 fun q60 h59 x59 R => ⟨q60, 2, rfl, c10 ⟨_, _, rfl, pnew_mk (pnew_mk ?_)⟩⟩
  have x67 := Ext.app h59 [Blk.cells [.int .i64 s, .int .i64 0] true]
  have HF : HasL recE (h59 ++ [Blk.cells [.int .i64 s, .int .i64 0] true]) (some ⟨h59.length, 0, 1, 1, 0⟩) [(s, (0 : Int))] := HasL.new (n := 1) rfl rfl
  generalize hF : (some ⟨h59.length, 0, 1, 1, 0⟩ : Option SL) = qF at *
  have fF : ∀ u, qF = some u → u.b < h59.length + 1 := by intro u hu; rw [← hF] at hu; cases hu; simp
  generalize hh67 : h59 ++ [Blk.cells [.int .i64 s, .int .i64 0] true] = h67 at *
  have l67 : h67.length = h59.length + 1 := by rw [← hh67]; simp
  have x69 := Ext.app h67 [Blk.cells [.sl q12, .sl qF] true]
  have HG : HasL slE (h67 ++ [Blk.cells [.sl q12, .sl qF] true]) (some ⟨h67.length, 0, 2, 2, 0⟩) [q12, qF] := HasL.new (n := 2) rfl rfl
  have G : InGG (fun b => b < (h67 ++ [Blk.cells [.sl q12, .sl qF] true]).length) (h67 ++ [Blk.cells [.sl q12, .sl qF] true]) (some ⟨h67.length, 0, 2, 2, 0⟩) [E, [(s, 0)]] := by
    refine ⟨_, HG, rfl, fun u hu => by cases hu; simp, fun i u g hu hg => ?_⟩
    match i with
    | 0 =>
      cases hu; cases hg
      have HE2 := ((HE.mono x59).mono x67)
      refine ⟨HE2.mono x69, fun u hu => ?_⟩
      have := HE2.live u hu
      simp; omega
    | 1 =>
      cases hu; cases hg
      refine ⟨HF.mono x69, fun u hu => ?_⟩
      have := fF u hu
      simp; omega
    | i + 2 => simp at hu
  have R69 := (R.mono x67).mono x69
  have HW := ((HW.mono x59).mono x67).mono x69
  generalize h67 ++ [Blk.cells [.sl q12, .sl qF] true] = h69 at *
  obtain ⟨v, hrun⟩ := reach_run hE hs
  have may0 : insE [E, [(s, 0)]] = 0 := by
    have a := hE.sm.may (by omega)
    have b : mayC [(s, (0 : Int))] = 0 := SmB.may (n := 1) ⟨all_memR fun r hr => by simp at hr; subst hr; unfold In12 at hs; omega, by simp⟩ (by omega)
    simp [insE, a, b]
  have hev : evalE (reachN 20) 2 [E, [(s, 0)]] = 0 := by rw [reachE (by omega) (by simp) may0, hrun]
  refine c11 R69 reachN_lens G (fun x hx => by simp at hx; rcases hx with rfl | rfl; omega; simp) (fun hne => absurd hev hne) fun _ qo qv h71 x71 HO _ => ⟨_, _, _, _, rfl, ?_⟩
  rw [hrun] at HO
  have HO : HasL recE h71 qo (wantN (roundsS E s 12) 12) := HO
  refine s9 ⟨true, rfl, vif_mk (fun _ => vif_mk (fun _ => ?_) (fun g => by simp at g)) (fun g => by cases g)⟩
  have hb := wantN_len (S := roundsS E s 12) (i := 12)
  refine o13 HO (HW.mono x71) (by omega) ⟨_, rfl, ?_⟩
  rw [decide_eq_true rfl]
  exact hQ _)
end
end Go.Proofs.Ytfafgnmlnhklaaa
