/- The two disks are alike: the walk. -/
import Derived.Test.YtnglhicedhcpbaaGreatDoorGG27
namespace Go.Proofs.YtnglhicedhcpbaaGreatDoor
open Go.Ab
open Go.Num hiding Bs snoc_ind
open Go.Ent Go.Seg
open Go.Page hiding Bs get
open Go.Dsk hiding Bs
open Go.Man (pendsOf pendsOf_snoc)
set_option linter.unusedVariables false
set_option linter.unusedSimpArgs false
/-- What is asked of the two. -/
def tail8 (a c : PA) (h30 : Heap) (Q : AV → Heap → Prop) : Prop :=
 AC Tryz.prog 52 [.ptr (some a)] h30 fun v32 h33 => ∃ n34 : Int, v32 = .int .i64 n34 ∧
 AC Tryz.prog 53 [.ptr (some c)] h33 fun v35 h36 => ∃ n37 : Int, v35 = .int .i64 n37 ∧
 vif (n34 != n37)
 ((LV.val (.tup []) = LV.val (.tup [])) ∧
 (LV.val (.tup []) = LV.val (.tup [])) ∧
 Q (.bool false) h36)
 (vPtr (some c) fun p38 =>
 ∃ q39 : Option SL, cellsAt h36 ⟨p38.b, p38.o + 1⟩ 1 = some [.sl q39] ∧
 AC Tryz.prog 54 [.ptr (some a)] h36 fun v40 h41 => ∃ q42 : Option SL, v40 = .sl q42 ∧
 (∃ q68 : Option SL, cellsAt h41 ⟨p38.b, p38.o + 1⟩ 1 = some [.sl q68] ∧
 LV.val (.sl q68) = LV.val (.sl q39)) ∧
 vif ((slLen q42 : Int) != (slLen q39 : Int))
 ((LV.val (.tup []) = LV.val (.tup [])) ∧
 Q (.bool false) h41)
 (vPtr (some c) fun p43 =>
 ∃ q44 : Option SL, cellsAt h41 ⟨p43.b, p43.o + 0⟩ 1 = some [.sl q44] ∧
 AC Tryz.prog 42 [.ptr (some a)] h41 fun v45 h46 => ∃ q47 : Option SL, v45 = .sl q47 ∧
 (∃ q67 : Option SL, cellsAt h46 ⟨p43.b, p43.o + 0⟩ 1 = some [.sl q67] ∧
 LV.val (.sl q67) = LV.val (.sl q44)) ∧
 vif ((slLen q47 : Int) != (slLen q44 : Int))
 (Q (.bool false) h46)
 (AC Tryz.prog 55 [.ptr (some c), .str [115]] h46 fun v48 h49 => ∃ p50 : Option PA, v48 = .ptr p50 ∧
 ∃ (I52 : List AV → Heap → Prop) (m53 : List AV → Heap → Nat), I52 [.int .i64 0] h49 ∧
 ∀ n51 : Int, ∀ h54 : Heap, I52 [.int .i64 n51] h54 →
 vif (!(p50.isNone))
 (vPtr p50 fun p55 =>
 ∃ q56 : Option SL, cellsAt h54 ⟨p55.b, p55.o + 1⟩ 1 = some [.sl q56] ∧
 vif (decide (n51 < (slLen q56 : Int)))
 (AC Tryz.prog 56 [.ptr (some a), .str [115], .int .i64 n51] h54 fun v57 h58 => ∃ q59 : Option SL, ∃ n60 : Int, v57 = .tup [.sl q59, .int .i64 n60] ∧
 vif (n60 != 0)
 (Q (.bool false) h58)
 (PStr h58 q59 fun s61 =>
 vPtr p50 fun p62 =>
 ∃ q63 : Option SL, cellsAt h58 ⟨p62.b, p62.o + 1⟩ 1 = some [.sl q63] ∧
 vIdx q63 n51 1 fun p64 =>
 ∃ q65 : Option SL, cellsAt h58 p64 1 = some [.sl q65] ∧
 PStr h58 q65 fun s66 =>
 vif (!(s61 == s66))
 (Q (.bool false) h58)
 ((True) ∧ I52 [.int .i64 (wrapK .i64 (n51 + 1))] h58 ∧ m53 [.int .i64 (wrapK .i64 (n51 + 1))] h58 < m53 [.int .i64 n51] h54)))
 (Q (.bool true) h54))
 (Q (.bool true) h54))))
section
variable {h : Heap} {Q : AV → Heap → Prop} {ow1 ow2 : Roles} {dp p : Nat} {D1 D2 : DS} {qL qP : Option SL}
theorem tail8_ok (R1 : DiskR h ow1 dp D1) (C2 : RDC h ow2 p qL qP D2) (hu : D1.used = D2.used) (hp : D1.pends.length = D2.pends.length) (hpl : D1.pends.length ≤ 1000000) (hl : D1.list.length = D2.files.length)
    (hf : D2.find [115] = none ∨ ∃ f, D2.find [115] = some f ∧ Lies D1 [115] f.now) (hQ : ∀ h', Q (.bool true) h') : tail8 ⟨dp, 0⟩ ⟨p, 0⟩ h Q := by
  unfold tail8
  refine d52 R1 fun h33 x33 => ⟨_, rfl, ?_⟩
  have R33 := R1.grow x33
  have C33 := C2.grow x33
  refine r53 C33 ⟨_, rfl, vif_mk (fun g => by rw [hu] at g; simp at g) (fun _ => ?_)⟩
  refine ⟨qP, C33.at (k := 1) rfl, ?_⟩
  refine d54 R33 hpl fun q42 h41 N41 => ⟨q42, rfl, ?_⟩
  have x41 := N41.1
  have R41 := R33.grow x41
  have C41 := C33.grow x41
  refine ⟨⟨qP, C41.at (k := 1) rfl, rfl⟩, ?_⟩
  have e1 : slLen q42 = D1.pends.length := by rw [N41.hasL.len]; simp [DS.pendL]
  have e2 : slLen qP = D2.pends.length := by
    obtain ⟨ps, A, hl, _⟩ := C2.pnd
    rw [A.hasL.len, hl]
  rw [e1, e2]
  refine vif_mk (fun g => by rw [hp] at g; simp at g) (fun _ => ⟨qL, C41.at (k := 0) rfl, ?_⟩)
  refine d42 R41 fun q47 h46 N46 => ⟨q47, rfl, ?_⟩
  have x46 := N46.1
  have R46 := R41.grow x46
  have C46 := C41.grow x46
  refine ⟨⟨qL, C46.at (k := 0) rfl, rfl⟩, ?_⟩
  have e3 : slLen q47 = D1.list.length := N46.hasL.len
  have e4 : slLen qL = D2.files.length := by rw [C46.lst.len, List.length_map]
  rw [e3, e4]
  refine vif_mk (fun g => by rw [hl] at g; simp at g) (fun _ => ?_)
  refine r55 C46 (fun hn => ⟨_, rfl, ?_⟩) fun f hfd => ⟨_, rfl, ?_⟩
  · exact ⟨fun _ _ => True, fun _ _ => 0, trivial, fun _ h54 _ => vif_mk (fun g => by simp at g) (fun _ => hQ _)⟩
  obtain ⟨f', hf', Z⟩ : ∃ f, D2.find [115] = some f ∧ Lies D1 [115] f.now := by
    rcases hf with hf | hf
    · rw [hfd] at hf; cases hf
    · exact hf
  rw [hfd] at hf'; cases hf'
  obtain ⟨hfm, _⟩ := find_mem hfd
  obtain ⟨hrole, qn, qs, fc, ⟨qss, A, hql, hel⟩, _⟩ := C46.file f hfm
  have hns : f.now.length ≤ 16384 := by
    have h1 := len_used hfm
    have h2 := C2.used
    omega
  refine ⟨fun xs h54 => ∃ i : Nat, xs = [.int .i64 (i : Nat)] ∧ i ≤ f.now.length ∧ Ext h46 h54, fun xs _ => match xs with | [.int _ i] => (f.now.length - i).toNat | _ => 0, ⟨0, rfl, by omega, .refl _⟩, ?_⟩
  rintro n51 h54 ⟨i, hx, hi, x54⟩
  simp only [List.cons.injEq, AV.int.injEq, true_and, and_true] at hx
  subst hx
  refine vif_mk (fun _ => ?_) (fun g => by simp at g)
  refine ⟨qn, by rw [cells6 (x54 _ _ fc) (by simp)]; rfl, ?_⟩
  rw [A.hasL.len, hql]
  refine vif_mk (fun g => ?_) (fun g => hQ _)
  replace g := of_decide_eq_true g
  have hil : i < f.now.length := by omega
  have hy : f.now[i]? = some f.now[i] := List.getElem?_eq_getElem hil
  generalize f.now[i] = y at hy
  refine k56 (R46.grow x54) Z hy fun q59 h58 x58 H58 _ => ⟨_, _, rfl, vif_mk (fun g => by simp at g) (fun _ => ?_)⟩
  have xx := x54.trans x58
  refine pstr_of H58 ?_
  refine ⟨qn, by rw [cells6 (xx _ _ fc) (by simp)]; rfl, ?_⟩
  refine HasL.idx (E := slE) (A.ext xx).hasL (by omega) (by omega) fun p64 t ht hc64 => ⟨t, hc64, ?_⟩
  rw [Int.toNat_natCast] at ht
  obtain ⟨Ht, _, _⟩ := hel i t y ht hy
  refine pstr_of (Ht.mono xx) ?_
  refine vif_mk (fun g => by simp at g) (fun _ => ?_)
  rw [wrapK_i64 ⟨by omega, by omega⟩]
  exact ⟨trivial, ⟨i + 1, by simp, by omega, xx⟩, by simp only; omega⟩
end
end Go.Proofs.YtnglhicedhcpbaaGreatDoor

/- SegmentWrites: the walk. -/
namespace Go.Proofs.YtnglhicedhcpbaaGreatDoor
open Go.Ab
open Go.Num hiding Bs snoc_ind
open Go.Ent Go.Seg
open Go.Page hiding Bs get
open Go.Dsk hiding Bs
open Go.Man (pendsOf pendsOf_snoc)
set_option linter.unusedVariables false
set_option linter.unusedSimpArgs false
section
variable {h : Heap} {Q : AV → Heap → Prop}
theorem list_one {f : FA} {ps : List PD} {lim : Int} : (oneD f ps lim).list.length = 1 := by
  rfl
theorem wr_used {b : Nat} {s : Bs} {S : List Bs} {lim : Nat} : (wrD b s S lim).2.used = min lim S.length := by
  unfold wrD
  split
  · rw [oneD_used]; simp only; omega
  · rw [oneD_used]; simp
theorem w5_used {b : Nat} {s : Bs} {S T : List Bs} {lim : Nat} : (w5D b s S lim T).used = min lim S.length := by
  unfold w5D
  rw [oneD_used]; simp
theorem wr_pends {b b' : Nat} {s s' : Bs} {S T : List Bs} {lim : Nat} : (wrD b s S lim).2.pends.length = (w5D b' s' S lim T).pends.length := by
  unfold wrD w5D
  split
  · rfl
  · simp only [oneD, pendsOf_len]
theorem wr_pends_le {b : Nat} {s : Bs} {S : List Bs} {lim : Nat} : (wrD b s S lim).2.pends.length ≤ S.length := by
  unfold wrD
  split
  · simp [oneD]
  · simp only [oneD, pendsOf_len, List.length_take]; omega
theorem wr_list {b : Nat} {s : Bs} {S : List Bs} {lim : Nat} : (wrD b s S lim).2.list.length = 1 := by
  unfold wrD
  split
  · exact list_one
  · exact list_one
theorem wr_lies {b : Nat} {s : Bs} {S : List Bs} {lim : Nat} (h64 : ∀ x ∈ S, x.length = 64) : Lies (wrD b s S lim).2 s (S.take lim) := by
  unfold wrD
  split
  · rw [List.take_of_length_le (by omega)]
    exact lies_one h64
  · exact lies_one fun x hx => h64 x (List.mem_of_mem_take hx)
theorem wr_fst {b : Nat} {s : Bs} {S : List Bs} {lim : Nat} : (wrD b s S lim).1 = if S.length ≤ lim then 0 else 2 := by
  unfold wrD
  split <;> rfl
set_option maxHeartbeats 1000000 in
theorem s8 (lives : ∀ {h : Heap} {Q : AV → Heap → Prop}, Laid h → Q (.bool true) h → AC Tryz.prog 19 [] h Q) {n1 n2 : Int} {q : Option SL} {l : List Ent} (L : Laid h) (H : HasL entE h q l) : AC Tryz.prog 8 [.int .i64 n1, .int .i64 n2, .sl q] h fun v _ => v = .bool true := ac8 (by
  unfold vc8
  rw [H.len]
  refine vif_mk (fun g => vif_mk (fun _ => lives L ⟨_, rfl, rfl⟩) (fun _ => ?_)) (fun g => ?_)
  all_goals
    refine vif_mk (fun _ => lives L ⟨_, rfl, rfl⟩) (fun g2 => vif_mk (fun _ => lives L ⟨_, rfl, rfl⟩) (fun g3 => vif_mk (fun _ => lives L ⟨_, rfl, rfl⟩) (fun g4 => ?_)))
    replace g2 := of_decide_eq_false g2
    replace g3 := of_decide_eq_false g3
    replace g4 := of_decide_eq_false g4
    obtain ⟨lim, rfl⟩ : ∃ lim : Nat, n1 = lim := ⟨n1.toNat, by omega⟩
    refine d26 (by omega) (by omega) fun ow R0 B0 => ⟨_, _, rfl, ?_⟩
    have x0 : Ext h ((h ++ [Blk.mp [] 0]) ++ [Blk.cells [.map (some h.length), .sl none, .int .i64 (lim : Nat), .int .i64 (-1), .bool false] true]) := (Ext.app _ _).trans (.app _ _)
    have l0 : ((h ++ [Blk.mp [] 0]) ++ [Blk.cells [.map (some h.length), .sl none, .int .i64 (lim : Nat), .int .i64 (-1), .bool false] true]).length = h.length + 2 := by simp
    generalize (h ++ [Blk.mp [] 0]) ++ [Blk.cells [.map (some h.length), .sl none, .int .i64 (lim : Nat), .int .i64 (-1), .bool false] true] = h17 at *
    refine r50 (by omega) (by omega) fun _ _ _ => ⟨_, rfl, ?_⟩
    have x21 : Ext h17 (h17 ++ [Blk.cells [.sl none, .sl none, .int .i64 (lim : Nat), .int .i64 (-1), .bool false] true]) := .app _ _
    have pb : (h17 ++ [Blk.cells [.sl none, .sl none, .int .i64 (lim : Nat), .int .i64 (-1), .bool false] true])[h17.length]? = some (.cells [.sl none, .sl none, .int .i64 (lim : Nat), .int .i64 (-1), .bool false] true) := by simp
    have l21 : (h17 ++ [Blk.cells [.sl none, .sl none, .int .i64 (lim : Nat), .int .i64 (-1), .bool false] true]).length = h17.length + 1 := by simp
    generalize h17 ++ [Blk.cells [.sl none, .sl none, .int .i64 (lim : Nat), .int .i64 (-1), .bool false] true] = h21 at *
    have xx := x0.trans x21
    have L21 := L.ext xx
    have H21 := H.mono xx
    have R21 := R0.grow x21
    have lv0 := R0.live
    refine lives L21 ⟨_, rfl, vif_mk (fun g => by cases g) (fun _ => vif_mk (fun g => by simp at g) (fun _ => vif_mk (fun g => by simp at g) (fun _ => vif_mk (fun g => by simp at g) (fun _ => ?_))))⟩
    have hqb : ∀ (t : SL), q = some t → t.b < h.length := fun t ht => HasL.live H t ht
    refine k25 (lim := lim) rfl (by omega) L21 R21 H21 (by omega) (fun hm h27 x27 => ⟨_, rfl, ?_⟩) (fun base he b1 b2 hm hso b h27 ow27 R27 S27 => ⟨_, rfl, ?_⟩)
    · refine r51 (lim := lim) rfl (by omega) (x27 _ _ pb) (H21.mono x27) (fun t ht => by have := hqb t ht; omega) (by omega) (fun _ => ⟨_, rfl, ?_⟩) (fun base he b1 b2 hm' hso => absurd (by subst he; exact mayS_ok (decide_eq_true ⟨by omega, by omega⟩) hm' hso) hm)
      refine vif_mk (fun g => by simp at g) (fun _ => ?_)
      exact tail8_ok (Q := fun v _ => v = .bool true) (R21.grow x27) (emptyC (x27 _ _ pb) (by omega)) rfl rfl (by simp [emptyD]) rfl (.inl rfl) fun _ => rfl
    · obtain ⟨hok, hlm⟩ := mayE_ok.1 hm
      have hms : mayS n2 l = 0 := by subst he; exact mayS_ok (decide_eq_true ⟨by omega, by omega⟩) hm hso
      have np : ow h17.length = none := by
        cases ho : ow h17.length with
        | none => rfl
        | some r => have := lv0 h17.length (by rw [ho]; simp); omega
      have pb27 := S27.keeps _ _ (fun hc => hc np) pb
      have hqn : ∀ (t : SL), q = some t → ¬ dsk ow t.b := fun t ht hc => by
        have := hqb t ht; have := B0 _ hc; omega
      have h64 := sectors_len64 (base := base) hok hlm
      have hSl : (sectors base l).length ≤ 40000 := by
        rw [sectors_len]
        have := packG_len hok; have := idx_len hok; omega
      refine r51 (lim := lim) rfl (by omega) pb27 (S27.keeps.hasL hqn H21) (fun t ht => by have := hqb t ht; omega) (by omega) (fun hn => absurd hms hn) (fun base' he' _ _ _ _ b' s' h30 ow30 R30 S30 => ⟨_, rfl, ?_⟩)
      obtain rfl : base = base' := by omega
      rw [wr_fst]
      refine vif_mk (fun g => by simp at g) (fun _ => ?_)
      obtain ⟨qL, qP, C30⟩ := R30
      have R31 := R27.ext (h' := h30) (fun c B hc hB => S30.keeps _ _ (fun hd => by
        have hcp := onlyP_iff.1 hd
        subst hcp
        rcases Classical.em (ow27 h17.length = none) with hn | hn
        · exact hc hn
        · rcases S27.own _ hn with h9 | h9
          · exact h9 np
          · omega) hB) S30.len
      refine tail8_ok (Q := fun v _ => v = .bool true) R31 C30 (by rw [wr_used, w5_used]) wr_pends (by have := wr_pends_le (b := b) (s := [115]) (S := sectors base l) (lim := lim); omega) (by rw [wr_list]; rfl) (.inr ⟨_, oneD_find (f := ⟨b', [115], _, _⟩), wr_lies h64⟩) fun _ => rfl)
end
end Go.Proofs.YtnglhicedhcpbaaGreatDoor
