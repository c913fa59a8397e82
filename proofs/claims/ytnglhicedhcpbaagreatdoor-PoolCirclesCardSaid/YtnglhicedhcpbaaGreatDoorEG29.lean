/- Pages asked for round and round: the walk. -/
import Derived.Test.YtnglhicedhcpbaaGreatDoorEG13
import Derived.Test.YtnglhicedhcpbaaGreatDoorEG21
import Derived.Test.YtnglhicedhcpbaaGreatDoorEG28
namespace Go.Proofs.YtnglhicedhcpbaaGreatDoor
open Go.Ab
open Go.Num hiding Bs snoc_ind
open Go.Ent Go.Seg
open Go.Page hiding Bs get
open Go.Pool hiding Bs Ents set_at Fr least
set_option linter.unusedVariables false
set_option linter.unusedSimpArgs false
def pgC (i : Nat) : List Ent := (pageR 2 (i : Int)).2
section
variable {h : Heap} {Q : AV → Heap → Prop}
theorem pageC {i : Nat} (hi : i < 11) : pageR 2 (i : Int) = (0, pgC i) ∧ (pgC i).length ≤ 10 := by
  obtain ⟨g, _, e, _, _, hl⟩ := pageR_some (k := 2) (by omega) (n := (i : Int)) (by omega) (by rw [headsK_len (by omega)]; have : (packG (ents (cntK 2))).length = 11 := pages2; omega)
  unfold pgC
  rw [e]
  exact ⟨rfl, hl⟩
set_option maxHeartbeats 1000000 in
/-- PoolCircles -/
theorem s13 {n1 n2 n3 : Int} (L : Laid h) : AC Tryz.prog 13 [.int .i64 n1, .int .i64 n2, .int .i64 n3] h fun v _ => v = .bool true := ac13 (by
  unfold vc13
  have lives : ∀ {h' : Heap}, Laid h' → AC Tryz.prog 68 [] h' fun v10 h11 => ∃ b12 : Bool, v10 = .bool b12 ∧ AV.bool b12 = .bool true := fun L' => k68 L' fun _ _ => ⟨_, rfl, rfl⟩
  refine k67 L fun a h5 ow dp qS qL fs sps ls W5 => ⟨_, rfl, ?_⟩
  refine k68 (L.ext W5.ext) fun h8 x8 => ⟨_, rfl, vif_mk (fun g => by simp at g) (fun _ => vif_mk (fun g => by simp at g) (fun _ => ?_))⟩
  have W := W5.grow x8
  have L8 := L.ext W.ext
  refine vif_mk (fun _ => lives L8) (fun g1 => vif_mk (fun _ => lives L8) (fun g2 => vif_mk (fun _ => lives L8) (fun g3 => ?_)))
  replace g1 := of_decide_eq_false g1
  replace g2 := of_decide_eq_false g2
  replace g3 := of_decide_eq_false g3
  have hs2 : sps[2]? = some (sps[2]'(by rw [W.sl]; omega)) := List.getElem?_eq_getElem _
  generalize sps[2]'(by rw [W.sl]; omega) = s2 at hs2
  refine ⟨_, W.segs, ?_⟩
  refine W.idx (by omega) (by omega) fun pp sp hsp hc => ⟨_, hc, ?_⟩
  rw [show ((2 : Int)).toNat = 2 from rfl, hs2] at hsp; cases hsp
  obtain ⟨q2, S2, _⟩ := W.seg 2 s2 hs2
  refine k22 S2.at' S2.hd.hasL ⟨_, rfl, ?_⟩
  have hp11 : (headsK 2).length = 11 := by rw [headsK_len (by omega)]; exact pages2
  rw [hp11]
  refine vif_mk (fun _ => lives L8) (fun g4 => vif_mk (fun _ => lives L8) (fun g5 => vif_mk (fun _ => lives L8) (fun g6 => ?_)))
  replace g4 := of_decide_eq_false g4
  replace g5 := of_decide_eq_false g5
  replace g6 := of_decide_eq_false g6
  obtain ⟨n, rfl⟩ := Int.eq_ofNat_of_zero_le (by omega : 0 ≤ n1)
  obtain ⟨pages, rfl⟩ := Int.eq_ofNat_of_zero_le (by omega : 0 ≤ n2)
  obtain ⟨rounds, rfl⟩ := Int.eq_ofNat_of_zero_le (by omega : 0 ≤ n3)
  refine WP.make (n := n) W L (by omega) fun h42 p fb mb T42 x42 => ⟨_, _, rfl, vif_mk (fun g => by simp at g) (fun _ => vif_mk (fun g => by simp at g) (fun _ => ?_))⟩
  have ok42 : (newP n).ok := by obtain ⟨_, _, _, C⟩ := T42.R; exact C.ok
  -- behind so many rounds
  refine ⟨fun xs h48 => ∃ (r : Nat) (P : PS), xs = [.int .i64 (r : Nat)] ∧ r ≤ rounds ∧ WP h h8 h48 ow dp a qS qL fs sps ls p fb mb P (r * pages) ∧ Cir pgC [99] P n pages (r * pages) fun j => 1 ≤ r ∧ j < pages, fun xs _ => match xs with | [.int _ i] => (rounds - i).toNat | _ => 0,
    ⟨0, _, rfl, by omega, by simpa using T42, by
      have := cir_new (pg := pgC) (s := [99]) (pages := pages) ok42
      simp only [Nat.zero_mul]
      exact { this with sn := fun _ j hj => absurd hj.1 (by omega) }⟩, ?_⟩
  rintro n45 h48 ⟨r, P, hx, hr, T, C⟩
  simp only [List.cons.injEq, AV.int.injEq, true_and, and_true] at hx
  subst hx
  refine vif_mk (fun gr => ?_) (fun gr => ?_)
  · replace gr := of_decide_eq_true gr
    have hrp : (r + 1) * pages ≤ 6 * 11 := Nat.mul_le_mul (by omega) (by omega)
    have hrp2 : (r + 1) * pages = r * pages + pages := by rw [Nat.add_mul, Nat.one_mul]
    refine ⟨fun xs h52 => ∃ (i : Nat) (P : PS), xs = [.int .i64 (i : Nat)] ∧ i ≤ pages ∧ WP h h8 h52 ow dp a qS qL fs sps ls p fb mb P (r * pages + i) ∧ Cir pgC [99] P n pages (r * pages + i) fun j => (1 ≤ r ∧ j < pages) ∨ j < i, fun xs _ => match xs with | [.int _ i] => (pages - i).toNat | _ => 0,
      ⟨0, P, rfl, by omega, T, { C with sn := fun h0 j hj => C.sn h0 j (by rcases hj with hj | hj; exact hj; omega) }⟩, ?_⟩
    rintro n49 h52 ⟨i, P, hx, hi, T, C⟩
    simp only [List.cons.injEq, AV.int.injEq, true_and, and_true] at hx
    subst hx
    refine vif_mk (fun gi => ?_) (fun gi => ?_)
    · replace gi := of_decide_eq_true gi
      have hip : i < pages := by omega
      obtain ⟨pe, pl⟩ := pageC (i := i) (by omega)
      obtain ⟨P1, eh, hrest⟩ := C.step (by omega) hip
      have eh' : P.hold (nameK 2) (i : Int) (pageR 2 (i : Int)) = (0, pgC i, P1) := by rw [pe]; exact eh
      refine ⟨_, T.segs, ?_⟩
      refine T.now.idx (by omega) (by omega) fun pp sp hsp hc => ⟨_, hc, ?_⟩
      rw [show ((2 : Int)).toNat = 2 from rfl, hs2] at hsp; cases hsp
      refine T.hold2 (j := 2) (n := (i : Int)) hs2 eh' fun q59 h58 T58 K58 l58 H59 _ => ⟨_, _, rfl, ?_⟩
      have T58 := T58 (by omega)
      obtain ⟨H59, f59⟩ := H59 rfl
      have ok1 : P1.ok := by obtain ⟨_, _, _, C⟩ := T58.R; exact C.ok
      obtain ⟨P2, ef, hC2⟩ := hrest ok1
      refine ⟨_, T58.segs, ?_⟩
      refine T58.now.idx (by omega) (by omega) fun pp sp hsp hc => ⟨_, hc, ?_⟩
      rw [show ((2 : Int)).toNat = 2 from rfl, hs2] at hsp; cases hsp
      refine NW.page2 (j := 2) (n := (i : Int)) T58.now T58.L hs2 pe (fun he => absurd rfl he) fun _ q67 h66 x66 H67 _ => ⟨_, _, rfl, ?_⟩
      refine vif_mk (fun g => by simp at g) (fun _ => vif_mk (fun g => by simp at g) (fun _ => ?_))
      obtain ⟨gl, hgl⟩ : ∃ gl, pgC i = gl := ⟨_, rfl⟩
      rw [hgl] at H59 H67 pl
      refine k62 (H59.mono x66) H67 (by omega) ⟨_, rfl, vif_mk (fun g => by simp at g) (fun _ => ?_)⟩
      refine (T58.ext x66).free2 ef fun h73 T73 K73 l73 => ⟨_, rfl, vif_mk (fun g => by simp at g) (fun _ => ?_)⟩
      have ok2 : P2.ok := by obtain ⟨_, _, _, C⟩ := T73.R; exact C.ok
      have C2 := hC2 ok2
      rw [wrapK_i64 ⟨by omega, by omega⟩]
      refine ⟨trivial, ⟨i + 1, P2, by simp, by omega, T73, { C2 with sn := fun h0 j hj => C2.sn h0 j (by
        rcases hj with hj | hj
        · exact .inl (.inl hj)
        · rcases Nat.lt_or_ge j i with h | h
          · exact .inl (.inr h)
          · exact .inr (by omega)) }⟩, by simp only; omega⟩
    · replace gi := of_decide_eq_false gi
      have : i = pages := by omega
      subst this
      rw [wrapK_i64 ⟨by omega, by omega⟩]
      refine ⟨trivial, ⟨r + 1, P, by simp, by omega, by rw [hrp2]; exact T, ?_⟩, by simp only; omega⟩
      rw [hrp2]
      exact { C with sn := fun h0 j hj => C.sn h0 j (.inr hj.2) }
  · replace gr := of_decide_eq_false gr
    have : r = rounds := by omega
    subst this
    have hrp : r * pages ≤ 6 * 11 := Nat.mul_le_mul (by omega) (by omega)
    have hmost := C.most
    have hall := C.all (fun j hj => ⟨by omega, hj⟩)
    have hul := used_len (P := P)
    rw [C.len] at hul
    have hrd := C.rd
    have htt := C.tt
    have hls := C.ls
    have hfw := C.fw
    refine T.stats ⟨_, _, _, rfl, ?_⟩
    refine vif_mk (fun g => ?_) (fun g => ?_)
    · have g : pages ≤ n := by have := of_decide_eq_true g; omega
      have h0 := hfw g
      have hu : P.used = pages := Nat.le_antisymm hmost (hall h0)
      have e1 : wrapK .i64 ((pages : Int) * wrapK .i64 ((r : Int) - 1)) = ((pages * (r - 1) : Nat) : Int) := by
        have e2 : ((r : Int) - 1) = ((r - 1 : Nat) : Int) := by omega
        have : pages * (r - 1) ≤ 11 * 6 := Nat.mul_le_mul (by omega) (by omega)
        rw [wrapK_i64 (n := (r : Int) - 1) ⟨by omega, by omega⟩, e2, ← Int.natCast_mul, wrapK_i64 ⟨by omega, by omega⟩]
      have e3 : pages * (r - 1) + pages = r * pages := by
        have : pages * (r - 1) + pages * 1 = pages * (r - 1 + 1) := by rw [Nat.mul_add]
        rw [Nat.mul_one, show r - 1 + 1 = r by omega, Nat.mul_comm pages r] at this
        exact this
      rw [e1]
      have hh : P.hits = pages * (r - 1) := by omega
      have hr2 : P.reads = pages := by omega
      rw [hh, hr2, h0]
      refine vif_mk (fun _ => ?_) (fun g => by simp at g)
      refine T.usedN ⟨_, rfl, ?_⟩
      rw [hu]; simp
    · have g : n < pages := by have := of_decide_eq_false g; omega
      have hl0 : P.losses ≠ 0 := fun h0 => by have := hall h0; omega
      have hu : P.used = n := by rcases hls with h | h; exact absurd h hl0; exact h
      have e0 : ((P.reads : Int) + (P.hits : Int)) = (pages : Int) * (r : Int) := by
        rw [← Int.natCast_mul, Nat.mul_comm pages r]; omega
      have e1 : wrapK .i64 ((P.reads : Int) + (P.hits : Int)) = wrapK .i64 ((pages : Int) * (r : Int)) := by rw [e0]
      rw [e1]
      refine vif_mk (fun _ => ?_) (fun g => by simp at g)
      have e2 : wrapK .i64 ((P.reads : Int) - (n : Int)) = (P.losses : Int) := by rw [wrapK_i64 ⟨by omega, by omega⟩]; omega
      rw [e2]
      refine vif_mk (fun _ => ?_) (fun g => by simp at g)
      refine T.usedN ⟨_, rfl, ?_⟩
      rw [hu]; simp)
end
end Go.Proofs.YtnglhicedhcpbaaGreatDoor
