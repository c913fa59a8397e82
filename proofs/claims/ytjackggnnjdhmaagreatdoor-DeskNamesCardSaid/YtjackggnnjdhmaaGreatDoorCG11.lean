import Derived.Test.YtjackggnnjdhmaaGreatDoorCG1
import Derived.Test.YtjackggnnjdhmaaGreatDoorCG5
import Derived.Test.YtjackggnnjdhmaaGreatDoorCG7
import Derived.Test.YtjackggnnjdhmaaGreatDoorCG8
import Derived.Test.YtjackggnnjdhmaaGreatDoorCG9
import Derived.Test.YtjackggnnjdhmaaGreatDoorCG10
import Derived.Test.YtjackggnnjdhmaaGreatDoorProg
import Derived.KernelRfl
import Derived.Shelf.GgSortFunc.InsertionK
import Derived.Shelf.SlIter.Nil
import Derived.Shelf.SortM.Plain
import Derived.Shelf.SortM.SortNone
import Derived.Ground.GgzProg
import Derived.Ground.SlgmProg
import Derived.ChangeSame
import Derived.ChangeVars
namespace Go.Proofs.YtjackggnnjdhmaaGreatDoor
open Go.Ab Go.Proofs Go.RowKit
set_option linter.unusedVariables false
set_option linter.unusedSimpArgs false
section
variable {h : Heap} {Q : AV → Heap → Prop}
theorem AC_same {f : FuncId} {args : List AV} {x : AV} (hc : callable Tryz.prog f = true) (hr : ∀ (μ : Ren) (w : World) (vs : List Value), relL μ args vs → Calls Tryz.prog f vs.toArray w fun e w' => (∃ v, e = .returned v ∧ x.rel μ v) ∧ w' = w) (hQ : Q x h) : AC Tryz.prog f args h Q :=
 ⟨hc, fun μ w vs H hv => (hr μ w vs hv).mono fun e w' ⟨⟨v, he, hx⟩, hw⟩ => by subst hw; exact ⟨v, x, h, μ, he, hQ, Evo.refl _ _ _, H, hx⟩⟩
theorem index_ge (c : UInt8) : ∀ l, -1 ≤ Lib.indexByte l c
 | [] => by simp [Lib.indexByte]
 | b :: l => by
  have := index_ge c l
  unfold Lib.indexByte
  split
  ·omega
  ·split <;> omega
theorem u8_beq (a b : UInt8) : Nat.beq a.toNat b.toNat = (a == b) := by
 cases hab : a == b with
 | true => rw [beq_iff_eq] at hab; subst hab; exact Nat.beq_refl _
 | false =>
  cases hn : Nat.beq a.toNat b.toNat with
  | false => rfl
  | true =>
   have := UInt8.toNat_inj.1 (Nat.eq_of_beq_eq_true hn)
   subst this
   simp at hab
theorem idx_cons (b : UInt8) (l : List UInt8) (c : UInt8) : Lib.indexByte (b :: l) c = if b == c then 0 else if Lib.indexByte l c == -1 then -1 else Lib.indexByte l c + 1 := rfl
def idxK (c : UInt8) : List UInt8 → Nat → (Int → Bool) → Bool
 | [], _, k => k (-1)
 | b :: l, i, k => match Nat.beq b.toNat c.toNat with
  | true => k (Int.ofNat i)
  | false => fN (Nat.succ i) fun j => idxK c l j k
theorem idxK_eq (c : UInt8) : ∀ l i k, idxK c l i k = k (if Lib.indexByte l c = -1 then -1 else Lib.indexByte l c + i)
 | [], i, k => rfl
 | b :: l, i, k => by
  have ih := idxK_eq c l (Nat.succ i) k
  have hge := index_ge c l
  unfold idxK
  rw [fN_eq, ih, u8_beq, idx_cons]
  generalize Lib.indexByte l c = z at hge
  cases hb : b == c with
  | true => simp
  | false =>
   simp only [Bool.false_eq_true, if_false]
   by_cases h1 : z = -1
   ·simp [h1]
   ·have h2 : (z == -1) = false := beq_eq_false_iff_ne.2 h1
    rw [if_neg h1, h2]
    simp only [Bool.false_eq_true, if_false]
    rw [if_neg (by omega)]
    congr 1
    simp only [Nat.succ_eq_add_one, Int.natCast_add]
    omega
theorem c192 {s : List UInt8} {c : UInt8} (hQ : Q (.int .i64 (Lib.indexByte s c)) h) : AC Tryz.prog 192 [.str s, .str [c]] h Q := by
 refine AC_same (by kernel_rfl) (fun μ w vs hv => ?_) hQ
 obtain ⟨v1, v2, rfl, h1, h2⟩ := relL_two hv
 obtain rfl : v1 = .string ⟨s.toArray⟩ := h1
 obtain rfl : v2 = .string ⟨#[c]⟩ := h2
 refine (Any.stringslite_Index_one Tryz.lays219 ⟨s.toArray⟩ c w).mono fun e w' ⟨he, hw⟩ => ⟨⟨_, he, ?_⟩, hw⟩
 simp [AV.rel]
def eIdx : RunT := fun args h k => match args with
 | [.str s, .str [c]] => idxK c s 0 fun n => k (.int .i64 n) h
 | _ => false
theorem eIdx_ok : RunOK Tryz.prog 192 eIdx := by
 intro args e h k Q H hQ hk
 unfold eIdx at hk
 split at hk
 ·rename_i s c
  rw [idxK_eq] at hk
  refine c192 (hQ _ _ _ H ?_)
  have hge := index_ge c s
  by_cases h1 : Lib.indexByte s c = -1
  ·rw [if_pos h1] at hk; rw [h1]; exact hk
  ·rw [if_neg h1] at hk
   simpa using hk
 ·cases hk
def cntK (c : UInt8) : List UInt8 → Nat → (Nat → Bool) → Bool
 | [], n, k => k n
 | b :: l, n, k => match Nat.beq b.toNat c.toNat with
  | true => fN (Nat.succ n) fun j => cntK c l j k
  | false => cntK c l n k
theorem cntK_eq (c : UInt8) : ∀ l n k, cntK c l n k = k (n + l.count c)
 | [], n, k => rfl
 | b :: l, n, k => by
  have ih1 := cntK_eq c l (Nat.succ n) k
  have ih2 := cntK_eq c l n k
  unfold cntK
  rw [fN_eq, ih1, ih2, u8_beq, List.count_cons]
  cases hb : b == c with
  | true => simp only [if_true]; congr 1; omega
  | false => simp
theorem c131 {s : List UInt8} {c : UInt8} (hQ : Q (.int .i64 (s.count c : Nat)) h) : AC Tryz.prog 131 [.str s, .str [c]] h Q := by
 refine AC_same (by kernel_rfl) (fun μ w vs hv => ?_) hQ
 obtain ⟨v1, v2, rfl, h1, h2⟩ := relL_two hv
 obtain rfl : v1 = .string ⟨s.toArray⟩ := h1
 obtain rfl : v2 = .string ⟨#[c]⟩ := h2
 refine (Any.strings_Count_one Tryz.lays138 ⟨s.toArray⟩ c w).mono fun e w' ⟨he, hw⟩ => ⟨⟨_, he, ?_⟩, hw⟩
 simp [AV.rel, Lib.countByte]
def eCnt : RunT := fun args h k => match args with
 | [.str s, .str [c]] => cntK c s 0 fun n => k (.int .i64 (Int.ofNat n)) h
 | _ => false
theorem eCnt_ok : RunOK Tryz.prog 131 eCnt := by
 intro args e h k Q H hQ hk
 unfold eCnt at hk
 split at hk
 ·rename_i s c
  rw [cntK_eq, Nat.zero_add] at hk
  exact c131 (hQ _ _ _ H hk)
 ·cases hk
def pB (x : Nat) : Bool := x == 32 || x == 9 || x == 13 || x == 10
set_option maxHeartbeats 1000000 in
theorem blank71 (x : Nat) (W : World) : Calls Tryz.prog 71 #[.int .i32 x] W fun e w' => e = .returned (.bool (pB x)) ∧ w' = W := by
 have e1 : ∀ n : Nat, ((x : Int) == (n : Int)) = (x == n) := fun n => by
  by_cases hx : x = n
  ·subst hx; simp
  ·rw [beq_eq_false_iff_ne.2 hx, beq_eq_false_iff_ne.2 (by omega)]
 have n1 : ((x : Int) == 32) = (x == 32) := e1 32
 have n2 : ((x : Int) == 9) = (x == 9) := e1 9
 have n3 : ((x : Int) == 13) = (x == 13) := e1 13
 have n4 : ((x : Int) == 10) = (x == 10) := e1 10
 unfold pB
 cases h1 : x == 32 <;> cases h2 : x == 9 <;> cases h3 : x == 13 <;> cases h4 : x == 10 <;> rw [h1] at n1 <;> rw [h2] at n2 <;> rw [h3] at n3 <;> rw [h4] at n4
 all_goals
  go_enter Tryz.func71, Tryz.ntmps71
  go_wp2
  go_ret
  exact ⟨rfl, rfl⟩
end
section
variable {h : Heap} {Q : AV → Heap → Prop}
def mkB (l : List UInt8) : ByteArray := ⟨l.toArray⟩
theorem c70 {s : List UInt8} {ws : List (List UInt8)} (hs : s.length ≤ 100000) (hws : ws.length ≤ 100000) (hw : Lib.goFieldsP pB (mkB s) = ws.map mkB)
  (hQ : Q (.sl (some ⟨h.length, 0, ws.length, ws.length, 1⟩)) (h ++ [.cells (ws.map .str) true])) : AC Tryz.prog 70 [.str s, .func (.func 71) [] []] h Q := by
 refine ⟨by kernel_rfl, fun μ w vs H hv => ?_⟩
 obtain ⟨v1, v2, rfl, h1, f', c', rfl, hf, hcc⟩ := relL_two hv
 obtain rfl : v1 = .string (mkB s) := h1
 have hfe : f' = #[] := by apply Array.ext'; exact hf
 have hce : c' = #[] := by apply Array.ext'; exact hcc
 subst hfe hce
 have eg : ∀ args w, (callFunc 71 args).run Tryz.prog w = .ok (.enter 71 args) w := enters_of Tryz.func71 (by kernel_rfl) rfl
 refine (Any.strings_FieldsFunc_runes Tryz.lays229 71 #[] eg pB (mkB s) w (by show s.toArray.size ≤ _; simp; omega) (fun W x _ _ => (blank71 x W).mono fun e w' ⟨he, hw⟩ => ⟨he, 0, hw⟩) (by kernel_rfl) (by kernel_rfl)).mono fun en w' hh => ?_
 obtain ⟨A, he, hA, hrow, hbelow⟩ := hh
 rw [hw] at he hrow
 rw [List.length_map] at he hrow
 have R := (rel_self H).below hbelow
 obtain ⟨hr0, hrow⟩ := hrow
 rcases hrow with ⟨hv, hn⟩ | ⟨gb, cap', cur, hv, hge, hgb, hcap', hmax, hcur, htake⟩
 ·cases hv
 ·cases hv
  have R2 := R.adopt ⟨A, 0, ws.length⟩ (.cells (ws.map .str) true) (.inl hge) (heap_lt hgb) ?_ ?_ (by simp)
  ·refine ⟨_, .sl (some ⟨h.length, 0, ws.length, ws.length, 1⟩), _, _, he, hQ, R2.evo, R2.heap, ⟨A, 0, ws.length⟩, ws.length, ⟨A, 0, none⟩, ?_, rfl, Nat.le_refl _, .inr rfl, by simp, ?_⟩
   ·left; rw [← H.len]; simp
   ·intro _
    simp only
    exact ⟨by omega, by omega⟩
  ·refine ⟨cur, _, (0, 0), hgb, by simp; omega, by simp, ?_, ?_, fun _ => rfl⟩
   ·simp [oneAll, AV.one]
   ·intro i x hx
    have hi := lt_of_get hx
    simp only [List.length_map] at hi
    have h1 : (cur.toList.take (ws.length * 1))[i]? = ((ws.map mkB).map Value.string)[i]? := by rw [htake]
    rw [List.getElem?_take, if_pos (by omega)] at h1
    rw [List.getElem?_map, List.getElem?_eq_getElem hi] at hx
    rw [List.getElem?_map, List.getElem?_map, List.getElem?_eq_getElem hi] at h1
    simp only [Option.map_some, Option.some.injEq] at h1 hx
    subst hx
    exact ⟨.string (mkB ws[i]), by rw [Nat.zero_add]; simpa using h1, rfl⟩
  ·intro b B e' hb hlv he'
   have := (rel_self H).heap.bnd b e' he'
   simp only; omega
theorem blk_stays {μ : Go.Ab.Ren} {w w' : World} {S : Nat → Prop} (st : Stays S w w') {B : Blk} {e : ME} (he : e.r < w.heap.size) (hB : BlkRel μ w e B) (hS : B.live = true → ¬ S e.r) : BlkRel μ w' e B := by
 cases hl : B.live with
 | false => exact hB.still hl
 | true => exact hB.world (st.blk _ he (hS hl))
theorem rel_bytes {μ : Go.Ab.Ren} : ∀ {l : List UInt8} {vs : List Value}, relL μ (byteAVs l) vs → vs = Lib.byteCells l
 | [], vs, r => r
 | x :: l, vs, r => by
  obtain ⟨y, ys, rfl, h1, h2⟩ := r
  obtain rfl : y = _ := h1
  rw [rel_bytes h2]
  rfl
theorem bytes_rel {μ : Go.Ab.Ren} : ∀ (l : List UInt8), relL μ (byteAVs l) (Lib.byteCells l)
 | [] => rfl
 | x :: l => ⟨_, _, rfl, rfl, bytes_rel l⟩
end
def killB : Option Nat → Heap → Heap
 | none, h => h
 | some k, h => h.set k .dead
def bldB (b n : Nat) (l : List UInt8) : Blk := .bx (.iface 87 (.tup [.ptr (some ⟨b, 0⟩), .sl (some ⟨n, 0, l.length, l.length, 1⟩)]))
def bufB (l : List UInt8) : Blk := .bx (.iface 5 (.agg (byteAVs l)))
theorem killB_len (d : Option Nat) (h : Heap) : (killB d h).length = h.length := by cases d <;> simp [killB]
theorem killB_get {d : Option Nat} {h : Heap} {c : Nat} {B : Blk} (hc : (killB d h)[c]? = some B) : (d = some c ∧ B = .dead) ∨ (d ≠ some c ∧ h[c]? = some B) := by
 cases d with
 | none => exact .inr ⟨by simp, hc⟩
 | some k =>
  unfold killB at hc
  rw [List.getElem?_set] at hc
  by_cases hk : k = c
  ·subst hk
   rw [if_pos rfl] at hc
   split at hc
   ·cases hc; exact .inl ⟨rfl, rfl⟩
   ·cases hc
  ·rw [if_neg hk] at hc
   exact .inr ⟨by simpa using hk, hc⟩
theorem bld_parts {μ : Go.Ab.Ren} {w : World} {e : ME} {T : TypeId} {x y : AV} (hB : BlkRel μ w e (.bx (.iface T (.tup [x, y])))) : e.s = 0 ∧ ∃ p v, w.heap[e.r]? = some (.cells #[p, v] T (0, 0)) ∧ x.rel μ p ∧ y.rel μ v := by
 obtain ⟨hs, C, t, hc, hx⟩ := hB
 rcases hx with ⟨h0, _⟩ | ⟨cs, ⟨heq, hr⟩ | ⟨heq, _⟩⟩
 ·cases h0
 ·cases heq
  obtain ⟨p, v, hC, h1, h2⟩ := relL_two hr
  have hCe : C = #[p, v] := by apply Array.ext'; exact hC
  subst hCe
  exact ⟨hs, p, v, hc, h1, h2⟩
 ·cases heq
theorem buf_parts {μ : Go.Ab.Ren} {w : World} {e : ME} {l : List UInt8} (hB : BlkRel μ w e (bufB l)) : e.s = 0 ∧ ∃ C, w.heap[e.r]? = some (.cells C 5 (0, 0)) ∧ C.size = e.n ∧ l.length ≤ C.size ∧ C.toList.take l.length = Lib.byteCells l := by
 obtain ⟨hs, C, t, hc, hx⟩ := hB
 rcases hx with ⟨h0, _⟩ | ⟨cs, ⟨heq, _⟩ | ⟨heq, ⟨h1, h2⟩, h3⟩⟩
 ·cases h0
 ·cases heq
 ·cases heq
  have hl : (byteAVs l).length = l.length := by simp [byteAVs]
  rw [hl] at h1 h3
  exact ⟨hs, C, hc, h2, h1, rel_bytes h3⟩
theorem sl_row {μ : Go.Ab.Ren} {w : World} {k : Nat} {e : ME} {l : List UInt8} {v : Value} (h0 : l ≠ []) (he : μ[k]? = some e) (hB : BlkRel μ w e (bufB l)) (hv : AV.rel μ (.sl (some ⟨k, 0, l.length, l.length, 1⟩)) v) :
  ∃ cap, v = .slice (some ⟨e.r, 0, none⟩) l.length cap ∧ Row w v l.length (Lib.byteCells l) := by
 have hl0 : l.length ≠ 0 := by simpa using h0
 obtain ⟨hs, C, hc, hn, hle, htake⟩ := buf_parts hB
 obtain ⟨e2, c', q, g1, rfl, g3, g4, g5, g6⟩ := hv
 obtain ⟨g7, g8⟩ := g6 (by simp)
 simp only at g1 g3 g4 g7 g8
 have hc0 : c' ≠ 0 := by omega
 have he2 := g1.resolve_right hc0
 rw [he] at he2
 cases he2
 have hq := g4.resolve_left hc0
 rw [hs] at hq
 subst hq
 exact ⟨c', rfl, by simp [Lib.byteCells], .inr ⟨e.r, c', C, rfl, hc, g7, by omega, htake⟩⟩
section
variable {h : Heap} {Q : AV → Heap → Prop}
theorem ws_ac {b : Nat} {a : AV} {q : Option SL} {l s : List UInt8} {d : Option Nat} (hb : h[b]? = some (.bx (.iface 87 (.tup [a, .sl q])))) (ha : a = .ptr none ∨ a = .ptr (some ⟨b, 0⟩))
  (hq : (q = none ∧ l = [] ∧ d = none) ∨ ∃ k, q = some ⟨k, 0, l.length, l.length, 1⟩ ∧ d = some k ∧ l ≠ [] ∧ h[k]? = some (bufB l)) (hls : l.length + s.length ≤ 100000000) (h0 : l ++ s ≠ [])
  (hQ : Q (.tup [.int .i64 (s.length : Nat), .niliface]) ((killB d h).set b (bldB b h.length (l ++ s)) ++ [bufB (l ++ s)])) : AC Tryz.prog 32 [.ptr (some ⟨b, 0⟩), .str s] h Q := by
 refine ⟨by kernel_rfl, fun μ w vs H hv => ?_⟩
 obtain ⟨v1, v2, rfl, ⟨e, he, rfl⟩, h2⟩ := relL_two hv
 obtain rfl : v2 = .string ⟨s.toArray⟩ := h2
 obtain ⟨hs0, p, v, hc, hp, hvv⟩ := bld_parts (H.blk b _ e hb he)
 have haddr : (⟨e.r, e.s + 0, none⟩ : Addr) = ⟨e.r, 0, none⟩ := by rw [hs0]
 have hp' : p = .pointer none ∨ p = .pointer (some ⟨e.r, 0, none⟩) := by
  rcases ha with rfl | rfl
  ·exact .inl hp
  ·obtain ⟨e', he', rfl⟩ := hp
   simp only at he'
   rw [he] at he'
   cases he'
   exact .inr (by simp [hs0])
 have hrow : Row w v l.length (Lib.byteCells l) ∧ ((v.ownBlock = none ∧ d = none) ∨ ∃ k e2, d = some k ∧ μ[k]? = some e2 ∧ v.ownBlock = some e2.r ∧ h[k]? = some (bufB l)) := by
  rcases hq with ⟨rfl, rfl, rfl⟩ | ⟨k, rfl, rfl, hl, hk⟩
  ·obtain rfl : v = .slice none 0 0 := hvv
   exact ⟨⟨rfl, .inl ⟨rfl, rfl⟩⟩, .inl ⟨rfl, rfl⟩⟩
  ·have hkl := lt_of_get hk
   obtain ⟨e2, he2⟩ : ∃ e2, μ[k]? = some e2 := ⟨μ[k]'(by rw [H.len]; exact hkl), List.getElem?_eq_getElem _⟩
   obtain ⟨cap, hv2, hr⟩ := sl_row hl he2 (H.blk k _ e2 hk he2) hvv
   exact ⟨hr, .inr ⟨k, e2, rfl, he2, by rw [hv2]; rfl, hk⟩⟩
 obtain ⟨hrow, hown⟩ := hrow
 show Calls Tryz.prog 32 #[.pointer (some ⟨e.r, e.s + 0, none⟩), .string ⟨s.toArray⟩] w _
 rw [haddr]
 have hsz : (⟨s.toArray⟩ : ByteArray).size = s.length := by simp [ByteArray.size]
 refine (Tryz.ws32 e.r p v l.length (Lib.byteCells l) ⟨s.toArray⟩ w hc hp' hrow (by rw [hsz]; exact hls)).mono fun en w' hh => ?_
 obtain ⟨he', v', hb', hrow', st, hnew⟩ := hh
 have hne := row_ne hrow' hb'
 have hlen0 : 0 < (l ++ s).length := List.length_pos_iff.2 h0
 rw [List.length_append] at hlen0
 obtain ⟨hrl, hrow'⟩ := hrow'
 rw [hsz] at hrow' hrl he'
 rcases hrow' with ⟨hx, hn0⟩ | ⟨g, cap, cur, rfl, hg, hncap, hcap, htake⟩
 ·omega
 have hcells : Lib.byteCells l ++ Lib.strCells ⟨s.toArray⟩ = Lib.byteCells (l ++ s) := by rw [Lib.byteCells_append]; rfl
 rw [hcells] at htake
 have hgr : g ≠ e.r := fun hh => hne (by rw [hh]; rfl)
 have hnew' : v.ownBlock = some g ∨ w.heap.size ≤ g := hnew g rfl
 have hbl := lt_of_get hb
 have her := H.bnd b e he
 have hglt := heap_lt hg
 have get : ∀ (c : Nat) (B : Blk), ((killB d h).set b (bldB b h.length (l ++ s)) ++ [bufB (l ++ s)])[c]? = some B → (c = h.length ∧ B = bufB (l ++ s)) ∨ (c = b ∧ B = bldB b h.length (l ++ s)) ∨ B = .dead ∨ (c ≠ b ∧ d ≠ some c ∧ h[c]? = some B) := by
  intro c B hcB
  rw [List.getElem?_append] at hcB
  split at hcB
  ·rename_i hlt
   rw [List.getElem?_set] at hcB
   by_cases hcb : b = c
   ·subst hcb
    rw [if_pos rfl] at hcB
    split at hcB
    ·cases hcB; exact .inr (.inl ⟨rfl, rfl⟩)
    ·cases hcB
   ·rw [if_neg hcb] at hcB
    rcases killB_get hcB with ⟨_, hd⟩ | ⟨hd, hcB⟩
    ·exact .inr (.inr (.inl hd))
    ·exact .inr (.inr (.inr ⟨fun e => hcb e.symm, hd, hcB⟩))
  ·rename_i hge
   have hl1 : ((killB d h).set b (bldB b h.length (l ++ s))).length = h.length := by rw [List.length_set, killB_len]
   rw [hl1] at hcB hge
   have hc1 := lt_of_get hcB
   simp at hc1
   have : c - h.length = 0 := by omega
   rw [this] at hcB
   simp at hcB
   exact .inl ⟨by omega, hcB.symm⟩
 have mget : ∀ (c : Nat) (ec : ME), (μ ++ [⟨g, 0, cur.size⟩])[c]? = some ec → (c = h.length ∧ ec = ⟨g, 0, cur.size⟩) ∨ (c < h.length ∧ μ[c]? = some ec) := by
  intro c ec hce
  rw [List.getElem?_append, H.len] at hce
  split at hce
  ·exact .inr ⟨by assumption, hce⟩
  ·have hc1 := lt_of_get hce
   simp at hc1
   have : c - h.length = 0 := by omega
   rw [this] at hce
   simp at hce
   exact .inl ⟨by omega, hce.symm⟩
 have hnot : ∀ (c : Nat) (B : Blk) (ec : ME), h[c]? = some B → μ[c]? = some ec → c ≠ b → d ≠ some c → B.live = true → ec.r ≠ e.r ∧ v.ownBlock ≠ some ec.r ∧ ec.r ≠ g := by
  intro c B ec hcB hec hcb hdc hlv
  have h1 : ec.r ≠ e.r := (H.sep b c _ _ e ec (Ne.symm hcb) hb hcB rfl hlv he hec).symm
  have h2 : v.ownBlock ≠ some ec.r := by
   rcases hown with ⟨hn, _⟩ | ⟨k, e2, hdk, he2, hvo, hk⟩
   ·rw [hn]; simp
   ·rw [hvo]
    have hkc : k ≠ c := fun hh => hdc (by rw [hdk, hh])
    have := H.sep k c _ _ e2 ec hkc hk hcB rfl hlv he2 hec
    simpa using this
  refine ⟨h1, h2, fun hh => ?_⟩
  rcases hnew' with h3 | h3
  ·exact h2 (by rw [hh]; exact h3)
  ·have := H.bnd c ec hec; omega
 have hlive : ∀ (c : Nat) (B : Blk) (ec : ME), ((killB d h).set b (bldB b h.length (l ++ s)) ++ [bufB (l ++ s)])[c]? = some B → B.live = true → (μ ++ [⟨g, 0, cur.size⟩])[c]? = some ec →
   (c = h.length ∧ ec.r = g) ∨ (c < h.length ∧ c = b ∧ ec = e) ∨ (c < h.length ∧ c ≠ b ∧ d ≠ some c ∧ h[c]? = some B ∧ μ[c]? = some ec) := by
  intro c B ec hcB hlv hec
  rcases mget c ec hec with ⟨hc1, rfl⟩ | ⟨hc1, hec⟩
  ·exact .inl ⟨hc1, rfl⟩
  ·rcases get c B hcB with ⟨h1, _⟩ | ⟨h1, _⟩ | h1 | ⟨h1, h2, h3⟩
   ·omega
   ·refine .inr (.inl ⟨hc1, h1, ?_⟩)
    rw [h1, he] at hec
    exact (Option.some.inj hec).symm
   ·rw [h1] at hlv; cases hlv
   ·exact .inr (.inr ⟨hc1, h1, h2, h3, hec⟩)
 have hownE : ∀ (c : Nat) (B : Blk) (ec : ME), ((killB d h).set b (bldB b h.length (l ++ s)) ++ [bufB (l ++ s)])[c]? = some B → B.live = true → (μ ++ [⟨g, 0, cur.size⟩])[c]? = some ec →
   w.heap.size ≤ ec.r ∨ ∃ (b0 : Nat) (B0 : Blk) (e0 : ME), h[b0]? = some B0 ∧ B0.live = true ∧ (B.rw = true → B0.rw = true) ∧ μ[b0]? = some e0 ∧ e0.r = ec.r := by
  intro c B ec hcB hlv hec
  rcases hlive c B ec hcB hlv hec with ⟨h1, h2⟩ | ⟨h1, h2, h3⟩ | ⟨h1, h2, h3, h4, h5⟩
  ·rw [h2]
   rcases hnew' with h3 | h3
   ·rcases hown with ⟨hn, _⟩ | ⟨k, e2, hdk, he2, hvo, hk⟩
    ·rw [hn] at h3; cases h3
    ·rw [hvo] at h3
     exact .inr ⟨k, _, e2, hk, rfl, fun _ => rfl, he2, Option.some.inj h3⟩
   ·exact .inl h3
  ·subst h3
   exact .inr ⟨b, _, ec, hb, rfl, fun _ => rfl, he, rfl⟩
  ·exact .inr ⟨c, B, ec, h4, hlv, fun h => h, h5, rfl⟩
 refine ⟨_, .tup [.int .i64 (s.length : Nat), .niliface], _, μ ++ [⟨g, 0, cur.size⟩], he', hQ, ⟨Go.Ab.Ren.le_append _ _, ?_, st.size, ?_, ?_, ?_, st.os, st.tape, st.output⟩, ⟨?_, ?_, ?_, ?_⟩, ?_⟩
 ·rw [List.length_append, List.length_set, killB_len]; omega
 ·intro r hr hn
  refine st.blk r hr fun hS => ?_
  rcases hS with rfl | hS
  ·exact hn b _ e hb rfl he rfl
  ·rcases hown with ⟨hn2, _⟩ | ⟨k, e2, hdk, he2, hvo, hk⟩
   ·rw [hn2] at hS; cases hS
   ·rw [hvo] at hS
    exact hn k _ e2 hk rfl he2 (Option.some.inj hS)
 ·intro c B ec hcB hrw hec
  rcases hownE c B ec hcB (rw_live hrw) hec with h1 | ⟨b0, B0, e0, g1, g2, g3, g4, g5⟩
  ·exact .inl h1
  ·exact .inr ⟨b0, B0, e0, g1, g3 hrw, g4, g5⟩
 ·intro c B ec hcB hlv hec
  rcases hownE c B ec hcB hlv hec with h1 | ⟨b0, B0, e0, g1, g2, g3, g4, g5⟩
  ·exact .inl h1
  ·exact .inr ⟨b0, B0, e0, g1, g2, g4, g5⟩
 ·rw [List.length_append, List.length_append, List.length_set, killB_len, H.len]; rfl
 ·intro c B ec hcB hec
  rcases get c B hcB with ⟨h1, rfl⟩ | ⟨h1, rfl⟩ | rfl | ⟨h1, h2, h3⟩
  ·rcases mget c ec hec with ⟨_, rfl⟩ | ⟨h2, _⟩
   ·have hbl2 : (byteAVs (l ++ s)).length = l.length + s.length := by simp [byteAVs]
    refine ⟨rfl, cur, 5, hg, .inr ⟨byteAVs (l ++ s), .inr ⟨rfl, ⟨by rw [hbl2]; omega, rfl⟩, ?_⟩⟩⟩
    rw [hbl2, htake]
    exact bytes_rel _
   ·omega
  ·rcases mget c ec hec with ⟨h2, _⟩ | ⟨h2, hec⟩
   ·omega
   ·rw [h1, he] at hec
    cases hec
    refine ⟨hs0, #[.pointer (some ⟨e.r, 0, none⟩), .slice (some ⟨g, 0, none⟩) (l.length + s.length) cap], 87, hb', .inr ⟨_, .inl ⟨rfl, ?_⟩⟩⟩
    have hm : (μ ++ [⟨g, 0, cur.size⟩])[b]? = some e := Go.Ab.Ren.le_append _ _ _ _ he
    have hm2 : (μ ++ [(⟨g, 0, cur.size⟩ : ME)])[h.length]? = some ⟨g, 0, cur.size⟩ := by rw [← H.len]; simp
    refine ⟨_, _, rfl, ⟨e, hm, by simp [hs0]⟩, _, _, rfl, ⟨⟨g, 0, cur.size⟩, cap, ⟨g, 0, none⟩, .inl hm2, by rw [List.length_append], Nat.le_refl _, .inr rfl, by simp, fun _ => ?_⟩, rfl⟩
    simp only [List.length_append]
    exact ⟨hncap, by omega⟩
  ·trivial
  ·rcases mget c ec hec with ⟨h4, _⟩ | ⟨_, hec⟩
   ·have := lt_of_get h3; omega
   ·exact (blk_stays st (H.bnd c ec hec) (H.blk c B ec h3 hec) fun hlv hS => by
     obtain ⟨g1, g2, _⟩ := hnot c B ec h3 hec h1 h2 hlv
     exact hS.elim g1 g2).mono (Go.Ab.Ren.le_append _ _)
 ·intro c1 c2 B1 B2 e1 e2 hne12 hc1 hc2 hrw hlv he1 he2
  rcases hlive c1 B1 e1 hc1 (rw_live hrw) he1 with ⟨a1, a2⟩ | ⟨a1, a2, a3⟩ | ⟨a1, a2, a3, a4, a5⟩ <;> rcases hlive c2 B2 e2 hc2 hlv he2 with ⟨b1, b2⟩ | ⟨b1, b2, b3⟩ | ⟨b1, b2, b3, b4, b5⟩
  ·omega
  ·rw [a2, b3]; exact hgr
  ·rw [a2]; exact (hnot c2 B2 e2 b4 b5 b2 b3 hlv).2.2.symm
  ·rw [b2, a3]; exact hgr.symm
  ·omega
  ·rw [a3]; exact (hnot c2 B2 e2 b4 b5 b2 b3 hlv).1.symm
  ·rw [b2]; exact (hnot c1 B1 e1 a4 a5 a2 a3 (rw_live hrw)).2.2
  ·rw [b3]; exact (hnot c1 B1 e1 a4 a5 a2 a3 (rw_live hrw)).1
  ·exact H.sep c1 c2 B1 B2 e1 e2 hne12 a4 b4 hrw hlv a5 b5
 ·intro c ec hec
  rcases mget c ec hec with ⟨_, rfl⟩ | ⟨_, hec⟩
  ·exact hglt
  ·exact Nat.lt_of_lt_of_le (H.bnd c ec hec) st.size
 ·exact ⟨_, rfl, _, _, rfl, rfl, _, _, rfl, rfl, rfl⟩
theorem st_ac {b k : Nat} {a : AV} {l : List UInt8} (hb : h[b]? = some (.bx (.iface 87 (.tup [a, .sl (some ⟨k, 0, l.length, l.length, 1⟩)])))) (hk : h[k]? = some (bufB l)) (h0 : l ≠ []) (hl : l.length ≤ 100000000)
  (hQ : Q (.str l) (h.set k .dead)) : AC Tryz.prog 33 [.ptr (some ⟨b, 0⟩)] h Q := by
 refine ⟨by kernel_rfl, fun μ w vs H hv => ?_⟩
 obtain ⟨v1, rfl, e, he, rfl⟩ := relL_one hv
 obtain ⟨hs0, p, v, hc, hp, hvv⟩ := bld_parts (H.blk b _ e hb he)
 have hkl := lt_of_get hk
 obtain ⟨e2, he2⟩ : ∃ e2, μ[k]? = some e2 := ⟨μ[k]'(by rw [H.len]; exact hkl), List.getElem?_eq_getElem _⟩
 obtain ⟨cap, rfl, hr⟩ := sl_row h0 he2 (H.blk k _ e2 hk he2) hvv
 show Calls Tryz.prog 33 #[.pointer (some ⟨e.r, e.s + 0, none⟩)] w _
 rw [show (⟨e.r, e.s + 0, none⟩ : Addr) = ⟨e.r, 0, none⟩ by rw [hs0]]
 refine (Tryz.st33 e.r e2.r cap p l w h0 hl hc hr).mono fun en w' hh => ?_
 obtain ⟨he', st⟩ := hh
 have get : ∀ (c : Nat) (B : Blk), (h.set k .dead)[c]? = some B → B = .dead ∨ (c ≠ k ∧ h[c]? = some B) := by
  intro c B hcB
  rw [List.getElem?_set] at hcB
  by_cases hck : k = c
  ·rw [if_pos hck] at hcB
   split at hcB
   all_goals first
    | (cases hcB; exact .inl rfl)
    | cases hcB
  ·rw [if_neg hck] at hcB
   exact .inr ⟨fun e => hck e.symm, hcB⟩
 refine ⟨_, .str l, _, μ, he', hQ, ⟨Go.Ab.Ren.le.refl _, by simp, st.size, ?_, ?_, ?_, st.os, st.tape, st.output⟩, ⟨by rw [List.length_set]; exact H.len, ?_, ?_, ?_⟩, rfl⟩
 ·intro r hr hn
  exact st.blk r hr fun hS => hn k _ e2 hk rfl he2 hS.symm
 ·intro c B ec hcB hrw hec
  rcases get c B hcB with rfl | ⟨_, h1⟩
  ·cases hrw
  ·exact .inr ⟨c, B, ec, h1, hrw, hec, rfl⟩
 ·intro c B ec hcB hlv hec
  rcases get c B hcB with rfl | ⟨_, h1⟩
  ·cases hlv
  ·exact .inr ⟨c, B, ec, h1, hlv, hec, rfl⟩
 ·intro c B ec hcB hec
  rcases get c B hcB with rfl | ⟨hck, h1⟩
  ·trivial
  ·exact blk_stays st (H.bnd c ec hec) (H.blk c B ec h1 hec) fun hlv hS => H.sep k c _ _ e2 ec (Ne.symm hck) hk h1 rfl hlv he2 hec hS.symm
 ·intro c1 c2 B1 B2 e1 e3 hne12 hc1 hc2 hrw hlv he1 he3
  rcases get c1 B1 hc1 with rfl | ⟨_, h1⟩
  ·cases hrw
  ·rcases get c2 B2 hc2 with rfl | ⟨_, h3⟩
   ·cases hlv
   ·exact H.sep c1 c2 B1 B2 e1 e3 hne12 h1 h3 hrw hlv he1 he3
 ·intro c ec hec
  exact Nat.lt_of_lt_of_le (H.bnd c ec hec) st.size
end
end Go.Proofs.YtjackggnnjdhmaaGreatDoor
namespace Go.Proofs.YtjackggnnjdhmaaGreatDoor
open Go.Ab Go.Proofs
set_option linter.unusedVariables false
set_option linter.unusedSimpArgs false
structure FE where
 s : List UInt8
 ws : List (List UInt8)
 c : List AV
 n : Nat
structure FEok (x : FE) : Prop where
 s : x.s.length ≤ 100000
 n : x.ws.length = x.n
 nn : x.n ≤ 100000
 c : x.ws.map .str = x.c
 w : Lib.goFieldsP pB (mkB x.s) = x.ws.map mkB
def sameB : List UInt8 → List UInt8 → Bool
 | [], [] => true
 | a :: x, b :: y => match Nat.beq a.toNat b.toNat with | true => sameB x y | false => false
 | _, _ => false
theorem sameB_ok : ∀ {x y : List UInt8}, sameB x y = true → x = y
 | [], [], _ => rfl
 | [], _ :: _, h => by cases h
 | _ :: _, [], h => by cases h
 | a :: x, b :: y, h => by
  unfold sameB at h
  split at h
  ·rename_i h1
   rw [sameB_ok h, UInt8.toNat_inj.1 (Nat.eq_of_beq_eq_true h1)]
  ·cases h
def findF (s : List UInt8) (k : FE → Bool) : List FE → Bool
 | [] => false
 | x :: l => match sameB x.s s with
  | true => k x
  | false => findF s k l
theorem findF_ok {s : List UInt8} {k : FE → Bool} : ∀ {l : List FE}, findF s k l = true → ∃ x ∈ l, x.s = s ∧ k x = true
 | [], h => by cases h
 | x :: l, h => by
  unfold findF at h
  split at h
  ·rename_i h1
   exact ⟨x, by simp, sameB_ok h1, h⟩
  ·obtain ⟨y, h2, h3⟩ := findF_ok h
   exact ⟨y, List.mem_cons_of_mem _ h2, h3⟩
def eFields (tbl : List FE) : RunT := fun args h k => match args with
 | [.str s, .func (.func g) [] []] => Nat.beq g 71 && findF s (fun x => eNew x.c true h fun b h' => k (.sl (some ⟨b, 0, x.n, x.n, 1⟩)) h') tbl
 | _ => false
theorem eFields_ok {tbl : List FE} (ht : ∀ x ∈ tbl, FEok x) : RunOK Tryz.prog 70 (eFields tbl) := by
 intro args e h k Q H hQ hk
 unfold eFields at hk
 split at hk
 ·rename_i s g
  rw [Bool.and_eq_true] at hk
  obtain ⟨hg, hk⟩ := hk
  have hg := Nat.eq_of_beq_eq_true hg
  subst hg
  obtain ⟨x, hx, hxs, hk2⟩ := findF_ok hk
  have F := ht x hx
  obtain ⟨e', H', hk3⟩ := eNew_ok H hk2
  subst hxs
  refine c70 F.s (by rw [F.n]; exact F.nn) F.w ?_
  rw [F.n, F.c]
  exact hQ _ _ _ H' hk3
 ·cases hk
theorem fBytes_ok : ∀ {l : List UInt8} {k : List AV → Bool}, fBytes l k = true → k (byteAVs l) = true
 | [], k, h => h
 | b :: l, k, h => by
  unfold fBytes at h
  rw [fN_eq] at h
  exact fBytes_ok (l := l) (k := fun r => k (.int .u8 (.ofNat b.toNat) :: r)) h
def isNe {α : Type} : List α → Bool
 | [] => false
 | _ :: _ => true
theorem isNe_ok {α : Type} {l : List α} (h : isNe l = true) : l ≠ [] := by
 cases l with
 | nil => cases h
 | cons _ _ => simp
def selfB (b : Nat) : AV → Bool
 | .ptr none => true
 | .ptr (some p) => Nat.beq p.b b && Nat.beq p.o 0
 | _ => false
theorem selfB_ok {b : Nat} {a : AV} (h : selfB b a = true) : a = .ptr none ∨ a = .ptr (some ⟨b, 0⟩) := by
 unfold selfB at h
 split at h
 ·exact .inl rfl
 ·rename_i p
  rw [Bool.and_eq_true] at h
  obtain ⟨b', o⟩ := p
  have h1 := Nat.eq_of_beq_eq_true h.1
  have h2 := Nat.eq_of_beq_eq_true h.2
  simp only at h1 h2
  subst h1 h2
  exact .inr rfl
 ·cases h
def wsOut (t : T Blk) (N b n m : Nat) (cs : List AV) (k : AV → EH → Bool) : Bool :=
 t.put b (.bx (.iface 87 (.tup [.ptr (some ⟨b, 0⟩), .sl (some ⟨N, 0, n, n, 1⟩)]))) fun t2 => eNewB (.bx (.iface 5 (.agg cs))) ⟨t2, N⟩ fun _ h' => k (.tup [.int .i64 (Int.ofNat m), .niliface]) h'
def eWS : RunT := fun args h k => match args with
 | [.ptr (some p), .str s] => (match h.t.get p.b with
  | some (.bx (.iface t (.tup [a, .sl q]))) => ((Nat.beq p.o 0 && Nat.beq t 87) && (selfB p.b a && isNe s)) && fN s.length fun m => Nat.ble m 50000000 &&
   (match q with
   | none => fBytes s fun cs => wsOut h.t h.n p.b m m cs k
   | some d => (match h.t.get d.b with
    | some (.bx (.iface u (.agg bs))) => ((Nat.beq d.o 0 && Nat.beq u 5) && (Nat.beq d.opn 1 && Nat.beq d.cap d.len)) && eBytes bs fun l => (isNe l && Nat.beq l.length d.len) && (Nat.ble d.len 50000000 && ap l s fun ls => fBytes ls fun cs => fN (Nat.add d.len m) fun n => h.t.put d.b .dead fun t1 => wsOut t1 h.n p.b n m cs k)
    | _ => false))
  | _ => false)
 | _ => false
theorem wsOut_ok {t : T Blk} {h0 h : Heap} {N b n m : Nat} {cs : List AV} {k : AV → EH → Bool} {Q : AV → Heap → Prop} (H : T.For t h0) (hN : N = h0.length) (hQ : ∀ v e' h', HFor e' h' → k v e' = true → Q v h') (hk : wsOut t N b n m cs k = true) :
  Q (.tup [.int .i64 (m : Nat), .niliface]) (h0.set b (.bx (.iface 87 (.tup [.ptr (some ⟨b, 0⟩), .sl (some ⟨N, 0, n, n, 1⟩)]))) ++ [.bx (.iface 5 (.agg cs))]) := by
 unfold wsOut at hk
 obtain ⟨t2, hk, H2⟩ := H.put hk
 obtain ⟨e', H', hk⟩ := eNewB_ok (e := ⟨t2, N⟩) ⟨H2, by simp [hN]⟩ hk
 exact hQ _ _ _ H' hk
theorem eWS_ok : RunOK Tryz.prog 32 eWS := by
 intro args e h k Q H hQ hk
 unfold eWS at hk
 split at hk
 ·rename_i p s
  obtain ⟨b, o⟩ := p
  simp only at hk
  rw [H.1] at hk
  split at hk
  ·rename_i t a q hb
   rw [Bool.and_eq_true, Bool.and_eq_true, Bool.and_eq_true, Bool.and_eq_true] at hk
   obtain ⟨⟨⟨ho, ht⟩, ha, hs⟩, hk⟩ := hk
   have ho := Nat.eq_of_beq_eq_true ho
   have ht := Nat.eq_of_beq_eq_true ht
   subst ho ht
   have ha := selfB_ok ha
   have hs := isNe_ok hs
   rw [fN_eq, Bool.and_eq_true] at hk
   obtain ⟨hm, hk⟩ := hk
   have hm := Nat.le_of_ble_eq_true hm
   split at hk
   ·have hk := fBytes_ok hk
    have := wsOut_ok (h := h) H.1 H.2 hQ hk
    refine ws_ac (q := none) (l := []) (d := none) hb ha (.inl ⟨rfl, rfl, rfl⟩) (by simp; omega) (by simpa using hs) ?_
    rw [H.2] at this
    exact this
   ·rename_i d
    rw [H.1] at hk
    split at hk
    ·rename_i u bs hd
     rw [Bool.and_eq_true, Bool.and_eq_true, Bool.and_eq_true, Bool.and_eq_true] at hk
     obtain ⟨⟨⟨h1, h2⟩, h3, h4⟩, hk⟩ := hk
     obtain ⟨db, d0, dl, dc, dp⟩ := d
     have g1 := Nat.eq_of_beq_eq_true h1
     have g2 := Nat.eq_of_beq_eq_true h2
     have g3 := Nat.eq_of_beq_eq_true h3
     have g4 := Nat.eq_of_beq_eq_true h4
     clear h1 h2 h3 h4
     simp only at g1 g2 g3 g4 hk hd
     subst g1
     subst g2
     subst g3
     subst g4
     obtain ⟨l, hbl, hk2⟩ := eBytes_ok hk
     clear hk
     subst hbl
     have hk := hk2
     clear hk2
     rw [Bool.and_eq_true, Bool.and_eq_true, Bool.and_eq_true] at hk
     obtain ⟨⟨h5, h6⟩, h7, hk⟩ := hk
     have h6 := Nat.eq_of_beq_eq_true h6
     have h7 := Nat.le_of_ble_eq_true h7
     subst h6
     rw [ap_eq] at hk
     have hk := fBytes_ok hk
     rw [fN_eq] at hk
     obtain ⟨t1, hk, H1⟩ := H.1.put hk
     have := wsOut_ok (h := h) H1 (by rw [List.length_set]; exact H.2) hQ hk
     refine ws_ac (q := some ⟨db, 0, l.length, l.length, 1⟩) (l := l) (d := some db) hb ha (.inr ⟨db, rfl, rfl, isNe_ok h5, hd⟩) (by omega) (by simp [isNe_ok h5]) ?_
     rw [H.2] at this
     unfold bldB bufB
     rw [List.length_append]
     exact this
    ·cases hk
  ·cases hk
 ·cases hk
def eST : RunT := fun args h k => match args with
 | [.ptr (some p)] => (match h.t.get p.b with
  | some (.bx (.iface t (.tup [a, .sl (some d)]))) => (Nat.beq p.o 0 && Nat.beq t 87) && (match h.t.get d.b with
   | some (.bx (.iface u (.agg bs))) => ((Nat.beq d.o 0 && Nat.beq u 5) && (Nat.beq d.opn 1 && Nat.beq d.cap d.len)) && eBytes bs fun l => (isNe l && Nat.beq l.length d.len) && (Nat.ble d.len 100000000 && h.t.put d.b .dead fun t1 => k (.str l) ⟨t1, h.n⟩)
   | _ => false)
  | _ => false)
 | _ => false
theorem eST_ok : RunOK Tryz.prog 33 eST := by
 intro args e h k Q H hQ hk
 unfold eST at hk
 split at hk
 ·rename_i p
  obtain ⟨b, o⟩ := p
  simp only at hk
  rw [H.1] at hk
  split at hk
  ·rename_i t a d hb
   rw [Bool.and_eq_true, Bool.and_eq_true] at hk
   obtain ⟨⟨ho, ht⟩, hk⟩ := hk
   have ho := Nat.eq_of_beq_eq_true ho
   have ht := Nat.eq_of_beq_eq_true ht
   subst ho ht
   rw [H.1] at hk
   split at hk
   ·rename_i u bs hd
    rw [Bool.and_eq_true, Bool.and_eq_true, Bool.and_eq_true, Bool.and_eq_true] at hk
    obtain ⟨⟨⟨h1, h2⟩, h3, h4⟩, hk⟩ := hk
    obtain ⟨db, d0, dl, dc, dp⟩ := d
    have g1 := Nat.eq_of_beq_eq_true h1
    have g2 := Nat.eq_of_beq_eq_true h2
    have g3 := Nat.eq_of_beq_eq_true h3
    have g4 := Nat.eq_of_beq_eq_true h4
    clear h1 h2 h3 h4
    simp only at g1 g2 g3 g4 hk hd
    subst g1
    subst g2
    subst g3
    subst g4
    obtain ⟨l, hbl, hk2⟩ := eBytes_ok hk
    clear hk
    subst hbl
    have hk := hk2
    clear hk2
    rw [Bool.and_eq_true, Bool.and_eq_true, Bool.and_eq_true] at hk
    obtain ⟨⟨h5, h6⟩, h7, hk⟩ := hk
    have h6 := Nat.eq_of_beq_eq_true h6
    have h7 := Nat.le_of_ble_eq_true h7
    subst h6
    obtain ⟨t1, hk, H1⟩ := H.1.put hk
    exact st_ac hb hd (isNe_ok h5) h7 (hQ _ _ _ ⟨H1, by rw [List.length_set]; exact H.2⟩ hk)
   ·cases hk
  ·cases hk
 ·cases hk
end Go.Proofs.YtjackggnnjdhmaaGreatDoor
namespace Go.Proofs
open Go.Ab
set_option maxRecDepth 100000
set_option linter.unusedVariables false
def vc238 (p1 : Option PA) (h : Heap) (Q : AV → Heap → Prop) : Prop :=
 AC Tryz.prog 254 [.ptr p1] h fun v2 h3 => ∃ b4 : Bool, v2 = .bool b4 ∧
 vif (!b4)
 (Q (.sl none) h3)
 (vPtr p1 fun p5 =>
 ∃ m6 : Option Nat, cellsAt h3 ⟨p5.b, p5.o + 0⟩ 1 = some [.map m6] ∧
 vRange m6 h3 fun a7 h8 =>
 ∃ (I10 : List AV → Heap → Prop) (m11 : List AV → Heap → Nat), I10 [.sl none] h8 ∧
 ∀ q9 : Option SL, ∀ h12 : Heap, I10 [.sl q9] h12 →
 PNext2 a7 h12 (fun h13 =>
 AC Tryz.prog 312 [.sl q9, .func (.func 313) [] []] h13 fun v14 h15 => v14 = .tup [] ∧
 Q (.sl q9) h15) fun v16 v17 h18 =>
 PEntry a7 h18 fun v19 =>
 ∃ n20 n21 : Int, ∃ n22 n23 n24 : Int, v19 = .tup [.agg [.int .i64 n20, .int .i64 n21, .int .i64 n22, .int .i64 n23], .int .i64 n24] ∧
 PNew [.int .i64 n20, .int .i64 n21, .int .i64 n22, .int .i64 n23, .int .i64 n24] true h18 fun a25 h26 =>
 PAppendS 5 40 q9 (some ⟨a25, 0, 1, 1, 0⟩) h26 fun q27 h28 =>
 (True) ∧ I10 [.sl q27] h28 ∧ m11 [.sl q27] h28 < m11 [.sl q9] h12)
theorem ac238 {p1 : Option PA} {h : Heap} {Q : AV → Heap → Prop} (hk : vc238 p1 h Q) : AC Tryz.prog 238 [.ptr p1] h Q :=
 AC_by (H := hintsOf [4, 116382] [(0, [3], [])]) (by kernel_rfl) (by kernel_rfl) hk
def vc160 (p1 : Option PA) (n2 : Int) (n3 : Int) (h : Heap) (Q : AV → Heap → Prop) : Prop :=
 ∃ (I5 : List AV → Heap → Prop) (m6 : List AV → Heap → Nat), I5 [.int .i64 0] h ∧
 ∀ n4 : Int, ∀ h7 : Heap, I5 [.int .i64 n4] h7 →
 vif (decide (n4 < n2))
 (AC Tryz.prog 217 [.ptr p1, .int .i64 (wrapK .i64 (n3 + n4))] h7 fun v8 h9 => ∃ b10 : Bool, v8 = .bool b10 ∧
 vif b10
 ((True) ∧ I5 [.int .i64 (wrapK .i64 (n4 + 1))] h9 ∧ m6 [.int .i64 (wrapK .i64 (n4 + 1))] h9 < m6 [.int .i64 n4] h7)
 (Q (.int .i64 n4) h9))
 (Q (.int .i64 n4) h7)
theorem ac160 {p1 : Option PA} {n2 : Int} {n3 : Int} {h : Heap} {Q : AV → Heap → Prop} (hk : vc160 p1 n2 n3 h Q) : AC Tryz.prog 160 [.ptr p1, .int .i64 n2, .int .i64 n3] h Q :=
 AC_by (H := hintsOf [] [(0, [7], [])]) (by kernel_rfl) (by kernel_rfl) hk
def vc254 (p1 : Option PA) (h : Heap) (Q : AV → Heap → Prop) : Prop :=
 vif (!(p1.isNone))
 (vPtr p1 fun p2 =>
 ∃ m3 : Option Nat, cellsAt h ⟨p2.b, p2.o + 0⟩ 1 = some [.map m3] ∧
 Q (.bool (!(m3.isNone))) h)
 (Q (.bool false) h)
theorem ac254 {p1 : Option PA} {h : Heap} {Q : AV → Heap → Prop} (hk : vc254 p1 h Q) : AC Tryz.prog 254 [.ptr p1] h Q :=
 AC_by (H := hintsOf [] []) (by kernel_rfl) (by kernel_rfl) hk
def vc308 (v1 : AV) (v2 : AV) (h : Heap) (Q : AV → Heap → Prop) : Prop :=
 AC Tryz.prog 380 [v1] h fun v3 h4 => ∃ q5 : Option SL, v3 = .sl q5 ∧
 AC Tryz.prog 381 [.sl q5, v2] h4 fun v6 h7 => v6 = .tup [] ∧
 Q (.sl q5) h7
theorem ac308 {v1 : AV} {v2 : AV} {h : Heap} {Q : AV → Heap → Prop} (hk : vc308 v1 v2 h Q) : AC Tryz.prog 308 [v1, v2] h Q :=
 AC_by (H := hintsOf [] []) (by kernel_rfl) (by kernel_rfl) hk
def vc380 (v1 : AV) (h : Heap) (Q : AV → Heap → Prop) : Prop :=
 AC Tryz.prog 448 [.sl none, v1] h fun v2 h3 => ∃ q4 : Option SL, v2 = .sl q4 ∧
 Q (.sl q4) h3
theorem ac380 {v1 : AV} {h : Heap} {Q : AV → Heap → Prop} (hk : vc380 v1 h Q) : AC Tryz.prog 380 [v1] h Q :=
 AC_by (H := hintsOf [] []) (by kernel_rfl) (by kernel_rfl) hk
end Go.Proofs
namespace Go.Ab
open Go.Proofs Go.Sort
set_option linter.unusedSimpArgs false
set_option linter.unusedVariables false
def SortLaw {α : Type} [Inhabited α] (P : Program) (f : FuncId) (fv : Value) (enc : α → List Value) (k : Nat) (srt : List α → List α) : Prop :=
 (∀ (blk off cap : Nat) (d : Array α) (w : World), HoldsK enc k w blk off d → blk < w.heap.size → d.size < 4611686018427387904 →
  Calls P f #[.slice (some ⟨blk, off, none⟩) d.size cap, fv] w fun e w' => e = .returned (.tuple #[]) ∧ ∃ n os, w' = sortWorldK enc k w blk off n (srt d.toList).toArray os) ∧
 (∀ (p : Option Addr) (cap : Nat) (w : World), Calls P f #[.slice p 0 cap, fv] w fun e w' => e = .returned (.tuple #[]) ∧ w' = w)
theorem heap_sortWorldK {α : Type} [Inhabited α] {enc : α → List Value} {k : Nat} {w : World} {blk off n : Nat} {d : Array α} {os : Array Obj} {r : Nat} (hr : r < w.heap.size) :
  (sortWorldK enc k w blk off n d os).heap[r]? = if blk = r then (w.heap[r]?).map (onCells (putCells id off (flatK enc k d))) else w.heap[r]? := by
 have hs : r < (putRowK enc k (Sort.ahead w n) blk off d).heap.size := by
  have : (putRowK enc k (Sort.ahead w n) blk off d).heap.size = w.heap.size := Sort.size_putRow _ _ _ _ _
  omega
 show ((putRowK enc k (Sort.ahead w n) blk off d).heap ++ os)[r]? = _
 rw [Array.getElem?_append_left hs]
 show (w.heap.modify blk (onCells (putCells id off (flatK enc k d))))[r]? = _
 rw [Array.getElem?_modify]
section
variable {P : Program} {α : Type} [Inhabited α] {E : Enc α} {h : Heap} {q : Option SL} {l : List α} {Q : AV → Heap → Prop} {f : FuncId} {fv : Value} {fa : AV} {enc : α → List Value} {srt : List α → List α}
theorem sort_ac (hc : callable P f = true) (L : SortLaw P f fv enc E.sz srt) (hfa : ∀ μ v, fa.rel μ v → v = fv)
  (hlen : ∀ a, (enc a).length = E.sz)
  (hdet : ∀ (a : α) (μ : Ren) (t : Nat) (x : AV) (y : Value), (E.f a)[t]? = some x → x.rel μ y → (enc a)[t]? = some y)
  (henc : ∀ (a : α) (μ : Ren) (t : Nat) (x : AV) (y : Value), (E.f a)[t]? = some x → (enc a)[t]? = some y → x.rel μ y)
  (hsrt : ∀ l, (srt l).length = l.length) (A : AppJ E h q l) (hl : l.length < 4611686018427387904)
  (hQ : ∀ h', AppJ E h' q (srt l) → Keeps (fun b => ∃ s, q = some s ∧ s.b = b) h h' → h'.length = h.length → Q (.tup []) h') : AC P f [.sl q, fa] h Q := by
 refine ⟨hc, fun μ w vs H hv => ?_⟩
 obtain ⟨v, u, rfl, hr, hf⟩ := relL_two hv
 obtain rfl := hfa μ u hf
 have hz : l = [] → srt l = l := fun e => by subst e; exact List.eq_nil_of_length_eq_zero (hsrt [])
 have done : l = [] → ∀ (p : Option Addr) (cap : Nat), v = .slice p 0 cap → Calls P f [v, u].toArray w (CallPost μ h w Q) := by
  intro hn p cap hv
  subst hv
  refine (L.2 p cap w).mono fun e w' ⟨he, hw⟩ => ?_
  subst hw
  exact ⟨_, .tup [], h, μ, he, hQ h (by rw [hz hn]; exact A) (.refl _ _) rfl, Evo.refl _ _ _, H, ⟨#[], rfl, rfl⟩⟩
 rcases A with ⟨rfl, rfl⟩ | ⟨a, c, o, j, rfl, ho, hb, hj, hcl⟩
 ·exact done rfl none 0 hr
 have A : AppJ E h (some ⟨a, 0, l.length, c, o⟩) l := .inr ⟨a, c, o, j, rfl, ho, hb, hj, hcl⟩
 obtain ⟨e, c', qa, h1, hveq, h3, h4, h5, h6⟩ := hr
 simp only at h1 hveq h3 h4 h5 h6
 by_cases hn : l = []
 ·exact done hn (some qa) c' (by rw [hveq, hn]; rfl)
 have hpos : 0 < l.length := List.length_pos_iff.2 hn
 have hc0 : c' ≠ 0 := by
  rcases Nat.eq_zero_or_pos o with h0 | h0
  ·have := h5 h0; omega
  ·have := (h6 (by omega)).1; omega
 have he : μ[a]? = some e := by rcases h1 with h1 | h1; exact h1; exact absurd h1 hc0
 obtain rfl : qa = ⟨e.r, e.s + 0, none⟩ := by rcases h4 with h4 | h4; exact absurd h4 hc0; exact h4
 obtain ⟨C, t, fz, hC, hCs, hcn, hone, hcell, hfz⟩ := H.blk _ _ _ hb he
 have hfz := hfz rfl
 subst hfz
 have hk := E.pos
 have hal : (E.all l).length = l.length * E.sz := Enc.all_length
 have get : ∀ (l' : List α) (i : Nat), i < l'.length * E.sz → ∃ a', l'[i / E.sz]? = some a' ∧ (E.all l')[i]? = (E.f a')[i % E.sz]? := by
  intro l' i hi
  have hd : i / E.sz < l'.length := Nat.div_lt_of_lt_mul (by rw [Nat.mul_comm]; exact hi)
  have hg : l'[i / E.sz]? = some l'[i / E.sz] := List.getElem?_eq_getElem hd
  refine ⟨_, hg, ?_⟩
  have hat := Enc.all_at (E := E) hg
  have hdm : i / E.sz * E.sz + i % E.sz = i := by rw [Nat.mul_comm]; exact Nat.div_add_mod _ _
  rw [← hat, List.getElem?_take, if_pos (Nat.mod_lt _ hk), List.getElem?_drop, hdm]
 have flat : ∀ (l' : List α) (i : Nat), i < l'.length * E.sz → ∃ a', l'[i / E.sz]? = some a' ∧ (flatK enc E.sz l'.toArray)[i]! = (enc a')[i % E.sz]! := by
  intro l' i hi
  have hd : i / E.sz < l'.length := Nat.div_lt_of_lt_mul (by rw [Nat.mul_comm]; exact hi)
  have hg : l'[i / E.sz]? = some l'[i / E.sz] := List.getElem?_eq_getElem hd
  refine ⟨_, hg, ?_⟩
  rw [get_flatK _ _ _ _ (by simpa using hi)]
  congr 2
  rw [getElem!_pos _ _ (by simpa using hd)]
  simp
 have enc_get : ∀ (a' : α) (i : Nat), i < E.sz → (enc a')[i]? = some (enc a')[i]! := by
  intro a' i hi
  rw [getElem!_pos _ _ (by rw [hlen]; exact hi)]
  exact List.getElem?_eq_getElem _
 have hbr : e.r < w.heap.size := H.bnd _ _ he
 have hold : HoldsK enc E.sz w e.r (e.s + 0) l.toArray := by
  intro i hi
  rw [size_flatK] at hi
  have hi : i < l.length * E.sz := by simpa using hi
  obtain ⟨a1, g1, g2⟩ := get l i hi
  obtain ⟨a2, g3, g4⟩ := flat l i hi
  rw [g1] at g3; cases g3
  have hm := Nat.mod_lt i hk
  obtain ⟨x, hx⟩ : ∃ x, (E.f a1)[i % E.sz]? = some x := ⟨_, List.getElem?_eq_getElem (by rw [E.len]; exact hm)⟩
  have hx2 : (E.all l ++ j)[i]? = some x := by rw [List.getElem?_append_left (by omega), g2, hx]
  obtain ⟨y, y1, y2⟩ := hcell i x hx2
  have hy := hdet a1 μ _ x y hx y2
  have h0 := enc_get a1 _ hm
  rw [hy] at h0
  have hlt := (Array.getElem?_eq_some_iff.1 y1).1
  constructor
  ·unfold World.cell?
   simp only [hC, Nat.add_zero]
   rw [y1, g4]
   exact h0
  ·unfold World.frozen?
   simp [hC]
 subst hveq
 have hcall := L.1 e.r (e.s + 0) c' l.toArray w hold hbr (by simpa using hl)
 simp only [List.size_toArray] at hcall
 refine hcall.mono fun en w' hres => ?_
 obtain ⟨hen, n, os, rfl⟩ := hres
 generalize hw' : sortWorldK enc E.sz w e.r (e.s + 0) n (srt l.toArray.toList).toArray os = w'
 have hheap : ∀ r, r < w.heap.size → w'.heap[r]? = if e.r = r then (w.heap[r]?).map (onCells (putCells id (e.s + 0) (flatK enc E.sz (srt l.toArray.toList).toArray))) else w.heap[r]? := by
  intro r hr; rw [← hw']; exact heap_sortWorldK hr
 have hsz : w.heap.size ≤ w'.heap.size := by
  rw [← hw']
  unfold sortWorldK
  rw [size_grow]
  have : (putRowK enc E.sz (Sort.ahead w n) e.r (e.s + 0) (srt l.toArray.toList).toArray).heap.size = w.heap.size := Sort.size_putRow _ _ _ _ _
  omega
 have hrest : w'.os = w.os ∧ w'.tape = w.tape ∧ w'.output = w.output := by rw [← hw']; exact ⟨rfl, rfl, rfl⟩
 have hll : (srt l).length = l.length := hsrt l
 have hal' : (E.all (srt l)).length = l.length * E.sz := by rw [Enc.all_length, hll]
 generalize hh' : h.set a (.cells (E.all (srt l) ++ j) true) = h'
 have hlen' : h'.length = h.length := by rw [← hh']; simp
 have ha := lt_of_get hb
 have hga : h'[a]? = some (.cells (E.all (srt l) ++ j) true) := by rw [← hh']; exact List.getElem?_set_self ha
 have hgo : ∀ b, b ≠ a → h'[b]? = h[b]? := fun b hb => by rw [← hh', List.getElem?_set, if_neg (Ne.symm hb)]
 have back : ∀ (b : Nat) (B : Blk), h'[b]? = some B → ∃ B0, h[b]? = some B0 ∧ B0.rw = B.rw ∧ B0.live = B.live := by
  intro b B hB
  by_cases hba : b = a
  ·subst hba; rw [hga] at hB; cases hB; exact ⟨_, hb, rfl, rfl⟩
  ·rw [hgo b hba] at hB; exact ⟨B, hB, rfl, rfl⟩
 have other : ∀ r, r < w.heap.size → e.r ≠ r → w'.heap[r]? = w.heap[r]? := fun r hr hne => by rw [hheap r hr, if_neg hne]
 refine ⟨_, .tup [], h', μ, hen, hQ h' (.inr ⟨a, c, o, j, by rw [hll], ho, hga, by rw [hll]; exact hj, by omega⟩) (fun b B hX hB => ?_) hlen', ?_, ?_, ⟨#[], rfl, rfl⟩⟩
 ·rw [hgo b (fun hba => hX ⟨_, rfl, hba.symm⟩)]; exact hB
 ·refine ⟨.refl _, by omega, hsz, fun r hr hne => other r hr (hne a _ e hb rfl he), fun b B e' hB hrw he' => ?_, fun b B e' hB hrw he' => ?_, hrest.1, hrest.2.1, hrest.2.2⟩
  ·obtain ⟨B0, g1, g2, g3⟩ := back b B hB
   exact .inr ⟨b, B0, e', g1, by rw [g2]; exact hrw, he', rfl⟩
  ·obtain ⟨B0, g1, g2, g3⟩ := back b B hB
   exact .inr ⟨b, B0, e', g1, by rw [g3]; exact hrw, he', rfl⟩
 ·refine ⟨by rw [hlen']; exact H.len, fun b B e' hB he' => ?_, fun b1 b2 B1 B2 e1 e2 hne g1 g2 g3 g4 g5 g6 => ?_, fun b e' he' => Nat.lt_of_lt_of_le (H.bnd b e' he') hsz⟩
  ·by_cases hba : b = a
   ·subst hba
    rw [hga] at hB; cases hB
    rw [he] at he'; cases he'
    have hw2 := hheap e.r hbr
    rw [if_pos rfl, hC] at hw2
    simp only [Option.map_some, onCells] at hw2
    refine ⟨_, t, (0, 0), hw2, by simp [putCells]; exact hCs, by rw [List.length_append, hal']; rw [List.length_append, hal] at hcn; exact hcn, ?_, ?_, fun _ => rfl⟩
    ·simp only [oneAll, List.all_append, Bool.and_eq_true] at hone ⊢
     refine ⟨?_, hone.2⟩
     rw [List.all_eq_true]
     intro x hx'
     simp only [Enc.all, List.mem_flatten, List.mem_map] at hx'
     obtain ⟨l0, ⟨a0, _, rfl⟩, h⟩ := hx'
     have := E.one a0
     simp only [oneAll, List.all_eq_true] at this
     exact this x h
    ·intro i x hx
     have hi := lt_of_get hx
     have hiC : e.s + i < C.size := by
      rw [List.length_append, hal'] at hi; rw [List.length_append, hal] at hcn; omega
     by_cases hil : i < l.length * E.sz
     ·rw [List.getElem?_append_left (by omega)] at hx
      obtain ⟨a1, g1, g2⟩ := get (srt l) i (by rw [hll]; exact hil)
      obtain ⟨a2, g3, g4⟩ := flat (srt l) i (by rw [hll]; exact hil)
      rw [g1] at g3; cases g3
      rw [g2] at hx
      have hm := Nat.mod_lt i hk
      refine ⟨(enc a1)[i % E.sz]!, ?_, henc a1 μ _ x _ hx (enc_get a1 _ hm)⟩
      rw [← g4]
      simp only [putCells, Array.getElem?_mapIdx, Array.getElem?_eq_getElem hiC, Option.map_some, Nat.add_zero]
      rw [if_pos ⟨by omega, by simp [hll]; omega⟩]
      simp
     ·rw [List.getElem?_append_right (by omega)] at hx
      have hx2 : (E.all l ++ j)[i]? = some x := by rw [List.getElem?_append_right (by omega), hal]; rw [hal'] at hx; exact hx
      obtain ⟨y, y1, y2⟩ := hcell i x hx2
      refine ⟨y, ?_, y2⟩
      simp only [putCells, Array.getElem?_mapIdx, y1, Option.map_some, Nat.add_zero]
      rw [if_neg]
      simp [hll]; omega
   ·rw [hgo b hba] at hB
    cases hlv : B.live with
    | false => exact (H.blk b B e' hB he').still hlv
    | true =>
     have hne := H.sep a b _ B e e' (Ne.symm hba) hb hB rfl hlv he he'
     exact (H.blk b B e' hB he').world (other _ (H.bnd b e' he') hne)
  ·obtain ⟨B10, x1, x2, x3⟩ := back b1 B1 g1
   obtain ⟨B20, y1, y2, y3⟩ := back b2 B2 g2
   exact H.sep b1 b2 B10 B20 e1 e2 hne x1 y1 (by rw [x2]; exact g3) (by rw [y3]; exact g4) g5 g6
end
end Go.Ab
namespace Go.Proofs.YtjackggnnjdhmaaGreatDoor
open Go.Ab Go.Sort Go.Proofs
set_option linter.unusedVariables false
set_option linter.unusedSimpArgs false
abbrev St5 := Int × Int × Int × Int × Int
def cellS (x : St5) : List AV := [.int .i64 x.1, .int .i64 x.2.1, .int .i64 x.2.2.1, .int .i64 x.2.2.2.1, .int .i64 x.2.2.2.2]
def valS (x : St5) : List Value := [.int .i64 x.1, .int .i64 x.2.1, .int .i64 x.2.2.1, .int .i64 x.2.2.2.1, .int .i64 x.2.2.2.2]
abbrev Sub5 (L : List St5) := {x : St5 // x ∈ L}
def encSub (L : List St5) : Enc (Sub5 L) where
 sz := 5
 f x := cellS x.1
 len _ := rfl
 pos := by omega
 one _ := rfl
def cmpSub (L : List St5) (x y : Sub5 L) : Int := cmpS x.1 y.1
theorem ltSub (L : List St5) (x y : Sub5 L) : ltOf (cmpSub L) x y = decide (ltS x.1 y.1) := by
 rw [← Tryz.ltSS]; rfl
def OneKey (L : List St5) : Prop := ∀ x ∈ L, ∀ y ∈ L, ¬ ltS x y → ¬ ltS y x → x = y
theorem swoSub (L : List St5) : SWO (ltOf (cmpSub L)) where
 irrefl x := by have := Tryz.swoS.irrefl x.1; rw [Tryz.ltSS] at this; rw [ltSub]; exact this
 trans x y z h1 h2 := by
  have := Tryz.swoS.trans x.1 y.1 z.1
  rw [Tryz.ltSS, Tryz.ltSS, Tryz.ltSS] at this
  rw [ltSub] at h1 h2 ⊢
  exact this h1 h2
 ntrans x y z h1 h2 := by
  have := Tryz.swoS.ntrans x.1 y.1 z.1
  rw [Tryz.ltSS, Tryz.ltSS, Tryz.ltSS] at this
  rw [ltSub] at h1 h2 ⊢
  exact this h1 h2
def srtS (L : List St5) (l : List (Sub5 L)) : List (Sub5 L) := l.mergeSort fun x y => !(ltOf (cmpSub L)) y x
theorem sortLawS (L : List St5) (x0 : Sub5 L) (hL : OneKey L) : @SortLaw (Sub5 L) ⟨x0⟩ Tryz.prog 312 (.func (.func 313) #[] #[]) (fun x => valS x.1) 5 (srtS L) := by
 letI : Inhabited (Sub5 L) := ⟨x0⟩
 refine ⟨fun blk off cap d w hH hblk hsz => ?_, fun p cap w => AnyF.slices_SortFunc_none Tryz.sort312 p cap _ w⟩
 have eg : ∀ args w, (callFunc 313 args).run Tryz.prog w = .ok (.enter 313 args) w := enters_of Tryz.func313 (by kernel_rfl) rfl
 exact AnyQ.slices_SortFunc_total Tryz.sort312 5 Tryz.isAgg378 Tryz.sizeOf378 (fun x : Sub5 L => valS x.1) (fun _ => rfl) (fun x v hv => by simp [valS] at hv; rcases hv with rfl | rfl | rfl | rfl | rfl <;> rfl) (cmpSub L) (swoSub L) 313 #[] blk off cap d w eg
  (fun _ _ _ _ x y => Tryz.order313 x.1 y.1 _) hH hblk hsz (fun x y h1 h2 => by
   rw [ltSub] at h1 h2
   exact Subtype.ext (hL _ x.2 _ y.2 (of_decide_eq_false h1) (of_decide_eq_false h2)))
section
variable {h : Heap} {Q : AV → Heap → Prop} {q : Option SL} {L : List St5} {l : List (Sub5 L)}
theorem c312 (hL : OneKey L) (hne : L ≠ []) (A : ApdX (encSub L) h q l) (hl : l.length < 4611686018427387904)
  (hQ : ∀ h', ApdX (encSub L) h' q (srtS L l) → Keeps (fun b => ∃ s, q = some s ∧ s.b = b) h h' → h'.length = h.length → Q (.tup []) h') : AC Tryz.prog 312 [.sl q, .func (.func 313) [] []] h Q := by
 by_cases hx : ∃ x0 : Sub5 L, True
 ·obtain ⟨x0, _⟩ := hx
  letI : Inhabited (Sub5 L) := ⟨x0⟩
  have hlen : ∀ l : List (Sub5 L), (srtS L l).length = l.length := fun l => (List.mergeSort_perm l _).length_eq
  refine sort_ac (E := encSub L) (by kernel_rfl) (sortLawS L x0 hL) (fun μ v hv => ?_) (fun _ => rfl) (fun a μ t x y hx hr => ?_) (fun a μ t x y hx hy => ?_) hlen A.appj hl fun h' A' K' l' => hQ h' (A.of_appj (hlen l) A') K' l'
  ·obtain ⟨f', c', rfl, h1, h2⟩ := hv
   have e1 : f' = #[] := by apply Array.ext'; exact h1
   have e2 : c' = #[] := by apply Array.ext'; exact h2
   rw [e1, e2]
  ·match t, hx with
   | 0, hx => cases hx; have hr : y = .int .i64 a.1.1 := hr; subst hr; rfl
   | 1, hx => cases hx; have hr : y = .int .i64 a.1.2.1 := hr; subst hr; rfl
   | 2, hx => cases hx; have hr : y = .int .i64 a.1.2.2.1 := hr; subst hr; rfl
   | 3, hx => cases hx; have hr : y = .int .i64 a.1.2.2.2.1 := hr; subst hr; rfl
   | 4, hx => cases hx; have hr : y = .int .i64 a.1.2.2.2.2 := hr; subst hr; rfl
  ·match t, hx with
   | 0, hx => cases hx; cases hy; rfl
   | 1, hx => cases hx; cases hy; rfl
   | 2, hx => cases hx; cases hy; rfl
   | 3, hx => cases hx; cases hy; rfl
   | 4, hx => cases hx; cases hy; rfl
 ·exact absurd trivial fun _ => (by obtain ⟨y, hy⟩ := List.exists_mem_of_ne_nil L hne; exact hx ⟨⟨y, hy⟩, trivial⟩)
abbrev Ent3 := AV × AV × Nat
def pairS (x : St5) : AV × AV := (.agg [.int .i64 x.1, .int .i64 x.2.1, .int .i64 x.2.2.1, .int .i64 x.2.2.2.1], .int .i64 x.2.2.2.2)
def unpS : AV × AV → St5
 | (.agg [.int _ a, .int _ b, .int _ c, .int _ d], .int _ e) => (a, b, c, d, e)
 | _ => (0, 0, 0, 0, 0)
theorem unp_pair (x : St5) : unpS (pairS x) = x := rfl
theorem tri {out : List St5} (hs : out.Pairwise ltS) : ∀ x ∈ out, ∀ y ∈ out, x = y ∨ ltS x y ∨ ltS y x := by
 induction hs with
 | nil => intro x hx; cases hx
 | cons h _ ih =>
  intro x hx y hy
  rcases List.mem_cons.1 hx with e1 | hx <;> rcases List.mem_cons.1 hy with e2 | hy
  ·exact .inl (e1.trans e2.symm)
  ·rw [e1]; exact .inr (.inl (h _ hy))
  ·rw [e2]; exact .inr (.inr (h _ hx))
  ·exact ih x hx y hy
theorem oneKey_of {out L : List St5} (hp : out.Perm L) (hs : out.Pairwise ltS) : OneKey L := fun x hx y hy h1 h2 => by
 rcases tri hs x (hp.symm.subset hx) y (hp.symm.subset hy) with e | e | e
 ·exact e
 ·exact absurd e h1
 ·exact absurd e h2
theorem ltS_asym {x y : St5} (h : ltS x y) : ¬ ltS y x := by unfold ltS at *; omega
theorem srtS_val {out L : List St5} {l : List (Sub5 L)} (hp : out.Perm L) (hs : out.Pairwise ltS) (hl : (l.map (·.1)).Perm L) : (srtS L l).map (·.1) = out := by
 refine sorted_alone (r := fun a b => ¬ ltS b a ∧ a ∈ L ∧ b ∈ L) (fun a b h1 h2 => oneKey_of hp hs a h1.2.1 b h1.2.2 h2.1 h1.1) ?_ ?_ ?_
 ·rw [List.pairwise_map]
  have := List.pairwise_mergeSort (le := fun x y : Sub5 L => !(ltOf (cmpSub L)) y x) (fun a b c h1 h2 => by
    simp only [Bool.not_eq_true'] at *
    exact (swoSub L).ntrans _ _ _ h2 h1) (fun a b => by
    simp only [Bool.or_eq_true, Bool.not_eq_true']
    rw [ltSub, ltSub]
    by_cases h : ltS b.1 a.1
    ·exact .inr (decide_eq_false (ltS_asym h))
    ·exact .inl (decide_eq_false h)) l
  refine this.imp fun {a b} h => ⟨?_, a.2, b.2⟩
  simp only [Bool.not_eq_true'] at h
  rw [ltSub] at h
  exact of_decide_eq_false h
 ·exact hs.imp_of_mem fun {a b} ha hb h => ⟨ltS_asym h, hp.subset ha, hp.subset hb⟩
 ·exact ((List.mergeSort_perm l _).map _).trans (hl.trans hp.symm)
theorem mem_left {es : List Ent3} {seen : List Nat} {e : Ent3} : e ∈ leftE es seen ↔ e ∈ es ∧ e.2.2 ∉ seen := by
 unfold leftE
 rw [List.mem_filter]
 simp [List.contains_eq_mem]
theorem left_less {es : List Ent3} {seen : List Nat} {e : Ent3} (he : e ∈ leftE es seen) : (leftE es (seen ++ [e.2.2])).length < (leftE es seen).length := by
 have h2 : (leftE es (seen ++ [e.2.2])) = (leftE es seen).filter (fun x => !(x.2.2 == e.2.2)) := by
  unfold leftE
  rw [List.filter_filter]
  apply List.filter_congr
  intro x _
  simp [List.contains_eq_mem]
  by_cases hx : x.2.2 ∈ seen <;> by_cases hy : x.2.2 = e.2.2 <;> simp [hx, hy]
 rw [h2]
 exact List.length_filter_lt_length_iff_exists.2 ⟨e, he, by simp⟩
theorem allE_mk {K : Ent3 → Prop} : ∀ {l : List Ent3}, (∀ e ∈ l, K e) → allE l K
 | [], _ => trivial
 | [e], h => h e (by simp)
 | e :: e' :: es, h => ⟨h e (by simp), allE_mk fun x hx => h x (List.mem_cons_of_mem _ hx)⟩
theorem find_born {es : List Ent3} (hb : (es.map (·.2.2)).Nodup) : ∀ {e : Ent3}, e ∈ es → es.find? (fun x => x.2.2 == e.2.2) = some e := by
 induction es with
 | nil => intro e he; cases he
 | cons x es ih =>
  intro e he
  rw [List.map_cons, List.nodup_cons] at hb
  rw [List.find?_cons]
  rcases List.mem_cons.1 he with rfl | he
  ·simp
  ·have hne : (x.2.2 == e.2.2) = false := by
    rw [beq_eq_false_iff_ne]
    intro h
    exact hb.1 (h ▸ List.mem_map_of_mem he)
   rw [hne]
   exact ih hb.2 he
theorem mem_nodup_of_map {es : List Ent3} (hb : (es.map (·.2.2)).Nodup) : es.Nodup := (List.pairwise_map.1 hb).imp fun h e => h (by rw [e])
theorem born_inj {es : List Ent3} (hb : (es.map (·.2.2)).Nodup) {d e : Ent3} (hd : d ∈ es) (he : e ∈ es) (h : d.2.2 = e.2.2) : d = e := by
 have h1 := find_born hb hd
 have h2 := find_born hb he
 rw [h, h2] at h1
 exact (Option.some.inj h1).symm
set_option maxHeartbeats 1000000 in
theorem c238 {p : PA} {m cl : Nat} {es : List Ent3} {out : List St5} (hne : L ≠ []) (hc : cellsAt h ⟨p.b, p.o + 0⟩ 1 = some [.map (some m)]) (hm : h[m]? = some (.mp es cl)) (hes : es.map (fun e => (e.1, e.2.1)) = L.map pairS) (hst : (es.map (·.2.2)).Nodup) (hcl : ∀ e ∈ es, e.2.2 < cl) (hlen : L.length ≤ 1000000)
  (hp : out.Perm L) (hs : out.Pairwise ltS) (hQ : Q (.sl (some ⟨h.length + 2 * L.length, 0, L.length, L.length, 5⟩)) (h ++ (List.replicate (2 * L.length) Blk.dead ++ [Blk.cells (out.flatMap cellS) true]))) : AC Tryz.prog 238 [.ptr (some p)] h Q := by
 refine AC_deads (ac238 ?_)
 unfold vc238
 refine ac254 ?_
 unfold vc254
 refine vif_mk (fun _ => ⟨some m, hc, true, rfl, vif_mk (fun g => (by cases g)) (fun _ => ⟨some m, hc, ?_⟩)⟩) (fun g => (by cases g))
 unfold vRange
 simp only [hm]
 have hml := lt_of_get hm
 have hel : es.length = L.length := by have := congrArg List.length hes; simpa using this
 refine ⟨fun xs h12 => ∃ (q : Option SL) (ds : List Ent3) (l : List (Sub5 L)), xs = [.sl q] ∧ h12[h.length]? = some (.it (some m) cl (ds.map (·.2.2)) cl) ∧ ApdX (encSub L) h12 q l ∧ ds.map (fun e => (e.1, e.2.1)) = l.map (fun x => pairS x.1) ∧ (∀ e ∈ ds, e ∈ es) ∧ (ds.map (·.2.2)).Nodup ∧ (∀ (b : Nat) (B : Blk), h[b]? = some B → h12[b]? = some B) ∧ h12.length = h.length + 1 + 2 * ds.length ∧ ∀ s, q = some s → s.b + 1 = h12.length ∧ h.length < s.b,
  fun _ h12 => match h12[h.length]? with | some (.it _ _ seen _) => (leftE es seen).length | _ => 0, ⟨none, [], [], rfl, by simp, .inl ⟨rfl, rfl⟩, rfl, by simp, by simp, fun b B hb => by rw [List.getElem?_append_left (lt_of_get hb)]; exact hb, by simp, by simp⟩, ?_⟩
 rintro q9 h12 ⟨q, ds, l, hq, hit, A, hdl, hsub, hnd, hkeep, hl12, hqb⟩
 obtain rfl : q9 = q := by simpa using hq
 unfold PNext2
 simp only [hit, hkeep _ _ hm]
 refine need_mk (by rw [List.all_eq_true]; intro e he; simp; exact hcl e he) ?_
 have hll : ds.length = l.length := by have := congrArg List.length hdl; simpa using this
 split
 ·rename_i hleft
  have hall : ∀ e ∈ es, e ∈ ds := fun e he => by
   refine Classical.byContradiction fun hne' => ?_
   have : e ∈ leftE es (ds.map (·.2.2)) := mem_left.2 ⟨he, fun hb => by
    obtain ⟨d, hd, hde⟩ := List.mem_map.1 hb
    exact hne' (born_inj hst (hsub d hd) he hde ▸ hd)⟩
   rw [hleft] at this; cases this
  have hperm : ds.Perm es := (List.perm_ext_iff_of_nodup (mem_nodup_of_map hnd) (mem_nodup_of_map hst)).2 fun e => ⟨hsub e, hall e⟩
  have hlp : (l.map (·.1)).Perm L := by
   have h1 := (hperm.map fun e => (e.1, e.2.1)).map unpS
   rw [hes, hdl, List.map_map, List.map_map] at h1
   have e1 : l.map (unpS ∘ fun x => pairS x.1) = l.map (·.1) := List.map_congr_left fun x _ => unp_pair x.1
   have e2 : L.map (unpS ∘ pairS) = L := (List.map_congr_left (g := id) fun x _ => unp_pair x).trans (List.map_id L)
   rw [e1, e2] at h1
   exact h1
  have hLl : l.length = L.length := by have := hlp.length_eq; simpa using this
  have hvs := srtS_val hp hs hlp
  have hsl : (srtS L l).length = l.length := (List.mergeSort_perm l _).length_eq
  refine c312 (oneKey_of hp hs) hne A (by omega) fun h15 A15 K15 l15 => ⟨rfl, ?_⟩
  rcases A15 with ⟨_, h0⟩ | ⟨a, rfl, hb⟩
  ·exfalso
   have : l.length = 0 := by rw [← hsl, h0]; rfl
   have : L.length = 0 := by omega
   exact hne (List.eq_nil_of_length_eq_zero this)
  ·obtain ⟨ha, _⟩ := hqb _ rfl
   simp only at ha
   have haN : a = h.length + 2 * L.length := by omega
   refine ⟨h ++ (List.replicate (2 * L.length) Blk.dead ++ [Blk.cells (out.flatMap cellS) true]), by simp; omega, fun b B hB => ?_, ?_⟩
   ·rcases Nat.lt_or_ge b h.length with hlt | hge
    ·rw [List.getElem?_append_left hlt] at hB
     refine .inr (K15 b B (fun ⟨s, hs1, hs2⟩ => ?_) (hkeep b B hB))
     cases hs1
     simp only at hs2
     omega
    ·rw [List.getElem?_append_right hge] at hB
     rcases Nat.lt_or_ge (b - h.length) (2 * L.length) with h1 | h1
     ·rw [List.getElem?_append_left (by simp; omega), List.getElem?_replicate, if_pos h1] at hB
      cases hB; exact .inl rfl
     ·rw [List.getElem?_append_right (by simp; omega)] at hB
      have hbl := lt_of_get hB
      simp at hbl
      have hb0 : b = a := by omega
      subst hb0
      rw [List.length_replicate, show b - h.length - 2 * L.length = 0 by omega] at hB
      simp only [List.getElem?_cons_zero, Option.some.injEq] at hB
      subst hB
      refine .inr ?_
      rw [hb]
      congr 2
      rw [← hvs]
      unfold Enc.all
      rw [List.flatMap_map]
      rfl
   ·rw [hsl, hLl, haN]; exact hQ
 ·rename_i lf hleft
  refine allE_mk fun e he => ?_
  obtain ⟨hem, hns⟩ := mem_left.1 he
  generalize hh18 : h12.set h.length (.it (some m) cl (ds.map (·.2.2) ++ [e.2.2]) cl) = h18
  have hlt := lt_of_get hit
  have hit18 : h18[h.length]? = some (.it (some m) cl (ds.map (·.2.2) ++ [e.2.2]) cl) := by rw [← hh18, List.getElem?_set_self hlt]
  have hk18 : ∀ (b : Nat) (B : Blk), b ≠ h.length → h12[b]? = some B → h18[b]? = some B := fun b B hb hB => by rw [← hh18, List.getElem?_set, if_neg (Ne.symm hb)]; exact hB
  have hl18 : h18.length = h12.length := by rw [← hh18]; simp
  have hm18 : h18[m]? = some (.mp es cl) := hk18 _ _ (by omega) (hkeep _ _ hm)
  unfold PEntry
  simp only [hit18, List.getLast?_concat, hm18]
  refine need_mk (by simp) ?_
  simp only [find_born hst hem]
  obtain ⟨x, hxL, hx⟩ : ∃ x ∈ L, pairS x = (e.1, e.2.1) := by
   have : (e.1, e.2.1) ∈ es.map (fun e => (e.1, e.2.1)) := List.mem_map.2 ⟨e, hem, rfl⟩
   rw [hes] at this
   exact List.mem_map.1 this
  have hx1 : e.1 = .agg [.int .i64 x.1, .int .i64 x.2.1, .int .i64 x.2.2.1, .int .i64 x.2.2.2.1] := (congrArg Prod.fst hx).symm
  have hx2 : e.2.1 = .int .i64 x.2.2.2.2 := (congrArg Prod.snd hx).symm
  refine ⟨x.1, x.2.1, x.2.2.1, x.2.2.2.1, x.2.2.2.2, by rw [hx1, hx2], ?_⟩
  unfold PNew
  have A18 : ApdX (encSub L) (h18 ++ [.cells (cellS x) true]) q9 l := by
   rcases A with ⟨h1, h2⟩ | ⟨a, rfl, hb⟩
   ·exact .inl ⟨h1, h2⟩
   ·obtain ⟨_, hgt⟩ := hqb _ rfl
    simp only at hgt
    have := hk18 _ _ (by omega) hb
    exact .inr ⟨a, rfl, by rw [List.getElem?_append_left (lt_of_get this)]; exact this⟩
  have H1 : HasL (encSub L) (h18 ++ [.cells (cellS x) true]) (some ⟨h18.length, 0, 1, 1, 0⟩) [⟨x, hxL⟩] := by
   refine ⟨rfl, Nat.le_refl _, .inl rfl, ?_⟩
   rw [cellsAt_mk (p := ⟨h18.length, 0⟩) (by rw [List.getElem?_append_right (Nat.le_refl _), Nat.sub_self]; rfl) (by simp [Enc.all_length, encSub, cellS])]
   simp [Enc.all, encSub, cellS]
  have hds : ds.length < L.length := by
   rw [← hel]
   have hsp : (e :: ds).length ≤ es.length := by
    refine List.Nodup.length_le_of_subset (List.nodup_cons.2 ⟨fun hd => hns (List.mem_map_of_mem hd), mem_nodup_of_map hnd⟩) fun y hy => ?_
    rcases List.mem_cons.1 hy with rfl | hy
    ·exact hem
    ·exact hsub y hy
   simp only [List.length_cons] at hsp
   omega
  refine A18.append1 (x := ⟨x, hxL⟩) H1 (by omega) fun q27 h28 A28 K28 l28 b28 => ⟨trivial, ⟨q27, ds ++ [e], l ++ [⟨x, hxL⟩], rfl, ?_, A28, by rw [List.map_append, List.map_append, hdl]; simp [hx], fun d hd => ?_, ?_, fun b B hB => ?_, ?_, ?_⟩, ?_⟩
  ·have hk : ¬ ∃ s, q9 = some s ∧ s.b = h.length := fun ⟨s, h1, h2⟩ => by have := (hqb s h1).2; omega
   rw [List.map_append]
   exact K28 _ _ hk (by rw [List.getElem?_append_left (by omega)]; exact hit18)
  ·rcases List.mem_append.1 hd with hd | hd
   ·exact hsub d hd
   ·rw [List.mem_singleton.1 hd]; exact hem
  ·rw [List.map_append, List.nodup_append]
   refine ⟨hnd, by simp, fun a ha b hb => ?_⟩
   simp only [List.map_cons, List.map_nil, List.mem_singleton] at hb
   rw [hb]
   exact fun hab => hns (hab ▸ ha)
  ·have hbl := lt_of_get hB
   refine K28 _ _ (fun ⟨s, h1, h2⟩ => by have := (hqb s h1).2; omega) ?_
   have := hk18 b B (by omega) (hkeep b B hB)
   rw [List.getElem?_append_left (lt_of_get this)]; exact this
  ·simp only [List.length_append, List.length_singleton] at l28 ⊢
   omega
  ·intro s hs1
   have := b28 s hs1
   simp only [List.length_append, List.length_singleton] at l28 this ⊢
   omega
  ·have hk : ¬ ∃ s, q9 = some s ∧ s.b = h.length := fun ⟨s, h1, h2⟩ => by have := (hqb s h1).2; omega
   have := K28 _ _ hk (show (h18 ++ [Blk.cells (cellS x) true])[h.length]? = some _ by rw [List.getElem?_append_left (by omega)]; exact hit18)
   simp only [this, hit]
   exact left_less he
end
def toS : List Ent3 → (List St5 → Bool) → Bool
 | [], k => k []
 | (.agg [.int .i64 a, .int .i64 b, .int .i64 c, .int .i64 d], .int .i64 e, _) :: es, k => toS es fun l => k ((a, b, c, d, e) :: l)
 | _, _ => false
theorem toS_ok : ∀ {es : List Ent3} {k : List St5 → Bool}, toS es k = true → ∃ L, es.map (fun e => (e.1, e.2.1)) = L.map pairS ∧ k L = true := by
 intro es
 induction es with
 | nil => intro k h; exact ⟨[], rfl, h⟩
 | cons x es ih =>
  intro k h
  unfold toS at h
  split at h
  ·rename_i h1; cases h1
  ·rename_i a b c d e n es' h1
   cases h1
   obtain ⟨L, h2, h3⟩ := ih h
   exact ⟨(a, b, c, d, e) :: L, by rw [List.map_cons, List.map_cons, h2]; rfl, h3⟩
  ·cases h
def ltB (x y : St5) : Bool := match decide (x.1 < y.1) with
 | true => true
 | false => match decide (x.1 = y.1) with
  | false => false
  | true => match decide (x.2.1 < y.2.1) with
   | true => true
   | false => match decide (x.2.1 = y.2.1) with
    | false => false
    | true => match decide (x.2.2.1 < y.2.2.1) with
     | true => true
     | false => match decide (x.2.2.1 = y.2.2.1) with
      | false => false
      | true => decide (x.2.2.2.1 < y.2.2.2.1)
theorem ltB_ok {x y : St5} (h : ltB x y = true) : ltS x y := by
 unfold ltB at h
 unfold ltS
 split at h
 ·rename_i g; exact .inl (of_decide_eq_true g)
 ·split at h
  ·cases h
  ·rename_i g1
   refine .inr ⟨of_decide_eq_true g1, ?_⟩
   split at h
   ·rename_i g; exact .inl (of_decide_eq_true g)
   ·split at h
    ·cases h
    ·rename_i g2
     refine .inr ⟨of_decide_eq_true g2, ?_⟩
     split at h
     ·rename_i g; exact .inl (of_decide_eq_true g)
     ·split at h
      ·cases h
      ·rename_i g3
       exact .inr ⟨of_decide_eq_true g3, of_decide_eq_true h⟩
theorem ltS_trans {x y z : St5} (h1 : ltS x y) (h2 : ltS y z) : ltS x z := by unfold ltS at *; omega
def insC (x : St5) : List St5 → (List St5 → Bool) → Bool
 | [], k => k [x]
 | y :: l, k => match ltB x y with
  | true => k (x :: y :: l)
  | false => insC x l fun r => k (y :: r)
theorem insC_ok {x : St5} : ∀ {l : List St5} {k : List St5 → Bool}, insC x l k = true → ∃ r, r.Perm (x :: l) ∧ k r = true
 | [], k, h => ⟨[x], .refl _, h⟩
 | y :: l, k, h => by
  unfold insC at h
  split at h
  ·exact ⟨_, .refl _, h⟩
  ·obtain ⟨r, h1, h2⟩ := insC_ok h
   exact ⟨y :: r, ((h1.cons y).trans (.swap x y l)), h2⟩
def sortC : List St5 → (List St5 → Bool) → Bool
 | [], k => k []
 | x :: l, k => sortC l fun r => insC x r k
theorem sortC_ok : ∀ {l : List St5} {k : List St5 → Bool}, sortC l k = true → ∃ r, r.Perm l ∧ k r = true
 | [], k, h => ⟨[], .refl _, h⟩
 | x :: l, k, h => by
  obtain ⟨r, h1, h2⟩ := sortC_ok (show sortC l (fun r => insC x r k) = true from h)
  obtain ⟨r2, h3, h4⟩ := insC_ok h2
  exact ⟨r2, h3.trans (h1.cons x), h4⟩
def upB : List St5 → Bool
 | [] => true
 | [_] => true
 | x :: y :: l => match ltB x y with | true => upB (y :: l) | false => false
theorem upB_ok : ∀ {l : List St5}, upB l = true → l.Pairwise ltS
 | [], _ => .nil
 | [x], _ => by simp
 | x :: y :: l, h => by
  unfold upB at h
  split at h
  ·rename_i g
   have ih := upB_ok h
   refine List.pairwise_cons.2 ⟨fun z hz => ?_, ih⟩
   rcases List.mem_cons.1 hz with rfl | hz
   ·exact ltB_ok g
   ·exact ltS_trans (ltB_ok g) ((List.pairwise_cons.1 ih).1 z hz)
  ·cases h
def bornB (cl : Nat) : List Ent3 → Bool
 | [] => true
 | [e] => Nat.blt e.2.2 cl
 | e :: f :: l => match Nat.blt e.2.2 f.2.2 with | true => bornB cl (f :: l) | false => false
theorem bornB_ok {cl : Nat} : ∀ {l : List Ent3}, bornB cl l = true → (l.map (·.2.2)).Pairwise (· < ·) ∧ ∀ e ∈ l, e.2.2 < cl
 | [], _ => ⟨.nil, fun e h => by cases h⟩
 | [e], h => ⟨by simp, fun x hx => by rw [List.mem_singleton.1 hx]; exact T.blt_t h⟩
 | e :: f :: l, h => by
  unfold bornB at h
  split at h
  ·rename_i g
   obtain ⟨h1, h2⟩ := bornB_ok h
   have hlt := T.blt_t g
   refine ⟨?_, fun x hx => ?_⟩
   ·rw [List.map_cons, List.pairwise_cons]
    refine ⟨fun b hb => ?_, h1⟩
    rw [List.map_cons] at hb h1
    rcases List.mem_cons.1 hb with rfl | hb
    ·exact hlt
    ·exact Nat.lt_trans hlt ((List.pairwise_cons.1 h1).1 b hb)
   ·rcases List.mem_cons.1 hx with rfl | hx
    ·exact Nat.lt_trans hlt (h2 f (by simp))
    ·exact h2 x hx
  ·cases h
def eDeads : Nat → EH → (EH → Bool) → Bool
 | 0, h, k => k h
 | n + 1, h, k => h.t.add h.n .dead fun t' => fN (Nat.succ h.n) fun n' => eDeads n ⟨t', n'⟩ k
theorem eDeads_ok : ∀ {n : Nat} {e : EH} {h : Heap} {k : EH → Bool}, HFor e h → eDeads n e k = true → ∃ e', HFor e' (h ++ List.replicate n .dead) ∧ k e' = true
 | 0, e, h, k, H, hk => ⟨e, by simpa using H, hk⟩
 | n + 1, e, h, k, H, hk => by
  unfold eDeads at hk
  rw [H.2] at hk
  obtain ⟨t', h1, h2⟩ := T.For.add H.1 hk
  rw [fN_eq] at h1
  have H' : HFor ⟨t', Nat.succ h.length⟩ (h ++ [.dead]) := ⟨h2, by simp⟩
  obtain ⟨e', h3, h4⟩ := eDeads_ok H' h1
  exact ⟨e', by rw [List.append_assoc] at h3; exact h3, h4⟩
def cellsC : List St5 → (List AV → Bool) → Bool
 | [], k => k []
 | x :: l, k => cellsC l fun r => k (.int .i64 x.1 :: .int .i64 x.2.1 :: .int .i64 x.2.2.1 :: .int .i64 x.2.2.2.1 :: .int .i64 x.2.2.2.2 :: r)
theorem cellsC_ok : ∀ {l : List St5} {k : List AV → Bool}, cellsC l k = true → k (l.flatMap cellS) = true
 | [], k, h => h
 | x :: l, k, h => by
  have := cellsC_ok (show cellsC l _ = true from h)
  exact this
noncomputable def eStamps (run : RunT) : RunT := fun args h k => match args with
 | [.ptr (some p)] => eCells h p.b p.o 1 fun c => (match c with
  | [.map (some m)] => (match h.t.get m with
   | some (.mp es cl) => (match es with
    | [] => run args h k
    | _ :: _ => bornB cl es && toS es fun L => sortC L fun out => upB out && fN L.length fun n => Nat.ble n 1000000 && eDeads (2 * n) h fun h => cellsC out fun cs => eNew cs true h fun b h => k (.sl (some ⟨b, 0, n, n, 5⟩)) h)
   | _ => false)
  | _ => run args h k)
 | _ => run args h k
theorem eStamps_ok {run : RunT} (R : RunOK Tryz.prog 238 run) : RunOK Tryz.prog 238 (eStamps run) := by
 intro args e h k Q H hQ hk
 have dflt : run args e k = true → AC Tryz.prog 238 args h Q := R args e h k Q H hQ
 unfold eStamps at hk
 split at hk
 ·rename_i p
  obtain ⟨l, hc, hk⟩ := eCells_ok H hk
  split at hk
  ·rename_i m
   rw [H.1] at hk
   split at hk
   ·rename_i es cl hm
    split at hk
    ·exact dflt hk
    ·rename_i x xs
     rw [Bool.and_eq_true] at hk
     obtain ⟨hb, hk⟩ := hk
     obtain ⟨hb1, hb2⟩ := bornB_ok hb
     obtain ⟨L, hL, hk⟩ := toS_ok hk
     obtain ⟨out, hp, hk⟩ := sortC_ok hk
     rw [Bool.and_eq_true] at hk
     obtain ⟨hu, hk⟩ := hk
     rw [fN_eq, Bool.and_eq_true] at hk
     obtain ⟨hn, hk⟩ := hk
     obtain ⟨e1, H1, hk⟩ := eDeads_ok H hk
     have hk := cellsC_ok hk
     obtain ⟨e2, H2, hk⟩ := eNew_ok H1 hk
     refine c238 (L := L) (fun h0 => ?_) hc hm hL (hb1.imp fun h => Nat.ne_of_lt h) hb2 (Nat.le_of_ble_eq_true hn) hp (upB_ok hu) ?_
     ·rw [h0] at hL; cases hL
     ·rw [← List.append_assoc]
      have := hQ _ _ _ H2 hk
      rw [List.length_append, List.length_replicate] at this
      exact this
   ·cases hk
  ·exact dflt hk
 ·exact dflt hk
end Go.Proofs.YtjackggnnjdhmaaGreatDoor
namespace Go.Proofs.YtjackggnnjdhmaaGreatDoor
open Go.Ab
set_option linter.unusedVariables false
set_option maxRecDepth 100000
noncomputable def rfOf : Code → Option (Operand × Array Tmp × Code × Code)
  | .rangeFunc g ps a b => some (g, ps, a, b)
  | .seq a b => match rfOf a with | some x => some x | none => rfOf b
  | .block _ a => rfOf a
  | _ => none
noncomputable def bodyOf (o : Option Code) : Code := match o with | some c => c | none => .skip
noncomputable def asg448 : Code := match rfOf (bodyOf Tryz.f448.body) with | some x => x.2.2.1 | none => .skip
noncomputable def bod448 : Code := match rfOf (bodyOf Tryz.f448.body) with | some x => x.2.2.2 | none => .skip
noncomputable def H448 : Hints := hintsOf [] []
noncomputable def HI448 : FuncId → Hints := fun _ => hintsOf [3, 108412] [(0, [], [])]
noncomputable def ρ448 (p : PA) (a : Nat) : List LV := [.val (.sl none), .val (.func (.func 382) [] [.ptr (some p)]), .val (.ptr (some ⟨a, 0⟩)), .top, .val (.sl none), .top, .val (.func (.func 382) [] [.ptr (some p)]), .top, .top, .top, .top, .top, .top]
noncomputable def Y448 (p : PA) (a : Nat) : YH := YOf Tryz.prog H448 (ρ448 p a) #[7] asg448 bod448
noncomputable def R382 (b : Nat) (Y : YH) (p2 : PA) (h : Heap) (K : Heap → Prop) : Prop :=
 ∃ m3 : Option Nat, cellsAt h p2 1 = some [.map m3] ∧
 vRange m3 h fun a4 h5 =>
 ∃ (I6 : List AV → Heap → Prop) (m7 : List AV → Heap → Nat), I6 [] h5 ∧
 ∀ h8 : Heap, I6 [] h8 →
 PNext2 a4 h8 (fun h9 =>
 K h9) fun v10 v11 h12 =>
 PEntry a4 h12 fun v13 =>
 ∃ n14 n15 n16 : Int, ∃ p17 : Option PA, v13 = .tup [.agg [.int .i64 n14, .int .i64 n15, .int .i64 n16], .ptr p17] ∧
 callY Tryz.prog b Y 1000000000 [.func (.yield b) [] [], .agg [.int .i64 n14, .int .i64 n15, .int .i64 n16]] h12 fun v18 h19 => ∃ b20 : Bool, v18 = .bool b20 ∧
 vif (!b20)
 (K h19)
 ((True) ∧ I6 [] h19 ∧ m7 [] h19 < m7 [] h8)
noncomputable def A448 (p : PA) (h : Heap) (Q : AV → Heap → Prop) : Prop :=
  true = true ∧ PNew [.sl none] true h fun a1 h2 => true = true ∧ true = true ∧ ([] : Locs) = [] ∧ true = true ∧ true = true ∧ R382 h2.length (Y448 p a1) p (h2 ++ [.dead]) fun h' =>
    ([] : Locs) = [] ∧ ∃ q : Option SL, cellsAt h' ⟨a1, 0⟩ 1 = some [.sl q] ∧ Q (.sl q) h'
theorem vsp448 (p : PA) (h : Heap) (Q : AV → Heap → Prop) : A448 p h Q = vsp Tryz.prog H448 HI448 (bodyOf Tryz.f448.body) 1000000 ⟨[AV.sl none, AV.func (.func 382) [] [.ptr (some p)]].map .val ++ List.replicate (Tryz.f448.ntmps - 2) .top, [], h⟩ fun e st => match e with
        | .normal => vret Tryz.prog Tryz.f448 st Q
        | .ret => vret Tryz.prog Tryz.f448 st Q
        | _ => False := by kernel_rfl
def AY448 (a : Nat) (x y z : Int) (h : Heap) (R : Heap → Prop) : Prop :=
  1 = 1 ∧ PNew [.int .i64 0, .int .i64 0, .int .i64 0] true h fun a5 h1 => PStore h1 ⟨a5, 0⟩ [.int .i64 x, .int .i64 y, .int .i64 z] fun h2 => Exit.normal = Exit.normal ∧ ([] : Locs) = [] ∧
  ∃ q : Option SL, cellsAt h2 ⟨a, 0⟩ 1 = some [.sl q] ∧ ∃ n1 n2 n3 : Int, cellsAt h2 ⟨a5, 0⟩ 3 = some [.int .i64 n1, .int .i64 n2, .int .i64 n3] ∧
  PNew [.int .i64 n1, .int .i64 n2, .int .i64 n3] true h2 fun a10 h3 => PAppendS 3 24 q (some ⟨a10, 0, 1, 1, 0⟩) h3 fun q' h4 => PStore h4 ⟨a, 0⟩ [.sl q'] fun h5 => Exit.normal = Exit.normal ∧ R h5
theorem y448 (p : PA) (a : Nat) (x y z : Int) (h : Heap) (R : Heap → Prop) : AY448 a x y z h R = Y448 p a [.agg [.int .i64 x, .int .i64 y, .int .i64 z]] h R := by kernel_rfl
end Go.Proofs.YtjackggnnjdhmaaGreatDoor
namespace Go.Proofs.YtjackggnnjdhmaaGreatDoor
open Go.Ab Go.Sort Go.Proofs
set_option linter.unusedVariables false
set_option linter.unusedSimpArgs false
abbrev P3 := Int × Int × Int
def cellP (x : P3) : List AV := [.int .i64 x.1, .int .i64 x.2.1, .int .i64 x.2.2]
def valP (x : P3) : List Value := [.int .i64 x.1, .int .i64 x.2.1, .int .i64 x.2.2]
def encP : Enc P3 where
  sz := 3
  f := cellP
  len _ := rfl
  pos := by omega
  one _ := rfl
def srtP (l : List P3) : List P3 := l.mergeSort fun x y => !(ltOf cmpP) y x
theorem sortLawP : SortLaw Tryz.prog 381 (.func (.func 310) #[] #[]) valP 3 srtP := by
  refine ⟨fun blk off cap d w hH hblk hsz => ?_, fun p cap w => AnyF.slices_SortFunc_none Tryz.sort381 p cap _ w⟩
  have eg : ∀ args w, (callFunc 310 args).run Tryz.prog w = .ok (.enter 310 args) w := enters_of Tryz.func310 (by kernel_rfl) rfl
  exact AnyQ.slices_SortFunc_total Tryz.sort381 3 Tryz.isAgg423 Tryz.sizeOf423 valP (fun _ => rfl) (fun x v hv => by simp [valP] at hv; rcases hv with rfl | rfl | rfl <;> rfl) cmpP Tryz.swoP 310 #[] blk off cap d w eg
    (fun _ _ _ _ x y => Tryz.order310 x y _) hH hblk hsz (fun x y h1 h2 => by
      rw [Tryz.ltPP] at h1 h2
      have h1 := of_decide_eq_false h1
      have h2 := of_decide_eq_false h2
      unfold ltP at h1 h2
      obtain ⟨a, b, c⟩ := x
      obtain ⟨a', b', c'⟩ := y
      simp only at h1 h2
      simp only [Prod.mk.injEq]
      omega)
section
variable {h : Heap} {Q : AV → Heap → Prop} {q : Option SL} {l L : List P3}
theorem c381 (A : ApdX encP h q l) (hl : l.length < 4611686018427387904)
    (hQ : ∀ h', ApdX encP h' q (srtP l) → Keeps (fun b => ∃ s, q = some s ∧ s.b = b) h h' → h'.length = h.length → Q (.tup []) h') : AC Tryz.prog 381 [.sl q, .func (.func 310) [] []] h Q := by
  have hlen : ∀ l : List P3, (srtP l).length = l.length := fun l => (List.mergeSort_perm l _).length_eq
  refine sort_ac (E := encP) (by kernel_rfl) sortLawP (fun μ v hv => ?_) (fun _ => rfl) (fun a μ t x y hx hr => ?_) (fun a μ t x y hx hy => ?_) hlen A.appj hl fun h' A' K' l' => hQ h' (A.of_appj (hlen l) A') K' l'
  · obtain ⟨f', c', rfl, h1, h2⟩ := hv
    have e1 : f' = #[] := by apply Array.ext'; exact h1
    have e2 : c' = #[] := by apply Array.ext'; exact h2
    rw [e1, e2]
  · match t, hx with
    | 0, hx => cases hx; have hr : y = .int .i64 a.1 := hr; subst hr; rfl
    | 1, hx => cases hx; have hr : y = .int .i64 a.2.1 := hr; subst hr; rfl
    | 2, hx => cases hx; have hr : y = .int .i64 a.2.2 := hr; subst hr; rfl
  · match t, hx with
    | 0, hx => cases hx; cases hy; rfl
    | 1, hx => cases hx; cases hy; rfl
    | 2, hx => cases hx; cases hy; rfl
def keyP (x : P3) : AV := .agg [.int .i64 x.1, .int .i64 x.2.1, .int .i64 x.2.2]
def unpP : AV → P3
  | .agg [.int _ a, .int _ b, .int _ c] => (a, b, c)
  | _ => (0, 0, 0)
theorem unp_key (x : P3) : unpP (keyP x) = x := rfl
theorem ltP_asym {x y : P3} (h : ltP x y) : ¬ ltP y x := by unfold ltP at *; omega
theorem srtP_val {out : List P3} (hs : out.Pairwise ltP) (hl : l.Perm out) : srtP l = out := by
  refine sorted_alone (r := fun a b => ¬ ltP b a) (fun a b h1 h2 => ?_) ?_ ?_ ?_
  · unfold ltP at h1 h2
    refine Prod.ext ?_ (Prod.ext ?_ ?_) <;> omega
  · have := List.pairwise_mergeSort (le := fun x y : P3 => !(ltOf cmpP) y x) (fun a b c h1 h2 => by
        simp only [Bool.not_eq_true'] at *
        exact Tryz.swoP.ntrans _ _ _ h2 h1) (fun a b => by
        simp only [Bool.or_eq_true, Bool.not_eq_true']
        rw [Tryz.ltPP, Tryz.ltPP]
        by_cases h : ltP b a
        · exact .inr (decide_eq_false (ltP_asym h))
        · exact .inl (decide_eq_false h)) l
    refine this.imp fun {a b} h => ?_
    simp only [Bool.not_eq_true'] at h
    rw [Tryz.ltPP] at h
    exact of_decide_eq_false h
  · exact hs.imp fun {a b} h => ltP_asym h
  · exact (List.mergeSort_perm l _).trans hl
theorem store_at {h : Heap} {a : Nat} {c xs : List AV} {K : Heap → Prop} (hc : h[a]? = some (.cells c true)) (hl : xs.length ≤ c.length) (ho : oneAll xs = true) (hK : K (h.set a (.cells (splice c 0 xs) true))) : PStore h ⟨a, 0⟩ xs K := by
  unfold PStore
  simp only [hc]
  exact ⟨by omega, hK⟩
set_option maxHeartbeats 2000000 in
theorem c448 {p : PA} {m cl : Nat} {es : List Ent3} (hc : cellsAt h p 1 = some [.map (some m)]) (hm : h[m]? = some (.mp es cl)) (hes : es.map (·.1) = L.map keyP) (hev : ∀ e ∈ es, ∃ x : Option PA, e.2.1 = .ptr x) (hst : (es.map (·.2.2)).Nodup) (hcl : ∀ e ∈ es, e.2.2 < cl) (hlen : L.length ≤ 1000000)
    (hQ : ∀ q h' (l : List P3), l.Perm L → ApdX encP h' q l → (∀ (b : Nat) (B : Blk), h[b]? = some B → h'[b]? = some B) → h'.length = h.length + 3 + 3 * L.length → (∀ s, q = some s → s.b + 1 = h'.length ∧ h.length < s.b) → Q (.sl q) h') : AC Tryz.prog 448 [.sl none, .func (.func 382) [] [.ptr (some p)]] h Q := by
  refine AC_of_vsp (H := H448) (HI := HI448) Tryz.func448 (show Tryz.f448.body = some (bodyOf Tryz.f448.body) by rfl) (by kernel_rfl) ?_
  refine Eq.mp (vsp448 p h Q) ?_
  refine ⟨rfl, ?_⟩
  unfold PNew
  refine ⟨rfl, rfl, rfl, rfl, rfl, ?_⟩
  generalize hh3 : h ++ [Blk.cells [.sl none] true] ++ [Blk.dead] = h3
  have hl3 : h3.length = h.length + 2 := by rw [← hh3]; simp
  have hk3 : ∀ (b : Nat) (B : Blk), h[b]? = some B → h3[b]? = some B := fun b B hB => by
    have := lt_of_get hB
    rw [← hh3, List.append_assoc, List.getElem?_append_left this]; exact hB
  have hbox : h3[h.length]? = some (.cells [.sl none] true) := by rw [← hh3, List.append_assoc, List.getElem?_append_right (Nat.le_refl _)]; simp
  have hyl : (h ++ [Blk.cells [AV.sl none] true]).length = h.length + 1 := by simp
  rw [hyl]
  unfold R382
  have hel : es.length = L.length := by have := congrArg List.length hes; simpa using this
  have hml := lt_of_get hm
  refine ⟨some m, ?_, ?_⟩
  · unfold cellsAt at hc ⊢
    cases hp : h[p.b]? with
    | none => rw [hp] at hc; simp at hc
    | some B => rw [hp] at hc; rw [hk3 _ _ hp]; exact hc
  unfold vRange
  simp only [hk3 _ _ hm, hl3]
  refine ⟨fun xs h12 => ∃ (q : Option SL) (ds : List Ent3) (l : List P3), xs = [] ∧ h12[h.length]? = some (.cells [.sl q] true) ∧ h12[h.length + 2]? = some (.it (some m) cl (ds.map (·.2.2)) cl) ∧ ApdX encP h12 q l ∧ ds.map (·.1) = l.map keyP ∧ (∀ e ∈ ds, e ∈ es) ∧ (ds.map (·.2.2)).Nodup ∧ (∀ (b : Nat) (B : Blk), h[b]? = some B → h12[b]? = some B) ∧ h12.length = h.length + 3 + 3 * ds.length ∧ ∀ s, q = some s → s.b + 1 = h12.length ∧ h.length + 2 < s.b,
    fun _ h12 => match h12[h.length + 2]? with | some (.it _ _ seen _) => (leftE es seen).length | _ => 0, ⟨none, [], [], rfl, by rw [List.getElem?_append_left (by omega)]; exact hbox, by rw [List.getElem?_append_right (by omega), hl3]; simp, .inl ⟨rfl, rfl⟩, rfl, by simp, by simp, fun b B hb => by rw [List.getElem?_append_left (lt_of_get (hk3 _ _ hb))]; exact hk3 _ _ hb, by simp [hl3], by simp⟩, ?_⟩
  rintro h12 ⟨q, ds, l, -, hbq, hit, A, hdl, hsub, hnd, hkeep, hl12, hqb⟩
  unfold PNext2
  simp only [hit, hkeep _ _ hm]
  refine need_mk (by rw [List.all_eq_true]; intro e he; simp; exact hcl e he) ?_
  have hll : ds.length = l.length := by have := congrArg List.length hdl; simpa using this
  split
  · rename_i hleft
    have hall : ∀ e ∈ es, e ∈ ds := fun e he => by
      refine Classical.byContradiction fun hne' => ?_
      have : e ∈ leftE es (ds.map (·.2.2)) := mem_left.2 ⟨he, fun hb => by
        obtain ⟨d, hd, hde⟩ := List.mem_map.1 hb
        exact hne' (born_inj hst (hsub d hd) he hde ▸ hd)⟩
      rw [hleft] at this; cases this
    have hperm : ds.Perm es := (List.perm_ext_iff_of_nodup (mem_nodup_of_map hnd) (mem_nodup_of_map hst)).2 fun e => ⟨hsub e, hall e⟩
    have hlp : l.Perm L := by
      have h1 := (hperm.map (·.1)).map unpP
      rw [hes, hdl, List.map_map, List.map_map] at h1
      have e1 : ∀ l : List P3, l.map (unpP ∘ keyP) = l := fun l => (List.map_congr_left (g := id) fun x _ => unp_key x).trans (List.map_id l)
      rw [e1, e1] at h1
      exact h1
    have hLl : l.length = L.length := hlp.length_eq
    refine ⟨by first | trivial | rfl, q, ?_, hQ q h12 l hlp A hkeep (by omega) fun s hs => ⟨(hqb s hs).1, by have := (hqb s hs).2; omega⟩⟩
    exact cellsAt_mk (p := ⟨h.length, 0⟩) hbq (by simp)
  · rename_i lf hleft
    refine allE_mk fun e he => ?_
    obtain ⟨hem, hns⟩ := mem_left.1 he
    generalize hh18 : h12.set (h.length + 2) (.it (some m) cl (ds.map (·.2.2) ++ [e.2.2]) cl) = h18
    have hlt := lt_of_get hit
    have hit18 : h18[h.length + 2]? = some (.it (some m) cl (ds.map (·.2.2) ++ [e.2.2]) cl) := by rw [← hh18, List.getElem?_set_self hlt]
    have hk18 : ∀ (b : Nat) (B : Blk), b ≠ h.length + 2 → h12[b]? = some B → h18[b]? = some B := fun b B hb hB => by rw [← hh18, List.getElem?_set, if_neg (Ne.symm hb)]; exact hB
    have hl18 : h18.length = h12.length := by rw [← hh18]; simp
    have hm18 : h18[m]? = some (.mp es cl) := hk18 _ _ (by omega) (hkeep _ _ hm)
    unfold PEntry
    simp only [hit18, List.getLast?_concat, hm18]
    refine need_mk (by simp) ?_
    simp only [find_born hst hem]
    obtain ⟨x, hxL, hx⟩ : ∃ x ∈ L, keyP x = e.1 := by
      have : e.1 ∈ es.map (·.1) := List.mem_map.2 ⟨e, hem, rfl⟩
      rw [hes] at this
      exact List.mem_map.1 this
    obtain ⟨px, hpx⟩ := hev e hem
    refine ⟨x.1, x.2.1, x.2.2, px, by rw [← hx, hpx]; rfl, ?_⟩
    refine .inr ⟨rfl, _, rfl, ?_⟩
    rw [← y448]
    unfold AY448 PNew
    refine ⟨rfl, store_at (c := [.int .i64 0, .int .i64 0, .int .i64 0]) (by rw [List.getElem?_append_right (Nat.le_refl _), Nat.sub_self]; rfl) (by simp) rfl ?_⟩
    have hset : (h18 ++ [Blk.cells [.int .i64 0, .int .i64 0, .int .i64 0] true]).set h18.length (.cells (splice [.int .i64 0, .int .i64 0, .int .i64 0] 0 [.int .i64 x.1, .int .i64 x.2.1, .int .i64 x.2.2]) true) = h18 ++ [Blk.cells (cellP x) true] := by
      rw [List.set_append_right _ _ (Nat.le_refl _), Nat.sub_self]; rfl
    rw [hset]
    have hb19 : (h18 ++ [Blk.cells (cellP x) true])[h.length]? = some (.cells [.sl q] true) := by
      rw [List.getElem?_append_left (by rw [hl18]; omega)]; exact hk18 _ _ (by omega) hbq
    have hv19 : (h18 ++ [Blk.cells (cellP x) true])[h18.length]? = some (.cells (cellP x) true) := by
      rw [List.getElem?_append_right (Nat.le_refl _), Nat.sub_self]; rfl
    refine ⟨by first | trivial | rfl, by first | trivial | rfl, q, ?_, x.1, x.2.1, x.2.2, ?_, ?_⟩
    · exact cellsAt_mk (p := ⟨h.length, 0⟩) hb19 (by simp)
    · exact cellsAt_mk (p := ⟨h18.length, 0⟩) hv19 (by simp [cellP])
    generalize hh20 : h18 ++ [Blk.cells (cellP x) true] ++ [Blk.cells [.int .i64 x.1, .int .i64 x.2.1, .int .i64 x.2.2] true] = h20
    have hl20 : h20.length = h12.length + 2 := by rw [← hh20]; simp [hl18]
    have hk20 : ∀ (b : Nat) (B : Blk), h18[b]? = some B → h20[b]? = some B := fun b B hB => by
      rw [← hh20, List.append_assoc, List.getElem?_append_left (lt_of_get hB)]; exact hB
    have A20 : ApdX encP h20 q l := by
      rcases A with ⟨h1, h2⟩ | ⟨a, rfl, hb⟩
      · exact .inl ⟨h1, h2⟩
      · obtain ⟨_, hgt⟩ := hqb _ rfl
        simp only at hgt
        exact .inr ⟨a, rfl, hk20 _ _ (hk18 _ _ (by omega) hb)⟩
    have H1 : HasL encP h20 (some ⟨(h18 ++ [Blk.cells (cellP x) true]).length, 0, 1, 1, 0⟩) [x] := by
      refine ⟨rfl, Nat.le_refl _, .inl rfl, ?_⟩
      rw [cellsAt_mk (p := ⟨(h18 ++ [Blk.cells (cellP x) true]).length, 0⟩) (by rw [← hh20, List.getElem?_append_right (Nat.le_refl _), Nat.sub_self]; rfl) (by simp [Enc.all_length, encP, cellP])]
      simp [Enc.all, encP, cellP]
    have hds : ds.length < L.length := by
      rw [← hel]
      have hsp : (e :: ds).length ≤ es.length := by
        refine List.Nodup.length_le_of_subset (List.nodup_cons.2 ⟨fun hd => hns (List.mem_map_of_mem hd), mem_nodup_of_map hnd⟩) fun y hy => ?_
        rcases List.mem_cons.1 hy with rfl | hy
        · exact hem
        · exact hsub y hy
      simp only [List.length_cons] at hsp
      omega
    have notq : ∀ b, b ≤ h.length + 2 → ¬ ∃ s, q = some s ∧ s.b = b := fun b hb ⟨s, h1, h2⟩ => by have := (hqb s h1).2; omega
    refine A20.append1 (x := x) H1 (by omega) fun q27 h28 A28 K28 l28 b28 => store_at (c := [.sl q]) (K28 _ _ (notq _ (by omega)) (hk20 _ _ (hk18 _ _ (by omega) hbq))) (by simp) rfl ?_
    have hsp1 : splice [AV.sl q] 0 [AV.sl q27] = [AV.sl q27] := rfl
    rw [hsp1]
    generalize hh30 : h28.set h.length (.cells [.sl q27] true) = h30
    have hb28 : h.length < h28.length := by rw [l28, hl20]; omega
    have hk30 : ∀ (b : Nat) (B : Blk), b ≠ h.length → h28[b]? = some B → h30[b]? = some B := fun b B hb hB => by rw [← hh30, List.getElem?_set, if_neg (Ne.symm hb)]; exact hB
    have hl30 : h30.length = h28.length := by rw [← hh30]; simp
    have hit30 : h30[h.length + 2]? = some (.it (some m) cl (ds.map (·.2.2) ++ [e.2.2]) cl) := hk30 _ _ (by omega) (K28 _ _ (notq _ (by omega)) (hk20 _ _ hit18))
    refine ⟨by first | trivial | rfl, true, rfl, vif_mk (fun g => by cases g) (fun _ => ⟨trivial, ⟨q27, ds ++ [e], l ++ [x], by first | trivial | rfl, by rw [← hh30, List.getElem?_set_self hb28], by rw [List.map_append]; exact hit30, ?_, by rw [List.map_append, List.map_append, hdl]; simp [hx], fun d hd => ?_, ?_, fun b B hB => ?_, ?_, ?_⟩, ?_⟩)⟩
    · rcases A28 with ⟨h1, h2⟩ | ⟨a, rfl, hb⟩
      · exact .inl ⟨h1, h2⟩
      · have := b28 _ rfl
        simp only at this
        exact .inr ⟨a, rfl, hk30 _ _ (by omega) hb⟩
    · rcases List.mem_append.1 hd with hd | hd
      · exact hsub d hd
      · rw [List.mem_singleton.1 hd]; exact hem
    · rw [List.map_append, List.nodup_append]
      refine ⟨hnd, by simp, fun a ha b hb => ?_⟩
      simp only [List.map_cons, List.map_nil, List.mem_singleton] at hb
      rw [hb]
      exact fun hab => hns (hab ▸ ha)
    · have hbl := lt_of_get hB
      exact hk30 _ _ (by omega) (K28 _ _ (notq _ (by omega)) (hk20 _ _ (hk18 _ _ (by omega) (hkeep b B hB))))
    · simp only [List.length_append, List.length_singleton]
      omega
    · intro s hs1
      have := b28 s hs1
      omega
    · simp only [hit30, hit]
      exact left_less he
theorem c308 {p : PA} {m cl : Nat} {es : List Ent3} {out : List P3} (hne : L ≠ []) (hc : cellsAt h p 1 = some [.map (some m)]) (hm : h[m]? = some (.mp es cl)) (hes : es.map (·.1) = L.map keyP) (hev : ∀ e ∈ es, ∃ x : Option PA, e.2.1 = .ptr x) (hst : (es.map (·.2.2)).Nodup) (hcl : ∀ e ∈ es, e.2.2 < cl) (hlen : L.length ≤ 1000000)
    (hp : out.Perm L) (hs : out.Pairwise ltP) (hQ : Q (.sl (some ⟨h.length + (2 + 3 * L.length), 0, L.length, L.length, 3⟩)) (h ++ (List.replicate (2 + 3 * L.length) Blk.dead ++ [Blk.cells (out.flatMap cellP) true]))) : AC Tryz.prog 308 [.func (.func 382) [] [.ptr (some p)], .func (.func 310) [] []] h Q := by
  refine AC_deads (ac308 ?_)
  unfold vc308
  refine ac380 ?_
  unfold vc380
  refine c448 hc hm hes hev hst hcl hlen fun q h' l hl A hkeep hlh hqb => ⟨q, rfl, q, rfl, ?_⟩
  have hll := hl.length_eq
  have hvs := srtP_val hs (hl.trans hp.symm)
  refine c381 A (by omega) fun h15 A15 K15 l15 => ⟨rfl, ?_⟩
  rw [hvs] at A15
  have hol := hp.length_eq
  rcases A15 with ⟨_, h0⟩ | ⟨a, rfl, hb⟩
  · exfalso
    rw [h0] at hol
    exact hne (List.eq_nil_of_length_eq_zero hol.symm)
  · obtain ⟨ha, _⟩ := hqb _ rfl
    simp only at ha
    have haN : a = h.length + (2 + 3 * L.length) := by omega
    refine ⟨h ++ (List.replicate (2 + 3 * L.length) Blk.dead ++ [Blk.cells (out.flatMap cellP) true]), by simp; omega, fun b B hB => ?_, ?_⟩
    · rcases Nat.lt_or_ge b h.length with hlt | hge
      · rw [List.getElem?_append_left hlt] at hB
        refine .inr (K15 b B (fun ⟨s, hs1, hs2⟩ => ?_) (hkeep b B hB))
        cases hs1
        simp only at hs2
        omega
      · rw [List.getElem?_append_right hge] at hB
        rcases Nat.lt_or_ge (b - h.length) (2 + 3 * L.length) with h1 | h1
        · rw [List.getElem?_append_left (by simp; omega), List.getElem?_replicate, if_pos h1] at hB
          cases hB; exact .inl rfl
        · rw [List.getElem?_append_right (by simp; omega)] at hB
          have hbl := lt_of_get hB
          simp at hbl
          have hb0 : b = a := by omega
          subst hb0
          rw [List.length_replicate, show b - h.length - (2 + 3 * L.length) = 0 by omega] at hB
          simp only [List.getElem?_cons_zero, Option.some.injEq] at hB
          subst hB
          refine .inr ?_
          rw [hb]
          rfl
    · rw [hol, haN]; exact hQ
end
def toP : List Ent3 → (List P3 → Bool) → Bool
  | [], k => k []
  | (.agg [.int .i64 a, .int .i64 b, .int .i64 c], .ptr _, _) :: es, k => toP es fun l => k ((a, b, c) :: l)
  | _, _ => false
theorem toP_ok : ∀ {es : List Ent3} {k : List P3 → Bool}, toP es k = true → ∃ L, es.map (·.1) = L.map keyP ∧ (∀ e ∈ es, ∃ x : Option PA, e.2.1 = .ptr x) ∧ k L = true := by
  intro es
  induction es with
  | nil => intro k h; exact ⟨[], rfl, fun e he => (by cases he), h⟩
  | cons x es ih =>
    intro k h
    unfold toP at h
    split at h
    · rename_i h1; cases h1
    · rename_i a b c q n es' h1
      cases h1
      obtain ⟨L, h2, h3, h4⟩ := ih h
      refine ⟨(a, b, c) :: L, by rw [List.map_cons, List.map_cons, h2]; rfl, fun e he => ?_, h4⟩
      rcases List.mem_cons.1 he with rfl | he
      · exact ⟨q, rfl⟩
      · exact h3 e he
    · cases h
def ltBP (x y : P3) : Bool := match decide (x.1 < y.1) with
  | true => true
  | false => match decide (x.1 = y.1) with
    | false => false
    | true => match decide (x.2.1 < y.2.1) with
      | true => true
      | false => match decide (x.2.1 = y.2.1) with
        | false => false
        | true => decide (x.2.2 < y.2.2)
theorem ltBP_ok {x y : P3} (h : ltBP x y = true) : ltP x y := by
  unfold ltBP at h
  unfold ltP
  split at h
  · rename_i g; exact .inl (of_decide_eq_true g)
  · split at h
    · cases h
    · rename_i g1
      refine .inr ⟨of_decide_eq_true g1, ?_⟩
      split at h
      · rename_i g; exact .inl (of_decide_eq_true g)
      · split at h
        · cases h
        · rename_i g2
          exact .inr ⟨of_decide_eq_true g2, of_decide_eq_true h⟩
theorem ltP_trans {x y z : P3} (h1 : ltP x y) (h2 : ltP y z) : ltP x z := by unfold ltP at *; omega
def insCP (x : P3) : List P3 → (List P3 → Bool) → Bool
  | [], k => k [x]
  | y :: l, k => match ltBP x y with
    | true => k (x :: y :: l)
    | false => insCP x l fun r => k (y :: r)
theorem insCP_ok {x : P3} : ∀ {l : List P3} {k : List P3 → Bool}, insCP x l k = true → ∃ r, r.Perm (x :: l) ∧ k r = true
  | [], k, h => ⟨[x], .refl _, h⟩
  | y :: l, k, h => by
    unfold insCP at h
    split at h
    · exact ⟨_, .refl _, h⟩
    · obtain ⟨r, h1, h2⟩ := insCP_ok h
      exact ⟨y :: r, ((h1.cons y).trans (.swap x y l)), h2⟩
def sortCP : List P3 → (List P3 → Bool) → Bool
  | [], k => k []
  | x :: l, k => sortCP l fun r => insCP x r k
theorem sortCP_ok : ∀ {l : List P3} {k : List P3 → Bool}, sortCP l k = true → ∃ r, r.Perm l ∧ k r = true
  | [], k, h => ⟨[], .refl _, h⟩
  | x :: l, k, h => by
    obtain ⟨r, h1, h2⟩ := sortCP_ok (show sortCP l (fun r => insCP x r k) = true from h)
    obtain ⟨r2, h3, h4⟩ := insCP_ok h2
    exact ⟨r2, h3.trans (h1.cons x), h4⟩
def upBP : List P3 → Bool
  | [] => true
  | [_] => true
  | x :: y :: l => match ltBP x y with | true => upBP (y :: l) | false => false
theorem upBP_ok : ∀ {l : List P3}, upBP l = true → l.Pairwise ltP
  | [], _ => .nil
  | [x], _ => by simp
  | x :: y :: l, h => by
    unfold upBP at h
    split at h
    · rename_i g
      have ih := upBP_ok h
      refine List.pairwise_cons.2 ⟨fun z hz => ?_, ih⟩
      rcases List.mem_cons.1 hz with rfl | hz
      · exact ltBP_ok g
      · exact ltP_trans (ltBP_ok g) ((List.pairwise_cons.1 ih).1 z hz)
    · cases h
def cellsCP : List P3 → (List AV → Bool) → Bool
  | [], k => k []
  | x :: l, k => cellsCP l fun r => k (.int .i64 x.1 :: .int .i64 x.2.1 :: .int .i64 x.2.2 :: r)
theorem cellsCP_ok : ∀ {l : List P3} {k : List AV → Bool}, cellsCP l k = true → k (l.flatMap cellP) = true
  | [], k, h => h
  | x :: l, k, h => by
    have := cellsCP_ok (show cellsCP l _ = true from h)
    exact this
noncomputable def eSortP (run : RunT) : RunT := fun args h k => match args with
  | [.func (.func g) [] [.ptr (some p)], .func (.func c) [] []] => (Nat.beq g 382 && Nat.beq c 310) && eCells h p.b p.o 1 fun c => (match c with
    | [.map (some m)] => (match h.t.get m with
      | some (.mp es cl) => (match es with
        | [] => run args h k
        | _ :: _ => bornB cl es && toP es fun L => sortCP L fun out => upBP out && fN L.length fun n => Nat.ble n 1000000 && eDeads (2 + 3 * n) h fun h => cellsCP out fun cs => eNew cs true h fun b h => k (.sl (some ⟨b, 0, n, n, 3⟩)) h)
      | _ => false)
    | _ => run args h k)
  | _ => run args h k
theorem eSortP_ok {run : RunT} (R : RunOK Tryz.prog 308 run) : RunOK Tryz.prog 308 (eSortP run) := by
  intro args e h k Q H hQ hk
  have dflt : run args e k = true → AC Tryz.prog 308 args h Q := R args e h k Q H hQ
  unfold eSortP at hk
  split at hk
  · rename_i g p c
    rw [Bool.and_eq_true, Bool.and_eq_true] at hk
    obtain ⟨⟨hg, hcc⟩, hk⟩ := hk
    have hg := Nat.eq_of_beq_eq_true hg
    have hcc := Nat.eq_of_beq_eq_true hcc
    subst hg hcc
    obtain ⟨l, hc, hk⟩ := eCells_ok H hk
    split at hk
    · rename_i m
      rw [H.1] at hk
      split at hk
      · rename_i es cl hm
        split at hk
        · exact dflt hk
        · rename_i x xs
          rw [Bool.and_eq_true] at hk
          obtain ⟨hb, hk⟩ := hk
          obtain ⟨hb1, hb2⟩ := bornB_ok hb
          obtain ⟨L, hL, hev, hk⟩ := toP_ok hk
          obtain ⟨out, hp, hk⟩ := sortCP_ok hk
          rw [Bool.and_eq_true] at hk
          obtain ⟨hu, hk⟩ := hk
          rw [fN_eq, Bool.and_eq_true] at hk
          obtain ⟨hn, hk⟩ := hk
          obtain ⟨e1, H1, hk⟩ := eDeads_ok H hk
          have hk := cellsCP_ok hk
          obtain ⟨e2, H2, hk⟩ := eNew_ok H1 hk
          refine c308 (L := L) (fun h0 => ?_) hc hm hL hev (hb1.imp fun h => Nat.ne_of_lt h) hb2 (Nat.le_of_ble_eq_true hn) hp (upBP_ok hu) ?_
          · rw [h0] at hL; cases hL
          · rw [← List.append_assoc]
            have := hQ _ _ _ H2 hk
            rw [List.length_append, List.length_replicate] at this
            exact this
      · cases hk
    · exact dflt hk
  · exact dflt hk
end Go.Proofs.YtjackggnnjdhmaaGreatDoor
namespace Go.Proofs
open Go.RowKit Go.Maps Go.Sort Go.Shelf
def Tryz.keys244_ren : Go.Shelf.Ren := ⟨fun | 7 => 244 | 10 => 319 | n => n, fun | 23 => 304 | 26 => 9 | 3 => 366 | 28 => 364 | 0 => 0 | 27 => 363 | 33 => 42 | 4 => 4 | n => n, fun | n => n⟩
theorem Tryz.keys244 : Go.Proofs.SlLaysZ.n7 Tryz.prog Tryz.keys244_ren := {
  mixed := by kernel_rfl
  f7 := ⟨Tryz.f244.name, by decide, Tryz.func244.trans (congrArg some (by kernel_rfl))⟩
  f10 := ⟨Tryz.f319.name, by decide, Tryz.func319.trans (congrArg some (by kernel_rfl))⟩
  t0 := Tryz.underlying0
  a0 := Tryz.isAgg0
  z0 := Tryz.sizeOf0
  v0 := Tryz.zeroValue0
  t4 := Tryz.underlying4
  a4 := Tryz.isAgg4
  z4 := Tryz.sizeOf4
  v4 := Tryz.zeroValue4
  t23 := Tryz.underlying304
  a23 := Tryz.isAgg304
  z23 := Tryz.sizeOf304
  v23 := Tryz.zeroValue304
  t26 := Tryz.underlying9
  a26 := Tryz.isAgg9
  z26 := Tryz.sizeOf9
  v26 := Tryz.zeroValue9
  t27 := Tryz.underlying363
  a27 := Tryz.isAgg363
  z27 := Tryz.sizeOf363
  v27 := Tryz.zeroValue363
  t28 := Tryz.underlying364
  a28 := Tryz.isAgg364
  z28 := Tryz.sizeOf364
  v28 := Tryz.zeroValue364
  t33 := Tryz.underlying42
  a33 := Tryz.isAgg42
  z33 := Tryz.sizeOf42
  v33 := Tryz.zeroValue42 }
def Tryz.keys477_ren : Go.Shelf.Ren := ⟨fun | 7 => 477 | 10 => 532 | n => n, fun | 23 => 589 | 26 => 9 | 3 => 4 | 28 => 364 | 0 => 0 | 27 => 363 | 33 => 42 | 4 => 4 | n => n, fun | n => n⟩
theorem Tryz.keys477 : Go.Proofs.SlLaysZ.n7 Tryz.prog Tryz.keys477_ren := {
  mixed := by kernel_rfl
  f7 := ⟨Tryz.f477.name, by decide, Tryz.func477.trans (congrArg some (by kernel_rfl))⟩
  f10 := ⟨Tryz.f532.name, by decide, Tryz.func532.trans (congrArg some (by kernel_rfl))⟩
  t0 := Tryz.underlying0
  a0 := Tryz.isAgg0
  z0 := Tryz.sizeOf0
  v0 := Tryz.zeroValue0
  t4 := Tryz.underlying4
  a4 := Tryz.isAgg4
  z4 := Tryz.sizeOf4
  v4 := Tryz.zeroValue4
  t23 := Tryz.underlying589
  a23 := Tryz.isAgg589
  z23 := Tryz.sizeOf589
  v23 := Tryz.zeroValue589
  t26 := Tryz.underlying9
  a26 := Tryz.isAgg9
  z26 := Tryz.sizeOf9
  v26 := Tryz.zeroValue9
  t27 := Tryz.underlying363
  a27 := Tryz.isAgg363
  z27 := Tryz.sizeOf363
  v27 := Tryz.zeroValue363
  t28 := Tryz.underlying364
  a28 := Tryz.isAgg364
  z28 := Tryz.sizeOf364
  v28 := Tryz.zeroValue364
  t33 := Tryz.underlying42
  a33 := Tryz.isAgg42
  z33 := Tryz.sizeOf42
  v33 := Tryz.zeroValue42 }
def Tryz.sorted243_ren : Go.Shelf.Ren := ⟨fun | 6 => 243 | 8 => 317 | 9 => 318 | 11 => 385 | 13 => 268 | 12 => 386 | 23 => 336 | 24 => 230 | 14 => 458 | 15 => 459 | 16 => 460 | 17 => 461 | 18 => 462 | 19 => 463 | 20 => 464 | 21 => 465 | 22 => 466 | 25 => 523 | 26 => 398 | 27 => 399 | 28 => 524 | 29 => 525 | 30 => 526 | 31 => 572 | n => n, fun | 26 => 9 | 28 => 364 | 24 => 88 | 0 => 0 | 3 => 3 | 37 => 161 | 48 => 318 | 50 => 217 | 4 => 4 | 40 => 474 | 39 => 473 | 45 => 133 | 5 => 5 | 9 => 9 | 51 => 524 | 55 => 528 | 57 => 582 | 58 => 580 | 33 => 42 | n => n, fun | n => n⟩
theorem Tryz.sorted243 : Go.Proofs.SlLaysZ.n6 Tryz.prog Tryz.sorted243_ren := {
  mixed := by kernel_rfl
  f6 := ⟨Tryz.f243.name, by decide, Tryz.func243.trans (congrArg some (by kernel_rfl))⟩
  f8 := ⟨Tryz.f317.name, by decide, Tryz.func317.trans (congrArg some (by kernel_rfl))⟩
  f11 := ⟨Tryz.f385.name, by decide, Tryz.func385.trans (congrArg some (by kernel_rfl))⟩
  t0 := Tryz.underlying0
  a0 := Tryz.isAgg0
  z0 := Tryz.sizeOf0
  v0 := Tryz.zeroValue0
  t24 := Tryz.underlying88
  a24 := Tryz.isAgg88
  z24 := Tryz.sizeOf88
  v24 := Tryz.zeroValue88
  t26 := Tryz.underlying9
  a26 := Tryz.isAgg9
  z26 := Tryz.sizeOf9
  v26 := Tryz.zeroValue9
  t28 := Tryz.underlying364
  a28 := Tryz.isAgg364
  z28 := Tryz.sizeOf364
  v28 := Tryz.zeroValue364
  i26 := by kernel_rfl }
def Tryz.sort318_ren : Go.Shelf.Ren := ⟨fun | 6 => 318 | 8 => 268 | 9 => 386 | 19 => 336 | 20 => 230 | 21 => 458 | 22 => 459 | 23 => 460 | 24 => 461 | 25 => 462 | 26 => 463 | 27 => 464 | 28 => 465 | 29 => 466 | 36 => 523 | 31 => 398 | 32 => 399 | 37 => 524 | 38 => 525 | 39 => 526 | 41 => 572 | n => n, fun | 27 => 88 | 29 => 9 | 3 => 3 | 32 => 161 | 26 => 88 | 0 => 0 | 44 => 318 | 46 => 217 | 4 => 4 | 36 => 474 | 35 => 473 | 41 => 133 | 5 => 5 | 9 => 9 | 53 => 524 | 57 => 528 | 63 => 582 | 64 => 580 | n => n, fun | n => n⟩
theorem Tryz.sort318 : Go.Proofs.SlLaysM.n6 Tryz.prog Tryz.sort318_ren := {
  mixed := by kernel_rfl
  f6 := ⟨Tryz.f318.name, by decide, Tryz.func318.trans (congrArg some (by kernel_rfl))⟩
  f8 := Tryz.func268.trans (congrArg some (by kernel_rfl))
  f9 := ⟨Tryz.f386.name, by decide, Tryz.func386.trans (congrArg some (by kernel_rfl))⟩
  f19 := Tryz.func336.trans (congrArg some (by kernel_rfl))
  f20 := Tryz.func230.trans (congrArg some (by kernel_rfl))
  f21 := ⟨Tryz.f458.name, by decide, Tryz.func458.trans (congrArg some (by kernel_rfl))⟩
  f22 := ⟨Tryz.f459.name, by decide, Tryz.func459.trans (congrArg some (by kernel_rfl))⟩
  f23 := ⟨Tryz.f460.name, by decide, Tryz.func460.trans (congrArg some (by kernel_rfl))⟩
  f24 := ⟨Tryz.f461.name, by decide, Tryz.func461.trans (congrArg some (by kernel_rfl))⟩
  f25 := ⟨Tryz.f462.name, by decide, Tryz.func462.trans (congrArg some (by kernel_rfl))⟩
  f26 := ⟨Tryz.f463.name, by decide, Tryz.func463.trans (congrArg some (by kernel_rfl))⟩
  f27 := ⟨Tryz.f464.name, by decide, Tryz.func464.trans (congrArg some (by kernel_rfl))⟩
  f28 := ⟨Tryz.f465.name, by decide, Tryz.func465.trans (congrArg some (by kernel_rfl))⟩
  f29 := ⟨Tryz.f466.name, by decide, Tryz.func466.trans (congrArg some (by kernel_rfl))⟩
  f31 := Tryz.func398.trans (congrArg some (by kernel_rfl))
  f32 := Tryz.func399.trans (congrArg some (by kernel_rfl))
  f36 := ⟨Tryz.f523.name, by decide, Tryz.func523.trans (congrArg some (by kernel_rfl))⟩
  f37 := ⟨Tryz.f524.name, by decide, Tryz.func524.trans (congrArg some (by kernel_rfl))⟩
  f38 := ⟨Tryz.f525.name, by decide, Tryz.func525.trans (congrArg some (by kernel_rfl))⟩
  f39 := ⟨Tryz.f526.name, by decide, Tryz.func526.trans (congrArg some (by kernel_rfl))⟩
  f41 := ⟨Tryz.f572.name, by decide, Tryz.func572.trans (congrArg some (by kernel_rfl))⟩
  t0 := Tryz.underlying0
  a0 := Tryz.isAgg0
  z0 := Tryz.sizeOf0
  v0 := Tryz.zeroValue0
  t3 := Tryz.underlying3
  a3 := Tryz.isAgg3
  z3 := Tryz.sizeOf3
  v3 := Tryz.zeroValue3
  t4 := Tryz.underlying4
  a4 := Tryz.isAgg4
  z4 := Tryz.sizeOf4
  v4 := Tryz.zeroValue4
  t5 := Tryz.underlying5
  a5 := Tryz.isAgg5
  z5 := Tryz.sizeOf5
  v5 := Tryz.zeroValue5
  t9 := Tryz.underlying9
  a9 := Tryz.isAgg9
  z9 := Tryz.sizeOf9
  v9 := Tryz.zeroValue9
  t26 := Tryz.underlying88
  a26 := Tryz.isAgg88
  z26 := Tryz.sizeOf88
  v26 := Tryz.zeroValue88
  t27 := Tryz.underlying88
  a27 := Tryz.isAgg88
  z27 := Tryz.sizeOf88
  v27 := Tryz.zeroValue88
  t29 := Tryz.underlying9
  a29 := Tryz.isAgg9
  z29 := Tryz.sizeOf9
  v29 := Tryz.zeroValue9
  t32 := Tryz.underlying161
  a32 := Tryz.isAgg161
  z32 := Tryz.sizeOf161
  v32 := Tryz.zeroValue161
  t35 := Tryz.underlying473
  a35 := Tryz.isAgg473
  z35 := Tryz.sizeOf473
  v35 := Tryz.zeroValue473
  t36 := Tryz.underlying474
  a36 := Tryz.isAgg474
  z36 := Tryz.sizeOf474
  v36 := Tryz.zeroValue474
  t41 := Tryz.underlying133
  a41 := Tryz.isAgg133
  z41 := Tryz.sizeOf133
  v41 := Tryz.zeroValue133
  t44 := Tryz.underlying318
  a44 := Tryz.isAgg318
  z44 := Tryz.sizeOf318
  v44 := Tryz.zeroValue318
  t46 := Tryz.underlying217
  a46 := Tryz.isAgg217
  z46 := Tryz.sizeOf217
  v46 := Tryz.zeroValue217
  t53 := Tryz.underlying524
  a53 := Tryz.isAgg524
  z53 := Tryz.sizeOf524
  v53 := Tryz.zeroValue524
  t57 := Tryz.underlying528
  a57 := Tryz.isAgg528
  z57 := Tryz.sizeOf528
  v57 := Tryz.zeroValue528
  t63 := Tryz.underlying582
  a63 := Tryz.isAgg582
  z63 := Tryz.sizeOf582
  v63 := Tryz.zeroValue582
  t64 := Tryz.underlying580
  a64 := Tryz.isAgg580
  z64 := Tryz.sizeOf580
  v64 := Tryz.zeroValue580 }
theorem Tryz.sorts243 (m : Nat) : AnyZ.SortsIn Tryz.prog Tryz.sorted243_ren Fence.wide m :=
  ⟨fun blk off cap ss W hH hblk hsz => callsIn_wide.2 (AnyM.slices_Sort_string Tryz.sort318 blk off cap ss W hH hblk hsz),
   fun p cap W => callsIn_wide.2 (AnyM.slices_Sort_string_none Tryz.sort318 p cap W)⟩
theorem Tryz.keysLaw244 : Go.Ab.KeysLaw Tryz.prog 244 319 := ⟨_, fun mb W => callsIn_wide.1 (AnyZ.keys_in Tryz.keys244 Fence.wide 5 trivial rfl mb W)⟩
theorem Tryz.keysLaw477 : Go.Ab.KeysLaw Tryz.prog 477 532 := ⟨_, fun mb W => callsIn_wide.1 (AnyZ.keys_in Tryz.keys477 Fence.wide 5 trivial rfl mb W)⟩
set_option maxHeartbeats 1000000 in
theorem Tryz.sortedLaw319 : Go.Ab.SortedLaw Tryz.prog 243 319 9 := by
  intro Bm b nn D0 w hBm hcell hown hmax hbytes
  have hseq : SeqGives Fence.wide 2 Tryz.prog 319 #[.pointer (some ⟨Bm, 0, none⟩)] encStr (fun ss => ss.Perm (strKeys D0)) (Maps.size D0) w :=
    AnyZ.keys_gives (ρ := Tryz.keys244_ren) { Tryz.keys244 with } Fence.wide _ trivial rfl (by omega) Bm b nn D0 w hBm hcell hown
  exact callsIn_wide.1 (AnyZ.sorted_in Tryz.sorted243 Fence.wide 5 trivial trivial trivial trivial rfl (by omega) (Tryz.sorts243 _) (enters_of Tryz.func318 (by kernel_rfl) rfl) 319 #[.pointer (some ⟨Bm, 0, none⟩)] trivial (enters_of Tryz.func319 (by kernel_rfl) rfl) _ _ hmax hbytes _ hseq)
set_option maxHeartbeats 1000000 in
theorem Tryz.sortedLaw532 : Go.Ab.SortedLaw Tryz.prog 243 532 9 := by
  intro Bm b nn D0 w hBm hcell hown hmax hbytes
  have hseq : SeqGives Fence.wide 2 Tryz.prog 532 #[.pointer (some ⟨Bm, 0, none⟩)] encStr (fun ss => ss.Perm (strKeys D0)) (Maps.size D0) w :=
    AnyZ.keys_gives (ρ := Tryz.keys477_ren) { Tryz.keys477 with } Fence.wide _ trivial rfl (by omega) Bm b nn D0 w hBm hcell hown
  exact callsIn_wide.1 (AnyZ.sorted_in Tryz.sorted243 Fence.wide 5 trivial trivial trivial trivial rfl (by omega) (Tryz.sorts243 _) (enters_of Tryz.func318 (by kernel_rfl) rfl) 532 #[.pointer (some ⟨Bm, 0, none⟩)] trivial (enters_of Tryz.func532 (by kernel_rfl) rfl) _ _ hmax hbytes _ hseq)
theorem Tryz.ovOk : Go.Ab.OvrOK Tryz.prog (Go.Ab.ovKS [(244, 319), (477, 532)] 243) := Go.Ab.ovKS_ok (kt := 9) {
  str := Tryz.underlying9
  callS := by kernel_rfl
  callK := by intro x hx; simp at hx; rcases hx with rfl | rfl <;> kernel_rfl
  laws := by intro x hx; simp at hx; rcases hx with rfl | rfl; exact Tryz.keysLaw244; exact Tryz.keysLaw477
  sort := by intro x hx; simp at hx; rcases hx with rfl | rfl; exact Tryz.sortedLaw319; exact Tryz.sortedLaw532 }
end Go.Proofs
namespace Go.Proofs
open Go.Ab
set_option maxRecDepth 100000
set_option linter.unusedVariables false
def vc493 (p1 : Option PA) (q2 : Option SL) (n3 : Int) (n4 : Int) (n5 : Int) (n6 : Int) (v7 : AV) (h : Heap) (Q : AV → Heap → Prop) : Prop :=
 AC Tryz.prog 554 [.ptr p1, .agg [.int .i64 n3, .int .i64 n4, .int .i64 n5, .int .i64 n6]] h fun v8 h9 => ∃ q10 : Option SL, ∃ n11 : Int, v8 = .tup [.sl q10, .int .i64 n11] ∧
 vif (n11 != 0)
 (Q (.tup [.sl none, .int .i64 n11]) h9)
 (PNew [.sl q2] true h9 fun a12 h13 =>
 AC Tryz.prog 555 [.sl (some ⟨a12, 0, 1, 1, 0⟩), .sl q10] h13 fun v14 h15 => ∃ p16 : Option PA, ∃ n17 : Int, v14 = .tup [.ptr p16, .int .i64 n17] ∧
 vif (n17 != 0)
 (Q (.tup [.sl none, .int .i64 n17]) h15)
 (AC Tryz.prog 557 [.ptr p16, v7] h15 fun v18 h19 => ∃ q20 : Option SL, ∃ n21 : Int, v18 = .tup [.sl q20, .int .i64 n21] ∧
 ACD Tryz.prog 556 [.ptr p16] h19 fun _ h22 =>
 Q (.tup [.sl q20, .int .i64 n21]) h22))
theorem ac493 {p1 : Option PA} {q2 : Option SL} {n3 : Int} {n4 : Int} {n5 : Int} {n6 : Int} {v7 : AV} {h : Heap} {Q : AV → Heap → Prop} (hk : vc493 p1 q2 n3 n4 n5 n6 v7 h Q) : AC Tryz.prog 493 [.ptr p1, .sl q2, .agg [.int .i64 n3, .int .i64 n4, .int .i64 n5, .int .i64 n6], v7] h Q :=
 AC_byD (n := 5) (H := hintsOf [6] []) (by kernel_rfl) (by kernel_rfl) hk
end Go.Proofs
namespace Go.Proofs.YtjackggnnjdhmaaGreatDoor
open Go.Ab Go.Proofs
set_option linter.unusedVariables false
theorem c160 {p : PA} {t f : Int} {n : Nat} {h : Heap} {Q : AV → Heap → Prop} (hn : (n : Int) < t) (hf : 0 ≤ f) (hb : f + n < 4611686018427387904)
  (A : Picks Tryz.prog 217 (.ptr (some p)) n f h fun h' => AC Tryz.prog 217 [.ptr (some p), .int .i64 (f + n)] h' fun v h'' => v = .bool false ∧ Q (.int .i64 n) h'') : AC Tryz.prog 160 [.ptr (some p), .int .i64 t, .int .i64 f] h Q := ac160 (by
 unfold vc160
 refine ⟨fun xs h7 => ∃ k m : Nat, n = k + m ∧ xs = [.int .i64 k] ∧ Picks Tryz.prog 217 (.ptr (some p)) m (f + k) h7 fun h' => AC Tryz.prog 217 [.ptr (some p), .int .i64 (f + n)] h' fun v h'' => v = .bool false ∧ Q (.int .i64 n) h'',
  fun xs _ => match xs with | [.int _ k] => (n + 1 - k : Int).toNat | _ => 0, ⟨0, n, by omega, rfl, by simpa using A⟩, ?_⟩
 rintro n4 h7 ⟨k, m, hk, hx, P7⟩
 simp only [List.cons.injEq, AV.int.injEq, true_and, and_true] at hx
 subst hx
 refine vif_mk (fun _ => ?_) (fun g => absurd (of_decide_eq_false g) (by omega))
 rw [wrapK_i64 (by omega)]
 cases m with
 | zero =>
  have hkn : (k : Int) = n := by omega
  rw [hkn]
  have P7' : AC Tryz.prog 217 [.ptr (some p), .int .i64 (f + n)] h7 fun v h'' => v = .bool false ∧ Q (.int .i64 n) h'' := P7
  refine P7'.mono fun v h'' ⟨h1, h2⟩ => ⟨false, h1, vif_mk (fun g => by cases g) (fun _ => h2)⟩
 | succ m =>
  refine AC.mono P7 fun v h'' ⟨h1, h2⟩ => ⟨true, h1, vif_mk (fun _ => ?_) (fun g => by cases g)⟩
  rw [wrapK_i64 (by omega)]
  refine ⟨trivial, ⟨k + 1, m, by omega, by simp, ?_⟩, ?_⟩
  ·rw [show f + ((k + 1 : Nat) : Int) = f + k + 1 by omega]
   exact h2
  ·simp only
   omega)
end Go.Proofs.YtjackggnnjdhmaaGreatDoor
namespace Go.Proofs.YtjackggnnjdhmaaGreatDoor
open Go.Ab
open Go.ChangeShapes Go.WideShapes Go.ChangeAt Go.RowKit
set_option linter.unusedVariables false
set_option linter.unusedSimpArgs false
inductive NT where
  | mk (op : Int) (ins : List Int) (k a A : Int) (body : List NT)
instance : Inhabited NT := ⟨.mk 0 [] 0 0 0 []⟩
namespace NT
def op : NT → Int | .mk o _ _ _ _ _ => o
def ins : NT → List Int | .mk _ i _ _ _ _ => i
def k : NT → Int | .mk _ _ k _ _ _ => k
def a : NT → Int | .mk _ _ _ a _ _ => a
def A : NT → Int | .mk _ _ _ _ A _ => A
def body : NT → List NT | .mk _ _ _ _ _ b => b
end NT
structure NC where
  op : Int
  qi : Option SL
  k : Int
  a : Int
  A : Int
  qb : Option SL
instance : Inhabited NC := ⟨⟨0, none, 0, 0, 0, none⟩⟩
def NC.cs (c : NC) : List AV := [.int .i64 c.op, .sl c.qi, .int .i64 c.k, .int .i64 c.a, .int .i64 c.A, .sl c.qb]
def nodeE : Enc NC := ⟨6, NC.cs, fun _ => rfl, by omega, fun _ => rfl⟩
inductive NodeR (h : Heap) : NC → NT → Prop where
  | mk {op k a A : Int} {qi qb : Option SL} {ins : List Int} {body : List NT} {L : List NC} (hi : HasL intE h qi ins) (hb : HasL nodeE h qb L) (hl : L.length = body.length)
      (he : ∀ (i : Nat) (c : NC) (n : NT), L[i]? = some c → body[i]? = some n → NodeR h c n) : NodeR h ⟨op, qi, k, a, A, qb⟩ (.mk op ins k a A body)
def NodesR (h : Heap) (q : Option SL) (l : List NT) : Prop := ∃ L : List NC, HasL nodeE h q L ∧ L.length = l.length ∧ ∀ (i : Nat) (c : NC) (n : NT), L[i]? = some c → l[i]? = some n → NodeR h c n
theorem NodeR.mono {h h' : Heap} (x : Ext h h') {c : NC} {n : NT} (r : NodeR h c n) : NodeR h' c n := by
  induction r with
  | mk hi hb hl he ih => exact .mk (hi.mono x) (hb.mono x) hl ih
theorem NodesR.mono {h h' : Heap} {q : Option SL} {l : List NT} (x : Ext h h') (r : NodesR h q l) : NodesR h' q l := by
  obtain ⟨L, h1, h2, h3⟩ := r
  exact ⟨L, h1.mono x, h2, fun i c n hc hn => (h3 i c n hc hn).mono x⟩
theorem NodesR.len {h : Heap} {q : Option SL} {l : List NT} (r : NodesR h q l) : slLen q = l.length := by
  obtain ⟨L, h1, h2, _⟩ := r
  rw [h1.len, h2]
theorem NodeR.ins {h : Heap} {c : NC} {n : NT} (r : NodeR h c n) : HasL intE h c.qi n.ins := by
  cases r with | mk hi hb hl he => exact hi
theorem NodeR.body {h : Heap} {c : NC} {n : NT} (r : NodeR h c n) : NodesR h c.qb n.body := by
  cases r with | mk hi hb hl he => exact ⟨_, hb, hl, he⟩
theorem NodeR.same {h : Heap} {c : NC} {n : NT} (r : NodeR h c n) : c.op = n.op ∧ c.k = n.k ∧ c.a = n.a ∧ c.A = n.A := by
  cases r with | mk hi hb hl he => exact ⟨rfl, rfl, rfl, rfl⟩
theorem NodesR.idx {h : Heap} {q : Option SL} {l : List NT} (r : NodesR h q l) {i : Nat} (hi : i < l.length) {ix : Int} (hix : ix = i) {K : PA → Prop} (hK : ∀ p c n, l[i]? = some n → cellsAt h p 6 = some c.cs → NodeR h c n → K p) : vIdx q ix 6 K := by
  obtain ⟨L, h1, h2, h3⟩ := r
  refine h1.idx (E := nodeE) (by omega) (by omega) fun p c hc hcx => ?_
  have e : ix.toNat = i := by omega
  rw [e] at hc
  have hn : l[i]? = some l[i] := List.getElem?_eq_getElem hi
  exact hK p c _ hn hcx (h3 i c _ hc hn)
theorem NodesR.idx6 {h : Heap} {q : Option SL} {l : List NT} (r : NodesR h q l) {i : Nat} (hi : i < l.length) {ix : Int} (hix : ix = i) {K : PA → Int → Option SL → Int → Int → Int → Option SL → Prop}
    (hK : ∀ p c n, l[i]? = some n → NodeR h c n → K p c.op c.qi c.k c.a c.A c.qb) :
    vIdx q ix 6 fun p7 => ∃ n8 : Int, ∃ q9 : Option SL, ∃ n10 n11 n12 : Int, ∃ q13 : Option SL, cellsAt h p7 6 = some [.int .i64 n8, .sl q9, .int .i64 n10, .int .i64 n11, .int .i64 n12, .sl q13] ∧ K p7 n8 q9 n10 n11 n12 q13 :=
  r.idx hi hix fun p c n hn hc hr => ⟨_, _, _, _, _, _, hc, hK p c n hn hr⟩
section
variable {H : Type} {enc : TypeId × Value → H} {W : World}
theorem intn_in (n : Nat) (cs' : List Value) (y : DataW H × List MemPlace) (h : DataW.trod enc Tryz.prog W 0 (fun _ => true) true n 3 cs' = some y) (hl : cs'.length = intE.sz) : ∃ a, ∀ μ, relL μ (intE.f a) cs' := by
  match cs', hl with
  | [c0], _ =>
    obtain ⟨a, e0, _, _⟩ := DataW.trod_int Tryz.underlying3 h
    simp at e0
    subst e0
    exact ⟨a, fun μ => ⟨_, _, rfl, rfl, rfl⟩⟩
set_option maxRecDepth 100000 in
theorem node_tree : ∀ (m : Nat) (n : Nat) (cs' : List Value) (y : DataW H × List MemPlace), SizeOf.sizeOf y.1 ≤ m → DataW.trod enc Tryz.prog W 0 (fun _ => true) true n 75 cs' = some y → cs'.length = 6 → ∀ (μ : Ren) (hp : Heap), HRel μ hp W → ReadOnly hp → ∀ (b0 : Nat) (c0 : List AV) (rw0 : Bool), hp[b0]? = some (.cells c0 rw0) →
      ∃ (l1 : Ren) (bs : Heap) (c : NC) (t : NT), HRel (μ ++ l1) (hp ++ bs) W ∧ ReadOnly (hp ++ bs) ∧ relL (μ ++ l1) (nodeE.f c) cs' ∧ NodeR (hp ++ bs) c t := by
  intro m
  induction m with
  | zero =>
    intro n cs' y hy
    exfalso
    cases hd : y.1 <;> rw [hd] at hy <;> simp at hy
  | succ m ih =>
    intro n cs' y hy h hl μ hp HH ro b0 c0 rw0 hb0
    obtain ⟨xs, n', _, rfl, _, hlen, hf⟩ := DataW.trod_struct Tryz.underlying75 h
    match cs', hl with
    | [v0, v1, v2, v3, v4, v5], _ =>
    match xs, hlen with
    | [y0, y1, y2, y3, y4], _ =>
      have h0 : DataW.trod enc Tryz.prog W 0 (fun _ => true) true n' 3 [v0] = some y0 := hf 0 _ rfl
      have h1 : DataW.trod enc Tryz.prog W 0 (fun _ => true) true n' 22 [v1] = some y1 := hf 1 _ rfl
      have h2 : DataW.trod enc Tryz.prog W 0 (fun _ => true) true n' 73 [v2, v3] = some y2 := hf 2 _ rfl
      have h3 : DataW.trod enc Tryz.prog W 0 (fun _ => true) true n' 3 [v4] = some y3 := hf 3 _ rfl
      have h4 : DataW.trod enc Tryz.prog W 0 (fun _ => true) true n' 26 [v5] = some y4 := hf 4 _ rfl
      obtain ⟨op, e0, _, _⟩ := DataW.trod_int Tryz.underlying3 h0
      obtain ⟨A, e3, _, _⟩ := DataW.trod_int Tryz.underlying3 h3
      obtain ⟨z0, z1, n2, _, _, g0, g1⟩ := trod_struct2 Tryz.underlying73 h2
      have g0 : DataW.trod enc Tryz.prog W 0 (fun _ => true) true n2 3 [v2] = some z0 := g0
      have g1 : DataW.trod enc Tryz.prog W 0 (fun _ => true) true n2 3 [v3] = some z1 := g1
      obtain ⟨k, e1, _, _⟩ := DataW.trod_int Tryz.underlying3 g0
      obtain ⟨a, e2, _, _⟩ := DataW.trod_int Tryz.underlying3 g1
      simp at e0 e1 e2 e3
      subst e0 e1 e2 e3
      obtain ⟨l1, bs1, qi, ins, i1, i2, i3, i4⟩ := slice_in0 intE Tryz.underlying22 (by kernel_rfl) intn_in h1 HH ro hb0
      have hb1 : (hp ++ bs1)[b0]? = some (.cells c0 rw0) := by rw [List.getElem?_append_left (lt_of_get hb0)]; exact hb0
      have hs4 : SizeOf.sizeOf y4.1 < SizeOf.sizeOf (DataW.agg [y0.1, y1.1, y2.1, y3.1, y4.1]) := sizeOf_agg (by simp)
      have hy : SizeOf.sizeOf (DataW.agg [y0.1, y1.1, y2.1, y3.1, y4.1]) ≤ m + 1 := hy
      obtain ⟨l2, bs2, qb, L, l, j1, j2, j3, j4, j5, j6⟩ := nested_in0 nodeE NodeR (fun x r => r.mono x) Tryz.underlying26 (by kernel_rfl)
        (fun n cs' y hs => ih n cs' y (by omega)) h4 i1 i2 hb1
      have e1 : μ ++ l1 ++ l2 = μ ++ (l1 ++ l2) := List.append_assoc _ _ _
      have e2 : hp ++ bs1 ++ bs2 = hp ++ (bs1 ++ bs2) := List.append_assoc _ _ _
      refine ⟨l1 ++ l2, bs1 ++ bs2, ⟨op, qi, k, a, A, qb⟩, .mk op ins k a A l, by rw [← e1, ← e2]; exact j1, by rw [← e2]; exact j2, ?_, ?_⟩
      · rw [← e1]
        exact ⟨_, _, rfl, rfl, _, _, rfl, AV.rel.mono (Ren.le_append _ _) _ _ i3, _, _, rfl, rfl, _, _, rfl, rfl, _, _, rfl, rfl, _, _, rfl, j3, rfl⟩
      · rw [← e2]
        exact .mk (i4.mono (Ext.app _ _)) j4 j5 j6
set_option maxRecDepth 100000 in
theorem graph_in {v : Value} {r : Reach} {base : Nat} {d : DataW H} {p : List MemPlace} (hv : Value.okWide Tryz.prog W r base 28 v) (h : DataW.Trod enc Tryz.prog W 0 (fun _ => true) true 28 v d p) {μ : Ren} {hp : Heap} (HH : HRel μ hp W) (ro : ReadOnly hp) :
    ∃ (l1 : Ren) (bs : Heap) (q : Option SL) (out : Int) (l : List NT), HRel (μ ++ l1) (hp ++ bs) W ∧ ReadOnly (hp ++ bs) ∧ AV.rel (μ ++ l1) (.agg [.sl q, .int .i64 out]) v ∧ NodesR (hp ++ bs) q l := by
  obtain ⟨cs, rfl, hl, hc⟩ := row_cells (ts := [26, 3]) Tryz.underlying28 (.inl ⟨_, rfl⟩) hv (by kernel_rfl) (by kernel_rfl)
  obtain ⟨fuel, hf⟩ := h
  match cs, hl with
  | [v0, v1], _ =>
    obtain ⟨x0, gx, hv0⟩ := hc 0 26 rfl
    simp at gx
    subst gx
    obtain ⟨y0, y1, n', _, _, h0, h1⟩ := trod_struct2 Tryz.underlying28 hf
    have h0 : DataW.trod enc Tryz.prog W 0 (fun _ => true) true n' 26 [v0] = some y0 := h0
    have h1 : DataW.trod enc Tryz.prog W 0 (fun _ => true) true n' 3 [v1] = some y1 := h1
    obtain ⟨out, e1, _, _⟩ := DataW.trod_int Tryz.underlying3 h1
    simp at e1
    subst e1
    rcases cell_slice Tryz.underlying26 hv0 with rfl | ⟨b, o, len, cap, rfl, hlc, hbl⟩
    · exact ⟨[], [], none, out, [], by simpa using HH, by simpa using ro, ⟨_, rfl, _, _, rfl, rfl, _, _, rfl, rfl, rfl⟩, [], rfl, rfl, by simp⟩
    · obtain ⟨hmax, C, tt, fz, hb⟩ := cell_slice_max Tryz.underlying26 hv0
      simp only at hb
      have H0 := HH.addRO ro (e := ⟨b, 0, C.size⟩) (B := .cells [] false) rfl hbl ⟨C, tt, fz, hb, by simp, by simp, rfl, by simp, by simp⟩
      obtain ⟨l2, bs2, qb, L, l, j1, j2, j3, j4, j5, j6⟩ := nested_in0 nodeE NodeR (fun x r => r.mono x) Tryz.underlying26 (by kernel_rfl)
        (fun n cs' y hs => node_tree _ n cs' y (Nat.le_refl _)) h0 H0 (ro.add (B := .cells [] false) rfl) (b0 := hp.length) (c0 := []) (rw0 := false) (by simp)
      have e1 : μ ++ [(⟨b, 0, C.size⟩ : ME)] ++ l2 = μ ++ ([⟨b, 0, C.size⟩] ++ l2) := List.append_assoc _ _ _
      have e2 : hp ++ [Blk.cells [] false] ++ bs2 = hp ++ ([.cells [] false] ++ bs2) := List.append_assoc _ _ _
      refine ⟨[⟨b, 0, C.size⟩] ++ l2, [.cells [] false] ++ bs2, qb, out, l, by rw [← e1, ← e2]; exact j1, by rw [← e2]; exact j2, ?_, by rw [← e2]; exact ⟨L, j4, j5, j6⟩⟩
      rw [← e1]
      exact ⟨_, rfl, _, _, rfl, j3, _, _, rfl, rfl, rfl⟩
end
end Go.Proofs.YtjackggnnjdhmaaGreatDoor
