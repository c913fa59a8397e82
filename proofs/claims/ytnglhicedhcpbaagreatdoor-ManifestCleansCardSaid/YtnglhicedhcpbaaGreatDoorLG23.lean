import Derived.Test.YtnglhicedhcpbaaGreatDoorLG10
import Derived.Test.YtnglhicedhcpbaaGreatDoorLG12
import Derived.Test.YtnglhicedhcpbaaGreatDoorLG17
import Derived.Test.YtnglhicedhcpbaaGreatDoorLG19
import Derived.Test.YtnglhicedhcpbaaGreatDoorLG22
namespace Go.Proofs.YtnglhicedhcpbaaGreatDoor
open Go.Ab
open Go.Num hiding Bs snoc_ind
open Go.Page hiding Bs get
set_option linter.unusedVariables false
set_option linter.unusedSimpArgs false
section
variable {h : Heap} {Q : AHp}
theorem zP6 {s : SL} {b : Bs} {lo n : Nat} (H : HasL byE h (some s) b) (hn : lo + n <= b.length) : HasL byE h (some ⟨s.b, s.o + lo, n, n, 0⟩) ((b.drop lo).take n) := by
  obtain ⟨a1, a2, a3, a4⟩ := H
  have hl : ((b.drop lo).take n).length = n := by simp; omega
  refine ⟨hl.symm, Nat.le_refl _, .inl rfl, ?_⟩
  have := zW (k := lo * byE.sz) (m := n * byE.sz) a4 (by rw [<- Nat.add_mul]; exact Nat.mul_le_mul_right _ hn)
  rw [hl]
  have e : byE.sz = 1 := rfl
  rw [Enc.all_drop, Enc.all_take] at this
  rw [e, Nat.mul_one] at this
  exact this
theorem zNP {a : Nat} {s : SL} {k i : Nat} {h' : Heap} {q' : OSl} (ha : h'[a]? = some (.cells (Chk.partsV s.b s.o s.len 42 k) true)) (hi : i < k) :
    zA h' ⟨a, 0 + i * 1⟩ 1 = some [Chk.partV s.b s.o s.len 42 i] := by
  rw [zQ (C := Chk.partsV s.b s.o s.len 42 k) (rw' := true) ha (by simp [Chk.partsV]; omega)]
  unfold Chk.partsV
  have hg : ((List.range k).map (Chk.partV s.b s.o s.len 42))[0 + i * 1]? = some (Chk.partV s.b s.o s.len 42 i) := by rw [show 0 + i * 1 = i by omega, List.getElem?_map, List.getElem?_range hi]; rfl
  rw [List.take_one, List.head?_drop, hg]; rfl
theorem row_at {tag i : Nat} {b : Bs} (hi : i < (row tag b).length) : (row tag b)[i]? = some (put (tag + i) ((if i + 1 = (row tag b).length then 0 else 1) :: ((b.drop (42 * i)).take 42))) := by
  have h1 := List.getElem?_eq_getElem hi
  have := (vR b.length tag b (Nat.le_refl _) i _ h1).1
  rw [h1]; exact congrArg some this
theorem cat2r {q1 q2 : OSl} {a b : Bs} {h18 : Heap} {K : AHp} (A : HasL byE h18 q1 a) (B : HasL byE h18 q2 b) (hT : a.length + b.length <= 100000) (hK : ∀ q' h', New byE h18 h' q' (a ++ b) -> K (.sl q') h') :
    PNew [.sl q1, .sl q2] true h18 fun a30 h31 => AC Tryz.prog 239 [.sl (some ⟨a30, 0, 2, 2, 0⟩)] h31 K := by
  unfold PNew
  have hx : Ext h18 (h18 ++ [Blk.cells [.sl q1, .sl q2] true]) := .app _ _
  refine t239 (qs := [q1, q2]) (ls := [a, b]) (HasL.new (E := slE) (l := [q1, q2]) (n := 2) rfl rfl) rfl ?_ (by simpa using hT) (by simp) fun q12 h11 N2 => ?_
  · intro i s l' h1 h2
    match i with
    | 0 => cases h1; cases h2; exact A.mono hx
    | 1 => cases h1; cases h2; exact B.mono hx
    | i + 2 => simp at h1
  · exact hK _ _ (by simpa using N2.of hx)
theorem k189 {tag : Nat} {q : OSl} {b : Bs} (L : Laid h) (H : HasL byE h q b) (h1 : 1 <= tag) (h2 : tag + b.length <= kC) (b1 : 1 <= b.length) (b2 : b.length <= 65536) (hQ : ∀ q' qs h', LL byE h h' q' qs (row tag b) -> Q (.tup [.sl q', .int .i64 0]) h') :
    AC Tryz.prog 189 [.int .i64 (tag : Nat), .sl q] h Q := ac189 (by
  unfold vc189
  have hlen := H.len
  have hrl := zBX b.length tag b (Nat.le_refl _)
  generalize hR : row tag b = R at *
  simp only [kC] at h2
  refine k237 ⟨_, rfl, zB (fun g => ?_) (fun _ => ?_)⟩
  · simp only [Bool.not_eq_true', decide_eq_false_iff_not, kC] at g
    exact absurd ⟨h1, by omega⟩ g
  rw [hlen]
  refine zB (fun g => ?_) (fun _ => ?_)
  · replace g := of_decide_eq_true g
    exfalso
    rw [zF (n := ((b.length : Nat) : Int) + 42) ⟨by omega, by omega⟩, zF (n := ((b.length : Nat) : Int) + 42 - 1) ⟨by omega, by omega⟩] at g
    have e1 : Int.tdiv (((b.length : Nat) : Int) + 42 - 1) 42 = (((b.length + 41) / 42 : Nat) : Int) := by
      rw [show ((b.length : Nat) : Int) + 42 - 1 = ((b.length + 41 : Nat) : Int) by omega]
      exact (Int.ofNat_tdiv _ _).symm
    rw [e1, zF (n := (((b.length + 41) / 42 : Nat) : Int)) ⟨by omega, by omega⟩] at g
    have e2 : zLS 1 (((b.length + 41) / 42 : Nat) : Int) = ((max 1 ((b.length + 41) / 42) : Nat) : Int) := by unfold zLS; split <;> omega
    rw [e2, zF (n := 4611686018427387903 - ((max 1 ((b.length + 41) / 42) : Nat) : Int)) ⟨by omega, by omega⟩, zF ⟨by omega, by omega⟩] at g
    omega
  refine zB (fun g => ?_) (fun _ => ?_)
  · replace g := of_decide_eq_true g; omega
  cases hq : q with
  | none => rw [hq] at hlen; simp [zJ] at hlen; omega
  | some s =>
  subst hq
  have hsl : s.len = b.length := by simpa [zJ] using hlen
  refine ac248 ?_
  unfold vc248 PNew
  refine ⟨42, by simp [zA], zB (fun g => by simp at g) (fun _ => ?_)⟩
  refine ⟨_, rfl, rfl, ?_⟩
  have x6 : Ext h ((h ++ [Blk.cells [.sl (some s)] true]) ++ [Blk.cells [.int .i64 42] true]) := (Ext.app _ _).trans (.app _ _)
  refine Chk.collect_ac (s := s) (c := 42) (ra := true) (rd := true) (by omega) (by omega) (by simp) (by simp) (by omega) (by omega) fun k k1 k2 k3 => ⟨_, rfl, ?_⟩
  rw [hsl] at k1 k2
  have hk : k = R.length := by
    have : (k - 1) * 42 < b.length := k2
    rw [hrl]; omega
  refine zB (fun g => ?_) (fun _ => ?_)
  · simp [zJ] at g; omega
  generalize hh10 : ((h ++ [Blk.cells [.sl (some s)] true]) ++ [Blk.cells [.int .i64 42] true]) ++ [Blk.cells (Chk.partsV s.b s.o s.len 42 k) true] = h10
  have hlh : ((h ++ [Blk.cells [.sl (some s)] true]) ++ [Blk.cells [.int .i64 42] true]).length = h.length + 2 := by simp
  have x10 : Ext h h10 := by rw [<- hh10]; exact x6.trans (.app _ _)
  have at10 : h10[h.length + 2]? = some (.cells (Chk.partsV s.b s.o s.len 42 k) true) := by rw [<- hh10, <- hlh]; simp
  rw [hlh]
  refine ⟨fun xs h18 => ∃ (q5 : OSl) (qs : List (OSl)) (i : Nat), xs = [.sl q5, .int .i64 i] /\ i <= k /\ Ext h10 h18 /\ LL byE h10 h18 q5 qs (R.take i), fun xs _ => match xs with | [_, .int _ i] => (k - i).toNat | _ => 0, ⟨none, [], 0, rfl, by omega, .refl _, by simpa using LL.nil h10⟩, ?_⟩
  rintro q51 n52 h55 ⟨q5, qs, i, hx, hi, x55, I⟩
  simp only [List.cons.injEq, AV.int.injEq, AV.sl.injEq, true_and, and_true] at hx
  obtain ⟨rfl, rfl⟩ := hx
  have hslk : (zJ (some (⟨h.length + 2, 0, k, k, 1⟩ : SL)) : Int) = ((k : Nat) : Int) := rfl
  rw [hslk]
  refine zB (fun g => ?_) (fun g => ?_)
  · replace g := of_decide_eq_true g
    have hik : i < k := by omega
    refine ⟨by omega, by simp only; omega, ?_⟩
    rw [show ((i : Nat) : Int).toNat = i by omega]
    have hc := zNP (q' := none) (x55 _ _ at10) hik
    have hp : HasL byE h55 (some ⟨s.b, s.o + i * 42, min 42 (s.len - i * 42), min 42 (s.len - i * 42), 0⟩) ((b.drop (42 * i)).take 42) := by
      have hb : i * 42 <= (k - 1) * 42 := Nat.mul_le_mul_right _ (by omega)
      have h0 := zP6 (lo := i * 42) (n := min 42 (s.len - i * 42)) (H.mono (x10.trans x55)) (by rw [hsl]; omega)
      have : (b.drop (i * 42)).take (min 42 (s.len - i * 42)) = (b.drop (42 * i)).take 42 := by
        rw [Nat.mul_comm 42 i, hsl]
        rcases Nat.le_total 42 (b.length - i * 42) with h3 | h3
        · rw [Nat.min_eq_left h3]
        · rw [Nat.min_eq_right h3, List.take_of_length_le (by simp), List.take_of_length_le (by simp; omega)]
      rwa [this] at h0
    refine ⟨some ⟨s.b, s.o + i * 42, min 42 (s.len - i * 42), min 42 (s.len - i * 42), 0⟩, hc, ?_⟩
    have hpl : ((b.drop (42 * i)).take 42).length <= 42 := by simp; omega
    have hiR : i < R.length := by omega
    have hpage := row_at (tag := tag) (b := b) (i := i) (by rw [hR]; exact hiR)
    rw [hR] at hpage
    have e3 : zE .i64 (((k : Nat) : Int) - 1) = ((k - 1 : Nat) : Int) := by rw [zF ⟨by omega, by omega⟩]; omega
    have e4 : zE .i64 (((tag : Nat) : Int) + ((i : Nat) : Int)) = ((tag + i : Nat) : Int) := by rw [zF ⟨by omega, by omega⟩]; omega
    rw [e3, e4, zF (n := ((i : Nat) : Int) + 1) ⟨by omega, by omega⟩]
    have fin : ∀ (m : UInt8), (m = if i + 1 = R.length then 0 else 1) ->
       PNew [.int .u8 (m.toNat : Nat)] true h55 fun a58 h59 =>
       PNew [.sl (some ⟨a58, 0, 1, 1, 0⟩), .sl (some ⟨s.b, s.o + i * 42, min 42 (s.len - i * 42), min 42 (s.len - i * 42), 0⟩)] true h59 fun a60 h61 =>
       AC Tryz.prog 239 [.sl (some ⟨a60, 0, 2, 2, 0⟩)] h61 fun v62 h63 => ∃ q64 : OSl, v62 = .sl q64 /\
       AC Tryz.prog 169 [.int .i64 ((tag + i : Nat) : Int), .sl q64] h63 fun v65 h66 => ∃ q67 : OSl, ∃ n68 : Int, v65 = .tup [.sl q67, .int .i64 n68] /\
       PNew [.sl q67] true h66 fun a69 h70 =>
       zC 1 24 q51 (some ⟨a69, 0, 1, 1, 0⟩) h70 fun q71 h72 =>
       (True) /\ (∃ (q5 : OSl) (qs : List (OSl)) (i' : Nat), [AV.sl q71, .int .i64 (((i : Nat) : Int) + 1)] = [.sl q5, .int .i64 i'] /\ i' <= k /\ Ext h10 h72 /\ LL byE h10 h72 q5 qs (R.take i')) /\ (((k : Nat) : Int) - (((i : Nat) : Int) + 1)).toNat < (((k : Nat) : Int) - ((i : Nat) : Int)).toNat := by
      intro m hm
      unfold PNew
      have hx1 : Ext h55 (h55 ++ [Blk.cells [.int .u8 (m.toNat : Nat)] true]) := .app _ _
      have A1 : HasL byE (h55 ++ [Blk.cells [.int .u8 (m.toNat : Nat)] true]) (some ⟨h55.length, 0, 1, 1, 0⟩) [m] := HasL.new (E := byE) (l := [m]) rfl rfl
      refine cat2r A1 (hp.mono hx1) (by simp; omega) fun q64 h63 N64 => ⟨q64, rfl, ?_⟩
      have x63 : Ext h55 h63 := hx1.trans N64.1
      refine k169 ((L.ext (x10.trans x55)).ext x63) N64.hasL (by omega) (by simp only [kC]; omega) (by simp; omega) fun q67 h66 N67 => ⟨q67, _, rfl, ?_⟩
      have x66 : Ext h55 h66 := x63.trans N67.1
      have hb : ([m] ++ (b.drop (42 * i)).take 42) = (if i + 1 = R.length then 0 else 1) :: (b.drop (42 * i)).take 42 := by rw [hm]; rfl
      refine (I.grow x66).push (by' := 24) (s := q67) N67.hasL (fun t ht => ?_) (by have := I.len; rw [List.length_take] at this; omega) fun out' h72 L72 K72 l72 _ => ?_
      · have h63l := N67.2.2 t ht
        have := x55.len; have := x63.len
        refine ⟨by omega, fun o ho => ?_⟩
        have := HasL.live I.oa.hasL o ho
        omega
      · have L73 : LL byE h10 h72 out' (qs ++ [q67]) (R.take (i + 1)) := by
          rw [List.take_add_one, hpage, <- hb]
          exact L72
        exact ⟨trivial, ⟨out', _, i + 1, by simp, by omega, L72.ext, L73⟩, by omega⟩
    refine zB (fun g2 => ?_) (fun g2 => ?_)
    · have g2 : (i : Int) = ((k - 1 : Nat) : Int) := by simpa using g2
      exact fin 0 (by rw [if_pos (by omega)])
    · have g2 : ¬ (i : Int) = ((k - 1 : Nat) : Int) := by simpa using g2
      exact fin 1 (by rw [if_neg (by omega)])
  · replace g := of_decide_eq_false g
    have : i = k := by omega
    subst this
    rw [hk, List.take_length] at I
    exact hQ _ _ _ (I.back x10))
end
theorem zLA {s : Bs} {l : List Bs} {tag : Nat} : vP (s :: l) tag = match Go.Page.get s tag with
    | some (0 :: x) => some (x, 1)
    | some (1 :: x) => if x.length = 42 then (vP l (tag + 1)).map fun r => (x ++ r.1, r.2 + 1) else none
    | _ => none := by
  rw [vP]
  rfl
theorem drop_at {α : Type} {l : List α} {i : Nat} {x : α} (h : l[i]? = some x) : l.drop i = x :: l.drop (i + 1) := by
  have hi := zD h
  rw [List.drop_eq_getElem_cons hi]
  rw [List.getElem?_eq_getElem hi] at h
  rw [Option.some.inj h]
section
variable {h : Heap} {Q : AHp}
theorem k175 {tag : Nat} {q : OSl} {l : List Bs} (L : Laid h) (H : Lls byE h q l) (hs : ∀ s ∈ l, s.length <= 100000) (h1 : 1 <= tag) (h2 : tag + l.length <= kC) (hl : l.length <= 100000)
    (h0 : vP l tag = none -> ∀ (v : Int) h', v ≠ 0 -> Ext h h' -> Q (.tup [.sl none, .int .i64 0, .int .i64 v]) h')
    (hQ : ∀ b n q' h', vP l tag = some (b, n) -> New byE h h' q' b -> Q (.tup [.sl q', .int .i64 (n : Nat), .int .i64 0]) h') : AC Tryz.prog 175 [.sl q, .int .i64 (tag : Nat)] h Q := ac175 (by
  unfold vc175
  have hlen := H.len
  simp only [kC] at h2
  rw [hlen]
  refine ⟨fun xs h7 => ∃ (q3 : OSl) (acc : Bs) (i : Nat), xs = [.sl q3, .int .i64 i] /\ i <= l.length /\ New byE h h7 q3 acc /\ acc.length <= 42 * i /\ vP l tag = (vP (l.drop i) (tag + i)).map fun r => (acc ++ r.1, r.2 + i), fun xs _ => match xs with | [_, .int _ i] => (l.length - i).toNat | _ => 0, ⟨none, [], 0, rfl, by omega, New.none, by simp, ?_⟩, ?_⟩
  · simp
  rintro q3 n4 h7 ⟨q3', acc, i, hx, hi, N, ha, hu⟩
  simp only [List.cons.injEq, AV.int.injEq, AV.sl.injEq, true_and, and_true] at hx
  obtain ⟨rfl, rfl⟩ := hx
  refine zB (fun g => ?_) (fun g => ?_)
  · replace g := of_decide_eq_true g
    have hil : i < l.length := by omega
    refine Lls.idx (H.mono N.1) (by omega) (by omega) fun p s b hb hc hsb => ⟨s, hc, ?_⟩
    have hb : l[i]? = some b := by simpa using hb
    have e4 : zE .i64 (((tag : Nat) : Int) + ((i : Nat) : Int)) = ((tag + i : Nat) : Int) := by rw [zF ⟨by omega, by omega⟩]; omega
    rw [e4, drop_at hb, zLA] at *
    refine k223 (L.ext N.1) hsb (hs b (List.mem_of_getElem? hb)) (by omega) (by simp only [kC]; omega) (fun hg e h11 he x11 => ⟨_, _, rfl, zB (fun _ => h0 (by rw [hu, hg]; rfl) e h11 he (N.1.trans x11)) (fun g2 => by simp at g2; exact absurd g2 he)⟩) fun x q12 h11 hg x11 H12 hq12 => ⟨_, _, rfl, zB (fun g2 => by simp at g2) (fun _ => ?_)⟩
    rw [hg] at hu
    have hx43 := (zD0.1 hg).1
    have l12 := H12.len
    rw [l12]
    have N11 := N.ext x11
    cases x with
    | nil => exact zB (fun _ => h0 (by rw [hu]; rfl) _ _ (by omega) N11.1) (fun g2 => by simp at g2)
    | cons m x =>
    refine zB (fun g2 => by simp at g2; omega) (fun _ => ?_)
    refine HasL.idx (E := byE) H12 (by omega) (by simp) fun p2 y hy hc2 => ⟨_, hc2, ?_⟩
    have hy : m = y := by simpa using hy
    subst hy
    refine zB (fun g3 => ?_) (fun g3 => ?_)
    · replace g3 := of_decide_eq_true g3
      refine h0 ?_ _ _ (by omega) N11.1
      rw [hu]
      split
      · rename_i he; cases he; simp at g3
      · rename_i he; cases he; simp at g3
      · rfl
    replace g3 := of_decide_eq_false g3
    refine HasL.idx (E := byE) H12 (by omega) (by simp) fun p3 y hy hc3 => ⟨_, hc3, ?_⟩
    have hy' : m = y := by simpa using hy
    subst hy'
    have tailK : ∀ {K : OSl -> Heap -> Prop}, (∀ q19 h20, New byE h h20 q19 (acc ++ x) -> Ext h11 h20 ∨ True -> HasL byE h20 q12 (m :: x) -> K q19 h20) -> yC 1 q12 1 none none fun q18 => zC 1 1 q3 q18 h11 K := fun {K} hK => by
      refine zNE (n := 1) H12 (by simp) fun q18 H18 => ?_
      simp only [List.drop_succ_cons, List.drop_zero] at H18
      refine Apd.append (E := byE) N11.2.1 H18 (by simp at hx43; omega) fun q19 h20 A20 K20 l20 hq20 => ?_
      have x20 : Ext h h20 := by
        intro b' B hB
        refine K20 _ _ (fun ⟨s', hs1, hs2⟩ => ?_) (N11.1 _ _ hB)
        have := N.2.2 s' hs1; have := zD hB; omega
      refine hK q19 h20 ⟨x20, A20, fun s' hs' => ?_⟩ (.inr trivial) (K20.hasL (fun t ht ⟨s', hs1, hs2⟩ => ?_) H12)
      · rcases hq20 s' hs' with h3 | ⟨s0, h3, h4⟩
        · have := N11.1.len; omega
        · rw [<- h4]; exact N.2.2 s0 h3
      · have h5 := hq12 t ht
        have h6 := HasL.live N.hasL s' hs1
        omega
    have back : ∀ {q19 : OSl} {h20 : Heap}, New byE h h20 q19 (acc ++ x) -> HasL byE h20 q12 (m :: x) -> (m.toNat = 0 -> Q (.tup [.sl q19, .int .i64 (zE .i64 ((i : Nat) + 1)), .int .i64 0]) h20) -> (m.toNat ≠ 0 -> (True) /\ (∃ (q3 : OSl) (acc : Bs) (i' : Nat), [AV.sl q19, .int .i64 (zE .i64 ((i : Nat) + 1))] = [.sl q3, .int .i64 i'] /\ i' <= l.length /\ New byE h h20 q3 acc /\ acc.length <= 42 * i' /\ vP l tag = (vP (l.drop i') (tag + i')).map fun r => (acc ++ r.1, r.2 + i')) /\ (((l.length : Nat) : Int) - zE .i64 ((i : Nat) + 1)).toNat < (((l.length : Nat) : Int) - ((i : Nat) : Int)).toNat) ->
        vIdx q12 0 1 fun p21 => ∃ n22 : Int, zA h20 p21 1 = some [.int .u8 n22] /\ vif (n22 == 0) (Q (.tup [.sl q19, .int .i64 (zE .i64 ((i : Nat) + 1)), .int .i64 0]) h20) ((True) /\ (∃ (q3 : OSl) (acc : Bs) (i' : Nat), [AV.sl q19, .int .i64 (zE .i64 ((i : Nat) + 1))] = [.sl q3, .int .i64 i'] /\ i' <= l.length /\ New byE h h20 q3 acc /\ acc.length <= 42 * i' /\ vP l tag = (vP (l.drop i') (tag + i')).map fun r => (acc ++ r.1, r.2 + i')) /\ (((l.length : Nat) : Int) - zE .i64 ((i : Nat) + 1)).toNat < (((l.length : Nat) : Int) - ((i : Nat) : Int)).toNat) := by
      intro q19 h20 N20 H20 hz hn
      refine HasL.idx (E := byE) H20 (by omega) (by simp) fun p2 z hz' hc2 => ⟨_, hc2, ?_⟩
      have : m = z := by simpa using hz'
      subst this
      refine zB (fun g5 => hz ?_) (fun g5 => hn ?_)
      · have : ((m.toNat : Nat) : Int) = 0 := by simpa using g5
        omega
      · intro h0; simp [h0] at g5
    have y0 : m.toNat = 0 -> m = 0 := fun h => UInt8.toNat_inj.1 (by rw [h]; rfl)
    have y1 : m.toNat = 1 -> m = 1 := fun h => UInt8.toNat_inj.1 (by rw [h]; rfl)
    have wi : zE .i64 (((i : Nat) : Int) + 1) = ((i + 1 : Nat) : Int) := by rw [zF ⟨by omega, by omega⟩]; omega
    have done0 : m.toNat = 0 -> ∀ {q19 : OSl} {h20 : Heap}, New byE h h20 q19 (acc ++ x) -> Q (.tup [.sl q19, .int .i64 (zE .i64 ((i : Nat) + 1)), .int .i64 0]) h20 := fun hy q19 h20 N20 => by
      rw [wi]
      refine hQ _ _ _ _ ?_ N20
      rw [hu, y0 hy]
      simp [Nat.add_comm]
    refine zB (fun g4 => ?_) (fun g4 => ?_)
    · have hy1 : m.toNat = 1 := by have : ((m.toNat : Nat) : Int) = 1 := by simpa using g4
                                   omega
      have hy := y1 hy1
      refine zB (fun g5 => ?_) (fun g5 => ?_)
      · replace g5 := of_decide_eq_true g5
        refine h0 ?_ _ _ (by omega) N11.1
        rw [hu, hy]
        simp only [List.length_cons] at g5
        simp only
        rw [if_neg (by omega)]; rfl
      · replace g5 := of_decide_eq_false g5
        simp only [List.length_cons] at g5 hx43
        refine tailK fun q19 h20 N20 _ H20 => back N20 H20 (fun h => done0 h N20) fun _ => ?_
        refine ⟨trivial, ⟨q19, acc ++ x, i + 1, by rw [wi], by omega, N20, by simp; omega, ?_⟩, by rw [wi]; omega⟩
        rw [hu, hy]
        simp only
        rw [if_pos (by omega), Option.map_map, show tag + (i + 1) = tag + i + 1 by omega]
        congr 1
        funext r
        simp only [Function.comp_def, List.append_assoc]
        congr 1; omega
    · have hy1 : m.toNat ≠ 1 := fun h => by rw [h] at g4; simp at g4
      have hy0 : m.toNat = 0 := by omega
      exact tailK fun q19 h20 N20 _ H20 => back N20 H20 (fun h => done0 h N20) fun h => absurd hy0 h
  · replace g := of_decide_eq_false g
    have : i = l.length := by omega
    subst this
    refine h0 ?_ _ _ (by omega) N.1
    rw [hu, List.drop_length]
    rfl)
end
end Go.Proofs.YtnglhicedhcpbaaGreatDoor

namespace Go.Proofs.YtnglhicedhcpbaaGreatDoor
open Go.Ab
open Go.Num hiding Bs snoc_ind
open Go.Page hiding Bs get
set_option linter.unusedVariables false
set_option linter.unusedSimpArgs false
section
variable {h : Heap} {Q : AHp}
theorem zNJ {tag : Nat} {b : Bs} (hb : b.length <= 42) : row tag b = [put tag (0 :: b)] := by rw [row, dif_pos hb]
theorem zP0 {tag : Nat} {b : Bs} (hb : ¬ b.length <= 42) : row tag b = put tag (1 :: b.take 42) :: row (tag + 1) (b.drop 42) := by rw [row, dif_neg hb]
theorem k255 {tag : Nat} {q : OSl} {b : Bs} (H : HasL byE h q b) (h2 : tag + b.length <= 1000000000) (b2 : b.length <= 100000) (hQ : ∀ q' qs h', LL byE h h' q' qs (row tag b) -> Q (.sl q') h') :
  AC Tryz.prog 255 [.int .i64 (tag : Nat), .sl q] h Q := ac255 (by
 unfold vc255
 refine ⟨fun xs h8 => ∃ (q4 q5 : OSl) (qs : List (OSl)) (don : List Bs) (rest : Bs), xs = [.int .i64 ((tag + don.length : Nat) : Int), .sl q4, .sl q5] /\ LL byE h h8 q5 qs don /\ HasL byE h q4 rest /\ row tag b = don ++ row (tag + don.length) rest /\ don.length + rest.length <= b.length, fun xs _ => match xs with | [_, .sl s, _] => zJ s | _ => 0, ⟨q, none, [], [], b, by simp, LL.nil h, H, by simp, by simp⟩, ?_⟩
 rintro n3 q4 q5 h8 ⟨q4', q5', qs, don, rest, hx, I, H4, hrow, hlen⟩
 simp only [List.cons.injEq, AV.int.injEq, AV.sl.injEq, true_and, and_true] at hx
 obtain ⟨rfl, rfl, rfl⟩ := hx
 have l4 := H4.len
 have lq := I.len
 rw [l4]
 unfold PNew
 have x0 : ∀ (m : UInt8), Ext h8 (h8 ++ [Blk.cells [.int .u8 (m.toNat : Nat)] true]) := fun m => .app _ _
 have N0 : ∀ (m : UInt8), New byE h8 (h8 ++ [Blk.cells [.int .u8 (m.toNat : Nat)] true]) (some ⟨h8.length, 0, 1, 1, 0⟩) [m] := fun m => New.mk1 rfl rfl
 have fresh : ∀ {q16 : OSl} {h13 h15 : Heap} {x : Bs}, Ext h8 h13 -> New byE h13 h15 q16 x -> ∀ t, q16 = some t -> h.length <= t.b /\ ∀ o, q5 = some o -> o.b ≠ t.b := fun x13 N15 t ht => by
  have h1 := N15.2.2 t ht
  have := x13.len; have := I.ext.len
  refine ⟨by omega, fun o ho => ?_⟩
  have := HasL.live I.oa.hasL o ho
  omega
 refine zB (fun g => ?_) (fun g => ?_)
 ·replace g := of_decide_eq_true g
  have hr : ¬ rest.length <= 42 := by omega
  refine zNF (n := 42) H4 (by omega) fun q11 H11 => ?_
  refine (N0 1).append (E := byE) (H11.mono (I.ext.trans (x0 1))) (by simp; omega) fun q12 h13 N13 => ?_
  refine k142 N13.hasL (by simp [M63]; omega) (by simp; omega) fun q16 h15 N15 => ⟨q16, rfl, ?_⟩
  refine (I.grow (N13.1.trans N15.1)).push (by' := 24) N15.hasL (fresh N13.1 N15) (by omega) fun q19 h20 L20 _ _ _ => ?_
  refine zNE (n := 42) H4 (by omega) fun q21 H21 => ?_
  have l21 := H21.len
  have e1 : zE .i64 (((tag + don.length : Nat) : Int) + 1) = ((tag + (don.length + 1) : Nat) : Int) := by rw [zF ⟨by omega, by omega⟩]; omega
  rw [zP0 hr] at hrow
  refine ⟨trivial, ⟨q21, q19, _, _, rest.drop 42, ?_, L20, H21, ?_, by simp; omega⟩, ?_⟩
  ·rw [e1]; simp
  ·rw [hrow, List.append_assoc, List.length_append, List.length_singleton, <- Nat.add_assoc]; rfl
  ·simp only [l4, l21]; simp; omega
 ·replace g := of_decide_eq_false g
  have hr : rest.length <= 42 := by omega
  refine (N0 0).append (E := byE) (H4.mono (I.ext.trans (x0 0))) (by simp; omega) fun q24 h25 N25 => ?_
  refine k142 N25.hasL (by simp [M63]; omega) (by simp; omega) fun q28 h27 N27 => ⟨q28, rfl, ?_⟩
  refine (I.grow (N25.1.trans N27.1)).push (by' := 24) N27.hasL (fresh N25.1 N27) (by omega) fun q31 h32 L32 _ _ _ => ?_
  rw [zNJ hr] at hrow
  refine hQ q31 (qs ++ [q28]) h32 ?_
  rw [hrow]
  exact L32)
end
end Go.Proofs.YtnglhicedhcpbaaGreatDoor
