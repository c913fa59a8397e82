/- FilesRenames answers yes for all numbers and every list of numbers. -/
import Derived.Test.YtceplmmmlindnaaEG20
import Derived.Test.YtceplmmmlindnaaEG21
namespace Go.Proofs.Ytceplmmmlindnaa
open Go.Ab
open Go.ChangeShapes Go.WideShapes Go.ChangeAt Go.RowKit
set_option linter.unusedVariables false
set_option linter.unusedSimpArgs false

section
variable {h h' : Heap} {ow ow' : Roles} {p m : Nat} {D : DS} {f f' : FA} {Q : AV → Heap → Prop}

def two (A B : FA) (l : List PD) : DS := ⟨[A, B], l, 16384, -1, false⟩
theorem two_deed {A B : FA} {l : List PD} : (two A B l).deed = (0, two A B l) := by simp [DS.deed, two]
theorem two_a {A B : FA} {l : List PD} (hA : A.name = [97]) : (two A B l).find [97] = some A := by simp [DS.find, two, hA]
theorem two_b {A B : FA} {l : List PD} (hA : A.name = [97]) (hB : B.name = [98]) : (two A B l).find [98] = some B := by simp [DS.find, two, hA, hB]
theorem app_a {A B : FA} {l : List PD} {s : Bs} (hA : A.name = [97]) (hne : A.b ≠ B.b) (hs : s.length = 64) (hu : A.now.length + B.now.length < 16384) : (two A B l).append [97] s = (0, two { A with now := A.now ++ [s] } B (l ++ [(A.b, A.now.length, s)])) := by
  unfold DS.append
  rw [if_neg (by omega), two_a hA, two_deed]
  simp only [two, Bool.false_eq_true, if_false]
  rw [if_neg (by simp [DS.used]; omega)]
  simp [upF, Ne.symm hne]
theorem app_b {A B : FA} {l : List PD} {s : Bs} (hA : A.name = [97]) (hB : B.name = [98]) (hne : A.b ≠ B.b) (hs : s.length = 64) (hu : A.now.length + B.now.length < 16384) : (two A B l).append [98] s = (0, two A { B with now := B.now ++ [s] } (l ++ [(B.b, B.now.length, s)])) := by
  unfold DS.append
  rw [if_neg (by omega), two_b hA hB, two_deed]
  simp only [two, Bool.false_eq_true, if_false]
  rw [if_neg (by simp [DS.used]; omega)]
  simp [upF, hne]
theorem sync_a {A B : FA} {l : List PD} (hA : A.name = [97]) (hne : A.b ≠ B.b) (hl : ∀ x ∈ l, x.1 = A.b) : (two A B l).sync [97] = (0, two (keepAll A l) B []) := by
  unfold DS.sync
  rw [two_a hA, two_deed]
  have hk := keepAll_b (f := A) l
  have hf : l.filter (notB A.b) = [] := List.filter_eq_nil_iff.2 fun x hx => by simp [notB, hl x hx]
  simp [two, upF, hk.1, Ne.symm hne, hf]
theorem rename_ab {A B : FA} {l l2 : List PD} (hA : A.name = [97]) (hB : B.name = [98]) (hne : A.b ≠ B.b) (hl : ∀ x ∈ l, x.1 = A.b) (hl2 : ∀ x ∈ l2, x.1 = B.b) : (two A B (l ++ l2)).rename [97] [98] = (0, ones { A with name := [98] } l) := by
  unfold DS.rename
  rw [two_a hA, two_b hA hB, two_deed]
  have h1 : l.filter (notB B.b) = l := List.filter_eq_self.2 fun x hx => by simp [notB, hl x hx, hne]
  have h2 : l2.filter (notB B.b) = [] := List.filter_eq_nil_iff.2 fun x hx => by simp [notB, hl2 x hx]
  simp [two, ones, mayN, reN, Ne.symm hne, hB, List.filter_append, h1, h2]
/-- What was kept reaches as far as what was pending. -/
theorem keepAll_safe {A : FA} : ∀ {l : List PD}, A.safe.length ≤ (keepAll A l).safe.length ∧ ∀ x ∈ l, x.1 = A.b → x.2.1 + 1 ≤ (keepAll A l).safe.length := by
  have key : ∀ (l : List PD) (g : FA), g.safe.length ≤ (l.foldl (fun g x => if x.1 = A.b then keepF g x.2.1 x.2.2 64 else g) g).safe.length ∧ ∀ x ∈ l, x.1 = A.b → x.2.1 + 1 ≤ (l.foldl (fun g x => if x.1 = A.b then keepF g x.2.1 x.2.2 64 else g) g).safe.length := by
    intro l
    induction l with
    | nil => intro g; exact ⟨Nat.le_refl _, by simp⟩
    | cons x l ih =>
      intro g
      simp only [List.foldl_cons]
      obtain ⟨k1, k2⟩ := ih (if x.1 = A.b then keepF g x.2.1 x.2.2 64 else g)
      have hk : ∀ g : FA, (keepF g x.2.1 x.2.2 64).safe.length = max g.safe.length (x.2.1 + 1) := by
        intro g; simp [keepF, padTo_len]
      by_cases hx : x.1 = A.b
      · simp only [hx, if_true, hk] at k1 k2 ⊢
        refine ⟨by omega, fun y hy hyb => ?_⟩
        rcases List.mem_cons.1 hy with rfl | hy
        · omega
        · exact k2 y hy hyb
      · simp only [hx, if_false] at k1 k2 ⊢
        refine ⟨k1, fun y hy hyb => ?_⟩
        rcases List.mem_cons.1 hy with rfl | hy
        · exact absurd hyb hx
        · exact k2 y hy hyb
  intro l
  exact key l A
theorem two_ne {A B : FA} {l : List PD} (R : DiskR h ow p (two A B l)) : A.b ≠ B.b := by
  obtain ⟨m, qp, es, cl, C⟩ := R
  have := C.blocks
  simpa [two] using this

theorem range_succ_map {β : Type} (g : Nat → β) (n : Nat) : (List.range (n + 1)).map g = (List.range n).map g ++ [g n] := by rw [List.range_succ, List.map_append]; rfl

set_option maxRecDepth 20000 in
set_option maxHeartbeats 1000000 in
theorem s10 {n m k : Int} {q : Option SL} {keep : List Int} (H : HasL intE h q keep) : AC Try.prog 10 [.int .i64 n, .int .i64 m, .int .i64 k, .sl q] h fun v _ => v = .bool true := ac10 (by
  unfold vc10
  refine d32 (by omega) (by omega) fun ow R B0 => ⟨_, _, rfl, ?_⟩
  have hx4 : Ext h (h ++ [Blk.mp [] 0] ++ [Blk.cells [.map (some h.length), .sl none, .int .i64 16384, .int .i64 (-1), .bool false] true]) := (Ext.app _ _).trans (Ext.app _ _)
  generalize h ++ [Blk.mp [] 0] ++ [Blk.cells [.map (some h.length), .sl none, .int .i64 16384, .int .i64 (-1), .bool false] true] = h4 at *
  have Bs4 : Base h ow h4 := ⟨B0, hx4⟩
  generalize hpp : h.length + 1 = p at *
  have L : ∀ {h : Heap}, AC Try.prog 33 [] h fun v h' => ∃ b : Bool, v = .bool b ∧ AV.bool b = .bool true := s33 ⟨_, rfl, rfl⟩
  refine s33 ⟨_, rfl, vif_mk (fun g => by cases g) (fun _ => ?_)⟩
  refine vif_mk (fun g => by simp at g) (fun _ => ?_)
  refine vif_mk (fun g => by simp at g) (fun _ => ?_)
  refine vif_mk (fun _ => L) (fun g1 => ?_)
  refine vif_mk (fun _ => L) (fun g2 => ?_)
  refine vif_mk (fun _ => L) (fun g3 => ?_)
  refine vif_mk (fun _ => L) (fun g4 => ?_)
  refine vif_mk (fun _ => L) (fun g5 => ?_)
  refine vif_mk (fun _ => L) (fun g6 => ?_)
  replace g1 := of_decide_eq_false g1
  replace g2 := of_decide_eq_false g2
  replace g3 := of_decide_eq_false g3
  replace g4 := of_decide_eq_false g4
  replace g5 := of_decide_eq_false g5
  replace g6 := of_decide_eq_false g6
  obtain ⟨n, rfl⟩ := Int.eq_ofNat_of_zero_le (by omega : 0 ≤ n)
  obtain ⟨m, rfl⟩ := Int.eq_ofNat_of_zero_le (by omega : 0 ≤ m)
  obtain ⟨k, rfl⟩ := Int.eq_ofNat_of_zero_le (by omega : 0 ≤ k)
  refine d34 R fun b h32 ow32 R32 S32 => ⟨_, rfl, ?_⟩
  have e1 : (emptyD 16384).create [97] b = (0, one (mkF b [97]) [] (-1) false) := by
    simp [DS.create, emptyD, mayN, DS.find, DS.deed, one]
  rw [e1] at R32 ⊢
  refine vif_mk (fun g => by simp at g) (fun _ => ?_)
  refine d34 R32 fun b2 h43 ow43 R43 S43 => ⟨_, rfl, ?_⟩
  have e2 : (one (mkF b [97]) [] (-1) false).create [98] b2 = (0, two (mkF b [97]) (mkF b2 [98]) []) := by
    simp [DS.create, mayN, DS.find, DS.deed, one, two, mkF]
  rw [e2] at R43 ⊢
  refine vif_mk (fun g => by simp at g) (fun _ => ?_)
  have Bs43 := (Bs4.step S32).step S43
  let B := mkF b2 [98]
  have hB : B.name = [98] := rfl
  let I1 : Heap → Nat → Prop := fun h48 i => ∃ (ow48 : Roles) (A : FA) (l : List PD), DiskR h48 ow48 p (two A B l) ∧ Base h ow48 h48 ∧ A.name = [97] ∧ A.now = (List.range i).map secOf ∧ (∀ x ∈ l, x.1 = A.b) ∧
    l.length = (if i ≤ k then i else i - k) ∧ (i ≤ k → l.map (·.2.1) = List.range i) ∧ (k < i → k ≤ A.safe.length)
  refine ⟨fun xs h48 => ∃ i : Nat, xs = [.int .i64 i] ∧ i ≤ n ∧ I1 h48 i, fun xs _ => match xs with | [.int _ i] => (n - i).toNat | _ => 0, ⟨0, rfl, by omega, ow43, mkF b [97], [], R43, Bs43, rfl, rfl, by simp, by simp, by simp, by omega⟩, ?_⟩
  rintro n45 h48 ⟨i, hx, hi, ow48, A, l, R48, Bs48, hA, hAn, hl, hll, hlr, hks⟩
  simp only [List.cons.injEq, AV.int.injEq, true_and, and_true] at hx
  subst hx
  have hne := two_ne R48
  have hAl : A.now.length = i := by rw [hAn]; simp
  have hBl : B.now.length = 0 := rfl
  have hl50 : l.length ≤ 50 := by rw [hll]; split <;> omega
  refine vif_mk (fun g7 => ?_) (fun g7 => ?_)
  · replace g7 := of_decide_eq_true g7
    -- one more sector behind all
    have more : ∀ {h50 : Heap} {ow50 : Roles} {A : FA} {l : List PD}, DiskR h50 ow50 p (two A B l) → Base h ow50 h50 → A.name = [97] → A.now = (List.range i).map secOf → (∀ x ∈ l, x.1 = A.b) → l.length ≤ 50 →
        l.length + 1 = (if i + 1 ≤ k then i + 1 else i + 1 - k) → (i + 1 ≤ k → l.map (·.2.1) = List.range i) → (k < i + 1 → k ≤ A.safe.length) →
        AC Try.prog 37 [.int .u8 (wrapK .u8 (i : Int))] h50 fun v52 h53 => ∃ q54 : Option SL, v52 = .sl q54 ∧ AC Try.prog 36 [.ptr (some ⟨p, 0⟩), .str [97], .sl q54] h53 fun v55 h56 => ∃ n57 : Int, v55 = .int .i64 n57 ∧
          vif (n57 != 0) (AV.bool false = .bool true) ((True) ∧ (∃ i' : Nat, [AV.int .i64 (wrapK .i64 ((i : Int) + 1))] = [.int .i64 i'] ∧ i' ≤ n ∧ I1 h56 i') ∧ ((n : Int) - wrapK .i64 ((i : Int) + 1)).toNat < ((n : Int) - (i : Int)).toNat) := by
      intro h50 ow50 A l R50 Bs50 hA hAn hl hl50 hll hlr hks
      have hne := two_ne R50
      have hAl : A.now.length = i := by rw [hAn]; simp
      refine app_sec R50 (by show l.length ≤ _; omega) (c := UInt8.ofNat (i % 256)) u8c (K := fun n57 h56 => vif (n57 != 0) _ _) fun h56 ow56 R56 S56 => ?_
      rw [app_a hA hne (by simp) (by omega)] at R56 ⊢
      rw [wrapK_i64 ⟨by omega, by omega⟩]
      refine vif_mk (fun g => by simp at g) (fun _ => ?_)
      refine ⟨trivial, ⟨i + 1, by simp, by omega, ow56, _, _, R56, Bs50.step S56, hA, ?_, ?_, by simpa using hll, fun hk => ?_, hks⟩, by omega⟩
      · show A.now ++ [_] = _
        rw [range_succ_map, hAn]; rfl
      · intro x hx
        rcases List.mem_append.1 hx with hx | hx
        · exact hl x hx
        · simp at hx; subst hx; rfl
      · rw [List.map_append, hlr hk, List.range_succ]; simp [hAl]
    refine vif_mk (fun g8 => ?_) (fun g8 => ?_)
    · have g8 : i = k := by have : (i : Int) = k := by simpa using g8
                            omega
      subst g8
      refine d43 R48 (by show l.length ≤ _; omega) fun h50 ow50 R50 S50 => ⟨_, rfl, ?_⟩
      rw [sync_a hA hne hl] at R50 ⊢
      refine vif_mk (fun g => by simp at g) (fun _ => ?_)
      obtain ⟨kb, kn, know⟩ := keepAll_b (f := A) l
      refine more R50 (Bs48.step S50) (by rw [kn, hA]) (by rw [know, hAn]) (by simp) (by simp) (by rw [if_neg (by omega)]; simp) (fun hh => by omega) (fun _ => ?_)
      rcases Nat.eq_zero_or_pos i with h0 | h0
      · omega
      · have hm : i - 1 ∈ l.map (·.2.1) := by rw [hlr (Nat.le_refl _)]; simp; omega
        obtain ⟨x, hx, hxe⟩ := List.mem_map.1 hm
        have := keepAll_safe.2 x hx (hl x hx)
        omega
    · have g8 : i ≠ k := by
        intro he; subst he; simp at g8
      exact more R48 Bs48 hA hAn hl hl50 (by rw [hll]; split <;> split <;> omega) (fun hh => hlr (by omega)) (fun hh => hks (by omega))
  · replace g7 := of_decide_eq_false g7
    have hin : i = n := by omega
    subst hin
    let I2 : Heap → Nat → Prop := fun h67 j => ∃ (ow67 : Roles) (B : FA) (l2 : List PD), DiskR h67 ow67 p (two A B (l ++ l2)) ∧ Base h ow67 h67 ∧ B.name = [98] ∧ B.now.length = j ∧ (∀ x ∈ l2, x.1 = B.b) ∧ l2.length = j
    refine ⟨fun xs h67 => ∃ j : Nat, xs = [.int .i64 j] ∧ j ≤ m ∧ I2 h67 j, fun xs _ => match xs with | [.int _ i] => (m - i).toNat | _ => 0, ⟨0, rfl, by omega, ow48, B, [], by simpa using R48, Bs48, rfl, rfl, by simp, rfl⟩, ?_⟩
    rintro n64 h67 ⟨j, hx, hj, ow67, B, l2, R67, Bs67, hB, hBl, hl2, hl2l⟩
    simp only [List.cons.injEq, AV.int.injEq, true_and, and_true] at hx
    subst hx
    have hne := two_ne R67
    refine vif_mk (fun g8 => ?_) (fun g8 => ?_)
    · replace g8 := of_decide_eq_true g8
      refine app_sec R67 (by show (l ++ l2).length ≤ _; simp; omega) (c := 200) (by decide) (K := fun n73 h72 => vif (n73 != 0) _ _) fun h72 ow72 R72 S72 => ?_
      rw [app_b hA hB hne (by simp) (by omega)] at R72 ⊢
      rw [wrapK_i64 ⟨by omega, by omega⟩]
      refine vif_mk (fun g => by simp at g) (fun _ => ?_)
      refine ⟨trivial, ⟨j + 1, by simp, by omega, ow72, { B with now := B.now ++ [List.replicate 64 200] }, l2 ++ [(B.b, B.now.length, List.replicate 64 200)], by rw [List.append_assoc] at R72; exact R72, Bs67.step S72, hB, by simp [hBl], ?_, by simp [hl2l]⟩, by simp only; omega⟩
      intro x hx
      rcases List.mem_append.1 hx with hx | hx
      · exact hl2 x hx
      · simp at hx; subst hx; rfl
    · replace g8 := of_decide_eq_false g8
      have hjm : j = m := by omega
      subst hjm
      refine d47 R67 (by show (l ++ l2).length ≤ _; simp; omega) fun q76 h75 N75 => ⟨q76, rfl, ?_⟩
      have hl76 : slLen q76 = l.length + j := by rw [N75.hasL.len]; simp [DS.pendL, two, hl2l]
      have S75 : DStep ow67 h67 ow67 h75 := .ext N75.1
      refine d44 (R67.grow N75.1) (by show (l ++ l2).length ≤ _; simp; omega) fun h78 ow78 R78 S78 => ⟨_, rfl, ?_⟩
      rw [rename_ab hA hB hne hl hl2] at R78 ⊢
      refine vif_mk (fun g => by simp at g) (fun _ => ?_)
      have Bs78 := (Bs67.step S75).step S78
      have tl : tailR p (i : Nat) (k : Nat) q h78 fun v _ => v = .bool true := by
        refine tailR_ok R78 rfl hAn hl (by omega) (by omega) (fun hh => hks hh) (H.mono Bs78.ext) (fun s hs => ?_)
        cases ho : ow78 s.b with
        | none => rfl
        | some r =>
          have h1 := Bs78.new s.b (by simp [ho])
          have h2 := HasL.live (E := intE) H s hs
          omega
      refine vif_mk (fun g9 => ?_) (fun _ => tl)
      refine vif_mk (fun g10 => ?_) (fun _ => tl)
      replace g10 := of_decide_eq_true g10
      exfalso
      rw [hl76, hll, if_neg (by omega), wrapK_i64 (n := (i : Int) + (j : Int)) ⟨by omega, by omega⟩, wrapK_i64 ⟨by omega, by omega⟩] at g9
      simp at g9
      omega)
end
end Go.Proofs.Ytceplmmmlindnaa
