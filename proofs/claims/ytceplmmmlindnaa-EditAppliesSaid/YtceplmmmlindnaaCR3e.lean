/- EditMakes over the abstract heap: it answers yes. -/
import Derived.Test.YtceplmmmlindnaaCR3d
namespace Go.Proofs.Ytceplmmmlindnaa
open Go.Ab
set_option linter.unusedVariables false
set_option linter.unusedSimpArgs false

theorem EdL.keeps2 {h h' : Heap} {n : Nat} {q : Option SL} {l : List ED} {X : Nat → Prop} (E : EdL h n q l) (K : Keeps X h h') (hX : ∀ b, n ≤ b → b < h.length → ¬ X b) : EdL h' n q l := by
  obtain ⟨L, g, hl, he, hq⟩ := E
  have hlive := HasL.live (Acc.hasL g)
  refine ⟨L, g.keeps K (fun s hs => hX _ (hq s hs) (hlive s hs)), hl, fun j e d h1 h2 => ?_, hq⟩
  obtain ⟨r, c⟩ := he j e d h1 h2
  exact ⟨K.edR (fun s hs => hX _ (c s hs).1 (HasL.live r.2.2.2 s hs)) r, c⟩
theorem StR.keeps2 {h h' : Heap} {p n : Nat} {has : Bool} {done : List ED} {mark : ED} {X : Nat → Prop} (S : StR h p n has done mark) (K : Keeps X h h') (hp : ¬ X p) (hX : ∀ b, n ≤ b → b < h.length → ¬ X b) (hl : h.length ≤ h'.length) : StR h' p n has done mark := by
  obtain ⟨qd, m, h1, h2, h3, h4, h5, h6, h7, h8⟩ := S
  exact ⟨qd, m, K _ _ hp h1, h2.keeps2 K hX, K.edR (fun s hs => hX _ (h4 s hs).1 (HasL.live h3.2.2.2 s hs)) h3, h4, h5, by omega, h7, h8⟩

/-- A list of edits that came in. -/
def InL (h : Heap) (q : Option SL) (l : List ED) : Prop :=
  ∃ L : List EV, HasL edE h q L ∧ L.length = l.length ∧ ∀ (j : Nat) (e : EV) (d : ED), L[j]? = some e → l[j]? = some d → EdR h e d
theorem InL.keeps {h h' : Heap} {q : Option SL} {l : List ED} {X : Nat → Prop} (E : InL h q l) (K : Keeps X h h') (hX : ∀ b, b < h.length → ¬ X b) : InL h' q l := by
  obtain ⟨L, g, hl, he⟩ := E
  refine ⟨L, K.hasL (fun s hs => hX _ (HasL.live g s hs)) g, hl, fun j e d h1 h2 => ?_⟩
  have r := he j e d h1 h2
  exact K.edR (fun s hs => hX _ (HasL.live r.2.2.2 s hs)) r

/-- What may be in a state. -/
def Vld (has : Bool) (done : List ED) (mark : ED) : Prop :=
  (∀ (i : Nat) (d : ED), done[i]? = some d → chk d = true ∧ (d.1 == 2) = true ∧ d.2.1 = i) ∧ (has = true → chk mark = true ∧ (mark.1 == 2) = false ∧ mark.2.1 = done.length) ∧ (has = false → mark = zeroD)
theorem Vld.step {has : Bool} {done : List ED} {mark d : ED} (V : Vld has done mark) (h : (chk d && goes has done mark d) = true) : Vld (nHas d) (nDone done d) (nMark d) := by
  rw [Bool.and_eq_true] at h
  obtain ⟨hc, hg⟩ := h
  simp only [goes, Bool.and_eq_true] at hg
  have h1 : d.2.1 = done.length := by simpa using hg.1
  unfold nHas nDone nMark
  cases hk : (d.1 == 2) with
  | true =>
    simp only [Bool.not_true, if_true]
    refine ⟨fun i x hx => ?_, (fun h => by cases h), (fun _ => rfl)⟩
    rw [List.getElem?_append] at hx
    split at hx
    · exact V.1 i x hx
    · rename_i hi
      have : i - done.length = 0 := by have := lt_of_get hx; simp at this; omega
      rw [this] at hx
      simp at hx
      subst hx
      exact ⟨hc, hk, by rw [h1]; omega⟩
  | false =>
    simp only [Bool.not_false, Bool.false_eq_true, if_false]
    exact ⟨V.1, (fun _ => ⟨hc, hk, h1⟩), (fun h => by cases h)⟩

def tDone (done : List ED) (i : Nat) : List ED := done.take i
def tHas (done : List ED) (i : Nat) : Bool := decide (done.length < i)
def tMark (done : List ED) (mark : ED) (i : Nat) : ED := if done.length < i then mark else zeroD

theorem t_step {has : Bool} {done : List ED} {mark d : ED} {i : Nat} (V : Vld has done mark) (hd : (edits has done mark)[i]? = some d) :
    (chk d && goes (tHas done i) (tDone done i) (tMark done mark i) d) = true ∧ nHas d = tHas done (i + 1) ∧ nDone (tDone done i) d = tDone done (i + 1) ∧ nMark d = tMark done mark (i + 1) := by
  unfold edits at hd
  rw [List.getElem?_append] at hd
  split at hd
  · rename_i hi
    obtain ⟨v1, v2, v3⟩ := V.1 i d hd
    have e1 : tHas done i = false := by simp [tHas]; omega
    have e2 : tMark done mark i = zeroD := by simp [tMark]; omega
    have hl : (done.take i).length = i := by rw [List.length_take]; omega
    refine ⟨?_, ?_, ?_, ?_⟩
    · rw [e1, e2, v1]
      simp [goes, tDone, hl, v3, v2]
    · simp [nHas, v2, tHas]; omega
    · simp only [nDone, v2, if_true, tDone]
      rw [List.take_add_one, hd]; rfl
    · simp [nMark, v2, tMark]; omega
  · rename_i hi
    have hh : has = true := by
      cases has with
      | true => rfl
      | false => simp at hd
    subst hh
    simp only [if_true] at hd
    have hi0 : i - done.length = 0 := by have := lt_of_get hd; simp at this; omega
    rw [hi0] at hd
    simp at hd
    subst hd
    have hil : i = done.length := by omega
    subst hil
    obtain ⟨v1, v2, v3⟩ := V.2.1 rfl
    have e1 : tHas done done.length = false := by simp [tHas]
    refine ⟨?_, ?_, ?_, ?_⟩
    · rw [e1, v1]
      simp [goes, tDone, v3]
    · simp [nHas, v2, tHas]
    · have v2' : ¬ mark.1 = 2 := by simpa using v2
      simp only [nDone, v2, Bool.false_eq_true, if_false, tDone, List.take_length]
      rw [List.take_of_length_le (by omega)]
    · have v2' : ¬ mark.1 = 2 := by simpa using v2
      simp [nMark, tMark, v2']
theorem t_end {has : Bool} {done : List ED} {mark : ED} (V : Vld has done mark) : tHas done (edits has done mark).length = has ∧ tDone done (edits has done mark).length = done ∧ tMark done mark (edits has done mark).length = mark := by
  cases has with
  | true =>
    refine ⟨by simp [edits, tHas], ?_, by simp [edits, tMark]⟩
    simp only [edits, if_true, tDone]
    exact List.take_of_length_le (by simp)
  | false =>
    have := V.2.2 rfl
    subst this
    simp [edits, tHas, tDone, tMark]

abbrev zeroB : Blk := .cells [.sl none, .int .i64 0, .int .i64 0, .int .i64 0, .sl none, .bool false] true
theorem fresh_st {h : Heap} {p n : Nat} (hb : h[p]? = some zeroB) (hp : p < n) (hn : n ≤ h.length) : StR h p n false [] zeroD :=
  ⟨none, zeroV, hb, EdL.nil, ⟨rfl, rfl, rfl, rfl⟩, fun s hs => (by cases hs), hp, hn, by simp, by simp⟩

section
variable {h : Heap} {Q : AV → Heap → Prop}

/-- Behind the first loop: the state's edits make it again. -/
theorem makes_tail {ps pt n : Nat} {h14 : Heap} {has : Bool} {done : List ED} {mark : ED} (S : StR h14 ps n has done mark) (V : Vld has done mark) (hd : done.length ≤ 60) (hps : ps < n) (hpt : pt < n) (hne : pt ≠ ps) (T : h14[pt]? = some zeroB) (hQ : ∀ h', Q (.bool true) h') :
    AC Try.prog 26 [.ptr (some ⟨ps, 0⟩)] h14 fun v31 h32 => ∃ q33 : Option SL, v31 = .sl q33 ∧
 ∃ (I35 : List AV → Heap → Prop) (m36 : List AV → Heap → Nat), I35 [.int .i64 0] h32 ∧
 ∀ n34 : Int, ∀ h37 : Heap, I35 [.int .i64 n34] h37 →
 vif (decide (n34 < (slLen q33 : Int)))
 (vIdx q33 n34 4 fun p38 =>
 ∃ n39 : Int, ∃ n40 : Int, ∃ n41 : Int, ∃ q42 : Option SL, cellsAt h37 p38 4 = some [.int .i64 n39, .int .i64 n40, .int .i64 n41, .sl q42] ∧
 AC Try.prog 23 [.ptr (some ⟨pt, 0⟩), .agg [.int .i64 n39, .int .i64 n40, .int .i64 n41, .sl q42]] h37 fun v43 h44 => ∃ n45 : Int, v43 = .int .i64 n45 ∧
 vif (n45 != 0)
 (Q (.bool false) h44)
 ((True) ∧ I35 [.int .i64 (wrapK .i64 (n34 + 1))] h44 ∧ m36 [.int .i64 (wrapK .i64 (n34 + 1))] h44 < m36 [.int .i64 n34] h37))
 (AC Try.prog 27 [.ptr (some ⟨ps, 0⟩)] h37 fun v46 h47 => ∃ n48 : Int, ∃ n49 : Int, ∃ n50 : Int, ∃ q51 : Option SL, ∃ b52 : Bool, v46 = .tup [.agg [.int .i64 n48, .int .i64 n49, .int .i64 n50, .sl q51], .bool b52] ∧
 AC Try.prog 27 [.ptr (some ⟨pt, 0⟩)] h47 fun v53 h54 => ∃ n55 : Int, ∃ n56 : Int, ∃ n57 : Int, ∃ q58 : Option SL, ∃ b59 : Bool, v53 = .tup [.agg [.int .i64 n55, .int .i64 n56, .int .i64 n57, .sl q58], .bool b59] ∧
 AC Try.prog 26 [.ptr (some ⟨pt, 0⟩)] h54 fun v60 h61 => ∃ q62 : Option SL, v60 = .sl q62 ∧
 AC Try.prog 28 [.sl q33, .sl q62] h61 fun v63 h64 => ∃ b65 : Bool, v63 = .bool b65 ∧
 vif b65
 (AC Try.prog 29 [.ptr (some ⟨ps, 0⟩)] h64 fun v66 h67 => ∃ n68 : Int, v66 = .int .i64 n68 ∧
 AC Try.prog 29 [.ptr (some ⟨pt, 0⟩)] h67 fun v69 h70 => ∃ n71 : Int, v69 = .int .i64 n71 ∧
 vif (n68 == n71)
 (vif (b52 == b59)
 (AC Try.prog 16 [.agg [.int .i64 n48, .int .i64 n49, .int .i64 n50, .sl q51], .agg [.int .i64 n55, .int .i64 n56, .int .i64 n57, .sl q58]] h70 fun v72 h73 => ∃ b74 : Bool, v72 = .bool b74 ∧
 Q (.bool b74) h73)
 (Q (.bool false) h70))
 (Q (.bool false) h70))
 (Q (.bool false) h64)) := by
  have hsm : ∀ d ∈ edits has done mark, d.2.2.2.length ≤ 256 := by
    obtain ⟨qd, m, _, _, _, _, _, _, h7, h8⟩ := S
    intro d hd
    unfold edits at hd
    rcases List.mem_append.1 hd with h1 | h1
    · exact h7 d h1
    · cases has <;> simp at h1
      subst h1; exact h8
  have hN : (edits has done mark).length ≤ 61 := by unfold edits; cases has <;> simp <;> omega
  have hlenS : n ≤ h14.length := by obtain ⟨qd, m, _, _, _, _, _, h6, _⟩ := S; exact h6
  refine t26 S (by omega) fun q33 h32 hx32 E32 => ⟨q33, rfl, ?_⟩
  have l32 := hx32.len
  have T32 : StR h32 pt h32.length false [] zeroD := fresh_st (hx32 _ _ T) (by omega) (Nat.le_refl _)
  refine ⟨fun xs h37 => ∃ i : Nat, xs = [.int .i64 i] ∧ i ≤ (edits has done mark).length ∧ StR h37 pt h32.length (tHas done i) (tDone done i) (tMark done mark i) ∧ Keeps (Frm pt h32.length) h32 h37 ∧ h32.length ≤ h37.length,
    fun xs _ => match xs with | [.int _ i] => ((edits has done mark).length - i).toNat | _ => 0, ⟨0, rfl, by omega, by simpa [tHas, tDone, tMark] using T32, .refl _ _, Nat.le_refl _⟩, ?_⟩
  rintro i h37 ⟨i', hx, hi, T37, K37, l37⟩
  simp only [List.cons.injEq, AV.int.injEq, true_and, and_true] at hx
  subst hx
  have hcold : ∀ b, h14.length ≤ b → b < h32.length → ¬ Frm pt h32.length b := fun b h1 h2 h3 => by rcases h3 with h3 | h3 <;> omega
  have E37 : EdL h37 h14.length q33 (edits has done mark) := E32.keeps2 K37 hcold
  have S37 : StR h37 ps n has done mark := (S.ext hx32).keeps2 K37 (fun h3 => by rcases h3 with h3 | h3 <;> omega) (fun b h1 h2 h3 => by rcases h3 with h3 | h3 <;> omega) l37
  have hlenE := E37.len
  refine vif_mk (fun g1 => ?_) (fun g1 => ?_)
  · simp only [decide_eq_true_eq] at g1
    obtain ⟨L, g, hL, he, hq⟩ := E37
    refine HasL.idx (E := edE) (Acc.hasL g) (by omega) (by omega) fun pp x hx hc => ?_
    have hx' : L[i']? = some x := by simpa using hx
    have hil : i' < (edits has done mark).length := by omega
    have hdd : (edits has done mark)[i']? = some (edits has done mark)[i'] := List.getElem?_eq_getElem hil
    obtain ⟨hR, hcd⟩ := he i' x _ hx' hdd
    obtain ⟨k1, k2, k3, k4⟩ := t_step V hdd
    refine ⟨x.1, x.2.1, x.2.2.1, x.2.2.2, hc, ?_⟩
    refine t23 (e := x) T37 hR (fun s hs => by have := (hcd s hs).1; omega) (by unfold tDone; rw [List.length_take]; omega) (fun v hno hv => ?_) (fun h44 hyes T44 K44 l44 => ?_)
    · rw [k1] at hno; cases hno
    · refine ⟨0, rfl, vif_mk (fun g => by simp at g) fun _ => ?_⟩
      rw [wrapK_i64 ⟨by omega, by omega⟩]
      refine ⟨trivial, ⟨i' + 1, by simp, by omega, ?_, K37.trans K44, by omega⟩, ?_⟩
      · rw [← k2, ← k3, ← k4]; exact T44
      · simp only; omega
  · simp only [decide_eq_false_iff_not] at g1
    have hi' : i' = (edits has done mark).length := by omega
    subst hi'
    obtain ⟨z1, z2, z3⟩ := t_end V
    rw [z1, z2, z3] at T37
    refine t27 S37 fun e1 h47 hx47 R47 _ => ⟨e1.1, e1.2.1, e1.2.2.1, e1.2.2.2, has, rfl, ?_⟩
    refine t27 (T37.ext hx47) fun e2 h54 hx54 R54 _ => ⟨e2.1, e2.2.1, e2.2.2.1, e2.2.2.2, has, rfl, ?_⟩
    refine t26 ((T37.ext hx47).ext hx54) (by omega) fun q62 h61 hx61 E61 => ⟨q62, rfl, ?_⟩
    have E37' : EdL h61 h14.length q33 (edits has done mark) := ((E37.ext hx47).ext hx54).ext hx61
    refine t28 E37' E61 (by omega) hsm ⟨true, rfl, ?_⟩
    simp only [vif]
    refine t29 (((S37.ext hx47).ext hx54).ext hx61) ⟨_, rfl, ?_⟩
    refine t29 (((T37.ext hx47).ext hx54).ext hx61) ⟨_, rfl, ?_⟩
    refine vif_mk (fun _ => ?_) (fun g => by simp at g)
    refine vif_mk (fun _ => ?_) (fun g => by simp at g)
    have hm : mark.2.2.2.length ≤ 256 := by obtain ⟨qd, m, _, _, _, _, _, _, _, h8⟩ := S; exact h8
    refine t16 (e := e1) (e2 := e2) (d := mark) ⟨R47.1, R47.2.1, R47.2.2.1, (R47.2.2.2.mono hx54).mono hx61⟩ ⟨R54.1, R54.2.1, R54.2.2.1, R54.2.2.2.mono hx61⟩ hm ⟨true, rfl, hQ _⟩

theorem s6 {q : Option SL} {l : List ED} (hL : InL h q l) : AC Try.prog 6 [.sl q] h fun v _ => v = .bool true := ac6 (by
  have hlen : slLen q = l.length := by obtain ⟨L, g, k, _⟩ := hL; rw [g.len, k]
  unfold vc6
  refine t22 ⟨_, rfl, t22 ⟨_, rfl, s13 ⟨true, rfl, ?_⟩⟩⟩
  refine vif_mk (fun g => by simp at g) fun _ => vif_mk (fun g => by simp at g) fun _ => vif_mk (fun g => by simp at g) fun _ => ?_
  generalize hh9 : h ++ [zeroB] ++ [zeroB] = h9
  have hl3 : (h ++ [zeroB]).length = h.length + 1 := by simp
  have hl9 : h9.length = h.length + 2 := by rw [← hh9]; simp
  have hx9 : Ext h h9 := by rw [← hh9]; exact (Ext.app _ _).trans (Ext.app _ _)
  have hs9 : h9[h.length]? = some zeroB := by rw [← hh9]; simp
  have ht9 : h9[h.length + 1]? = some zeroB := by
    rw [← hh9, List.getElem?_append_right (by simp)]; simp
  rw [hl3]
  have fin : ∀ (h14 : Heap) (i : Nat), i ≤ 60 → (∃ has done mark, StR h14 h.length h9.length has done mark ∧ Vld has done mark ∧ done.length ≤ i ∧ Keeps (Frm h.length h9.length) h9 h14) → _ :=
    fun h14 i hi ⟨has, done, mark, S, V, hd, K⟩ => makes_tail (Q := fun v _ => v = AV.bool true) S V (by omega) (by omega) (pt := h.length + 1) (by omega) (by omega) (K _ _ (fun h3 => by rcases h3 with h3 | h3 <;> omega) ht9) (fun _ => rfl)
  refine ⟨fun xs h14 => ∃ i : Nat, xs = [.int .i64 i] ∧ i ≤ 60 ∧ h9.length ≤ h14.length ∧ ∃ has done mark, StR h14 h.length h9.length has done mark ∧ Vld has done mark ∧ done.length ≤ i ∧ Keeps (Frm h.length h9.length) h9 h14,
    fun xs _ => match xs with | [.int _ i] => (l.length - i).toNat | _ => 0,
    ⟨0, rfl, by omega, Nat.le_refl _, false, [], zeroD, fresh_st hs9 (by omega) (Nat.le_refl _), ⟨by simp, by simp, fun _ => rfl⟩, by simp, .refl _ _⟩, ?_⟩
  rintro i h14 ⟨i', hx, hi, l14, hst⟩
  simp only [List.cons.injEq, AV.int.injEq, true_and, and_true] at hx
  subst hx
  refine vif_mk (fun g1 => ?_) (fun _ => fin h14 i' hi hst)
  refine vif_mk (fun g2 => ?_) (fun _ => fin h14 i' hi hst)
  simp only [decide_eq_true_eq] at g1 g2
  obtain ⟨has, done, mark, S, V, hd, K⟩ := hst
  have kin : Keeps (Frm h.length h9.length) h h14 := fun b B hb hB => K b B hb (hx9 _ _ hB)
  have hcold : ∀ b, b < h.length → ¬ Frm h.length h9.length b := fun b hb h3 => by rcases h3 with h3 | h3 <;> omega
  obtain ⟨L, g0, hLl, he0⟩ := hL
  have g : HasL edE h14 q L := kin.hasL (fun s hs => hcold _ (HasL.live g0 s hs)) g0
  refine HasL.idx (E := edE) g (by omega) (by omega) fun pp x hx hc => ?_
  have hx' : L[i']? = some x := by simpa using hx
  have hil : i' < l.length := by omega
  have hdd : l[i']? = some l[i'] := List.getElem?_eq_getElem hil
  have hR0 := he0 i' x _ hx' hdd
  have hR : EdR h14 x l[i'] := kin.edR (fun s hs => hcold _ (HasL.live hR0.2.2.2 s hs)) hR0
  refine ⟨x.1, x.2.1, x.2.2.1, x.2.2.2, hc, ?_⟩
  refine s12 (l := l[i'].2.2.2) hR.2.2.2 fun b _ => ⟨b, rfl, ?_⟩
  have next : ∀ (h29 : Heap), h9.length ≤ h29.length → (∃ has done mark, StR h29 h.length h9.length has done mark ∧ Vld has done mark ∧ done.length ≤ i' + 1 ∧ Keeps (Frm h.length h9.length) h9 h29) → _ := fun h29 hl29 hst2 =>
    (⟨trivial, ⟨i' + 1, by rw [wrapK_i64 ⟨by omega, by omega⟩]; simp, by omega, hl29, hst2⟩, by rw [wrapK_i64 ⟨by omega, by omega⟩]; omega⟩ :
      (True) ∧ (∃ i : Nat, [AV.int .i64 (wrapK .i64 ((i' : Int) + 1))] = [.int .i64 i] ∧ i ≤ 60 ∧ h9.length ≤ h29.length ∧ ∃ has done mark, StR h29 h.length h9.length has done mark ∧ Vld has done mark ∧ done.length ≤ i ∧ Keeps (Frm h.length h9.length) h9 h29) ∧ ((l.length : Int) - wrapK .i64 ((i' : Int) + 1)).toNat < ((l.length : Int) - (i' : Int)).toNat)
  refine vif_mk (fun g3 => ?_) (fun _ => next h14 l14 ⟨has, done, mark, S, V, by omega, K⟩)
  refine HasL.idx (E := edE) g (by omega) (by omega) fun pp2 y hy hc2 => ?_
  rw [hx] at hy
  cases hy
  refine ⟨x.1, x.2.1, x.2.2.1, x.2.2.2, hc2, ?_⟩
  have hnp : ∀ s, x.2.2.2 = some s → s.b ≠ h.length := by
    intro s hs heq
    have := HasL.live hR0.2.2.2 s hs
    omega
  refine t23 (e := x) S hR hnp (by omega) (fun v _ _ => ⟨v, rfl, next h14 l14 ⟨has, done, mark, S, V, by omega, K⟩⟩) (fun h29 hyes S29 K29 l29 => ⟨0, rfl, next h29 (by omega) ⟨_, _, _, S29, V.step hyes, ?_, K.trans K29⟩⟩)
  unfold nDone
  split
  · simp; omega
  · omega)
end
end Go.Proofs.Ytceplmmmlindnaa
