/- What a state's Apply does; that equal edits are told the same. -/
import Derived.Test.YtceplmmmlindnaaCR3c
namespace Go.Proofs.Ytceplmmmlindnaa
open Go.Ab
set_option linter.unusedVariables false
set_option linter.unusedSimpArgs false

def goes (has : Bool) (done : List ED) (mark : ED) (d : ED) : Bool := d.2.1 == (done.length : Int) && (d.1 == 2 || !has || decide (d.2.2.1 > mark.2.2.1))
def nHas (d : ED) : Bool := !(d.1 == 2)
def nDone (done : List ED) (d : ED) : List ED := if d.1 == 2 then done ++ [d] else done
def nMark (d : ED) : ED := if d.1 == 2 then zeroD else d

section
variable {h : Heap} {Q : AV → Heap → Prop} {p n : Nat} {has : Bool} {done : List ED} {mark : ED}

theorem t79 (S : StR h p n has done mark) {e : EV} {d : ED} (hR : EdR h e d) (hQ : Q (.bool (goes has done mark d)) h) : AC Try.prog 79 [.ptr (some ⟨p, 0⟩), evV e] h Q := ac79 (by
  obtain ⟨qd, m, h1, h2, h3, h4, h5, h6, h7, h8⟩ := S
  obtain ⟨r1, r2, r3, hL⟩ := hR
  have key : ∀ b : Bool, b = goes has done mark d → Q (.bool b) h := fun b hb => hb ▸ hQ
  have hlen := h2.len
  unfold vc79
  refine ⟨qd, cells6 h1 (o := 0) (k := 1) (by simp), ?_⟩
  rw [r1, r2, r3, hlen]
  refine vif_mk (fun g1 => key _ ?_) fun g1 => vif_mk (fun g2 => key _ ?_) fun g2 => ?_
  · have : (d.2.1 == (done.length : Int)) = false := by simpa using g1
    simp [goes, this]
  · have : (d.2.1 == (done.length : Int)) = true := by simpa using g1
    simp [goes, this, g2]
  · have e1 : (d.2.1 == (done.length : Int)) = true := by simpa using g1
    refine ⟨has, cells6 h1 (o := 5) (k := 1) (by simp), ?_⟩
    refine vif_mk (fun g3 => key _ ?_) fun g3 => ?_
    · simp [goes, e1, g3]
    · refine ⟨m.2.2.1, ?_, key _ ?_⟩
      · have := cells6 h1 (o := 3) (k := 1) (by simp)
        simpa using this
      · have h3' : m.2.2.1 = mark.2.2.1 := h3.2.2.1
        simp [goes, e1, g2, g3, h3'])

theorem store6 {h : Heap} {p o : Nat} {c xs : List AV} {K : Heap → Prop} (hb : h[p]? = some (.cells c true)) (ho : o + xs.length ≤ c.length) (hK : K (h.set p (.cells (splice c o xs) true))) : PStore h ⟨p, 0 + o⟩ xs K := by
  unfold PStore
  simp only [hb, Nat.zero_add]
  exact ⟨ho, hK⟩

theorem store6v {h : Heap} {p o : Nat} {c xs : List AV} {K : Heap → Prop} (hb : h[p]? = some (.cells c true)) (ho : o + xs.length ≤ c.length) (hK : K (h.set p (.cells (splice c o xs) true))) : vPtr (some ⟨p, 0⟩) fun q => PStore h ⟨q.b, q.o + o⟩ xs K := store6 hb ho hK

theorem keeps_set {h : Heap} {p : Nat} {B : Blk} {X : Nat → Prop} (hp : X p) : Keeps X h (h.set p B) := by
  intro b C hb hC
  rw [List.getElem?_set, if_neg]
  · exact hC
  · intro he; subst he; exact hb hp

/-- Apply: what goes on goes on; what does not turns nothing. -/
theorem t23 (S : StR h p n has done mark) {e : EV} {d : ED} (hR : EdR h e d) (hp : ∀ s, e.2.2.2 = some s → s.b ≠ p) (hd : done.length ≤ 100)
    (hno : ∀ v : Int, (chk d && goes has done mark d) = false → v ≠ 0 → Q (.int .i64 v) h)
    (hgo : ∀ h', (chk d && goes has done mark d) = true → StR h' p n (nHas d) (nDone done d) (nMark d) → Keeps (Frm p n) h h' → h.length ≤ h'.length → Q (.int .i64 0) h') : AC Try.prog 23 [.ptr (some ⟨p, 0⟩), evV e] h Q := ac23 (by
  have S0 := S
  obtain ⟨qd, m, h1, h2, h3, h4, h5, h6, h7, h8⟩ := S
  have r1 : e.1 = d.1 := hR.1
  unfold vc23
  refine t18 (e := e) hR fun v hv => ⟨v, rfl, vif_mk (fun g1 => hno v ?_ (by simpa using g1)) fun g1 => ?_⟩
  · cases hc : chk d
    · rfl
    · have := hv.2 hc; subst this; simp at g1
  have hc : chk d = true := hv.1 (by simpa using g1)
  refine t79 (e := e) S0 hR ⟨_, rfl, vif_mk (fun g2 => hno 1 ?_ (by omega)) fun g2 => ?_⟩
  · simp only [Bool.not_eq_true'] at g2
    rw [hc, g2]; rfl
  have hg : goes has done mark d = true := by simpa using g2
  have hyes : (chk d && goes has done mark d) = true := by rw [hc, hg]; rfl
  have hrefs : d.2.2.2.length ≤ 256 := by
    simp only [chk, Bool.and_eq_true, decide_eq_true_eq] at hc
    exact hc.1.2
  have hpl := lt_of_get h1
  refine store6v h1 (o := 1) ?_ ?_
  · simp
  have b1 : (h.set p (.cells (splice [.sl qd, .int .i64 m.1, .int .i64 m.2.1, .int .i64 m.2.2.1, .sl m.2.2.2, .bool has] 1 [.int .i64 0, .int .i64 0, .int .i64 0, .sl none]) true))[p]? = some (.cells [.sl qd, .int .i64 0, .int .i64 0, .int .i64 0, .sl none, .bool has] true) := by
    rw [List.getElem?_set_self hpl]; rfl
  refine store6v b1 (o := 5) ?_ ?_
  · simp
  rw [List.set_set]
  have e15 : splice [AV.sl qd, .int .i64 0, .int .i64 0, .int .i64 0, .sl none, .bool has] 5 [.bool false] = [.sl qd, .int .i64 0, .int .i64 0, .int .i64 0, .sl none, .bool false] := rfl
  rw [e15]
  generalize hh15 : h.set p (.cells [.sl qd, .int .i64 0, .int .i64 0, .int .i64 0, .sl none, .bool false] true) = h15
  have K15 : Keeps (fun b => b = p) h h15 := by rw [← hh15]; exact keeps_set rfl
  have l15 : h15.length = h.length := by rw [← hh15]; simp
  have p15 : h15[p]? = some (.cells [.sl qd, .int .i64 0, .int .i64 0, .int .i64 0, .sl none, .bool false] true) := by rw [← hh15, List.getElem?_set_self hpl]
  have R15 : EdR h15 e d := K15.edR (fun s hs => hp s hs) hR
  have E15 : EdL h15 n qd done := h2.keeps K15 (fun b hb => by omega)
  have F15 : Keeps (Frm p n) h h15 := fun b B hb hB => K15 b B (fun he => hb (.inl he)) hB
  rw [r1]
  refine vif_mk (fun g3 => ?_) (fun g3 => ?_)
  · -- an epoch is done
    refine ⟨qd, cells6 p15 (o := 0) (k := 1) (by simp), ?_⟩
    have hz : evV e = .agg [.int .i64 d.1, .int .i64 e.2.1, .int .i64 e.2.2.1, .sl e.2.2.2] := by rw [← r1]
    rw [← hz]
    refine t80 (e := e) R15 hrefs fun e' h19 hx hR2 hs q1 q2 q3 => ⟨e'.1, e'.2.1, e'.2.2.1, e'.2.2.2, rfl, ⟨qd, cells6 (hx _ _ p15) (o := 0) (k := 1) (by simp), rfl⟩, ?_⟩
    have E19 := E15.ext hx
    have hl19 := hx.len
    have hcold : Cold n qd e' := by
      intro s hs'
      have := hs s hs'
      refine ⟨by omega, fun s' hs2 => ?_⟩
      have := E15.live s' hs2
      omega
    have hpush := EdL.push (K := fun q26 h27 => vPtr (some (⟨p, 0⟩ : PA)) fun p28 => PStore h27 ⟨p28.b, p28.o + 0⟩ [.sl q26] fun h29 => Q (.int .i64 0) h29) E19 (by omega) hR2 hcold (by omega) fun q2 h27 hE2 K2 hl2 => ?_
    · unfold PNew at hpush ⊢
      refine ⟨⟨qd, ?_, rfl⟩, hpush⟩
      exact cells6 (Ext.app h19 _ _ _ (hx _ _ p15)) (o := 0) (k := 1) (by simp)
    · have p27 : h27[p]? = some (.cells [.sl qd, .int .i64 0, .int .i64 0, .int .i64 0, .sl none, .bool false] true) := K2 _ _ (by omega) (hx _ _ p15)
      refine store6v p27 (o := 0) ?_ ?_
      · simp
      have hpl27 := lt_of_get p27
      refine hgo _ hyes ?_ ?_ (by simp; omega)
      · have g3' : (d.1 == 2) = true := g3
        have e1 : nHas d = false := by simp [nHas, g3']
        have e2 : nDone done d = done ++ [d] := by simp [nDone, g3']
        have e3 : nMark d = zeroD := by simp [nMark, g3']
        rw [e1, e2, e3]
        refine ⟨q2, zeroV, ?_, hE2.keeps (X := fun b => b = p) (keeps_set rfl) (fun b hb => by omega), ⟨rfl, rfl, rfl, rfl⟩, ?_, h5, ?_, ?_, ?_⟩
        · rw [List.getElem?_set_self hpl27]; rfl
        · intro s hs; cases hs
        · simp; omega
        · intro x hx'
          rcases List.mem_append.1 hx' with hx' | hx'
          · exact h7 x hx'
          · simp at hx'; subst hx'; exact hrefs
        · simp
      · intro b B hb hB
        have hbp : b ≠ p := fun he => hb (.inl he)
        have hbn : ¬ n ≤ b := fun he => hb (.inr he)
        rw [List.getElem?_set, if_neg (Ne.symm hbp)]
        exact K2 b B hbn (hx _ _ (F15 b B hb hB))
  · have hz : evV e = .agg [.int .i64 d.1, .int .i64 e.2.1, .int .i64 e.2.2.1, .sl e.2.2.2] := by rw [← r1]
    rw [← hz]
    refine t80 (e := e) R15 hrefs fun e' h33 hx hR2 hs q1 q2 q3 => ⟨e'.1, e'.2.1, e'.2.2.1, e'.2.2.2, rfl, ?_⟩
    have p33 := hx _ _ p15
    have hpl33 := lt_of_get p33
    have hl33 := hx.len
    refine store6v p33 (o := 1) ?_ ?_
    · simp
    have b39 : (h33.set p (.cells (splice [.sl qd, .int .i64 0, .int .i64 0, .int .i64 0, .sl none, .bool false] 1 [.int .i64 e'.1, .int .i64 e'.2.1, .int .i64 e'.2.2.1, .sl e'.2.2.2]) true))[p]? = some (.cells [.sl qd, .int .i64 e'.1, .int .i64 e'.2.1, .int .i64 e'.2.2.1, .sl e'.2.2.2, .bool false] true) := by
      rw [List.getElem?_set_self hpl33]; rfl
    refine store6v b39 (o := 5) ?_ ?_
    · simp
    rw [List.set_set]
    have hsub : Keeps (fun b => b = p) h33 (h33.set p (.cells (splice [.sl qd, .int .i64 e'.1, .int .i64 e'.2.1, .int .i64 e'.2.2.1, .sl e'.2.2.2, .bool false] 5 [.bool true]) true)) := keeps_set rfl
    refine hgo _ hyes ?_ ?_ (by simp; omega)
    · have g3' : (d.1 == 2) = false := g3
      have e1 : nHas d = true := by simp [nHas, g3']
      have e2 : nDone done d = done := by simp [nDone, g3']
      have e3 : nMark d = d := by simp [nMark, g3']
      rw [e1, e2, e3]
      refine ⟨qd, e', ?_, (E15.ext hx).keeps hsub (fun b hb => by omega), hsub.edR (fun s hs' => ?_) hR2, ?_, h5, by simp; omega, h7, hrefs⟩
      · rw [List.getElem?_set_self hpl33]; rfl
      · have := hs s hs'; omega
      · intro s hs'
        have := hs s hs'
        refine ⟨by omega, fun s' hs2 => ?_⟩
        have := E15.live s' hs2
        omega
    · intro b B hb hB
      have hbp : b ≠ p := fun he => hb (.inl he)
      rw [List.getElem?_set, if_neg (Ne.symm hbp)]
      exact hx _ _ (F15 b B hb hB))

/-- Equal edits are the same. -/
theorem t16 {e e2 : EV} {d : ED} (hR : EdR h e d) (hR2 : EdR h e2 d) (hl : d.2.2.2.length ≤ 256) (hQ : Q (.bool true) h) : AC Try.prog 16 [evV e, evV e2] h Q := ac16 (by
  obtain ⟨r1, r2, r3, hL⟩ := hR
  obtain ⟨s1, s2, s3, hL2⟩ := hR2
  have hlen := hL.len
  have hlen2 := hL2.len
  unfold vc16
  rw [r1, r2, r3, s1, s2, s3]
  refine vif_mk (fun g => by simp at g) fun _ => vif_mk (fun g => by simp at g) fun _ => vif_mk (fun g => ?_) fun _ => ?_
  · rw [hlen, hlen2] at g; simp at g
  refine ⟨fun xs h9 => h9 = h ∧ ∃ i : Nat, xs = [.int .i64 i], fun xs _ => match xs with | [.int _ i] => (d.2.2.2.length - i).toNat | _ => 0, ⟨rfl, 0, rfl⟩, ?_⟩
  rintro i h9 ⟨rfl, i', hx⟩
  simp only [List.cons.injEq, AV.int.injEq, true_and, and_true] at hx
  subst hx
  refine vif_mk (fun g1 => ?_) (fun _ => hQ)
  simp only [decide_eq_true_eq] at g1
  refine hL.idx (by omega) (by omega) fun pp x hx hc => ?_
  refine ⟨x.1, x.2.1, x.2.2, hc, ?_⟩
  refine hL2.idx (by omega) (by omega) fun pp2 y hy hc2 => ?_
  rw [hx] at hy
  cases hy
  refine ⟨x.1, x.2.1, x.2.2, hc2, vif_mk (fun g => by simp at g) fun _ => ?_⟩
  rw [wrapK_i64 ⟨by omega, by omega⟩]
  refine ⟨⟨rfl, rfl, trivial⟩, ⟨rfl, i' + 1, by simp⟩, ?_⟩
  simp only; omega)

/-- Equal lists are the same. -/
theorem t28 {n1 n2 : Nat} {q1 q2 : Option SL} {l : List ED} (E1 : EdL h n1 q1 l) (E2 : EdL h n2 q2 l) (hl : l.length ≤ 1000) (hs : ∀ d ∈ l, d.2.2.2.length ≤ 256) (hQ : Q (.bool true) h) : AC Try.prog 28 [.sl q1, .sl q2] h Q := ac28 (by
  have hlen := E1.len
  have hlen2 := E2.len
  obtain ⟨L1, g1, k1, f1, _⟩ := E1
  obtain ⟨L2, g2, k2, f2, _⟩ := E2
  unfold vc28
  refine vif_mk (fun g => ?_) fun _ => ?_
  · rw [hlen, hlen2] at g; simp at g
  refine ⟨fun xs h9 => h9 = h ∧ ∃ i : Nat, xs = [.int .i64 i], fun xs _ => match xs with | [.int _ i] => (l.length - i).toNat | _ => 0, ⟨rfl, 0, rfl⟩, ?_⟩
  rintro i h9 ⟨rfl, i', hx⟩
  simp only [List.cons.injEq, AV.int.injEq, true_and, and_true] at hx
  subst hx
  refine vif_mk (fun h1 => ?_) (fun _ => hQ)
  simp only [decide_eq_true_eq] at h1
  refine HasL.idx (E := edE) (Acc.hasL g1) (by omega) (by omega) fun pp x hx hc => ?_
  refine ⟨x.1, x.2.1, x.2.2.1, x.2.2.2, hc, ?_⟩
  refine HasL.idx (E := edE) (Acc.hasL g2) (by omega) (by omega) fun pp2 y hy hc2 => ?_
  refine ⟨y.1, y.2.1, y.2.2.1, y.2.2.2, hc2, ?_⟩
  have hd : i' < l.length := by omega
  have hx' : L1[i']? = some x := by simpa using hx
  have hy' : L2[i']? = some y := by simpa using hy
  have hdd : l[i']? = some l[i'] := List.getElem?_eq_getElem hd
  refine t16 (e := x) (e2 := y) (f1 _ _ _ hx' hdd).1 (f2 _ _ _ hy' hdd).1 (hs _ (List.getElem_mem _)) ⟨true, rfl, vif_mk (fun g => by simp at g) fun _ => ?_⟩
  rw [wrapK_i64 ⟨by omega, by omega⟩]
  refine ⟨trivial, ⟨rfl, i' + 1, by simp⟩, ?_⟩
  simp only; omega)
end
end Go.Proofs.Ytceplmmmlindnaa
