/- What the functions of a state do, over the abstract heap: its lists, its marks, what goes on. -/
import Derived.Test.YtceplmmmlindnaaCR3b
namespace Go.Proofs.Ytceplmmmlindnaa
open Go.Ab
set_option linter.unusedVariables false
set_option linter.unusedSimpArgs false

/-- An edit's refs lie from n on, and not where the list lies. -/
def Cold (n : Nat) (q : Option SL) (e : EV) : Prop := ∀ s, e.2.2.2 = some s → n ≤ s.b ∧ ∀ s', q = some s' → s.b ≠ s'.b
/-- A list of edits that lies from n on, and has a block of its own. -/
def EdL (h : Heap) (n : Nat) (q : Option SL) (l : List ED) : Prop :=
  ∃ L : List EV, Grow edE h q L ∧ L.length = l.length ∧ (∀ (j : Nat) (e : EV) (d : ED), L[j]? = some e → l[j]? = some d → EdR h e d ∧ Cold n q e) ∧ ∀ s, q = some s → n ≤ s.b
/-- A frame: what lies below n, but for p, is as it was. -/
abbrev Frm (p n : Nat) : Nat → Prop := fun b => b = p ∨ n ≤ b
theorem EdL.nil {h : Heap} {n : Nat} : EdL h n none [] := ⟨[], .start h, rfl, by simp, by simp⟩
theorem EdL.len {h : Heap} {n : Nat} {q : Option SL} {l : List ED} (E : EdL h n q l) : slLen q = l.length := by
  obtain ⟨L, g, hl, _⟩ := E
  rw [(Acc.hasL g).len, hl]
theorem EdL.keeps {h h' : Heap} {n : Nat} {q : Option SL} {l : List ED} {X : Nat → Prop} (E : EdL h n q l) (K : Keeps X h h') (hX : ∀ b, n ≤ b → ¬ X b) : EdL h' n q l := by
  obtain ⟨L, g, hl, he, hq⟩ := E
  refine ⟨L, g.keeps K (fun s hs => hX _ (hq s hs)), hl, fun j e d h1 h2 => ?_, hq⟩
  obtain ⟨r, c⟩ := he j e d h1 h2
  exact ⟨K.edR (fun s hs => hX _ (c s hs).1) r, c⟩
theorem EdL.ext {h h' : Heap} {n : Nat} {q : Option SL} {l : List ED} (E : EdL h n q l) (K : Ext h h') : EdL h' n q l := E.keeps (X := fun _ => False) (keeps_of_ext K) (fun _ _ h => h)
theorem EdL.live {h : Heap} {n : Nat} {q : Option SL} {l : List ED} (E : EdL h n q l) : ∀ s, q = some s → s.b < h.length := by
  obtain ⟨L, g, _⟩ := E
  exact HasL.live (Acc.hasL g)

/-- One more edit behind a list. -/
theorem EdL.push {h : Heap} {n : Nat} {q : Option SL} {l : List ED} {e : EV} {d : ED} {K : Option SL → Heap → Prop} (E : EdL h n q l) (hn : n ≤ h.length) (hR : EdR h e d) (hc : Cold n q e) (hl : l.length ≤ 1000)
    (hK : ∀ q' h', EdL h' n q' (l ++ [d]) → Keeps (fun b => n ≤ b) h h' → h.length ≤ h'.length → K q' h') : PNew [.int .i64 e.1, .int .i64 e.2.1, .int .i64 e.2.2.1, .sl e.2.2.2] true h fun a h1 => PAppendS 4 48 q (some ⟨a, 0, 1, 1, 0⟩) h1 K := by
  obtain ⟨L, g, hL, he, hq⟩ := E
  unfold PNew
  have hx : Ext h (h ++ [.cells [.int .i64 e.1, .int .i64 e.2.1, .int .i64 e.2.2.1, .sl e.2.2.2] true]) := .app _ _
  have hsrc : HasL edE (h ++ [.cells [.int .i64 e.1, .int .i64 e.2.1, .int .i64 e.2.2.1, .sl e.2.2.2] true]) (some ⟨h.length, 0, 1, 1, 0⟩) [e] := HasL.new (E := edE) (l := [e]) rfl (by simp [Enc.all, edE])
  have g1 : Grow edE (h ++ [.cells [.int .i64 e.1, .int .i64 e.2.1, .int .i64 e.2.2.1, .sl e.2.2.2] true]) q L := Acc.mono g hx
  have hlive := HasL.live (Acc.hasL g)
  refine Grow.append (E := edE) g1 hsrc (by simp; omega) fun q' h' G K1 hlen hq' => hK q' h' ?_ ?_ ?_
  · have K2 : Keeps (fun b => ∃ s, q = some s ∧ s.b = b) h h' := (keeps_of_ext hx).trans K1
    have hnew : ∀ s, q' = some s → ∀ b, b < h.length → (∀ s', q = some s' → b ≠ s'.b) → b ≠ s.b := by
      intro s hs b hb hne heq
      rcases hq' s hs with h1 | ⟨s1, h1, h2⟩
      · simp at h1; omega
      · exact hne s1 h1 (heq.trans h2.symm)
    refine ⟨L ++ [e], G, by simp [hL], ?_, ?_⟩
    · intro j x y h1 h2
      rw [List.getElem?_append] at h1 h2
      have fin : EdR h x y → Cold n q x → EdR h' x y ∧ Cold n q' x := by
        intro r c
        refine ⟨K2.edR (fun s hs ⟨s', g1, g2⟩ => (c s hs).2 s' g1 g2.symm) r, fun s hs => ⟨(c s hs).1, fun s' hs' => ?_⟩⟩
        exact hnew s' hs' s.b (HasL.live r.2.2.2 s hs) (c s hs).2
      split at h1
      · rename_i hj
        rw [if_pos (by omega)] at h2
        obtain ⟨r, c⟩ := he j x y h1 h2
        exact fin r c
      · rename_i hj
        rw [if_neg (by omega)] at h2
        have h3 : j - L.length = 0 := by have := lt_of_get h1; simp at this; omega
        have h4 : j - l.length = 0 := by omega
        rw [h3] at h1
        rw [h4] at h2
        simp at h1 h2
        subst h1 h2
        exact fin hR hc
    · intro s hs
      rcases hq' s hs with h1 | ⟨s1, h1, h2⟩
      · simp at h1; omega
      · rw [← h2]; exact hq s1 h1
  · refine (keeps_of_ext hx).trans fun b B hb hB => K1 b B (fun ⟨s, h1, h2⟩ => hb ?_) hB
    rw [← h2]; exact hq s h1
  · simp at hlen; omega

/-- A state: its block p; whatever else it has lies from n on. -/
def StR (h : Heap) (p n : Nat) (has : Bool) (done : List ED) (mark : ED) : Prop :=
  ∃ (qd : Option SL) (m : EV), h[p]? = some (.cells [.sl qd, .int .i64 m.1, .int .i64 m.2.1, .int .i64 m.2.2.1, .sl m.2.2.2, .bool has] true) ∧ EdL h n qd done ∧ EdR h m mark ∧ Cold n qd m ∧ p < n ∧ n ≤ h.length ∧
    (∀ d ∈ done, d.2.2.2.length ≤ 256) ∧ mark.2.2.2.length ≤ 256
theorem StR.keeps {h h' : Heap} {p n : Nat} {has : Bool} {done : List ED} {mark : ED} {X : Nat → Prop} (S : StR h p n has done mark) (K : Keeps X h h') (hp : ¬ X p) (hX : ∀ b, n ≤ b → ¬ X b) (hl : h.length ≤ h'.length) : StR h' p n has done mark := by
  obtain ⟨qd, m, h1, h2, h3, h4, h5, h6, h7, h8⟩ := S
  exact ⟨qd, m, K _ _ hp h1, h2.keeps K hX, K.edR (fun s hs => hX _ (h4 s hs).1) h3, h4, h5, by omega, h7, h8⟩
theorem StR.ext {h h' : Heap} {p n : Nat} {has : Bool} {done : List ED} {mark : ED} (S : StR h p n has done mark) (K : Ext h h') : StR h' p n has done mark :=
  S.keeps (X := fun _ => False) (keeps_of_ext K) (fun h => h) (fun _ _ h => h) K.len

theorem cells6 {h : Heap} {p o k : Nat} {c : List AV} {rw' : Bool} (hb : h[p]? = some (.cells c rw')) (ho : o + k ≤ c.length) : cellsAt h ⟨p, 0 + o⟩ k = some ((c.drop o).take k) := by
  rw [Nat.zero_add]; exact cellsAt_mk (p := ⟨p, o⟩) hb ho

section
variable {h : Heap} {Q : AV → Heap → Prop} {p n : Nat} {has : Bool} {done : List ED} {mark : ED}

theorem t22 (hQ : Q (.ptr (some ⟨h.length, 0⟩)) (h ++ [.cells [.sl none, .int .i64 0, .int .i64 0, .int .i64 0, .sl none, .bool false] true])) : AC Try.prog 22 [] h Q := ac22 (by
  unfold vc22 PNew; exact hQ)

theorem t29 (S : StR h p n has done mark) (hQ : Q (.int .i64 done.length) h) : AC Try.prog 29 [.ptr (some ⟨p, 0⟩)] h Q := ac29 (by
  obtain ⟨qd, m, h1, h2, _⟩ := S
  unfold vc29
  refine ⟨qd, cells6 h1 (o := 0) (k := 1) (by simp), ?_⟩
  rw [h2.len]; exact hQ)

theorem t27 (S : StR h p n has done mark) (hQ : ∀ (e : EV) h', Ext h h' → EdR h' e mark → (∀ s, e.2.2.2 = some s → h.length ≤ s.b) → Q (.tup [evV e, .bool has]) h') : AC Try.prog 27 [.ptr (some ⟨p, 0⟩)] h Q := ac27 (by
  obtain ⟨qd, m, h1, h2, h3, h4, h5, h6, h7, h8⟩ := S
  unfold vc27
  refine ⟨m.1, m.2.1, m.2.2.1, m.2.2.2, cells6 h1 (o := 1) (k := 4) (by simp), ?_⟩
  refine ⟨has, cells6 h1 (o := 5) (k := 1) (by simp), ?_⟩
  refine t80 (e := m) h3 h8 fun e' h' hx hR hs g1 g2 g3 => ?_
  refine ⟨e'.1, e'.2.1, e'.2.2.1, e'.2.2.2, rfl, ⟨has, cells6 (hx _ _ h1) (o := 5) (k := 1) (by simp), rfl⟩, ⟨has, cells6 (hx _ _ h1) (o := 5) (k := 1) (by simp), rfl⟩, ?_⟩
  exact hQ e' h' hx hR hs)

def edits (has : Bool) (done : List ED) (mark : ED) : List ED := done ++ (if has then [mark] else [])

theorem t26 (S : StR h p n has done mark) (hd : done.length ≤ 100) (hQ : ∀ q h', Ext h h' → EdL h' h.length q (edits has done mark) → Q (.sl q) h') : AC Try.prog 26 [.ptr (some ⟨p, 0⟩)] h Q := ac26 (by
  have S0 := S
  unfold vc26
  refine t29 S ⟨_, rfl, ?_⟩
  refine ⟨fun xs h9 => ∃ (q : Option SL) (i : Nat), xs = [.sl q, .int .i64 i] ∧ i ≤ done.length ∧ Ext h h9 ∧ EdL h9 h.length q (done.take i), fun xs _ => match xs with | [_, .int _ i] => (done.length - i).toNat | _ => 0,
    ⟨none, 0, rfl, by omega, .refl _, by simpa using EdL.nil⟩, ?_⟩
  rintro q i h9 ⟨q', i', hx, hi, hext, hE⟩
  simp only [List.cons.injEq, AV.int.injEq, AV.sl.injEq, true_and, and_true] at hx
  obtain ⟨rfl, rfl⟩ := hx
  have S9 := S.ext hext
  refine vif_mk (fun h1 => ?_) (fun h1 => ?_)
  · simp only [decide_eq_true_eq] at h1
    obtain ⟨qd, m, b1, b2, b3, b4, b5, b6, b7, b8⟩ := S9
    refine ⟨qd, cells6 b1 (o := 0) (k := 1) (by simp), ?_⟩
    obtain ⟨L, g, hL, he, hq⟩ := b2
    refine HasL.idx (E := edE) (Acc.hasL g) (by omega) (by omega) fun pp x hx hc => ?_
    have hx' : L[i']? = some x := by simpa using hx
    have hdl : i' < done.length := by omega
    have hd' : done[i']? = some done[i'] := List.getElem?_eq_getElem hdl
    obtain ⟨hR, _⟩ := he i' x _ hx' hd'
    refine ⟨x.1, x.2.1, x.2.2.1, x.2.2.2, hc, ?_⟩
    refine t80 (e := x) hR (b7 _ (List.getElem_mem _)) fun e' h18 hx2 hR2 hs g1 g2 g3 => ?_
    refine ⟨e'.1, e'.2.1, e'.2.2.1, e'.2.2.2, rfl, ?_⟩
    have hlen9 := hext.len
    refine EdL.push (hE.ext hx2) (by have := hx2.len; omega) hR2 ?_ (by simp; omega) fun q2 h26 hE2 K2 hl2 => ?_
    · intro s hs'
      have := hs s hs'
      refine ⟨by omega, fun s' hs2 => ?_⟩
      have := hE.live s' hs2
      omega
    · rw [wrapK_i64 ⟨by omega, by omega⟩]
      refine ⟨trivial, ⟨q2, i' + 1, by simp, by omega, ?_, ?_⟩, ?_⟩
      · intro b B hB
        have hlt := lt_of_get hB
        exact K2 b B (by omega) (hx2 _ _ (hext _ _ hB))
      · rw [List.take_add_one, hd']; exact hE2
      · simp only; omega
  · simp only [decide_eq_false_iff_not] at h1
    have hi' : i' = done.length := by omega
    subst hi'
    rw [List.take_length] at hE
    refine t27 S9 fun e' h28 hx2 hR2 hs => ⟨e'.1, e'.2.1, e'.2.2.1, e'.2.2.2, has, rfl, ?_⟩
    have hlen9 := hext.len
    cases has with
    | true =>
      simp only [vif]
      refine EdL.push (hE.ext hx2) (by have := hx2.len; omega) hR2 ?_ (by omega) fun q2 h26 hE2 K2 hl2 => ?_
      · intro s hs'
        have := hs s hs'
        refine ⟨by omega, fun s' hs2 => ?_⟩
        have := hE.live s' hs2
        omega
      · refine hQ q2 h26 ?_ (by simpa [edits] using hE2)
        intro b B hB
        have hlt := lt_of_get hB
        exact K2 b B (by omega) (hx2 _ _ (hext _ _ hB))
    | false =>
      simp only [vif]
      exact hQ _ _ (hext.trans hx2) (by simpa [edits] using hE.ext hx2))
end
end Go.Proofs.Ytceplmmmlindnaa
