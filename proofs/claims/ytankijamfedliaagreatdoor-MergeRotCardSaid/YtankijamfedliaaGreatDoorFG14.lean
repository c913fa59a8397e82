import Derived.Test.YtankijamfedliaaGreatDoorFG1
import Derived.Test.YtankijamfedliaaGreatDoorFG13
namespace Go.Pool
open Go.Ent
set_option linter.unusedVariables false
set_option linter.unusedSimpArgs false
abbrev Pg := Bs × Nat
def dist : List Pg → Nat
 | [] => 0
 | x :: xs => if x ∈ xs then dist xs else dist xs + 1
theorem dist_perm {a b : List Pg} (h : a.Perm b) : dist a = dist b := by
 induction h with
 | nil => rfl
 | cons x h ih => simp only [dist, h.mem_iff, ih]
 | swap x y l =>
  by_cases hxy : x = y
  ·subst hxy; rfl
  ·simp only [dist, List.mem_cons, hxy, Ne.symm hxy, false_or]
   have hyx : ¬ y = x := fun h => hxy h.symm
   by_cases hx : x ∈ l <;> by_cases hy : y ∈ l <;> simp [hx, hy, hxy, hyx]
 | trans h1 h2 ih1 ih2 => exact ih1.trans ih2
structure HP (fl : Bs → Nat → Int × List Ent) (n : Nat) (H : List Pg) (P : PS) : Prop where
 len : P.fr.length = n
 own : ∀ f ∈ P.fr, f.is = true → ∃ j : Nat, f.i = (j : Nat) ∧ fl f.name j = (0, f.l)
 held : ∀ f ∈ P.fr, f.is = true → ∀ j : Nat, f.i = (j : Nat) → f.held = H.count (f.name, j)
 off : ∀ f ∈ P.fr, f.is = false → f.held = 0
 has : ∀ x ∈ H, ∃ f ∈ P.fr, f.is = true ∧ f.name = x.1 ∧ f.i = (x.2 : Nat)
 cnt : P.held = dist H
section
variable {fl : Bs → Nat → Int × List Ent} {n : Nat} {H H' : List Pg} {P : PS} {s : Bs} {i : Nat}
theorem HP.perm (A : HP fl n H P) (h : H.Perm H') : HP fl n H' P :=
 ⟨A.len, A.own, fun f hf hi j hj => by rw [A.held f hf hi j hj, h.count_eq], A.off, fun x hx => A.has x (h.mem_iff.2 hx), by rw [A.cnt, dist_perm h]⟩
theorem hp_new : HP fl n [] (newP n) := by
 have hm : ∀ f ∈ (newP n).fr, f = Fr.none := fun f hf => List.eq_of_mem_replicate hf
 refine ⟨by simp [newP], fun f hf hi => by (rw [hm f hf] at hi; cases hi), fun f hf hi => by (rw [hm f hf] at hi; cases hi), fun f hf _ => by rw [hm f hf]; rfl, fun x hx => by simp at hx, ?_⟩
 exact List.countP_eq_zero.2 fun f hf => by rw [hm f hf]; decide
theorem HP.at (A : HP fl n H P) (ok : P.ok) (hx : (s, i) ∈ H) : ∃ k f, P.at s (i : Nat) = some k ∧ P.fr[k]? = some f ∧ f.is = true ∧ f.name = s ∧ f.i = (i : Nat) ∧ f.held = H.count (s, i) ∧ fl s i = (0, f.l) := by
 obtain ⟨f, hf, h1, h2, h3⟩ := A.has _ hx
 obtain ⟨k, hk⟩ := List.getElem?_of_mem hf
 obtain ⟨j, hj, hl⟩ := A.own f hf h1
 have hij : j = i := by
  have h3 : f.i = (i : Nat) := h3
  omega
 subst hij
 have h2 : f.name = s := h2
 refine ⟨k, f, at_some ok hk h1 h2 hj, hk, h1, h2, hj, ?_, by rw [← h2]; exact hl⟩
 rw [A.held f hf h1 j hj, h2]
theorem HP.hold_at (A : HP fl n H P) (ok : P.ok) {k : Nat} {x : Int × List Ent} (ha : P.at s (i : Nat) = some k) : ∃ P1 l, fl s i = (0, l) ∧ P.hold s (i : Nat) x = (0, l, P1) ∧ HP fl n ((s, i) :: H) P1 := by
 obtain ⟨f, hf, his, hfn, hfi⟩ := of_at ha
 have hfm := List.mem_of_getElem? hf
 have hk := (List.getElem?_eq_some_iff.1 hf).1
 obtain ⟨j, hj, hl⟩ := A.own f hfm his
 have hij : j = i := by omega
 subst hij
 rw [hfn] at hl
 have hheld := A.held f hfm his j hj
 rw [hfn] at hheld
 let f' : Fr := { f with held := f.held + 1, mark := true }
 have hcnt := countP_set (q := fun f : Fr => decide (0 < f.held)) (b := f') hf
 rw [if_pos (show decide (0 < f'.held) = true by simp [f'])] at hcnt
 refine ⟨{ P with fr := P.fr.set k f', hits := P.hits + 1 }, f.l, hl, by simp only [PS.hold, ha, hf, up]; rfl, ?_, ?_, ?_, ?_, ?_, ?_⟩
 ·simp only [List.length_set]; exact A.len
 ·intro g hg hgi
  rcases List.mem_or_eq_of_mem_set hg with hg | rfl
  ·exact A.own g hg hgi
  ·exact ⟨j, hj, by rw [show f'.name = s from hfn]; exact hl⟩
 ·intro g hg hgi m hm
  obtain ⟨a, ha'⟩ := List.getElem?_of_mem hg
  rcases set_at ha' with ⟨rfl, rfl⟩ | ⟨hne, hg'⟩
  ·have : m = j := by have : f'.i = f.i := rfl; omega
   subst this
   rw [show f'.name = s from hfn, List.count_cons_self, ← hheld]
  ·rw [A.held g (List.mem_of_getElem? hg') hgi m hm, List.count_cons_of_ne]
   intro he
   cases he
   exact hne (ok.one a k g f hg' hf hgi his (by rw [hfn]) (by rw [hm, hj]))
 ·intro g hg hgi
  rcases List.mem_or_eq_of_mem_set hg with hg | rfl
  ·exact A.off g hg hgi
  ·rw [show f'.is = f.is from rfl, his] at hgi; cases hgi
 ·have keep : ∀ g0 ∈ P.fr, ∃ g ∈ P.fr.set k f', g.is = g0.is ∧ g.name = g0.name ∧ g.i = g0.i := fun g0 hg0 => by
   obtain ⟨a, ha'⟩ := List.getElem?_of_mem hg0
   by_cases hak : a = k
   ·subst hak
    rw [hf] at ha'; cases ha'
    exact ⟨f', List.mem_of_getElem? (List.getElem?_set_self hk), rfl, rfl, rfl⟩
   ·exact ⟨g0, List.mem_of_getElem? (by rw [List.getElem?_set, if_neg (Ne.symm hak)]; exact ha'), rfl, rfl, rfl⟩
  intro y hy
  rcases List.mem_cons.1 hy with rfl | hy
  ·obtain ⟨g, hg, e1, e2, e3⟩ := keep f hfm
   exact ⟨g, hg, by rw [e1]; exact his, by rw [e2]; exact hfn, by rw [e3]; exact hj⟩
  ·obtain ⟨g0, hg0, h1, h2, h3⟩ := A.has y hy
   obtain ⟨g, hg, e1, e2, e3⟩ := keep g0 hg0
   exact ⟨g, hg, by rw [e1]; exact h1, by rw [e2]; exact h2, by rw [e3]; exact h3⟩
 ·have h0 : P.held = dist H := A.cnt
  unfold PS.held at h0 ⊢
  simp only [dist]
  by_cases hx : (s, j) ∈ H
  ·rw [if_pos hx]
   have : 0 < f.held := by rw [hheld]; exact List.count_pos_iff.2 hx
   rw [if_pos (decide_eq_true this)] at hcnt
   omega
  ·rw [if_neg hx]
   have : f.held = 0 := by rw [hheld]; exact List.count_eq_zero.2 hx
   rw [if_neg (by simp [this])] at hcnt
   omega
theorem HP.room (A : HP fl n H P) (ok : P.ok) (hn : dist H < n) : ∃ k P', P.place = some (k, P') ∧ k < P'.fr.length ∧ P'.fr.map core = P.fr.map core ∧ ∀ f, P'.fr[k]? = some f → f.held = 0 := by
 have hheld : P.held ≠ P.fr.length := by rw [A.cnt, A.len]; omega
 cases hfi : P.fr.findIdx? (fun f => !f.is) with
 | some k =>
  rw [List.findIdx?_eq_some_iff_getElem] at hfi
  obtain ⟨hl, h1, h2⟩ := hfi
  refine ⟨k, P, ?_, hl, rfl, fun f hf => ?_⟩
  ·unfold PS.place
   rw [List.findIdx?_eq_some_iff_getElem.2 ⟨hl, h1, h2⟩]
  ·rw [List.getElem?_eq_getElem hl] at hf
   cases hf
   exact A.off _ (List.getElem_mem hl) (by simpa using h1)
 | none =>
  have hpos : 0 < P.fr.length := by rw [A.len]; omega
  have hhand : P.hand < P.fr.length := by rcases ok.hand with h | h <;> omega
  have hex : ∃ f ∈ P.fr, f.held = 0 := by
   apply Classical.byContradiction
   intro hc
   refine hheld ?_
   exact List.countP_eq_length.2 fun f hf => by
    have : f.held ≠ 0 := fun h0 => hc ⟨f, hf, h0⟩
    simp; omega
  obtain ⟨⟨k, fr', hd⟩, hsp⟩ := spin_some hhand hex
  obtain ⟨c1, c2, _, c4⟩ := spin_core hsp hhand
  refine ⟨k, { P with fr := fr', hand := hd, losses := P.losses + 1 }, ?_, ?_, c1, c4⟩
  ·unfold PS.place
   rw [hfi]; simp only; rw [if_neg hheld, hsp]
  ·have := congrArg List.length c1
   rw [List.length_map, List.length_map] at this
   show k < fr'.length; omega
theorem held_core {fr fr' : List Fr} (hc : fr'.map core = fr.map core) : fr'.countP (fun f => decide (0 < f.held)) = fr.countP fun f => decide (0 < f.held) := by
 have e : ∀ l : List Fr, l.countP (fun f => decide (0 < f.held)) = (l.map core).countP fun c => decide (0 < c.2.2.2.1) := fun l => by rw [List.countP_map]; rfl
 rw [e, e, hc]
theorem HP.hold_new (A : HP fl n H P) (ok : P.ok) (hn : dist H < n) {l : List Ent} (ha : P.at s (i : Nat) = none) (hl : fl s i = (0, l)) : ∃ P1, P.hold s (i : Nat) (0, l) = (0, l, P1) ∧ HP fl n ((s, i) :: H) P1 := by
 obtain ⟨k, P', hp, hkn, hcore, hk0⟩ := A.room ok hn
 have hxH : (s, i) ∉ H := fun hx => by
  obtain ⟨k', f, h1, _⟩ := A.at ok hx
  rw [ha] at h1; cases h1
 have hnot : ∀ g ∈ P.fr, g.is = true → ¬ (g.name = s ∧ g.i = (i : Nat)) := fun g hg hgi hc => by
  obtain ⟨a, ha'⟩ := List.getElem?_of_mem hg
  rw [at_some ok ha' hgi hc.1 hc.2] at ha; cases ha
 let nf : Fr := ⟨s, (i : Nat), l, 1, true, true⟩
 have hkf : P'.fr[k]? = some P'.fr[k] := List.getElem?_eq_getElem hkn
 have h0k := hk0 _ hkf
 have hcnt := countP_set (q := fun f : Fr => decide (0 < f.held)) (b := nf) hkf
 rw [if_pos (show decide (0 < nf.held) = true from rfl), if_neg (by simp [h0k])] at hcnt
 have back : ∀ {g : Fr}, g ∈ P'.fr → ∃ g0 ∈ P.fr, g.name = g0.name ∧ g.i = g0.i ∧ g.l = g0.l ∧ g.held = g0.held ∧ g.is = g0.is := fun hg => by
  obtain ⟨g0, hg0, he⟩ := core_mem hcore hg
  simp only [core, Prod.mk.injEq] at he
  exact ⟨g0, hg0, he.1, he.2.1, he.2.2.1, he.2.2.2.1, he.2.2.2.2⟩
 refine ⟨P'.take k s i l, by simp [PS.hold, ha, hp], ?_, ?_, ?_, ?_, ?_, ?_⟩
 ·have := congrArg List.length hcore
  rw [List.length_map, List.length_map, A.len] at this
  show (P'.fr.set k _).length = n
  rw [List.length_set]; exact this
 ·intro g hg hgi
  rcases List.mem_or_eq_of_mem_set hg with hg | rfl
  ·obtain ⟨g0, hg0, e1, e2, e3, _, e5⟩ := back hg
   rw [e1, e2, e3]
   exact A.own g0 hg0 (by rw [← e5]; exact hgi)
  ·exact ⟨i, rfl, hl⟩
 ·intro g hg hgi m hm
  rcases List.mem_or_eq_of_mem_set hg with hg | rfl
  ·obtain ⟨g0, hg0, e1, e2, e3, e4, e5⟩ := back hg
   have hg0i : g0.is = true := by rw [← e5]; exact hgi
   rw [e4, e1, A.held g0 hg0 hg0i m (by rw [← e2]; exact hm), List.count_cons_of_ne]
   intro he
   cases he
   exact hnot g0 hg0 hg0i ⟨rfl, by rw [← e2]; exact hm⟩
  ·have : m = i := by
    have : ((i : Nat) : Int) = (m : Nat) := hm
    omega
   subst this
   show 1 = _
   rw [List.count_cons_self, List.count_eq_zero.2 hxH]
 ·intro g hg hgi
  rcases List.mem_or_eq_of_mem_set hg with hg | rfl
  ·obtain ⟨g0, hg0, e1, e2, e3, e4, e5⟩ := back hg
   rw [e4]; exact A.off g0 hg0 (by rw [← e5]; exact hgi)
  ·cases hgi
 ·intro y hy
  rcases List.mem_cons.1 hy with rfl | hy
  ·exact ⟨nf, List.mem_of_getElem? (List.getElem?_set_self hkn), rfl, rfl, rfl⟩
  ·obtain ⟨g0, hg0, h1, h2, h3⟩ := A.has y hy
   obtain ⟨a, ha'⟩ := List.getElem?_of_mem hg0
   obtain ⟨g, hg, he⟩ := get_core hcore.symm ha'
   simp only [core, Prod.mk.injEq] at he
   obtain ⟨e1, e2, e3, e4, e5⟩ := he
   refine ⟨g, List.mem_of_getElem? (i := a) ?_, by rw [← e5]; exact h1, by rw [← e1]; exact h2, by rw [← e2]; exact h3⟩
   show (P'.fr.set k _)[a]? = some g
   rw [List.getElem?_set, if_neg]
   ·exact hg
   ·intro hka
    subst hka
    have := hk0 g hg
    rw [← e4, A.held g0 hg0 h1 y.2 h3, h2] at this
    exact absurd hy (List.count_eq_zero.1 this)
 ·have h0 : P.held = dist H := A.cnt
  have h1 := held_core hcore
  unfold PS.held at h0
  simp only [dist]
  rw [if_neg hxH]
  show (P'.fr.set k nf).countP _ = _
  omega
theorem HP.hold (A : HP fl n H P) (ok : P.ok) {l : List Ent} (hl : fl s i = (0, l)) (hr : (s, i) ∈ H ∨ dist H < n) : ∃ P1, P.hold s (i : Nat) (0, l) = (0, l, P1) ∧ HP fl n ((s, i) :: H) P1 := by
 cases ha : P.at s (i : Nat) with
 | some k =>
  obtain ⟨P1, l', e1, e2, e3⟩ := A.hold_at (x := (0, l)) ok ha
  rw [hl] at e1
  obtain rfl : l = l' := by simpa using e1
  exact ⟨P1, e2, e3⟩
 | none =>
  rcases hr with hx | hn
  ·obtain ⟨k', f, h1, _⟩ := A.at ok hx
   rw [ha] at h1; cases h1
  ·exact A.hold_new ok hn ha hl
theorem HP.bad (A : HP fl n H P) {x : Int × List Ent} (hl : fl s i = x) (hx : x.1 ≠ 0) : P.hold s (i : Nat) x = (x.1, [], P) := by
 have hat : P.at s (i : Nat) = none := by
  cases ha : P.at s (i : Nat) with
  | none => rfl
  | some k =>
   obtain ⟨f, hf, his, hfn, hfi⟩ := of_at ha
   obtain ⟨j, hj, hl'⟩ := A.own f (List.mem_of_getElem? hf) his
   have hij : j = i := by omega
   subst hij
   rw [hfn, hl] at hl'
   rw [hl'] at hx
   exact absurd rfl hx
 simp only [PS.hold, hat]
 rw [if_pos hx]
theorem HP.full (A : HP fl n H P) (ok : P.ok) {l : List Ent} (hx : (s, i) ∉ H) (hn : dist H = n) : P.hold s (i : Nat) (0, l) = (90, [], P) := by
 have hall : ∀ f ∈ P.fr, 0 < f.held := by
  have hc := A.cnt
  rw [hn, ← A.len] at hc
  unfold PS.held at hc
  rw [List.countP_eq_length] at hc
  exact fun f hf => by simpa using hc f hf
 have his : ∀ f ∈ P.fr, f.is = true := fun f hf => by
  cases h : f.is with
  | true => rfl
  | false => have := A.off f hf h; have := hall f hf; omega
 have hat : P.at s (i : Nat) = none := by
  cases ha : P.at s (i : Nat) with
  | none => rfl
  | some k =>
   obtain ⟨f, hf, h1, hfn, hfi⟩ := of_at ha
   have hm := List.mem_of_getElem? hf
   have := A.held f hm h1 i hfi
   rw [hfn, List.count_eq_zero.2 hx] at this
   have := hall f hm; omega
 exact hold_full hat his (by rw [A.cnt, hn, A.len])
theorem HP.free (A : HP fl n ((s, i) :: H) P) (ok : P.ok) : ∃ P1, P.free s (i : Nat) = (0, P1) ∧ HP fl n H P1 := by
 obtain ⟨k, f, ha, hf, his, hfn, hfi, hheld, hl⟩ := A.at (s := s) (i := i) ok (by simp)
 have hfm := List.mem_of_getElem? hf
 have hk := (List.getElem?_eq_some_iff.1 hf).1
 rw [List.count_cons_self] at hheld
 let f' : Fr := { f with held := f.held - 1 }
 have hcnt := countP_set (q := fun f : Fr => decide (0 < f.held)) (b := f') hf
 rw [if_pos (show decide (0 < f.held) = true by simp [hheld])] at hcnt
 refine ⟨{ P with fr := P.fr.set k f' }, ?_, ?_, ?_, ?_, ?_, ?_, ?_⟩
 ·simp only [PS.free, ha, hf]
  rw [if_neg (by omega)]
 ·simp only [List.length_set]; exact A.len
 ·intro g hg hgi
  rcases List.mem_or_eq_of_mem_set hg with hg | rfl
  ·exact A.own g hg hgi
  ·exact ⟨i, hfi, by rw [show f'.name = s from hfn]; exact hl⟩
 ·intro g hg hgi m hm
  obtain ⟨a, ha'⟩ := List.getElem?_of_mem hg
  rcases set_at ha' with ⟨rfl, rfl⟩ | ⟨hne, hg'⟩
  ·have : m = i := by have : f'.i = f.i := rfl; omega
   subst this
   rw [show f'.name = s from hfn]
   show f.held - 1 = _
   omega
  ·rw [A.held g (List.mem_of_getElem? hg') hgi m hm, List.count_cons_of_ne]
   intro he
   cases he
   exact hne (ok.one a k g f hg' hf hgi his (by rw [hfn]) (by rw [hm, hfi]))
 ·intro g hg hgi
  rcases List.mem_or_eq_of_mem_set hg with hg | rfl
  ·exact A.off g hg hgi
  ·rw [show f'.is = f.is from rfl, his] at hgi; cases hgi
 ·have keep : ∀ g0 ∈ P.fr, ∃ g ∈ P.fr.set k f', g.is = g0.is ∧ g.name = g0.name ∧ g.i = g0.i := fun g0 hg0 => by
   obtain ⟨a, ha'⟩ := List.getElem?_of_mem hg0
   by_cases hak : a = k
   ·subst hak
    rw [hf] at ha'; cases ha'
    exact ⟨f', List.mem_of_getElem? (List.getElem?_set_self hk), rfl, rfl, rfl⟩
   ·exact ⟨g0, List.mem_of_getElem? (by rw [List.getElem?_set, if_neg (Ne.symm hak)]; exact ha'), rfl, rfl, rfl⟩
  intro y hy
  obtain ⟨g0, hg0, h1, h2, h3⟩ := A.has y (List.mem_cons_of_mem _ hy)
  obtain ⟨g, hg, e1, e2, e3⟩ := keep g0 hg0
  exact ⟨g, hg, by rw [e1]; exact h1, by rw [e2]; exact h2, by rw [e3]; exact h3⟩
 ·have h0 : P.held = dist ((s, i) :: H) := A.cnt
  unfold PS.held at h0 ⊢
  simp only [dist] at h0
  by_cases hx : (s, i) ∈ H
  ·rw [if_pos hx] at h0
   have h1 : 0 < f'.held := by
    have := List.count_pos_iff.2 hx
    show 0 < f.held - 1
    omega
   rw [if_pos (decide_eq_true h1)] at hcnt
   show (P.fr.set k f').countP _ = _
   omega
  ·rw [if_neg hx] at h0
   have h1 : f'.held = 0 := by
    have := List.count_eq_zero.2 hx
    show f.held - 1 = 0
    omega
   rw [if_neg (by simp [h1])] at hcnt
   show (P.fr.set k f').countP _ = _
   omega
theorem HP.cnt0 (A : HP fl n [] P) : P.held = 0 := A.cnt
end
end Go.Pool
namespace Go.Cur
open Go.Ent Go.Seg Go.Pool
set_option linter.unusedVariables false
set_option linter.unusedSimpArgs false
def flG (l : List Ent) (i : Nat) : Int × List Ent := match (packG l)[i]? with | some g => (0, g) | none => (80, [])
def flB (l : List Ent) (k i : Nat) : Int × List Ent := if i = k then (80, []) else flG l i
def rB (k : Nat) : Nat → Int := fun i => if i = k then 80 else 0
section
variable {l : List Ent} {e : Ent} {i k : Nat}
theorem packG_ten (hok : ∀ e ∈ l, entOk e = true) {g : List Ent} (h : (packG l)[i]? = some g) : g.length ≤ 10 := (packAt_some (S := sectors 7 l) (base := 7) (packAt_data hok h)).1
theorem flG_ten (hok : ∀ e ∈ l, entOk e = true) : (flG l i).2.length ≤ 10 := by
 unfold flG
 split
 ·rename_i g hg; exact packG_ten hok hg
 ·simp
theorem flB_ten (hok : ∀ e ∈ l, entOk e = true) : (flB l k i).2.length ≤ 10 := by
 unfold flB
 split
 ·simp
 ·exact flG_ten hok
theorem flG_get {g : List Ent} (h : (packG l)[i]? = some g) : flG l i = (0, g) := by unfold flG; rw [h]
theorem heads_len (hok : ∀ e ∈ l, entOk e = true) : (headsG (packG l)).length = (packG l).length := headsG_len fun g hg => (packG_fit hok g hg).1
theorem flB_page (hok : ∀ e ∈ l, entOk e = true) (hs : SortedL l) {s' : Bs} (hk : k < (packG l).length) (hg : Go.Page.get s' (7 + k) = none) (hi : i < (headsG (packG l)).length) : flB l k i = match pageS ((sectors 7 l).set k s') 7 (headsG (packG l)) i with | some g => (0, g) | none => (80, []) := by
 rw [heads_len hok] at hi
 unfold flB
 by_cases h : i = k
 ·subst h
  rw [if_pos rfl, pageS_bad hk hg]
 ·rw [if_neg h]
  have hg := List.getElem?_eq_getElem hi
  rw [pageS_other hok hs h hg, flG_get hg]
theorem not_lt0 (h : entOk e = true) : ¬ ltE e (0, 0, 0, 0) := by
 have := of_decide_eq_true h
 unfold ltE
 simp only
 omega
theorem fromL_none {l : List Ent} (h : ∀ x ∈ l, ¬ ltE x e) : fromL l e = l := by
 cases l with
 | nil => rfl
 | cons x l => exact fromL_here (a := []) (by simp) (h x (by simp))
theorem from_bad (hok : ∀ e ∈ l, entOk e = true) (hk : k < (packG l).length) :
  findS (headsG (packG l)) (0, 0, 0, 0) = 0 ∧ tailL (rB k) ((packG l).drop 0) 0 = (((packG l).take k).flatten, 80) ∧ fromL ((packG l).take k).flatten (0, 0, 0, 0) = ((packG l).take k).flatten := by
 have hm : ∀ x ∈ ((packG l).take k).flatten, entOk x = true := fun x hx => by
  obtain ⟨g, hg, hxg⟩ := List.mem_flatten.1 hx
  exact packG_ok hok g (List.mem_of_mem_take hg) x hxg
 refine ⟨?_, ?_, fromL_none fun x hx => not_lt0 (hm x hx)⟩
 ·unfold findS
  have : (headsG (packG l)).filter (fun h => decide (ltE h (0, 0, 0, 0))) = [] := List.filter_eq_nil_iff.2 fun y hy => by
   obtain ⟨g, hg, hyg⟩ := headsG_mem hy
   simpa using not_lt0 (packG_ok hok g hg y hyg)
  rw [this]; rfl
 ·rw [List.drop_zero, tail_upto (j := 0) (k := k) (fun m _ hm => by unfold rB; rw [if_neg (by omega)]) hk (by unfold rB; rw [if_pos (by omega)]; decide)]
  unfold rB
  rw [if_pos (by omega)]
end
end Go.Cur
namespace Go.Ab
open Go.ChangeShapes Go.WideShapes Go.ChangeAt Go.RowKit
set_option linter.unusedSimpArgs false
set_option linter.unusedVariables false
section
variable {P : Program} {W : World} {H : Type} {enc : TypeId × Value → H} {α δ : Type}
theorem sizeOf_slice {l m : List (DataW H)} {d : DataW H} (h : d ∈ l) : SizeOf.sizeOf d < SizeOf.sizeOf (DataW.slice l m) := by
 have := List.sizeOf_lt_of_mem h
 simp only [DataW.slice.sizeOf_spec]
 omega
set_option maxRecDepth 100000 in
theorem nested_in0 [Inhabited α] [Inhabited δ] (E : Enc α) (R : Heap → α → δ → Prop) (hR : ∀ {h h' : Heap} {a : α} {d : δ}, Ext h h' → R h a d → R h' a d)
  {t e : TypeId} {v : Value} {fuel : Nat} {x : DataW H × List MemPlace} (ht : P.underlying t = some (.slice e)) (hC : P.cellsOf e = E.sz)
  (hel : ∀ (n : Nat) (cs' : List Value) (y : DataW H × List MemPlace), SizeOf.sizeOf y.1 < SizeOf.sizeOf x.1 → DataW.trod enc P W 0 (fun _ => true) true n e cs' = some y → cs'.length = E.sz → ∀ (μ : Ren) (hp : Heap), HRel μ hp W → ReadOnly hp → ∀ (b0 : Nat) (c0 : List AV) (rw0 : Bool), hp[b0]? = some (.cells c0 rw0) →
   ∃ (l1 : Ren) (bs : Heap) (a : α) (d : δ), HRel (μ ++ l1) (hp ++ bs) W ∧ ReadOnly (hp ++ bs) ∧ relL (μ ++ l1) (E.f a) cs' ∧ R (hp ++ bs) a d)
  (hf : DataW.trod enc P W 0 (fun _ => true) true fuel t [v] = some x) {μ0 : Ren} {hp0 : Heap} (HH : HRel μ0 hp0 W) (ro : ReadOnly hp0) {b0 : Nat} {c0 : List AV} {rw0 : Bool} (hb0 : hp0[b0]? = some (.cells c0 rw0)) :
  ∃ (l1 : Ren) (bs : Heap) (q : Option SL) (L : List α) (l : List δ), HRel (μ0 ++ l1) (hp0 ++ bs) W ∧ ReadOnly (hp0 ++ bs) ∧ AV.rel (μ0 ++ l1) (.sl q) v ∧ HasL E (hp0 ++ bs) q L ∧ L.length = l.length ∧
   ∀ (j : Nat) (a : α) (d : δ), L[j]? = some a → l[j]? = some d → R (hp0 ++ bs) a d := by
 have hsz := E.pos
 rcases Deep.open_slice ht hf with ⟨hcs, _⟩ | ⟨a, len0, cap, m, n, D, Pl, hcs, _, hlc, hm, hmm, hxe, hx⟩
 ·simp at hcs
  subst hcs
  exact ⟨[], [], none, [], [], by simpa using HH, by simpa using ro, rfl, rfl, rfl, by simp⟩
 ·simp at hcs
  subst hcs
  simp only [if_true] at hmm
  subst hmm
  by_cases hcap : m = 0
  ·have hl0 : len0 = 0 := by omega
   subst hcap hl0
   refine ⟨[], [], some ⟨b0, 0, 0, 0, 0⟩, [], [], by simpa using HH, by simpa using ro, ⟨⟨0, 0, 0⟩, 0, _, .inr rfl, rfl, Nat.le_refl _, .inl rfl, fun _ => rfl, fun hn => absurd rfl hn⟩, ⟨rfl, Nat.le_refl _, .inl rfl, ?_⟩, rfl, by simp⟩
   simp [cellsAt, hb0, Enc.all]
  ·have h1 := hlc
   have hsp : ∃ (ab ao : Nat) (C : Array Value) (tt : TypeId) (fz : Nat × Nat), a = ⟨ab, ao, none⟩ ∧ W.heap[ab]? = some (.cells C tt fz) ∧ ao ≤ C.size := by
    obtain ⟨cs', hcl, htr⟩ := hx 0 (by omega)
    rw [hC] at hcl
    obtain ⟨_, hlen, hcell⟩ := World.cells?_some hcl
    have h0 := hcell 0 E.pos
    have hpos := E.pos
    have hget : cs'[0]? = some (cs'[0]'(by omega)) := List.getElem?_eq_getElem _
    rw [hget] at h0
    obtain ⟨ab, ao, sp⟩ := a
    have e0 : Addr.add (Addr.add ⟨ab, ao, sp⟩ (0 * E.sz)) 0 = ⟨ab, ao, sp⟩ := by simp [Addr.add]
    rw [e0] at h0
    unfold World.cell? at h0
    split at h0
    ·rename_i C tt fz hb
     cases sp with
     | none =>
      refine ⟨ab, ao, C, tt, fz, rfl, hb, ?_⟩
      exact Nat.le_of_lt (Array.getElem?_eq_some_iff.1 h0).1
     | some sp => simp at h0
    ·cases h0
   obtain ⟨ab, ao, C, tt, fz, rfl, hb, haoC⟩ := hsp
   have hbl := heap_lt hb
   have inner : ∀ k, k ≤ len0 → ∃ (l1 : Ren) (bs : Heap) (L : List α) (l : List δ), HRel (μ0 ++ l1) (hp0 ++ bs) W ∧ ReadOnly (hp0 ++ bs) ∧ L.length = k ∧ l.length = k ∧
     (∀ (j : Nat) (e : α), L[j]? = some e → ∀ (t : Nat) (x : AV), (E.f e)[t]? = some x → ∃ y, C[ao + j * E.sz + t]? = some y ∧ x.rel (μ0 ++ l1) y) ∧ (∀ (j : Nat) (e : α) (d : δ), L[j]? = some e → l[j]? = some d → R (hp0 ++ bs) e d) := by
    intro k
    induction k with
    | zero => intro _; exact ⟨[], [], [], [], by simpa using HH, by simpa using ro, rfl, rfl, by simp, by simp⟩
    | succ k ih =>
     intro hk
     obtain ⟨l1, bs, L, l, i1, i2, i4, i5, i6, i7⟩ := ih (by omega)
     have i3 : (hp0 ++ bs)[b0]? = some (.cells c0 rw0) := by rw [List.getElem?_append_left (lt_of_get hb0)]; exact hb0
     obtain ⟨cs', hcl, htr⟩ := hx k (by omega)
     rw [hC] at hcl
     obtain ⟨_, hlen, hcell⟩ := World.cells?_some hcl
     have hsd : SizeOf.sizeOf (D k, Pl k).1 < SizeOf.sizeOf x.1 := by
      rw [hxe]
      exact sizeOf_slice (List.mem_map.2 ⟨k, List.mem_range.2 (by omega), rfl⟩)
     obtain ⟨l2, bs2, e, d, k1, k2, k3, k4⟩ := hel n cs' _ hsd htr hlen _ _ i1 i2 _ _ _ i3
     rw [List.append_assoc, List.append_assoc] at k1
     rw [List.append_assoc] at k2 k3 k4
     refine ⟨l1 ++ l2, bs ++ bs2, L ++ [e], l ++ [d], k1, k2, by simp [i4], by simp [i5], ?_, ?_⟩
     ·intro j x hj t z hz
      rw [List.getElem?_append] at hj
      split at hj
      ·obtain ⟨y, g1, g2⟩ := i6 j x hj t z hz
       exact ⟨y, g1, AV.rel.mono (by rw [← List.append_assoc]; exact Ren.le_append _ _) _ _ g2⟩
      ·have hj0 : j - L.length = 0 := by have := lt_of_get hj; simp at this; omega
       rw [hj0] at hj
       simp at hj
       subst hj
       have hjk : j = k := by omega
       subst hjk
       obtain ⟨y, g1, g2⟩ := k3.get hz
       have ht : t < E.sz := by have := lt_of_get hz; rw [E.len] at this; exact this
       refine ⟨y, ?_, g2⟩
       have := hcell t ht
       rw [add_addr, add_addr] at this
       unfold World.cell? at this
       simp only [hb] at this
       rw [← g1, ← this]
       simp
     ·intro j x z hj hz
      rw [List.getElem?_append] at hj hz
      split at hj
      ·rw [if_pos (by omega)] at hz
       exact hR (by rw [← List.append_assoc]; exact Ext.app _ _) (i7 j x z hj hz)
      ·rw [if_neg (by omega)] at hz
       have hj0 : j - L.length = 0 := by have := lt_of_get hj; simp at this; omega
       have hz0 : j - l.length = 0 := by omega
       rw [hj0] at hj
       rw [hz0] at hz
       simp at hj hz
       subst hj hz
       exact k4
   obtain ⟨l1, bs, L, l, i1, i2, i4, i5, i6, i7⟩ := inner len0 (Nat.le_refl _)
   have hμ := i1.len
   have lastc : ∀ i, i < len0 → ao + i * E.sz + E.sz ≤ C.size := by
    intro i hi
    have hLi : L[i]? = some (L[i]'(by omega)) := List.getElem?_eq_getElem _
    have hlast : (E.f (L[i]'(by omega)))[E.sz - 1]? = some ((E.f (L[i]'(by omega)))[E.sz - 1]'(by rw [E.len]; omega)) := List.getElem?_eq_getElem _
    obtain ⟨y, g1, _⟩ := i6 i _ hLi (E.sz - 1) _ hlast
    have := (Array.getElem?_eq_some_iff.1 g1).1
    omega
   have hlenC : len0 * E.sz ≤ C.size - ao := by
    rcases Nat.eq_zero_or_pos len0 with hz | hz
    ·subst hz; simp
    ·have := lastc (len0 - 1) (by omega)
     have e1 : (len0 - 1) * E.sz + E.sz = len0 * E.sz := by
      rw [← Nat.succ_mul]; congr 1; omega
     omega
   have HB : HRel (μ0 ++ l1 ++ [⟨ab, ao, C.size - ao⟩]) (hp0 ++ bs ++ [.cells (E.all L) false]) W := by
    refine i1.addRO (e := ⟨ab, ao, C.size - ao⟩) (B := .cells (E.all L) false) i2 rfl hbl ⟨C, tt, fz, hb, ?_, ?_, ?_, ?_, ?_⟩
    ·show C.size = ao + (C.size - ao); omega
    ·rw [Enc.all_length, i4]; exact hlenC
    ·simp only [oneAll, List.all_eq_true]
     intro x hx'
     simp only [Enc.all, List.mem_flatten, List.mem_map] at hx'
     obtain ⟨l0, ⟨a, _, rfl⟩, h⟩ := hx'
     have := E.one a
     simp only [oneAll, List.all_eq_true] at this
     exact this x h
    ·intro j x hj
     have hjl := lt_of_get hj
     rw [Enc.all_length, i4] at hjl
     have hi : j / E.sz < len0 := Nat.div_lt_of_lt_mul (by rw [Nat.mul_comm]; exact hjl)
     have hLi : L[j / E.sz]? = some (L[j / E.sz]'(by omega)) := List.getElem?_eq_getElem _
     have hat := Enc.all_at (E := E) hLi
     have hdm : j / E.sz * E.sz + j % E.sz = j := by rw [Nat.mul_comm]; exact Nat.div_add_mod _ _
     have hml : j % E.sz < E.sz := Nat.mod_lt _ hsz
     have : (E.f (L[j / E.sz]'(by omega)))[j % E.sz]? = some x := by
      rw [← hat, List.getElem?_take, if_pos hml, List.getElem?_drop, hdm, hj]
     obtain ⟨y, g1, g2⟩ := i6 _ _ hLi _ _ this
     refine ⟨y, ?_, AV.rel.mono (Ren.le_append _ _) _ _ g2⟩
     rw [← g1]
     simp only
     congr 1
     omega
    ·intro hrw; cases hrw
   have ea : μ0 ++ l1 ++ [(⟨ab, ao, C.size - ao⟩ : ME)] = μ0 ++ (l1 ++ [⟨ab, ao, C.size - ao⟩]) := List.append_assoc _ _ _
   have eb : hp0 ++ bs ++ [Blk.cells (E.all L) false] = hp0 ++ (bs ++ [.cells (E.all L) false]) := List.append_assoc _ _ _
   refine ⟨l1 ++ [⟨ab, ao, C.size - ao⟩], bs ++ [.cells (E.all L) false], some ⟨(hp0 ++ bs).length, 0, len0, m, 0⟩, L, l, ?_, ?_, ?_, ?_, by omega, ?_⟩
   ·rw [← ea, ← eb]; exact HB
   ·rw [← eb]; exact i2.add rfl
   ·rw [← ea]
    exact ⟨⟨ab, ao, C.size - ao⟩, m, _, .inl (by rw [← hμ]; simp), rfl, h1, .inr rfl, fun _ => rfl, fun hn => absurd rfl hn⟩
   ·rw [← eb]
    refine ⟨i4.symm, h1, .inl rfl, ?_⟩
    rw [cellsAt_mk (C := E.all L) (rw' := false) (by simp) (by simp [Enc.all_length])]
    simp [← Enc.all_length]
   ·intro j e d hj hd
    rw [← eb]
    exact hR (Ext.app _ _) (i7 j e d hj hd)
end
end Go.Ab
