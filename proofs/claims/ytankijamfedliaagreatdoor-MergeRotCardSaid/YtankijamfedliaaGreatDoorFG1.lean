namespace Go.Ent
set_option linter.unusedVariables false
set_option linter.unusedSimpArgs false
abbrev Ent := Int × Int × Int × Int
def ltE (a b : Ent) : Prop := a.1 < b.1 ∨ a.1 = b.1 ∧ (a.2.1 < b.2.1 ∨ a.2.1 = b.2.1 ∧ (a.2.2.1 < b.2.2.1 ∨ a.2.2.1 = b.2.2.1 ∧ a.2.2.2 < b.2.2.2))
instance (a b : Ent) : Decidable (ltE a b) := by unfold ltE; infer_instance
abbrev leE (a b : Ent) : Prop := ¬ ltE b a
theorem ent_ext {a b : Ent} (h1 : a.1 = b.1) (h2 : a.2.1 = b.2.1) (h3 : a.2.2.1 = b.2.2.1) (h4 : a.2.2.2 = b.2.2.2) : a = b := by
 obtain ⟨a1, a2, a3, a4⟩ := a
 obtain ⟨b1, b2, b3, b4⟩ := b
 simp_all
theorem leE_trans {a b c : Ent} (h1 : leE a b) (h2 : leE b c) : leE a c := by unfold leE ltE at *; omega
theorem leE_total (a b : Ent) : leE a b ∨ leE b a := by unfold leE ltE; omega
theorem leE_refl (a : Ent) : leE a a := by unfold leE ltE; omega
theorem leE_anti {a b : Ent} (h1 : leE a b) (h2 : leE b a) : a = b := by unfold leE ltE at *; exact ent_ext (by omega) (by omega) (by omega) (by omega)
theorem leE_lt {a b : Ent} (h : ltE a b) : leE a b := by unfold leE ltE at *; omega
def cmp1 (a b : Int) : Int := if a < b then -1 else if a > b then 1 else 0
def orI (a b : Int) : Int := if a = 0 then b else a
def cmpE (a b : Ent) : Int := orI (orI (cmp1 a.1 b.1) (cmp1 a.2.1 b.2.1)) (orI (cmp1 a.2.2.1 b.2.2.1) (cmp1 a.2.2.2 b.2.2.2))
theorem cmpE_lt {a b : Ent} : cmpE a b < 0 ↔ ltE a b := by
 unfold cmpE orI cmp1 ltE
 repeat' split
 all_goals omega
theorem cmpE_gt {a b : Ent} : cmpE a b > 0 ↔ ltE b a := by
 unfold cmpE orI cmp1 ltE
 repeat' split
 all_goals omega
abbrev SortedL (l : List Ent) : Prop := l.Pairwise leE
def leEb (a b : Ent) : Bool := decide (leE a b)
def sortE (l : List Ent) : List Ent := l.mergeSort leEb
theorem sortE_sorted (l : List Ent) : SortedL (sortE l) := by
 have := List.pairwise_mergeSort (le := leEb) (fun a b c h1 h2 => by simp only [leEb, decide_eq_true_eq] at *; exact leE_trans h1 h2) (fun a b => by simp only [leEb, Bool.or_eq_true, decide_eq_true_eq]; exact leE_total a b) l
 exact this.imp fun h => by simpa [leEb] using h
theorem sortE_perm (l : List Ent) : (sortE l).Perm l := List.mergeSort_perm l leEb
theorem sorted_uniq : ∀ {l1 l2 : List Ent}, SortedL l1 → SortedL l2 → l1.Perm l2 → l1 = l2
 | [], l2, _, _, h => h.nil_eq
 | a :: l1, l2, h1, h2, h => by
  cases l2 with
  | nil => exact absurd h.length_eq (by simp)
  | cons b l2 =>
   have hab : a = b := by
    have ha : a ∈ b :: l2 := h.mem_iff.1 (by simp)
    have hb : b ∈ a :: l1 := h.mem_iff.2 (by simp)
    rcases List.mem_cons.1 ha with rfl | ha
    ·rfl
    rcases List.mem_cons.1 hb with rfl | hb
    ·rfl
    exact leE_anti (List.rel_of_pairwise_cons h1 hb) (List.rel_of_pairwise_cons h2 ha)
   subst hab
   rw [sorted_uniq h1.of_cons h2.of_cons (h.cons_inv)]
theorem sortE_eq {l m : List Ent} (hs : SortedL m) (hp : m.Perm l) : sortE l = m := sorted_uniq (sortE_sorted l) hs ((sortE_perm l).trans hp.symm)
theorem sortE_self {l : List Ent} (h : SortedL l) : sortE l = l := sortE_eq h (.refl l)
theorem sorted_of_adj {l : List Ent} (h : ∀ i a b, l[i]? = some a → l[i + 1]? = some b → leE a b) : SortedL l := by
 induction l with
 | nil => exact .nil
 | cons a l ih =>
  have hl := ih fun i x y hx hy => h (i + 1) x y (by simpa using hx) (by simpa using hy)
  refine .cons ?_ hl
  cases l with
  | nil => simp
  | cons b l =>
   have hab : leE a b := h 0 a b (by simp) (by simp)
   intro c hc
   rcases List.mem_cons.1 hc with rfl | hc
   ·exact hab
   ·exact leE_trans hab (List.rel_of_pairwise_cons hl hc)
theorem adj_of_sorted {l : List Ent} (h : SortedL l) {i : Nat} {a b : Ent} (ha : l[i]? = some a) (hb : l[i + 1]? = some b) : leE a b := by
 obtain ⟨hi, rfl⟩ := List.getElem?_eq_some_iff.1 ha
 obtain ⟨hi2, rfl⟩ := List.getElem?_eq_some_iff.1 hb
 exact List.pairwise_iff_getElem.1 h i (i + 1) hi hi2 (by omega)
instance (l : List Ent) : Decidable (SortedL l) := by unfold SortedL; infer_instance
end Go.Ent
namespace Go.Pool
open Go.Ent
set_option linter.unusedVariables false
set_option linter.unusedSimpArgs false
abbrev Bs := List UInt8
structure Fr where
 name : Bs
 i : Int
 l : List Ent
 held : Nat
 mark : Bool
 is : Bool
def Fr.none : Fr := ⟨[], 0, [], 0, false, false⟩
structure PS where
 fr : List Fr
 hand : Nat
 reads : Nat
 hits : Nat
 losses : Nat
def Fr.at (s : Bs) (i : Int) (f : Fr) : Bool := f.is && (f.name == s && f.i == i)
def PS.at (P : PS) (s : Bs) (i : Int) : Option Nat := P.fr.findIdx? (Fr.at s i)
def PS.held (P : PS) : Nat := P.fr.countP fun f => decide (0 < f.held)
def newP (n : Nat) : PS := ⟨List.replicate n Fr.none, 0, 0, 0, 0⟩
def spin : Nat → List Fr → Nat → Option (Nat × List Fr × Nat)
 | 0, _, _ => Option.none
 | n + 1, fr, hand => match fr[hand]? with
  | Option.none => Option.none
  | some f => if 0 < f.held then spin n fr ((hand + 1) % fr.length) else
    if f.mark then spin n (fr.set hand { f with mark := false }) ((hand + 1) % fr.length) else some (hand, fr, (hand + 1) % fr.length)
theorem mod_next {n u d a : Nat} (hu : u < n) (ha : a < n) (hd : (u + n - a) % n = d + 1) : (u + n - (a + 1) % n) % n = d := by
 rcases Nat.lt_or_ge (a + 1) n with h | h
 ·rw [Nat.mod_eq_of_lt h]
  rcases Nat.lt_or_ge u a with h1 | h1
  ·rw [Nat.mod_eq_of_lt (by omega)] at hd
   rw [Nat.mod_eq_of_lt (by omega)]; omega
  ·have e : u + n - a = (u - a) + n := by omega
   rw [e, Nat.add_mod_right, Nat.mod_eq_of_lt (by omega)] at hd
   have e2 : u + n - (a + 1) = (u - (a + 1)) + n := by omega
   rw [e2, Nat.add_mod_right, Nat.mod_eq_of_lt (by omega)]; omega
 ·have : a + 1 = n := by omega
  rw [this, Nat.mod_self]
  rcases Nat.lt_or_ge (u + 1) n with h1 | h1
  ·rw [Nat.mod_eq_of_lt (by omega)] at hd
   rw [Nat.sub_zero, Nat.add_mod_right, Nat.mod_eq_of_lt hu]; omega
  ·have e : u + n - a = n := by omega
   rw [e, Nat.mod_self] at hd; omega
theorem mod_here {n u a : Nat} (hu : u < n) (ha : a < n) (hd : (u + n - a) % n = 0) : a = u := by
 rcases Nat.lt_or_ge u a with h1 | h1
 ·rw [Nat.mod_eq_of_lt (by omega)] at hd; omega
 ·have e : u + n - a = (u - a) + n := by omega
  rw [e, Nat.add_mod_right, Nat.mod_eq_of_lt (by omega)] at hd; omega
theorem spin_bare : ∀ (d : Nat) {m : Nat} {fr : List Fr} {hand u : Nat} {f : Fr}, d < m → hand < fr.length → fr[u]? = some f → f.held = 0 → f.mark = false → (u + fr.length - hand) % fr.length = d → ∃ r, spin m fr hand = some r := by
 intro d
 induction d with
 | zero =>
  intro m fr hand u f hm hh hf h0 h1 hd
  have hu : u < fr.length := (List.getElem?_eq_some_iff.1 hf).1
  have := mod_here hu hh hd
  subst this
  obtain ⟨m, rfl⟩ : ∃ k, m = k + 1 := ⟨m - 1, by omega⟩
  simp only [spin, hf, h0, h1]
  exact ⟨_, rfl⟩
 | succ d ih =>
  intro m fr hand u f hm hh hf h0 h1 hd
  have hu : u < fr.length := (List.getElem?_eq_some_iff.1 hf).1
  obtain ⟨m, rfl⟩ : ∃ k, m = k + 1 := ⟨m - 1, by omega⟩
  have hn := mod_next hu hh hd
  have hh' : (hand + 1) % fr.length < fr.length := Nat.mod_lt _ (by omega)
  have hg : fr[hand]? = some fr[hand] := List.getElem?_eq_getElem hh
  simp only [spin, hg]
  split
  ·exact ih (by omega) hh' hf h0 h1 hn
  ·split
   ·rename_i hm1
    have hne : u ≠ hand := by
     intro he; subst he; rw [hf] at hg; rw [← Option.some.inj hg, h1] at hm1; cases hm1
    have hl : (fr.set hand { fr[hand] with mark := false }).length = fr.length := List.length_set
    have := ih (m := m) (fr := fr.set hand { fr[hand] with mark := false }) (hand := (hand + 1) % fr.length) (u := u) (f := f) (by omega) (by rw [hl]; exact hh') (by rw [List.getElem?_set, if_neg (Ne.symm hne)]; exact hf) h0 h1 (by rw [hl]; exact hn)
    exact this
   ·exact ⟨_, rfl⟩
theorem spin_free : ∀ (d : Nat) {m : Nat} {fr : List Fr} {hand u : Nat} {f : Fr}, d + fr.length < m → hand < fr.length → fr[u]? = some f → f.held = 0 → (u + fr.length - hand) % fr.length = d → ∃ r, spin m fr hand = some r := by
 intro d
 induction d with
 | zero =>
  intro m fr hand u f hm hh hf h0 hd
  have hu : u < fr.length := (List.getElem?_eq_some_iff.1 hf).1
  have := mod_here hu hh hd
  subst this
  obtain ⟨m, rfl⟩ : ∃ k, m = k + 1 := ⟨m - 1, by omega⟩
  simp only [spin, hf, h0]
  split
  ·rename_i hc; omega
  split
  ·have hl : (fr.set hand { f with mark := false }).length = fr.length := List.length_set
   refine spin_bare ((hand + fr.length - (hand + 1) % fr.length) % fr.length) (u := hand) (f := { f with mark := false }) ?_ ?_ ?_ h0 rfl (by rw [List.length_set])
   ·have := Nat.mod_lt (hand + fr.length - (hand + 1) % fr.length) (show 0 < fr.length by omega)
    omega
   ·rw [List.length_set]; exact Nat.mod_lt _ (by omega)
   ·rw [List.getElem?_set_self hu]; simp [h0]
  ·exact ⟨_, rfl⟩
 | succ d ih =>
  intro m fr hand u f hm hh hf h0 hd
  have hu : u < fr.length := (List.getElem?_eq_some_iff.1 hf).1
  obtain ⟨m, rfl⟩ : ∃ k, m = k + 1 := ⟨m - 1, by omega⟩
  have hn := mod_next hu hh hd
  have hh' : (hand + 1) % fr.length < fr.length := Nat.mod_lt _ (by omega)
  have hg : fr[hand]? = some fr[hand] := List.getElem?_eq_getElem hh
  simp only [spin, hg]
  split
  ·exact ih (by omega) hh' hf h0 hn
  ·split
   ·rename_i hm0 hm1
    have hl : (fr.set hand { fr[hand] with mark := false }).length = fr.length := List.length_set
    by_cases hne : u = hand
    ·subst hne
     exact ih (m := m) (fr := fr.set u { fr[u] with mark := false }) (hand := (u + 1) % fr.length) (u := u) (f := { fr[u] with mark := false }) (by rw [hl]; omega) (by rw [hl]; exact hh') (by rw [List.getElem?_set_self hu]) (by rw [hf] at hg; rw [← Option.some.inj hg]; exact h0) (by rw [hl]; exact hn)
    ·exact ih (m := m) (fr := fr.set hand { fr[hand] with mark := false }) (hand := (hand + 1) % fr.length) (u := u) (f := f) (by rw [hl]; omega) (by rw [hl]; exact hh') (by rw [List.getElem?_set, if_neg (Ne.symm hne)]; exact hf) h0 (by rw [hl]; exact hn)
   ·exact ⟨_, rfl⟩
theorem spin_some {fr : List Fr} {hand : Nat} (hh : hand < fr.length) (hf : ∃ f ∈ fr, f.held = 0) : ∃ r, spin (2 * fr.length + 1) fr hand = some r := by
 obtain ⟨f, hf, h0⟩ := hf
 obtain ⟨u, hu⟩ := List.getElem?_of_mem hf
 have := Nat.mod_lt (u + fr.length - hand) (show 0 < fr.length by omega)
 exact spin_free _ (by omega) hh hu h0 rfl
def core (f : Fr) : Bs × Int × List Ent × Nat × Bool := (f.name, f.i, f.l, f.held, f.is)
theorem set_core {fr : List Fr} {k : Nat} {f g : Fr} (h : fr[k]? = some f) (hc : core g = core f) : (fr.set k g).map core = fr.map core := by
 rw [List.map_set, hc]
 apply List.ext_getElem?
 intro j
 rw [List.getElem?_set]
 split
 ·rename_i hj; subst hj
  obtain ⟨hl, rfl⟩ := List.getElem?_eq_some_iff.1 h
  split
  ·simp [hl]
  ·rename_i h2; simp at h2; omega
 ·rfl
theorem spin_core : ∀ {m : Nat} {fr fr' : List Fr} {hand k hand' : Nat}, spin m fr hand = some (k, fr', hand') → hand < fr.length → fr'.map core = fr.map core ∧ k < fr.length ∧ hand' < fr.length ∧ (∀ f, fr'[k]? = some f → f.held = 0) := by
 intro m
 induction m with
 | zero => intro fr fr' hand k hand' h; simp [spin] at h
 | succ m ih =>
  intro fr fr' hand k hand' h hh
  have hh' : (hand + 1) % fr.length < fr.length := Nat.mod_lt _ (by omega)
  simp only [spin] at h
  split at h
  ·cases h
  ·rename_i f hf
   split at h
   ·exact ih h hh'
   ·rename_i h0
    split at h
    ·have hl : (fr.set hand { f with mark := false }).length = fr.length := List.length_set
     obtain ⟨a, b, c, d⟩ := ih h (by rw [hl]; exact hh')
     exact ⟨a.trans (set_core hf rfl), by rw [hl] at b; exact b, by rw [hl] at c; exact c, d⟩
    ·cases h
     exact ⟨rfl, hh, hh', fun g hg => by rw [hf] at hg; cases hg; omega⟩
def PS.place (P : PS) : Option (Nat × PS) := match P.fr.findIdx? (fun f => !f.is) with
 | some k => some (k, P)
 | Option.none => if P.held = P.fr.length then Option.none else match spin (2 * P.fr.length + 1) P.fr P.hand with
  | some (k, fr, hand) => some (k, { P with fr := fr, hand := hand, losses := P.losses + 1 })
  | Option.none => Option.none
def up (fr : List Fr) (k : Nat) (g : Fr → Fr) : List Fr := match fr[k]? with | some f => fr.set k (g f) | Option.none => fr
def PS.take (P : PS) (k : Nat) (s : Bs) (i : Int) (l : List Ent) : PS := { P with fr := P.fr.set k ⟨s, i, l, 1, true, true⟩, reads := P.reads + 1 }
def PS.hold (P : PS) (s : Bs) (i : Int) (r : Int × List Ent) : Int × List Ent × PS := match P.at s i with
 | some k => (0, (match P.fr[k]? with | some f => f.l | Option.none => []), { P with fr := up P.fr k fun f => { f with held := f.held + 1, mark := true }, hits := P.hits + 1 })
 | Option.none => if r.1 ≠ 0 then (r.1, [], P) else match P.place with
  | Option.none => (90, [], P)
  | some (k, P') => (0, r.2, P'.take k s i r.2)
def PS.free (P : PS) (s : Bs) (i : Int) : Int × PS := match P.at s i with
 | Option.none => (4, P)
 | some k => match P.fr[k]? with
  | some f => if f.held = 0 then (4, P) else (0, { P with fr := P.fr.set k { f with held := f.held - 1 } })
  | Option.none => (4, P)
structure PS.ok (P : PS) : Prop where
 one : ∀ (j k : Nat) (f g : Fr), P.fr[j]? = some f → P.fr[k]? = some g → f.is = true → g.is = true → f.name = g.name → f.i = g.i → j = k
 hand : P.hand < P.fr.length ∨ P.hand = 0
 few : P.fr.length ≤ 1024
end Go.Pool
namespace Go.Num
set_option linter.unusedVariables false
set_option linter.unusedSimpArgs false
abbrev Bs := List UInt8
def wid (n : Nat) : Nat := if h : n < 256 then 1 else 1 + wid (n / 256)
termination_by n
decreasing_by omega
theorem wid_pos {n : Nat} : 1 ≤ wid n := by
  unfold wid; split <;> omega
theorem wid_lt : ∀ (k n : Nat), 1 ≤ k → (wid n ≤ k ↔ n < 256 ^ k)
  | 0, n, h => by omega
  | 1, n, _ => by
    unfold wid
    split
    · simp; omega
    · have := wid_pos (n := n / 256)
      constructor
      · intro h; omega
      · intro h; simp at h; omega
  | k + 2, n, _ => by
    unfold wid
    have ih := wid_lt (k + 1) (n / 256) (by omega)
    split
    · rename_i h
      have : 256 ^ 1 ≤ 256 ^ (k + 2) := Nat.pow_le_pow_right (by omega) (by omega)
      constructor
      · intro _; omega
      · intro _; omega
    · have h1 : 256 ^ (k + 2) = 256 * 256 ^ (k + 1) := by rw [Nat.pow_succ]; omega
      have h2 : 1 + wid (n / 256) ≤ k + 2 ↔ wid (n / 256) ≤ k + 1 := by omega
      rw [h2, ih, h1]
      exact Nat.div_lt_iff_lt_mul (by omega) |>.trans (by rw [Nat.mul_comm])
def beL (n : Nat) : Nat → Bs
  | 0 => []
  | k + 1 => beL (n / 256) k ++ [UInt8.ofNat (n % 256)]
def beV (l : Bs) : Nat := l.foldl (fun a b => a * 256 + b.toNat) 0
theorem beL_len : ∀ (k n : Nat), (beL n k).length = k
  | 0, n => rfl
  | k + 1, n => by simp [beL, beL_len k]
theorem beV_snoc {l : Bs} {x : UInt8} : beV (l ++ [x]) = beV l * 256 + x.toNat := by simp [beV]
theorem beV_beL : ∀ (k n : Nat), beV (beL n k) = n % 256 ^ k
  | 0, n => by simp [beL, beV, Nat.mod_one]
  | k + 1, n => by
    rw [beL, beV_snoc, beV_beL k]
    have h1 : (UInt8.ofNat (n % 256)).toNat = n % 256 := by simp
    rw [h1, Nat.pow_succ, Nat.mul_comm (256 ^ k) 256, Nat.mod_mul]
    omega
theorem snoc_ind {α : Type} {P : List α → Prop} (h0 : P []) (h1 : ∀ l x, P l → P (l ++ [x])) (l : List α) : P l := by
  have : ∀ m : List α, P m.reverse := by
    intro m
    induction m with
    | nil => exact h0
    | cons x m ih => rw [List.reverse_cons]; exact h1 _ _ ih
  simpa using this l.reverse
theorem beV_lt : ∀ (l : Bs), beV l < 256 ^ l.length := by
  intro l
  induction l using snoc_ind with
  | h0 => simp [beV]
  | h1 l x ih =>
    rw [beV_snoc, List.length_append, List.length_cons, List.length_nil, Nat.pow_succ]
    have := x.toNat_lt
    omega
theorem beL_beV : ∀ (l : Bs), beL (beV l) l.length = l := by
  intro l
  induction l using snoc_ind with
  | h0 => rfl
  | h1 l x ih =>
    have hx := x.toNat_lt
    rw [beV_snoc, List.length_append, List.length_cons, List.length_nil, beL]
    have h1 : (beV l * 256 + x.toNat) / 256 = beV l := by omega
    have h2 : (beV l * 256 + x.toNat) % 256 = x.toNat := by omega
    rw [h1, h2, ih]
    simp
theorem beL_get : ∀ (k n i : Nat), i < k → (beL n k)[i]? = some (UInt8.ofNat (n / 256 ^ (k - 1 - i) % 256))
  | 0, n, i, h => by omega
  | k + 1, n, i, h => by
    rw [beL, List.getElem?_append, beL_len]
    split
    · rename_i hi
      rw [beL_get k (n / 256) i hi, Nat.div_div_eq_div_mul]
      have : 256 * 256 ^ (k - 1 - i) = 256 ^ (k + 1 - 1 - i) := by
        rw [Nat.mul_comm, ← Nat.pow_succ]; congr 1; omega
      rw [this]
    · have : i = k := by omega
      subst this
      simp
def numB (n : Nat) : Bs := if n < 240 then [UInt8.ofNat n] else if n < 2288 then [UInt8.ofNat (240 + (n - 240) / 256), UInt8.ofNat ((n - 240) % 256)] else UInt8.ofNat (246 + wid n) :: beL n (wid n)
def rdN : Bs → Option (Nat × Bs)
  | [] => none
  | c :: l =>
    if c.toNat < 240 then some (c.toNat, l)
    else if c.toNat < 248 then (match l with | [] => none | x :: l' => some (240 + (c.toNat - 240) * 256 + x.toNat, l'))
    else if c.toNat ≤ 254 then
      (if c.toNat - 246 ≤ l.length ∧ beV (l.take (c.toNat - 246)) < 9223372036854775808 ∧ 2288 ≤ beV (l.take (c.toNat - 246)) ∧ wid (beV (l.take (c.toNat - 246))) = c.toNat - 246
       then some (beV (l.take (c.toNat - 246)), l.drop (c.toNat - 246)) else none)
    else none
theorem u8_of {n : Nat} (h : n < 256) : (UInt8.ofNat n).toNat = n := by simp; omega
theorem of_u8 {c : UInt8} : UInt8.ofNat c.toNat = c := by simp
theorem rdN_numB {n : Nat} (hn : n < 9223372036854775808) {l : Bs} : rdN (numB n ++ l) = some (n, l) := by
  unfold numB
  split
  · simp only [List.cons_append, List.nil_append, rdN]
    rw [u8_of (by omega), if_pos (by omega)]
  · split
    · simp only [List.cons_append, List.nil_append, rdN]
      rw [u8_of (by omega), u8_of (by omega), if_neg (by omega), if_pos (by omega)]
      have : 240 + (240 + (n - 240) / 256 - 240) * 256 + (n - 240) % 256 = n := by omega
      rw [this]
    · have hw : wid n ≤ 8 := (wid_lt 8 n (by omega)).2 (by omega)
      have hw2 : 2 ≤ wid n := by
        rcases Nat.lt_or_ge (wid n) 2 with h | h
        · have := (wid_lt 1 n (by omega)).1 (by omega)
          simp at this; omega
        · exact h
      simp only [List.cons_append, rdN]
      rw [u8_of (by omega), if_neg (by omega), if_neg (by omega), if_pos (by omega)]
      have e : 246 + wid n - 246 = wid n := by omega
      have hv : beV ((beL n (wid n) ++ l).take (wid n)) = n := by
        rw [List.take_left' (beL_len _ _), beV_beL]
        exact Nat.mod_eq_of_lt ((wid_lt _ n wid_pos).1 (Nat.le_refl _))
      rw [e, hv, if_pos ⟨by simp [beL_len], hn, by omega, rfl⟩, List.drop_left' (beL_len _ _)]
theorem numB_rdN {b l : Bs} {n : Nat} (h : rdN b = some (n, l)) : b = numB n ++ l ∧ n < 9223372036854775808 := by
  cases b with
  | nil => cases h
  | cons c t =>
    have hc := c.toNat_lt
    simp only [rdN] at h
    split at h
    · rename_i h1
      cases h
      refine ⟨?_, by omega⟩
      unfold numB
      rw [if_pos h1, of_u8]; rfl
    · split at h
      · rename_i h1 h2
        cases t with
        | nil => cases h
        | cons x t =>
          have hx := x.toNat_lt
          cases h
          refine ⟨?_, by omega⟩
          unfold numB
          rw [if_neg (by omega), if_pos (by omega)]
          have e1 : 240 + (240 + (c.toNat - 240) * 256 + x.toNat - 240) / 256 = c.toNat := by omega
          have e2 : (240 + (c.toNat - 240) * 256 + x.toNat - 240) % 256 = x.toNat := by omega
          rw [e1, e2, of_u8, of_u8]; rfl
      · split at h
        · split at h
          · rename_i h1 h2 h3 h4
            obtain ⟨g1, g2, g3, g4⟩ := h4
            simp only [Option.some.injEq, Prod.mk.injEq] at h
            obtain ⟨rfl, rfl⟩ := h
            refine ⟨?_, g2⟩
            unfold numB
            rw [if_neg (by omega), if_neg (by omega), g4]
            have e1 : 246 + (c.toNat - 246) = c.toNat := by omega
            have e2 : beL (beV (t.take (c.toNat - 246))) (c.toNat - 246) = t.take (c.toNat - 246) := by
              have := beL_beV (t.take (c.toNat - 246))
              rwa [List.length_take, Nat.min_eq_left g1] at this
            rw [e1, e2, of_u8]; simp
          · cases h
        · cases h
end Go.Num
namespace Go.Ent
open Go.Num
set_option linter.unusedVariables false
set_option linter.unusedSimpArgs false
def entOk (e : Ent) : Bool := decide (0 ≤ e.1 ∧ e.1 < 65536 ∧ 0 ≤ e.2.1 ∧ e.2.1 < 65536 ∧ 0 ≤ e.2.2.1 ∧ e.2.2.1 < 1048576 ∧ 0 ≤ e.2.2.2 ∧ e.2.2.2 < 1048576)
def entB (e : Ent) : Bs := numB e.1.toNat ++ numB e.2.1.toNat ++ (numB e.2.2.1.toNat ++ numB e.2.2.2.toNat)
def encL (l : List Ent) : Bs := l.flatMap entB
theorem encL_append {l m : List Ent} : encL (l ++ m) = encL l ++ encL m := by simp [encL]
theorem encL_one {e : Ent} : encL [e] = entB e := by simp [encL]
theorem wid_small {n k : Nat} (hk : 1 ≤ k) (h : n < 256 ^ k) : wid n ≤ k := (wid_lt k n hk).2 h
theorem numB_len2 {n : Nat} (h : n < 65536) : (numB n).length ≤ 3 := by
 have := wid_small (n := n) (k := 2) (by omega) (by omega)
 unfold numB
 split
 ·simp
 ·split
  ·simp
  ·simp [beL_len]; omega
theorem numB_len3 {n : Nat} (h : n < 1048576) : (numB n).length ≤ 4 := by
 have := wid_small (n := n) (k := 3) (by omega) (by omega)
 unfold numB
 split
 ·simp
 ·split
  ·simp
  ·simp [beL_len]; omega
theorem numB_pos {n : Nat} : 1 ≤ (numB n).length := by
 unfold numB
 split
 ·simp
 ·split <;> simp
theorem entB_len {e : Ent} (h : entOk e = true) : (entB e).length ≤ 14 := by
 have h := of_decide_eq_true h
 have h1 := numB_len2 (n := e.1.toNat) (by omega)
 have h2 := numB_len2 (n := e.2.1.toNat) (by omega)
 have h3 := numB_len3 (n := e.2.2.1.toNat) (by omega)
 have h4 := numB_len3 (n := e.2.2.2.toNat) (by omega)
 simp only [entB, List.length_append]; omega
theorem entB_pos {e : Ent} : 4 ≤ (entB e).length := by
 have h1 := numB_pos (n := e.1.toNat)
 have h2 := numB_pos (n := e.2.1.toNat)
 have h3 := numB_pos (n := e.2.2.1.toNat)
 have h4 := numB_pos (n := e.2.2.2.toNat)
 simp only [entB, List.length_append]; omega
def rd4 (b : Bs) : Option (Ent × Bs) :=
 match rdN b with
 | none => none
 | some (x, b1) => match rdN b1 with
  | none => none
  | some (y, b2) => match rdN b2 with
   | none => none
   | some (z, b3) => match rdN b3 with
    | none => none
    | some (w, b4) => some (((x : Int), (y : Int), (z : Int), (w : Int)), b4)
def rdE (b : Bs) : Option (Ent × Bs) := match rd4 b with
 | some (e, b') => if entOk e then some (e, b') else none
 | none => none
theorem rdE_entB {e : Ent} (h : entOk e = true) {b : Bs} : rdE (entB e ++ b) = some (e, b) := by
 have h' := of_decide_eq_true h
 obtain ⟨x, y, z, w⟩ := e
 simp only at h'
 unfold rdE rd4 entB
 simp only
 rw [List.append_assoc, List.append_assoc, rdN_numB (by omega)]
 simp only
 rw [rdN_numB (by omega)]
 simp only
 rw [List.append_assoc, rdN_numB (by omega)]
 simp only
 rw [rdN_numB (by omega)]
 simp only [Int.toNat_of_nonneg h'.1, Int.toNat_of_nonneg h'.2.2.1, Int.toNat_of_nonneg h'.2.2.2.2.1, Int.toNat_of_nonneg h'.2.2.2.2.2.2.1]
 rw [if_pos h]
theorem entB_rdE {b b' : Bs} {e : Ent} (h : rdE b = some (e, b')) : b = entB e ++ b' ∧ entOk e = true := by
 unfold rdE at h
 cases h4 : rd4 b with
 | none => rw [h4] at h; cases h
 | some r =>
  obtain ⟨e1, b1⟩ := r
  rw [h4] at h
  simp only at h
  split at h
  ·rename_i hok
   cases h
   refine ⟨?_, hok⟩
   unfold rd4 at h4
   cases g1 : rdN b with
   | none => rw [g1] at h4; cases h4
   | some r1 =>
    obtain ⟨x, c1⟩ := r1
    rw [g1] at h4; simp only at h4
    cases g2 : rdN c1 with
    | none => rw [g2] at h4; cases h4
    | some r2 =>
     obtain ⟨y, c2⟩ := r2
     rw [g2] at h4; simp only at h4
     cases g3 : rdN c2 with
     | none => rw [g3] at h4; cases h4
     | some r3 =>
      obtain ⟨z, c3⟩ := r3
      rw [g3] at h4; simp only at h4
      cases g5 : rdN c3 with
      | none => rw [g5] at h4; cases h4
      | some r4 =>
       obtain ⟨w, c4⟩ := r4
       rw [g5] at h4
       simp only [Option.some.injEq, Prod.mk.injEq] at h4
       obtain ⟨rfl, rfl⟩ := h4
       obtain ⟨rfl, _⟩ := numB_rdN g1
       obtain ⟨rfl, _⟩ := numB_rdN g2
       obtain ⟨rfl, _⟩ := numB_rdN g3
       obtain ⟨rfl, _⟩ := numB_rdN g5
       simp [entB, List.append_assoc]
  ·cases h
theorem rdE_short {b b' : Bs} {e : Ent} (h : rdE b = some (e, b')) : b'.length < b.length := by
 obtain ⟨rfl, _⟩ := entB_rdE h
 have := entB_pos (e := e)
 rw [List.length_append]; omega
def unpackN : Nat → Bs → Option (List Ent)
 | _, [] => some []
 | 0, _ :: _ => none
 | n + 1, x :: b => match rdE (x :: b) with
  | none => none
  | some (e, b') => (unpackN n b').map (e :: ·)
def unpack (b : Bs) : Option (List Ent) := unpackN b.length b
theorem unpackN_iff : ∀ (n : Nat) (b : Bs) (l : List Ent), b.length ≤ n → (unpackN n b = some l ↔ b = encL l ∧ ∀ e ∈ l, entOk e = true)
 | n, [], l, h => by
  constructor
  ·intro h; cases n <;> (simp only [unpackN, Option.some.injEq] at h; subst h; exact ⟨rfl, by simp⟩)
  ·rintro ⟨h1, h2⟩
   cases l with
   | nil => cases n <;> rfl
   | cons e l =>
    have := entB_pos (e := e)
    have := congrArg List.length h1
    simp [encL] at this; omega
 | 0, x :: b, l, h => by simp at h
 | n + 1, x :: b, l, h => by
  unfold unpackN
  constructor
  ·intro h1
   cases hr : rdE (x :: b) with
   | none => rw [hr] at h1; cases h1
   | some r =>
    obtain ⟨e, b'⟩ := r
    rw [hr] at h1
    simp only [Option.map_eq_some_iff] at h1
    obtain ⟨l', hl', rfl⟩ := h1
    have hs := rdE_short hr
    obtain ⟨hb, hok⟩ := entB_rdE hr
    obtain ⟨g1, g2⟩ := (unpackN_iff n b' l' (by simp at h hs; omega)).1 hl'
    refine ⟨by rw [hb, g1]; simp [encL], ?_⟩
    intro e' he'
    rcases List.mem_cons.1 he' with rfl | he'
    ·exact hok
    ·exact g2 _ he'
  ·rintro ⟨h1, h2⟩
   cases l with
   | nil => simp [encL] at h1
   | cons e l =>
    have e1 : x :: b = entB e ++ encL l := by rw [h1]; simp [encL]
    rw [e1, rdE_entB (h2 e (by simp))]
    simp only [Option.map_eq_some_iff]
    have hp := entB_pos (e := e)
    have hl : (encL l).length ≤ n := by
     have := congrArg List.length e1
     rw [List.length_append] at this; simp at this h; omega
    exact ⟨l, (unpackN_iff n _ l hl).2 ⟨rfl, fun e' he' => h2 e' (by simp [he'])⟩, rfl⟩
theorem unpack_iff {b : Bs} {l : List Ent} : unpack b = some l ↔ b = encL l ∧ ∀ e ∈ l, entOk e = true := unpackN_iff _ _ _ (Nat.le_refl _)
theorem unpack_enc {l : List Ent} (h : ∀ e ∈ l, entOk e = true) : unpack (encL l) = some l := unpack_iff.2 ⟨rfl, h⟩
theorem unpack_app {l : List Ent} (h : ∀ e ∈ l, entOk e = true) {b : Bs} : unpack (encL l ++ b) = (unpack b).map (l ++ ·) := by
 cases hu : unpack b with
 | some m =>
  obtain ⟨rfl, h2⟩ := unpack_iff.1 hu
  rw [← encL_append]
  exact unpack_enc fun e he => (List.mem_append.1 he).elim (h e) (h2 e)
 | none =>
  cases hx : unpack (encL l ++ b) with
  | none => rfl
  | some m =>
   exfalso
   obtain ⟨h1, h2⟩ := unpack_iff.1 hx
   clear hx
   induction l generalizing m with
   | nil =>
    rw [show encL ([] : List Ent) = [] by rfl, List.nil_append] at h1
    rw [unpack_iff.2 ⟨h1, h2⟩] at hu; cases hu
   | cons e l ih =>
    cases m with
    | nil =>
     have := congrArg List.length h1
     have hp := entB_pos (e := e)
     simp only [encL, List.flatMap_cons, List.flatMap_nil, List.length_append, List.length_nil] at this; omega
    | cons e' m =>
     have e1 : entB e ++ (encL l ++ b) = entB e' ++ encL m := by
      have : encL (e :: l) = entB e ++ encL l := by simp [encL]
      rw [this, List.append_assoc] at h1
      rw [h1]; simp [encL]
     have e2 := congrArg rdE e1
     rw [rdE_entB (h e (by simp)), rdE_entB (h2 e' (by simp))] at e2
     simp only [Option.some.injEq, Prod.mk.injEq] at e2
     exact ih (fun x hx => h x (by simp [hx])) m e2.2 (fun x hx => h2 x (by simp [hx]))
theorem unpack_none {b : Bs} (hne : b ≠ []) (h : rdE b = none) : unpack b = none := by
 cases b with
 | nil => exact absurd rfl hne
 | cons x b => unfold unpack; rw [List.length_cons, unpackN, h]
abbrev Gs := List (List Ent)
def pStep (s : Gs × List Ent) (e : Ent) : Gs × List Ent := if (encL s.2).length + (entB e).length > 43 then (s.1 ++ [s.2], [e]) else (s.1, s.2 ++ [e])
def pRun (l : List Ent) : Gs × List Ent := l.foldl pStep ([], [])
def pFin (s : Gs × List Ent) : Gs := if s.2 = [] then s.1 else s.1 ++ [s.2]
def packG (l : List Ent) : Gs := pFin (pRun l)
theorem pRun_snoc {l : List Ent} {e : Ent} : pRun (l ++ [e]) = pStep (pRun l) e := by simp [pRun]
theorem snoc_ind {α : Type} {P : List α → Prop} (h0 : P []) (h1 : ∀ l x, P l → P (l ++ [x])) (l : List α) : P l := by
 have : ∀ m : List α, P m.reverse := by
  intro m
  induction m with
  | nil => exact h0
  | cons x m ih => rw [List.reverse_cons]; exact h1 _ _ ih
 simpa using this l.reverse
theorem pRun_flat (l : List Ent) : (pRun l).1.flatten ++ (pRun l).2 = l := by
 induction l using snoc_ind with
 | h0 => rfl
 | h1 l e ih =>
  rw [pRun_snoc]
  unfold pStep
  split
  ·simp only [List.flatten_append, List.flatten_cons, List.flatten_nil, List.append_nil]
   rw [ih]
  ·simp only
   rw [← List.append_assoc, ih]
theorem ok_snoc {l : List Ent} {e : Ent} (h : ∀ x ∈ l ++ [e], entOk x = true) : (∀ x ∈ l, entOk x = true) ∧ entOk e = true := ⟨fun x hx => h x (by simp [hx]), h e (by simp)⟩
theorem pRun_fit (l : List Ent) (hok : ∀ e ∈ l, entOk e = true) : (∀ g ∈ (pRun l).1, g ≠ [] ∧ (encL g).length ≤ 43) ∧ (encL (pRun l).2).length ≤ 43 := by
 induction l using snoc_ind with
 | h0 => simp [pRun, encL]
 | h1 l e ih =>
  obtain ⟨h1, h2⟩ := ok_snoc hok
  obtain ⟨i1, i2⟩ := ih h1
  have he := entB_len h2
  rw [pRun_snoc]
  unfold pStep
  split
  ·rename_i h
   refine ⟨fun g hg => ?_, by rw [encL_one]; omega⟩
   rcases List.mem_append.1 hg with hg | hg
   ·exact i1 g hg
   ·simp at hg; subst hg
    refine ⟨fun h0 => ?_, i2⟩
    rw [h0] at h
    simp [encL] at h; omega
  ·rename_i h
   refine ⟨i1, ?_⟩
   rw [encL_append, encL_one, List.length_append]; omega
theorem packG_flat (l : List Ent) : (packG l).flatten = l := by
 have := pRun_flat l
 unfold packG pFin
 split
 ·rename_i h; rw [h, List.append_nil] at this; exact this
 ·rw [List.flatten_append]; simpa using this
theorem packG_fit {l : List Ent} (hok : ∀ e ∈ l, entOk e = true) : ∀ g ∈ packG l, g ≠ [] ∧ (encL g).length ≤ 43 := by
 obtain ⟨h1, h2⟩ := pRun_fit l hok
 unfold packG pFin
 split
 ·exact h1
 ·rename_i h
  intro g hg
  rcases List.mem_append.1 hg with hg | hg
  ·exact h1 g hg
  ·simp at hg; subst hg; exact ⟨h, h2⟩
theorem packG_ok {l : List Ent} (hok : ∀ e ∈ l, entOk e = true) : ∀ g ∈ packG l, ∀ e ∈ g, entOk e = true := fun g hg e he => hok e (by rw [← packG_flat l]; exact List.mem_flatten.2 ⟨g, hg, he⟩)
theorem flat_len {gs : Gs} (h : ∀ g ∈ gs, g ≠ []) : gs.length ≤ gs.flatten.length := by
 induction gs with
 | nil => simp
 | cons g gs ih =>
  have h1 := ih fun x hx => h x (by simp [hx])
  have h2 : g.length ≠ 0 := fun h0 => h g (by simp) (List.eq_nil_of_length_eq_zero h0)
  simp only [List.flatten_cons, List.length_append, List.length_cons] at *; omega
theorem packG_len {l : List Ent} (hok : ∀ e ∈ l, entOk e = true) : (packG l).length ≤ l.length := by
 have := flat_len (gs := packG l) fun g hg => (packG_fit hok g hg).1
 rwa [packG_flat] at this
theorem flat_sizes {α : Type} : ∀ {a b : List (List α)}, a.flatten = b.flatten → a.map List.length = b.map List.length → a = b
 | [], [], _, _ => rfl
 | [], _ :: _, _, h => by simp at h
 | _ :: _, [], _, h => by simp at h
 | x :: a, y :: b, h, hl => by
  simp only [List.map_cons, List.cons.injEq] at hl
  simp only [List.flatten_cons] at h
  obtain ⟨h1, h2⟩ := List.append_inj h hl.1
  rw [h1, flat_sizes h2 hl.2]
end Go.Ent
namespace Go.Crc
set_option linter.unusedVariables false
set_option linter.unusedSimpArgs false
abbrev W := BitVec 32
abbrev poly : W := 0xedb88320#32
def step (c : W) : W := (c >>> 1) ^^^ (if c.getLsbD 0 then poly else 0#32)
theorem step_xor (a b : W) : step (a ^^^ b) = step a ^^^ step b := by
 unfold step
 rw [BitVec.ushiftRight_xor_distrib, BitVec.getLsbD_xor]
 cases a.getLsbD 0 <;> cases b.getLsbD 0 <;> simp only [Bool.xor_true, Bool.xor_false, Bool.false_eq_true, Bool.not_true, Bool.not_false, if_true, if_false, BitVec.xor_zero]
 ·rw [BitVec.xor_assoc]
 ·rw [BitVec.xor_assoc, BitVec.xor_assoc, BitVec.xor_comm poly]
 ·rw [BitVec.xor_assoc (a >>> 1) poly, ← BitVec.xor_assoc poly (b >>> 1) poly, BitVec.xor_comm poly (b >>> 1), BitVec.xor_assoc (b >>> 1), BitVec.xor_self, BitVec.xor_zero]
theorem step_zero : step 0#32 = 0#32 := by decide
theorem step_inj {c : W} (h : step c = 0#32) : c = 0#32 := by
 unfold step at h
 cases h0 : c.getLsbD 0
 ·rw [h0] at h
  simp only [Bool.false_eq_true, if_false, BitVec.xor_zero] at h
  apply BitVec.eq_of_getLsbD_eq
  intro i hi
  cases i with
  | zero => rw [h0]; simp
  | succ i =>
   have := congrArg (fun x : W => x.getLsbD i) h
   simp only [BitVec.getLsbD_ushiftRight] at this
   rw [show i + 1 = 1 + i by omega]
   simpa using this
 ·rw [h0] at h
  simp only [if_true] at h
  have := congrArg (fun x : W => x.getLsbD 31) h
  simp only [BitVec.getLsbD_xor, BitVec.getLsbD_ushiftRight] at this
  rw [show (1 + 31) = 32 by rfl, BitVec.getLsbD_of_ge c 32 (by omega)] at this
  exact absurd this (by decide)
def steps : Nat → W → W
 | 0, c => c
 | n + 1, c => step (steps n c)
theorem steps_xor : ∀ (n : Nat) (a b : W), steps n (a ^^^ b) = steps n a ^^^ steps n b
 | 0, a, b => rfl
 | n + 1, a, b => by simp only [steps, steps_xor n, step_xor]
theorem steps_zero : ∀ n, steps n 0#32 = 0#32
 | 0 => rfl
 | n + 1 => by rw [steps, steps_zero n, step_zero]
theorem steps_inj : ∀ {n : Nat} {c : W}, steps n c = 0#32 → c = 0#32
 | 0, c, h => h
 | n + 1, c, h => steps_inj (step_inj h)
theorem steps_add : ∀ (m n : Nat) (c : W), steps (m + n) c = steps m (steps n c)
 | 0, n, c => by rw [Nat.zero_add]; rfl
 | m + 1, n, c => by rw [show m + 1 + n = (m + n) + 1 by omega, steps, steps_add m n, steps]
def b1 (d : Bool) : W := if d then 1#32 else 0#32
def proc (c : W) (l : List Bool) : W := l.foldl (fun c d => step (c ^^^ b1 d)) c
theorem proc_append (c : W) (a b : List Bool) : proc c (a ++ b) = proc (proc c a) b := by simp [proc]
theorem proc_zeros (c : W) : ∀ n, proc c (List.replicate n false) = steps n c
 | 0 => rfl
 | n + 1 => by
  rw [List.replicate_succ', proc_append, proc_zeros c n]
  show step (steps n c ^^^ b1 false) = _
  rw [b1, if_neg (by simp), BitVec.xor_zero]; rfl
theorem proc_xor : ∀ (l m : List Bool) (a b : W), l.length = m.length → proc (a ^^^ b) (List.zipWith xor l m) = proc a l ^^^ proc b m
 | [], [], a, b, _ => rfl
 | x :: l, y :: m, a, b, h => by
  show proc (step (a ^^^ b ^^^ b1 (xor x y))) _ = proc (step (a ^^^ b1 x)) l ^^^ proc (step (b ^^^ b1 y)) m
  rw [← proc_xor l m _ _ (by simpa using h), ← step_xor]
  congr 2
  have : b1 (xor x y) = b1 x ^^^ b1 y := by cases x <;> cases y <;> decide
  rw [this, BitVec.xor_assoc, BitVec.xor_assoc, ← BitVec.xor_assoc b, BitVec.xor_comm b (b1 x), BitVec.xor_assoc]
theorem one_down : ∀ k, k < 32 → steps k (1#32 <<< k) = 1#32 := by decide
def bitsOf (w : W) (k : Nat) : List Bool := (List.range k).map w.getLsbD
def lowW (w : W) (k : Nat) : W := w &&& (BitVec.allOnes 32 >>> (32 - k))
theorem lowW_get {w : W} {k i : Nat} (hk : k ≤ 32) : (lowW w k).getLsbD i = (decide (i < k) && w.getLsbD i) := by
 unfold lowW
 rw [BitVec.getLsbD_and, BitVec.getLsbD_ushiftRight, BitVec.getLsbD_allOnes, Bool.and_comm]
 congr 1
 exact decide_eq_decide.2 ⟨fun h => by omega, fun h => by omega⟩
theorem lowW_succ {w : W} {k : Nat} (hk : k < 32) : lowW w (k + 1) = lowW w k ^^^ (b1 (w.getLsbD k) <<< k) := by
 apply BitVec.eq_of_getLsbD_eq
 intro i hi
 rw [BitVec.getLsbD_xor, lowW_get (by omega), lowW_get (by omega), BitVec.getLsbD_shiftLeft]
 have hb : ∀ j, (b1 (w.getLsbD k)).getLsbD j = (decide (j = 0) && w.getLsbD k) := by
  intro j
  unfold b1
  cases w.getLsbD k
  ·simp
  ·simp [BitVec.getLsbD_one]
 rw [hb]
 by_cases h1 : i < k
 ·simp [h1, show i < k + 1 by omega]
 ·by_cases h2 : i = k
  ·subst h2; simp [hi]
  ·simp [h1, show ¬ i < k + 1 by omega, show ¬ i - k = 0 by omega]
theorem lowW_all {w : W} : lowW w 32 = w := by
 apply BitVec.eq_of_getLsbD_eq
 intro i hi
 rw [lowW_get (by omega)]; simp [hi]
theorem steps_b1 {d : Bool} {k : Nat} (hk : k < 32) : steps k (b1 d <<< k) = b1 d := by
 cases d
 ·show steps k (0#32 <<< k) = 0#32
  rw [BitVec.zero_shiftLeft, steps_zero]
 ·exact one_down k hk
theorem proc_word (c w : W) : ∀ k, k ≤ 32 → proc c (bitsOf w k) = steps k (c ^^^ lowW w k)
 | 0, _ => by
  have : lowW w 0 = 0#32 := by
   apply BitVec.eq_of_getLsbD_eq
   intro i hi; rw [lowW_get (by omega)]; simp
  rw [this, BitVec.xor_zero]; rfl
 | k + 1, hk => by
  unfold bitsOf
  rw [List.range_succ, List.map_append, proc_append]
  have ih := proc_word c w k (by omega)
  unfold bitsOf at ih
  rw [ih, lowW_succ (by omega), ← BitVec.xor_assoc, steps, steps_xor k _ (b1 (w.getLsbD k) <<< k), steps_b1 (by omega)]
  rfl
def wordOf (f : Nat → Bool) : Nat → W
 | 0 => 0#32
 | k + 1 => wordOf f k ^^^ (b1 (f k) <<< k)
theorem b1_get {d : Bool} {j : Nat} : (b1 d).getLsbD j = (decide (j = 0) && d) := by
 unfold b1
 cases d
 ·simp
 ·simp [BitVec.getLsbD_one]
theorem wordOf_get {f : Nat → Bool} : ∀ {k i : Nat}, k ≤ 32 → (wordOf f k).getLsbD i = (decide (i < k) && f i)
 | 0, i, _ => by simp [wordOf]
 | k + 1, i, h => by
  rw [wordOf, BitVec.getLsbD_xor, wordOf_get (by omega), BitVec.getLsbD_shiftLeft, b1_get]
  by_cases h1 : i < k
  ·simp [h1, show i < k + 1 by omega]
  ·by_cases h2 : i = k
   ·subst h2; simp [show i < 32 by omega]
   ·simp [h1, show ¬ i < k + 1 by omega, show ¬ i - k = 0 by omega]
theorem burst {l : List Bool} {a : Nat} (h0 : ∀ i, i < a → l.getD i false = false) (h1 : ∀ i, a + 32 ≤ i → l.getD i false = false) (hp : proc 0#32 l = 0#32) : ∀ i, l.getD i false = false := by
 let w : W := wordOf (fun i => l.getD (a + i) false) 32
 have hw : ∀ i, i < 32 → w.getLsbD i = l.getD (a + i) false := by
  intro i hi
  show (wordOf _ 32).getLsbD i = _
  rw [wordOf_get (by omega), decide_eq_true hi, Bool.true_and]
 have e : l ++ List.replicate (a + 32) false = List.replicate a false ++ bitsOf w 32 ++ List.replicate l.length false := by
  apply List.ext_getElem?
  intro i
  have hl : ∀ j, j < l.length → l[j]? = some (l.getD j false) := fun j hj => by rw [List.getD_eq_getElem?_getD, List.getElem?_eq_getElem hj]; rfl
  by_cases hi : i < a + 32 + l.length
  ·have e1 : (l ++ List.replicate (a + 32) false)[i]? = some (l.getD i false) := by
    rw [List.getElem?_append]
    split
    ·rename_i h; exact hl i h
    ·rename_i h
     rw [List.getElem?_replicate, if_pos (by omega), List.getD_eq_getElem?_getD, List.getElem?_eq_none (by omega)]; rfl
   rw [e1, List.append_assoc, List.getElem?_append]
   split
   ·rename_i h
    simp only [List.length_replicate] at h
    rw [List.getElem?_replicate, if_pos h, h0 i h]
   ·rename_i h
    simp only [List.length_replicate] at h ⊢
    rw [List.getElem?_append]
    have hlen : (bitsOf w 32).length = 32 := by simp [bitsOf]
    split
    ·rename_i h2
     rw [hlen] at h2
     unfold bitsOf
     rw [List.getElem?_map, List.getElem?_range h2]
     simp only [Option.map_some]
     rw [hw _ h2]; congr 2; omega
    ·rename_i h2
     rw [hlen] at h2 ⊢
     rw [List.getElem?_replicate, if_pos (by omega), h1 i (by omega)]
  ·rw [List.getElem?_eq_none (by simp; omega), List.getElem?_eq_none (by simp [bitsOf]; omega)]
 have e2 : proc 0#32 (l ++ List.replicate (a + 32) false) = 0#32 := by rw [proc_append, hp, proc_zeros, steps_zero]
 rw [e, proc_append, proc_append, proc_zeros, proc_zeros, steps_zero, proc_word _ _ 32 (by omega)] at e2
 have e3 := steps_inj (steps_inj e2)
 rw [lowW_all, BitVec.zero_xor] at e3
 intro i
 by_cases g1 : i < a
 ·exact h0 i g1
 ·by_cases g2 : a + 32 ≤ i
  ·exact h1 i g2
  ·have := hw (i - a) (by omega)
   rw [e3, show a + (i - a) = i by omega] at this
   simpa using this.symm
abbrev Bs := List UInt8
def ofB (b : UInt8) : W := BitVec.ofNat 32 b.toNat
def byteStep (c : W) (b : UInt8) : W := steps 8 (c ^^^ ofB b)
def reg (c : W) (l : Bs) : W := l.foldl byteStep c
def bitsB (b : UInt8) : List Bool := bitsOf (ofB b) 8
def bitsL (l : Bs) : List Bool := l.flatMap bitsB
theorem ofB_low {b : UInt8} : lowW (ofB b) 8 = ofB b := by
 apply BitVec.eq_of_getLsbD_eq
 intro i hi
 rw [lowW_get (by omega)]
 by_cases h : i < 8
 ·simp [h]
 ·have : (ofB b).getLsbD i = false := by
   unfold ofB
   rw [BitVec.getLsbD_ofNat]
   have : b.toNat < 2 ^ i := Nat.lt_of_lt_of_le b.toNat_lt (Nat.pow_le_pow_right (by omega) (by omega : 8 ≤ i))
   simp [Nat.testBit_lt_two_pow this]
  simp [h, this]
theorem byteStep_proc (c : W) (b : UInt8) : byteStep c b = proc c (bitsB b) := by
 unfold byteStep bitsB
 rw [proc_word _ _ 8 (by omega), ofB_low]
theorem reg_proc (c : W) : ∀ l : Bs, reg c l = proc c (bitsL l)
 | [] => rfl
 | b :: l => by
  show reg (byteStep c b) l = _
  rw [reg_proc _ l, byteStep_proc]
  show _ = proc c (bitsB b ++ bitsL l)
  rw [proc_append]
theorem reg_append (c : W) (a b : Bs) : reg c (a ++ b) = reg (reg c a) b := by simp [reg]
theorem bitsL_len : ∀ l : Bs, (bitsL l).length = 8 * l.length
 | [] => rfl
 | b :: l => by
  show (bitsB b ++ bitsL l).length = _
  rw [List.length_append, bitsL_len l]; simp [bitsB, bitsOf]; omega
theorem bitsL_get : ∀ (l : Bs) (i : Nat), (bitsL l).getD i false = (l.getD (i / 8) 0).toNat.testBit (i % 8)
 | [], i => by simp [bitsL]
 | b :: l, i => by
  show (bitsB b ++ bitsL l).getD i false = _
  rw [List.getD_eq_getElem?_getD, List.getElem?_append]
  have hl : (bitsB b).length = 8 := by simp [bitsB, bitsOf]
  split
  ·rename_i h
   rw [hl] at h
   unfold bitsB bitsOf
   rw [List.getElem?_map, List.getElem?_range h]
   rw [show i / 8 = 0 by omega, Nat.mod_eq_of_lt h]
   simp only [Option.map_some, Option.getD_some, List.getD_cons_zero]
   unfold ofB
   rw [BitVec.getLsbD_ofNat]
   simp [show i < 32 by omega]
  ·rename_i h
   rw [hl] at h ⊢
   rw [← List.getD_eq_getElem?_getD, bitsL_get l]
   rw [show i / 8 = (i - 8) / 8 + 1 by omega, List.getD_cons_succ]
   congr 1; omega
def more (s : W) (l : Bs) : W := ~~~ reg (~~~ s) l
def sum (l : Bs) : W := more 0#32 l
def tail (s : W) : Bs := [UInt8.ofNat s.toNat, UInt8.ofNat (s.toNat / 256), UInt8.ofNat (s.toNat / 65536), UInt8.ofNat (s.toNat / 16777216)]
theorem tail_len {s : W} : (tail s).length = 4 := rfl
theorem tail_bits (s : W) : bitsL (tail s) = bitsOf s 32 := by
 apply List.ext_getElem?
 intro i
 by_cases hi : i < 32
 ·have e1 : (bitsL (tail s))[i]? = some ((bitsL (tail s)).getD i false) := by
   rw [List.getD_eq_getElem?_getD, List.getElem?_eq_getElem (by rw [bitsL_len]; simp [tail]; omega)]; rfl
  rw [e1, bitsL_get]
  unfold bitsOf
  rw [List.getElem?_map, List.getElem?_range hi]
  simp only [Option.map_some, Option.some.injEq]
  have hk : i / 8 = 0 ∨ i / 8 = 1 ∨ i / 8 = 2 ∨ i / 8 = 3 := by omega
  have hm : i % 8 < 8 := by omega
  have hs : s.getLsbD i = s.toNat.testBit i := rfl
  rw [hs]
  have key : ∀ k, (UInt8.ofNat (s.toNat / 256 ^ k)).toNat.testBit (i % 8) = s.toNat.testBit (8 * k + i % 8) := by
   intro k
   rw [show (UInt8.ofNat (s.toNat / 256 ^ k)).toNat = s.toNat / 2 ^ (8 * k) % 2 ^ 8 by rw [Nat.pow_mul]; simp]
   rw [Nat.testBit_mod_two_pow, Nat.testBit_div_two_pow]
   simp [hm, Nat.add_comm]
  rcases hk with h | h | h | h <;> rw [h]
  ·have := key 0
   rw [Nat.pow_zero, Nat.div_one] at this
   simp only [tail, List.getD_cons_zero]
   rw [this]; congr 1; omega
  ·have := key 1
   simp only [tail, List.getD_cons_succ, List.getD_cons_zero]
   rw [show (256 : Nat) = 256 ^ 1 by rfl, this]; congr 1; omega
  ·have := key 2
   simp only [tail, List.getD_cons_succ, List.getD_cons_zero]
   rw [show (65536 : Nat) = 256 ^ 2 by rfl, this]; congr 1; omega
  ·have := key 3
   simp only [tail, List.getD_cons_succ, List.getD_cons_zero]
   rw [show (16777216 : Nat) = 256 ^ 3 by rfl, this]; congr 1; omega
 ·rw [List.getElem?_eq_none (by rw [bitsL_len]; simp [tail]; omega), List.getElem?_eq_none (by simp [bitsOf]; omega)]
theorem sealed (l : Bs) : proc (BitVec.allOnes 32) (bitsL (l ++ tail (sum l))) = steps 32 (BitVec.allOnes 32) := by
 have e : bitsL (l ++ tail (sum l)) = bitsL l ++ bitsOf (sum l) 32 := by
  rw [← tail_bits]; simp [bitsL]
 rw [e, proc_append, proc_word _ _ 32 (by omega), lowW_all, ← reg_proc]
 unfold sum more
 have h0 : (~~~ (0#32 : W)) = BitVec.allOnes 32 := by decide
 rw [h0]
 congr 1
 apply BitVec.eq_of_getLsbD_eq
 intro i hi
 rw [BitVec.getLsbD_xor, BitVec.getLsbD_not, BitVec.getLsbD_allOnes]
 simp [hi]
theorem sealed_burst {l m : Bs} (hl : l.length = m.length) {a : Nat} (h : ∀ i, (i < a ∨ a + 32 ≤ i) → ((l ++ tail (sum l)).getD (i / 8) 0).toNat.testBit (i % 8) = ((m ++ tail (sum m)).getD (i / 8) 0).toNat.testBit (i % 8)) : l ++ tail (sum l) = m ++ tail (sum m) := by
 let L := l ++ tail (sum l)
 let M := m ++ tail (sum m)
 have hLM : L.length = M.length := by simp [L, M, tail_len, hl]
 have hb : (bitsL L).length = (bitsL M).length := by rw [bitsL_len, bitsL_len, hLM]
 have hz : proc 0#32 (List.zipWith xor (bitsL L) (bitsL M)) = 0#32 := by
  have := proc_xor (bitsL L) (bitsL M) (BitVec.allOnes 32) (BitVec.allOnes 32) hb
  rw [BitVec.xor_self] at this
  rw [this, sealed, sealed, BitVec.xor_self]
 have hg : ∀ i, (List.zipWith xor (bitsL L) (bitsL M)).getD i false = xor ((bitsL L).getD i false) ((bitsL M).getD i false) := by
  intro i
  rw [List.getD_eq_getElem?_getD, List.getElem?_zipWith, List.getD_eq_getElem?_getD, List.getD_eq_getElem?_getD]
  by_cases hi : i < (bitsL L).length
  ·rw [List.getElem?_eq_getElem hi, List.getElem?_eq_getElem (by omega)]; rfl
  ·rw [List.getElem?_eq_none (by omega), List.getElem?_eq_none (by omega)]; rfl
 have hall := burst (l := List.zipWith xor (bitsL L) (bitsL M)) (a := a) (fun i hi => by rw [hg, bitsL_get, bitsL_get, h i (.inl hi), Bool.xor_self]) (fun i hi => by rw [hg, bitsL_get, bitsL_get, h i (.inr hi), Bool.xor_self]) hz
 have same : ∀ j k, k < 8 → (L.getD j 0).toNat.testBit k = (M.getD j 0).toNat.testBit k := by
  intro j k hk
  have := hall (8 * j + k)
  rw [hg, bitsL_get, bitsL_get, show (8 * j + k) / 8 = j by omega, show (8 * j + k) % 8 = k by omega] at this
  simpa using this
 show L = M
 apply List.ext_getElem?
 intro j
 by_cases hj : j < L.length
 ·have e : (L.getD j 0).toNat = (M.getD j 0).toNat := by
   apply Nat.eq_of_testBit_eq
   intro k
   by_cases hk : k < 8
   ·exact same j k hk
   ·have h1 : (L.getD j 0).toNat < 2 ^ k := Nat.lt_of_lt_of_le (UInt8.toNat_lt _) (Nat.pow_le_pow_right (by omega) (by omega : 8 ≤ k))
    have h2 : (M.getD j 0).toNat < 2 ^ k := Nat.lt_of_lt_of_le (UInt8.toNat_lt _) (Nat.pow_le_pow_right (by omega) (by omega : 8 ≤ k))
    rw [Nat.testBit_lt_two_pow h1, Nat.testBit_lt_two_pow h2]
  have e' := UInt8.toNat_inj.1 e
  rw [List.getD_eq_getElem?_getD, List.getD_eq_getElem?_getD, List.getElem?_eq_getElem hj, List.getElem?_eq_getElem (by omega)] at e'
  rw [List.getElem?_eq_getElem hj, List.getElem?_eq_getElem (by omega)]
  simpa using e'
 ·rw [List.getElem?_eq_none (by omega), List.getElem?_eq_none (by omega)]
def tbl : List Nat := [0x00000000, 0x1db71064, 0x3b6e20c8, 0x26d930ac, 0x76dc4190, 0x6b6b51f4, 0x4db26158, 0x5005713c, 0xedb88320, 0xf00f9344, 0xd6d6a3e8, 0xcb61b38c, 0x9b64c2b0, 0x86d3d2d4, 0xa00ae278, 0xbdbdf21c]
theorem tbl_ok : ∀ n, n < 16 → steps 4 (BitVec.ofNat 32 n) = BitVec.ofNat 32 (tbl.getD n 0) := by decide
theorem step_even {c : W} (h : c.getLsbD 0 = false) : step c = c >>> 1 := by
 unfold step; rw [h]; simp
theorem half (c : W) : steps 4 c = BitVec.ofNat 32 (tbl.getD (c.toNat % 16) 0) ^^^ (c >>> 4) := by
 have e : c = BitVec.ofNat 32 (c.toNat % 16) ^^^ ((c >>> 4) <<< 4) := by
  apply BitVec.eq_of_getLsbD_eq
  intro i hi
  rw [BitVec.getLsbD_xor, BitVec.getLsbD_ofNat, BitVec.getLsbD_shiftLeft, BitVec.getLsbD_ushiftRight]
  rw [show (16 : Nat) = 2 ^ 4 by rfl, Nat.testBit_mod_two_pow]
  by_cases h : i < 4
  ·simp [h, hi]; rfl
  ·simp [h, hi, show 4 + (i - 4) = i by omega]
 have e2 : steps 4 ((c >>> 4) <<< 4) = c >>> 4 := by
  have g : ∀ k i, k < 4 → i < 4 - k → (((c >>> 4) <<< 4) >>> k).getLsbD i = false := by
   intro k i hk hi
   rw [BitVec.getLsbD_ushiftRight, BitVec.getLsbD_shiftLeft]
   simp [show k + i < 4 by omega]
  have s1 : step ((c >>> 4) <<< 4) = ((c >>> 4) <<< 4) >>> 1 := step_even (by simp)
  have s2 : step (((c >>> 4) <<< 4) >>> 1) = ((c >>> 4) <<< 4) >>> 2 := by rw [step_even (g 1 0 (by omega) (by omega)), ← BitVec.shiftRight_add]
  have s3 : step (((c >>> 4) <<< 4) >>> 2) = ((c >>> 4) <<< 4) >>> 3 := by rw [step_even (g 2 0 (by omega) (by omega)), ← BitVec.shiftRight_add]
  have s4 : step (((c >>> 4) <<< 4) >>> 3) = ((c >>> 4) <<< 4) >>> 4 := by rw [step_even (g 3 0 (by omega) (by omega)), ← BitVec.shiftRight_add]
  show step (step (step (step ((c >>> 4) <<< 4)))) = _
  rw [s1, s2, s3, s4]
  apply BitVec.eq_of_getLsbD_eq
  intro i hi
  rw [BitVec.getLsbD_ushiftRight, BitVec.getLsbD_shiftLeft, BitVec.getLsbD_ushiftRight]
  by_cases h : 4 + i < 32
  ·simp [h, show ¬ 4 + i < 4 by omega, show 4 + i - 4 = i by omega]
  ·have : (c >>> 4).getLsbD i = false := by rw [BitVec.getLsbD_ushiftRight]; exact BitVec.getLsbD_of_ge c (4 + i) (by omega)
   rw [this]; simp [h]
 conv => lhs; rw [e]
 rw [steps_xor, e2, tbl_ok _ (Nat.mod_lt _ (by omega))]
end Go.Crc
namespace Go.Page
open Go.Num Go.Crc
abbrev Bs := List UInt8
set_option linter.unusedVariables false
set_option linter.unusedSimpArgs false
abbrev maxTag : Nat := 4611686018427387903
def body (tag : Nat) (b : Bs) : Bs := beL tag 8 ++ (UInt8.ofNat b.length :: (b ++ List.replicate (43 - b.length) 0))
def put (tag : Nat) (b : Bs) : Bs := body tag b ++ tail (sum (body tag b)) ++ beL tag 8
theorem body_len {tag : Nat} {b : Bs} (h : b.length ≤ 43) : (body tag b).length = 52 := by
 simp [body, beL_len]; omega
theorem put_len {tag : Nat} {b : Bs} (h : b.length ≤ 43) : (put tag b).length = 64 := by
 simp [put, body_len h, beL_len, tail_len]
theorem put_head {tag : Nat} {b : Bs} : (put tag b).take 8 = beL tag 8 := by
 unfold put body
 rw [List.append_assoc, List.append_assoc, List.take_append_of_le_length (by simp [beL_len]), List.take_of_length_le (by simp [beL_len])]
theorem put_foot {tag : Nat} {b : Bs} (h : b.length ≤ 43) : (put tag b).drop 56 = beL tag 8 := by
 unfold put
 rw [List.drop_append_of_le_length (by simp [body_len h, tail_len]), List.drop_of_length_le (by simp [body_len h, tail_len])]; rfl
theorem put_size {tag : Nat} {b : Bs} : (put tag b)[8]? = some (UInt8.ofNat b.length) := by
 unfold put body
 rw [List.append_assoc, List.append_assoc, List.getElem?_append_right (by simp [beL_len])]
 simp [beL_len]
theorem put_body {tag : Nat} {b : Bs} : ((put tag b).drop 9).take b.length = b := by
 unfold put body
 rw [List.append_assoc, List.append_assoc, List.drop_append, List.drop_of_length_le (by simp [beL_len])]
 simp [beL_len, List.append_assoc]
def Is (s : Bs) (tag : Nat) (b : Bs) : Prop := b.length ≤ 43 ∧ s = put tag b
def get (s : Bs) (tag : Nat) : Option Bs :=
 let n := (s.getD 8 0).toNat
 if n ≤ 43 ∧ put tag ((s.drop 9).take n) = s then some ((s.drop 9).take n) else none
theorem get_some {s : Bs} {tag : Nat} {b : Bs} : get s tag = some b ↔ Is s tag b := by
 unfold get
 constructor
 ·intro h
  simp only at h
  split at h
  ·rename_i hc
   cases h
   refine ⟨by rw [List.length_take]; omega, hc.2.symm⟩
  ·cases h
 ·rintro ⟨h1, rfl⟩
  have e : ((put tag b).getD 8 0).toNat = b.length := by
   rw [List.getD_eq_getElem?_getD, put_size]; simp; omega
  simp only [e]
  rw [put_body, if_pos ⟨h1, rfl⟩]
theorem get_put {tag : Nat} {b : Bs} (h : b.length ≤ 43) : get (put tag b) tag = some b := get_some.2 ⟨h, rfl⟩
def bitAt (s : Bs) (i : Nat) : Bool := (s.getD (i / 8) 0).toNat.testBit (i % 8)
theorem put_burst {tag a : Nat} {b b' : Bs} (h : b.length ≤ 43) (h' : b'.length ≤ 43) (hd : ∀ i, i < a ∨ a + 32 ≤ i → bitAt (put tag b) i = bitAt (put tag b') i) : put tag b = put tag b' := by
 have e : body tag b ++ tail (sum (body tag b)) = body tag b' ++ tail (sum (body tag b')) := by
  refine sealed_burst (a := a) (by rw [body_len h, body_len h']) fun i hi => ?_
  have hb := hd i hi
  unfold bitAt at hb
  have l1 : (body tag b ++ tail (sum (body tag b))).length = 56 := by simp [body_len h, tail_len]
  have l2 : (body tag b' ++ tail (sum (body tag b'))).length = 56 := by simp [body_len h', tail_len]
  by_cases hj : i / 8 < 56
  ·have e1 : (put tag b).getD (i / 8) 0 = (body tag b ++ tail (sum (body tag b))).getD (i / 8) 0 := by
    unfold put
    rw [List.getD_eq_getElem?_getD, List.getElem?_append_left (by omega), ← List.getD_eq_getElem?_getD]
   have e2 : (put tag b').getD (i / 8) 0 = (body tag b' ++ tail (sum (body tag b'))).getD (i / 8) 0 := by
    unfold put
    rw [List.getD_eq_getElem?_getD, List.getElem?_append_left (by omega), ← List.getD_eq_getElem?_getD]
   rw [← e1, ← e2]; exact hb
  ·rw [List.getD_eq_getElem?_getD, List.getD_eq_getElem?_getD, List.getElem?_eq_none (by omega), List.getElem?_eq_none (by omega)]
 unfold put
 rw [e]
theorem get_burst {s s' : Bs} {tag a : Nat} {b b' : Bs} (h : get s tag = some b) (h' : get s' tag = some b') (hd : ∀ i, i < a ∨ a + 32 ≤ i → bitAt s i = bitAt s' i) : s = s' := by
 obtain ⟨h1, rfl⟩ := get_some.1 h
 obtain ⟨h2, rfl⟩ := get_some.1 h'
 exact put_burst h1 h2 hd
def row (tag : Nat) (b : Bs) : List Bs :=
 if h : b.length ≤ 42 then [put tag (0 :: b)] else put tag (1 :: b.take 42) :: row (tag + 1) (b.drop 42)
termination_by b.length
decreasing_by simp; omega
def unrow : List Bs → Nat → Option (Bs × Nat)
 | [], _ => none
 | s :: l, tag => match get s tag with
  | some (0 :: x) => some (x, 1)
  | some (1 :: x) => if x.length = 42 then (unrow l (tag + 1)).map fun r => (x ++ r.1, r.2 + 1) else none
  | _ => none
end Go.Page
namespace Go.Seg
open Go.Num hiding Bs
open Go.Ent Go.Page
set_option linter.unusedVariables false
set_option linter.unusedSimpArgs false
def headsG (gs : Gs) : List Ent := gs.filterMap List.head?
theorem headsG_cons {g : List Ent} {e : Ent} {l : List Ent} {gs : Gs} (h : g = e :: l) : headsG (g :: gs) = e :: headsG gs := by subst h; rfl
theorem headsG_len : ∀ {gs : Gs}, (∀ g ∈ gs, g ≠ []) → (headsG gs).length = gs.length
 | [], _ => rfl
 | g :: gs, h => by
  cases hg : g with
  | nil => exact absurd hg (h g (by simp))
  | cons e l => rw [headsG_cons rfl, List.length_cons, headsG_len fun x hx => h x (by simp [hx]), List.length_cons]
theorem headsG_get : ∀ {gs : Gs}, (∀ g ∈ gs, g ≠ []) → ∀ (i : Nat) (g : List Ent), gs[i]? = some g → (headsG gs)[i]? = g.head?
 | [], _, i, g, h => by simp at h
 | g0 :: gs, hn, i, g, h => by
  cases hg : g0 with
  | nil => exact absurd hg (hn g0 (by simp))
  | cons e l =>
   rw [headsG_cons rfl]
   cases i with
   | zero => simp at h; subst h; rw [hg]; rfl
   | succ i =>
    have h' : gs[i]? = some g := by simpa using h
    rw [List.getElem?_cons_succ]
    exact headsG_get (fun x hx => hn x (by simp [hx])) i g h'
theorem headsG_mem {gs : Gs} {e : Ent} (h : e ∈ headsG gs) : ∃ g ∈ gs, e ∈ g := by
 obtain ⟨g, hg, he⟩ := List.mem_filterMap.1 h
 exact ⟨g, hg, List.mem_of_mem_head? he⟩
theorem headsG_append {a b : Gs} : headsG (a ++ b) = headsG a ++ headsG b := by simp [headsG]
theorem headsG_sorted {gs : Gs} (h : SortedL gs.flatten) : SortedL (headsG gs) := by
 have : (headsG gs).Sublist gs.flatten := by
  clear h
  induction gs with
  | nil => exact .slnil
  | cons g gs ih =>
   cases g with
   | nil => exact ih
   | cons e l =>
    rw [headsG_cons rfl, List.flatten_cons, List.cons_append]
    exact .cons_cons _ (ih.trans (List.sublist_append_right _ _))
 exact List.Pairwise.sublist this h
def countB (a b c : Nat) : Bs := numB a ++ numB b ++ numB c
def idx (l : List Ent) : Gs := packG (headsG (packG l))
def pagesB (l : List Ent) : List Bs := (packG l).map encL ++ (idx l).map encL ++ [countB l.length (packG l).length (idx l).length]
def putAll : Nat → List Bs → List Bs
 | _, [] => []
 | t, b :: l => put t b :: putAll (t + 1) l
theorem putAll_len : ∀ (t : Nat) (l : List Bs), (putAll t l).length = l.length
 | _, [] => rfl
 | t, b :: l => by simp [putAll, putAll_len]
theorem putAll_get : ∀ (t : Nat) (l : List Bs) (i : Nat), (putAll t l)[i]? = (l[i]?).map (put (t + i))
 | _, [], i => by simp [putAll]
 | t, b :: l, 0 => by simp [putAll]
 | t, b :: l, i + 1 => by
  rw [putAll, List.getElem?_cons_succ, List.getElem?_cons_succ, putAll_get (t + 1) l i]
  congr 2; omega
theorem putAll_append : ∀ (t : Nat) (l m : List Bs), putAll t (l ++ m) = putAll t l ++ putAll (t + l.length) m
 | t, [], m => by simp [putAll]
 | t, b :: l, m => by
  simp only [List.cons_append, putAll, putAll_append (t + 1) l m, List.length_cons]
  congr 3; omega
def sectors (base : Nat) (l : List Ent) : List Bs := putAll base (pagesB l)
def baseOk (base : Int) : Bool := decide (1 ≤ base ∧ base ≤ 2305843009213693952)
theorem idx_ok {l : List Ent} (hok : ∀ e ∈ l, entOk e = true) : ∀ e ∈ headsG (packG l), entOk e = true := fun e he => by
 obtain ⟨g, hg, h⟩ := headsG_mem he
 exact packG_ok hok g hg e h
theorem idx_len {l : List Ent} (hok : ∀ e ∈ l, entOk e = true) : (idx l).length ≤ (packG l).length := by
 have := packG_len (idx_ok hok)
 rwa [headsG_len fun g hg => (packG_fit hok g hg).1] at this
theorem numB_short {n : Nat} (h : n < 1048576) : (numB n).length ≤ 4 := numB_len3 h
theorem pagesB_fit {l : List Ent} (hok : ∀ e ∈ l, entOk e = true) (hl : l.length ≤ 16384) : ∀ b ∈ pagesB l, b.length ≤ 43 := by
 intro b hb
 have h1 := packG_len hok
 have h2 := idx_len hok
 rcases List.mem_append.1 hb with hb | hb
 ·rcases List.mem_append.1 hb with hb | hb
  ·obtain ⟨g, hg, rfl⟩ := List.mem_map.1 hb
   exact (packG_fit hok g hg).2
  ·obtain ⟨g, hg, rfl⟩ := List.mem_map.1 hb
   exact (packG_fit (idx_ok hok) g hg).2
 ·simp at hb; subst hb
  have g1 := numB_short (n := l.length) (by omega)
  have g2 := numB_short (n := (packG l).length) (by omega)
  have g3 := numB_short (n := (idx l).length) (by omega)
  simp only [countB, List.length_append]; omega
theorem pagesB_len {l : List Ent} : (pagesB l).length = (packG l).length + (idx l).length + 1 := by simp [pagesB]; omega
theorem sectors_len {base : Nat} {l : List Ent} : (sectors base l).length = (packG l).length + (idx l).length + 1 := by rw [sectors, putAll_len, pagesB_len]
theorem sectors_get {base : Nat} {l : List Ent} {i : Nat} {s : Bs} (h : (sectors base l)[i]? = some s) : ∃ b ∈ pagesB l, (pagesB l)[i]? = some b ∧ s = put (base + i) b := by
 unfold sectors at h
 rw [putAll_get] at h
 obtain ⟨b, hb, rfl⟩ := Option.map_eq_some_iff.1 h
 exact ⟨b, List.mem_of_getElem? hb, hb, rfl⟩
def packAt (S : List Bs) (base i : Nat) : Option (List Ent) := (S[i]?).bind fun s => (get s (base + i)).bind unpack
def rd3 (b : Bs) : Option (Nat × Nat × Nat) := match rdN b with
 | none => none
 | some (x, b1) => match rdN b1 with
  | none => none
  | some (y, b2) => match rdN b2 with
   | none => none
   | some (z, b3) => if b3 = [] then some (x, y, z) else none
theorem rd3_count {a b c : Nat} (ha : a < 1000000) (hb : b < 1000000) (hc : c < 1000000) : rd3 (countB a b c) = some (a, b, c) := by
 unfold rd3 countB
 rw [List.append_assoc, rdN_numB (by omega)]
 simp only
 rw [rdN_numB (by omega)]
 simp only
 have : numB c = numB c ++ [] := by simp
 rw [this, rdN_numB (by omega)]
 simp
def lastS (S : List Bs) (base : Nat) : Option (Nat × Nat × Nat) :=
 if S = [] then none else (((S[S.length - 1]?).bind fun s => get s (base + (S.length - 1))).bind rd3).bind fun r =>
  if r.2.1 + r.2.2 + 1 = S.length then some r else none
def packsFrom (S : List Bs) (base : Nat) : Nat → Nat → Option Gs
 | _, 0 => some []
 | i, n + 1 => (packAt S base i).bind fun l => (packsFrom S base (i + 1) n).map (l :: ·)
theorem packsFrom_snoc {S : List Bs} {base : Nat} : ∀ {n i : Nat} {gs : Gs} {l : List Ent}, packsFrom S base i n = some gs → packAt S base (i + n) = some l → packsFrom S base i (n + 1) = some (gs ++ [l])
 | 0, i, gs, l, h, hl => by
  simp only [packsFrom, Option.some.injEq] at h
  subst h
  unfold packsFrom
  rw [Nat.add_zero] at hl
  rw [hl]; rfl
 | n + 1, i, gs, l, h, hl => by
  unfold packsFrom at h ⊢
  obtain ⟨l0, h0, h1⟩ := Option.bind_eq_some_iff.1 h
  obtain ⟨gs', h2, rfl⟩ := Option.map_eq_some_iff.1 h1
  rw [h0, Option.bind_some, packsFrom_snoc h2 (by rw [show i + 1 + n = i + (n + 1) by omega]; exact hl)]
  rfl
theorem packsFrom_none {S : List Bs} {base : Nat} : ∀ {n m i : Nat}, n < m → packAt S base (i + n) = none → packsFrom S base i m = none
 | 0, m + 1, i, _, h => by
  unfold packsFrom; rw [Nat.add_zero] at h; rw [h]; rfl
 | n + 1, m + 1, i, hm, h => by
  unfold packsFrom
  rw [packsFrom_none (n := n) (m := m) (i := i + 1) (by omega) (by rw [show i + 1 + n = i + (n + 1) by omega]; exact h)]
  cases packAt S base i <;> rfl
def openS (S : List Bs) (base : Nat) : Option (Nat × List Ent) := (lastS S base).bind fun r => (packsFrom S base r.2.1 r.2.2).bind fun gs =>
 if gs.flatten.length = r.2.1 ∧ SortedL gs.flatten ∧ packG gs.flatten = gs then some (r.1, gs.flatten) else none
def pageS (S : List Bs) (base : Nat) (heads : List Ent) (i : Nat) : Option (List Ent) := (packAt S base i).bind fun l => if l ≠ [] ∧ SortedL l ∧ l.head? = heads[i]? then some l else none
def findS (heads : List Ent) (e : Ent) : Nat := (heads.filter fun h => decide (ltE h e)).length - 1
section
variable {base : Nat} {l : List Ent}
theorem packAt_data (hok : ∀ e ∈ l, entOk e = true) {i : Nat} {g : List Ent} (h : (packG l)[i]? = some g) : packAt (sectors base l) base i = some g := by
 have hi := (List.getElem?_eq_some_iff.1 h).1
 have hb : (pagesB l)[i]? = some (encL g) := by
  unfold pagesB
  rw [List.append_assoc, List.getElem?_append_left (by simpa using hi), List.getElem?_map, h]; rfl
 have hg := List.mem_of_getElem? h
 unfold packAt sectors
 rw [putAll_get, hb]
 simp only [Option.map_some, Option.bind_some]
 rw [get_put (packG_fit hok g hg).2]
 exact unpack_enc (packG_ok hok g hg)
theorem packAt_idx (hok : ∀ e ∈ l, entOk e = true) {i : Nat} {g : List Ent} (h : (idx l)[i]? = some g) : packAt (sectors base l) base ((packG l).length + i) = some g := by
 have hi := (List.getElem?_eq_some_iff.1 h).1
 have hb : (pagesB l)[(packG l).length + i]? = some (encL g) := by
  unfold pagesB
  rw [List.append_assoc, List.getElem?_append_right (by simp), List.length_map, Nat.add_sub_cancel_left, List.getElem?_append_left (by simpa using hi), List.getElem?_map, h]; rfl
 have hg := List.mem_of_getElem? h
 unfold packAt sectors
 rw [putAll_get, hb]
 simp only [Option.map_some, Option.bind_some]
 rw [get_put (packG_fit (idx_ok hok) g hg).2]
 exact unpack_enc (packG_ok (idx_ok hok) g hg)
theorem packsFrom_all {S : List Bs} {base : Nat} : ∀ {gs : Gs} {i : Nat}, (∀ k g, gs[k]? = some g → packAt S base (i + k) = some g) → packsFrom S base i gs.length = some gs
 | [], i, h => rfl
 | g :: gs, i, h => by
  show packsFrom S base i (gs.length + 1) = _
  unfold packsFrom
  rw [show packAt S base i = some g from h 0 g rfl, Option.bind_some, packsFrom_all (gs := gs) fun k g' hk => by
   have := h (k + 1) g' (by simpa using hk)
   rwa [show i + 1 + k = i + (k + 1) by omega]]
  rfl
theorem lastS_sectors (hok : ∀ e ∈ l, entOk e = true) (hl : l.length ≤ 16384) : lastS (sectors base l) base = some (l.length, (packG l).length, (idx l).length) := by
 have hlen := sectors_len (base := base) (l := l)
 have h1 := packG_len hok
 have h2 := idx_len hok
 unfold lastS
 rw [if_neg (by intro h; rw [h] at hlen; simp at hlen), hlen]
 have hb : (pagesB l)[(packG l).length + (idx l).length]? = some (countB l.length (packG l).length (idx l).length) := by
  unfold pagesB
  rw [List.getElem?_append_right (by simp)]; simp
 have hs : (sectors base l)[(packG l).length + (idx l).length + 1 - 1]? = some (put (base + ((packG l).length + (idx l).length)) (countB l.length (packG l).length (idx l).length)) := by
  unfold sectors
  rw [putAll_get, Nat.add_sub_cancel, hb]; rfl
 rw [hs, Option.bind_some, Nat.add_sub_cancel, get_put (pagesB_fit hok hl _ (by simp [pagesB])), Option.bind_some, rd3_count (by omega) (by omega) (by omega), Option.bind_some]
 simp
theorem openS_sectors (hok : ∀ e ∈ l, entOk e = true) (hl : l.length ≤ 16384) (hs : SortedL l) : openS (sectors base l) base = some (l.length, headsG (packG l)) := by
 unfold openS
 rw [lastS_sectors hok hl, Option.bind_some]
 have := packsFrom_all (S := sectors base l) (base := base) (gs := idx l) (i := (packG l).length) fun k g hk => packAt_idx hok hk
 simp only
 rw [this, Option.bind_some]
 have hf : (idx l).flatten = headsG (packG l) := packG_flat _
 rw [hf, if_pos ⟨headsG_len fun g hg => (packG_fit hok g hg).1, headsG_sorted (by rw [packG_flat]; exact hs), rfl⟩]
theorem pageS_ok {S : List Bs} {i : Nat} {g : List Ent} (hok : ∀ e ∈ l, entOk e = true) (hs : SortedL l) (h : (packG l)[i]? = some g) (hp : packAt S base i = some g) : pageS S base (headsG (packG l)) i = some g := by
 have hg := List.mem_of_getElem? h
 unfold pageS
 rw [hp, Option.bind_some, if_pos]
 refine ⟨(packG_fit hok g hg).1, ?_, (headsG_get (fun g hg => (packG_fit hok g hg).1) i g h).symm⟩
 have : SortedL (packG l).flatten := by rw [packG_flat]; exact hs
 obtain ⟨a, b, hab⟩ := List.append_of_mem hg
 rw [hab, List.flatten_append, List.flatten_cons] at this
 exact (List.pairwise_append.1 (List.pairwise_append.1 this).2.1).1
theorem pageS_sectors (hok : ∀ e ∈ l, entOk e = true) (hs : SortedL l) {i : Nat} {g : List Ent} (h : (packG l)[i]? = some g) : pageS (sectors base l) base (headsG (packG l)) i = some g := pageS_ok hok hs h (packAt_data hok h)
end
def flip1 (s : Bs) (j : Nat) : Bs := s.set (j / 8) (UInt8.ofNat ((s.getD (j / 8) 0).toNat ^^^ 2 ^ (j % 8)))
def flipN (s : Bs) (at' turn : Nat) : Nat → Bs
 | 0 => s
 | k + 1 => if turn.testBit k then flip1 (flipN s at' turn k) (at' + k) else flipN s at' turn k
theorem flip1_len {s : Bs} {j : Nat} : (flip1 s j).length = s.length := by simp [flip1]
theorem flipN_len {s : Bs} {at' turn : Nat} : ∀ {k : Nat}, (flipN s at' turn k).length = s.length
 | 0 => rfl
 | k + 1 => by
  unfold flipN
  split
  ·rw [flip1_len, flipN_len]
  ·exact flipN_len
theorem bitAt_flip1 {s : Bs} {i j : Nat} (hj : j / 8 < s.length) : bitAt (flip1 s j) i = xor (bitAt s i) (decide (i = j)) := by
 unfold bitAt flip1
 by_cases hb : i / 8 = j / 8
 ·rw [hb, List.getD_eq_getElem?_getD, List.getElem?_set_self hj]
  simp only [Option.getD_some]
  have hlt : (s.getD (j / 8) 0).toNat ^^^ 2 ^ (j % 8) < 2 ^ 8 := Nat.xor_lt_two_pow (UInt8.toNat_lt _) (Nat.pow_lt_pow_right (by omega) (Nat.mod_lt _ (by omega)))
  have e : (UInt8.ofNat ((s.getD (j / 8) 0).toNat ^^^ 2 ^ (j % 8))).toNat = (s.getD (j / 8) 0).toNat ^^^ 2 ^ (j % 8) := by
   rw [UInt8.toNat_ofNat']; exact Nat.mod_eq_of_lt hlt
  rw [e, Nat.testBit_xor, Nat.testBit_two_pow]
  congr 1
  exact decide_eq_decide.2 ⟨fun h => by omega, fun h => by omega⟩
 ·rw [List.getD_eq_getElem?_getD, List.getElem?_set_ne (fun h => hb h.symm), ← List.getD_eq_getElem?_getD, decide_eq_false (fun h => hb (by rw [h])), Bool.xor_false]
theorem bitAt_flipN {s : Bs} {at' turn : Nat} : ∀ {k i : Nat}, at' + k ≤ 8 * s.length → bitAt (flipN s at' turn k) i = xor (bitAt s i) (decide (at' ≤ i ∧ i < at' + k) && turn.testBit (i - at'))
 | 0, i, h => by rw [decide_eq_false (by omega), Bool.false_and, Bool.xor_false]; rfl
 | k + 1, i, h => by
  have ih := bitAt_flipN (s := s) (at' := at') (turn := turn) (k := k) (i := i) (by omega)
  unfold flipN
  by_cases hi : i = at' + k
  ·subst hi
   rw [show decide (at' ≤ at' + k ∧ at' + k < at' + k) = false by simp] at ih
   rw [show decide (at' ≤ at' + k ∧ at' + k < at' + (k + 1)) = true from decide_eq_true (by omega), Nat.add_sub_cancel_left]
   split
   ·rename_i ht
    rw [bitAt_flip1 (by rw [flipN_len]; omega), ih, ht]; simp
   ·rename_i ht
    rw [ih]; simp [ht]
  ·have e : decide (at' ≤ i ∧ i < at' + (k + 1)) = decide (at' ≤ i ∧ i < at' + k) := decide_eq_decide.2 ⟨fun h => by omega, fun h => by omega⟩
   rw [e]
   split
   ·rw [bitAt_flip1 (by rw [flipN_len]; omega), ih, decide_eq_false hi, Bool.xor_false]
   ·exact ih
abbrev flip (s : Bs) (at' turn : Nat) : Bs := flipN s at' turn 32
theorem flip_same {s : Bs} {at' turn : Nat} (h : at' + 32 ≤ 8 * s.length) {i : Nat} (hi : i < at' ∨ at' + 32 ≤ i) : bitAt s i = bitAt (flip s at' turn) i := by
 rw [bitAt_flipN h, decide_eq_false (by omega), Bool.false_and, Bool.xor_false]
theorem flip_ne {s : Bs} {at' turn : Nat} (h : at' + 32 ≤ 8 * s.length) (ht : turn ≠ 0) (hl : turn < 2 ^ 32) : flip s at' turn ≠ s := by
 intro he
 obtain ⟨k, hk⟩ : ∃ k, turn.testBit k = true := Nat.exists_testBit_of_ne_zero ht
 have hk32 : k < 32 := by
  rcases Nat.lt_or_ge k 32 with h | h
  ·exact h
  ·rw [Nat.testBit_lt_two_pow (Nat.lt_of_lt_of_le hl (Nat.pow_le_pow_right (by omega) h))] at hk; cases hk
 have := bitAt_flipN (s := s) (at' := at') (turn := turn) (k := 32) (i := at' + k) h
 rw [show flipN s at' turn 32 = s from he, decide_eq_true (by omega), Nat.add_sub_cancel_left, hk] at this
 simp at this
theorem get_flip {s b : Bs} {tag at' turn : Nat} (hg : get s tag = some b) (h : at' + 32 ≤ 512) (ht : turn ≠ 0) (hl : turn < 2 ^ 32) : get (flip s at' turn) tag = none := by
 have hs : s.length = 64 := by obtain ⟨h1, rfl⟩ := get_some.1 hg; exact put_len h1
 cases hf : get (flip s at' turn) tag with
 | none => rfl
 | some b' => exact absurd (get_burst hg hf fun i hi => flip_same (by omega) hi).symm (flip_ne (by omega) ht hl)
section
variable {base : Nat} {l : List Ent} {i : Nat} {s' : Bs}
theorem packAt_bad {S : List Bs} {s : Bs} (hs : S[i]? = some s) (hg : get s' (base + i) = none) : packAt (S.set i s') base i = none := by
 have hi := (List.getElem?_eq_some_iff.1 hs).1
 unfold packAt
 rw [List.getElem?_set_self hi, Option.bind_some, hg]; rfl
theorem packAt_other {S : List Bs} {k : Nat} (h : k ≠ i) : packAt (S.set i s') base k = packAt S base k := by
 unfold packAt
 rw [List.getElem?_set_ne (fun h' => h h'.symm)]
theorem pageS_other (hok : ∀ e ∈ l, entOk e = true) (hs : SortedL l) {k : Nat} {g : List Ent} (hk : k ≠ i) (h : (packG l)[k]? = some g) : pageS ((sectors base l).set i s') base (headsG (packG l)) k = some g := by
 have := pageS_sectors (base := base) hok hs h
 unfold pageS at this ⊢
 rw [packAt_other hk]; exact this
theorem pageS_bad (hi : i < (packG l).length) (hg : get s' (base + i) = none) : pageS ((sectors base l).set i s') base (headsG (packG l)) i = none := by
 have hlen := sectors_len (base := base) (l := l)
 unfold pageS
 rw [packAt_bad (s := (sectors base l)[i]) (List.getElem?_eq_getElem (by omega)) hg]; rfl
end
end Go.Seg
namespace Go.Seg
open Go.Ent
set_option linter.unusedVariables false
set_option linter.unusedSimpArgs false
theorem ltE_of_le {a b c : Ent} (h1 : leE a b) (h2 : ltE b c) : ltE a c := by
 by_cases h : ltE a c
 ·exact h
 ·exact absurd (leE_trans h h1) (fun hn => hn h2)
theorem find_cut {l : List Ent} {e : Ent} {k : Nat} (hk : k ≤ l.length) (h1 : ∀ i x, i < k → l[i]? = some x → ltE x e) (h2 : ∀ i x, k ≤ i → l[i]? = some x → ¬ ltE x e) : (l.filter fun h => decide (ltE h e)).length = k := by
 have e1 : l.filter (fun h => decide (ltE h e)) = (l.take k).filter (fun h => decide (ltE h e)) ++ (l.drop k).filter (fun h => decide (ltE h e)) := by
  rw [← List.filter_append, List.take_append_drop]
 have e2 : (l.take k).filter (fun h => decide (ltE h e)) = l.take k := List.filter_eq_self.2 fun x hx => by
  obtain ⟨i, hi⟩ := List.getElem?_of_mem hx
  rw [List.getElem?_take] at hi
  split at hi
  ·rename_i hik
   exact decide_eq_true (h1 i x hik hi)
  ·cases hi
 have e3 : (l.drop k).filter (fun h => decide (ltE h e)) = [] := List.filter_eq_nil_iff.2 fun x hx => by
  obtain ⟨i, hi⟩ := List.getElem?_of_mem hx
  rw [List.getElem?_drop] at hi
  have := h2 (k + i) x (by omega) hi
  simpa using this
 rw [e1, e2, e3, List.append_nil, List.length_take]
 omega
theorem sorted_get {l : List Ent} (hs : SortedL l) : ∀ {i j : Nat} {a b : Ent}, i ≤ j → l[i]? = some a → l[j]? = some b → leE a b := by
 intro i j a b hij ha hb
 rcases Nat.lt_or_ge i j with h | h
 ·obtain ⟨hi, rfl⟩ := List.getElem?_eq_some_iff.1 ha
  obtain ⟨hj, rfl⟩ := List.getElem?_eq_some_iff.1 hb
  exact List.pairwise_iff_getElem.1 hs i j hi hj h
 ·have : i = j := by omega
  subst this
  rw [ha] at hb; cases hb
  exact leE_refl a
theorem findS_cut {l : List Ent} {e : Ent} {k : Nat} (hk : k ≤ l.length) (h1 : ∀ i x, i < k → l[i]? = some x → ltE x e) (h2 : ∀ i x, k ≤ i → l[i]? = some x → ¬ ltE x e) : findS l e = k - 1 := by
 unfold findS; rw [find_cut hk h1 h2]
end Go.Seg
namespace Go.Seg
open Go.Num hiding Bs snoc_ind
open Go.Ent Go.Page
set_option linter.unusedVariables false
set_option linter.unusedSimpArgs false
theorem encL_len4 : ∀ {l : List Ent}, 4 * l.length ≤ (encL l).length
 | [] => by simp [encL]
 | a :: l => by
  have := entB_pos (e := a)
  have := encL_len4 (l := l)
  simp only [encL, List.flatMap_cons, List.length_append, List.length_cons] at *
  omega
theorem packAt_some {S : List Bs} {base i : Nat} {l : List Ent} (h : packAt S base i = some l) : l.length ≤ 10 ∧ (∀ e ∈ l, entOk e = true) ∧ i < S.length := by
 unfold packAt at h
 obtain ⟨s, hs, h⟩ := Option.bind_eq_some_iff.1 h
 obtain ⟨b, hb, h⟩ := Option.bind_eq_some_iff.1 h
 obtain ⟨h1, h2⟩ := unpack_iff.1 h
 have h3 := (get_some.1 hb).1
 have h4 := encL_len4 (l := l)
 rw [h1] at h3
 exact ⟨by omega, h2, (List.getElem?_eq_some_iff.1 hs).1⟩
end Go.Seg
namespace Go.Cur
open Go.Ent Go.Seg
set_option linter.unusedVariables false
set_option linter.unusedSimpArgs false
def fromL (l : List Ent) (e : Ent) : List Ent := l.dropWhile fun x => decide (ltE x e)
theorem fromL_skip {a b : List Ent} {e : Ent} (h : ∀ x ∈ a, ltE x e) : fromL (a ++ b) e = fromL b e := by
 unfold fromL
 induction a with
 | nil => rfl
 | cons x a ih =>
  rw [List.cons_append, List.dropWhile_cons_of_pos (by simp [h x (by simp)])]
  exact ih fun y hy => h y (by simp [hy])
theorem fromL_here {a b : List Ent} {x e : Ent} (h : ∀ y ∈ a, ltE y e) (hx : ¬ ltE x e) : fromL (a ++ x :: b) e = x :: b := by
 rw [fromL_skip h]
 unfold fromL
 rw [List.dropWhile_cons_of_neg (by simp [hx])]
def rest (gs : List (List Ent)) (i at' : Nat) : List Ent := (gs[i]?.getD []).drop at' ++ (gs.drop (i + 1)).flatten
section
variable {gs : List (List Ent)} {g : List Ent} {i at' : Nat} {e : Ent}
theorem gs_split (hg : gs[i]? = some g) : gs.flatten = (gs.take i).flatten ++ (g ++ (gs.drop (i + 1)).flatten) := by
 obtain ⟨hi, rfl⟩ := List.getElem?_eq_some_iff.1 hg
 have : gs = gs.take i ++ gs[i] :: gs.drop (i + 1) := by rw [← List.drop_eq_getElem_cons hi, List.take_append_drop]
 conv => lhs; rw [this]
 rw [List.flatten_append, List.flatten_cons]
end
end Go.Cur
