import Derived.Test.YtnglhicedhcpbaaGreatDoorHG1
import Derived.Test.YtnglhicedhcpbaaGreatDoorHG2
namespace Go.Dsk
open Go.Ab
set_option linter.unusedVariables false
set_option linter.unusedSimpArgs false
abbrev Bs := List UInt8
def insR (n : Bs) : List Bs → List Bs
  | [] => [n]
  | x :: l => if bytesLess x n then x :: insR n l else if x = n then x :: l else n :: x :: l
def docNames (l : List Bs) : List Bs := l.foldl (fun o n => insR n o) []
abbrev PD := Nat × Nat × Bs
structure FA where
  b : Nat
  name : Bs
  now : List Bs
  safe : List Bs
structure DS where
  files : List FA
  pends : List PD
  limit : Int
  left : Int
  off : Bool
variable {D : DS} {f f1 f2 : FA} {b : Nat}
def DS.find (D : DS) (s : Bs) : Option FA := D.files.find? (fun f => f.name == s)
def mayN (s : Bs) : Bool := decide (1 ≤ s.length) && decide (s.length ≤ 24)
def DS.deed (D : DS) : Int × DS := if D.left = 0 then (50, { D with off := true }) else if D.left > 0 then (0, { D with left := D.left - 1 }) else (0, D)
def emptyD (n : Int) : DS := ⟨[], [], n, -1, false⟩
def upF (fs : List FA) (f' : FA) : List FA := fs.map fun g => if g.b = f'.b then f' else g
theorem upF_mem {fs : List FA} {f' g : FA} (h : g ∈ upF fs f') : g = f' ∨ (g ∈ fs ∧ g.b ≠ f'.b) := by
  obtain ⟨g0, h1, h2⟩ := List.mem_map.1 h
  split at h2
  · exact .inl h2.symm
  · subst h2; exact .inr ⟨h1, by assumption⟩
theorem upF_b {fs : List FA} {f' : FA} : (upF fs f').map (·.b) = fs.map (·.b) := by
  rw [upF, List.map_map]
  apply List.map_congr_left
  intro g _
  simp only [Function.comp]
  split
  · rename_i h; exact h.symm
  · rfl
theorem uniq_b {fs : List FA} (hn : (fs.map (·.b)).Nodup) {f g : FA} (hf : f ∈ fs) (hg : g ∈ fs) (h : f.b = g.b) : f = g := by
  induction fs with
  | nil => cases hf
  | cons x fs ih =>
    simp only [List.map_cons, List.nodup_cons, List.mem_map, not_exists, not_and] at hn
    rcases List.mem_cons.1 hf with rfl | hf' <;> rcases List.mem_cons.1 hg with rfl | hg'
    · rfl
    · exact absurd h.symm (hn.1 g hg')
    · exact absurd h (hn.1 f hf')
    · exact ih hn.2 hf' hg'
theorem uniq_n {fs : List FA} (hn : (fs.map (·.name)).Nodup) {f g : FA} (hf : f ∈ fs) (hg : g ∈ fs) (h : f.name = g.name) : f = g := by
  induction fs with
  | nil => cases hf
  | cons x fs ih =>
    simp only [List.map_cons, List.nodup_cons, List.mem_map, not_exists, not_and] at hn
    rcases List.mem_cons.1 hf with rfl | hf' <;> rcases List.mem_cons.1 hg with rfl | hg'
    · rfl
    · exact absurd h.symm (hn.1 g hg')
    · exact absurd h (hn.1 f hf')
    · exact ih hn.2 hf' hg'
def mkF (b : Nat) (s : Bs) : FA := ⟨b, s, [], []⟩
theorem deed_files : D.deed.2.files = D.files := by
  unfold DS.deed
  split
  · rfl
  · split <;> rfl
theorem deed_pends : D.deed.2.pends = D.pends := by
  unfold DS.deed
  split
  · rfl
  · split <;> rfl
def DS.create (D : DS) (s : Bs) (b : Nat) : Int × DS :=
  if !mayN s then (1, D) else if D.off then (50, D) else if (D.find s).isSome then (5, D) else if 256 ≤ D.files.length then (2, D)
  else if D.deed.1 = 0 then (0, { D.deed.2 with files := D.files ++ [mkF b s] }) else D.deed
def DS.lenOf (D : DS) (n : Bs) : Nat := match D.find n with | some f => f.now.length | none => 0
def DS.namesL (D : DS) : List Bs := docNames (D.files.map (·.name))
def DS.list (D : DS) : List (Bs × Nat) := D.namesL.map fun n => (n, D.lenOf n)
def DS.used (D : DS) : Nat := (D.files.map (·.now.length)).sum
def DS.write (D : DS) (f : FA) (i : Nat) (s : Bs) : DS := { D with files := upF D.files { f with now := f.now.set i s }, pends := D.pends ++ [(f.b, i, s)] }
def DS.append (D : DS) (s : Bs) (b : Bs) : Int × DS :=
  if b.length ≠ 64 then (1, D) else if D.off then (50, D) else match D.find s with
  | none => (4, D)
  | some f => if D.limit ≤ D.used then (2, D) else if D.deed.1 = 0 then (0, { D.deed.2 with files := upF D.files { f with now := f.now ++ [b] }, pends := D.pends ++ [(f.b, f.now.length, b)] }) else D.deed
theorem upF_upF {fs : List FA} (h : f2.b = f1.b) : upF (upF fs f1) f2 = upF fs f2 := by
  rw [upF, upF, upF, List.map_map]
  apply List.map_congr_left
  intro g _
  simp only [Function.comp, h]
  split
  · simp
  · rename_i hne; simp [hne]
def pad (s : Bs) : Bs := (List.range 64).map fun i => s.getD i 0
theorem pad_len {s : Bs} : (pad s).length = 64 := by simp [pad]
theorem pad_self {s : Bs} (h : s.length = 64) : pad s = s := by
  refine List.ext_getElem? fun i => ?_
  rcases Nat.lt_or_ge i 64 with hi | hi
  · rw [pad, List.getElem?_map, List.getElem?_range hi, List.getElem?_eq_getElem (by omega)]
    simp [List.getD_eq_getElem?_getD, List.getElem?_eq_getElem (by omega : i < s.length)]
  · rw [List.getElem?_eq_none (by rw [pad_len]; omega), List.getElem?_eq_none (by omega)]
def mixS (s r : Bs) (n : Nat) : Bs := (List.range 64).map fun i => if i < n then s.getD i 0 else r.getD i 0
def padTo (l : List Bs) (n : Nat) : List Bs := l ++ List.replicate (n - l.length) []
def keepF (f : FA) (i : Nat) (s : Bs) (n : Int) : FA :=
  if n < 1 then f else { f with safe := (padTo f.safe (i + 1)).set i (mixS s ((padTo f.safe (i + 1)).getD i []) (min n 64).toNat) }
theorem padTo_len {l : List Bs} {n : Nat} : (padTo l n).length = max l.length n := by simp [padTo]; omega
theorem padTo_id {l : List Bs} {n : Nat} (h : n ≤ l.length) : padTo l n = l := by simp [padTo, Nat.sub_eq_zero_of_le h]
theorem padTo_padTo {l : List Bs} {i j : Nat} (h : i ≤ j) : padTo (padTo l i) j = padTo l j := by
  simp only [padTo, List.length_append, List.length_replicate, List.append_assoc, List.replicate_append_replicate]
  congr 2
  omega
def notB (b : Nat) (x : PD) : Bool := !(x.1 == b)
theorem filter_all {l : List PD} (h : ∀ x ∈ l, x.1 ≠ b) : l.filter (notB b) = l := List.filter_eq_self.2 fun x hx => by simp [notB, h x hx]
def DS.forget (D : DS) (b : Nat) : DS := { D with pends := D.pends.filter (notB b) }
theorem keepF_b {i : Nat} {s : Bs} {n : Int} : (keepF f i s n).b = f.b ∧ (keepF f i s n).name = f.name ∧ (keepF f i s n).now = f.now := by
  unfold keepF; split <;> exact ⟨rfl, rfl, rfl⟩
def keepAll (f : FA) (l : List PD) : FA := l.foldl (fun g x => if x.1 = f.b then keepF g x.2.1 x.2.2 64 else g) f
theorem keepAll_snoc {l : List PD} {x : PD} : keepAll f (l ++ [x]) = if x.1 = f.b then keepF (keepAll f l) x.2.1 x.2.2 64 else keepAll f l := by simp [keepAll]
theorem keepAll_b (l : List PD) : (keepAll f l).b = f.b ∧ (keepAll f l).name = f.name ∧ (keepAll f l).now = f.now := by
  have : ∀ (l : List PD) (g : FA), (l.foldl (fun g x => if x.1 = f.b then keepF g x.2.1 x.2.2 64 else g) g).b = g.b ∧ (l.foldl (fun g x => if x.1 = f.b then keepF g x.2.1 x.2.2 64 else g) g).name = g.name ∧ (l.foldl (fun g x => if x.1 = f.b then keepF g x.2.1 x.2.2 64 else g) g).now = g.now := by
    intro l
    induction l with
    | nil => intro g; exact ⟨rfl, rfl, rfl⟩
    | cons x l ih =>
      intro g
      simp only [List.foldl_cons]
      have h := ih (if x.1 = f.b then keepF g x.2.1 x.2.2 64 else g)
      by_cases hx : x.1 = f.b
      · simp only [hx, if_true] at h ⊢
        obtain ⟨k1, k2, k3⟩ := @keepF_b g x.2.1 x.2.2 64
        rw [k1, k2, k3] at h; exact h
      · simp only [hx, if_false] at h ⊢; exact h
  exact this l f
def DS.sync (D : DS) (s : Bs) : Int × DS :=
  if D.off then (50, D) else match D.find s with
  | none => (4, D)
  | some f => if D.deed.1 = 0 then (0, { D.deed.2 with files := upF D.files (keepAll f D.pends), pends := D.pends.filter (notB f.b) }) else D.deed
end Go.Dsk
namespace Go.Man
open Go.Page Go.Dsk
open Go.Ab (splice)
set_option linter.unusedVariables false
set_option linter.unusedSimpArgs false
abbrev Bs := List UInt8
structure Jr where
  E : Type
  S : Type
  enc : E → Bs
  dec : Bs → Option E
  emp : S
  app : S → E → Option S
  eds : S → List E
  dec_enc : ∀ (s s' : S) (e : E), app s e = some s' → dec (enc e) = some e
variable {J : Jr}
def sz (J : Jr) (e : J.E) : Nat := max 1 (((J.enc e).length + 41) / 42)
def says (J : Jr) : Nat → List Bs → Nat → J.S → J.S
  | 0, _, _, s => s
  | n + 1, l, t, s => match unrow l t with
    | none => s
    | some (b, k) => match J.dec b with
      | none => s
      | some e => match J.app s e with
        | none => s
        | some s' => says J n (l.drop k) (t + k) s'
def saysL (J : Jr) (l : List Bs) : J.S := says J l.length l 1 J.emp
theorem mix_len {s r : Bs} {n : Nat} : (mixS s r n).length = 64 := by simp [mixS]
theorem mix_get {s r : Bs} {n i : Nat} (hi : i < 64) : (mixS s r n)[i]? = some (if i < n then s.getD i 0 else r.getD i 0) := by
  unfold mixS
  rw [List.getElem?_map, List.getElem?_range hi]; rfl
def pendsOf (b : Nat) : Nat → List Bs → List PD
  | _, [] => []
  | i, p :: l => (b, i, p) :: pendsOf b (i + 1) l
theorem pendsOf_snoc {b : Nat} : ∀ {l : List Bs} {i : Nat} {p : Bs}, pendsOf b i (l ++ [p]) = pendsOf b i l ++ [(b, i + l.length, p)]
  | [], i, p => by simp [pendsOf]
  | x :: l, i, p => by
    simp only [List.cons_append, pendsOf, pendsOf_snoc, List.length_cons]
    rw [show i + 1 + l.length = i + (l.length + 1) by omega]
theorem pendsOf_b {b : Nat} : ∀ {l : List Bs} {i : Nat} {x : PD}, x ∈ pendsOf b i l → x.1 = b ∧ i ≤ x.2.1 ∧ x.2.1 < i + l.length
  | [], i, x, h => by cases h
  | p :: l, i, x, h => by
    rcases List.mem_cons.1 h with rfl | h
    · simp
    · have := pendsOf_b h
      simp only [List.length_cons]
      exact ⟨this.1, by omega, by omega⟩
abbrev nJ : Bs := [106, 111, 117, 114, 110, 97, 108]
abbrev nN : Bs := [106, 111, 117, 114, 110, 97, 108, 46, 110, 101, 119]
structure DOk (D : DS) : Prop where
  names : (D.files.map (·.name)).Nodup
  blocks : (D.files.map (·.b)).Nodup
  pfile : ∀ x ∈ D.pends, ∃ f ∈ D.files, f.b = x.1 ∧ x.2.1 < f.now.length
  safe : ∀ f ∈ D.files, f.safe.length ≤ f.now.length
variable {J : Jr}
structure Mid (J : Jr) (fs : List FA) (ps : List PD) (s : J.S) : Prop where
  names : ∀ f ∈ fs, f.name = nJ ∨ f.name = nN
  jour : ∀ f ∈ fs, f.name = nJ → f.now = f.safe ∧ (∀ x ∈ ps, x.1 ≠ f.b) ∧ saysL J (f.now.map pad) = s
  none : (∀ f ∈ fs, f.name ≠ nJ) → s = J.emp
  big : ∀ f ∈ fs, f.now.length ≤ 4000
abbrev cut (D : DS) : DS := { D with off := true }
variable {J : Jr} {D : DS} {s : J.S} {es : List J.E} {e : J.E} {t : Bs} {b : Nat} {f : FA}
theorem find_iff : D.find t = some f → f ∈ D.files ∧ f.name = t := by
  intro h
  exact ⟨List.mem_of_find?_eq_some h, by have := List.find?_some h; simpa using this⟩
theorem find_of (hn : (D.files.map (·.name)).Nodup) (hf : f ∈ D.files) : D.find f.name = some f := by
  cases h : D.find f.name with
  | none =>
    have := List.find?_eq_none.1 h f hf
    simp at this
  | some g =>
    obtain ⟨h1, h2⟩ := find_iff h
    rw [uniq_n hn h1 hf h2]
section
variable (O : DOk D) (M : Mid J D.files D.pends s)
include O M
end
def Fr (D : DS) (l : List Bs) : Prop := ∃ f, D.find nN = some f ∧ f.now = l ∧ f.safe = [] ∧ D.pends = pendsOf f.b 0 l
theorem mix_full {p r : Bs} (hp : p.length = 64) : mixS p r 64 = p := by
  apply List.ext_getElem?
  intro i
  by_cases hi : i < 64
  · rw [mix_get hi, if_pos hi, List.getD_eq_getElem?_getD, List.getElem?_eq_getElem (by omega)]; rfl
  · rw [List.getElem?_eq_none (by rw [mix_len]; omega), List.getElem?_eq_none (by omega)]
theorem keepAll_pends {base : List Bs} : ∀ {l : List Bs} {f : FA}, f.safe = base → (∀ p ∈ l, p.length = 64) → (keepAll f (pendsOf f.b base.length l)).safe = base ++ l := by
  intro l
  induction l using Go.Num.snoc_ind with
  | h0 => intro f hf _; simpa [pendsOf, keepAll] using hf
  | h1 l p ih =>
    intro f hf hl
    have ih := ih hf fun q hq => hl q (by simp [hq])
    rw [pendsOf_snoc, keepAll_snoc, if_pos rfl]
    unfold keepF
    rw [if_neg (by omega)]
    simp only
    rw [ih]
    have e : padTo (base ++ l) (base.length + l.length + 1) = base ++ l ++ [[]] := by
      unfold padTo
      rw [List.length_append, show base.length + l.length + 1 - (base.length + l.length) = 1 by omega]; rfl
    rw [e, show (min (64 : Int) 64).toNat = 64 by decide, mix_full (hl p (by simp)), List.set_append_right _ _ (by simp), List.length_append]
    simp
theorem notB_all {l : List Bs} {b i : Nat} : (pendsOf b i l).filter (notB b) = [] := by
  rw [List.filter_eq_nil_iff]
  intro x hx
  have := (pendsOf_b hx).1
  simp [notB, this]
end Go.Man
namespace Go.Dsk
open Go.Man (pendsOf pendsOf_snoc keepAll_pends notB_all find_of pendsOf_b)
set_option linter.unusedVariables false
set_option linter.unusedSimpArgs false
section
variable {D : DS} {f : FA} {b : Nat} {s : Bs}
def appAll (s : Bs) : List Bs → DS → Int × DS
  | [], D => (0, D)
  | x :: l, D => if (D.append s x).1 = 0 then appAll s l (D.append s x).2 else D.append s x
theorem appAll_cons0 {x : Bs} {l : List Bs} (h : (D.append s x).1 = 0) : appAll s (x :: l) D = appAll s l (D.append s x).2 := if_pos h
theorem appAll_cons1 {x : Bs} {l : List Bs} (h : (D.append s x).1 ≠ 0) : appAll s (x :: l) D = D.append s x := if_neg h
theorem appAll_app0 : ∀ {l m : List Bs} {D : DS}, (appAll s l D).1 = 0 → appAll s (l ++ m) D = appAll s m (appAll s l D).2
  | [], m, D, _ => rfl
  | x :: l, m, D, h => by
    by_cases h1 : (D.append s x).1 = 0
    · rw [appAll_cons0 h1] at h ⊢
      rw [List.cons_append, appAll_cons0 h1]
      exact appAll_app0 h
    · rw [appAll_cons1 h1] at h; exact absurd h h1
theorem appAll_one {x : Bs} : appAll s [x] D = D.append s x := by
  by_cases h1 : (D.append s x).1 = 0
  · rw [appAll_cons0 h1]
    show (0, (D.append s x).2) = _
    rw [← h1]
  · exact appAll_cons1 h1
theorem appAll_go {l : List Bs} {i : Nat} {x : Bs} {E : DS} (h : appAll s (l.take i) D = (0, E)) (hx : l[i]? = some x) (he : (E.append s x).1 = 0) : appAll s (l.take (i + 1)) D = (0, (E.append s x).2) := by
  have e2 : l.take (i + 1) = l.take i ++ [x] := by rw [List.take_add_one, hx]; rfl
  rw [e2, appAll_app0 (by rw [h]), h]
  simp only
  rw [appAll_one, ← he]
theorem appAll_stop {l : List Bs} {i : Nat} {x : Bs} {E : DS} (h : appAll s (l.take i) D = (0, E)) (hx : l[i]? = some x) (he : (E.append s x).1 ≠ 0) : appAll s l D = E.append s x := by
  have e2 : l = l.take i ++ (x :: l.drop (i + 1)) := by
    have hi : i < l.length := by
      rcases Nat.lt_or_ge i l.length with h | h
      · exact h
      · rw [List.getElem?_eq_none h] at hx; cases hx
    have : l.drop i = x :: l.drop (i + 1) := by
      rw [List.drop_eq_getElem_cons hi]
      rw [List.getElem?_eq_getElem hi] at hx
      rw [Option.some.inj hx]
    rw [← this, List.take_append_drop]
  rw [e2, appAll_app0 (by rw [h]), h]
  exact appAll_cons1 he
theorem append_pends {x : Bs} : (D.append s x).2.pends.length ≤ D.pends.length + 1 := by
  unfold DS.append
  split
  · simp
  split
  · simp
  split
  · simp
  · split
    · simp
    · split
      · simp
      · rw [deed_pends]; omega
theorem appAll_pends : ∀ {l : List Bs} {D : DS}, (appAll s l D).2.pends.length ≤ D.pends.length + l.length
  | [], D => by simp [appAll]
  | x :: l, D => by
    have h1 := append_pends (D := D) (s := s) (x := x)
    by_cases h : (D.append s x).1 = 0
    · rw [appAll_cons0 h, List.length_cons]
      have := appAll_pends (l := l) (D := (D.append s x).2)
      omega
    · rw [appAll_cons1 h, List.length_cons]; omega
theorem create_files (h : (D.create s b).1 = 0) : (D.create s b).2.files = D.files ++ [mkF b s] := by
  unfold DS.create at h ⊢
  split at h
  · cases h
  split at h
  · cases h
  split at h
  · cases h
  split at h
  · cases h
  split at h
  · rename_i h1 h2 h3 h4 h5
    rw [if_neg h1, if_neg h2, if_neg h3, if_neg h4, if_pos h5]
  · rename_i h5
    exact absurd h h5
theorem create_pends : (D.create s b).2.pends = D.pends := by
  unfold DS.create
  split
  · rfl
  split
  · rfl
  split
  · rfl
  split
  · rfl
  split
  · exact deed_pends
  · exact deed_pends
def DS.wr (D : DS) (s : Bs) (S : List Bs) (b : Nat) : Int × DS :=
  if (D.create s b).1 = 0 then
    if (appAll s S (D.create s b).2).1 = 0 then (appAll s S (D.create s b).2).2.sync s else appAll s S (D.create s b).2
  else D.create s b
def calmD (fs : List FA) (lim : Int) : DS := ⟨fs, [], lim, -1, false⟩
theorem upF_last {fs : List FA} {f g : FA} (hb : ∀ x ∈ fs, x.b ≠ f.b) (hg : g.b = f.b) : upF (fs ++ [f]) g = fs ++ [g] := by
  unfold upF
  rw [List.map_append]
  congr 1
  · have : ∀ l : List FA, (∀ x ∈ l, x.b ≠ f.b) → l.map (fun x => if x.b = g.b then g else x) = l := by
      intro l hl
      induction l with
      | nil => rfl
      | cons y l ih =>
        rw [List.map_cons, if_neg (by rw [hg]; exact hl y (by simp)), ih (fun x hx => hl x (by simp [hx]))]
    exact this fs hb
  · simp [hg]
theorem find_last {fs : List FA} {f : FA} {ps : List PD} {lim left : Int} {off : Bool} (hn : ∀ x ∈ fs, x.name ≠ f.name) : (DS.mk (fs ++ [f]) ps lim left off).find f.name = some f := by
  unfold DS.find
  simp only
  rw [List.find?_append, List.find?_eq_none.2 (fun x hx => by simpa using hn x hx)]
  simp
theorem append_last {fs : List FA} {f : FA} {ps : List PD} {lim : Int} {x : Bs} (hn : ∀ y ∈ fs, y.name ≠ f.name) (hb : ∀ y ∈ fs, y.b ≠ f.b) (hx : x.length = 64) (hr : (((fs.map (·.now.length)).sum + f.now.length : Nat) : Int) < lim) :
    (DS.mk (fs ++ [f]) ps lim (-1) false).append f.name x = (0, ⟨fs ++ [{ f with now := f.now ++ [x] }], ps ++ [(f.b, f.now.length, x)], lim, -1, false⟩) := by
  unfold DS.append
  rw [if_neg (by omega), if_neg (by simp), find_last hn]
  simp only
  have hu : (DS.mk (fs ++ [f]) ps lim (-1) false).used = (fs.map (·.now.length)).sum + f.now.length := by simp [DS.used]
  rw [hu, if_neg (by omega)]
  have hd : (DS.mk (fs ++ [f]) ps lim (-1) false).deed = (0, DS.mk (fs ++ [f]) ps lim (-1) false) := rfl
  rw [hd, if_pos rfl]
  simp only
  rw [upF_last (f := f) (g := ⟨f.b, f.name, f.now ++ [x], f.safe⟩) hb rfl]
theorem appAll_last {fs : List FA} {b : Nat} {s : Bs} {lim : Int} {now0 safe : List Bs} (hn : ∀ y ∈ fs, y.name ≠ s) (hb : ∀ y ∈ fs, y.b ≠ b) : ∀ {S now : List Bs} {ps : List PD}, (∀ x ∈ S, x.length = 64) → (((fs.map (·.now.length)).sum + now.length + S.length : Nat) : Int) ≤ lim →
    appAll s S ⟨fs ++ [⟨b, s, now, safe⟩], ps, lim, -1, false⟩ = (0, ⟨fs ++ [⟨b, s, now ++ S, safe⟩], ps ++ pendsOf b now.length S, lim, -1, false⟩)
  | [], now, ps, _, _ => by simp [appAll, pendsOf]
  | x :: S, now, ps, h64, hr => by
    have ha := append_last (f := ⟨b, s, now, safe⟩) (ps := ps) hn hb (h64 x (by simp)) (lim := lim) (by simp only [List.length_cons] at hr ⊢; omega)
    rw [appAll_cons0 (by rw [ha]), ha]
    simp only
    rw [appAll_last (now0 := now0) hn hb (fun y hy => h64 y (by simp [hy])) (by simp only [List.length_cons, List.length_append, List.length_nil] at hr ⊢; omega)]
    simp [pendsOf]
theorem wr_calm {fs : List FA} {lim : Int} {s : Bs} {S : List Bs} {b : Nat} (hs : mayN s = true) (hn : ∀ y ∈ fs, y.name ≠ s) (hb : ∀ y ∈ fs, y.b ≠ b) (hf : fs.length < 256) (h64 : ∀ x ∈ S, x.length = 64) (hr : (((fs.map (·.now.length)).sum + S.length : Nat) : Int) ≤ lim) :
    (calmD fs lim).wr s S b = (0, calmD (fs ++ [⟨b, s, S, S⟩]) lim) := by
  have hnone : (calmD fs lim).find s = none := by
    unfold DS.find calmD
    exact List.find?_eq_none.2 (fun x hx => by simpa using hn x hx)
  have hc : (calmD fs lim).create s b = (0, ⟨fs ++ [⟨b, s, [], []⟩], [], lim, -1, false⟩) := by
    unfold DS.create
    rw [if_neg (by simp [hs]), if_neg (by simp [calmD]), if_neg (by simp [hnone]), if_neg (by simp [calmD]; omega)]
    rfl
  unfold DS.wr
  rw [hc, if_pos rfl]
  rw [appAll_last (now0 := []) hn hb h64 (by simpa using hr), if_pos rfl]
  simp only [List.nil_append, List.length_nil]
  unfold DS.sync
  rw [if_neg (by simp), find_last (f := ⟨b, s, S, []⟩) hn]
  simp only
  have hd : (DS.mk (fs ++ [⟨b, s, S, []⟩]) (pendsOf b 0 S) lim (-1) false).deed = (0, DS.mk (fs ++ [⟨b, s, S, []⟩]) (pendsOf b 0 S) lim (-1) false) := rfl
  rw [hd, if_pos rfl]
  have hk : keepAll ⟨b, s, S, []⟩ (pendsOf b 0 S) = ⟨b, s, S, S⟩ := by
    have k1 := keepAll_pends (base := []) (l := S) (f := ⟨b, s, S, []⟩) rfl h64
    obtain ⟨k2, k3, k4⟩ := keepAll_b (f := ⟨b, s, S, []⟩) (pendsOf b 0 S)
    simp only [List.length_nil, List.nil_append] at k1
    cases hF : keepAll ⟨b, s, S, []⟩ (pendsOf b 0 S) with
    | mk b' n' now' safe' =>
      rw [hF] at k1 k2 k3 k4
      simp only at k1 k2 k3 k4
      rw [k1, k2, k3, k4]
  simp only [hk]
  rw [upF_last (f := ⟨b, s, S, []⟩) (g := ⟨b, s, S, S⟩) hb rfl, notB_all]
  rfl
end
end Go.Dsk
