/- Journals: rows of edits, what they say; what is torn. The plain law. -/
import Derived.Test.YtnglhicedhcpbaaGreatDoorGG2
import Derived.Test.YtnglhicedhcpbaaGreatDoorGG18
namespace Go.Man
open Go.Page Go.Dsk
open Go.Ab (splice)
set_option linter.unusedVariables false
set_option linter.unusedSimpArgs false
abbrev Bs := List UInt8

/-- Edits, what they are as bytes, what they make. -/
structure Jr where
  E : Type
  S : Type
  enc : E → Bs
  dec : Bs → Option E
  emp : S
  app : S → E → Option S
  eds : S → List E
  dec_enc : ∀ (s s' : S) (e : E), app s e = some s' → dec (enc e) = some e

variable {J : Jr}
def sz (J : Jr) (e : J.E) : Nat := max 1 (((J.enc e).length + 41) / 42)
theorem sz_row {e : J.E} {t : Nat} : (row t (J.enc e)).length = sz J e := row_len _ _ _ (Nat.le_refl _)
def szs (J : Jr) (es : List J.E) : Nat := (es.map (sz J)).sum
def rows (J : Jr) : List J.E → Nat → List Bs
  | [], _ => []
  | e :: es, t => row t (J.enc e) ++ rows J es (t + sz J e)
theorem rows_len : ∀ {es : List J.E} {t : Nat}, (rows J es t).length = szs J es
  | [], t => rfl
  | e :: es, t => by simp only [rows, List.length_append, sz_row, rows_len, szs, List.map_cons, List.sum_cons]
theorem rows_append : ∀ {a b : List J.E} {t : Nat}, rows J (a ++ b) t = rows J a t ++ rows J b (t + szs J a)
  | [], b, t => rfl
  | e :: a, b, t => by
    simp only [List.cons_append, rows, rows_append, List.append_assoc, szs, List.map_cons, List.sum_cons]
    congr 3; omega
theorem rows_one {e : J.E} {t : Nat} : rows J [e] t = row t (J.enc e) := by simp [rows]
def says (J : Jr) : Nat → List Bs → Nat → J.S → J.S
  | 0, _, _, s => s
  | n + 1, l, t, s => match unrow l t with
    | none => s
    | some (b, k) => match J.dec b with
      | none => s
      | some e => match J.app s e with
        | none => s
        | some s' => says J n (l.drop k) (t + k) s'
def saysL (J : Jr) (l : List Bs) : J.S := says J l.length l 1 J.emp
/-! What is torn. -/
theorem mix_len {s r : Bs} {n : Nat} : (mixS s r n).length = 64 := by simp [mixS]
theorem mix_get {s r : Bs} {n i : Nat} (hi : i < 64) : (mixS s r n)[i]? = some (if i < n then s.getD i 0 else r.getD i 0) := by
  unfold mixS
  rw [List.getElem?_map, List.getElem?_range hi]; rfl
/-- What may be left of pages. -/
def Torn (pages rest : List Bs) : Prop := rest.length ≤ pages.length ∧ ∀ (i : Nat) (r : Bs), rest[i]? = some r → r = [] ∨ ∃ p n, pages[i]? = some p ∧ r = mixS p [] n
theorem Torn.nil {pages : List Bs} : Torn pages [] := ⟨by simp, by simp⟩
end Go.Man

/- Journals on a disk: what a crash leaves. The plain law. -/
namespace Go.Man
open Go.Page Go.Dsk
open Go.Ab (splice)
set_option linter.unusedVariables false
set_option linter.unusedSimpArgs false

/-! A crash, file by file. -/
def fcStep (b : Nat) (g : FA) (x : PD × Int) : FA := if x.1.1 = b then keepF g x.1.2.1 x.1.2.2 x.2 else g
def fc (f : FA) (L : List (PD × Int)) : FA := L.foldl (fcStep f.b) f
def after (D : DS) (keep : List Int) (f : FA) : FA := { fc f (D.pends.zip keep) with now := (fc f (D.pends.zip keep)).safe }
/-- Pages one behind the other, pending. -/
def pendsOf (b : Nat) : Nat → List Bs → List PD
  | _, [] => []
  | i, p :: l => (b, i, p) :: pendsOf b (i + 1) l
theorem pendsOf_snoc {b : Nat} : ∀ {l : List Bs} {i : Nat} {p : Bs}, pendsOf b i (l ++ [p]) = pendsOf b i l ++ [(b, i + l.length, p)]
  | [], i, p => by simp [pendsOf]
  | x :: l, i, p => by
    simp only [List.cons_append, pendsOf, pendsOf_snoc, List.length_cons]
    rw [show i + 1 + l.length = i + (l.length + 1) by omega]
theorem pendsOf_b {b : Nat} : ∀ {l : List Bs} {i : Nat} {x : PD}, x ∈ pendsOf b i l → x.1 = b ∧ i ≤ x.2.1 ∧ x.2.1 < i + l.length
  | [], i, x, h => by cases h
  | p :: l, i, x, h => by
    rcases List.mem_cons.1 h with rfl | h
    · simp
    · have := pendsOf_b h
      simp only [List.length_cons]
      exact ⟨this.1, by omega, by omega⟩
theorem Torn.mono {pages rest : List Bs} {i : Nat} (h : Torn (pages.take i) rest) : Torn pages rest := by
  refine ⟨Nat.le_trans h.1 (by simp; omega), fun k r hr => ?_⟩
  rcases h.2 k r hr with h | ⟨p, n, h1, h2⟩
  · exact .inl h
  · refine .inr ⟨p, n, ?_, h2⟩
    rw [List.getElem?_take] at h1
    split at h1
    · exact h1
    · cases h1
theorem Torn.take {pages rest : List Bs} {i j : Nat} (h : Torn (pages.take i) rest) (hij : i ≤ j) : Torn (pages.take j) rest := by
  have : pages.take i = (pages.take j).take i := by rw [List.take_take, Nat.min_eq_left hij]
  rw [this] at h
  exact h.mono
/-! The two files. -/
abbrev nJ : Bs := [106, 111, 117, 114, 110, 97, 108]
abbrev nN : Bs := [106, 111, 117, 114, 110, 97, 108, 46, 110, 101, 119]
structure DOk (D : DS) : Prop where
  names : (D.files.map (·.name)).Nodup
  blocks : (D.files.map (·.b)).Nodup
  pfile : ∀ x ∈ D.pends, ∃ f ∈ D.files, f.b = x.1 ∧ x.2.1 < f.now.length
  safe : ∀ f ∈ D.files, f.safe.length ≤ f.now.length
variable {J : Jr}
/-- The journal is whole, and says s; all else may go. -/
structure Mid (J : Jr) (fs : List FA) (ps : List PD) (s : J.S) : Prop where
  names : ∀ f ∈ fs, f.name = nJ ∨ f.name = nN
  jour : ∀ f ∈ fs, f.name = nJ → f.now = f.safe ∧ (∀ x ∈ ps, x.1 ≠ f.b) ∧ saysL J (f.now.map pad) = s
  none : (∀ f ∈ fs, f.name ≠ nJ) → s = J.emp
  big : ∀ f ∈ fs, f.now.length ≤ 4000
/-- A commit that is going on: so many pages of the row are written. -/
structure Mid2 (J : Jr) (fs : List FA) (ps : List PD) (es : List J.E) (e : J.E) (m : Nat) : Prop where
  only : ∃ f, fs = [f] ∧ f.name = nJ ∧ f.safe = rows J es 1 ∧ f.now = rows J es 1 ++ (row (1 + szs J es) (J.enc e)).take m ∧ ps = pendsOf f.b (rows J es 1).length ((row (1 + szs J es) (J.enc e)).take m)
end Go.Man

/- Journals on a disk: step by step. The plain law. -/
namespace Go.Man
open Go.Page Go.Dsk
open Go.Ab (splice)
set_option linter.unusedVariables false
set_option linter.unusedSimpArgs false

abbrev cut (D : DS) : DS := { D with off := true }
variable {J : Jr} {D : DS} {s : J.S} {es : List J.E} {e : J.E} {t : Bs} {b : Nat} {f : FA}

theorem find_iff : D.find t = some f → f ∈ D.files ∧ f.name = t := by
  intro h
  exact ⟨List.mem_of_find?_eq_some h, by have := List.find?_some h; simpa using this⟩
theorem find_of (hn : (D.files.map (·.name)).Nodup) (hf : f ∈ D.files) : D.find f.name = some f := by
  cases h : D.find f.name with
  | none =>
    have := List.find?_eq_none.1 h f hf
    simp at this
  | some g =>
    obtain ⟨h1, h2⟩ := find_iff h
    rw [uniq_n hn h1 hf h2]
section
variable (O : DOk D) (M : Mid J D.files D.pends s)
include O M
omit O in
theorem Mid.create : Mid J (D.files ++ [mkF b nN]) D.pends s := by
  refine ⟨fun g hg => ?_, fun g hg hn => ?_, fun h => M.none fun g hg hn => h g (by simp [hg]) hn, fun g hg => ?_⟩
  · rcases List.mem_append.1 hg with hg | hg
    · exact M.names g hg
    · simp at hg; subst hg; exact .inr rfl
  · rcases List.mem_append.1 hg with hg | hg
    · exact M.jour g hg hn
    · simp at hg; subst hg; exact absurd (show nN = nJ from hn) (by decide)
  · rcases List.mem_append.1 hg with hg | hg
    · exact M.big g hg
    · simp at hg; subst hg; simp [mkF]
theorem Mid.append {p : Bs} (hf : D.find nN = some f) (hl : f.now.length < 4000) : Mid J (upF D.files { f with now := f.now ++ [p] }) (D.pends ++ [(f.b, f.now.length, p)]) s := by
  obtain ⟨h1, h2⟩ := find_iff hf
  have back : ∀ g ∈ upF D.files { f with now := f.now ++ [p] }, g.name = nJ → g ∈ D.files ∧ g.b ≠ f.b := fun g hg hn => by
    rcases upF_mem hg with rfl | h
    · exact absurd (h2.symm.trans hn) (by decide)
    · exact h
  refine ⟨fun g hg => ?_, fun g hg hn => ?_, fun h => M.none fun g hg hn => h g ?_ hn, fun g hg => ?_⟩
  · rcases upF_mem hg with rfl | h
    · exact .inr h2
    · exact M.names g h.1
  · obtain ⟨hg, hb⟩ := back g hg hn
    obtain ⟨a, c, d⟩ := M.jour g hg hn
    refine ⟨a, fun x hx => ?_, d⟩
    rcases List.mem_append.1 hx with hx | hx
    · exact c x hx
    · simp at hx; subst hx; exact fun h => hb h.symm
  · unfold upF
    refine List.mem_map.2 ⟨g, hg, if_neg fun hb => ?_⟩
    have := uniq_b O.blocks hg h1 hb
    subst this
    exact absurd (h2.symm.trans hn) (by decide)
  · rcases upF_mem hg with rfl | h
    · show (f.now ++ [p]).length ≤ 4000
      rw [List.length_append]; simp; omega
    · exact M.big g h.1
theorem Mid.sync (hf : D.find nN = some f) : Mid J (upF D.files (keepAll f D.pends)) (D.pends.filter (notB f.b)) s := by
  obtain ⟨h1, h2⟩ := find_iff hf
  obtain ⟨k1, k2, k3⟩ := keepAll_b (f := f) D.pends
  refine ⟨fun g hg => ?_, fun g hg hn => ?_, fun h => M.none fun g hg hn => h g ?_ hn, fun g hg => ?_⟩
  · rcases upF_mem hg with rfl | h
    · exact .inr (k2.trans h2)
    · exact M.names g h.1
  · rcases upF_mem hg with rfl | h
    · exact absurd ((k2.trans h2).symm.trans hn) (by decide)
    · obtain ⟨a, c, d⟩ := M.jour g h.1 hn
      exact ⟨a, fun x hx => c x (List.mem_filter.1 hx).1, d⟩
  · unfold upF
    refine List.mem_map.2 ⟨g, hg, if_neg fun hb => ?_⟩
    rw [k1] at hb
    have := uniq_b O.blocks hg h1 hb
    subst this
    exact absurd (h2.symm.trans hn) (by decide)
  · rcases upF_mem hg with rfl | h
    · rw [k3]; exact M.big f h1
    · exact M.big g h.1
end

/-- The new file: so many pages are in it, all of them pending. -/
def Fr (D : DS) (l : List Bs) : Prop := ∃ f, D.find nN = some f ∧ f.now = l ∧ f.safe = [] ∧ D.pends = pendsOf f.b 0 l
/-- .. all of them kept. -/
def Fs (D : DS) (l : List Bs) : Prop := ∃ f, D.find nN = some f ∧ f.now = l ∧ f.safe = l ∧ D.pends = []
theorem find_upF {f' : FA} (O : DOk D) (hf : D.find t = some f) (hb : f'.b = f.b) (hn : f'.name = f.name) (D' : DS) (hD : D'.files = upF D.files f') : D'.find t = some f' := by
  obtain ⟨h1, h2⟩ := find_iff hf
  have hnames : (D'.files.map (·.name)).Nodup := by
    have : D'.files.map (·.name) = D.files.map (·.name) := by
      rw [hD]; unfold upF
      rw [List.map_map]
      refine List.map_congr_left fun g hg => ?_
      simp only [Function.comp_def]
      split
      · rename_i hgb
        have := uniq_b O.blocks hg h1 (hgb.trans hb)
        rw [this, hn]
      · rfl
    rw [this]; exact O.names
  have hm : f' ∈ D'.files := by
    rw [hD]; unfold upF
    exact List.mem_map.2 ⟨f, h1, if_pos hb.symm⟩
  have := find_of hnames hm
  rwa [hn, h2] at this
theorem Fr.start (hf : D.find nN = none) (hp : D.pends = []) {n : Int} : Fr { D with left := n, files := D.files ++ [mkF b nN] } [] := by
  refine ⟨mkF b nN, ?_, rfl, rfl, hp⟩
  show (D.files ++ [mkF b nN]).find? _ = _
  rw [List.find?_append]
  have : D.files.find? (fun f => f.name == nN) = none := hf
  rw [this]; rfl
theorem Fr.append {l : List Bs} {p : Bs} {n : Int} (O : DOk D) (hf : D.find nN = some f) (h : Fr D l) : f.now.length = l.length ∧ Fr { D with left := n, files := upF D.files { f with now := f.now ++ [p] }, pends := D.pends ++ [(f.b, f.now.length, p)] } (l ++ [p]) := by
  obtain ⟨f0, h0, h1, h2, h3⟩ := h
  rw [hf] at h0; cases h0
  refine ⟨by rw [h1], { f with now := f.now ++ [p] }, find_upF (f' := { f with now := f.now ++ [p] }) O hf rfl rfl _ rfl, by show f.now ++ [p] = _; rw [h1], h2, ?_⟩
  show D.pends ++ [(f.b, f.now.length, p)] = _
  rw [h3, pendsOf_snoc, h1, Nat.zero_add]
theorem mix_full {p r : Bs} (hp : p.length = 64) : mixS p r 64 = p := by
  apply List.ext_getElem?
  intro i
  by_cases hi : i < 64
  · rw [mix_get hi, if_pos hi, List.getD_eq_getElem?_getD, List.getElem?_eq_getElem (by omega)]; rfl
  · rw [List.getElem?_eq_none (by rw [mix_len]; omega), List.getElem?_eq_none (by omega)]
theorem keepAll_pends {base : List Bs} : ∀ {l : List Bs} {f : FA}, f.safe = base → (∀ p ∈ l, p.length = 64) → (keepAll f (pendsOf f.b base.length l)).safe = base ++ l := by
  intro l
  induction l using Go.Num.snoc_ind with
  | h0 => intro f hf _; simpa [pendsOf, keepAll] using hf
  | h1 l p ih =>
    intro f hf hl
    have ih := ih hf fun q hq => hl q (by simp [hq])
    rw [pendsOf_snoc, keepAll_snoc, if_pos rfl]
    unfold keepF
    rw [if_neg (by omega)]
    simp only
    rw [ih]
    have e : padTo (base ++ l) (base.length + l.length + 1) = base ++ l ++ [[]] := by
      unfold padTo
      rw [List.length_append, show base.length + l.length + 1 - (base.length + l.length) = 1 by omega]; rfl
    rw [e, show (min (64 : Int) 64).toNat = 64 by decide, mix_full (hl p (by simp)), List.set_append_right _ _ (by simp), List.length_append]
    simp
theorem notB_all {l : List Bs} {b i : Nat} : (pendsOf b i l).filter (notB b) = [] := by
  rw [List.filter_eq_nil_iff]
  intro x hx
  have := (pendsOf_b hx).1
  simp [notB, this]
theorem Fr.sync {l : List Bs} {n : Int} (O : DOk D) (hf : D.find nN = some f) (h : Fr D l) (hl : ∀ p ∈ l, p.length = 64) : Fs { D with left := n, files := upF D.files (keepAll f D.pends), pends := D.pends.filter (notB f.b) } l := by
  obtain ⟨f0, h0, h1, h2, h3⟩ := h
  rw [hf] at h0; cases h0
  obtain ⟨k1, k2, k3⟩ := keepAll_b (f := f) D.pends
  refine ⟨keepAll f D.pends, find_upF O hf k1 k2 _ rfl, k3.trans h1, ?_, ?_⟩
  · rw [h3]
    have := keepAll_pends (base := []) (l := l) h2 hl
    simpa using this
  · show D.pends.filter _ = []
    rw [h3]; exact notB_all
/-- A journal that lies there whole. -/
def Idle (J : Jr) (D : DS) (es : List J.E) : Prop := ∃ f, D.files = [f] ∧ f.name = nJ ∧ f.now = rows J es 1 ∧ f.safe = rows J es 1 ∧ D.pends = []
theorem Mid2.find {m : Nat} (M : Mid2 J D.files D.pends es e m) : ∃ f, D.find nJ = some f ∧ f.now.length ≤ szs J es + sz J e ∧ D.used = f.now.length := by
  obtain ⟨f, h1, h2, h3, h4, h5⟩ := M.only
  refine ⟨f, ?_, ?_, ?_⟩
  · unfold DS.find; rw [h1]; simp [h2]
  · rw [h4, List.length_append, rows_len, List.length_take, sz_row]; omega
  · unfold DS.used; rw [h1]; simp
theorem Mid2.append {m : Nat} {p : Bs} (M : Mid2 J D.files D.pends es e m) (hf : D.find nJ = some f) (hp : (row (1 + szs J es) (J.enc e))[m]? = some p) :
    Mid2 J (upF D.files { f with now := f.now ++ [p] }) (D.pends ++ [(f.b, f.now.length, p)]) es e (m + 1) := by
  obtain ⟨f0, h1, h2, h3, h4, h5⟩ := M.only
  have : D.find nJ = some f0 := by unfold DS.find; rw [h1]; simp [h2]
  rw [hf] at this; cases this
  have hm := (List.getElem?_eq_some_iff.1 hp).1
  refine ⟨{ f with now := f.now ++ [p] }, by rw [h1]; simp [upF], h2, h3, ?_, ?_⟩
  · show f.now ++ [p] = _
    rw [h4, List.take_add_one, hp, List.append_assoc]; rfl
  · rw [List.take_add_one, hp, h5]
    show _ = pendsOf f.b _ (_ ++ [p])
    rw [pendsOf_snoc, h4, List.length_append]
theorem Mid2.sync {n : Int} (O : DOk D) (M : Mid2 J D.files D.pends es e (sz J e)) (hf : D.find nJ = some f) : Idle J { D with left := n, files := upF D.files (keepAll f D.pends), pends := D.pends.filter (notB f.b) } (es ++ [e]) := by
  obtain ⟨f0, h1, h2, h3, h4, h5⟩ := M.only
  have : D.find nJ = some f0 := by unfold DS.find; rw [h1]; simp [h2]
  rw [hf] at this; cases this
  obtain ⟨k1, k2, k3⟩ := keepAll_b (f := f) D.pends
  have ht : (row (1 + szs J es) (J.enc e)).take (sz J e) = row (1 + szs J es) (J.enc e) := List.take_of_length_le (by rw [sz_row]; omega)
  rw [ht] at h4 h5
  have er : rows J (es ++ [e]) 1 = rows J es 1 ++ row (1 + szs J es) (J.enc e) := by rw [rows_append, rows_one]
  refine ⟨keepAll f D.pends, by rw [h1]; simp [upF, k1], k2.trans h2, by rw [k3, h4, er], ?_, ?_⟩
  · rw [h5, er]
    exact keepAll_pends h3 fun p hp => by
      obtain ⟨i, hi⟩ := List.getElem?_of_mem hp
      exact (row_get _ _ _ (Nat.le_refl _) i p hi).2
  · show D.pends.filter _ = []
    rw [h5]; exact notB_all
end Go.Man

/- Many sectors written behind a file, one by one; the deeds of a disk that has power and room. -/
namespace Go.Dsk
open Go.Man (pendsOf pendsOf_snoc keepAll_pends notB_all find_of pendsOf_b)
set_option linter.unusedVariables false
set_option linter.unusedSimpArgs false
section
variable {D : DS} {f : FA} {b : Nat} {s : Bs}
/-- Sectors appended one by one, up to the first that is refused. -/
def appAll (s : Bs) : List Bs → DS → Int × DS
  | [], D => (0, D)
  | x :: l, D => if (D.append s x).1 = 0 then appAll s l (D.append s x).2 else D.append s x
/-- A file is made, sectors are appended, and it is kept. -/
def DS.wr (D : DS) (s : Bs) (S : List Bs) (b : Nat) : Int × DS :=
  if (D.create s b).1 = 0 then
    if (appAll s S (D.create s b).2).1 = 0 then (appAll s S (D.create s b).2).2.sync s else appAll s S (D.create s b).2
  else D.create s b
end
end Go.Dsk
