import Derived.Test.YtnglhicedhcpbaaGreatDoorLG2
import Derived.Test.YtnglhicedhcpbaaGreatDoorLG18
namespace Go.Man
open Go.Page Go.Dsk
open Go.Ab (splice)
set_option linter.unusedVariables false
set_option linter.unusedSimpArgs false
abbrev Bs := List UInt8
structure Jr where
 E : Type
 S : Type
 enc : E -> Bs
 dec : Bs -> Option E
 emp : S
 app : S -> E -> Option S
 eds : S -> List E
 dec_enc : ∀ (s s' : S) (e : E), app s e = some s' -> dec (enc e) = some e
variable {J : Jr}
def fold (s : J.S) : List J.E -> Option J.S
 | [] => some s
 | e :: es => (J.app s e).bind fun s' => fold s' es
theorem jC {s : J.S} : ∀ {a b : List J.E}, fold s (a ++ b) = (fold s a).bind fun s' => fold s' b
 | [], b => rfl
 | e :: a, b => by
  simp only [List.cons_append, fold]
  cases J.app s e with
  | none => rfl
  | some s' => simp only [Option.bind_some]; exact jC
def sz (J : Jr) (e : J.E) : Nat := max 1 (((J.enc e).length + 41) / 42)
theorem sz_row {e : J.E} {t : Nat} : (row t (J.enc e)).length = sz J e := zBX _ _ _ (Nat.le_refl _)
def szs (J : Jr) (es : List J.E) : Nat := (es.map (sz J)).sum
def rows (J : Jr) : List J.E -> Nat -> List Bs
 | [], _ => []
 | e :: es, t => row t (J.enc e) ++ rows J es (t + sz J e)
theorem vF : ∀ {es : List J.E} {t : Nat}, (rows J es t).length = szs J es
 | [], t => rfl
 | e :: es, t => by simp only [rows, List.length_append, sz_row, vF, szs, List.map_cons, List.sum_cons]
theorem zBW : ∀ {a b : List J.E} {t : Nat}, rows J (a ++ b) t = rows J a t ++ rows J b (t + szs J a)
 | [], b, t => rfl
 | e :: a, b, t => by
  simp only [List.cons_append, rows, zBW, List.append_assoc, szs, List.map_cons, List.sum_cons]
  congr 3; omega
theorem zKC {e : J.E} {t : Nat} : rows J [e] t = row t (J.enc e) := by simp [rows]
theorem zGF : ∀ {es : List J.E} {t : Nat}, ∀ s ∈ rows J es t, s.length = 64
 | [], t, s, h => by cases h
 | e :: es, t, s, h => by
  rcases List.mem_append.1 h with h | h
  ·obtain ⟨i, hi⟩ := List.getElem?_of_mem h
   exact (vR _ _ _ (Nat.le_refl _) i s hi).2
  ·exact zGF s h
theorem pad_map {l : List Bs} (h : ∀ s ∈ l, s.length = 64) : l.map pad = l := by
 conv => rhs; rw [<- List.map_id l]
 exact List.map_congr_left fun s hs => zP7 (h s hs)
def says (J : Jr) : Nat -> List Bs -> Nat -> J.S -> J.S
 | 0, _, _, s => s
 | n + 1, l, t, s => match vP l t with
  | none => s
  | some (b, k) => match J.dec b with
   | none => s
   | some e => match J.app s e with
    | none => s
    | some s' => says J n (l.drop k) (t + k) s'
def zCX (J : Jr) (l : List Bs) : J.S := says J l.length l 1 J.emp
theorem zKA {n t : Nat} {s : J.S} : says J n [] t s = s := by cases n <;> rfl
theorem says_row {n t : Nat} {s s' : J.S} {e : J.E} {l : List Bs} (h : J.app s e = some s') : says J (n + 1) (row t (J.enc e) ++ l) t s = says J n l (t + sz J e) s' := by
 rw [says, unrow_row _ _ _ _ (Nat.le_refl _)]
 simp only
 rw [J.dec_enc _ _ _ h]
 simp only
 rw [h]
 simp only
 rw [List.drop_left, sz_row]
theorem sz_pos {e : J.E} : 1 <= sz J e := by unfold sz; omega
theorem zHG : ∀ {es : List J.E} {n t : Nat} {s s' : J.S} {l : List Bs}, fold s es = some s' -> szs J es + l.length <= n -> ∃ n', l.length <= n' /\ says J n (rows J es t ++ l) t s = says J n' l (t + szs J es) s'
 | [], n, t, s, s', l, h, hn => by
  simp only [fold, Option.some.injEq] at h
  subst h
  exact ⟨n, by simp [szs] at hn; exact hn, rfl⟩
 | e :: es, n, t, s, s', l, h, hn => by
  simp only [fold] at h
  obtain ⟨s1, h1, h2⟩ := Option.bind_eq_some_iff.1 h
  have hp := sz_pos (J := J) (e := e)
  simp only [szs, List.map_cons, List.sum_cons] at hn
  match n, hn with
  | n + 1, hn =>
   obtain ⟨n', g1, g2⟩ := zHG (t := t + sz J e) (l := l) h2 (n := n) (by simp only [szs]; omega)
   refine ⟨n', g1, ?_⟩
   simp only [rows, List.append_assoc]
   rw [says_row h1, g2]
   simp only [szs, List.map_cons, List.sum_cons]
   congr 1; omega
  | 0, hn => omega
theorem zLF {es : List J.E} {s : J.S} (h : fold J.emp es = some s) : zCX J (rows J es 1) = s := by
 obtain ⟨n', _, h2⟩ := zHG (n := (rows J es 1).length) (t := 1) (l := []) h (by rw [vF]; simp)
 rw [List.append_nil] at h2
 unfold zCX
 rw [h2, zKA]
theorem mix_len {s r : Bs} {n : Nat} : (mixS s r n).length = 64 := by simp [mixS]
theorem mix_get {s r : Bs} {n i : Nat} (hi : i < 64) : (mixS s r n)[i]? = some (if i < n then s.getD i 0 else r.getD i 0) := by
 unfold mixS
 rw [List.getElem?_map, List.getElem?_range hi]; rfl
def fcStep (b : Nat) (g : FA) (x : PD × Int) : FA := if x.1.1 = b then jJ g x.1.2.1 x.1.2.2 x.2 else g
def fc (f : FA) (L : List (PD × Int)) : FA := L.foldl (fcStep f.b) f
theorem zOB {g : FA} {i N : Nat} {s : Bs} {n : Int} (hi : i < N) (hs : g.safe.length <= N) : (jJ g i s n).safe.length <= N := by
 unfold jJ
 split
 ·exact hs
 ·simp only [List.length_set, zHW]; omega
def kZ (b : Nat) : Nat -> List Bs -> List PD
 | _, [] => []
 | i, p :: l => (b, i, p) :: kZ b (i + 1) l
theorem vG {b : Nat} : ∀ {l : List Bs} {i : Nat} {p : Bs}, kZ b i (l ++ [p]) = kZ b i l ++ [(b, i + l.length, p)]
 | [], i, p => by simp [kZ]
 | x :: l, i, p => by
  simp only [List.cons_append, kZ, vG, List.length_cons]
  rw [show i + 1 + l.length = i + (l.length + 1) by omega]
theorem zHU {b : Nat} : ∀ {l : List Bs} {i : Nat} {x : PD}, x ∈ kZ b i l -> x.1 = b /\ i <= x.2.1 /\ x.2.1 < i + l.length
 | [], i, x, h => by cases h
 | p :: l, i, x, h => by
  rcases List.mem_cons.1 h with rfl | h
  ·simp
  ·have := zHU h
   simp only [List.length_cons]
   exact ⟨this.1, by omega, by omega⟩
abbrev nJ : Bs := [106, 111, 117, 114, 110, 97, 108]
abbrev nN : Bs := [106, 111, 117, 114, 110, 97, 108, 46, 110, 101, 119]
structure DOk (D : DS) : Prop where
 names : (D.files.map (·.name)).Nodup
 blocks : (D.files.map (·.b)).Nodup
 pfile : ∀ x ∈ D.pends, ∃ f ∈ D.files, f.b = x.1 /\ x.2.1 < f.now.length
 safe : ∀ f ∈ D.files, f.safe.length <= f.now.length
variable {J : Jr}
structure Mid (J : Jr) (fs : List FA) (ps : List PD) (s : J.S) : Prop where
 names : ∀ f ∈ fs, f.name = nJ ∨ f.name = nN
 jour : ∀ f ∈ fs, f.name = nJ -> f.now = f.safe /\ (∀ x ∈ ps, x.1 ≠ f.b) /\ zCX J (f.now.map pad) = s
 none : (∀ f ∈ fs, f.name ≠ nJ) -> s = J.emp
 big : ∀ f ∈ fs, f.now.length <= 2000
structure Mid2 (J : Jr) (fs : List FA) (ps : List PD) (es : List J.E) (e : J.E) (m : Nat) : Prop where
 only : ∃ f, fs = [f] /\ f.name = nJ /\ f.safe = rows J es 1 /\ f.now = rows J es 1 ++ (row (1 + szs J es) (J.enc e)).take m /\ ps = kZ f.b (rows J es 1).length ((row (1 + szs J es) (J.enc e)).take m)
theorem vZ (D : DS) : (D.deed.1 = 0 /\ ∃ n, D.deed.2 = { D with left := n } /\ (D.left = -1 -> n = -1)) ∨ (D.deed.1 = 50 /\ D.deed.2 = { D with off := true } /\ D.left = 0) := by
 unfold DS.deed
 split
 ·rename_i h; exact .inr ⟨rfl, rfl, h⟩
 ·split
  ·exact .inl ⟨rfl, _, rfl, fun h => by omega⟩
  ·exact .inl ⟨rfl, D.left, rfl, id⟩
abbrev cut (D : DS) : DS := { D with off := true }
variable {J : Jr} {D : DS} {s : J.S} {es : List J.E} {e : J.E} {t : Bs} {b : Nat} {f : FA}
theorem zOW (ho : D.off = false) : (D.find t = none /\ D.delete t = (4, D)) ∨
  (∃ f n, D.find t = some f /\ D.delete t = (0, { D with left := n, files := D.files.filter (fun g => !(g.b == f.b)), pends := D.pends.filter (notB f.b) }) /\ (D.left = -1 -> n = -1)) ∨ (D.delete t = (50, cut D) /\ D.left = 0) := by
 unfold DS.delete
 rw [if_neg (by simp [ho])]
 cases hf : D.find t with
 | none => exact .inl ⟨rfl, rfl⟩
 | some f =>
  right
  simp only
  rcases vZ D with ⟨h1, n, h2, h3⟩ | ⟨h1, h2, h3⟩
  ·left; rw [if_pos h1, h2]; exact ⟨f, n, rfl, rfl, h3⟩
  ·right; rw [if_neg (by omega)]; exact ⟨Prod.ext h1 h2, h3⟩
theorem zIF (ho : D.off = false) (hm : mayN t = true) (hf : D.find t = none) (hl : D.files.length < 256) : (∃ n, D.create t b = (0, { D with left := n, files := D.files ++ [mkF b t] }) /\ (D.left = -1 -> n = -1)) ∨ (D.create t b = (50, cut D) /\ D.left = 0) := by
 unfold DS.create
 rw [if_neg (by simp [hm]), if_neg (by simp [ho]), if_neg (by simp [hf]), if_neg (by omega)]
 rcases vZ D with ⟨h1, n, h2, h3⟩ | ⟨h1, h2, h3⟩
 ·left; rw [if_pos h1, h2]; exact ⟨n, rfl, h3⟩
 ·right; rw [if_neg (by omega)]; exact ⟨Prod.ext h1 h2, h3⟩
theorem zDV {p : Bs} (hp : p.length = 64) (ho : D.off = false) (hf : D.find t = some f) (hu : D.used < D.limit) : (∃ n, D.append t p = (0, { D with left := n, files := upF D.files { f with now := f.now ++ [p] }, pends := D.pends ++ [(f.b, f.now.length, p)] }) /\ (D.left = -1 -> n = -1)) ∨ (D.append t p = (50, cut D) /\ D.left = 0) := by
 unfold DS.append
 rw [if_neg (by simp [hp]), if_neg (by simp [ho]), hf]
 simp only
 rw [if_neg (by omega)]
 rcases vZ D with ⟨h1, n, h2, h3⟩ | ⟨h1, h2, h3⟩
 ·left; rw [if_pos h1, h2]; exact ⟨n, rfl, h3⟩
 ·right; rw [if_neg (by omega)]; exact ⟨Prod.ext h1 h2, h3⟩
theorem zFD (ho : D.off = false) (hf : D.find t = some f) : (∃ n, D.sync t = (0, { D with left := n, files := upF D.files (zV f D.pends), pends := D.pends.filter (notB f.b) }) /\ (D.left = -1 -> n = -1)) ∨ (D.sync t = (50, cut D) /\ D.left = 0) := by
 unfold DS.sync
 rw [if_neg (by simp [ho]), hf]
 simp only
 rcases vZ D with ⟨h1, n, h2, h3⟩ | ⟨h1, h2, h3⟩
 ·left; rw [if_pos h1, h2]; exact ⟨n, rfl, h3⟩
 ·right; rw [if_neg (by omega)]; exact ⟨Prod.ext h1 h2, h3⟩
theorem zHN {u : Bs} (ho : D.off = false) (hm : mayN u = true) (hf : D.find t = some f) (hne : t ≠ u) : (∃ n, D.rename t u = (0, { D with left := n, files := reN D.files f u, pends := match D.find u with | some g => D.pends.filter (notB g.b) | none => D.pends }) /\ (D.left = -1 -> n = -1)) ∨ (D.rename t u = (50, cut D) /\ D.left = 0) := by
 unfold DS.rename
 rw [if_neg (by simp [hm]), if_neg (by simp [ho]), hf]
 simp only
 rcases vZ D with ⟨h1, n, h2, h3⟩ | ⟨h1, h2, h3⟩
 ·left; rw [if_pos h1, if_neg hne, h2]; exact ⟨n, rfl, h3⟩
 ·right; rw [if_neg (by omega)]; exact ⟨Prod.ext h1 h2, h3⟩
theorem kH : D.find t = some f -> f ∈ D.files /\ f.name = t := by
 intro h
 exact ⟨List.mem_of_find?_eq_some h, by have := List.find?_some h; simpa using this⟩
theorem find_of (hn : (D.files.map (·.name)).Nodup) (hf : f ∈ D.files) : D.find f.name = some f := by
 cases h : D.find f.name with
 | none =>
  have := List.find?_eq_none.1 h f hf
  simp at this
 | some g =>
  obtain ⟨h1, h2⟩ := kH h
  rw [zD9 hn h1 hf h2]
theorem zKR : D.find t = none -> ∀ f ∈ D.files, f.name ≠ t := by
 intro h f hf hn
 have := List.find?_eq_none.1 h f hf
 simp [hn] at this
section
variable (O : DOk D) (M : Mid J D.files D.pends s)
include O M
theorem Mid.del (hf : D.find t = some f) (ht : t ≠ nJ) : Mid J (D.files.filter fun g => !(g.b == f.b)) (D.pends.filter (notB f.b)) s := by
 obtain ⟨h1, h2⟩ := kH hf
 refine ⟨fun g hg => M.names g (List.mem_filter.1 hg).1, fun g hg hn => ?_, fun h => M.none fun g hg hn => ?_, fun g hg => M.big g (List.mem_filter.1 hg).1⟩
 ·obtain ⟨a, c, d⟩ := M.jour g (List.mem_filter.1 hg).1 hn
  exact ⟨a, fun x hx => c x (List.mem_filter.1 hx).1, d⟩
 ·by_cases hb : g.b = f.b
  ·have := yZ O.blocks hg h1 hb
   subst this
   exact ht (h2.symm.trans hn)
  ·exact h g (List.mem_filter.2 ⟨hg, by simpa using hb⟩) hn
omit O in
theorem Mid.create : Mid J (D.files ++ [mkF b nN]) D.pends s := by
 refine ⟨fun g hg => ?_, fun g hg hn => ?_, fun h => M.none fun g hg hn => h g (by simp [hg]) hn, fun g hg => ?_⟩
 ·rcases List.mem_append.1 hg with hg | hg
  ·exact M.names g hg
  ·simp at hg; subst hg; exact .inr rfl
 ·rcases List.mem_append.1 hg with hg | hg
  ·exact M.jour g hg hn
  ·simp at hg; subst hg; exact absurd (show nN = nJ from hn) (by decide)
 ·rcases List.mem_append.1 hg with hg | hg
  ·exact M.big g hg
  ·simp at hg; subst hg; simp [mkF]
theorem Mid.append {p : Bs} (hf : D.find nN = some f) (hl : f.now.length < 2000) : Mid J (upF D.files { f with now := f.now ++ [p] }) (D.pends ++ [(f.b, f.now.length, p)]) s := by
 obtain ⟨h1, h2⟩ := kH hf
 have back : ∀ g ∈ upF D.files { f with now := f.now ++ [p] }, g.name = nJ -> g ∈ D.files /\ g.b ≠ f.b := fun g hg hn => by
  rcases kI hg with rfl | h
  ·exact absurd (h2.symm.trans hn) (by decide)
  ·exact h
 refine ⟨fun g hg => ?_, fun g hg hn => ?_, fun h => M.none fun g hg hn => h g ?_ hn, fun g hg => ?_⟩
 ·rcases kI hg with rfl | h
  ·exact .inr h2
  ·exact M.names g h.1
 ·obtain ⟨hg, hb⟩ := back g hg hn
  obtain ⟨a, c, d⟩ := M.jour g hg hn
  refine ⟨a, fun x hx => ?_, d⟩
  rcases List.mem_append.1 hx with hx | hx
  ·exact c x hx
  ·simp at hx; subst hx; exact fun h => hb h.symm
 ·unfold upF
  refine List.mem_map.2 ⟨g, hg, if_neg fun hb => ?_⟩
  have := yZ O.blocks hg h1 hb
  subst this
  exact absurd (h2.symm.trans hn) (by decide)
 ·rcases kI hg with rfl | h
  ·show (f.now ++ [p]).length <= 2000
   rw [List.length_append]; simp; omega
  ·exact M.big g h.1
theorem Mid.sync (hf : D.find nN = some f) : Mid J (upF D.files (zV f D.pends)) (D.pends.filter (notB f.b)) s := by
 obtain ⟨h1, h2⟩ := kH hf
 obtain ⟨k1, k2, k3⟩ := vY (f := f) D.pends
 refine ⟨fun g hg => ?_, fun g hg hn => ?_, fun h => M.none fun g hg hn => h g ?_ hn, fun g hg => ?_⟩
 ·rcases kI hg with rfl | h
  ·exact .inr (k2.trans h2)
  ·exact M.names g h.1
 ·rcases kI hg with rfl | h
  ·exact absurd ((k2.trans h2).symm.trans hn) (by decide)
  ·obtain ⟨a, c, d⟩ := M.jour g h.1 hn
   exact ⟨a, fun x hx => c x (List.mem_filter.1 hx).1, d⟩
 ·unfold upF
  refine List.mem_map.2 ⟨g, hg, if_neg fun hb => ?_⟩
  rw [k1] at hb
  have := yZ O.blocks hg h1 hb
  subst this
  exact absurd (h2.symm.trans hn) (by decide)
 ·rcases kI hg with rfl | h
  ·rw [k3]; exact M.big f h1
  ·exact M.big g h.1
end
def Fr (D : DS) (l : List Bs) : Prop := ∃ f, D.find nN = some f /\ f.now = l /\ f.safe = [] /\ D.pends = kZ f.b 0 l
def Fs (D : DS) (l : List Bs) : Prop := ∃ f, D.find nN = some f /\ f.now = l /\ f.safe = l /\ D.pends = []
theorem zKQ {f' : FA} (O : DOk D) (hf : D.find t = some f) (hb : f'.b = f.b) (hn : f'.name = f.name) (D' : DS) (hD : D'.files = upF D.files f') : D'.find t = some f' := by
 obtain ⟨h1, h2⟩ := kH hf
 have hnames : (D'.files.map (·.name)).Nodup := by
  have : D'.files.map (·.name) = D.files.map (·.name) := by
   rw [hD]; unfold upF
   rw [List.map_map]
   refine List.map_congr_left fun g hg => ?_
   simp only [Function.comp_def]
   split
   ·rename_i hgb
    have := yZ O.blocks hg h1 (hgb.trans hb)
    rw [this, hn]
   ·rfl
  rw [this]; exact O.names
 have hm : f' ∈ D'.files := by
  rw [hD]; unfold upF
  exact List.mem_map.2 ⟨f, h1, if_pos hb.symm⟩
 have := find_of hnames hm
 rwa [hn, h2] at this
theorem Fr.start (hf : D.find nN = none) (hp : D.pends = []) {n : Int} : Fr { D with left := n, files := D.files ++ [mkF b nN] } [] := by
 refine ⟨mkF b nN, ?_, rfl, rfl, hp⟩
 show (D.files ++ [mkF b nN]).find? _ = _
 rw [List.find?_append]
 have : D.files.find? (fun f => f.name == nN) = none := hf
 rw [this]; rfl
theorem Fr.append {l : List Bs} {p : Bs} {n : Int} (O : DOk D) (hf : D.find nN = some f) (h : Fr D l) : f.now.length = l.length /\ Fr { D with left := n, files := upF D.files { f with now := f.now ++ [p] }, pends := D.pends ++ [(f.b, f.now.length, p)] } (l ++ [p]) := by
 obtain ⟨f0, h0, h1, h2, h3⟩ := h
 rw [hf] at h0; cases h0
 refine ⟨by rw [h1], { f with now := f.now ++ [p] }, zKQ (f' := { f with now := f.now ++ [p] }) O hf rfl rfl _ rfl, by show f.now ++ [p] = _; rw [h1], h2, ?_⟩
 show D.pends ++ [(f.b, f.now.length, p)] = _
 rw [h3, vG, h1, Nat.zero_add]
theorem zQH {p r : Bs} (hp : p.length = 64) : mixS p r 64 = p := by
 apply List.ext_getElem?
 intro i
 by_cases hi : i < 64
 ·rw [mix_get hi, if_pos hi, List.getD_eq_getElem?_getD, List.getElem?_eq_getElem (by omega)]; rfl
 ·rw [List.getElem?_eq_none (by rw [mix_len]; omega), List.getElem?_eq_none (by omega)]
theorem zCN {base : List Bs} : ∀ {l : List Bs} {f : FA}, f.safe = base -> (∀ p ∈ l, p.length = 64) -> (zV f (kZ f.b base.length l)).safe = base ++ l := by
 intro l
 induction l using Go.Num.snoc_ind with
 | h0 => intro f hf _; simpa [kZ, zV] using hf
 | h1 l p ih =>
  intro f hf hl
  have ih := ih hf fun q hq => hl q (by simp [hq])
  rw [vG, vI, if_pos rfl]
  unfold jJ
  rw [if_neg (by omega)]
  simp only
  rw [ih]
  have e : yO (base ++ l) (base.length + l.length + 1) = base ++ l ++ [[]] := by
   unfold yO
   rw [List.length_append, show base.length + l.length + 1 - (base.length + l.length) = 1 by omega]; rfl
  rw [e, show (min (64 : Int) 64).toNat = 64 by decide, zQH (hl p (by simp)), List.set_append_right _ _ (by simp), List.length_append]
  simp
theorem zKL {l : List Bs} {b i : Nat} : (kZ b i l).filter (notB b) = [] := by
 rw [List.filter_eq_nil_iff]
 intro x hx
 have := (zHU hx).1
 simp [notB, this]
theorem Fr.sync {l : List Bs} {n : Int} (O : DOk D) (hf : D.find nN = some f) (h : Fr D l) (hl : ∀ p ∈ l, p.length = 64) : Fs { D with left := n, files := upF D.files (zV f D.pends), pends := D.pends.filter (notB f.b) } l := by
 obtain ⟨f0, h0, h1, h2, h3⟩ := h
 rw [hf] at h0; cases h0
 obtain ⟨k1, k2, k3⟩ := vY (f := f) D.pends
 refine ⟨zV f D.pends, zKQ O hf k1 k2 _ rfl, k3.trans h1, ?_, ?_⟩
 ·rw [h3]
  have := zCN (base := []) (l := l) h2 hl
  simpa using this
 ·show D.pends.filter _ = []
  rw [h3]; exact zKL
def Idle (J : Jr) (D : DS) (es : List J.E) : Prop := ∃ f, D.files = [f] /\ f.name = nJ /\ f.now = rows J es 1 /\ f.safe = rows J es 1 /\ D.pends = []
theorem Idle.mid (I : Idle J D es) (hs : fold J.emp es = some s) (hb : szs J es <= 2000) : Mid J D.files D.pends s := by
 obtain ⟨f, h1, h2, h3, h4, h5⟩ := I
 rw [h1, h5]
 refine ⟨fun g hg => ?_, fun g hg _ => ?_, fun h => absurd h2 (h f (by simp)), fun g hg => ?_⟩
 ·simp at hg; subst hg; exact .inl h2
 ·simp at hg; subst hg
  exact ⟨by rw [h3, h4], by simp, by rw [h3, pad_map zGF, zLF hs]⟩
 ·simp at hg; subst hg; rw [h3, vF]; exact hb
theorem two_of {fs : List FA} (hn : (fs.map (·.name)).Nodup) (hbl : (fs.map (·.b)).Nodup) (h2 : ∀ f ∈ fs, f.name = nJ ∨ f.name = nN) (hf : f ∈ fs) (hN : f.name = nN) : reN fs f nJ = [{ f with name := nJ }] := by
 have mem : ∀ g ∈ fs.filter (fun g => !(g.b == f.b)), g ∈ fs /\ g.name = nJ := fun g hg => by
  obtain ⟨a, c⟩ := List.mem_filter.1 hg
  refine ⟨a, (h2 g a).resolve_right fun h => ?_⟩
  have := zD9 hn a hf (h.trans hN.symm)
  subst this; simp at c
 have nd : (fs.filter (fun g => !(g.b == f.b))).Nodup := by
  have : fs.Nodup := by
   refine (List.pairwise_map.1 hn).imp fun h he => h (by rw [he])
  exact this.sublist List.filter_sublist
 unfold reN
 cases hfl : fs.filter (fun g => !(g.b == f.b)) with
 | nil => rfl
 | cons g l =>
  rw [hfl] at mem nd
  have hg := mem g (by simp)
  have : l = [] := by
   cases l with
   | nil => rfl
   | cons g' l =>
    have hg' := mem g' (by simp)
    have := zD9 hn hg.1 hg'.1 (hg.2.trans hg'.2.symm)
    subst this
    simp at nd
  subst this
  simp [hg.2]
theorem Fs.rename {n : Int} (O : DOk D) (M : Mid J D.files D.pends s) (hf : D.find nN = some f) (h : Fs D (rows J es 1)) :
  Idle J { D with left := n, files := reN D.files f nJ, pends := match D.find nJ with | some g => D.pends.filter (notB g.b) | none => D.pends } es := by
 obtain ⟨f0, h0, h1, h2, h3⟩ := h
 rw [hf] at h0; cases h0
 obtain ⟨a, c⟩ := kH hf
 refine ⟨_, two_of O.names O.blocks M.names a c, rfl, h1, h2, ?_⟩
 simp only [h3]
 split <;> rfl
theorem Idle.begin (I : Idle J D es) : Mid2 J D.files D.pends es e 0 := by
 obtain ⟨f, h1, h2, h3, h4, h5⟩ := I
 exact ⟨f, h1, h2, h4, by simpa using h3, by simpa [kZ] using h5⟩
theorem Mid2.find {m : Nat} (M : Mid2 J D.files D.pends es e m) : ∃ f, D.find nJ = some f /\ f.now.length <= szs J es + sz J e /\ D.used = f.now.length := by
 obtain ⟨f, h1, h2, h3, h4, h5⟩ := M.only
 refine ⟨f, ?_, ?_, ?_⟩
 ·unfold DS.find; rw [h1]; simp [h2]
 ·rw [h4, List.length_append, vF, List.length_take, sz_row]; omega
 ·unfold DS.used; rw [h1]; simp
theorem Mid2.append {m : Nat} {p : Bs} (M : Mid2 J D.files D.pends es e m) (hf : D.find nJ = some f) (hp : (row (1 + szs J es) (J.enc e))[m]? = some p) :
  Mid2 J (upF D.files { f with now := f.now ++ [p] }) (D.pends ++ [(f.b, f.now.length, p)]) es e (m + 1) := by
 obtain ⟨f0, h1, h2, h3, h4, h5⟩ := M.only
 have : D.find nJ = some f0 := by unfold DS.find; rw [h1]; simp [h2]
 rw [hf] at this; cases this
 have hm := (List.getElem?_eq_some_iff.1 hp).1
 refine ⟨{ f with now := f.now ++ [p] }, by rw [h1]; simp [upF], h2, h3, ?_, ?_⟩
 ·show f.now ++ [p] = _
  rw [h4, List.take_add_one, hp, List.append_assoc]; rfl
 ·rw [List.take_add_one, hp, h5]
  show _ = kZ f.b _ (_ ++ [p])
  rw [vG, h4, List.length_append]
theorem Mid2.sync {n : Int} (O : DOk D) (M : Mid2 J D.files D.pends es e (sz J e)) (hf : D.find nJ = some f) : Idle J { D with left := n, files := upF D.files (zV f D.pends), pends := D.pends.filter (notB f.b) } (es ++ [e]) := by
 obtain ⟨f0, h1, h2, h3, h4, h5⟩ := M.only
 have : D.find nJ = some f0 := by unfold DS.find; rw [h1]; simp [h2]
 rw [hf] at this; cases this
 obtain ⟨k1, k2, k3⟩ := vY (f := f) D.pends
 have ht : (row (1 + szs J es) (J.enc e)).take (sz J e) = row (1 + szs J es) (J.enc e) := List.take_of_length_le (by rw [sz_row]; omega)
 rw [ht] at h4 h5
 have er : rows J (es ++ [e]) 1 = rows J es 1 ++ row (1 + szs J es) (J.enc e) := by rw [zBW, zKC]
 refine ⟨zV f D.pends, by rw [h1]; simp [upF, k1], k2.trans h2, by rw [k3, h4, er], ?_, ?_⟩
 ·rw [h5, er]
  exact zCN h3 fun p hp => by
   obtain ⟨i, hi⟩ := List.getElem?_of_mem hp
   exact (vR _ _ _ (Nat.le_refl _) i p hi).2
 ·show D.pends.filter _ = []
  rw [h5]; exact zKL
def addP (D : DS) (t : Bs) : List Bs -> Int × DS × Nat
 | [] => (0, D, 0)
 | p :: ps => if (D.append t p).1 = 0 then ((addP (D.append t p).2 t ps).1, (addP (D.append t p).2 t ps).2.1, (addP (D.append t p).2 t ps).2.2 + 1) else ((D.append t p).1, (D.append t p).2, 0)
theorem zB4 {t : Bs} : ∀ {l m : List Bs} {D D' : DS} {n : Nat}, addP D t l = (0, D', n) -> addP D t (l ++ m) = ((addP D' t m).1, (addP D' t m).2.1, n + (addP D' t m).2.2)
 | [], m, D, D', n, h => by
  simp only [addP, Prod.mk.injEq, true_and] at h
  obtain ⟨rfl, rfl⟩ := h
  simp
 | p :: l, m, D, D', n, h => by
  rw [addP] at h
  rw [List.cons_append, addP]
  split at h
  ·rename_i h0
   rw [if_pos h0]
   simp only [Prod.mk.injEq] at h
   obtain ⟨h1, h2, h3⟩ := h
   have := zB4 (t := t) (l := l) (m := m) (D := (D.append t p).2) (D' := D') (n := n - 1) (Prod.ext h1 (Prod.ext h2 (by simp only; omega)))
   rw [this]
   simp only [Prod.mk.injEq, true_and]
   omega
  ·rename_i h0
   simp only [Prod.mk.injEq] at h
   exact absurd h.1 h0
theorem zK1 {t p : Bs} {D : DS} : addP D t [p] = if (D.append t p).1 = 0 then (0, (D.append t p).2, 1) else ((D.append t p).1, (D.append t p).2, 0) := by
 simp only [addP]
theorem zIO {t p : Bs} {l : List Bs} {i n : Nat} {D D' : DS} (h : addP D t (l.take i) = (0, D', n)) (hp : l[i]? = some p) (h0 : (D'.append t p).1 = 0) : addP D t (l.take (i + 1)) = (0, (D'.append t p).2, n + 1) := by
 rw [List.take_add_one, hp]
 show addP D t (l.take i ++ [p]) = _
 rw [zB4 h, zK1, if_pos h0]
theorem zIN {t p : Bs} {l : List Bs} {i n : Nat} {D D' : DS} (h : addP D t (l.take i) = (0, D', n)) (hp : l[i]? = some p) (h0 : (D'.append t p).1 ≠ 0) : addP D t l = ((D'.append t p).1, (D'.append t p).2, n) := by
 have hl : l = l.take i ++ (p :: l.drop (i + 1)) := by
  conv => lhs; rw [<- List.take_append_drop i l]
  congr 1
  have hi := (List.getElem?_eq_some_iff.1 hp).1
  rw [List.drop_eq_getElem_cons hi]
  congr 1
  exact (List.getElem?_eq_some_iff.1 hp).2
 rw [hl, zB4 h, addP, if_neg h0]
 simp
variable {J : Jr}
def yQ (J : Jr) (D : DS) (pages : Nat) : List J.E -> Int × DS × Nat
 | [] => (0, D, pages)
 | e :: es => if (addP D nN (row (1 + pages) (J.enc e))).1 = 0 then yQ J (addP D nN (row (1 + pages) (J.enc e))).2.1 (pages + (addP D nN (row (1 + pages) (J.enc e))).2.2) es
  else ((addP D nN (row (1 + pages) (J.enc e))).1, (addP D nN (row (1 + pages) (J.enc e))).2.1, pages + (addP D nN (row (1 + pages) (J.enc e))).2.2)
theorem zA1 : ∀ {l m : List J.E} {D D' : DS} {a n : Nat}, yQ J D a l = (0, D', n) -> yQ J D a (l ++ m) = yQ J D' n m
 | [], m, D, D', a, n, h => by
  simp only [yQ, Prod.mk.injEq, true_and] at h
  obtain ⟨rfl, rfl⟩ := h
  rfl
 | e :: l, m, D, D', a, n, h => by
  rw [yQ] at h
  rw [List.cons_append, yQ]
  split at h
  ·rename_i h0
   rw [if_pos h0]
   exact zA1 h
  ·rename_i h0
   simp only [Prod.mk.injEq] at h
   exact absurd h.1 h0
theorem zL0 {e : J.E} {l : List J.E} {i a n : Nat} {D D' : DS} (h : yQ J D a (l.take i) = (0, D', n)) (hp : l[i]? = some e) (h0 : (addP D' nN (row (1 + n) (J.enc e))).1 = 0) :
  yQ J D a (l.take (i + 1)) = (0, (addP D' nN (row (1 + n) (J.enc e))).2.1, n + (addP D' nN (row (1 + n) (J.enc e))).2.2) := by
 rw [List.take_add_one, hp]
 show yQ J D a (l.take i ++ [e]) = _
 rw [zA1 h]
 simp only [yQ, if_pos h0]
theorem zLZ {e : J.E} {l : List J.E} {i a n : Nat} {D D' : DS} (h : yQ J D a (l.take i) = (0, D', n)) (hp : l[i]? = some e) (h0 : (addP D' nN (row (1 + n) (J.enc e))).1 ≠ 0) :
  yQ J D a l = ((addP D' nN (row (1 + n) (J.enc e))).1, (addP D' nN (row (1 + n) (J.enc e))).2.1, n + (addP D' nN (row (1 + n) (J.enc e))).2.2) := by
 have hl : l = l.take i ++ (e :: l.drop (i + 1)) := by
  conv => lhs; rw [<- List.take_append_drop i l]
  congr 1
  have hi := (List.getElem?_eq_some_iff.1 hp).1
  rw [List.drop_eq_getElem_cons hi]
  congr 1
  exact (List.getElem?_eq_some_iff.1 hp).2
 rw [hl, zA1 h, yQ, if_neg h0]
def zP (D : DS) : Int × DS := if (D.find nN).isSome then D.delete nN else (0, D)
def layP (J : Jr) (D : DS) (b : Nat) (pages : Nat) (es : List J.E) : Int × DS × Nat :=
 if (zP D).1 ≠ 0 then ((zP D).1, (zP D).2, pages)
 else if ((zP D).2.create nN b).1 ≠ 0 then (((zP D).2.create nN b).1, ((zP D).2.create nN b).2, pages)
 else if (yQ J ((zP D).2.create nN b).2 0 es).1 ≠ 0 then yQ J ((zP D).2.create nN b).2 0 es
 else if ((yQ J ((zP D).2.create nN b).2 0 es).2.1.sync nN).1 ≠ 0 then (((yQ J ((zP D).2.create nN b).2 0 es).2.1.sync nN).1, ((yQ J ((zP D).2.create nN b).2 0 es).2.1.sync nN).2, (yQ J ((zP D).2.create nN b).2 0 es).2.2)
 else ((((yQ J ((zP D).2.create nN b).2 0 es).2.1.sync nN).2.rename nN nJ).1, (((yQ J ((zP D).2.create nN b).2 0 es).2.1.sync nN).2.rename nN nJ).2, (yQ J ((zP D).2.create nN b).2 0 es).2.2)
def xR (keep : Bs -> Bool) : DS -> List Bs -> Int -> Int × Int × DS
 | D, [], n => (n, 0, D)
 | D, t :: ts, n => if keep t then xR keep D ts n else if (D.delete t).1 = 0 then xR keep (D.delete t).2 ts (n + 1) else (n, (D.delete t).1, (D.delete t).2)
theorem kR {keep : Bs -> Bool} : ∀ {l m : List Bs} {D D' : DS} {a n : Int}, xR keep D l a = (n, 0, D') -> xR keep D (l ++ m) a = xR keep D' m n
 | [], m, D, D', a, n, h => by
  simp only [xR, Prod.mk.injEq, true_and] at h
  obtain ⟨rfl, rfl⟩ := h
  rfl
 | t :: l, m, D, D', a, n, h => by
  rw [xR] at h
  rw [List.cons_append, xR]
  split at h
  ·rename_i hk; rw [if_pos hk]; exact kR h
  ·rename_i hk
   rw [if_neg hk]
   split at h
   ·rename_i h0; rw [if_pos h0]; exact kR h
   ·rename_i h0
    simp only [Prod.mk.injEq] at h
    exact absurd h.2.1 h0
theorem drop_cons {α : Type} {l : List α} {i : Nat} {p : α} (hp : l[i]? = some p) : l = l.take i ++ (p :: l.drop (i + 1)) := by
 conv => lhs; rw [<- List.take_append_drop i l]
 congr 1
 have hi := (List.getElem?_eq_some_iff.1 hp).1
 rw [List.drop_eq_getElem_cons hi]
 congr 1
 exact (List.getElem?_eq_some_iff.1 hp).2
def vA (names : List Bs) (t : Bs) : Bool := (names ++ [nJ]).contains t
def yJ (D : DS) (names : List Bs) : Int × Int × DS := xR (vA names) D D.namesL 0
end Go.Man
namespace Go.Man
open Go.Page Go.Dsk
set_option linter.unusedVariables false
set_option linter.unusedSimpArgs false
structure Std (D : DS) (m : Nat) : Prop where
 on : D.off = false
 lft : D.left = -1
 pnd : D.pends = []
 names : (D.files.map (·.name)).Nodup
 blocks : (D.files.map (·.b)).Nodup
 room : (D.used : Int) + m <= D.limit
variable {D D' : DS} {t p : Bs} {f : FA} {m : Nat}
theorem zOP {D : DS} {t : Bs} {f : FA} (h : D.find t = some f) : f ∈ D.files /\ f.name = t := ⟨List.mem_of_find?_eq_some h, by simpa using List.find?_some h⟩
theorem Std.less (S : Std D m) {k : Nat} (h : k <= m) : Std D k := { S with room := by have := S.room; omega }
theorem zD3 (hon : D.off = false) (hl : D.left = -1) : D.deed = (0, D) := by
 unfold DS.deed
 rw [if_neg (by omega), if_neg (by omega)]
theorem zJ1 {f f' : FA} (hb : (D.files.map (·.b)).Nodup) (hf : D.find t = some f) (h1 : f'.b = f.b) (h2 : f'.name = f.name) {P : List PD} : DS.find { D with files := upF D.files f', pends := P } t = some f' := by
 obtain ⟨hm, hn⟩ := zOP hf
 unfold DS.find at hf ⊢
 simp only [upF] at *
 revert hf hb hm
 generalize D.files = fs
 induction fs with
 | nil => intro _ _ hf; simp at hf
 | cons x fs ih =>
  intro hb hf hm
  simp only [List.map_cons, List.nodup_cons] at hb
  rw [List.find?_cons] at hf
  rw [List.map_cons, List.find?_cons]
  by_cases hx : x.name = t
  ·rw [show (x.name == t) = true by simp [hx]] at hf
   simp only [Option.some.injEq] at hf
   subst hf
   rw [if_pos h1.symm]
   simp [h2, hx]
  ·rw [show (x.name == t) = false by simp [hx]] at hf
   simp only at hf
   have hfm := List.mem_of_find?_eq_some hf
   have hne : ¬ x.b = f'.b := by
    rw [h1]
    intro he
    exact hb.1 (he ▸ List.mem_map_of_mem hfm)
   rw [if_neg hne, show (x.name == t) = false by simp [hx]]
   exact ih hb.2 hf hfm
theorem upF_map {α : Type} (g : FA -> α) {fs : List FA} {f f' : FA} (hb : (fs.map (·.b)).Nodup) (hm : f ∈ fs) (h1 : f'.b = f.b) (h2 : g f' = g f) : (upF fs f').map g = fs.map g := by
 rw [upF, List.map_map]
 refine List.map_congr_left fun x hx => ?_
 simp only [Function.comp]
 split
 ·rename_i h
  rw [h2, yZ hb hx hm (h.trans h1)]
 ·rfl
theorem zJZ {fs : List FA} {f f' : FA} {k : Nat} (hb : (fs.map (·.b)).Nodup) (hm : f ∈ fs) (h1 : f'.b = f.b) (h2 : f'.now.length = f.now.length + k) : ((upF fs f').map (·.now.length)).sum = (fs.map (·.now.length)).sum + k := by
 induction fs with
 | nil => cases hm
 | cons x fs ih =>
  simp only [List.map_cons, List.nodup_cons] at hb
  simp only [upF, List.map_cons, List.sum_cons]
  rcases List.mem_cons.1 hm with rfl | hm'
  ·rw [if_pos h1.symm]
   have : fs.map (fun g => if g.b = f'.b then f' else g) = fs := by
    refine (List.map_congr_left fun y hy => ?_).trans (List.map_id _)
    rw [if_neg]
    ·rfl
    ·rw [h1]
     intro he
     exact hb.1 (he ▸ List.mem_map_of_mem hy)
   rw [this]
   omega
  ·have hne : ¬ x.b = f'.b := by
    rw [h1]
    intro he
    exact hb.1 (he ▸ List.mem_map_of_mem hm')
   rw [if_neg hne]
   have := ih hb.2 hm'
   rw [upF] at this
   omega
theorem zMV (hon : D.off = false) (hl : D.left = -1) (hp : p.length = 64) (hf : D.find t = some f) (hr : (D.used : Int) + 1 <= D.limit) :
  D.append t p = (0, { D with files := upF D.files { f with now := f.now ++ [p] }, pends := D.pends ++ [(f.b, f.now.length, p)] }) := by
 unfold DS.append
 rw [if_neg (by simp [hp]), if_neg (by simp [hon]), hf]
 simp only [zD3 hon hl, if_true]
 rw [if_neg (by omega)]
theorem zK0 : ∀ {l : List Bs} {D : DS} {f : FA}, (∀ p ∈ l, p.length = 64) -> D.off = false -> D.left = -1 -> (D.files.map (·.b)).Nodup -> D.find t = some f -> (D.used : Int) + l.length <= D.limit ->
  ∃ P, addP D t l = (0, { D with files := upF D.files { f with now := f.now ++ l }, pends := D.pends ++ P }, l.length) /\ (∀ x ∈ P, x.1 = f.b) /\ P.length = l.length
 | [], D, f, _, _, _, hb, hf, _ => by
  refine ⟨[], ?_, by simp, rfl⟩
  simp only [addP, List.append_nil, List.length_nil]
  have : upF D.files { f with now := f.now } = D.files := by
   rw [upF]
   refine (List.map_congr_left fun y hy => ?_).trans (List.map_id _)
   split
   ·rename_i h
    exact (yZ hb hy (zOP hf).1 h).symm
   ·rfl
  rw [this]
 | p :: l, D, f, hl, hon, hlf, hb, hf, hr => by
  have h64 := hl p (by simp)
  rw [List.length_cons] at hr
  have ha := zMV hon hlf h64 hf (by omega)
  have hfm := (zOP hf).1
  obtain ⟨P, h1, h2, h3⟩ := zK0 (l := l) (D := { D with files := upF D.files { f with now := f.now ++ [p] }, pends := D.pends ++ [(f.b, f.now.length, p)] }) (f := { f with now := f.now ++ [p] }) (fun x hx => hl x (by simp [hx])) hon hlf
   (by rw [zF7]; exact hb) (zJ1 (f' := { f with now := f.now ++ [p] }) hb hf rfl rfl) (by
    have : DS.used { D with files := upF D.files { f with now := f.now ++ [p] }, pends := D.pends ++ [(f.b, f.now.length, p)] } = D.used + 1 := zJZ hb hfm rfl (by simp)
    rw [this]
    show ((D.used + 1 : Nat) : Int) + l.length <= D.limit
    omega)
  refine ⟨(f.b, f.now.length, p) :: P, ?_, ?_, by simp [h3]⟩
  ·rw [addP, ha]
   simp only [if_true]
   rw [h1]
   have e := zAS (fs := D.files) (f1 := { f with now := f.now ++ [p] }) (f2 := { f with now := f.now ++ (p :: l) }) rfl
   simp only [List.append_assoc, List.cons_append, List.nil_append, List.length_cons]
   rw [e]
  ·intro x hx
   rcases List.mem_cons.1 hx with rfl | hx
   ·rfl
   ·exact h2 x hx
theorem zFW {l : List Bs} (S : Std D m) (hl : ∀ p ∈ l, p.length = 64) (hm : l.length <= m) (hf : D.find t = some f) :
  ∃ P, addP D t l = (0, { D with files := upF D.files { f with now := f.now ++ l }, pends := P }, l.length) /\ (∀ x ∈ P, x.1 = f.b) /\ P.length = l.length /\
   DS.find { D with files := upF D.files { f with now := f.now ++ l }, pends := P } t = some { f with now := f.now ++ l } /\
   ∀ s, Std { D with files := upF (upF D.files { f with now := f.now ++ l }) { f with now := f.now ++ l, safe := s }, pends := [] } (m - l.length) /\
    (upF (upF D.files { f with now := f.now ++ l }) { f with now := f.now ++ l, safe := s }).map (·.name) = D.files.map (·.name) := by
 obtain ⟨P, h1, h2, h3⟩ := zK0 hl S.on S.lft S.blocks hf (by have := S.room; omega)
 rw [S.pnd, List.nil_append] at h1
 have hfm := (zOP hf).1
 refine ⟨P, h1, h2, h3, zJ1 (f' := { f with now := f.now ++ l }) S.blocks hf rfl rfl, fun s => ?_⟩
 rw [zAS (f1 := { f with now := f.now ++ l }) (f2 := { f with now := f.now ++ l, safe := s }) rfl]
 have hn : (upF D.files { f with now := f.now ++ l, safe := s }).map (·.name) = D.files.map (·.name) := upF_map (·.name) S.blocks hfm rfl rfl
 refine ⟨⟨S.on, S.lft, rfl, ?_, ?_, ?_⟩, hn⟩
 ·show ((upF D.files _).map (·.name)).Nodup
  rw [hn]; exact S.names
 ·show ((upF D.files _).map (·.b)).Nodup
  rw [zF7]; exact S.blocks
 ·have := zJZ (f' := { f with now := f.now ++ l, safe := s }) (k := l.length) S.blocks hfm rfl (by simp)
  show ((((upF D.files { f with now := f.now ++ l, safe := s }).map (·.now.length)).sum : Nat) : Int) + ((m - l.length : Nat) : Int) <= D.limit
  rw [this]
  have := S.room
  have h : D.used = (D.files.map (·.now.length)).sum := rfl
  omega
theorem zPS {D : DS} {f : FA} (hon : D.off = false) (hl : D.left = -1) (hf : D.find t = some f) (hp : ∀ x ∈ D.pends, x.1 = f.b) : ∃ s, D.sync t = (0, { D with files := upF D.files { f with safe := s }, pends := [] }) := by
 unfold DS.sync
 rw [if_neg (by simp [hon]), hf]
 simp only [zD3 hon hl, if_true]
 obtain ⟨k1, k2, k3⟩ := vY (f := f) D.pends
 refine ⟨(zV f D.pends).safe, ?_⟩
 have e1 : zV f D.pends = { f with safe := (zV f D.pends).safe } := by
  cases h : zV f D.pends
  rw [h] at k1 k2 k3
  simp only at k1 k2 k3
  subst k1 k2 k3
  rfl
 have e2 : D.pends.filter (notB f.b) = [] := by
  rw [List.filter_eq_nil_iff]
  intro x hx
  simp [notB, hp x hx]
 rw [e2, <- e1]
theorem zL1 {l : List Bs} (S : Std D m) (hl : ∀ p ∈ l, p.length = 64) (hm : l.length <= m) (hf : (D.find t).isSome = true) :
  (addP D t l).1 = 0 /\ (addP D t l).2.2 = l.length /\ ((addP D t l).2.1.sync t).1 = 0 /\ Std ((addP D t l).2.1.sync t).2 (m - l.length) /\ ((addP D t l).2.1.sync t).2.files.map (·.name) = D.files.map (·.name) /\ ((addP D t l).2.1.sync t).2.limit = D.limit := by
 obtain ⟨f, hf⟩ := Option.isSome_iff_exists.1 hf
 obtain ⟨P, h1, h2, h3, h4, h5⟩ := zFW S hl hm hf
 obtain ⟨s, hs⟩ := zPS (D := { D with files := upF D.files { f with now := f.now ++ l }, pends := P }) (f := { f with now := f.now ++ l }) S.on S.lft h4 h2
 rw [h1]
 simp only
 rw [hs]
 exact ⟨trivial, trivial, rfl, (h5 s).1, (h5 s).2, rfl⟩
theorem zFB : ∀ {l : List Bs} {t : Nat} {b : Bs} {k : Nat}, vP l t = some (b, k) -> 1 <= k /\ k <= l.length /\ b.length <= 42 * k
 | [], t, b, k, h => by simp [vP] at h
 | s :: l, t, b, k, h => by
  rw [vP] at h
  split at h
  ·rename_i x hg
   simp only [Option.some.injEq, Prod.mk.injEq] at h
   obtain ⟨rfl, rfl⟩ := h
   have := (zD0.1 hg).1
   simp only [List.length_cons] at *
   omega
  ·rename_i x hg
   split at h
   ·rename_i hx
    obtain ⟨r, hr, h2⟩ := Option.map_eq_some_iff.1 h
    simp only [Prod.mk.injEq] at h2
    obtain ⟨rfl, rfl⟩ := h2
    have := zFB (b := r.1) (k := r.2) hr
    simp only [List.length_cons, List.length_append]
    omega
   ·cases h
  ·cases h
end Go.Man
namespace Go.Man
open Go.Page Go.Dsk
open Go.Ab (splice)
set_option linter.unusedVariables false
set_option linter.unusedSimpArgs false
variable {J : Jr} {D : DS} {s : J.S} {es : List J.E} {e : J.E} {t : Bs} {b : Nat} {f : FA}
theorem zJ0 {β : Type} {fs : List FA} {f f' : FA} (g : FA -> β) (hn : (fs.map (·.b)).Nodup) (hf : f ∈ fs) (hb : f'.b = f.b) (h : g f' = g f) : (upF fs f').map g = fs.map g := by
 unfold upF
 rw [List.map_map]
 refine List.map_congr_left fun x hx => ?_
 simp only [Function.comp_def]
 split
 ·rename_i hxb
  rw [yZ hn hx hf (hxb.trans hb), h]
 ·rfl
theorem DOk.del (O : DOk D) (hf : f ∈ D.files) {n : Int} : DOk { D with left := n, files := D.files.filter (fun g => !(g.b == f.b)), pends := D.pends.filter (notB f.b) } := by
 refine ⟨O.names.sublist (List.filter_sublist.map _), O.blocks.sublist (List.filter_sublist.map _), fun x hx => ?_, fun g hg => O.safe g (List.mem_filter.1 hg).1⟩
 obtain ⟨h1, h2⟩ := List.mem_filter.1 hx
 obtain ⟨g, g1, g2, g3⟩ := O.pfile x h1
 refine ⟨g, List.mem_filter.2 ⟨g1, ?_⟩, g2, g3⟩
 have : x.1 ≠ f.b := by simpa [notB] using h2
 rw [<- g2] at this
 simpa using this
theorem DOk.create (O : DOk D) (hn : D.find t = none) (hb : ∀ y ∈ D.files, y.b ≠ b) {n : Int} : DOk { D with left := n, files := D.files ++ [mkF b t] } := by
 refine ⟨?_, ?_, fun x hx => ?_, fun g hg => ?_⟩
 ·show (List.map _ (D.files ++ [mkF b t])).Nodup
  rw [List.map_append, List.nodup_append]
  refine ⟨O.names, by simp, fun a ha c hc => ?_⟩
  obtain ⟨g, hg, rfl⟩ := List.mem_map.1 ha
  simp only [List.map_cons, List.map_nil, List.mem_singleton] at hc
  subst hc
  exact zKR hn g hg
 ·show (List.map _ (D.files ++ [mkF b t])).Nodup
  rw [List.map_append, List.nodup_append]
  refine ⟨O.blocks, by simp, fun a ha c hc => ?_⟩
  obtain ⟨g, hg, rfl⟩ := List.mem_map.1 ha
  simp only [List.map_cons, List.map_nil, List.mem_singleton] at hc
  subst hc
  exact hb g hg
 ·obtain ⟨g, g1, g2⟩ := O.pfile x hx
  exact ⟨g, List.mem_append_left _ g1, g2⟩
 ·rcases List.mem_append.1 hg with hg | hg
  ·exact O.safe g hg
  ·simp at hg; subst hg; simp [mkF]
theorem DOk.append (O : DOk D) (hf : f ∈ D.files) {p : Bs} {n : Int} : DOk { D with left := n, files := upF D.files { f with now := f.now ++ [p] }, pends := D.pends ++ [(f.b, f.now.length, p)] } := by
 refine ⟨?_, ?_, fun x hx => ?_, fun g hg => ?_⟩
 ·show (List.map _ (upF _ _)).Nodup
  rw [zJ0 (f := f) (f' := { f with now := f.now ++ [p] }) (fun g => g.name) O.blocks hf rfl rfl]; exact O.names
 ·show (List.map _ (upF _ _)).Nodup
  rw [zF7]; exact O.blocks
 ·have hin : ({ f with now := f.now ++ [p] } : FA) ∈ upF D.files { f with now := f.now ++ [p] } := by
   unfold upF
   exact List.mem_map.2 ⟨f, hf, if_pos rfl⟩
  rcases List.mem_append.1 hx with hx | hx
  ·obtain ⟨g, g1, g2, g3⟩ := O.pfile x hx
   by_cases hg : g.b = f.b
   ·have := yZ O.blocks g1 hf hg
    subst this
    exact ⟨_, hin, g2, by show x.2.1 < (g.now ++ [p]).length; rw [List.length_append]; simp; omega⟩
   ·exact ⟨g, by unfold upF; exact List.mem_map.2 ⟨g, g1, if_neg hg⟩, g2, g3⟩
  ·simp only [List.mem_singleton] at hx
   subst hx
   exact ⟨_, hin, rfl, by show f.now.length < (f.now ++ [p]).length; rw [List.length_append]; simp⟩
 ·rcases kI hg with rfl | h
  ·show f.safe.length <= (f.now ++ [p]).length
   have := O.safe f hf
   rw [List.length_append]; omega
  ·exact O.safe g h.1
theorem zJF {N : Nat} : ∀ {l : List PD} {f : FA}, f.safe.length <= N -> (∀ x ∈ l, x.1 = f.b -> x.2.1 < N) -> (zV f l).safe.length <= N := by
 intro l
 induction l using Go.Num.snoc_ind with
 | h0 => intro f h _; exact h
 | h1 l x ih =>
  intro f h hx
  have ih := ih h fun y hy => hx y (by simp [hy])
  rw [vI]
  split
  ·rename_i hb
   exact zOB (hx x (by simp) hb) ih
  ·exact ih
theorem DOk.sync (O : DOk D) (hf : f ∈ D.files) {n : Int} : DOk { D with left := n, files := upF D.files (zV f D.pends), pends := D.pends.filter (notB f.b) } := by
 obtain ⟨k1, k2, k3⟩ := vY (f := f) D.pends
 refine ⟨?_, ?_, fun x hx => ?_, fun g hg => ?_⟩
 ·show (List.map _ (upF _ _)).Nodup
  rw [zJ0 (f := f) (fun g => g.name) O.blocks hf k1 k2]; exact O.names
 ·show (List.map _ (upF _ _)).Nodup
  rw [zF7]; exact O.blocks
 ·obtain ⟨h1, h2⟩ := List.mem_filter.1 hx
  obtain ⟨g, g1, g2, g3⟩ := O.pfile x h1
  have : x.1 ≠ f.b := by simpa [notB] using h2
  refine ⟨g, ?_, g2, g3⟩
  unfold upF
  exact List.mem_map.2 ⟨g, g1, if_neg (by rw [k1, g2]; exact this)⟩
 ·rcases kI hg with rfl | h
  ·rw [k3]
   refine zJF (O.safe f hf) fun x hx hb => ?_
   obtain ⟨g, g1, g2, g3⟩ := O.pfile x hx
   have := yZ O.blocks g1 hf (g2.trans hb)
   subst this
   exact g3
  ·exact O.safe g h.1
theorem DOk.cut (O : DOk D) : DOk (cut D) := ⟨O.names, O.blocks, O.pfile, O.safe⟩
theorem zIY (O : DOk D) (hf : f ∈ D.files) {p : Bs} : ((upF D.files { f with now := f.now ++ [p] }).map (·.now.length)).sum = (D.files.map (·.now.length)).sum + 1 := by
 have key : ∀ (fs : List FA), (fs.map (·.b)).Nodup -> f ∈ fs -> ((upF fs { f with now := f.now ++ [p] }).map (·.now.length)).sum = (fs.map (·.now.length)).sum + 1 := by
  intro fs
  induction fs with
  | nil => intro _ h; cases h
  | cons g fs ih =>
   intro hn hm
   simp only [List.map_cons, List.nodup_cons] at hn
   unfold upF
   rw [List.map_cons, List.map_cons, List.sum_cons, List.map_cons, List.sum_cons]
   by_cases hg : g.b = f.b
   ·rw [if_pos hg]
    have hgf : g = f := by
     rcases List.mem_cons.1 hm with h | h
     ·exact h.symm
     ·exact absurd (List.mem_map.2 ⟨f, h, hg.symm⟩) hn.1
    subst hgf
    have hrest : fs.map (fun x => if x.b = g.b then { g with now := g.now ++ [p] } else x) = fs := by
     conv => rhs; rw [<- List.map_id fs]
     refine List.map_congr_left fun x hx => if_neg fun hb => hn.1 ?_
     exact List.mem_map.2 ⟨x, hx, hb⟩
    rw [hrest]
    show (g.now ++ [p]).length + _ = _
    rw [List.length_append]; simp; omega
   ·rw [if_neg hg]
    have hm' : f ∈ fs := (List.mem_cons.1 hm).resolve_left fun h => hg (by rw [h])
    have := ih hn.2 hm'
    unfold upF at this
    omega
 exact key D.files O.blocks hf
structure zJV (J : Jr) (D D' : DS) (s : J.S) (l : List Bs) (used : Nat) : Prop where
 ok : DOk D'
 mid : Mid J D'.files D'.pends s
 fr : Fr D' l
 off : D'.off = false
 lim : D'.limit = D.limit
 lft : D.left = -1 -> D'.left = -1
 use : D'.used <= used + l.length
structure zE8 (J : Jr) (D D' : DS) (s : J.S) : Prop where
 mid : Mid J D'.files D'.pends s
 lft : D.left ≠ -1
theorem zQR {D' : DS} {l : List Bs} {used : Nat} {p : Bs} (F : zJV J D D' s l used) (hp : p.length = 64) (hl : l.length < 2000) (hu : used + l.length < D.limit) :
  ((D'.append nN p).1 = 0 /\ zJV J D (D'.append nN p).2 s (l ++ [p]) used) ∨ ((D'.append nN p).1 ≠ 0 /\ zE8 J D (D'.append nN p).2 s) := by
 obtain ⟨f, h0, h1, h2, h3⟩ := F.fr
 have hu2 : D'.used < D'.limit := by have := F.use; have := F.lim; omega
 obtain ⟨hf, hfn⟩ := kH h0
 rcases zDV hp F.off h0 hu2 with ⟨n, e, hn⟩ | ⟨e, hz⟩
 ·left
  rw [e]
  obtain ⟨g1, g2⟩ := Fr.append (p := p) (n := n) F.ok h0 F.fr
  refine ⟨rfl, ⟨F.ok.append hf, Mid.append F.ok F.mid h0 (by rw [h1]; exact hl), g2, F.off, F.lim, fun h => hn (F.lft h), ?_⟩⟩
  show ((upF D'.files { f with now := f.now ++ [p] }).map (·.now.length)).sum <= _
  rw [zIY F.ok hf, List.length_append]
  have := F.use
  unfold DS.used at this
  simp; omega
 ·right
  rw [e]
  exact ⟨by simp, F.mid, fun h => by rw [F.lft h] at hz; cases hz⟩
theorem zIP {D' : DS} {used : Nat} : ∀ {ps : List Bs} {l : List Bs} {D' : DS}, zJV J D D' s l used -> (∀ p ∈ ps, p.length = 64) -> l.length + ps.length <= 2000 -> used + l.length + ps.length <= D.limit ->
  ((addP D' nN ps).1 = 0 /\ (addP D' nN ps).2.2 = ps.length /\ zJV J D (addP D' nN ps).2.1 s (l ++ ps) used) ∨ ((addP D' nN ps).1 ≠ 0 /\ zE8 J D (addP D' nN ps).2.1 s)
 | [], l, D', F, _, _, _ => .inl ⟨rfl, rfl, by rw [List.append_nil]; exact F⟩
 | p :: ps, l, D', F, hp, h1, h2 => by
  simp only [List.length_cons] at h1 h2
  rw [addP]
  rcases zQR F (hp p (by simp)) (by omega) (by omega) with ⟨a, F1⟩ | ⟨a, G⟩
  ·rw [if_pos a]
   rcases zIP (D' := D') F1 (ps := ps) (fun q hq => hp q (by simp [hq])) (by simp; omega) (by simp; omega) with ⟨b1, b2, F2⟩ | ⟨b1, G⟩
   ·left
    refine ⟨b1, by simp only [List.length_cons]; rw [b2], ?_⟩
    simpa using F2
   ·exact .inr ⟨b1, G⟩
  ·rw [if_neg a]; exact .inr ⟨a, G⟩
theorem zFT {used : Nat} : ∀ {es pre : List J.E} {D' : DS}, zJV J D D' s (rows J pre 1) used -> szs J pre + szs J es <= 2000 -> used + szs J pre + szs J es <= D.limit ->
  ((yQ J D' (szs J pre) es).1 = 0 /\ (yQ J D' (szs J pre) es).2.2 = szs J (pre ++ es) /\ zJV J D (yQ J D' (szs J pre) es).2.1 s (rows J (pre ++ es) 1) used) ∨ ((yQ J D' (szs J pre) es).1 ≠ 0 /\ zE8 J D (yQ J D' (szs J pre) es).2.1 s)
 | [], pre, D', F, _, _ => .inl ⟨rfl, by rw [List.append_nil]; rfl, by simpa [yQ] using F⟩
 | e :: es, pre, D', F, h1, h2 => by
  have hse : szs J (e :: es) = sz J e + szs J es := by simp [szs]
  have hsp : szs J (pre ++ [e]) = szs J pre + sz J e := by simp [szs]
  rw [hse] at h1 h2
  rw [yQ]
  have hrl := vF (J := J) (es := pre) (t := 1)
  have hr : (row (1 + szs J pre) (J.enc e)).length = sz J e := sz_row
  rcases zIP (D' := D') F (ps := row (1 + szs J pre) (J.enc e)) (fun p hp => by
    obtain ⟨i, hi⟩ := List.getElem?_of_mem hp
    exact (vR _ _ _ (Nat.le_refl _) i p hi).2) (by omega) (by omega) with ⟨b1, b2, F2⟩ | ⟨b1, G⟩
  ·rw [if_pos b1]
   have er : rows J pre 1 ++ row (1 + szs J pre) (J.enc e) = rows J (pre ++ [e]) 1 := by rw [zBW, zKC]
   rw [er] at F2
   have := zFT (es := es) (pre := pre ++ [e]) (D' := (addP D' nN (row (1 + szs J pre) (J.enc e))).2.1) F2 (by omega) (by omega)
   rw [b2, hr, <- hsp]
   simpa using this
  ·rw [if_neg b1]; exact .inr ⟨b1, G⟩
theorem zM5 (O : DOk D) (M : Mid J D.files D.pends s) : D.files.length <= 2 := by
 have h1 : (D.files.map (·.name)).length <= [nJ, nN].length := by
  have : ∀ (l m : List Bs), l.Nodup -> (∀ x ∈ l, x ∈ m) -> l.length <= m.length := by
   intro l
   induction l with
   | nil => intro m _ _; simp
   | cons x l ih =>
    intro m hn hm
    rw [List.nodup_cons] at hn
    have hx := hm x (by simp)
    have := ih (m.erase x) hn.2 fun y hy => (List.mem_erase_of_ne (fun h => hn.1 (by rw [<- h]; exact hy))).2 (hm y (by simp [hy]))
    rw [List.length_erase_of_mem hx] at this
    have : 0 < m.length := List.length_pos_of_mem hx
    simp only [List.length_cons]; omega
  refine this _ _ O.names fun x hx => ?_
  obtain ⟨f, hf, rfl⟩ := List.mem_map.1 hx
  rcases M.names f hf with h | h <;> simp [h]
 simpa using h1
theorem zJJ {fs : List FA} {p : FA -> Bool} : ((fs.filter p).map (·.now.length)).sum <= (fs.map (·.now.length)).sum := by
 induction fs with
 | nil => simp
 | cons f fs ih =>
  rw [List.filter_cons]
  split
  ·simp only [List.map_cons, List.sum_cons]; omega
  ·simp only [List.map_cons, List.sum_cons]; omega
theorem zOV (O : DOk D) (M : Mid J D.files D.pends s) (ho : D.off = false) (hp : D.pends = []) (ht : t ≠ nJ) (hf : (D.find t).isSome) :
  ((D.delete t).1 = 0 /\ DOk (D.delete t).2 /\ Mid J (D.delete t).2.files (D.delete t).2.pends s /\ (D.delete t).2.off = false /\ (D.delete t).2.pends = [] /\ (D.delete t).2.limit = D.limit /\ (D.left = -1 -> (D.delete t).2.left = -1) /\ (D.delete t).2.used <= D.used /\ (D.delete t).2.find t = none /\ (D.delete t).2.files = D.files.filter (fun g => !(g.name == t))) ∨
  ((D.delete t).1 ≠ 0 /\ zE8 J D (D.delete t).2 s) := by
 obtain ⟨f0, hf0⟩ := Option.isSome_iff_exists.1 hf
 rcases zOW (t := t) ho with ⟨h, _⟩ | ⟨f, n, h1, h2, h3⟩ | ⟨h1, h2⟩
 ·rw [h] at hf0; cases hf0
 ·left
  obtain ⟨a, c⟩ := kH h1
  rw [h2]
  have hfil : D.files.filter (fun g => !(g.b == f.b)) = D.files.filter (fun g => !(g.name == t)) := by
   refine List.filter_congr fun g hg => ?_
   by_cases hb : g.b = f.b
   ·have := yZ O.blocks hg a hb
    subst this
    simp [c]
   ·have : g.name ≠ t := fun hn => hb (by rw [zD9 O.names hg a (hn.trans c.symm)])
    rw [beq_false_of_ne hb, beq_false_of_ne this]
  refine ⟨rfl, O.del a, M.del O h1 ht, ho, by simp [hp], rfl, h3, zJJ, ?_, hfil⟩
  show (D.files.filter _).find? _ = none
  rw [hfil, List.find?_eq_none]
  intro g hg
  have := (List.mem_filter.1 hg).2
  simpa using this
 ·right
  rw [h1]
  exact ⟨by simp, M, fun h => by rw [h] at h2; cases h2⟩
theorem lay_mid (O : DOk D) (M : Mid J D.files D.pends s) (ho : D.off = false) (hp : D.pends = []) (hs : fold J.emp es = some s) (hsz : szs J es <= 2000) (hu : D.used + szs J es <= D.limit) (pages : Nat)
  (hb : (zP D).1 = 0 -> ((zP D).2.create nN b).1 = 0 -> ∀ y ∈ (zP D).2.files, y.b ≠ b) :
  ((layP J D b pages es).1 = 0 /\ Idle J (layP J D b pages es).2.1 es /\ (layP J D b pages es).2.2 = szs J es /\ (layP J D b pages es).2.1.off = false /\ (layP J D b pages es).2.1.limit = D.limit /\ (D.left = -1 -> (layP J D b pages es).2.1.left = -1)) ∨
  ((layP J D b pages es).1 ≠ 0 /\ zE8 J D (layP J D b pages es).2.1 s) := by
 have hclear : ((zP D).1 = 0 /\ DOk (zP D).2 /\ Mid J (zP D).2.files (zP D).2.pends s /\ (zP D).2.off = false /\ (zP D).2.pends = [] /\ (zP D).2.limit = D.limit /\ (D.left = -1 -> (zP D).2.left = -1) /\ (zP D).2.used <= D.used /\ (zP D).2.find nN = none) ∨ ((zP D).1 ≠ 0 /\ zE8 J D (zP D).2 s) := by
  unfold zP
  by_cases hf : (D.find nN).isSome
  ·rw [if_pos hf]
   rcases zOV (t := nN) O M ho hp (by decide) hf with ⟨a1, a2, a3, a4, a5, a6, a7, a8, a9, _⟩ | h
   ·exact .inl ⟨a1, a2, a3, a4, a5, a6, a7, a8, a9⟩
   ·exact .inr h
  ·rw [if_neg hf]
   exact .inl ⟨rfl, O, M, ho, hp, rfl, id, Nat.le_refl _, by simpa using hf⟩
 unfold layP
 rcases hclear with ⟨c1, O1, M1, ho1, hp1, hl1, hlf1, hu1, hn1⟩ | ⟨c1, G⟩
 ·rw [if_neg (by omega)]
  have hfresh := hb c1
  generalize (zP D).2 = D1 at *
  rcases zIF (b := b) ho1 (show mayN nN = true by decide) hn1 (by have := zM5 O1 M1; omega) with ⟨n, e, hn⟩ | ⟨e, hz⟩
  ·have hfr := hfresh (by rw [e])
   rw [e]
   simp only [ne_eq, not_true_eq_false, if_false]
   have F0 : zJV J D { D1 with left := n, files := D1.files ++ [mkF b nN] } s (rows J [] 1) D.used := by
    refine ⟨O1.create hn1 hfr, Mid.create M1, Fr.start hn1 hp1, ho1, hl1, fun h => hn (hlf1 h), ?_⟩
    show ((D1.files ++ [mkF b nN]).map (·.now.length)).sum <= _
    unfold DS.used at hu1
    rw [List.map_append, List.sum_append]
    have hz2 : ([mkF b nN].map (fun f : FA => f.now.length)).sum = 0 := rfl
    unfold DS.used
    simp only [rows, List.length_nil]
    omega
   have hfp := zFT (es := es) (pre := []) F0 (by simp [szs] at *; omega) (by simp [szs] at *; omega)
   have e0 : szs J ([] : List J.E) = 0 := rfl
   rw [e0] at hfp
   rw [List.nil_append] at hfp
   rcases hfp with ⟨f1, f2, F1⟩ | ⟨f1, G⟩
   ·rw [if_neg (by omega)]
    generalize yQ J { D1 with left := n, files := D1.files ++ [mkF b nN] } 0 es = R at *
    obtain ⟨v, D2, pg⟩ := R
    simp only at f1 f2 F1 ⊢
    subst f1 f2
    have hFr := F1.fr
    obtain ⟨f, g1, g2, g3, g4⟩ := F1.fr
    obtain ⟨hf, hfn⟩ := kH g1
    rcases zFD F1.off g1 with ⟨n2, e2, hn2⟩ | ⟨e2, hz2⟩
    ·rw [e2]
     rw [if_neg (by simp)]
     have O3 := F1.ok.sync hf (n := n2)
     have M3 : Mid J (upF D2.files (zV f D2.pends)) (D2.pends.filter (notB f.b)) s := Mid.sync F1.ok F1.mid g1
     have Fs3 := Fr.sync (n := n2) F1.ok g1 hFr zGF
     have hF3 := Fs3
     obtain ⟨f3, k1, k2, k3, k4⟩ := Fs3
     rcases zHN (u := nJ) (show ({ D2 with left := n2, files := upF D2.files (zV f D2.pends), pends := D2.pends.filter (notB f.b) } : DS).off = false from F1.off) (show mayN nJ = true by decide) k1 (by decide) with ⟨n3, e3, hn3⟩ | ⟨e3, hz3⟩
     ·rw [e3]
      left
      exact ⟨rfl, Fs.rename (n := n3) O3 M3 k1 hF3, rfl, F1.off, F1.lim, fun h => hn3 (hn2 (F1.lft h))⟩
     ·rw [e3]
      right
      exact ⟨by simp, M3, fun h => by rw [hn2 (F1.lft h)] at hz3; cases hz3⟩
    ·rw [e2]
     rw [if_pos (by simp)]
     right
     exact ⟨by simp, F1.mid, fun h => by rw [F1.lft h] at hz2; cases hz2⟩
   ·rw [if_pos f1]
    exact .inr ⟨f1, G⟩
  ·rw [e]
   rw [if_pos (by simp)]
   right
   exact ⟨by simp, M1, fun h => by rw [hlf1 h] at hz; cases hz⟩
 ·rw [if_pos c1]
  exact .inr ⟨c1, G⟩
end Go.Man
