import Derived.Test.YtnglhicedhcpbaaGreatDoorLG1
namespace Go.Dsk
open Go.Ab
set_option linter.unusedVariables false
set_option linter.unusedSimpArgs false
abbrev Bs := List UInt8
def insR (n : Bs) : List Bs -> List Bs
 | [] => [n]
 | x :: l => if bytesLess x n then x :: insR n l else if x = n then x :: l else n :: x :: l
def zN (l : List Bs) : List Bs := l.foldl (fun o n => insR n o) []
abbrev PD := Nat × Nat × Bs
structure FA where
 b : Nat
 name : Bs
 now : List Bs
 safe : List Bs
structure DS where
 files : List FA
 pends : List PD
 limit : Int
 left : Int
 off : Bool
variable {D : DS} {f f1 f2 : FA} {b : Nat}
def DS.find (D : DS) (s : Bs) : Option FA := D.files.find? (fun f => f.name == s)
def mayN (s : Bs) : Bool := decide (1 <= s.length) && decide (s.length <= 24)
def DS.deed (D : DS) : Int × DS := if D.left = 0 then (50, { D with off := true }) else if D.left > 0 then (0, { D with left := D.left - 1 }) else (0, D)
def yB (n : Int) : DS := ⟨[], [], n, -1, false⟩
def upF (fs : List FA) (f' : FA) : List FA := fs.map fun g => if g.b = f'.b then f' else g
theorem kI {fs : List FA} {f' g : FA} (h : g ∈ upF fs f') : g = f' ∨ (g ∈ fs /\ g.b ≠ f'.b) := by
 obtain ⟨g0, h1, h2⟩ := List.mem_map.1 h
 split at h2
 ·exact .inl h2.symm
 ·subst h2; exact .inr ⟨h1, by assumption⟩
theorem zF7 {fs : List FA} {f' : FA} : (upF fs f').map (·.b) = fs.map (·.b) := by
 rw [upF, List.map_map]
 apply List.map_congr_left
 intro g _
 simp only [Function.comp]
 split
 ·rename_i h; exact h.symm
 ·rfl
theorem yZ {fs : List FA} (hn : (fs.map (·.b)).Nodup) {f g : FA} (hf : f ∈ fs) (hg : g ∈ fs) (h : f.b = g.b) : f = g := by
 induction fs with
 | nil => cases hf
 | cons x fs ih =>
  simp only [List.map_cons, List.nodup_cons, List.mem_map, not_exists, not_and] at hn
  rcases List.mem_cons.1 hf with rfl | hf' <;> rcases List.mem_cons.1 hg with rfl | hg'
  ·rfl
  ·exact absurd h.symm (hn.1 g hg')
  ·exact absurd h (hn.1 f hf')
  ·exact ih hn.2 hf' hg'
theorem zD9 {fs : List FA} (hn : (fs.map (·.name)).Nodup) {f g : FA} (hf : f ∈ fs) (hg : g ∈ fs) (h : f.name = g.name) : f = g := by
 induction fs with
 | nil => cases hf
 | cons x fs ih =>
  simp only [List.map_cons, List.nodup_cons, List.mem_map, not_exists, not_and] at hn
  rcases List.mem_cons.1 hf with rfl | hf' <;> rcases List.mem_cons.1 hg with rfl | hg'
  ·rfl
  ·exact absurd h.symm (hn.1 g hg')
  ·exact absurd h (hn.1 f hf')
  ·exact ih hn.2 hf' hg'
def mkF (b : Nat) (s : Bs) : FA := ⟨b, s, [], []⟩
theorem yN : D.deed.2.files = D.files := by
 unfold DS.deed
 split
 ·rfl
 ·split <;> rfl
theorem yK : D.deed.2.pends = D.pends := by
 unfold DS.deed
 split
 ·rfl
 ·split <;> rfl
theorem xJ : D.deed.2.limit = D.limit := by
 unfold DS.deed
 split
 ·rfl
 ·split <;> rfl
def DS.create (D : DS) (s : Bs) (b : Nat) : Int × DS :=
 if !mayN s then (1, D) else if D.off then (50, D) else if (D.find s).isSome then (5, D) else if 256 <= D.files.length then (2, D)
 else if D.deed.1 = 0 then (0, { D.deed.2 with files := D.files ++ [mkF b s] }) else D.deed
def DS.lenOf (D : DS) (n : Bs) : Nat := match D.find n with | some f => f.now.length | none => 0
def DS.namesL (D : DS) : List Bs := zN (D.files.map (·.name))
def DS.list (D : DS) : List (Bs × Nat) := D.namesL.map fun n => (n, D.lenOf n)
def DS.used (D : DS) : Nat := (D.files.map (·.now.length)).sum
def DS.write (D : DS) (f : FA) (i : Nat) (s : Bs) : DS := { D with files := upF D.files { f with now := f.now.set i s }, pends := D.pends ++ [(f.b, i, s)] }
def DS.append (D : DS) (s : Bs) (b : Bs) : Int × DS :=
 if b.length ≠ 64 then (1, D) else if D.off then (50, D) else match D.find s with
 | none => (4, D)
 | some f => if D.limit <= D.used then (2, D) else if D.deed.1 = 0 then (0, { D.deed.2 with files := upF D.files { f with now := f.now ++ [b] }, pends := D.pends ++ [(f.b, f.now.length, b)] }) else D.deed
theorem zAS {fs : List FA} (h : f2.b = f1.b) : upF (upF fs f1) f2 = upF fs f2 := by
 rw [upF, upF, upF, List.map_map]
 apply List.map_congr_left
 intro g _
 simp only [Function.comp, h]
 split
 ·simp
 ·rename_i hne; simp [hne]
def pad (s : Bs) : Bs := (List.range 64).map fun i => s.getD i 0
theorem zC0 {s : Bs} : (pad s).length = 64 := by simp [pad]
theorem zP7 {s : Bs} (h : s.length = 64) : pad s = s := by
 refine List.ext_getElem? fun i => ?_
 rcases Nat.lt_or_ge i 64 with hi | hi
 ·rw [pad, List.getElem?_map, List.getElem?_range hi, List.getElem?_eq_getElem (by omega)]
  simp [List.getD_eq_getElem?_getD, List.getElem?_eq_getElem (by omega : i < s.length)]
 ·rw [List.getElem?_eq_none (by rw [zC0]; omega), List.getElem?_eq_none (by omega)]
def mixS (s r : Bs) (n : Nat) : Bs := (List.range 64).map fun i => if i < n then s.getD i 0 else r.getD i 0
def yO (l : List Bs) (n : Nat) : List Bs := l ++ List.replicate (n - l.length) []
def jJ (f : FA) (i : Nat) (s : Bs) (n : Int) : FA :=
 if n < 1 then f else { f with safe := (yO f.safe (i + 1)).set i (mixS s ((yO f.safe (i + 1)).getD i []) (min n 64).toNat) }
theorem zHW {l : List Bs} {n : Nat} : (yO l n).length = max l.length n := by simp [yO]; omega
theorem zGM {l : List Bs} {n : Nat} (h : n <= l.length) : yO l n = l := by simp [yO, Nat.sub_eq_zero_of_le h]
theorem zI6 {l : List Bs} {i j : Nat} (h : i <= j) : yO (yO l i) j = yO l j := by
 simp only [yO, List.length_append, List.length_replicate, List.append_assoc, List.replicate_append_replicate]
 congr 2
 omega
def notB (b : Nat) (x : PD) : Bool := !(x.1 == b)
theorem zFS {l : List PD} (h : ∀ x ∈ l, x.1 ≠ b) : l.filter (notB b) = l := List.filter_eq_self.2 fun x hx => by simp [notB, h x hx]
def DS.forget (D : DS) (b : Nat) : DS := { D with pends := D.pends.filter (notB b) }
theorem zOC {i : Nat} {s : Bs} {n : Int} : (jJ f i s n).b = f.b /\ (jJ f i s n).name = f.name /\ (jJ f i s n).now = f.now := by
 unfold jJ; split <;> exact ⟨rfl, rfl, rfl⟩
def zV (f : FA) (l : List PD) : FA := l.foldl (fun g x => if x.1 = f.b then jJ g x.2.1 x.2.2 64 else g) f
theorem vI {l : List PD} {x : PD} : zV f (l ++ [x]) = if x.1 = f.b then jJ (zV f l) x.2.1 x.2.2 64 else zV f l := by simp [zV]
theorem vY (l : List PD) : (zV f l).b = f.b /\ (zV f l).name = f.name /\ (zV f l).now = f.now := by
 have : ∀ (l : List PD) (g : FA), (l.foldl (fun g x => if x.1 = f.b then jJ g x.2.1 x.2.2 64 else g) g).b = g.b /\ (l.foldl (fun g x => if x.1 = f.b then jJ g x.2.1 x.2.2 64 else g) g).name = g.name /\ (l.foldl (fun g x => if x.1 = f.b then jJ g x.2.1 x.2.2 64 else g) g).now = g.now := by
  intro l
  induction l with
  | nil => intro g; exact ⟨rfl, rfl, rfl⟩
  | cons x l ih =>
   intro g
   simp only [List.foldl_cons]
   have h := ih (if x.1 = f.b then jJ g x.2.1 x.2.2 64 else g)
   by_cases hx : x.1 = f.b
   ·simp only [hx, if_true] at h ⊢
    obtain ⟨k1, k2, k3⟩ := @zOC g x.2.1 x.2.2 64
    rw [k1, k2, k3] at h; exact h
   ·simp only [hx, if_false] at h ⊢; exact h
 exact this l f
def DS.sync (D : DS) (s : Bs) : Int × DS :=
 if D.off then (50, D) else match D.find s with
 | none => (4, D)
 | some f => if D.deed.1 = 0 then (0, { D.deed.2 with files := upF D.files (zV f D.pends), pends := D.pends.filter (notB f.b) }) else D.deed
def reN (fs : List FA) (f : FA) (to : Bs) : List FA :=
 match (fs.filter (fun g => !(g.b == f.b))).find? (fun g => g.name == to) with
 | some g => (fs.filter (fun g => !(g.b == f.b))).map (fun x => if x.b = g.b then { f with name := to } else x)
 | none => fs.filter (fun g => !(g.b == f.b)) ++ [{ f with name := to }]
def DS.rename (D : DS) (s to : Bs) : Int × DS :=
 if !mayN to then (1, D) else if D.off then (50, D) else match D.find s with
 | none => (4, D)
 | some f => if D.deed.1 = 0 then (0, if s = to then D.deed.2 else { D.deed.2 with files := reN D.files f to, pends := match D.find to with | some g => D.pends.filter (notB g.b) | none => D.pends }) else D.deed
def zOD (fs : List FA) (x : PD) (n : Int) : List FA := match fs.find? (fun f => f.b == x.1) with | some f => upF fs (jJ f x.2.1 x.2.2 n) | none => fs
def jH (fs : List FA) (l : List PD) (keep : List Int) : List FA := (l.zip keep).foldl (fun fs x => zOD fs x.1 x.2) fs
def zIG (fs : List FA) : List FA := fs.map fun f => { f with now := f.safe }
def DS.crash (D : DS) (keep : List Int) : DS := ⟨zIG (jH D.files D.pends keep), [], D.limit, -1, false⟩
theorem find_b {fs : List FA} (hn : (fs.map (·.b)).Nodup) (hf : f ∈ fs) : fs.find? (fun g => g.b == f.b) = some f := by
 have : (fs.find? (fun g => g.b == f.b)).isSome := by
  rw [List.find?_isSome]; exact ⟨f, hf, by simp⟩
 obtain ⟨g, hg⟩ := Option.isSome_iff_exists.1 this
 have h1 := List.mem_of_find?_eq_some hg
 have h2 : g.b = f.b := by simpa using List.find?_some hg
 rw [hg, yZ hn h1 hf h2]
theorem zJW {α β : Type} : ∀ {l : List α} {k : List β} {x : α}, (l ++ [x]).zip k = l.zip k ++ (match k[l.length]? with | some n => [(x, n)] | none => [])
 | [], [], x => rfl
 | [], n :: k, x => by simp
 | y :: l, [], x => rfl
 | y :: l, n :: k, x => by
  simp only [List.cons_append, List.zip_cons_cons, List.length_cons, List.getElem?_cons_succ]
  rw [zJW]
theorem zES {fs : List FA} {l : List PD} {keep : List Int} {x : PD} : jH fs (l ++ [x]) keep = match keep[l.length]? with | some n => zOD (jH fs l keep) x n | none => jH fs l keep := by
 unfold jH
 rw [zJW, List.foldl_append]
 cases keep[l.length]? <;> rfl
def DS.delete (D : DS) (s : Bs) : Int × DS :=
 if D.off then (50, D) else match D.find s with
 | none => (4, D)
 | some f => if D.deed.1 = 0 then (0, { D.deed.2 with files := D.files.filter (fun g => !(g.b == f.b)), pends := D.pends.filter (notB f.b) }) else D.deed
end Go.Dsk
