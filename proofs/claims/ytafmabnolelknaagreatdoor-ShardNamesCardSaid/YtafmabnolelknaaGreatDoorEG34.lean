import Derived.Test.YtafmabnolelknaaGreatDoorEG1
import Derived.Test.YtafmabnolelknaaGreatDoorEG21
namespace Go.Man
open Go.Page Go.Dsk
open Go.Ab (splice)
set_option linter.unusedVariables false
set_option linter.unusedSimpArgs false
abbrev Bs := List UInt8
structure Jr where
 E : Type
 S : Type
 enc : E → Bs
 dec : Bs → Option E
 emp : S
 app : S → E → Option S
 eds : S → List E
 dec_enc : ∀ (s s' : S) (e : E), app s e = some s' → dec (enc e) = some e
variable {J : Jr}
def sz (J : Jr) (e : J.E) : Nat := max 1 (((J.enc e).length + 41) / 42)
def rows (J : Jr) : List J.E → Nat → List Bs
 | [], _ => []
 | e :: es, t => row t (J.enc e) ++ rows J es (t + sz J e)
def says (J : Jr) : Nat → List Bs → Nat → J.S → J.S
 | 0, _, _, s => s
 | n + 1, l, t, s => match unrow l t with
  | none => s
  | some (b, k) => match J.dec b with
   | none => s
   | some e => match J.app s e with
    | none => s
    | some s' => says J n (l.drop k) (t + k) s'
def saysL (J : Jr) (l : List Bs) : J.S := says J l.length l 1 J.emp
abbrev nJ : Bs := [106, 111, 117, 114, 110, 97, 108]
abbrev nN : Bs := [106, 111, 117, 114, 110, 97, 108, 46, 110, 101, 119]
structure DOk (D : DS) : Prop where
 names : (D.files.map (·.name)).Nodup
 blocks : (D.files.map (·.b)).Nodup
 pfile : ∀ x ∈ D.pends, ∃ f ∈ D.files, f.b = x.1 ∧ x.2.1 < f.now.length
 safe : ∀ f ∈ D.files, f.safe.length ≤ f.now.length
variable {J : Jr}
structure Mid (J : Jr) (fs : List FA) (ps : List PD) (s : J.S) : Prop where
 names : ∀ f ∈ fs, f.name = nJ ∨ f.name = nN
 jour : ∀ f ∈ fs, f.name = nJ → f.now = f.safe ∧ (∀ x ∈ ps, x.1 ≠ f.b) ∧ saysL J (f.now.map pad) = s
 none : (∀ f ∈ fs, f.name ≠ nJ) → s = J.emp
 big : ∀ f ∈ fs, f.now.length ≤ 2000
abbrev cut (D : DS) : DS := { D with off := true }
variable {J : Jr} {D : DS} {s : J.S} {es : List J.E} {e : J.E} {t : Bs} {b : Nat} {f : FA}
end Go.Man

