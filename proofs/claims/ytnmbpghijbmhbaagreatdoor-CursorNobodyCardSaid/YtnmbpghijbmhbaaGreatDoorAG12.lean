/- A run over the heap that holds a laid variable. -/
import Derived.Test.YtnmbpghijbmhbaaGreatDoorAG11
namespace Go.Ab
set_option linter.unusedVariables false

/-- A run from the mark and the cells on. -/
noncomputable def wlaid (P : Program) (slots : FuncId → Nat → List Nat) (ov : Ovr) (n : Nat) (g : Nat) (c : List AV) (f : FuncId) (args : List AV) (k : AV → EH → Bool) : Bool :=
  eNewB (.gm g 1) ⟨.e, 0⟩ fun _ h1 => eNewB (.cells c false) h1 fun _ h2 => wrun P slots ov n f args h2 k
theorem erun_laid {P : Program} {slots : FuncId → Nat → List Nat} {ov : Ovr} {n g : Nat} {c : List AV} {f : FuncId} {args : List AV} {k : AV → EH → Bool} (hk : wlaid P slots ov n g c f args k = true) : ∃ e, HFor e (laidH g c) ∧ erun P slots ov n f args e k = true := by
  obtain ⟨e1, h1, h2⟩ := eNewB_ok HFor_nil hk
  obtain ⟨e2, h3, h4⟩ := eNewB_ok h1 h2
  exact ⟨e2, h3, erun_of h4⟩
/-- What lives, run so, lives over any heap that holds the variable. -/
theorem AC_laid {P : Program} {slots : FuncId → Nat → List Nat} {ov : Ovr} (O : OvrOK P ov) {n g a j : Nat} {c : List AV} {f : FuncId} {h : Heap} {Q : AV → Heap → Prop} {k : AV → EH → Bool} (hy : ∀ (v : AV) (e : EH), k v e = true → v = .bool true) (hk : wlaid P slots ov n g c f [] k = true)
    (hg : h[a]? = some (.gm g j)) (hj : h[j]? = some (.cells c false)) (hc : ∀ x ∈ c, ∀ (μ μ' : Ren) (y : Value), x.rel μ y → x.rel μ' y) (hQ : Q (.bool true) h) : AC P f [] h Q := by
  obtain ⟨e, H, hr⟩ := erun_laid hk
  exact AC_frame_g (v := .bool true) (erun_ok O n f _ _ _ _ _ H (fun v e' h' _ hv => hy v e' hv) hr) (fun _ _ _ h => h) (fun _ _ _ h => h) hg hj hc hQ
end Go.Ab
