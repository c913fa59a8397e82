/- From a function's condition to its triple. -/
import Derived.Test.YtceplmmmlindnaaCAb17
namespace Go.Ab

def hintsOf (locs : List Nat) (loops : List (Nat × List Nat × List Nat)) : Hints where
  loc d := locs.contains d
  loops c := match loops.find? (fun x => x.1 == c) with | some (_, s, m) => ⟨s, m⟩ | none => ⟨[], []⟩
  plan _ := []

def notCount (P : Program) (f : FuncId) : Bool := match P.funcs[f]? with | some fn => !(fn.name == "runtime.NumGoroutine") | none => false

/-- The condition of a function, its draws heeded. -/
def VC (P : Program) (H : Hints) (f : FuncId) (args : List AV) (h : Heap) (Q : AV → Heap → Prop) : Prop := vfun P H (AC P) (vdraw P H.loc (AC P)) f args h Q

theorem AC_of_VC {P : Program} {H : Hints} {f : FuncId} {args : List AV} {h : Heap} {Q : AV → Heap → Prop} (hn : notCount P f = true) (hk : VC P H f args h Q) : AC P f args h Q := by
  unfold VC vfun at hk
  unfold notCount at hn
  cases hf : P.funcs[f]? with
  | none => simp only [hf] at hk
  | some fn =>
    simp only [hf] at hk hn
    cases hb : fn.body with
    | none => simp only [hb] at hk
    | some c =>
      simp only [hb] at hk
      exact AC_of_code vdraw_ok hf hb (by simpa using hn) hk

/-- The form in which it is used: the condition as it is printed. -/
theorem AC_by {P : Program} {H : Hints} {f : FuncId} {args : List AV} {h : Heap} {Q : AV → Heap → Prop} {A : Prop} (hn : notCount P f = true) (e : A = VC P H f args h Q) (hk : A) : AC P f args h Q :=
  AC_of_VC hn (e ▸ hk)
end Go.Ab
