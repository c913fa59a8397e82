import Derived.Test.YtafmabnolelknaaGreatDoorEG9
import Derived.Test.YtafmabnolelknaaGreatDoorEG13
import Derived.Test.YtafmabnolelknaaGreatDoorEG14
namespace Go.Ab
set_option linter.unusedSimpArgs false
set_option linter.unusedVariables false
theorem efun_okD {P : Program} {call : ECall} (C : CallOK P call) {slots : Nat → List Nat} {f : FuncId} {args : List AV} {e : EH} {h : Heap} {k : AV → EH → Bool} {Q : AV → Heap → Prop} (H : HFor e h) (hQ : ∀ v e' h', HFor e' h' → k v e' = true → Q v h') (hk : efun P slots call f args e k = true) : ACD P f args h Q := by
 unfold efun at hk
 split at hk
 ·simp at hk
 ·rename_i fn hf
  split at hk
  ·simp at hk
  ·rename_i c hb
   rw [Bool.and_eq_true, Bool.and_eq_true] at hk
   obtain ⟨⟨hn, hsz⟩, hk⟩ := hk
   have hsz' : fn.ntmps < 65536 := by simpa [Nat.blt_eq] using hsz
   have R0 := topT_ok 17 fn.ntmps (by omega)
   obtain ⟨hle, t', R1, hk⟩ := eArgs_ok (pre := []) (by simpa using R0) hk
   refine ACD_of_VC (H := ehints slots) hn ?_
   unfold VC vfun
   simp only [hf, hb]
   have e1 : args.map LV.val ++ List.replicate (fn.ntmps - args.length) LV.top = [] ++ args.map LV.val ++ (List.replicate fn.ntmps LV.top).drop args.length := by simp
   rw [e1]
   refine ecode_ok C slots c _ R1 H (fun x t2 ρ2 e2 h2 R2 H2 hk2 => ?_) hk
   have fin : eresults P t2 e2 fn.results.toList (fun l => match l with | [v] => k v e2 | l => k (.tup l) e2) = true → vret P fn ⟨ρ2, [], h2⟩ Q := by
    intro hr
    refine eresults_ok R2 H2 (fun l hl => ?_) hr
    split at hl
    ·exact hQ _ _ _ H2 hl
    ·rename_i l hne
     split
     ·rename_i v; exact (hne v rfl).elim
     ·exact hQ _ _ _ H2 hl
   cases x with
   | normal => exact fin hk2
   | ret => exact fin hk2
   | _ => simp at hk2
theorem wrun_okD {P : Program} {slots : FuncId → Nat → List Nat} {ov : Ovr} (O : OvrOK P ov) {n : Nat} {f : FuncId} (hov : ov f = none) {args : List AV} {e : EH} {h : Heap} {k : AV → EH → Bool} {Q : AV → Heap → Prop} (H : HFor e h) (hQ : ∀ v e' h', HFor e' h' → k v e' = true → Q v h')
  (hk : wrun P slots ov (n + 1) f args e k = true) : ACD P f args h Q := by
 rw [wrun_eq] at hk
 unfold erun at hk
 rw [hov] at hk
 exact efun_okD (erun_ok O n) H hQ hk
theorem wrun_ok {P : Program} {slots : FuncId → Nat → List Nat} {ov : Ovr} (O : OvrOK P ov) {n : Nat} {f : FuncId} {args : List AV} {e : EH} {h : Heap} {k : AV → EH → Bool} {Q : AV → Heap → Prop} (H : HFor e h) (hQ : ∀ v e' h', HFor e' h' → k v e' = true → Q v h')
  (hk : wrun P slots ov n f args e k = true) : AC P f args h Q := erun_ok O n f args e h k Q H hQ (erun_of hk)
end Go.Ab
namespace Go.Ab
theorem frun_okD {P : Program} {slots : FuncId → Nat → List Nat} {ov : Ovr} (O : OvrOK P ov) {n : Nat} {f : FuncId} (hov : ov f = none) {args : List AV} {e : EH} {h : Heap} {k : AV → EH → Bool} {Q : AV → Heap → Prop} (H : HFor e h) (hQ : ∀ v e' h', HFor e' h' → k v e' = true → Q v h')
  (hk : frun P slots ov (n + 1) f args e k = true) : ACD P f args h Q := by
 rw [frun_eq] at hk
 exact wrun_okD O hov H hQ hk
theorem frun_ok {P : Program} {slots : FuncId → Nat → List Nat} {ov : Ovr} (O : OvrOK P ov) {n : Nat} {f : FuncId} {args : List AV} {e : EH} {h : Heap} {k : AV → EH → Bool} {Q : AV → Heap → Prop} (H : HFor e h) (hQ : ∀ v e' h', HFor e' h' → k v e' = true → Q v h')
  (hk : frun P slots ov n f args e k = true) : AC P f args h Q := by
 rw [frun_eq] at hk
 exact wrun_ok O H hQ hk
end Go.Ab
