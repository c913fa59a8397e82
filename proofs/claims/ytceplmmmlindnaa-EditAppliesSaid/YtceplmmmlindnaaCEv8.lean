/- maps.Keys and slices.Sorted, run by the shelf's contracts: what the run answers holds. -/
import Derived.Test.YtceplmmmlindnaaCEv7
namespace Go.Ab
open Go.Maps Go.MapKept
set_option linter.unusedSimpArgs false
set_option linter.unusedVariables false

theorem pwB_ok : ∀ {l : List (List UInt8)}, pwB l = true → l.Pairwise (fun a b => leB a b = true)
  | [], h => .nil
  | x :: l, h => by
    simp only [pwB, Bool.and_eq_true, List.all_eq_true] at h
    exact .cons h.1 (pwB_ok h.2)

theorem sortStr_ok : ∀ {l : List (List UInt8)} {k : List (List UInt8) → Bool}, sortStr l k = true → ∃ l', k l' = true
  | [], k, h => ⟨_, h⟩
  | s :: l, k, h => by
    unfold sortStr at h
    obtain ⟨r, hr⟩ := sortStr_ok (k := fun r => insStr s r k) (l := l) h
    have : ∀ {r : List (List UInt8)} {k : List (List UInt8) → Bool}, insStr s r k = true → ∃ l', k l' = true := by
      intro r
      induction r with
      | nil => intro k h; exact ⟨_, h⟩
      | cons t r ih =>
        intro k h
        unfold insStr at h
        split at h
        · obtain ⟨l', h'⟩ := ih h; exact ⟨_, h'⟩
        · exact ⟨_, h⟩
    exact this hr

theorem strAVs_eq : ∀ (l : List (List UInt8)) (k : List AV → Bool), strAVs l k = k (l.map .str)
  | [], k => rfl
  | s :: l, k => by simp only [strAVs, strAVs_eq l]; rfl

structure KSOk (P : Program) (keys : List (FuncId × FuncId)) (sorted : FuncId) (kt : TypeId) : Prop where
  str : P.underlying kt = some .string
  callS : callable P sorted = true
  callK : ∀ x ∈ keys, callable P x.1 = true
  laws : ∀ x ∈ keys, KeysLaw P x.1 x.2
  sort : ∀ x ∈ keys, SortedLaw P sorted x.2 kt

theorem ovKS_ok {P : Program} {keys : List (FuncId × FuncId)} {sorted : FuncId} {kt : TypeId} (O : KSOk P keys sorted kt) : OvrOK P (ovKS keys sorted) := by
  intro f g hg args e h k Q H hQ hk
  unfold ovKS at hg
  split at hg
  · rename_i hf
    cases hg
    have hf' : f = sorted := by simpa using hf
    subst hf'
    unfold eSorted at hk
    split at hk
    · rename_i f' p
      rw [Bool.and_eq_true, Bool.and_eq_true] at hk
      obtain ⟨⟨h1, h2⟩, hk⟩ := hk
      have ho : p.o = 0 := Nat.eq_of_beq_eq_true h2
      obtain ⟨x, hx, rfl⟩ : ∃ x ∈ keys, x.2 = f' := by
        have : f' ∈ keys.map (·.2) := by simpa using h1
        exact List.mem_map.1 this
      rw [H.1 p.b] at hk
      split at hk
      · rename_i m hb
        rw [H.1 m] at hk
        split at hk
        · rename_i es cl hm
          split at hk
          · rename_i ss hss
            obtain ⟨ss', hk⟩ := sortStr_ok hk
            rw [Bool.and_eq_true] at hk
            obtain ⟨hc, hk⟩ := hk
            simp only [Bool.and_eq_true, decide_eq_true_eq, List.all_eq_true] at hc
            obtain ⟨⟨⟨⟨⟨⟨c1, c2⟩, c3⟩, c4⟩, c5⟩, c6⟩, c7⟩ := hc
            have hp : p = ⟨p.b, 0⟩ := by cases p; simp_all
            rw [hp]
            refine sorted_ac O.callS O.str (O.sort x hx) hb hm hss (List.isPerm_iff.1 c1) (pwB_ok c2) c3 c4 (fun e he => by have := c5 e he; simpa [Nat.blt_eq] using this) (Nat.le_of_ble_eq_true c6) (fun s hs => Nat.le_of_ble_eq_true (c7 s hs)) ?_
            split at hk
            · exact hQ _ _ _ H hk
            · rw [strAVs_eq] at hk
              obtain ⟨e', H', h3⟩ := eNew_ok H hk
              rw [fN_eq] at h3
              exact hQ _ _ _ H' h3
          · simp at hk
        · simp at hk
      · simp at hk
    · simp at hk
  · split at hg
    · rename_i f' g' hfind
      cases hg
      have hmem := List.mem_of_find?_eq_some hfind
      have hf' := List.find?_some hfind
      have : f' = f := by simpa using hf'
      subst this
      unfold eKeys at hk
      split at hk
      · rename_i m
        obtain ⟨e', H', h1⟩ := eNewB_ok H hk
        exact keys_ac (O.callK _ hmem) (O.laws _ hmem) (hQ _ _ _ H' h1)
      · simp at hk
    · cases hg
end Go.Ab
