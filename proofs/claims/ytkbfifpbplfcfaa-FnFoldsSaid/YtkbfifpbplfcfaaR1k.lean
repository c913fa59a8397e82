/- FnFolds over the abstract heap: it answers yes. -/
import Derived.Test.YtkbfifpbplfcfaaR1j
namespace Go.Proofs
open Go.Ab
set_option linter.unusedVariables false
set_option linter.unusedSimpArgs false

section
variable {h : Heap}

theorem all_perm {α : Type} {p : α → Bool} {l m : List α} (h : l.Perm m) : l.all p = m.all p := by
  rw [Bool.eq_iff_iff, List.all_eq_true, List.all_eq_true]
  exact ⟨fun g x hx => g x (h.mem_iff.2 hx), fun g x hx => g x (h.mem_iff.1 hx)⟩

theorem sameKey_iff {l : List (Int × Int)} : sameKey l = true ↔ l ≠ [] ∧ ∀ r ∈ l, ∀ s ∈ l, r.1 = s.1 := by
  cases l with
  | nil => simp [sameKey]
  | cons r0 rest =>
    unfold sameKey
    rw [List.all_eq_true]
    constructor
    · intro g
      refine ⟨by simp, fun r hr s hs => ?_⟩
      have h1 := g r hr
      have h2 := g s hs
      simp only [beq_iff_eq] at h1 h2
      rw [h1, h2]
    · rintro ⟨_, g⟩ r hr
      simpa using g r hr r0 (by simp)

theorem sameKey_perm {l m : List (Int × Int)} (h : l.Perm m) : sameKey l = sameKey m := by
  rw [Bool.eq_iff_iff, sameKey_iff, sameKey_iff]
  constructor
  · rintro ⟨h1, h2⟩
    exact ⟨fun e => h1 (by rw [e] at h; exact h.eq_nil), fun r hr s hs => h2 r (h.mem_iff.2 hr) s (h.mem_iff.2 hs)⟩
  · rintro ⟨h1, h2⟩
    exact ⟨fun e => h1 (by rw [e] at h; exact h.symm.eq_nil), fun r hr s hs => h2 r (h.mem_iff.1 hr) s (h.mem_iff.1 hs)⟩

theorem foldE_perm {k a : Int} {l m : List (Int × Int)} (h : l.Perm m) : foldE k a l = foldE k a m := by
  unfold foldE
  rw [all_perm h, sameKey_perm h]

/-- Where a fold begins. -/
def foldZ (k : Int) : Int := if k = 17 then 1048575 else 0
theorem foldZ_step {k v : Int} (hv : 0 ≤ v ∧ v ≤ 1048575) : stepV k (foldZ k) v = v := by
  unfold stepV foldZ
  repeat' split
  all_goals omega
theorem step_comm {k v x y : Int} : stepV k (stepV k v x) y = stepV k (stepV k v y) x := by
  unfold stepV
  by_cases h1 : k = 17
  · simp only [h1, if_true]; repeat' split
    all_goals omega
  · simp only [h1, if_false]
    by_cases h2 : k = 18
    · simp only [h2, if_true]; repeat' split
      all_goals omega
    · simp only [h2, if_false]; omega

theorem foldN_perm {k z : Int} {l m : List (Int × Int)} (h : l.Perm m) : foldN k l z = foldN k m z :=
  h.foldl_eq' (fun x _ y _ z => step_comm) z

theorem foldV_eq {k : Int} {r : Int × Int} {rest : List (Int × Int)} (hr : okR r = true) : foldV k (r :: rest) = (r.1, if k = 19 then ((r :: rest).length : Int) % 1048576 else foldN k (r :: rest) (foldZ k)) := by
  unfold foldV
  have : foldN k (r :: rest) (foldZ k) = foldN k rest r.2 := by
    show foldN k rest (stepV k (foldZ k) r.2) = _
    rw [foldZ_step (okR_iff.1 hr).2]
  rw [this]

theorem foldV_perm {k : Int} {l m : List (Int × Int)} (h : l.Perm m) (hok : l.all okR = true) (hs : sameKey l = true) : foldV k l = foldV k m := by
  have hs' := (sameKey_iff.1 hs)
  cases l with
  | nil => exact absurd rfl hs'.1
  | cons r rest =>
    cases m with
    | nil => exact absurd h.eq_nil (by simp)
    | cons s rest' =>
      have hr : okR r = true := List.all_eq_true.1 hok r (by simp)
      have hs2 : okR s = true := List.all_eq_true.1 hok s (h.mem_iff.2 (by simp))
      rw [foldV_eq hr, foldV_eq hs2, foldN_perm h, h.length_eq, hs'.2 r (by simp) s (h.mem_iff.2 (by simp))]

theorem foldV_ok {k : Int} {l : List (Int × Int)} (hok : l.all okR = true) (hne : l ≠ []) : okR (foldV k l) = true := by
  cases l with
  | nil => exact absurd rfl hne
  | cons r rest =>
    simp only [List.all_cons, Bool.and_eq_true] at hok
    have hr := okR_iff.1 hok.1
    rw [okR_iff]
    refine ⟨hr.1, ?_⟩
    unfold foldV
    simp only
    split
    · omega
    · exact foldN_range hr.2 hok.2

theorem foldE_zero {k a : Int} {l : List (Int × Int)} (h : foldE k a l = 0) : fam k a = 4 ∧ l.all okR = true ∧ sameKey l = true := by
  unfold foldE at h
  split at h
  · simp at h
  · split at h
    · split at h
      · rename_i h1 h2 h3; exact ⟨by omega, h2, h3⟩
      · simp at h
    · simp at h

theorem s6 {k a : Int} {q : Option SL} {l : List (Int × Int)} (H : HasL recE h q l) : AC Try.prog 6 [.agg [.int .i64 k, .int .i64 a], .sl q] h Yes := ac6 (by
  unfold vc6
  refine vif_mk (fun g => s9 fun h1 _ => ⟨_, rfl, rfl⟩) fun g => ?_
  have g : l.length ≤ 5000 := by simp [H.len] at g; omega
  have hl : l.length ≤ 4611686018427387904 := by omega
  by_cases hz : foldE k a l = 0
  · obtain ⟨hf, hok, hsk⟩ := foldE_zero hz
    have hne := (sameKey_iff.1 hsk).1
    refine s22 H hl fun h1 e1 => ?_
    rw [if_pos hz]
    have H1 := H.mono e1
    refine ⟨_, _, _, rfl, ?_⟩
    have tail : ∀ h3 h2, Ext h3 h2 → HasL recE h3 q l → AC Try.prog 9 [] h2 fun v20 h21 => ∃ b22 : Bool, v20 = .bool b22 ∧
       vif (!b22)
       (Yes (.bool false) h21)
       (AC Try.prog 24 [.agg [.int .i64 k, .int .i64 a], .sl q] h21 fun v23 h24 => ∃ n25 : Int, v23 = .int .i64 n25 ∧
       vif ((0 : Int) != n25)
       (Yes (.bool false) h24)
       (vif ((0 : Int) != 0)
       (Yes (.bool false) h24)
       (vif (!(((foldV k l).1 == (foldV k l).1) && (((foldV k l).2 == (foldV k l).2) && true)))
       (Yes (.bool false) h24)
       (vif ((0 : Int) != 0)
       (Yes (.bool (((foldV k l).1 == 0) && (((foldV k l).2 == 0) && true))) h24)
       (AC Try.prog 25 [.agg [.int .i64 k, .int .i64 a], .sl q] h24 fun v26 h27 => ∃ n28 : Int, ∃ n29 : Int, v26 = .agg [.int .i64 n28, .int .i64 n29] ∧
       (LV.val (.agg [.int .i64 (foldV k l).1, .int .i64 (foldV k l).2]) = LV.val (.agg [.int .i64 (foldV k l).1, .int .i64 (foldV k l).2])) ∧
       vif (((foldV k l).1 == n28) && (((foldV k l).2 == n29) && true))
       (AC Try.prog 12 [.agg [.int .i64 (foldV k l).1, .int .i64 (foldV k l).2]] h27 fun v30 h31 => ∃ b32 : Bool, v30 = .bool b32 ∧
       Yes (.bool b32) h31)
       (Yes (.bool false) h27)))))) := by
      intro h3 h2 e2 H2
      refine s9 fun h4 e4 => ⟨_, rfl, vif_f rfl ?_⟩
      have H4 := (H2.mono e2).mono e4
      refine s24 H4 hl ⟨_, rfl, ?_⟩
      rw [hz]
      refine vif_f rfl (vif_f rfl (vif_f (by simp) (vif_f rfl ?_)))
      refine s25 H4 hl hf hok hne ⟨_, _, rfl, rfl, vif_t (by simp) ?_⟩
      exact s12 ⟨_, rfl, congrArg AV.bool (foldV_ok hok hne)⟩
    have srt : ∀ h2, Ext h1 h2 → ∀ {K : AV → Heap → Prop}, (∀ h' q' l', Ext h2 h' → HasL recE h' q' l' → l'.Perm l → K (.sl q') h') → AC Try.prog 23 [.sl q] h2 K := by
      intro h2 e2 K hK
      exact s23 l.length (Nat.le_refl _) (H1.mono e2) (by omega) fun h' q' l' e H' P _ => hK h' q' l' e H' P
    have fold2 : ∀ {h2 : Heap} {q' : Option SL} {l' : List (Int × Int)} {K : AV → Heap → Prop}, HasL recE h2 q' l' → l'.Perm l → (∀ h', Ext h2 h' → K (retR (foldV k l) 0) h') → AC Try.prog 22 [.agg [.int .i64 k, .int .i64 a], .sl q'] h2 K := by
      intro h2 q' l' K H' P hK
      refine s22 H' (by rw [P.length_eq]; exact hl) fun h3 e3 => ?_
      have : foldE k a l' = 0 := by rw [foldE_perm P]; exact hz
      rw [if_pos this, foldV_perm P (by rw [all_perm P]; exact hok) (by rw [sameKey_perm P]; exact hsk)]
      exact hK _ e3
    have inner : ∀ {h2 : Heap} {q2 : Option SL} {l2 : List (Int × Int)}, Ext h1 h2 → HasL recE h2 q2 l2 → l2.Perm l → ∀ {K : AV → Heap → Prop}, (∀ h3, Ext h1 h3 → K (retR (foldV k l) 0) h3) → AC Try.prog 22 [.agg [.int .i64 k, .int .i64 a], .sl q2] h2 K :=
      fun {_ _ _} e2 H2 P2 {K} hK => fold2 H2 P2 fun h3 e3 => hK h3 (e2.trans e3)
    refine ⟨srt _ (.refl _) fun h2 q2 l2 e2 H2 P2 => ⟨_, rfl, rfl, inner e2 H2 P2 fun h3 e3 => ⟨_, _, _, rfl, rfl, tail h1 h3 e3 H1⟩, rfl, inner e2 H2 P2 fun h3 e3 => ⟨_, _, _, rfl, tail h1 h3 e3 H1⟩⟩,
      rfl, srt _ (.refl _) fun h2 q2 l2 e2 H2 P2 => ⟨_, rfl, rfl, inner e2 H2 P2 fun h3 e3 => ⟨_, _, _, rfl, tail h1 h3 e3 H1⟩⟩⟩
  · refine s22 H hl fun h1 e1 => ?_
    rw [if_neg hz]
    have H1 := H.mono e1
    refine ⟨_, _, _, rfl, ?_⟩
    have tail : ∀ h2, Ext h1 h2 → AC Try.prog 9 [] h2 fun v20 h21 => ∃ b22 : Bool, v20 = .bool b22 ∧
       vif (!b22)
       (Yes (.bool false) h21)
       (AC Try.prog 24 [.agg [.int .i64 k, .int .i64 a], .sl q] h21 fun v23 h24 => ∃ n25 : Int, v23 = .int .i64 n25 ∧
       vif (foldE k a l != n25)
       (Yes (.bool false) h24)
       (vif (foldE k a l != foldE k a l)
       (Yes (.bool false) h24)
       (vif (!(((0 : Int) == 0) && (((0 : Int) == 0) && true)))
       (Yes (.bool false) h24)
       (vif (foldE k a l != 0)
       (Yes (.bool (((0 : Int) == 0) && (((0 : Int) == 0) && true))) h24)
       (AC Try.prog 25 [.agg [.int .i64 k, .int .i64 a], .sl q] h24 fun v26 h27 => ∃ n28 : Int, ∃ n29 : Int, v26 = .agg [.int .i64 n28, .int .i64 n29] ∧
       (LV.val (.agg [.int .i64 0, .int .i64 0]) = LV.val (.agg [.int .i64 0, .int .i64 0])) ∧
       vif (((0 : Int) == n28) && (((0 : Int) == n29) && true))
       (AC Try.prog 12 [.agg [.int .i64 0, .int .i64 0]] h27 fun v30 h31 => ∃ b32 : Bool, v30 = .bool b32 ∧
       Yes (.bool b32) h31)
       (Yes (.bool false) h27)))))) := by
      intro h2 e2
      refine s9 fun h4 e4 => ⟨_, rfl, vif_f rfl ?_⟩
      refine s24 ((H1.mono e2).mono e4) hl ⟨_, rfl, ?_⟩
      exact vif_f (by simp) (vif_f (by simp) (vif_f rfl (vif_t (by simpa using hz) rfl)))
    have srt : ∀ h2, Ext h1 h2 → ∀ {K : AV → Heap → Prop}, (∀ h' q' l', Ext h2 h' → HasL recE h' q' l' → l'.Perm l → K (.sl q') h') → AC Try.prog 23 [.sl q] h2 K := by
      intro h2 e2 K hK
      exact s23 l.length (Nat.le_refl _) (H1.mono e2) (by omega) fun h' q' l' e H' P _ => hK h' q' l' e H' P
    have inner : ∀ {h2 : Heap} {q2 : Option SL} {l2 : List (Int × Int)}, Ext h1 h2 → HasL recE h2 q2 l2 → l2.Perm l → ∀ {K : AV → Heap → Prop}, (∀ h3, Ext h1 h3 → K (retR (0, 0) (foldE k a l)) h3) → AC Try.prog 22 [.agg [.int .i64 k, .int .i64 a], .sl q2] h2 K := by
      intro h2 q2 l2 e2 H2 P K hK
      refine s22 H2 (by rw [P.length_eq]; exact hl) fun h3 e3 => ?_
      rw [foldE_perm P, if_neg hz]
      exact hK _ (e2.trans e3)
    refine ⟨srt _ (.refl _) fun h2 q2 l2 e2 H2 P2 => ⟨_, rfl, rfl, inner e2 H2 P2 fun h3 e3 => ⟨_, _, _, rfl, rfl, tail h3 e3⟩, rfl, inner e2 H2 P2 fun h3 e3 => ⟨_, _, _, rfl, tail h3 e3⟩⟩,
      rfl, srt _ (.refl _) fun h2 q2 l2 e2 H2 P2 => ⟨_, rfl, rfl, inner e2 H2 P2 fun h3 e3 => ⟨_, _, _, rfl, tail h3 e3⟩⟩⟩)
end
end Go.Proofs
