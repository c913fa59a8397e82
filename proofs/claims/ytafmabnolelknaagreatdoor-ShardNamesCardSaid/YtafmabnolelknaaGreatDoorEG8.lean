import Derived.Test.YtafmabnolelknaaGreatDoorEG7
import Derived.Orders
namespace Go.Ab
set_option linter.unusedSimpArgs false
set_option linter.unusedVariables false
def cls (P : Program) (o : Oper) : Nat :=
 match o.op with
 | .indexAddr _ (.global _) _ => 2
 | .move _ | .pick .. | .nilCheck _ | .unOp .. | .fieldAddr .. | .field .. | .indexAddr .. | .extract .. | .slice .. | .build .. | .index .. | .makeFunc .. | .makeInterface .. | .sliceToArrayPointer .. => 1
 | .binOp _ t _ _ _ => match P.underlying t with | some (.pointer _) => 2 | _ => 1
 | .load .. | .lookup .. => 2
 | .convert src dst _ => match P.underlying dst with | some (.int _) => 1 | some .string => 2 | _ => 0
 | .call c => match c.callee with | .builtin .len => (match (c.argTypes.toList.head?).bind P.underlying with | some (.map _ _) => 2 | _ => 1) | .builtin .min => 1 | .builtin .max => 1 | _ => 0
 | _ => 0
section
variable {P : Program} {isLoc : Nat → Bool} {call : CallH} {L : Locs} {h : Heap} {ρ : List LV}
def Same (lv : LV) (L : Locs) (h : Heap) : KO := fun lv' L' h' => lv' = lv ∧ L' = L ∧ h' = h
theorem exL_join : ∀ {zs : List AV} {A B : List AV → Prop}, exL zs A → (∀ l, l.length = zs.length → (∀ x ∈ l, x.one = true) → A l → B l) → exL zs B
 | [], A, B, h, f => f _ rfl (by simp) h
 | z :: zs, A, B, h, f => by
  cases z <;> simp only [exL] at h ⊢
  all_goals first
   | (obtain ⟨n, hv, h⟩ := h; exact ⟨n, hv, exL_join h fun l hl ho => f _ (by simp [hl]) (by intro x hx; simp at hx; rcases hx with rfl | hx; (first | exact hv | rfl); exact ho x hx)⟩)
   | (obtain ⟨n, h⟩ := h; exact ⟨n, exL_join h fun l hl ho => f _ (by simp [hl]) (by intro x hx; simp at hx; rcases hx with rfl | hx; rfl; exact ho x hx)⟩)
theorem exV_join {z : AV} {A B : AV → Prop} (hz : ∀ c, z ≠ .tup c) (h : exV z A) (f : ∀ v, isAgg v = isAgg z → (isAgg z = false → v.one = true) → A v → B v) : exV z B := by
 cases z <;> simp only [exV] at h ⊢
 case tup c => exact absurd rfl (hz c)
 case agg zs => exact exL_join h fun l _ _ => f _ rfl (fun h => by cases h)
 all_goals
  refine exL_join h fun l hlen ho hl => ?_
  clear hlen
  split at hl
  ·rename_i x
   have hx := ho x (by simp)
   exact f _ (by rw [isAgg_of_one hx]; rfl) (fun _ => hx) hl
  ·exact hl.elim
theorem eq_of_cells {v v' : AV} (h : isAgg v = isAgg v') (h1 : isAgg v = false → v.one = true) (h2 : isAgg v' = false → v'.one = true) (hc : v.cells = v'.cells) : v = v' := by
 cases hv : isAgg v with
 | true =>
  rw [hv] at h
  cases v <;> simp [isAgg] at hv
  cases v' <;> simp [isAgg] at h
  simpa [AV.cells] using hc
 | false =>
  rw [hv] at h
  rw [cells_of_one (h1 hv), cells_of_one (h2 h.symm)] at hc
  simpa using hc
theorem exV_one {z : AV} {r : Option (List AV)} {KV : AV → Prop} (hz : ∀ c, z ≠ .tup c) (h : exV z fun v => r = some v.cells ∧ KV v) : ∃ v, KV v ∧ ∀ B : AV → Prop, B v → exV z fun v' => r = some v'.cells ∧ B v' := by
 obtain ⟨v, ⟨h1, h2⟩, h3, _, h4⟩ := exV_elim hz h
 have hone : isAgg z = false → v.one = true := by
  intro hg
  have : v.cells = [v] := by rw [hg] at h3; cases v <;> simp [isAgg] at h3 <;> rfl
  exact h4 v (by rw [this]; simp)
 refine ⟨v, h2, fun B hB => exV_join hz h fun v' a1 a2 ⟨b1, _⟩ => ⟨b1, ?_⟩⟩
 rw [b1] at h1
 have := eq_of_cells (a1.trans h3.symm) (fun hg => a2 (a1 ▸ hg)) (fun hg => hone (h3 ▸ hg)) (Option.some.inj h1)
 rw [this]; exact hB
theorem part_same {z : AV} {c : List AV} {o : Nat} {KV : AV → Prop} (h : part z c o KV) : ∃ v, KV v ∧ ∀ B : AV → Prop, B v → part z c o B := by
 unfold part at h
 cases hg : isAgg z with
 | true =>
  rw [hg] at h
  obtain ⟨h1, h2⟩ := need_elim h
  refine ⟨_, h2, fun B hB => ?_⟩
  unfold part
  simp only [hg, h1, need]
  exact hB
 | false =>
  rw [hg] at h
  simp only at h
  split at h
  ·rename_i v hv
   refine ⟨v, h, fun B hB => ?_⟩
   unfold part
   simp only [hg, hv]
   exact hB
  ·exact h.elim
theorem load_same {t : TypeId} {x : LV} {KV : AV → Prop} (hk : vLoad P t x L h KV) : ∃ v, KV v ∧ ∀ B : AV → Prop, B v → vLoad P t x L h B := by
 unfold vLoad at hk
 split at hk
 ·exact hk.elim
 ·rename_i z hz
  split at hk
  ·exact hk.elim
  ·rename_i hok
   have hok' := okTy_parts hok
   split at hk
   ·rename_i k o
    split at hk
    ·rename_i c hc
     obtain ⟨v, h1, h2⟩ := part_same hk
     exact ⟨v, h1, fun B hB => by simp only [vLoad, hz, hok, hc]; exact h2 _ hB⟩
    ·exact hk.elim
   ·rename_i q
    cases q with
    | none => exact hk.elim
    | some p =>
     simp only [vPtr, PLoad] at hk
     obtain ⟨v, h1, h2⟩ := exV_one hok'.2.2.2 hk
     exact ⟨v, h1, fun B hB => by simp only [vLoad, hz, hok, vPtr, PLoad]; exact h2 B hB⟩
   ·exact hk.elim
theorem need_mk {b : Bool} {A : Prop} (h : b = true) (a : A) : need b A := by subst h; exact a
theorem eqFs_same {n : Nat} (ih : ∀ (t : TypeId) (xs ys : List AV) (KB : Bool → List AV → List AV → Prop), eqT P n t xs ys KB → ∃ b xs' ys', KB b xs' ys' ∧ ∀ B : Bool → List AV → List AV → Prop, B b xs' ys' → eqT P n t xs ys B) :
  ∀ (fs : List Field) (off : Nat) (xs ys : List AV) (KB : Bool → List AV → List AV → Prop), eqFs P (eqT P n) fs off xs ys KB → ∃ b xs' ys', KB b xs' ys' ∧ ∀ B : Bool → List AV → List AV → Prop, B b xs' ys' → eqFs P (eqT P n) fs off xs ys B
 | [], off, xs, ys, KB, h => ⟨_, _, _, h, fun B hB => hB⟩
 | f :: fs, off, xs, ys, KB, h => by
  simp only [eqFs] at h
  obtain ⟨h1, h2⟩ := need_elim h
  obtain ⟨b, xs', ys', h3, h4⟩ := ih _ _ _ _ h2
  obtain ⟨r, xs2, ys2, h5, h6⟩ := eqFs_same ih fs _ _ _ _ h3
  refine ⟨_, _, _, h5, fun B hB => ?_⟩
  simp only [eqFs]
  exact need_mk h1 (h4 _ (h6 _ hB))
theorem eqT_same : ∀ (n : Nat) (t : TypeId) (xs ys : List AV) (KB : Bool → List AV → List AV → Prop), eqT P n t xs ys KB → ∃ b xs' ys', KB b xs' ys' ∧ ∀ B : Bool → List AV → List AV → Prop, B b xs' ys' → eqT P n t xs ys B
 | 0, _, _, _, _, h => h.elim
 | n + 1, t, xs, ys, KB, h => by
  unfold eqT at h
  split at h
  ·rename_i hu
   obtain ⟨h1, h2⟩ := need_elim h
   exact ⟨_, _, _, h2, fun B hB => by unfold eqT; rw [hu]; exact need_mk h1 hB⟩
  ·rename_i hu
   obtain ⟨h1, h2⟩ := need_elim h
   exact ⟨_, _, _, h2, fun B hB => by unfold eqT; rw [hu]; exact need_mk h1 hB⟩
  ·rename_i hu
   obtain ⟨h1, h2⟩ := need_elim h
   exact ⟨_, _, _, h2, fun B hB => by unfold eqT; rw [hu]; exact need_mk h1 hB⟩
  ·rename_i fs hu
   obtain ⟨h1, h2⟩ := need_elim h
   obtain ⟨b, xs', ys', h3, h4⟩ := eqFs_same (eqT_same n) _ _ _ _ _ h2
   obtain ⟨h5, h6⟩ := need_elim h3
   exact ⟨_, _, _, h6, fun B hB => by unfold eqT; rw [hu]; exact need_mk h1 (h4 _ (need_mk h5 hB))⟩
  ·exact h.elim
theorem aInt_same {op : BinOp} {k : IntKind} {a b : Int} {KV : AV → Prop} (h : aInt op k a b KV) : ∃ v, KV v ∧ ∀ B : AV → Prop, B v → aInt op k a b B := by
 cases op <;> simp only [aInt] at h <;> first
  | exact h.elim
  | exact ⟨_, h, fun B hB => hB⟩
  | (obtain ⟨h1, h2⟩ := need_elim h; exact ⟨_, h2, fun B hB => need_mk h1 hB⟩)
theorem aStr_same {op : BinOp} {a b : List UInt8} {KV : AV → Prop} (h : aStr op a b KV) : ∃ v, KV v ∧ ∀ B : AV → Prop, B v → aStr op a b B := by
 cases op <;> simp only [aStr] at h <;> first
  | exact h.elim
  | exact ⟨_, h, fun B hB => hB⟩
  | (obtain ⟨h1, h2⟩ := need_elim h; exact ⟨_, h2, fun B hB => need_mk h1 hB⟩)
theorem aEq_same {t : TypeId} {x y : AV} {KB : Bool → Prop} (hk : aEq P t h x y KB) :
  ∃ b, KB b ∧ (∀ B : Bool → Prop, B b → aEq P t h x y B) ∧ ((∀ e, P.underlying t ≠ some (.pointer e)) → ∀ (h2 : Heap) (B : Bool → Prop), B b → aEq P t h2 x y B) := by
 unfold aEq at hk
 split at hk
 ·rename_i hu; exact ⟨_, hk, fun B hB => by unfold aEq; rw [hu]; exact hB, fun _ h2 B hB => by unfold aEq; rw [hu]; exact hB⟩
 ·rename_i hu
  obtain ⟨h1, h2⟩ := need_elim hk
  obtain ⟨b, xs', ys', h3, h4⟩ := eqT_same _ _ _ _ _ h2
  exact ⟨b, h3, fun B hB => by unfold aEq; rw [hu]; exact need_mk h1 (h4 _ hB), fun _ h2 B hB => by unfold aEq; rw [hu]; exact need_mk h1 (h4 _ hB)⟩
 ·rename_i e p hu; exact ⟨_, hk, fun B hB => by unfold aEq; rw [hu]; exact hB, fun hn => absurd hu (hn _)⟩
 ·rename_i e p hu; exact ⟨_, hk, fun B hB => by unfold aEq; rw [hu]; exact hB, fun hn => absurd hu (hn _)⟩
 ·rename_i e p q hu
  obtain ⟨h1, h2⟩ := need_elim hk
  unfold ptrEq at h2
  split at h2
  ·rename_i hb
   exact ⟨_, h2, fun B hB => by unfold aEq; rw [hu]; exact need_mk h1 (by unfold ptrEq; rw [if_pos hb]; exact hB), fun hn => absurd hu (hn _)⟩
  ·rename_i hb
   split at h2
   ·rename_i c1 c2 e1 e2
    exact ⟨_, h2, fun B hB => by unfold aEq; rw [hu]; exact need_mk h1 (by unfold ptrEq; rw [if_neg hb, e1, e2]; exact hB), fun hn => absurd hu (hn _)⟩
   ·exact h2.elim
 ·rename_i hu; exact ⟨_, hk, fun B hB => by unfold aEq; rw [hu]; exact hB, fun _ h2 B hB => by unfold aEq; rw [hu]; exact hB⟩
 ·rename_i hu; exact ⟨_, hk, fun B hB => by unfold aEq; rw [hu]; exact hB, fun _ h2 B hB => by unfold aEq; rw [hu]; exact hB⟩
 ·rename_i hu; exact ⟨_, hk, fun B hB => by unfold aEq; rw [hu]; exact hB, fun _ h2 B hB => by unfold aEq; rw [hu]; exact hB⟩
 ·rename_i hu; exact ⟨_, hk, fun B hB => by unfold aEq; rw [hu]; exact hB, fun _ h2 B hB => by unfold aEq; rw [hu]; exact hB⟩
 ·exact hk.elim
theorem aBin_same {op : BinOp} {t : TypeId} {x y : AV} {KV : AV → Prop} (h' : aBin P op t h x y KV) :
  ∃ v, KV v ∧ (∀ B : AV → Prop, B v → aBin P op t h x y B) ∧ ((∀ e, P.underlying t ≠ some (.pointer e)) → ∀ (h2 : Heap) (B : AV → Prop), B v → aBin P op t h2 x y B) := by
 unfold aBin at h'
 split at h'
 ·rename_i k a k' b
  have key : ∃ v, KV v ∧ ∀ B : AV → Prop, B v → aIntS op k a k' b B := by
   unfold aIntS at h'
   split at h'
   ·obtain ⟨h1, h2⟩ := need_elim h'; exact ⟨_, h2, fun B hB => need_mk h1 hB⟩
   ·obtain ⟨h1, h2⟩ := need_elim h'; exact ⟨_, h2, fun B hB => need_mk h1 hB⟩
   ·rename_i hs1 hs2
    obtain ⟨h1, h2⟩ := need_elim h'
    obtain ⟨v, h3, h4⟩ := aInt_same h2
    refine ⟨v, h3, fun B hB => ?_⟩
    unfold aIntS
    split
    ·exact absurd rfl hs1
    ·exact absurd rfl hs2
    ·exact need_mk h1 (h4 _ hB)
  obtain ⟨v, h1, h2⟩ := key
  exact ⟨v, h1, h2, fun _ _ => h2⟩
 ·obtain ⟨v, h3, h4⟩ := aStr_same h'
  exact ⟨v, h3, h4, fun _ _ => h4⟩
 ·rename_i n1 n2
  unfold aCmp at h'
  split at h'
  ·obtain ⟨b, h3, h4, h5⟩ := aEq_same h'
   exact ⟨_, h3, fun B hB => by rw [aBin_else n1 n2]; exact h4 (fun b => B (.bool b)) hB, fun hn h2 B hB => by rw [aBin_else n1 n2]; exact h5 hn h2 (fun b => B (.bool b)) hB⟩
  ·obtain ⟨b, h3, h4, h5⟩ := aEq_same h'
   exact ⟨_, h3, fun B hB => by rw [aBin_else n1 n2]; exact h4 (fun b => B (.bool (!b))) hB, fun hn h2 B hB => by rw [aBin_else n1 n2]; exact h5 hn h2 (fun b => B (.bool (!b))) hB⟩
  ·exact h'.elim
theorem findP_same {kt : TypeId} {k : AV} : ∀ {es : List (AV × AV × Nat)} {i : Nat} {KR : Option (Nat × AV × Nat) → Prop}, findP P kt k es i KR → ∃ r, KR r ∧ ∀ B : Option (Nat × AV × Nat) → Prop, B r → findP P kt k es i B
 | [], i, KR, h => ⟨_, h, fun B hB => hB⟩
 | (k', v, n) :: es, i, KR, h => by
  have key : ∀ {KB : Bool → Prop}, keyIs P kt k k' KB → ∃ b, KB b ∧ ∀ B : Bool → Prop, B b → keyIs P kt k k' B := by
   intro KB h
   unfold keyIs at h ⊢
   generalize P.underlying kt = d at h ⊢
   split at h
   ·obtain ⟨h1, h2⟩ := need_elim h
    exact ⟨_, h2, fun B hB => need_mk h1 hB⟩
   ·exact ⟨_, h, fun B hB => hB⟩
   ·exact ⟨_, h, fun B hB => hB⟩
   ·split at h
    ·rename_i hq; exact ⟨_, h, fun B hB => by first | exact hB | (simp only [hq]; exact hB)⟩
    ·exact h.elim
   ·split at h
    ·rename_i hq; exact ⟨_, h, fun B hB => by first | exact hB | (simp only [hq]; exact hB)⟩
    ·exact h.elim
   ·exact h.elim
  simp only [findP] at h
  obtain ⟨b, h1, h2⟩ := key h
  rcases vif_elim h1 with ⟨rfl, h1⟩ | ⟨rfl, h1⟩
  ·exact ⟨_, h1, fun B hB => by simp only [findP]; exact h2 _ hB⟩
  ·obtain ⟨r, h3, h4⟩ := findP_same h1
   exact ⟨r, h3, fun B hB => by simp only [findP]; exact h2 _ (h4 B hB)⟩
theorem lookup_same {kt et : TypeId} {m : Option Nat} {k : AV} {ok : Bool} {KV : AV → Prop} (hk : PLookup P kt et m k ok h KV) : ∃ v, KV v ∧ ∀ B : AV → Prop, B v → PLookup P kt et m k ok h B := by
 unfold PLookup at hk
 split at hk
 ·rename_i es z hes hz
  obtain ⟨h1, hk⟩ := need_elim hk
  obtain ⟨r, h2, h3⟩ := findP_same hk
  exact ⟨_, h2, fun B hB => by simp only [PLookup, hes, hz]; exact need_mk h1 (h3 _ hB)⟩
 ·exact hk.elim
theorem vop_same {o : Oper} {K : KO} (hc : cls P o ≠ 0) (hk : vop P isLoc call o ρ L h K) :
  ∃ lv, K lv L h ∧ vop P isLoc call o ρ L h (Same lv L h) ∧ (cls P o = 1 → ∀ L2 h2, vop P isLoc call o ρ L2 h2 (Same lv L2 h2)) := by
 have fin : ∀ {op : Op} {lv : LV}, o.op = op → (∀ L2 h2, vop P isLoc call { o with op := op } ρ L2 h2 (Same lv L2 h2)) → ∀ L2 h2, vop P isLoc call o ρ L2 h2 (Same lv L2 h2) := by
  intro op lv ho hh; subst ho; exact hh
 have S : ∀ (lv : LV) L2 h2, Same lv L2 h2 lv L2 h2 := fun lv L2 h2 => ⟨rfl, rfl, rfl⟩
 unfold vop at hk
 split at hk
 ·rename_i x ho
  have := fin (lv := ev ρ x) ho fun L2 h2 => by simp only [vop]; exact S _ _ _
  exact ⟨_, hk, this _ _, fun _ => this⟩
 ·rename_i x ho; simp [cls, ho] at hc
 ·rename_i c x y ho
  split at hk
  ·rename_i t hct
   rcases vif_elim hk with ⟨rfl, hk⟩ | ⟨rfl, hk⟩
   ·have := fin (lv := ev ρ x) ho fun L2 h2 => by simp only [vop, hct, vif]; exact S _ _ _
    exact ⟨_, hk, this _ _, fun _ => this⟩
   ·have := fin (lv := ev ρ y) ho fun L2 h2 => by simp only [vop, hct, vif]; exact S _ _ _
    exact ⟨_, hk, this _ _, fun _ => this⟩
  ·exact hk.elim
 ·rename_i t ho; simp [cls, ho] at hc
 ·rename_i t x ho; simp [cls, ho] at hc
 ·rename_i t x ho
  obtain ⟨v, h1, h2⟩ := load_same hk
  refine ⟨_, h1, ?_, fun h1 => by simp [cls, ho] at h1⟩
  unfold vop
  rw [ho]
  exact h2 _ (S _ _ _)
 ·rename_i t a x ho; simp [cls, ho] at hc
 ·rename_i x ho
  split at hk
  ·rename_i hx
   have := fin (lv := _) ho fun L2 h2 => by simp only [vop, hx]; exact S _ _ _
   exact ⟨_, hk, this _ _, fun _ => this⟩
  ·rename_i q hx
   cases q with
   | none => exact hk.elim
   | some p =>
    have := fin (lv := _) ho fun L2 h2 => by simp only [vop, hx, vPtr]; exact S _ _ _
    exact ⟨_, hk, this _ _, fun _ => this⟩
  ·rename_i hx
   have := fin (lv := _) ho fun L2 h2 => by simp only [vop, hx]; exact S _ _ _
   exact ⟨_, hk, this _ _, fun _ => this⟩
  ·rename_i hx
   have := fin (lv := _) ho fun L2 h2 => by simp only [vop, hx]; exact S _ _ _
   exact ⟨_, hk, this _ _, fun _ => this⟩
  ·exact hk.elim
 ·rename_i op t x y yt ho
  split at hk
  ·rename_i a b hx hy
   obtain ⟨v, h1, h2, h3⟩ := aBin_same hk
   refine ⟨_, h1, ?_, fun hcl => ?_⟩
   ·unfold vop
    rw [ho]
    simp only [hx, hy]
    exact h2 _ (S _ _ _)
   ·have hn : ∀ e, P.underlying t ≠ some (.pointer e) := by
     intro e he
     simp [cls, ho, he] at hcl
    exact fin ho fun L2 h2 => by simp only [vop, hx, hy]; exact h3 hn _ _ (S _ _ _)
  ·exact hk.elim
 ·rename_i op x ho
  split at hk
  ·rename_i a hx
   unfold aUn at hk
   split at hk
   ·have := fin (lv := _) ho fun L2 h2 => by simp only [vop, hx, aUn]; exact S _ _ _
    exact ⟨_, hk, this _ _, fun _ => this⟩
   ·have := fin (lv := _) ho fun L2 h2 => by simp only [vop, hx, aUn]; exact S _ _ _
    exact ⟨_, hk, this _ _, fun _ => this⟩
   ·have := fin (lv := _) ho fun L2 h2 => by simp only [vop, hx, aUn]; exact S _ _ _
    exact ⟨_, hk, this _ _, fun _ => this⟩
   ·exact hk.elim
  ·exact hk.elim
 ·rename_i src dst x ho
  split at hk
  ·rename_i sd k k' n hs hd hx
   have := fin (lv := _) ho fun L2 h2 => by simp only [vop, hs, hd, hx]; exact S _ _ _
   exact ⟨_, hk, this _ _, fun _ => this⟩
  ·rename_i s hs hd hx
   have := fin (lv := _) ho fun L2 h2 => by simp only [vop, hs, hd, hx]; exact S _ _ _
   exact ⟨_, hk, this _ _, fun _ => this⟩
  ·rename_i e s hs hd hx
   obtain ⟨he, l, hl, hk⟩ := need_elim hk
   refine ⟨_, hk, ?_, fun h1 => by simp [cls, ho, hd] at h1⟩
   unfold vop
   rw [ho]
   simp only [hs, hd, hx]
   exact need_mk he ⟨l, hl, S _ _ _⟩
  ·rename_i e s hs hd hx
   simp [cls, ho, hd] at hc
  ·exact hk.elim
 ·rename_i s x f ho
  split at hk
  ·exact hk.elim
  ·rename_i off ft hf
   obtain ⟨h1, hk⟩ := need_elim hk
   split at hk
   ·rename_i k i hx
    have := fin (lv := _) ho fun L2 h2 => by simp only [vop, hf, hx]; exact need_mk h1 (S _ _ _)
    exact ⟨_, hk, this _ _, fun _ => this⟩
   ·rename_i q hx
    cases q with
    | none => exact hk.elim
    | some p =>
     have := fin (lv := _) ho fun L2 h2 => by simp only [vop, hf, hx, vPtr]; exact need_mk h1 (S _ _ _)
     exact ⟨_, hk, this _ _, fun _ => this⟩
   ·exact hk.elim
 ·rename_i s x f ho
  split at hk
  ·rename_i off ft cs hf hx
   split at hk
   ·rename_i z hz
    obtain ⟨h1, hk⟩ := need_elim hk
    obtain ⟨v, h3, h4⟩ := part_same hk
    have := fin (lv := _) ho fun L2 h2 => by simp only [vop, hf, hx, hz]; exact need_mk h1 (h4 (fun v' => Same (.val v) L2 h2 (.val v') L2 h2) (S _ _ _))
    exact ⟨_, h3, this _ _, fun _ => this⟩
   ·exact hk.elim
  ·exact hk.elim
 ·rename_i t x ix ho
  split at hk
  ·rename_i i e s hi hu hx
   obtain ⟨h1, hk⟩ := need_elim hk
   cases s with
   | none => exact hk.elim
   | some s =>
    obtain ⟨g1, g2, hk⟩ := hk
    have := fin (lv := _) ho fun L2 h2 => by simp only [vop, hi, hu, hx]; exact need_mk h1 ⟨g1, g2, S _ _ _⟩
    exact ⟨_, hk, this _ _, fun _ => this⟩
  ·rename_i i n e q hi hu hx
   cases q with
   | none => exact hk.elim
   | some p =>
    simp only [vPtr] at hk
    obtain ⟨h1, hk⟩ := need_elim hk
    have := fin (lv := _) ho fun L2 h2 => by simp only [vop, hi, hu, hx, vPtr]; exact need_mk h1 (S _ _ _)
    exact ⟨_, hk, this _ _, fun _ => this⟩
  ·rename_i i n e k j hi hu hx
   obtain ⟨h1, hk⟩ := need_elim hk
   have := fin (lv := _) ho fun L2 h2 => by simp only [vop, hi, hu, hx]; exact need_mk h1 (S _ _ _)
   exact ⟨_, hk, this _ _, fun _ => this⟩
  ·rename_i i n e g hi hu hx
   obtain ⟨h1, a, j, ha, hk⟩ := need_elim hk
   refine ⟨_, hk, ?_, fun h1 => by simp [cls, ho] at h1⟩
   unfold vop
   rw [ho]
   simp only [hi, hu, hx]
   exact need_mk h1 ⟨a, j, ha, S _ _ _⟩
  ·exact hk.elim
 ·rename_i t x ix ho
  split at hk
  ·rename_i i s hi hu hx
   obtain ⟨g1, hk⟩ := hk
   split at hk
   ·rename_i b hb
    have := fin (lv := _) ho fun L2 h2 => by simp only [vop, hi, hu, hx, strIdx, hb]; exact ⟨g1, S _ _ _⟩
    exact ⟨_, hk, this _ _, fun _ => this⟩
   ·exact hk.elim
  ·exact hk.elim
 ·rename_i t ps ho
  split at hk
  ·rename_i zs fs parts hz hu hp
   obtain ⟨h1, hk⟩ := need_elim hk
   split at hk
   ·rename_i cells hf
    have := fin (lv := _) ho fun L2 h2 => by simp only [vop, hz, hu, hp, hf]; exact need_mk h1 (S _ _ _)
    exact ⟨_, hk, this _ _, fun _ => this⟩
   ·exact hk.elim
  ·rename_i zs n e parts hz hu hp
   obtain ⟨h1, hk⟩ := need_elim hk
   split at hk
   ·rename_i cells hf
    have := fin (lv := _) ho fun L2 h2 => by simp only [vop, hz, hu, hp, hf]; exact need_mk h1 (S _ _ _)
    exact ⟨_, hk, this _ _, fun _ => this⟩
   ·exact hk.elim
  ·exact hk.elim
 ·rename_i t n ps ho; simp [cls, ho] at hc
 ·rename_i t x lo hi mx ho
  split at hk
  ·rename_i e s l hh m hu hx hl hhh hm
   obtain ⟨h1, hk⟩ := need_elim hk
   cases s with
   | none =>
    obtain ⟨g1, g2, g3, hk⟩ := hk
    have := fin (lv := _) ho fun L2 h2 => by simp only [vop, hu, hx, hl, hhh, hm]; exact need_mk h1 ⟨g1, g2, g3, S _ _ _⟩
    exact ⟨_, hk, this _ _, fun _ => this⟩
   | some s =>
    obtain ⟨g0, g1, g2, g3, g4, hk⟩ := hk
    have := fin (lv := _) ho fun L2 h2 => by simp only [vop, hu, hx, hl, hhh, hm]; exact need_mk h1 ⟨g0, g1, g2, g3, g4, S _ _ _⟩
    exact ⟨_, hk, this _ _, fun _ => this⟩
  ·rename_i s l hh hu hx hl hhh hm
   obtain ⟨g1, g2, g3, hk⟩ := hk
   have := fin (lv := _) ho fun L2 h2 => by simp only [vop, hu, hx, hl, hhh, hm]; exact ⟨g1, g2, g3, S _ _ _⟩
   exact ⟨_, hk, this _ _, fun _ => this⟩
  ·rename_i n e q l hh m hu hx hl hhh hm
   cases q with
   | none => exact hk.elim
   | some p =>
    simp only [vPtr] at hk
    obtain ⟨h1, g0, g1, g2, g3, g4, hk⟩ := need_elim hk
    have := fin (lv := _) ho fun L2 h2 => by simp only [vop, hu, hx, hl, hhh, hm, vPtr]; exact need_mk h1 ⟨g0, g1, g2, g3, g4, S _ _ _⟩
    exact ⟨_, hk, this _ _, fun _ => this⟩
  ·exact hk.elim
 ·rename_i t l c ho; simp [cls, ho] at hc
 ·rename_i t x ho
  split at hk
  ·rename_i n e s0 hu hx
   unfold vSl at hk
   split at hk
   rotate_left
   ·exact hk.elim
   rename_i s
   obtain ⟨h1, hk⟩ := need_elim hk
   have := fin (lv := _) ho fun L2 h2 => by simp only [vop, hu, hx, vSl]; exact need_mk h1 (S _ _ _)
   exact ⟨_, hk, this _ _, fun _ => this⟩
  ·exact hk.elim
 ·rename_i t r ho; simp [cls, ho] at hc
 ·rename_i t x ix ok ho
  split at hk
  ·rename_i kt et m k z hu hx hix hz
   obtain ⟨v, h1, h2⟩ := lookup_same hk
   refine ⟨.val v, exV_at (K := fun u => K (.val u) L h) h1, ?_, fun h1 => by simp [cls, ho] at h1⟩
   unfold vop
   rw [ho]
   simp only [hu, hx, hix, hz]
   refine h2 _ (exV_mono (fun u hu => ?_) h1)
   obtain ⟨rfl, hu⟩ := hu
   exact ⟨rfl, S _ _ _⟩
  ·exact hk.elim
 ·rename_i t m k x ho; simp [cls, ho] at hc
 ·rename_i t m k x ho; simp [cls, ho] at hc
 ·rename_i t x ho; simp [cls, ho] at hc
 ·rename_i x isS ho; simp [cls, ho] at hc
 ·rename_i x ho; simp [cls, ho] at hc
 ·rename_i x i ho
  split at hk
  ·rename_i vs hx
   split at hk
   ·rename_i v hv
    have := fin (lv := _) ho fun L2 h2 => by simp only [vop, hx, hv]; exact S _ _ _
    exact ⟨_, hk, this _ _, fun _ => this⟩
   ·exact hk.elim
  ·exact hk.elim
 ·rename_i fn f c ho
  split at hk
  ·exact hk.elim
  rename_i hyf
  split at hk
  ·rename_i a b ha hb
   have := fin (lv := _) ho fun L2 h2 => by simp only [vop, hyf, ha, hb]; exact S _ _ _
   exact ⟨_, hk, this _ _, fun _ => this⟩
  ·exact hk.elim
 ·rename_i t x ho
  split at hk
  ·exact hk.elim
  ·rename_i d v hne hu hx
   have := fin (lv := LV.val (.iface t v)) ho fun L2 h2 => by
    simp only [vop, hu, hx]
    exact S _ _ _
   exact ⟨_, hk, this _ _, fun _ => this⟩
  ·exact hk.elim
 ·rename_i c ho
  split at hk
  ·exact hk.elim
  ·rename_i args ha
   split at hk
   ·rename_i f hcal; simp [cls, ho, hcal] at hc
   ·rename_i r name hcal; simp [cls, ho, hcal] at hc
   ·rename_i b hcal
    have b2 : ∀ {lv : LV}, vBuiltin P b c.argTypes.toList args L h (Same lv L h) → vop P isLoc call o ρ L h (Same lv L h) := fun hh => by unfold vop; rw [ho]; simp only [ha, hcal]; exact hh
    have hcl : b = .len → ∀ t kt et, c.argTypes.toList = [t] → P.underlying t = some (.map kt et) → cls P o = 1 → False := by
     intro hb t kt et h1 h2 h3
     subst hb
     simp [cls, ho, hcal, h1, h2] at h3
    have bf : ∀ {lv : LV}, (∀ L2 h2, vBuiltin P b c.argTypes.toList args L2 h2 (Same lv L2 h2)) → ∀ L2 h2, vop P isLoc call o ρ L2 h2 (Same lv L2 h2) := fun hh => fin ho fun L2 h2 => by simp only [vop, ha, hcal]; exact hh L2 h2
    generalize hat : c.argTypes.toList = at' at hk bf b2 hcl
    have hb : b = .len ∨ b = .min ∨ b = .max := by
     cases b <;> simp [cls, ho, hcal] at hc <;> simp
    rcases hb with rfl | rfl | rfl
    ·unfold vBuiltin at hk
     split at hk
     ·split at hk
      ·rename_i t s e hu
       have := bf (lv := _) fun L2 h2 => by simp only [vBuiltin, hu]; exact S _ _ _
       exact ⟨_, hk, this _ _, fun _ => this⟩
      ·exact hk.elim
     ·split at hk
      ·rename_i t s hu
       have := bf (lv := _) fun L2 h2 => by simp only [vBuiltin, hu]; exact S _ _ _
       exact ⟨_, hk, this _ _, fun _ => this⟩
      ·exact hk.elim
     ·split at hk
      ·rename_i t m kt et hu
       unfold vLenM at hk
       split at hk
       ·rename_i es hes
        have := b2 (lv := _) (by simp only [vBuiltin, hu, vLenM, hes]; exact S _ _ _)
        exact ⟨_, hk, this, fun h1 => (hcl rfl _ _ _ rfl hu h1).elim⟩
       ·exact hk.elim
      ·exact hk.elim
     all_goals first | exact hk.elim | contradiction
    ·simp only [vBuiltin] at hk
     unfold minL at hk
     split at hk
     ·have := bf (lv := _) fun L2 h2 => by simp only [vBuiltin, minL]; exact S _ _ _
      exact ⟨_, hk, this _ _, fun _ => this⟩
     ·obtain ⟨h1, hk⟩ := need_elim hk
      have := bf (lv := _) fun L2 h2 => by simp only [vBuiltin, minL]; exact need_mk h1 (S _ _ _)
      exact ⟨_, hk, this _ _, fun _ => this⟩
     ·exact hk.elim
    ·simp only [vBuiltin] at hk
     unfold maxL at hk
     split at hk
     ·have := bf (lv := _) fun L2 h2 => by simp only [vBuiltin, maxL]; exact S _ _ _
      exact ⟨_, hk, this _ _, fun _ => this⟩
     ·obtain ⟨h1, hk⟩ := need_elim hk
      have := bf (lv := _) fun L2 h2 => by simp only [vBuiltin, maxL]; exact need_mk h1 (S _ _ _)
      exact ⟨_, hk, this _ _, fun _ => this⟩
     ·exact hk.elim
 ·exact hk.elim
end
section
variable {P : Program} {isLoc : Nat → Bool} {call : CallH} {L : Locs} {h : Heap} {ρ ρ' : List LV}
theorem vals_congr : ∀ {l : List Operand}, (∀ x ∈ l, ev ρ x = ev ρ' x) → vals ρ l = vals ρ' l
 | [], _ => rfl
 | x :: l, hx => by
  simp only [vals]
  rw [hx x (by simp), vals_congr (l := l) fun y hy => hx y (by simp [hy])]
theorem partsA_congr {ps : Array (Nat × Operand)} (hx : ∀ x ∈ (ps.toList.map (·.2)), ev ρ x = ev ρ' x) : partsA ρ ps = partsA ρ' ps := by
 unfold partsA
 rw [vals_congr hx]
theorem evI_congr {x : Operand} (hx : ev ρ x = ev ρ' x) : evI ρ x = evI ρ' x := by unfold evI; rw [hx]
theorem optI_congr {x : Option Operand} (hx : ∀ y, x = some y → ev ρ y = ev ρ' y) : optI ρ x = optI ρ' x := by
 cases x with
 | none => rfl
 | some y => simp only [optI]; rw [evI_congr (hx y rfl)]
theorem vop_congr {o : Oper} {K : KO} (hx : ∀ x ∈ o.op.operands.toList, ev ρ x = ev ρ' x) : vop P isLoc call o ρ L h K = vop P isLoc call o ρ' L h K := by
 obtain ⟨dst, op, type, pos, after, guard⟩ := o
 cases op <;> simp only [Op.operands, Call.operands] at hx <;> simp only [vop]
 case move x => rw [hx x (by simp)]
 case assign x => rw [hx x (by simp)]
 case pick c a b => rw [hx c (by simp), hx a (by simp), hx b (by simp)]
 case box t x => rw [hx x (by simp)]
 case load t x => rw [hx x (by simp)]
 case store t a x => rw [hx a (by simp), hx x (by simp)]
 case nilCheck x => rw [hx x (by simp)]
 case binOp op t x y yt => rw [hx x (by simp), hx y (by simp)]
 case unOp op t x => rw [hx x (by simp)]
 case convert a b x => rw [hx x (by simp)]
 case fieldAddr s x f => rw [hx x (by simp)]
 case field s x f => rw [hx x (by simp)]
 case indexAddr t x ix => rw [hx x (by simp), evI_congr (hx ix (by simp))]
 case index t x ix => rw [hx x (by simp), evI_congr (hx ix (by simp))]
 case build t ps => rw [partsA_congr (by simpa using hx)]
 case buildSlice t n ps => rw [partsA_congr (by simpa using hx)]
 case slice t x lo hi mx =>
  rw [hx x (by simp), optI_congr (x := lo) (fun y hy => hx y (by simp [hy])), optI_congr (x := hi) (fun y hy => hx y (by simp [hy])), optI_congr (x := mx) (fun y hy => hx y (by simp [hy]))]
 case makeSlice t l c => rw [evI_congr (hx l (by simp)), evI_congr (hx c (by simp))]
 case sliceToArrayPointer t x => rw [hx x (by simp)]
 case lookup t x ix ok => rw [hx x (by simp), hx ix (by simp)]
 case mapUpdate t m k x => rw [hx m (by simp), hx k (by simp), hx x (by simp)]
 case insert t m k x => rw [hx m (by simp), hx k (by simp), hx x (by simp)]
 case range t x => rw [hx x (by simp)]
 case next x b => rw [hx x (by simp)]
 case entry x => rw [hx x (by simp)]
 case extract x i => rw [hx x (by simp)]
 case makeFunc fn f c => rw [vals_congr (l := f.toList) (fun y hy => hx y (by simp at hy ⊢; exact .inl hy)), vals_congr (l := c.toList) (fun y hy => hx y (by simp at hy ⊢; exact .inr hy))]
 case makeInterface t x => rw [hx x (by simp)]
 case call c =>
  rw [vals_congr (l := c.args.toList) (fun y hy => hx y (by simp at hy ⊢; exact .inr hy))]
  cases hc : c.callee with
  | value f => simp only [hc] at hx ⊢; rw [hx f (by simp)]
  | invoke r m => simp only [hc] at hx ⊢; rw [hx r (by simp)]
  | builtin b => rfl
end
def bindsOf (o : Oper) : List Nat := (o.after.toList.filter (Region.binds .any)).map (·.on)
inductive Bf (ops : Array Oper) : Nat → Nat → Prop
 | edge {i j : Nat} {o : Oper} : ops[i]? = some o → j ∈ bindsOf o → Bf ops i j
 | via {i e j : Nat} {o : Oper} : ops[i]? = some o → e ∈ bindsOf o → Bf ops e j → Bf ops i j
def forceN {α : Type} (n : Nat) (k : Nat → α) : α := match n with | 0 => k 0 | m + 1 => k (m + 1)
theorem forceN_eq {α : Type} (n : Nat) (k : Nat → α) : forceN n k = k n := by cases n <;> rfl
def rowAt (rows : List Nat) (n i : Nat) : Nat := if i < n then rows.getD (n - 1 - i) 0 else 0
def rowOf (rows : List Nat) (n : Nat) : List Nat → Nat
 | [] => 0
 | e :: es => (2 ^ e ||| rowAt rows n e) ||| rowOf rows n es
def bfRows {α : Type} : List Oper → Nat → List Nat → (List Nat → Nat → α) → α
 | [], n, rows, k => k rows n
 | o :: os, n, rows, k => forceN (rowOf rows n (bindsOf o)) fun v => bfRows os (n + 1) (v :: rows) k
def bfBit (rows : List Nat) (n i j : Nat) : Bool := (rowAt rows n i).testBit j
theorem rowOf_bit {rows : List Nat} {n : Nat} : ∀ {l : List Nat} {j : Nat}, (rowOf rows n l).testBit j = true → ∃ e ∈ l, e = j ∨ (rowAt rows n e).testBit j = true
 | [], j, h => by simp [rowOf] at h
 | e :: es, j, h => by
  simp only [rowOf, Nat.testBit_or, Bool.or_eq_true, Nat.testBit_two_pow, decide_eq_true_eq] at h
  rcases h with (h | h) | h
  ·exact ⟨e, by simp, .inl h⟩
  ·exact ⟨e, by simp, .inr h⟩
  ·obtain ⟨e', h1, h2⟩ := rowOf_bit h; exact ⟨e', by simp [h1], h2⟩
theorem bfRows_ok {ops : Array Oper} {α : Type} {k : List Nat → Nat → α} : ∀ (os : List Oper) (n : Nat) (rows : List Nat), rows.length = n → ops.toList.drop n = os → (∀ i j, bfBit rows n i j = true → Bf ops i j) →
  ∃ rows' n', bfRows os n rows k = k rows' n' ∧ ∀ i j, bfBit rows' n' i j = true → Bf ops i j
 | [], n, rows, _, _, h => ⟨rows, n, rfl, h⟩
 | o :: os, n, rows, hl, hd, h => by
  simp only [bfRows, forceN_eq]
  have ho : ops[n]? = some o := by
   have : (ops.toList.drop n)[0]? = some o := by rw [hd]; rfl
   simpa using this
  refine bfRows_ok os (n + 1) _ (by simp [hl]) (by rw [← List.drop_drop, hd]; rfl) fun i j hb => ?_
  unfold bfBit rowAt at hb
  split at hb
  ·rename_i hi
   by_cases hin : i = n
   ·subst hin
    simp only [Nat.add_sub_cancel, Nat.sub_self, List.getD_cons_zero] at hb
    obtain ⟨e, he, h2⟩ := rowOf_bit hb
    rcases h2 with rfl | h2
    ·exact .edge ho he
    ·exact .via ho he (h e j h2)
   ·have : n + 1 - 1 - i = (n - 1 - i) + 1 := by omega
    rw [this, List.getD_cons_succ] at hb
    refine h i j ?_
    unfold bfBit rowAt
    rw [if_pos (by omega)]
    exact hb
  ·simp at hb
def okDraw (P : Program) (ops : Array Oper) (rows : List Nat) (m : Nat) : Bool :=
 let n := ops.size
 Region.noSelect ops && P.follows .mixedOrders &&
 (List.range n).all fun i => match ops[i]? with
  | none => false
  | some o =>
   (bindsOf o).all (fun e => decide (e < i)) &&
   (match o.dst with | some d => cls P o == 0 || !(o.looksAt ops).contains d | none => true) &&
   (List.range n).all fun j => i == j || match ops[j]? with
    | none => false
    | some o' => match o'.dst with
     | none => true
     | some d => !(o.dst == some d) && (!(o.looksAt ops).contains d || (bfBit rows m i j || (bfBit rows m j i && (cls P o == 0 || cls P o' == 0))))
def readyRO (P : Program) (ops : Array Oper) (listed : List Nat) : Option Nat :=
 (List.range ops.size).find? fun i => !listed.contains i && match ops[i]? with | some o => cls P o != 0 && (bindsOf o).all listed.contains | none => false
def readyE (ops : Array Oper) (listed : List Nat) : List Nat :=
 (List.range ops.size).filter fun i => !listed.contains i && match ops[i]? with | some o => (bindsOf o).all listed.contains | none => false
def vall : List Nat → (Nat → Prop) → Prop
 | [], _ => True
 | [j], f => f j
 | j :: js, f => f j ∧ vall js f
theorem vall_mem {f : Nat → Prop} : ∀ {l : List Nat}, vall l f → ∀ j ∈ l, f j
 | [], _, j, hj => by simp at hj
 | [k], h, j, hj => by simp at hj; subst hj; exact h
 | k :: k' :: l, h, j, hj => by
  simp only [vall] at h
  rcases List.mem_cons.1 hj with rfl | hj
  ·exact h.1
  ·exact vall_mem h.2 j hj
def vg (P : Program) (isLoc : Nat → Bool) (call : CallH) (ops : Array Oper) (o : Oper) (ρ : List LV) (L : Locs) (h : Heap) (K : KO) : Prop :=
 match actsAt ops o ρ with
 | none => False
 | some b => vif b (vop P isLoc call o ρ L h K) (K .und L h)
def rechk1 (P : Program) (isLoc : Nat → Bool) (call : CallH) (ops : Array Oper) (i : Nat) (st : St) : Prop :=
 match ops[i]? with
 | some o => vg P isLoc call ops o st.ρ st.L st.h fun lv _ _ => match o.dst with | some d => lv = st.ρ.getD d .top | none => True
 | none => False
def rechks (P : Program) (isLoc : Nat → Bool) (call : CallH) (ops : Array Oper) (st : St) (A : Prop) : List Nat → Prop
 | [] => A
 | i :: is => rechk1 P isLoc call ops i st ∧ rechks P isLoc call ops st A is
theorem rechks_elim {P : Program} {isLoc : Nat → Bool} {call : CallH} {ops : Array Oper} {st : St} {A : Prop} : ∀ {l : List Nat}, rechks P isLoc call ops st A l → A ∧ ∀ i ∈ l, rechk1 P isLoc call ops i st
 | [], h => ⟨h, by simp⟩
 | i :: is, ⟨h1, h2⟩ => ⟨(rechks_elim h2).1, by intro j hj; simp at hj; rcases hj with rfl | hj; exact h1; exact (rechks_elim h2).2 j hj⟩
def toCheck (P : Program) (ops : Array Oper) (rows : List Nat) (m : Nat) (listed : List Nat) (j : Nat) : List Nat :=
 listed.filter fun i => match ops[i]? with | some o => cls P o == 2 && !bfBit rows m j i | none => false
def vany (P : Program) (isLoc : Nat → Bool) (call : CallH) (ops : Array Oper) (rows : List Nat) (m : Nat) : Nat → List Nat → St → (St → Prop) → Prop
 | 0, _, _, _ => False
 | n + 1, listed, st, K =>
  match readyRO P ops listed with
  | some i => match ops[i]? with
   | some o => vguarded P isLoc call ops o st fun st' => vany P isLoc call ops rows m n (i :: listed) st' K
   | none => False
  | none => match readyE ops listed with
   | [] => need ((List.range ops.size).all listed.contains) (K st)
   | j :: js => vall (j :: js) fun j => match ops[j]? with
    | some o => vguarded P isLoc call ops o st fun st' => rechks P isLoc call ops st' (vany P isLoc call ops rows m n (j :: listed) st' K) (toCheck P ops rows m listed j)
    | none => False
def vdraw (P : Program) (isLoc : Nat → Bool) (call : CallH) : DrawH := fun _ ops st K =>
 bfRows ops.toList 0 [] fun rows m => need (okDraw P ops rows m) (vany P isLoc call ops rows m (ops.size + 1) [] st K)
section
variable {P : Program} {isLoc : Nat → Bool} {call : CallH} {ops : Array Oper}
structure OkD (P : Program) (ops : Array Oper) : Prop where
 nosel : Region.noSelect ops = true
 mixed : P.follows .mixedOrders = true
 lt : ∀ (i : Nat) (o : Oper), ops[i]? = some o → ∀ e ∈ bindsOf o, e < i
 self : ∀ (i : Nat) (o : Oper) (d : Nat), ops[i]? = some o → o.dst = some d → cls P o ≠ 0 → d ∉ o.looksAt ops
 dst : ∀ (i j : Nat) (o o' : Oper) (d : Nat), ops[i]? = some o → ops[j]? = some o' → i ≠ j → o'.dst = some d → o.dst ≠ some d
 look : ∀ (i j : Nat) (o o' : Oper) (d : Nat), ops[i]? = some o → ops[j]? = some o' → i ≠ j → o'.dst = some d → d ∈ o.looksAt ops →
  Bf ops i j ∨ (Bf ops j i ∧ (cls P o = 0 ∨ cls P o' = 0))
theorem okD_of {rows : List Nat} {m : Nat} (hb : ∀ i j, bfBit rows m i j = true → Bf ops i j) (h : okDraw P ops rows m = true) : OkD P ops := by
 simp only [okDraw, Bool.and_eq_true, List.all_eq_true, List.mem_range] at h
 obtain ⟨⟨h1, h2⟩, h3⟩ := h
 have at' : ∀ (i : Nat) (o : Oper), ops[i]? = some o → _ := fun i o ho => h3 i (Array.getElem?_eq_some_iff.1 ho).1
 refine ⟨h1, h2, ?_, ?_, ?_, ?_⟩
 ·intro i o ho e he
  have := at' i o ho
  rw [ho] at this
  simp only [Bool.and_eq_true, List.all_eq_true] at this
  simpa using this.1.1 e he
 ·intro i o d ho hd hc
  have := at' i o ho
  rw [ho] at this
  simp only [Bool.and_eq_true, List.all_eq_true, hd] at this
  have := this.1.2
  simp [hc] at this
  exact this
 ·intro i j o o' d ho ho' hne hd
  have := at' i o ho
  rw [ho] at this
  simp only [Bool.and_eq_true, List.all_eq_true] at this
  have := this.2 j (by simpa using (Array.getElem?_eq_some_iff.1 ho').1)
  simp only [ho', hd, Bool.or_eq_true, Bool.and_eq_true, beq_iff_eq, hne, false_or] at this
  have := this.1
  simpa using this
 ·intro i j o o' d ho ho' hne hd hl
  have := at' i o ho
  rw [ho] at this
  simp only [Bool.and_eq_true, List.all_eq_true] at this
  have := this.2 j (by simpa using (Array.getElem?_eq_some_iff.1 ho').1)
  simp only [ho', hd, Bool.or_eq_true, Bool.and_eq_true, beq_iff_eq, hne, false_or] at this
  have := this.2
  simp only [Bool.not_eq_true', List.contains_eq_mem, decide_eq_false_iff_not, hl, not_true_eq_false, false_or] at this
  rcases this with h | ⟨h, h'⟩
  ·exact .inl (hb _ _ h)
  ·exact .inr ⟨hb _ _ h, h'⟩
theorem Bf.closed {S : Nat → Prop} (hS : ∀ (i : Nat) (o : Oper), ops[i]? = some o → S i → ∀ e ∈ bindsOf o, S e) {i j : Nat} (h : Bf ops i j) : (∀ o, ops[i]? = some o → ∀ e ∈ bindsOf o, S e) → S j := by
 induction h with
 | edge ho he => intro h; exact h _ ho _ he
 | via ho he _ ih =>
  intro h
  exact ih fun o' ho' e' he' => hS _ _ ho' (h _ ho _ he) _ he'
theorem vg_of {o : Oper} {st : St} {K : St → Prop} (hk : vguarded P isLoc call ops o st K) : vg P isLoc call ops o st.ρ st.L st.h fun v L h => K (st.put o.dst v L h) := by
 unfold vg
 rcases vguarded_elim hk with ⟨hg, hk⟩ | ⟨hg, hk⟩ <;> simp only [hg, vif] <;> exact hk
theorem vg_congr {o : Oper} {ρ ρ' : List LV} {L : Locs} {h : Heap} {K : KO} (hx : ∀ d ∈ o.looksAt ops, ρ[d]? = ρ'[d]?) : vg P isLoc call ops o ρ L h K = vg P isLoc call ops o ρ' L h K := by
 have h1 : ∀ x ∈ o.op.operands.toList, ev ρ x = ev ρ' x := by
  intro x hm
  cases x with
  | tmp t =>
   have := hx t (by unfold Oper.looksAt; exact List.mem_append_left _ (List.mem_filterMap.2 ⟨.tmp t, hm, rfl⟩))
   simp only [ev, List.getD, this]
  | _ => rfl
 have hv : ∀ K, vop P isLoc call o ρ L h K = vop P isLoc call o ρ' L h K := fun K => vop_congr h1
 have ha : actsAt ops o ρ = actsAt ops o ρ' := by
  unfold actsAt
  cases hg : o.guard with
  | none => rfl
  | some gw =>
   obtain ⟨g, want⟩ := gw
   have hgv : guardVal ops ρ g = guardVal ops ρ' g := by
    unfold guardVal
    cases ht : (ops[g]?).bind (·.dst) with
    | none => rfl
    | some t => simp only [hx t (by simp [Oper.looksAt, hg, ht])]
   have hgo : guardOff ops ρ g = guardOff ops ρ' g := by
    unfold guardOff
    cases ht : (ops[g]?).bind (·.dst) with
    | none => rfl
    | some t => simp only [hx t (by simp [Oper.looksAt, hg, ht])]
   simp only [hgv, hgo]
 unfold vg
 simp only [ha, hv]
theorem vg_same {o : Oper} {ρ : List LV} {L : Locs} {h : Heap} {K : KO} (hc : cls P o ≠ 0) (hk : vg P isLoc call ops o ρ L h K) :
  ∃ lv, K lv L h ∧ vg P isLoc call ops o ρ L h (Same lv L h) ∧ (cls P o = 1 → ∀ L2 h2, vg P isLoc call ops o ρ L2 h2 (Same lv L2 h2)) := by
 have S : ∀ (lv : LV) L2 h2, Same lv L2 h2 lv L2 h2 := fun lv L2 h2 => ⟨rfl, rfl, rfl⟩
 unfold vg at hk ⊢
 cases ha : actsAt ops o ρ with
 | none => simp only [ha] at hk
 | some b =>
  simp only [ha] at hk ⊢
  cases b <;> simp only [vif] at hk ⊢
  ·exact ⟨.und, hk, S _ _ _, fun _ => S _⟩
  ·exact vop_same hc hk
end
section
variable {P : Program} {μ0 : Ren} {h0 : Heap} {w0 : World} {isLoc : Nat → Bool} {ops : Array Oper}
theorem vg_wp {i : Nat} {o : Oper} {ρ : List LV} {L : Locs} {h : Heap} {K : KO} {μ : Ren} {lam : List Nat} {a : Act} {w : World} {next : Act → World → Prop} {Q : Exit → Act → World → Prop} (ho : ops[i]? = some o)
  (R : Rel μ0 h0 w0 μ lam L h w) (E : EnvRel μ lam ρ a.tmps) (hk : vg P isLoc (AC P) ops o ρ L h K) (hn : NextOK μ0 h0 w0 μ lam K o.dst a next) : wpOp P ops Q i next a w := by
 unfold wpOp
 simp only [ho]
 unfold vg at hk
 split at hk
 ·exact hk.elim
 ·rename_i b hb
  rcases vif_elim hk with ⟨rfl, hk⟩ | ⟨rfl, hk⟩
  ·rw [if_pos (wanted_of E hb)]
   exact .inl (vop_wp R E hk hn)
  ·rw [if_neg (by rw [wanted_of E hb]; simp)]
   exact hn .und L h μ lam undef w hk R (.refl _) (lamLe.refl _) und_rel
end
section
variable {P : Program} {μ0 : Ren} {h0 : Heap} {w0 : World} {isLoc : Nat → Bool} {ops : Array Oper}
def Lr (lR : Array Bool) (i : Nat) : Prop := lR.getD i false = true
def Own (P : Program) (isLoc : Nat → Bool) (ops : Array Oper) (i : Nat) (st : St) : Prop :=
 ∃ o, ops[i]? = some o ∧ cls P o ≠ 0 ∧ ∃ lv, vg P isLoc (AC P) ops o st.ρ st.L st.h (Same lv st.L st.h) ∧ ∀ d, o.dst = some d → st.ρ.set d lv = st.ρ
structure DInv (P : Program) (μ0 : Ren) (h0 : Heap) (w0 : World) (isLoc : Nat → Bool) (ops : Array Oper) (ws : List Nat) (μ : Ren) (lam : List Nat) (a : Act)
  (lA : List Nat) (st : St) (lR : Array Bool) (ρR : List LV) (a' : Act) (w' : World) (μ' : Ren) (lam' : List Nat) : Prop where
 size : lR.size = ops.size
 sub : ∀ i, Lr lR i → i ∈ lA
 clA : ∀ (i : Nat) (o : Oper), ops[i]? = some o → i ∈ lA → ∀ e ∈ bindsOf o, e ∈ lA
 clR : ∀ (i : Nat) (o : Oper), ops[i]? = some o → Lr lR i → ∀ e ∈ bindsOf o, Lr lR e
 owed : ∀ i, i ∈ lA → ¬ Lr lR i → Own P isLoc ops i st
 len : ρR.length = st.ρ.length
 view : ∀ t, (∃ i o, i ∈ lA ∧ ¬ Lr lR i ∧ ops[i]? = some o ∧ o.dst = some t) ∨ ρR[t]? = st.ρ[t]?
 post : Post μ0 h0 w0 μ lam a ws ⟨ρR, st.L, st.h⟩ a' w' μ' lam'
theorem readyRO_some {listed : List Nat} {i : Nat} (h : readyRO P ops listed = some i) : i ∉ listed ∧ ∃ o, ops[i]? = some o ∧ cls P o ≠ 0 ∧ ∀ e ∈ bindsOf o, e ∈ listed := by
 have := List.find?_some h
 simp only [Bool.and_eq_true, Bool.not_eq_true', List.contains_eq_mem, decide_eq_false_iff_not] at this
 obtain ⟨h1, h2⟩ := this
 refine ⟨h1, ?_⟩
 split at h2
 ·rename_i o ho
  simp only [Bool.and_eq_true, bne_iff_ne, List.all_eq_true, decide_eq_true_eq] at h2
  exact ⟨o, ho, h2.1, fun e he => by simpa using h2.2 e he⟩
 ·simp at h2
theorem set_comm {α : Type} (l : List α) {i j : Nat} (a b : α) (h : i ≠ j) : (l.set i a).set j b = (l.set j b).set i a := List.set_comm a b h
theorem Own.put (D : OkD P ops) {i j : Nat} {o : Oper} {st : St} {lv : LV} (hO : Own P isLoc ops j st) (ho : ops[i]? = some o) (hne : i ≠ j) (hl : ∀ d o', o.dst = some d → ops[j]? = some o' → d ∉ o'.looksAt ops) :
  Own P isLoc ops j (st.put o.dst lv st.L st.h) := by
 obtain ⟨o', ho', hc, lv', hv, hs⟩ := hO
 refine ⟨o', ho', hc, lv', ?_, ?_⟩
 ·simp only [St.put]
  rw [vg_congr (ρ' := st.ρ)]
  ·exact hv
  ·intro t ht
   split
   ·rename_i d hd
    rw [List.getElem?_set, if_neg]
    intro h; subst h
    exact hl _ _ hd ho' ht
   ·rfl
 ·intro d' hd'
  simp only [St.put]
  split
  ·rename_i d hd
   have : d ≠ d' := by
    intro h; subst h
    exact D.dst i j o o' _ ho ho' hne hd' hd
   rw [set_comm _ _ _ this, hs d' hd']
  ·exact hs d' hd'
theorem saturate (D : OkD P ops) {rows : List Nat} {m : Nat} {ws : List Nat} {μ : Ren} {lam : List Nat} {a : Act} {lR : Array Bool} {ρR : List LV} {a' : Act} {w' : World} {μ' : Ren} {lam' : List Nat} {K : St → Prop} :
  ∀ (n : Nat) (lA : List Nat) (st : St), vany P isLoc (AC P) ops rows m n lA st K → DInv P μ0 h0 w0 isLoc ops ws μ lam a lA st lR ρR a' w' μ' lam' →
   ∃ n' lA' st', vany P isLoc (AC P) ops rows m (n' + 1) lA' st' K ∧ DInv P μ0 h0 w0 isLoc ops ws μ lam a lA' st' lR ρR a' w' μ' lam' ∧ readyRO P ops lA' = none
 | 0, _, _, h, _ => h.elim
 | n + 1, lA, st, h, I => by
  cases hr : readyRO P ops lA with
  | none => exact ⟨n, lA, st, h, I, hr⟩
  | some i =>
   obtain ⟨hni, o, ho, hc, hb⟩ := readyRO_some hr
   simp only [vany, hr, ho] at h
   obtain ⟨lv, hk, hv, h1⟩ := vg_same hc (vg_of h)
   refine saturate D n _ _ hk ?_
   have hself : ∀ d, o.dst = some d → d ∉ o.looksAt ops := fun d hd => D.self i o d ho hd hc
   exact {
    size := I.size
    sub := fun k hk => List.mem_cons_of_mem _ (I.sub k hk)
    clA := by
     intro k o' ho' hk' e he
     rcases List.mem_cons.1 hk' with rfl | hk'
     ·rw [ho] at ho'; cases ho'
      exact List.mem_cons_of_mem _ (hb e he)
     ·exact List.mem_cons_of_mem _ (I.clA k o' ho' hk' e he)
    clR := I.clR
    owed := by
     intro k hk' hn
     by_cases hki : k = i
     ·subst hki
      refine ⟨o, ho, hc, lv, ?_, ?_⟩
      ·simp only [St.put]
       rw [vg_congr (ρ' := st.ρ)]
       ·exact hv
       ·intro t ht
        split
        ·rename_i d hd
         rw [List.getElem?_set, if_neg]
         intro h; subst h
         exact hself _ hd ht
        ·rfl
      ·intro d hd
       simp only [St.put, hd, List.set_set]
     ·have hkA : k ∈ lA := (List.mem_cons.1 hk').resolve_left hki
      have hO := I.owed k hkA hn
      refine hO.put D ho (Ne.symm hki) fun d o' hd ho' hl => ?_
      rcases D.look k i o' o d ho' ho hki hd hl with hbf | ⟨_, hcc⟩
      ·exact hni (hbf.closed (S := (· ∈ lA)) I.clA fun o2 ho2 e he => I.clA k o2 ho2 hkA e he)
      ·obtain ⟨o2, ho2, hc2, _⟩ := hO
       rw [ho'] at ho2; cases ho2
       exact hcc.elim hc2 hc
    len := by
     simp only [St.put]
     split <;> simp [I.len]
    view := by
     intro t
     by_cases ht : o.dst = some t
     ·exact .inl ⟨i, o, by simp, fun hl => hni (I.sub i hl), ho, ht⟩
     ·rcases I.view t with ⟨k, o', h1, h2, h3, h4⟩ | hv
      ·exact .inl ⟨k, o', List.mem_cons_of_mem _ h1, h2, h3, h4⟩
      ·refine .inr ?_
       rw [hv]
       simp only [St.put]
       split
       ·rename_i d hd
        rw [List.getElem?_set, if_neg]
        intro h; subst h; exact ht hd
       ·rfl
    post := by simpa [St.put] using I.post }
def cnt (lR : Array Bool) : Nat := (lR.toList.filter (fun b => !b)).length
theorem cnt_set {lR : Array Bool} {i : Nat} (h : lR.getD i true = false) : cnt (lR.setIfInBounds i true) + 1 = cnt lR := by
 unfold cnt
 have hi : i < lR.size := by
  rcases Nat.lt_or_ge i lR.size with h' | h'
  ·exact h'
  ·simp [Array.getElem?_eq_none h'] at h
 have key : ∀ (l : List Bool) (i : Nat), l[i]? = some false → ((l.set i true).filter (fun b => !b)).length + 1 = (l.filter (fun b => !b)).length := by
  intro l
  induction l with
  | nil => intro i h; simp at h
  | cons x l ih =>
   intro i h
   cases i with
   | zero => simp at h; subst h; simp
   | succ i =>
    simp at h
    have := ih i h
    cases x <;> simp <;> omega
 rw [Array.toList_setIfInBounds]
 refine key _ _ ?_
 simp [hi] at h ⊢
 exact h
theorem lr_set {lR : Array Bool} {i j : Nat} : Lr (lR.setIfInBounds i true) j ↔ (j = i ∧ i < lR.size) ∨ Lr lR j := by
 unfold Lr
 by_cases h : i = j
 ·subst h
  by_cases hlt : i < lR.size
  ·simp [hlt]
  ·simp [hlt]
 ·rw [getD_set_ne false h]
  constructor
  ·exact .inr
  ·rintro (⟨rfl, _⟩ | h'); exact absurd rfl h; exact h'
theorem not_lr {lR : Array Bool} {i : Nat} (h : lR.getD i true = false) : ¬ Lr lR i := by
 unfold Lr
 intro h'
 by_cases hlt : i < lR.size
 ·simp [hlt] at h h'
  rw [h] at h'; cases h'
 ·simp [hlt] at h'
theorem lr_of {lR : Array Bool} {i : Nat} (hlt : i < lR.size) (h : lR.getD i true ≠ false) : Lr lR i := by
 unfold Lr
 simp [hlt] at h ⊢
 exact h
theorem all_listed (D : OkD P ops) {lR : Array Bool} (hs : lR.size = ops.size) (h : Region.ready .any ops lR = []) : ∀ i, i < ops.size → Lr lR i := by
 intro i
 induction i using Nat.strongRecOn with
 | _ i ih =>
  intro hi
  by_cases hl : lR.getD i true = false
  ·have : i ∈ Region.ready .any ops lR := by
    refine mem_ready.2 ⟨hl, ops[i], by simp [hi], fun e he hb => ?_⟩
    have hm : e.on ∈ bindsOf ops[i] := by
     simp only [bindsOf, List.mem_map, List.mem_filter]
     exact ⟨e, ⟨by simpa using he, hb⟩, rfl⟩
    have hlt := D.lt i ops[i] (by simp [hi]) _ hm
    exact ih e.on hlt (by omega)
   rw [h] at this
   simp at this
  ·exact lr_of (by omega) hl
theorem draw_main (D : OkD P ops) {rows : List Nat} {m : Nat} (hrows : ∀ i j, bfBit rows m i j = true → Bf ops i j) {ws : List Nat} (hws : ∀ (i : Nat) (o : Oper) (d : Nat), ops[i]? = some o → o.dst = some d → d ∈ ws)
  {μ : Ren} {lam : List Nat} {a : Act} {K : St → Prop} {Q : Exit → Act → World → Prop}
  (hq : ∀ st' a' w' μ' lam', K st' → Post μ0 h0 w0 μ lam a ws st' a' w' μ' lam' → Q .normal a' w') :
  ∀ (fuel n : Nat) (lA : List Nat) (st : St) (lR : Array Bool) (ρR : List LV) (a' : Act) (w' : World) (μ' : Ren) (lam' : List Nat), cnt lR ≤ fuel → vany P isLoc (AC P) ops rows m n lA st K →
   DInv P μ0 h0 w0 isLoc ops ws μ lam a lA st lR ρR a' w' μ' lam' → wpAny P .any ops Q fuel lR a' w' := by
 have fin : ∀ (n : Nat) (lA : List Nat) (st : St) (lR : Array Bool) (ρR : List LV) (a' : Act) (w' : World) (μ' : Ren) (lam' : List Nat), vany P isLoc (AC P) ops rows m n lA st K →
   DInv P μ0 h0 w0 isLoc ops ws μ lam a lA st lR ρR a' w' μ' lam' → Region.ready .any ops lR = [] → Q .normal a' w' := by
  intro n lA st lR ρR a' w' μ' lam' hv I hr
  obtain ⟨n, lA, st, hv, I, hro⟩ := saturate D n lA st hv I
  have hall := all_listed D I.size hr
  have hE : readyE ops lA = [] := by
   unfold readyE
   rw [List.filter_eq_nil_iff]
   intro i hi
   have : i ∈ lA := I.sub i (hall i (List.mem_range.1 hi))
   simp [this]
  simp only [vany, hro, hE] at hv
  obtain ⟨_, hk⟩ := need_elim hv
  have hρ : ρR = st.ρ := by
   refine List.ext_getElem? fun t => ?_
   rcases I.view t with ⟨i, o, _, h2, h3, _⟩ | h
   ·exact absurd (hall i (Array.getElem?_eq_some_iff.1 h3).1) h2
   ·exact h
  refine hq st a' w' μ' lam' hk ?_
  have := I.post
  rw [hρ] at this
  exact this
 intro fuel
 induction fuel with
 | zero =>
  intro n lA st lR ρR a' w' μ' lam' hc hv I
  have hr : Region.ready .any ops lR = [] := by
   refine List.eq_nil_iff_forall_not_mem.2 fun i hi => ?_
   have := cnt_set (mem_ready.1 hi).1
   omega
  exact ⟨hr, fin _ _ _ _ _ _ _ _ _ hv I hr⟩
 | succ fuel ih =>
  intro n lA st lR ρR a' w' μ' lam' hc hv I
  refine ⟨fin _ _ _ _ _ _ _ _ _ hv I, fun i hi => ?_⟩
  obtain ⟨n, lA, st, hv, I, hro⟩ := saturate D n lA st hv I
  obtain ⟨hun, o, ho, haft⟩ := mem_ready.1 hi
  have hnl := not_lr hun
  have hisz : i < lR.size := by rw [I.size]; exact (Array.getElem?_eq_some_iff.1 ho).1
  have hbR : ∀ e ∈ bindsOf o, Lr lR e := by
   intro e he
   simp only [bindsOf, List.mem_map, List.mem_filter] at he
   obtain ⟨x, ⟨hx, hb⟩, rfl⟩ := he
   exact haft x (by simpa using hx) hb
  have hbfR : ∀ j, Bf ops i j → Lr lR j := fun j hb => hb.closed (S := Lr lR) I.clR fun o2 ho2 e he => by
   rw [ho] at ho2; cases ho2; exact hbR e he
  have hcnt : cnt (lR.setIfInBounds i true) ≤ fuel := by have := cnt_set hun; omega
  have clR' : ∀ (k : Nat) (o' : Oper), ops[k]? = some o' → Lr (lR.setIfInBounds i true) k → ∀ e ∈ bindsOf o', Lr (lR.setIfInBounds i true) e := by
   intro k o' ho' hk e he
   rw [lr_set] at hk ⊢
   rcases hk with ⟨rfl, _⟩ | hk
   ·rw [ho] at ho'; cases ho'; exact .inr (hbR e he)
   ·exact .inr (I.clR k o' ho' hk e he)
  by_cases hiA : i ∈ lA
  ·
   obtain ⟨o2, ho2, hcls, lv, hvg, hset⟩ := I.owed i hiA hnl
   rw [ho] at ho2; cases ho2
   have hcong : ∀ t ∈ o.looksAt ops, ρR[t]? = st.ρ[t]? := by
    intro t ht
    rcases I.view t with ⟨k, o', h1, h2, h3, h4⟩ | h
    ·exfalso
     by_cases hki : k = i
     ·subst hki
      rw [ho] at h3; cases h3
      exact D.self k o t ho h4 hcls ht
     ·rcases D.look i k o o' t ho h3 (Ne.symm hki) h4 ht with hbf | ⟨_, hcc⟩
      ·exact h2 (hbfR k hbf)
      ·obtain ⟨o3, ho3, hc3, _⟩ := I.owed k h1 h2
       rw [h3] at ho3; cases ho3
       exact hcc.elim hcls hc3
    ·exact h
   rw [← vg_congr hcong] at hvg
   refine vg_wp ho I.post.rel I.post.env hvg ?_
   intro lv' L' h' μ2 lam2 v w2 hsame R2 hle hlle hrel
   obtain ⟨rfl, rfl, rfl⟩ := hsame
   have E2 := (I.post.env.mono hle hlle).put (d := o.dst) hrel
   have p1 : Post μ0 h0 w0 μ' lam' a' ws ⟨match o.dst with | some d => ρR.set d lv' | none => ρR, st.L, st.h⟩ (a'.put o.dst v) w2 μ2 lam2 :=
    ⟨R2, E2, hle, hlle, put_defers, put_size, fun t ht => put_keep fun hd => ht (hws i o t ho hd)⟩
   refine ih (n + 1) lA st _ _ _ _ μ2 lam2 hcnt hv {
    size := by simpa using I.size
    sub := by
     intro k hk
     rcases lr_set.1 hk with ⟨rfl, _⟩ | hk
     ·exact hiA
     ·exact I.sub k hk
    clA := I.clA
    clR := clR'
    owed := fun k hk hn => I.owed k hk fun h => hn (lr_set.2 (.inr h))
    len := by split <;> simp [I.len]
    view := by
     intro t
     by_cases ht : o.dst = some t
     ·refine .inr ?_
      rw [ht]
      have := hset t ht
      simp only
      rw [← this, List.getElem?_set, List.getElem?_set]
      simp [I.len]
     ·rcases I.view t with ⟨k, o', h1, h2, h3, h4⟩ | h
      ·refine .inl ⟨k, o', h1, fun hl => ?_, h3, h4⟩
       rcases lr_set.1 hl with ⟨rfl, _⟩ | hl
       ·rw [ho] at h3; cases h3; exact ht h4
       ·exact h2 hl
      ·refine .inr ?_
       rw [← h]
       split
       ·rename_i d hd
        rw [List.getElem?_set, if_neg]
        intro h; subst h; exact ht hd
       ·rfl
    post := I.post.trans p1 (fun _ h => h) (fun _ h => h) }
  ·
   have hiE : i ∈ readyE ops lA := by
    unfold readyE
    simp only [List.mem_filter, List.mem_range, Bool.and_eq_true, Bool.not_eq_true', List.contains_eq_mem, decide_eq_false_iff_not, ho, List.all_eq_true, decide_eq_true_eq]
    exact ⟨by rw [← I.size]; exact hisz, hiA, fun e he => I.sub e (hbR e he)⟩
   simp only [vany, hro] at hv
   have hvi : vg P isLoc (AC P) ops o st.ρ st.L st.h fun v L h => rechks P isLoc (AC P) ops (st.put o.dst v L h) (vany P isLoc (AC P) ops rows m n (i :: lA) (st.put o.dst v L h) K) (toCheck P ops rows m lA i) := by
    cases hE : readyE ops lA with
    | nil => rw [hE] at hiE; simp at hiE
    | cons j js =>
     rw [hE] at hv hiE
     have := vall_mem hv i hiE
     simp only [ho] at this
     exact vg_of this
   have hcong : ∀ t ∈ o.looksAt ops, ρR[t]? = st.ρ[t]? := by
    intro t ht
    rcases I.view t with ⟨k, o', h1, h2, h3, h4⟩ | h
    ·exfalso
     have hki : k ≠ i := by rintro rfl; exact hiA h1
     rcases D.look i k o o' t ho h3 (Ne.symm hki) h4 ht with hbf | ⟨hbf, _⟩
     ·exact h2 (hbfR k hbf)
     ·exact hiA (hbf.closed (S := (· ∈ lA)) I.clA fun o2 ho2 e he => I.clA k o2 ho2 h1 e he)
    ·exact h
   rw [← vg_congr hcong] at hvi
   refine vg_wp ho I.post.rel I.post.env hvi ?_
   intro lv L' h' μ2 lam2 v w2 hk R2 hle hlle hrel
   obtain ⟨hk, hre⟩ := rechks_elim hk
   have E2 := (I.post.env.mono hle hlle).put (d := o.dst) hrel
   have p1 : Post μ0 h0 w0 μ' lam' a' ws ⟨match o.dst with | some d => ρR.set d lv | none => ρR, L', h'⟩ (a'.put o.dst v) w2 μ2 lam2 :=
    ⟨R2, E2, hle, hlle, put_defers, put_size, fun t ht => put_keep fun hd => ht (hws i o t ho hd)⟩
   refine ih n (i :: lA) (st.put o.dst lv L' h') _ _ _ _ μ2 lam2 hcnt hk {
    size := by simpa using I.size
    sub := by
     intro k hk
     rcases lr_set.1 hk with ⟨rfl, _⟩ | hk
     ·simp
     ·exact List.mem_cons_of_mem _ (I.sub k hk)
    clA := by
     intro k o' ho' hk' e he
     rcases List.mem_cons.1 hk' with rfl | hk'
     ·rw [ho] at ho'; cases ho'
      exact List.mem_cons_of_mem _ (I.sub e (hbR e he))
     ·exact List.mem_cons_of_mem _ (I.clA k o' ho' hk' e he)
    clR := clR'
    owed := by
     intro k hk' hn
     have hki : k ≠ i := by rintro rfl; exact hn (lr_set.2 (.inl ⟨rfl, hisz⟩))
     have hkA : k ∈ lA := (List.mem_cons.1 hk').resolve_left hki
     have hkR : ¬ Lr lR k := fun h => hn (lr_set.2 (.inr h))
     have hO := I.owed k hkA hkR
     have hlook : ∀ d o', o.dst = some d → ops[k]? = some o' → d ∉ o'.looksAt ops := by
      intro d o' hd ho' hl
      rcases D.look k i o' o d ho' ho hki hd hl with hbf | ⟨hbf, _⟩
      ·exact hiA (hbf.closed (S := (· ∈ lA)) I.clA fun o2 ho2 e he => I.clA k o2 ho2 hkA e he)
      ·exact hkR (hbfR k hbf)
     have hO2 := hO.put D (lv := lv) ho (Ne.symm hki) hlook
     obtain ⟨o', ho', hc, lv2, hv2, hs2⟩ := hO2
     have hst : (st.put o.dst lv L' h').ρ = (st.put o.dst lv st.L st.h).ρ := rfl
     by_cases hc1 : cls P o' = 1
     ·obtain ⟨lv3, ⟨h1, _, _⟩, _, h3⟩ := vg_same hc hv2
      subst h1
      exact ⟨o', ho', hc, lv3, h3 hc1 _ _, hs2⟩
     ·by_cases hc2 : cls P o' = 2
      ·have hm : k ∈ toCheck P ops rows m lA i := by
        unfold toCheck
        rw [List.mem_filter]
        refine ⟨hkA, ?_⟩
        simp only [ho', hc2, beq_self_eq_true, Bool.true_and, Bool.not_eq_true']
        cases hbit : bfBit rows m i k with
        | false => rfl
        | true => exact absurd (hbfR k (hrows _ _ hbit)) hkR
       have := hre k hm
       unfold rechk1 at this
       simp only [ho'] at this
       obtain ⟨lv3, h1, h2, _⟩ := vg_same hc this
       refine ⟨o', ho', hc, lv3, h2, fun d hd => ?_⟩
       simp only [hd] at h1
       rw [h1]
       refine List.ext_getElem? fun t => ?_
       rw [List.getElem?_set]
       split
       ·rename_i hdt
        subst hdt
        split
        ·rename_i hlt
         simp [List.getD, hlt]
        ·rename_i hlt
         simp [List.getElem?_eq_none (Nat.le_of_not_lt hlt)]
       ·rfl
      ·exfalso
       have : cls P o' = 0 ∨ cls P o' = 1 ∨ cls P o' = 2 := by
        unfold cls
        repeat' split
        all_goals simp
       rcases this with h | h | h
       ·exact hc h
       ·exact hc1 h
       ·exact hc2 h
    len := by
     simp only [St.put]
     cases o.dst <;> simp [I.len]
    view := by
     intro t
     rcases I.view t with ⟨k, o', h1, h2, h3, h4⟩ | h
     ·refine .inl ⟨k, o', List.mem_cons_of_mem _ h1, fun hl => ?_, h3, h4⟩
      rcases lr_set.1 hl with ⟨rfl, _⟩ | hl
      ·exact hiA h1
      ·exact h2 hl
     ·refine .inr ?_
      simp only [St.put]
      split
      ·rename_i d hd
       simp only [hd]
       rw [List.getElem?_set, List.getElem?_set, h, I.len]
      ·rename_i hd
       simp only [hd]
       exact h
    post := I.post.trans p1 (fun _ h => h) (fun _ h => h) }
theorem vdraw_ok {isLoc : Nat → Bool} : DrawOK P (vdraw P isLoc (AC P)) := by
 intro μ0 h0 w0 id ops st K μ lam a w hk R E
 unfold vdraw at hk
 obtain ⟨rows, m, he, hrows⟩ := bfRows_ok (ops := ops) (k := fun rows m => need (okDraw P ops rows m) (vany P isLoc (AC P) ops rows m (ops.size + 1) [] st K)) ops.toList 0 [] rfl rfl (by
  intro i j h; simp [bfBit, rowAt] at h)
 rw [he] at hk
 obtain ⟨hd, hk⟩ := need_elim hk
 have D := okD_of hrows hd
 refine wp_region_any D.mixed ?_
 have Rd : Rel μ0 h0 w0 μ lam st.L st.h { w with drawn := w.drawn + 1 } := R.drawn rfl rfl rfl rfl
 refine draw_main (μ := μ) (lam := lam) (a := a) (ws := writes (.region id ops true)) D hrows (region_ws id true) (fun st' a' w' μ' lam' hK p => ⟨st', μ', lam', ⟨rfl, hK⟩, p⟩) ops.size (ops.size + 1) [] st _ st.ρ a _ μ lam ?_ hk ?_
 ·have : ∀ n, ((List.replicate n false).filter (fun b => !b)).length = n := by intro n; simp
  simp [cnt]
 ·have nl : ∀ i, ¬ Lr (Array.replicate ops.size false) i := by
   intro i h
   unfold Lr at h
   by_cases hlt : i < ops.size
   ·simp [hlt] at h
   ·simp [hlt] at h
  exact {
   size := by simp
   sub := fun i h => absurd h (nl i)
   clA := fun i o _ h => absurd h (by simp)
   clR := fun i o _ h => absurd h (nl i)
   owed := fun i h => absurd h (by simp)
   len := rfl
   view := fun t => .inr rfl
   post := Post.start Rd E _ }
end
end Go.Ab
namespace Go.Ab
def hintsOf (locs : List Nat) (loops : List (Nat × List Nat × List Nat)) : Hints where
 loc d := locs.contains d
 loops c := match loops.find? (fun x => x.1 == c) with | some (_, s, m) => ⟨s, m⟩ | none => ⟨[], []⟩
 plan _ := []
def notCount (P : Program) (f : FuncId) : Bool := match P.funcs[f]? with | some fn => !(fn.name == "runtime.NumGoroutine") && !(Nat.beq f 1000000000) | none => false
def VC (P : Program) (H : Hints) (f : FuncId) (args : List AV) (h : Heap) (Q : AV → Heap → Prop) : Prop := vfun P H (AC P) (vdraw P H.loc (AC P)) f args h Q
theorem AC_of_VC {P : Program} {H : Hints} {f : FuncId} {args : List AV} {h : Heap} {Q : AV → Heap → Prop} (hn : notCount P f = true) (hk : VC P H f args h Q) : AC P f args h Q := by
 unfold VC vfun at hk
 unfold notCount at hn
 cases hf : P.funcs[f]? with
 | none => simp only [hf] at hk
 | some fn =>
  simp only [hf] at hk hn
  cases hb : fn.body with
  | none => simp only [hb] at hk
  | some c =>
   simp only [hb] at hk
   have hn : (fn.name == "runtime.NumGoroutine") = false ∧ Nat.beq f 1000000000 = false := by simpa only [Bool.and_eq_true, Bool.not_eq_true'] using hn
   exact AC_of_code vdraw_ok hf hb hn.1 hn.2 hk
theorem AC_by {P : Program} {H : Hints} {f : FuncId} {args : List AV} {h : Heap} {Q : AV → Heap → Prop} {A : Prop} (hn : notCount P f = true) (e : A = VC P H f args h Q) (hk : A) : AC P f args h Q :=
 AC_of_VC hn (e ▸ hk)
end Go.Ab
namespace Go.Ab
set_option linter.unusedSimpArgs false
set_option linter.unusedVariables false
section
variable {A B : Prop}
theorem vif_var {b : Bool} : vif b A B ↔ (b = true → A) ∧ (b = false → B) := by cases b <;> simp [vif]
theorem need_var {b : Bool} : need b A ↔ b = true ∧ A := by cases b <;> simp [need]
theorem vif_mk {b : Bool} (h1 : b = true → A) (h2 : b = false → B) : vif b A B := vif_var.2 ⟨h1, h2⟩
end
def Ext (h h' : Heap) : Prop := ∀ (b : Nat) (B : Blk), h[b]? = some B → h'[b]? = some B
theorem Ext.refl (h : Heap) : Ext h h := fun _ _ e => e
theorem Ext.trans {a b c : Heap} (h : Ext a b) (h' : Ext b c) : Ext a c := fun k B e => h' k B (h k B e)
theorem Ext.len {h h' : Heap} (e : Ext h h') : h.length ≤ h'.length := by
 rcases Nat.eq_zero_or_pos h.length with h0 | h0
 ·omega
 ·have hk : h.length - 1 < h.length := by omega
  have := e (h.length - 1) _ (List.getElem?_eq_getElem hk)
  have := lt_of_get this
  omega
theorem Ext.app (h t : Heap) : Ext h (h ++ t) := fun b B e => by
 rw [List.getElem?_append_left (lt_of_get e)]; exact e
theorem Ext.set {h0 h : Heap} {b : Nat} {B : Blk} (e : Ext h0 h) (hb : h0.length ≤ b) : Ext h0 (h.set b B) := fun k C hk => by
 have : b ≠ k := by have := lt_of_get hk; omega
 rw [List.getElem?_set, if_neg this]; exact e k C hk
theorem Ext.cells {h h' : Heap} (e : Ext h h') {p : PA} {n : Nat} {c : List AV} (hc : cellsAt h p n = some c) : cellsAt h' p n = some c := by
 unfold cellsAt at hc ⊢
 split at hc
 ·rename_i c' rw' hb
  rw [e _ _ hb]; exact hc
 ·cases hc
theorem cellsAt_elim {h : Heap} {p : PA} {n : Nat} {c : List AV} (hc : cellsAt h p n = some c) : ∃ C rw, h[p.b]? = some (.cells C rw) ∧ p.o + n ≤ C.length ∧ c = (C.drop p.o).take n := by
 unfold cellsAt at hc
 split at hc
 ·rename_i C rw' hb
  split at hc
  ·rename_i hl; cases hc; exact ⟨C, rw', hb, hl, rfl⟩
  ·cases hc
 ·cases hc
theorem cellsAt_mk {h : Heap} {p : PA} {n : Nat} {C : List AV} {rw' : Bool} (hb : h[p.b]? = some (.cells C rw')) (hl : p.o + n ≤ C.length) : cellsAt h p n = some ((C.drop p.o).take n) := by
 unfold cellsAt; rw [hb]; simp only [if_pos hl]
theorem cellsAt_len {h : Heap} {p : PA} {n : Nat} {c : List AV} (hc : cellsAt h p n = some c) : c.length = n := by
 obtain ⟨C, rw', _, hl, rfl⟩ := cellsAt_some hc
 simp; omega
theorem cellsAt_sub {h : Heap} {p : PA} {n k m : Nat} {c : List AV} (hc : cellsAt h p n = some c) (hk : k + m ≤ n) : cellsAt h ⟨p.b, p.o + k⟩ m = some ((c.drop k).take m) := by
 obtain ⟨C, rw', hb, hl, rfl⟩ := cellsAt_elim hc
 rw [cellsAt_mk (p := ⟨p.b, p.o + k⟩) hb (by show p.o + k + m ≤ _; omega)]
 simp only [List.drop_take, List.take_take, List.drop_drop, Nat.min_eq_left (by omega : m ≤ n - k)]
structure Enc (α : Type) where
 sz : Nat
 f : α → List AV
 len : ∀ a, (f a).length = sz
 pos : 0 < sz
 one : ∀ a, oneAll (f a) = true
section
variable {α : Type} (E : Enc α)
def Enc.all (l : List α) : List AV := (l.map E.f).flatten
variable {E}
theorem Enc.all_length {l : List α} : (E.all l).length = l.length * E.sz := by
 induction l with
 | nil => simp [Enc.all]
 | cons x l ih => simp only [Enc.all, List.map_cons, List.flatten_cons, List.length_append, E.len, List.length_cons] at *; rw [ih]; rw [Nat.add_mul]; omega
theorem Enc.all_cons {x : α} {l : List α} : E.all (x :: l) = E.f x ++ E.all l := rfl
theorem Enc.all_append {l m : List α} : E.all (l ++ m) = E.all l ++ E.all m := by simp [Enc.all]
theorem Enc.all_drop {l : List α} : ∀ {k : Nat}, (E.all l).drop (k * E.sz) = E.all (l.drop k) := by
 induction l with
 | nil => intro k; simp [Enc.all]
 | cons x l ih =>
  intro k
  cases k with
  | zero => simp
  | succ k =>
   rw [Enc.all_cons, Nat.add_mul, Nat.one_mul, Nat.add_comm, ← List.drop_drop]
   rw [List.drop_left' (E.len x), ih, List.drop_succ_cons]
theorem Enc.all_take {l : List α} : ∀ {k : Nat}, (E.all l).take (k * E.sz) = E.all (l.take k) := by
 induction l with
 | nil => intro k; simp [Enc.all]
 | cons x l ih =>
  intro k
  cases k with
  | zero => simp [Enc.all]
  | succ k =>
   rw [Enc.all_cons, Nat.add_mul, Nat.one_mul, Nat.add_comm, List.take_append, List.take_of_length_le (by rw [E.len]; omega), E.len, Nat.add_sub_cancel_left, ih, List.take_succ_cons, Enc.all_cons]
theorem Enc.all_at {l : List α} {k : Nat} {x : α} (h : l[k]? = some x) : ((E.all l).drop (k * E.sz)).take E.sz = E.f x := by
 rw [Enc.all_drop]
 have : l.drop k = x :: l.drop (k + 1) := by
  rw [List.drop_eq_getElem_cons (lt_of_get h)]
  congr 1
  rw [List.getElem?_eq_getElem (lt_of_get h)] at h
  exact Option.some.inj h
 rw [this, Enc.all_cons, List.take_left' (E.len x)]
def HasL (E : Enc α) (h : Heap) (q : Option SL) (l : List α) : Prop :=
 match q with
 | none => l = []
 | some s => s.len = l.length ∧ s.len ≤ s.cap ∧ (s.opn = 0 ∨ s.opn = E.sz) ∧ cellsAt h ⟨s.b, s.o⟩ (l.length * E.sz) = some (E.all l)
theorem HasL.len {h : Heap} {q : Option SL} {l : List α} (H : HasL E h q l) : slLen q = l.length := by
 cases q with
 | none => simp only [HasL] at H; subst H; rfl
 | some s => exact H.1
theorem HasL.mono {h h' : Heap} {q : Option SL} {l : List α} (H : HasL E h q l) (e : Ext h h') : HasL E h' q l := by
 cases q with
 | none => exact H
 | some s => exact ⟨H.1, H.2.1, H.2.2.1, e.cells H.2.2.2⟩
theorem HasL.idx {h : Heap} {q : Option SL} {l : List α} (H : HasL E h q l) {i : Int} {K : PA → Prop} (h0 : 0 ≤ i) (h1 : i < l.length)
  (hK : ∀ p x, l[i.toNat]? = some x → cellsAt h p E.sz = some (E.f x) → K p) : vIdx q i E.sz K := by
 cases q with
 | none => simp only [HasL] at H; subst H; simp at h1; omega
 | some s =>
  have hi : i.toNat < l.length := by omega
  refine ⟨h0, by rw [H.1]; exact h1, hK _ _ (List.getElem?_eq_getElem hi) ?_⟩
  have h2 : i.toNat * E.sz + E.sz ≤ l.length * E.sz := by
   have : (i.toNat + 1) * E.sz ≤ l.length * E.sz := Nat.mul_le_mul_right _ hi
   rw [Nat.add_mul, Nat.one_mul] at this; exact this
  rw [cellsAt_sub H.2.2.2 h2, Enc.all_at (List.getElem?_eq_getElem hi)]
theorem HasL.cells {h : Heap} {q : Option SL} {l : List α} (H : HasL E h q l) : slCells h q (slLen q * E.sz) = some (E.all l) := by
 cases q with
 | none => simp only [HasL] at H; subst H; simp [slCells, slLen, Enc.all]
 | some s => simp only [slCells, slLen, H.1]; exact H.2.2.2
theorem HasL.new {h : Heap} {l : List α} {n : Nat} (hn : n = l.length) {c : List AV} (hc : c = E.all l) : HasL E (h ++ [.cells c true]) (some ⟨h.length, 0, n, n, 0⟩) l := by
 subst hn hc
 refine ⟨rfl, Nat.le_refl _, .inl rfl, ?_⟩
 rw [cellsAt_mk (C := E.all l) (rw' := true) (by simp) (by simp [Enc.all_length])]
 simp [← Enc.all_length]
theorem HasL.slice {h : Heap} {q : Option SL} {l : List α} (H : HasL E h q l) {lo : Int} {hi : Option Int} {K : Option SL → Prop} (h0 : 0 ≤ lo) (h1 : lo ≤ hi.getD l.length) (h2 : hi.getD l.length ≤ l.length)
  (hK : ∀ q', HasL E h q' ((l.take (hi.getD l.length).toNat).drop lo.toNat) → K q') : PSlice E.sz q lo hi none K := by
 cases q with
 | none =>
  simp only [HasL] at H
  subst H
  simp only [List.length_nil] at h1 h2 hK
  have e1 : hi.getD 0 = 0 := by
   have : hi.getD ((0 : Nat) : Int) = hi.getD 0 := rfl
   simp only [Int.ofNat_zero, Int.natCast_zero] at h1 h2
   omega
  have e0 : lo = 0 := by
   simp only [Int.natCast_zero] at h1 h2; omega
  refine ⟨e0, e1, rfl, hK none ?_⟩
  simp [HasL]
 | some s =>
  obtain ⟨a1, a2, a3, a4⟩ := H
  have hl : (s.len : Int) = l.length := by rw [a1]
  refine ⟨a3, h0, by rw [hl]; exact h1, ?_, by simp, hK _ ?_⟩
  ·simp only [hl, Option.getD_none]; omega
  ·generalize hH : hi.getD (l.length : Int) = H at *
   have hHs : hi.getD (s.len : Int) = H := by rw [hl]; exact hH
   have hn : ((l.take H.toNat).drop lo.toNat).length = (H - lo).toNat := by simp; omega
   refine ⟨by simp only [hHs, hn], by simp only [hHs, Option.getD_none]; omega, by simp [a3], ?_⟩
   have := cellsAt_sub (k := lo.toNat * E.sz) (m := (H - lo).toNat * E.sz) a4 (by
    rw [← Nat.add_mul]; exact Nat.mul_le_mul_right _ (by omega))
   rw [hn]
   rw [this, Enc.all_drop, Enc.all_take, List.drop_take]
   congr 3
   omega
end
end Go.Ab
namespace Go.Ab
theorem wrapK_i64 {n : Int} (h : -9223372036854775808 ≤ n ∧ n ≤ 9223372036854775807) : wrapK .i64 n = n := by
 have e1 : (2 : Int) ^ 64 = 18446744073709551616 := by decide
 have e2 : (2 : Int) ^ 63 = 9223372036854775808 := by decide
 simp only [wrapK, IntKind.wrap, IntKind.bits, IntKind.signed, Bool.true_and, e1, e2]
 by_cases hn : n % 18446744073709551616 ≥ 9223372036854775808
 ·rw [if_pos (by simpa using hn)]; omega
 ·rw [if_neg (by simpa using hn)]; omega
theorem wrapK_u64 {n : Int} (h : 0 ≤ n ∧ n ≤ 18446744073709551615) : wrapK .u64 n = n := by
 simp only [wrapK, IntKind.wrap, IntKind.bits, IntKind.signed, Bool.false_and]
 simp only [Bool.false_eq_true, if_false]
 omega
theorem wrapK_u8 {n : Int} : wrapK .u8 n = n % 256 := by
 simp [wrapK, IntKind.wrap, IntKind.bits, IntKind.signed]
end Go.Ab

