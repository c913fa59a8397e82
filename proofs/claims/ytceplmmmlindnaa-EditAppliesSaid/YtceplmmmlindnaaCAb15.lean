/- Regions that draw their order: which operations may be taken early. -/
import Derived.Test.YtceplmmmlindnaaCAb14
import Derived.Orders
namespace Go.Ab
set_option linter.unusedSimpArgs false
set_option linter.unusedVariables false

/-- 0: it acts; 1: it only reckons; 2: it reads memory. -/
def cls (P : Program) (o : Oper) : Nat :=
  match o.op with
  | .move _ | .pick .. | .nilCheck _ | .unOp .. | .fieldAddr .. | .field .. | .indexAddr .. | .extract .. | .slice .. | .build .. | .index .. | .makeFunc .. | .makeInterface .. | .sliceToArrayPointer .. => 1
  | .binOp _ t _ _ _ => match P.underlying t with | some (.pointer _) => 2 | _ => 1
  | .load .. | .lookup .. => 2
  | .convert src dst _ => match P.underlying dst with | some (.int _) => 1 | some .string => 2 | _ => 0
  | .call c => match c.callee with | .builtin .len => (match (c.argTypes.toList.head?).bind P.underlying with | some (.map _ _) => 2 | _ => 1) | .builtin .min => 1 | .builtin .max => 1 | _ => 0
  | _ => 0

section
variable {P : Program} {isLoc : Nat → Bool} {call : CallH} {L : Locs} {h : Heap} {ρ : List LV}

/-- What only reads hands on the memory as it was. -/
def Same (lv : LV) (L : Locs) (h : Heap) : KO := fun lv' L' h' => lv' = lv ∧ L' = L ∧ h' = h

theorem exL_join : ∀ {zs : List AV} {A B : List AV → Prop}, exL zs A → (∀ l, l.length = zs.length → (∀ x ∈ l, x.one = true) → A l → B l) → exL zs B
  | [], A, B, h, f => f _ rfl (by simp) h
  | z :: zs, A, B, h, f => by
    cases z <;> simp only [exL] at h ⊢
    all_goals first
      | (obtain ⟨n, hv, h⟩ := h; exact ⟨n, hv, exL_join h fun l hl ho => f _ (by simp [hl]) (by intro x hx; simp at hx; rcases hx with rfl | hx; (first | exact hv | rfl); exact ho x hx)⟩)
      | (obtain ⟨n, h⟩ := h; exact ⟨n, exL_join h fun l hl ho => f _ (by simp [hl]) (by intro x hx; simp at hx; rcases hx with rfl | hx; rfl; exact ho x hx)⟩)

theorem exV_join {z : AV} {A B : AV → Prop} (hz : ∀ c, z ≠ .tup c) (h : exV z A) (f : ∀ v, isAgg v = isAgg z → (isAgg z = false → v.one = true) → A v → B v) : exV z B := by
  cases z <;> simp only [exV] at h ⊢
  case tup c => exact absurd rfl (hz c)
  case agg zs => exact exL_join h fun l _ _ => f _ rfl (fun h => by cases h)
  all_goals
    refine exL_join h fun l hlen ho hl => ?_
    clear hlen
    split at hl
    · rename_i x
      have hx := ho x (by simp)
      exact f _ (by rw [isAgg_of_one hx]; rfl) (fun _ => hx) hl
    · exact hl.elim

theorem eq_of_cells {v v' : AV} (h : isAgg v = isAgg v') (h1 : isAgg v = false → v.one = true) (h2 : isAgg v' = false → v'.one = true) (hc : v.cells = v'.cells) : v = v' := by
  cases hv : isAgg v with
  | true =>
    rw [hv] at h
    cases v <;> simp [isAgg] at hv
    cases v' <;> simp [isAgg] at h
    simpa [AV.cells] using hc
  | false =>
    rw [hv] at h
    rw [cells_of_one (h1 hv), cells_of_one (h2 h.symm)] at hc
    simpa using hc

/-- A value that lies in known cells. -/
theorem exV_one {z : AV} {r : Option (List AV)} {KV : AV → Prop} (hz : ∀ c, z ≠ .tup c) (h : exV z fun v => r = some v.cells ∧ KV v) : ∃ v, KV v ∧ ∀ B : AV → Prop, B v → exV z fun v' => r = some v'.cells ∧ B v' := by
  obtain ⟨v, ⟨h1, h2⟩, h3, _, h4⟩ := exV_elim hz h
  have hone : isAgg z = false → v.one = true := by
    intro hg
    have : v.cells = [v] := by rw [hg] at h3; cases v <;> simp [isAgg] at h3 <;> rfl
    exact h4 v (by rw [this]; simp)
  refine ⟨v, h2, fun B hB => exV_join hz h fun v' a1 a2 ⟨b1, _⟩ => ⟨b1, ?_⟩⟩
  rw [b1] at h1
  have := eq_of_cells (a1.trans h3.symm) (fun hg => a2 (a1 ▸ hg)) (fun hg => hone (h3 ▸ hg)) (Option.some.inj h1)
  rw [this]; exact hB

theorem part_same {z : AV} {c : List AV} {o : Nat} {KV : AV → Prop} (h : part z c o KV) : ∃ v, KV v ∧ ∀ B : AV → Prop, B v → part z c o B := by
  unfold part at h
  cases hg : isAgg z with
  | true =>
    rw [hg] at h
    obtain ⟨h1, h2⟩ := need_elim h
    refine ⟨_, h2, fun B hB => ?_⟩
    unfold part
    simp only [hg, h1, need]
    exact hB
  | false =>
    rw [hg] at h
    simp only at h
    split at h
    · rename_i v hv
      refine ⟨v, h, fun B hB => ?_⟩
      unfold part
      simp only [hg, hv]
      exact hB
    · exact h.elim

theorem load_same {t : TypeId} {x : LV} {KV : AV → Prop} (hk : vLoad P t x L h KV) : ∃ v, KV v ∧ ∀ B : AV → Prop, B v → vLoad P t x L h B := by
  unfold vLoad at hk
  split at hk
  · exact hk.elim
  · rename_i z hz
    split at hk
    · exact hk.elim
    · rename_i hok
      have hok' := okTy_parts hok
      split at hk
      · rename_i k o
        split at hk
        · rename_i c hc
          obtain ⟨v, h1, h2⟩ := part_same hk
          exact ⟨v, h1, fun B hB => by simp only [vLoad, hz, hok, hc]; exact h2 _ hB⟩
        · exact hk.elim
      · rename_i q
        cases q with
        | none => exact hk.elim
        | some p =>
          simp only [vPtr, PLoad] at hk
          obtain ⟨v, h1, h2⟩ := exV_one hok'.2.2.2 hk
          exact ⟨v, h1, fun B hB => by simp only [vLoad, hz, hok, vPtr, PLoad]; exact h2 B hB⟩
      · exact hk.elim

theorem need_mk {b : Bool} {A : Prop} (h : b = true) (a : A) : need b A := by subst h; exact a

theorem eqFs_same {n : Nat} (ih : ∀ (t : TypeId) (xs ys : List AV) (KB : Bool → List AV → List AV → Prop), eqT P n t xs ys KB → ∃ b xs' ys', KB b xs' ys' ∧ ∀ B : Bool → List AV → List AV → Prop, B b xs' ys' → eqT P n t xs ys B) :
    ∀ (fs : List Field) (off : Nat) (xs ys : List AV) (KB : Bool → List AV → List AV → Prop), eqFs P (eqT P n) fs off xs ys KB → ∃ b xs' ys', KB b xs' ys' ∧ ∀ B : Bool → List AV → List AV → Prop, B b xs' ys' → eqFs P (eqT P n) fs off xs ys B
  | [], off, xs, ys, KB, h => ⟨_, _, _, h, fun B hB => hB⟩
  | f :: fs, off, xs, ys, KB, h => by
    simp only [eqFs] at h
    obtain ⟨h1, h2⟩ := need_elim h
    obtain ⟨b, xs', ys', h3, h4⟩ := ih _ _ _ _ h2
    obtain ⟨r, xs2, ys2, h5, h6⟩ := eqFs_same ih fs _ _ _ _ h3
    refine ⟨_, _, _, h5, fun B hB => ?_⟩
    simp only [eqFs]
    exact need_mk h1 (h4 _ (h6 _ hB))

theorem eqT_same : ∀ (n : Nat) (t : TypeId) (xs ys : List AV) (KB : Bool → List AV → List AV → Prop), eqT P n t xs ys KB → ∃ b xs' ys', KB b xs' ys' ∧ ∀ B : Bool → List AV → List AV → Prop, B b xs' ys' → eqT P n t xs ys B
  | 0, _, _, _, _, h => h.elim
  | n + 1, t, xs, ys, KB, h => by
    unfold eqT at h
    split at h
    · rename_i hu
      obtain ⟨h1, h2⟩ := need_elim h
      exact ⟨_, _, _, h2, fun B hB => by unfold eqT; rw [hu]; exact need_mk h1 hB⟩
    · rename_i hu
      obtain ⟨h1, h2⟩ := need_elim h
      exact ⟨_, _, _, h2, fun B hB => by unfold eqT; rw [hu]; exact need_mk h1 hB⟩
    · rename_i hu
      obtain ⟨h1, h2⟩ := need_elim h
      exact ⟨_, _, _, h2, fun B hB => by unfold eqT; rw [hu]; exact need_mk h1 hB⟩
    · rename_i fs hu
      obtain ⟨h1, h2⟩ := need_elim h
      obtain ⟨b, xs', ys', h3, h4⟩ := eqFs_same (eqT_same n) _ _ _ _ _ h2
      obtain ⟨h5, h6⟩ := need_elim h3
      exact ⟨_, _, _, h6, fun B hB => by unfold eqT; rw [hu]; exact need_mk h1 (h4 _ (need_mk h5 hB))⟩
    · exact h.elim

theorem aInt_same {op : BinOp} {k : IntKind} {a b : Int} {KV : AV → Prop} (h : aInt op k a b KV) : ∃ v, KV v ∧ ∀ B : AV → Prop, B v → aInt op k a b B := by
  cases op <;> simp only [aInt] at h <;> first
    | exact h.elim
    | exact ⟨_, h, fun B hB => hB⟩
    | (obtain ⟨h1, h2⟩ := need_elim h; exact ⟨_, h2, fun B hB => need_mk h1 hB⟩)

theorem aStr_same {op : BinOp} {a b : List UInt8} {KV : AV → Prop} (h : aStr op a b KV) : ∃ v, KV v ∧ ∀ B : AV → Prop, B v → aStr op a b B := by
  cases op <;> simp only [aStr] at h <;> first
    | exact h.elim
    | exact ⟨_, h, fun B hB => hB⟩
    | (obtain ⟨h1, h2⟩ := need_elim h; exact ⟨_, h2, fun B hB => need_mk h1 hB⟩)

/-- An equality hangs on the heap at pointers alone. -/
theorem aEq_same {t : TypeId} {x y : AV} {KB : Bool → Prop} (hk : aEq P t h x y KB) :
    ∃ b, KB b ∧ (∀ B : Bool → Prop, B b → aEq P t h x y B) ∧ ((∀ e, P.underlying t ≠ some (.pointer e)) → ∀ (h2 : Heap) (B : Bool → Prop), B b → aEq P t h2 x y B) := by
  unfold aEq at hk
  split at hk
  · rename_i hu; exact ⟨_, hk, fun B hB => by unfold aEq; rw [hu]; exact hB, fun _ h2 B hB => by unfold aEq; rw [hu]; exact hB⟩
  · rename_i hu
    obtain ⟨h1, h2⟩ := need_elim hk
    obtain ⟨b, xs', ys', h3, h4⟩ := eqT_same _ _ _ _ _ h2
    exact ⟨b, h3, fun B hB => by unfold aEq; rw [hu]; exact need_mk h1 (h4 _ hB), fun _ h2 B hB => by unfold aEq; rw [hu]; exact need_mk h1 (h4 _ hB)⟩
  · rename_i e p hu; exact ⟨_, hk, fun B hB => by unfold aEq; rw [hu]; exact hB, fun hn => absurd hu (hn _)⟩
  · rename_i e p hu; exact ⟨_, hk, fun B hB => by unfold aEq; rw [hu]; exact hB, fun hn => absurd hu (hn _)⟩
  · rename_i e p q hu
    obtain ⟨h1, h2⟩ := need_elim hk
    unfold ptrEq at h2
    split at h2
    · rename_i hb
      exact ⟨_, h2, fun B hB => by unfold aEq; rw [hu]; exact need_mk h1 (by unfold ptrEq; rw [if_pos hb]; exact hB), fun hn => absurd hu (hn _)⟩
    · rename_i hb
      split at h2
      · rename_i c1 c2 e1 e2
        exact ⟨_, h2, fun B hB => by unfold aEq; rw [hu]; exact need_mk h1 (by unfold ptrEq; rw [if_neg hb, e1, e2]; exact hB), fun hn => absurd hu (hn _)⟩
      · exact h2.elim
  · rename_i hu; exact ⟨_, hk, fun B hB => by unfold aEq; rw [hu]; exact hB, fun _ h2 B hB => by unfold aEq; rw [hu]; exact hB⟩
  · rename_i hu; exact ⟨_, hk, fun B hB => by unfold aEq; rw [hu]; exact hB, fun _ h2 B hB => by unfold aEq; rw [hu]; exact hB⟩
  · rename_i hu; exact ⟨_, hk, fun B hB => by unfold aEq; rw [hu]; exact hB, fun _ h2 B hB => by unfold aEq; rw [hu]; exact hB⟩
  · rename_i hu; exact ⟨_, hk, fun B hB => by unfold aEq; rw [hu]; exact hB, fun _ h2 B hB => by unfold aEq; rw [hu]; exact hB⟩
  · exact hk.elim

theorem aBin_same {op : BinOp} {t : TypeId} {x y : AV} {KV : AV → Prop} (h' : aBin P op t h x y KV) :
    ∃ v, KV v ∧ (∀ B : AV → Prop, B v → aBin P op t h x y B) ∧ ((∀ e, P.underlying t ≠ some (.pointer e)) → ∀ (h2 : Heap) (B : AV → Prop), B v → aBin P op t h2 x y B) := by
  unfold aBin at h'
  split at h'
  · rename_i k a k' b
    have key : ∃ v, KV v ∧ ∀ B : AV → Prop, B v → aIntS op k a k' b B := by
      unfold aIntS at h'
      split at h'
      · obtain ⟨h1, h2⟩ := need_elim h'; exact ⟨_, h2, fun B hB => need_mk h1 hB⟩
      · obtain ⟨h1, h2⟩ := need_elim h'; exact ⟨_, h2, fun B hB => need_mk h1 hB⟩
      · rename_i hs1 hs2
        obtain ⟨h1, h2⟩ := need_elim h'
        obtain ⟨v, h3, h4⟩ := aInt_same h2
        refine ⟨v, h3, fun B hB => ?_⟩
        unfold aIntS
        split
        · exact absurd rfl hs1
        · exact absurd rfl hs2
        · exact need_mk h1 (h4 _ hB)
    obtain ⟨v, h1, h2⟩ := key
    exact ⟨v, h1, h2, fun _ _ => h2⟩
  · obtain ⟨v, h3, h4⟩ := aStr_same h'
    exact ⟨v, h3, h4, fun _ _ => h4⟩
  · rename_i n1 n2
    unfold aCmp at h'
    split at h'
    · obtain ⟨b, h3, h4, h5⟩ := aEq_same h'
      exact ⟨_, h3, fun B hB => by rw [aBin_else n1 n2]; exact h4 (fun b => B (.bool b)) hB, fun hn h2 B hB => by rw [aBin_else n1 n2]; exact h5 hn h2 (fun b => B (.bool b)) hB⟩
    · obtain ⟨b, h3, h4, h5⟩ := aEq_same h'
      exact ⟨_, h3, fun B hB => by rw [aBin_else n1 n2]; exact h4 (fun b => B (.bool (!b))) hB, fun hn h2 B hB => by rw [aBin_else n1 n2]; exact h5 hn h2 (fun b => B (.bool (!b))) hB⟩
    · exact h'.elim

/-- What only reads: it hands on the memory as it was; what only reckons does so in any memory. -/
theorem findP_same {kt : TypeId} {k : AV} : ∀ {es : List (AV × AV × Nat)} {i : Nat} {KR : Option (Nat × AV × Nat) → Prop}, findP P kt k es i KR → ∃ r, KR r ∧ ∀ B : Option (Nat × AV × Nat) → Prop, B r → findP P kt k es i B
  | [], i, KR, h => ⟨_, h, fun B hB => hB⟩
  | (k', v, n) :: es, i, KR, h => by
    have key : ∀ {KB : Bool → Prop}, keyIs P kt k k' KB → ∃ b, KB b ∧ ∀ B : Bool → Prop, B b → keyIs P kt k k' B := by
      intro KB h
      unfold keyIs at h ⊢
      generalize P.underlying kt = d at h ⊢
      split at h
      · obtain ⟨h1, h2⟩ := need_elim h
        exact ⟨_, h2, fun B hB => need_mk h1 hB⟩
      · exact ⟨_, h, fun B hB => hB⟩
      · exact ⟨_, h, fun B hB => hB⟩
      · exact h.elim
    simp only [findP] at h
    obtain ⟨b, h1, h2⟩ := key h
    rcases vif_elim h1 with ⟨rfl, h1⟩ | ⟨rfl, h1⟩
    · exact ⟨_, h1, fun B hB => by simp only [findP]; exact h2 _ hB⟩
    · obtain ⟨r, h3, h4⟩ := findP_same h1
      exact ⟨r, h3, fun B hB => by simp only [findP]; exact h2 _ (h4 B hB)⟩

theorem lookup_same {kt et : TypeId} {m : Option Nat} {k : AV} {ok : Bool} {KV : AV → Prop} (hk : PLookup P kt et m k ok h KV) : ∃ v, KV v ∧ ∀ B : AV → Prop, B v → PLookup P kt et m k ok h B := by
  unfold PLookup at hk
  split at hk
  · rename_i es z hes hz
    obtain ⟨h1, hk⟩ := need_elim hk
    obtain ⟨r, h2, h3⟩ := findP_same hk
    exact ⟨_, h2, fun B hB => by simp only [PLookup, hes, hz]; exact need_mk h1 (h3 _ hB)⟩
  · exact hk.elim

theorem vop_same {o : Oper} {K : KO} (hc : cls P o ≠ 0) (hk : vop P isLoc call o ρ L h K) :
    ∃ lv, K lv L h ∧ vop P isLoc call o ρ L h (Same lv L h) ∧ (cls P o = 1 → ∀ L2 h2, vop P isLoc call o ρ L2 h2 (Same lv L2 h2)) := by
  have fin : ∀ {op : Op} {lv : LV}, o.op = op → (∀ L2 h2, vop P isLoc call { o with op := op } ρ L2 h2 (Same lv L2 h2)) → ∀ L2 h2, vop P isLoc call o ρ L2 h2 (Same lv L2 h2) := by
    intro op lv ho hh; subst ho; exact hh
  have S : ∀ (lv : LV) L2 h2, Same lv L2 h2 lv L2 h2 := fun lv L2 h2 => ⟨rfl, rfl, rfl⟩
  unfold vop at hk
  split at hk
  · rename_i x ho
    have := fin (lv := ev ρ x) ho fun L2 h2 => by simp only [vop]; exact S _ _ _
    exact ⟨_, hk, this _ _, fun _ => this⟩
  · rename_i x ho; simp [cls, ho] at hc
  · rename_i c x y ho
    split at hk
    · rename_i t hct
      rcases vif_elim hk with ⟨rfl, hk⟩ | ⟨rfl, hk⟩
      · have := fin (lv := ev ρ x) ho fun L2 h2 => by simp only [vop, hct, vif]; exact S _ _ _
        exact ⟨_, hk, this _ _, fun _ => this⟩
      · have := fin (lv := ev ρ y) ho fun L2 h2 => by simp only [vop, hct, vif]; exact S _ _ _
        exact ⟨_, hk, this _ _, fun _ => this⟩
    · exact hk.elim
  · rename_i t ho; simp [cls, ho] at hc
  · rename_i t x ho; simp [cls, ho] at hc
  · rename_i t x ho
    obtain ⟨v, h1, h2⟩ := load_same hk
    refine ⟨_, h1, ?_, fun h1 => by simp [cls, ho] at h1⟩
    unfold vop
    rw [ho]
    exact h2 _ (S _ _ _)
  · rename_i t a x ho; simp [cls, ho] at hc
  · rename_i x ho
    split at hk
    · rename_i hx
      have := fin (lv := _) ho fun L2 h2 => by simp only [vop, hx]; exact S _ _ _
      exact ⟨_, hk, this _ _, fun _ => this⟩
    · rename_i q hx
      cases q with
      | none => exact hk.elim
      | some p =>
        have := fin (lv := _) ho fun L2 h2 => by simp only [vop, hx, vPtr]; exact S _ _ _
        exact ⟨_, hk, this _ _, fun _ => this⟩
    · rename_i hx
      have := fin (lv := _) ho fun L2 h2 => by simp only [vop, hx]; exact S _ _ _
      exact ⟨_, hk, this _ _, fun _ => this⟩
    · rename_i hx
      have := fin (lv := _) ho fun L2 h2 => by simp only [vop, hx]; exact S _ _ _
      exact ⟨_, hk, this _ _, fun _ => this⟩
    · exact hk.elim
  · rename_i op t x y yt ho
    split at hk
    · rename_i a b hx hy
      obtain ⟨v, h1, h2, h3⟩ := aBin_same hk
      refine ⟨_, h1, ?_, fun hcl => ?_⟩
      · unfold vop
        rw [ho]
        simp only [hx, hy]
        exact h2 _ (S _ _ _)
      · have hn : ∀ e, P.underlying t ≠ some (.pointer e) := by
          intro e he
          simp [cls, ho, he] at hcl
        exact fin ho fun L2 h2 => by simp only [vop, hx, hy]; exact h3 hn _ _ (S _ _ _)
    · exact hk.elim
  · rename_i op x ho
    split at hk
    · rename_i a hx
      unfold aUn at hk
      split at hk
      · have := fin (lv := _) ho fun L2 h2 => by simp only [vop, hx, aUn]; exact S _ _ _
        exact ⟨_, hk, this _ _, fun _ => this⟩
      · have := fin (lv := _) ho fun L2 h2 => by simp only [vop, hx, aUn]; exact S _ _ _
        exact ⟨_, hk, this _ _, fun _ => this⟩
      · have := fin (lv := _) ho fun L2 h2 => by simp only [vop, hx, aUn]; exact S _ _ _
        exact ⟨_, hk, this _ _, fun _ => this⟩
      · exact hk.elim
    · exact hk.elim
  · rename_i src dst x ho
    split at hk
    · rename_i sd k k' n hs hd hx
      have := fin (lv := _) ho fun L2 h2 => by simp only [vop, hs, hd, hx]; exact S _ _ _
      exact ⟨_, hk, this _ _, fun _ => this⟩
    · rename_i s hs hd hx
      have := fin (lv := _) ho fun L2 h2 => by simp only [vop, hs, hd, hx]; exact S _ _ _
      exact ⟨_, hk, this _ _, fun _ => this⟩
    · rename_i e s hs hd hx
      obtain ⟨he, l, hl, hk⟩ := need_elim hk
      refine ⟨_, hk, ?_, fun h1 => by simp [cls, ho, hd] at h1⟩
      unfold vop
      rw [ho]
      simp only [hs, hd, hx]
      exact need_mk he ⟨l, hl, S _ _ _⟩
    · rename_i e s hs hd hx
      simp [cls, ho, hd] at hc
    · exact hk.elim
  · rename_i s x f ho
    split at hk
    · exact hk.elim
    · rename_i off ft hf
      obtain ⟨h1, hk⟩ := need_elim hk
      split at hk
      · rename_i k i hx
        have := fin (lv := _) ho fun L2 h2 => by simp only [vop, hf, hx]; exact need_mk h1 (S _ _ _)
        exact ⟨_, hk, this _ _, fun _ => this⟩
      · rename_i q hx
        cases q with
        | none => exact hk.elim
        | some p =>
          have := fin (lv := _) ho fun L2 h2 => by simp only [vop, hf, hx, vPtr]; exact need_mk h1 (S _ _ _)
          exact ⟨_, hk, this _ _, fun _ => this⟩
      · exact hk.elim
  · rename_i s x f ho
    split at hk
    · rename_i off ft cs hf hx
      split at hk
      · rename_i z hz
        obtain ⟨h1, hk⟩ := need_elim hk
        obtain ⟨v, h3, h4⟩ := part_same hk
        have := fin (lv := _) ho fun L2 h2 => by simp only [vop, hf, hx, hz]; exact need_mk h1 (h4 (fun v' => Same (.val v) L2 h2 (.val v') L2 h2) (S _ _ _))
        exact ⟨_, h3, this _ _, fun _ => this⟩
      · exact hk.elim
    · exact hk.elim
  · rename_i t x ix ho
    split at hk
    · rename_i i e s hi hu hx
      obtain ⟨h1, hk⟩ := need_elim hk
      cases s with
      | none => exact hk.elim
      | some s =>
        obtain ⟨g1, g2, hk⟩ := hk
        have := fin (lv := _) ho fun L2 h2 => by simp only [vop, hi, hu, hx]; exact need_mk h1 ⟨g1, g2, S _ _ _⟩
        exact ⟨_, hk, this _ _, fun _ => this⟩
    · rename_i i n e q hi hu hx
      cases q with
      | none => exact hk.elim
      | some p =>
        simp only [vPtr] at hk
        obtain ⟨h1, hk⟩ := need_elim hk
        have := fin (lv := _) ho fun L2 h2 => by simp only [vop, hi, hu, hx, vPtr]; exact need_mk h1 (S _ _ _)
        exact ⟨_, hk, this _ _, fun _ => this⟩
    · rename_i i n e k j hi hu hx
      obtain ⟨h1, hk⟩ := need_elim hk
      have := fin (lv := _) ho fun L2 h2 => by simp only [vop, hi, hu, hx]; exact need_mk h1 (S _ _ _)
      exact ⟨_, hk, this _ _, fun _ => this⟩
    · exact hk.elim
  · rename_i t x ix ho
    split at hk
    · rename_i i s hi hu hx
      obtain ⟨g1, hk⟩ := hk
      split at hk
      · rename_i b hb
        have := fin (lv := _) ho fun L2 h2 => by simp only [vop, hi, hu, hx, strIdx, hb]; exact ⟨g1, S _ _ _⟩
        exact ⟨_, hk, this _ _, fun _ => this⟩
      · exact hk.elim
    · exact hk.elim
  · rename_i t ps ho
    split at hk
    · rename_i zs fs parts hz hu hp
      obtain ⟨h1, hk⟩ := need_elim hk
      split at hk
      · rename_i cells hf
        have := fin (lv := _) ho fun L2 h2 => by simp only [vop, hz, hu, hp, hf]; exact need_mk h1 (S _ _ _)
        exact ⟨_, hk, this _ _, fun _ => this⟩
      · exact hk.elim
    · rename_i zs n e parts hz hu hp
      obtain ⟨h1, hk⟩ := need_elim hk
      split at hk
      · rename_i cells hf
        have := fin (lv := _) ho fun L2 h2 => by simp only [vop, hz, hu, hp, hf]; exact need_mk h1 (S _ _ _)
        exact ⟨_, hk, this _ _, fun _ => this⟩
      · exact hk.elim
    · exact hk.elim
  · rename_i t n ps ho; simp [cls, ho] at hc
  · rename_i t x lo hi mx ho
    split at hk
    · rename_i e s l hh m hu hx hl hhh hm
      obtain ⟨h1, hk⟩ := need_elim hk
      cases s with
      | none =>
        obtain ⟨g1, g2, g3, hk⟩ := hk
        have := fin (lv := _) ho fun L2 h2 => by simp only [vop, hu, hx, hl, hhh, hm]; exact need_mk h1 ⟨g1, g2, g3, S _ _ _⟩
        exact ⟨_, hk, this _ _, fun _ => this⟩
      | some s =>
        obtain ⟨g0, g1, g2, g3, g4, hk⟩ := hk
        have := fin (lv := _) ho fun L2 h2 => by simp only [vop, hu, hx, hl, hhh, hm]; exact need_mk h1 ⟨g0, g1, g2, g3, g4, S _ _ _⟩
        exact ⟨_, hk, this _ _, fun _ => this⟩
    · rename_i s l hh hu hx hl hhh hm
      obtain ⟨g1, g2, g3, hk⟩ := hk
      have := fin (lv := _) ho fun L2 h2 => by simp only [vop, hu, hx, hl, hhh, hm]; exact ⟨g1, g2, g3, S _ _ _⟩
      exact ⟨_, hk, this _ _, fun _ => this⟩
    · rename_i n e q l hh m hu hx hl hhh hm
      cases q with
      | none => exact hk.elim
      | some p =>
        simp only [vPtr] at hk
        obtain ⟨h1, g0, g1, g2, g3, g4, hk⟩ := need_elim hk
        have := fin (lv := _) ho fun L2 h2 => by simp only [vop, hu, hx, hl, hhh, hm, vPtr]; exact need_mk h1 ⟨g0, g1, g2, g3, g4, S _ _ _⟩
        exact ⟨_, hk, this _ _, fun _ => this⟩
    · exact hk.elim
  · rename_i t l c ho; simp [cls, ho] at hc
  · rename_i t x ho
    split at hk
    · rename_i n e s hu hx
      obtain ⟨h1, hk⟩ := need_elim hk
      have := fin (lv := _) ho fun L2 h2 => by simp only [vop, hu, hx]; exact need_mk h1 (S _ _ _)
      exact ⟨_, hk, this _ _, fun _ => this⟩
    · exact hk.elim
  · rename_i t r ho; simp [cls, ho] at hc
  · rename_i t x ix ok ho
    split at hk
    · rename_i kt et m k hu hx hix
      obtain ⟨v, h1, h2⟩ := lookup_same hk
      refine ⟨_, h1, ?_, fun h1 => by simp [cls, ho] at h1⟩
      unfold vop
      rw [ho]
      simp only [hu, hx, hix]
      exact h2 _ (S _ _ _)
    · exact hk.elim
  · rename_i t m k x ho; simp [cls, ho] at hc
  · rename_i t x ho; simp [cls, ho] at hc
  · rename_i x isS ho; simp [cls, ho] at hc
  · rename_i x ho; simp [cls, ho] at hc
  · rename_i x i ho
    split at hk
    · rename_i vs hx
      split at hk
      · rename_i v hv
        have := fin (lv := _) ho fun L2 h2 => by simp only [vop, hx, hv]; exact S _ _ _
        exact ⟨_, hk, this _ _, fun _ => this⟩
      · exact hk.elim
    · exact hk.elim
  · rename_i fn f c ho
    split at hk
    · rename_i a b ha hb
      have := fin (lv := _) ho fun L2 h2 => by simp only [vop, ha, hb]; exact S _ _ _
      exact ⟨_, hk, this _ _, fun _ => this⟩
    · exact hk.elim
  · rename_i t x ho
    split at hk
    · exact hk.elim
    · rename_i d v hne hu hx
      have := fin (lv := LV.val (.iface t v)) ho fun L2 h2 => by
        simp only [vop, hu, hx]
        exact S _ _ _
      exact ⟨_, hk, this _ _, fun _ => this⟩
    · exact hk.elim
  · rename_i c ho
    split at hk
    · exact hk.elim
    · rename_i args ha
      split at hk
      · rename_i f hcal; simp [cls, ho, hcal] at hc
      · rename_i r name hcal; simp [cls, ho, hcal] at hc
      · rename_i b hcal
        have b2 : ∀ {lv : LV}, vBuiltin P b c.argTypes.toList args L h (Same lv L h) → vop P isLoc call o ρ L h (Same lv L h) := fun hh => by unfold vop; rw [ho]; simp only [ha, hcal]; exact hh
        have hcl : b = .len → ∀ t kt et, c.argTypes.toList = [t] → P.underlying t = some (.map kt et) → cls P o = 1 → False := by
          intro hb t kt et h1 h2 h3
          subst hb
          simp [cls, ho, hcal, h1, h2] at h3
        have bf : ∀ {lv : LV}, (∀ L2 h2, vBuiltin P b c.argTypes.toList args L2 h2 (Same lv L2 h2)) → ∀ L2 h2, vop P isLoc call o ρ L2 h2 (Same lv L2 h2) := fun hh => fin ho fun L2 h2 => by simp only [vop, ha, hcal]; exact hh L2 h2
        generalize hat : c.argTypes.toList = at' at hk bf b2 hcl
        have hb : b = .len ∨ b = .min ∨ b = .max := by
          cases b <;> simp [cls, ho, hcal] at hc <;> simp
        rcases hb with rfl | rfl | rfl
        · unfold vBuiltin at hk
          split at hk
          · split at hk
            · rename_i t s e hu
              have := bf (lv := _) fun L2 h2 => by simp only [vBuiltin, hu]; exact S _ _ _
              exact ⟨_, hk, this _ _, fun _ => this⟩
            · exact hk.elim
          · split at hk
            · rename_i t s hu
              have := bf (lv := _) fun L2 h2 => by simp only [vBuiltin, hu]; exact S _ _ _
              exact ⟨_, hk, this _ _, fun _ => this⟩
            · exact hk.elim
          · split at hk
            · rename_i t m kt et es hu hes
              have := b2 (lv := _) (by simp only [vBuiltin, hu, hes]; exact S _ _ _)
              exact ⟨_, hk, this, fun h1 => (hcl rfl _ _ _ rfl hu h1).elim⟩
            · exact hk.elim
          all_goals first | exact hk.elim | contradiction
        · simp only [vBuiltin] at hk
          unfold minL at hk
          split at hk
          · have := bf (lv := _) fun L2 h2 => by simp only [vBuiltin, minL]; exact S _ _ _
            exact ⟨_, hk, this _ _, fun _ => this⟩
          · obtain ⟨h1, hk⟩ := need_elim hk
            have := bf (lv := _) fun L2 h2 => by simp only [vBuiltin, minL]; exact need_mk h1 (S _ _ _)
            exact ⟨_, hk, this _ _, fun _ => this⟩
          · exact hk.elim
        · simp only [vBuiltin] at hk
          unfold maxL at hk
          split at hk
          · have := bf (lv := _) fun L2 h2 => by simp only [vBuiltin, maxL]; exact S _ _ _
            exact ⟨_, hk, this _ _, fun _ => this⟩
          · obtain ⟨h1, hk⟩ := need_elim hk
            have := bf (lv := _) fun L2 h2 => by simp only [vBuiltin, maxL]; exact need_mk h1 (S _ _ _)
            exact ⟨_, hk, this _ _, fun _ => this⟩
          · exact hk.elim
  · exact hk.elim
end
end Go.Ab
