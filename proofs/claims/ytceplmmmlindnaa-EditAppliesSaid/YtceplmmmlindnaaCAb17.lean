/- Regions that draw their order: the theorem. -/
import Derived.Test.YtceplmmmlindnaaCAb16
namespace Go.Ab
set_option linter.unusedSimpArgs false
set_option linter.unusedVariables false

section
variable {P : Program} {μ0 : Ren} {h0 : Heap} {w0 : World} {isLoc : Nat → Bool} {ops : Array Oper}

/-- Listed in the real run. -/
def Lr (lR : Array Bool) (i : Nat) : Prop := lR.getD i false = true

/-- What an owed operation yields stands there already. -/
def Own (P : Program) (isLoc : Nat → Bool) (ops : Array Oper) (i : Nat) (st : St) : Prop :=
  ∃ o, ops[i]? = some o ∧ cls P o ≠ 0 ∧ ∃ lv, vg P isLoc (AC P) ops o st.ρ st.L st.h (Same lv st.L st.h) ∧ ∀ d, o.dst = some d → st.ρ.set d lv = st.ρ

structure DInv (P : Program) (μ0 : Ren) (h0 : Heap) (w0 : World) (isLoc : Nat → Bool) (ops : Array Oper) (ws : List Nat) (μ : Ren) (lam : List Nat) (a : Act)
    (lA : List Nat) (st : St) (lR : Array Bool) (ρR : List LV) (a' : Act) (w' : World) (μ' : Ren) (lam' : List Nat) : Prop where
  size : lR.size = ops.size
  sub : ∀ i, Lr lR i → i ∈ lA
  clA : ∀ (i : Nat) (o : Oper), ops[i]? = some o → i ∈ lA → ∀ e ∈ bindsOf o, e ∈ lA
  clR : ∀ (i : Nat) (o : Oper), ops[i]? = some o → Lr lR i → ∀ e ∈ bindsOf o, Lr lR e
  owed : ∀ i, i ∈ lA → ¬ Lr lR i → Own P isLoc ops i st
  len : ρR.length = st.ρ.length
  view : ∀ t, (∃ i o, i ∈ lA ∧ ¬ Lr lR i ∧ ops[i]? = some o ∧ o.dst = some t) ∨ ρR[t]? = st.ρ[t]?
  post : Post μ0 h0 w0 μ lam a ws ⟨ρR, st.L, st.h⟩ a' w' μ' lam'

theorem find_mem {p : Nat → Bool} {l : List Nat} {i : Nat} (h : l.find? p = some i) : p i = true := List.find?_some h

theorem readyRO_some {listed : List Nat} {i : Nat} (h : readyRO P ops listed = some i) : i ∉ listed ∧ ∃ o, ops[i]? = some o ∧ cls P o ≠ 0 ∧ ∀ e ∈ bindsOf o, e ∈ listed := by
  have := List.find?_some h
  simp only [Bool.and_eq_true, Bool.not_eq_true', List.contains_eq_mem, decide_eq_false_iff_not] at this
  obtain ⟨h1, h2⟩ := this
  refine ⟨h1, ?_⟩
  split at h2
  · rename_i o ho
    simp only [Bool.and_eq_true, bne_iff_ne, List.all_eq_true, decide_eq_true_eq] at h2
    exact ⟨o, ho, h2.1, fun e he => by simpa using h2.2 e he⟩
  · simp at h2

theorem set_comm {α : Type} (l : List α) {i j : Nat} (a b : α) (h : i ≠ j) : (l.set i a).set j b = (l.set j b).set i a := List.set_comm a b h

theorem Own.vals {i : Nat} {st : St} (h : Own P isLoc ops i st) : ∃ o, ops[i]? = some o := ⟨_, h.choose_spec.1⟩

/-- An operation owed stays owed when another puts its value, memory as it is. -/
theorem Own.put (D : OkD P ops) {i j : Nat} {o : Oper} {st : St} {lv : LV} (hO : Own P isLoc ops j st) (ho : ops[i]? = some o) (hne : i ≠ j) (hl : ∀ d o', o.dst = some d → ops[j]? = some o' → d ∉ o'.looksAt ops) :
    Own P isLoc ops j (st.put o.dst lv st.L st.h) := by
  obtain ⟨o', ho', hc, lv', hv, hs⟩ := hO
  refine ⟨o', ho', hc, lv', ?_, ?_⟩
  · simp only [St.put]
    rw [vg_congr (ρ' := st.ρ)]
    · exact hv
    · intro t ht
      split
      · rename_i d hd
        rw [List.getElem?_set, if_neg]
        intro h; subst h
        exact hl _ _ hd ho' ht
      · rfl
  · intro d' hd'
    simp only [St.put]
    split
    · rename_i d hd
      have : d ≠ d' := by
        intro h; subst h
        exact D.dst i j o o' _ ho ho' hne hd' hd
      rw [set_comm _ _ _ this, hs d' hd']
    · exact hs d' hd'

/-- Reckoning what is ready, ahead of the real run. -/
theorem saturate (D : OkD P ops) {rows : List Nat} {m : Nat} {ws : List Nat} {μ : Ren} {lam : List Nat} {a : Act} {lR : Array Bool} {ρR : List LV} {a' : Act} {w' : World} {μ' : Ren} {lam' : List Nat} {K : St → Prop} :
    ∀ (n : Nat) (lA : List Nat) (st : St), vany P isLoc (AC P) ops rows m n lA st K → DInv P μ0 h0 w0 isLoc ops ws μ lam a lA st lR ρR a' w' μ' lam' →
      ∃ n' lA' st', vany P isLoc (AC P) ops rows m (n' + 1) lA' st' K ∧ DInv P μ0 h0 w0 isLoc ops ws μ lam a lA' st' lR ρR a' w' μ' lam' ∧ readyRO P ops lA' = none
  | 0, _, _, h, _ => h.elim
  | n + 1, lA, st, h, I => by
    cases hr : readyRO P ops lA with
    | none => exact ⟨n, lA, st, h, I, hr⟩
    | some i =>
      obtain ⟨hni, o, ho, hc, hb⟩ := readyRO_some hr
      simp only [vany, hr, ho] at h
      obtain ⟨lv, hk, hv, h1⟩ := vg_same hc (vg_of h)
      refine saturate D n _ _ hk ?_
      have hself : ∀ d, o.dst = some d → d ∉ o.looksAt ops := fun d hd => D.self i o d ho hd hc
      exact {
        size := I.size
        sub := fun k hk => List.mem_cons_of_mem _ (I.sub k hk)
        clA := by
          intro k o' ho' hk' e he
          rcases List.mem_cons.1 hk' with rfl | hk'
          · rw [ho] at ho'; cases ho'
            exact List.mem_cons_of_mem _ (hb e he)
          · exact List.mem_cons_of_mem _ (I.clA k o' ho' hk' e he)
        clR := I.clR
        owed := by
          intro k hk' hn
          by_cases hki : k = i
          · subst hki
            refine ⟨o, ho, hc, lv, ?_, ?_⟩
            · simp only [St.put]
              rw [vg_congr (ρ' := st.ρ)]
              · exact hv
              · intro t ht
                split
                · rename_i d hd
                  rw [List.getElem?_set, if_neg]
                  intro h; subst h
                  exact hself _ hd ht
                · rfl
            · intro d hd
              simp only [St.put, hd, List.set_set]
          · have hkA : k ∈ lA := (List.mem_cons.1 hk').resolve_left hki
            have hO := I.owed k hkA hn
            refine hO.put D ho (Ne.symm hki) fun d o' hd ho' hl => ?_
            rcases D.look k i o' o d ho' ho hki hd hl with hbf | ⟨_, hcc⟩
            · exact hni (hbf.closed (S := (· ∈ lA)) I.clA fun o2 ho2 e he => I.clA k o2 ho2 hkA e he)
            · obtain ⟨o2, ho2, hc2, _⟩ := hO
              rw [ho'] at ho2; cases ho2
              exact hcc.elim hc2 hc
        len := by
          simp only [St.put]
          split <;> simp [I.len]
        view := by
          intro t
          by_cases ht : o.dst = some t
          · exact .inl ⟨i, o, by simp, fun hl => hni (I.sub i hl), ho, ht⟩
          · rcases I.view t with ⟨k, o', h1, h2, h3, h4⟩ | hv
            · exact .inl ⟨k, o', List.mem_cons_of_mem _ h1, h2, h3, h4⟩
            · refine .inr ?_
              rw [hv]
              simp only [St.put]
              split
              · rename_i d hd
                rw [List.getElem?_set, if_neg]
                intro h; subst h; exact ht hd
              · rfl
        post := by simpa [St.put] using I.post }

def cnt (lR : Array Bool) : Nat := (lR.toList.filter (fun b => !b)).length

theorem cnt_set {lR : Array Bool} {i : Nat} (h : lR.getD i true = false) : cnt (lR.setIfInBounds i true) + 1 = cnt lR := by
  unfold cnt
  have hi : i < lR.size := by
    rcases Nat.lt_or_ge i lR.size with h' | h'
    · exact h'
    · simp [Array.getElem?_eq_none h'] at h
  have key : ∀ (l : List Bool) (i : Nat), l[i]? = some false → ((l.set i true).filter (fun b => !b)).length + 1 = (l.filter (fun b => !b)).length := by
    intro l
    induction l with
    | nil => intro i h; simp at h
    | cons x l ih =>
      intro i h
      cases i with
      | zero => simp at h; subst h; simp
      | succ i =>
        simp at h
        have := ih i h
        cases x <;> simp <;> omega
  rw [Array.toList_setIfInBounds]
  refine key _ _ ?_
  simp [hi] at h ⊢
  exact h

theorem lr_set {lR : Array Bool} {i j : Nat} : Lr (lR.setIfInBounds i true) j ↔ (j = i ∧ i < lR.size) ∨ Lr lR j := by
  unfold Lr
  by_cases h : i = j
  · subst h
    by_cases hlt : i < lR.size
    · simp [hlt]
    · simp [hlt]
  · rw [getD_set_ne false h]
    constructor
    · exact .inr
    · rintro (⟨rfl, _⟩ | h'); exact absurd rfl h; exact h'

theorem not_lr {lR : Array Bool} {i : Nat} (h : lR.getD i true = false) : ¬ Lr lR i := by
  unfold Lr
  intro h'
  by_cases hlt : i < lR.size
  · simp [hlt] at h h'
    rw [h] at h'; cases h'
  · simp [hlt] at h'

theorem lr_of {lR : Array Bool} {i : Nat} (hlt : i < lR.size) (h : lR.getD i true ≠ false) : Lr lR i := by
  unfold Lr
  simp [hlt] at h ⊢
  exact h

/-- When nothing is ready, all is done. -/
theorem all_listed (D : OkD P ops) {lR : Array Bool} (hs : lR.size = ops.size) (h : Region.ready .any ops lR = []) : ∀ i, i < ops.size → Lr lR i := by
  intro i
  induction i using Nat.strongRecOn with
  | _ i ih =>
    intro hi
    by_cases hl : lR.getD i true = false
    · have : i ∈ Region.ready .any ops lR := by
        refine mem_ready.2 ⟨hl, ops[i], by simp [hi], fun e he hb => ?_⟩
        have hm : e.on ∈ bindsOf ops[i] := by
          simp only [bindsOf, List.mem_map, List.mem_filter]
          exact ⟨e, ⟨by simpa using he, hb⟩, rfl⟩
        have hlt := D.lt i ops[i] (by simp [hi]) _ hm
        exact ih e.on hlt (by omega)
      rw [h] at this
      simp at this
    · exact lr_of (by omega) hl

theorem draw_main (D : OkD P ops) {rows : List Nat} {m : Nat} (hrows : ∀ i j, bfBit rows m i j = true → Bf ops i j) {ws : List Nat} (hws : ∀ (i : Nat) (o : Oper) (d : Nat), ops[i]? = some o → o.dst = some d → d ∈ ws)
    {μ : Ren} {lam : List Nat} {a : Act} {K : St → Prop} {Q : Exit → Act → World → Prop}
    (hq : ∀ st' a' w' μ' lam', K st' → Post μ0 h0 w0 μ lam a ws st' a' w' μ' lam' → Q .normal a' w') :
    ∀ (fuel n : Nat) (lA : List Nat) (st : St) (lR : Array Bool) (ρR : List LV) (a' : Act) (w' : World) (μ' : Ren) (lam' : List Nat), cnt lR ≤ fuel → vany P isLoc (AC P) ops rows m n lA st K →
      DInv P μ0 h0 w0 isLoc ops ws μ lam a lA st lR ρR a' w' μ' lam' → wpAny P .any ops Q fuel lR a' w' := by
  have fin : ∀ (n : Nat) (lA : List Nat) (st : St) (lR : Array Bool) (ρR : List LV) (a' : Act) (w' : World) (μ' : Ren) (lam' : List Nat), vany P isLoc (AC P) ops rows m n lA st K →
      DInv P μ0 h0 w0 isLoc ops ws μ lam a lA st lR ρR a' w' μ' lam' → Region.ready .any ops lR = [] → Q .normal a' w' := by
    intro n lA st lR ρR a' w' μ' lam' hv I hr
    obtain ⟨n, lA, st, hv, I, hro⟩ := saturate D n lA st hv I
    have hall := all_listed D I.size hr
    have hE : readyE ops lA = [] := by
      unfold readyE
      rw [List.filter_eq_nil_iff]
      intro i hi
      have : i ∈ lA := I.sub i (hall i (List.mem_range.1 hi))
      simp [this]
    simp only [vany, hro, hE] at hv
    obtain ⟨_, hk⟩ := need_elim hv
    have hρ : ρR = st.ρ := by
      refine List.ext_getElem? fun t => ?_
      rcases I.view t with ⟨i, o, _, h2, h3, _⟩ | h
      · exact absurd (hall i (Array.getElem?_eq_some_iff.1 h3).1) h2
      · exact h
    refine hq st a' w' μ' lam' hk ?_
    have := I.post
    rw [hρ] at this
    exact this
  intro fuel
  induction fuel with
  | zero =>
    intro n lA st lR ρR a' w' μ' lam' hc hv I
    have hr : Region.ready .any ops lR = [] := by
      refine List.eq_nil_iff_forall_not_mem.2 fun i hi => ?_
      have := cnt_set (mem_ready.1 hi).1
      omega
    exact ⟨hr, fin _ _ _ _ _ _ _ _ _ hv I hr⟩
  | succ fuel ih =>
    intro n lA st lR ρR a' w' μ' lam' hc hv I
    refine ⟨fin _ _ _ _ _ _ _ _ _ hv I, fun i hi => ?_⟩
    obtain ⟨n, lA, st, hv, I, hro⟩ := saturate D n lA st hv I
    obtain ⟨hun, o, ho, haft⟩ := mem_ready.1 hi
    have hnl := not_lr hun
    have hisz : i < lR.size := by rw [I.size]; exact (Array.getElem?_eq_some_iff.1 ho).1
    have hbR : ∀ e ∈ bindsOf o, Lr lR e := by
      intro e he
      simp only [bindsOf, List.mem_map, List.mem_filter] at he
      obtain ⟨x, ⟨hx, hb⟩, rfl⟩ := he
      exact haft x (by simpa using hx) hb
    have hbfR : ∀ j, Bf ops i j → Lr lR j := fun j hb => hb.closed (S := Lr lR) I.clR fun o2 ho2 e he => by
      rw [ho] at ho2; cases ho2; exact hbR e he
    have hcnt : cnt (lR.setIfInBounds i true) ≤ fuel := by have := cnt_set hun; omega
    have clR' : ∀ (k : Nat) (o' : Oper), ops[k]? = some o' → Lr (lR.setIfInBounds i true) k → ∀ e ∈ bindsOf o', Lr (lR.setIfInBounds i true) e := by
      intro k o' ho' hk e he
      rw [lr_set] at hk ⊢
      rcases hk with ⟨rfl, _⟩ | hk
      · rw [ho] at ho'; cases ho'; exact .inr (hbR e he)
      · exact .inr (I.clR k o' ho' hk e he)
    by_cases hiA : i ∈ lA
    · -- owed
      obtain ⟨o2, ho2, hcls, lv, hvg, hset⟩ := I.owed i hiA hnl
      rw [ho] at ho2; cases ho2
      have hcong : ∀ t ∈ o.looksAt ops, ρR[t]? = st.ρ[t]? := by
        intro t ht
        rcases I.view t with ⟨k, o', h1, h2, h3, h4⟩ | h
        · exfalso
          by_cases hki : k = i
          · subst hki
            rw [ho] at h3; cases h3
            exact D.self k o t ho h4 hcls ht
          · rcases D.look i k o o' t ho h3 (Ne.symm hki) h4 ht with hbf | ⟨_, hcc⟩
            · exact h2 (hbfR k hbf)
            · obtain ⟨o3, ho3, hc3, _⟩ := I.owed k h1 h2
              rw [h3] at ho3; cases ho3
              exact hcc.elim hcls hc3
        · exact h
      rw [← vg_congr hcong] at hvg
      refine vg_wp ho I.post.rel I.post.env hvg ?_
      intro lv' L' h' μ2 lam2 v w2 hsame R2 hle hlle hrel
      obtain ⟨rfl, rfl, rfl⟩ := hsame
      have E2 := (I.post.env.mono hle hlle).put (d := o.dst) hrel
      have p1 : Post μ0 h0 w0 μ' lam' a' ws ⟨match o.dst with | some d => ρR.set d lv' | none => ρR, st.L, st.h⟩ (a'.put o.dst v) w2 μ2 lam2 :=
        ⟨R2, E2, hle, hlle, put_defers, put_size, fun t ht => put_keep fun hd => ht (hws i o t ho hd)⟩
      refine ih (n + 1) lA st _ _ _ _ μ2 lam2 hcnt hv {
        size := by simpa using I.size
        sub := by
          intro k hk
          rcases lr_set.1 hk with ⟨rfl, _⟩ | hk
          · exact hiA
          · exact I.sub k hk
        clA := I.clA
        clR := clR'
        owed := fun k hk hn => I.owed k hk fun h => hn (lr_set.2 (.inr h))
        len := by split <;> simp [I.len]
        view := by
          intro t
          by_cases ht : o.dst = some t
          · refine .inr ?_
            rw [ht]
            have := hset t ht
            simp only
            rw [← this, List.getElem?_set, List.getElem?_set]
            simp [I.len]
          · rcases I.view t with ⟨k, o', h1, h2, h3, h4⟩ | h
            · refine .inl ⟨k, o', h1, fun hl => ?_, h3, h4⟩
              rcases lr_set.1 hl with ⟨rfl, _⟩ | hl
              · rw [ho] at h3; cases h3; exact ht h4
              · exact h2 hl
            · refine .inr ?_
              rw [← h]
              split
              · rename_i d hd
                rw [List.getElem?_set, if_neg]
                intro h; subst h; exact ht hd
              · rfl
        post := I.post.trans p1 (fun _ h => h) (fun _ h => h) }
    · -- both at once
      have hiE : i ∈ readyE ops lA := by
        unfold readyE
        simp only [List.mem_filter, List.mem_range, Bool.and_eq_true, Bool.not_eq_true', List.contains_eq_mem, decide_eq_false_iff_not, ho, List.all_eq_true, decide_eq_true_eq]
        exact ⟨by rw [← I.size]; exact hisz, hiA, fun e he => I.sub e (hbR e he)⟩
      simp only [vany, hro] at hv
      have hvi : vg P isLoc (AC P) ops o st.ρ st.L st.h fun v L h => rechks P isLoc (AC P) ops (st.put o.dst v L h) (vany P isLoc (AC P) ops rows m n (i :: lA) (st.put o.dst v L h) K) (toCheck P ops rows m lA i) := by
        cases hE : readyE ops lA with
        | nil => rw [hE] at hiE; simp at hiE
        | cons j js =>
          rw [hE] at hv hiE
          have := vall_mem hv i hiE
          simp only [ho] at this
          exact vg_of this
      have hcong : ∀ t ∈ o.looksAt ops, ρR[t]? = st.ρ[t]? := by
        intro t ht
        rcases I.view t with ⟨k, o', h1, h2, h3, h4⟩ | h
        · exfalso
          have hki : k ≠ i := by rintro rfl; exact hiA h1
          rcases D.look i k o o' t ho h3 (Ne.symm hki) h4 ht with hbf | ⟨hbf, _⟩
          · exact h2 (hbfR k hbf)
          · exact hiA (hbf.closed (S := (· ∈ lA)) I.clA fun o2 ho2 e he => I.clA k o2 ho2 h1 e he)
        · exact h
      rw [← vg_congr hcong] at hvi
      refine vg_wp ho I.post.rel I.post.env hvi ?_
      intro lv L' h' μ2 lam2 v w2 hk R2 hle hlle hrel
      obtain ⟨hk, hre⟩ := rechks_elim hk
      have E2 := (I.post.env.mono hle hlle).put (d := o.dst) hrel
      have p1 : Post μ0 h0 w0 μ' lam' a' ws ⟨match o.dst with | some d => ρR.set d lv | none => ρR, L', h'⟩ (a'.put o.dst v) w2 μ2 lam2 :=
        ⟨R2, E2, hle, hlle, put_defers, put_size, fun t ht => put_keep fun hd => ht (hws i o t ho hd)⟩
      refine ih n (i :: lA) (st.put o.dst lv L' h') _ _ _ _ μ2 lam2 hcnt hk {
        size := by simpa using I.size
        sub := by
          intro k hk
          rcases lr_set.1 hk with ⟨rfl, _⟩ | hk
          · simp
          · exact List.mem_cons_of_mem _ (I.sub k hk)
        clA := by
          intro k o' ho' hk' e he
          rcases List.mem_cons.1 hk' with rfl | hk'
          · rw [ho] at ho'; cases ho'
            exact List.mem_cons_of_mem _ (I.sub e (hbR e he))
          · exact List.mem_cons_of_mem _ (I.clA k o' ho' hk' e he)
        clR := clR'
        owed := by
          intro k hk' hn
          have hki : k ≠ i := by rintro rfl; exact hn (lr_set.2 (.inl ⟨rfl, hisz⟩))
          have hkA : k ∈ lA := (List.mem_cons.1 hk').resolve_left hki
          have hkR : ¬ Lr lR k := fun h => hn (lr_set.2 (.inr h))
          have hO := I.owed k hkA hkR
          have hlook : ∀ d o', o.dst = some d → ops[k]? = some o' → d ∉ o'.looksAt ops := by
            intro d o' hd ho' hl
            rcases D.look k i o' o d ho' ho hki hd hl with hbf | ⟨hbf, _⟩
            · exact hiA (hbf.closed (S := (· ∈ lA)) I.clA fun o2 ho2 e he => I.clA k o2 ho2 hkA e he)
            · exact hkR (hbfR k hbf)
          have hO2 := hO.put D (lv := lv) ho (Ne.symm hki) hlook
          obtain ⟨o', ho', hc, lv2, hv2, hs2⟩ := hO2
          have hst : (st.put o.dst lv L' h').ρ = (st.put o.dst lv st.L st.h).ρ := rfl
          by_cases hc1 : cls P o' = 1
          · obtain ⟨lv3, ⟨h1, _, _⟩, _, h3⟩ := vg_same hc hv2
            subst h1
            exact ⟨o', ho', hc, lv3, h3 hc1 _ _, hs2⟩
          · by_cases hc2 : cls P o' = 2
            · have hm : k ∈ toCheck P ops rows m lA i := by
                unfold toCheck
                rw [List.mem_filter]
                refine ⟨hkA, ?_⟩
                simp only [ho', hc2, beq_self_eq_true, Bool.true_and, Bool.not_eq_true']
                cases hbit : bfBit rows m i k with
                | false => rfl
                | true => exact absurd (hbfR k (hrows _ _ hbit)) hkR
              have := hre k hm
              unfold rechk1 at this
              simp only [ho'] at this
              obtain ⟨lv3, h1, h2, _⟩ := vg_same hc this
              refine ⟨o', ho', hc, lv3, h2, fun d hd => ?_⟩
              simp only [hd] at h1
              rw [h1]
              refine List.ext_getElem? fun t => ?_
              rw [List.getElem?_set]
              split
              · rename_i hdt
                subst hdt
                split
                · rename_i hlt
                  simp [List.getD, hlt]
                · rename_i hlt
                  simp [List.getElem?_eq_none (Nat.le_of_not_lt hlt)]
              · rfl
            · exfalso
              have : cls P o' = 0 ∨ cls P o' = 1 ∨ cls P o' = 2 := by
                unfold cls
                repeat' split
                all_goals simp
              rcases this with h | h | h
              · exact hc h
              · exact hc1 h
              · exact hc2 h
        len := by
          simp only [St.put]
          cases o.dst <;> simp [I.len]
        view := by
          intro t
          rcases I.view t with ⟨k, o', h1, h2, h3, h4⟩ | h
          · refine .inl ⟨k, o', List.mem_cons_of_mem _ h1, fun hl => ?_, h3, h4⟩
            rcases lr_set.1 hl with ⟨rfl, _⟩ | hl
            · exact hiA h1
            · exact h2 hl
          · refine .inr ?_
            simp only [St.put]
            split
            · rename_i d hd
              simp only [hd]
              rw [List.getElem?_set, List.getElem?_set, h, I.len]
            · rename_i hd
              simp only [hd]
              exact h
        post := I.post.trans p1 (fun _ h => h) (fun _ h => h) }

theorem vdraw_ok {isLoc : Nat → Bool} : DrawOK P (vdraw P isLoc (AC P)) := by
  intro μ0 h0 w0 id ops st K μ lam a w hk R E
  unfold vdraw at hk
  obtain ⟨rows, m, he, hrows⟩ := bfRows_ok (ops := ops) (k := fun rows m => need (okDraw P ops rows m) (vany P isLoc (AC P) ops rows m (ops.size + 1) [] st K)) ops.toList 0 [] rfl rfl (by
    intro i j h; simp [bfBit, rowAt] at h)
  rw [he] at hk
  obtain ⟨hd, hk⟩ := need_elim hk
  have D := okD_of hrows hd
  refine wp_region_any D.mixed ?_
  have Rd : Rel μ0 h0 w0 μ lam st.L st.h { w with drawn := w.drawn + 1 } := R.drawn rfl rfl rfl rfl
  refine draw_main (μ := μ) (lam := lam) (a := a) (ws := writes (.region id ops true)) D hrows (region_ws id true) (fun st' a' w' μ' lam' hK p => ⟨st', μ', lam', ⟨rfl, hK⟩, p⟩) ops.size (ops.size + 1) [] st _ st.ρ a _ μ lam ?_ hk ?_
  · have : ∀ n, ((List.replicate n false).filter (fun b => !b)).length = n := by intro n; simp
    simp [cnt]
  · have nl : ∀ i, ¬ Lr (Array.replicate ops.size false) i := by
      intro i h
      unfold Lr at h
      by_cases hlt : i < ops.size
      · simp [hlt] at h
      · simp [hlt] at h
    exact {
      size := by simp
      sub := fun i h => absurd h (nl i)
      clA := fun i o _ h => absurd h (by simp)
      clR := fun i o _ h => absurd h (nl i)
      owed := fun i h => absurd h (by simp)
      len := rfl
      view := fun t => .inr rfl
      post := Post.start Rd E _ }
end
end Go.Ab
