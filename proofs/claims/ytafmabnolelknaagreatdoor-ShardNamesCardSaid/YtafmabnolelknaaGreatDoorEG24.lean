import Derived.Test.YtafmabnolelknaaGreatDoorEG8
import Derived.OrdersIn
import Derived.OwnWalkIn
import Derived.RangeFuncRecord
import Derived.RangeFuncLeaves
namespace Go.Ab
set_option linter.unusedSimpArgs false
set_option linter.unusedVariables false
theorem wpIn_loop_ghost {F : Fence} {n : Nat} {P : Program} {G : Type} {Q : Exit → Act → World → Prop} {c : Code} (I : G → Act → World → Prop) (m : G → Nat)
  (round : ∀ g a w, I g a w → c.wpIn F n P (Exit.then (fun a' w' => ∃ g', I g' a' w' ∧ m g' < m g) Q) a w) (g : G) (a : Act) (w : World) (h : I g a w) : (Code.loop c).wpIn F n P Q a w := by
 have least : ∀ a w, (∃ g, I g a w) → ∃ g, I g a w ∧ ∀ g', I g' a w → m g ≤ m g' := by
  intro a w ⟨g, hg⟩
  have key : ∀ k g, m g = k → I g a w → ∃ g, I g a w ∧ ∀ g', I g' a w → m g ≤ m g' := by
   intro k
   induction k using Nat.strongRecOn with
   | _ k ih =>
    intro g hk hg
    by_cases hx : ∃ g', I g' a w ∧ m g' < m g
    ·obtain ⟨g', h1, h2⟩ := hx
     exact ih (m g') (hk ▸ h2) g' rfl h1
    ·exact ⟨g, hg, fun g' h1 => by
      apply Classical.byContradiction
      intro hn
      exact hx ⟨g', h1, by omega⟩⟩
  exact key _ g rfl hg
 refine wpIn_loop (fun a w => ∃ g, I g a w) (fun a w => open Classical in if hx : ∃ g, I g a w then m (least a w hx).choose else 0) ⟨g, h⟩ fun a w hI => ?_
 have hl := (least a w hI).choose_spec
 refine wpIn_mono (round _ a w hl.1) fun e a' w' hq => ?_
 cases e with
 | normal =>
  obtain ⟨g', h1, h2⟩ := hq
  refine ⟨⟨g', h1⟩, ?_⟩
  have hx : ∃ g, I g a' w' := ⟨g', h1⟩
  rw [dif_pos hx, dif_pos hI]
  exact Nat.lt_of_le_of_lt ((least a' w' hx).choose_spec.2 g' h1) h2
 | _ => exact hq
structure InOK (P : Program) (F : Fence) (n0 : Nat) (call : CallH) (μ0 : Ren) (h0 : Heap) (w0 : World) : Prop where
 fn : ∀ f, F.fn f
 op : ∀ {isLoc : Nat → Bool} {o : Oper} {ρ : List LV} {L : Locs} {h : Heap} {K : KO} {μ : Ren} {lam : List Nat} {a : Act} {w : World} {next : Act → World → Prop} {Q : Exit → Act → World → Prop},
  Rel μ0 h0 w0 μ lam L h w → EnvRel μ lam ρ a.tmps → vop P isLoc call o ρ L h K → NextOK μ0 h0 w0 μ lam K o.dst a next → o.wpIn F n0 P a w next Q
theorem rowsIn_wide {n : Nat} {P : Program} {row : String} {args : Array Value} {w : World} {R : Value → World → Prop} (h : Rows P row args w R) : RowsIn Fence.wide n P row args w R :=
 fun c cs _ => let ⟨v, w', r, s⟩ := h c cs; ⟨v, w', r, stepsIn_wide.2 s⟩
section
variable {P : Program} {o : Oper} {a : Act} {next : Act → World → Prop} {Q : Exit → Act → World → Prop}
theorem upon_in {n l : Nat} {r : Result Next} (h : o.upon P a next Q r) : o.uponIn (Fence.wide.inRound l) n P a next Q r := by
 cases r with
 | ok x w =>
  cases x <;> first
   | exact h
   | exact ⟨fun hd => (by cases hd), callsIn_wide.2 h⟩
   | exact ⟨fun hd => (by cases hd), rowsIn_wide h⟩
   | exact h.elim
 | halt x w => cases x <;> first | exact h | exact h.elim
theorem upon_wide {n : Nat} {r : Result Next} (h : o.upon P a next Q r) : o.uponIn Fence.wide n P a next Q r := by
 cases r with
 | ok x w =>
  cases x <;> first
   | exact h
   | exact ⟨fun hd => (by cases hd), callsIn_wide.2 h⟩
   | exact ⟨fun hd => (by cases hd), rowsIn_wide h⟩
   | exact h.elim
 | halt x w => cases x <;> first | exact h | exact h.elim
theorem vop_plain {isLoc : Nat → Bool} {call : CallH} {ρ : List LV} {L : Locs} {h : Heap} {K : KO} (hk : vop P isLoc call o ρ L h K) : ∀ c, o.op ≠ .defer c := by
 intro c hc
 unfold vop at hk
 rw [hc] at hk
 exact hk
theorem inOK_round {l n : Nat} {μ0 : Ren} {h0 : Heap} {w0 : World} : InOK P (Fence.wide.inRound l) n (AC P) μ0 h0 w0 := ⟨fun _ => trivial, fun R E hk hn => by
 refine ⟨fun _ _ => trivial, ?_⟩
 rw [Oper.semAt_plain _ _ _ (vop_plain hk)]
 exact upon_in (vop_wp R E hk hn)⟩
theorem inOK_wide {n : Nat} {μ0 : Ren} {h0 : Heap} {w0 : World} : InOK P Fence.wide n (AC P) μ0 h0 w0 := ⟨fun _ => trivial, fun R E hk hn => by
 refine ⟨fun _ _ => trivial, ?_⟩
 rw [Oper.semAt_plain _ _ _ (vop_plain hk)]
 exact upon_wide (vop_wp R E hk hn)⟩
end
namespace In
section
variable {P : Program} {F : Fence} {n0 : Nat} {call : CallH} {μ0 : Ren} {h0 : Heap} {w0 : World} (C : InOK P F n0 call μ0 h0 w0)
include C
theorem vops_wp {isLoc : Nat → Bool} {ops : Array Oper} {ws : List Nat} (hws : ∀ (i : Nat) (o : Oper) (d : Nat), ops[i]? = some o → o.dst = some d → d ∈ ws) {Q : Exit → Act → World → Prop} :
  ∀ (is : List Nat) (st : St) (K : St → Prop) (μ : Ren) (lam : List Nat) (a : Act) (w : World), vops P isLoc call ops is st K → Rel μ0 h0 w0 μ lam st.L st.h w → EnvRel μ lam st.ρ a.tmps →
   (∀ st' a' w' μ' lam', K st' → Post μ0 h0 w0 μ lam a ws st' a' w' μ' lam' → Q .normal a' w') → wpOpsIn F n0 P ops Q is a w
 | [], st, K, μ, lam, a, w, hk, R, E, hq => hq _ _ _ _ _ hk (Post.start R E ws)
 | i :: is, st, K, μ, lam, a, w, hk, R, E, hq => by
  simp only [vops] at hk
  split at hk
  ·exact hk.elim
  ·rename_i o ho
   simp only [wpOpsIn, ho]
   have fin : ∀ (lv : LV) (L' : Locs) (h' : Heap) (μ' : Ren) (lam' : List Nat) (v : Value) (w' : World), vops P isLoc call ops is (st.put o.dst lv L' h') K → Rel μ0 h0 w0 μ' lam' L' h' w' → Ren.le μ μ' → lamLe lam lam' → lv.rel μ' lam' v →
     wpOpsIn F n0 P ops Q is (a.put o.dst v) w' := by
    intro lv L' h' μ' lam' v w' hk' R' h1 h2 hv
    have E' := (E.mono h1 h2).put (d := o.dst) hv
    refine vops_wp hws is _ K μ' lam' _ _ hk' R' E' fun st2 a2 w2 μ2 lam2 hK p => hq _ _ _ μ2 lam2 hK ?_
    have p1 : Post μ0 h0 w0 μ lam a ws (st.put o.dst lv L' h') (a.put o.dst v) w' μ' lam' :=
     ⟨R', E', h1, h2, put_defers, put_size, fun t ht => put_keep fun hd => ht (hws i o t ho hd)⟩
    exact p1.trans p (fun _ h => h) (fun _ h => h)
   rcases vguarded_elim hk with ⟨hg, hk⟩ | ⟨hg, hk⟩
   ·rw [if_pos (wanted_of E hg)]
    exact C.op R E hk fun lv L' h' μ' lam' v w' a1 a2 a3 a4 a5 => fin lv L' h' μ' lam' v w' a1 a2 a3 a4 a5
   ·rw [if_neg (by rw [wanted_of E hg]; simp)]
    exact ⟨fun f _ => C.fn f, fin .und _ _ μ lam undef w hk R (.refl _) (lamLe.refl _) und_rel⟩
def DrawOK (P : Program) (F : Fence) (n0 : Nat) (μ0 : Ren) (h0 : Heap) (w0 : World) (draw : DrawH) : Prop :=
 ∀ (id : Nat) (ops : Array Oper) (st : St) (K : St → Prop) (μ : Ren) (lam : List Nat) (a : Act) (w : World), draw id ops st K →
  Rel μ0 h0 w0 μ lam st.L st.h w → EnvRel μ lam st.ρ a.tmps → (Code.region id ops true).wpIn F n0 P (CPost μ0 h0 w0 μ lam a (writes (.region id ops true)) fun e st' => e = .normal ∧ K st') a w
theorem vg_wp {isLoc : Nat → Bool} {ops : Array Oper} {i : Nat} {o : Oper} {ρ : List LV} {L : Locs} {h : Heap} {K : KO} {μ : Ren} {lam : List Nat} {a : Act} {w : World} {next : Act → World → Prop} {Q : Exit → Act → World → Prop} (ho : ops[i]? = some o)
  (R : Rel μ0 h0 w0 μ lam L h w) (E : EnvRel μ lam ρ a.tmps) (hk : vg P isLoc call ops o ρ L h K) (hn : NextOK μ0 h0 w0 μ lam K o.dst a next) : wpOpIn F n0 P ops Q i next a w := by
 unfold wpOpIn
 simp only [ho]
 unfold vg at hk
 split at hk
 ·exact hk.elim
 ·rename_i b hb
  rcases vif_elim hk with ⟨rfl, hk⟩ | ⟨rfl, hk⟩
  ·rw [if_pos (wanted_of E hb)]
   exact C.op R E hk hn
  ·rw [if_neg (by rw [wanted_of E hb]; simp)]
   exact ⟨fun f _ => C.fn f, hn .und L h μ lam undef w hk R (.refl _) (lamLe.refl _) und_rel⟩
end
section
variable {P : Program} {F : Fence} {n0 : Nat} {call : CallH} {μ0 : Ren} {h0 : Heap} {w0 : World} {isLoc : Nat → Bool} {ops : Array Oper}
def Own (P : Program) (call : CallH) (isLoc : Nat → Bool) (ops : Array Oper) (i : Nat) (st : St) : Prop :=
 ∃ o, ops[i]? = some o ∧ cls P o ≠ 0 ∧ ∃ lv, vg P isLoc call ops o st.ρ st.L st.h (Same lv st.L st.h) ∧ ∀ d, o.dst = some d → st.ρ.set d lv = st.ρ
structure DInv (P : Program) (call : CallH) (μ0 : Ren) (h0 : Heap) (w0 : World) (isLoc : Nat → Bool) (ops : Array Oper) (ws : List Nat) (μ : Ren) (lam : List Nat) (a : Act)
  (lA : List Nat) (st : St) (lR : Array Bool) (ρR : List LV) (a' : Act) (w' : World) (μ' : Ren) (lam' : List Nat) : Prop where
 size : lR.size = ops.size
 sub : ∀ i, Lr lR i → i ∈ lA
 clA : ∀ (i : Nat) (o : Oper), ops[i]? = some o → i ∈ lA → ∀ e ∈ bindsOf o, e ∈ lA
 clR : ∀ (i : Nat) (o : Oper), ops[i]? = some o → Lr lR i → ∀ e ∈ bindsOf o, Lr lR e
 owed : ∀ i, i ∈ lA → ¬ Lr lR i → Own P call isLoc ops i st
 len : ρR.length = st.ρ.length
 view : ∀ t, (∃ i o, i ∈ lA ∧ ¬ Lr lR i ∧ ops[i]? = some o ∧ o.dst = some t) ∨ ρR[t]? = st.ρ[t]?
 post : Post μ0 h0 w0 μ lam a ws ⟨ρR, st.L, st.h⟩ a' w' μ' lam'
theorem Own.put (D : OkD P ops) {i j : Nat} {o : Oper} {st : St} {lv : LV} (hO : Own P call isLoc ops j st) (ho : ops[i]? = some o) (hne : i ≠ j) (hl : ∀ d o', o.dst = some d → ops[j]? = some o' → d ∉ o'.looksAt ops) :
  Own P call isLoc ops j (st.put o.dst lv st.L st.h) := by
 obtain ⟨o', ho', hc, lv', hv, hs⟩ := hO
 refine ⟨o', ho', hc, lv', ?_, ?_⟩
 ·simp only [St.put]
  rw [vg_congr (ρ' := st.ρ)]
  ·exact hv
  ·intro t ht
   split
   ·rename_i d hd
    rw [List.getElem?_set, if_neg]
    intro h; subst h
    exact hl _ _ hd ho' ht
   ·rfl
 ·intro d' hd'
  simp only [St.put]
  split
  ·rename_i d hd
   have : d ≠ d' := by
    intro h; subst h
    exact D.dst i j o o' _ ho ho' hne hd' hd
   rw [set_comm _ _ _ this, hs d' hd']
  ·exact hs d' hd'
theorem saturate (D : OkD P ops) {rows : List Nat} {m : Nat} {ws : List Nat} {μ : Ren} {lam : List Nat} {a : Act} {lR : Array Bool} {ρR : List LV} {a' : Act} {w' : World} {μ' : Ren} {lam' : List Nat} {K : St → Prop} :
  ∀ (n : Nat) (lA : List Nat) (st : St), vany P isLoc call ops rows m n lA st K → DInv P call μ0 h0 w0 isLoc ops ws μ lam a lA st lR ρR a' w' μ' lam' →
   ∃ n' lA' st', vany P isLoc call ops rows m (n' + 1) lA' st' K ∧ DInv P call μ0 h0 w0 isLoc ops ws μ lam a lA' st' lR ρR a' w' μ' lam' ∧ readyRO P ops lA' = none
 | 0, _, _, h, _ => h.elim
 | n + 1, lA, st, h, I => by
  cases hr : readyRO P ops lA with
  | none => exact ⟨n, lA, st, h, I, hr⟩
  | some i =>
   obtain ⟨hni, o, ho, hc, hb⟩ := readyRO_some hr
   simp only [vany, hr, ho] at h
   obtain ⟨lv, hk, hv, h1⟩ := vg_same hc (vg_of h)
   refine saturate D n _ _ hk ?_
   have hself : ∀ d, o.dst = some d → d ∉ o.looksAt ops := fun d hd => D.self i o d ho hd hc
   exact {
    size := I.size
    sub := fun k hk => List.mem_cons_of_mem _ (I.sub k hk)
    clA := by
     intro k o' ho' hk' e he
     rcases List.mem_cons.1 hk' with rfl | hk'
     ·rw [ho] at ho'; cases ho'
      exact List.mem_cons_of_mem _ (hb e he)
     ·exact List.mem_cons_of_mem _ (I.clA k o' ho' hk' e he)
    clR := I.clR
    owed := by
     intro k hk' hn
     by_cases hki : k = i
     ·subst hki
      refine ⟨o, ho, hc, lv, ?_, ?_⟩
      ·simp only [St.put]
       rw [vg_congr (ρ' := st.ρ)]
       ·exact hv
       ·intro t ht
        split
        ·rename_i d hd
         rw [List.getElem?_set, if_neg]
         intro h; subst h
         exact hself _ hd ht
        ·rfl
      ·intro d hd
       simp only [St.put, hd, List.set_set]
     ·have hkA : k ∈ lA := (List.mem_cons.1 hk').resolve_left hki
      have hO := I.owed k hkA hn
      refine hO.put D ho (Ne.symm hki) fun d o' hd ho' hl => ?_
      rcases D.look k i o' o d ho' ho hki hd hl with hbf | ⟨_, hcc⟩
      ·exact hni (hbf.closed (S := (· ∈ lA)) I.clA fun o2 ho2 e he => I.clA k o2 ho2 hkA e he)
      ·obtain ⟨o2, ho2, hc2, _⟩ := hO
       rw [ho'] at ho2; cases ho2
       exact hcc.elim hc2 hc
    len := by
     simp only [St.put]
     split <;> simp [I.len]
    view := by
     intro t
     by_cases ht : o.dst = some t
     ·exact .inl ⟨i, o, by simp, fun hl => hni (I.sub i hl), ho, ht⟩
     ·rcases I.view t with ⟨k, o', h1, h2, h3, h4⟩ | hv
      ·exact .inl ⟨k, o', List.mem_cons_of_mem _ h1, h2, h3, h4⟩
      ·refine .inr ?_
       rw [hv]
       simp only [St.put]
       split
       ·rename_i d hd
        rw [List.getElem?_set, if_neg]
        intro h; subst h; exact ht hd
       ·rfl
    post := by simpa [St.put] using I.post }
def cnt (lR : Array Bool) : Nat := (lR.toList.filter (fun b => !b)).length
theorem cnt_set {lR : Array Bool} {i : Nat} (h : lR.getD i true = false) : cnt (lR.setIfInBounds i true) + 1 = cnt lR := by
 unfold cnt
 have hi : i < lR.size := by
  rcases Nat.lt_or_ge i lR.size with h' | h'
  ·exact h'
  ·simp [Array.getElem?_eq_none h'] at h
 have key : ∀ (l : List Bool) (i : Nat), l[i]? = some false → ((l.set i true).filter (fun b => !b)).length + 1 = (l.filter (fun b => !b)).length := by
  intro l
  induction l with
  | nil => intro i h; simp at h
  | cons x l ih =>
   intro i h
   cases i with
   | zero => simp at h; subst h; simp
   | succ i =>
    simp at h
    have := ih i h
    cases x <;> simp <;> omega
 rw [Array.toList_setIfInBounds]
 refine key _ _ ?_
 simp [hi] at h ⊢
 exact h
theorem lr_set {lR : Array Bool} {i j : Nat} : Lr (lR.setIfInBounds i true) j ↔ (j = i ∧ i < lR.size) ∨ Lr lR j := by
 unfold Lr
 by_cases h : i = j
 ·subst h
  by_cases hlt : i < lR.size
  ·simp [hlt]
  ·simp [hlt]
 ·rw [getD_set_ne false h]
  constructor
  ·exact .inr
  ·rintro (⟨rfl, _⟩ | h'); exact absurd rfl h; exact h'
theorem not_lr {lR : Array Bool} {i : Nat} (h : lR.getD i true = false) : ¬ Lr lR i := by
 unfold Lr
 intro h'
 by_cases hlt : i < lR.size
 ·simp [hlt] at h h'
  rw [h] at h'; cases h'
 ·simp [hlt] at h'
theorem lr_of {lR : Array Bool} {i : Nat} (hlt : i < lR.size) (h : lR.getD i true ≠ false) : Lr lR i := by
 unfold Lr
 simp [hlt] at h ⊢
 exact h
theorem all_listed (D : OkD P ops) {lR : Array Bool} (hs : lR.size = ops.size) (h : Region.ready .any ops lR = []) : ∀ i, i < ops.size → Lr lR i := by
 intro i
 induction i using Nat.strongRecOn with
 | _ i ih =>
  intro hi
  by_cases hl : lR.getD i true = false
  ·have : i ∈ Region.ready .any ops lR := by
    refine mem_ready.2 ⟨hl, ops[i], by simp [hi], fun e he hb => ?_⟩
    have hm : e.on ∈ bindsOf ops[i] := by
     simp only [bindsOf, List.mem_map, List.mem_filter]
     exact ⟨e, ⟨by simpa using he, hb⟩, rfl⟩
    have hlt := D.lt i ops[i] (by simp [hi]) _ hm
    exact ih e.on hlt (by omega)
   rw [h] at this
   simp at this
  ·exact lr_of (by omega) hl
theorem draw_main (C : InOK P F n0 call μ0 h0 w0) (D : OkD P ops) {rows : List Nat} {m : Nat} (hrows : ∀ i j, bfBit rows m i j = true → Bf ops i j) {ws : List Nat} (hws : ∀ (i : Nat) (o : Oper) (d : Nat), ops[i]? = some o → o.dst = some d → d ∈ ws)
  {μ : Ren} {lam : List Nat} {a : Act} {K : St → Prop} {Q : Exit → Act → World → Prop}
  (hq : ∀ st' a' w' μ' lam', K st' → Post μ0 h0 w0 μ lam a ws st' a' w' μ' lam' → Q .normal a' w') :
  ∀ (fuel n : Nat) (lA : List Nat) (st : St) (lR : Array Bool) (ρR : List LV) (a' : Act) (w' : World) (μ' : Ren) (lam' : List Nat), cnt lR ≤ fuel → vany P isLoc call ops rows m n lA st K →
   DInv P call μ0 h0 w0 isLoc ops ws μ lam a lA st lR ρR a' w' μ' lam' → wpAnyIn F n0 P .any ops Q fuel lR a' w' := by
 have fin : ∀ (n : Nat) (lA : List Nat) (st : St) (lR : Array Bool) (ρR : List LV) (a' : Act) (w' : World) (μ' : Ren) (lam' : List Nat), vany P isLoc call ops rows m n lA st K →
   DInv P call μ0 h0 w0 isLoc ops ws μ lam a lA st lR ρR a' w' μ' lam' → Region.ready .any ops lR = [] → Q .normal a' w' := by
  intro n lA st lR ρR a' w' μ' lam' hv I hr
  obtain ⟨n, lA, st, hv, I, hro⟩ := saturate D n lA st hv I
  have hall := all_listed D I.size hr
  have hE : readyE ops lA = [] := by
   unfold readyE
   rw [List.filter_eq_nil_iff]
   intro i hi
   have : i ∈ lA := I.sub i (hall i (List.mem_range.1 hi))
   simp [this]
  simp only [vany, hro, hE] at hv
  obtain ⟨_, hk⟩ := need_elim hv
  have hρ : ρR = st.ρ := by
   refine List.ext_getElem? fun t => ?_
   rcases I.view t with ⟨i, o, _, h2, h3, _⟩ | h
   ·exact absurd (hall i (Array.getElem?_eq_some_iff.1 h3).1) h2
   ·exact h
  refine hq st a' w' μ' lam' hk ?_
  have := I.post
  rw [hρ] at this
  exact this
 intro fuel
 induction fuel with
 | zero =>
  intro n lA st lR ρR a' w' μ' lam' hc hv I
  have hr : Region.ready .any ops lR = [] := by
   refine List.eq_nil_iff_forall_not_mem.2 fun i hi => ?_
   have := cnt_set (mem_ready.1 hi).1
   omega
  exact ⟨hr, fin _ _ _ _ _ _ _ _ _ hv I hr⟩
 | succ fuel ih =>
  intro n lA st lR ρR a' w' μ' lam' hc hv I
  refine ⟨fin _ _ _ _ _ _ _ _ _ hv I, fun i hi => ?_⟩
  obtain ⟨n, lA, st, hv, I, hro⟩ := saturate D n lA st hv I
  obtain ⟨hun, o, ho, haft⟩ := mem_ready.1 hi
  have hnl := not_lr hun
  have hisz : i < lR.size := by rw [I.size]; exact (Array.getElem?_eq_some_iff.1 ho).1
  have hbR : ∀ e ∈ bindsOf o, Lr lR e := by
   intro e he
   simp only [bindsOf, List.mem_map, List.mem_filter] at he
   obtain ⟨x, ⟨hx, hb⟩, rfl⟩ := he
   exact haft x (by simpa using hx) hb
  have hbfR : ∀ j, Bf ops i j → Lr lR j := fun j hb => hb.closed (S := Lr lR) I.clR fun o2 ho2 e he => by
   rw [ho] at ho2; cases ho2; exact hbR e he
  have hcnt : cnt (lR.setIfInBounds i true) ≤ fuel := by have := cnt_set hun; omega
  have clR' : ∀ (k : Nat) (o' : Oper), ops[k]? = some o' → Lr (lR.setIfInBounds i true) k → ∀ e ∈ bindsOf o', Lr (lR.setIfInBounds i true) e := by
   intro k o' ho' hk e he
   rw [lr_set] at hk ⊢
   rcases hk with ⟨rfl, _⟩ | hk
   ·rw [ho] at ho'; cases ho'; exact .inr (hbR e he)
   ·exact .inr (I.clR k o' ho' hk e he)
  by_cases hiA : i ∈ lA
  ·
   obtain ⟨o2, ho2, hcls, lv, hvg, hset⟩ := I.owed i hiA hnl
   rw [ho] at ho2; cases ho2
   have hcong : ∀ t ∈ o.looksAt ops, ρR[t]? = st.ρ[t]? := by
    intro t ht
    rcases I.view t with ⟨k, o', h1, h2, h3, h4⟩ | h
    ·exfalso
     by_cases hki : k = i
     ·subst hki
      rw [ho] at h3; cases h3
      exact D.self k o t ho h4 hcls ht
     ·rcases D.look i k o o' t ho h3 (Ne.symm hki) h4 ht with hbf | ⟨_, hcc⟩
      ·exact h2 (hbfR k hbf)
      ·obtain ⟨o3, ho3, hc3, _⟩ := I.owed k h1 h2
       rw [h3] at ho3; cases ho3
       exact hcc.elim hcls hc3
    ·exact h
   rw [← vg_congr hcong] at hvg
   refine vg_wp C ho I.post.rel I.post.env hvg ?_
   intro lv' L' h' μ2 lam2 v w2 hsame R2 hle hlle hrel
   obtain ⟨rfl, rfl, rfl⟩ := hsame
   have E2 := (I.post.env.mono hle hlle).put (d := o.dst) hrel
   have p1 : Post μ0 h0 w0 μ' lam' a' ws ⟨match o.dst with | some d => ρR.set d lv' | none => ρR, st.L, st.h⟩ (a'.put o.dst v) w2 μ2 lam2 :=
    ⟨R2, E2, hle, hlle, put_defers, put_size, fun t ht => put_keep fun hd => ht (hws i o t ho hd)⟩
   refine ih (n + 1) lA st _ _ _ _ μ2 lam2 hcnt hv {
    size := by simpa using I.size
    sub := by
     intro k hk
     rcases lr_set.1 hk with ⟨rfl, _⟩ | hk
     ·exact hiA
     ·exact I.sub k hk
    clA := I.clA
    clR := clR'
    owed := fun k hk hn => I.owed k hk fun h => hn (lr_set.2 (.inr h))
    len := by split <;> simp [I.len]
    view := by
     intro t
     by_cases ht : o.dst = some t
     ·refine .inr ?_
      rw [ht]
      have := hset t ht
      simp only
      rw [← this, List.getElem?_set, List.getElem?_set]
      simp [I.len]
     ·rcases I.view t with ⟨k, o', h1, h2, h3, h4⟩ | h
      ·refine .inl ⟨k, o', h1, fun hl => ?_, h3, h4⟩
       rcases lr_set.1 hl with ⟨rfl, _⟩ | hl
       ·rw [ho] at h3; cases h3; exact ht h4
       ·exact h2 hl
      ·refine .inr ?_
       rw [← h]
       split
       ·rename_i d hd
        rw [List.getElem?_set, if_neg]
        intro h; subst h; exact ht hd
       ·rfl
    post := I.post.trans p1 (fun _ h => h) (fun _ h => h) }
  ·
   have hiE : i ∈ readyE ops lA := by
    unfold readyE
    simp only [List.mem_filter, List.mem_range, Bool.and_eq_true, Bool.not_eq_true', List.contains_eq_mem, decide_eq_false_iff_not, ho, List.all_eq_true, decide_eq_true_eq]
    exact ⟨by rw [← I.size]; exact hisz, hiA, fun e he => I.sub e (hbR e he)⟩
   simp only [vany, hro] at hv
   have hvi : vg P isLoc call ops o st.ρ st.L st.h fun v L h => rechks P isLoc call ops (st.put o.dst v L h) (vany P isLoc call ops rows m n (i :: lA) (st.put o.dst v L h) K) (toCheck P ops rows m lA i) := by
    cases hE : readyE ops lA with
    | nil => rw [hE] at hiE; simp at hiE
    | cons j js =>
     rw [hE] at hv hiE
     have := vall_mem hv i hiE
     simp only [ho] at this
     exact vg_of this
   have hcong : ∀ t ∈ o.looksAt ops, ρR[t]? = st.ρ[t]? := by
    intro t ht
    rcases I.view t with ⟨k, o', h1, h2, h3, h4⟩ | h
    ·exfalso
     have hki : k ≠ i := by rintro rfl; exact hiA h1
     rcases D.look i k o o' t ho h3 (Ne.symm hki) h4 ht with hbf | ⟨hbf, _⟩
     ·exact h2 (hbfR k hbf)
     ·exact hiA (hbf.closed (S := (· ∈ lA)) I.clA fun o2 ho2 e he => I.clA k o2 ho2 h1 e he)
    ·exact h
   rw [← vg_congr hcong] at hvi
   refine vg_wp C ho I.post.rel I.post.env hvi ?_
   intro lv L' h' μ2 lam2 v w2 hk R2 hle hlle hrel
   obtain ⟨hk, hre⟩ := rechks_elim hk
   have E2 := (I.post.env.mono hle hlle).put (d := o.dst) hrel
   have p1 : Post μ0 h0 w0 μ' lam' a' ws ⟨match o.dst with | some d => ρR.set d lv | none => ρR, L', h'⟩ (a'.put o.dst v) w2 μ2 lam2 :=
    ⟨R2, E2, hle, hlle, put_defers, put_size, fun t ht => put_keep fun hd => ht (hws i o t ho hd)⟩
   refine ih n (i :: lA) (st.put o.dst lv L' h') _ _ _ _ μ2 lam2 hcnt hk {
    size := by simpa using I.size
    sub := by
     intro k hk
     rcases lr_set.1 hk with ⟨rfl, _⟩ | hk
     ·simp
     ·exact List.mem_cons_of_mem _ (I.sub k hk)
    clA := by
     intro k o' ho' hk' e he
     rcases List.mem_cons.1 hk' with rfl | hk'
     ·rw [ho] at ho'; cases ho'
      exact List.mem_cons_of_mem _ (I.sub e (hbR e he))
     ·exact List.mem_cons_of_mem _ (I.clA k o' ho' hk' e he)
    clR := clR'
    owed := by
     intro k hk' hn
     have hki : k ≠ i := by rintro rfl; exact hn (lr_set.2 (.inl ⟨rfl, hisz⟩))
     have hkA : k ∈ lA := (List.mem_cons.1 hk').resolve_left hki
     have hkR : ¬ Lr lR k := fun h => hn (lr_set.2 (.inr h))
     have hO := I.owed k hkA hkR
     have hlook : ∀ d o', o.dst = some d → ops[k]? = some o' → d ∉ o'.looksAt ops := by
      intro d o' hd ho' hl
      rcases D.look k i o' o d ho' ho hki hd hl with hbf | ⟨hbf, _⟩
      ·exact hiA (hbf.closed (S := (· ∈ lA)) I.clA fun o2 ho2 e he => I.clA k o2 ho2 hkA e he)
      ·exact hkR (hbfR k hbf)
     have hO2 := hO.put D (lv := lv) ho (Ne.symm hki) hlook
     obtain ⟨o', ho', hc, lv2, hv2, hs2⟩ := hO2
     have hst : (st.put o.dst lv L' h').ρ = (st.put o.dst lv st.L st.h).ρ := rfl
     by_cases hc1 : cls P o' = 1
     ·obtain ⟨lv3, ⟨h1, _, _⟩, _, h3⟩ := vg_same hc hv2
      subst h1
      exact ⟨o', ho', hc, lv3, h3 hc1 _ _, hs2⟩
     ·by_cases hc2 : cls P o' = 2
      ·have hm : k ∈ toCheck P ops rows m lA i := by
        unfold toCheck
        rw [List.mem_filter]
        refine ⟨hkA, ?_⟩
        simp only [ho', hc2, beq_self_eq_true, Bool.true_and, Bool.not_eq_true']
        cases hbit : bfBit rows m i k with
        | false => rfl
        | true => exact absurd (hbfR k (hrows _ _ hbit)) hkR
       have := hre k hm
       unfold rechk1 at this
       simp only [ho'] at this
       obtain ⟨lv3, h1, h2, _⟩ := vg_same hc this
       refine ⟨o', ho', hc, lv3, h2, fun d hd => ?_⟩
       simp only [hd] at h1
       rw [h1]
       refine List.ext_getElem? fun t => ?_
       rw [List.getElem?_set]
       split
       ·rename_i hdt
        subst hdt
        split
        ·rename_i hlt
         simp [List.getD, hlt]
        ·rename_i hlt
         simp [List.getElem?_eq_none (Nat.le_of_not_lt hlt)]
       ·rfl
      ·exfalso
       have : cls P o' = 0 ∨ cls P o' = 1 ∨ cls P o' = 2 := by
        unfold cls
        repeat' split
        all_goals simp
       rcases this with h | h | h
       ·exact hc h
       ·exact hc1 h
       ·exact hc2 h
    len := by
     simp only [St.put]
     cases o.dst <;> simp [I.len]
    view := by
     intro t
     rcases I.view t with ⟨k, o', h1, h2, h3, h4⟩ | h
     ·refine .inl ⟨k, o', List.mem_cons_of_mem _ h1, fun hl => ?_, h3, h4⟩
      rcases lr_set.1 hl with ⟨rfl, _⟩ | hl
      ·exact hiA h1
      ·exact h2 hl
     ·refine .inr ?_
      simp only [St.put]
      split
      ·rename_i d hd
       simp only [hd]
       rw [List.getElem?_set, List.getElem?_set, h, I.len]
      ·rename_i hd
       simp only [hd]
       exact h
    post := I.post.trans p1 (fun _ h => h) (fun _ h => h) }
theorem vdraw_ok (C : InOK P F n0 call μ0 h0 w0) {isLoc : Nat → Bool} : DrawOK P F n0 μ0 h0 w0 (vdraw P isLoc call) := by
 intro id ops st K μ lam a w hk R E
 unfold vdraw at hk
 obtain ⟨rows, m, he, hrows⟩ := bfRows_ok (ops := ops) (k := fun rows m => need (okDraw P ops rows m) (vany P isLoc call ops rows m (ops.size + 1) [] st K)) ops.toList 0 [] rfl rfl (by
  intro i j h; simp [bfBit, rowAt] at h)
 rw [he] at hk
 obtain ⟨hd, hk⟩ := need_elim hk
 have D := okD_of hrows hd
 refine wpIn_region_any D.mixed ?_
 have Rd : Rel μ0 h0 w0 μ lam st.L st.h { w with drawn := w.drawn + 1 } := R.drawn rfl rfl rfl rfl
 refine draw_main C (μ := μ) (lam := lam) (a := a) (ws := writes (.region id ops true)) D hrows (region_ws id true) (fun st' a' w' μ' lam' hK p => ⟨st', μ', lam', ⟨rfl, hK⟩, p⟩) ops.size (ops.size + 1) [] st _ st.ρ a _ μ lam ?_ hk ?_
 ·have : ∀ n, ((List.replicate n false).filter (fun b => !b)).length = n := by intro n; simp
  simp [cnt]
 ·have nl : ∀ i, ¬ Lr (Array.replicate ops.size false) i := by
   intro i h
   unfold Lr at h
   by_cases hlt : i < ops.size
   ·simp [hlt] at h
   ·simp [hlt] at h
  exact {
   size := by simp
   sub := fun i h => absurd h (nl i)
   clA := fun i o _ h => absurd h (by simp)
   clR := fun i o _ h => absurd h (nl i)
   owed := fun i h => absurd h (by simp)
   len := rfl
   view := fun t => .inr rfl
   post := Post.start Rd E _ }
def flat : Code → Bool
 | .scope _ => false
 | .seq a b => flat a && flat b
 | .cond _ a b => flat a && flat b
 | .block _ a => flat a
 | .loop a => flat a
 | _ => true
theorem flat_seq {a b : Code} (h : flat (.seq a b) = true) : flat a = true ∧ flat b = true := by simpa [flat] using h
theorem flat_cond {c : Operand} {a b : Code} (h : flat (.cond c a b) = true) : flat a = true ∧ flat b = true := by simpa [flat] using h
theorem vcode_wp (C : InOK P F n0 call μ0 h0 w0) {H : Hints} {draw : DrawH} (hdraw : DrawOK P F n0 μ0 h0 w0 draw) : ∀ (c : Code) (cur : Nat) (st : St) (Q : Exit → St → Prop) (μ : Ren) (lam : List Nat) (a : Act) (w : World),
  vcode P H call draw c cur st Q → Rel μ0 h0 w0 μ lam st.L st.h w → EnvRel μ lam st.ρ a.tmps → flat c = true → c.wpIn F n0 P (CPost μ0 h0 w0 μ lam a (writes c) Q) a w
 | .skip, cur, st, Q, μ, lam, a, w, hk, R, E, hf => wpIn_skip ⟨st, μ, lam, hk, Post.start R E _⟩
 | .region id ops false, cur, st, Q, μ, lam, a, w, hk, R, E, hf =>
  wpIn_region (vops_wp C (region_ws id false) _ st _ μ lam a w hk R E fun st' a' w' μ' lam' hK p => ⟨st', μ', lam', hK, p⟩)
 | .region id ops true, cur, st, Q, μ, lam, a, w, hk, R, E, hf =>
  wpIn_mono (hdraw id ops st _ μ lam a w hk R E) fun e a' w' ⟨st', μ', lam', ⟨he, hK⟩, p⟩ => ⟨st', μ', lam', he ▸ hK, p⟩
 | .seq x y, cur, st, Q, μ, lam, a, w, hk, R, E, hf => by
  refine wpIn_seq (wpIn_mono (vcode_wp C hdraw x cur st _ μ lam a w hk R E (flat_seq hf).1) fun e a' w' ⟨st', μ', lam', hq, p⟩ => ?_)
  cases e with
  | normal =>
   refine wpIn_mono (vcode_wp C hdraw y cur st' Q μ' lam' a' w' hq p.rel p.env (flat_seq hf).2) fun e2 a2 w2 ⟨st2, μ2, lam2, hq2, p2⟩ => ?_
   exact ⟨st2, μ2, lam2, hq2, p.trans p2 (fun t ht => by simp [writes, ht]) (fun t ht => by simp [writes, ht])⟩
  | _ => exact ⟨st', μ', lam', hq, p.weaken fun t ht => by simp [writes, ht]⟩
 | .cond c x y, cur, st, Q, μ, lam, a, w, hk, R, E, hf => by
  simp only [vcode] at hk
  split at hk
  ·rename_i t ht
   have hv : a.eval c = _ := E.val ht
   rcases vif_elim hk with ⟨rfl, hk⟩ | ⟨rfl, hk⟩ <;> rw [setC_same ht] at hk
   ·exact wpIn_cond_true hv (wpIn_mono (vcode_wp C hdraw x cur st Q μ lam a w hk R E (flat_cond hf).1) fun e a' w' ⟨st', μ', lam', hq, p⟩ => ⟨st', μ', lam', hq, p.weaken fun t ht => by simp [writes, ht]⟩)
   ·exact wpIn_cond_false hv (wpIn_mono (vcode_wp C hdraw y cur st Q μ lam a w hk R E (flat_cond hf).2) fun e a' w' ⟨st', μ', lam', hq, p⟩ => ⟨st', μ', lam', hq, p.weaken fun t ht => by simp [writes, ht]⟩)
  ·exact hk.elim
 | .block id body, cur, st, Q, μ, lam, a, w, hk, R, E, hf => by
  simp only [vcode] at hk
  split at hk
  ·refine wpIn_block (wpIn_mono (vcode_wp C hdraw body id st _ μ lam a w hk R E hf) fun e a' w' ⟨st', μ', lam', hq, p⟩ => ?_)
   cases e with
   | exit i =>
    simp only at hq
    show Exit.inBlock id _ (.exit i) a' w'
    simp only [Exit.inBlock]
    split at hq
    ·rename_i hi
     rw [if_pos (by simpa using hi)]
     exact ⟨st', μ', lam', hq, p⟩
    ·rename_i hi
     rw [if_neg (by simpa using hi)]
     exact ⟨st', μ', lam', hq, p⟩
   | _ => exact ⟨st', μ', lam', hq, p⟩
  ·rename_i c hc
   obtain ⟨hl0, J, hbody, hrest⟩ := need_elim hk
   obtain ⟨lv0, hl0⟩ := Option.isSome_iff_exists.1 hl0
   refine wpIn_block (wpIn_mono (vcode_wp C hdraw body id st _ μ lam a w hbody R E hf) fun e a' w' ⟨st2, μ2, lam2, hq, p2⟩ => ?_)
   have join : (match carry c.info st2 with | some xs => need (sameShapes c.kinds xs) (keepL c.info.mods st.L st2.L st.L.length ∧ J xs st2.h) | none => False) →
     CPost μ0 h0 w0 μ lam a (writes body) Q .normal a' w' := by
    intro hq
    split at hq
    ·rename_i xs' hxs'
     obtain ⟨hsh', hkeep, hJ⟩ := need_elim hq
     obtain ⟨sv, lv, hs, hl, hx, hn⟩ := carry_parts hxs'
     have e1 : xs'.take c.info.slots.length = sv := by rw [hx, ← hn]; simp
     have e2 : xs'.drop c.info.slots.length = lv := by rw [hx, ← hn]; simp
     obtain ⟨g1, g2⟩ := cut_locs hl0 hl hkeep
     have hle2 : st.L.length ≤ st2.L.length := keepL_le hkeep
     have hlam : lam2.take st.L.length = lam := by
      have hlen0 : lam.length = st.L.length := R.locs.len
      apply List.ext_getElem?
      intro k
      rw [List.getElem?_take]
      split
      ·rename_i hk
       have hkl : k < lam.length := by omega
       rw [p2.lle k lam[k] (by simp [hkl])]
       simp [hkl]
      ·rw [List.getElem?_eq_none (by omega)]
     have RF := p2.rel.forget (L1 := (headSt c.info (writes body) st xs' st2.h).L) (n := st.L.length) (by simp only [headSt]; rw [e2]; exact g1) hle2 (fun k hk => by simp only [headSt]; rw [e2]; exact g2 k hk)
     rw [hlam] at RF
     refine ⟨headSt c.info (writes body) st xs' st2.h, μ2, lam, allL_inst hrest hsh' st2.h hJ, ⟨RF, ?_, p2.le, lamLe.refl _, p2.defers, p2.size, p2.keep⟩⟩
     refine head_env E p2.size p2.le (lamLe.refl _) p2.keep fun j s v hj hv => ?_
     rw [e1] at hv
     exact p2.env.get s _ ((slotVals_get hs).2 j s v hj hv)
    ·exact hq.elim
   cases e with
   | exit i =>
    simp only at hq
    show Exit.inBlock id _ (.exit i) a' w'
    simp only [Exit.inBlock]
    split at hq
    ·rename_i hi
     rw [if_pos (by simpa using hi)]
     exact join hq
    ·rename_i hi
     rw [if_neg (by simpa using hi)]
     exact ⟨st2, μ2, lam2, hq, p2⟩
   | normal => exact join hq
   | _ => exact ⟨st2, μ2, lam2, hq, p2⟩
 | .loop body, cur, st, Q, μ, lam, a, w, hk, R, E, hf => by
  simp only [vcode] at hk
  split at hk
  ·exact hk.elim
  ·rename_i xs0 hxs0
   obtain ⟨hsh0, I, m, hI0, hround⟩ := need_elim hk
   obtain ⟨sv0, lv0, hs0, hl0, hx0, hn0⟩ := carry_parts hxs0
   have hlen0 : lam.length = st.L.length := R.locs.len
   have headL : ∀ {L' : Locs} {lv : List AV}, locVals L' (H.loops cur).mods = some lv → keepL (H.loops cur).mods st.L L' st.L.length →
     (setLocs st.L (H.loops cur).mods lv).length = st.L.length ∧ ∀ k, k < st.L.length → (setLocs st.L (H.loops cur).mods lv)[k]? = L'[k]? := by
    intro L' lv hlv hkeep
    have hk := keepL_get hkeep
    obtain ⟨g1, g2⟩ := locVals_setLocs hlv (fun k hkm => by
     obtain ⟨c0, hc0⟩ := locVals_mem hl0 k hkm
     rcases hk k (lt_of_get hc0) with ⟨_, c, c0', e1, e2, e3⟩ | ⟨hn, _⟩
     ·exact ⟨c0', c, e2, e1, e3⟩
     ·exact absurd hkm hn)
    refine ⟨g1, fun k hkl => ?_⟩
    rw [g2 k]
    split
    ·rfl
    ·rename_i hkm
     rcases hk k hkl with ⟨hm, _⟩ | ⟨_, e⟩
     ·exact absurd hm hkm
     ·exact e.symm
   have keep0 : ∀ n, n ≤ st.L.length → keepL (H.loops cur).mods st.L st.L n := by
    intro n
    induction n with
    | zero => intro _; trivial
    | succ n ih =>
     intro hn
     refine ⟨?_, ih (by omega)⟩
     have hget : st.L[n]? = some st.L[n] := by simp
     split
     ·rw [hget]; simp [need]
     ·rfl
   refine wpIn_loop_ghost (G := List AV × Heap × Ren)
    (fun g a1 w1 => I g.1 g.2.1 ∧ sameShapes xs0 g.1 = true ∧ Post μ0 h0 w0 μ lam a (writes body) (headSt (H.loops cur) (writes body) st g.1 g.2.1) a1 w1 g.2.2 lam)
    (fun g => m g.1 g.2.1) ?_ (xs0, st.h, μ) a w ⟨hI0, ?_, ?_⟩
   ·rintro ⟨xs, h, μ1⟩ a1 w1 ⟨hI, hsh, p⟩
    have hr := allL_inst hround hsh h hI
    refine wpIn_mono (vcode_wp C hdraw body cur _ _ μ1 lam a1 w1 hr p.rel p.env hf) fun e a2 w2 ⟨st2, μ2, lam2, hq, p2⟩ => ?_
    have pt := p.trans p2 (fun _ h => h) (fun _ h => h)
    cases e with
    | normal =>
     simp only at hq
     split at hq
     ·rename_i xs' hxs'
      obtain ⟨hsh', hkeep, hI', hm'⟩ := need_elim hq
      obtain ⟨sv, lv, hs, hl, hx, hn⟩ := carry_parts hxs'
      have e1 : xs'.take (H.loops cur).slots.length = sv := by rw [hx, ← hn]; simp
      have e2 : xs'.drop (H.loops cur).slots.length = lv := by rw [hx, ← hn]; simp
      obtain ⟨g1, g2⟩ := headL hl hkeep
      have hle2 : st.L.length ≤ st2.L.length := by
       rcases Nat.eq_zero_or_pos st.L.length with h0 | hpos
       ·omega
       ·rcases keepL_get hkeep (st.L.length - 1) (by omega) with ⟨_, c, c0, k1, _, _⟩ | ⟨_, k1⟩
        ·have := lt_of_get k1; omega
        ·have : st.L[st.L.length - 1]? = some st.L[st.L.length - 1] := by simp
         rw [this] at k1
         have := lt_of_get k1; omega
      have hlam : lam2.take st.L.length = lam := by
       apply List.ext_getElem?
       intro k
       rw [List.getElem?_take]
       split
       ·rename_i hk
        have hkl : k < lam.length := by omega
        rw [pt.lle k lam[k] (by simp [hkl])]
        simp [hkl]
       ·rw [List.getElem?_eq_none (by omega)]
      have RF := p2.rel.forget (L1 := (headSt (H.loops cur) (writes body) st xs' st2.h).L) (n := st.L.length) (by simp only [headSt]; rw [e2]; exact g1) hle2 (fun k hk => by simp only [headSt]; rw [e2]; exact g2 k hk)
      rw [hlam] at RF
      refine ⟨(xs', st2.h, μ2), ⟨hI', hsh', ⟨RF, ?_, pt.le, lamLe.refl _, pt.defers, pt.size, pt.keep⟩⟩, hm'⟩
      refine head_env E pt.size pt.le (lamLe.refl _) pt.keep fun j s v hj hv => ?_
      rw [e1] at hv
      have := (slotVals_get hs).2 j s v hj hv
      exact p2.env.get s _ this
     ·exact hq.elim
    | _ => exact ⟨st2, μ2, lam2, hq, pt⟩
   ·exact hsh0
   ·have e1 : xs0.take (H.loops cur).slots.length = sv0 := by rw [hx0, ← hn0]; simp
    have e2 : xs0.drop (H.loops cur).slots.length = lv0 := by rw [hx0, ← hn0]; simp
    obtain ⟨g1, g2⟩ := headL hl0 (keep0 _ (Nat.le_refl _))
    have hLeq : (headSt (H.loops cur) (writes body) st xs0 st.h).L = st.L := by
     simp only [headSt]
     rw [e2]
     apply List.ext_getElem?
     intro k
     rcases Nat.lt_or_ge k st.L.length with hk | hk
     ·exact g2 k hk
     ·rw [List.getElem?_eq_none (by omega), List.getElem?_eq_none hk]
    refine ⟨by rw [hLeq]; exact R, ?_, .refl _, lamLe.refl _, rfl, rfl, fun _ _ => rfl⟩
    refine head_env E rfl (.refl _) (lamLe.refl _) (fun _ _ => rfl) fun j s v hj hv => ?_
    rw [e1] at hv
    exact E.get s _ ((slotVals_get hs0).2 j s v hj hv)
 | .exit id, cur, st, Q, μ, lam, a, w, hk, R, E, hf => wpIn_exit ⟨st, μ, lam, hk, Post.start R E _⟩
 | .ret, cur, st, Q, μ, lam, a, w, hk, R, E, hf => wpIn_ret ⟨st, μ, lam, hk, Post.start R E _⟩
 | .rangeFunc .., cur, st, Q, μ, lam, a, w, hk, R, E, hf => hk.elim
 | .scope body, cur, st, Q, μ, lam, a, w, hk, R, E, hf => by cases hf
 | .label _, cur, st, Q, μ, lam, a, w, hk, R, E, hf => wpIn_label ⟨st, μ, lam, hk, Post.start R E _⟩
 | .goto _, cur, st, Q, μ, lam, a, w, hk, R, E, hf => hk.elim
 | .refuse _, cur, st, Q, μ, lam, a, w, hk, R, E, hf => hk.elim
end
end In
end Go.Ab
