import Derived.Test.YtjackggnnjdhmaaGreatDoorCG5
import Derived.Test.YtjackggnnjdhmaaGreatDoorCG8
import Derived.OrdersIn
import Derived.OwnWalkIn
import Derived.RangeFuncRecord
import Derived.RangeFuncLeaves
import Derived.RangeFuncSeq
import Derived.Deep.Slices
import Derived.Deep.Strs
namespace Go.Ab
set_option linter.unusedSimpArgs false
set_option linter.unusedVariables false
theorem wpIn_loop_ghost {F : Fence} {n : Nat} {P : Program} {G : Type} {Q : Exit → Act → World → Prop} {c : Code} (I : G → Act → World → Prop) (m : G → Nat)
  (round : ∀ g a w, I g a w → c.wpIn F n P (Exit.then (fun a' w' => ∃ g', I g' a' w' ∧ m g' < m g) Q) a w) (g : G) (a : Act) (w : World) (h : I g a w) : (Code.loop c).wpIn F n P Q a w := by
 have least : ∀ a w, (∃ g, I g a w) → ∃ g, I g a w ∧ ∀ g', I g' a w → m g ≤ m g' := by
  intro a w ⟨g, hg⟩
  have key : ∀ k g, m g = k → I g a w → ∃ g, I g a w ∧ ∀ g', I g' a w → m g ≤ m g' := by
   intro k
   induction k using Nat.strongRecOn with
   | _ k ih =>
    intro g hk hg
    by_cases hx : ∃ g', I g' a w ∧ m g' < m g
    ·obtain ⟨g', h1, h2⟩ := hx
     exact ih (m g') (hk ▸ h2) g' rfl h1
    ·exact ⟨g, hg, fun g' h1 => by
      apply Classical.byContradiction
      intro hn
      exact hx ⟨g', h1, by omega⟩⟩
  exact key _ g rfl hg
 refine wpIn_loop (fun a w => ∃ g, I g a w) (fun a w => open Classical in if hx : ∃ g, I g a w then m (least a w hx).choose else 0) ⟨g, h⟩ fun a w hI => ?_
 have hl := (least a w hI).choose_spec
 refine wpIn_mono (round _ a w hl.1) fun e a' w' hq => ?_
 cases e with
 | normal =>
  obtain ⟨g', h1, h2⟩ := hq
  refine ⟨⟨g', h1⟩, ?_⟩
  have hx : ∃ g, I g a' w' := ⟨g', h1⟩
  rw [dif_pos hx, dif_pos hI]
  exact Nat.lt_of_le_of_lt ((least a' w' hx).choose_spec.2 g' h1) h2
 | _ => exact hq
structure InOK (P : Program) (F : Fence) (n0 : Nat) (call : CallH) (μ0 : Ren) (h0 : Heap) (w0 : World) : Prop where
 fn : ∀ f, F.fn f
 op : ∀ {isLoc : Nat → Bool} {o : Oper} {ρ : List LV} {L : Locs} {h : Heap} {K : KO} {μ : Ren} {lam : List Nat} {a : Act} {w : World} {next : Act → World → Prop} {Q : Exit → Act → World → Prop},
  Rel μ0 h0 w0 μ lam L h w → EnvRel μ lam ρ a.tmps → vop P isLoc call o ρ L h K → NextOK μ0 h0 w0 μ lam K o.dst a next → o.wpIn F n0 P a w next Q
theorem rowsIn_wide {n : Nat} {P : Program} {row : String} {args : Array Value} {w : World} {R : Value → World → Prop} (h : Rows P row args w R) : RowsIn Fence.wide n P row args w R :=
 fun c cs _ => let ⟨v, w', r, s⟩ := h c cs; ⟨v, w', r, stepsIn_wide.2 s⟩
section
variable {P : Program} {o : Oper} {a : Act} {next : Act → World → Prop} {Q : Exit → Act → World → Prop}
theorem upon_in {n l : Nat} {r : Result Next} (h : o.upon P a next Q r) : o.uponIn (Fence.wide.inRound l) n P a next Q r := by
 cases r with
 | ok x w =>
  cases x <;> first
   | exact h
   | exact ⟨fun hd => (by cases hd), callsIn_wide.2 h⟩
   | exact ⟨fun hd => (by cases hd), rowsIn_wide h⟩
   | exact h.elim
 | halt x w => cases x <;> first | exact h | exact h.elim
theorem upon_wide {n : Nat} {r : Result Next} (h : o.upon P a next Q r) : o.uponIn Fence.wide n P a next Q r := by
 cases r with
 | ok x w =>
  cases x <;> first
   | exact h
   | exact ⟨fun hd => (by cases hd), callsIn_wide.2 h⟩
   | exact ⟨fun hd => (by cases hd), rowsIn_wide h⟩
   | exact h.elim
 | halt x w => cases x <;> first | exact h | exact h.elim
theorem vop_plain {isLoc : Nat → Bool} {call : CallH} {ρ : List LV} {L : Locs} {h : Heap} {K : KO} (hk : vop P isLoc call o ρ L h K) : ∀ c, o.op ≠ .defer c := by
 intro c hc
 unfold vop at hk
 rw [hc] at hk
 exact hk
theorem inOK_round {l n : Nat} {μ0 : Ren} {h0 : Heap} {w0 : World} : InOK P (Fence.wide.inRound l) n (AC P) μ0 h0 w0 := ⟨fun _ => trivial, fun R E hk hn => by
 refine ⟨fun _ _ => trivial, ?_⟩
 rw [Oper.semAt_plain _ _ _ (vop_plain hk)]
 exact upon_in (vop_wp R E hk hn)⟩
theorem inOK_wide {n : Nat} {μ0 : Ren} {h0 : Heap} {w0 : World} : InOK P Fence.wide n (AC P) μ0 h0 w0 := ⟨fun _ => trivial, fun R E hk hn => by
 refine ⟨fun _ _ => trivial, ?_⟩
 rw [Oper.semAt_plain _ _ _ (vop_plain hk)]
 exact upon_wide (vop_wp R E hk hn)⟩
end
namespace In
section
variable {P : Program} {F : Fence} {n0 : Nat} {call : CallH} {μ0 : Ren} {h0 : Heap} {w0 : World} (C : InOK P F n0 call μ0 h0 w0)
include C
theorem vops_wp {isLoc : Nat → Bool} {ops : Array Oper} {ws : List Nat} (hws : ∀ (i : Nat) (o : Oper) (d : Nat), ops[i]? = some o → o.dst = some d → d ∈ ws) {Q : Exit → Act → World → Prop} :
  ∀ (is : List Nat) (st : St) (K : St → Prop) (μ : Ren) (lam : List Nat) (a : Act) (w : World), vops P isLoc call ops is st K → Rel μ0 h0 w0 μ lam st.L st.h w → EnvRel μ lam st.ρ a.tmps →
   (∀ st' a' w' μ' lam', K st' → Post μ0 h0 w0 μ lam a ws st' a' w' μ' lam' → Q .normal a' w') → wpOpsIn F n0 P ops Q is a w
 | [], st, K, μ, lam, a, w, hk, R, E, hq => hq _ _ _ _ _ hk (Post.start R E ws)
 | i :: is, st, K, μ, lam, a, w, hk, R, E, hq => by
  simp only [vops] at hk
  split at hk
  ·exact hk.elim
  ·rename_i o ho
   simp only [wpOpsIn, ho]
   have fin : ∀ (lv : LV) (L' : Locs) (h' : Heap) (μ' : Ren) (lam' : List Nat) (v : Value) (w' : World), vops P isLoc call ops is (st.put o.dst lv L' h') K → Rel μ0 h0 w0 μ' lam' L' h' w' → Ren.le μ μ' → lamLe lam lam' → lv.rel μ' lam' v →
     wpOpsIn F n0 P ops Q is (a.put o.dst v) w' := by
    intro lv L' h' μ' lam' v w' hk' R' h1 h2 hv
    have E' := (E.mono h1 h2).put (d := o.dst) hv
    refine vops_wp hws is _ K μ' lam' _ _ hk' R' E' fun st2 a2 w2 μ2 lam2 hK p => hq _ _ _ μ2 lam2 hK ?_
    have p1 : Post μ0 h0 w0 μ lam a ws (st.put o.dst lv L' h') (a.put o.dst v) w' μ' lam' :=
     ⟨R', E', h1, h2, put_defers, put_size, fun t ht => put_keep fun hd => ht (hws i o t ho hd)⟩
    exact p1.trans p (fun _ h => h) (fun _ h => h)
   rcases vguarded_elim hk with ⟨hg, hk⟩ | ⟨hg, hk⟩
   ·rw [if_pos (wanted_of E hg)]
    exact C.op R E hk fun lv L' h' μ' lam' v w' a1 a2 a3 a4 a5 => fin lv L' h' μ' lam' v w' a1 a2 a3 a4 a5
   ·rw [if_neg (by rw [wanted_of E hg]; simp)]
    exact ⟨fun f _ => C.fn f, fin .und _ _ μ lam undef w hk R (.refl _) (lamLe.refl _) und_rel⟩
def DrawOK (P : Program) (F : Fence) (n0 : Nat) (μ0 : Ren) (h0 : Heap) (w0 : World) (draw : DrawH) : Prop :=
 ∀ (id : Nat) (ops : Array Oper) (st : St) (K : St → Prop) (μ : Ren) (lam : List Nat) (a : Act) (w : World), draw id ops st K →
  Rel μ0 h0 w0 μ lam st.L st.h w → EnvRel μ lam st.ρ a.tmps → (Code.region id ops true).wpIn F n0 P (CPost μ0 h0 w0 μ lam a (writes (.region id ops true)) fun e st' => e = .normal ∧ K st') a w
theorem vg_wp {isLoc : Nat → Bool} {ops : Array Oper} {i : Nat} {o : Oper} {ρ : List LV} {L : Locs} {h : Heap} {K : KO} {μ : Ren} {lam : List Nat} {a : Act} {w : World} {next : Act → World → Prop} {Q : Exit → Act → World → Prop} (ho : ops[i]? = some o)
  (R : Rel μ0 h0 w0 μ lam L h w) (E : EnvRel μ lam ρ a.tmps) (hk : vg P isLoc call ops o ρ L h K) (hn : NextOK μ0 h0 w0 μ lam K o.dst a next) : wpOpIn F n0 P ops Q i next a w := by
 unfold wpOpIn
 simp only [ho]
 unfold vg at hk
 split at hk
 ·exact hk.elim
 ·rename_i b hb
  rcases vif_elim hk with ⟨rfl, hk⟩ | ⟨rfl, hk⟩
  ·rw [if_pos (wanted_of E hb)]
   exact C.op R E hk hn
  ·rw [if_neg (by rw [wanted_of E hb]; simp)]
   exact ⟨fun f _ => C.fn f, hn .und L h μ lam undef w hk R (.refl _) (lamLe.refl _) und_rel⟩
end
section
variable {P : Program} {F : Fence} {n0 : Nat} {call : CallH} {μ0 : Ren} {h0 : Heap} {w0 : World} {isLoc : Nat → Bool} {ops : Array Oper}
def Own (P : Program) (call : CallH) (isLoc : Nat → Bool) (ops : Array Oper) (i : Nat) (st : St) : Prop :=
 ∃ o, ops[i]? = some o ∧ cls P o ≠ 0 ∧ ∃ lv, vg P isLoc call ops o st.ρ st.L st.h (Same lv st.L st.h) ∧ ∀ d, o.dst = some d → st.ρ.set d lv = st.ρ
structure DInv (P : Program) (call : CallH) (μ0 : Ren) (h0 : Heap) (w0 : World) (isLoc : Nat → Bool) (ops : Array Oper) (ws : List Nat) (μ : Ren) (lam : List Nat) (a : Act)
  (lA : List Nat) (st : St) (lR : Array Bool) (ρR : List LV) (a' : Act) (w' : World) (μ' : Ren) (lam' : List Nat) : Prop where
 size : lR.size = ops.size
 sub : ∀ i, Lr lR i → i ∈ lA
 clA : ∀ (i : Nat) (o : Oper), ops[i]? = some o → i ∈ lA → ∀ e ∈ bindsOf o, e ∈ lA
 clR : ∀ (i : Nat) (o : Oper), ops[i]? = some o → Lr lR i → ∀ e ∈ bindsOf o, Lr lR e
 owed : ∀ i, i ∈ lA → ¬ Lr lR i → Own P call isLoc ops i st
 len : ρR.length = st.ρ.length
 view : ∀ t, (∃ i o, i ∈ lA ∧ ¬ Lr lR i ∧ ops[i]? = some o ∧ o.dst = some t) ∨ ρR[t]? = st.ρ[t]?
 post : Post μ0 h0 w0 μ lam a ws ⟨ρR, st.L, st.h⟩ a' w' μ' lam'
theorem Own.put (D : OkD P ops) {i j : Nat} {o : Oper} {st : St} {lv : LV} (hO : Own P call isLoc ops j st) (ho : ops[i]? = some o) (hne : i ≠ j) (hl : ∀ d o', o.dst = some d → ops[j]? = some o' → d ∉ o'.looksAt ops) :
  Own P call isLoc ops j (st.put o.dst lv st.L st.h) := by
 obtain ⟨o', ho', hc, lv', hv, hs⟩ := hO
 refine ⟨o', ho', hc, lv', ?_, ?_⟩
 ·simp only [St.put]
  rw [vg_congr (ρ' := st.ρ)]
  ·exact hv
  ·intro t ht
   split
   ·rename_i d hd
    rw [List.getElem?_set, if_neg]
    intro h; subst h
    exact hl _ _ hd ho' ht
   ·rfl
 ·intro d' hd'
  simp only [St.put]
  split
  ·rename_i d hd
   have : d ≠ d' := by
    intro h; subst h
    exact D.dst i j o o' _ ho ho' hne hd' hd
   rw [set_comm _ _ _ this, hs d' hd']
  ·exact hs d' hd'
theorem saturate (D : OkD P ops) {rows : List Nat} {m : Nat} {ws : List Nat} {μ : Ren} {lam : List Nat} {a : Act} {lR : Array Bool} {ρR : List LV} {a' : Act} {w' : World} {μ' : Ren} {lam' : List Nat} {K : St → Prop} :
  ∀ (n : Nat) (lA : List Nat) (st : St), vany P isLoc call ops rows m n lA st K → DInv P call μ0 h0 w0 isLoc ops ws μ lam a lA st lR ρR a' w' μ' lam' →
   ∃ n' lA' st', vany P isLoc call ops rows m (n' + 1) lA' st' K ∧ DInv P call μ0 h0 w0 isLoc ops ws μ lam a lA' st' lR ρR a' w' μ' lam' ∧ readyRO P ops lA' = none
 | 0, _, _, h, _ => h.elim
 | n + 1, lA, st, h, I => by
  cases hr : readyRO P ops lA with
  | none => exact ⟨n, lA, st, h, I, hr⟩
  | some i =>
   obtain ⟨hni, o, ho, hc, hb⟩ := readyRO_some hr
   simp only [vany, hr, ho] at h
   obtain ⟨lv, hk, hv, h1⟩ := vg_same hc (vg_of h)
   refine saturate D n _ _ hk ?_
   have hself : ∀ d, o.dst = some d → d ∉ o.looksAt ops := fun d hd => D.self i o d ho hd hc
   exact {
    size := I.size
    sub := fun k hk => List.mem_cons_of_mem _ (I.sub k hk)
    clA := by
     intro k o' ho' hk' e he
     rcases List.mem_cons.1 hk' with rfl | hk'
     ·rw [ho] at ho'; cases ho'
      exact List.mem_cons_of_mem _ (hb e he)
     ·exact List.mem_cons_of_mem _ (I.clA k o' ho' hk' e he)
    clR := I.clR
    owed := by
     intro k hk' hn
     by_cases hki : k = i
     ·subst hki
      refine ⟨o, ho, hc, lv, ?_, ?_⟩
      ·simp only [St.put]
       rw [vg_congr (ρ' := st.ρ)]
       ·exact hv
       ·intro t ht
        split
        ·rename_i d hd
         rw [List.getElem?_set, if_neg]
         intro h; subst h
         exact hself _ hd ht
        ·rfl
      ·intro d hd
       simp only [St.put, hd, List.set_set]
     ·have hkA : k ∈ lA := (List.mem_cons.1 hk').resolve_left hki
      have hO := I.owed k hkA hn
      refine hO.put D ho (Ne.symm hki) fun d o' hd ho' hl => ?_
      rcases D.look k i o' o d ho' ho hki hd hl with hbf | ⟨_, hcc⟩
      ·exact hni (hbf.closed (S := (· ∈ lA)) I.clA fun o2 ho2 e he => I.clA k o2 ho2 hkA e he)
      ·obtain ⟨o2, ho2, hc2, _⟩ := hO
       rw [ho'] at ho2; cases ho2
       exact hcc.elim hc2 hc
    len := by
     simp only [St.put]
     split <;> simp [I.len]
    view := by
     intro t
     by_cases ht : o.dst = some t
     ·exact .inl ⟨i, o, by simp, fun hl => hni (I.sub i hl), ho, ht⟩
     ·rcases I.view t with ⟨k, o', h1, h2, h3, h4⟩ | hv
      ·exact .inl ⟨k, o', List.mem_cons_of_mem _ h1, h2, h3, h4⟩
      ·refine .inr ?_
       rw [hv]
       simp only [St.put]
       split
       ·rename_i d hd
        rw [List.getElem?_set, if_neg]
        intro h; subst h; exact ht hd
       ·rfl
    post := by simpa [St.put] using I.post }
def cnt (lR : Array Bool) : Nat := (lR.toList.filter (fun b => !b)).length
theorem cnt_set {lR : Array Bool} {i : Nat} (h : lR.getD i true = false) : cnt (lR.setIfInBounds i true) + 1 = cnt lR := by
 unfold cnt
 have hi : i < lR.size := by
  rcases Nat.lt_or_ge i lR.size with h' | h'
  ·exact h'
  ·simp [Array.getElem?_eq_none h'] at h
 have key : ∀ (l : List Bool) (i : Nat), l[i]? = some false → ((l.set i true).filter (fun b => !b)).length + 1 = (l.filter (fun b => !b)).length := by
  intro l
  induction l with
  | nil => intro i h; simp at h
  | cons x l ih =>
   intro i h
   cases i with
   | zero => simp at h; subst h; simp
   | succ i =>
    simp at h
    have := ih i h
    cases x <;> simp <;> omega
 rw [Array.toList_setIfInBounds]
 refine key _ _ ?_
 simp [hi] at h ⊢
 exact h
theorem lr_set {lR : Array Bool} {i j : Nat} : Lr (lR.setIfInBounds i true) j ↔ (j = i ∧ i < lR.size) ∨ Lr lR j := by
 unfold Lr
 by_cases h : i = j
 ·subst h
  by_cases hlt : i < lR.size
  ·simp [hlt]
  ·simp [hlt]
 ·rw [getD_set_ne false h]
  constructor
  ·exact .inr
  ·rintro (⟨rfl, _⟩ | h'); exact absurd rfl h; exact h'
theorem not_lr {lR : Array Bool} {i : Nat} (h : lR.getD i true = false) : ¬ Lr lR i := by
 unfold Lr
 intro h'
 by_cases hlt : i < lR.size
 ·simp [hlt] at h h'
  rw [h] at h'; cases h'
 ·simp [hlt] at h'
theorem lr_of {lR : Array Bool} {i : Nat} (hlt : i < lR.size) (h : lR.getD i true ≠ false) : Lr lR i := by
 unfold Lr
 simp [hlt] at h ⊢
 exact h
theorem all_listed (D : OkD P ops) {lR : Array Bool} (hs : lR.size = ops.size) (h : Region.ready .any ops lR = []) : ∀ i, i < ops.size → Lr lR i := by
 intro i
 induction i using Nat.strongRecOn with
 | _ i ih =>
  intro hi
  by_cases hl : lR.getD i true = false
  ·have : i ∈ Region.ready .any ops lR := by
    refine mem_ready.2 ⟨hl, ops[i], by simp [hi], fun e he hb => ?_⟩
    have hm : e.on ∈ bindsOf ops[i] := by
     simp only [bindsOf, List.mem_map, List.mem_filter]
     exact ⟨e, ⟨by simpa using he, hb⟩, rfl⟩
    have hlt := D.lt i ops[i] (by simp [hi]) _ hm
    exact ih e.on hlt (by omega)
   rw [h] at this
   simp at this
  ·exact lr_of (by omega) hl
theorem draw_main (C : InOK P F n0 call μ0 h0 w0) (D : OkD P ops) {rows : List Nat} {m : Nat} (hrows : ∀ i j, bfBit rows m i j = true → Bf ops i j) {ws : List Nat} (hws : ∀ (i : Nat) (o : Oper) (d : Nat), ops[i]? = some o → o.dst = some d → d ∈ ws)
  {μ : Ren} {lam : List Nat} {a : Act} {K : St → Prop} {Q : Exit → Act → World → Prop}
  (hq : ∀ st' a' w' μ' lam', K st' → Post μ0 h0 w0 μ lam a ws st' a' w' μ' lam' → Q .normal a' w') :
  ∀ (fuel n : Nat) (lA : List Nat) (st : St) (lR : Array Bool) (ρR : List LV) (a' : Act) (w' : World) (μ' : Ren) (lam' : List Nat), cnt lR ≤ fuel → vany P isLoc call ops rows m n lA st K →
   DInv P call μ0 h0 w0 isLoc ops ws μ lam a lA st lR ρR a' w' μ' lam' → wpAnyIn F n0 P .any ops Q fuel lR a' w' := by
 have fin : ∀ (n : Nat) (lA : List Nat) (st : St) (lR : Array Bool) (ρR : List LV) (a' : Act) (w' : World) (μ' : Ren) (lam' : List Nat), vany P isLoc call ops rows m n lA st K →
   DInv P call μ0 h0 w0 isLoc ops ws μ lam a lA st lR ρR a' w' μ' lam' → Region.ready .any ops lR = [] → Q .normal a' w' := by
  intro n lA st lR ρR a' w' μ' lam' hv I hr
  obtain ⟨n, lA, st, hv, I, hro⟩ := saturate D n lA st hv I
  have hall := all_listed D I.size hr
  have hE : readyE ops lA = [] := by
   unfold readyE
   rw [List.filter_eq_nil_iff]
   intro i hi
   have : i ∈ lA := I.sub i (hall i (List.mem_range.1 hi))
   simp [this]
  simp only [vany, hro, hE] at hv
  obtain ⟨_, hk⟩ := need_elim hv
  have hρ : ρR = st.ρ := by
   refine List.ext_getElem? fun t => ?_
   rcases I.view t with ⟨i, o, _, h2, h3, _⟩ | h
   ·exact absurd (hall i (Array.getElem?_eq_some_iff.1 h3).1) h2
   ·exact h
  refine hq st a' w' μ' lam' hk ?_
  have := I.post
  rw [hρ] at this
  exact this
 intro fuel
 induction fuel with
 | zero =>
  intro n lA st lR ρR a' w' μ' lam' hc hv I
  have hr : Region.ready .any ops lR = [] := by
   refine List.eq_nil_iff_forall_not_mem.2 fun i hi => ?_
   have := cnt_set (mem_ready.1 hi).1
   omega
  exact ⟨hr, fin _ _ _ _ _ _ _ _ _ hv I hr⟩
 | succ fuel ih =>
  intro n lA st lR ρR a' w' μ' lam' hc hv I
  refine ⟨fin _ _ _ _ _ _ _ _ _ hv I, fun i hi => ?_⟩
  obtain ⟨n, lA, st, hv, I, hro⟩ := saturate D n lA st hv I
  obtain ⟨hun, o, ho, haft⟩ := mem_ready.1 hi
  have hnl := not_lr hun
  have hisz : i < lR.size := by rw [I.size]; exact (Array.getElem?_eq_some_iff.1 ho).1
  have hbR : ∀ e ∈ bindsOf o, Lr lR e := by
   intro e he
   simp only [bindsOf, List.mem_map, List.mem_filter] at he
   obtain ⟨x, ⟨hx, hb⟩, rfl⟩ := he
   exact haft x (by simpa using hx) hb
  have hbfR : ∀ j, Bf ops i j → Lr lR j := fun j hb => hb.closed (S := Lr lR) I.clR fun o2 ho2 e he => by
   rw [ho] at ho2; cases ho2; exact hbR e he
  have hcnt : cnt (lR.setIfInBounds i true) ≤ fuel := by have := cnt_set hun; omega
  have clR' : ∀ (k : Nat) (o' : Oper), ops[k]? = some o' → Lr (lR.setIfInBounds i true) k → ∀ e ∈ bindsOf o', Lr (lR.setIfInBounds i true) e := by
   intro k o' ho' hk e he
   rw [lr_set] at hk ⊢
   rcases hk with ⟨rfl, _⟩ | hk
   ·rw [ho] at ho'; cases ho'; exact .inr (hbR e he)
   ·exact .inr (I.clR k o' ho' hk e he)
  by_cases hiA : i ∈ lA
  ·
   obtain ⟨o2, ho2, hcls, lv, hvg, hset⟩ := I.owed i hiA hnl
   rw [ho] at ho2; cases ho2
   have hcong : ∀ t ∈ o.looksAt ops, ρR[t]? = st.ρ[t]? := by
    intro t ht
    rcases I.view t with ⟨k, o', h1, h2, h3, h4⟩ | h
    ·exfalso
     by_cases hki : k = i
     ·subst hki
      rw [ho] at h3; cases h3
      exact D.self k o t ho h4 hcls ht
     ·rcases D.look i k o o' t ho h3 (Ne.symm hki) h4 ht with hbf | ⟨_, hcc⟩
      ·exact h2 (hbfR k hbf)
      ·obtain ⟨o3, ho3, hc3, _⟩ := I.owed k h1 h2
       rw [h3] at ho3; cases ho3
       exact hcc.elim hcls hc3
    ·exact h
   rw [← vg_congr hcong] at hvg
   refine vg_wp C ho I.post.rel I.post.env hvg ?_
   intro lv' L' h' μ2 lam2 v w2 hsame R2 hle hlle hrel
   obtain ⟨rfl, rfl, rfl⟩ := hsame
   have E2 := (I.post.env.mono hle hlle).put (d := o.dst) hrel
   have p1 : Post μ0 h0 w0 μ' lam' a' ws ⟨match o.dst with | some d => ρR.set d lv' | none => ρR, st.L, st.h⟩ (a'.put o.dst v) w2 μ2 lam2 :=
    ⟨R2, E2, hle, hlle, put_defers, put_size, fun t ht => put_keep fun hd => ht (hws i o t ho hd)⟩
   refine ih (n + 1) lA st _ _ _ _ μ2 lam2 hcnt hv {
    size := by simpa using I.size
    sub := by
     intro k hk
     rcases lr_set.1 hk with ⟨rfl, _⟩ | hk
     ·exact hiA
     ·exact I.sub k hk
    clA := I.clA
    clR := clR'
    owed := fun k hk hn => I.owed k hk fun h => hn (lr_set.2 (.inr h))
    len := by split <;> simp [I.len]
    view := by
     intro t
     by_cases ht : o.dst = some t
     ·refine .inr ?_
      rw [ht]
      have := hset t ht
      simp only
      rw [← this, List.getElem?_set, List.getElem?_set]
      simp [I.len]
     ·rcases I.view t with ⟨k, o', h1, h2, h3, h4⟩ | h
      ·refine .inl ⟨k, o', h1, fun hl => ?_, h3, h4⟩
       rcases lr_set.1 hl with ⟨rfl, _⟩ | hl
       ·rw [ho] at h3; cases h3; exact ht h4
       ·exact h2 hl
      ·refine .inr ?_
       rw [← h]
       split
       ·rename_i d hd
        rw [List.getElem?_set, if_neg]
        intro h; subst h; exact ht hd
       ·rfl
    post := I.post.trans p1 (fun _ h => h) (fun _ h => h) }
  ·
   have hiE : i ∈ readyE ops lA := by
    unfold readyE
    simp only [List.mem_filter, List.mem_range, Bool.and_eq_true, Bool.not_eq_true', List.contains_eq_mem, decide_eq_false_iff_not, ho, List.all_eq_true, decide_eq_true_eq]
    exact ⟨by rw [← I.size]; exact hisz, hiA, fun e he => I.sub e (hbR e he)⟩
   simp only [vany, hro] at hv
   have hvi : vg P isLoc call ops o st.ρ st.L st.h fun v L h => rechks P isLoc call ops (st.put o.dst v L h) (vany P isLoc call ops rows m n (i :: lA) (st.put o.dst v L h) K) (toCheck P ops rows m lA i) := by
    cases hE : readyE ops lA with
    | nil => rw [hE] at hiE; simp at hiE
    | cons j js =>
     rw [hE] at hv hiE
     have := vall_mem hv i hiE
     simp only [ho] at this
     exact vg_of this
   have hcong : ∀ t ∈ o.looksAt ops, ρR[t]? = st.ρ[t]? := by
    intro t ht
    rcases I.view t with ⟨k, o', h1, h2, h3, h4⟩ | h
    ·exfalso
     have hki : k ≠ i := by rintro rfl; exact hiA h1
     rcases D.look i k o o' t ho h3 (Ne.symm hki) h4 ht with hbf | ⟨hbf, _⟩
     ·exact h2 (hbfR k hbf)
     ·exact hiA (hbf.closed (S := (· ∈ lA)) I.clA fun o2 ho2 e he => I.clA k o2 ho2 h1 e he)
    ·exact h
   rw [← vg_congr hcong] at hvi
   refine vg_wp C ho I.post.rel I.post.env hvi ?_
   intro lv L' h' μ2 lam2 v w2 hk R2 hle hlle hrel
   obtain ⟨hk, hre⟩ := rechks_elim hk
   have E2 := (I.post.env.mono hle hlle).put (d := o.dst) hrel
   have p1 : Post μ0 h0 w0 μ' lam' a' ws ⟨match o.dst with | some d => ρR.set d lv | none => ρR, L', h'⟩ (a'.put o.dst v) w2 μ2 lam2 :=
    ⟨R2, E2, hle, hlle, put_defers, put_size, fun t ht => put_keep fun hd => ht (hws i o t ho hd)⟩
   refine ih n (i :: lA) (st.put o.dst lv L' h') _ _ _ _ μ2 lam2 hcnt hk {
    size := by simpa using I.size
    sub := by
     intro k hk
     rcases lr_set.1 hk with ⟨rfl, _⟩ | hk
     ·simp
     ·exact List.mem_cons_of_mem _ (I.sub k hk)
    clA := by
     intro k o' ho' hk' e he
     rcases List.mem_cons.1 hk' with rfl | hk'
     ·rw [ho] at ho'; cases ho'
      exact List.mem_cons_of_mem _ (I.sub e (hbR e he))
     ·exact List.mem_cons_of_mem _ (I.clA k o' ho' hk' e he)
    clR := clR'
    owed := by
     intro k hk' hn
     have hki : k ≠ i := by rintro rfl; exact hn (lr_set.2 (.inl ⟨rfl, hisz⟩))
     have hkA : k ∈ lA := (List.mem_cons.1 hk').resolve_left hki
     have hkR : ¬ Lr lR k := fun h => hn (lr_set.2 (.inr h))
     have hO := I.owed k hkA hkR
     have hlook : ∀ d o', o.dst = some d → ops[k]? = some o' → d ∉ o'.looksAt ops := by
      intro d o' hd ho' hl
      rcases D.look k i o' o d ho' ho hki hd hl with hbf | ⟨hbf, _⟩
      ·exact hiA (hbf.closed (S := (· ∈ lA)) I.clA fun o2 ho2 e he => I.clA k o2 ho2 hkA e he)
      ·exact hkR (hbfR k hbf)
     have hO2 := hO.put D (lv := lv) ho (Ne.symm hki) hlook
     obtain ⟨o', ho', hc, lv2, hv2, hs2⟩ := hO2
     have hst : (st.put o.dst lv L' h').ρ = (st.put o.dst lv st.L st.h).ρ := rfl
     by_cases hc1 : cls P o' = 1
     ·obtain ⟨lv3, ⟨h1, _, _⟩, _, h3⟩ := vg_same hc hv2
      subst h1
      exact ⟨o', ho', hc, lv3, h3 hc1 _ _, hs2⟩
     ·by_cases hc2 : cls P o' = 2
      ·have hm : k ∈ toCheck P ops rows m lA i := by
        unfold toCheck
        rw [List.mem_filter]
        refine ⟨hkA, ?_⟩
        simp only [ho', hc2, beq_self_eq_true, Bool.true_and, Bool.not_eq_true']
        cases hbit : bfBit rows m i k with
        | false => rfl
        | true => exact absurd (hbfR k (hrows _ _ hbit)) hkR
       have := hre k hm
       unfold rechk1 at this
       simp only [ho'] at this
       obtain ⟨lv3, h1, h2, _⟩ := vg_same hc this
       refine ⟨o', ho', hc, lv3, h2, fun d hd => ?_⟩
       simp only [hd] at h1
       rw [h1]
       refine List.ext_getElem? fun t => ?_
       rw [List.getElem?_set]
       split
       ·rename_i hdt
        subst hdt
        split
        ·rename_i hlt
         simp [List.getD, hlt]
        ·rename_i hlt
         simp [List.getElem?_eq_none (Nat.le_of_not_lt hlt)]
       ·rfl
      ·exfalso
       have : cls P o' = 0 ∨ cls P o' = 1 ∨ cls P o' = 2 := by
        unfold cls
        repeat' split
        all_goals simp
       rcases this with h | h | h
       ·exact hc h
       ·exact hc1 h
       ·exact hc2 h
    len := by
     simp only [St.put]
     cases o.dst <;> simp [I.len]
    view := by
     intro t
     rcases I.view t with ⟨k, o', h1, h2, h3, h4⟩ | h
     ·refine .inl ⟨k, o', List.mem_cons_of_mem _ h1, fun hl => ?_, h3, h4⟩
      rcases lr_set.1 hl with ⟨rfl, _⟩ | hl
      ·exact hiA h1
      ·exact h2 hl
     ·refine .inr ?_
      simp only [St.put]
      split
      ·rename_i d hd
       simp only [hd]
       rw [List.getElem?_set, List.getElem?_set, h, I.len]
      ·rename_i hd
       simp only [hd]
       exact h
    post := I.post.trans p1 (fun _ h => h) (fun _ h => h) }
theorem vdraw_ok (C : InOK P F n0 call μ0 h0 w0) {isLoc : Nat → Bool} : DrawOK P F n0 μ0 h0 w0 (vdraw P isLoc call) := by
 intro id ops st K μ lam a w hk R E
 unfold vdraw at hk
 obtain ⟨rows, m, he, hrows⟩ := bfRows_ok (ops := ops) (k := fun rows m => need (okDraw P ops rows m) (vany P isLoc call ops rows m (ops.size + 1) [] st K)) ops.toList 0 [] rfl rfl (by
  intro i j h; simp [bfBit, rowAt] at h)
 rw [he] at hk
 obtain ⟨hd, hk⟩ := need_elim hk
 have D := okD_of hrows hd
 refine wpIn_region_any D.mixed ?_
 have Rd : Rel μ0 h0 w0 μ lam st.L st.h { w with drawn := w.drawn + 1 } := R.drawn rfl rfl rfl rfl
 refine draw_main C (μ := μ) (lam := lam) (a := a) (ws := writes (.region id ops true)) D hrows (region_ws id true) (fun st' a' w' μ' lam' hK p => ⟨st', μ', lam', ⟨rfl, hK⟩, p⟩) ops.size (ops.size + 1) [] st _ st.ρ a _ μ lam ?_ hk ?_
 ·have : ∀ n, ((List.replicate n false).filter (fun b => !b)).length = n := by intro n; simp
  simp [cnt]
 ·have nl : ∀ i, ¬ Lr (Array.replicate ops.size false) i := by
   intro i h
   unfold Lr at h
   by_cases hlt : i < ops.size
   ·simp [hlt] at h
   ·simp [hlt] at h
  exact {
   size := by simp
   sub := fun i h => absurd h (nl i)
   clA := fun i o _ h => absurd h (by simp)
   clR := fun i o _ h => absurd h (nl i)
   owed := fun i h => absurd h (by simp)
   len := rfl
   view := fun t => .inr rfl
   post := Post.start Rd E _ }
def flat : Code → Bool
 | .scope _ => false
 | .seq a b => flat a && flat b
 | .cond _ a b => flat a && flat b
 | .block _ a => flat a
 | .loop a => flat a
 | _ => true
theorem flat_seq {a b : Code} (h : flat (.seq a b) = true) : flat a = true ∧ flat b = true := by simpa [flat] using h
theorem flat_cond {c : Operand} {a b : Code} (h : flat (.cond c a b) = true) : flat a = true ∧ flat b = true := by simpa [flat] using h
theorem vcode_wp (C : InOK P F n0 call μ0 h0 w0) {H : Hints} {draw : DrawH} (hdraw : DrawOK P F n0 μ0 h0 w0 draw) : ∀ (c : Code) (cur : Nat) (st : St) (Q : Exit → St → Prop) (μ : Ren) (lam : List Nat) (a : Act) (w : World),
  vcode P H call draw c cur st Q → Rel μ0 h0 w0 μ lam st.L st.h w → EnvRel μ lam st.ρ a.tmps → flat c = true → c.wpIn F n0 P (CPost μ0 h0 w0 μ lam a (writes c) Q) a w
 | .skip, cur, st, Q, μ, lam, a, w, hk, R, E, hf => wpIn_skip ⟨st, μ, lam, hk, Post.start R E _⟩
 | .region id ops false, cur, st, Q, μ, lam, a, w, hk, R, E, hf =>
  wpIn_region (vops_wp C (region_ws id false) _ st _ μ lam a w hk R E fun st' a' w' μ' lam' hK p => ⟨st', μ', lam', hK, p⟩)
 | .region id ops true, cur, st, Q, μ, lam, a, w, hk, R, E, hf =>
  wpIn_mono (hdraw id ops st _ μ lam a w hk R E) fun e a' w' ⟨st', μ', lam', ⟨he, hK⟩, p⟩ => ⟨st', μ', lam', he ▸ hK, p⟩
 | .seq x y, cur, st, Q, μ, lam, a, w, hk, R, E, hf => by
  refine wpIn_seq (wpIn_mono (vcode_wp C hdraw x cur st _ μ lam a w hk R E (flat_seq hf).1) fun e a' w' ⟨st', μ', lam', hq, p⟩ => ?_)
  cases e with
  | normal =>
   refine wpIn_mono (vcode_wp C hdraw y cur st' Q μ' lam' a' w' hq p.rel p.env (flat_seq hf).2) fun e2 a2 w2 ⟨st2, μ2, lam2, hq2, p2⟩ => ?_
   exact ⟨st2, μ2, lam2, hq2, p.trans p2 (fun t ht => by simp [writes, ht]) (fun t ht => by simp [writes, ht])⟩
  | _ => exact ⟨st', μ', lam', hq, p.weaken fun t ht => by simp [writes, ht]⟩
 | .cond c x y, cur, st, Q, μ, lam, a, w, hk, R, E, hf => by
  simp only [vcode] at hk
  split at hk
  ·rename_i t ht
   have hv : a.eval c = _ := E.val ht
   rcases vif_elim hk with ⟨rfl, hk⟩ | ⟨rfl, hk⟩ <;> rw [setC_same ht] at hk
   ·exact wpIn_cond_true hv (wpIn_mono (vcode_wp C hdraw x cur st Q μ lam a w hk R E (flat_cond hf).1) fun e a' w' ⟨st', μ', lam', hq, p⟩ => ⟨st', μ', lam', hq, p.weaken fun t ht => by simp [writes, ht]⟩)
   ·exact wpIn_cond_false hv (wpIn_mono (vcode_wp C hdraw y cur st Q μ lam a w hk R E (flat_cond hf).2) fun e a' w' ⟨st', μ', lam', hq, p⟩ => ⟨st', μ', lam', hq, p.weaken fun t ht => by simp [writes, ht]⟩)
  ·exact hk.elim
 | .block id body, cur, st, Q, μ, lam, a, w, hk, R, E, hf => by
  simp only [vcode] at hk
  split at hk
  ·refine wpIn_block (wpIn_mono (vcode_wp C hdraw body id st _ μ lam a w hk R E hf) fun e a' w' ⟨st', μ', lam', hq, p⟩ => ?_)
   cases e with
   | exit i =>
    simp only at hq
    show Exit.inBlock id _ (.exit i) a' w'
    simp only [Exit.inBlock]
    split at hq
    ·rename_i hi
     rw [if_pos (by simpa using hi)]
     exact ⟨st', μ', lam', hq, p⟩
    ·rename_i hi
     rw [if_neg (by simpa using hi)]
     exact ⟨st', μ', lam', hq, p⟩
   | _ => exact ⟨st', μ', lam', hq, p⟩
  ·rename_i c hc
   obtain ⟨hl0, J, hbody, hrest⟩ := need_elim hk
   obtain ⟨lv0, hl0⟩ := Option.isSome_iff_exists.1 hl0
   refine wpIn_block (wpIn_mono (vcode_wp C hdraw body id st _ μ lam a w hbody R E hf) fun e a' w' ⟨st2, μ2, lam2, hq, p2⟩ => ?_)
   have join : (match carry c.info st2 with | some xs => need (sameShapes c.kinds xs) (keepL c.info.mods st.L st2.L st.L.length ∧ J xs st2.h) | none => False) →
     CPost μ0 h0 w0 μ lam a (writes body) Q .normal a' w' := by
    intro hq
    split at hq
    ·rename_i xs' hxs'
     obtain ⟨hsh', hkeep, hJ⟩ := need_elim hq
     obtain ⟨sv, lv, hs, hl, hx, hn⟩ := carry_parts hxs'
     have e1 : xs'.take c.info.slots.length = sv := by rw [hx, ← hn]; simp
     have e2 : xs'.drop c.info.slots.length = lv := by rw [hx, ← hn]; simp
     obtain ⟨g1, g2⟩ := cut_locs hl0 hl hkeep
     have hle2 : st.L.length ≤ st2.L.length := keepL_le hkeep
     have hlam : lam2.take st.L.length = lam := by
      have hlen0 : lam.length = st.L.length := R.locs.len
      apply List.ext_getElem?
      intro k
      rw [List.getElem?_take]
      split
      ·rename_i hk
       have hkl : k < lam.length := by omega
       rw [p2.lle k lam[k] (by simp [hkl])]
       simp [hkl]
      ·rw [List.getElem?_eq_none (by omega)]
     have RF := p2.rel.forget (L1 := (headSt c.info (writes body) st xs' st2.h).L) (n := st.L.length) (by simp only [headSt]; rw [e2]; exact g1) hle2 (fun k hk => by simp only [headSt]; rw [e2]; exact g2 k hk)
     rw [hlam] at RF
     refine ⟨headSt c.info (writes body) st xs' st2.h, μ2, lam, allL_inst hrest hsh' st2.h hJ, ⟨RF, ?_, p2.le, lamLe.refl _, p2.defers, p2.size, p2.keep⟩⟩
     refine head_env E p2.size p2.le (lamLe.refl _) p2.keep fun j s v hj hv => ?_
     rw [e1] at hv
     exact p2.env.get s _ ((slotVals_get hs).2 j s v hj hv)
    ·exact hq.elim
   cases e with
   | exit i =>
    simp only at hq
    show Exit.inBlock id _ (.exit i) a' w'
    simp only [Exit.inBlock]
    split at hq
    ·rename_i hi
     rw [if_pos (by simpa using hi)]
     exact join hq
    ·rename_i hi
     rw [if_neg (by simpa using hi)]
     exact ⟨st2, μ2, lam2, hq, p2⟩
   | normal => exact join hq
   | _ => exact ⟨st2, μ2, lam2, hq, p2⟩
 | .loop body, cur, st, Q, μ, lam, a, w, hk, R, E, hf => by
  simp only [vcode] at hk
  split at hk
  ·exact hk.elim
  ·rename_i xs0 hxs0
   obtain ⟨hsh0, I, m, hI0, hround⟩ := need_elim hk
   obtain ⟨sv0, lv0, hs0, hl0, hx0, hn0⟩ := carry_parts hxs0
   have hlen0 : lam.length = st.L.length := R.locs.len
   have headL : ∀ {L' : Locs} {lv : List AV}, locVals L' (H.loops cur).mods = some lv → keepL (H.loops cur).mods st.L L' st.L.length →
     (setLocs st.L (H.loops cur).mods lv).length = st.L.length ∧ ∀ k, k < st.L.length → (setLocs st.L (H.loops cur).mods lv)[k]? = L'[k]? := by
    intro L' lv hlv hkeep
    have hk := keepL_get hkeep
    obtain ⟨g1, g2⟩ := locVals_setLocs hlv (fun k hkm => by
     obtain ⟨c0, hc0⟩ := locVals_mem hl0 k hkm
     rcases hk k (lt_of_get hc0) with ⟨_, c, c0', e1, e2, e3⟩ | ⟨hn, _⟩
     ·exact ⟨c0', c, e2, e1, e3⟩
     ·exact absurd hkm hn)
    refine ⟨g1, fun k hkl => ?_⟩
    rw [g2 k]
    split
    ·rfl
    ·rename_i hkm
     rcases hk k hkl with ⟨hm, _⟩ | ⟨_, e⟩
     ·exact absurd hm hkm
     ·exact e.symm
   have keep0 : ∀ n, n ≤ st.L.length → keepL (H.loops cur).mods st.L st.L n := by
    intro n
    induction n with
    | zero => intro _; trivial
    | succ n ih =>
     intro hn
     refine ⟨?_, ih (by omega)⟩
     have hget : st.L[n]? = some st.L[n] := by simp
     split
     ·rw [hget]; simp [need]
     ·rfl
   refine wpIn_loop_ghost (G := List AV × Heap × Ren)
    (fun g a1 w1 => I g.1 g.2.1 ∧ sameShapes xs0 g.1 = true ∧ Post μ0 h0 w0 μ lam a (writes body) (headSt (H.loops cur) (writes body) st g.1 g.2.1) a1 w1 g.2.2 lam)
    (fun g => m g.1 g.2.1) ?_ (xs0, st.h, μ) a w ⟨hI0, ?_, ?_⟩
   ·rintro ⟨xs, h, μ1⟩ a1 w1 ⟨hI, hsh, p⟩
    have hr := allL_inst hround hsh h hI
    refine wpIn_mono (vcode_wp C hdraw body cur _ _ μ1 lam a1 w1 hr p.rel p.env hf) fun e a2 w2 ⟨st2, μ2, lam2, hq, p2⟩ => ?_
    have pt := p.trans p2 (fun _ h => h) (fun _ h => h)
    cases e with
    | normal =>
     simp only at hq
     split at hq
     ·rename_i xs' hxs'
      obtain ⟨hsh', hkeep, hI', hm'⟩ := need_elim hq
      obtain ⟨sv, lv, hs, hl, hx, hn⟩ := carry_parts hxs'
      have e1 : xs'.take (H.loops cur).slots.length = sv := by rw [hx, ← hn]; simp
      have e2 : xs'.drop (H.loops cur).slots.length = lv := by rw [hx, ← hn]; simp
      obtain ⟨g1, g2⟩ := headL hl hkeep
      have hle2 : st.L.length ≤ st2.L.length := by
       rcases Nat.eq_zero_or_pos st.L.length with h0 | hpos
       ·omega
       ·rcases keepL_get hkeep (st.L.length - 1) (by omega) with ⟨_, c, c0, k1, _, _⟩ | ⟨_, k1⟩
        ·have := lt_of_get k1; omega
        ·have : st.L[st.L.length - 1]? = some st.L[st.L.length - 1] := by simp
         rw [this] at k1
         have := lt_of_get k1; omega
      have hlam : lam2.take st.L.length = lam := by
       apply List.ext_getElem?
       intro k
       rw [List.getElem?_take]
       split
       ·rename_i hk
        have hkl : k < lam.length := by omega
        rw [pt.lle k lam[k] (by simp [hkl])]
        simp [hkl]
       ·rw [List.getElem?_eq_none (by omega)]
      have RF := p2.rel.forget (L1 := (headSt (H.loops cur) (writes body) st xs' st2.h).L) (n := st.L.length) (by simp only [headSt]; rw [e2]; exact g1) hle2 (fun k hk => by simp only [headSt]; rw [e2]; exact g2 k hk)
      rw [hlam] at RF
      refine ⟨(xs', st2.h, μ2), ⟨hI', hsh', ⟨RF, ?_, pt.le, lamLe.refl _, pt.defers, pt.size, pt.keep⟩⟩, hm'⟩
      refine head_env E pt.size pt.le (lamLe.refl _) pt.keep fun j s v hj hv => ?_
      rw [e1] at hv
      have := (slotVals_get hs).2 j s v hj hv
      exact p2.env.get s _ this
     ·exact hq.elim
    | _ => exact ⟨st2, μ2, lam2, hq, pt⟩
   ·exact hsh0
   ·have e1 : xs0.take (H.loops cur).slots.length = sv0 := by rw [hx0, ← hn0]; simp
    have e2 : xs0.drop (H.loops cur).slots.length = lv0 := by rw [hx0, ← hn0]; simp
    obtain ⟨g1, g2⟩ := headL hl0 (keep0 _ (Nat.le_refl _))
    have hLeq : (headSt (H.loops cur) (writes body) st xs0 st.h).L = st.L := by
     simp only [headSt]
     rw [e2]
     apply List.ext_getElem?
     intro k
     rcases Nat.lt_or_ge k st.L.length with hk | hk
     ·exact g2 k hk
     ·rw [List.getElem?_eq_none (by omega), List.getElem?_eq_none hk]
    refine ⟨by rw [hLeq]; exact R, ?_, .refl _, lamLe.refl _, rfl, rfl, fun _ _ => rfl⟩
    refine head_env E rfl (.refl _) (lamLe.refl _) (fun _ _ => rfl) fun j s v hj hv => ?_
    rw [e1] at hv
    exact E.get s _ ((slotVals_get hs0).2 j s v hj hv)
 | .exit id, cur, st, Q, μ, lam, a, w, hk, R, E, hf => wpIn_exit ⟨st, μ, lam, hk, Post.start R E _⟩
 | .ret, cur, st, Q, μ, lam, a, w, hk, R, E, hf => wpIn_ret ⟨st, μ, lam, hk, Post.start R E _⟩
 | .rangeFunc .., cur, st, Q, μ, lam, a, w, hk, R, E, hf => hk.elim
 | .scope body, cur, st, Q, μ, lam, a, w, hk, R, E, hf => by cases hf
 | .label _, cur, st, Q, μ, lam, a, w, hk, R, E, hf => wpIn_label ⟨st, μ, lam, hk, Post.start R E _⟩
 | .goto _, cur, st, Q, μ, lam, a, w, hk, R, E, hf => hk.elim
 | .refuse _, cur, st, Q, μ, lam, a, w, hk, R, E, hf => hk.elim
end
end In
abbrev YH := List AV → Heap → (Heap → Prop) → Prop
def callY (P : Program) (b : Nat) (Y : YH) : CallH := fun g args h Q =>
 AC P g args h Q ∨ (g = 1000000000 ∧ ∃ rest, args = .func (.yield b) [] [] :: rest ∧ Y rest h fun h' => Q (.bool true) h')
section
variable {P : Program} {b : Nat} {Y : YH}
theorem callY_ne {g : FuncId} {args : List AV} {h : Heap} {Q : AV → Heap → Prop} (hg : Nat.beq g 1000000000 = false) (hk : callY P b Y g args h Q) : AC P g args h Q := by
 rcases hk with hk | ⟨rfl, _⟩
 ·exact hk
 ·simp at hg
theorem guard_to {g : FuncId} {args : List AV} {h : Heap} {Q : AV → Heap → Prop} (hk : match Nat.beq g 1000000000 with | true => False | false => callY P b Y g args h Q) : match Nat.beq g 1000000000 with | true => False | false => AC P g args h Q := by
 split at hk
 ·exact hk.elim
 ·rename_i hg
  exact callY_ne hg hk
theorem PLoad_mono {z : AV} {h : Heap} {p : PA} {A B : AV → Prop} (hm : ∀ v, A v → B v) (hk : PLoad z h p A) : PLoad z h p B := by
 exact exV_mono (fun l hl => ⟨hl.1, hm _ hl.2⟩) hk
theorem vInvoke_to {r : AV} {name : String} {args : List AV} {h : Heap} {Q : AV → Heap → Prop} (hk : vInvoke P (callY P b Y) r name args h Q) : vInvoke P (AC P) r name args h Q := by
 unfold vInvoke at hk ⊢
 split at hk
 ·split at hk
  ·exact guard_to hk
  ·split at hk
   ·split at hk
    ·split at hk
     ·exact PLoad_mono (fun v hv => guard_to hv) hk
     ·exact hk
    ·exact hk
   ·exact hk
 ·exact hk
theorem vCallF_to {f : AV} {args : List AV} {h : Heap} {Q : AV → Heap → Prop} (hk : vCallF P (callY P b Y) f args h Q) : vCallF P (AC P) f args h Q ∨ (f = .func (.yield b) [] [] ∧ Y args h fun h' => Q (.bool true) h') := by
 unfold vCallF at hk ⊢
 split at hk
 ·exact .inl (vInvoke_to hk)
 ·unfold vCallV at hk ⊢
  split at hk
  ·exact .inl (guard_to hk)
  ·rcases hk with hk | ⟨_, rest, he, hy⟩
   ·exact .inl hk
   ·simp only [List.cons.injEq, AV.func.injEq, Fn.yield.injEq] at he
    obtain ⟨⟨rfl, rfl, rfl⟩, rfl⟩ := he
    exact .inr ⟨rfl, hy⟩
  ·exact hk.elim
theorem vop_call {isLoc : Nat → Bool} {c1 c2 : CallH} {o : Oper} {ρ : List LV} {L : Locs} {h : Heap} {K : KO} (hc : ∀ c, o.op ≠ .call c) (hk : vop P isLoc c1 o ρ L h K) : vop P isLoc c2 o ρ L h K := by
 unfold vop at hk ⊢
 cases ho : o.op <;> rw [ho] at hk <;> first | exact hk | exact absurd ho (hc _)
def YieldOK (P : Program) (n b : Nat) (Y : YH) (μ0 : Ren) (h0 : Heap) (w0 : World) : Prop :=
 ∃ e0 : ME, μ0[b]? = some e0 ∧ ∀ (μ : Ren) (h : Heap) (w : World) (xs : List AV) (vs : List Value) (R : Heap → Prop), Evo μ0 h0 w0 μ h w → HRel μ h w → relL μ xs vs → Y xs h R →
  YieldAt Fence.wide n P e0.r vs.toArray w fun en w' => ∃ μ' h', en = .returned (.bool true) ∧ R h' ∧ Evo μ h w μ' h' w' ∧ HRel μ' h' w'
theorem inOK_Y {n : Nat} {μ0 : Ren} {h0 : Heap} {w0 : World} (hY : YieldOK P (n - 1) b Y μ0 h0 w0) : InOK P Fence.wide n (callY P b Y) μ0 h0 w0 := ⟨fun _ => trivial, by
 intro isLoc o ρ L h K μ lam a w next Q R E hk hn
 have plain : vop P isLoc (AC P) o ρ L h K → o.wpIn Fence.wide n P a w next Q := fun hk => inOK_wide.op R E hk hn
 by_cases hcall : ∃ c, o.op = .call c
 ·obtain ⟨c, ho⟩ := hcall
  unfold vop at hk
  rw [ho] at hk
  simp only at hk
  split at hk
  ·exact hk.elim
  ·rename_i args hargs
   have hvs := E.vals _ _ hargs
   split at hk
   ·rename_i f hcal
    split at hk
    ·rename_i g z hg hz
     rcases vCallF_to hk with hk | ⟨rfl, hy⟩
     ·refine plain ?_
      unfold vop
      rw [ho]
      simp only [hargs, hcal, hg, hz]
      exact hk
     ·obtain ⟨e, f', c', he, hv, hf, hc⟩ := E.val hg
      obtain ⟨e0, he0, hY⟩ := hY
      have := R.evo.le _ _ he0
      rw [he] at this
      cases this
      have hfe : f' = #[] := by apply Array.ext'; exact hf
      have hce : c' = #[] := by apply Array.ext'; exact hc
      subst hfe hce
      obtain ⟨fn, tmps, asg, body, hrun, hR⟩ := hY μ h w args (c.args.toList.map a.eval) _ R.evo R.heap hvs hy
      refine ⟨fun _ _ => trivial, ?_⟩
      rw [Oper.semAt_plain _ _ _ (by rw [ho]; intro d hd; cases hd)]
      have hex : (execOp a.eval o).run P w = (Instr.yield e.r (c.args.toList.map a.eval).toArray).run P w := by
       have : execOp a.eval o = execOp a.eval { o with op := .call c } := by rw [← ho]
       rw [this]
       show Sem.run P (do let d ← resolve a.eval c o.type; invoke d.target d.args) w = _
       have hres : (resolve a.eval c o.type).run P w = .ok { target := .fn (.yield e.r) #[], args := #[] ++ c.args.map a.eval } w := by
        unfold resolve
        simp [hcal, Deferred.ofValue, hv]
       rw [Sem.run_bind, hres]
       simp only [Result.andThen_ok, invoke]
       congr 2
       apply Array.ext'
       simp
      rw [hex, hrun]
      refine ⟨fun hd => (by cases hd), hR.mono ?_⟩
      rintro en w' ⟨μ', h', rfl, hq, hev, hh⟩
      obtain ⟨u, hu, hk⟩ := exV_ex hq
      subst hu
      exact hn _ _ _ _ _ _ _ hk (R.call hev hh) hev.le (lamLe.refl _) rfl
    ·exact hk.elim
   ·rename_i r name hcal
    split at hk
    ·rename_i g z hg hz
     refine plain ?_
     unfold vop
     rw [ho]
     simp only [hargs, hcal, hg, hz]
     exact vInvoke_to hk
    ·exact hk.elim
   ·rename_i bb hcal
    refine plain ?_
    unfold vop
    rw [ho]
    simp only [hargs, hcal]
    exact hk
 ·exact plain (vop_call (fun c hc => hcall ⟨c, hc⟩) hk)⟩
end
theorem iter_in {P : Program} {b n : Nat} {Y : YH} {H : Hints} {gf : FuncId} {fn : Func} {c : Code} {args : List AV} {vs : List Value} {h : Heap} {Q : AV → Heap → Prop} {μ : Ren} {w : World} (hf : P.funcs[gf]? = some fn) (hb : fn.body = some c) (hfl : In.flat c = true)
  (hk : vcode P H (callY P b Y) (vdraw P H.loc (callY P b Y)) c 1000000 ⟨args.map .val ++ List.replicate (fn.ntmps - args.length) .top, [], h⟩ fun e st => match e with
    | .normal => vret P fn st Q
    | .ret => vret P fn st Q
    | _ => False) (hY : YieldOK P (n - 1) b Y μ h w) (hh : HRel μ h w) (hv : relL μ args vs) : CallsIn Fence.wide n P gf vs.toArray w (CallPost μ h w Q) := by
 have R : Rel μ h w μ [] [] h w := ⟨Evo.refl μ h w, hh, ⟨rfl, by simp, by simp, by simp, by simp⟩⟩
 have hvl := hv.length
 have E : EnvRel μ [] (args.map .val ++ List.replicate (fn.ntmps - args.length) .top) (vs.toArray ++ Array.replicate (fn.ntmps - vs.toArray.size) undef) := by
  refine ⟨by simp [hvl], fun t lv ht => ?_⟩
  rw [List.getElem?_append] at ht
  split at ht
  ·rename_i hlt
   simp at hlt
   simp only [List.getElem?_map, Option.map_eq_some_iff] at ht
   obtain ⟨x, hx, rfl⟩ := ht
   obtain ⟨y, hy, hxy⟩ := hv.get hx
   have hyl := lt_of_get hy
   have : (vs.toArray ++ Array.replicate (fn.ntmps - vs.toArray.size) undef).getD t undef = y := by
    rw [Array.getD_eq_getD_getElem?, Array.getElem?_append_left (by simpa using hyl)]
    simp [hy]
   rw [this]; exact hxy
  ·rw [List.getElem?_replicate] at ht
   split at ht
   ·cases ht; trivial
   ·cases ht
 have C := inOK_Y (n := n) hY
 refine callsIn_of_wp hf hb trivial (wpIn_mono (In.vcode_wp C (In.vdraw_ok C) c 1000000 _ _ μ [] { tmps := vs.toArray ++ Array.replicate (fn.ntmps - vs.toArray.size) undef, defers := [] } w hk R E hfl) ?_)
 rintro e a' w' ⟨st, μ', lam', hq, p⟩
 have hd : a'.defers = [] := p.defers
 cases e with
 | normal =>
  obtain ⟨v, x, g1, g2, g3⟩ := run_results p.rel p.env hq
  exact ⟨hd, v, g1, v, x, st.h, μ', rfl, g2, p.rel.evo, p.rel.heap, g3⟩
 | ret =>
  obtain ⟨v, x, g1, g2, g3⟩ := run_results p.rel p.env hq
  exact ⟨hd, v, g1, v, x, st.h, μ', rfl, g2, p.rel.evo, p.rel.heap, g3⟩
 | _ => exact hq.elim
def Alien (w : World) (r : Nat) : Prop := ∃ o, w.heap[r]? = some o ∧ (∀ C t f, o ≠ .cells C t f) ∧ (∀ E c, o ≠ .map E c) ∧ ∀ m s e l, o ≠ .mapIter m s e l
theorem alien_loop {w : World} {r : Nat} {x : Loop} (h : w.heap[r]? = some (.loop x)) : Alien w r := ⟨_, h, by simp, by simp, by simp⟩
theorem alien_deferred {w : World} {r : Nat} {x : Option (List Deferred)} (h : w.heap[r]? = some (.deferred x)) : Alien w r := ⟨_, h, by simp, by simp, by simp⟩
theorem rw_live {B : Blk} (h : B.rw = true) : B.live = true := by cases B <;> first | rfl | cases h
section
variable {μ : Ren} {h : Heap} {w : World}
theorem alien_ne (H : HRel μ h w) {r : Nat} (hA : Alien w r) {b : Nat} {B : Blk} {e : ME} (hb : h[b]? = some B) (hl : B.live = true) (he : μ[b]? = some e) : e.r ≠ r := by
 intro hr
 obtain ⟨o, ho, h1, h2, h3⟩ := hA
 have hB := H.blk b B e hb he
 rw [← hr] at ho
 cases B with
 | dead => cases hl
 | gm g j => cases hl
 | cells c rw' => obtain ⟨C, t, fz, hc, _⟩ := hB; rw [ho] at hc; cases hc; exact h1 _ _ _ rfl
 | mp es cl => obtain ⟨ES, hc, _⟩ := hB; rw [ho] at hc; cases hc; exact h2 _ _ rfl
 | bx v => obtain ⟨_, y, t, hc, _⟩ := hB; rw [ho] at hc; cases hc; exact h1 _ _ _ rfl
 | it m s e2 l => obtain ⟨_, mm, hc, _⟩ := hB; rw [ho] at hc; cases hc; exact h3 _ _ _ _ rfl
theorem BlkRel.at {w' : World} {e : ME} {B : Blk} (hB : BlkRel μ w e B) (hw : B.live = true → w'.heap[e.r]? = w.heap[e.r]?) : BlkRel μ w' e B := by
 cases B with
 | dead => exact hB
 | gm g j => exact hB
 | cells c rw' => obtain ⟨C, t, fz, hc, rest⟩ := hB; exact ⟨C, t, fz, by rw [hw rfl]; exact hc, rest⟩
 | mp es cl => obtain ⟨ES, hc, rest⟩ := hB; exact ⟨ES, by rw [hw rfl]; exact hc, rest⟩
 | bx v => obtain ⟨a, y, t, hc, rest⟩ := hB; exact ⟨a, y, t, by rw [hw rfl]; exact hc, rest⟩
 | it m s e2 l => obtain ⟨a, mm, hc, rest⟩ := hB; exact ⟨a, mm, by rw [hw rfl]; exact hc, rest⟩
theorem HRel.putA (H : HRel μ h w) {r : Nat} (hA : Alien w r) (o : Obj) : HRel μ h (w.putObj r o) where
 len := H.len
 blk b B e hb he := (H.blk b B e hb he).at fun hl => World.putObj_heap_other (alien_ne H hA hb hl he)
 sep := H.sep
 bnd b e he := by rw [World.putObj_size]; exact H.bnd b e he
theorem Evo.alien {μ' : Ren} {h' : Heap} {w' : World} (ev : Evo μ h w μ' h' w') (H : HRel μ h w) {r : Nat} (hA : Alien w r) : w'.heap[r]? = w.heap[r]? := by
 obtain ⟨o, ho, _⟩ := id hA
 exact ev.frame r (heap_lt ho) fun b B e hb hr he => alien_ne H hA hb (rw_live hr) he
theorem evo_round {μ2 μ3 : Ren} {h2 h3 : Heap} {w2 w3 : World} {l : Nat} {o0 o1 : Obj} (a1 : Evo μ h w μ2 h2 w2) (a2 : Evo μ2 h2 (w2.putObj l o1) μ3 h3 w3) (h0 : w.heap[l]? = some o0) : Evo μ h w μ3 h3 (w3.putObj l o0) where
 le := a1.le.trans a2.le
 hlen := Nat.le_trans a1.hlen a2.hlen
 size := by rw [World.putObj_size]; exact Nat.le_trans a1.size (by have := a2.size; rwa [World.putObj_size] at this)
 frame r hr hn := by
  have hs1 := a1.size
  have hs2 := a2.size
  rw [World.putObj_size] at hs2
  by_cases hrl : r = l
  ·subst hrl
   rw [h0, World.putObj_heap_same (by omega)]
  ·rw [World.putObj_heap_other hrl, a2.frame r (by rw [World.putObj_size]; omega) ?_, World.putObj_heap_other hrl, a1.frame r hr hn]
   intro k B e hk hB he
   rcases a1.own k B e hk hB he with h1 | ⟨b0, B0, e0, h1, h2, h3, h4⟩
   ·omega
   ·rw [← h4]; exact hn _ _ _ h1 h2 h3
 own k B e hk hB he := by
  rcases a2.own k B e hk hB he with h1 | ⟨b0, B0, e0, h1, h2, h3, h4⟩
  ·rw [World.putObj_size] at h1; exact .inl (Nat.le_trans a1.size h1)
  ·rcases a1.own b0 B0 e0 h1 h2 h3 with h5 | ⟨b1, B1, e1, g1, g2, g3, g4⟩
   ·exact .inl (by omega)
   ·exact .inr ⟨b1, B1, e1, g1, g2, g3, by omega⟩
 liv k B e hk hB he := by
  rcases a2.liv k B e hk hB he with h1 | ⟨b0, B0, e0, h1, h2, h3, h4⟩
  ·rw [World.putObj_size] at h1; exact .inl (Nat.le_trans a1.size h1)
  ·rcases a1.liv b0 B0 e0 h1 h2 h3 with h5 | ⟨b1, B1, e1, g1, g2, g3, g4⟩
   ·exact .inl (by omega)
   ·exact .inr ⟨b1, B1, e1, g1, g2, g3, by omega⟩
 os := (show w3.os = w.os from a2.os.trans a1.os)
 tape := (show w3.tape = w.tape from a2.tape.trans a1.tape)
 output := (show w3.output = w.output from a2.output.trans a1.output)
theorem start_below {w' : World} (H : HRel μ h w) (B : Go.RowKit.Below w.heap.size w w') : Rel μ h w μ [] [] h w' where
 evo := { Evo.refl μ h w with
  size := B.size
  frame := fun r hr hn => B.block r hr
  own := fun b X e hb hr he => .inr ⟨b, X, e, hb, hr, he, rfl⟩
  liv := fun b X e hb hr he => .inr ⟨b, X, e, hb, hr, he, rfl⟩
  os := B.os, tape := B.tape, output := B.output }
 heap := ⟨H.len, fun b B' e hb he => (H.blk b B' e hb he).world (B.block _ (H.bnd b e he)), H.sep, fun b e he => Nat.lt_of_lt_of_le (H.bnd b e he) B.size⟩
 locs := ⟨rfl, by simp, by simp, by simp, by simp⟩
theorem rel_start (H : HRel μ h w) : Rel μ h w μ [] [] h w := ⟨Evo.refl μ h w, H, ⟨rfl, by simp, by simp, by simp, by simp⟩⟩
theorem env_set : ∀ {ps : List Nat} {xs : List AV} {vs : List Value} {ρ : List LV} {tmps : Array Value}, EnvRel μ [] ρ tmps → relL μ xs vs → xs.length = ps.length →
  EnvRel μ [] (setSlots ρ ps xs) ((ps.zip vs).foldl (fun t (p, v) => t.setIfInBounds p v) tmps)
 | [], [], vs, ρ, tmps, E, hv, hl => by
  simp only [relL] at hv
  subst hv
  exact E
 | [], x :: xs, vs, ρ, tmps, E, hv, hl => by simp at hl
 | p :: ps, [], vs, ρ, tmps, E, hv, hl => by simp at hl
 | p :: ps, x :: xs, _, ρ, tmps, E, ⟨y, ys, rfl, hx, hxs⟩, hl => by
  have E1 := E.put (d := some p) (lv := .val x) (v := y) (a := { tmps := tmps, defers := [] }) hx
  exact env_set (ps := ps) (xs := xs) (vs := ys) (ρ := ρ.set p (.val x)) (tmps := tmps.setIfInBounds p y) E1 hxs (by simpa using hl)
end
section
variable {P : Program}
def YOf (P : Program) (H : Hints) (ρ : List LV) (ps : Array Tmp) (assign body : Code) : YH := fun xs h R =>
 xs.length = ps.size ∧ vcode P H (AC P) (vdraw P H.loc (AC P)) assign 1000000 ⟨setSlots ρ ps.toList xs, [], h⟩ fun e st => e = .normal ∧ st.L = [] ∧
  vcode P H (AC P) (vdraw P H.loc (AC P)) body 1000000 st fun e st' => e = .normal ∧ R st'.h
theorem yield_ok {n : Nat} {H : Hints} {ρ : List LV} {ps : Array Tmp} {assign body : Code} {μ : Ren} {h : Heap} {w : World} {fn : FuncId} {a : Act} (hh : HRel μ h w) (E : EnvRel μ [] ρ a.tmps) (hfa : In.flat assign = true) (hfb : In.flat body = true) {W1 : World} {rec : Loop}
  (hrec : rec = { state := .ready, pending := none, fn := fn, tmps := a.tmps, params := ps, assign := assign, body := body, defers := w.heap.size }) (hl1 : W1.heap[w.heap.size + 1]? = some (.loop rec)) :
  YieldOK P n h.length (YOf P H ρ ps assign body) (μ ++ [⟨w.heap.size + 1, 0, 0⟩]) (h ++ [.dead]) W1 := by
 refine ⟨⟨w.heap.size + 1, 0, 0⟩, by rw [← hh.len]; simp, fun μ1 h1 w1 xs vs R hev hh1 hv ⟨hlen, hk⟩ => ?_⟩
 have hrl : w1.heap[w.heap.size + 1]? = some (.loop rec) := by
  rw [hev.frame _ (heap_lt hl1) ?_, hl1]
  intro b B e hb hr he
  rw [List.getElem?_append] at hb he
  split at hb
  ·rename_i hlt
   rw [if_pos (by rw [hh.len]; exact hlt)] at he
   have := hh.bnd b e he
   omega
  ·have : B = .dead := by
    rw [List.getElem?_singleton] at hb
    split at hb
    ·cases hb; rfl
    ·cases hb
   subst this; cases hr
 have hvl : vs.length = ps.size := by rw [hv.length, hlen]
 have hy := run_yield (P := P) (args := vs.toArray) hrl (by rw [hrec]; simpa using hvl)
 rw [hrec] at hy
 refine ⟨fn, _, assign, body, hy, roundIn_of_wpIn trivial ?_⟩
 have hle : Ren.le μ μ1 := (Ren.le_append _ _).trans hev.le
 have E1 : EnvRel μ1 [] (setSlots ρ ps.toList xs) ((ps.zip vs.toArray).foldl (fun t (p, v) => t.setIfInBounds p v) a.tmps) := by
  have := env_set (E.mono hle (lamLe.refl _)) hv (ps := ps.toList) (by simpa using hlen)
  rw [← Array.foldl_toList, Array.toList_zip]
  exact this
 refine wpIn_mono (In.vcode_wp (n0 := n) (inOK_round (l := w.heap.size + 1)) (In.vdraw_ok inOK_round) assign 1000000 _ _ μ1 [] { tmps := (ps.zip vs.toArray).foldl (fun t (p, v) => t.setIfInBounds p v) a.tmps, defers := [] } w1 hk (rel_start hh1) E1 hfa) ?_
 rintro e a2 w2 ⟨⟨ρ2, L2, h2⟩, μ2, lam2, ⟨rfl, hL, hk2⟩, p⟩
 simp only at hL
 subst hL
 have hlam : lam2 = [] := List.eq_nil_of_length_eq_zero p.rel.locs.len
 subst hlam
 have hl2 : w2.heap[w.heap.size + 1]? = some (.loop rec) := by rw [p.rel.evo.alien hh1 (alien_loop hrl), hrl]
 refine ⟨_, run_beginRound hl2 (by rw [hrec]), ?_⟩
 have hh2 := p.rel.heap.putA (alien_loop hl2) (.loop { rec with state := .busy })
 have hlb : (w2.putObj (w.heap.size + 1) (.loop { rec with state := .busy })).heap[w.heap.size + 1]? = some (.loop { rec with state := .busy }) := World.putObj_heap_same (heap_lt hl2)
 refine wpIn_mono (In.vcode_wp (n0 := n) (inOK_round (l := w.heap.size + 1)) (In.vdraw_ok inOK_round) body 1000000 _ _ μ2 [] a2 _ hk2 (rel_start hh2) p.env hfb) ?_
 rintro e a3 w3 ⟨st3, μ3, lam3, ⟨rfl, hR⟩, p3⟩
 have hl3 : w3.heap[w.heap.size + 1]? = some (.loop { rec with state := .busy }) := by rw [p3.rel.evo.alien hh2 (alien_loop hlb), hlb]
 have he := run_endRound (P := P) none hl3
 have hsame : ({ { rec with state := .busy } with state := if (none : Option Code).isNone = true then .ready else .done, pending := none } : Loop) = rec := by rw [hrec]; rfl
 rw [hsame] at he
 exact ⟨_, _, he, μ3, st3.h, rfl, hR, evo_round p.rel.evo p3.rel.evo hrl, p3.rel.heap.putA (alien_loop hl3) _⟩
theorem range_wp {n : Nat} {H HI : Hints} {ρ : List LV} {g : Operand} {ps : Array Tmp} {assign body : Code} {μ : Ren} {h : Heap} {w : World} {a : Act} {Q : Exit → Act → World → Prop} (hh : HRel μ h w) (E : EnvRel μ [] ρ a.tmps) (hfa : In.flat assign = true) (hfb : In.flat body = true)
  {gf : FuncId} {caps : List AV} (hg : ev ρ g = .val (.func (.func gf) [] caps)) {fg : Func} {cg : Code} (hf : P.funcs[gf]? = some fg) (hb : fg.body = some cg) (hfl : In.flat cg = true) (hc : callable P gf = true) {K : Heap → Prop}
  (hk : vcode P HI (callY P h.length (YOf P H ρ ps assign body)) (vdraw P HI.loc (callY P h.length (YOf P H ρ ps assign body))) cg 1000000 ⟨(.func (.yield h.length) [] [] :: caps).map .val ++ List.replicate (fg.ntmps - (AV.func (.yield h.length) [] [] :: caps).length) .top, [], h ++ [.dead]⟩ fun e st => match e with
    | .normal => vret P fg st fun _ h' => K h'
    | .ret => vret P fg st fun _ h' => K h'
    | _ => False)
  (hq : ∀ μ' h' w', K h' → Evo μ h w μ' h' w' → HRel μ' h' w' → w'.heap[w.heap.size]? = some (.deferred (some [])) → w.heap.size < w'.heap.size → Q .normal { a with defers := { target := .collected w.heap.size, args := #[] } :: a.defers } w') :
  (Code.rangeFunc g ps assign body).wpIn Fence.wide (n + 1) P Q a w := by
 refine wpIn_rangeFunc ?_
 intro fn hfn
 have hgv := E.val hg
 obtain ⟨f', c', hv, hf0, hcs⟩ := hgv
 have hfe : f' = #[] := by apply Array.ext'; exact hf0
 subst hfe
 obtain ⟨rec, hrec⟩ : ∃ rec : Loop, rec = { state := .ready, pending := none, fn := fn, tmps := a.tmps, params := ps, assign := assign, body := body, defers := w.heap.size } := ⟨_, rfl⟩
 obtain ⟨W1, hW1⟩ : ∃ W1, (w.alloc (.deferred (some []))).alloc (.loop rec) = W1 := ⟨_, rfl⟩
 have hL1 : W1.heap[w.heap.size + 1]? = some (.loop rec) := by
  rw [← hW1]; have := World.alloc_heap_new (w.alloc (.deferred (some []))) (.loop rec); rwa [World.size_alloc] at this
 have hK1 : W1.heap[w.heap.size]? = some (.deferred (some [])) := by
  rw [← hW1]; exact (Go.RowKit.Below.heap_alloc _ _ _ (by simp)).trans (World.alloc_heap_new w _)
 have hb1 : Go.RowKit.Below w.heap.size w W1 := by
  rw [← hW1]; exact ((Go.RowKit.Below.refl _ w).alloc (Nat.le_refl _) _).alloc (by simp) _
 have R1 := start_below hh hb1
 have hs1 : W1.heap.size = w.heap.size + 2 := by rw [← hW1]; simp
 have hhs : HRel (μ ++ [⟨w.heap.size + 1, 0, 0⟩]) (h ++ [.dead]) W1 := by
  refine ⟨by simp [hh.len], fun b B e hb he => ?_, fun b1 b2 B1 B2 e1 e2 hne g1 g2 r1 l2 m1 m2 => ?_, fun b e he => ?_⟩
  ·rw [List.getElem?_append] at hb he
   split at hb
   ·rename_i hlt
    rw [if_pos (by rw [hh.len]; exact hlt)] at he
    exact BlkRel.mono (Ren.le_append _ _) (R1.heap.blk b B e hb he)
   ·rw [List.getElem?_singleton] at hb
    split at hb
    ·cases hb; trivial
    ·cases hb
  ·have lv : ∀ {b : Nat} {B : Blk} {e : ME}, (h ++ [.dead])[b]? = some B → (B.rw = true ∨ B.live = true) → (μ ++ [(⟨w.heap.size + 1, 0, 0⟩ : ME)])[b]? = some e → h[b]? = some B ∧ μ[b]? = some e := by
    intro b B e hb hB he
    rw [List.getElem?_append] at hb he
    split at hb
    ·rename_i hlt
     rw [if_pos (by rw [hh.len]; exact hlt)] at he
     exact ⟨hb, he⟩
    ·rw [List.getElem?_singleton] at hb
     split at hb
     ·cases hb; rcases hB with hB | hB <;> cases hB
     ·cases hb
   obtain ⟨a1, a2⟩ := lv g1 (.inl r1) m1
   obtain ⟨c1, c2⟩ := lv g2 (.inr l2) m2
   exact hh.sep b1 b2 B1 B2 e1 e2 hne a1 c1 r1 l2 a2 c2
  ·rw [List.getElem?_append] at he
   split at he
   ·exact R1.heap.bnd b e he
   ·rw [List.getElem?_singleton] at he
    split at he
    ·cases he; simp only; omega
    ·cases he
 have hev1 : Evo μ h w (μ ++ [⟨w.heap.size + 1, 0, 0⟩]) (h ++ [.dead]) W1 := by
  have ne : ∀ {b : Nat} {B : Blk} {e : ME}, (h ++ [.dead])[b]? = some B → (B.rw = true ∨ B.live = true) → (μ ++ [(⟨w.heap.size + 1, 0, 0⟩ : ME)])[b]? = some e → h[b]? = some B ∧ μ[b]? = some e := by
   intro b B e hb hB he
   rw [List.getElem?_append] at hb he
   split at hb
   ·rename_i hlt
    rw [if_pos (by rw [hh.len]; exact hlt)] at he
    exact ⟨hb, he⟩
   ·rw [List.getElem?_singleton] at hb
    split at hb
    ·cases hb; rcases hB with hB | hB <;> cases hB
    ·cases hb
  refine ⟨Ren.le_append _ _, by simp, by omega, fun r hr hn => R1.evo.frame r hr hn, fun b B e hb hr he => ?_, fun b B e hb hr he => ?_, R1.evo.os, R1.evo.tape, R1.evo.output⟩
  ·obtain ⟨a1, a2⟩ := ne hb (.inl hr) he
   exact .inr ⟨b, B, e, a1, hr, a2, rfl⟩
  ·obtain ⟨a1, a2⟩ := ne hb (.inr hr) he
   exact .inr ⟨b, B, e, a1, hr, a2, rfl⟩
 refine ⟨w.heap.size + 1, [{ target := .collected w.heap.size, args := #[] }], W1, { target := .fn (.func gf) c', args := #[.func (.yield (w.heap.size + 1)) #[] #[]] }, W1, gf,
  #[.func (.yield (w.heap.size + 1)) #[] #[]] ++ c', W1, ?_, ?_, ?_, ?_, fun hd => (by cases hd), ?_⟩
 ·rw [← hW1, hrec]; exact run_enterLoop_outer _ _ _ _ _
 ·simp only [resolve, hv]
  simp [go_sem]
 ·intro f' hf'; trivial
 ·simp only [invoke]
  rw [run_callFunc hc]
 ·have hargs : #[Value.func (.yield (w.heap.size + 1)) #[] #[]] ++ c' = (Value.func (.yield (w.heap.size + 1)) #[] #[] :: c'.toList).toArray := by apply Array.ext'; simp
  rw [hargs]
  have hrel : relL (μ ++ [⟨w.heap.size + 1, 0, 0⟩]) (.func (.yield h.length) [] [] :: caps) (Value.func (.yield (w.heap.size + 1)) #[] #[] :: c'.toList) :=
   ⟨_, _, rfl, ⟨⟨w.heap.size + 1, 0, 0⟩, #[], #[], by rw [← hh.len]; simp, rfl, rfl, rfl⟩, relL.mono (Ren.le_append _ _) _ _ hcs⟩
  refine (iter_in (n := n) hf hb hfl hk (yield_ok hh E hfa hfb hrec hL1) hhs hrel).mono ?_
  rintro en w2 ⟨v, x, h2, μ2, rfl, hK, hev, hh2, _⟩
  have hl2 : w2.heap[w.heap.size + 1]? = some (.loop rec) := by rw [hev.alien hhs (alien_loop hL1), hL1]
  have hd2 : w2.heap[w.heap.size]? = some (.deferred (some [])) := by rw [hev.alien hhs (alien_deferred hK1), hK1]
  have hend := run_endLoop (P := P) hl2 (by rw [hrec]; simp)
  have hp : rec.pending = none := by rw [hrec]
  rw [hp] at hend
  refine ⟨none, _, hend, ?_⟩
  simp only [List.cons_append, List.nil_append]
  have e2 := hev1.trans hev
  refine hq μ2 h2 _ hK ⟨e2.le, e2.hlen, by rw [World.putObj_size]; exact e2.size, fun r hr hn => ?_, fun b B e hb hr he => ?_, fun b B e hb hr he => ?_, e2.os, e2.tape, e2.output⟩ (hh2.putA (alien_loop hl2) _) ?_ ?_
  ·rw [World.putObj_heap_other (by omega)]; exact e2.frame r hr hn
  ·exact e2.own b B e hb hr he
  ·exact e2.liv b B e hb hr he
  ·rw [World.putObj_heap_other (by omega)]; exact hd2
  ·rw [World.putObj_size]; exact heap_lt hd2
end
end Go.Ab
namespace Go.Ab
open Go.ChangeShapes Go.WideShapes Go.ChangeAt Go.RowKit
set_option linter.unusedSimpArgs false
set_option linter.unusedVariables false
def ReadOnly (hp : Heap) : Prop := ∀ (b : Nat) (B : Blk), hp[b]? = some B → B.rw = false
theorem ReadOnly.add {hp : Heap} (h : ReadOnly hp) {B : Blk} (hB : B.rw = false) : ReadOnly (hp ++ [B]) := by
 intro b B' hb
 rw [List.getElem?_append] at hb
 split at hb
 ·exact h b B' hb
 ·have : b - hp.length = 0 := by have := lt_of_get hb; simp at this; omega
  rw [this] at hb; simp at hb; subst hb; exact hB
theorem HRel.addRO {μ : Ren} {hp : Heap} {W : World} (H : HRel μ hp W) (ro : ReadOnly hp) {e : ME} {B : Blk} (hB : B.rw = false) (he : e.r < W.heap.size) (hb : BlkRel (μ ++ [e]) W e B) : HRel (μ ++ [e]) (hp ++ [B]) W := by
 have ro' := ro.add hB
 have split2 : ∀ {b : Nat} {B' : Blk}, (hp ++ [B])[b]? = some B' → (b < hp.length ∧ hp[b]? = some B') ∨ (b = hp.length ∧ B' = B) := by
  intro b B' hb
  rw [List.getElem?_append] at hb
  split at hb
  ·exact .inl ⟨by assumption, hb⟩
  ·have : b - hp.length = 0 := by have := lt_of_get hb; simp at this; omega
   rw [this] at hb; simp at hb
   exact .inr ⟨by omega, hb.symm⟩
 have splitm : ∀ {b : Nat} {e' : ME}, (μ ++ [e])[b]? = some e' → (b < μ.length ∧ μ[b]? = some e') ∨ (b = μ.length ∧ e' = e) := by
  intro b e' hb
  rw [List.getElem?_append] at hb
  split at hb
  ·exact .inl ⟨by assumption, hb⟩
  ·have : b - μ.length = 0 := by have := lt_of_get hb; simp at this; omega
   rw [this] at hb; simp at hb
   exact .inr ⟨by omega, hb.symm⟩
 have hlen := H.len
 refine ⟨by simp [hlen], ?_, ?_, ?_⟩
 ·intro b B' e' h1 h2
  rcases split2 h1 with ⟨g1, g2⟩ | ⟨g1, rfl⟩ <;> rcases splitm h2 with ⟨g3, g4⟩ | ⟨g3, rfl⟩
  ·exact (H.blk b B' e' g2 g4).mono (Ren.le_append _ _)
  ·omega
  ·omega
  ·exact hb
 ·intro b1 b2 B1 B2 e1 e2 hne h1 h2 hrw
  rw [ro' b1 B1 h1] at hrw; cases hrw
 ·intro b e' h2
  rcases splitm h2 with ⟨g3, g4⟩ | ⟨g3, rfl⟩
  ·exact H.bnd b e' g4
  ·exact he
section
variable {H : Type} {enc : TypeId × Value → H} {P : Program} {W : World} {α : Type}
theorem slice_in0 [Inhabited α] (E : Enc α) {t e : TypeId} {v : Value} {fuel : Nat} {x : DataW H × List MemPlace} (ht : P.underlying t = some (.slice e)) (hC : P.cellsOf e = E.sz)
  (hel : ∀ (n : Nat) (cs' : List Value) (y : DataW H × List MemPlace), DataW.trod enc P W 0 (fun _ => true) true n e cs' = some y → cs'.length = E.sz → ∃ a, ∀ μ, relL μ (E.f a) cs')
  (hf : DataW.trod enc P W 0 (fun _ => true) true fuel t [v] = some x) {μ : Ren} {hp : Heap} (HH : HRel μ hp W) (ro : ReadOnly hp) {b0 : Nat} {c0 : List AV} {rw0 : Bool} (hb0 : hp[b0]? = some (.cells c0 rw0)) :
  ∃ (l1 : Ren) (bs : Heap) (q : Option SL) (l : List α), HRel (μ ++ l1) (hp ++ bs) W ∧ ReadOnly (hp ++ bs) ∧ AV.rel (μ ++ l1) (.sl q) v ∧ HasL E (hp ++ bs) q l := by
 have hμ := HH.len
 rcases Deep.open_slice ht hf with ⟨hcs, _⟩ | ⟨a, len, cap, m, n, D, Pl, hcs, _, hlc, hm, hmm, _, hx⟩
 ·simp at hcs
  subst hcs
  exact ⟨[], [], none, [], by simpa using HH, by simpa using ro, rfl, rfl⟩
 ·simp at hcs
  subst hcs
  simp only [if_true] at hmm
  subst hmm
  by_cases hcap : m = 0
  ·have hlen0 : len = 0 := by omega
   subst hcap hlen0
   refine ⟨[], [], some ⟨b0, 0, 0, 0, 0⟩, [], by simpa using HH, by simpa using ro, ⟨⟨0, 0, 0⟩, 0, _, .inr rfl, rfl, Nat.le_refl _, .inl rfl, fun _ => rfl, fun hn => absurd rfl hn⟩, rfl, Nat.le_refl _, .inl rfl, ?_⟩
   simp [cellsAt, hb0, Enc.all]
  ·have h1 := hlc
   have hsp : ∃ (ab ao : Nat) (C : Array Value) (tt : TypeId) (fz : Nat × Nat), a = ⟨ab, ao, none⟩ ∧ W.heap[ab]? = some (.cells C tt fz) := by
    obtain ⟨cs', hcl, htr⟩ := hx 0 (by omega)
    rw [hC] at hcl
    obtain ⟨_, hlen, hcell⟩ := World.cells?_some hcl
    have h0 := hcell 0 E.pos
    have hpos := E.pos
    have hget : cs'[0]? = some (cs'[0]'(by omega)) := List.getElem?_eq_getElem _
    rw [hget] at h0
    obtain ⟨ab, ao, sp⟩ := a
    have e0 : Addr.add (Addr.add ⟨ab, ao, sp⟩ (0 * E.sz)) 0 = ⟨ab, ao, sp⟩ := by simp [Addr.add]
    rw [e0] at h0
    unfold World.cell? at h0
    split at h0
    ·rename_i C tt fz hb
     cases sp with
     | none => exact ⟨ab, ao, C, tt, fz, rfl, hb⟩
     | some sp => simp at h0
    ·cases h0
   obtain ⟨ab, ao, C, tt, fz, rfl, hb⟩ := hsp
   have hbl := heap_lt hb
   have hsz := E.pos
   have each : ∀ i, i < m → ∃ a : α, ∀ (j : Nat) (x : AV), (E.f a)[j]? = some x → ∃ y, C[ao + i * E.sz + j]? = some y ∧ ∀ μ, x.rel μ y := by
    intro i hi
    obtain ⟨cs', hcl, htr⟩ := hx i hi
    rw [hC] at hcl
    obtain ⟨_, hlen, hcell⟩ := World.cells?_some hcl
    obtain ⟨a, ha⟩ := hel _ _ _ htr hlen
    refine ⟨a, fun j x hj => ?_⟩
    have hjl : j < E.sz := by have := lt_of_get hj; rw [E.len] at this; exact this
    have hget : cs'[j]? = some (cs'[j]'(by omega)) := List.getElem?_eq_getElem _
    refine ⟨cs'[j]'(by omega), ?_, fun μ => ?_⟩
    ·have := hcell j hjl
     unfold World.cell? at this
     have eb : ((Addr.add (Addr.add ⟨ab, ao, none⟩ (i * E.sz)) j)) = ⟨ab, ao + i * E.sz + j, none⟩ := by rw [add_addr, add_addr]
     rw [eb] at this
     simp only [hb] at this
     have this' : C[ao + i * E.sz + j]? = cs'[j]? := by simpa using this
     rw [this', hget]
    ·obtain ⟨y, g1, g2⟩ := (ha μ).get hj
     rw [hget] at g1; cases g1; exact g2
   obtain ⟨V, hV⟩ := Deep.choose_lt each
   generalize hl : (List.range len).map V = l
   have hll : l.length = len := by subst hl; simp
   have hgetl : ∀ i, i < len → l[i]? = some (V i) := by
    intro i hi
    subst hl
    simp [hi]
   have lastc : ∀ i, i < m → ao + i * E.sz + E.sz ≤ C.size := by
     intro i hi
     have hfl : (E.f (V i))[E.sz - 1]? = some ((E.f (V i))[E.sz - 1]'(by rw [E.len]; omega)) := List.getElem?_eq_getElem _
     obtain ⟨y, g1, _⟩ := hV i hi _ _ hfl
     have := (Array.getElem?_eq_some_iff.1 g1).1
     omega
   have haoC : ao ≤ C.size := by have := lastc 0 (by omega); omega
   have hlenC : len * E.sz ≤ C.size - ao := by
    rcases Nat.eq_zero_or_pos len with hz | hz
    ·subst hz; simp
    ·have := lastc (len - 1) (by omega)
     have e1 : (len - 1) * E.sz + E.sz = len * E.sz := by
      rw [← Nat.succ_mul]; congr 1; omega
     omega
   refine ⟨[⟨ab, ao, C.size - ao⟩], [.cells (E.all l) false], some ⟨hp.length, 0, len, m, 0⟩, l, HH.addRO ro rfl hbl ⟨C, tt, fz, hb, by simp; omega, by rw [Enc.all_length, hll]; exact hlenC, ?_, ?_, by simp⟩, ro.add rfl, ?_, ?_⟩
   ·simp only [oneAll, List.all_eq_true]
    intro x hx'
    simp only [Enc.all, List.mem_flatten, List.mem_map] at hx'
    obtain ⟨l0, ⟨a, _, rfl⟩, h⟩ := hx'
    have := E.one a
    simp only [oneAll, List.all_eq_true] at this
    exact this x h
   ·intro j x hj
    have hjl := lt_of_get hj
    rw [Enc.all_length, hll] at hjl
    have hi : j / E.sz < len := Nat.div_lt_of_lt_mul (by rw [Nat.mul_comm]; exact hjl)
    have hdm : j / E.sz * E.sz + j % E.sz = j := by rw [Nat.mul_comm]; exact Nat.div_add_mod _ _
    have hml : j % E.sz < E.sz := Nat.mod_lt _ hsz
    have hat := Enc.all_at (E := E) (hgetl _ hi)
    have : (E.f (V (j / E.sz)))[j % E.sz]? = some x := by
     rw [← hat, List.getElem?_take, if_pos hml, List.getElem?_drop, hdm, hj]
    obtain ⟨y, g1, g2⟩ := hV _ (by omega) _ _ this
    refine ⟨y, ?_, g2 _⟩
    rw [← g1]
    simp only
    congr 1
    omega
   ·exact ⟨⟨ab, ao, C.size - ao⟩, m, _, .inl (by rw [← hμ]; simp), rfl, h1, .inr rfl, fun _ => rfl, fun hn => absurd rfl hn⟩
   ·refine ⟨hll.symm, h1, .inl rfl, ?_⟩
    rw [cellsAt_mk (C := E.all l) (rw' := false) (by simp) (by simp [Enc.all_length])]
    simp [← Enc.all_length]
end
end Go.Ab
namespace Go.Ab
set_option linter.unusedSimpArgs false
set_option linter.unusedVariables false
def Keeps (X : Nat → Prop) (h h' : Heap) : Prop := ∀ (b : Nat) (B : Blk), ¬ X b → h[b]? = some B → h'[b]? = some B
theorem Keeps.refl (X : Nat → Prop) (h : Heap) : Keeps X h h := fun _ _ _ e => e
theorem Keeps.trans {X : Nat → Prop} {a b c : Heap} (h : Keeps X a b) (h' : Keeps X b c) : Keeps X a c := fun k B hk e => h' k B hk (h k B hk e)
theorem keeps_of_ext {X : Nat → Prop} {h h' : Heap} (e : Ext h h') : Keeps X h h' := fun b B _ hb => e b B hb
def intE : Enc Int := ⟨1, fun n => [.int .i64 n], fun _ => rfl, by omega, fun _ => rfl⟩
def Apd {α : Type} (E : Enc α) (h : Heap) (q : Option SL) (l : List α) : Prop :=
 (q = none ∧ l = []) ∨ ∃ a o, q = some ⟨a, 0, l.length, l.length, o⟩ ∧ (o = 0 ∨ o = E.sz) ∧ h[a]? = some (.cells (E.all l) true)
def New {α : Type} (E : Enc α) (h h' : Heap) (q : Option SL) (l : List α) : Prop := Ext h h' ∧ Apd E h' q l ∧ ∀ s, q = some s → h.length ≤ s.b
section
variable {α : Type} {E : Enc α} {h h' : Heap} {q : Option SL} {l m : List α}
theorem Apd.hasL (A : Apd E h q l) : HasL E h q l := by
 rcases A with ⟨rfl, rfl⟩ | ⟨a, o, rfl, ho, hb⟩
 ·rfl
 ·refine ⟨rfl, Nat.le_refl _, ho, ?_⟩
  rw [cellsAt_mk (p := ⟨a, 0⟩) hb (by simp [Enc.all_length])]
  simp [← Enc.all_length]
theorem Apd.keeps {X : Nat → Prop} (A : Apd E h q l) (K : Keeps X h h') (hq : ∀ s, q = some s → ¬ X s.b) : Apd E h' q l := by
 rcases A with ⟨rfl, rfl⟩ | ⟨a, o, rfl, ho, hb⟩
 ·exact .inl ⟨rfl, rfl⟩
 ·exact .inr ⟨a, o, rfl, ho, K _ _ (hq _ rfl) hb⟩
theorem Apd.ext (A : Apd E h q l) (K : Ext h h') : Apd E h' q l := A.keeps (X := fun _ => False) (keeps_of_ext K) (fun _ _ h => h)
theorem Apd.mk {a o : Nat} {n : Nat} (hn : n = l.length) (ho : o = 0 ∨ o = E.sz) (hb : h[a]? = some (.cells (E.all l) true)) : Apd E h (some ⟨a, 0, n, n, o⟩) l := by
 subst hn; exact .inr ⟨a, o, rfl, ho, hb⟩
theorem Apd.append0 {by' : Nat} {K : Option SL → Heap → Prop} (A : Apd E h q l) (hb : (l.length + m.length) * by' ≤ 140737488355328)
  (hK : ∀ q' h', Apd E h' q' (l ++ m) → Keeps (fun b => ∃ s, q = some s ∧ s.b = b) h h' → h.length ≤ h'.length → (∀ s', q' = some s' → h.length ≤ s'.b ∨ ∃ s, q = some s ∧ s.b = s'.b) → K q' h') : PAppend E.sz by' q m.length (E.all m) h K := by
 refine ⟨by rw [Enc.all_length], ?_⟩
 rcases A with ⟨rfl, rfl⟩ | ⟨a, o, rfl, ho, hb5⟩
 ·simp only
  split
  ·rename_i hm
   have : m = [] := List.eq_nil_of_length_eq_zero hm
   subst this
   exact hK _ _ (.inl ⟨rfl, rfl⟩) (.refl _ _) (Nat.le_refl _) (fun s' h => by cases h)
  ·refine ⟨by simpa using hb, E.pos, hK _ _ (Apd.mk (by simp) (.inr rfl) (by simp)) (keeps_of_ext (Ext.app _ _)) (by simp) (fun s' h => by cases h; exact .inl (Nat.le_refl _))⟩
 ·simp only
  have hset : ∀ B : Blk, Keeps (fun b => ∃ s' : SL, some (⟨a, 0, l.length, l.length, o⟩ : SL) = some s' ∧ s'.b = b) h (h.set a B) := by
   intro B b C hb hC
   rw [List.getElem?_set, if_neg]
   ·exact hC
   ·intro he; exact hb ⟨_, rfl, he⟩
  split
  ·rename_i hle
   have hm : m.length = 0 := by omega
   have : m = [] := List.eq_nil_of_length_eq_zero hm
   subst this
   rw [hb5]
   simp only
   have e0 : E.all ([] : List α) = [] := rfl
   refine ⟨by simp [Enc.all_length, e0], hK _ _ (Apd.mk (by simp) ho ?_) (hset _) (by simp) (fun s' h => by cases h; exact .inr ⟨_, rfl, rfl⟩)⟩
   have hlt := lt_of_get hb5
   rw [List.getElem?_set_self hlt]
   simp [Enc.all, splice, List.take_append_drop]
  ·have hold : cellsAt h ⟨a, 0⟩ (l.length * E.sz) = some (E.all l) := by
    rw [cellsAt_mk (p := ⟨a, 0⟩) hb5 (by simp [Enc.all_length])]
    simp [← Enc.all_length]
   refine ⟨hb, E.pos, ?_⟩
   rw [hold, hb5]
   simp only
   rcases ho with rfl | rfl
   ·rw [if_pos rfl]
    exact hK _ _ (Apd.mk (by simp) (.inr rfl) (by simp [Enc.all_append])) (keeps_of_ext (Ext.app _ _)) (by simp) (fun s' h => by cases h; exact .inl (Nat.le_refl _))
   ·have h0' : ¬ E.sz = 0 := by have := E.pos; omega
    rw [if_neg h0']
    refine ⟨trivial, rfl, hK _ _ (Apd.mk (by simp) (.inr rfl) ?_) ((hset _).trans (keeps_of_ext (Ext.app _ _))) (by simp) (fun s' h => by cases h; exact .inl (Nat.le_refl _))⟩
    rw [List.getElem?_append_right (by simp)]
    simp [Enc.all_append]
theorem New.hasL (N : New E h h' q l) : HasL E h' q l := N.2.1.hasL
theorem New.ext {h2 : Heap} (N : New E h h' q l) (K : Ext h' h2) : New E h h2 q l := ⟨N.1.trans K, N.2.1.ext K, N.2.2⟩
theorem New.append0 {by' : Nat} {K : Option SL → Heap → Prop} (N : New E h h' q l) (hb : (l.length + m.length) * by' ≤ 140737488355328)
  (hK : ∀ q' h2, New E h h2 q' (l ++ m) → K q' h2) : PAppend E.sz by' q m.length (E.all m) h' K := by
 refine N.2.1.append0 hb fun q' h2 A2 K2 hl hq => hK q' h2 ⟨?_, A2, ?_⟩
 ·intro b B hB
  exact K2 b B (fun ⟨s, a1, a2⟩ => by have := N.2.2 s a1; have := lt_of_get hB; omega) (N.1 _ _ hB)
 ·intro s hs
  have := N.1.len
  rcases hq s hs with a | ⟨s', a1, a2⟩
  ·omega
  ·have := N.2.2 s' a1; omega
theorem New.append {src : Option SL} {by' : Nat} {K : Option SL → Heap → Prop} (N : New E h h' q l) (H : HasL E h' src m) (hb : (l.length + m.length) * by' ≤ 140737488355328)
  (hK : ∀ q' h2, New E h h2 q' (l ++ m) → K q' h2) : PAppendS E.sz by' q src h' K := by
 refine ⟨E.all m, H.cells, ?_⟩
 rw [H.len]
 exact N.append0 hb hK
theorem New.none : New E h h none ([] : List α) := ⟨.refl _, .inl ⟨rfl, rfl⟩, fun s hs => by cases hs⟩
end
section
variable {α : Type} {E : Enc α} {h h' : Heap} {q : Option SL} {l m : List α}
def AppJ (E : Enc α) (h : Heap) (q : Option SL) (l : List α) : Prop :=
 (q = none ∧ l = []) ∨ ∃ (a c o : Nat) (j : List AV), q = some ⟨a, 0, l.length, c, o⟩ ∧ (o = 0 ∨ o = E.sz) ∧ h[a]? = some (.cells (E.all l ++ j) true) ∧ j.length = (c - l.length) * E.sz ∧ l.length ≤ c
end
def ApdX {α : Type} (E : Enc α) (h : Heap) (q : Option SL) (l : List α) : Prop :=
 (q = none ∧ l = []) ∨ ∃ a, q = some ⟨a, 0, l.length, l.length, E.sz⟩ ∧ h[a]? = some (.cells (E.all l) true)
section
variable {α : Type} {E : Enc α} {h h' : Heap} {q : Option SL} {l : List α}
theorem ApdX.appj (A : ApdX E h q l) : AppJ E h q l := by
 rcases A with ⟨rfl, rfl⟩ | ⟨a, rfl, hb⟩
 ·exact .inl ⟨rfl, rfl⟩
 ·exact .inr ⟨a, l.length, E.sz, [], rfl, .inr rfl, by rw [hb, List.append_nil], by simp, Nat.le_refl _⟩
theorem ApdX.of_appj {l' : List α} (A : ApdX E h q l) (hl : l'.length = l.length) (B : AppJ E h' q l') : ApdX E h' q l' := by
 rcases A with ⟨rfl, rfl⟩ | ⟨a, rfl, hb⟩
 ·exact .inl ⟨rfl, List.eq_nil_of_length_eq_zero hl⟩
 ·rcases B with ⟨h1, _⟩ | ⟨a', c, o, j, h1, ho, hb', hj, hc⟩
  ·cases h1
  ·simp only [Option.some.injEq, SL.mk.injEq, true_and] at h1
   obtain ⟨rfl, hll, rfl, rfl⟩ := h1
   have hj0 : j = [] := List.eq_nil_of_length_eq_zero (by rw [hj]; simp [hl])
   subst hj0
   exact .inr ⟨a, by rw [hl], by rw [hb', List.append_nil]⟩
theorem ApdX.append1 {x : α} {src : Option SL} {by' : Nat} {K : Option SL → Heap → Prop} (A : ApdX E h q l) (H : HasL E h src [x]) (hb : (l.length + 1) * by' ≤ 140737488355328)
  (hK : ∀ q' h', ApdX E h' q' (l ++ [x]) → Keeps (fun b => ∃ s, q = some s ∧ s.b = b) h h' → h'.length = h.length + 1 → (∀ s', q' = some s' → s'.b = h.length) → K q' h') : PAppendS E.sz by' q src h K := by
 refine ⟨E.all [x], H.cells, ?_⟩
 rw [H.len]
 show PAppend E.sz by' q 1 (E.all [x]) h K
 refine ⟨by rw [Enc.all_length]; simp, ?_⟩
 rcases A with ⟨rfl, rfl⟩ | ⟨a, rfl, hb5⟩
 ·simp only
  rw [if_neg (by omega)]
  refine ⟨by simpa using hb, E.pos, hK _ _ (.inr ⟨h.length, rfl, by simp⟩) (keeps_of_ext (Ext.app _ _)) (by simp) (fun s' h => by cases h; rfl)⟩
 ·simp only
  have hset : ∀ B : Blk, Keeps (fun b => ∃ s' : SL, some (⟨a, 0, l.length, l.length, E.sz⟩ : SL) = some s' ∧ s'.b = b) h (h.set a B) := by
   intro B b C hb hC
   rw [List.getElem?_set, if_neg]
   ·exact hC
   ·intro he; exact hb ⟨_, rfl, he⟩
  rw [if_neg (by omega)]
  have hold : cellsAt h ⟨a, 0⟩ (l.length * E.sz) = some (E.all l) := by
   rw [cellsAt_mk (p := ⟨a, 0⟩) hb5 (by simp [Enc.all_length])]
   simp [← Enc.all_length]
  refine ⟨hb, E.pos, ?_⟩
  rw [hold, hb5]
  simp only
  have h0' : ¬ E.sz = 0 := by have := E.pos; omega
  rw [if_neg h0']
  refine ⟨trivial, by first | trivial | rfl, hK _ _ (.inr ⟨h.length, ?_, ?_⟩) ((hset _).trans (keeps_of_ext (Ext.app _ _))) (by simp) (fun s' h => by cases h; rfl)⟩
  ·simp
  ·rw [List.getElem?_append_right (by simp)]
   simp [Enc.all_append]
end
theorem AC_deads {P : Program} {f : FuncId} {args : List AV} {h : Heap} {Q : AV → Heap → Prop} (H : AC P f args h fun v h' => ∃ h2 : Heap, h2.length = h'.length ∧ (∀ (b : Nat) (B : Blk), h2[b]? = some B → B = .dead ∨ h'[b]? = some B) ∧ Q v h2) : AC P f args h Q := by
 refine ⟨H.1, fun μ w vs hh hv => (H.2 μ w vs hh hv).mono fun e w' ⟨y, x, h', μ', he, ⟨h2, hl, hb, hQ⟩, ev, hr, hx⟩ => ?_⟩
 have bk : ∀ (b : Nat) (B : Blk), h2[b]? = some B → B.live = true → h'[b]? = some B := fun b B hB hlv => by
  rcases hb b B hB with rfl | h
  ·cases hlv
  ·exact h
 have rl : ∀ {B : Blk}, B.rw = true → B.live = true := fun {B} h => by cases B <;> first | rfl | cases h
 refine ⟨y, x, h2, μ', he, hQ, ⟨ev.le, by rw [hl]; exact ev.hlen, ev.size, ev.frame, fun b B e hB hrw hb => ev.own b B e (bk b B hB (rl hrw)) hrw hb, fun b B e hB hlv hb => ev.liv b B e (bk b B hB hlv) hlv hb, ev.os, ev.tape, ev.output⟩, ⟨by rw [hl]; exact hr.len, fun b B e hB hb' => ?_, fun b1 b2 B1 B2 e1 e2 hne g1 g2 r1 v2 k1 k2 => hr.sep b1 b2 B1 B2 e1 e2 hne (bk b1 B1 g1 (rl r1)) (bk b2 B2 g2 v2) r1 v2 k1 k2, hr.bnd⟩, hx⟩
 rcases hb b B hB with rfl | h
 ·trivial
 ·exact hr.blk b B e h hb'
theorem sorted_alone {α : Type} {r : α → α → Prop} (anti : ∀ a b, r a b → r b a → a = b) : ∀ {l m : List α}, l.Pairwise r → m.Pairwise r → l.Perm m → l = m
 | [], m, _, _, h => by rw [h.nil_eq]
 | x :: l, [], _, _, h => by have := h.length_eq; simp at this
 | x :: l, y :: m, h1, h2, h => by
  have hx : x ∈ y :: m := h.subset List.mem_cons_self
  have hy : y ∈ x :: l := h.symm.subset List.mem_cons_self
  have hxy : x = y := by
   rcases List.mem_cons.1 hx with e | hx
   ·exact e
   ·rcases List.mem_cons.1 hy with e | hy
    ·exact e.symm
    ·exact anti _ _ ((List.pairwise_cons.1 h1).1 _ hy) ((List.pairwise_cons.1 h2).1 _ hx)
  subst hxy
  rw [sorted_alone anti (List.pairwise_cons.1 h1).2 (List.pairwise_cons.1 h2).2 ((List.perm_cons x).1 h)]
structure Ent0 where
  a : List AV
  H : List Blk
  v : AV
  N : List Blk
noncomputable def sameBs (H : List Blk) : List Blk → Bool := List.rec (motive := fun _ => List Blk → Bool) (fun l => List.rec (motive := fun _ => Bool) true (fun _ _ _ => false) l) (fun B _ ih l => List.rec (motive := fun _ => Bool) false (fun C cs _ => ifB (rlB (fun b => b) B C) (ih cs) false) l) H
theorem sameBs_ok : ∀ {H l : List Blk}, sameBs H l = true → l = H
  | [], [], _ => rfl
  | [], _ :: _, h => by cases h
  | B :: H, [], h => by cases h
  | B :: H, C :: cs, h => by
    obtain ⟨h1, h2⟩ := and_tt (show ifB (rlB (fun b => b) B C) (sameBs H cs) false = true from h)
    rw [sameBs_ok h2, (rlB_ok _ h1).1, blk_ren_id]
def EntOK (P : Program) (f : FuncId) (x : Ent0) : Prop := AC P f x.a x.H fun v h' => v = x.v ∧ h' = x.H ++ x.N
noncomputable def findE (a : List AV) (H : List Blk) (tbl : List Ent0) : (AV → List Blk → Bool) → Bool → Bool := List.rec (motive := fun _ => (AV → List Blk → Bool) → Bool → Bool) (fun _ d => d) (fun x _ ih κ d => ifB (ifB (rlL (fun b => b) x.a a) (sameBs x.H H) false) (κ x.v x.N) (ih κ d)) tbl
theorem findE_ok {a : List AV} {H : List Blk} {κ : AV → List Blk → Bool} {d : Bool} : ∀ {tbl : List Ent0}, findE a H tbl κ d = true → (∃ x ∈ tbl, x.a = a ∧ x.H = H ∧ κ x.v x.N = true) ∨ d = true
  | [], h => .inr h
  | x :: tbl, h => by
    have h' : ifB (ifB (rlL (fun b => b) x.a a) (sameBs x.H H) false) (κ x.v x.N) (findE a H tbl κ d) = true := h
    cases hb : ifB (rlL (fun b => b) x.a a) (sameBs x.H H) false with
    | false =>
      rw [hb] at h'
      rcases findE_ok h' with ⟨y, hy, r⟩ | r
      · exact .inl ⟨y, List.mem_cons_of_mem _ hy, r⟩
      · exact .inr r
    | true =>
      rw [hb] at h'
      obtain ⟨c1, c2⟩ := and_tt hb
      have e1 := rlL_okL _ c1
      rw [renL_id] at e1
      exact .inl ⟨x, List.mem_cons_self, e1.symm, (sameBs_ok c2).symm, h'⟩
noncomputable def eMemo (tbl : List Ent0) (run : RunT) : RunT := fun args e k =>
  rvL 0 args ⟨[], 0, []⟩ fun a0 s => rounds 0 e.t 60 s [] fun s acc => rev acc [] fun H0 => rev s.as [] fun prs => fN s.nx fun n =>
    ifB (Nat.beq H0.length n) (ifB (mat (gm 0 (prs.map Prod.fst)) 0 e.t H0 (prs.map Prod.fst)) (ifB (ndp (prs.map Prod.fst)) (ifB (rlL (gm 0 (prs.map Prod.fst)) a0 args) (ifB (lwL a0 n) (ifB (lwBs H0 n)
      (findE a0 H0 tbl (fun v2 N2 => rnBs (renB (gm 0 (prs.map Prod.fst)) n e.n) N2 fun N3 => bld N3 e fun e' => rnC (renB (gm 0 (prs.map Prod.fst)) n e.n) v2 fun v3 => k v3 e')
       (bld H0 ⟨.e, 0⟩ fun e0 => run a0 e0 fun v e1 => outK H0 n v e1 fun v2 N2 =>
        rnBs (renB (gm 0 (prs.map Prod.fst)) n e.n) N2 fun N3 => bld N3 e fun e' => rnC (renB (gm 0 (prs.map Prod.fst)) n e.n) v2 fun v3 => k v3 e'))
      false) false) false) false) false) false
theorem sub_run {P : Program} {f : FuncId} {a0 : List AV} {H0 : List Blk} {n : Nat} {m : List Nat} {e : EH} {h : Heap} {k : AV → EH → Bool} {Q : AV → Heap → Prop} (H : HFor e h) (hQ : ∀ v e' h', HFor e' h' → k v e' = true → Q v h') (hn : n = H0.length) (S : Sub (gm 0 m) n H0 h) (hlow : ∀ (b : Nat) (B : Blk), H0[b]? = some B → B.low n = true) (ha : lowL n a0 = true)
    (small : AC P f a0 H0 (fun v2 h0' => ∃ N2 : List Blk, h0' = H0 ++ N2 ∧ (rnBs (renB (gm 0 m) n e.n) N2 fun N3 => bld N3 e fun e' => rnC (renB (gm 0 m) n e.n) v2 fun v3 => k v3 e') = true)) : AC P f (renL (gm 0 m) a0) h Q := by
  have he : e.n = h.length := H.2
  refine AC_ren small S ha fun v2 h0' h' hl hq B => ?_
  obtain ⟨N2, rfl, hk2⟩ := hq
  have hk3 := rnBs_ok _ hk2
  rw [he] at hk3
  obtain ⟨e', E', hk4⟩ := bld_ok H hk3
  have hk5 := rnC_ok _ _ _ hk4
  have heq : h' = h ++ N2.map (Blk.ren (renB (gm 0 m) n h.length)) := by
    apply List.ext_getElem?
    intro c
    have hlen := B.len
    rw [List.length_append] at hlen
    rcases Nat.lt_or_ge c h.length with hc | hc
    · rw [List.getElem?_append_left hc]
      by_cases hi : ∃ (b : Nat) (B0 : Blk), H0[b]? = some B0 ∧ B0.rw = true ∧ gm 0 m b = c
      · obtain ⟨b, B0, g1, g2, rfl⟩ := hi
        have hbn : b < n := by rw [hn]; exact lt_of_get g1
        rw [B.im b B0 g1 g2, List.getElem?_append_left (by omega), g1, S.blk b B0 g1 (fun hd => by subst hd; cases g2)]
        show some _ = some _
        rw [bren_same (fun b hb => renB_lt hb) (hlow b B0 g1)]
      · exact B.out c hc fun b B0 g1 g2 g3 => hi ⟨b, B0, g1, g2, g3⟩
    · rw [List.getElem?_append_right hc, List.getElem?_map]
      have := B.new (n + (c - h.length)) (by omega)
      rw [show h.length + (n + (c - h.length) - n) = c by omega, List.getElem?_append_right (by omega), show n + (c - h.length) - H0.length = c - h.length by omega] at this
      exact this
  rw [heq]
  exact hQ _ _ _ E' hk5
theorem eMemo_ok {P : Program} {f : FuncId} {tbl : List Ent0} {run : RunT} (T0 : ∀ x ∈ tbl, EntOK P f x) (R : RunOK P f run) : RunOK P f (eMemo tbl run) := by
  intro args e h k Q H hQ hk
  unfold eMemo at hk
  obtain ⟨a0, s, hk⟩ := rvL_ok hk
  obtain ⟨s, acc, hk⟩ := rounds_ok hk
  obtain ⟨H0, hk⟩ := rev_ok hk
  obtain ⟨prs, hk⟩ := rev_ok hk
  rw [fN_eq] at hk
  generalize prs.map Prod.fst = m at hk
  generalize s.nx = n at hk
  obtain ⟨c0, hk⟩ := and_tt hk
  obtain ⟨c1, hk⟩ := and_tt hk
  obtain ⟨c2, hk⟩ := and_tt hk
  obtain ⟨c3, hk⟩ := and_tt hk
  obtain ⟨c4, hk⟩ := and_tt hk
  obtain ⟨c5, hk⟩ := and_tt hk
  have hn : n = H0.length := (Nat.eq_of_beq_eq_true c0).symm
  have S := sub_of H hn c1 c2 c5
  have hlow := lwBs_ok c5
  rw [rlL_okL _ c3]
  refine sub_run H hQ hn S hlow (lwL_okL c4) ?_
  rcases findE_ok hk with ⟨x, hx, rfl, rfl, hkx⟩ | hk
  · exact (T0 x hx).mono fun v h' ⟨e1, e2⟩ => ⟨x.N, e2, by rw [e1]; exact hkx⟩
  · obtain ⟨e0, E0, hk⟩ := bld_ok HFor_nil hk
    rw [List.nil_append] at E0
    refine AC_embed (R a0 e0 H0 _ _ E0 (fun v e1 h1 H1 hk1 => ?_) hk)
    obtain ⟨g, v2, N2, E, hk2⟩ := outK_ok hn hlow H1 hk1
    exact ⟨g, v2, H0 ++ N2, hn ▸ E, N2, rfl, hk2⟩
noncomputable def entRun (run : RunT) (x : Ent0) : Bool := ifB (lwBs x.H x.H.length) (bld x.H ⟨.e, 0⟩ fun e0 => run x.a e0 fun v e1 => outK x.H x.H.length v e1 fun v2 N2 => ifB (rl (fun b => b) x.v v2) (sameBs x.N N2) false) false
theorem entRun_ok {P : Program} {f : FuncId} {run : RunT} (R : RunOK P f run) {x : Ent0} (h : entRun run x = true) : EntOK P f x := by
  obtain ⟨c5, hk⟩ := and_tt h
  obtain ⟨e0, E0, hk⟩ := bld_ok HFor_nil hk
  rw [List.nil_append] at E0
  refine AC_embed (R x.a e0 x.H _ _ E0 (fun v e1 h1 H1 hk1 => ?_) hk)
  obtain ⟨g, v2, N2, E, hk2⟩ := outK_ok rfl (lwBs_ok c5) H1 hk1
  obtain ⟨k1, k2⟩ := and_tt hk2
  have e1 := rl_ok _ _ _ k1
  rw [ren_id] at e1
  exact ⟨g, v2, x.H ++ N2, E, e1, by rw [sameBs_ok k2]⟩
section
variable {α : Type}
def cellG (x : α) (n i : Nat) : Option α := match Nat.blt i n with | true => some x | false => none
def q1G (x : α) (n a : Nat) : Q16 (Option α) := ⟨cellG x n a, cellG x n (Nat.add a 1), cellG x n (Nat.add a 2), cellG x n (Nat.add a 3), cellG x n (Nat.add a 4), cellG x n (Nat.add a 5), cellG x n (Nat.add a 6), cellG x n (Nat.add a 7), cellG x n (Nat.add a 8), cellG x n (Nat.add a 9), cellG x n (Nat.add a 10), cellG x n (Nat.add a 11), cellG x n (Nat.add a 12), cellG x n (Nat.add a 13), cellG x n (Nat.add a 14), cellG x n (Nat.add a 15)⟩
def q2G (x : α) (n a : Nat) : Q16 (Q16 (Option α)) := ⟨q1G x n a, q1G x n (Nat.add a 16), q1G x n (Nat.add a 32), q1G x n (Nat.add a 48), q1G x n (Nat.add a 64), q1G x n (Nat.add a 80), q1G x n (Nat.add a 96), q1G x n (Nat.add a 112), q1G x n (Nat.add a 128), q1G x n (Nat.add a 144), q1G x n (Nat.add a 160), q1G x n (Nat.add a 176), q1G x n (Nat.add a 192), q1G x n (Nat.add a 208), q1G x n (Nat.add a 224), q1G x n (Nat.add a 240)⟩
def q3G (x : α) (n a : Nat) : Q16 (Q16 (Q16 (Option α))) := ⟨q2G x n a, q2G x n (Nat.add a 256), q2G x n (Nat.add a 512), q2G x n (Nat.add a 768), q2G x n (Nat.add a 1024), q2G x n (Nat.add a 1280), q2G x n (Nat.add a 1536), q2G x n (Nat.add a 1792), q2G x n (Nat.add a 2048), q2G x n (Nat.add a 2304), q2G x n (Nat.add a 2560), q2G x n (Nat.add a 2816), q2G x n (Nat.add a 3072), q2G x n (Nat.add a 3328), q2G x n (Nat.add a 3584), q2G x n (Nat.add a 3840)⟩
def q4G (x : α) (n a : Nat) : Q16 (Q16 (Q16 (Q16 (Option α)))) := ⟨q3G x n a, q3G x n (Nat.add a 4096), q3G x n (Nat.add a 8192), q3G x n (Nat.add a 12288), q3G x n (Nat.add a 16384), q3G x n (Nat.add a 20480), q3G x n (Nat.add a 24576), q3G x n (Nat.add a 28672), q3G x n (Nat.add a 32768), q3G x n (Nat.add a 36864), q3G x n (Nat.add a 40960), q3G x n (Nat.add a 45056), q3G x n (Nat.add a 49152), q3G x n (Nat.add a 53248), q3G x n (Nat.add a 57344), q3G x n (Nat.add a 61440)⟩
def q5G (x : α) (n a : Nat) : Q16 (Q16 (Q16 (Q16 (Q16 (Option α))))) := ⟨q4G x n a, q4G x n (Nat.add a 65536), q4G x n (Nat.add a 131072), q4G x n (Nat.add a 196608), q4G x n (Nat.add a 262144), q4G x n (Nat.add a 327680), q4G x n (Nat.add a 393216), q4G x n (Nat.add a 458752), q4G x n (Nat.add a 524288), q4G x n (Nat.add a 589824), q4G x n (Nat.add a 655360), q4G x n (Nat.add a 720896), q4G x n (Nat.add a 786432), q4G x n (Nat.add a 851968), q4G x n (Nat.add a 917504), q4G x n (Nat.add a 983040)⟩
def allT (x : α) (n : Nat) : T α := .b (q5G x n 0)
theorem q1G_get {x : α} {n a d : Nat} (h : d < 16) : (q1G x n a).get d = cellG x n (a + d) := by
 rcases lt16 h with rfl | rfl | rfl | rfl | rfl | rfl | rfl | rfl | rfl | rfl | rfl | rfl | rfl | rfl | rfl | rfl <;> rfl
theorem q2G_get {x : α} {n a d : Nat} (h : d < 16) : (q2G x n a).get d = q1G x n (a + 16 * d) := by
 rcases lt16 h with rfl | rfl | rfl | rfl | rfl | rfl | rfl | rfl | rfl | rfl | rfl | rfl | rfl | rfl | rfl | rfl <;> rfl
theorem q3G_get {x : α} {n a d : Nat} (h : d < 16) : (q3G x n a).get d = q2G x n (a + 256 * d) := by
 rcases lt16 h with rfl | rfl | rfl | rfl | rfl | rfl | rfl | rfl | rfl | rfl | rfl | rfl | rfl | rfl | rfl | rfl <;> rfl
theorem q4G_get {x : α} {n a d : Nat} (h : d < 16) : (q4G x n a).get d = q3G x n (a + 4096 * d) := by
 rcases lt16 h with rfl | rfl | rfl | rfl | rfl | rfl | rfl | rfl | rfl | rfl | rfl | rfl | rfl | rfl | rfl | rfl <;> rfl
theorem q5G_get {x : α} {n a d : Nat} (h : d < 16) : (q5G x n a).get d = q4G x n (a + 65536 * d) := by
 rcases lt16 h with rfl | rfl | rfl | rfl | rfl | rfl | rfl | rfl | rfl | rfl | rfl | rfl | rfl | rfl | rfl | rfl <;> rfl
theorem cellG_eq (x : α) (n i : Nat) : cellG x n i = (List.replicate n x)[i]? := by
 unfold cellG
 rw [List.getElem?_replicate]
 cases h : Nat.blt i n with
 | true => rw [if_pos (T.blt_t h)]
 | false => rw [if_neg (fun hc => by rw [T.blt_of hc] at h; cases h)]
theorem allT_get (x : α) (n i : Nat) (hn : n ≤ 1048576) : (allT x n).get i = (List.replicate n x)[i]? := by
 obtain ⟨d1, d2, d3, d4, d5⟩ := D_lt i
 have e1 : D1 i = i % 16 := rfl
 have e2 : D2 i = i / 16 % 16 := rfl
 have e3 : D3 i = i / 256 % 16 := rfl
 have e4 : D4 i = i / 4096 % 16 := rfl
 have e5 : D5 i = i / 65536 % 16 := rfl
 show (match Nat.blt i 1048576 with | true => (((((q5G x n 0).get (D5 i)).get (D4 i)).get (D3 i)).get (D2 i)).get (D1 i) | false => none) = _
 cases hi : Nat.blt i 1048576 with
 | true =>
  have hi' := T.blt_t hi
  simp only
  rw [q5G_get d5, q4G_get d4, q3G_get d3, q2G_get d2, q1G_get d1, ← cellG_eq]
  congr 1; omega
 | false =>
  have : ¬ i < 1048576 := fun hc => by rw [T.blt_of hc] at hi; cases hi
  rw [List.getElem?_eq_none (by rw [List.length_replicate]; omega)]
end
abbrev Sp := List (Nat × Blk)
def spH (n : Nat) (S : Sp) : Heap := S.foldl (fun h p => h.set p.1 p.2) (List.replicate n .dead)
theorem foldl_set_length (S : Sp) : ∀ h : Heap, (S.foldl (fun h p => h.set p.1 p.2) h).length = h.length := by
 induction S with
 | nil => intro h; rfl
 | cons p S ih => intro h; rw [List.foldl_cons, ih, List.length_set]
theorem spH_length (n : Nat) (S : Sp) : (spH n S).length = n := by unfold spH; rw [foldl_set_length, List.length_replicate]
theorem foldl_set_get (S : Sp) : ∀ (h : Heap) {b : Nat} {B : Blk}, (S.foldl (fun h p => h.set p.1 p.2) h)[b]? = some B → h[b]? = some B ∨ (b, B) ∈ S := by
 induction S with
 | nil => intro h b B hb; exact .inl hb
 | cons p S ih =>
  intro h b B hb
  rw [List.foldl_cons] at hb
  rcases ih _ hb with h1 | h1
  ·rw [List.getElem?_set] at h1
   split at h1
   ·split at h1
    ·rename_i hp _
     cases h1
     exact .inr (by subst hp; exact List.mem_cons_self)
    ·cases h1
   ·exact .inl h1
  ·exact .inr (List.mem_cons_of_mem _ h1)
theorem spH_get {n : Nat} {S : Sp} {b : Nat} {B : Blk} (h : (spH n S)[b]? = some B) : B = .dead ∨ (b, B) ∈ S := by
 rcases foldl_set_get S _ h with h1 | h1
 ·rw [List.getElem?_replicate] at h1
  split at h1
  ·cases h1; exact .inl rfl
  ·cases h1
 ·exact .inr h1
noncomputable def puts (S : Sp) : T Blk → (T Blk → Bool) → Bool := List.rec (motive := fun _ => T Blk → (T Blk → Bool) → Bool) (fun t κ => κ t) (fun p _ ih t κ => t.wput p.1 p.2 fun t' => ih t' κ) S
theorem puts_ok : ∀ {S : Sp} {t : T Blk} {h : Heap} {n : Nat} {κ : T Blk → Bool}, HFor ⟨t, n⟩ h → puts S t κ = true → ∃ t', HFor ⟨t', n⟩ (S.foldl (fun h p => h.set p.1 p.2) h) ∧ κ t' = true
 | [], t, h, n, κ, H, hk => ⟨t, H, hk⟩
 | p :: S, t, h, n, κ, H, hk => by
  have hk' : (t.wput p.1 p.2 fun t' => puts S t' κ) = true := hk
  rw [T.wput_eq] at hk'
  obtain ⟨t', h1, h2, h3⟩ := T.put_ok hk'
  have hlt : p.1 < h.length := by
   have : (h[p.1]?).isSome = true := by rw [← H.1]; exact h2
   rcases Nat.lt_or_ge p.1 h.length with h4 | h4
   ·exact h4
   ·rw [List.getElem?_eq_none h4] at this; cases this
  refine puts_ok (t := t') (h := h.set p.1 p.2) ⟨fun i => ?_, by rw [List.length_set]; exact H.2⟩ h1
  show t'.get i = _
  rw [h3, List.getElem?_set]
  by_cases hi : i = p.1
  ·subst hi; rw [if_pos rfl, if_pos rfl, if_pos hlt]
  ·rw [if_neg hi, if_neg (Ne.symm hi)]; exact H.1 i
noncomputable def bldS (n : Nat) (S : Sp) (κ : EH → Bool) : Bool := ifB (Nat.ble n 1048576) (puts S (allT .dead n) fun t => κ ⟨t, n⟩) false
theorem bldS_ok {n : Nat} {S : Sp} {κ : EH → Bool} (h : bldS n S κ = true) : ∃ e, HFor e (spH n S) ∧ κ e = true := by
 obtain ⟨h1, h2⟩ := and_tt h
 have hn := Nat.le_of_ble_eq_true h1
 have H0 : HFor ⟨allT .dead n, n⟩ (List.replicate n .dead) := ⟨fun i => allT_get _ _ _ hn, by simp⟩
 obtain ⟨t, h3, h4⟩ := puts_ok H0 h2
 exact ⟨_, h3, h4⟩
abbrev SK2 := T Nat → List Nat → Bool
abbrev MV := AV → T Nat → List Nat → SK2 → Bool
abbrev ML := List AV → T Nat → List Nat → SK2 → Bool
noncomputable def mid (n0 b2 b : Nat) (s : T Nat) (pd : List Nat) (κ : SK2) : Bool := ifB (Nat.blt b2 n0) (κ s pd) (Option.rec (motive := fun _ => Bool) (s.wadd b2 b fun s' => κ s' (b2 :: pd)) (fun _ => κ s pd) (s.wget b2))
noncomputable def mvP (n0 : Nat) (p : Option PA) (y : AV) (s : T Nat) (pd : List Nat) (κ : SK2) : Bool := Option.rec (motive := fun _ => Bool) (κ s pd) (fun p => AV.mptr y (fun q => Option.rec (motive := fun _ => Bool) (κ s pd) (fun q => mid n0 p.b q.b s pd κ) q) (κ s pd)) p
noncomputable def mvS (n0 : Nat) (p : Option SL) (y : AV) (s : T Nat) (pd : List Nat) (κ : SK2) : Bool := Option.rec (motive := fun _ => Bool) (κ s pd) (fun p => AV.msl y (fun q => Option.rec (motive := fun _ => Bool) (κ s pd) (fun q => mid n0 p.b q.b s pd κ) q) (κ s pd)) p
noncomputable def mvM (n0 : Nat) (p : Option Nat) (y : AV) (s : T Nat) (pd : List Nat) (κ : SK2) : Bool := Option.rec (motive := fun _ => Bool) (κ s pd) (fun p => AV.mmap y (fun q => Option.rec (motive := fun _ => Bool) (κ s pd) (fun q => mid n0 p q s pd κ) q) (κ s pd)) p
noncomputable def mv (n0 : Nat) (x : AV) : MV := AV.rec (motive_1 := fun _ => MV) (motive_2 := fun _ => ML)
 (fun _ _ _ s pd κ => κ s pd) (fun _ _ s pd κ => κ s pd) (fun _ _ s pd κ => κ s pd) (mvP n0) (mvS n0) (mvM n0)
 (fun _ _ _ ia ic y s pd κ => AV.mfunc y (fun _ a c => ia a s pd fun s pd => ic c s pd κ) (κ s pd)) (fun _ s pd κ => κ s pd) (fun _ _ ih y s pd κ => AV.miface y (fun _ z => ih z s pd κ) (κ s pd)) (fun _ s pd κ => κ s pd)
 (fun _ ih y s pd κ => AV.magg y (fun l => ih l s pd κ) (κ s pd)) (fun _ ih y s pd κ => AV.mtup y (fun l => ih l s pd κ) (κ s pd))
 (fun _ s pd κ => κ s pd) (fun _ _ ix ixs l s pd κ => List.rec (motive := fun _ => Bool) (κ s pd) (fun y ys _ => ix y s pd fun s pd => ixs ys s pd κ) l) x
noncomputable def mvL (n0 : Nat) (l : List AV) : ML := List.rec (motive := fun _ => ML) (fun _ s pd κ => κ s pd) (fun x _ ih l s pd κ => List.rec (motive := fun _ => Bool) (κ s pd) (fun y ys _ => mv n0 x y s pd fun s pd => ih ys s pd κ) l) l
noncomputable def mvE (n0 : Nat) (l : List (AV × AV × Nat)) : List (AV × AV × Nat) → T Nat → List Nat → SK2 → Bool := List.rec (motive := fun _ => List (AV × AV × Nat) → T Nat → List Nat → SK2 → Bool) (fun _ s pd κ => κ s pd) (fun x _ ih l s pd κ => List.rec (motive := fun _ => Bool) (κ s pd) (fun y ys _ => mv n0 x.1 y.1 s pd fun s pd => mv n0 x.2.1 y.2.1 s pd fun s pd => ih ys s pd κ) l) l
noncomputable def mvB (n0 : Nat) (x y : Blk) (s : T Nat) (pd : List Nat) (κ : SK2) : Bool := Blk.rec (motive := fun _ => Bool)
 (fun c _ => Blk.rec (motive := fun _ => Bool) (fun d _ => mvL n0 c d s pd κ) (fun _ _ => κ s pd) (fun _ _ _ _ => κ s pd) (fun _ => κ s pd) (fun _ _ => κ s pd) (κ s pd) y)
 (fun es _ => Blk.rec (motive := fun _ => Bool) (fun _ _ => κ s pd) (fun fs _ => mvE n0 es fs s pd κ) (fun _ _ _ _ => κ s pd) (fun _ => κ s pd) (fun _ _ => κ s pd) (κ s pd) y)
 (fun _ _ _ _ => κ s pd) (fun _ => κ s pd)
 (fun _ j => Blk.rec (motive := fun _ => Bool) (fun _ _ => κ s pd) (fun _ _ => κ s pd) (fun _ _ _ _ => κ s pd) (fun _ => κ s pd) (fun _ k => mid n0 j k s pd κ) (κ s pd) y) (κ s pd) x
noncomputable def onNo (o : Option Nat) (f : Nat → Bool) (d : Bool) : Bool := Option.rec (motive := fun _ => Bool) d f o
noncomputable def visit (n0 : Nat) (tH t : T Blk) (l : List Nat) : T Nat → List Nat → SK2 → Bool := List.rec (motive := fun _ => T Nat → List Nat → SK2 → Bool) (fun s pd κ => κ s pd)
 (fun b2 _ ih s pd κ => Bool.rec (motive := fun _ => (Nat → Bool) → Bool) (fun f => onNo (s.wget b2) f (ih s pd κ)) (fun f => f b2) (Nat.blt b2 n0) fun b => Option.rec (motive := fun _ => Bool) (ih s pd κ) (fun x => Option.rec (motive := fun _ => Bool) (ih s pd κ) (fun y => mvB n0 x y s pd fun s pd => ih s pd κ) (t.wget b)) (tH.wget b2)) l
noncomputable def seek (n0 : Nat) (tH t : T Blk) (f : Nat) : T Nat → List Nat → (T Nat → Bool) → Bool := Nat.rec (motive := fun _ => T Nat → List Nat → (T Nat → Bool) → Bool) (fun _ _ _ => false) (fun _ ih s pd κ => List.rec (motive := fun _ => Bool) (κ s) (fun _ _ _ => visit n0 tH t pd s [] fun s pd => ih s pd κ) pd) f
noncomputable def gt (n0 en : Nat) (s : T Nat) (b : Nat) : Nat := Bool.rec (motive := fun _ => Nat) (Option.rec (motive := fun _ => Nat) 0 (fun x => Bool.rec (motive := fun _ => Nat) 0 x (Nat.blt x en)) (s.wget b)) b (Nat.blt b n0)
theorem gt_lt {n0 en b : Nat} {s : T Nat} (h : b < n0) : gt n0 en s b = b := by unfold gt; rw [T.blt_of h]
theorem gt_in {n0 en b : Nat} {s : T Nat} (h0 : n0 ≤ en) (he : 0 < en) (hb : b < n0 ∨ True) : gt n0 en s b < en := by
 unfold gt
 cases h : Nat.blt b n0 with
 | true => have := T.blt_t h; show b < en; omega
 | false =>
  show (Option.rec (motive := fun _ => Nat) 0 (fun x => Bool.rec (motive := fun _ => Nat) 0 x (Nat.blt x en)) (s.wget b)) < en
  cases s.wget b with
  | none => exact he
  | some x =>
   show (Bool.rec (motive := fun _ => Nat) 0 x (Nat.blt x en)) < en
   cases hx : Nat.blt x en with
   | true => exact T.blt_t hx
   | false => exact he
noncomputable def rlB2 (g : Nat → Nat) (x y : Blk) : Bool := Blk.rec (motive := fun _ => Bool) (fun _ _ => rlB g x y) (fun _ _ => rlB g x y) (fun _ _ _ _ => false) (fun _ => false)
 (fun a j => Blk.rec (motive := fun _ => Bool) (fun _ _ => false) (fun _ _ => false) (fun _ _ _ _ => false) (fun _ => false) (fun b k => ifB (Nat.beq a b) (Nat.beq (g j) k) false) false y) false x
theorem rlB2_ok {g : Nat → Nat} {x y : Blk} (h : rlB2 g x y = true) : y = x.ren g ∧ x ≠ .dead := by
 cases x with
 | cells c rw => exact rlB_ok g h
 | mp es k => exact rlB_ok g h
 | gm a j =>
  cases y with
  | gm b k =>
   obtain ⟨h1, h2⟩ := and_tt (show ifB (Nat.beq a b) (Nat.beq (g j) k) false = true from h)
   rw [← Nat.eq_of_beq_eq_true h1, ← Nat.eq_of_beq_eq_true h2]
   exact ⟨rfl, fun h => by cases h⟩
  | _ => cases h
 | _ => cases h
noncomputable def lwB2 (B : Blk) (n : Nat) : Bool := Blk.rec (motive := fun _ => Bool) (fun _ _ => lwB B n) (fun _ _ => lwB B n) (fun _ _ _ _ => false) (fun _ => false) (fun _ j => Nat.blt j n) true B
theorem lwB2_ok {B : Blk} {n : Nat} (h : lwB2 B n = true) : B.low n = true := by
 cases B with
 | cells c rw => exact lwB_ok h
 | mp es k => exact lwB_ok h
 | gm g j => exact h
 | dead => rfl
 | _ => cases h
noncomputable def lwS (S : Sp) (n : Nat) : Bool := List.rec (motive := fun _ => Bool) true (fun p _ ih => ifB (lwB2 p.2 n) ih false) S
theorem lwS_ok {n : Nat} : ∀ {S : Sp}, lwS S n = true → ∀ p ∈ S, p.2.low n = true
 | [], _, p, hp => by cases hp
 | q :: S, h, p, hp => by
  obtain ⟨h1, h2⟩ := and_tt (show ifB (lwB2 q.2 n) (lwS S n) false = true from h)
  rcases List.mem_cons.1 hp with rfl | hp
  ·exact lwB2_ok h1
  ·exact lwS_ok h2 p hp
noncomputable def vfy (G : Nat → Nat) (t : T Blk) (S : Sp) : T Unit → Bool := List.rec (motive := fun _ => T Unit → Bool) (fun _ => true) (fun p _ ih u => fN (G p.1) fun c => Option.rec (motive := fun _ => Bool) (onB (t.wget c) fun C => ifB (rlB2 G p.2 C) (u.wadd c () fun u' => ih u') false) (fun _ => false) (u.wget c)) S
theorem vfy_ok {G : Nat → Nat} {t : T Blk} : ∀ {S : Sp} {u : T Unit}, vfy G t S u = true → (∀ p ∈ S, t.get (G p.1) = some (p.2.ren G) ∧ p.2 ≠ .dead ∧ u.get (G p.1) = none) ∧ (∀ p ∈ S, ∀ q ∈ S, p ≠ q → G p.1 ≠ G q.1) ∧ S.Nodup
 | [], u, h => ⟨fun p hp => (by cases hp), fun p hp => (by cases hp), List.nodup_nil⟩
 | p :: S, u, h => by
  have h' : (fN (G p.1) fun c => Option.rec (motive := fun _ => Bool) (onB (t.wget c) fun C => ifB (rlB2 G p.2 C) (u.wadd c () fun u' => vfy G t S u') false) (fun _ => false) (u.wget c)) = true := h
  rw [fN_eq, T.wget_eq, T.wget_eq] at h'
  cases hu : u.get (G p.1) with
  | some x => rw [hu] at h'; cases h'
  | none =>
   rw [hu] at h'
   rw [onB_eq] at h'
   cases ht : t.get (G p.1) with
   | none => rw [ht] at h'; cases h'
   | some C =>
    rw [ht] at h'
    obtain ⟨h1, h2⟩ := and_tt h'
    obtain ⟨e1, e2⟩ := rlB2_ok h1
    rw [T.wadd_eq] at h2
    obtain ⟨u', h3, h45⟩ := T.add_ok h2
    have h4 : u'.get (G p.1) = some () := (h45 _).trans (if_pos rfl)
    have h5 : ∀ j, j ≠ G p.1 → u'.get j = u.get j := fun j hj => (h45 j).trans (if_neg hj)
    obtain ⟨i1, i2, i3⟩ := vfy_ok h3
    have far : ∀ q ∈ S, G q.1 ≠ G p.1 := fun q hq hc => by
     have := (i1 q hq).2.2
     rw [hc, h4] at this; cases this
    refine ⟨fun q hq => ?_, fun q hq r hr hne => ?_, List.nodup_cons.2 ⟨fun hm => far p hm rfl, i3⟩⟩
    ·rcases List.mem_cons.1 hq with rfl | hq
     ·exact ⟨by rw [ht, e1], e2, hu⟩
     ·obtain ⟨a, b, c⟩ := i1 q hq
      exact ⟨a, b, by rw [h5 _ (far q hq)] at c; exact c⟩
    ·rcases List.mem_cons.1 hq with g1 | hq' <;> rcases List.mem_cons.1 hr with g2 | hr'
     ·exact absurd (g1.trans g2.symm) hne
     ·rw [g1]; exact (far r hr').symm
     ·rw [g2]; exact far q hq'
     ·exact i2 q hq' r hr' hne
noncomputable def chk (n0 n : Nat) (a : List AV) (S : Sp) (tH : T Blk) (args : List AV) (e : EH) (κ : (Nat → Nat) → Bool) : Bool :=
 mvL n0 a args T.empty (S.map Prod.fst) fun s pd => seek n0 tH e.t 200 s pd fun s =>
  ifB (Nat.ble n0 e.n) (ifB (Nat.blt 0 e.n) (ifB (rlL (gt n0 e.n s) a args) (ifB (lwL a n) (ifB (lwS S n) (ifB (vfy (gt n0 e.n s) e.t S T.empty) (κ (gt n0 e.n s)) false) false) false) false) false) false
theorem mid_ok {n0 b2 b : Nat} {s : T Nat} {pd : List Nat} {κ : SK2} (h : mid n0 b2 b s pd κ = true) : ∃ s pd, κ s pd = true := by
 unfold mid at h
 cases hb : Nat.blt b2 n0 with
 | true => rw [hb] at h; exact ⟨_, _, h⟩
 | false =>
  rw [hb] at h
  have h' : (Option.rec (motive := fun _ => Bool) (s.wadd b2 b fun s' => κ s' (b2 :: pd)) (fun _ => κ s pd) (s.wget b2)) = true := h
  cases hg : s.wget b2 with
  | some x => rw [hg] at h'; exact ⟨_, _, h'⟩
  | none =>
   rw [hg] at h'
   have h2 : (s.wadd b2 b fun s' => κ s' (b2 :: pd)) = true := h'
   rw [T.wadd_eq] at h2
   obtain ⟨s', h3, _⟩ := T.add_ok h2
   exact ⟨_, _, h3⟩
abbrev MVok (n0 : Nat) (x : AV) : Prop := ∀ (y : AV) (s : T Nat) (pd : List Nat) (κ : SK2), mv n0 x y s pd κ = true → ∃ s pd, κ s pd = true
mutual
theorem mv_ok {n0 : Nat} : ∀ x : AV, MVok n0 x
 | .int _ _, y, s, pd, κ, h => ⟨_, _, h⟩
 | .bool _, y, s, pd, κ, h => ⟨_, _, h⟩
 | .str _, y, s, pd, κ, h => ⟨_, _, h⟩
 | .ptr none, y, s, pd, κ, h => ⟨_, _, h⟩
 | .ptr (some p), y, s, pd, κ, h => by
  cases y
  case ptr q =>
   cases q with
   | none => exact ⟨_, _, h⟩
   | some q => exact mid_ok h
  all_goals exact ⟨_, _, h⟩
 | .sl none, y, s, pd, κ, h => ⟨_, _, h⟩
 | .sl (some p), y, s, pd, κ, h => by
  cases y
  case sl q =>
   cases q with
   | none => exact ⟨_, _, h⟩
   | some q => exact mid_ok h
  all_goals exact ⟨_, _, h⟩
 | .map none, y, s, pd, κ, h => ⟨_, _, h⟩
 | .map (some p), y, s, pd, κ, h => by
  cases y
  case map q =>
   cases q with
   | none => exact ⟨_, _, h⟩
   | some q => exact mid_ok h
  all_goals exact ⟨_, _, h⟩
 | .func fn a c, y, s, pd, κ, h => by
  cases y
  case func fn' a' c' =>
   obtain ⟨s1, p1, h1⟩ := mvR_ok a a' s pd _ h
   exact mvR_ok c c' s1 p1 _ h1
  all_goals exact ⟨_, _, h⟩
 | .nilfunc, y, s, pd, κ, h => ⟨_, _, h⟩
 | .iface t x, y, s, pd, κ, h => by
  cases y
  case iface t' z => exact mv_ok x z s pd κ h
  all_goals exact ⟨_, _, h⟩
 | .niliface, y, s, pd, κ, h => ⟨_, _, h⟩
 | .agg l, y, s, pd, κ, h => by
  cases y
  case agg l' => exact mvR_ok l l' s pd κ h
  all_goals exact ⟨_, _, h⟩
 | .tup l, y, s, pd, κ, h => by
  cases y
  case tup l' => exact mvR_ok l l' s pd κ h
  all_goals exact ⟨_, _, h⟩
theorem mvR_ok {n0 : Nat} : ∀ (l : List AV) (m : List AV) (s : T Nat) (pd : List Nat) (κ : SK2), AV.rec_1 (motive_1 := fun _ => MV) (motive_2 := fun _ => ML)
 (fun _ _ _ s pd κ => κ s pd) (fun _ _ s pd κ => κ s pd) (fun _ _ s pd κ => κ s pd) (mvP n0) (mvS n0) (mvM n0)
 (fun _ _ _ ia ic y s pd κ => AV.mfunc y (fun _ a c => ia a s pd fun s pd => ic c s pd κ) (κ s pd)) (fun _ s pd κ => κ s pd) (fun _ _ ih y s pd κ => AV.miface y (fun _ z => ih z s pd κ) (κ s pd)) (fun _ s pd κ => κ s pd)
 (fun _ ih y s pd κ => AV.magg y (fun l => ih l s pd κ) (κ s pd)) (fun _ ih y s pd κ => AV.mtup y (fun l => ih l s pd κ) (κ s pd))
 (fun _ s pd κ => κ s pd) (fun _ _ ix ixs l s pd κ => List.rec (motive := fun _ => Bool) (κ s pd) (fun y ys _ => ix y s pd fun s pd => ixs ys s pd κ) l) l m s pd κ = true → ∃ s pd, κ s pd = true
 | [], m, s, pd, κ, h => ⟨_, _, h⟩
 | x :: l, [], s, pd, κ, h => ⟨_, _, h⟩
 | x :: l, y :: m, s, pd, κ, h => by
  obtain ⟨s1, p1, h1⟩ := mv_ok x y s pd _ h
  exact mvR_ok l m s1 p1 κ h1
end
theorem mvL_ok {n0 : Nat} : ∀ {l m : List AV} {s : T Nat} {pd : List Nat} {κ : SK2}, mvL n0 l m s pd κ = true → ∃ s pd, κ s pd = true
 | [], m, s, pd, κ, h => ⟨_, _, h⟩
 | x :: l, [], s, pd, κ, h => ⟨_, _, h⟩
 | x :: l, y :: m, s, pd, κ, h => by
  obtain ⟨s1, p1, h1⟩ := mv_ok x y s pd _ (show mv n0 x y s pd (fun s pd => mvL n0 l m s pd κ) = true from h)
  exact mvL_ok h1
theorem mvE_ok {n0 : Nat} : ∀ {l m : List (AV × AV × Nat)} {s : T Nat} {pd : List Nat} {κ : SK2}, mvE n0 l m s pd κ = true → ∃ s pd, κ s pd = true
 | [], m, s, pd, κ, h => ⟨_, _, h⟩
 | x :: l, [], s, pd, κ, h => ⟨_, _, h⟩
 | x :: l, y :: m, s, pd, κ, h => by
  obtain ⟨s1, p1, h1⟩ := mv_ok x.1 y.1 s pd _ (show mv n0 x.1 y.1 s pd (fun s pd => mv n0 x.2.1 y.2.1 s pd fun s pd => mvE n0 l m s pd κ) = true from h)
  obtain ⟨s2, p2, h2⟩ := mv_ok x.2.1 y.2.1 s1 p1 _ h1
  exact mvE_ok h2
theorem mvB_ok {n0 : Nat} {x y : Blk} {s : T Nat} {pd : List Nat} {κ : SK2} (h : mvB n0 x y s pd κ = true) : ∃ s pd, κ s pd = true := by
 cases x with
 | cells c rw => cases y with
  | cells d rw' => exact mvL_ok (show mvL n0 c d s pd κ = true from h)
  | _ => exact ⟨_, _, h⟩
 | mp es k => cases y with
  | mp fs k' => exact mvE_ok (show mvE n0 es fs s pd κ = true from h)
  | _ => exact ⟨_, _, h⟩
 | gm g j => cases y with
  | gm g' k => exact mid_ok h
  | _ => exact ⟨_, _, h⟩
 | _ => exact ⟨_, _, h⟩
theorem visit_ok {n0 : Nat} {tH t : T Blk} : ∀ {l : List Nat} {s : T Nat} {pd : List Nat} {κ : SK2}, visit n0 tH t l s pd κ = true → ∃ s pd, κ s pd = true
 | [], s, pd, κ, h => ⟨_, _, h⟩
 | b2 :: l, s, pd, κ, h => by
  have inner : ∀ b, (Option.rec (motive := fun _ => Bool) (visit n0 tH t l s pd κ) (fun x => Option.rec (motive := fun _ => Bool) (visit n0 tH t l s pd κ) (fun y => mvB n0 x y s pd fun s pd => visit n0 tH t l s pd κ) (t.wget b)) (tH.wget b2)) = true → ∃ s pd, κ s pd = true := by
   intro b hb
   cases h1 : tH.wget b2 with
   | none => rw [h1] at hb; exact visit_ok (show visit n0 tH t l s pd κ = true from hb)
   | some x =>
    rw [h1] at hb
    have hb' : (Option.rec (motive := fun _ => Bool) (visit n0 tH t l s pd κ) (fun y => mvB n0 x y s pd fun s pd => visit n0 tH t l s pd κ) (t.wget b)) = true := hb
    cases h2 : t.wget b with
    | none => rw [h2] at hb'; exact visit_ok (show visit n0 tH t l s pd κ = true from hb')
    | some y =>
     rw [h2] at hb'
     obtain ⟨s1, p1, h3⟩ := mvB_ok (show mvB n0 x y s pd (fun s pd => visit n0 tH t l s pd κ) = true from hb')
     exact visit_ok h3
  have h' : (Bool.rec (motive := fun _ => (Nat → Bool) → Bool) (fun f => onNo (s.wget b2) f (visit n0 tH t l s pd κ)) (fun f => f b2) (Nat.blt b2 n0) fun b => Option.rec (motive := fun _ => Bool) (visit n0 tH t l s pd κ) (fun x => Option.rec (motive := fun _ => Bool) (visit n0 tH t l s pd κ) (fun y => mvB n0 x y s pd fun s pd => visit n0 tH t l s pd κ) (t.wget b)) (tH.wget b2)) = true := h
  cases hb : Nat.blt b2 n0 with
  | true => rw [hb] at h'; exact inner b2 h'
  | false =>
   rw [hb] at h'
   have h2 : onNo (s.wget b2) (fun b => Option.rec (motive := fun _ => Bool) (visit n0 tH t l s pd κ) (fun x => Option.rec (motive := fun _ => Bool) (visit n0 tH t l s pd κ) (fun y => mvB n0 x y s pd fun s pd => visit n0 tH t l s pd κ) (t.wget b)) (tH.wget b2)) (visit n0 tH t l s pd κ) = true := h'
   cases hg : s.wget b2 with
   | none => rw [hg] at h2; exact visit_ok (show visit n0 tH t l s pd κ = true from h2)
   | some x => rw [hg] at h2; exact inner x h2
theorem seek_ok {n0 : Nat} {tH t : T Blk} : ∀ {f : Nat} {s : T Nat} {pd : List Nat} {κ : T Nat → Bool}, seek n0 tH t f s pd κ = true → ∃ s, κ s = true
 | 0, s, pd, κ, h => by cases h
 | f + 1, s, [], κ, h => ⟨_, h⟩
 | f + 1, s, p :: pd, κ, h => by
  obtain ⟨s1, p1, h1⟩ := visit_ok (show visit n0 tH t (p :: pd) s [] (fun s pd => seek n0 tH t f s pd κ) = true from h)
  exact seek_ok h1
theorem chk_ok {e : EH} {h : Heap} (H : HFor e h) {n0 n : Nat} {a args : List AV} {S : Sp} {tH : T Blk} {κ : (Nat → Nat) → Bool} (hk : chk n0 n a S tH args e κ = true) :
  ∃ G, (∀ b, b < n0 → G b = b) ∧ Sub G n (spH n S) h ∧ args = renL G a ∧ lowL n a = true ∧ n0 ≤ h.length ∧ κ G = true := by
 unfold chk at hk
 obtain ⟨s, pd, hk⟩ := mvL_ok hk
 obtain ⟨s, hk⟩ := seek_ok hk
 obtain ⟨c0, hk⟩ := and_tt hk
 obtain ⟨c1, hk⟩ := and_tt hk
 obtain ⟨c2, hk⟩ := and_tt hk
 obtain ⟨c3, hk⟩ := and_tt hk
 obtain ⟨c4, hk⟩ := and_tt hk
 obtain ⟨c5, hk⟩ := and_tt hk
 have he : e.n = h.length := H.2
 obtain ⟨v1, v2, v3⟩ := vfy_ok c5
 have l0 := Nat.le_of_ble_eq_true c0
 have l1 := T.blt_t c1
 have at' : ∀ (b : Nat) (B : Blk), (b, B) ∈ S → h[gt n0 e.n s b]? = some (B.ren (gt n0 e.n s)) := fun b B hB => by
  rw [← H.1]; exact (v1 _ hB).1
 refine ⟨gt n0 e.n s, fun b hb => gt_lt hb, ⟨spH_length _ _, fun b hb => ?_, fun b B hB hd => ?_, fun b1 b2 B1 B2 hne g1 g2 r1 r2 => ?_, fun b B hB => ?_⟩, rlL_okL _ c2, lwL_okL c3, by omega, hk⟩
 ·rw [← he]; exact gt_in l0 l1 (.inr trivial)
 ·rcases spH_get hB with rfl | hm
  ·exact absurd rfl hd
  ·exact at' b B hm
 ·rcases spH_get g1 with rfl | m1
  ·cases r1
  ·rcases spH_get g2 with rfl | m2
   ·cases r2
   ·exact v2 _ m1 _ m2 fun hc => hne (by cases hc; rfl)
 ·rcases spH_get hB with rfl | hm
  ·rfl
  ·exact lwS_ok c4 _ hm
noncomputable def enumS (l : List Blk) : Nat → Sp := List.rec (motive := fun _ => Nat → Sp) (fun _ => []) (fun B _ ih n => (n, B) :: ih (Nat.succ n)) l
theorem enumS_go : ∀ (l pre : List Blk) (m : Nat), m = l.length → (enumS l pre.length).foldl (fun h p => h.set p.1 p.2) (pre ++ List.replicate m .dead) = pre ++ l
 | [], pre, m, hm => by subst hm; simp [enumS]
 | B :: l, pre, m, hm => by
  subst hm
  show (enumS l (Nat.succ pre.length)).foldl _ ((pre ++ List.replicate (l.length + 1) Blk.dead).set pre.length B) = _
  have e1 : (pre ++ List.replicate (l.length + 1) Blk.dead).set pre.length B = (pre ++ [B]) ++ List.replicate l.length Blk.dead := by
   rw [List.set_append_right _ _ (Nat.le_refl _), Nat.sub_self, List.replicate_succ, List.set_cons_zero, List.append_assoc]; rfl
  rw [e1]
  have := enumS_go l (pre ++ [B]) l.length rfl
  rw [List.length_append, List.length_singleton] at this
  rw [this, List.append_assoc]; rfl
theorem enumS_eq (l : List Blk) : spH l.length (enumS l 0) = l := by
 have := enumS_go l [] l.length rfl
 simpa [spH] using this
noncomputable def enumD (l : List Blk) : Nat → Sp := List.rec (motive := fun _ => Nat → Sp) (fun _ => []) (fun B _ ih n => Blk.rec (motive := fun _ => Sp) (fun _ _ => (n, B) :: ih (Nat.succ n)) (fun _ _ => (n, B) :: ih (Nat.succ n)) (fun _ _ _ _ => (n, B) :: ih (Nat.succ n)) (fun _ => (n, B) :: ih (Nat.succ n)) (fun _ _ => (n, B) :: ih (Nat.succ n)) (ih (Nat.succ n)) B) l
theorem enumD_go : ∀ (l pre : List Blk) (m : Nat), m = l.length → (enumD l pre.length).foldl (fun h p => h.set p.1 p.2) (pre ++ List.replicate m .dead) = pre ++ l
 | [], pre, m, hm => by subst hm; simp [enumD]
 | B :: l, pre, m, hm => by
  subst hm
  have live : (((pre.length, B) :: enumD l (Nat.succ pre.length)).foldl (fun h p => h.set p.1 p.2) (pre ++ List.replicate (l.length + 1) Blk.dead)) = pre ++ B :: l := by
   rw [List.foldl_cons]
   have e1 : (pre ++ List.replicate (l.length + 1) Blk.dead).set pre.length B = (pre ++ [B]) ++ List.replicate l.length Blk.dead := by
    rw [List.set_append_right _ _ (Nat.le_refl _), Nat.sub_self, List.replicate_succ, List.set_cons_zero, List.append_assoc]; rfl
   rw [e1]
   have := enumD_go l (pre ++ [B]) l.length rfl
   rw [List.length_append, List.length_singleton] at this
   rw [this, List.append_assoc]; rfl
  cases B
  case dead =>
   show (enumD l (Nat.succ pre.length)).foldl _ (pre ++ List.replicate (l.length + 1) Blk.dead) = _
   have := enumD_go l (pre ++ [.dead]) l.length rfl
   rw [List.length_append, List.length_singleton, List.append_assoc, List.append_assoc] at this
   exact this
  all_goals exact live
theorem enumD_eq (l : List Blk) : spH l.length (enumD l 0) = l := by
 have := enumD_go l [] l.length rfl
 simpa [spH] using this
noncomputable def rnBd (F : Nat → Nat) (B : Blk) (κ : Blk → Bool) : Bool := Blk.rec (motive := fun _ => Bool) (fun _ _ => rnB F B κ) (fun _ _ => rnB F B κ) (fun _ _ _ _ => false) (fun _ => false) (fun _ _ => false) (κ .dead) B
theorem rnBd_ok (F : Nat → Nat) {B : Blk} {κ : Blk → Bool} (h : rnBd F B κ = true) : κ (B.ren F) = true := by
 cases B with
 | cells c rw => exact rnB_ok F h
 | mp es k => exact rnB_ok F h
 | dead => exact h
 | _ => cases h
structure EntM where
 k0 : Nat
 a : List AV
 H : List Blk
 v : AV
 C : Sp
 N : List Blk
def EntM.H2 (x : EntM) : List Blk := x.C.foldl (fun h p => h.set p.1 p.2) x.H ++ x.N
def EntMOK (P : Program) (f : FuncId) (x : EntM) : Prop := AC P f x.a x.H fun v h' => v = x.v ∧ h' = x.H2
noncomputable def rwB (B : Blk) : Bool := Blk.rec (motive := fun _ => Bool) (fun _ rw => rw) (fun _ _ => true) (fun _ _ _ _ => false) (fun _ => false) (fun _ _ => false) false B
theorem rwB_ok {B : Blk} (h : rwB B = true) : B.rw = true := by cases B <;> first | exact h | rfl | cases h
noncomputable def okC (t : T Blk) (C : Sp) : Bool := List.rec (motive := fun _ => Bool) true (fun p _ ih => ifB (onB (t.wget p.1) fun B => rwB B) ih false) C
theorem okC_ok {t : T Blk} : ∀ {C : Sp}, okC t C = true → ∀ p ∈ C, ∃ B, t.get p.1 = some B ∧ B.rw = true
 | [], _, p, hp => by cases hp
 | q :: C, h, p, hp => by
  obtain ⟨h1, h2⟩ := and_tt (show ifB (onB (t.wget q.1) fun B => rwB B) (okC t C) false = true from h)
  rcases List.mem_cons.1 hp with e | hp
  ·rw [onB_eq, T.wget_eq] at h1
   cases hg : t.get q.1 with
   | none => rw [hg] at h1; cases h1
   | some B => rw [hg] at h1; exact ⟨B, by rw [e]; exact hg, rwB_ok h1⟩
  ·exact okC_ok h2 p hp
noncomputable def putC (F : Nat → Nat) (C : Sp) : T Blk → (T Blk → Bool) → Bool := List.rec (motive := fun _ => T Blk → (T Blk → Bool) → Bool) (fun t κ => κ t) (fun p _ ih t κ => rnBd F p.2 fun B => fN (F p.1) fun c => t.wput c B fun t' => ih t' κ) C
theorem putC_ok {F : Nat → Nat} : ∀ {C : Sp} {t : T Blk} {h : Heap} {n : Nat} {κ : T Blk → Bool}, HFor ⟨t, n⟩ h → putC F C t κ = true → ∃ t', HFor ⟨t', n⟩ ((C.map fun p => (F p.1, p.2.ren F)).foldl (fun h p => h.set p.1 p.2) h) ∧ κ t' = true
 | [], t, h, n, κ, H, hk => ⟨t, H, hk⟩
 | p :: C, t, h, n, κ, H, hk => by
  have hk1 := rnBd_ok F (show rnBd F p.2 (fun B => fN (F p.1) fun c => t.wput c B fun t' => putC F C t' κ) = true from hk)
  rw [fN_eq, T.wput_eq] at hk1
  obtain ⟨t', h1, h2, h3⟩ := T.put_ok hk1
  have hlt : F p.1 < h.length := by
   have : (h[F p.1]?).isSome = true := by rw [← H.1]; exact h2
   rcases Nat.lt_or_ge (F p.1) h.length with h4 | h4
   ·exact h4
   ·rw [List.getElem?_eq_none h4] at this; cases this
  refine putC_ok (t := t') (h := h.set (F p.1) (p.2.ren F)) ⟨fun i => ?_, by rw [List.length_set]; exact H.2⟩ h1
  show t'.get i = _
  rw [h3, List.getElem?_set]
  by_cases hi : i = F p.1
  ·subst hi; rw [if_pos rfl, if_pos rfl, if_pos hlt]
  ·rw [if_neg hi, if_neg (Ne.symm hi)]; exact H.1 i
noncomputable def findM (args : List AV) (e : EH) (k : AV → EH → Bool) (d : Bool) (tbl : List EntM) : Bool := List.rec (motive := fun _ => Bool) d (fun x _ ih => Bool.rec (motive := fun _ => Bool) ih true
 (fN x.H.length fun n => bld x.H ⟨.e, 0⟩ fun e0 => ifB (okC e0.t x.C) (chk x.k0 n x.a (enumD x.H 0) e0.t args e fun G => putC (renB G n e.n) x.C e.t fun t => rnBs (renB G n e.n) x.N fun N3 => bld N3 ⟨t, e.n⟩ fun e' => rnC (renB G n e.n) x.v fun v3 => k v3 e') false)) tbl
noncomputable def eMemoM (tbl : List EntM) (run : RunT) : RunT := fun args e k => findM args e k (run args e k) tbl
theorem foldl_set_at {F : Nat → Nat} {R : Nat → Prop} (inj : ∀ b c, R b → R c → F b = F c → b = c) : ∀ (C : Sp) (H0 h : Heap), (∀ p ∈ C, R p.1 ∧ p.1 < H0.length) → (∀ b, R b → F b < h.length ∧ h[F b]? = (H0[b]?).map (Blk.ren F)) →
  ∀ b, R b → ((C.map fun p => (F p.1, p.2.ren F)).foldl (fun h p => h.set p.1 p.2) h)[F b]? = ((C.foldl (fun h p => h.set p.1 p.2) H0)[b]?).map (Blk.ren F)
 | [], H0, h, hC, hI, b, hb => (hI b hb).2
 | p :: C, H0, h, hC, hI, b, hb => by
  obtain ⟨hp, hpl⟩ := hC p List.mem_cons_self
  refine foldl_set_at inj C (H0.set p.1 p.2) (h.set (F p.1) (p.2.ren F)) (fun q hq => by rw [List.length_set]; exact hC q (List.mem_cons_of_mem _ hq)) (fun c hc => ⟨by rw [List.length_set]; exact (hI c hc).1, ?_⟩) b hb
  rw [List.getElem?_set, List.getElem?_set]
  by_cases hx : p.1 = c
  ·subst hx
   rw [if_pos rfl, if_pos rfl, if_pos (hI _ hp).1, if_pos hpl]; rfl
  ·rw [if_neg hx, if_neg fun hf => hx (inj _ _ hp hc hf)]; exact (hI c hc).2
theorem foldl_set_off {C : Sp} {h : Heap} {c : Nat} (hC : ∀ p ∈ C, p.1 ≠ c) : (C.foldl (fun h p => h.set p.1 p.2) h)[c]? = h[c]? := by
 induction C generalizing h with
 | nil => rfl
 | cons p C ih =>
  rw [List.foldl_cons, ih fun q hq => hC q (List.mem_cons_of_mem _ hq), List.getElem?_set, if_neg (hC p List.mem_cons_self)]
theorem eMemoM_ok {P : Program} {f : FuncId} {tbl : List EntM} {run : RunT} (T0 : ∀ x ∈ tbl, EntMOK P f x) (R : RunOK P f run) : RunOK P f (eMemoM tbl run) := by
 intro args e h k Q H hQ hk
 unfold eMemoM at hk
 have key : ∀ (tbl : List EntM), (∀ x ∈ tbl, EntMOK P f x) → findM args e k (run args e k) tbl = true → AC P f args h Q := by
  intro tbl
  induction tbl with
  | nil => intro _ hk; exact R args e h k Q H hQ hk
  | cons x tbl ih =>
   intro T0 hk
   have hk' : Bool.rec (motive := fun _ => Bool) (findM args e k (run args e k) tbl) true (fN x.H.length fun n => bld x.H ⟨.e, 0⟩ fun e0 => ifB (okC e0.t x.C) (chk x.k0 n x.a (enumD x.H 0) e0.t args e fun G => putC (renB G n e.n) x.C e.t fun t => rnBs (renB G n e.n) x.N fun N3 => bld N3 ⟨t, e.n⟩ fun e' => rnC (renB G n e.n) x.v fun v3 => k v3 e') false) = true := hk
   cases hc : (fN x.H.length fun n => bld x.H ⟨.e, 0⟩ fun e0 => ifB (okC e0.t x.C) (chk x.k0 n x.a (enumD x.H 0) e0.t args e fun G => putC (renB G n e.n) x.C e.t fun t => rnBs (renB G n e.n) x.N fun N3 => bld N3 ⟨t, e.n⟩ fun e' => rnC (renB G n e.n) x.v fun v3 => k v3 e') false) with
   | false =>
    rw [hc] at hk'
    exact ih (fun y hy => T0 y (List.mem_cons_of_mem _ hy)) hk'
   | true =>
    rw [fN_eq] at hc
    obtain ⟨e0, E0, hc⟩ := bld_ok HFor_nil hc
    rw [List.nil_append] at E0
    obtain ⟨c1, hc⟩ := and_tt hc
    obtain ⟨G, _, S, ha, hl, _, hc⟩ := chk_ok H hc
    rw [enumD_eq] at S
    rw [ha]
    have he : e.n = h.length := H.2
    have hC := okC_ok c1
    refine AC_ren (T0 x List.mem_cons_self) S hl fun v h0' h' hl' ⟨hv, hh⟩ B => ?_
    subst hv hh
    rw [he] at hc
    obtain ⟨t', H1, hc⟩ := putC_ok (t := e.t) (h := h) (n := h.length) ⟨H.1, rfl⟩ hc
    have hc := rnBs_ok _ hc
    obtain ⟨e', E', hc⟩ := bld_ok H1 hc
    have hc := rnC_ok _ _ _ hc
    have heq : h' = (x.C.map fun p => (renB G x.H.length h.length p.1, p.2.ren (renB G x.H.length h.length))).foldl (fun h p => h.set p.1 p.2) h ++ x.N.map (Blk.ren (renB G x.H.length h.length)) := by
     generalize hF : renB G x.H.length h.length = F at *
     have hCl : ∀ p ∈ x.C, p.1 < x.H.length := fun p hp => by
      obtain ⟨X, h1, _⟩ := hC p hp
      rw [E0.1] at h1; exact lt_of_get h1
     have hFl : ∀ b, b < x.H.length → F b = G b := fun b hb => by rw [← hF]; exact renB_lt hb
     apply List.ext_getElem?
     intro c
     have hlen := B.len
     have hl2 : (x.C.map fun p => (F p.1, p.2.ren F)).foldl (fun h p => h.set p.1 p.2) h = (x.C.map fun p => (F p.1, p.2.ren F)).foldl (fun h p => h.set p.1 p.2) h := rfl
     have hlL : ((x.C.map fun p => (F p.1, p.2.ren F)).foldl (fun h p => h.set p.1 p.2) h).length = h.length := foldl_set_length _ _
     rcases Nat.lt_or_ge c h.length with hcl | hcl
     ·rw [List.getElem?_append_left (by rw [hlL]; exact hcl)]
      by_cases hi : ∃ (b : Nat) (B0 : Blk), x.H[b]? = some B0 ∧ B0.rw = true ∧ G b = c
      ·obtain ⟨b, B0, g1, g2, rfl⟩ := hi
       have hbn : b < x.H.length := lt_of_get g1
       rw [B.im b B0 g1 g2, hF]
       have := foldl_set_at (F := F) (R := fun b => ∃ B0, x.H[b]? = some B0 ∧ B0.rw = true) (fun b c ⟨B1, k1, k2⟩ ⟨B2, k3, k4⟩ hf => Classical.byContradiction fun hne => by
         rw [hFl b (lt_of_get k1), hFl c (lt_of_get k3)] at hf
         exact S.inj b c B1 B2 hne k1 k3 k2 (rw_live' k4) hf) x.C x.H h (fun p hp => by
         obtain ⟨X, h1, h2⟩ := hC p hp
         rw [E0.1] at h1
         exact ⟨⟨X, h1, h2⟩, hCl p hp⟩) (fun b ⟨B1, k1, k2⟩ => by
         have hb' := lt_of_get k1
         rw [hFl b hb']
         refine ⟨S.lt b hb', ?_⟩
         rw [S.blk b B1 k1 (fun hd => by subst hd; cases k2), k1]
         show some _ = some _
         rw [bren_same (fun b hb => (hFl b hb).symm) (S.low b B1 k1)]) b ⟨B0, g1, g2⟩
       rw [hFl b hbn] at this
       rw [this]
       unfold EntM.H2
       rw [List.getElem?_append_left (by rw [foldl_set_length]; exact hbn)]
      ·rw [B.out c hcl fun b B0 g1 g2 g3 => hi ⟨b, B0, g1, g2, g3⟩]
       refine (foldl_set_off fun p hp hpc => ?_).symm
       obtain ⟨q, hq, rfl⟩ := List.mem_map.1 hp
       obtain ⟨X, h1, h2⟩ := hC q hq
       rw [E0.1] at h1
       simp only at hpc
       rw [hFl _ (lt_of_get h1)] at hpc
       exact hi ⟨q.1, X, h1, h2, hpc⟩
     ·rw [List.getElem?_append_right (by rw [hlL]; exact hcl), hlL, List.getElem?_map]
      have := B.new (x.H.length + (c - h.length)) (by omega)
      rw [show h.length + (x.H.length + (c - h.length) - x.H.length) = c by omega, hF] at this
      rw [this]
      unfold EntM.H2
      rw [List.getElem?_append_right (by rw [foldl_set_length]; omega), foldl_set_length, show x.H.length + (c - h.length) - x.H.length = c - h.length by omega]
    rw [heq]
    exact hQ _ _ _ E' hc
 exact key tbl T0 hk
end Go.Ab
