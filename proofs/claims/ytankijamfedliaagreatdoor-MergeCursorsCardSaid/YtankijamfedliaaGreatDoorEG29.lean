import Derived.Test.YtankijamfedliaaGreatDoorEG16
import Derived.Test.YtankijamfedliaaGreatDoorEG28
namespace Go.Proofs.YtankijamfedliaaGreatDoor.Mer
open Go.Ab
open Go.Num hiding Bs snoc_ind
open Go.Ent Go.Seg Go.Cur
open Go.Page hiding Bs get
open Go.Dsk hiding Bs
open Go.Pool hiding Bs Ents set_at Fr least
set_option linter.unusedVariables false
set_option linter.unusedSimpArgs false
section
variable {h h' hW : Heap} {ow ow' : Roles} {p pp fb mb n N N' : Nat} {qc : Option SL} {cbs : List Nat} {er : Int} {H H' : List HD} {x y : HD} {Q : AV → Heap → Prop} {q : Option SL} {z : Nat → Prop} {fl : Bs → Nat → Int × List Ent} {cs : List Cu} {P : PS}
theorem addcur {cb : Nat} {K : Heap → Prop} (M : MrgR h ow p qc cbs er H cs) (hm : cbs.length ≤ 1000)
    (hK : ∀ h' ow' qc', MrgR h' ow' p qc' (cbs ++ [cb]) er H cs → DStep ow h ow' h' → K h') :
    ∃ q28 : Option SL, cellsAt h ⟨p, 1⟩ 1 = some [.sl q28] ∧ PNew [.ptr (some ⟨cb, 0⟩)] true h fun a29 h30 => PAppendS 1 8 q28 (some ⟨a29, 0, 1, 1, 0⟩) h30 fun q31 h32 => PStore h32 ⟨p, 1⟩ [.sl q31] K := by
  obtain ⟨qa, c1, c2, c3, c4⟩ := M.K.qa
  refine ⟨qc, by rw [cellsAt_mk (p := ⟨p, 1⟩) c2 (by simp)]; rfl, ?_⟩
  unfold PNew
  have x15 : Ext h (h ++ [Blk.cells [.ptr (some ⟨cb, 0⟩)] true]) := .app _ _
  have Hn : HasL ptrE (h ++ [.cells [.ptr (some ⟨cb, 0⟩)] true]) (some ⟨h.length, 0, 1, 1, 0⟩) [cb] := HasL.new (n := 1) rfl rfl
  have l15 : (h ++ [Blk.cells [AV.ptr (some ⟨cb, 0⟩)] true]).length = h.length + 1 := by simp
  generalize h ++ [Blk.cells [AV.ptr (some ⟨cb, 0⟩)] true] = h15 at *
  refine Apd.append (E := ptrE) (M.K.curs.1.ext x15) Hn (by simp; omega) fun q16 h17 A17 K17 l17 hq16 => ?_
  have hpl := M.K.live p (by simp [M.K.pr])
  have c4' := M.K.curs.2
  have hb17 := K17 p _ (fun ⟨s, a1, a2⟩ => by have := c4' s a1; rw [a2, M.K.pr] at this; cases this) (x15 _ _ c2)
  show PStore h17 ⟨p, 0 + 1⟩ [.sl q16] K
  refine store6 (o := 1) hb17 (by simp) ?_
  have es : splice [AV.sl qa, .sl qc, .int .i64 er] 1 [.sl q16] = [.sl qa, .sl q16, .int .i64 er] := rfl
  rw [es]
  have l19 : (h17.set p (.cells [.sl qa, .sl q16, .int .i64 er] true)).length = h17.length := by simp
  have b19 : (h17.set p (.cells [.sl qa, .sl q16, .int .i64 er] true))[p]? = some (.cells [.sl qa, .sl q16, .int .i64 er] true) := List.getElem?_set_self (by omega)
  have K19 : Keeps (fun b => b = p) h17 (h17.set p (.cells [.sl qa, .sl q16, .int .i64 er] true)) := keeps_set rfl
  generalize h17.set p (.cells [.sl qa, .sl q16, .int .i64 er] true) = h19 at *
  have hcond : ∀ s, q16 = some s → h.length ≤ s.b ∨ ow s.b = some .cur := fun s hs => by
    rcases hq16 s hs with a | ⟨s2, a1, a2⟩
    · exact .inl (by omega)
    · exact .inr (by rw [← a2]; exact c4' s2 a1)
  have keep := setOw_keep (q := q16) (r := .cur) M.K.live hcond
  have hsome : ∀ b, setOw ow q16 .cur b ≠ none → ow b ≠ none ∨ h.length ≤ b ∧ b < h19.length := fun b hb => by
    rcases setOw_some hcond b hb with hb | ⟨hb, s, hs, hb2⟩
    · exact .inl hb
    · refine .inr ⟨hb, ?_⟩
      have := HasL.live A17.hasL s hs
      omega
  have K : Keeps (fun b => ow b = some .cur ∨ b = p) h h19 := by
    intro b B hb hB
    refine K19 b B (fun e => hb (.inr e)) (K17 b B (fun ⟨s, a1, a2⟩ => hb (.inl (by rw [← a2]; exact c4' s a1))) (x15 b B hB))
  have hX : ∀ b r, ow b = some r → r ≠ .cur → r ≠ .mrg → ¬ (ow b = some .cur ∨ b = p) := by
    intro b r hr n1 n2 hx
    rcases hx with hx | hx
    · rw [hr] at hx; exact n1 (Option.some.inj hx)
    · subst hx; rw [M.K.pr] at hr; exact n2 (Option.some.inj hr).symm
  refine hK h19 (setOw ow q16 .cur) q16 ⟨⟨fun b hb => ?_, keep _ _ M.K.pr, ⟨qa, b19, c3.keeps K (fun s hs => hX _ _ (c4 s hs) (by simp) (by simp)), fun s hs => keep _ _ (c4 s hs)⟩, fun u hu => ?_, M.K.nodup, M.K.many, ?_, fun s hs => setOw_self s hs⟩, fun u hu hk => ?_, M.C, M.ok, M.lnd⟩ ⟨fun b B hb hB => K b B (fun hx => hb ?_) hB, by omega, fun b hb => (hsome b hb).imp id And.left⟩
  · rcases hsome b hb with hb | hb
    · have := M.K.live b hb; omega
    · exact hb.2
  · have := M.K.heads u hu
    exact ⟨keep _ _ this.1, K _ _ (hX _ _ this.1 (by simp) (by simp)) this.2⟩
  · refine A17.keeps K19 fun s hs e => ?_
    have := setOw_self (ow := ow) (q := q16) (r := .cur) s hs
    rw [e, keep _ _ M.K.pr] at this
    cases this
  · obtain ⟨a1, ⟨qu, a2, a3, a4⟩, a5⟩ := M.L u hu hk
    exact ⟨keep _ _ a1, ⟨qu, K _ _ (hX _ _ a1 (by simp) (by simp)) a2, K.hasL (fun s hs => hX _ _ (a4 s hs) (by simp) (by simp)) a3, fun s hs => keep _ _ (a4 s hs)⟩, a5⟩
  · show ow b ≠ none
    rcases hx with hx | hx
    · rw [hx]; simp
    · rw [hx, M.K.pr]; simp
theorem allOf_app {H H2 : List HD} : allOf (H ++ H2) = allOf H ++ allOf H2 := by simp [allOf]
def toldC (T : Cu → List Ent) (c : Cu) : List Ent := if c.R = [] then [] else c.R ++ T c
set_option maxRecDepth 20000 in
set_option maxHeartbeats 2000000 in
theorem m30 {q2 : Option SL} {ls : List (List Ent)} {T : Cu → List Ent} (I : InLL h q ls) (Cq : HasL ptrE h q2 (cs.map (·.cb))) (hl : ls.length + cs.length ≤ 64) (hs : ∀ l ∈ ls, SortedL l) (F2 : ∀ l ∈ ls, l.length ≤ 500) (A : CA z hW h pp fb mb n fl cs P N) (hT : ∀ c ∈ cs, SortedL (c.R ++ T c) ∧ (c.E = 0 → T c = []))
    (hQ : ∀ h' p ow H z' qc, Ext h h' ∨ True → Keeps (fun _ => False) h h' → MW h' ow p qc (cs.map (·.cb)) 0 H cs z' hW pp fb mb n fl P N → HeapOK H H.length 0 → Cov H cs → (allOf H).Perm (ls.flatten ++ cs.flatMap (toldC T)) → (∀ b, ow b ≠ none → h.length ≤ b) → Q (.tup [.ptr (some ⟨p, 0⟩), .int .i64 0]) h') : AC Tryz.prog 30 [.sl q, .sl q2] h Q := ac30 (by
  unfold vc30
  have hlen := I.len
  have hcl : (cs.map (·.cb)).length = cs.length := by simp
  refine m67 I Cq (by rw [hcl]; exact hl) hs F2 fun h4 x4 => ⟨_, rfl, ?_⟩
  refine vif_mk (fun g => by simp at g) (fun _ => ?_)
  unfold PNew
  have hx47 : Ext h4 (h4 ++ [Blk.cells [.sl none, .sl none, .int .i64 0] true]) := .app _ _
  have x7 := x4.trans hx47
  have h4l := x4.len
  have M7 : MrgR (h4 ++ [Blk.cells [.sl none, .sl none, .int .i64 0] true]) (fun b => if b = h4.length then some .mrg else none) h4.length none [] 0 [] cs := by
    refine ⟨⟨fun b hb => ?_, by simp, ⟨none, by simp, .inl ⟨rfl, rfl⟩, fun s hs => by cases hs⟩, fun u hu => by simp at hu, by simp, by simp, .inl ⟨rfl, rfl⟩, fun s hs => by cases hs⟩, fun u hu => by simp at hu, fun u hu => by simp at hu, fun u hu => by simp at hu, by simp⟩
    by_cases e : b = h4.length
    · simp [e]
    · simp [e] at hb
  have l7 : (h4 ++ [Blk.cells [AV.sl none, .sl none, .int .i64 0] true]).length = h4.length + 1 := by simp
  generalize h4 ++ [Blk.cells [AV.sl none, .sl none, .int .i64 0] true] = h7 at *
  have A4 := A.grow x4
  have S7 : MW h7 (fun b => if b = h4.length then some .mrg else none) h4.length none [] 0 [] cs (fun b => z b ∨ b = h4.length) hW pp fb mb n fl P N := by
    have zl := A4.C.zl
    have hxl := A4.C.xl
    refine ⟨M7, A4.step (X := fun _ => False) (keeps_of_ext hx47) (fun _ h => h.elim) (fun _ h => h.elim) hx47.len (fun b hb => .inl hb) (fun b hb => hb.imp id fun e => ⟨by omega, by omega⟩) (fun _ _ h => h), ⟨fun b hb => ?_, fun c hc => ?_⟩, fun b hb => ?_⟩
    · by_cases e : b = h4.length
      · subst e; exact ⟨.inr rfl, by omega⟩
      · simp [e] at hb
    · have := zl _ (A4.one c hc).1
      have hne : ¬ c.cb = h4.length := by omega
      simp [hne]
    · have := A4.C.pool_lt hb
      have hne : ¬ b = h4.length := by omega
      simp [hne]
  let Ib : Heap → Nat → Prop := fun h8 i => ∃ ow1 H1 z1, MW h8 ow1 h4.length none [] 0 H1 cs z1 hW pp fb mb n fl P N ∧ Ext h h8 ∧ (∀ b, ow1 b ≠ none → h.length ≤ b) ∧ (allOf H1).Perm (ls.take i).flatten ∧ H1.length ≤ i ∧ ∀ u ∈ H1, u.k = false
  refine ⟨fun xs h8 => ∃ i : Nat, xs = [.int .i64 i] ∧ i ≤ ls.length ∧ Ib h8 i, fun xs _ => match xs with | [.int _ i] => (ls.length - i).toNat | _ => 0, ⟨0, rfl, by omega, _, [], _, S7, x7, fun b hb => ?_, by simp [allOf], by simp, by simp⟩, ?_⟩
  · by_cases e : b = h4.length
    · rw [e]; exact h4l
    · simp [e] at hb
  rintro n8 h11 ⟨i, hx, hi, ow1, H1, z1, S1, x11, o1, P1, c1, k1⟩
  simp only [List.cons.injEq, AV.int.injEq, true_and, and_true] at hx
  subst hx
  have M1 := S1.M
  rw [hlen]
  refine vif_mk (fun g1 => ?_) (fun g1 => ?_)
  · replace g1 := of_decide_eq_true g1
    refine (I.mono x11).idx (by omega) fun pp' s l hl' hc Hl => ⟨s, hc, ?_⟩
    have e : ls.take (i + 1) = ls.take i ++ [l] := by rw [List.take_add_one, hl']; rfl
    have hlm : l ∈ ls := List.mem_of_getElem? hl'
    have hl5 := F2 l hlm
    refine copyNew (E := entE) Hl (by omega) fun q16 h17 N17 => ?_
    have x19 : Ext h17 (h17 ++ [Blk.cells [.sl q16] true]) := .app _ _
    show AC Tryz.prog 68 _ _ _
    have hb19 : (h17 ++ [Blk.cells [.sl q16] true])[h17.length]? = some (.cells [.sl q16] true) := by simp
    have l19 : (h17 ++ [Blk.cells [.sl q16] true]).length = h17.length + 1 := by simp
    generalize h17 ++ [Blk.cells [.sl q16] true] = h19 at *
    have l17 := N17.1.len
    have hq17 := HasL.live N17.hasL
    have hcond : ∀ s, q16 = some s → h11.length ≤ s.b ∨ ow1 s.b = some .dat := fun s hs => .inl (N17.2.2 s hs)
    have keep1 := setOw_keep (q := q16) (r := .dat) M1.K.live hcond
    have lv1 : ∀ b, setOw ow1 q16 .dat b ≠ none → b < h17.length := fun b hb => by
      rcases setOw_some hcond b hb with hb | ⟨hb, s, hs, rfl⟩
      · have := M1.K.live b hb; omega
      · exact hq17 s hs
    have keep2 := setB_keep (r := .lst) lv1
    have hsome : ∀ b, setB (setOw ow1 q16 .dat) h17.length .lst b ≠ none → (ow1 b ≠ none ∨ h11.length ≤ b) ∧ b < h19.length := fun b hb => by
      rcases setB_some hb with rfl | hb
      · exact ⟨.inr l17, by omega⟩
      · refine ⟨?_, by have := lv1 b hb; omega⟩
        rcases setOw_some hcond b hb with hb | ⟨hb, _⟩
        · exact .inl hb
        · exact .inr hb
    have M19 : MrgR h19 (setB (setOw ow1 q16 .dat) h17.length .lst) h4.length none [] 0 H1 cs := (M1.grow (N17.1.trans x19)).own (fun b r hb => keep2 _ _ (keep1 _ _ hb)) (fun b hb => (hsome b hb).2)
    have D19 : DStep ow1 h11 (setB (setOw ow1 q16 .dat) h17.length .lst) h19 := ⟨keeps_of_ext (N17.1.trans x19), (N17.1.trans x19).len, fun b hb => (hsome b hb).1⟩
    obtain ⟨z19, S19⟩ := S1.go M19 D19
    have xx := x11.len
    have nexti : wrapK .i64 ((i : Int) + 1) = ((i + 1 : Nat) : Int) := by rw [wrapK_i64 ⟨by omega, by omega⟩]; omega
    rw [nexti]
    have o19 : ∀ b, setB (setOw ow1 q16 .dat) h17.length .lst b ≠ none → h.length ≤ b := fun b hb => by
      rcases (hsome b hb).1 with hb | hb
      · exact o1 b hb
      · omega
    refine m68 M19 hb19 (N17.hasL.mono x19) (hs l hlm) setB_self (fun s hs => keep2 _ _ (setOw_self s hs)) (fun u hu e => ?_) (by omega) (fun hl0 => ⟨rfl, trivial, ⟨i + 1, rfl, by omega, _, H1, z19, S19, x11.trans (N17.1.trans x19), o19, ?_, by omega, k1⟩, by simp only; omega⟩) fun e2 r h21 ow3 he M21 D21 => ?_
    · obtain ⟨a1, _⟩ := M1.L u hu (k1 u hu)
      have := M1.K.live u.lb (by simp [a1])
      omega
    · rw [e, hl0]; simpa using P1
    · obtain ⟨z21, S21⟩ := S19.go M21 D21
      refine ⟨rfl, trivial, ⟨i + 1, rfl, by omega, ow3, _, z21, S21, ?_, fun b hb => ?_, ?_, by simp; omega, fun u hu => ?_⟩, by simp only; omega⟩
      · intro b B hB
        have hbl := lt_of_get hB
        refine D21.keeps b B (fun hn => ?_) (x19 _ _ (N17.1 _ _ (x11 _ _ hB)))
        have := o19 b hn; omega
      · rcases D21.own b hb with hb | hb
        · exact o19 b hb
        · omega
      · rw [e, allOf_app, he]
        simp only [allOf, List.map_cons, List.map_nil, List.flatten_cons, List.flatten_nil, List.append_nil, List.flatten_append]
        exact P1.append_right _
      · rcases List.mem_append.1 hu with hu | hu
        · exact k1 u hu
        · simp only [List.mem_singleton] at hu
          subst hu; rfl
  · replace g1 := of_decide_eq_false g1
    have : i = ls.length := by omega
    subst this
    rw [List.take_length] at P1
    let Ic : Heap → Nat → Prop := fun h25 i => ∃ ow1 H1 z1 qc1, MW h25 ow1 h4.length qc1 ((cs.take i).map (·.cb)) 0 H1 cs z1 hW pp fb mb n fl P N ∧ Ext h h25 ∧ (∀ b, ow1 b ≠ none → h.length ≤ b) ∧ (allOf H1).Perm (ls.flatten ++ (cs.take i).flatMap (toldC T)) ∧ H1.length ≤ ls.length + i ∧ (∀ u ∈ H1, u.k = true → u.lb ∈ (cs.take i).map (·.cb)) ∧ ∀ c ∈ cs.take i, c.R ≠ [] → ∃ u ∈ H1, u.k = true ∧ u.lb = c.cb
    refine ⟨fun xs h25 => ∃ i : Nat, xs = [.int .i64 i] ∧ i ≤ cs.length ∧ Ic h25 i, fun xs _ => match xs with | [.int _ i] => (cs.length - i).toNat | _ => 0, ⟨0, rfl, by omega, ow1, H1, z1, none, by simpa using S1, x11, o1, by simpa using P1, by omega, (fun u hu hk => by rw [k1 u hu] at hk; cases hk), by simp⟩, ?_⟩
    rintro n22 h25 ⟨i, hx, hi, ow2, H2, z2, qc2, S2, x25, o2, P2, c2, k2, cv2⟩
    simp only [List.cons.injEq, AV.int.injEq, true_and, and_true] at hx
    subst hx
    rw [Cq.len, hcl]
    have M2 := S2.M
    refine vif_mk (fun g2 => ?_) (fun g2 => ?_)
    · replace g2 := of_decide_eq_true g2
      refine HasL.idx (E := ptrE) (Cq.mono x25) (by omega) (by rw [hcl]; omega) fun pp' cb hcb hc => ⟨_, hc, ?_⟩
      have hcg := List.getElem?_eq_getElem (show i < cs.length by omega)
      generalize cs[i] = c at hcg
      have hcm : c ∈ cs := List.mem_of_getElem? hcg
      have hcb' : cb = c.cb := by
        rw [Int.toNat_natCast, List.getElem?_map, hcg] at hcb
        exact (Option.some.inj hcb).symm
      subst hcb'
      have ht : cs.take (i + 1) = cs.take i ++ [c] := by rw [List.take_add_one, hcg]; rfl
      have xx := x25.len
      refine addcur (cb := c.cb) M2 (by simp; omega) fun h33 ow33 qc33 M33 D33 => ?_
      obtain ⟨z33, S33⟩ := S2.go M33 D33
      have o33 : ∀ b, ow33 b ≠ none → h.length ≤ b := fun b hb => by
        rcases D33.own b hb with hb | hb
        · exact o2 b hb
        · omega
      have x33 : Ext h h33 := fun b B hB => D33.keeps b B (fun hn => by have := o2 b hn; have := lt_of_get hB; omega) (x25 _ _ hB)
      have l33 := D33.len
      have nexti : wrapK .i64 ((i : Int) + 1) = ((i + 1 : Nat) : Int) := by rw [wrapK_i64 ⟨by omega, by omega⟩]; omega
      rw [nexti]
      have hcbs : ((cs.take i).map (·.cb)) ++ [c.cb] = (cs.take (i + 1)).map (·.cb) := by rw [ht, List.map_append]; rfl
      rw [hcbs] at M33 S33
      have hnd := S2.A.nd
      have hnot : c.cb ∉ (cs.take i).map (·.cb) := fun hm => by
        obtain ⟨u, hu, he⟩ := List.mem_map.1 hm
        obtain ⟨j, hj⟩ := List.getElem?_of_mem hu
        rw [List.getElem?_take] at hj
        split at hj
        · rename_i hji
          have e1 : (cs.map (·.cb))[j]? = some c.cb := by rw [List.getElem?_map, hj, ← he]; rfl
          have e2 : (cs.map (·.cb))[i]? = some c.cb := by rw [List.getElem?_map, hcg]; rfl
          have l1 := (List.getElem?_eq_some_iff.1 e1)
          have l2 := (List.getElem?_eq_some_iff.1 e2)
          have := (List.getElem_inj (h₀ := l1.1) (h₁ := l2.1) hnd).1 (by rw [l1.2, l2.2])
          omega
        · cases hj
      refine m68c (t := T c) S33.A hcm M33 (hT c hcm).1 (hT c hcm).2 (fun u hu e => ?_) (by omega) (fun hR0 => ⟨rfl, trivial, ⟨i + 1, rfl, by omega, ow33, H2, z33, qc33, S33, x33, o33, ?_, by omega, fun u hu hk => ?_, fun u hu hR => ?_⟩, by simp only; omega⟩) fun e2 r h35 ow35 he M35 D35 => ?_
      · cases hk : u.k with
        | false =>
          obtain ⟨a1, _⟩ := M33.L u hu hk
          rw [e, S33.B.co c hcm] at a1; cases a1
        | true => exact hnot (by rw [← e]; exact k2 u hu hk)
      · rw [ht, List.flatMap_append]
        have : [c].flatMap (toldC T) = [] := by simp [toldC, hR0]
        rw [this, List.append_nil]; exact P2
      · rw [ht, List.map_append]; exact List.mem_append_left _ (k2 u hu hk)
      · rw [ht] at hu
        rcases List.mem_append.1 hu with hu | hu
        · exact cv2 u hu hR
        · simp only [List.mem_singleton] at hu
          subst hu; exact absurd hR0 hR
      · obtain ⟨z35, S35⟩ := S33.go M35 D35
        refine ⟨rfl, trivial, ⟨i + 1, rfl, by omega, ow35, _, z35, qc33, S35, ?_, fun b hb => ?_, ?_, by simp; omega, fun u hu hk => ?_, fun u hu hR => ?_⟩, by simp only; omega⟩
        · intro b B hB
          have hbl := lt_of_get hB
          exact D35.keeps b B (fun hn => by have := o33 b hn; omega) (x33 _ _ hB)
        · rcases D35.own b hb with hb | hb
          · exact o33 b hb
          · omega
        · rw [ht, List.flatMap_append, allOf_app, ← List.append_assoc]
          have e9 : [c].flatMap (toldC T) = e2 :: (r ++ T c) := by
            simp [toldC, he]
          rw [e9]
          simp only [allOf, List.map_cons, List.map_nil, List.flatten_cons, List.flatten_nil, List.append_nil]
          exact P2.append_right _
        · rcases List.mem_append.1 hu with hu | hu
          · rw [ht, List.map_append]; exact List.mem_append_left _ (k2 u hu hk)
          · simp only [List.mem_singleton] at hu
            subst hu
            rw [ht, List.map_append]; simp
        · rw [ht] at hu
          rcases List.mem_append.1 hu with hu | hu
          · obtain ⟨v, hv, r1⟩ := cv2 u hu hR
            exact ⟨v, List.mem_append_left _ hv, r1⟩
          · simp only [List.mem_singleton] at hu
            subst hu
            exact ⟨⟨h33.length, u.cb, true, e2, r ++ T u, r, u.E⟩, List.mem_append_right _ (by simp), rfl, rfl⟩
    · replace g2 := of_decide_eq_false g2
      have : i = cs.length := by omega
      subst this
      rw [List.take_length] at P2 cv2 S2 M2
      refine m69 M2.K fun h37 H3 M3 K3 l3 P3 O3 => ⟨rfl, ?_⟩
      have M37 := MrgR.of_heap (cs := cs) M3 P3 M2.L M2.C M2.ok M2.lnd K3
      have Kd : Keeps (dsk ow2) h25 h37 := fun b B hb hB => K3 b B (fun hx => hb (hp_dsk hx)) hB
      refine hQ h37 _ ow2 H3 z2 qc2 (.inr trivial) (fun b B _ hB => K3 b B (fun hx => ?_) (x25 _ _ hB)) ⟨M37, S2.B.keeps S2.A Kd l3, S2.B, S2.pn⟩ O3 (Cov.perm cv2 P3) ((allOf_perm P3).trans P2) o2
      have := o2 b (hp_dsk hx)
      have := lt_of_get hB
      omega)
end
structure Mg (h : Heap) (ow : Roles) (p : Nat) (qc : Option SL) (cbs : List Nat) (er : Int) (m : List Ent) (cs : List Cu) (z : Nat → Prop) (hW : Heap) (pp fb mb n : Nat) (fl : Bs → Nat → Int × List Ent) (P : PS) (N : Nat) : Prop where
  at' : ∃ H, MW h ow p qc cbs er H cs z hW pp fb mb n fl P N ∧ HeapOK H H.length 0 ∧ Cov H cs ∧ sortE (allOf H) = m
section
variable {h h' hW : Heap} {ow ow' : Roles} {p pp fb mb n N N' : Nat} {qc : Option SL} {cbs : List Nat} {er : Int} {H H' : List HD} {x y : HD} {Q : AV → Heap → Prop} {q : Option SL} {z : Nat → Prop} {fl : Bs → Nat → Int × List Ent} {cs : List Cu} {P : PS} {m : List Ent}
theorem sort_nil (hs : sortE (allOf H) = m) : m = [] ↔ H = [] := by
  have hp := (sortE_perm (allOf H)).length_eq
  rw [hs] at hp
  constructor
  · intro e
    subst e
    cases H with
    | nil => rfl
    | cons x H => rw [allOf_cons] at hp; simp at hp
  · intro e
    subst e
    exact List.eq_nil_of_length_eq_zero (by rw [hp]; rfl)
theorem sort_cons (hok : ∀ u ∈ x :: H, HdOk u) (h2 : HeapOK (x :: H) (x :: H).length 0) : sortE (allOf (x :: H)) = x.e :: sortE (x.r ++ allOf H) := by
  refine sort_head (by rw [allOf_cons]; exact .refl _) ?_
  exact allOf_min h2 (x0 := x) rfl (fun u hu => (hok u hu).srt)
theorem sortE_perm_eq' {a b : List Ent} (h : a.Perm b) : sortE a = sortE b := sorted_uniq (sortE_sorted a) (sortE_sorted b) ((sortE_perm a).trans (h.trans (sortE_perm b).symm))
theorem Mg.grow (M : Mg h ow p qc cbs er m cs z hW pp fb mb n fl P N) (e : Ext h h') : Mg h' ow p qc cbs er m cs z hW pp fb mb n fl P N := by
  obtain ⟨H, h1, h2⟩ := M.at'
  exact ⟨H, h1.grow e, h2⟩
theorem Mg.err (M : Mg h ow p qc cbs er m cs z hW pp fb mb n fl P N) : cellsAt h ⟨p, 0 + 2⟩ 1 = some [.int .i64 er] := by
  obtain ⟨H, h1, h2⟩ := M.at'
  obtain ⟨qa, c1, c2, c3, c4⟩ := h1.M.K.qa
  rw [cells6 c2 (by simp)]; rfl
theorem Mg.live (M : Mg h ow p qc cbs er m cs z hW pp fb mb n fl P N) : ∀ b, ow b ≠ none → b < h.length := by
  obtain ⟨H, h1, h2⟩ := M.at'
  exact h1.M.K.live
theorem Mg.ca (M : Mg h ow p qc cbs er m cs z hW pp fb mb n fl P N) : CA z hW h pp fb mb n fl cs P N := by
  obtain ⟨H, h1, h2⟩ := M.at'
  exact h1.A
theorem Mg.over (M : Mg h ow p qc cbs er [] cs z hW pp fb mb n fl P N) : ∀ c ∈ cs, c.R = [] := fun c hc => by
  obtain ⟨H, h1, h2, h3, h4⟩ := M.at'
  have hH := (sort_nil h4).1 rfl
  subst hH
  cases hR : c.R with
  | nil => rfl
  | cons a l =>
    obtain ⟨u, hu, _⟩ := h3 c hc (by rw [hR]; simp)
    simp at hu
theorem Mg.step {z' : Nat → Prop} (M : Mg h ow p qc cbs er m cs z hW pp fb mb n fl P N) {X : Nat → Prop} (K : Keeps X h h') (hl : h.length ≤ h'.length) (hX : ∀ b, X b → ow b = none ∧ hW.length ≤ b ∧ z b) (hc : ∀ c ∈ cs, ¬ X c.cb) (h1 : ∀ b, z b → z' b) (h2 : ∀ b, z' b → z b ∨ (h.length ≤ b ∧ b < h'.length)) : Mg h' ow p qc cbs er m cs z' hW pp fb mb n fl P N := by
  obtain ⟨H, a1, a2, a3, a4⟩ := M.at'
  refine ⟨H, ⟨?_, a1.A.step K (fun b hb => (hX b hb).2.2) (fun b hb => (hX b hb).2.1) hl h1 h2 hc, ⟨fun b hb => ⟨h1 _ (a1.B.zo b hb).1, (a1.B.zo b hb).2⟩, a1.B.co⟩, a1.pn⟩, a2, a3, a4⟩
  exact a1.M.ext (fun b B hb hB => K b B (fun hx => hb (hX b hx).1) hB) hl
theorem y64 (M : Mg h ow p qc cbs er m cs z hW pp fb mb n fl P N) (h0 : m = [] ∨ er ≠ 0 → Q (.tup [entV zeroE, .bool false]) h) (h1 : ∀ e r, m = e :: r → er = 0 → Q (.tup [entV e, .bool true]) h) : AC Tryz.prog 64 [.ptr (some ⟨p, 0⟩)] h Q := by
  obtain ⟨H, a1, a2, a3, a4⟩ := M.at'
  refine m64 a1.M (fun hn => h0 ?_) fun x H1 he hz => ?_
  · rcases hn with hn | hn
    · exact .inl ((sort_nil a4).2 hn)
    · exact .inr hn
  · subst he
    exact h1 x.e _ (by rw [← a4]; exact sort_cons a1.M.ok a2) hz
theorem y71 {e : Ent} {r : List Ent} (M : Mg h ow p qc cbs er (e :: r) cs z hW pp fb mb n fl P N) (hN : N ≤ 1000000)
    (hQ : ∀ h' cs' P' N' er', N' ≤ N + 1 → (er' = 0 → Mg h' ow p qc cbs 0 r cs' z hW pp fb mb n fl P' N') → (er' ≠ 0 → (∃ c ∈ cs, c.E = er') ∧ ∃ m', Mg h' ow p qc cbs er' m' cs' z hW pp fb mb n fl P' N') → (∀ c' ∈ cs', ∃ c ∈ cs, c'.cb = c.cb ∧ c'.E = c.E ∧ (c'.R = [] → c.R = [] ∨ er' = c'.E)) → (∀ b, b ∈ cs.map (·.cb) ↔ b ∈ cs'.map (·.cb)) → Keeps (turns ow pp fb mb cs) h h' → h.length ≤ h'.length → Q (.tup []) h') : AC Tryz.prog 71 [.ptr (some ⟨p, 0⟩)] h Q := by
  obtain ⟨H, a1, a2, a3, a4⟩ := M.at'
  cases H with
  | nil => simp [allOf, sortE] at a4
  | cons x H =>
    rw [sort_cons a1.M.ok a2] at a4
    simp only [List.cons.injEq] at a4
    have okx := a1.M.ok x (by simp)
    refine m71 a1.A a1.B a1.pn a1.M a2 hN fun h' H' cs' P' N' A' hN' B' hb hcb M' O' cv hp hq hlen K' l' => ?_
    have hmg : ∀ m', sortE (allOf H') = m' → Mg h' ow p qc cbs (codeOf x) m' cs' z hW pp fb mb n fl P' N' := fun m' hm => ⟨H', ⟨M', A', B', a1.pn⟩, O', cv a3, hm⟩
    refine hQ h' cs' P' N' (codeOf x) hN' (fun h0 => ?_) (fun h0 => ⟨?_, _, hmg _ rfl⟩) hb hcb K' l'
    · have : sortE (allOf H') = r := by
        rw [← a4.2]
        by_cases hr : x.rr = []
        · have hE : x.E = 0 := by
            unfold codeOf at h0
            rw [if_pos hr] at h0; exact h0
          have hxr : x.r = [] := by rw [← okx.all hE]; exact hr
          rw [hxr, List.nil_append]
          exact sortE_perm_eq' (allOf_perm (hp hr))
        · exact sortE_perm_eq' (hq hr)
      have := hmg r this
      rw [h0] at this
      exact this
    · have hr : x.rr = [] := by
        by_cases hr : x.rr = []
        · exact hr
        · unfold codeOf at h0
          rw [if_neg hr] at h0; exact absurd rfl h0
      have he : codeOf x = x.E := by unfold codeOf; rw [if_pos hr]
      rw [he] at h0 ⊢
      cases hk : x.k with
      | false => exact absurd (okx.lst hk) h0
      | true =>
        obtain ⟨c, hc, _, _, hE⟩ := a1.M.C x (by simp) hk
        exact ⟨c, hc, hE⟩
end
section
variable {h h' hW : Heap} {ow ow' : Roles} {p pp fb mb n N N' : Nat} {qc : Option SL} {cbs : List Nat} {er : Int} {H H' : List HD} {x y : HD} {Q : AV → Heap → Prop} {q : Option SL} {z : Nat → Prop} {fl : Bs → Nat → Int × List Ent} {cs : List Cu} {P : PS} {m : List Ent}
theorem m70 {e : Ent} (hQ : Q (.bool true) h) : AC Tryz.prog 70 [entV e] h Q := ac70 (by unfold vc70; exact hQ)
theorem Mg.old (M : Mg h ow p qc cbs er m cs z hW pp fb mb n fl P N) : hW.length ≤ h.length ∧ (∀ b, z b → b < h.length) ∧ (∀ c ∈ cs, c.cb < h.length) ∧ (∀ b, pbl pp fb mb b → b < h.length) ∧ (∀ b, z b → ¬ pbl pp fb mb b) := by
  have A := M.ca
  exact ⟨A.C.xl, A.C.zl, fun c hc => A.C.zl _ (A.one c hc).1, fun b hb => A.C.pool_lt hb, A.C.zp⟩
set_option maxRecDepth 20000 in
set_option maxHeartbeats 1000000 in
theorem y65 (M : Mg h ow p qc cbs 0 m cs z hW pp fb mb n fl P N) (hE : ∀ c ∈ cs, c.E = 0) (hN : N + m.length ≤ 900000)
    (hQ : ∀ q' h' cs' z' P' N', Mg h' ow p qc cbs 0 [] cs' z' hW pp fb mb n fl P' N' → Apd entE h' q' m → Keeps (turns ow pp fb mb cs) h h' → h.length ≤ h'.length → (∀ s, q' = some s → h.length ≤ s.b ∧ ow s.b = none ∧ ¬ pbl pp fb mb s.b) → Q (.tup [.sl q', .int .i64 0]) h') : AC Tryz.prog 65 [.ptr (some ⟨p, 0⟩), .func (.func 70) [] []] h Q := ac65 (by
  unfold vc65 PNew
  refine vif_mk (fun g => by simp at g) (fun _ => ?_)
  obtain ⟨oW, oz, oc, op, ozp⟩ := M.old
  refine ⟨fun xs h6 => ∃ (q3 : Option SL) (out m6 : List Ent) (z6 : Nat → Prop) (cs6 : List Cu) (P6 : PS) (N6 : Nat), xs = [.sl q3] ∧ m = out ++ m6 ∧ Mg h6 ow p qc cbs 0 m6 cs6 z6 hW pp fb mb n fl P6 N6 ∧ N6 ≤ N + out.length ∧ (∀ c' ∈ cs6, ∃ c ∈ cs, c'.cb = c.cb ∧ c'.E = c.E) ∧ Apd entE h6 q3 out ∧ (∀ s, q3 = some s → z6 s.b ∧ h.length ≤ s.b) ∧ Keeps (turns ow pp fb mb cs) h h6 ∧ h.length ≤ h6.length,
    fun xs _ => match xs with | [.sl q3] => m.length - slLen q3 | _ => 0, ⟨none, [], m, z, cs, P, N, rfl, rfl, M, by omega, fun c hc => ⟨c, hc, rfl, rfl⟩, .inl ⟨rfl, rfl⟩, (fun s hs => by cases hs), .refl _ _, Nat.le_refl _⟩, ?_⟩
  rintro q3 h6 ⟨_, out, m6, z6, cs6, P6, N6, hx, he, M6, hN6, hcs6, A6, n6, K6, l6⟩
  simp only [List.cons.injEq, AV.sl.injEq, and_true] at hx
  subst hx
  have hml : m.length = out.length + m6.length := by rw [he, List.length_append]
  have ownew : ∀ b, h.length ≤ b → ow b = none := fun b hb => by
    cases ho : ow b with
    | none => rfl
    | some r => have := M.live b (by rw [ho]; simp); omega
  refine y64 M6 (fun hn => ⟨_, _, _, _, _, rfl, ?_⟩) fun e r hc _ => ⟨_, _, _, _, _, rfl, ?_⟩
  · refine vif_mk (fun _ => ?_) (fun g => by simp at g)
    refine ⟨0, M6.err, vif_mk (fun g => by simp at g) (fun _ => ?_)⟩
    have hn : m6 = [] := by
      rcases hn with hn | hn
      · exact hn
      · exact absurd rfl hn
    subst hn
    rw [List.append_nil] at he
    rw [← he] at A6
    exact hQ _ h6 cs6 z6 P6 N6 M6 A6 K6 l6 fun s hs => ⟨(n6 s hs).2, ownew _ (n6 s hs).2, fun hp => by have := op _ hp; have := (n6 s hs).2; omega⟩
  · refine vif_mk (fun g => by simp at g) (fun _ => ?_)
    refine m70 ⟨_, rfl, vif_mk (fun g => by simp at g) (fun _ => ?_)⟩
    subst hc
    have x28 : Ext h6 (h6 ++ [Blk.cells [.int .i64 e.1, .int .i64 e.2.1, .int .i64 e.2.2.1, .int .i64 e.2.2.2] true]) := .app _ _
    have Hn : HasL entE (h6 ++ [Blk.cells [.int .i64 e.1, .int .i64 e.2.1, .int .i64 e.2.2.1, .int .i64 e.2.2.2] true]) (some ⟨h6.length, 0, 1, 1, 0⟩) [e] := HasL.new (n := 1) rfl rfl
    have l28 : (h6 ++ [Blk.cells [AV.int .i64 e.1, .int .i64 e.2.1, .int .i64 e.2.2.1, .int .i64 e.2.2.2] true]).length = h6.length + 1 := by simp
    simp only [List.length_cons] at hml
    refine Apd.append (E := entE) (A6.ext x28) Hn (by simp only [List.length_cons, List.length_nil]; omega) fun q29 h30 A30 K30 l30 n30 => ?_
    have hnone : ∀ s, q29 = some s → h.length ≤ s.b := fun s hs => by
      rcases n30 s hs with a | ⟨s2, a1, a2⟩
      · omega
      · rw [← a2]; exact (n6 s2 a1).2
    let z7 : Nat → Prop := fun b => z6 b ∨ ∃ s, q29 = some s ∧ s.b = b
    have lv30 : ∀ s, q29 = some s → s.b < h30.length := fun s hs => HasL.live A30.hasL s hs
    have M30 : Mg h30 ow p qc cbs 0 (e :: r) cs6 z7 hW pp fb mb n fl P6 N6 := (M6.grow x28).step K30 l30 (fun b ⟨s, a1, a2⟩ => by rw [← a2]; exact ⟨ownew _ (n6 s a1).2, by have := (n6 s a1).2; omega, (n6 s a1).1⟩) (fun c' hc' ⟨s, a1, a2⟩ => by
        obtain ⟨c, hcm, e1, _⟩ := hcs6 c' hc'
        have := oc c hcm; have := (n6 s a1).2; omega) (fun b hb => .inl hb) (fun b hb => by
        rcases hb with hb | ⟨s, a1, rfl⟩
        · exact .inl hb
        · rcases n30 s a1 with a | ⟨s2, b1, b2⟩
          · exact .inr ⟨a, lv30 s a1⟩
          · rw [← b2]; exact .inl (n6 s2 b1).1)
    have tn : ∀ b, turns ow pp fb mb cs6 b → turns ow pp fb mb cs b := fun b hb => by
      rcases hb with hb | hb | ⟨c', hc', e1⟩
      · exact .inl hb
      · exact .inr (.inl hb)
      · obtain ⟨c, hcm, e2, _⟩ := hcs6 c' hc'
        exact .inr (.inr ⟨c, hcm, by rw [← e2]; exact e1⟩)
    have tlt : ∀ b, turns ow pp fb mb cs b → b < h.length := fun b hb => by
      rcases hb with hb | hb | ⟨c, hc, rfl⟩
      · exact M.live b hb
      · exact op b hb
      · exact oc c hc
    refine y71 M30 (by omega) fun h32 cs7 P7 N7 er7 hN7 hz7 hnz7 hb7 _ K32 l32 => ⟨rfl, trivial, ?_⟩
    have he7 : er7 = 0 := by
      apply Classical.byContradiction
      intro hne
      obtain ⟨⟨c', hc', e1⟩, _⟩ := hnz7 hne
      obtain ⟨c, hcm, _, e2⟩ := hcs6 c' hc'
      exact hne (by rw [← e1, e2]; exact hE c hcm)
    have A32 : Apd entE h32 q29 (out ++ [e]) := A30.keeps K32 (fun s hs hx => by have := tlt _ (tn _ hx); have := hnone s hs; omega)
    refine ⟨⟨q29, out ++ [e], r, z7, cs7, P7, N7, rfl, by rw [he]; simp, hz7 he7, by simp; omega, fun c' hc' => ?_, A32, fun s hs => ⟨.inr ⟨s, hs, rfl⟩, hnone s hs⟩, fun b B hb hB => ?_, by omega⟩, ?_⟩
    · obtain ⟨c1, h1, e1, e2, _⟩ := hb7 c' hc'
      obtain ⟨c, h2, e3, e4⟩ := hcs6 c1 h1
      exact ⟨c, h2, by rw [e1, e3], by rw [e2, e4]⟩
    · have hbl := lt_of_get hB
      exact K32 b B (fun hx => hb (tn _ hx)) (K30 b B (fun ⟨s, a1, a2⟩ => by have := (n6 s a1).2; omega) (x28 _ _ (K6 b B hb hB)))
    · simp only
      rw [A32.hasL.len, A6.hasL.len]
      simp; omega)
theorem y31 (M : Mg h ow p qc cbs 0 m cs z hW pp fb mb n fl P N) (hE : ∀ c ∈ cs, c.E = 0) (hN : N + m.length ≤ 900000)
    (hQ : ∀ q' h' cs' z' P' N', Mg h' ow p qc cbs 0 [] cs' z' hW pp fb mb n fl P' N' → Apd entE h' q' m → Keeps (turns ow pp fb mb cs) h h' → h.length ≤ h'.length → (∀ s, q' = some s → h.length ≤ s.b ∧ ow s.b = none ∧ ¬ pbl pp fb mb s.b) → Q (.tup [.sl q', .int .i64 0]) h') : AC Tryz.prog 31 [.ptr (some ⟨p, 0⟩)] h Q := ac31 (by
  unfold vc31
  exact y65 M hE hN fun q' h' cs' z' P' N' a b c d e => ⟨q', 0, rfl, hQ q' h' cs' z' P' N' a b c d e⟩)
end
end Go.Proofs.YtankijamfedliaaGreatDoor.Mer
namespace Go.Proofs.YtankijamfedliaaGreatDoor
open Go.Ab
open Go.Num hiding Bs snoc_ind
open Go.Ent Go.Seg Go.Cur
open Go.Page hiding Bs get
open Go.Dsk hiding Bs
open Go.Pool hiding Bs Ents set_at Fr least
set_option linter.unusedVariables false
set_option linter.unusedSimpArgs false
section
variable {z : Nat → Prop} {h h' hW : Heap} {Q : AV → Heap → Prop} {ow : Roles} {w dp sp p fb mb n b N : Nat} {qt q q2 : Option SL} {l lf : List Ent} {ls : List (List Ent)} {e e1 e2 : Ent} {fl : Bs → Nat → Int × List Ent} {cs cs' : List Cu} {P : PS}
theorem CA.perm (A : CA z hW h p fb mb n fl cs P N) (hp : cs.Perm cs') : CA z hW h p fb mb n fl cs' P N :=
  ⟨A.C, A.A.perm (hp.flatMap_right _), fun c hc => A.one c (hp.mem_iff.2 hc), (hp.map _).nodup_iff.1 A.nd, by rw [← hp.length_eq]; exact A.few, fun c hc => A.g c (hp.mem_iff.2 hc)⟩
def FileC.d (dp sp : Nat) (q : Option SL) (l : List Ent) (r : Nat → Int) : CurD := ⟨sp, dp, 7, l.length, [115], q, headsG (packG l), packG l, r⟩
theorem FileC.cug (F : FileC h ow w dp sp p fb mb n qt q ⟨b, [115], sectors 7 l, sectors 7 l⟩ l) : CuG h p fb mb (fun _ => flG l) (FileC.d dp sp q l fun _ => 0) :=
  ⟨F.good, gp_of F.ok, fun i g hg => .inl ⟨rfl, flG_get hg⟩⟩
theorem ca_nil (C : CP z hW h p fb mb P N) (A : HP fl n [] P) : CA z hW h p fb mb n fl [] P N := ⟨C, A, by simp, by simp, by simp, by simp⟩
theorem Mer.InLL.app {qs ex : List (Option SL)} {le : List (List Ent)} (H : HasL slE h q (qs ++ ex)) (hl : qs.length = ls.length) (h1 : ∀ (i : Nat) (s : Option SL) (l : List Ent), qs[i]? = some s → ls[i]? = some l → HasL entE h s l) (hle : ex.length = le.length) (h2 : ∀ (i : Nat) (s : Option SL) (l : List Ent), ex[i]? = some s → le[i]? = some l → HasL entE h s l) : Mer.InLL h q (ls ++ le) := by
  refine ⟨qs ++ ex, H, by simp [hl, hle], fun i s l hs hl' => ?_⟩
  rw [List.getElem?_append] at hs hl'
  rw [hl] at hs
  split at hs
  · rename_i hi
    rw [if_pos hi] at hl'
    exact h1 i s l hs hl'
  · rename_i hi
    rw [if_neg hi] at hl'
    exact h2 _ s l hs hl'
theorem fromL_sub {l : List Ent} {e : Ent} : (fromL l e).length ≤ l.length ∧ (SortedL l → SortedL (fromL l e)) := by
  have h := List.dropWhile_suffix (l := l) fun x => decide (ltE x e)
  exact ⟨h.length_le, fun hs => hs.sublist h.sublist⟩
theorem mayC_ok (g : Mer.mayC ls = 0) : ls.length ≤ 64 ∧ ∀ l ∈ ls, SortedL l := by
  unfold Mer.mayC at g
  split at g
  · omega
  · split at g
    · rename_i ha; exact ⟨by omega, by simpa [List.all_eq_true] using ha⟩
    · omega
def toldE (T : List Ent → List Ent) (R : List Ent) : List Ent := if R = [] then [] else R ++ T R
set_option maxHeartbeats 2000000 in
theorem s7 (lives : ∀ {h : Heap} {Q : AV → Heap → Prop}, Laid h → Q (.bool true) h → AC Tryz.prog 29 [] h Q) (L : Laid h) (I : Mer.InLL h q ls) (H : HasL entE h q2 lf) : AC Tryz.prog 7 [.sl q, .sl q2, entV e1, entV e2] h fun v _ => v = .bool true := ac7 (by
  unfold vc7
  refine Mer.m26 I fun bl hbl => ⟨bl, rfl, vif_mk (fun _ => lives L ⟨_, rfl, rfl⟩) (fun g0 => ?_)⟩
  have Ft := hbl g0
  rw [I.len, H.len]
  refine vif_mk (fun _ => lives L ⟨_, rfl, rfl⟩) (fun g1 => ?_)
  replace g1 := of_decide_eq_false g1
  refine Mer.m27 I Ft ⟨_, rfl, vif_mk (fun _ => lives L ⟨_, rfl, rfl⟩) (fun g2 => ?_)⟩
  have hmay : Mer.mayC ls = 0 := by simpa using g2
  obtain ⟨hl64, hsr⟩ := mayC_ok hmay
  obtain ⟨F2, hsum⟩ := Mer.fits_all Ft hl64
  refine vif_mk (fun _ => lives L ⟨_, rfl, rfl⟩) (fun g3 => ?_)
  replace g3 := of_decide_eq_false g3
  refine k28 H (by omega) ⟨_, rfl, vif_mk (fun _ => lives L ⟨_, rfl, rfl⟩) (fun g4 => ?_)⟩
  have hm : mayE lf = 0 := by simpa using g4
  refine c11x (n := 2) L H (by omega) hm (by omega) fun w h36 ow dp sp p fb mb qt qh b F x36 _ pnew => ⟨_, rfl, ?_⟩
  refine lives F.laid ⟨_, rfl, vif_mk (fun g => by simp at g) (fun _ => vif_mk (fun g => by simp at g) (fun _ => ?_))⟩
  have few := F.few
  have hlf : (sortE lf).length = lf.length := sort_len
  refine ⟨_, F.at (.refl _ _) (k := 2) rfl, ⟨_, F.at (.refl _ _) (k := 1) rfl, ?_⟩⟩
  have A0 : CA (fun _ => False) h36 h36 p fb mb 2 (fun _ => flG (sortE lf)) [] (newP 2) 0 := ca_nil F.cp hp_new
  refine F.new (e := e1) (C := []) F.cp hp_new (by decide) (by omega) fun cb1 h46 P46 N46 S46 hN46 K46 l46 hcb1 => ⟨_, _, rfl, ?_⟩
  obtain ⟨pg1, A46⟩ := A0.add (sp := sp) (d := FileC.d dp sp qh (sortE lf) fun _ => 0) F.cug K46 hcb1 (by simp) (fun b hb => .inl hb) (fun b hb => by
    rcases hb with hb | hb
    · exact hb.elim
    · right; omega) S46
  refine ⟨_, F.at K46 (k := 2) rfl, ⟨_, F.at K46 (k := 1) rfl, ?_⟩⟩
  have hd1 : dist ([(⟨cb1, FileC.d dp sp qh (sortE lf) fun _ => 0, fromL (sortE lf) e1, 0, pg1⟩ : Cu)].flatMap Cu.pages) < 2 := by
    have h1 := dist_le ([(⟨cb1, FileC.d dp sp qh (sortE lf) fun _ => 0, fromL (sortE lf) e1, 0, pg1⟩ : Cu)].flatMap Cu.pages)
    have h2 := pages_few [(⟨cb1, FileC.d dp sp qh (sortE lf) fun _ => 0, fromL (sortE lf) e1, 0, pg1⟩ : Cu)]
    simp only [List.length_cons, List.length_nil] at h2
    omega
  refine F.new (e := e2) A46.C A46.A hd1 (by omega) fun cb2 h54 P54 N54 S54 hN54 K54 l54 hcb2 => ⟨_, _, rfl, ?_⟩
  have z46 := A46.C.zl
  obtain ⟨pg2, A54'⟩ := A46.add (sp := sp) (d := FileC.d dp sp qh (sortE lf) fun _ => 0) F.cug K54 hcb2 (by simp) (fun b hb => .inl hb) (fun b hb => by
    rcases hb with hb | hb
    · exact .inl hb
    · right; omega) S54
  have A54 := A54'.perm (List.Perm.swap _ _ _)
  refine vif_mk (fun g => by simp at g) (fun _ => vif_mk (fun g => by simp at g) (fun _ => ?_))
  unfold PNew
  have x58 : Ext h54 (h54 ++ [Blk.cells [.ptr (some ⟨cb1, 0⟩), .ptr (some ⟨cb2, 0⟩)] true]) := .app _ _
  have H58 : HasL Mer.ptrE (h54 ++ [Blk.cells [.ptr (some ⟨cb1, 0⟩), .ptr (some ⟨cb2, 0⟩)] true]) (some ⟨h54.length, 0, 2, 2, 0⟩) [cb1, cb2] := HasL.new (n := 2) rfl rfl
  have l58 : (h54 ++ [Blk.cells [AV.ptr (some ⟨cb1, 0⟩), .ptr (some ⟨cb2, 0⟩)] true]).length = h54.length + 1 := by simp
  generalize h54 ++ [Blk.cells [.ptr (some ⟨cb1, 0⟩), .ptr (some ⟨cb2, 0⟩)] true] = h58 at *
  have A58 := A54.grow x58
  have K3658 : Keeps (pbl p fb mb) h36 h58 := (K46.trans K54).trans (keeps_of_ext x58)
  have K58 := K3658
  have x36l := x36.len
  have I36 := I.mono x36
  have inl : ∀ {h9 : Heap}, Keeps (pbl p fb mb) h36 h9 → Mer.InLL h9 q ls := fun K => by
    obtain ⟨qs, Hq, hql, hq⟩ := I
    refine ⟨qs, K.hasL (fun s hs hb => by have := pnew _ hb; have := HasL.live Hq s hs; omega) (Hq.mono x36), hql, fun i s l' hs hl' => K.hasL (fun s' hs' hb => ?_) ((hq i s l' hs hl').mono x36)⟩
    have := pnew _ hb
    have := HasL.live (hq i s l' hs hl') s' hs'
    omega
  have K46' := K46
  have hRx : ∀ e, toldE (fun _ => []) (fromL (sortE lf) e) = fromL (sortE lf) e := fun e => by
    unfold toldE
    split
    · rename_i h0; exact h0.symm
    · rw [List.append_nil]
  have hsrt := F.so
  refine Mer.m30 (T := fun _ => []) (cs := [⟨cb1, FileC.d dp sp qh (sortE lf) fun _ => 0, fromL (sortE lf) e1, 0, pg1⟩, ⟨cb2, FileC.d dp sp qh (sortE lf) fun _ => 0, fromL (sortE lf) e2, 0, pg2⟩]) (inl K58) H58 (by simp only [List.length_cons, List.length_nil]; omega) hsr F2 A58 (fun c hc => ?_) fun h60 pm owm Hm zm qcm _ K60 S60 O60 Cv60 Pm60 own60 => ⟨_, _, rfl, ?_⟩
  · refine ⟨?_, fun _ => rfl⟩
    rw [List.append_nil]
    simp only [List.mem_cons, List.not_mem_nil, or_false] at hc
    rcases hc with rfl | rfl
    · exact fromL_sub.2 hsrt
    · exact fromL_sub.2 hsrt
  refine vif_mk (fun g => by simp at g) (fun _ => vif_mk (fun g => by simp at g) (fun _ => ?_))
  have Pall : (Mer.allOf Hm).Perm (ls ++ [fromL (sortE lf) e1, fromL (sortE lf) e2]).flatten := by
    refine Pm60.trans (.of_eq ?_)
    rw [List.flatten_append]
    simp only [List.flatMap_cons, List.flatMap_nil, List.append_nil, List.flatten_cons, List.flatten_nil]
    congr 1
    unfold Mer.toldC
    simp only [List.append_nil]
    congr 1 <;> split <;> simp_all
  have hl1 := (fromL_sub (l := sortE lf) (e := e1)).1
  have hl2 := (fromL_sub (l := sortE lf) (e := e2)).1
  have hsum2 : ((ls ++ [fromL (sortE lf) e1, fromL (sortE lf) e2]).map List.length).sum ≤ 2000 := by
    rw [List.map_append, List.sum_append]
    simp only [List.map_cons, List.map_nil, List.sum_cons, List.sum_nil]
    omega
  have hml : (sortE (Mer.allOf Hm)).length ≤ 2000 := by
    rw [(sortE_perm _).length_eq, Pall.length_eq, List.length_flatten]; exact hsum2
  have N54' : N54 ≤ 2000 := by
    have := hN54; have := hN46; omega
  have M60 : Mer.Mg h60 owm pm qcm _ 0 (sortE (Mer.allOf Hm)) _ zm h36 p fb mb 2 (fun _ => flG (sortE lf)) P54 N54 := ⟨Hm, S60, O60, Cv60, rfl⟩
  have cblt : h36.length ≤ cb1 ∧ h36.length ≤ cb2 := ⟨hcb1, by omega⟩
  refine Mer.y31 M60 (fun c hc => ?_) (by omega) fun q65 h64 cs64 z64 P64 N64 M64 A64 K64 l64 f64 => ⟨_, _, rfl, ?_⟩
  · simp only [List.mem_cons, List.not_mem_nil, or_false] at hc
    rcases hc with rfl | rfl <;> rfl
  have K3664 : Keeps (pbl p fb mb) h36 h64 := fun v B hv hB => by
    have hvl := lt_of_get hB
    refine K64 v B (fun hx => ?_) (K60 v B (fun h => h) (K58 v B hv hB))
    rcases hx with hx | hx | ⟨c, hc, rfl⟩
    · have := own60 v hx; have := l46; omega
    · exact hv hx
    · simp only [List.mem_cons, List.not_mem_nil, or_false] at hc
      rcases hc with rfl | rfl
      · have := cblt.1; simp only at hvl; omega
      · have := cblt.2; simp only at hvl; omega
  refine ⟨_, F.at K3664 (k := 3) rfl, ⟨_, F.at K3664 (k := 3) rfl, ?_⟩⟩
  obtain ⟨qs, Hqs, hql, hq⟩ := inl K3664
  have x72 : Ext h64 (h64 ++ [Blk.cells [] true]) := .app _ _
  have b72 : (h64 ++ [Blk.cells [] true])[h64.length]? = some (.cells [] true) := by simp
  have l72 : (h64 ++ [Blk.cells [] true]).length = h64.length + 1 := by simp
  generalize h64 ++ [Blk.cells [] true] = h72 at *
  have at72 : ∀ {h9 : Heap}, Ext h64 h9 → cellsAt h9 ⟨w, 0 + 3⟩ 1 = some [.sl qt] := fun x => F.at (K3664.trans (keeps_of_ext x)) (k := 3) rfl
  refine ⟨rfl, ⟨qt, at72 x72, rfl⟩, rfl, ⟨qt, at72 x72, rfl⟩, ?_⟩
  have hqsl : qs.length ≤ 60 := by omega
  refine copy0 (E := slE) b72 (Hqs.mono x72) (by omega) fun q73 h74 x74 O74 f74 => ?_
  have x74' := x72.trans x74
  refine ⟨rfl, ⟨qt, at72 x74', rfl⟩, rfl, ⟨qt, at72 x74', rfl⟩, ?_⟩
  have Lt : ∀ {h9 : Heap}, Ext h64 h9 → HasL entE h9 qt (sortE lf) := fun x => (K3664.trans (keeps_of_ext x)).hasL (fun t ht hb => (F.op _ hb).2.2.2.2.2.2.1 t ht rfl) F.lst
  have qtl : ∀ t, qt = some t → t.b < h36.length := fun t ht => HasL.live F.lst t ht
  refine c33 (e := e1) (Lt x74') (by omega) fun q77 H77 f77 => ⟨_, rfl, ?_⟩
  refine ⟨rfl, ⟨qt, at72 x74', rfl⟩, ?_⟩
  refine c33 (e := e2) (Lt x74') (by omega) fun q80 H80 f80 => ⟨_, rfl, ?_⟩
  have x82 : Ext h74 (h74 ++ [Blk.cells [.sl q77, .sl q80] true]) := .app _ _
  have H82 : HasL slE (h74 ++ [Blk.cells [.sl q77, .sl q80] true]) (some ⟨h74.length, 0, 2, 2, 0⟩) [q77, q80] := HasL.new (n := 2) rfl rfl
  have l82 : (h74 ++ [Blk.cells [AV.sl q77, .sl q80] true]).length = h74.length + 1 := by simp
  generalize h74 ++ [Blk.cells [.sl q77, .sl q80] true] = h82 at *
  have h72l := x74.len
  have h3664 : h36.length ≤ h64.length := by
    have l60 : h58.length ≤ h60.length := Ext.len fun b B hB => K60 b B (fun h => h) hB
    omega
  refine Apd.append (E := slE) (O74.apd.ext x82) H82 (by simp; omega) fun q83 h84 A84 K84 l84 f84 => ?_
  have old : ∀ {v : Nat} {B : Blk}, v < h64.length → h64[v]? = some B → h84[v]? = some B := fun {v B} hv hB => K84 v B (fun ⟨s, a1, a2⟩ => by
    rcases f74 s a1 with a | a
    · omega
    · omega) (x82 _ _ (x74' _ _ hB))
  have K6484 : Keeps (fun _ => False) h64 h84 := fun v B _ hB => old (lt_of_get hB) hB
  have K3684 := K3664.trans (fun v B _ hB => K6484 v B (fun h => h) hB)
  have K7484 : Keeps (fun v => h64.length ≤ v) h74 h84 := fun v B hv hB => K84 v B (fun ⟨s, a1, a2⟩ => by
    rcases f74 s a1 with a | a
    · omega
    · omega) (x82 _ _ hB)
  have IA : Mer.InLL h84 q83 (ls ++ [fromL (sortE lf) e1, fromL (sortE lf) e2]) := by
    refine Mer.InLL.app A84.hasL hql (fun i s l' hs hl' => K6484.hasL (fun _ _ h => h) (hq i s l' hs hl')) rfl (fun i s l' hs hl' => ?_)
    match i with
    | 0 =>
      simp only [List.getElem?_cons_zero, Option.some.injEq] at hs hl'
      subst hs hl'
      exact K7484.hasL (fun t ht hx => by obtain ⟨s, a1, a2⟩ := f77 t ht; have := qtl s a1; omega) H77
    | 1 =>
      simp only [List.getElem?_cons_succ, List.getElem?_cons_zero, Option.some.injEq] at hs hl'
      subst hs hl'
      exact K7484.hasL (fun t ht hx => by obtain ⟨s, a1, a2⟩ := f80 t ht; have := qtl s a1; omega) H80
    | i + 2 => simp at hs
  refine Mer.m32 IA (by omega) (by simp; omega) fun q87 h86 N86 => ⟨_, rfl, vif_mk (fun _ => ?_) (fun g => by simp at g)⟩
  have A86 : HasL entE h86 q65 (sortE (Mer.allOf Hm)) := (K6484.hasL (fun _ _ h => h) A64.hasL).mono N86.1
  have heq : sortE (Mer.allOf Hm) = sortE (ls ++ [fromL (sortE lf) e1, fromL (sortE lf) e2]).flatten := Mer.sortE_perm_eq' Pall
  refine k18 A86 N86.hasL (by omega) ⟨_, rfl, vif_mk (fun _ => ?_) (fun g => by simp [heq] at g)⟩
  have K3686 := K3684.trans (keeps_of_ext N86.1)
  refine ⟨_, F.at K3686 (k := 2) rfl, ?_⟩
  have A9 := M64.ca.C
  have K6486 : Keeps (fun _ => False) h64 h86 := fun v B hv hB => N86.1 _ _ (K6484 v B hv hB)
  have C86 := A9.step (X := fun _ => False) K6486 (fun _ h => h.elim) (fun _ h => h.elim) (by have := N86.1.len; omega) (fun _ h => h) (fun _ h => .inl h)
  refine C86.heldN ⟨_, rfl, ?_⟩
  rw [M64.ca.noHeld M64.over]; rfl)
end
end Go.Proofs.YtankijamfedliaaGreatDoor
