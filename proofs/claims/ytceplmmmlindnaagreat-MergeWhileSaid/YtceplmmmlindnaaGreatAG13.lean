/- The merger: how it is made. -/
import Derived.Test.YtceplmmmlindnaaGreatAG12
namespace Go.Proofs.YtceplmmmlindnaaGreat
open Go.Ab
set_option linter.unusedVariables false
set_option linter.unusedSimpArgs false

section
variable {h h' : Heap} {ow ow' : Roles} {p : Nat} {H H' : List HD} {x y : HD} {Q : AV → Heap → Prop} {q : Option SL}

theorem MrgR.own (M : MrgR h ow p H) (hk : ∀ b r, ow b = some r → ow' b = some r) (hl : ∀ b, ow' b ≠ none → b < h.length) : MrgR h ow' p H := by
  obtain ⟨⟨a1, a2, ⟨qa, a3, a4, a5⟩, a6, a7, a8⟩, L, nd⟩ := M
  refine ⟨⟨hl, hk _ _ a2, ⟨qa, a3, a4, fun s hs => hk _ _ (a5 s hs)⟩, fun u hu => ⟨hk _ _ (a6 u hu).1, (a6 u hu).2⟩, a7, a8⟩, fun u hu => ?_, nd⟩
  obtain ⟨l1, ⟨ql, l2, l3, l4⟩, l5⟩ := L u hu
  exact ⟨hk _ _ l1, ⟨ql, l2, l3, fun s hs => hk _ _ (l4 s hs)⟩, l5⟩

def setB (ow : Roles) (n : Nat) (r : ZRole) : Roles := fun b => if b = n then some r else ow b
theorem setB_self {n : Nat} {r : ZRole} : setB ow n r n = some r := by simp [setB]
theorem setB_keep {n : Nat} {r : ZRole} (hl : ∀ b, ow b ≠ none → b < n) : ∀ b r', ow b = some r' → setB ow n r b = some r' := by
  intro b r' hb
  unfold setB
  split
  · rename_i he; subst he; have := hl b (by simp [hb]); omega
  · exact hb
theorem setB_some {n : Nat} {r : ZRole} {b : Nat} (hb : setB ow n r b ≠ none) : b = n ∨ ow b ≠ none := by
  unfold setB at hb
  split at hb
  · exact .inl ‹_›
  · exact .inr hb

set_option maxRecDepth 20000 in
/-- add -/
theorem z24 {lb : Nat} {ql : Option SL} {l : List Ent} (M : MrgR h ow p H) (hb : h[lb]? = some (.cells [.sl ql] true)) (Hl : HasL entE h ql l) (hs : SortedL l) (ho : ow lb = some .lst) (hd : ∀ s, ql = some s → ow s.b = some .dat)
    (hn : ∀ x ∈ H, x.lb ≠ lb) (hmany : H.length < 100000)
    (h0 : l = [] → Q (.tup []) h)
    (h1 : ∀ e r h' ow', l = e :: r → MrgR h' ow' p (H ++ [⟨h.length, lb, e, r⟩]) → DStep ow h ow' h' → Q (.tup []) h') : AC Tryz.prog 24 [.ptr (some ⟨p, 0⟩), .iface 63 (.ptr (some ⟨lb, 0⟩))] h Q := ac24 (by
  unfold vc24
  refine z64 hb Hl (fun hn => ⟨_, _, _, _, _, rfl, ?_⟩) fun e r hr2 => ⟨_, _, _, _, _, rfl, ?_⟩
  · exact vif_mk (fun g => by simp at g) (fun _ => h0 hn)
  refine vif_mk (fun _ => ?_) (fun g => by simp at g)
  obtain ⟨qa, c1, c2, c3, c4⟩ := M.K.qa
  have cq : cellsAt h ⟨p, 0 + 0⟩ 1 = some [.sl qa] := by rw [cells6 c2 (by simp)]; rfl
  refine ⟨qa, cq, ?_⟩
  show (∃ q21, _) ∧ _
  have x13 := Ext.app h [Blk.cells [.int .i64 e.1, .int .i64 e.2.1, .int .i64 e.2.2.1, .int .i64 e.2.2.2, .iface 63 (.ptr (some ⟨lb, 0⟩)), .func (.method "Next") [.iface 63 (.ptr (some ⟨lb, 0⟩))] []] true]
  have h13e : (h ++ [Blk.cells [.int .i64 e.1, .int .i64 e.2.1, .int .i64 e.2.2.1, .int .i64 e.2.2.2, .iface 63 (.ptr (some ⟨lb, 0⟩)), .func (.method "Next") [.iface 63 (.ptr (some ⟨lb, 0⟩))] []] true])[h.length]? = some (headB e lb) := by simp
  have l13 : (h ++ [Blk.cells [.int .i64 e.1, .int .i64 e.2.1, .int .i64 e.2.2.1, .int .i64 e.2.2.2, .iface 63 (.ptr (some ⟨lb, 0⟩)), .func (.method "Next") [.iface 63 (.ptr (some ⟨lb, 0⟩))] []] true]).length = h.length + 1 := by simp
  generalize (h ++ [Blk.cells [.int .i64 e.1, .int .i64 e.2.1, .int .i64 e.2.2.1, .int .i64 e.2.2.2, .iface 63 (.ptr (some ⟨lb, 0⟩)), .func (.method "Next") [.iface 63 (.ptr (some ⟨lb, 0⟩))] []] true]) = h13 at *
  refine ⟨⟨qa, x13.cells cq, rfl⟩, ?_⟩
  show (∃ q20, _) ∧ _
  have x15 := Ext.app h13 [Blk.cells [.ptr (some ⟨h.length, 0⟩)] true]
  have Hn : HasL ptrE (h13 ++ [.cells [.ptr (some ⟨h.length, 0⟩)] true]) (some ⟨h13.length, 0, 1, 1, 0⟩) [h.length] := HasL.new (n := 1) rfl rfl
  have l15 : (h13 ++ [Blk.cells [AV.ptr (some ⟨h.length, 0⟩)] true]).length = h.length + 2 := by simp [l13]
  generalize h13 ++ [Blk.cells [AV.ptr (some ⟨h.length, 0⟩)] true] = h15 at *
  have e15 := x13.trans x15
  refine ⟨⟨qa, e15.cells cq, rfl⟩, ?_⟩
  refine AppJ.append (E := ptrE) (c3.ext e15) Hn (by simp; omega) fun q16 h17 A17 K17 l17 hq16 => ?_
  have hpl := M.K.live p (by simp [M.K.pr])
  have hb17 := K17 p _ (fun ⟨s, a1, a2⟩ => by have := c4 s a1; rw [a2, M.K.pr] at this; cases this) (e15 _ _ c2)
  refine store6v hb17 (by simp) ?_
  have es : splice [AV.sl qa, .sl none, .int .i64 0] 0 [.sl q16] = [.sl q16, .sl none, .int .i64 0] := rfl
  rw [es]
  have l19 : (h17.set p (.cells [.sl q16, .sl none, .int .i64 0] true)).length = h17.length := by simp
  have b19 : (h17.set p (.cells [.sl q16, .sl none, .int .i64 0] true))[p]? = some (.cells [.sl q16, .sl none, .int .i64 0] true) := List.getElem?_set_self (by omega)
  have K19 : Keeps (fun b => b = p) h17 (h17.set p (.cells [.sl q16, .sl none, .int .i64 0] true)) := keeps_set rfl
  generalize h17.set p (.cells [.sl q16, .sl none, .int .i64 0] true) = h19 at *
  have hcond : ∀ s, q16 = some s → h.length + 1 ≤ s.b ∨ ow s.b = some .arr := fun s hs => by
    rcases hq16 s hs with a | ⟨s2, a1, a2⟩
    · exact .inl (by omega)
    · exact .inr (by rw [← a2]; exact c4 s2 a1)
  have keep1 := setB_keep (ow := ow) (n := h.length) (r := .head) M.K.live
  have lv1 : ∀ b, setB ow h.length .head b ≠ none → b < h.length + 1 := fun b hb => by
    rcases setB_some hb with rfl | hb
    · omega
    · have := M.K.live b hb; omega
  have hcond1 : ∀ s, q16 = some s → h.length + 1 ≤ s.b ∨ setB ow h.length .head s.b = some .arr := fun s hs => (hcond s hs).imp id (keep1 _ _)
  have keep2 := setOw_keep (q := q16) (r := .arr) lv1 hcond1
  have keep : ∀ b r', ow b = some r' → setOw (setB ow h.length .head) q16 .arr b = some r' := fun b r' hb => keep2 _ _ (keep1 _ _ hb)
  have hsome : ∀ b, setOw (setB ow h.length .head) q16 .arr b ≠ none → ow b ≠ none ∨ h.length ≤ b ∧ b < h19.length := fun b hb => by
    rcases setOw_some hcond1 b hb with hb | ⟨hb, s, hs, hb2⟩
    · rcases setB_some hb with rfl | hb
      · exact .inr ⟨Nat.le_refl _, by omega⟩
      · exact .inl hb
    · refine .inr ⟨by omega, ?_⟩
      have := A17.live s hs
      omega
  -- what stays, up to here
  have K : Keeps (fun b => ow b = some .arr ∨ b = p) h h19 := by
    intro b B hb hB
    refine K19 b B (fun e => hb (.inr e)) (K17 b B (fun ⟨s, a1, a2⟩ => hb (.inl (by rw [← a2]; exact c4 s a1))) (e15 b B hB))
  have hX : ∀ b r, ow b = some r → r ≠ .arr → r ≠ .mrg → ¬ (ow b = some .arr ∨ b = p) := by
    intro b r hr n1 n2 hx
    rcases hx with hx | hx
    · rw [hr] at hx; exact n1 (Option.some.inj hx)
    · subst hx; rw [M.K.pr] at hr; exact n2 (Option.some.inj hr).symm
  have hh19 : h19[h.length]? = some (headB e lb) := by
    refine K19 _ _ (by omega) (K17 _ _ (fun ⟨s, a1, a2⟩ => ?_) (x15 _ _ h13e))
    have := M.K.live s.b (by rw [c4 s a1]; simp)
    omega
  refine h1 e r h19 (setOw (setB ow h.length .head) q16 .arr) hr2 ⟨⟨fun b hb => ?_, keep _ _ M.K.pr, ⟨q16, b19, ?_, fun s hs => setOw_self s hs⟩, fun u hu => ?_, ?_, by simp; omega⟩, fun u hu => ?_, ?_⟩ ⟨fun b B hb hB => K b B (fun hx => hb ?_) hB, by omega, fun b hb => (hsome b hb).imp id And.left⟩
  · rcases hsome b hb with hb | hb
    · have := M.K.live b hb; omega
    · exact hb.2
  · rw [List.map_append]
    refine A17.keeps K19 fun s hs e => ?_
    have := setOw_self (ow := setB ow h.length .head) (q := q16) (r := .arr) s hs
    rw [e, keep _ _ M.K.pr] at this
    cases this
  · rcases List.mem_append.1 hu with hu | hu
    · have := M.K.heads u hu
      exact ⟨keep _ _ this.1, K _ _ (hX _ _ this.1 (by simp) (by simp)) this.2⟩
    · simp only [List.mem_singleton] at hu
      subst hu
      exact ⟨keep2 _ _ setB_self, hh19⟩
  · rw [List.map_append, List.nodup_append]
    refine ⟨M.K.nodup, by simp, fun a ha b hb e => ?_⟩
    simp only [List.map_cons, List.map_nil, List.mem_singleton] at hb
    obtain ⟨u, hu, rfl⟩ := List.mem_map.1 ha
    have := M.K.live u.hb (by rw [(M.K.heads u hu).1]; simp)
    omega
  · rcases List.mem_append.1 hu with hu | hu
    · obtain ⟨a1, ⟨qu, a2, a3, a4⟩, a5⟩ := M.L u hu
      exact ⟨keep _ _ a1, ⟨qu, K _ _ (hX _ _ a1 (by simp) (by simp)) a2, K.hasL (fun s hs => hX _ _ (a4 s hs) (by simp) (by simp)) a3, fun s hs => keep _ _ (a4 s hs)⟩, a5⟩
    · simp only [List.mem_singleton] at hu
      subst hu
      refine ⟨keep _ _ ho, ⟨ql, K _ _ (hX _ _ ho (by simp) (by simp)) hb, K.hasL (fun s hs => hX _ _ (hd s hs) (by simp) (by simp)) (by rw [← hr2]; exact Hl), fun s hs => keep _ _ (hd s hs)⟩, by rw [← hr2]; exact hs⟩
  · rw [List.map_append, List.nodup_append]
    refine ⟨M.lnd, by simp, fun a ha b hb e => ?_⟩
    simp only [List.map_cons, List.map_nil, List.mem_singleton] at hb
    obtain ⟨u, hu, rfl⟩ := List.mem_map.1 ha
    exact hn u hu (by rw [e, hb])
  · show ow b ≠ none
    rcases hx with hx | hx
    · rw [hx]; simp
    · rw [hx, M.K.pr]; simp)

/-- The merger, all that counts: what it still tells, how many at most are behind it. -/
def Mg (h : Heap) (ow : Roles) (p : Nat) (m : List Ent) (c : Nat) : Prop := ∃ H, MrgR h ow p H ∧ HeapOK H H.length 0 ∧ sortE (allOf H) = m ∧ H.length ≤ c
theorem allOf_app {H H2 : List HD} : allOf (H ++ H2) = allOf H ++ allOf H2 := by simp [allOf]

set_option maxRecDepth 20000 in
/-- New -/
theorem z12 {ls : List (List Ent)} (I : InLL h q ls) (F : Fits ls) (hll : ls.length ≤ 9223372036854775807)
    (hQ0 : mayC ls ≠ 0 → ∀ h', Ext h h' → Q (.tup [.ptr none, .int .i64 (mayC ls)]) h')
    (hQ1 : mayC ls = 0 → ∀ h' p ow, Ext h h' → Mg h' ow p (sortE ls.flatten) ls.length → (∀ b, ow b ≠ none → h.length ≤ b) → Q (.tup [.ptr (some ⟨p, 0⟩), .int .i64 0]) h') : AC Tryz.prog 12 [.sl q, .sl none] h Q := ac12 (by
  unfold vc12
  have hlen := I.len
  refine z23 I F hll fun h4 x4 => ⟨_, rfl, ?_⟩
  refine vif_mk (fun g => hQ0 (by simpa using g) h4 x4) (fun g => ?_)
  have g : mayC ls = 0 := by simpa using g
  have hl64 : ls.length ≤ 64 := by unfold mayC at g; split at g <;> omega
  have hsr : ∀ l ∈ ls, SortedL l := by
    unfold mayC at g
    rw [if_neg (by omega)] at g
    split at g
    · rename_i ha; simpa [List.all_eq_true] using ha
    · omega
  have F2 := (fits_all F hl64).1
  show ∃ I9 m10, _
  have x7 := x4.trans (Ext.app h4 [Blk.cells [.sl none, .sl none, .int .i64 0] true])
  have M7 : MrgR (h4 ++ [Blk.cells [.sl none, .sl none, .int .i64 0] true]) (fun b => if b = h4.length then some .mrg else none) h4.length [] := by
    refine ⟨⟨fun b hb => ?_, by simp, ⟨none, by simp, .inl ⟨rfl, rfl⟩, fun s hs => by cases hs⟩, fun u hu => by simp at hu, by simp, by simp⟩, fun u hu => by simp at hu, by simp⟩
    by_cases e : b = h4.length
    · simp [e]
    · simp [e] at hb
  generalize h4 ++ [Blk.cells [.sl none, .sl none, .int .i64 0] true] = h7 at *
  let Ib : Heap → Nat → Prop := fun h8 i => ∃ ow1 H1, MrgR h8 ow1 h4.length H1 ∧ Ext h h8 ∧ (∀ b, ow1 b ≠ none → h.length ≤ b) ∧ (allOf H1).Perm (ls.take i).flatten ∧ H1.length ≤ i
  refine ⟨fun xs h8 => ∃ i : Nat, xs = [.int .i64 i] ∧ i ≤ ls.length ∧ Ib h8 i, fun xs _ => match xs with | [.int _ i] => (ls.length - i).toNat | _ => 0, ⟨0, rfl, by omega, _, [], M7, x7, fun b hb => ?_, by simp [allOf], by simp⟩, ?_⟩
  · by_cases e : b = h4.length
    · rw [e]; exact x4.len
    · simp [e] at hb
  rintro n8 h11 ⟨i, hx, hi, ow1, H1, M1, x11, o1, P1, c1⟩
  simp only [List.cons.injEq, AV.int.injEq, true_and, and_true] at hx
  subst hx
  refine vif_mk (fun g1 => ?_) (fun g1 => ?_)
  · replace g1 := of_decide_eq_true g1
    refine (I.mono x11).idx (by omega) fun pp s l hl hc Hl => ⟨s, hc, ?_⟩
    have e : ls.take (i + 1) = ls.take i ++ [l] := by rw [List.take_add_one, hl]; rfl
    have hlm : l ∈ ls := List.mem_of_getElem? hl
    have hl5 := F2 l hlm
    have N15 : New entE h11 (h11 ++ [Blk.cells [] true]) (some ⟨h11.length, 0, 0, 0, 0⟩) [] := New.mk1 rfl rfl
    show PAppendS _ _ _ _ _ _
    refine New.append (E := entE) N15 (Hl.mono N15.1) (by simp; omega) fun q16 h17 N17 => ?_
    rw [List.nil_append] at N17
    have x19 := Ext.app h17 [Blk.cells [.sl q16] true]
    show AC Tryz.prog 24 _ _ _
    have hb19 : (h17 ++ [Blk.cells [.sl q16] true])[h17.length]? = some (.cells [.sl q16] true) := by simp
    have l19 : (h17 ++ [Blk.cells [.sl q16] true]).length = h17.length + 1 := by simp
    generalize h17 ++ [Blk.cells [.sl q16] true] = h19 at *
    have l17 := N17.1.len
    have hq17 := N17.hasL.live
    have hcond : ∀ s, q16 = some s → h11.length ≤ s.b ∨ ow1 s.b = some .dat := fun s hs => .inl (N17.2.2 s hs)
    have keep1 := setOw_keep (q := q16) (r := .dat) M1.K.live hcond
    have lv1 : ∀ b, setOw ow1 q16 .dat b ≠ none → b < h17.length := fun b hb => by
      rcases setOw_some hcond b hb with hb | ⟨hb, s, hs, rfl⟩
      · have := M1.K.live b hb; omega
      · exact hq17 s hs
    have keep2 := setB_keep (r := .lst) lv1
    have hsome : ∀ b, setB (setOw ow1 q16 .dat) h17.length .lst b ≠ none → (ow1 b ≠ none ∨ h11.length ≤ b) ∧ b < h19.length := fun b hb => by
      rcases setB_some hb with rfl | hb
      · exact ⟨.inr l17, by omega⟩
      · refine ⟨?_, by have := lv1 b hb; omega⟩
        rcases setOw_some hcond b hb with hb | ⟨hb, _⟩
        · exact .inl hb
        · exact .inr hb
    have M19 : MrgR h19 (setB (setOw ow1 q16 .dat) h17.length .lst) h4.length H1 := (M1.grow (N17.1.trans x19)).own (fun b r hb => keep2 _ _ (keep1 _ _ hb)) (fun b hb => (hsome b hb).2)
    have xx := x11.len
    have nexti : wrapK .i64 ((i : Int) + 1) = ((i + 1 : Nat) : Int) := by rw [wrapK_i64 ⟨by omega, by omega⟩]; omega
    rw [nexti]
    refine z24 M19 hb19 (N17.hasL.mono x19) (hsr l hlm) setB_self (fun s hs => keep2 _ _ (setOw_self s hs)) (fun u hu e => ?_) (by omega) (fun hl0 => ⟨rfl, trivial, ⟨i + 1, rfl, by omega, _, H1, M19, x11.trans (N17.1.trans x19), fun b hb => ?_, ?_, by omega⟩, by simp only; omega⟩) fun e2 r h21 ow3 he M21 D21 => ⟨rfl, trivial, ⟨i + 1, rfl, by omega, ow3, _, M21, ?_, fun b hb => ?_, ?_, by simp; omega⟩, by simp only; omega⟩
    · obtain ⟨a1, _⟩ := M1.L u hu
      have := M1.K.live u.lb (by simp [a1])
      omega
    · rcases (hsome b hb).1 with hb | hb
      · exact o1 b hb
      · omega
    · rw [e, hl0]; simpa using P1
    · intro b B hB
      have hbl := lt_of_get hB
      refine D21.keeps b B (fun hn => ?_) (x19 _ _ (N17.1 _ _ (x11 _ _ hB)))
      rcases (hsome b hn).1 with hb | hb
      · have := o1 b hb; omega
      · omega
    · rcases D21.own b hb with hb | hb
      · rcases (hsome b hb).1 with hb | hb
        · exact o1 b hb
        · omega
      · omega
    · rw [e, allOf_app, he]
      simp only [allOf, List.map_cons, List.map_nil, List.flatten_cons, List.flatten_nil, List.append_nil, List.flatten_append]
      exact P1.append_right _
  · replace g1 := of_decide_eq_false g1
    have : i = ls.length := by omega
    subst this
    rw [List.take_length] at P1
    refine ⟨fun xs h15 => h15 = h11 ∧ xs = [.int .i64 0], fun _ _ => 0, ⟨rfl, rfl⟩, ?_⟩
    rintro n12 h15 ⟨rfl, hx⟩
    simp only [List.cons.injEq, AV.int.injEq, true_and, and_true] at hx
    subst hx
    refine vif_mk (fun g => ?_) (fun _ => ?_)
    · replace g := of_decide_eq_true g
      exact absurd g (by decide)
    refine z25 M1.K fun h37 H2 M2 K2 l2 P2 O2 => ⟨rfl, ?_⟩
    refine hQ1 g h37 _ ow1 ?_ ⟨H2, MrgR.of_heap M2 P2 M1.L M1.lnd K2, O2, ?_, by rw [P2.length_eq]; exact c1⟩ o1
    · intro b B hB
      have hbl := lt_of_get hB
      refine K2 b B (fun hx => ?_) (x11 _ _ hB)
      have := o1 b (by rcases hx with hx | hx <;> rw [hx] <;> simp)
      omega
    · exact sortE_perm_eq ((allOf_perm P2).trans P1))
end
end Go.Proofs.YtceplmmmlindnaaGreat

/- The merger: what its calls say. -/
namespace Go.Proofs.YtceplmmmlindnaaGreat
open Go.Ab
set_option linter.unusedVariables false
set_option linter.unusedSimpArgs false

section
variable {h h' : Heap} {ow : Roles} {p : Nat} {m : List Ent} {c : Nat} {Q : AV → Heap → Prop}

theorem Mg.nil (M : Mg h ow p m c) {H : List HD} (hH : MrgR h ow p H ∧ HeapOK H H.length 0 ∧ sortE (allOf H) = m ∧ H.length ≤ c) : m = [] ↔ H = [] := by
  obtain ⟨_, _, h3, _⟩ := hH
  have hp := (sortE_perm (allOf H)).length_eq
  rw [h3] at hp
  constructor
  · intro e
    subst e
    cases H with
    | nil => rfl
    | cons x H => rw [allOf_cons] at hp; simp at hp
  · intro e
    subst e
    exact List.eq_nil_of_length_eq_zero (by rw [hp]; rfl)
theorem Mg.cons {x : HD} {H : List HD} (h1 : MrgR h ow p (x :: H)) (h2 : HeapOK (x :: H) (x :: H).length 0) : sortE (allOf (x :: H)) = x.e :: sortE (x.r ++ allOf H) := by
  refine sort_head (by rw [allOf_cons]; exact .refl _) ?_
  exact allOf_min h2 (x0 := x) rfl (fun u hu => (h1.L u hu).srt)
theorem Mg.grow (M : Mg h ow p m c) (e : Ext h h') : Mg h' ow p m c := by
  obtain ⟨H, h1, h2⟩ := M
  exact ⟨H, h1.grow e, h2⟩
theorem Mg.ext (M : Mg h ow p m c) (e : Keeps (fun b => ow b = none) h h') (hl : h.length ≤ h'.length) : Mg h' ow p m c := by
  obtain ⟨H, h1, h2⟩ := M
  exact ⟨H, h1.ext e hl, h2⟩
theorem Mg.live (M : Mg h ow p m c) : ∀ b, ow b ≠ none → b < h.length := by
  obtain ⟨H, h1, h2⟩ := M
  exact h1.K.live
theorem Mg.err (M : Mg h ow p m c) : cellsAt h ⟨p, 0 + 2⟩ 1 = some [.int .i64 0] := by
  obtain ⟨H, h1, h2⟩ := M
  obtain ⟨qa, c1, c2, c3, c4⟩ := h1.K.qa
  rw [cells6 c2 (by simp)]; rfl

theorem y13 (M : Mg h ow p m c) (h0 : m = [] → Q (.tup [entV zeroE, .bool false]) h) (h1 : ∀ e r, m = e :: r → Q (.tup [entV e, .bool true]) h) : AC Tryz.prog 13 [.ptr (some ⟨p, 0⟩)] h Q := by
  have M' := M
  obtain ⟨H, a1, a2, a3, a4⟩ := M
  refine z13 a1 (fun hn => h0 ((M'.nil ⟨a1, a2, a3, a4⟩).2 hn)) fun x H1 he => ?_
  subst he
  exact h1 x.e _ (by rw [← a3]; exact Mg.cons a1 a2)
theorem y15 (M : Mg h ow p m c) (hQ : ∀ k : Nat, k ≤ c → (k = 0 ↔ m = []) → Q (.int .i64 (k : Nat)) h) : AC Tryz.prog 15 [.ptr (some ⟨p, 0⟩)] h Q := by
  have M' := M
  obtain ⟨H, a1, a2, a3, a4⟩ := M
  exact z15 a1 (hQ _ a4 (by rw [M'.nil ⟨a1, a2, a3, a4⟩]; simp))
theorem y26 {e : Ent} {r : List Ent} (M : Mg h ow p (e :: r) c) (hQ : ∀ h', Mg h' ow p r c → Keeps (dsk ow) h h' → h.length ≤ h'.length → Q (.tup []) h') : AC Tryz.prog 26 [.ptr (some ⟨p, 0⟩)] h Q := by
  have M' := M
  obtain ⟨H, a1, a2, a3, a4⟩ := M
  cases H with
  | nil => simp [allOf, sortE] at a3
  | cons x H =>
    rw [Mg.cons a1 a2] at a3
    simp only [List.cons.injEq] at a3
    simp only [List.length_cons] at a4
    exact z26 a1 a2 fun h' H' b1 b2 b3 b4 b5 b6 => hQ h' ⟨H', b1, b2, by rw [← a3.2]; exact sortE_perm_eq b3, by omega⟩ b5 b6
theorem y14 (M : Mg h ow p m c) (h0 : m = [] → Q (.tup [entV zeroE, .bool false, .int .i64 0]) h) (h1 : ∀ e r h', m = e :: r → Mg h' ow p r c → Keeps (dsk ow) h h' → h.length ≤ h'.length → Q (.tup [entV e, .bool true, .int .i64 0]) h') : AC Tryz.prog 14 [.ptr (some ⟨p, 0⟩)] h Q := ac14 (by
  unfold vc14
  refine vif_mk (fun g => by simp at g) (fun _ => ?_)
  refine y13 M (fun hn => ⟨_, _, _, _, _, rfl, ?_⟩) fun e r he => ⟨_, _, _, _, _, rfl, ?_⟩
  · refine vif_mk (fun _ => ?_) (fun g => by simp at g)
    exact ⟨0, M.err, ⟨0, M.err, rfl⟩, ⟨0, M.err, rfl⟩, h0 hn⟩
  · refine vif_mk (fun g => by simp at g) (fun _ => ?_)
    subst he
    exact y26 M fun h' b1 b2 b3 => ⟨rfl, h1 e r h' rfl b1 b2 b3⟩)

theorem tw {P : Ent → Bool} : ∀ {out m6 : List Ent}, (∀ x ∈ out, P x = true) → (m6 = [] ∨ ∃ e r, m6 = e :: r ∧ P e = false) → (out ++ m6).takeWhile P = out ∧ (out ++ m6).dropWhile P = m6
  | [], m6, _, hm => by
    rcases hm with rfl | ⟨e, r, rfl, he⟩
    · exact ⟨rfl, rfl⟩
    · simp [he]
  | x :: out, m6, ho, hm => by
    have hx := ho x (by simp)
    have := tw (out := out) (fun y hy => ho y (by simp [hy])) hm
    simp [hx, this.1, this.2]

set_option maxRecDepth 20000 in
/-- While -/
theorem y17 {f : AV} {P : Ent → Bool} (M : Mg h ow p m c) (hm : m.length ≤ 100000) (hf : ∀ h8 e (K : AV → Heap → Prop), Keeps (dsk ow) h h8 → K (.bool (P e)) h8 → vCallF Tryz.prog (AC Tryz.prog) f [entV e] h8 K)
    (hQ : ∀ q' h', Mg h' ow p (m.dropWhile P) c → Apd entE h' q' (m.takeWhile P) → Keeps (dsk ow) h h' → h.length ≤ h'.length → (∀ s, q' = some s → h.length ≤ s.b) → Q (.tup [.sl q', .int .i64 0]) h') : AC Tryz.prog 17 [.ptr (some ⟨p, 0⟩), f] h Q := ac17 (by
  unfold vc17
  refine vif_mk (fun g => by simp at g) (fun _ => ?_)
  let I : Heap → Option SL → List Ent → List Ent → Prop := fun h6 q3 out m6 => m = out ++ m6 ∧ (∀ x ∈ out, P x = true) ∧ Mg h6 ow p m6 c ∧ Apd entE h6 q3 out ∧ Keeps (dsk ow) h h6 ∧ h.length ≤ h6.length ∧ ∀ s, q3 = some s → h.length ≤ s.b
  refine ⟨fun xs h6 => ∃ q3 out m6, xs = [.sl q3] ∧ I h6 q3 out m6, fun xs _ => match xs with | [.sl q3] => m.length - slLen q3 | _ => 0, ⟨none, [], m, rfl, rfl, by simp, M, .inl ⟨rfl, rfl⟩, .refl _ _, Nat.le_refl _, fun s hs => by cases hs⟩, ?_⟩
  rintro _ h6 ⟨q3, out, m6, hx, he, ho, M6, A6, K6, l6, n6⟩
  simp only [List.cons.injEq, AV.sl.injEq, and_true] at hx
  subst hx
  refine y13 M6 (fun hn => ⟨_, _, _, _, _, rfl, ?_⟩) fun e r hc => ⟨_, _, _, _, _, rfl, ?_⟩
  · refine vif_mk (fun _ => ?_) (fun g => by simp at g)
    refine ⟨0, M6.err, vif_mk (fun g => by simp at g) (fun _ => ?_)⟩
    have := tw (P := P) ho (.inl hn)
    rw [← he] at this
    exact hQ _ h6 (by rw [this.2]; exact M6) (by rw [this.1]; exact A6) K6 l6 n6
  · refine vif_mk (fun g => by simp at g) (fun _ => ?_)
    refine hf h6 e _ K6 ⟨_, rfl, ?_⟩
    refine vif_mk (fun g => ?_) (fun g => ?_)
    · have g : P e = false := by simpa using g
      refine ⟨0, M6.err, vif_mk (fun g => by simp at g) (fun _ => ?_)⟩
      have := tw (P := P) ho (.inr ⟨e, r, hc, g⟩)
      rw [← he] at this
      exact hQ _ h6 (by rw [this.2]; exact M6) (by rw [this.1]; exact A6) K6 l6 n6
    · have g : P e = true := by simpa using g
      subst hc
      have x28 := Ext.app h6 [Blk.cells [.int .i64 e.1, .int .i64 e.2.1, .int .i64 e.2.2.1, .int .i64 e.2.2.2] true]
      have Hn : HasL entE (h6 ++ [Blk.cells [.int .i64 e.1, .int .i64 e.2.1, .int .i64 e.2.2.1, .int .i64 e.2.2.2] true]) (some ⟨h6.length, 0, 1, 1, 0⟩) [e] := HasL.new (n := 1) rfl rfl
      show PAppendS _ _ _ _ _ _
      have hml : m.length = out.length + (r.length + 1) := by rw [he]; simp
      have l28 : (h6 ++ [Blk.cells [AV.int .i64 e.1, .int .i64 e.2.1, .int .i64 e.2.2.1, .int .i64 e.2.2.2] true]).length = h6.length + 1 := by simp
      refine Apd.append (E := entE) (A6.ext x28) Hn (by simp only [List.length_cons, List.length_nil]; omega) fun q29 h30 A30 K30 l30 n30 => ?_
      have hnone : ∀ s, q29 = some s → h.length ≤ s.b := fun s hs => by
        rcases n30 s hs with a | ⟨s2, a1, a2⟩
        · omega
        · rw [← a2]; exact n6 s2 a1
      have hown : ∀ b, h.length ≤ b → ow b = none := fun b hb => by
        by_cases e : ow b = none
        · exact e
        · have := M.live b e; omega
      have M30 : Mg h30 ow p (e :: r) c := (M6.grow x28).ext (fun b B hb hB => K30 b B (fun ⟨s, a1, a2⟩ => hb (hown b (by rw [← a2]; exact n6 s a1))) hB) l30
      refine y26 M30 fun h32 M32 K32 l32 => ⟨rfl, trivial, ⟨q29, out ++ [e], r, rfl, by rw [he]; simp, fun x hx => ?_, M32, A30.keeps K32 (fun s hs hn => hn (hown _ (hnone s hs))), ?_, by omega, hnone⟩, ?_⟩
      · rcases List.mem_append.1 hx with hx | hx
        · exact ho x hx
        · simp only [List.mem_singleton] at hx; rw [hx]; exact g
      · intro b B hb hB
        have hbl := lt_of_get hB
        exact K32 b B hb (K30 b B (fun ⟨s, a1, a2⟩ => by have := n6 s a1; omega) (x28 _ _ (K6 b B hb hB)))
      · simp only
        rw [A30.hasL.len, A6.hasL.len]
        simp; omega)

theorem z27 {e : Ent} (hQ : Q (.bool true) h) : AC Tryz.prog 27 [entV e] h Q := ac27 (by unfold vc27; exact hQ)
theorem z18 {b : Nat} {n : Int} {e : Ent} (hb : h[b]? = some (.cells [.int .i64 n] true)) (hQ : Q (.bool (decide (e.2.2.1 < n))) h) : AC Tryz.prog 18 [.ptr (some ⟨b, 0⟩), entV e] h Q := ac18 (by
  unfold vc18
  refine ⟨n, ?_, hQ⟩
  rw [cells6 hb (by simp)]; rfl)
theorem takeT {l : List Ent} : l.takeWhile (fun _ => true) = l ∧ l.dropWhile (fun _ => true) = [] := by
  induction l with
  | nil => exact ⟨rfl, rfl⟩
  | cons x l ih => simp [ih.1, ih.2]
/-- Rest -/
theorem y16 (M : Mg h ow p m c) (hm : m.length ≤ 100000)
    (hQ : ∀ q' h', Mg h' ow p [] c → Apd entE h' q' m → Keeps (dsk ow) h h' → h.length ≤ h'.length → (∀ s, q' = some s → h.length ≤ s.b) → Q (.tup [.sl q', .int .i64 0]) h') : AC Tryz.prog 16 [.ptr (some ⟨p, 0⟩)] h Q := ac16 (by
  unfold vc16
  refine y17 (P := fun _ => true) M hm (fun h8 e K _ hK => ?_) fun q' h' b1 b2 b3 b4 b5 => ⟨q', 0, rfl, ?_⟩
  · unfold vCallF vCallV; exact z27 hK
  · rw [takeT.1] at b2; rw [takeT.2] at b1
    exact hQ q' h' b1 b2 b3 b4 b5)
/-- Lists -/
theorem y8 {q : Option SL} {ls : List (List Ent)} (I : InLL h q ls) (F : Fits ls) (hll : ls.length ≤ 9223372036854775807)
    (hQ0 : mayC ls ≠ 0 → ∀ h', Ext h h' → Q (.tup [.sl none, .int .i64 (mayC ls)]) h')
    (hQ1 : mayC ls = 0 → ∀ q' h', Ext h h' → HasL entE h' q' (sortE ls.flatten) → Q (.tup [.sl q', .int .i64 0]) h') : AC Tryz.prog 8 [.sl q] h Q := ac8 (by
  unfold vc8
  refine z12 I F hll (fun g h' x => ⟨none, mayC ls, rfl, vif_mk (fun _ => hQ0 g h' x) (fun g1 => absurd (by simpa using g1) g)⟩) fun g h' p ow x M o1 => ⟨_, 0, rfl, vif_mk (fun g1 => by simp at g1) (fun _ => ?_)⟩
  have hl64 : ls.length ≤ 64 := by unfold mayC at g; split at g <;> omega
  have hs := (fits_all F hl64).2
  have hlen : (sortE ls.flatten).length ≤ 1000 := by
    rw [(sortE_perm _).length_eq, List.length_flatten]; exact hs
  refine y16 M (by omega) fun q' h2 b1 b2 b3 b4 b5 => ⟨q', 0, rfl, ?_⟩
  refine hQ1 g q' h2 (fun b B hB => b3 b B (fun hn => ?_) (x b B hB)) b2.hasL
  have := o1 b hn
  have := lt_of_get hB
  omega)
end
end Go.Proofs.YtceplmmmlindnaaGreat
