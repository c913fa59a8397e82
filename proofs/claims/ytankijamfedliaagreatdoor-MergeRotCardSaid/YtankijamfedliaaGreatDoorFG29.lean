import Derived.Test.YtankijamfedliaaGreatDoorFG16
import Derived.Test.YtankijamfedliaaGreatDoorFG28
namespace Go.Proofs.YtankijamfedliaaGreatDoor.Mer
open Go.Ab
open Go.Num hiding Bs snoc_ind
open Go.Ent Go.Seg Go.Cur
open Go.Page hiding Bs get
open Go.Dsk hiding Bs
open Go.Pool hiding Bs Ents set_at Fr least
set_option linter.unusedVariables false
set_option linter.unusedSimpArgs false
section
variable {h h' hW : Heap} {ow ow' : Roles} {p pp fb mb n N N' : Nat} {qc : Option SL} {cbs : List Nat} {er : Int} {H H' : List HD} {x y : HD} {Q : AV → Heap → Prop} {q : Option SL} {z : Nat → Prop} {fl : Bs → Nat → Int × List Ent} {cs : List Cu} {P : PS}
theorem addcur {cb : Nat} {K : Heap → Prop} (M : MrgR h ow p qc cbs er H cs) (hm : cbs.length ≤ 1000)
  (hK : ∀ h' ow' qc', MrgR h' ow' p qc' (cbs ++ [cb]) er H cs → DStep ow h ow' h' → K h') :
  ∃ q28 : Option SL, cellsAt h ⟨p, 1⟩ 1 = some [.sl q28] ∧ PNew [.ptr (some ⟨cb, 0⟩)] true h fun a29 h30 => PAppendS 1 8 q28 (some ⟨a29, 0, 1, 1, 0⟩) h30 fun q31 h32 => PStore h32 ⟨p, 1⟩ [.sl q31] K := by
 obtain ⟨qa, c1, c2, c3, c4⟩ := M.K.qa
 refine ⟨qc, by rw [cellsAt_mk (p := ⟨p, 1⟩) c2 (by simp)]; rfl, ?_⟩
 unfold PNew
 have x15 : Ext h (h ++ [Blk.cells [.ptr (some ⟨cb, 0⟩)] true]) := .app _ _
 have Hn : HasL ptrE (h ++ [.cells [.ptr (some ⟨cb, 0⟩)] true]) (some ⟨h.length, 0, 1, 1, 0⟩) [cb] := HasL.new (n := 1) rfl rfl
 have l15 : (h ++ [Blk.cells [AV.ptr (some ⟨cb, 0⟩)] true]).length = h.length + 1 := by simp
 generalize h ++ [Blk.cells [AV.ptr (some ⟨cb, 0⟩)] true] = h15 at *
 refine Apd.append (E := ptrE) (M.K.curs.1.ext x15) Hn (by simp; omega) fun q16 h17 A17 K17 l17 hq16 => ?_
 have hpl := M.K.live p (by simp [M.K.pr])
 have c4' := M.K.curs.2
 have hb17 := K17 p _ (fun ⟨s, a1, a2⟩ => by have := c4' s a1; rw [a2, M.K.pr] at this; cases this) (x15 _ _ c2)
 show PStore h17 ⟨p, 0 + 1⟩ [.sl q16] K
 refine store6 (o := 1) hb17 (by simp) ?_
 have es : splice [AV.sl qa, .sl qc, .int .i64 er] 1 [.sl q16] = [.sl qa, .sl q16, .int .i64 er] := rfl
 rw [es]
 have l19 : (h17.set p (.cells [.sl qa, .sl q16, .int .i64 er] true)).length = h17.length := by simp
 have b19 : (h17.set p (.cells [.sl qa, .sl q16, .int .i64 er] true))[p]? = some (.cells [.sl qa, .sl q16, .int .i64 er] true) := List.getElem?_set_self (by omega)
 have K19 : Keeps (fun b => b = p) h17 (h17.set p (.cells [.sl qa, .sl q16, .int .i64 er] true)) := keeps_set rfl
 generalize h17.set p (.cells [.sl qa, .sl q16, .int .i64 er] true) = h19 at *
 have hcond : ∀ s, q16 = some s → h.length ≤ s.b ∨ ow s.b = some .cur := fun s hs => by
  rcases hq16 s hs with a | ⟨s2, a1, a2⟩
  ·exact .inl (by omega)
  ·exact .inr (by rw [← a2]; exact c4' s2 a1)
 have keep := setOw_keep (q := q16) (r := .cur) M.K.live hcond
 have hsome : ∀ b, setOw ow q16 .cur b ≠ none → ow b ≠ none ∨ h.length ≤ b ∧ b < h19.length := fun b hb => by
  rcases setOw_some hcond b hb with hb | ⟨hb, s, hs, hb2⟩
  ·exact .inl hb
  ·refine .inr ⟨hb, ?_⟩
   have := HasL.live A17.hasL s hs
   omega
 have K : Keeps (fun b => ow b = some .cur ∨ b = p) h h19 := by
  intro b B hb hB
  refine K19 b B (fun e => hb (.inr e)) (K17 b B (fun ⟨s, a1, a2⟩ => hb (.inl (by rw [← a2]; exact c4' s a1))) (x15 b B hB))
 have hX : ∀ b r, ow b = some r → r ≠ .cur → r ≠ .mrg → ¬ (ow b = some .cur ∨ b = p) := by
  intro b r hr n1 n2 hx
  rcases hx with hx | hx
  ·rw [hr] at hx; exact n1 (Option.some.inj hx)
  ·subst hx; rw [M.K.pr] at hr; exact n2 (Option.some.inj hr).symm
 refine hK h19 (setOw ow q16 .cur) q16 ⟨⟨fun b hb => ?_, keep _ _ M.K.pr, ⟨qa, b19, c3.keeps K (fun s hs => hX _ _ (c4 s hs) (by simp) (by simp)), fun s hs => keep _ _ (c4 s hs)⟩, fun u hu => ?_, M.K.nodup, M.K.many, ?_, fun s hs => setOw_self s hs⟩, fun u hu hk => ?_, M.C, M.ok, M.lnd⟩ ⟨fun b B hb hB => K b B (fun hx => hb ?_) hB, by omega, fun b hb => (hsome b hb).imp id And.left⟩
 ·rcases hsome b hb with hb | hb
  ·have := M.K.live b hb; omega
  ·exact hb.2
 ·have := M.K.heads u hu
  exact ⟨keep _ _ this.1, K _ _ (hX _ _ this.1 (by simp) (by simp)) this.2⟩
 ·refine A17.keeps K19 fun s hs e => ?_
  have := setOw_self (ow := ow) (q := q16) (r := .cur) s hs
  rw [e, keep _ _ M.K.pr] at this
  cases this
 ·obtain ⟨a1, ⟨qu, a2, a3, a4⟩, a5⟩ := M.L u hu hk
  exact ⟨keep _ _ a1, ⟨qu, K _ _ (hX _ _ a1 (by simp) (by simp)) a2, K.hasL (fun s hs => hX _ _ (a4 s hs) (by simp) (by simp)) a3, fun s hs => keep _ _ (a4 s hs)⟩, a5⟩
 ·show ow b ≠ none
  rcases hx with hx | hx
  ·rw [hx]; simp
  ·rw [hx, M.K.pr]; simp
theorem allOf_app {H H2 : List HD} : allOf (H ++ H2) = allOf H ++ allOf H2 := by simp [allOf]
def toldC (T : Cu → List Ent) (c : Cu) : List Ent := if c.R = [] then [] else c.R ++ T c
set_option maxRecDepth 20000 in
set_option maxHeartbeats 2000000 in
theorem m30 {q2 : Option SL} {ls : List (List Ent)} {T : Cu → List Ent} (I : InLL h q ls) (Cq : HasL ptrE h q2 (cs.map (·.cb))) (hl : ls.length + cs.length ≤ 64) (hs : ∀ l ∈ ls, SortedL l) (F2 : ∀ l ∈ ls, l.length ≤ 500) (A : CA z hW h pp fb mb n fl cs P N) (hT : ∀ c ∈ cs, SortedL (c.R ++ T c) ∧ (c.E = 0 → T c = []))
  (hQ : ∀ h' p ow H z' qc, Ext h h' ∨ True → Keeps (fun _ => False) h h' → MW h' ow p qc (cs.map (·.cb)) 0 H cs z' hW pp fb mb n fl P N → HeapOK H H.length 0 → Cov H cs → (allOf H).Perm (ls.flatten ++ cs.flatMap (toldC T)) → (∀ b, ow b ≠ none → h.length ≤ b) → Q (.tup [.ptr (some ⟨p, 0⟩), .int .i64 0]) h') : AC Tryz.prog 30 [.sl q, .sl q2] h Q := ac30 (by
 unfold vc30
 have hlen := I.len
 have hcl : (cs.map (·.cb)).length = cs.length := by simp
 refine m67 I Cq (by rw [hcl]; exact hl) hs F2 fun h4 x4 => ⟨_, rfl, ?_⟩
 refine vif_mk (fun g => by simp at g) (fun _ => ?_)
 unfold PNew
 have hx47 : Ext h4 (h4 ++ [Blk.cells [.sl none, .sl none, .int .i64 0] true]) := .app _ _
 have x7 := x4.trans hx47
 have h4l := x4.len
 have M7 : MrgR (h4 ++ [Blk.cells [.sl none, .sl none, .int .i64 0] true]) (fun b => if b = h4.length then some .mrg else none) h4.length none [] 0 [] cs := by
  refine ⟨⟨fun b hb => ?_, by simp, ⟨none, by simp, .inl ⟨rfl, rfl⟩, fun s hs => by cases hs⟩, fun u hu => by simp at hu, by simp, by simp, .inl ⟨rfl, rfl⟩, fun s hs => by cases hs⟩, fun u hu => by simp at hu, fun u hu => by simp at hu, fun u hu => by simp at hu, by simp⟩
  by_cases e : b = h4.length
  ·simp [e]
  ·simp [e] at hb
 have l7 : (h4 ++ [Blk.cells [AV.sl none, .sl none, .int .i64 0] true]).length = h4.length + 1 := by simp
 generalize h4 ++ [Blk.cells [AV.sl none, .sl none, .int .i64 0] true] = h7 at *
 have A4 := A.grow x4
 have S7 : MW h7 (fun b => if b = h4.length then some .mrg else none) h4.length none [] 0 [] cs (fun b => z b ∨ b = h4.length) hW pp fb mb n fl P N := by
  have zl := A4.C.zl
  have hxl := A4.C.xl
  refine ⟨M7, A4.step (X := fun _ => False) (keeps_of_ext hx47) (fun _ h => h.elim) (fun _ h => h.elim) hx47.len (fun b hb => .inl hb) (fun b hb => hb.imp id fun e => ⟨by omega, by omega⟩) (fun _ _ h => h), ⟨fun b hb => ?_, fun c hc => ?_⟩, fun b hb => ?_⟩
  ·by_cases e : b = h4.length
   ·subst e; exact ⟨.inr rfl, by omega⟩
   ·simp [e] at hb
  ·have := zl _ (A4.one c hc).1
   have hne : ¬ c.cb = h4.length := by omega
   simp [hne]
  ·have := A4.C.pool_lt hb
   have hne : ¬ b = h4.length := by omega
   simp [hne]
 let Ib : Heap → Nat → Prop := fun h8 i => ∃ ow1 H1 z1, MW h8 ow1 h4.length none [] 0 H1 cs z1 hW pp fb mb n fl P N ∧ Ext h h8 ∧ (∀ b, ow1 b ≠ none → h.length ≤ b) ∧ (allOf H1).Perm (ls.take i).flatten ∧ H1.length ≤ i ∧ ∀ u ∈ H1, u.k = false
 refine ⟨fun xs h8 => ∃ i : Nat, xs = [.int .i64 i] ∧ i ≤ ls.length ∧ Ib h8 i, fun xs _ => match xs with | [.int _ i] => (ls.length - i).toNat | _ => 0, ⟨0, rfl, by omega, _, [], _, S7, x7, fun b hb => ?_, by simp [allOf], by simp, by simp⟩, ?_⟩
 ·by_cases e : b = h4.length
  ·rw [e]; exact h4l
  ·simp [e] at hb
 rintro n8 h11 ⟨i, hx, hi, ow1, H1, z1, S1, x11, o1, P1, c1, k1⟩
 simp only [List.cons.injEq, AV.int.injEq, true_and, and_true] at hx
 subst hx
 have M1 := S1.M
 rw [hlen]
 refine vif_mk (fun g1 => ?_) (fun g1 => ?_)
 ·replace g1 := of_decide_eq_true g1
  refine (I.mono x11).idx (by omega) fun pp' s l hl' hc Hl => ⟨s, hc, ?_⟩
  have e : ls.take (i + 1) = ls.take i ++ [l] := by rw [List.take_add_one, hl']; rfl
  have hlm : l ∈ ls := List.mem_of_getElem? hl'
  have hl5 := F2 l hlm
  refine copyNew (E := entE) Hl (by omega) fun q16 h17 N17 => ?_
  have x19 : Ext h17 (h17 ++ [Blk.cells [.sl q16] true]) := .app _ _
  show AC Tryz.prog 68 _ _ _
  have hb19 : (h17 ++ [Blk.cells [.sl q16] true])[h17.length]? = some (.cells [.sl q16] true) := by simp
  have l19 : (h17 ++ [Blk.cells [.sl q16] true]).length = h17.length + 1 := by simp
  generalize h17 ++ [Blk.cells [.sl q16] true] = h19 at *
  have l17 := N17.1.len
  have hq17 := HasL.live N17.hasL
  have hcond : ∀ s, q16 = some s → h11.length ≤ s.b ∨ ow1 s.b = some .dat := fun s hs => .inl (N17.2.2 s hs)
  have keep1 := setOw_keep (q := q16) (r := .dat) M1.K.live hcond
  have lv1 : ∀ b, setOw ow1 q16 .dat b ≠ none → b < h17.length := fun b hb => by
   rcases setOw_some hcond b hb with hb | ⟨hb, s, hs, rfl⟩
   ·have := M1.K.live b hb; omega
   ·exact hq17 s hs
  have keep2 := setB_keep (r := .lst) lv1
  have hsome : ∀ b, setB (setOw ow1 q16 .dat) h17.length .lst b ≠ none → (ow1 b ≠ none ∨ h11.length ≤ b) ∧ b < h19.length := fun b hb => by
   rcases setB_some hb with rfl | hb
   ·exact ⟨.inr l17, by omega⟩
   ·refine ⟨?_, by have := lv1 b hb; omega⟩
    rcases setOw_some hcond b hb with hb | ⟨hb, _⟩
    ·exact .inl hb
    ·exact .inr hb
  have M19 : MrgR h19 (setB (setOw ow1 q16 .dat) h17.length .lst) h4.length none [] 0 H1 cs := (M1.grow (N17.1.trans x19)).own (fun b r hb => keep2 _ _ (keep1 _ _ hb)) (fun b hb => (hsome b hb).2)
  have D19 : DStep ow1 h11 (setB (setOw ow1 q16 .dat) h17.length .lst) h19 := ⟨keeps_of_ext (N17.1.trans x19), (N17.1.trans x19).len, fun b hb => (hsome b hb).1⟩
  obtain ⟨z19, S19⟩ := S1.go M19 D19
  have xx := x11.len
  have nexti : wrapK .i64 ((i : Int) + 1) = ((i + 1 : Nat) : Int) := by rw [wrapK_i64 ⟨by omega, by omega⟩]; omega
  rw [nexti]
  have o19 : ∀ b, setB (setOw ow1 q16 .dat) h17.length .lst b ≠ none → h.length ≤ b := fun b hb => by
   rcases (hsome b hb).1 with hb | hb
   ·exact o1 b hb
   ·omega
  refine m68 M19 hb19 (N17.hasL.mono x19) (hs l hlm) setB_self (fun s hs => keep2 _ _ (setOw_self s hs)) (fun u hu e => ?_) (by omega) (fun hl0 => ⟨rfl, trivial, ⟨i + 1, rfl, by omega, _, H1, z19, S19, x11.trans (N17.1.trans x19), o19, ?_, by omega, k1⟩, by simp only; omega⟩) fun e2 r h21 ow3 he M21 D21 => ?_
  ·obtain ⟨a1, _⟩ := M1.L u hu (k1 u hu)
   have := M1.K.live u.lb (by simp [a1])
   omega
  ·rw [e, hl0]; simpa using P1
  ·obtain ⟨z21, S21⟩ := S19.go M21 D21
   refine ⟨rfl, trivial, ⟨i + 1, rfl, by omega, ow3, _, z21, S21, ?_, fun b hb => ?_, ?_, by simp; omega, fun u hu => ?_⟩, by simp only; omega⟩
   ·intro b B hB
    have hbl := lt_of_get hB
    refine D21.keeps b B (fun hn => ?_) (x19 _ _ (N17.1 _ _ (x11 _ _ hB)))
    have := o19 b hn; omega
   ·rcases D21.own b hb with hb | hb
    ·exact o19 b hb
    ·omega
   ·rw [e, allOf_app, he]
    simp only [allOf, List.map_cons, List.map_nil, List.flatten_cons, List.flatten_nil, List.append_nil, List.flatten_append]
    exact P1.append_right _
   ·rcases List.mem_append.1 hu with hu | hu
    ·exact k1 u hu
    ·simp only [List.mem_singleton] at hu
     subst hu; rfl
 ·replace g1 := of_decide_eq_false g1
  have : i = ls.length := by omega
  subst this
  rw [List.take_length] at P1
  let Ic : Heap → Nat → Prop := fun h25 i => ∃ ow1 H1 z1 qc1, MW h25 ow1 h4.length qc1 ((cs.take i).map (·.cb)) 0 H1 cs z1 hW pp fb mb n fl P N ∧ Ext h h25 ∧ (∀ b, ow1 b ≠ none → h.length ≤ b) ∧ (allOf H1).Perm (ls.flatten ++ (cs.take i).flatMap (toldC T)) ∧ H1.length ≤ ls.length + i ∧ (∀ u ∈ H1, u.k = true → u.lb ∈ (cs.take i).map (·.cb)) ∧ ∀ c ∈ cs.take i, c.R ≠ [] → ∃ u ∈ H1, u.k = true ∧ u.lb = c.cb
  refine ⟨fun xs h25 => ∃ i : Nat, xs = [.int .i64 i] ∧ i ≤ cs.length ∧ Ic h25 i, fun xs _ => match xs with | [.int _ i] => (cs.length - i).toNat | _ => 0, ⟨0, rfl, by omega, ow1, H1, z1, none, by simpa using S1, x11, o1, by simpa using P1, by omega, (fun u hu hk => by rw [k1 u hu] at hk; cases hk), by simp⟩, ?_⟩
  rintro n22 h25 ⟨i, hx, hi, ow2, H2, z2, qc2, S2, x25, o2, P2, c2, k2, cv2⟩
  simp only [List.cons.injEq, AV.int.injEq, true_and, and_true] at hx
  subst hx
  rw [Cq.len, hcl]
  have M2 := S2.M
  refine vif_mk (fun g2 => ?_) (fun g2 => ?_)
  ·replace g2 := of_decide_eq_true g2
   refine HasL.idx (E := ptrE) (Cq.mono x25) (by omega) (by rw [hcl]; omega) fun pp' cb hcb hc => ⟨_, hc, ?_⟩
   have hcg := List.getElem?_eq_getElem (show i < cs.length by omega)
   generalize cs[i] = c at hcg
   have hcm : c ∈ cs := List.mem_of_getElem? hcg
   have hcb' : cb = c.cb := by
    rw [Int.toNat_natCast, List.getElem?_map, hcg] at hcb
    exact (Option.some.inj hcb).symm
   subst hcb'
   have ht : cs.take (i + 1) = cs.take i ++ [c] := by rw [List.take_add_one, hcg]; rfl
   have xx := x25.len
   refine addcur (cb := c.cb) M2 (by simp; omega) fun h33 ow33 qc33 M33 D33 => ?_
   obtain ⟨z33, S33⟩ := S2.go M33 D33
   have o33 : ∀ b, ow33 b ≠ none → h.length ≤ b := fun b hb => by
    rcases D33.own b hb with hb | hb
    ·exact o2 b hb
    ·omega
   have x33 : Ext h h33 := fun b B hB => D33.keeps b B (fun hn => by have := o2 b hn; have := lt_of_get hB; omega) (x25 _ _ hB)
   have l33 := D33.len
   have nexti : wrapK .i64 ((i : Int) + 1) = ((i + 1 : Nat) : Int) := by rw [wrapK_i64 ⟨by omega, by omega⟩]; omega
   rw [nexti]
   have hcbs : ((cs.take i).map (·.cb)) ++ [c.cb] = (cs.take (i + 1)).map (·.cb) := by rw [ht, List.map_append]; rfl
   rw [hcbs] at M33 S33
   have hnd := S2.A.nd
   have hnot : c.cb ∉ (cs.take i).map (·.cb) := fun hm => by
    obtain ⟨u, hu, he⟩ := List.mem_map.1 hm
    obtain ⟨j, hj⟩ := List.getElem?_of_mem hu
    rw [List.getElem?_take] at hj
    split at hj
    ·rename_i hji
     have e1 : (cs.map (·.cb))[j]? = some c.cb := by rw [List.getElem?_map, hj, ← he]; rfl
     have e2 : (cs.map (·.cb))[i]? = some c.cb := by rw [List.getElem?_map, hcg]; rfl
     have l1 := (List.getElem?_eq_some_iff.1 e1)
     have l2 := (List.getElem?_eq_some_iff.1 e2)
     have := (List.getElem_inj (h₀ := l1.1) (h₁ := l2.1) hnd).1 (by rw [l1.2, l2.2])
     omega
    ·cases hj
   refine m68c (t := T c) S33.A hcm M33 (hT c hcm).1 (hT c hcm).2 (fun u hu e => ?_) (by omega) (fun hR0 => ⟨rfl, trivial, ⟨i + 1, rfl, by omega, ow33, H2, z33, qc33, S33, x33, o33, ?_, by omega, fun u hu hk => ?_, fun u hu hR => ?_⟩, by simp only; omega⟩) fun e2 r h35 ow35 he M35 D35 => ?_
   ·cases hk : u.k with
    | false =>
     obtain ⟨a1, _⟩ := M33.L u hu hk
     rw [e, S33.B.co c hcm] at a1; cases a1
    | true => exact hnot (by rw [← e]; exact k2 u hu hk)
   ·rw [ht, List.flatMap_append]
    have : [c].flatMap (toldC T) = [] := by simp [toldC, hR0]
    rw [this, List.append_nil]; exact P2
   ·rw [ht, List.map_append]; exact List.mem_append_left _ (k2 u hu hk)
   ·rw [ht] at hu
    rcases List.mem_append.1 hu with hu | hu
    ·exact cv2 u hu hR
    ·simp only [List.mem_singleton] at hu
     subst hu; exact absurd hR0 hR
   ·obtain ⟨z35, S35⟩ := S33.go M35 D35
    refine ⟨rfl, trivial, ⟨i + 1, rfl, by omega, ow35, _, z35, qc33, S35, ?_, fun b hb => ?_, ?_, by simp; omega, fun u hu hk => ?_, fun u hu hR => ?_⟩, by simp only; omega⟩
    ·intro b B hB
     have hbl := lt_of_get hB
     exact D35.keeps b B (fun hn => by have := o33 b hn; omega) (x33 _ _ hB)
    ·rcases D35.own b hb with hb | hb
     ·exact o33 b hb
     ·omega
    ·rw [ht, List.flatMap_append, allOf_app, ← List.append_assoc]
     have e9 : [c].flatMap (toldC T) = e2 :: (r ++ T c) := by
      simp [toldC, he]
     rw [e9]
     simp only [allOf, List.map_cons, List.map_nil, List.flatten_cons, List.flatten_nil, List.append_nil]
     exact P2.append_right _
    ·rcases List.mem_append.1 hu with hu | hu
     ·rw [ht, List.map_append]; exact List.mem_append_left _ (k2 u hu hk)
     ·simp only [List.mem_singleton] at hu
      subst hu
      rw [ht, List.map_append]; simp
    ·rw [ht] at hu
     rcases List.mem_append.1 hu with hu | hu
     ·obtain ⟨v, hv, r1⟩ := cv2 u hu hR
      exact ⟨v, List.mem_append_left _ hv, r1⟩
     ·simp only [List.mem_singleton] at hu
      subst hu
      exact ⟨⟨h33.length, u.cb, true, e2, r ++ T u, r, u.E⟩, List.mem_append_right _ (by simp), rfl, rfl⟩
  ·replace g2 := of_decide_eq_false g2
   have : i = cs.length := by omega
   subst this
   rw [List.take_length] at P2 cv2 S2 M2
   refine m69 M2.K fun h37 H3 M3 K3 l3 P3 O3 => ⟨rfl, ?_⟩
   have M37 := MrgR.of_heap (cs := cs) M3 P3 M2.L M2.C M2.ok M2.lnd K3
   have Kd : Keeps (dsk ow2) h25 h37 := fun b B hb hB => K3 b B (fun hx => hb (hp_dsk hx)) hB
   refine hQ h37 _ ow2 H3 z2 qc2 (.inr trivial) (fun b B _ hB => K3 b B (fun hx => ?_) (x25 _ _ hB)) ⟨M37, S2.B.keeps S2.A Kd l3, S2.B, S2.pn⟩ O3 (Cov.perm cv2 P3) ((allOf_perm P3).trans P2) o2
   have := o2 b (hp_dsk hx)
   have := lt_of_get hB
   omega)
end
structure Mg (h : Heap) (ow : Roles) (p : Nat) (qc : Option SL) (cbs : List Nat) (er : Int) (m : List Ent) (cs : List Cu) (z : Nat → Prop) (hW : Heap) (pp fb mb n : Nat) (fl : Bs → Nat → Int × List Ent) (P : PS) (N : Nat) : Prop where
 at' : ∃ H, MW h ow p qc cbs er H cs z hW pp fb mb n fl P N ∧ HeapOK H H.length 0 ∧ Cov H cs ∧ sortE (allOf H) = m
section
variable {h h' hW : Heap} {ow ow' : Roles} {p pp fb mb n N N' : Nat} {qc : Option SL} {cbs : List Nat} {er : Int} {H H' : List HD} {x y : HD} {Q : AV → Heap → Prop} {q : Option SL} {z : Nat → Prop} {fl : Bs → Nat → Int × List Ent} {cs : List Cu} {P : PS} {m : List Ent}
theorem sort_nil (hs : sortE (allOf H) = m) : m = [] ↔ H = [] := by
 have hp := (sortE_perm (allOf H)).length_eq
 rw [hs] at hp
 constructor
 ·intro e
  subst e
  cases H with
  | nil => rfl
  | cons x H => rw [allOf_cons] at hp; simp at hp
 ·intro e
  subst e
  exact List.eq_nil_of_length_eq_zero (by rw [hp]; rfl)
theorem sort_cons (hok : ∀ u ∈ x :: H, HdOk u) (h2 : HeapOK (x :: H) (x :: H).length 0) : sortE (allOf (x :: H)) = x.e :: sortE (x.r ++ allOf H) := by
 refine sort_head (by rw [allOf_cons]; exact .refl _) ?_
 exact allOf_min h2 (x0 := x) rfl (fun u hu => (hok u hu).srt)
theorem sortE_perm_eq' {a b : List Ent} (h : a.Perm b) : sortE a = sortE b := sorted_uniq (sortE_sorted a) (sortE_sorted b) ((sortE_perm a).trans (h.trans (sortE_perm b).symm))
theorem Mg.grow (M : Mg h ow p qc cbs er m cs z hW pp fb mb n fl P N) (e : Ext h h') : Mg h' ow p qc cbs er m cs z hW pp fb mb n fl P N := by
 obtain ⟨H, h1, h2⟩ := M.at'
 exact ⟨H, h1.grow e, h2⟩
theorem Mg.err (M : Mg h ow p qc cbs er m cs z hW pp fb mb n fl P N) : cellsAt h ⟨p, 0 + 2⟩ 1 = some [.int .i64 er] := by
 obtain ⟨H, h1, h2⟩ := M.at'
 obtain ⟨qa, c1, c2, c3, c4⟩ := h1.M.K.qa
 rw [cells6 c2 (by simp)]; rfl
theorem Mg.live (M : Mg h ow p qc cbs er m cs z hW pp fb mb n fl P N) : ∀ b, ow b ≠ none → b < h.length := by
 obtain ⟨H, h1, h2⟩ := M.at'
 exact h1.M.K.live
theorem Mg.ca (M : Mg h ow p qc cbs er m cs z hW pp fb mb n fl P N) : CA z hW h pp fb mb n fl cs P N := by
 obtain ⟨H, h1, h2⟩ := M.at'
 exact h1.A
theorem Mg.over (M : Mg h ow p qc cbs er [] cs z hW pp fb mb n fl P N) : ∀ c ∈ cs, c.R = [] := fun c hc => by
 obtain ⟨H, h1, h2, h3, h4⟩ := M.at'
 have hH := (sort_nil h4).1 rfl
 subst hH
 cases hR : c.R with
 | nil => rfl
 | cons a l =>
  obtain ⟨u, hu, _⟩ := h3 c hc (by rw [hR]; simp)
  simp at hu
theorem y64 (M : Mg h ow p qc cbs er m cs z hW pp fb mb n fl P N) (h0 : m = [] ∨ er ≠ 0 → Q (.tup [entV zeroE, .bool false]) h) (h1 : ∀ e r, m = e :: r → er = 0 → Q (.tup [entV e, .bool true]) h) : AC Tryz.prog 64 [.ptr (some ⟨p, 0⟩)] h Q := by
 obtain ⟨H, a1, a2, a3, a4⟩ := M.at'
 refine m64 a1.M (fun hn => h0 ?_) fun x H1 he hz => ?_
 ·rcases hn with hn | hn
  ·exact .inl ((sort_nil a4).2 hn)
  ·exact .inr hn
 ·subst he
  exact h1 x.e _ (by rw [← a4]; exact sort_cons a1.M.ok a2) hz
theorem y71 {e : Ent} {r : List Ent} (M : Mg h ow p qc cbs er (e :: r) cs z hW pp fb mb n fl P N) (hN : N ≤ 1000000)
  (hQ : ∀ h' cs' P' N' er', N' ≤ N + 1 → (er' = 0 → Mg h' ow p qc cbs 0 r cs' z hW pp fb mb n fl P' N') → (er' ≠ 0 → (∃ c ∈ cs, c.E = er') ∧ ∃ m', Mg h' ow p qc cbs er' m' cs' z hW pp fb mb n fl P' N') → (∀ c' ∈ cs', ∃ c ∈ cs, c'.cb = c.cb ∧ c'.E = c.E ∧ (c'.R = [] → c.R = [] ∨ er' = c'.E)) → (∀ b, b ∈ cs.map (·.cb) ↔ b ∈ cs'.map (·.cb)) → Keeps (turns ow pp fb mb cs) h h' → h.length ≤ h'.length → Q (.tup []) h') : AC Tryz.prog 71 [.ptr (some ⟨p, 0⟩)] h Q := by
 obtain ⟨H, a1, a2, a3, a4⟩ := M.at'
 cases H with
 | nil => simp [allOf, sortE] at a4
 | cons x H =>
  rw [sort_cons a1.M.ok a2] at a4
  simp only [List.cons.injEq] at a4
  have okx := a1.M.ok x (by simp)
  refine m71 a1.A a1.B a1.pn a1.M a2 hN fun h' H' cs' P' N' A' hN' B' hb hcb M' O' cv hp hq hlen K' l' => ?_
  have hmg : ∀ m', sortE (allOf H') = m' → Mg h' ow p qc cbs (codeOf x) m' cs' z hW pp fb mb n fl P' N' := fun m' hm => ⟨H', ⟨M', A', B', a1.pn⟩, O', cv a3, hm⟩
  refine hQ h' cs' P' N' (codeOf x) hN' (fun h0 => ?_) (fun h0 => ⟨?_, _, hmg _ rfl⟩) hb hcb K' l'
  ·have : sortE (allOf H') = r := by
    rw [← a4.2]
    by_cases hr : x.rr = []
    ·have hE : x.E = 0 := by
      unfold codeOf at h0
      rw [if_pos hr] at h0; exact h0
     have hxr : x.r = [] := by rw [← okx.all hE]; exact hr
     rw [hxr, List.nil_append]
     exact sortE_perm_eq' (allOf_perm (hp hr))
    ·exact sortE_perm_eq' (hq hr)
   have := hmg r this
   rw [h0] at this
   exact this
  ·have hr : x.rr = [] := by
    by_cases hr : x.rr = []
    ·exact hr
    ·unfold codeOf at h0
     rw [if_neg hr] at h0; exact absurd rfl h0
   have he : codeOf x = x.E := by unfold codeOf; rw [if_pos hr]
   rw [he] at h0 ⊢
   cases hk : x.k with
   | false => exact absurd (okx.lst hk) h0
   | true =>
    obtain ⟨c, hc, _, _, hE⟩ := a1.M.C x (by simp) hk
    exact ⟨c, hc, hE⟩
end
section
variable {h h' hW : Heap} {ow ow' : Roles} {p pp fb mb n N N' : Nat} {qc : Option SL} {cbs : List Nat} {er : Int} {H H' : List HD} {x y : HD} {Q : AV → Heap → Prop} {q : Option SL} {z : Nat → Prop} {fl : Bs → Nat → Int × List Ent} {cs : List Cu} {P : PS} {m : List Ent}
theorem y34 (M : Mg h ow p qc cbs er m cs z hW pp fb mb n fl P N) (hN : N ≤ 1000000) (h0 : m = [] ∨ er ≠ 0 → Q (.tup [entV zeroE, .bool false, .int .i64 er]) h)
  (h1 : ∀ e r, m = e :: r → er = 0 → ∀ h' cs' P' N' er', N' ≤ N + 1 → (er' = 0 → Mg h' ow p qc cbs 0 r cs' z hW pp fb mb n fl P' N') → (er' ≠ 0 → (∃ c ∈ cs, c.E = er') ∧ ∃ m', Mg h' ow p qc cbs er' m' cs' z hW pp fb mb n fl P' N') → (∀ c' ∈ cs', ∃ c ∈ cs, c'.cb = c.cb ∧ c'.E = c.E ∧ (c'.R = [] → c.R = [] ∨ er' = c'.E)) → (∀ b, b ∈ cs.map (·.cb) ↔ b ∈ cs'.map (·.cb)) → Keeps (turns ow pp fb mb cs) h h' → h.length ≤ h'.length → Q (.tup [entV e, .bool true, .int .i64 0]) h') : AC Tryz.prog 34 [.ptr (some ⟨p, 0⟩)] h Q := ac34 (by
 unfold vc34
 refine vif_mk (fun g => by simp at g) (fun _ => ?_)
 refine y64 M (fun hn => ⟨_, _, _, _, _, rfl, ?_⟩) fun e r he hz => ⟨_, _, _, _, _, rfl, ?_⟩
 ·refine vif_mk (fun _ => ?_) (fun g => by simp at g)
  exact ⟨er, M.err, ⟨er, M.err, rfl⟩, ⟨er, M.err, rfl⟩, h0 hn⟩
 ·refine vif_mk (fun g => by simp at g) (fun _ => ?_)
  subst he
  exact y71 M hN fun h' cs' P' N' er' a1 a2 a3 a4 a5 a6 a7 => ⟨rfl, h1 e r rfl hz h' cs' P' N' er' a1 a2 a3 a4 a5 a6 a7⟩)
theorem Mg.old (M : Mg h ow p qc cbs er m cs z hW pp fb mb n fl P N) : hW.length ≤ h.length ∧ (∀ b, z b → b < h.length) ∧ (∀ c ∈ cs, c.cb < h.length) ∧ (∀ b, pbl pp fb mb b → b < h.length) ∧ (∀ b, z b → ¬ pbl pp fb mb b) := by
 have A := M.ca
 exact ⟨A.C.xl, A.C.zl, fun c hc => A.C.zl _ (A.one c hc).1, fun b hb => A.C.pool_lt hb, A.C.zp⟩
theorem y35 (M : Mg h ow p qc cbs er m cs z hW pp fb mb n fl P N) (hN : N ≤ 1000000) (hcb : ∀ b ∈ cbs, ∃ c ∈ cs, c.cb = b) (hcov : ∀ c ∈ cs, c.cb ∈ cbs) (hl : cbs.length ≤ 1000)
  (hQ : ∀ h' P' N', CP z hW h' pp fb mb P' N' → P'.held = 0 → (∃ c2 c3, h'[p]? = some (.cells [.sl none, c2, c3] true)) → Keeps (turns ow pp fb mb cs) h h' → Q (.tup []) h') : AC Tryz.prog 35 [.ptr (some ⟨p, 0⟩)] h Q := ac35 (by
 unfold vc35
 refine vif_mk (fun g => by simp at g) (fun _ => ?_)
 obtain ⟨H, S, _, _, _⟩ := M.at'
 obtain ⟨qa, c1, c2, c3, c4⟩ := S.M.K.qa
 have cc : cellsAt h ⟨p, 0 + 1⟩ 1 = some [.sl qc] := by rw [cells6 c2 (by simp)]; rfl
 refine ⟨qc, cc, ?_⟩
 have hcur := S.M.K.curs.1.hasL
 rw [hcur.len]
 have hown : ∀ b r, ow b = some r → ¬ (pbl pp fb mb b ∨ ∃ c ∈ cs, c.cb = b) := fun b r hb hx => by
  rcases hx with hx | ⟨c, hc, rfl⟩
  ·rw [S.pn b hx] at hb; cases hb
  ·rw [S.B.co c hc] at hb; cases hb
 refine ⟨fun xs h7 => ∃ (i : Nat) (cs7 : List Cu) (P7 : PS), xs = [.int .i64 (i : Nat)] ∧ i ≤ cbs.length ∧ CA z hW h7 pp fb mb n fl cs7 P7 N ∧ (∀ c ∈ cs7, c.cb ∈ cbs.take i → c.R = []) ∧ (∀ b ∈ cbs, ∃ c ∈ cs7, c.cb = b) ∧ (∀ c' ∈ cs7, ∃ c ∈ cs, c.cb = c'.cb) ∧ Keeps (fun b => pbl pp fb mb b ∨ ∃ c ∈ cs, c.cb = b) h h7 ∧ h.length ≤ h7.length,
  fun xs _ => match xs with | [.int _ i] => (cbs.length - i).toNat | _ => 0, ⟨0, cs, P, rfl, by omega, S.A, fun c _ hc => by simp at hc, hcb, fun c hc => ⟨c, hc, rfl⟩, .refl _ _, Nat.le_refl _⟩, ?_⟩
 rintro n4 h7 ⟨i, cs7, P7, hx, hi, A7, hR7, hcb7, hb7, K7, l7⟩
 simp only [List.cons.injEq, AV.int.injEq, true_and, and_true] at hx
 subst hx
 refine vif_mk (fun g => ?_) (fun g => ?_)
 ·replace g := of_decide_eq_true g
  have H7 : HasL ptrE h7 qc cbs := K7.hasL (fun s hs => hown _ _ (S.M.K.curs.2 s hs)) hcur
  refine HasL.idx (E := ptrE) H7 (by omega) (by omega) fun pp' cb hcg hc => ⟨_, hc, ?_⟩
  rw [Int.toNat_natCast] at hcg
  obtain ⟨c, hcm, rfl⟩ := hcb7 cb (List.mem_of_getElem? hcg)
  obtain ⟨a, b, rfl⟩ := List.append_of_mem hcm
  have hnd := A7.nd
  have cne : ∀ u, u ∈ a ∨ u ∈ b → u.cb ≠ c.cb := fun u hu => by
   rw [List.map_append, List.map_cons, List.nodup_append] at hnd
   obtain ⟨n1, n2, n3⟩ := hnd
   rw [List.nodup_cons] at n2
   rcases hu with hu | hu
   ·exact fun he => n3 _ (List.mem_map_of_mem hu) _ (by simp) he
   ·exact fun he => n2.1 (by rw [← he]; exact List.mem_map_of_mem hu)
  have htk : cbs.take (i + 1) = cbs.take i ++ [c.cb] := by rw [List.take_add_one, hcg]; rfl
  have rest : ∀ u, u ∈ a ∨ u ∈ b → u.cb ∈ cbs.take (i + 1) → u.R = [] := fun u hu hm => by
   rw [htk] at hm
   rcases List.mem_append.1 hm with hm | hm
   ·exact hR7 u (by rcases hu with hu | hu <;> simp [hu]) hm
   ·exact absurd (List.mem_singleton.1 hm) (cne u hu)
  refine A7.close hN fun h11 P11 pg A11 K11 l11 => ⟨rfl, trivial, ?_⟩
  rw [wrapK_i64 ⟨by omega, by omega⟩]
  refine ⟨⟨i + 1, _, P11, by simp, by omega, A11, fun u hu hm => ?_, fun v hv => ?_, fun u hu => ?_, fun v B hv hB => ?_, by omega⟩, by simp only; omega⟩
  ·rcases List.mem_append.1 hu with hu | hu
   ·exact rest u (.inl hu) hm
   ·rcases List.mem_cons.1 hu with rfl | hu
    ·rfl
    ·exact rest u (.inr hu) hm
  ·obtain ⟨u, hu, e⟩ := hcb7 v hv
   rcases List.mem_append.1 hu with hu | hu
   ·exact ⟨u, by simp [hu], e⟩
   ·rcases List.mem_cons.1 hu with rfl | hu
    ·exact ⟨⟨u.cb, u.d, [], u.E, pg⟩, by simp, e⟩
    ·exact ⟨u, by simp [hu], e⟩
  ·rcases List.mem_append.1 hu with hu | hu
   ·exact hb7 u (by simp [hu])
   ·rcases List.mem_cons.1 hu with rfl | hu
    ·exact hb7 c (by simp)
    ·exact hb7 u (by simp [hu])
  ·refine K11 v B (fun hx => hv ?_) (K7 v B hv hB)
   rcases hx with hx | hx
   ·exact .inl hx
   ·obtain ⟨c0, h0, e0⟩ := hb7 c (by simp)
    exact .inr ⟨c0, h0, by rw [e0, hx]⟩
 ·replace g := of_decide_eq_false g
  have : i = cbs.length := by omega
  subst this
  rw [List.take_length] at hR7
  have hall : ∀ c ∈ cs7, c.R = [] := fun c hc => hR7 c hc (by
   obtain ⟨c0, h0, e0⟩ := hb7 c hc
   rw [← e0]; exact hcov c0 h0)
  have hb := K7 p _ (hown _ _ S.M.K.pr) c2
  have hpl := lt_of_get hb
  refine store6v hb (by simp) ?_
  rw [show splice [AV.sl qa, .sl qc, .int .i64 er] 0 [.sl none] = [.sl none, .sl qc, .int .i64 er] from rfl]
  have K9 : Keeps (fun b => b = p) h7 (h7.set p (.cells [.sl none, .sl qc, .int .i64 er] true)) := keeps_set rfl
  have hpz := S.B.zo p (by rw [S.M.K.pr]; simp)
  refine hQ _ P7 N (A7.C.step K9 (fun b hb => by rw [hb]; exact hpz.1) (fun b hb => by rw [hb]; exact hpz.2) (by rw [List.length_set]; omega) (fun _ h => h) (fun _ h => .inl h)) (A7.noHeld hall) ⟨_, _, List.getElem?_set_self hpl⟩ fun b B hb' hB => K9 b B (fun e => hb' (.inl (by rw [e, S.M.K.pr]; simp))) (K7 b B (fun hx => hb' (.inr hx)) hB))
end
end Go.Proofs.YtankijamfedliaaGreatDoor.Mer
namespace Go.Proofs.YtankijamfedliaaGreatDoor
open Go.Ab
open Go.Num hiding Bs snoc_ind
open Go.Ent Go.Seg Go.Cur
open Go.Page hiding Bs get
open Go.Dsk hiding Bs
open Go.Pool hiding Bs Ents set_at Fr least
set_option linter.unusedVariables false
set_option linter.unusedSimpArgs false
section
variable {z : Nat → Prop} {h h' hW : Heap} {Q : AV → Heap → Prop} {ow : Roles} {w dp sp p fb mb n b N : Nat} {qt q q2 : Option SL} {l lf : List Ent} {ls : List (List Ent)} {e e1 e2 : Ent} {fl : Bs → Nat → Int × List Ent} {cs cs' : List Cu} {P : PS}
def FileC.d (dp sp : Nat) (q : Option SL) (l : List Ent) (r : Nat → Int) : CurD := ⟨sp, dp, 7, l.length, [115], q, headsG (packG l), packG l, r⟩
theorem ca_nil (C : CP z hW h p fb mb P N) (A : HP fl n [] P) : CA z hW h p fb mb n fl [] P N := ⟨C, A, by simp, by simp, by simp, by simp⟩
theorem Mer.InLL.app {qs ex : List (Option SL)} {le : List (List Ent)} (H : HasL slE h q (qs ++ ex)) (hl : qs.length = ls.length) (h1 : ∀ (i : Nat) (s : Option SL) (l : List Ent), qs[i]? = some s → ls[i]? = some l → HasL entE h s l) (hle : ex.length = le.length) (h2 : ∀ (i : Nat) (s : Option SL) (l : List Ent), ex[i]? = some s → le[i]? = some l → HasL entE h s l) : Mer.InLL h q (ls ++ le) := by
 refine ⟨qs ++ ex, H, by simp [hl, hle], fun i s l hs hl' => ?_⟩
 rw [List.getElem?_append] at hs hl'
 rw [hl] at hs
 split at hs
 ·rename_i hi
  rw [if_pos hi] at hl'
  exact h1 i s l hs hl'
 ·rename_i hi
  rw [if_neg hi] at hl'
  exact h2 _ s l hs hl'
theorem mayC_ok (g : Mer.mayC ls = 0) : ls.length ≤ 64 ∧ ∀ l ∈ ls, SortedL l := by
 unfold Mer.mayC at g
 split at g
 ·omega
 ·split at g
  ·rename_i ha; exact ⟨by omega, by simpa [List.all_eq_true] using ha⟩
  ·omega
end
section
variable {z : Nat → Prop} {h h' h0 hW : Heap} {Q : AV → Heap → Prop} {ow : Roles} {w dp sp p fb mb n b N k : Nat} {qt q q2 : Option SL} {l lf lw : List Ent} {ls : List (List Ent)} {e : Ent} {fl : Bs → Nat → Int × List Ent} {cs cs' : List Cu} {P : PS} {s' : Bs}
theorem FileC.cugB (F : FileC h ow w dp sp p fb mb n qt q ⟨b, [115], (sectors 7 l).set k s', (sectors 7 l).set k s'⟩ l) (hk : k < (packG l).length) (hs : s'.length = 64) (hg : Go.Page.get s' (7 + k) = none) : CuG h p fb mb (fun _ => flB l k) (FileC.d dp sp q l (rB k)) :=
  ⟨F.bad hk hs hg, gp_of F.ok, fun i g hg' => by
    unfold FileC.d rB flB
    by_cases h : i = k
    · right
      simp only [h, if_true]
      exact ⟨by decide, trivial⟩
    · left
      simp only [h, if_false]
      exact ⟨trivial, flG_get hg'⟩⟩
theorem rot_app2 {qs : List (Option SL)} {q81 : Option SL} {a83 : Nat} {K : Option SL → Heap → Prop} (hql : qs.length = ls.length) (hq : ∀ (i : Nat) (s : Option SL) (l : List Ent), qs[i]? = some s → ls[i]? = some l → HasL entE h0 s l) (hl : ls.length ≤ 60) (O : OwnL slE h q81 qs) (fr : ∀ s, q81 = some s → h0.length ≤ s.b) (x : Ext h0 h) (Hb : HasL slE h (some ⟨a83, 0, 1, 1, 0⟩) [qt]) (Hw : HasL entE h0 qt lw)
    (hK : ∀ q' h', Mer.InLL h' q' (ls ++ [lw]) → Ext h0 h' → K q' h') : PAppendS 1 24 q81 (some ⟨a83, 0, 1, 1, 0⟩) h K := by
  refine Apd.append (E := slE) O.apd Hb (by simp; omega) fun q83 h84 A84 K84 l84 f84 => ?_
  have y : Ext h0 h84 := fun v B hB => K84 v B (fun ⟨s, a1, a2⟩ => by have := fr s a1; have := lt_of_get hB; omega) (x _ _ hB)
  refine hK q83 h84 (Mer.InLL.app A84.hasL hql (fun i s l' hs hl' => (hq i s l' hs hl').mono y) rfl (fun i s l' hs hl' => ?_)) y
  match i with
  | 0 =>
    simp only [List.getElem?_cons_zero, Option.some.injEq] at hs hl'
    subst hs hl'
    exact Hw.mono y
  | i + 1 => simp at hs
set_option maxHeartbeats 1000000 in
theorem rot_tail {R : AV → Heap → Prop} {pm : Nat} {owm : Mer.Roles} {qcm : Option SL} {cb : Nat} {q85 : Option SL} {m : List Ent} {h56 h86 : Heap} {f : FA} (F : FileC h56 ow w dp sp p fb mb n qt q f l) (K86 : Keeps (pbl p fb mb) h56 h86) (l86 : h56.length ≤ h86.length) (IA : Mer.InLL h86 q85 (ls ++ [l])) (hsum : ((ls ++ [l]).map List.length).sum ≤ 1600) (hll : ls.length ≤ 60)
    (M : Mer.Mg h86 owm pm qcm [cb] 0 m cs z h56 p fb mb n fl P N) (hm : m = sortE (ls ++ [l]).flatten) (hN : N ≤ 2000) (hcs : ∀ c ∈ cs, c.cb = cb ∧ c.E = 80 ∧ c.R ≠ []) (hcb : ∃ c ∈ cs, c.cb = cb) (hcw : h56.length ≤ cb) (hown : ∀ b, owm b ≠ none → h56.length ≤ b) (hR : ∀ h, R (.bool true) h) :
 AC Tryz.prog 32 [.sl q85] h86 fun v87 h88 => ∃ q89 : Option SL, v87 = .sl q89 ∧
 ∃ (I91 : List AV → Heap → Prop) (m92 : List AV → Heap → Nat), I91 [.int .i64 0] h88 ∧
 ∀ n90 : Int, ∀ h93 : Heap, I91 [.int .i64 n90] h93 →
 vif (decide (n90 < 2000))
 (AC Tryz.prog 34 [.ptr (some ⟨pm, 0⟩)] h93 fun v94 h95 => ∃ n96 n97 : Int, ∃ n98 n99 : Int, ∃ b100 : Bool, ∃ n101 : Int, v94 = .tup [.agg [.int .i64 n96, .int .i64 n97, .int .i64 n98, .int .i64 n99], .bool b100, .int .i64 n101] ∧
 vif (!b100)
 (AC Tryz.prog 34 [.ptr (some ⟨pm, 0⟩)] h95 fun v102 h103 => ∃ n104 n105 : Int, ∃ n106 n107 : Int, ∃ b108 : Bool, ∃ n109 : Int, v102 = .tup [.agg [.int .i64 n104, .int .i64 n105, .int .i64 n106, .int .i64 n107], .bool b108, .int .i64 n109] ∧
 AC Tryz.prog 35 [.ptr (some ⟨pm, 0⟩)] h103 fun v110 h111 => v110 = .tup [] ∧
 vif (n101 == 80)
 (vif (!b108)
 (vif (n109 == 80)
 (vPtr (some (⟨w, 0⟩ : PA)) fun p112 =>
 ∃ p113 : Option PA, cellsAt h111 ⟨p112.b, p112.o + 2⟩ 1 = some [.ptr p113] ∧
 AC Tryz.prog 15 [.ptr p113] h111 fun v114 h115 => ∃ n116 : Int, v114 = .int .i64 n116 ∧
 vif (n116 == 0)
 (AC Tryz.prog 36 [.ptr (some ⟨pm, 0⟩)] h115 fun v117 h118 => ∃ n119 : Int, v117 = .int .i64 n119 ∧
 R (.bool (n119 == 0)) h118)
 (R (.bool false) h115))
 (R (.bool false) h111))
 (R (.bool false) h111))
 (R (.bool false) h111))
 (vif (n101 != 0)
 (R (.bool false) h95)
 (vif (decide (n90 ≥ (slLen q89 : Int)))
 (R (.bool false) h95)
 (vIdx q89 n90 4 fun p120 =>
 ∃ n121 n122 : Int, ∃ n123 n124 : Int, cellsAt h95 p120 4 = some [.int .i64 n121, .int .i64 n122, .int .i64 n123, .int .i64 n124] ∧
 vif (!(((n96 == n121) && ((n97 == n122) && true)) && (((n98 == n123) && ((n99 == n124) && true)) && true)))
 (R (.bool false) h95)
 ((True) ∧ I91 [.int .i64 (wrapK .i64 (n90 + 1))] h95 ∧ m92 [.int .i64 (wrapK .i64 (n90 + 1))] h95 < m92 [.int .i64 n90] h93)))))
 (R (.bool false) h93) := by
  have hml : m.length ≤ 1600 := by rw [hm, (sortE_perm _).length_eq, List.length_flatten]; exact hsum
  refine Mer.m32 IA (by omega) (by simp; omega) fun q89 h88 N88 => ⟨q89, rfl, ?_⟩
  rw [← hm] at N88
  have K88 := K86.trans (keeps_of_ext N88.1)
  have M88 := M.grow N88.1
  have l88 := N88.1.len
  have turn56 : ∀ {cs9 : List Cu}, (∀ c ∈ cs9, c.cb = cb) → ∀ v, v < h56.length → Mer.turns owm p fb mb cs9 v → pbl p fb mb v := fun hc v hv ht => by
    rcases ht with ht | ht | ⟨c, hm, rfl⟩
    · have := hown v ht; omega
    · exact ht
    · rw [hc c hm] at hv; omega
  have turn88 : ∀ {cs9 : List Cu}, (∀ c ∈ cs9, c.cb = cb) → ∀ v, Mer.turns owm p fb mb cs9 v → v < h86.length := fun hc v ht => by
    rcases ht with ht | ht | ⟨c, hm, rfl⟩
    · exact M.live v ht
    · have := (F.op v ht).2.2.2.2.2.2.2; omega
    · obtain ⟨c0, h0, e0⟩ := hcb
      have := M.old.2.2.1 c0 h0
      rw [hc c hm, ← e0]; exact this
  refine ⟨fun xs h93 => ∃ (i : Nat) (cs9 : List Cu) (P9 : PS) (N9 : Nat), xs = [.int .i64 (i : Nat)] ∧ i ≤ m.length ∧ N9 ≤ 2000 + i ∧ (∀ c ∈ cs9, c.cb = cb ∧ c.E = 80) ∧ (∃ c ∈ cs9, c.cb = cb) ∧ Keeps (pbl p fb mb) h56 h93 ∧ HasL entE h93 q89 m ∧ (Mer.Mg h93 owm pm qcm [cb] 0 (m.drop i) cs9 z h56 p fb mb n fl P9 N9 ∧ (∀ c ∈ cs9, c.R ≠ []) ∨ ∃ m', Mer.Mg h93 owm pm qcm [cb] 80 m' cs9 z h56 p fb mb n fl P9 N9),
    fun xs _ => match xs with | [.int _ i] => (m.length - i).toNat | _ => 0, ⟨0, cs, P, N, rfl, by omega, by omega, fun c hc => ⟨(hcs c hc).1, (hcs c hc).2.1⟩, hcb, K88, N88.hasL, .inl ⟨M88, fun c hc => (hcs c hc).2.2⟩⟩, ?_⟩
  rintro n90 h93 ⟨i, cs9, P9, N9, hx, hi, hN9, hcs9, hcb9, K93, H93, hM⟩
  simp only [List.cons.injEq, AV.int.injEq, true_and, and_true] at hx
  refine vif_mk (fun _ => ?_) (fun g => by have := of_decide_eq_false g; omega)
  rcases hM with ⟨M9, hR9⟩ | ⟨m', M9⟩
  · have hne : m.drop i ≠ [] := fun h0 => by
      rw [h0] at M9
      obtain ⟨c, hc, _⟩ := hcb9
      exact hR9 c hc (M9.over c hc)
    have hil : i < m.length := by
      rcases Nat.lt_or_ge i m.length with h | h
      · exact h
      · exact absurd (List.drop_eq_nil_of_le h) hne
    refine Mer.y34 M9 (by omega) (fun h0 => ?_) fun x r hxr _ h95 cs' P' N' er' a1 a2 a3 a4 a5 a6 a7 => ⟨_, _, _, _, _, _, rfl, ?_⟩
    · rcases h0 with h0 | h0
      · exact absurd h0 hne
      · exact absurd rfl h0
    have hxx : m[i]? = some x ∧ m.drop (i + 1) = r := by
      rw [List.drop_eq_getElem_cons hil] at hxr
      obtain ⟨h1, h2⟩ := List.cons.inj hxr
      exact ⟨by rw [List.getElem?_eq_getElem hil, h1], h2⟩
    have K95 : Keeps (pbl p fb mb) h56 h95 := fun v B hv hB => a6 v B (fun ht => hv (turn56 (fun c hc => (hcs9 c hc).1) v (lt_of_get hB) ht)) (K93 v B hv hB)
    have H95 : HasL entE h95 q89 m := a6.hasL (fun s hs ht => by
      have h1 := turn88 (fun c hc => (hcs9 c hc).1) s.b ht
      have h2 := N88.2.2 s hs
      omega) H93
    refine vif_mk (fun g => by simp at g) (fun _ => vif_mk (fun g => by simp at g) (fun _ => ?_))
    rw [H95.len]
    refine vif_mk (fun g => by have := of_decide_eq_true g; omega) (fun _ => ?_)
    refine idx4 H95 hxx.1 hx fun p120 hc => ⟨_, _, _, _, hc, vif_mk (fun g => by simp at g) (fun _ => ⟨trivial, ?_, ?_⟩)⟩
    · rw [wrapK_i64 ⟨by omega, by omega⟩]
      refine ⟨i + 1, cs', P', N', by rw [hx]; rfl, by omega, by omega, fun c' hc' => ?_, ?_, K95, H95, ?_⟩
      · obtain ⟨c, hc, e1, e2, _⟩ := a4 c' hc'
        exact ⟨by rw [e1]; exact (hcs9 c hc).1, by rw [e2]; exact (hcs9 c hc).2⟩
      · obtain ⟨c, hc, e1⟩ := hcb9
        have := (a5 c.cb).1 (List.mem_map_of_mem hc)
        obtain ⟨c', hc', e2⟩ := List.mem_map.1 this
        exact ⟨c', hc', by rw [← e1]; exact e2⟩
      · by_cases her : er' = 0
        · left
          refine ⟨by rw [hxx.2]; exact a2 her, fun c' hc' hR' => ?_⟩
          obtain ⟨c, hc, e1, e2, e3⟩ := a4 c' hc'
          rcases e3 hR' with e3 | e3
          · exact hR9 c hc e3
          · rw [her, e2, (hcs9 c hc).2] at e3; cases e3
        · right
          obtain ⟨⟨c, hc, e1⟩, m', hM'⟩ := a3 her
          rw [(hcs9 c hc).2] at e1
          rw [← e1] at hM'
          exact ⟨m', hM'⟩
    · rw [wrapK_i64 ⟨by omega, by omega⟩]
      simp only
      omega
  · refine Mer.y34 M9 (by omega) (fun _ => ⟨_, _, _, _, _, _, rfl, ?_⟩) fun x r _ h0 => by cases h0
    refine vif_mk (fun _ => ?_) (fun g => by simp at g)
    refine Mer.y34 M9 (by omega) (fun _ => ⟨_, _, _, _, _, _, rfl, ?_⟩) fun x r _ h0 => by cases h0
    refine Mer.y35 M9 (by omega) (fun v hv => ?_) (fun c hc => by rw [(hcs9 c hc).1]; simp) (by simp) fun h111 P111 N111 C111 hh ⟨c2, c3, hpm⟩ K111 => ⟨rfl, ?_⟩
    · rw [List.mem_singleton] at hv
      rw [hv]; exact hcb9
    have K56 : Keeps (pbl p fb mb) h56 h111 := fun v B hv hB => K111 v B (fun ht => hv (turn56 (fun c hc => (hcs9 c hc).1) v (lt_of_get hB) ht)) (K93 v B hv hB)
    refine vif_mk (fun _ => vif_mk (fun _ => vif_mk (fun _ => ?_) (fun g => by simp at g)) (fun g => by simp at g)) (fun g => by simp at g)
    refine ⟨_, F.atF K56 (k := 2) rfl, ?_⟩
    refine C111.heldN ⟨_, rfl, ?_⟩
    rw [hh]
    refine vif_mk (fun _ => ?_) (fun g => by simp at g)
    refine ac36 ?_
    unfold vc36
    refine vif_mk (fun g => by simp at g) (fun _ => ⟨none, by rw [cells6 hpm (by simp)]; rfl, 0, rfl, hR _⟩)
set_option maxHeartbeats 2000000 in
theorem s8 (lives : ∀ {h : Heap} {Q : AV → Heap → Prop}, Laid h → Q (.bool true) h → AC Tryz.prog 29 [] h Q) {i0 : Int} {turn : Nat} (ht : turn < 2 ^ 32) (L : Laid h) (I : Mer.InLL h q ls) (H : HasL entE h q2 lf) : AC Tryz.prog 8 [.sl q, .sl q2, .int .i64 i0, .int .u32 (turn : Nat)] h fun v _ => v = .bool true := ac8 (by
  unfold vc8
  refine Mer.m26 I fun bl hbl => ⟨bl, rfl, vif_mk (fun _ => lives L ⟨_, rfl, rfl⟩) (fun g0 => ?_)⟩
  have Ft := hbl g0
  rw [I.len, H.len]
  refine vif_mk (fun _ => lives L ⟨_, rfl, rfl⟩) (fun g1 => ?_)
  replace g1 := of_decide_eq_false g1
  refine Mer.m27 I Ft ⟨_, rfl, vif_mk (fun _ => lives L ⟨_, rfl, rfl⟩) (fun g2 => ?_)⟩
  have hmay : Mer.mayC ls = 0 := by simpa using g2
  obtain ⟨hl64, hsr⟩ := mayC_ok hmay
  obtain ⟨F2, hsum⟩ := Mer.fits_all Ft hl64
  refine vif_mk (fun _ => lives L ⟨_, rfl, rfl⟩) (fun g3 => ?_)
  replace g3 := of_decide_eq_false g3
  refine k28 H (by omega) ⟨_, rfl, vif_mk (fun _ => lives L ⟨_, rfl, rfl⟩) (fun g4 => ?_)⟩
  have hm : mayE lf = 0 := by simpa using g4
  refine vif_mk (fun _ => lives L ⟨_, rfl, rfl⟩) (fun gc => ?_)
  have gc : turn ≠ 0 := by intro hc; subst hc; simp at gc
  refine c11x (n := 2) L H (by omega) hm (by omega) fun w h33 ow dp sp p fb mb qt qh b F x33 o33 pnew => ⟨_, rfl, ?_⟩
  refine lives F.laid ⟨_, rfl, vif_mk (fun g => by simp at g) (fun _ => vif_mk (fun g => by simp at g) (fun _ => ?_))⟩
  have few := F.few
  have hlf : (sortE lf).length = lf.length := sort_len
  obtain ⟨_, _, _, a4⟩ := file_fit F.ok F.few
  refine vif_mk (fun g => vif_mk (fun _ => rfl) (fun g2 => by rw [g] at g2; cases g2)) (fun gi => ?_)
  replace gi := of_decide_eq_false gi
  obtain ⟨k, rfl⟩ := Int.eq_ofNat_of_zero_le (by omega : 0 ≤ i0)
  refine ⟨_, F.at (.refl _ _) (k := 1) rfl, ?_⟩
  refine k21 F.at' F.hd ⟨_, rfl, vif_mk (fun g => vif_mk (fun _ => rfl) (fun _ => ⟨_, F.at (.refl _ _) (k := 1) rfl, k21 F.at' F.hd ⟨_, rfl, by rw [g]⟩⟩)) (fun g2 => ?_)⟩
  replace g2 := of_decide_eq_false g2
  have hk : k < (packG (sortE lf)).length := by rw [← heads_len F.ok]; omega
  refine ⟨_, F.at (.refl _ _) (k := 0) rfl, ?_⟩
  refine F.flipx (at' := 100) hk (by omega) gc ht fun s' h56 ow56 hs hg F4 S4 => ⟨_, rfl, vif_mk (fun g => by simp at g) (fun _ => ?_)⟩
  have W := F4.bad hk hs hg
  have G := gp_of F4.ok
  have x33l := x33.len
  have l56 := S4.len
  have I56 : ∀ {h9 : Heap}, Keeps (pbl p fb mb) h56 h9 → Mer.InLL h9 q ls := fun K => by
    obtain ⟨qs, Hq, hql, hq⟩ := I
    have key : ∀ {α : Type} {E : Enc α} {q9 : Option SL} {l9 : List α}, HasL E h q9 l9 → HasL E _ q9 l9 := fun {α E q9 l9} Hx => K.hasL (fun s hs hb => by have := pnew _ hb; have := HasL.live Hx s hs; omega) (S4.keeps.hasL (fun s hs hb => by have := o33 _ hb; have := HasL.live Hx s hs; omega) (Hx.mono x33))
    exact ⟨qs, key Hq, hql, fun i s l' hs hl' => key (hq i s l' hs hl')⟩
  refine ⟨_, F4.atF (.refl _ _) (k := 2) rfl, ⟨_, F4.atF (.refl _ _) (k := 1) rfl, ?_⟩⟩
  obtain ⟨t1, t2, t3⟩ := from_bad F4.ok hk
  have hsp : sortE lf = ((packG (sortE lf)).take k).flatten ++ ((packG (sortE lf)).drop k).flatten := by
    rw [← List.flatten_append, List.take_append_drop, packG_flat]
  have hk0 : ((packG (sortE lf)).take k).flatten ≠ [] := fun h0 => by
    have h1 := List.getElem?_eq_getElem (show 0 < (packG (sortE lf)).length by omega)
    have h2 := (packG_fit F4.ok _ (List.getElem_mem (show 0 < (packG (sortE lf)).length by omega))).1
    have h3 : (packG (sortE lf))[0] ∈ (packG (sortE lf)).take k := by
      refine List.mem_of_getElem? (i := 0) ?_
      rw [List.getElem?_take, if_pos (by omega)]; exact h1
    rw [List.flatten_eq_nil_iff] at h0
    exact absurd (h0 _ h3) h2
  generalize hR : ((packG (sortE lf)).take k).flatten = R at *
  generalize hX : ((packG (sortE lf)).drop k).flatten = X at *
  have A0 : CA (fun _ => False) h56 h56 p fb mb 2 (fun _ => flB (sortE lf) k) [] (newP 2) 0 := ca_nil F4.cp hp_new
  refine c13 (e := (0, 0, 0, 0)) (C := []) (r := rB k) (fl := fun _ => flB (sortE lf) k) F4.cp W G (out_bad (by decide)) hp_new (by rw [packG_flat]; exact F4.so) (by omega) (fun hE cb h68 P68 N68 S68 hN68 K68 l68 hcb => ⟨_, _, rfl, ?_⟩) (fun hR0 hE h68 z68 P68 N68 C68 A68 _ _ K68 l68 => ⟨_, _, rfl, ?_⟩)
  rotate_left
  · rw [t1, t2] at hR0
    rw [t3] at hR0
    exact absurd hR0 hk0
  rw [t1, t2] at S68
  rw [t3] at S68
  obtain ⟨pg, A68⟩ := A0.add (sp := sp) (d := FileC.d dp sp qh (sortE lf) (rB k)) (F4.cugB hk hs hg) K68 hcb (by simp) (fun b hb => .inl hb) (fun b hb => by
    rcases hb with hb | hb
    · exact hb.elim
    · right; omega) S68
  refine vif_mk (fun g => by simp at g) (fun _ => ?_)
  unfold PNew
  have x72 : Ext h68 (h68 ++ [Blk.cells [.ptr (some ⟨cb, 0⟩)] true]) := .app _ _
  have H72 : HasL Mer.ptrE (h68 ++ [Blk.cells [.ptr (some ⟨cb, 0⟩)] true]) (some ⟨h68.length, 0, 1, 1, 0⟩) [cb] := HasL.new (n := 1) rfl rfl
  have l72 : (h68 ++ [Blk.cells [AV.ptr (some ⟨cb, 0⟩)] true]).length = h68.length + 1 := by simp
  generalize h68 ++ [Blk.cells [.ptr (some ⟨cb, 0⟩)] true] = h72 at *
  have K72 : Keeps (pbl p fb mb) h56 h72 := K68.trans (keeps_of_ext x72)
  refine Mer.m30 (T := fun _ => X) (cs := [⟨cb, FileC.d dp sp qh (sortE lf) (rB k), R, 80, pg⟩]) (I56 K72) H72 (by simp only [List.length_cons, List.length_nil]; omega) hsr F2 (A68.grow x72) (fun c hc => ?_) fun h74 pm owm Hm zm qcm _ K74 S74 O74 Cv74 Pm74 own74 => ⟨_, _, rfl, ?_⟩
  · rw [List.mem_singleton] at hc
    subst hc
    refine ⟨?_, fun h0 => by cases h0⟩
    show SortedL (R ++ X)
    rw [← hsp]; exact F4.so
  refine vif_mk (fun g => by simp at g) (fun _ => vif_mk (fun g => by simp at g) (fun _ => ?_))
  have Pall : (Mer.allOf Hm).Perm (ls ++ [sortE lf]).flatten := by
    refine Pm74.trans (.of_eq ?_)
    rw [List.flatten_append]
    simp only [List.flatMap_cons, List.flatMap_nil, List.append_nil, List.flatten_cons, List.flatten_nil]
    unfold Mer.toldC
    simp only
    rw [if_neg hk0, ← hsp]
  have hsum2 : ((ls ++ [sortE lf]).map List.length).sum ≤ 1600 := by
    rw [List.map_append, List.sum_append]
    simp only [List.map_cons, List.map_nil, List.sum_cons, List.sum_nil]
    omega
  have x74 : Ext h72 h74 := fun v B hB => K74 v B (fun h => h) hB
  have l74 := x74.len
  have M74 : Mer.Mg h74 owm pm qcm [cb] 0 (sortE (Mer.allOf Hm)) _ zm h56 p fb mb 2 (fun _ => flB (sortE lf) k) P68 N68 := ⟨Hm, S74, O74, Cv74, rfl⟩
  have heq : sortE (Mer.allOf Hm) = sortE (ls ++ [sortE lf]).flatten := Mer.sortE_perm_eq' Pall
  have N68' : N68 ≤ 2000 := by omega
  have K5674 : Keeps (pbl p fb mb) h56 h74 := K72.trans (keeps_of_ext x74)
  obtain ⟨qs, Hqs, hql, hq⟩ := I56 K5674
  have hlq := F4.lst' K5674
  have at3 : ∀ {h9 : Heap}, Ext h74 h9 → cellsAt h9 ⟨w, 0 + 3⟩ 1 = some [.sl qt] := fun x => F4.atF (K5674.trans (keeps_of_ext x)) (k := 3) rfl
  have fin : ∀ {h86 : Heap} {q85 : Option SL}, Ext h74 h86 → Mer.InLL h86 q85 (ls ++ [sortE lf]) → _ := fun {h86 q85} x IA => rot_tail (R := fun v _ => v = .bool true) (cb := cb) (m := sortE (Mer.allOf Hm)) F4 (K5674.trans (keeps_of_ext x)) (by have := x.len; omega) IA hsum2 (by omega) (M74.grow x) heq N68' (fun c hc => by rw [List.mem_singleton] at hc; subst hc; exact ⟨rfl, rfl, hk0⟩) ⟨_, List.mem_singleton.2 rfl, rfl⟩ hcb (fun v hv => by have := own74 v hv; omega) (fun _ => rfl)
  refine ⟨_, at3 (.refl _), ?_, ?_⟩
  · have x80 : Ext h74 (h74 ++ [Blk.cells [] true]) := .app _ _
    have b80 : (h74 ++ [Blk.cells [] true])[h74.length]? = some (.cells [] true) := by simp
    have l80 : (h74 ++ [Blk.cells [] true]).length = h74.length + 1 := by simp
    generalize h74 ++ [Blk.cells [] true] = h80 at *
    refine ⟨⟨qt, at3 x80, rfl⟩, ?_, ?_⟩
    · refine copy0 (E := slE) b80 (Hqs.mono x80) (by omega) fun q81 h82 x82 O82 f82 => ?_
      have y82 := x80.trans x82
      refine ⟨⟨qt, at3 y82, rfl⟩, ?_⟩
      have x84 : Ext h82 (h82 ++ [Blk.cells [.sl qt] true]) := .app _ _
      have Hb : HasL slE (h82 ++ [Blk.cells [.sl qt] true]) (some ⟨h82.length, 0, 1, 1, 0⟩) [qt] := HasL.new (n := 1) rfl rfl
      exact rot_app2 hql hq (by omega) (O82.ext x84) (fun s hs => by rcases f82 s hs with a | a <;> omega) (y82.trans x84) Hb hlq fun q85 h86 IA x => fin x IA
    · have x127 : Ext h80 (h80 ++ [Blk.cells [.sl qt] true]) := .app _ _
      have Hb : HasL slE (h80 ++ [Blk.cells [.sl qt] true]) (some ⟨h80.length, 0, 1, 1, 0⟩) [qt] := HasL.new (n := 1) rfl rfl
      have l127 : (h80 ++ [Blk.cells [.sl qt] true]).length = h80.length + 1 := by simp
      generalize h80 ++ [Blk.cells [.sl qt] true] = h127 at *
      refine copy0 (E := slE) (x127 _ _ b80) (Hqs.mono (x80.trans x127)) (by omega) fun q81 h82 x82 O82 f82 => ?_
      have y82 := (x80.trans x127).trans x82
      refine ⟨⟨qt, at3 y82, rfl⟩, ?_⟩
      exact rot_app2 hql hq (by omega) O82 (fun s hs => by rcases f82 s hs with a | a <;> omega) y82 (Hb.mono x82) hlq fun q85 h86 IA x => fin x IA
  · have x173 : Ext h74 (h74 ++ [Blk.cells [.sl qt] true]) := .app _ _
    have Hb : HasL slE (h74 ++ [Blk.cells [.sl qt] true]) (some ⟨h74.length, 0, 1, 1, 0⟩) [qt] := HasL.new (n := 1) rfl rfl
    have l173 : (h74 ++ [Blk.cells [.sl qt] true]).length = h74.length + 1 := by simp
    generalize h74 ++ [Blk.cells [.sl qt] true] = h173 at *
    have x175 : Ext h173 (h173 ++ [Blk.cells [] true]) := .app _ _
    have b175 : (h173 ++ [Blk.cells [] true])[h173.length]? = some (.cells [] true) := by simp
    have l175 : (h173 ++ [Blk.cells [] true]).length = h173.length + 1 := by simp
    have y175 := x173.trans x175
    refine ⟨⟨qt, at3 y175, rfl⟩, ?_⟩
    refine copy0 (E := slE) b175 (Hqs.mono y175) (by omega) fun q81 h82 x82 O82 f82 => ?_
    have y82 := y175.trans x82
    refine ⟨⟨qt, at3 y82, rfl⟩, ?_⟩
    exact rot_app2 hql hq (by omega) O82 (fun s hs => by rcases f82 s hs with a | a <;> omega) y82 (Hb.mono (x175.trans x82)) hlq fun q85 h86 IA x => fin x IA)
end
end Go.Proofs.YtankijamfedliaaGreatDoor
