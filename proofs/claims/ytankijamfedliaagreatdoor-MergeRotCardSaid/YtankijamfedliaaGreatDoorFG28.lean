import Derived.Test.YtankijamfedliaaGreatDoorFG16
import Derived.Test.YtankijamfedliaaGreatDoorFG27
namespace Go.Proofs.YtankijamfedliaaGreatDoor.Mer
open Go.Ab
open Go.Num hiding Bs snoc_ind
open Go.Ent Go.Seg Go.Cur
open Go.Page hiding Bs get
open Go.Dsk hiding Bs
open Go.Pool hiding Bs Ents set_at Fr least
set_option linter.unusedVariables false
set_option linter.unusedSimpArgs false
structure HD where
 hb : Nat
 lb : Nat
 k : Bool
 e : Ent
 r : List Ent
 rr : List Ent
 E : Int
def swp {α : Type} (l : List α) (i k : Nat) : List α := match l[i]?, l[k]? with | some a, some b => (l.set i b).set k a | _, _ => l
theorem swp_eq {α : Type} {l : List α} {i k : Nat} {a b : α} (ha : l[i]? = some a) (hb : l[k]? = some b) : swp l i k = (l.set i b).set k a := by simp only [swp, ha, hb]
theorem swp_len {α : Type} {l : List α} {i k : Nat} : (swp l i k).length = l.length := by
 unfold swp; split <;> simp
theorem swp_perm {α : Type} {l : List α} {i k : Nat} {a b : α} (ha : l[i]? = some a) (hb : l[k]? = some b) : (swp l i k).Perm l := by
 rw [swp_eq ha hb]
 obtain ⟨hi, rfl⟩ := List.getElem?_eq_some_iff.1 ha
 obtain ⟨hk, rfl⟩ := List.getElem?_eq_some_iff.1 hb
 exact List.set_set_perm hi hk
theorem swp_get {α : Type} {l : List α} {i k j : Nat} {a b : α} (ha : l[i]? = some a) (hb : l[k]? = some b) : (swp l i k)[j]? = if j = k then some a else if j = i then some b else l[j]? := by
 have hi := lt_of_get ha
 have hk := lt_of_get hb
 rw [swp_eq ha hb, List.getElem?_set]
 by_cases h1 : k = j
 ·subst h1; rw [if_pos rfl, if_pos (by simpa using hk), if_pos rfl]
 ·rw [if_neg h1, if_neg (Ne.symm h1), List.getElem?_set]
  by_cases h2 : i = j
  ·subst h2; rw [if_pos rfl, if_pos hi, if_pos rfl]
  ·rw [if_neg h2, if_neg (Ne.symm h2)]
theorem swp_map {α β : Type} (f : α → β) {l : List α} {i k : Nat} : (swp l i k).map f = swp (l.map f) i k := by
 unfold swp
 rw [List.getElem?_map, List.getElem?_map]
 cases l[i]? <;> cases l[k]? <;> simp [List.map_set]
def Kid (j c : Nat) : Prop := c = 2 * j + 1 ∨ c = 2 * j + 2
def HeapOK (H : List HD) (n lo : Nat) : Prop := ∀ j c x y, lo ≤ j → Kid j c → c < n → H[j]? = some x → H[c]? = some y → leE x.e y.e
def DInv (H : List HD) (n lo i : Nat) : Prop :=
 (∀ j c x y, lo ≤ j → j ≠ i → Kid j c → c < n → H[j]? = some x → H[c]? = some y → leE x.e y.e) ∧
 (∀ j c x y, lo ≤ j → Kid j i → Kid i c → c < n → H[j]? = some x → H[c]? = some y → leE x.e y.e)
theorem dinv_start {H : List HD} {n lo : Nat} (h : HeapOK H n (lo + 1)) : DInv H n lo lo :=
 ⟨fun j c x y h1 h2 h3 h4 h5 h6 => h j c x y (by omega) h3 h4 h5 h6, fun j c x y h1 h2 => by unfold Kid at h2; omega⟩
theorem dinv_end {H : List HD} {n lo i : Nat} (D : DInv H n lo i) (h : ∀ c x y, Kid i c → c < n → H[i]? = some x → H[c]? = some y → leE x.e y.e) : HeapOK H n lo := by
 intro j c x y h1 h2 h3 h4 h5
 by_cases hj : j = i
 ·subst hj; exact h c x y h2 h3 h4 h5
 ·exact D.1 j c x y h1 hj h2 h3 h4 h5
theorem dinv_step {H : List HD} {n lo i c0 : Nat} {x y : HD} (D : DInv H n lo i) (hlo : lo ≤ i) (hx : H[i]? = some x) (hy : H[c0]? = some y) (hk : Kid i c0) (hc : c0 < n) (hlt : leE y.e x.e)
  (hmin : ∀ c z, Kid i c → c < n → H[c]? = some z → leE y.e z.e) : DInv (swp H i c0) n lo c0 := by
 have hne : c0 ≠ i := by unfold Kid at hk; omega
 have get := fun j => swp_get (j := j) hx hy
 refine ⟨fun j c u v h1 h2 h3 h4 h5 h6 => ?_, fun j c u v h1 h2 h3 h4 h5 h6 => ?_⟩
 ·rw [get] at h5 h6
  rw [if_neg h2] at h5
  by_cases hj : j = i
  ·subst hj
   rw [if_pos rfl] at h5
   cases h5
   by_cases hcc : c = c0
   ·rw [if_pos hcc] at h6; cases h6; exact hlt
   ·rw [if_neg hcc, if_neg (by unfold Kid at h3; omega)] at h6
    exact hmin c v h3 h4 h6
  ·rw [if_neg hj] at h5
   by_cases hcc : c = c0
   ·exfalso; unfold Kid at hk h3; omega
   ·rw [if_neg hcc] at h6
    by_cases hci : c = i
    ·rw [if_pos hci] at h6; cases h6
     subst hci
     exact D.2 j c0 _ _ h1 h3 hk hc h5 hy
    ·rw [if_neg hci] at h6
     exact D.1 j c u v h1 hj h3 h4 h5 h6
 ·have hj : j = i := by unfold Kid at h2 hk; omega
  subst hj
  rw [get] at h5 h6
  rw [if_neg (Ne.symm hne), if_pos rfl] at h5
  cases h5
  rw [if_neg (by unfold Kid at h3; omega), if_neg (by unfold Kid at h3 hk; omega)] at h6
  exact D.1 c0 c _ _ (by unfold Kid at hk; omega) hne h3 h4 hy h6
theorem heap_min {H : List HD} {n : Nat} (h : HeapOK H n 0) {x0 : HD} (h0 : H[0]? = some x0) : ∀ (j : Nat) (y : HD), j < n → H[j]? = some y → leE x0.e y.e
 | 0, y, _, hy => by rw [h0] at hy; cases hy; exact leE_refl _
 | j + 1, y, hj, hy => by
  have hp : j / 2 < n := by omega
  have hlt := lt_of_get hy
  have hz : H[j / 2]? = some H[j / 2] := List.getElem?_eq_getElem (by omega)
  exact leE_trans (heap_min h h0 (j / 2) _ hp hz) (h (j / 2) (j + 1) _ _ (by omega) (by unfold Kid; omega) hj hz hy)
def allOf (H : List HD) : List Ent := (H.map fun x => x.e :: x.r).flatten
theorem allOf_perm {H H' : List HD} (h : H.Perm H') : (allOf H).Perm (allOf H') := (h.map _).flatten
theorem allOf_cons {x : HD} {H : List HD} : allOf (x :: H) = (x.e :: x.r) ++ allOf H := by simp [allOf]
theorem allOf_min {H : List HD} {x0 : HD} (h : HeapOK H H.length 0) (h0 : H[0]? = some x0) (hs : ∀ x ∈ H, SortedL (x.e :: x.r)) : ∀ y ∈ allOf H, leE x0.e y := by
 intro y hy
 simp only [allOf, List.mem_flatten, List.mem_map] at hy
 obtain ⟨_, ⟨x, hx, rfl⟩, hy⟩ := hy
 obtain ⟨j, hj⟩ := List.mem_iff_getElem?.1 hx
 have h1 := heap_min h h0 j x (lt_of_get hj) hj
 rcases List.mem_cons.1 hy with rfl | hy
 ·exact h1
 ·exact leE_trans h1 (List.rel_of_pairwise_cons (hs x hx) hy)
theorem sort_head {l : List Ent} {e : Ent} {m : List Ent} (hp : l.Perm (e :: m)) (hmin : ∀ y ∈ l, leE e y) : sortE l = e :: sortE m := by
 refine sortE_eq ?_ ?_
 ·refine .cons (fun y hy => ?_) (sortE_sorted m)
  exact hmin y (hp.mem_iff.2 (List.mem_cons_of_mem _ ((sortE_perm m).mem_iff.1 hy)))
 ·exact ((sortE_perm m).cons e).trans hp.symm
inductive ZRole where
 | mrg | arr | head | lst | dat | cur
deriving DecidableEq
abbrev Roles := Nat → Option ZRole
abbrev dsk (ow : Roles) : Nat → Prop := fun b => ow b ≠ none
structure DStep (ow : Roles) (h : Heap) (ow' : Roles) (h' : Heap) : Prop where
 keeps : Keeps (dsk ow) h h'
 len : h.length ≤ h'.length
 own : ∀ b, ow' b ≠ none → ow b ≠ none ∨ h.length ≤ b
theorem DStep.refl (ow : Roles) (h : Heap) : DStep ow h ow h := ⟨.refl _ _, Nat.le_refl _, fun b hb => .inl hb⟩
theorem DStep.trans {ow0 ow1 ow2 : Roles} {h0 h1 h2 : Heap} (a : DStep ow0 h0 ow1 h1) (b : DStep ow1 h1 ow2 h2) : DStep ow0 h0 ow2 h2 := by
 refine ⟨fun k B hk hB => ?_, Nat.le_trans a.len b.len, fun k hk => ?_⟩
 ·refine b.keeps k B (fun hn => ?_) (a.keeps k B hk hB)
  rcases a.own k hn with h | h
  ·exact hk h
  ·have := lt_of_get hB; omega
 ·rcases b.own k hk with h | h
  ·exact a.own k h
  ·exact .inr (Nat.le_trans a.len h)
theorem DStep.ext {ow : Roles} {h h' : Heap} (e : Ext h h') : DStep ow h ow h' := ⟨keeps_of_ext e, e.len, fun b hb => .inl hb⟩
def setOw (ow : Roles) (q : Option SL) (r : ZRole) : Roles := fun b => match q with
 | some s => if b = s.b then some r else ow b
 | none => ow b
theorem setOw_keep {ow : Roles} {n : Nat} {q : Option SL} {r : ZRole} (hl : ∀ b, ow b ≠ none → b < n) (hq : ∀ s, q = some s → n ≤ s.b ∨ ow s.b = some r) : ∀ b r', ow b = some r' → setOw ow q r b = some r' := by
 intro b r' hb
 unfold setOw
 cases q with
 | none => exact hb
 | some s =>
  simp only
  split
  ·rename_i he
   subst he
   rcases hq s rfl with h | h
   ·have := hl s.b (by simp [hb]); omega
   ·rw [h] at hb; exact hb
  ·exact hb
theorem setOw_self {ow : Roles} {q : Option SL} {r : ZRole} : ∀ s, q = some s → setOw ow q r s.b = some r := by
 intro s hs; subst hs; simp [setOw]
theorem setOw_some {ow : Roles} {n : Nat} {q : Option SL} {r : ZRole} (hq : ∀ s, q = some s → n ≤ s.b ∨ ow s.b = some r) : ∀ b, setOw ow q r b ≠ none → ow b ≠ none ∨ (n ≤ b ∧ ∃ s, q = some s ∧ b = s.b) := by
 intro b hb
 unfold setOw at hb
 cases q with
 | none => exact .inl hb
 | some s =>
  simp only at hb
  split at hb
  ·rename_i he; subst he
   rcases hq s rfl with h | h
   ·exact .inr ⟨h, s, rfl, rfl⟩
   ·exact .inl (by simp [h])
  ·exact .inl hb
def ptrE : Enc Nat := ⟨1, fun b => [.ptr (some ⟨b, 0⟩)], fun _ => rfl, by omega, fun _ => rfl⟩
abbrev srcV (k : Bool) (lb : Nat) : AV := .iface (if k then 39 else 129) (.ptr (some ⟨lb, 0⟩))
abbrev headB (e : Ent) (k : Bool) (lb : Nat) : Blk := .cells [.int .i64 e.1, .int .i64 e.2.1, .int .i64 e.2.2.1, .int .i64 e.2.2.2, srcV k lb, .func (.method "Next") [srcV k lb] []] true
structure MrgK (h : Heap) (ow : Roles) (p : Nat) (qc : Option SL) (cbs : List Nat) (er : Int) (H : List HD) : Prop where
 live : ∀ b, ow b ≠ none → b < h.length
 pr : ow p = some .mrg
 cells : ∃ qa, h[p]? = some (.cells [.sl qa, .sl qc, .int .i64 er] true) ∧ AppJ ptrE h qa (H.map (·.hb)) ∧ ∀ s, qa = some s → ow s.b = some .arr
 heads : ∀ x ∈ H, ow x.hb = some .head ∧ h[x.hb]? = some (headB x.e x.k x.lb)
 nodup : (H.map (·.hb)).Nodup
 many : H.length ≤ 100000
 curs : Apd ptrE h qc cbs ∧ ∀ s, qc = some s → ow s.b = some .cur
structure LstR (h : Heap) (ow : Roles) (x : HD) : Prop where
 role : ow x.lb = some .lst
 cells : ∃ ql, h[x.lb]? = some (.cells [.sl ql] true) ∧ HasL entE h ql (x.e :: x.r) ∧ ∀ s, ql = some s → ow s.b = some .dat
 srt : SortedL (x.e :: x.r)
section
variable {h h' : Heap} {ow ow' : Roles} {p : Nat} {qc : Option SL} {cbs : List Nat} {er : Int} {H H' : List HD} {x y : HD} {Q : AV → Heap → Prop}
theorem MrgK.ext (M : MrgK h ow p qc cbs er H) (K : Keeps (fun b => ow b = none) h h') (hl : h.length ≤ h'.length) : MrgK h' ow p qc cbs er H := by
 obtain ⟨l, pr, ⟨qa, c1, c2, c3⟩, hd, nd, mn, cu1, cu2⟩ := M
 exact ⟨fun b hb => Nat.lt_of_lt_of_le (l b hb) hl, pr, ⟨qa, K _ _ (by simp [pr]) c1, c2.keeps K (fun s hs => by simp [c3 s hs]), c3⟩, fun x hx => ⟨(hd x hx).1, K _ _ (by simp [(hd x hx).1]) (hd x hx).2⟩, nd, mn, cu1.keeps K (fun s hs => by simp [cu2 s hs]), cu2⟩
theorem MrgK.grow (M : MrgK h ow p qc cbs er H) (e : Ext h h') : MrgK h' ow p qc cbs er H := M.ext (keeps_of_ext e) e.len
abbrev hp (ow : Roles) : Nat → Prop := fun b => ow b = some .arr ∨ ow b = some .mrg
theorem LstR.keeps (L : LstR h ow x) {X : Nat → Prop} (K : Keeps X h h') (hX : ∀ b, ow b = some .lst ∨ ow b = some .dat → ¬ X b) : LstR h' ow x := by
 obtain ⟨r, ⟨ql, c1, c2, c3⟩, s⟩ := L
 exact ⟨r, ⟨ql, K _ _ (hX _ (.inl r)) c1, K.hasL (fun s hs => hX _ (.inr (c3 s hs))) c2, c3⟩, s⟩
end
section
variable {h h' : Heap} {ow ow' : Roles} {p : Nat} {qc : Option SL} {cbs : List Nat} {er : Int} {H H' : List HD} {x y : HD} {Q : AV → Heap → Prop} {q : Option SL}
theorem MrgK.qa (M : MrgK h ow p qc cbs er H) : ∃ qa, cellsAt h ⟨p, 0⟩ 1 = some [.sl qa] ∧ h[p]? = some (.cells [.sl qa, .sl qc, .int .i64 er] true) ∧ AppJ ptrE h qa (H.map (·.hb)) ∧ ∀ s, qa = some s → ow s.b = some .arr := by
 obtain ⟨qa, c1, c2, c3⟩ := M.cells
 exact ⟨qa, by rw [cellsAt_mk (p := ⟨p, 0⟩) c1 (by simp)]; rfl, c1, c2, c3⟩
theorem MrgK.key (M : MrgK h ow p qc cbs er H) (hx : x ∈ H) : cellsAt h ⟨x.hb, 0 + 0⟩ 4 = some [.int .i64 x.e.1, .int .i64 x.e.2.1, .int .i64 x.e.2.2.1, .int .i64 x.e.2.2.2] := by
 rw [cells6 (M.heads x hx).2 (by simp)]; rfl
theorem ptr_idx (A : AppJ ptrE h q (H.map (·.hb))) {i : Nat} (hx : H[i]? = some x) {ix : Int} (hix : ix = i) {K : PA → Prop} (hK : ∀ pp, cellsAt h pp 1 = some [.ptr (some ⟨x.hb, 0⟩)] → (∀ s, q = some s → pp = ⟨s.b, i * ptrE.sz⟩) → K pp) : vIdx q ix 1 K := by
 have hl := lt_of_get hx
 subst hix
 refine AppJ.idx (E := ptrE) A (by omega) (by simp; omega) fun pp b hb hc hpp => hK pp ?_ (by simpa using hpp)
 have : b = x.hb := by
  simp only [Int.toNat_natCast, List.getElem?_map, hx, Option.map_some, Option.some.injEq] at hb
  exact hb.symm
 rw [← this]; exact hc
theorem m202 {n : Nat} (hl : slLen q = n) (hQ : Q (.int .i64 (n : Nat)) h) : AC Tryz.prog 202 [.sl q] h Q := ac202 (by
 unfold vc202; rw [hl]; exact hQ)
theorem m203 (M : MrgK h ow p qc cbs er H) (A : AppJ ptrE h q (H.map (·.hb))) {i k : Nat} (hx : H[i]? = some x) (hy : H[k]? = some y) {ix kx : Int} (hix : ix = i) (hkx : kx = k) (hQ : ∀ h', Ext h h' → Q (.bool (decide (ltE x.e y.e))) h') :
  AC Tryz.prog 203 [.sl q, .int .i64 ix, .int .i64 kx] h Q := ac203 (by
 unfold vc203
 refine ptr_idx A hx hix fun pp hc _ => ⟨_, hc, _, _, _, _, M.key (List.mem_of_getElem? hx), ?_⟩
 refine ptr_idx A hy hkx fun pp2 hc2 _ => ⟨_, hc2, _, _, _, _, M.key (List.mem_of_getElem? hy), ?_⟩
 refine z47 (a := x.e) (b := y.e) fun h' x' => ⟨_, rfl, ?_⟩
 have : decide (cmpE x.e y.e < 0) = decide (ltE x.e y.e) := decide_eq_decide.2 cmpE_lt
 rw [this]; exact hQ h' x')
theorem set_swp {l : List Nat} {i k a b : Nat} (ha : l[i]? = some a) (hb : l[k]? = some b) : (l.set i b).set k a = swp l i k := (swp_eq ha hb).symm
theorem m204 (M : MrgK h ow p qc cbs er H) (A : AppJ ptrE h q (H.map (·.hb))) (hq : ∀ s, q = some s → ow s.b = some .arr) {i k : Nat} (hx : H[i]? = some x) (hy : H[k]? = some y) {ix kx : Int} (hix : ix = i) (hkx : kx = k)
  (hpq : h[p]? = some (.cells [.sl q, .sl qc, .int .i64 er] true)) (hQ : ∀ h', MrgK h' ow p qc cbs er (swp H i k) → Keeps (hp ow) h h' → h'.length = h.length → Q (.tup []) h') : AC Tryz.prog 204 [.sl q, .int .i64 ix, .int .i64 kx] h Q := ac204 (by
 unfold vc204
 refine ptr_idx A hy hkx fun p4 hc4 hp4 => ⟨_, hc4, ?_⟩
 refine ptr_idx A hx hix fun p6 hc6 hp6 => ⟨_, hc6, ?_⟩
 refine ptr_idx A hx hix fun p8 hc8 hp8 => ?_
 have hxm : (H.map (·.hb))[i]? = some x.hb := by rw [List.getElem?_map, hx]; rfl
 have hym : (H.map (·.hb))[k]? = some y.hb := by rw [List.getElem?_map, hy]; rfl
 refine AppJ.store (E := ptrE) (k := 0) (r' := y.hb) (r := x.hb) (xs := [.ptr (some ⟨y.hb, 0⟩)]) A hxm (by show 0 + 1 ≤ 1; omega) rfl (fun s hs => by rw [hp8 s hs]; simp) fun h9 A9 K9 hl9 => ?_
 have hk9 : ∃ z, ((H.map (·.hb)).set i y.hb)[k]? = some z := ⟨_, List.getElem?_eq_getElem (by simp; exact lt_of_get hy)⟩
 obtain ⟨z, hz⟩ := hk9
 have hkl := lt_of_get hy
 subst hkx
 refine AppJ.idx (E := ptrE) A9 (by omega) (by simp; omega) fun p10 b hb hc hpp => ?_
 have hz' : ((H.map (·.hb)).set i y.hb)[k]? = some b := by simpa using hb
 refine AppJ.store (E := ptrE) (k := 0) (r' := x.hb) (r := b) (xs := [.ptr (some ⟨x.hb, 0⟩)]) A9 hz' (by show 0 + 1 ≤ 1; omega) rfl (fun s hs => by rw [hpp s hs]; simp) fun h11 A11 K11 hl11 => ?_
 have K : Keeps (fun b => ow b = some .arr) h h11 := by
  intro b X hb hX
  exact K11 _ _ (fun ⟨s, h1, h2⟩ => hb (by rw [← h2]; exact hq s h1)) (K9 _ _ (fun ⟨s, h1, h2⟩ => hb (by rw [← h2]; exact hq s h1)) hX)
 refine hQ h11 ⟨fun b hb => by have := M.live b hb; omega, M.pr, ⟨q, K _ _ (by simp [M.pr]) hpq, ?_, hq⟩, fun u hu => ?_, ?_, by rw [swp_len]; exact M.many, M.curs.1.keeps K (fun s hs => by simp [M.curs.2 s hs]), M.curs.2⟩ (fun b X hb hX => K b X (fun hx => hb (.inl hx)) hX) (by omega)
 ·rw [swp_map, ← set_swp hxm hym]; exact A11
 ·have hu' : u ∈ H := (swp_perm hx hy).mem_iff.1 hu
  have := M.heads u hu'
  exact ⟨this.1, K _ _ (by simp [this.1]) this.2⟩
 ·exact ((swp_perm hx hy).map _).nodup_iff.2 M.nodup)
set_option maxRecDepth 20000 in
theorem m93 (M : MrgK h ow p qc cbs er H) {lo n : Nat} (hn : n ≤ H.length) (hlo : lo ≤ n) (hH : HeapOK H n (lo + 1))
  (hQ : ∀ b h' H', MrgK h' ow p qc cbs er H' → Keeps (hp ow) h h' → h.length ≤ h'.length → H'.Perm H → (∀ j, n ≤ j → H'[j]? = H[j]?) → HeapOK H' n lo → Q (.bool b) h') :
  AC Tryz.prog 93 [.iface 133 (.ptr (some ⟨p, 0⟩)), .int .i64 (lo : Nat), .int .i64 (n : Nat)] h Q := ac93 (by
 unfold vc93
 have hmany := M.many
 let I : Heap → Nat → Prop := fun h7 i => ∃ H1, lo ≤ i ∧ i ≤ n ∧ MrgK h7 ow p qc cbs er H1 ∧ Keeps (hp ow) h h7 ∧ h.length ≤ h7.length ∧ H1.Perm H ∧ (∀ j, n ≤ j → H1[j]? = H[j]?) ∧ DInv H1 n lo i
 refine ⟨fun xs h7 => ∃ i : Nat, xs = [.int .i64 i] ∧ I h7 i, fun xs _ => match xs with | [.int _ i] => (n - i).toNat | _ => 0, ⟨lo, rfl, H, Nat.le_refl _, hlo, M, .refl _ _, Nat.le_refl _, .refl _, fun _ _ => rfl, dinv_start hH⟩, ?_⟩
 rintro n4 h7 ⟨i, hx, H1, hi, hin, M1, K1, l1, P1, T1, D1⟩
 simp only [List.cons.injEq, AV.int.injEq, true_and, and_true] at hx
 subst hx
 have hlen1 := P1.length_eq
 have w1 : wrapK .i64 (2 * (i : Int)) = ((2 * i : Nat) : Int) := by rw [wrapK_i64 ⟨by omega, by omega⟩]; omega
 have w2 : wrapK .i64 (((2 * i : Nat) : Int) + 1) = ((2 * i + 1 : Nat) : Int) := by rw [wrapK_i64 ⟨by omega, by omega⟩]; omega
 have w3 : wrapK .i64 (((2 * i + 1 : Nat) : Int) + 1) = ((2 * i + 2 : Nat) : Int) := by rw [wrapK_i64 ⟨by omega, by omega⟩]; omega
 rw [w1, w2, w3]
 have done : ∀ b {h' : Heap}, Ext h7 h' → (∀ c x y, Kid i c → c < n → H1[i]? = some x → H1[c]? = some y → leE x.e y.e) → Q (.bool b) h' := fun b h' x' hc =>
  hQ b h' H1 (M1.grow x') (K1.trans (keeps_of_ext x')) (Nat.le_trans l1 x'.len) P1 T1 (dinv_end D1 hc)
 refine vif_mk (fun g => ?_) (fun g => ?_)
 ·replace g := of_decide_eq_true g
  exact done _ (.refl _) fun c x y hk hc => by unfold Kid at hk; omega
 replace g := of_decide_eq_false g
 refine vif_mk (fun g1 => ?_) (fun _ => ?_)
 ·replace g1 := of_decide_eq_true g1; omega
 have hxi : H1[i]? = some H1[i] := List.getElem?_eq_getElem (by omega)
 have hxa : H1[2 * i + 1]? = some H1[2 * i + 1] := List.getElem?_eq_getElem (by omega)
 generalize H1[i] = xi at *
 generalize H1[2 * i + 1] = xa at *
 have step : ∀ {h8 : Heap} {c0 : Nat} {y : HD}, Ext h7 h8 → H1[c0]? = some y → Kid i c0 → c0 < n → (∀ c z, Kid i c → c < n → H1[c]? = some z → leE y.e z.e) →
   ∃ q8, cellsAt h8 ⟨p, 0⟩ 1 = some [.sl q8] ∧ AC Tryz.prog 203 [.sl q8, .int .i64 (c0 : Nat), .int .i64 (i : Nat)] h8 fun v11 h12 => ∃ b13 : Bool, v11 = .bool b13 ∧
    vif (!b13) (Q (.bool (decide ((i : Int) > (lo : Int)))) h12)
     (∃ q14, cellsAt h12 ⟨p, 0⟩ 1 = some [.sl q14] ∧ AC Tryz.prog 204 [.sl q14, .int .i64 (i : Nat), .int .i64 (c0 : Nat)] h12 fun v14 h15 => v14 = .tup [] ∧ (True) ∧ (∃ i' : Nat, [AV.int .i64 ((c0 : Nat) : Int)] = [.int .i64 i'] ∧ I h15 i') ∧ ((n : Int) - (c0 : Nat)).toNat < ((n : Int) - (i : Nat)).toNat) := by
  intro h8 c0 y x8 hy hk hc hmin
  have M8 := M1.grow x8
  obtain ⟨qa, c1, c2, c3, c4⟩ := M8.qa
  refine ⟨qa, c1, m203 M8 c3 hy hxi rfl rfl fun h12 x12 => ⟨_, rfl, ?_⟩⟩
  refine vif_mk (fun g2 => ?_) (fun g2 => ?_)
  ·have g2 : ¬ ltE y.e xi.e := by simpa using g2
   refine done _ (x8.trans x12) fun c u v hkc hcn hu hv => ?_
   rw [hxi] at hu; cases hu
   exact leE_trans g2 (hmin c v hkc hcn hv)
  ·have g2 : ltE y.e xi.e := by simpa using g2
   have M12 := M8.grow x12
   obtain ⟨qb, d1, d2, d3, d4⟩ := M12.qa
   refine ⟨qb, d1, m204 M12 d3 d4 hxi hy rfl rfl d2 fun h15 M15 K15 l15 => ⟨rfl, trivial, ⟨c0, rfl, swp H1 i c0, by unfold Kid at hk; omega, by omega, M15, K1.trans ((keeps_of_ext (x8.trans x12)).trans K15), by have := (x8.trans x12).len; omega, (swp_perm hxi hy).trans P1, fun j hj => ?_, dinv_step D1 hi hxi hy hk hc (leE_lt g2) hmin⟩, by unfold Kid at hk; omega⟩⟩
   rw [swp_get hxi hy, if_neg (by omega), if_neg (by omega)]
   exact T1 j hj
 refine vif_mk (fun g2 => ?_) (fun g2 => ?_)
 ·replace g2 := of_decide_eq_true g2
  have hxb : H1[2 * i + 2]? = some H1[2 * i + 2] := List.getElem?_eq_getElem (by omega)
  generalize H1[2 * i + 2] = xb at *
  obtain ⟨qa, c1, c2, c3, c4⟩ := M1.qa
  refine ⟨qa, c1, m203 M1 c3 hxb hxa rfl rfl fun h9 x9 => ⟨_, rfl, ?_⟩⟩
  refine vif_mk (fun g3 => ?_) (fun g3 => ?_)
  ·have g3 : ltE xb.e xa.e := by simpa using g3
   refine step (c0 := 2 * i + 2) x9 hxb (.inr rfl) (by omega) fun c z hk hc hz => ?_
   rcases hk with rfl | rfl
   ·rw [hxa] at hz; cases hz; exact leE_lt g3
   ·rw [hxb] at hz; cases hz; exact leE_refl _
  ·have g3 : leE xa.e xb.e := by simpa using g3
   refine step (c0 := 2 * i + 1) x9 hxa (.inl rfl) (by omega) fun c z hk hc hz => ?_
   rcases hk with rfl | rfl
   ·rw [hxa] at hz; cases hz; exact leE_refl _
   ·rw [hxb] at hz; cases hz; exact g3
 ·replace g2 := of_decide_eq_false g2
  refine step (c0 := 2 * i + 1) (.refl _) hxa (.inl rfl) (by omega) fun c z hk hc hz => ?_
  rcases hk with rfl | rfl
  ·rw [hxa] at hz; cases hz; exact leE_refl _
  ·omega)
theorem m69 (M : MrgK h ow p qc cbs er H) (hQ : ∀ h' H', MrgK h' ow p qc cbs er H' → Keeps (hp ow) h h' → h.length ≤ h'.length → H'.Perm H → HeapOK H' H'.length 0 → Q (.tup []) h') : AC Tryz.prog 69 [.iface 133 (.ptr (some ⟨p, 0⟩))] h Q := ac69 (by
 unfold vc69
 have hmany := M.many
 obtain ⟨qa, c1, c2, c3, c4⟩ := M.qa
 refine ⟨qa, c1, m202 (n := H.length) (by rw [c3.hasL.len]; simp) ⟨_, rfl, ?_⟩⟩
 have w : wrapK .i64 (wrapK .i64 (((H.length : Nat) : Int).tdiv 2) - 1) = ((H.length / 2 : Nat) : Int) - 1 := by
  rw [tdiv_pos (by omega), wrapK_i64 (n := ((H.length : Nat) : Int) / 2) ⟨by omega, by omega⟩, wrapK_i64 ⟨by omega, by omega⟩]; omega
 rw [w]
 refine ⟨fun xs h8 => ∃ (i : Nat) (H1 : List HD), xs = [.int .i64 ((i : Int) - 1)] ∧ i ≤ H.length ∧ MrgK h8 ow p qc cbs er H1 ∧ Keeps (hp ow) h h8 ∧ h.length ≤ h8.length ∧ H1.Perm H ∧ HeapOK H1 H.length i, fun xs _ => match xs with | [.int _ i] => (i + 1).toNat | _ => 0, ⟨H.length / 2, H, rfl, by omega, M, .refl _ _, Nat.le_refl _, .refl _, fun j c x y hj hk hc => by unfold Kid at hk; omega⟩, ?_⟩
 rintro n5 h8 ⟨i, H1, hx, hi, M1, K1, l1, P1, O1⟩
 simp only [List.cons.injEq, AV.int.injEq, true_and, and_true] at hx
 subst hx
 have hlen1 := P1.length_eq
 refine vif_mk (fun g => ?_) (fun g => ?_)
 ·replace g := of_decide_eq_true g
  obtain ⟨k, rfl⟩ : ∃ k, i = k + 1 := ⟨i - 1, by omega⟩
  have e : ((k + 1 : Nat) : Int) - 1 = ((k : Nat) : Int) := by omega
  rw [e]
  refine m93 M1 (by omega) (by omega) O1 fun b h10 H2 M2 K2 l2 P2 T2 O2 => ⟨_, rfl, trivial, ⟨k, H2, ?_, by omega, M2, K1.trans K2, by omega, P2.trans P1, O2⟩, ?_⟩
  ·rw [wrapK_i64 ⟨by omega, by omega⟩]
  ·rw [wrapK_i64 ⟨by omega, by omega⟩]; simp only; omega
 ·replace g := of_decide_eq_false g
  have : i = 0 := by omega
  subst this
  exact hQ h8 H1 M1 K1 l1 P1 (by rw [hlen1]; exact O1))
theorem m207 {H : List HD} {x : HD} (M : MrgK h ow p qc cbs er (H ++ [x])) (hQ : ∀ v h', v.one = true → MrgK h' ow p qc cbs er H → Keeps (hp ow) h h' → h'.length = h.length → Q v h') : AC Tryz.prog 207 [.ptr (some ⟨p, 0⟩)] h Q := ac207 (by
 unfold vc207
 have hmany := M.many
 simp only [List.length_append, List.length_cons, List.length_nil] at hmany
 obtain ⟨qa, c1, c2, c3, c4⟩ := M.qa
 have hl : slLen qa = H.length + 1 := by rw [c3.hasL.len]; simp
 have w : wrapK .i64 (((slLen qa : Nat) : Int) - 1) = ((H.length : Nat) : Int) := by rw [hl, wrapK_i64 ⟨by omega, by omega⟩]; omega
 refine ⟨qa, c1, qa, c1, ?_⟩
 rw [w]
 refine ptr_idx c3 (i := H.length) (x := x) (by simp) rfl fun pp hc _ => ⟨_, hc, qa, c1, ?_⟩
 refine AppJ.cut (E := ptrE) c3 (by simp) fun q10 A10 hq10 => ?_
 have e : ((H ++ [x]).map (·.hb)).take H.length = H.map (·.hb) := by
  rw [List.map_append, List.take_left' (by simp)]
 rw [e] at A10
 have hst : PStore h ⟨p, 0⟩ [.sl q10] fun h12 => Q (.iface 158 (.ptr (some ⟨x.hb, 0⟩))) h12 := by
  refine store6 (o := 0) c2 (by simp) ?_
  have hpl := M.live p (by simp [M.pr])
  have K : Keeps (fun b => b = p) h (h.set p (.cells (splice [.sl qa, .sl qc, .int .i64 er] 0 [.sl q10]) true)) := keeps_set rfl
  have hpne : ∀ b r, ow b = some r → r ≠ .mrg → ¬ b = p := fun b r hr hn he => by subst he; rw [M.pr] at hr; exact hn (Option.some.inj hr).symm
  have hq10' : ∀ s, q10 = some s → ow s.b = some .arr := fun s hs => by obtain ⟨s2, h1, h2⟩ := hq10 s hs; rw [← h2]; exact c4 s2 h1
  refine hQ _ _ rfl ⟨fun b hb => by rw [List.length_set]; exact M.live b hb, M.pr, ⟨q10, ?_, A10.keeps K (fun s hs => hpne _ _ (hq10' s hs) (by simp)), hq10'⟩, fun u hu => ?_, ?_, by omega, M.curs.1.keeps K (fun s hs => hpne _ _ (M.curs.2 s hs) (by simp)), M.curs.2⟩ (fun b X hb hX => K b X (fun he => hb (.inr (by rw [he]; exact M.pr))) hX) (by simp)
  ·rw [List.getElem?_set_self hpl]; rfl
  ·have := M.heads u (by simp [hu])
   exact ⟨this.1, K _ _ (hpne _ _ this.1 (by simp)) this.2⟩
  ·have := M.nodup
   rw [List.map_append, List.nodup_append] at this
   exact this.1
 exact hst)
theorem m94 (M : MrgK h ow p qc cbs er (x :: H)) (hO : HeapOK (x :: H) (x :: H).length 1) (hQ : ∀ v h' H', v.one = true → MrgK h' ow p qc cbs er H' → Keeps (hp ow) h h' → h.length ≤ h'.length → H'.Perm H → HeapOK H' H'.length 0 → Q v h') : AC Tryz.prog 94 [.iface 133 (.ptr (some ⟨p, 0⟩))] h Q := ac94 (by
 unfold vc94
 have hmany := M.many
 simp only [List.length_cons] at hmany
 obtain ⟨qa, c1, c2, c3, c4⟩ := M.qa
 refine ⟨qa, c1, m202 (n := H.length + 1) (by rw [c3.hasL.len]; simp) ⟨_, rfl, qa, c1, ?_⟩⟩
 have w : wrapK .i64 (((H.length + 1 : Nat) : Int) - 1) = ((H.length : Nat) : Int) := by rw [wrapK_i64 ⟨by omega, by omega⟩]; omega
 rw [w]
 have hx0 : (x :: H)[0]? = some x := rfl
 have hy : (x :: H)[H.length]? = some (x :: H)[H.length] := List.getElem?_eq_getElem (by simp)
 generalize (x :: H)[H.length] = y at *
 refine m204 M c3 c4 hx0 hy rfl rfl c2 fun h7 M7 K7 l7 => ⟨rfl, ?_⟩
 have hP := swp_perm hx0 hy
 refine m93 (lo := 0) (n := H.length) M7 (by rw [swp_len]; simp) (by omega) (fun j c u v hj hk hc hu hv => ?_) fun b h10 H2 M2 K2 l2 P2 T2 O2 => ⟨_, rfl, ?_⟩
 ·rw [swp_get hx0 hy] at hu hv
  have hk' := hk
  unfold Kid at hk'
  have : j < H.length := by omega
  rw [if_neg (by omega), if_neg (by omega)] at hu hv
  exact hO j c u v hj hk (by simp; omega) hu hv
 ·have hl2 : H2.length = H.length + 1 := by rw [P2.length_eq, swp_len]; simp
  have hlast : H2[H.length]? = some x := by
   rw [T2 H.length (Nat.le_refl _), swp_get hx0 hy, if_pos rfl]
  have e : H2 = H2.take H.length ++ [x] := by
   have h1 : H2.drop H.length = [x] := by
    rw [List.drop_eq_getElem_cons (by omega)]
    have h2 : H2[H.length] = x := by rw [List.getElem?_eq_getElem (by omega)] at hlast; exact Option.some.inj hlast
    rw [h2, List.drop_eq_nil_of_le (by omega)]
   conv => lhs; rw [← List.take_append_drop H.length H2, h1]
  have hl3 : (H2.take H.length).length = H.length := by rw [List.length_take]; omega
  have P3 : (H2.take H.length).Perm H := by
   have h1 : (H2.take H.length ++ [x]).Perm (x :: H) := by rw [← e]; exact P2.trans hP
   exact List.Perm.cons_inv (a := x) ((List.perm_append_comm (l₁ := [x]) (l₂ := H2.take H.length)).trans h1)
  rw [e] at M2
  refine m207 M2 fun v h13 hv1 M3 K3 l3 => ⟨v, hv1, rfl, ?_⟩
  refine hQ v h13 _ hv1 M3 (K7.trans (K2.trans K3)) (by omega) P3 ?_
  rw [hl3]
  intro j c u v hj hk hc hu hv
  have hk' := hk
  unfold Kid at hk'
  rw [List.getElem?_take_of_lt (by omega)] at hu hv
  exact O2 j c u v hj hk hc hu hv)
theorem m117 (hQ : Q (.tup []) h) : AC Tryz.prog 117 [.iface 133 (.ptr (some ⟨p, 0⟩)), .int .i64 0] h Q := ac117 (by
 unfold vc117
 refine ⟨fun xs h6 => h6 = h ∧ xs = [.int .i64 0], fun _ _ => 0, ⟨rfl, rfl⟩, ?_⟩
 rintro n3 h6 ⟨rfl, hx⟩
 simp only [List.cons.injEq, AV.int.injEq, true_and, and_true] at hx
 subst hx
 exact vif_mk (fun _ => hQ) (fun g => absurd g (by decide)))
theorem m95 (M : MrgK h ow p qc cbs er H) (hO : HeapOK H H.length 1) (hQ : ∀ h' H', MrgK h' ow p qc cbs er H' → Keeps (hp ow) h h' → h.length ≤ h'.length → H'.Perm H → HeapOK H' H'.length 0 → Q (.tup []) h') : AC Tryz.prog 95 [.iface 133 (.ptr (some ⟨p, 0⟩)), .int .i64 0] h Q := ac95 (by
 unfold vc95
 obtain ⟨qa, c1, c2, c3, c4⟩ := M.qa
 refine ⟨qa, c1, m202 (n := H.length) (by rw [c3.hasL.len]; simp) ⟨_, rfl, ?_⟩⟩
 refine m93 (lo := 0) M (Nat.le_refl _) (by omega) hO fun b h7 H2 M2 K2 l2 P2 T2 O2 => ⟨_, rfl, ?_⟩
 have fin := hQ h7 H2 M2 K2 l2 P2 (by rw [P2.length_eq]; exact O2)
 exact vif_mk (fun _ => m117 ⟨rfl, fin⟩) (fun _ => fin))
end
section
abbrev zeroE : Ent := (0, 0, 0, 0)
def CurR (cs : List Cu) (x : HD) : Prop := ∃ c ∈ cs, c.cb = x.lb ∧ c.R = x.e :: x.rr ∧ c.E = x.E
structure HdOk (x : HD) : Prop where
  srt : SortedL (x.e :: x.r)
  pre : ∃ t, x.r = x.rr ++ t
  all : x.E = 0 → x.rr = x.r
  lst : x.k = false → x.E = 0
structure Bes (z : Nat → Prop) (ow : Roles) (hW : Heap) (p fb mb : Nat) (cs : List Cu) : Prop where
  zo : ∀ b, ow b ≠ none → z b ∧ hW.length ≤ b
  co : ∀ c ∈ cs, ow c.cb = none
section
variable {h h' hW : Heap} {ow ow' : Roles} {p pp fb mb n N N' : Nat} {qc : Option SL} {cbs : List Nat} {er : Int} {H H' : List HD} {x y : HD} {Q : AV → Heap → Prop} {q : Option SL} {z : Nat → Prop} {fl : Bs → Nat → Int × List Ent} {cs : List Cu} {P : PS}
theorem m206 {lb : Nat} {ql : Option SL} {l : List Ent} (hb : h[lb]? = some (.cells [.sl ql] true)) (Hl : HasL entE h ql l) (h0 : l = [] → Q (.tup [entV zeroE, .bool false]) h) (h1 : ∀ e r, l = e :: r → Q (.tup [entV e, .bool true]) h) :
    AC Tryz.prog 206 [.ptr (some ⟨lb, 0⟩)] h Q := ac206 (by
  unfold vc206
  have c : cellsAt h ⟨lb, 0 + 0⟩ 1 = some [.sl ql] := by rw [cells6 hb (by simp)]; rfl
  have hl := Hl.len
  refine ⟨ql, c, vif_mk (fun g => ?_) (fun g => ?_)⟩
  · have g : l.length = 0 := by have : ((slLen ql : Nat) : Int) = 0 := by simpa using g
                                omega
    exact h0 (List.eq_nil_of_length_eq_zero g)
  · cases l with
    | nil => simp [hl] at g
    | cons e r =>
      refine ⟨ql, c, idx4 Hl (i := 0) (x := e) rfl rfl fun pp hc => ⟨_, _, _, _, hc, h1 e r rfl⟩⟩)
theorem m205 {lb : Nat} {ql : Option SL} {e : Ent} {r : List Ent} (hb : h[lb]? = some (.cells [.sl ql] true)) (Hl : HasL entE h ql (e :: r))
    (hQ : ∀ q6, HasL entE h q6 r → (∀ s', q6 = some s' → ∃ s, ql = some s ∧ s'.b = s.b) → Q (.int .i64 0) (h.set lb (.cells [.sl q6] true))) : AC Tryz.prog 205 [.ptr (some ⟨lb, 0⟩)] h Q := ac205 (by
  unfold vc205
  have c : cellsAt h ⟨lb, 0 + 0⟩ 1 = some [.sl ql] := by rw [cells6 hb (by simp)]; rfl
  have hl := Hl.len
  refine ⟨ql, c, vif_mk (fun g => by simp [hl] at g; omega) (fun _ => ?_)⟩
  refine ⟨ql, c, HasL.slice2 (E := entE) Hl (by omega) (by simp; omega) (by simp) fun q6 H6 hq6 => ?_⟩
  have e1 : ((e :: r).take ((Option.getD none (((e :: r).length : Nat) : Int))).toNat).drop (1 : Int).toNat = r := by
    simp only [Option.getD_none, Int.toNat_natCast, List.take_length]; rfl
  rw [e1] at H6
  exact store6v hb (by simp) (hQ q6 H6 hq6))
structure MrgR (h : Heap) (ow : Roles) (p : Nat) (qc : Option SL) (cbs : List Nat) (er : Int) (H : List HD) (cs : List Cu) : Prop where
  K : MrgK h ow p qc cbs er H
  L : ∀ x ∈ H, x.k = false → LstR h ow x
  C : ∀ x ∈ H, x.k = true → CurR cs x
  ok : ∀ x ∈ H, HdOk x
  lnd : (H.map (·.lb)).Nodup
theorem MrgR.grow (M : MrgR h ow p qc cbs er H cs) (e : Ext h h') : MrgR h' ow p qc cbs er H cs := ⟨M.K.grow e, fun x hx hk => (M.L x hx hk).keeps (X := fun _ => False) (keeps_of_ext e) (fun _ _ h => h), M.C, M.ok, M.lnd⟩
theorem m64 (M : MrgR h ow p qc cbs er H cs) (h0 : H = [] ∨ er ≠ 0 → Q (.tup [entV zeroE, .bool false]) h) (h1 : ∀ x H1, H = x :: H1 → er = 0 → Q (.tup [entV x.e, .bool true]) h) : AC Tryz.prog 64 [.ptr (some ⟨p, 0⟩)] h Q := ac64 (by
  unfold vc64
  obtain ⟨qa, c1, c2, c3, c4⟩ := M.K.qa
  have cq : cellsAt h ⟨p, 0 + 0⟩ 1 = some [.sl qa] := by rw [cells6 c2 (by simp)]; rfl
  have ce : cellsAt h ⟨p, 0 + 2⟩ 1 = some [.int .i64 er] := by rw [cells6 c2 (by simp)]; rfl
  have hl := c3.hasL.len
  simp only [List.length_map] at hl
  refine vif_mk (fun g => by simp at g) (fun _ => ⟨er, ce, vif_mk (fun g => h0 (.inr (by simpa using g))) (fun ge => ⟨qa, cq, vif_mk (fun g => ?_) (fun g => ?_)⟩)⟩)
  · have g : H.length = 0 := by have : ((slLen qa : Nat) : Int) = 0 := by simpa using g
                                omega
    exact h0 (.inl (List.eq_nil_of_length_eq_zero g))
  · cases H with
    | nil => simp [hl] at g
    | cons x H1 =>
      refine ⟨qa, cq, ptr_idx c3 (i := 0) (x := x) rfl rfl fun pp hc _ => ⟨_, hc, _, _, _, _, M.K.key (by simp), h1 x H1 rfl (by simpa using ge)⟩⟩)
theorem meth_next : methodOf Tryz.prog 129 "Next" = some 205 := by kernel_rfl
theorem meth_peek : methodOf Tryz.prog 129 "Peek" = some 206 := by kernel_rfl
theorem meth_nextC : methodOf Tryz.prog 39 "Next" = some 16 := by kernel_rfl
theorem meth_peekC : methodOf Tryz.prog 39 "Peek" = some 14 := by kernel_rfl
theorem inv_peek {lb : Nat} (hk : AC Tryz.prog 206 [.ptr (some ⟨lb, 0⟩)] h Q) : vInvoke Tryz.prog (AC Tryz.prog) (srcV false lb) "Peek" [] h Q := by
  show vInvoke Tryz.prog (AC Tryz.prog) (.iface 129 (.ptr (some ⟨lb, 0⟩))) "Peek" [] h Q
  unfold vInvoke; simp only [meth_peek]; exact hk
theorem inv_peekC {lb : Nat} (hk : AC Tryz.prog 14 [.ptr (some ⟨lb, 0⟩)] h Q) : vInvoke Tryz.prog (AC Tryz.prog) (srcV true lb) "Peek" [] h Q := by
  show vInvoke Tryz.prog (AC Tryz.prog) (.iface 39 (.ptr (some ⟨lb, 0⟩))) "Peek" [] h Q
  unfold vInvoke; simp only [meth_peekC]; exact hk
theorem inv_nextF {lb : Nat} (hk : AC Tryz.prog 205 [.ptr (some ⟨lb, 0⟩)] h Q) : vCallF Tryz.prog (AC Tryz.prog) (.func (.method "Next") [srcV false lb] []) [] h Q := by
  show vCallF Tryz.prog (AC Tryz.prog) (.func (.method "Next") [.iface 129 (.ptr (some ⟨lb, 0⟩))] []) [] h Q
  simp only [vCallF, vInvoke, meth_next]; exact hk
theorem inv_nextC {lb : Nat} (hk : AC Tryz.prog 16 [.ptr (some ⟨lb, 0⟩)] h Q) : vCallF Tryz.prog (AC Tryz.prog) (.func (.method "Next") [srcV true lb] []) [] h Q := by
  show vCallF Tryz.prog (AC Tryz.prog) (.func (.method "Next") [.iface 39 (.ptr (some ⟨lb, 0⟩))] []) [] h Q
  simp only [vCallF, vInvoke, meth_nextC]; exact hk
attribute [local irreducible] vInvoke vCallF
theorem MrgR.of_heap (M : MrgK h' ow p qc cbs er H') (Pm : H'.Perm H) (L : ∀ x ∈ H, x.k = false → LstR h ow x) (C : ∀ x ∈ H, x.k = true → CurR cs x) (ok : ∀ x ∈ H, HdOk x) (nd : (H.map (·.lb)).Nodup) (K : Keeps (hp ow) h h') : MrgR h' ow p qc cbs er H' cs := by
  refine ⟨M, fun x hx hk => (L x (Pm.mem_iff.1 hx) hk).keeps K (fun b hb hx => ?_), fun x hx => C x (Pm.mem_iff.1 hx), fun x hx => ok x (Pm.mem_iff.1 hx), (Pm.map _).nodup_iff.2 nd⟩
  rcases hb with hb | hb <;> rcases hx with hx | hx <;> rw [hb] at hx <;> cases hx
theorem hp_dsk {b : Nat} (h : hp ow b) : dsk ow b := by
  show ow b ≠ none
  rcases h with h | h <;> rw [h] <;> simp
theorem Bes.keeps (B : Bes z ow hW pp fb mb cs) (A : CA z hW h pp fb mb n fl cs P N) (K : Keeps (dsk ow) h h') (hl : h.length ≤ h'.length) : CA z hW h' pp fb mb n fl cs P N :=
  A.step K (fun b hb => (B.zo b hb).1) (fun b hb => (B.zo b hb).2) hl (fun _ h => h) (fun _ h => .inl h) (fun c hc hx => hx (B.co c hc))
theorem adv_tail {h1 : Heap} {x' : HD} (M : MrgK h1 ow p qc cbs er (x :: H)) (L : ∀ u ∈ H, u.k = false → LstR h1 ow u) (C : ∀ u ∈ H, u.k = true → CurR cs u) (ok : ∀ u ∈ H, HdOk u) (nd : ((x :: H).map (·.lb)).Nodup) (hO : HeapOK (x :: H) (x :: H).length 0)
    (hgone : ∀ h2 H', MrgR h2 ow p qc cbs er H' cs → H'.Perm H → HeapOK H' H'.length 0 → Keeps (hp ow) h1 h2 → h1.length ≤ h2.length → Q (.tup []) h2) :
    vPtr (some (⟨p, 0⟩ : PA)) fun p22 => AC Tryz.prog 94 [.iface 133 (.ptr (some ⟨p22.b, p22.o + 0⟩))] h1 fun v23 h24 => ∃ v25 : AV, v25.one = true ∧ v23 = v25 ∧ Q (.tup []) h24 := by
  have ob : HeapOK (x :: H) (x :: H).length 1 := by
    intro j c u v hj hk hc hu hv
    exact hO j c u v (by omega) hk hc hu hv
  have nd2 : (H.map (·.lb)).Nodup := by
    rw [List.map_cons, List.nodup_cons] at nd; exact nd.2
  show AC Tryz.prog 94 _ _ _
  refine m94 M ob fun v h24 H2 hv M2 K2 len2 P2 O2 => ⟨v, hv, rfl, ?_⟩
  exact hgone h24 H2 (MrgR.of_heap M2 P2 L C ok nd2 K2) P2 O2 K2 len2
theorem adv_next {h1 : Heap} {e : Ent} {x' : HD} (M : MrgK h1 ow p qc cbs er (x :: H)) (hx' : x'.hb = x.hb ∧ x'.lb = x.lb ∧ x'.k = x.k ∧ x'.e = e) (L : ∀ u ∈ H, u.k = false → LstR h1 ow u) (Lx : x'.k = false → ∀ h2, Keeps (fun b => b = x.hb) h1 h2 → LstR h2 ow x') (C : ∀ u ∈ x' :: H, u.k = true → CurR cs u) (ok : ∀ u ∈ x' :: H, HdOk u) (nd : ((x :: H).map (·.lb)).Nodup) (hO : HeapOK (x :: H) (x :: H).length 0)
    (hgo : ∀ h2 H', MrgR h2 ow p qc cbs er H' cs → H'.Perm (x' :: H) → HeapOK H' H'.length 0 → Keeps (dsk ow) h1 h2 → h1.length ≤ h2.length → Q (.tup []) h2) :
    vPtr (some (⟨x.hb, 0⟩ : PA)) fun p26 => PStore h1 ⟨p26.b, p26.o + 0⟩ [.int .i64 e.1, .int .i64 e.2.1, .int .i64 e.2.2.1, .int .i64 e.2.2.2] fun h27 => vPtr (some (⟨p, 0⟩ : PA)) fun p28 => AC Tryz.prog 95 [.iface 133 (.ptr (some ⟨p28.b, p28.o + 0⟩)), .int .i64 0] h27 fun v29 h30 => v29 = .tup [] ∧ Q (.tup []) h30 := by
  obtain ⟨hr, hcx1⟩ := M.heads x (by simp)
  have hhl := M.live x.hb (by simp [hr])
  have ob : HeapOK (x' :: H) (x' :: H).length 1 := by
    intro j c u v hj hk hc hu hv
    obtain ⟨j, rfl⟩ : ∃ k, j = k + 1 := ⟨j - 1, by omega⟩
    obtain ⟨c, rfl⟩ : ∃ k, c = k + 1 := ⟨c - 1, by unfold Kid at hk; omega⟩
    exact hO (j + 1) (c + 1) u v (by omega) hk hc (by simpa using hu) (by simpa using hv)
  have hst : PStore h1 ⟨x.hb, 0 + 0⟩ [.int .i64 e.1, .int .i64 e.2.1, .int .i64 e.2.2.1, .int .i64 e.2.2.2] fun h27 => vPtr (some (⟨p, 0⟩ : PA)) fun p28 => AC Tryz.prog 95 [.iface 133 (.ptr (some ⟨p28.b, p28.o + 0⟩)), .int .i64 0] h27 fun v29 h30 => v29 = .tup [] ∧ Q (.tup []) h30 := by
   refine store6 hcx1 (by simp) ?_
   rw [show splice [AV.int .i64 x.e.1, .int .i64 x.e.2.1, .int .i64 x.e.2.2.1, .int .i64 x.e.2.2.2, srcV x.k x.lb, .func (.method "Next") [srcV x.k x.lb] []] 0 [.int .i64 e.1, .int .i64 e.2.1, .int .i64 e.2.2.1, .int .i64 e.2.2.2] = [.int .i64 e.1, .int .i64 e.2.1, .int .i64 e.2.2.1, .int .i64 e.2.2.2, srcV x.k x.lb, .func (.method "Next") [srcV x.k x.lb] []] from rfl]
   generalize hh2 : h1.set x.hb (headB e x.k x.lb) = h2
   have K2 : Keeps (fun b => b = x.hb) h1 h2 := by rw [← hh2]; exact keeps_set rfl
   have len2 : h2.length = h1.length := by rw [← hh2]; simp
   have hb2 : h2[x.hb]? = some (headB e x.k x.lb) := by rw [← hh2]; exact List.getElem?_set_self hhl
   have hhp : x.hb ≠ p := fun e => by rw [e, M.pr] at hr; cases hr
   have ne : ∀ b r, ow b = some r → r ≠ .head → ¬ b = x.hb := fun b r hb hn he => by rw [he, hr] at hb; exact hn (Option.some.inj hb).symm
   have hnd := M.nodup
   simp only [List.map_cons, List.nodup_cons, List.mem_map, not_exists, not_and] at hnd
   obtain ⟨y1, y2, y3, y4⟩ := hx'
   have M2 : MrgK h2 ow p qc cbs er (x' :: H) := by
     obtain ⟨a1, a2, ⟨qa', a3, a4, a5⟩, a6, a7, a8, a9, a10⟩ := M
     refine ⟨fun b hb => by have := a1 b hb; omega, a2, ⟨qa', K2 _ _ (fun e => hhp e.symm) a3, ?_, a5⟩, fun u hu => ?_, by rw [List.map_cons, y1]; exact a7, a8, a9.keeps K2 (fun s hs => ne _ _ (a10 s hs) (by simp)), a10⟩
     · rw [List.map_cons, y1]
       exact a4.keeps K2 (fun s hs => ne _ _ (a5 s hs) (by simp))
     · rcases List.mem_cons.1 hu with rfl | hu
       · rw [y1, y2, y3, y4]; exact ⟨hr, hb2⟩
       · exact ⟨(a6 u (by simp [hu])).1, K2 _ _ (fun e => hnd.1 u hu e) (a6 u (by simp [hu])).2⟩
   have L2 : ∀ u ∈ x' :: H, u.k = false → LstR h2 ow u := by
     intro u hu hk
     rcases List.mem_cons.1 hu with rfl | hu
     · exact Lx hk h2 K2
     · exact (L u hu hk).keeps K2 (fun b hb e => by subst e; rcases hb with hb | hb <;> rw [hr] at hb <;> cases hb)
   show AC Tryz.prog 95 _ _ _
   refine m95 M2 ob fun h30 H3 M3 K3 len3 P3 O3 => ⟨rfl, ?_⟩
   refine hgo h30 H3 (MrgR.of_heap M3 P3 L2 C ok (by rw [List.map_cons, y2]; exact nd) K3) P3 O3 (fun b B hb hB => K3 b B (fun hx => hb (hp_dsk hx)) (K2 b B (fun e => hb (by rw [e]; show ow x.hb ≠ none; rw [hr]; simp)) hB)) (by omega)
  exact hst
end
end
section
def turns (ow : Roles) (pp fb mb : Nat) (cs : List Cu) : Nat → Prop := fun b => ow b ≠ none ∨ pbl pp fb mb b ∨ ∃ c ∈ cs, c.cb = b
def Cov (H : List HD) (cs : List Cu) : Prop := ∀ c ∈ cs, c.R ≠ [] → ∃ x ∈ H, x.k = true ∧ x.lb = c.cb
theorem Cov.perm {H H' : List HD} {cs : List Cu} (C : Cov H cs) (h : H'.Perm H) : Cov H' cs := fun c hc hR => let ⟨x, hx, r⟩ := C c hc hR; ⟨x, h.mem_iff.2 hx, r⟩
section
variable {h h' hW : Heap} {ow ow' : Roles} {p pp fb mb n N N' : Nat} {qc : Option SL} {cbs : List Nat} {er : Int} {H H' : List HD} {x y : HD} {Q : AV → Heap → Prop} {q : Option SL} {z : Nat → Prop} {fl : Bs → Nat → Int × List Ent} {cs : List Cu} {P : PS}
attribute [local irreducible] vInvoke vCallF
abbrev codeOf (x : HD) : Int := if x.rr = [] then x.E else 0
theorem HdOk.next {e : Ent} {rr' : List Ent} (o : HdOk x) (hr : x.rr = e :: rr') : ∃ r', x.r = e :: r' ∧ HdOk ⟨x.hb, x.lb, x.k, e, r', rr', x.E⟩ := by
 obtain ⟨t, ht⟩ := o.pre
 rw [hr, List.cons_append] at ht
 refine ⟨rr' ++ t, ht, ⟨?_, ⟨t, rfl⟩, fun h0 => ?_, o.lst⟩⟩
 ·have := o.srt
  rw [ht] at this
  exact this.of_cons
 ·have := o.all h0
  rw [hr, ht] at this
  exact (List.cons.inj this).2
theorem store_er {K : Heap → Prop} {er' : Int} (M : MrgK h ow p qc cbs er H) (hK : ∀ h', MrgK h' ow p qc cbs er' H → Keeps (fun b => b = p) h h' → h'.length = h.length → K h') : vPtr (some (⟨p, 0⟩ : PA)) fun p11 => PStore h ⟨p11.b, p11.o + 2⟩ [.int .i64 er'] K := by
 show PStore h ⟨p, 0 + 2⟩ [.int .i64 er'] K
 obtain ⟨qa, c1, c2, c3, c4⟩ := M.qa
 refine store6v c2 (by simp) ?_
 have e2 : splice [AV.sl qa, .sl qc, .int .i64 er] (0 + 2) [.int .i64 er'] = [.sl qa, .sl qc, .int .i64 er'] := rfl
 rw [e2]
 have hpl := M.live p (by simp [M.pr])
 have K2 : Keeps (fun b => b = p) h (h.set p (.cells [.sl qa, .sl qc, .int .i64 er'] true)) := keeps_set rfl
 have ne : ∀ b r, ow b = some r → r ≠ .mrg → ¬ b = p := fun b r hb hn he => by rw [he, M.pr] at hb; exact hn (Option.some.inj hb).symm
 obtain ⟨a1, a2, _, a6, a7, a8, a9, a10⟩ := M
 exact hK _ ⟨fun b hb => by rw [List.length_set]; exact a1 b hb, a2, ⟨qa, List.getElem?_set_self hpl, c3.keeps K2 (fun s hs => ne _ _ (c4 s hs) (by simp)), c4⟩, fun u hu => ⟨(a6 u hu).1, K2 _ _ (ne _ _ (a6 u hu).1 (by simp)) (a6 u hu).2⟩, a7, a8, a9.keeps K2 (fun s hs => ne _ _ (a10 s hs) (by simp)), a10⟩ K2 List.length_set
set_option maxRecDepth 20000 in
set_option maxHeartbeats 1000000 in
theorem m71 (A : CA z hW h pp fb mb n fl cs P N) (B : Bes z ow hW pp fb mb cs) (pn : ∀ b, pbl pp fb mb b → ow b = none) (M : MrgR h ow p qc cbs er (x :: H) cs) (hO : HeapOK (x :: H) (x :: H).length 0) (hN : N ≤ 1000000)
  (hQ : ∀ h' H' cs' P' N', CA z hW h' pp fb mb n fl cs' P' N' → N' ≤ N + 1 → Bes z ow hW pp fb mb cs' → (∀ c' ∈ cs', ∃ c ∈ cs, c'.cb = c.cb ∧ c'.E = c.E ∧ (c'.R = [] → c.R = [] ∨ codeOf x = c'.E)) → (∀ b, b ∈ cs.map (·.cb) ↔ b ∈ cs'.map (·.cb)) → MrgR h' ow p qc cbs (codeOf x) H' cs' → HeapOK H' H'.length 0 → (Cov (x :: H) cs → Cov H' cs') → (x.rr = [] → H'.Perm H) → (x.rr ≠ [] → (allOf H').Perm (x.r ++ allOf H)) → H'.length ≤ H.length + 1 → Keeps (turns ow pp fb mb cs) h h' → h.length ≤ h'.length → Q (.tup []) h') : AC Tryz.prog 71 [.ptr (some ⟨p, 0⟩)] h Q := ac71 (by
 unfold vc71
 obtain ⟨qa, c1, c2, c3, c4⟩ := M.K.qa
 have cq : cellsAt h ⟨p, 0 + 0⟩ 1 = some [.sl qa] := by rw [cells6 c2 (by simp)]; rfl
 obtain ⟨hr, hcx⟩ := M.K.heads x (by simp)
 have okx := M.ok x (by simp)
 have okH : ∀ u ∈ H, HdOk u := fun u hu => M.ok u (by simp [hu])
 have hlnd := M.lnd
 have hlnd' := M.lnd
 simp only [List.map_cons, List.nodup_cons, List.mem_map, not_exists, not_and] at hlnd
 refine ⟨qa, cq, ptr_idx c3 (i := 0) (x := x) rfl rfl fun pp' hc _ => ⟨_, hc, ?_⟩⟩
 refine ⟨.func (.method "Next") [srcV x.k x.lb] [], rfl, by rw [cells6 hcx (by simp)]; rfl, ?_⟩
 have hpl := M.K.live p (by simp [M.K.pr])
 have hhl := M.K.live x.hb (by simp [hr])
 cases hk : x.k with
 | false =>
  obtain ⟨lr, ⟨ql, l1, l2, l3⟩, srt⟩ := M.L x (by simp) hk
  have hE0 := okx.lst hk
  have hrr := okx.all hE0
  have hcode : codeOf x = 0 := by unfold codeOf; rw [hE0, ite_self]
  rw [hcode] at hQ
  refine inv_nextF (m205 l1 l2 fun q6 H6 hq6 => ⟨_, rfl, ?_⟩)
  have hll := M.K.live x.lb (by simp [lr])
  have hlp : x.lb ≠ p := fun e => by rw [e, M.K.pr] at lr; cases lr
  have hlh : x.lb ≠ x.hb := fun e => by rw [e, hr] at lr; cases lr
  generalize hh1 : h.set x.lb (.cells [.sl q6] true) = h1 at *
  have K1 : Keeps (fun b => b = x.lb) h h1 := by rw [← hh1]; exact keeps_set rfl
  have len1 : h1.length = h.length := by rw [← hh1]; simp
  have ne : ∀ b r, ow b = some r → r ≠ .lst → ¬ b = x.lb := fun b r hb hn he => by rw [he, lr] at hb; exact hn (Option.some.inj hb).symm
  have M1 : MrgK h1 ow p qc cbs er (x :: H) := by
   obtain ⟨a1, a2, ⟨qa', a3, a4, a5⟩, a6, a7, a8, a9, a10⟩ := M.K
   exact ⟨fun b hb => by have := a1 b hb; omega, a2, ⟨qa', K1 _ _ (fun e => hlp e.symm) a3, a4.keeps K1 (fun s hs => ne _ _ (a5 s hs) (by simp)), a5⟩, fun u hu => ⟨(a6 u hu).1, K1 _ _ (ne _ _ (a6 u hu).1 (by simp)) (a6 u hu).2⟩, a7, a8, a9.keeps K1 (fun s hs => ne _ _ (a10 s hs) (by simp)), a10⟩
  refine store_er (er' := 0) M1 fun h2 M2 K2 len2 => ?_
  have pne : ∀ b r, ow b = some r → r ≠ .mrg → ¬ b = p := fun b r hb hn he => by rw [he, M.K.pr] at hb; exact hn (Option.some.inj hb).symm
  refine ⟨srcV x.k x.lb, rfl, by rw [cells6 (M2.heads x (by simp)).2 (by simp)]; rfl, ?_⟩
  rw [hk]
  have hb2 : h2[x.lb]? = some (.cells [.sl q6] true) := K2 _ _ (fun e => hlp e) (by rw [← hh1, List.getElem?_set_self hll])
  have hqn : ∀ s, q6 = some s → ow s.b = some .dat := fun s hs => by obtain ⟨s2, g1, g2⟩ := hq6 s hs; rw [g2]; exact l3 s2 g1
  have H62 : HasL entE h2 q6 x.r := K2.hasL (fun s hs => pne _ _ (hqn s hs) (by simp)) (K1.hasL (fun s hs => ne _ _ (hqn s hs) (by simp)) H6)
  have L2 : ∀ u ∈ H, u.k = false → LstR h2 ow u := by
   intro u hu hku
   obtain ⟨r', ⟨qu, u1, u2, u3⟩, us⟩ := M.L u (by simp [hu]) hku
   exact ⟨r', ⟨qu, K2 _ _ (pne _ _ r' (by simp)) (K1 _ _ (fun e => hlnd.1 u hu e) u1), K2.hasL (fun s hs => pne _ _ (u3 s hs) (by simp)) (K1.hasL (fun s hs => ne _ _ (u3 s hs) (by simp)) u2), u3⟩, us⟩
  have C2 : ∀ u ∈ H, u.k = true → CurR cs u := fun u hu => M.C u (by simp [hu])
  have kd : ∀ {h3 : Heap}, Keeps (dsk ow) h2 h3 → Keeps (dsk ow) h h3 := fun K b X hb hX => K b X hb (K2 b X (fun e => hb (by rw [e]; show ow p ≠ none; rw [M.K.pr]; simp)) (K1 b X (fun e => hb (by rw [e]; show ow x.lb ≠ none; rw [lr]; simp)) hX))
  have tw : ∀ {h3 : Heap}, Keeps (dsk ow) h h3 → Keeps (turns ow pp fb mb cs) h h3 := fun K b X hb hX => K b X (fun hx => hb (.inl hx)) hX
  refine inv_peek (m206 hb2 H62 (fun hn => ⟨_, _, _, _, _, rfl, ?_⟩) fun e r hr2 => ⟨_, _, _, _, _, rfl, ?_⟩)
  ·refine vif_mk (fun _ => ?_) (fun g => by simp at g)
   refine adv_tail (x' := x) (cs := cs) M2 L2 C2 okH hlnd' hO fun h3 H3 M3 P3 O3 K3 l3 => ?_
   have K03 := kd (fun b X hb hX => K3 b X (fun hx => hb (hp_dsk hx)) hX)
   have hrn : x.rr = [] := by rw [hrr]; exact hn
   exact hQ h3 H3 cs P N (B.keeps A K03 (by omega)) (by omega) B (fun c hc => ⟨c, hc, rfl, rfl, fun h => .inl h⟩) (fun _ => Iff.rfl) M3 O3 (fun cv => Cov.perm (fun c hc hR => by
    obtain ⟨u, hu, k1, k2⟩ := cv c hc hR
    rcases List.mem_cons.1 hu with rfl | hu
    ·rw [hk] at k1; cases k1
    ·exact ⟨u, hu, k1, k2⟩) P3) (fun _ => P3) (fun hne => absurd hrn hne) (by rw [P3.length_eq]; omega) (tw K03) (by omega)
  ·refine vif_mk (fun g => by simp at g) (fun _ => ?_)
   have hrr2 : x.rr = e :: r := by rw [hrr]; exact hr2
   obtain ⟨r', hr', ok'⟩ := okx.next hrr2
   have hrr' : r' = r := by rw [hr2] at hr'; exact (List.cons.inj hr').2.symm
   subst hrr'
   refine adv_next (x := x) (cs := cs) (x' := ⟨x.hb, x.lb, x.k, e, r', r', x.E⟩) M2 ⟨rfl, rfl, rfl, rfl⟩ L2 (fun _ h4 K4 => ?_) (fun u hu hku => ?_) (fun u hu => ?_) hlnd' hO fun h3 H3 M3 P3 O3 K3 l3 => ?_
   ·have hne : ∀ b rl, ow b = some rl → rl ≠ .head → ¬ b = x.hb := fun b rl hb hn he => by rw [he, hr] at hb; exact hn (Option.some.inj hb).symm
    exact ⟨lr, ⟨q6, K4 _ _ (fun e => hlh e) hb2, K4.hasL (fun s hs => hne _ _ (hqn s hs) (by simp)) (by rw [← hr2]; exact H62), hqn⟩, ok'.srt⟩
   ·rcases List.mem_cons.1 hu with rfl | hu
    ·simp only [hk] at hku; cases hku
    ·exact C2 u hu hku
   ·rcases List.mem_cons.1 hu with rfl | hu
    ·exact ok'
    ·exact okH u hu
   ·have K03 := kd K3
    refine hQ h3 H3 cs P N (B.keeps A K03 (by omega)) (by omega) B (fun c hc => ⟨c, hc, rfl, rfl, fun h => .inl h⟩) (fun _ => Iff.rfl) M3 O3 (fun cv => Cov.perm (fun c hc hR => by
     obtain ⟨u, hu, k1, k2⟩ := cv c hc hR
     rcases List.mem_cons.1 hu with rfl | hu
     ·exact ⟨_, List.mem_cons_self, k1, k2⟩
     ·exact ⟨u, List.mem_cons_of_mem _ hu, k1, k2⟩) P3) (fun hn => absurd hn (by rw [hrr2]; simp)) (fun _ => ?_) (by rw [P3.length_eq]; simp) (tw K03) (by omega)
    rw [hr2]
    have := allOf_perm P3
    rw [allOf_cons] at this
    exact this
 | true =>
  obtain ⟨c, hc, hcb, hcR, hcE⟩ := M.C x (by simp) hk
  obtain ⟨a, b, rfl⟩ := List.append_of_mem hc
  have oc := B.co c (by simp)
  have cne : ∀ u, u ∈ a ∨ u ∈ b → u.cb ≠ c.cb := fun u hu => by
   have hnd := A.nd
   rw [List.map_append, List.map_cons, List.nodup_append] at hnd
   obtain ⟨n1, n2, n3⟩ := hnd
   rw [List.nodup_cons] at n2
   rcases hu with hu | hu
   ·exact fun he => n3 _ (List.mem_map_of_mem hu) _ (by simp) he
   ·exact fun he => n2.1 (by rw [← he]; exact List.mem_map_of_mem hu)
  have C2 : ∀ (pg : Option Nat) (R' : List Ent), ∀ u ∈ H, u.k = true → CurR (a ++ ⟨c.cb, c.d, R', c.E, pg⟩ :: b) u := fun pg R' u hu hku => by
   obtain ⟨cu, hcu, e1, e2, e3⟩ := M.C u (by simp [hu]) hku
   have hne : cu ≠ c := fun he => by
    subst he
    exact hlnd.1 u hu (by rw [← e1, hcb])
   refine ⟨cu, ?_, e1, e2, e3⟩
   rcases List.mem_append.1 hcu with hm | hm
   ·simp [hm]
   ·rcases List.mem_cons.1 hm with hm | hm
    ·exact absurd hm hne
    ·simp [hm]
  rw [← hcb]
  refine inv_nextC (A.next hN hcR fun h1 P1 N1 pg A1 hN1 K1 l1 => ⟨_, rfl, ?_⟩)
  have nk : ∀ b r, ow b = some r → ¬ (pbl pp fb mb b ∨ b = c.cb) := fun b r hb hx => by
   rcases hx with hx | hx
   ·rw [pn b hx] at hb; cases hb
   ·rw [hx, oc] at hb; cases hb
  have M1 : MrgK h1 ow p qc cbs er (x :: H) := M.K.ext (fun b B hb hB => K1 b B (fun hx => by
   have hb : ¬ ow b = none := hb
   cases ho : ow b with
   | none => exact hb ho
   | some r => exact nk b r ho hx) hB) l1
  have hcode : (if x.rr = [] then c.E else 0) = codeOf x := by unfold codeOf; rw [hcE]
  rw [hcode]
  refine store_er (er' := codeOf x) M1 fun h2 M2 K2 len2 => ?_
  have pne : ∀ b r, ow b = some r → r ≠ .mrg → ¬ b = p := fun b r hb hn he => by rw [he, M.K.pr] at hb; exact hn (Option.some.inj hb).symm
  have B1 : Bes z ow hW pp fb mb (a ++ ⟨c.cb, c.d, x.rr, c.E, pg⟩ :: b) := ⟨B.zo, fun u hu => by
   rcases List.mem_append.1 hu with hu | hu
   ·exact B.co u (by simp [hu])
   ·rcases List.mem_cons.1 hu with rfl | hu
    ·exact oc
    ·exact B.co u (by simp [hu])⟩
  have Kp : Keeps (dsk ow) h1 h2 := fun b X hb hX => K2 b X (fun e => hb (by rw [e]; show ow p ≠ none; rw [M.K.pr]; simp)) hX
  have A2 := B1.keeps A1 Kp (by omega)
  have L2 : ∀ u ∈ H, u.k = false → LstR h2 ow u := by
   intro u hu hku
   obtain ⟨r', ⟨qu, u1, u2, u3⟩, us⟩ := M.L u (by simp [hu]) hku
   exact ⟨r', ⟨qu, K2 _ _ (pne _ _ r' (by simp)) (K1 _ _ (nk _ _ r') u1), K2.hasL (fun s hs => pne _ _ (u3 s hs) (by simp)) (K1.hasL (fun s hs => nk _ _ (u3 s hs)) u2), u3⟩, us⟩
  refine ⟨srcV x.k x.lb, rfl, by rw [cells6 (M2.heads x (by simp)).2 (by simp)]; rfl, ?_⟩
  rw [hk]
  have hcbs : ∀ v, v ∈ (a ++ c :: b).map (·.cb) ↔ v ∈ (a ++ (⟨c.cb, c.d, x.rr, c.E, pg⟩ : Cu) :: b).map (·.cb) := fun v => by simp
  have hback : ∀ c' ∈ a ++ (⟨c.cb, c.d, x.rr, c.E, pg⟩ : Cu) :: b, ∃ c0 ∈ a ++ c :: b, c'.cb = c0.cb ∧ c'.E = c0.E ∧ (c'.R = [] → c0.R = [] ∨ codeOf x = c'.E) := fun c' hc' => by
   rcases List.mem_append.1 hc' with hm | hm
   ·exact ⟨c', by simp [hm], rfl, rfl, fun h => .inl h⟩
   ·rcases List.mem_cons.1 hm with rfl | hm
    ·refine ⟨c, by simp, rfl, rfl, fun h => .inr ?_⟩
     have h : x.rr = [] := h
     unfold codeOf
     rw [if_pos h, hcE]
    ·exact ⟨c', by simp [hm], rfl, rfl, fun h => .inl h⟩
  have tw : ∀ {h3 : Heap}, Keeps (dsk ow) h2 h3 → Keeps (turns ow pp fb mb (a ++ c :: b)) h h3 := fun K v X hb hX => K v X (fun hx => hb (.inl hx)) (Kp v X (fun hx => hb (.inl hx)) (K1 v X (fun hx => by
   rcases hx with hx | hx
   ·exact hb (.inr (.inl hx))
   ·exact hb (.inr (.inr ⟨c, by simp, hx.symm⟩))) hX))
  show vInvoke Tryz.prog (AC Tryz.prog) (srcV true x.lb) "Peek" [] h2 _
  rw [← hcb]
  refine inv_peekC (A2.peek (c := ⟨c.cb, c.d, x.rr, c.E, pg⟩) (fun hn => ⟨_, _, _, _, _, rfl, ?_⟩) fun e r hr2 => ⟨_, _, _, _, _, rfl, ?_⟩)
  ·have hn : x.rr = [] := hn
   refine vif_mk (fun _ => ?_) (fun g => by simp at g)
   refine adv_tail (x' := x) (cs := a ++ ⟨c.cb, c.d, x.rr, c.E, pg⟩ :: b) M2 L2 (C2 pg x.rr) okH hlnd' hO fun h3 H3 M3 P3 O3 K3 l3 => ?_
   have K03 : Keeps (dsk ow) h2 h3 := fun b X hb hX => K3 b X (fun hx => hb (hp_dsk hx)) hX
   exact hQ h3 H3 _ P1 N1 (B1.keeps A2 K03 (by omega)) hN1 B1 hback hcbs M3 O3 (fun cv => Cov.perm (fun c' hc' hR => by
    have key : ∀ c0 ∈ a ++ c :: b, c0.R ≠ [] → c0.cb ≠ c.cb → ∃ u ∈ H, u.k = true ∧ u.lb = c0.cb := fun c0 h0 hR0 hne => by
     obtain ⟨u, hu, k1, k2⟩ := cv c0 h0 hR0
     rcases List.mem_cons.1 hu with rfl | hu
     ·exact absurd (by rw [← k2, ← hcb]) hne
     ·exact ⟨u, hu, k1, k2⟩
    rcases List.mem_append.1 hc' with hm | hm
    ·exact key c' (by simp [hm]) hR (cne c' (.inl hm))
    ·rcases List.mem_cons.1 hm with rfl | hm
     ·exact absurd hn hR
     ·exact key c' (by simp [hm]) hR (cne c' (.inr hm))) P3) (fun _ => P3) (fun hne => absurd hn hne) (by rw [P3.length_eq]; omega) (tw K03) (by omega)
  ·have hr2 : x.rr = e :: r := hr2
   refine vif_mk (fun g => by simp at g) (fun _ => ?_)
   obtain ⟨r', hr', ok'⟩ := okx.next hr2
   refine adv_next (x := x) (cs := a ++ ⟨c.cb, c.d, x.rr, c.E, pg⟩ :: b) (x' := ⟨x.hb, x.lb, x.k, e, r', r, x.E⟩) M2 ⟨rfl, rfl, rfl, rfl⟩ L2 (fun hf => by simp only [hk] at hf; cases hf) (fun u hu hku => ?_) (fun u hu => ?_) hlnd' hO fun h3 H3 M3 P3 O3 K3 l3 => ?_
   ·rcases List.mem_cons.1 hu with rfl | hu
    ·exact ⟨⟨c.cb, c.d, x.rr, c.E, pg⟩, by simp, hcb, hr2, hcE⟩
    ·exact C2 pg x.rr u hu hku
   ·rcases List.mem_cons.1 hu with rfl | hu
    ·exact ok'
    ·exact okH u hu
   ·refine hQ h3 H3 _ P1 N1 (B1.keeps A2 K3 (by omega)) hN1 B1 hback hcbs M3 O3 (fun cv => Cov.perm (fun c' hc' hR => by
     have key : ∀ c0 ∈ a ++ c :: b, c0.R ≠ [] → ∃ u ∈ (⟨x.hb, x.lb, x.k, e, r', r, x.E⟩ : HD) :: H, u.k = true ∧ u.lb = c0.cb := fun c0 h0 hR0 => by
      obtain ⟨u, hu, k1, k2⟩ := cv c0 h0 hR0
      rcases List.mem_cons.1 hu with rfl | hu
      ·exact ⟨_, List.mem_cons_self, k1, k2⟩
      ·exact ⟨u, List.mem_cons_of_mem _ hu, k1, k2⟩
     rcases List.mem_append.1 hc' with hm | hm
     ·exact key c' (by simp [hm]) hR
     ·rcases List.mem_cons.1 hm with rfl | hm
      ·exact key c (by simp) (by rw [hcR]; simp)
      ·exact key c' (by simp [hm]) hR) P3) (fun hn => absurd hn (by rw [hr2]; simp)) (fun _ => ?_) (by rw [P3.length_eq]; simp) (tw K3) (by omega)
    rw [hr']
    have := allOf_perm P3
    rw [allOf_cons] at this
    exact this)
end
end
section
variable {h h' hW : Heap} {ow ow' : Roles} {p pp fb mb n N N' : Nat} {qc : Option SL} {cbs : List Nat} {er : Int} {H H' : List HD} {x y : HD} {Q : AV → Heap → Prop} {q : Option SL} {z : Nat → Prop} {fl : Bs → Nat → Int × List Ent} {cs : List Cu} {P : PS}
theorem MrgK.own (M : MrgK h ow p qc cbs er H) (hk : ∀ b r, ow b = some r → ow' b = some r) (hl : ∀ b, ow' b ≠ none → b < h.length) : MrgK h ow' p qc cbs er H := by
  obtain ⟨a1, a2, ⟨qa, a3, a4, a5⟩, a6, a7, a8, a9, a10⟩ := M
  exact ⟨hl, hk _ _ a2, ⟨qa, a3, a4, fun s hs => hk _ _ (a5 s hs)⟩, fun u hu => ⟨hk _ _ (a6 u hu).1, (a6 u hu).2⟩, a7, a8, a9, fun s hs => hk _ _ (a10 s hs)⟩
theorem LstR.own (L : LstR h ow x) (hk : ∀ b r, ow b = some r → ow' b = some r) : LstR h ow' x := by
  obtain ⟨l1, ⟨ql, l2, l3, l4⟩, l5⟩ := L
  exact ⟨hk _ _ l1, ⟨ql, l2, l3, fun s hs => hk _ _ (l4 s hs)⟩, l5⟩
theorem MrgR.own (M : MrgR h ow p qc cbs er H cs) (hk : ∀ b r, ow b = some r → ow' b = some r) (hl : ∀ b, ow' b ≠ none → b < h.length) : MrgR h ow' p qc cbs er H cs :=
  ⟨M.K.own hk hl, fun u hu hk' => (M.L u hu hk').own hk, M.C, M.ok, M.lnd⟩
def setB (ow : Roles) (n : Nat) (r : ZRole) : Roles := fun b => if b = n then some r else ow b
theorem setB_self {n : Nat} {r : ZRole} : setB ow n r n = some r := by simp [setB]
theorem setB_keep {n : Nat} {r : ZRole} (hl : ∀ b, ow b ≠ none → b < n) : ∀ b r', ow b = some r' → setB ow n r b = some r' := by
  intro b r' hb
  unfold setB
  split
  · rename_i he; subst he; have := hl b (by simp [hb]); omega
  · exact hb
theorem setB_some {n : Nat} {r : ZRole} {b : Nat} (hb : setB ow n r b ≠ none) : b = n ∨ ow b ≠ none := by
  unfold setB at hb
  split at hb
  · exact .inl ‹_›
  · exact .inr hb
structure MW (h : Heap) (ow : Roles) (p : Nat) (qc : Option SL) (cbs : List Nat) (er : Int) (H : List HD) (cs : List Cu) (z : Nat → Prop) (hW : Heap) (pp fb mb n : Nat) (fl : Bs → Nat → Int × List Ent) (P : PS) (N : Nat) : Prop where
  M : MrgR h ow p qc cbs er H cs
  A : CA z hW h pp fb mb n fl cs P N
  B : Bes z ow hW pp fb mb cs
  pn : ∀ b, pbl pp fb mb b → ow b = none
theorem MW.grow (S : MW h ow p qc cbs er H cs z hW pp fb mb n fl P N) (x : Ext h h') : MW h' ow p qc cbs er H cs z hW pp fb mb n fl P N := ⟨S.M.grow x, S.A.grow x, S.B, S.pn⟩
theorem MW.go {qc' : Option SL} {cbs' : List Nat} {er' : Int} (S : MW h ow p qc cbs er H cs z hW pp fb mb n fl P N) (M' : MrgR h' ow' p qc' cbs' er' H' cs) (D : DStep ow h ow' h') : ∃ z', MW h' ow' p qc' cbs' er' H' cs z' hW pp fb mb n fl P N := by
  have hxl := S.A.C.xl
  have zl := S.A.C.zl
  have live := M'.K.live
  refine ⟨fun b => z b ∨ ow' b ≠ none, M', ?_, ⟨fun b hb => ⟨.inr hb, ?_⟩, fun c hc => ?_⟩, fun b hb => ?_⟩
  · refine S.A.step D.keeps (fun b hb => (S.B.zo b hb).1) (fun b hb => (S.B.zo b hb).2) D.len (fun b hb => .inl hb) (fun b hb => ?_) (fun c hc hx => hx (S.B.co c hc))
    rcases hb with hb | hb
    · exact .inl hb
    · rcases D.own b hb with h1 | h1
      · exact .inl (S.B.zo b h1).1
      · exact .inr ⟨h1, live b hb⟩
  · rcases D.own b hb with h1 | h1
    · exact (S.B.zo b h1).2
    · omega
  · cases ho : ow' c.cb with
    | none => rfl
    | some r =>
      rcases D.own c.cb (by rw [ho]; simp) with h1 | h1
      · exact absurd (S.B.co c hc) h1
      · have := zl _ (S.A.one c hc).1; omega
  · cases ho : ow' b with
    | none => rfl
    | some r =>
      rcases D.own b (by rw [ho]; simp) with h1 | h1
      · exact absurd (S.pn b hb) h1
      · have := S.A.C.pool_lt hb; omega
set_option maxRecDepth 20000 in
theorem add_tail {lb : Nat} {k : Bool} {e : Ent} {r rr : List Ent} {E : Int} (M : MrgR h ow p qc cbs er H cs) (hL : k = false → LstR h ow ⟨h.length, lb, k, e, r, rr, E⟩) (hC : k = true → CurR cs ⟨h.length, lb, k, e, r, rr, E⟩) (ok : HdOk ⟨h.length, lb, k, e, r, rr, E⟩)
    (hn : ∀ x ∈ H, x.lb ≠ lb) (hmany : H.length < 100000)
    (h1 : ∀ h' ow', MrgR h' ow' p qc cbs er (H ++ [⟨h.length, lb, k, e, r, rr, E⟩]) cs → DStep ow h ow' h' → Q (.tup []) h') :
    vPtr (some (⟨p, 0⟩ : PA)) fun p10 => ∃ q11 : Option SL, cellsAt h ⟨p10.b, p10.o + 0⟩ 1 = some [.sl q11] ∧
     PNew [.int .i64 e.1, .int .i64 e.2.1, .int .i64 e.2.2.1, .int .i64 e.2.2.2, srcV k lb, .func (.method "Next") [srcV k lb] []] true h fun a12 h13 =>
     (∃ q21 : Option SL, cellsAt h13 ⟨p10.b, p10.o + 0⟩ 1 = some [.sl q21] ∧ LV.val (.sl q21) = LV.val (.sl q11)) ∧
     PNew [.ptr (some ⟨a12, 0⟩)] true h13 fun a14 h15 =>
     (∃ q20 : Option SL, cellsAt h15 ⟨p10.b, p10.o + 0⟩ 1 = some [.sl q20] ∧ LV.val (.sl q20) = LV.val (.sl q11)) ∧
     PAppendS 1 8 q11 (some ⟨a14, 0, 1, 1, 0⟩) h15 fun q16 h17 =>
     vPtr (some (⟨p, 0⟩ : PA)) fun p18 => PStore h17 ⟨p18.b, p18.o + 0⟩ [.sl q16] fun h19 => Q (.tup []) h19 := by
  obtain ⟨qa, c1, c2, c3, c4⟩ := M.K.qa
  have cq : cellsAt h ⟨p, 0 + 0⟩ 1 = some [.sl qa] := by rw [cells6 c2 (by simp)]; rfl
  refine ⟨qa, cq, ?_⟩
  unfold PNew
  have x13 : Ext h (h ++ [headB e k lb]) := .app _ _
  have h13e : (h ++ [headB e k lb])[h.length]? = some (headB e k lb) := by simp
  have l13 : (h ++ [headB e k lb]).length = h.length + 1 := by simp
  generalize (h ++ [headB e k lb]) = h13 at *
  refine ⟨⟨qa, x13.cells cq, rfl⟩, ?_⟩
  have x15 : Ext h13 (h13 ++ [Blk.cells [.ptr (some ⟨h.length, 0⟩)] true]) := .app _ _
  have Hn : HasL ptrE (h13 ++ [.cells [.ptr (some ⟨h.length, 0⟩)] true]) (some ⟨h13.length, 0, 1, 1, 0⟩) [h.length] := HasL.new (n := 1) rfl rfl
  have l15 : (h13 ++ [Blk.cells [AV.ptr (some ⟨h.length, 0⟩)] true]).length = h.length + 2 := by simp [l13]
  generalize h13 ++ [Blk.cells [AV.ptr (some ⟨h.length, 0⟩)] true] = h15 at *
  have e15 := x13.trans x15
  refine ⟨⟨qa, e15.cells cq, rfl⟩, ?_⟩
  have hmk := M.K.many
  refine AppJ.append (E := ptrE) (c3.ext e15) Hn (by simp; omega) fun q16 h17 A17 K17 l17 hq16 => ?_
  have hpl := M.K.live p (by simp [M.K.pr])
  have hb17 := K17 p _ (fun ⟨s, a1, a2⟩ => by have := c4 s a1; rw [a2, M.K.pr] at this; cases this) (e15 _ _ c2)
  refine store6v hb17 (by simp) ?_
  have es : splice [AV.sl qa, .sl qc, .int .i64 er] 0 [.sl q16] = [.sl q16, .sl qc, .int .i64 er] := rfl
  rw [es]
  have l19 : (h17.set p (.cells [.sl q16, .sl qc, .int .i64 er] true)).length = h17.length := by simp
  have b19 : (h17.set p (.cells [.sl q16, .sl qc, .int .i64 er] true))[p]? = some (.cells [.sl q16, .sl qc, .int .i64 er] true) := List.getElem?_set_self (by omega)
  have K19 : Keeps (fun b => b = p) h17 (h17.set p (.cells [.sl q16, .sl qc, .int .i64 er] true)) := keeps_set rfl
  generalize h17.set p (.cells [.sl q16, .sl qc, .int .i64 er] true) = h19 at *
  have hcond : ∀ s, q16 = some s → h.length + 1 ≤ s.b ∨ ow s.b = some .arr := fun s hs => by
    rcases hq16 s hs with a | ⟨s2, a1, a2⟩
    · exact .inl (by omega)
    · exact .inr (by rw [← a2]; exact c4 s2 a1)
  have keep1 := setB_keep (ow := ow) (n := h.length) (r := .head) M.K.live
  have lv1 : ∀ b, setB ow h.length .head b ≠ none → b < h.length + 1 := fun b hb => by
    rcases setB_some hb with rfl | hb
    · omega
    · have := M.K.live b hb; omega
  have hcond1 : ∀ s, q16 = some s → h.length + 1 ≤ s.b ∨ setB ow h.length .head s.b = some .arr := fun s hs => (hcond s hs).imp id (keep1 _ _)
  have keep2 := setOw_keep (q := q16) (r := .arr) lv1 hcond1
  have keep : ∀ b r', ow b = some r' → setOw (setB ow h.length .head) q16 .arr b = some r' := fun b r' hb => keep2 _ _ (keep1 _ _ hb)
  have hsome : ∀ b, setOw (setB ow h.length .head) q16 .arr b ≠ none → ow b ≠ none ∨ h.length ≤ b ∧ b < h19.length := fun b hb => by
    rcases setOw_some hcond1 b hb with hb | ⟨hb, s, hs, hb2⟩
    · rcases setB_some hb with rfl | hb
      · exact .inr ⟨Nat.le_refl _, by omega⟩
      · exact .inl hb
    · refine .inr ⟨by omega, ?_⟩
      have := A17.live s hs
      omega
  have K : Keeps (fun b => ow b = some .arr ∨ b = p) h h19 := by
    intro b B hb hB
    refine K19 b B (fun e => hb (.inr e)) (K17 b B (fun ⟨s, a1, a2⟩ => hb (.inl (by rw [← a2]; exact c4 s a1))) (e15 b B hB))
  have hX : ∀ b r, ow b = some r → r ≠ .arr → r ≠ .mrg → ¬ (ow b = some .arr ∨ b = p) := by
    intro b r hr n1 n2 hx
    rcases hx with hx | hx
    · rw [hr] at hx; exact n1 (Option.some.inj hx)
    · subst hx; rw [M.K.pr] at hr; exact n2 (Option.some.inj hr).symm
  have hh19 : h19[h.length]? = some (headB e k lb) := by
    refine K19 _ _ (by omega) (K17 _ _ (fun ⟨s, a1, a2⟩ => ?_) (x15 _ _ h13e))
    have := M.K.live s.b (by rw [c4 s a1]; simp)
    omega
  have lk : ∀ {u : HD}, LstR h ow u → LstR h19 (setOw (setB ow h.length .head) q16 .arr) u := fun {u} L => by
    obtain ⟨a1, ⟨qu, a2, a3, a4⟩, a5⟩ := L
    exact ⟨keep _ _ a1, ⟨qu, K _ _ (hX _ _ a1 (by simp) (by simp)) a2, K.hasL (fun s hs => hX _ _ (a4 s hs) (by simp) (by simp)) a3, fun s hs => keep _ _ (a4 s hs)⟩, a5⟩
  refine h1 h19 (setOw (setB ow h.length .head) q16 .arr) ⟨⟨fun b hb => ?_, keep _ _ M.K.pr, ⟨q16, b19, ?_, fun s hs => setOw_self s hs⟩, fun u hu => ?_, ?_, by simp; omega, M.K.curs.1.keeps K (fun s hs => hX _ _ (M.K.curs.2 s hs) (by simp) (by simp)), fun s hs => keep _ _ (M.K.curs.2 s hs)⟩, fun u hu hk => ?_, fun u hu hk => ?_, fun u hu => ?_, ?_⟩ ⟨fun b B hb hB => K b B (fun hx => hb ?_) hB, by omega, fun b hb => (hsome b hb).imp id And.left⟩
  · rcases hsome b hb with hb | hb
    · have := M.K.live b hb; omega
    · exact hb.2
  · rw [List.map_append]
    refine A17.keeps K19 fun s hs e => ?_
    have := setOw_self (ow := setB ow h.length .head) (q := q16) (r := .arr) s hs
    rw [e, keep _ _ M.K.pr] at this
    cases this
  · rcases List.mem_append.1 hu with hu | hu
    · have := M.K.heads u hu
      exact ⟨keep _ _ this.1, K _ _ (hX _ _ this.1 (by simp) (by simp)) this.2⟩
    · simp only [List.mem_singleton] at hu
      subst hu
      exact ⟨keep2 _ _ setB_self, hh19⟩
  · rw [List.map_append, List.nodup_append]
    refine ⟨M.K.nodup, by simp, fun a ha b hb e => ?_⟩
    simp only [List.map_cons, List.map_nil, List.mem_singleton] at hb
    obtain ⟨u, hu, rfl⟩ := List.mem_map.1 ha
    have := M.K.live u.hb (by rw [(M.K.heads u hu).1]; simp)
    omega
  · rcases List.mem_append.1 hu with hu | hu
    · exact lk (M.L u hu hk)
    · simp only [List.mem_singleton] at hu
      subst hu
      exact lk (hL hk)
  · rcases List.mem_append.1 hu with hu | hu
    · exact M.C u hu hk
    · simp only [List.mem_singleton] at hu
      subst hu
      exact hC hk
  · rcases List.mem_append.1 hu with hu | hu
    · exact M.ok u hu
    · simp only [List.mem_singleton] at hu
      subst hu
      exact ok
  · rw [List.map_append, List.nodup_append]
    refine ⟨M.lnd, by simp, fun a ha b hb e => ?_⟩
    simp only [List.map_cons, List.map_nil, List.mem_singleton] at hb
    obtain ⟨u, hu, rfl⟩ := List.mem_map.1 ha
    exact hn u hu (by rw [e, hb])
  · show ow b ≠ none
    rcases hx with hx | hx
    · rw [hx]; simp
    · rw [hx, M.K.pr]; simp
theorem m68 {lb : Nat} {ql : Option SL} {l : List Ent} (M : MrgR h ow p qc cbs er H cs) (hb : h[lb]? = some (.cells [.sl ql] true)) (Hl : HasL entE h ql l) (hs : SortedL l) (ho : ow lb = some .lst) (hd : ∀ s, ql = some s → ow s.b = some .dat)
    (hn : ∀ x ∈ H, x.lb ≠ lb) (hmany : H.length < 100000)
    (h0 : l = [] → Q (.tup []) h)
    (h1 : ∀ e r h' ow', l = e :: r → MrgR h' ow' p qc cbs er (H ++ [⟨h.length, lb, false, e, r, r, 0⟩]) cs → DStep ow h ow' h' → Q (.tup []) h') : AC Tryz.prog 68 [.ptr (some ⟨p, 0⟩), .iface 129 (.ptr (some ⟨lb, 0⟩))] h Q := ac68 (by
  unfold vc68
  refine m206 hb Hl (fun hn => ⟨_, _, _, _, _, rfl, ?_⟩) fun e r hr2 => ⟨_, _, _, _, _, rfl, ?_⟩
  · exact vif_mk (fun g => by simp at g) (fun _ => h0 hn)
  refine vif_mk (fun _ => ?_) (fun g => by simp at g)
  exact add_tail (k := false) (lb := lb) (e := e) (r := r) (rr := r) (E := 0) M (fun _ => ⟨ho, ⟨ql, hb, by rw [← hr2]; exact Hl, hd⟩, by rw [← hr2]; exact hs⟩) (fun hk => by cases hk) ⟨by rw [← hr2]; exact hs, ⟨[], by simp⟩, fun _ => rfl, fun _ => rfl⟩ hn hmany fun h' ow' M' D => h1 e r h' ow' hr2 M' D)
theorem m68c {c : Cu} {t : List Ent} (A : CA z hW h pp fb mb n fl cs P N) (hc : c ∈ cs) (M : MrgR h ow p qc cbs er H cs) (hs : SortedL (c.R ++ t)) (ht : c.E = 0 → t = [])
    (hn : ∀ x ∈ H, x.lb ≠ c.cb) (hmany : H.length < 100000)
    (h0 : c.R = [] → Q (.tup []) h)
    (h1 : ∀ e r h' ow', c.R = e :: r → MrgR h' ow' p qc cbs er (H ++ [⟨h.length, c.cb, true, e, r ++ t, r, c.E⟩]) cs → DStep ow h ow' h' → Q (.tup []) h') : AC Tryz.prog 68 [.ptr (some ⟨p, 0⟩), .iface 39 (.ptr (some ⟨c.cb, 0⟩))] h Q := ac68c (by
  unfold vc68c
  obtain ⟨a, b, rfl⟩ := List.append_of_mem hc
  refine A.peek (fun hn => ⟨_, _, _, _, _, rfl, ?_⟩) fun e r hr2 => ⟨_, _, _, _, _, rfl, ?_⟩
  · exact vif_mk (fun g => by simp at g) (fun _ => h0 hn)
  refine vif_mk (fun _ => ?_) (fun g => by simp at g)
  rw [hr2, List.cons_append] at hs
  exact add_tail (k := true) (lb := c.cb) (e := e) (r := r ++ t) (rr := r) (E := c.E) M (fun hk => by cases hk) (fun _ => ⟨c, hc, rfl, hr2, rfl⟩) ⟨hs, ⟨t, rfl⟩, fun h0 => by rw [ht h0, List.append_nil], fun hk => by cases hk⟩ hn hmany fun h' ow' M' D => h1 e r h' ow' hr2 M' D)
end
def InLL (h : Heap) (q : Option SL) (ls : List (List Ent)) : Prop :=
 ∃ qs : List (Option SL), HasL slE h q qs ∧ qs.length = ls.length ∧ ∀ (i : Nat) (s : Option SL) (l : List Ent), qs[i]? = some s → ls[i]? = some l → HasL entE h s l
theorem InLL.mono {h h' : Heap} {q : Option SL} {ls : List (List Ent)} (I : InLL h q ls) (x : Ext h h') : InLL h' q ls := by
 obtain ⟨qs, H, hl, hq⟩ := I
 exact ⟨qs, H.mono x, hl, fun i s l h1 h2 => (hq i s l h1 h2).mono x⟩
theorem InLL.len {h : Heap} {q : Option SL} {ls : List (List Ent)} (I : InLL h q ls) : slLen q = ls.length := by
 obtain ⟨qs, H, hl, hq⟩ := I
 rw [H.len, hl]
theorem InLL.idx {h : Heap} {q : Option SL} {ls : List (List Ent)} (I : InLL h q ls) {i : Nat} (hi : i < ls.length) {K : PA → Prop} (hK : ∀ p s l, ls[i]? = some l → cellsAt h p 1 = some [.sl s] → HasL entE h s l → K p) : vIdx q (i : Int) 1 K := by
 obtain ⟨qs, H, hl, hq⟩ := I
 refine HasL.idx (E := slE) H (by omega) (by omega) fun pp s hs hc => ?_
 have hs : qs[i]? = some s := by simpa using hs
 have hl2 : ls[i]? = some ls[i] := List.getElem?_eq_getElem hi
 exact hK pp s _ hl2 hc (hq i s _ hs hl2)
def mayC (ls : List (List Ent)) : Int := if ls.length > 64 then 31 else if ls.all (fun l => decide (SortedL l)) then 0 else 1
def Fits (ls : List (List Ent)) : Prop := (∀ l ∈ ls.take 70, l.length ≤ 500) ∧ ((ls.take 70).map List.length).sum ≤ 1000
section
variable {h h' : Heap} {Q : AV → Heap → Prop} {q : Option SL} {ls : List (List Ent)}
theorem m26 (I : InLL h q ls) (hQ : ∀ b, (b = false → Fits ls) → Q (.bool b) h) : AC Tryz.prog 26 [.sl q] h Q := ac26 (by
 unfold vc26
 have hlen := I.len
 refine ⟨fun xs h6 => h6 = h ∧ ∃ i : Nat, xs = [.int .i64 (((ls.take i).map List.length).sum : Nat), .int .i64 i] ∧ i ≤ ls.length ∧ i ≤ 70 ∧ (∀ l ∈ ls.take i, l.length ≤ 500) ∧ ((ls.take i).map List.length).sum ≤ i * 500, fun xs _ => match xs with | [_, .int _ i] => (ls.length - i).toNat | _ => 0, ⟨rfl, 0, by simp, by omega, by omega, by simp, by simp⟩, ?_⟩
 rintro n2 n3 h6 ⟨rfl, i, hx, hi, hi7, hle, hsum⟩
 simp only [List.cons.injEq, AV.int.injEq, true_and, and_true] at hx
 obtain ⟨rfl, rfl⟩ := hx
 have fin : (ls.length ≤ i ∨ 70 ≤ i) → Q (.bool (decide ((((ls.take i).map List.length).sum : Nat) > (1000 : Int)))) h6 := fun hd => hQ _ fun hb => by
  have hb := of_decide_eq_false hb
  have e : ls.take 70 = ls.take i := by
   rcases hd with hd | hd
   ·rw [List.take_of_length_le hd, List.take_of_length_le (by omega)]
   ·have : i = 70 := by omega
    rw [this]
  unfold Fits
  rw [e]
  exact ⟨hle, by omega⟩
 refine vif_mk (fun g => ?_) (fun g => fin (.inl (by have := of_decide_eq_false g; omega)))
 replace g := of_decide_eq_true g
 refine vif_mk (fun g1 => ?_) (fun g1 => fin (.inr (by have := of_decide_eq_false g1; omega)))
 replace g1 := of_decide_eq_true g1
 refine I.idx (by omega) fun pp s l hl hc H => ⟨s, hc, ?_⟩
 rw [H.len]
 refine vif_mk (fun g2 => hQ _ (by simp)) (fun g2 => ?_)
 replace g2 := of_decide_eq_false g2
 refine I.idx (by omega) fun pp s l2 hl2 hc H2 => ⟨s, hc, ?_⟩
 rw [hl] at hl2; cases hl2
 rw [H2.len]
 have e : ls.take (i + 1) = ls.take i ++ [l] := by rw [List.take_add_one, hl]; rfl
 have e2 : ((ls.take (i + 1)).map List.length).sum = ((ls.take i).map List.length).sum + l.length := by rw [e]; simp
 have e3 : ((((ls.take i).map List.length).sum : Nat) : Int) + (l.length : Nat) = (((ls.take (i + 1)).map List.length).sum : Nat) := by omega
 rw [e3, wrapK_i64 ⟨by omega, by omega⟩, wrapK_i64 ⟨by omega, by omega⟩]
 refine ⟨trivial, ⟨rfl, i + 1, by simp, by omega, by omega, ?_, by omega⟩, by simp only; omega⟩
 intro x hx
 rw [e] at hx
 rcases List.mem_append.1 hx with hx | hx
 ·exact hle x hx
 ·simp at hx; subst hx; omega)
theorem fits_all (F : Fits ls) (h : ls.length ≤ 64) : (∀ l ∈ ls, l.length ≤ 500) ∧ (ls.map List.length).sum ≤ 1000 := by
 unfold Fits at F; rwa [List.take_of_length_le (by omega)] at F
theorem m27 (I : InLL h q ls) (F : Fits ls) (hQ : Q (.int .i64 (mayC ls)) h) : AC Tryz.prog 27 [.sl q] h Q := ac27 (by
 unfold vc27
 have hlen := I.len
 unfold mayC at hQ
 refine vif_mk (fun g => ?_) (fun g => ?_)
 ·replace g := of_decide_eq_true g
  rw [if_pos (by omega)] at hQ; exact hQ
 replace g := of_decide_eq_false g
 rw [if_neg (by omega)] at hQ
 have F2 := (fits_all F (by omega)).1
 refine ⟨fun xs h5 => h5 = h ∧ ∃ i : Nat, xs = [.int .i64 i] ∧ i ≤ ls.length ∧ ∀ l ∈ ls.take i, SortedL l, fun xs _ => match xs with | [.int _ i] => (ls.length - i).toNat | _ => 0, ⟨rfl, 0, rfl, by omega, by simp⟩, ?_⟩
 rintro n2 h5 ⟨rfl, i, hx, hi, hs⟩
 simp only [List.cons.injEq, AV.int.injEq, true_and, and_true] at hx
 subst hx
 refine vif_mk (fun g1 => ?_) (fun g1 => ?_)
 ·replace g1 := of_decide_eq_true g1
  refine I.idx (by omega) fun pp s l hl hc H => ⟨s, hc, ?_⟩
  refine z60 H (by have := F2 l (List.mem_of_getElem? hl); omega) ⟨_, rfl, ?_⟩
  refine vif_mk (fun g2 => ?_) (fun g2 => ?_)
  ·have g2 : ¬ SortedL l := by simpa using g2
   have : ls.all (fun l => decide (SortedL l)) = false := by
    rw [List.all_eq_false]; exact ⟨l, List.mem_of_getElem? hl, by simpa using g2⟩
   rw [this] at hQ
   exact hQ
  ·have g2 : SortedL l := by simpa using g2
   rw [wrapK_i64 ⟨by omega, by omega⟩]
   refine ⟨trivial, ⟨rfl, i + 1, by simp, by omega, ?_⟩, by simp only; omega⟩
   intro x hx
   rw [List.take_add_one, hl] at hx
   rcases List.mem_append.1 hx with hx | hx
   ·exact hs x hx
   ·simp at hx; subst hx; exact g2
 ·replace g1 := of_decide_eq_false g1
  have : i = ls.length := by omega
  subst this
  rw [List.take_length] at hs
  rw [if_pos (by simpa [List.all_eq_true] using hs)] at hQ
  exact hQ)
theorem m32 (I : InLL h q ls) (hs : (ls.map List.length).sum ≤ 10000) (hll : ls.length ≤ 1000000) (hQ : ∀ q' h', New entE h h' q' (sortE ls.flatten) → Q (.sl q') h') : AC Tryz.prog 32 [.sl q] h Q := ac32 (by
 unfold vc32
 have hlen := I.len
 have hsum : ∀ i, (ls.take i).flatten.length ≤ 10000 := by
  intro i
  rw [List.length_flatten, List.map_take]
  have : ((ls.map List.length).take i).sum ≤ (ls.map List.length).sum := by
   conv => rhs; rw [← List.take_append_drop i (ls.map List.length), List.sum_append]
   omega
  omega
 refine ⟨fun xs h6 => ∃ (q2 : Option SL) (i : Nat), xs = [.sl q2, .int .i64 i] ∧ i ≤ ls.length ∧ New entE h h6 q2 (ls.take i).flatten, fun xs _ => match xs with | [_, .int _ i] => (ls.length - i).toNat | _ => 0, ⟨none, 0, rfl, by omega, by simpa using New.none⟩, ?_⟩
 rintro q2 n3 h6 ⟨_, i, hx, hi, N⟩
 simp only [List.cons.injEq, AV.int.injEq, AV.sl.injEq, true_and, and_true] at hx
 obtain ⟨rfl, rfl⟩ := hx
 refine vif_mk (fun g => ?_) (fun g => ?_)
 ·replace g := of_decide_eq_true g
  refine (I.mono N.1).idx (by omega) fun pp s l hl hc H => ⟨s, hc, ?_⟩
  have e : (ls.take (i + 1)).flatten = (ls.take i).flatten ++ l := by rw [List.take_add_one, hl]; simp
  have h1 := hsum (i + 1)
  rw [e, List.length_append] at h1
  refine New.append (E := entE) N H (by omega) fun q9 h10 N10 => ?_
  rw [wrapK_i64 ⟨by omega, by omega⟩]
  exact ⟨trivial, ⟨q9, i + 1, by simp, by omega, by rw [e]; exact N10⟩, by simp only; omega⟩
 ·replace g := of_decide_eq_false g
  have : i = ls.length := by omega
  subst this
  have h1 := hsum ls.length
  rw [List.take_length] at N h1
  exact z39 _ (Nat.le_refl _) N.hasL (by omega) fun q' h' N' => ⟨q', rfl, hQ q' h' (N'.of N.1)⟩)
theorem m67 {q2 : Option SL} {cbs : List Nat} (I : InLL h q ls) (C : HasL ptrE h q2 cbs) (hl : ls.length + cbs.length ≤ 64) (hs : ∀ l ∈ ls, SortedL l) (F2 : ∀ l ∈ ls, l.length ≤ 500) (hQ : ∀ h', Ext h h' → Q (.int .i64 0) h') : AC Tryz.prog 67 [.sl q, .sl q2] h Q := ac67 (by
 unfold vc67
 have hlen := I.len
 rw [hlen, C.len, wrapK_i64 ⟨by omega, by omega⟩]
 refine vif_mk (fun g => by have := of_decide_eq_true g; omega) (fun _ => ?_)
 refine ⟨fun xs h5 => Ext h h5 ∧ ∃ i : Nat, xs = [.int .i64 i] ∧ i ≤ ls.length, fun xs _ => match xs with | [.int _ i] => (ls.length - i).toNat | _ => 0, ⟨.refl _, 0, rfl, by omega⟩, ?_⟩
 rintro n2 h5 ⟨x5, i, hx, hi⟩
 simp only [List.cons.injEq, AV.int.injEq, true_and, and_true] at hx
 subst hx
 refine vif_mk (fun g1 => ?_) (fun g1 => ?_)
 ·replace g1 := of_decide_eq_true g1
  refine (I.mono x5).idx (by omega) fun pp s l hl hc H => ⟨s, hc, ?_⟩
  have hm := List.mem_of_getElem? hl
  refine z74 H (by have := F2 l hm; omega) fun h10 x10 => ⟨_, rfl, ?_⟩
  refine vif_mk (fun g2 => ?_) (fun g2 => ?_)
  ·have := hs l hm
   simp [this] at g2
  ·rw [wrapK_i64 ⟨by omega, by omega⟩]
   exact ⟨trivial, ⟨x5.trans x10, i + 1, by simp, by omega⟩, by simp only; omega⟩
 ·refine ⟨fun xs h15 => h15 = h5 ∧ ∃ i : Nat, xs = [.int .i64 i] ∧ i ≤ cbs.length, fun xs _ => match xs with | [.int _ i] => (cbs.length - i).toNat | _ => 0, ⟨rfl, 0, rfl, by omega⟩, ?_⟩
  rintro n12 h15 ⟨rfl, i, hx, hi⟩
  simp only [List.cons.injEq, AV.int.injEq, true_and, and_true] at hx
  subst hx
  refine vif_mk (fun g => ?_) (fun _ => hQ _ x5)
  replace g := of_decide_eq_true g
  refine HasL.idx (E := ptrE) (C.mono x5) (by omega) (by omega) fun pp b hb hc => ⟨_, hc, ?_⟩
  refine vif_mk (fun g => by simp at g) (fun _ => ?_)
  rw [wrapK_i64 ⟨by omega, by omega⟩]
  exact ⟨trivial, ⟨rfl, i + 1, by simp, by omega⟩, by simp only; omega⟩)
end
end Go.Proofs.YtankijamfedliaaGreatDoor.Mer
