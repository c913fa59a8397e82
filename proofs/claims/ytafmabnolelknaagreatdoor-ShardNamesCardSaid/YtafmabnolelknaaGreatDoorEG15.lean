import Derived.Test.YtafmabnolelknaaGreatDoorEG13
import Derived.Maps.Own
import Derived.Maps.Views
import Derived.Sort.KeysCollected
import Derived.Laws.AppendOwn
import Derived.CallsIn
namespace Go.Ab
open Go.Maps Go.MapKept
open Go.Proofs (encStr)
set_option linter.unusedSimpArgs false
set_option linter.unusedVariables false
abbrev blindR : Value → Option (DataW Unit × List MemPlace) := fun _ => some (.nil, [])
def SortedLaw (P : Program) (f g : FuncId) (kt : TypeId) : Prop :=
 ∀ (Bm b nn : Nat) (D0 : DataW Unit) (w : World), Bm < w.heap.size → w.cell? ⟨Bm, 0, none⟩ = some (.map (some b)) → w.ownsMap P kt blindR b nn D0 → Maps.size D0 ≤ maxLen → Maps.size D0 * 16 ≤ 140737488355328 →
  Calls P f #[.func (.func g) #[] #[.pointer (some ⟨Bm, 0, none⟩)]] w fun e w' => ∃ (v : Value) (ss : List (List UInt8)), e = .returned v ∧ ss.Perm (strKeys D0) ∧
   w'.ownsRow w.heap.size kt 1 v ss.length ((ss.mergeSort leB).map encStr) ∧ (v = .slice none 0 0 ↔ ss = []) ∧ Go.RowKit.Below w.heap.size w w'
def KeysLaw (P : Program) (f g : FuncId) : Prop :=
 ∃ t : TypeId, ∀ (mb : Option Nat) (w : World), Calls P f #[.map mb] w fun e w' => e = .returned (.func (.func g) #[] #[.pointer (some ⟨w.heap.size, 0, none⟩)]) ∧ w' = w.alloc (.cells #[.map mb] t)
theorem rel_self {μ : Ren} {h : Heap} {w : World} (H : HRel μ h w) : Rel μ h w μ [] [] h w :=
 ⟨Evo.refl _ _ _, H, ⟨rfl, by simp, by simp, by simp, by simp⟩⟩
theorem Rel.below {μ0 : Ren} {h0 : Heap} {w0 : World} {μ : Ren} {h : Heap} {w w' : World} (R : Rel μ0 h0 w0 μ [] [] h w) (B : Go.RowKit.Below w.heap.size w w') : Rel μ0 h0 w0 μ [] [] h w' where
 evo := { R.evo with
  size := Nat.le_trans R.evo.size B.size
  frame := fun r hr hn => by rw [B.block r (Nat.lt_of_lt_of_le hr R.evo.size)]; exact R.evo.frame r hr hn
  os := B.os.trans R.evo.os, tape := B.tape.trans R.evo.tape, output := B.output.trans R.evo.output }
 heap := ⟨R.heap.len, fun b B' e hb he => (R.heap.blk b B' e hb he).world (B.block _ (R.heap.bnd b e he)), R.heap.sep, fun b e he => Nat.lt_of_lt_of_le (R.heap.bnd b e he) B.size⟩
 locs := ⟨rfl, by simp, by simp, by simp, by simp⟩
theorem keys_ac {P : Program} {f g : FuncId} (hc : callable P f = true) (L : KeysLaw P f g) {m : Option Nat} {h : Heap} {Q : AV → Heap → Prop} (hq : Q (.func (.func g) [] [.ptr (some ⟨h.length, 0⟩)]) (h ++ [.bx (.map m)])) : AC P f [.map m] h Q := by
 refine ⟨hc, fun μ w vs H hv => ?_⟩
 obtain ⟨v, rfl, hm⟩ := relL_one hv
 obtain ⟨t, L⟩ := L
 obtain ⟨mb, rfl⟩ : ∃ mb, v = .map mb := by
  cases m with
  | none => exact ⟨none, hm⟩
  | some b => obtain ⟨e, _, hv⟩ := hm; exact ⟨_, hv⟩
 refine (L mb w).mono fun e w' ⟨he, hw⟩ => ?_
 subst hw
 have R := (rel_self H).allocB (.bx (.map m)) (.cells #[.map mb] t) 1 ⟨rfl, .map mb, t, heap_push_new _ _, AV.rel.mono (Ren.le_append _ _) _ _ hm⟩
 refine ⟨_, _, _, _, he, hq, R.evo, R.heap, ?_⟩
 refine ⟨#[], #[.pointer (some ⟨w.heap.size, 0, none⟩)], rfl, rfl, _, _, rfl, ⟨⟨w.heap.size, 0, 1⟩, ?_, rfl⟩, rfl⟩
 rw [← H.len]; simp
theorem relM_keys {μ : Ren} : ∀ {es : List (AV × AV × Nat)} {l : List MapEntry} {ss : List (List UInt8)}, relM μ es l → keyStrs es = some ss → l.map (·.key) = ss.map encStr ∧ l.map (·.born) = es.map (·.2.2)
 | [], l, ss, r, h => by
  obtain rfl : l = [] := r
  simp only [keyStrs, Option.some.injEq] at h
  subst h; exact ⟨rfl, rfl⟩
 | (k, v, n) :: es, l, ss, ⟨E, Es, h1, h2, h3, h4, h5⟩, h => by
  subst h1
  unfold keyStrs at h
  split at h
  ·rename_i heq; cases heq
  ·rename_i s _ _ es' heq
   cases heq
   split at h
   ·rename_i l' hl
    cases h
    obtain ⟨g1, g2⟩ := relM_keys h5 hl
    have hk : E.key = encStr s := h2
    simp [g1, g2, hk, h4]
   ·cases h
  ·cases h
def sortedV (n : Nat) : List (List UInt8) → AV
 | [] => .sl none
 | s :: l => .sl (some ⟨n, 0, (s :: l).length, (s :: l).length, 1⟩)
def sortedH (h : Heap) : List (List UInt8) → Heap
 | [] => h
 | s :: l => h ++ [.cells ((s :: l).map .str) true]
theorem sorted_ac {P : Program} {f g : FuncId} {kt : TypeId} (hc : callable P f = true) (hkt : P.underlying kt = some .string) (L : SortedLaw P f g kt) {p m cl : Nat} {es : List (AV × AV × Nat)} {ss ss' : List (List UInt8)} {h : Heap} {Q : AV → Heap → Prop}
  (hp : h[p]? = some (.bx (.map (some m)))) (hm : h[m]? = some (.mp es cl)) (hss : keyStrs es = some ss) (hperm : ss'.Perm ss) (hsort : ss'.Pairwise (fun a b => leB a b = true)) (hnd : ss.Nodup) (hbn : (es.map (·.2.2)).Nodup) (hbl : ∀ e ∈ es, e.2.2 < cl)
  (hlen : ss.length ≤ 1000000) (hl : ∀ s ∈ ss, s.length ≤ 1000000)
  (hq : Q (sortedV h.length ss') (sortedH h ss')) :
  AC P f [.func (.func g) [] [.ptr (some ⟨p, 0⟩)]] h Q := by
 refine ⟨hc, fun μ w vs H hv => ?_⟩
 obtain ⟨v, rfl, f', c', rfl, hf, hcc⟩ := relL_one hv
 obtain ⟨y, hc1, hy⟩ := relL_one hcc
 have hfe : f' = #[] := by apply Array.ext'; exact hf
 have hce : c' = #[y] := by apply Array.ext'; exact hc1
 subst hfe hce
 obtain ⟨e, he, rfl⟩ := hy
 obtain ⟨hs0, y, t, hb1, hb2⟩ := H.blk p _ e hp he
 obtain ⟨em, hem, rfl⟩ := hb2
 obtain ⟨ES, hE1, hE2⟩ := H.blk m _ em hm hem
 obtain ⟨hk1, hk2⟩ := relM_keys hE2 hss
 have hsz := hE2.length
 have hss_len : ss.length = es.length := by
  have := congrArg List.length hk1
  simp at this hsz
  omega
 have hESs : ES.size = es.length := by simpa using hsz
 have hkey : ∀ x ∈ ES.toList, ∃ s ∈ ss, x.key = encStr s := by
  intro x hx
  have : x.key ∈ ss.map encStr := by rw [← hk1]; exact List.mem_map_of_mem hx
  obtain ⟨s, hs, hs2⟩ := List.mem_map.1 this
  exact ⟨s, hs, hs2.symm⟩
 have hread : ∀ x ∈ ES.toList, ∃ s ∈ ss, WideElems.rd P kt blindR x = some (.string s, .nil) := by
  intro x hx
  obtain ⟨s, hs, hs2⟩ := hkey x hx
  refine ⟨s, hs, ?_⟩
  have := hl s hs
  have hk : keyOf P kt (encStr s) = some (.string s) := WideMaps.keyOf_string_mk hkt (s := ⟨s.toArray⟩) (by simp [ByteArray.size, maxLen]; omega)
  simp [WideElems.rd, hs2, hk]
 let D0 : DataW Unit := .map ((ES.toList.map (WideElems.rg P kt blindR)).foldr DataW.insert [])
 have hown : w.ownsMap P kt blindR em.r ES.size D0 := by
  refine ⟨ES, cl, hE1, ⟨by rw [hESs, ← hss_len]; simp [maxLen]; omega, ⟨?_, ?_, ?_⟩, ?_⟩, Nat.le_refl _, rfl⟩
  ·intro x hx
   have : x.born ∈ ES.toList.map (·.born) := List.mem_map_of_mem hx
   rw [hk2] at this
   obtain ⟨e1, he1, he2⟩ := List.mem_map.1 this
   rw [← he2]; exact hbl _ he1
  ·rw [hk2]; exact hbn
  ·rw [hk1]
   exact List.pairwise_map.2 (hnd.imp fun hne heq => hne (by simpa [encStr] using heq))
  ·intro x hx
   obtain ⟨s, _, hs⟩ := hread x hx
   exact ⟨_, hs⟩
 have hfold : ∀ (l : List (Lit × DataW Unit)), (l.foldr DataW.insert []).Perm l := by
  intro l
  induction l with
  | nil => exact .refl _
  | cons x l ih => exact (WideShapes.insert_perm x _).trans (ih.cons x)
 have hkeys : (strKeys D0).Perm ss := by
  have h1 : (strKeys D0) = ((ES.toList.map (WideElems.rg P kt blindR)).foldr DataW.insert []).map (fun p => strOf p.1) := rfl
  rw [h1]
  refine ((hfold _).map _).trans ?_
  rw [List.map_map]
  have : ES.toList.map ((fun p : Lit × DataW Unit => strOf p.1) ∘ WideElems.rg P kt blindR) = ss := by
   have hinj : (ES.toList.map ((fun p : Lit × DataW Unit => strOf p.1) ∘ WideElems.rg P kt blindR)).map encStr = ES.toList.map (·.key) := by
    rw [List.map_map]
    apply List.map_congr_left
    intro x hx
    obtain ⟨s, hs, hs2⟩ := hread x hx
    obtain ⟨s2, hs3, hs4⟩ := hkey x hx
    have hk : keyOf P kt (encStr s2) = some (.string s2) := WideMaps.keyOf_string_mk hkt (s := ⟨s2.toArray⟩) (by have := hl s2 hs3; simp [ByteArray.size, maxLen]; omega)
    simp [WideElems.rg, WideElems.rd, hs4, hk, strOf]
   rw [hk1] at hinj
   have inj : ∀ {a b : List (List UInt8)}, a.map encStr = b.map encStr → a = b := by
    intro a
    induction a with
    | nil => intro b hb; cases b <;> simp at hb ⊢
    | cons x a ih => intro b hb; cases b with
     | nil => simp at hb
     | cons y b => simp only [List.map_cons, List.cons.injEq] at hb; rw [ih hb.2, show x = y by simpa [encStr] using hb.1]
   exact inj hinj
  rw [this]
 have hD : Maps.size D0 = ss.length := by
  have := hkeys.length_eq
  simpa [strKeys, D0, Maps.size] using this
 have hcell : w.cell? ⟨e.r, 0, none⟩ = some (.map (some em.r)) := by simp [World.cell?, hb1]
 have hptr : (⟨e.r, e.s + 0, none⟩ : Addr) = ⟨e.r, 0, none⟩ := by rw [hs0]
 show Calls P f #[.func (.func g) #[] #[.pointer (some ⟨e.r, e.s + 0, none⟩)]] w _
 rw [hptr]
 refine (L e.r em.r ES.size D0 w (heap_lt hb1) hcell hown (by rw [hD]; simp [maxLen]; omega) (by rw [hD]; omega)).mono fun en w' hh => ?_
 obtain ⟨v, ss2, he2, hp2, hrow, hnil, hbelow⟩ := hh
 have hsorted : ss2.mergeSort leB = ss' := by
  have e1 : ss2.mergeSort leB = ss'.mergeSort leB := mergeSort_of_perm (hp2.trans (hkeys.trans hperm.symm))
  rw [e1]
  exact List.mergeSort_of_pairwise hsort
 have hl2 : ss2.length = ss'.length := (hp2.trans (hkeys.trans hperm.symm)).length_eq
 have R := (rel_self H).below hbelow
 cases hss' : ss' with
 | nil =>
  subst hss'
  have : ss2 = [] := List.eq_nil_of_length_eq_zero hl2
  exact ⟨_, _, _, _, he2, hq, R.evo, R.heap, hnil.2 this⟩
 | cons s0 l0 =>
  rw [hss'] at hq
  have hne : ss2 ≠ [] := by intro h0; rw [h0, hss'] at hl2; simp at hl2
  obtain ⟨hr0, hrow⟩ := hrow
  rcases hrow with ⟨hv, _⟩ | ⟨gb, cap, cur, rfl, hge, hgb, hcap, hmax, hcur, htake⟩
  ·exact (hne (hnil.1 hv)).elim
  ·have hcs : cur.size = cap := by omega
   have hlen2 : ss2.length = (s0 :: l0).length := by rw [hl2, hss']
   have R2 := R.adopt ⟨gb, 0, cap⟩ (.cells ((s0 :: l0).map .str) true) (.inl hge) (heap_lt hgb) ?_ ?_ (by simp)
   ·refine ⟨_, .sl (some ⟨h.length, 0, (s0 :: l0).length, (s0 :: l0).length, 1⟩), _, _, he2, hq, R2.evo, R2.heap, ⟨gb, 0, cap⟩, cap, ⟨gb, 0, none⟩, ?_, ?_, Nat.le_refl _, .inr rfl, by simp, ?_⟩
    ·rw [← H.len]; simp
    ·rw [hlen2]
    ·intro _
     simp only
     exact ⟨by omega, by omega⟩
   ·refine ⟨cur, kt, (0, 0), hgb, by simp [hcs], by simp only [List.length_map]; omega, ?_, ?_, fun _ => rfl⟩
    ·simp [oneAll, AV.one]
    ·intro i x hx
     have hi := lt_of_get hx
     simp only [List.length_map] at hi
     rw [hsorted, hss'] at htake
     have h1 : (cur.toList.take (ss2.length * 1))[i]? = ((s0 :: l0).map encStr)[i]? := by rw [htake]
     rw [List.getElem?_take, if_pos (by omega)] at h1
     rw [List.getElem?_map] at h1 hx
     rcases hs : (s0 :: l0)[i]? with _ | s
     ·rw [hs] at hx; cases hx
     ·rw [hs] at h1 hx
      simp only [Option.map_some, Option.some.injEq] at h1 hx
      subst hx
      refine ⟨encStr s, ?_, rfl⟩
      rw [Nat.zero_add]
      simpa using h1
   ·intro b B e' hb hlv he'
    have := (rel_self H).heap.bnd b e' he'
    simp only; omega
end Go.Ab
namespace Go.Ab
open Go.Maps Go.MapKept
set_option linter.unusedSimpArgs false
set_option linter.unusedVariables false
theorem pwB_ok : ∀ {l : List (List UInt8)}, pwB l = true → l.Pairwise (fun a b => leB a b = true)
 | [], h => .nil
 | x :: l, h => by
  simp only [pwB, Bool.and_eq_true, List.all_eq_true] at h
  exact .cons h.1 (pwB_ok h.2)
theorem sortStr_ok : ∀ {l : List (List UInt8)} {k : List (List UInt8) → Bool}, sortStr l k = true → ∃ l', k l' = true
 | [], k, h => ⟨_, h⟩
 | s :: l, k, h => by
  unfold sortStr at h
  obtain ⟨r, hr⟩ := sortStr_ok (k := fun r => insStr s r k) (l := l) h
  have : ∀ {r : List (List UInt8)} {k : List (List UInt8) → Bool}, insStr s r k = true → ∃ l', k l' = true := by
   intro r
   induction r with
   | nil => intro k h; exact ⟨_, h⟩
   | cons t r ih =>
    intro k h
    unfold insStr at h
    split at h
    ·obtain ⟨l', h'⟩ := ih h; exact ⟨_, h'⟩
    ·exact ⟨_, h⟩
  exact this hr
theorem strAVs_eq : ∀ (l : List (List UInt8)) (k : List AV → Bool), strAVs l k = k (l.map .str)
 | [], k => rfl
 | s :: l, k => by simp only [strAVs, strAVs_eq l]; rfl
structure KSOk (P : Program) (keys : List (FuncId × FuncId)) (sorted : FuncId) (kt : TypeId) : Prop where
 str : P.underlying kt = some .string
 callS : callable P sorted = true
 callK : ∀ x ∈ keys, callable P x.1 = true
 laws : ∀ x ∈ keys, KeysLaw P x.1 x.2
 sort : ∀ x ∈ keys, SortedLaw P sorted x.2 kt
theorem ovKS_ok {P : Program} {keys : List (FuncId × FuncId)} {sorted : FuncId} {kt : TypeId} (O : KSOk P keys sorted kt) : OvrOK P (ovKS keys sorted) := by
 intro f g hg args e h k Q H hQ hk
 unfold ovKS at hg
 split at hg
 ·rename_i hf
  cases hg
  have hf' : f = sorted := by simpa using hf
  subst hf'
  unfold eSorted at hk
  split at hk
  ·rename_i f' p
   rw [Bool.and_eq_true, Bool.and_eq_true] at hk
   obtain ⟨⟨h1, h2⟩, hk⟩ := hk
   have ho : p.o = 0 := Nat.eq_of_beq_eq_true h2
   obtain ⟨x, hx, rfl⟩ : ∃ x ∈ keys, x.2 = f' := by
    have : f' ∈ keys.map (·.2) := by simpa using h1
    exact List.mem_map.1 this
   rw [H.1 p.b] at hk
   split at hk
   ·rename_i m hb
    rw [H.1 m] at hk
    split at hk
    ·rename_i es cl hm
     split at hk
     ·rename_i ss hss
      obtain ⟨ss', hk⟩ := sortStr_ok hk
      rw [Bool.and_eq_true] at hk
      obtain ⟨hc, hk⟩ := hk
      simp only [Bool.and_eq_true, decide_eq_true_eq, List.all_eq_true] at hc
      obtain ⟨⟨⟨⟨⟨⟨c1, c2⟩, c3⟩, c4⟩, c5⟩, c6⟩, c7⟩ := hc
      have hp : p = ⟨p.b, 0⟩ := by cases p; simp_all
      rw [hp]
      refine sorted_ac O.callS O.str (O.sort x hx) hb hm hss (List.isPerm_iff.1 c1) (pwB_ok c2) c3 c4 (fun e he => by have := c5 e he; simpa [Nat.blt_eq] using this) (Nat.le_of_ble_eq_true c6) (fun s hs => Nat.le_of_ble_eq_true (c7 s hs)) ?_
      split at hk
      ·exact hQ _ _ _ H hk
      ·rw [strAVs_eq] at hk
       obtain ⟨e', H', h3⟩ := eNew_ok H hk
       rw [fN_eq] at h3
       exact hQ _ _ _ H' h3
     ·simp at hk
    ·simp at hk
   ·simp at hk
  ·simp at hk
 ·split at hg
  ·rename_i f' g' hfind
   cases hg
   have hmem := List.mem_of_find?_eq_some hfind
   have hf' := List.find?_some hfind
   have : f' = f := by simpa using hf'
   subst this
   unfold eKeys at hk
   split at hk
   ·rename_i m
    obtain ⟨e', H', h1⟩ := eNewB_ok H hk
    exact keys_ac (O.callK _ hmem) (O.laws _ hmem) (hQ _ _ _ H' h1)
   ·simp at hk
  ·cases hg
end Go.Ab
