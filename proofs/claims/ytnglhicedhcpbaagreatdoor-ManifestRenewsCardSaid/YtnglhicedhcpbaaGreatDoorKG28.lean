import Derived.Test.YtnglhicedhcpbaaGreatDoorKG23
import Derived.Test.YtnglhicedhcpbaaGreatDoorKG27
namespace Go.Proofs.YtnglhicedhcpbaaGreatDoor
open Go.Ab
open Go.Dsk hiding Bs
set_option linter.unusedVariables false
set_option linter.unusedSimpArgs false
def refNames (l : List Rf) : List Str := l.map (·.1)
def namesOf (l : List ED) : List Str := l.flatMap fun d => refNames d.2.2.2
theorem namesOf_len {l : List ED} (h : ∀ d ∈ l, d.2.2.2.length ≤ 256) : (namesOf l).length ≤ l.length * 256 := by
  induction l with
  | nil => simp [namesOf]
  | cons d l ih =>
    have h1 := ih fun d hd => h d (List.mem_cons_of_mem _ hd)
    have h2 := h d List.mem_cons_self
    simp only [namesOf, List.flatMap_cons, List.length_append, refNames, List.length_map, List.length_cons] at *
    omega
def MapInv (es : List (AV × AV × Nat)) (cl : Nat) (N : List Str) : Prop :=
  ∃ ss, keyStrs es = some ss ∧ ss.Nodup ∧ (∀ s, s ∈ ss ↔ s ∈ N) ∧ (es.map (·.2.2)).Nodup ∧ (∀ e ∈ es, e.2.2 < cl) ∧ ss.length ≤ N.length
theorem findP_str {P : Program} {kt : TypeId} (hkt : P.underlying kt = some .string) {s : Str} {K : Option (Nat × AV × Nat) → Prop} : ∀ {es : List (AV × AV × Nat)} {ss : List Str} {i : Nat}, keyStrs es = some ss → (s ∉ ss → K none) → (∀ j v n, es[j]? = some (.str s, v, n) → s ∈ ss → K (some (i + j, v, n))) → findP P kt (.str s) es i K
  | [], ss, i, h, h1, _ => by
    simp only [keyStrs, Option.some.injEq] at h
    subst h
    exact h1 (by simp)
  | (k, v, n) :: es, ss, i, h, h1, h2 => by
    obtain ⟨t, l, rfl, hl, rfl⟩ := keyStrs_cons h
    unfold findP keyIs
    rw [hkt]
    refine vif_mk (fun g => ?_) fun g => ?_
    · have : s = t := by simpa using g
      subst this
      exact h2 0 v n rfl (by simp)
    · have hne : s ≠ t := by simpa using g
      refine findP_str hkt hl (fun hn => h1 (by simp [hne, hn])) fun j v' n' hj hm => ?_
      have := h2 (j + 1) v' n' (by simpa using hj) (by simp [hm])
      rw [show i + 1 + j = i + (j + 1) by omega]; exact this
theorem keyStrs_set {s : Str} {v v' : AV} {n : Nat} : ∀ {es : List (AV × AV × Nat)} {j : Nat}, es[j]? = some (.str s, v, n) → keyStrs (es.set j (.str s, v', n)) = keyStrs es
  | [], j, h => by simp at h
  | x :: es, 0, h => by
    simp at h
    subst h
    rfl
  | (k, w, m) :: es, j + 1, h => by
    have := keyStrs_set (v' := v') (es := es) (j := j) (by simpa using h)
    simp only [List.set_cons_succ]
    cases k <;> simp only [keyStrs, this]
theorem keyStrs_snoc {s : Str} {v : AV} {n : Nat} : ∀ {es : List (AV × AV × Nat)} {ss : List Str}, keyStrs es = some ss → keyStrs (es ++ [(.str s, v, n)]) = some (ss ++ [s])
  | [], ss, h => by
    simp only [keyStrs, Option.some.injEq] at h
    subst h; rfl
  | (k, w, m) :: es, ss, h => by
    obtain ⟨t, l, rfl, hl, rfl⟩ := keyStrs_cons h
    simp only [List.cons_append, keyStrs, keyStrs_snoc hl]
theorem update_str {P : Program} {kt : TypeId} (hkt : P.underlying kt = some .string) {b : Nat} {s : Str} {h : Heap} {es : List (AV × AV × Nat)} {cl : Nat} {N : List Str} {K : Heap → Prop} (hb : h[b]? = some (.mp es cl)) (I : MapInv es cl N)
    (hK : ∀ es' cl', MapInv es' cl' (N ++ [s]) → K (h.set b (.mp es' cl'))) : PUpdate P kt b (.str s) (.bool true) h K := by
  obtain ⟨ss, h1, h2, h3, h4, h5, h6⟩ := I
  unfold PUpdate
  rw [hb]
  simp only [keyOk, hkt, isTup, Bool.not_false, Bool.and_true]
  show findP _ _ _ _ _ _
  refine findP_str hkt h1 (fun hn => ?_) fun j v n hj hm => ?_
  · refine hK _ _ ⟨ss ++ [s], keyStrs_snoc h1, ?_, ?_, ?_, ?_, by simp; omega⟩
    · rw [List.nodup_append]
      exact ⟨h2, by simp, fun a ha b hb => by simp at hb; subst hb; intro he; subst he; exact hn ha⟩
    · intro x; simp [h3 x]
    · rw [List.map_append, List.nodup_append]
      refine ⟨h4, by simp, fun a ha b hb => ?_⟩
      obtain ⟨e, he, rfl⟩ := List.mem_map.1 ha
      have := h5 e he
      simp at hb; omega
    · intro e he
      rcases List.mem_append.1 he with he | he
      · have := h5 e he; omega
      · simp at he; subst he; simp
  · have hmap : (es.set j (AV.str s, AV.bool true, n)).map (·.2.2) = es.map (·.2.2) := by
      rw [List.map_set]
      refine List.ext_getElem? fun i => ?_
      rw [List.getElem?_set]
      split
      · rename_i he; subst he
        split
        · simp [hj]
        · rename_i hl; simp at hl; rw [List.getElem?_eq_none (by simp; omega)]
      · rfl
    refine hK _ _ ⟨ss, by rw [Nat.zero_add, keyStrs_set hj]; exact h1, h2, fun x => ?_, by rw [Nat.zero_add, hmap]; exact h4, ?_, by simp; omega⟩
    · rw [List.mem_append, ← h3 x]
      constructor
      · exact .inl
      · rintro (h | h)
        · exact h
        · simp at h; subst h; exact hm
    · intro e he
      rw [Nat.zero_add] at he
      have : e.2.2 ∈ (es.set j (AV.str s, AV.bool true, n)).map (·.2.2) := List.mem_map_of_mem he
      rw [hmap] at this
      obtain ⟨e', he', h'⟩ := List.mem_map.1 this
      rw [← h']; exact h5 e' he'
theorem take_succ_names {l : List Rf} {i : Nat} {x : Rf} (h : l[i]? = some x) : refNames (l.take (i + 1)) = refNames (l.take i) ++ [x.1] := by
  rw [List.take_add_one, h]; simp [refNames]
theorem take_succ_namesOf {l : List ED} {i : Nat} {d : ED} (h : l[i]? = some d) : namesOf (l.take (i + 1)) = namesOf (l.take i) ++ refNames d.2.2.2 := by
  rw [List.take_add_one, h]; simp [namesOf]
section
variable {h : Heap} {Q : AV → Heap → Prop} {p : Nat} {has : Bool} {done : List ED} {mark : ED}
theorem sortedV_new {h : Heap} {l : List Str} : ∃ q, sortedV h.length l = .sl q ∧ New strE h (sortedH h l) q l := by
  cases l with
  | nil => exact ⟨none, rfl, New.none⟩
  | cons s l =>
    have e : strE.all (s :: l) = (s :: l).map .str := by
      have : ∀ m : List Str, strE.all m = m.map .str := by
        intro m
        induction m with
        | nil => rfl
        | cons x m ih => rw [Enc.all_cons, ih]; rfl
      exact this _
    refine ⟨_, rfl, .app _ _, Apd.mk (by simp) (.inr rfl) ?_, fun t ht => by cases ht; exact Nat.le_refl _⟩
    rw [e]; simp [sortedH]
theorem v41 (S : StV h p has done mark) (V : Vld has done mark) (hd : done.length ≤ 100) (hQ : ∀ q h', New strE h h' q (docNames (namesOf (edits has done mark))) → Q (.sl q) h') : AC Tryz.prog 41 [.ptr (some ⟨p, 0⟩)] h Q := ac41 (by
  have hok : ∀ d ∈ edits has done mark, chk d = true := by
    intro d hm
    unfold edits at hm
    rcases List.mem_append.1 hm with hm | hm
    · obtain ⟨i, hi⟩ := List.getElem?_of_mem hm
      exact (V.1 i d hi).1
    · cases has with
      | true => simp at hm; subst hm; exact (V.2.1 rfl).1
      | false => simp at hm
  have hlen : (edits has done mark).length ≤ 101 := by
    unfold edits; cases has <;> simp <;> omega
  have hv26 := fun (Q : AV → Heap → Prop) hQ => v31 (Q := Q) (S.ext (Ext.app h [.mp [] 0])) hd hQ
  generalize edits has done mark = l at *
  have hrl : ∀ d ∈ l, d.2.2.2.length ≤ 256 := by
    intro d hm
    have := hok d hm
    simp only [chk, Bool.and_eq_true, decide_eq_true_eq] at this
    exact this.1.2
  unfold vc41
  have hx0 : Ext h (h ++ [.mp [] 0]) := .app _ _
  refine hv26 _ fun q4 h3 hx3 hE => ⟨q4, rfl, ?_⟩
  have hl3 := hx3.len
  simp only [List.length_append, List.length_cons, List.length_nil] at hE hl3
  have hmb : h.length < h3.length := by omega
  have b3 : h3[h.length]? = some (.mp [] 0) := hx3 _ _ (by simp)
  obtain ⟨L, gL, hL, he, hc⟩ := hE
  have gl := HasL.len (Acc.hasL gL)
  have Kmp : ∀ (es : List (AV × AV × Nat)) (cl : Nat), Keeps (fun b => b = h.length) h3 (h3.set h.length (.mp es cl)) := fun es cl => keeps_set rfl
  refine ⟨fun xs h8 => ∃ (i : Nat) (es : List (AV × AV × Nat)) (cl : Nat), xs = [.int .i64 i] ∧ i ≤ l.length ∧ h8 = h3.set h.length (.mp es cl) ∧ MapInv es cl (namesOf (l.take i)), fun xs _ => match xs with | [.int _ i] => (l.length - i).toNat | _ => 0, ⟨0, [], 0, rfl, by omega, (set_same b3).symm, [], rfl, by simp, by simp [namesOf], by simp, by simp, by simp⟩, ?_⟩
  rintro i h8 ⟨i', es, cl, hx, hi, rfl, I⟩
  simp only [List.cons.injEq, AV.int.injEq, true_and, and_true] at hx
  subst hx
  have hq4 : ∀ s, q4 = some s → s.b ≠ h.length := fun s hs => by have := hc s hs; omega
  have hres : ∀ s, s ∈ namesOf l → s.length ≤ 24 := by
    intro s hs
    obtain ⟨d, hd1, hd2⟩ := List.mem_flatMap.1 hs
    obtain ⟨r, hr, rfl⟩ := List.mem_map.1 hd2
    have := hok d hd1
    simp only [chk, Bool.and_eq_true, List.all_eq_true] at this
    have := this.2 r hr
    simp only [refOk, Bool.and_eq_true, decide_eq_true_eq] at this
    exact this.1.1.1.1.2
  refine vif_mk (fun h1 => ?_) (fun h1 => ?_)
  · simp only [decide_eq_true_eq] at h1
    refine HasL.idx (E := edE) ((Kmp es cl).hasL hq4 (Acc.hasL gL)) (by omega) (by omega) fun pp x hx hc' => ?_
    refine ⟨x.1, x.2.1, x.2.2.1, x.2.2.2, hc', ?_⟩
    have hx' : L[i']? = some x := by simpa using hx
    have hdl : i' < l.length := by omega
    have hd' : l[i']? = some l[i'] := List.getElem?_eq_getElem hdl
    obtain ⟨hR, cold⟩ := he i' x _ hx' hd'
    have hrn : ∀ s, x.2.2.2 = some s → s.b ≠ h.length := fun s hs => by have := (cold s hs).1; omega
    generalize hdd : l[i'] = d at *
    have hRL := hR.2.2.2
    have rl := hRL.len
    have hr256 := hrl d (List.mem_of_getElem? hd')
    refine ⟨fun xs h17 => ∃ (k : Nat) (es : List (AV × AV × Nat)) (cl : Nat), xs = [.int .i64 k] ∧ k ≤ d.2.2.2.length ∧ h17 = h3.set h.length (.mp es cl) ∧ MapInv es cl (namesOf (l.take i') ++ refNames (d.2.2.2.take k)), fun xs _ => match xs with | [.int _ i] => (d.2.2.2.length - i).toNat | _ => 0, ⟨0, es, cl, rfl, by omega, rfl, by simpa [refNames] using I⟩, ?_⟩
    rintro k h17 ⟨k', es', cl', hxk, hk, rfl, I'⟩
    simp only [List.cons.injEq, AV.int.injEq, true_and, and_true] at hxk
    subst hxk
    refine vif_mk (fun g1 => ?_) (fun g1 => ?_)
    · simp only [decide_eq_true_eq] at g1
      refine HasL.idx (E := refE) ((Kmp es' cl').hasL hrn hRL) (by omega) (by omega) fun pp2 y hy hcy => ?_
      have hy' : d.2.2.2[k']? = some y := by simpa using hy
      refine ⟨y.1, y.2.1, y.2.2, hcy, ?_⟩
      refine update_str (kt := 9) Tryz.underlying9 (es := es') (cl := cl') (by rw [List.getElem?_set_self hmb]) I' fun es2 cl2 I2 => ?_
      rw [wrapK_i64 ⟨by omega, by omega⟩, List.set_set]
      refine ⟨⟨rfl, trivial⟩, ⟨k' + 1, es2, cl2, by simp, by omega, rfl, ?_⟩, ?_⟩
      · rw [take_succ_names hy', ← List.append_assoc]; exact I2
      · simp only; omega
    · simp only [decide_eq_false_iff_not] at g1
      have hk' : k' = d.2.2.2.length := by omega
      subst hk'
      rw [List.take_length] at I'
      rw [wrapK_i64 ⟨by omega, by omega⟩]
      refine ⟨trivial, ⟨i' + 1, es', cl', by simp, by omega, rfl, ?_⟩, ?_⟩
      · rw [take_succ_namesOf hd']; exact I'
      · simp only; omega
  · simp only [decide_eq_false_iff_not] at h1
    have hi' : i' = l.length := by omega
    subst hi'
    rw [List.take_length] at I
    refine keys_ac (g := 203) (by kernel_rfl) Tryz.keysLaw123 ⟨_, rfl, rfl, ?_⟩
    obtain ⟨ss, m1, m2, m3, m4, m5, m6⟩ := I
    have hnl := namesOf_len hrl
    generalize hh8 : h3.set h.length (.mp es cl) = h8 at *
    have b8 : h8[h.length]? = some (.mp es cl) := by rw [← hh8, List.getElem?_set_self hmb]
    have l8 : h8.length = h3.length := by rw [← hh8]; simp
    have hx8 : Ext h h8 := by
      intro b B hB
      have := lt_of_get hB
      rw [← hh8, List.getElem?_set, if_neg (by omega)]
      exact hx3 _ _ (hx0 _ _ hB)
    have hx24 : Ext h8 (h8 ++ [.bx (.map (some h.length))]) := .app _ _
    obtain ⟨q, e1, e2⟩ := sortedV_new (h := h8 ++ [.bx (.map (some h.length))]) (l := docNames (namesOf l))
    refine sorted_ac (kt := 9) (m := h.length) (cl := cl) (es := es) (ss := ss) (ss' := docNames (namesOf l)) (by kernel_rfl) Tryz.underlying9 Tryz.sortedLaw203 (by simp) (hx24 _ _ b8) m1 ?_ ?_ m2 m4 m5 (by omega) (fun s hs => ?_) ?_
    · refine (List.perm_ext_iff_of_nodup docNames_nodup m2).2 fun s => ?_
      rw [docNames_mem, m3]
    · refine docNames_sorted.imp fun hab => ?_
      simp only [leB, decide_eq_true_eq]
      exact List.le_of_lt hab
    · have := hres s ((m3 s).1 hs); omega
    · rw [e1]
      exact ⟨q, rfl, hQ q _ (e2.of (hx8.trans hx24))⟩)
end
end Go.Proofs.YtnglhicedhcpbaaGreatDoor
