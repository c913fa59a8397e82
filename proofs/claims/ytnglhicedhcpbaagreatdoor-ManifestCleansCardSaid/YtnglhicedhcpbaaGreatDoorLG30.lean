import Derived.Test.YtnglhicedhcpbaaGreatDoorLG24
import Derived.Test.YtnglhicedhcpbaaGreatDoorLG28
namespace Go.Proofs.YtnglhicedhcpbaaGreatDoor
open Go.Ab
open Go.Dsk hiding Bs
set_option linter.unusedVariables false
set_option linter.unusedSimpArgs false
def yW (l : List Rf) : List Str := l.map (·.1)
def zS (l : List ED) : List Str := l.flatMap fun d => yW d.2.2.2
theorem jV {l : List ED} (h : ∀ d ∈ l, d.2.2.2.length <= 256) : (zS l).length <= l.length * 256 := by
 induction l with
 | nil => simp [zS]
 | cons d l ih =>
  have h1 := ih fun d hd => h d (List.mem_cons_of_mem _ hd)
  have h2 := h d List.mem_cons_self
  simp only [zS, List.flatMap_cons, List.length_append, yW, List.length_map, List.length_cons] at *
  omega
def zK6 (es : List (AV × AV × Nat)) (cl : Nat) (N : List Str) : Prop :=
 ∃ ss, xI es = some ss /\ ss.Nodup /\ (∀ s, s ∈ ss ↔ s ∈ N) /\ (es.map (·.2.2)).Nodup /\ (∀ e ∈ es, e.2.2 < cl) /\ ss.length <= N.length
theorem zH8 {P : Program} {kt : TypeId} (hkt : P.underlying kt = some .string) {s : Str} {K : Option (Nat × AV × Nat) -> Prop} : ∀ {es : List (AV × AV × Nat)} {ss : List Str} {i : Nat}, xI es = some ss -> (s ∉ ss -> K none) -> (∀ j v n, es[j]? = some (.str s, v, n) -> s ∈ ss -> K (some (i + j, v, n))) -> vB P kt (.str s) es i K
 | [], ss, i, h, h1, _ => by
  simp only [xI, Option.some.injEq] at h
  subst h
  exact h1 (by simp)
 | (k, v, n) :: es, ss, i, h, h1, h2 => by
  obtain ⟨t, l, rfl, hl, rfl⟩ := zDP h
  unfold vB zCM
  rw [hkt]
  refine zB (fun g => ?_) fun g => ?_
  ·have : s = t := by simpa using g
   subst this
   exact h2 0 v n rfl (by simp)
  ·have hne : s ≠ t := by simpa using g
   refine zH8 hkt hl (fun hn => h1 (by simp [hne, hn])) fun j v' n' hj hm => ?_
   have := h2 (j + 1) v' n' (by simpa using hj) (by simp [hm])
   rw [show i + 1 + j = i + (j + 1) by omega]; exact this
theorem zEK {s : Str} {v v' : AV} {n : Nat} : ∀ {es : List (AV × AV × Nat)} {j : Nat}, es[j]? = some (.str s, v, n) -> xI (es.set j (.str s, v', n)) = xI es
 | [], j, h => by simp at h
 | x :: es, 0, h => by
  simp at h
  subst h
  rfl
 | (k, w, m) :: es, j + 1, h => by
  have := zEK (v' := v') (es := es) (j := j) (by simpa using h)
  simp only [List.set_cons_succ]
  cases k <;> simp only [xI, this]
theorem zDO {s : Str} {v : AV} {n : Nat} : ∀ {es : List (AV × AV × Nat)} {ss : List Str}, xI es = some ss -> xI (es ++ [(.str s, v, n)]) = some (ss ++ [s])
 | [], ss, h => by
  simp only [xI, Option.some.injEq] at h
  subst h; rfl
 | (k, w, m) :: es, ss, h => by
  obtain ⟨t, l, rfl, hl, rfl⟩ := zDP h
  simp only [List.cons_append, xI, zDO hl]
theorem zK9 {P : Program} {kt : TypeId} (hkt : P.underlying kt = some .string) {b : Nat} {s : Str} {h : Heap} {es : List (AV × AV × Nat)} {cl : Nat} {N : List Str} {K : Heap -> Prop} (hb : h[b]? = some (.mp es cl)) (I : zK6 es cl N)
  (hK : ∀ es' cl', zK6 es' cl' (N ++ [s]) -> K (h.set b (.mp es' cl'))) : xZ P kt b (.str s) (.bool true) h K := by
 obtain ⟨ss, h1, h2, h3, h4, h5, h6⟩ := I
 unfold xZ
 rw [hb]
 simp only [zAR, hkt, zH4, Bool.not_false, Bool.and_true]
 show vB _ _ _ _ _ _
 refine zH8 hkt h1 (fun hn => ?_) fun j v n hj hm => ?_
 ·refine hK _ _ ⟨ss ++ [s], zDO h1, ?_, ?_, ?_, ?_, by simp; omega⟩
  ·rw [List.nodup_append]
   exact ⟨h2, by simp, fun a ha b hb => by simp at hb; subst hb; intro he; subst he; exact hn ha⟩
  ·intro x; simp [h3 x]
  ·rw [List.map_append, List.nodup_append]
   refine ⟨h4, by simp, fun a ha b hb => ?_⟩
   obtain ⟨e, he, rfl⟩ := List.mem_map.1 ha
   have := h5 e he
   simp at hb; omega
  ·intro e he
   rcases List.mem_append.1 he with he | he
   ·have := h5 e he; omega
   ·simp at he; subst he; simp
 ·have hmap : (es.set j (AV.str s, AV.bool true, n)).map (·.2.2) = es.map (·.2.2) := by
   rw [List.map_set]
   refine List.ext_getElem? fun i => ?_
   rw [List.getElem?_set]
   split
   ·rename_i he; subst he
    split
    ·simp [hj]
    ·rename_i hl; simp at hl; rw [List.getElem?_eq_none (by simp; omega)]
   ·rfl
  refine hK _ _ ⟨ss, by rw [Nat.zero_add, zEK hj]; exact h1, h2, fun x => ?_, by rw [Nat.zero_add, hmap]; exact h4, ?_, by simp; omega⟩
  ·rw [List.mem_append, <- h3 x]
   constructor
   ·exact .inl
   ·rintro (h | h)
    ·exact h
    ·simp at h; subst h; exact hm
  ·intro e he
   rw [Nat.zero_add] at he
   have : e.2.2 ∈ (es.set j (AV.str s, AV.bool true, n)).map (·.2.2) := List.mem_map_of_mem he
   rw [hmap] at this
   obtain ⟨e', he', h'⟩ := List.mem_map.1 this
   rw [<- h']; exact h5 e' he'
theorem zAV {l : List Rf} {i : Nat} {x : Rf} (h : l[i]? = some x) : yW (l.take (i + 1)) = yW (l.take i) ++ [x.1] := by
 rw [List.take_add_one, h]; simp [yW]
theorem vU {l : List ED} {i : Nat} {d : ED} (h : l[i]? = some d) : zS (l.take (i + 1)) = zS (l.take i) ++ yW d.2.2.2 := by
 rw [List.take_add_one, h]; simp [zS]
section
variable {h : Heap} {Q : AHp} {p : Nat} {has : Bool} {done : List ED} {mark : ED}
theorem zI0 {h : Heap} {l : List Str} : ∃ q, zI2 h.length l = .sl q /\ New strE h (zAW h l) q l := by
 cases l with
 | nil => exact ⟨none, rfl, New.none⟩
 | cons s l =>
  have e : strE.all (s :: l) = (s :: l).map .str := by
   have : ∀ m : List Str, strE.all m = m.map .str := by
    intro m
    induction m with
    | nil => rfl
    | cons x m ih => rw [Enc.all_cons, ih]; rfl
   exact this _
  refine ⟨_, rfl, .app _ _, Apd.mk (by simp) (.inr rfl) ?_, fun t ht => by cases ht; exact Nat.le_refl _⟩
  rw [e]; simp [zAW]
theorem v41 (S : StV h p has done mark) (V : Vld has done mark) (hd : done.length <= 100) (hQ : ∀ q h', New strE h h' q (zN (zS (yF has done mark))) -> Q (.sl q) h') : AC Tryz.prog 41 [.ptr (some ⟨p, 0⟩)] h Q := ac41 (by
 have hok : ∀ d ∈ yF has done mark, chk d = true := by
  intro d hm
  unfold yF at hm
  rcases List.mem_append.1 hm with hm | hm
  ·obtain ⟨i, hi⟩ := List.getElem?_of_mem hm
   exact (V.1 i d hi).1
  ·cases has with
   | true => simp at hm; subst hm; exact (V.2.1 rfl).1
   | false => simp at hm
 have hlen : (yF has done mark).length <= 101 := by
  unfold yF; cases has <;> simp <;> omega
 have hv26 := fun (Q : AHp) hQ => v31 (Q := Q) (S.ext (Ext.app h [.mp [] 0])) hd hQ
 generalize yF has done mark = l at *
 have hrl : ∀ d ∈ l, d.2.2.2.length <= 256 := by
  intro d hm
  have := hok d hm
  simp only [chk, Bool.and_eq_true, decide_eq_true_eq] at this
  exact this.1.2
 unfold vc41
 have hx0 : Ext h (h ++ [.mp [] 0]) := .app _ _
 refine hv26 _ fun q4 h3 hx3 hE => ⟨q4, rfl, ?_⟩
 have hl3 := hx3.len
 simp only [List.length_append, List.length_cons, List.length_nil] at hE hl3
 have hmb : h.length < h3.length := by omega
 have b3 : h3[h.length]? = some (.mp [] 0) := hx3 _ _ (by simp)
 obtain ⟨L, gL, hL, he, hc⟩ := hE
 have gl := HasL.len (Acc.hasL gL)
 have Kmp : ∀ (es : List (AV × AV × Nat)) (cl : Nat), zM (fun b => b = h.length) h3 (h3.set h.length (.mp es cl)) := fun es cl => zT rfl
 refine ⟨fun xs h8 => ∃ (i : Nat) (es : List (AV × AV × Nat)) (cl : Nat), xs = [.int .i64 i] /\ i <= l.length /\ h8 = h3.set h.length (.mp es cl) /\ zK6 es cl (zS (l.take i)), fun xs _ => match xs with | [.int _ i] => (l.length - i).toNat | _ => 0, ⟨0, [], 0, rfl, by omega, (zAE b3).symm, [], rfl, by simp, by simp [zS], by simp, by simp, by simp⟩, ?_⟩
 rintro i h8 ⟨i', es, cl, hx, hi, rfl, I⟩
 simp only [List.cons.injEq, AV.int.injEq, true_and, and_true] at hx
 subst hx
 have hq4 : ∀ s, q4 = some s -> s.b ≠ h.length := fun s hs => by have := hc s hs; omega
 have hres : ∀ s, s ∈ zS l -> s.length <= 24 := by
  intro s hs
  obtain ⟨d, hd1, hd2⟩ := List.mem_flatMap.1 hs
  obtain ⟨r, hr, rfl⟩ := List.mem_map.1 hd2
  have := hok d hd1
  simp only [chk, Bool.and_eq_true, List.all_eq_true] at this
  have := this.2 r hr
  simp only [kM, Bool.and_eq_true, decide_eq_true_eq] at this
  exact this.1.1.1.1.2
 refine zB (fun h1 => ?_) (fun h1 => ?_)
 ·simp only [decide_eq_true_eq] at h1
  refine HasL.idx (E := edE) ((Kmp es cl).hasL hq4 (Acc.hasL gL)) (by omega) (by omega) fun pp x hx hc' => ?_
  refine ⟨x.1, x.2.1, x.2.2.1, x.2.2.2, hc', ?_⟩
  have hx' : L[i']? = some x := by simpa using hx
  have hdl : i' < l.length := by omega
  have hd' : l[i']? = some l[i'] := List.getElem?_eq_getElem hdl
  obtain ⟨hR, cold⟩ := he i' x _ hx' hd'
  have hrn : ∀ s, x.2.2.2 = some s -> s.b ≠ h.length := fun s hs => by have := (cold s hs).1; omega
  generalize hdd : l[i'] = d at *
  have hRL := hR.2.2.2
  have rl := hRL.len
  have hr256 := hrl d (List.mem_of_getElem? hd')
  refine ⟨fun xs h17 => ∃ (k : Nat) (es : List (AV × AV × Nat)) (cl : Nat), xs = [.int .i64 k] /\ k <= d.2.2.2.length /\ h17 = h3.set h.length (.mp es cl) /\ zK6 es cl (zS (l.take i') ++ yW (d.2.2.2.take k)), fun xs _ => match xs with | [.int _ i] => (d.2.2.2.length - i).toNat | _ => 0, ⟨0, es, cl, rfl, by omega, rfl, by simpa [yW] using I⟩, ?_⟩
  rintro k h17 ⟨k', es', cl', hxk, hk, rfl, I'⟩
  simp only [List.cons.injEq, AV.int.injEq, true_and, and_true] at hxk
  subst hxk
  refine zB (fun g1 => ?_) (fun g1 => ?_)
  ·simp only [decide_eq_true_eq] at g1
   refine HasL.idx (E := refE) ((Kmp es' cl').hasL hrn hRL) (by omega) (by omega) fun pp2 y hy hcy => ?_
   have hy' : d.2.2.2[k']? = some y := by simpa using hy
   refine ⟨y.1, y.2.1, y.2.2, hcy, ?_⟩
   refine zK9 (kt := 9) Tryz.underlying9 (es := es') (cl := cl') (by rw [List.getElem?_set_self hmb]) I' fun es2 cl2 I2 => ?_
   rw [zF ⟨by omega, by omega⟩, List.set_set]
   refine ⟨⟨rfl, trivial⟩, ⟨k' + 1, es2, cl2, by simp, by omega, rfl, ?_⟩, ?_⟩
   ·rw [zAV hy', <- List.append_assoc]; exact I2
   ·simp only; omega
  ·simp only [decide_eq_false_iff_not] at g1
   have hk' : k' = d.2.2.2.length := by omega
   subst hk'
   rw [List.take_length] at I'
   rw [zF ⟨by omega, by omega⟩]
   refine ⟨trivial, ⟨i' + 1, es', cl', by simp, by omega, rfl, ?_⟩, ?_⟩
   ·rw [vU hd']; exact I'
   ·simp only; omega
 ·simp only [decide_eq_false_iff_not] at h1
  have hi' : i' = l.length := by omega
  subst hi'
  rw [List.take_length] at I
  refine zN8 (g := 203) (by kernel_rfl) Tryz.keysLaw123 ⟨_, rfl, rfl, ?_⟩
  obtain ⟨ss, m1, m2, m3, m4, m5, m6⟩ := I
  have hnl := jV hrl
  generalize hh8 : h3.set h.length (.mp es cl) = h8 at *
  have b8 : h8[h.length]? = some (.mp es cl) := by rw [<- hh8, List.getElem?_set_self hmb]
  have l8 : h8.length = h3.length := by rw [<- hh8]; simp
  have hx8 : Ext h h8 := by
   intro b B hB
   have := zD hB
   rw [<- hh8, List.getElem?_set, if_neg (by omega)]
   exact hx3 _ _ (hx0 _ _ hB)
  have hx24 : Ext h8 (h8 ++ [.bx (.map (some h.length))]) := .app _ _
  obtain ⟨q, e1, e2⟩ := zI0 (h := h8 ++ [.bx (.map (some h.length))]) (l := zN (zS l))
  refine zHB (kt := 9) (m := h.length) (cl := cl) (es := es) (ss := ss) (ss' := zN (zS l)) (by kernel_rfl) Tryz.underlying9 Tryz.sortedLaw203 (by simp) (hx24 _ _ b8) m1 ?_ ?_ m2 m4 m5 (by omega) (fun s hs => ?_) ?_
  ·refine (List.perm_ext_iff_of_nodup kG m2).2 fun s => ?_
   rw [xA, m3]
  ·refine xW.imp fun hab => ?_
   simp only [leB, decide_eq_true_eq]
   exact List.le_of_lt hab
  ·have := hres s ((m3 s).1 hs); omega
  ·rw [e1]
   exact ⟨q, rfl, hQ q _ (e2.of (hx8.trans hx24))⟩)
end
end Go.Proofs.YtnglhicedhcpbaaGreatDoor
namespace Go.Ab
theorem OwnL.grow {α : Type} {E : Enc α} {h : Heap} {q : OSl} {l : List α} (O : OwnL E h q l) (hl : l ≠ []) : Acc E [] h q l := by
 rcases O with ⟨rfl, _⟩ | ⟨_, a, rfl, hb⟩
 ·exact (hl rfl).elim
 ·exact ⟨fun b B hb => by simp at hb, Nat.zero_le _, rfl, rfl, rfl, rfl, hb⟩
end Go.Ab
namespace Go.Proofs.YtnglhicedhcpbaaGreatDoor
open Go.Ab
open Go.Dsk hiding Bs
set_option linter.unusedVariables false
set_option linter.unusedSimpArgs false
theorem insA {h : Heap} {q : OSl} {o : List Str} {k : Nat} {n : Str} {K : OSl -> Heap -> Prop} (H : HasL strE h q o) (hk : k <= o.length) (hl : o.length <= 100000)
  (hK : ∀ q' h', Ext h h' -> HasL strE h' q' (o.take k ++ n :: o.drop k) -> K q' h') :
  yC 1 q 0 (some (k : Int)) none fun q27 => yC 1 q (k : Int) none none fun q28 =>
   (PNew [] true h fun a29 h30 =>
    (zC 1 16 (some ⟨a29, 0, 0, 0, 0⟩) q27 h30 fun q31 h32 => PNew [.str n] true h32 fun a33 h34 => zC 1 16 q31 (some ⟨a33, 0, 1, 1, 0⟩) h34 fun q35 h36 => zC 1 16 q35 q28 h36 K) /\
    (PNew [.str n] true h30 fun a39 h40 => zC 1 16 (some ⟨a29, 0, 0, 0, 0⟩) q27 h40 fun q41 h42 => zC 1 16 q41 (some ⟨a39, 0, 1, 1, 0⟩) h42 fun q43 h44 => zC 1 16 q43 q28 h44 K)) /\
   (PNew [.str n] true h fun a47 h48 => PNew [] true h48 fun a49 h50 => zC 1 16 (some ⟨a49, 0, 0, 0, 0⟩) q27 h50 fun q51 h52 => zC 1 16 q51 (some ⟨a47, 0, 1, 1, 0⟩) h52 fun q53 h54 => zC 1 16 q53 q28 h54 K) := by
 refine HasL.slice (E := strE) H (by omega) (by simp) (by simpa using hk) fun q27 H27 => ?_
 refine HasL.slice (E := strE) H (by omega) (by simpa using hk) (by simp) fun q28 H28 => ?_
 have H27 : HasL strE h q27 (o.take k) := by simpa using H27
 have H28 : HasL strE h q28 (o.drop k) := by simpa using H28
 have lt : (o.take k).length <= 100000 := by simp; omega
 have ld : (o.take k).length + (o.drop k).length = o.length := by simp; omega
 have fin : ∀ (h1 : Heap) (q31 : OSl) (a : Nat), Ext h h1 -> OwnL strE h1 q31 (o.take k) -> (∀ s, q31 = some s -> h.length <= s.b) -> h1[a]? = some (.cells [.str n] true) -> zC 1 16 q31 (some ⟨a, 0, 1, 1, 0⟩) h1 fun q35 h36 => zC 1 16 q35 q28 h36 K := by
  intro h1 q31 a hx O hq ha
  have hsrc : HasL strE h1 (some ⟨a, 0, 1, 1, 0⟩) [n] := by
   refine ⟨rfl, Nat.le_refl _, .inl rfl, ?_⟩
   rw [zQ (p := ⟨a, 0⟩) ha (by simp [strE])]
   simp [Enc.all, strE]
  refine zA9 (E := strE) O hsrc (by omega) fun q2 h2 O2 K2 hl2 hq2 => ?_
  have hx2 : Ext h h2 := fun b B hB => K2 b B (fun ⟨s, a1, a2⟩ => by have := hq s a1; have := zD hB; omega) (hx _ _ hB)
  refine Grow.append (E := strE) (O2.grow (by simp)) (H28.mono hx2) (by simp at ld ⊢; omega) fun q3 h3 G3 K3 hl3 hq3 => hK q3 h3 ?_ ?_
  ·intro b B hB
   exact K3 b B (fun ⟨s, a1, a2⟩ => by have := hq2 s a1; have := zD hB; have := hx.len; omega) (hx2 _ _ hB)
  ·have := Acc.hasL G3
   simpa using this
 unfold PNew
 refine ⟨⟨?_, ?_⟩, ?_⟩
 ·refine zA6 (E := strE) (a := h.length) (by simp) (H27.mono (Ext.app _ _)) (by omega) fun q31 h32 hx O hq => ?_
  refine fin _ q31 _ (((Ext.app _ _).trans hx).trans (Ext.app _ _)) (O.ext (Ext.app _ _)) (fun s hs => ?_) (by simp)
  rcases hq s hs with a | a
  ·omega
  ·simp at a; omega
 ·refine zA6 (E := strE) (a := h.length) (by rw [List.getElem?_append_left (by simp)]; simp) ((H27.mono (Ext.app _ _)).mono (Ext.app _ _)) (by omega) fun q31 h32 hx O hq => ?_
  refine fin _ q31 _ (((Ext.app _ _).trans (Ext.app _ _)).trans hx) O (fun s hs => ?_) (hx _ _ (by simp))
  rcases hq s hs with a | a
  ·omega
  ·simp at a; omega
 ·refine zA6 (E := strE) (a := (h ++ [Blk.cells [AV.str n] true]).length) (by simp) ((H27.mono (Ext.app _ _)).mono (Ext.app _ _)) (by omega) fun q31 h32 hx O hq => ?_
  refine fin _ q31 _ (((Ext.app _ _).trans (Ext.app _ _)).trans hx) O (fun s hs => ?_) (hx _ _ (by rw [List.getElem?_append_left (by simp)]; simp))
  rcases hq s hs with a | a
  ·simp at a; omega
  ·simp at a; omega
section
variable {h : Heap} {Q : AHp} {p : Nat} {has : Bool} {done : List ED} {mark : ED}
theorem u195 (S : StV h p has done mark) (hd : done.length <= 100) (hrl : ∀ d ∈ yF has done mark, d.2.2.2.length <= 256) (hQ : ∀ q h', Ext h h' -> HasL strE h' q (zN (zS (yF has done mark))) -> Q (.sl q) h') : AC Tryz.prog 195 [.ptr (some ⟨p, 0⟩)] h Q := ac195 (by
 have hlen : (yF has done mark).length <= 101 := by
  unfold yF; cases has <;> simp <;> omega
 have hv82 := fun (Q : AHp) hQ => u251 (Q := Q) S hd hQ
 generalize yF has done mark = l at *
 unfold vc195
 refine hv82 _ fun q4 h3 hx3 hE => ⟨q4, rfl, ?_⟩
 obtain ⟨L, gL, hL, he⟩ := hE
 have gl := gL.len
 have nl : (zS l).length <= 25856 := by have := jV hrl; omega
 refine ⟨fun xs h9 => ∃ (q : OSl) (i : Nat), xs = [.sl q, .int .i64 i] /\ i <= l.length /\ Ext h3 h9 /\ HasL strE h9 q (zN (zS (l.take i))), fun xs _ => match xs with | [_, .int _ i] => (l.length - i).toNat | _ => 0, ⟨none, 0, rfl, by omega, .refl _, rfl⟩, ?_⟩
 rintro q5 i h9 ⟨q5', i', hx, hi, hx9, H9⟩
 simp only [List.cons.injEq, AV.int.injEq, AV.sl.injEq, true_and, and_true] at hx
 obtain ⟨rfl, rfl⟩ := hx
 refine zB (fun h1 => ?_) (fun h1 => ?_)
 ·simp only [decide_eq_true_eq] at h1
  have hdl : i' < l.length := by omega
  have hd' : l[i']? = some l[i'] := List.getElem?_eq_getElem hdl
  have hr256 := hrl l[i'] (List.getElem_mem _)
  generalize hdd : l[i'] = d at *
  have nl2 : (zS (l.take i')).length <= 25856 := by
   have h1 := jV (l := l.take i') (fun d hd => hrl d (List.mem_of_mem_take hd)); have h2 : (l.take i').length <= l.length := List.length_take_le' _ _; omega
  refine ⟨fun xs h14 => ∃ (q : OSl) (k : Nat), xs = [.sl q, .int .i64 k] /\ k <= d.2.2.2.length /\ Ext h3 h14 /\ HasL strE h14 q (zN (zS (l.take i') ++ yW (d.2.2.2.take k))), fun xs _ => match xs with | [_, .int _ i] => (d.2.2.2.length - i).toNat | _ => 0, ⟨q5, 0, rfl, by omega, hx9, by simpa [yW] using H9⟩, ?_⟩
  rintro q10 k h14 ⟨q10', k', hxk, hk, hx14, H14⟩
  simp only [List.cons.injEq, AV.int.injEq, AV.sl.injEq, true_and, and_true] at hxk
  obtain ⟨rfl, rfl⟩ := hxk
  have atE : ∀ {K : PA -> Prop}, (∀ pp x, EdR h14 x d -> zA h14 pp 4 = some (edE.f x) -> K pp) -> vIdx q4 (i' : Int) 4 K := by
   intro K hK
   refine HasL.idx (E := edE) (gL.mono hx14) (by omega) (by omega) fun pp x hx hc' => hK pp x ?_ hc'
   have r := he i' x d (by simpa using hx) hd'
   exact ⟨r.1, r.2.1, r.2.2.1, r.2.2.2.mono hx14⟩
  refine atE fun pp x hR hc' => ⟨x.2.2.2, by have := zW (k := 3) (m := 1) hc' (by omega); simpa [edE] using this, ?_⟩
  have rl := hR.2.2.2.len
  refine zB (fun g1 => ?_) (fun g1 => ?_)
  ·simp only [decide_eq_true_eq] at g1
   refine atE fun pp2 x2 hR2 hc2 => ⟨x2.2.2.2, by have := zW (k := 3) (m := 1) hc2 (by omega); simpa [edE] using this, ?_⟩
   refine HasL.idx (E := refE) hR2.2.2.2 (by omega) (by omega) fun pp3 y hy hcy => ?_
   have hy' : d.2.2.2[k']? = some y := by simpa using hy
   refine ⟨y.1, by have := zW (k := 0) (m := 1) hcy (by simp [refE]); simpa [refE] using this, ?_⟩
   have nxt : zN (zS (l.take i') ++ yW (d.2.2.2.take (k' + 1))) = insR y.1 (zN (zS (l.take i') ++ yW (d.2.2.2.take k'))) := by
    rw [zAV hy', <- List.append_assoc, zG0]
   have olen : (zN (zS (l.take i') ++ yW (d.2.2.2.take k'))).length <= 100000 := by
    have h1 := xX (l := zS (l.take i') ++ yW (d.2.2.2.take k'))
    have h2 : (yW (d.2.2.2.take k')).length <= 256 := by
     rw [yW, List.length_map]; have := List.length_take_le k' d.2.2.2; omega
    rw [List.length_append] at h1; omega
   rw [zF (n := (k' : Int) + 1) ⟨by omega, by omega⟩]
   generalize hoo : zN (zS (l.take i') ++ yW (d.2.2.2.take k')) = o at *
   have ol := H14.len
   refine ⟨fun xs h24 => ∃ (j : Nat), xs = [.int .i64 j] /\ j <= o.length /\ h24 = h14 /\ (∀ t x, t < j -> o[t]? = some x -> bytesLess x y.1 = true), fun xs _ => match xs with | [.int _ i] => (o.length - i).toNat | _ => 0, ⟨0, rfl, by omega, rfl, fun t x ht => by omega⟩, ?_⟩
   rintro j h24 ⟨j', hxj, hj, rfl, hless⟩
   simp only [List.cons.injEq, AV.int.injEq, true_and, and_true] at hxj
   subst hxj
   have stay : (∀ x, o[j']? = some x -> bytesLess x y.1 = false) -> o[j']? = some y.1 -> HasL strE h24 q10 (insR y.1 o) := by
    intro h2 h3
    rw [zJI hless hj h2, if_pos h3]; exact H14
   have put : ∀ q' h', (∀ x, o[j']? = some x -> bytesLess x y.1 = false) -> o[j']? ≠ some y.1 -> HasL strE h' q' (o.take j' ++ y.1 :: o.drop j') -> HasL strE h' q' (insR y.1 o) := by
    intro q' h' h2 h3 h4
    rw [zJI hless hj h2, if_neg h3]; exact h4
   have goOn : ∀ q' h', Ext h24 h' -> HasL strE h' q' (insR y.1 o) -> True /\ (∃ (q : OSl) (k : Nat), [AV.sl q', AV.int .i64 ((k' : Int) + 1)] = [.sl q, .int .i64 k] /\ k <= d.2.2.2.length /\ Ext h3 h' /\ HasL strE h' q (zN (zS (l.take i') ++ yW (d.2.2.2.take k)))) /\ (d.2.2.2.length - ((k' : Int) + 1)).toNat < (d.2.2.2.length - (k' : Int)).toNat := by
    intro q' h' hx' H'
    refine ⟨trivial, ⟨q', k' + 1, by simp, by omega, hx14.trans hx', by rw [nxt]; exact H'⟩, by omega⟩
   refine zB (fun g2 => ?_) (fun g2 => ?_)
   ·simp only [decide_eq_true_eq] at g2
    have atO : ∀ {K : PA -> Prop}, (∀ pp x, o[j']? = some x -> zA h24 pp 1 = some [.str x] -> K pp) -> vIdx q10 (j' : Int) 1 K := by
     intro K hK
     refine HasL.idx (E := strE) H14 (by omega) (by omega) fun pp x hx hc' => hK pp x (by simpa using hx) hc'
    refine atO fun pp4 z hz hcz => ⟨z, hcz, zB (fun g3 => ?_) (fun g3 => ?_)⟩
    ·rw [zF ⟨by omega, by omega⟩]
     refine ⟨trivial, ⟨j' + 1, by simp, by omega, rfl, fun t x ht hx => ?_⟩, by simp only; omega⟩
     rcases Nat.lt_or_ge t j' with h | h
     ·exact hless t x h hx
     ·have : t = j' := by omega
      subst this; rw [hz] at hx; cases hx; exact g3
    ·have hnl : ∀ x, o[j']? = some x -> bytesLess x y.1 = false := fun x hx => by rw [hz] at hx; cases hx; exact g3
     refine zB (fun g4 => ?_) (fun g4 => ?_)
     ·have : (j' : Int) = zJ q10 := by simpa using g4
      omega
     ·refine atO fun pp5 z' hz' hcz' => ⟨z', hcz', zB (fun g5 => ?_) (fun g5 => ?_)⟩
      ·rw [hz] at hz'; cases hz'
       have hne : o[j']? ≠ some y.1 := by rw [hz]; simpa using g5
       exact insA (k := j') H14 hj olen fun q' h' hx' H' => goOn q' h' hx' (put q' h' hnl hne H')
      ·rw [hz] at hz'; cases hz'
       have heq : o[j']? = some y.1 := by rw [hz]; simpa using g5
       exact goOn q10 h24 (.refl _) (stay hnl heq)
   ·simp only [decide_eq_false_iff_not] at g2
    have hj' : j' = o.length := by omega
    have hnone : o[j']? = none := by rw [List.getElem?_eq_none]; omega
    refine zB (fun g4 => ?_) (fun g4 => ?_)
    ·exact insA (k := j') H14 hj olen fun q' h' hx' H' => goOn q' h' hx' (put q' h' (fun x hx => by rw [hnone] at hx; cases hx) (by rw [hnone]; simp) H')
    ·have : ¬ (j' : Int) = zJ q10 := by simpa using g4
     omega
  ·simp only [decide_eq_false_iff_not] at g1
   have hk' : k' = d.2.2.2.length := by omega
   subst hk'
   rw [List.take_length] at H14
   rw [zF ⟨by omega, by omega⟩]
   refine ⟨trivial, ⟨q10, i' + 1, by simp, by omega, hx14, ?_⟩, ?_⟩
   ·rw [vU hd']; exact H14
   ·simp only; omega
 ·simp only [decide_eq_false_iff_not] at h1
  have hi' : i' = l.length := by omega
  subst hi'
  rw [List.take_length] at H9
  exact hQ q5 h9 (hx3.trans hx9) H9)
end
end Go.Proofs.YtnglhicedhcpbaaGreatDoor
