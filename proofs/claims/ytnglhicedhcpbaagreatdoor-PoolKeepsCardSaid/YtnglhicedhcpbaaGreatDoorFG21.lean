/- The document's segment is opened. -/
import Derived.Test.YtnglhicedhcpbaaGreatDoorFG20
namespace Go.Proofs.YtnglhicedhcpbaaGreatDoor
open Go.Ab
open Go.Num hiding Bs snoc_ind
open Go.Ent Go.Seg
open Go.Page hiding Bs get
set_option linter.unusedVariables false
set_option linter.unusedSimpArgs false
/-- The document's segment in the heap. -/
structure DocO (h : Heap) (p : Nat) (q : Option SL) (base count : Nat) (heads : List Ent) (qh : Option SL) : Prop where
  at' : h[p]? = some (.cells [.sl q, .int .i64 (base : Nat), .int .i64 (count : Nat), .sl qh] true)
  hd : Apd entE h qh heads
theorem DocO.keeps {h h' : Heap} {X : Nat → Prop} {p : Nat} {q qh : Option SL} {base count : Nat} {heads : List Ent} (O : DocO h p q base count heads qh) (K : Keeps X h h') (hp : ¬ X p) (hq : ∀ t, qh = some t → ¬ X t.b) : DocO h' p q base count heads qh :=
  ⟨K _ _ hp O.at', O.hd.keeps K hq⟩
theorem packs_flat {gs : Gs} {i : Nat} {g : List Ent} (h : gs[i]? = some g) : (gs.take (i + 1)).flatten = (gs.take i).flatten ++ g := by
  rw [List.take_add_one, h]; simp
/-- The index as far as it is read: packs, and their entries. -/
structure OpI (h18 h28 : Heap) (p : Nat) (q : Option SL) (base cnt : Nat) (q24 qh : Option SL) (qs : List (Option SL)) (bs : List Bs) (hs : List Ent) : Prop where
  ext : Ext h18 h28
  at' : h28[p]? = some (.cells [.sl q, .int .i64 (base : Nat), .int .i64 (cnt : Nat), .sl qh] true)
  pn : h18.length ≤ p
  hd : Apd entE h28 qh hs
  hf : ∀ t, qh = some t → p < t.b
  pk : Apd slE h28 q24 qs
  pf : ∀ t, q24 = some t → p < t.b
  len : qs.length = bs.length
  el : ∀ (i : Nat) (s : Option SL) (b : Bs), qs[i]? = some s → bs[i]? = some b → HasL byE h28 s b
  ef : ∀ (i : Nat) (t : SL), qs[i]? = some (some t) → p < t.b
  d1 : ∀ t u, qh = some t → q24 = some u → t.b ≠ u.b
  d2 : ∀ (i : Nat) (t u : SL), qh = some t → qs[i]? = some (some u) → t.b ≠ u.b
  d3 : ∀ (i : Nat) (t u : SL), q24 = some t → qs[i]? = some (some u) → t.b ≠ u.b
section
variable {h18 h28 h29 : Heap} {p base cnt : Nat} {q q24 qh : Option SL} {qs : List (Option SL)} {bs : List Bs} {hs : List Ent}
theorem OpI.grow (I : OpI h18 h28 p q base cnt q24 qh qs bs hs) (x : Ext h28 h29) : OpI h18 h29 p q base cnt q24 qh qs bs hs :=
  { I with
    ext := I.ext.trans x
    at' := x _ _ I.at'
    hd := I.hd.ext x
    pk := I.pk.ext x
    el := fun i s b h1 h2 => (I.el i s b h1 h2).mono x }
theorem OpI.live (I : OpI h18 h28 p q base cnt q24 qh qs bs hs) {i : Nat} {t : SL} (ht : qs[i]? = some (some t)) : t.b < h28.length := by
  have hi : i < bs.length := by rw [← I.len]; exact (List.getElem?_eq_some_iff.1 ht).1
  exact HasL.live (I.el i _ _ ht (List.getElem?_eq_getElem hi)) t rfl
theorem OpI.lls (I : OpI h18 h28 p q base cnt q24 qh qs bs hs) : Lls byE h28 q24 bs := ⟨qs, I.pk.hasL, I.len, I.el⟩
theorem OpI.push {s s2 : Option SL} {b : Bs} {g : List Ent} {K : Option SL → Heap → Prop} (I : OpI h18 h28 p q base cnt q24 qh qs bs hs) (H : HasL byE h28 s b) (hb : qs.length ≤ 1000000)
    (f1 : ∀ t, s = some t → p < t.b) (f2 : ∀ t u, s = some t → qh = some u → u.b ≠ t.b) (f3 : ∀ t u, s = some t → q24 = some u → u.b ≠ t.b) (H2 : HasL entE h28 s2 g) (f4 : ∀ t u, s2 = some t → q24 = some u → u.b ≠ t.b)
    (hK : ∀ out' h', OpI h18 h' p q base cnt out' qh (qs ++ [s]) (bs ++ [b]) hs → HasL entE h' s2 g → K out' h') : PAppendS 1 24 q24 (some ⟨h28.length, 0, 1, 1, 0⟩) (h28 ++ [.cells [.sl s] true]) K := by
  have x : Ext h28 (h28 ++ [Blk.cells [.sl s] true]) := .app _ _
  have I' := I.grow x
  have hne : ∀ c, c < h28.length → c ≠ h28.length := fun c hc => by omega
  refine Apd.append (E := slE) I'.pk (HasL.new (E := slE) (l := [s]) (n := 1) rfl rfl) (by simp; omega) fun out' h' A' K' l' f' => ?_
  have np : ¬ (∃ u, q24 = some u ∧ u.b = p) := fun ⟨u, a, b⟩ => by have := I.pf u a; omega
  have nh : ∀ t, qh = some t → ¬ (∃ u, q24 = some u ∧ u.b = t.b) := fun t ht ⟨u, a, b⟩ => I.d1 t u ht a b.symm
  have ne : ∀ (i : Nat) (t : SL), qs[i]? = some (some t) → ¬ (∃ u, q24 = some u ∧ u.b = t.b) := fun i t ht ⟨u, a, b⟩ => I.d3 i u t a ht b
  have ns : ∀ t, s = some t → ¬ (∃ u, q24 = some u ∧ u.b = t.b) := fun t ht ⟨u, a, b⟩ => f3 t u ht a b
  have at1 : ∀ (i : Nat) (t : Option SL), (qs ++ [s])[i]? = some t → qs[i]? = some t ∨ (i = qs.length ∧ t = s) := fun i t ht => by
    rcases Nat.lt_or_ge i qs.length with h1 | h1
    · rw [List.getElem?_append_left h1] at ht; exact .inl ht
    · rw [List.getElem?_append_right h1] at ht
      have h2 : i - qs.length = 0 := by
        have := (List.getElem?_eq_some_iff.1 ht).1
        simpa using this
      rw [h2] at ht
      cases ht
      exact .inr ⟨by omega, rfl⟩
  have fresh : ∀ o, out' = some o → h28.length + 1 ≤ o.b ∨ ∃ u, q24 = some u ∧ u.b = o.b := fun o ho => by
    have := f' o ho
    simpa using this
  refine hK out' h' ⟨?_, K' _ _ np I'.at', I.pn, I'.hd.keeps K' nh, I.hf, A', ?_, by simp [I.len], ?_, ?_, ?_, ?_, ?_⟩ (K'.hasL (fun t ht ⟨u, a, b⟩ => f4 t u ht a b) (H2.mono x))
  · intro c B hB
    refine K' _ _ (fun ⟨u, a, b⟩ => ?_) (I'.ext _ _ hB)
    have := I.pf u a; have := lt_of_get hB; have := I.pn; omega
  · intro t ht
    rcases fresh t ht with h1 | ⟨u, a, b⟩
    · have := lt_of_get I.at'; omega
    · have := I.pf u a; omega
  · intro i t b' ht hb'
    rcases at1 i t ht with h1 | ⟨rfl, rfl⟩
    · rw [List.getElem?_append_left (by rw [← I.len]; exact (List.getElem?_eq_some_iff.1 h1).1)] at hb'
      refine K'.hasL (fun u hu => by subst hu; exact ne i u h1) (I'.el i t b' h1 hb')
    · rw [List.getElem?_append_right (by rw [I.len]; exact Nat.le_refl _), I.len, Nat.sub_self] at hb'
      cases hb'
      exact K'.hasL ns (H.mono x)
  · intro i t ht
    rcases at1 i _ ht with h1 | ⟨_, h1⟩
    · exact I.ef i t h1
    · exact f1 t h1.symm
  · intro t u ht hu
    rcases fresh u hu with h1 | ⟨v, a, b⟩
    · have := HasL.live I.hd.hasL t ht; omega
    · rw [← b]; exact I.d1 t v ht a
  · intro i t u ht hu
    rcases at1 i _ hu with h1 | ⟨_, h1⟩
    · exact I.d2 i t u ht h1
    · exact f2 u t h1.symm ht
  · intro i t u ht hu
    rcases fresh t ht with h1 | ⟨v, a, b⟩
    · rcases at1 i _ hu with h2 | ⟨_, h2⟩
      · have := I.live h2; omega
      · have := HasL.live H u h2.symm; omega
    · rcases at1 i _ hu with h2 | ⟨_, h2⟩
      · rw [← b]; exact I.d3 i v u a h2
      · rw [← b]; exact f3 u v h2.symm a
theorem OpI.app {s2 : Option SL} {g : List Ent} {K : Heap → Prop} (I : OpI h18 h28 p q base cnt q24 qh qs bs hs) (H2 : HasL entE h28 s2 g) (hb : hs.length + g.length ≤ 1000000)
    (hK : ∀ q44 h', OpI h18 h' p q base cnt q24 q44 qs bs (hs ++ g) → K h') : PAppendS 4 32 qh s2 h28 fun q44 h45 => PStore h45 ⟨p, 3⟩ [.sl q44] K := by
  refine Apd.append (E := entE) I.hd H2 (by omega) fun q44 h45 A' K' l' f' => ?_
  have np : ¬ (∃ u, qh = some u ∧ u.b = p) := fun ⟨u, a, b⟩ => by have := I.hf u a; omega
  have b45 := K' _ _ np I.at'
  have npk : ∀ t, q24 = some t → ¬ (∃ u, qh = some u ∧ u.b = t.b) := fun t ht ⟨u, a, b⟩ => I.d1 u t a ht b
  have ne : ∀ (i : Nat) (t : SL), qs[i]? = some (some t) → ¬ (∃ u, qh = some u ∧ u.b = t.b) := fun i t ht ⟨u, a, b⟩ => I.d2 i u t a ht b
  have hpl := lt_of_get b45
  have K2 : Keeps (fun b => b = p) h45 (h45.set p (.cells [.sl q, .int .i64 (base : Nat), .int .i64 (cnt : Nat), .sl q44] true)) := keeps_set rfl
  have gp : ∀ t, q44 = some t → p < t.b := fun t ht => by
    rcases f' t ht with h1 | ⟨u, a, b⟩
    · have := lt_of_get I.at'; omega
    · have := I.hf u a; omega
  have := store6 (o := 3) (xs := [.sl q44]) (K := K) b45 (by simp)
  rw [Nat.zero_add] at this
  refine this (hK q44 _ ⟨?_, by rw [show splice [AV.sl q, .int .i64 (base : Nat), .int .i64 (cnt : Nat), .sl qh] 3 [.sl q44] = [AV.sl q, .int .i64 (base : Nat), .int .i64 (cnt : Nat), .sl q44] from rfl, List.getElem?_set_self hpl], I.pn, ?_, gp, ?_, I.pf, I.len, ?_, I.ef, ?_, ?_, I.d3⟩)
  · intro c B hB
    have hc := lt_of_get hB
    have := I.pn
    refine K2 _ _ (by omega) (K' _ _ (fun ⟨u, a, b⟩ => ?_) (I.ext _ _ hB))
    have := I.hf u a; omega
  · exact A'.keeps K2 fun t ht hc => by have := gp t ht; omega
  · exact (I.pk.keeps K' npk).keeps K2 fun t ht hc => by have := I.pf t ht; omega
  · intro i t b' ht hb'
    refine K2.hasL (fun u hu hc => ?_) (K'.hasL (fun u hu => by subst hu; exact ne i u ht) (I.el i t b' ht hb'))
    subst hu
    have := I.ef i u ht; omega
  · intro t u ht hu
    rcases f' t ht with h1 | ⟨v, a, b⟩
    · have := HasL.live I.pk.hasL u hu; omega
    · rw [← b]; exact I.d1 v u a hu
  · intro i t u ht hu
    rcases f' t ht with h1 | ⟨v, a, b⟩
    · have := I.live hu; omega
    · rw [← b]; exact I.d2 i v u a hu
end
section
variable {h : Heap} {Q : AV → Heap → Prop}
theorem k60 {base : Nat} {q : Option SL} {l : List Ent} (I : Lls byE h q (sectors base l)) (hok : ∀ e ∈ l, entOk e = true) (hl : l.length ≤ 16384) (hso : SortedL l) (b1 : 1 ≤ base) (hb : base ≤ 2305843009213693952)
    (hQ : ∀ p qh h', Ext h h' → h.length ≤ p → (∀ t, qh = some t → h.length ≤ t.b) → DocO h' p q base l.length (headsG (packG l)) qh → Q (.tup [.ptr (some ⟨p, 0⟩), .bool true]) h') :
    AC Tryz.prog 60 [.sl q, .int .i64 (base : Nat)] h Q := ac60 (by
  unfold vc60 PNew
  have hpl := packG_len hok
  have hil2 := idx_len hok
  have fit := pagesB_fit hok hl
  have lI := I.len
  have sl : (sectors base l).length = (packG l).length + (idx l).length + 1 := sectors_len
  have lpg : (pagesB l).length = (packG l).length + (idx l).length + 1 := pagesB_len
  rw [lI, sl]
  refine vif_mk (fun g => by simp at g; omega) (fun _ => ?_)
  have e1 : wrapK .i64 ((((packG l).length + (idx l).length + 1 : Nat) : Int) - 1) = (((packG l).length + (idx l).length : Nat) : Int) := by rw [wrapK_i64 ⟨by omega, by omega⟩]; omega
  have e2 : wrapK .i64 (wrapK .i64 (((base : Nat) : Int) + (((packG l).length + (idx l).length + 1 : Nat) : Int)) - 1) = ((base + ((packG l).length + (idx l).length) : Nat) : Int) := by
    rw [wrapK_i64 (n := ((base : Nat) : Int) + _) ⟨by omega, by omega⟩, wrapK_i64 ⟨by omega, by omega⟩]; omega
  rw [e1, e2]
  refine I.idx (by omega) (by rw [sl]; omega) fun p3 q4 x hx hc Hx => ⟨q4, hc, ?_⟩
  have hx' : (sectors base l)[(packG l).length + (idx l).length]? = some x := by
    rw [show ((((packG l).length + (idx l).length : Nat) : Int)).toNat = (packG l).length + (idx l).length by omega] at hx
    exact hx
  obtain ⟨b, hb1, hb2, rfl⟩ := sectors_get hx'
  have hbl : b = countB l.length (packG l).length (idx l).length := by
    rw [pagesB_parts, List.getElem?_append_right (by simp)] at hb2
    simp at hb2
    exact hb2.symm
  have bl := fit b hb1
  have hget := get_put (tag := base + ((packG l).length + (idx l).length)) bl
  refine k134 Hx (by rw [put_len bl]; omega) (by omega) (by simp only [maxTag]; omega) (fun hn => by rw [hget] at hn; cases hn) fun b' q7 h6 hg x6 H7 f7 => ⟨_, _, rfl, vif_mk (fun g => by simp at g) (fun _ => ?_)⟩
  rw [hget] at hg; cases hg
  have x10 : Ext h6 (h6 ++ [Blk.cells [.sl q7, .bool false] true]) := .app _ _
  have Rd0 : Rd (h6 ++ [Blk.cells [.sl q7, .bool false] true]) h6.length (some b) := ⟨q7, by simp, H7.mono x10, fun s hs => by subst hs; exact HasL.live H7 s rfl⟩
  have bd0 : Bd (some b) := fun l hl => by cases hl; omega
  refine u135 Rd0 bd0 fun h12 F12 R12 => ⟨_, rfl, ?_⟩
  refine u135 R12 bd0.nm fun h15 F15 R15 => ⟨_, rfl, ?_⟩
  refine u135 R15 bd0.nm.nm fun h18 F18 R18 => ⟨_, rfl, ?_⟩
  have x18 : Ext h h18 := by
    have := ((F12.trans F15).trans F18).ext x10 (Nat.le_refl _)
    exact x6.trans this
  have n1 : nm (some b) = some (l.length, numB (packG l).length ++ numB (idx l).length) := by
    show rdN b = _
    rw [hbl]; unfold countB; rw [List.append_assoc, rdN_numB (by omega)]
  have n2 : nm (some (numB (packG l).length ++ numB (idx l).length)) = some ((packG l).length, numB (idx l).length) := rdN_numB (by omega)
  have n3 : nm (some (numB (idx l).length)) = some ((idx l).length, []) := by
    have e : numB (idx l).length = numB (idx l).length ++ [] := by simp
    show rdN (numB (idx l).length) = _
    rw [e, rdN_numB (by omega)]
  have s1 : stO (nm (some b)) = some (numB (packG l).length ++ numB (idx l).length) := by rw [n1]; rfl
  have s2 : stO (nm (some (numB (packG l).length ++ numB (idx l).length))) = some (numB (idx l).length) := by rw [n2]; rfl
  have s3 : stO (nm (some (numB (idx l).length))) = some [] := by rw [n3]; rfl
  rw [s1] at R15 R18 ⊢
  rw [s2] at R18 ⊢
  rw [s3] at R18
  have v1 : valN (nm (some b)) = (l.length : Nat) := by rw [n1]; rfl
  have v2 : valN (nm (some (numB (packG l).length ++ numB (idx l).length))) = ((packG l).length : Nat) := by rw [n2]; rfl
  have v3 : valN (nm (some (numB (idx l).length))) = ((idx l).length : Nat) := by rw [n3]; rfl
  rw [v1, v2, v3]
  obtain ⟨q21, hb21, H21, _⟩ := R18
  have c1 : cellsAt h18 ⟨h6.length, 1⟩ 1 = some [.bool false] := by rw [cellsAt_mk (p := ⟨h6.length, 1⟩) hb21 (by simp)]; rfl
  have c0 : cellsAt h18 ⟨h6.length, 0⟩ 1 = some [.sl q21] := by rw [cellsAt_mk (p := ⟨h6.length, 0⟩) hb21 (by simp)]; rfl
  refine ⟨false, c1, vif_mk (fun g => by cases g) (fun _ => ⟨q21, c0, ?_⟩)⟩
  rw [H21.len]
  refine vif_mk (fun g => by simp at g) (fun _ => ?_)
  refine vif_mk (fun g => by have := of_decide_eq_true g; omega) (fun _ => ?_)
  refine vif_mk (fun g => by have := of_decide_eq_true g; omega) (fun _ => ?_)
  have e3 : wrapK .i64 (((packG l).length : Int) + ((idx l).length : Int)) = (((packG l).length + (idx l).length : Nat) : Int) := by rw [wrapK_i64 ⟨by omega, by omega⟩]; omega
  rw [e3, wrapK_i64 ⟨by omega, by omega⟩]
  refine vif_mk (fun g => by simp at g) (fun _ => ?_)
  have x23 : Ext h18 (h18 ++ [Blk.cells [.sl q, .int .i64 (base : Nat), .int .i64 (l.length : Nat), .sl none] true]) := .app _ _
  have lh : h.length ≤ h18.length := x18.len
  generalize hh23 : h18 ++ [Blk.cells [.sl q, .int .i64 (base : Nat), .int .i64 (l.length : Nat), .sl none] true] = h23 at *
  have b23 : h23[h18.length]? = some (.cells [.sl q, .int .i64 (base : Nat), .int .i64 (l.length : Nat), .sl none] true) := by rw [← hh23]; simp
  generalize hpp : h18.length = pp at *
  refine ⟨fun xs h28 => ∃ (q24 qh : Option SL) (qs : List (Option SL)) (i : Nat), xs = [.sl q24, .int .i64 (((packG l).length + i : Nat) : Int)] ∧ i ≤ (idx l).length ∧ OpI h18 h28 pp q base l.length q24 qh qs (encP ((idx l).take i)) ((idx l).take i).flatten,
    fun xs _ => match xs with | [_, .int _ i] => (((packG l).length + (idx l).length : Nat) - i).toNat | _ => 0, ⟨none, none, [], 0, rfl, by omega, x23, b23, by omega, .inl ⟨rfl, rfl⟩, by simp, .inl ⟨rfl, rfl⟩, by simp, rfl, by simp, by simp, by simp, by simp, by simp⟩, ?_⟩
  rintro q24 n25 h28 ⟨q24', qh, qs, i, hx, hi, O⟩
  simp only [List.cons.injEq, AV.int.injEq, AV.sl.injEq, true_and, and_true] at hx
  obtain ⟨rfl, rfl⟩ := hx
  have x28 : Ext h h28 := x18.trans O.ext
  have c3 : cellsAt h28 ⟨pp, 3⟩ 1 = some [.sl qh] := by rw [cellsAt_mk (p := ⟨pp, 3⟩) O.at' (by simp)]; rfl
  have hflat : ((idx l).take i).flatten.length ≤ (headsG (packG l)).length := by
    have := packG_flat (headsG (packG l))
    have h2 : ((idx l).take i).flatten.length ≤ (idx l).flatten.length := by
      have : (idx l).flatten = ((idx l).take i).flatten ++ ((idx l).drop i).flatten := by rw [← List.flatten_append, List.take_append_drop]
      rw [this, List.length_append]; omega
    rw [show (idx l).flatten = headsG (packG l) from this] at h2
    exact h2
  have hhl := headsG_le (gs := packG l)
  refine vif_mk (fun g => ?_) (fun g => ?_)
  · replace g := of_decide_eq_true g
    have hix : i < (idx l).length := by omega
    refine (I.mono x28).idx (by omega) (by rw [sl]; omega) fun p29 q30 y hy hc Hy => ⟨q30, hc, ?_⟩
    have hgx : (idx l)[i]? = some (idx l)[i] := List.getElem?_eq_getElem hix
    generalize (idx l)[i] = gg at hgx
    have hy' : (sectors base l)[(packG l).length + i]? = some y := by
      rw [show ((((packG l).length + i : Nat) : Int)).toNat = (packG l).length + i by omega] at hy
      exact hy
    obtain ⟨c, hc1, hc2, rfl⟩ := sectors_get hy'
    have hce : c = encL gg := by
      rw [pagesB_parts, List.append_assoc, List.getElem?_append_right (by simp), List.getElem?_append_left (by simp; omega)] at hc2
      simp only [List.length_map, Nat.add_sub_cancel_left, List.getElem?_map, hgx, Option.map_some, Option.some.injEq] at hc2
      exact hc2.symm
    have cl := fit c hc1
    have hget := get_put (tag := base + ((packG l).length + i)) cl
    have ew : wrapK .i64 (((base : Nat) : Int) + (((packG l).length + i : Nat) : Int)) = ((base + ((packG l).length + i) : Nat) : Int) := by rw [wrapK_i64 ⟨by omega, by omega⟩]; omega
    rw [ew]
    refine k134 Hy (by rw [put_len cl]; omega) (by omega) (by simp only [maxTag]; omega) (fun hn => by rw [hget] at hn; cases hn) fun b' q33 h32 hg x32 H33 f33 => ⟨_, _, rfl, ?_⟩
    rw [hget] at hg; cases hg
    have hun : unpack c = some gg := by rw [hce]; exact unpack_enc (packG_ok (idx_ok hok) gg (List.mem_of_getElem? hgx))
    refine k136 H33 (by omega) (fun hn => by rw [hun] at hn; cases hn) fun l2 q37 h36 hl2 x36 A37 f37 => ⟨_, _, rfl, ?_⟩
    rw [hun] at hl2; cases hl2
    refine vif_mk (fun g => by simp at g) (fun _ => vif_mk (fun g => by simp at g) (fun _ => ?_))
    have O36 := O.grow (x32.trans x36)
    have lq : qs.length = i := by rw [O.len, List.length_map, List.length_take]; omega
    have l28 := lt_of_get O.at'
    have gl : gg.length ≤ 43 := by
      have := encL_len4 (l := gg)
      rw [← hce] at this; omega
    have l32 := x32.len
    refine O36.push (H33.mono x36) (by omega) (fun t ht => ?_) (fun t u ht hu => ?_) (fun t u ht hu => ?_) A37.hasL (fun t u ht hu => ?_) fun out' h' O' H' => ?_
    · have := f33 t ht; omega
    · have := f33 t ht; have := HasL.live O.hd.hasL u hu; omega
    · have := f33 t ht; have := HasL.live O.pk.hasL u hu; omega
    · have := f37 t ht; have := HasL.live O.pk.hasL u hu; omega
    have c3' : cellsAt h' ⟨pp, 3⟩ 1 = some [.sl qh] := by rw [cellsAt_mk (p := ⟨pp, 3⟩) O'.at' (by simp)]; rfl
    refine ⟨qh, c3', ?_⟩
    refine O'.app H' (by omega) fun q44 h46 O46 => ?_
    rw [wrapK_i64 ⟨by omega, by omega⟩]
    refine ⟨trivial, ⟨out', q44, qs ++ [q33], i + 1, by simp; omega, by omega, ?_⟩, by simp only; omega⟩
    have t1 : encP ((idx l).take (i + 1)) = encP ((idx l).take i) ++ [c] := by rw [List.take_add_one, hgx, hce]; simp
    rw [t1, packs_flat hgx]
    exact O46
  · replace g := of_decide_eq_false g
    have hie : i = (idx l).length := by omega
    subst hie
    rw [List.take_length] at O hflat
    have hfl : (idx l).flatten = headsG (packG l) := packG_flat _
    rw [hfl] at O hflat
    have hne : ∀ g ∈ packG l, g ≠ [] := fun g hg => (packG_fit hok g hg).1
    have hhd := headsG_len hne
    have Hh := O.hd.hasL
    refine ⟨qh, c3, ?_⟩
    rw [Hh.len, hhd]
    refine vif_mk (fun g => by simp at g) (fun _ => ⟨qh, c3, ?_⟩)
    have hsh : SortedL (headsG (packG l)) := headsG_sorted (by rw [packG_flat]; exact hso)
    refine z137 Hh (by omega) ⟨_, rfl, ?_⟩
    refine vif_mk (fun g => by simp [hsh] at g) (fun _ => ⟨qh, c3, ?_⟩)
    refine k139 Hh (by omega) (idx_ok hok) fun q55 qs55 h54 L55 => ⟨q55, rfl, ?_⟩
    have x54 := L55.ext
    refine k138 L55.lls (O.lls.mono x54) (by rw [List.length_map]; have : (packG (headsG (packG l))).length = (idx l).length := rfl; omega) ⟨_, rfl, ?_⟩
    refine vif_mk (fun g => by simp [idx] at g) (fun _ => ?_)
    exact hQ pp qh _ (x28.trans x54) (by omega) (fun t ht => by have := O.hf t ht; omega) ⟨x54 _ _ O.at', O.hd.ext x54⟩)
end
end Go.Proofs.YtnglhicedhcpbaaGreatDoor

/- The document's segment: a page; the last page that comes ahead. -/
namespace Go.Proofs.YtnglhicedhcpbaaGreatDoor
open Go.Ab
open Go.Num hiding Bs snoc_ind
open Go.Ent Go.Seg
open Go.Page hiding Bs get
set_option linter.unusedVariables false
set_option linter.unusedSimpArgs false
section
variable {h : Heap} {Q : AV → Heap → Prop} {dp base count : Nat} {q qh : Option SL} {heads : List Ent} {e : Ent}
theorem doc_at (O : DocO h dp q base count heads qh) {k : Nat} {x : AV} (hx : [AV.sl q, .int .i64 (base : Nat), .int .i64 (count : Nat), .sl qh][k]? = some x) : cellsAt h ⟨dp, 0 + k⟩ 1 = some [x] := by
  have hk : k < 4 := by
    have := (List.getElem?_eq_some_iff.1 hx).1
    simpa using this
  rw [cells6 O.at' (by simp only [List.length_cons, List.length_nil]; omega)]
  match k, hk with
  | 0, _ | 1, _ | 2, _ | 3, _ => cases hx; rfl
/-- Find. -/
theorem k63 (O : DocO h dp q base count heads qh) (hso : SortedL heads) (hl : heads.length ≤ 1000000) (hQ : Q (.int .i64 (findS heads e : Nat)) h) : AC Tryz.prog 63 [.ptr (some ⟨dp, 0⟩), entV e] h Q := ac63 (by
  unfold vc63
  have H := O.hd.hasL
  refine ⟨fun xs h10 => h10 = h ∧ ∃ i : Nat, xs = [.int .i64 (findS (heads.take i) e : Nat), .int .i64 (i : Nat)] ∧ i ≤ heads.length, fun xs _ => match xs with | [_, .int _ i] => (heads.length - i).toNat | _ => 0, ⟨rfl, 0, rfl, by omega⟩, ?_⟩
  rintro n6 n7 h10 ⟨rfl, i, hx, hi⟩
  simp only [List.cons.injEq, AV.int.injEq, true_and, and_true] at hx
  obtain ⟨rfl, rfl⟩ := hx
  refine ⟨_, doc_at O (k := 3) rfl, ?_⟩
  rw [H.len]
  refine vif_mk (fun g => ?_) (fun g => ?_)
  · replace g := of_decide_eq_true g
    refine ⟨_, doc_at O (k := 3) rfl, ?_⟩
    have hxx : heads[i]? = some (heads[i]'(by omega)) := List.getElem?_eq_getElem _
    generalize heads[i]'(by omega) = x at hxx
    have hsn := findS_snoc (e := e) hso hxx
    refine idx4 H hxx rfl fun p hc => ⟨_, _, _, _, hc, ?_⟩
    refine z133 (a := x) (b := e) ⟨_, rfl, ?_⟩
    rw [wrapK_i64 ⟨by omega, by omega⟩]
    refine vif_mk (fun g2 => ?_) (fun g2 => ?_)
    · have g2 : ltE x e := cmpE_lt.1 (of_decide_eq_true g2)
      rw [if_pos g2] at hsn
      exact ⟨⟨rfl, trivial⟩, ⟨rfl, i + 1, by rw [hsn]; simp, by omega⟩, by simp only; omega⟩
    · have g2 : ¬ ltE x e := fun hc => (of_decide_eq_false g2) (cmpE_lt.2 hc)
      rw [if_neg g2] at hsn
      exact ⟨⟨rfl, trivial⟩, ⟨rfl, i + 1, by rw [hsn]; simp, by omega⟩, by simp only; omega⟩
  · replace g := of_decide_eq_false g
    have : i = heads.length := by omega
    subst this
    rw [List.take_length]; exact hQ)
end
end Go.Proofs.YtnglhicedhcpbaaGreatDoor
