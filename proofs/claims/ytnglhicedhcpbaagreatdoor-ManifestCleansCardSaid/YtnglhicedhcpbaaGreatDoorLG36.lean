import Derived.Test.YtnglhicedhcpbaaGreatDoorLG24
import Derived.Test.YtnglhicedhcpbaaGreatDoorLG31
namespace Go.Man
open Go.Page Go.Dsk
open Go.Ab (splice)
set_option linter.unusedVariables false
set_option linter.unusedSimpArgs false
variable {J : Jr} {D : DS} {s s' : J.S} {es : List J.E} {e : J.E} {t : Bs} {b : Nat} {f : FA}
theorem zPX (M : Mid J D.files D.pends s) : zCX J (match D.find nJ with | some f => f.now.map pad | none => []) = s := by
 cases hf : D.find nJ with
 | none =>
  have h1 := M.none (zKR hf)
  rw [h1]; rfl
 | some f =>
  obtain ⟨a, c⟩ := kH hf
  exact (M.jour f a c).2.2
structure MidI (J : Jr) (D0 D : DS) (s : J.S) : Prop where
 ok : DOk D
 mid : Mid J D.files D.pends s
 off : D.off = false
 pn : D.pends = []
 lim : D.limit = D0.limit
 lft : D0.left = -1 -> D.left = -1
 use : D.used <= D0.used
theorem zDA {keep : Bs -> Bool} (hk : keep nJ = true) : ∀ {l : List Bs} {D0 D : DS} {n : Int}, MidI J D0 D s -> l.Nodup -> (∀ t ∈ l, (D.find t).isSome) ->
  ((xR keep D l n).2.1 = 0 /\ MidI J D0 (xR keep D l n).2.2 s) ∨ ((xR keep D l n).2.1 ≠ 0 /\ zE8 J D0 (xR keep D l n).2.2 s)
 | [], D0, D, n, I, _, _ => .inl ⟨rfl, I⟩
 | t :: l, D0, D, n, I, hn, hf => by
  rw [List.nodup_cons] at hn
  rw [xR]
  by_cases hkt : keep t = true
  ·rw [if_pos hkt]
   exact zDA hk I hn.2 fun u hu => hf u (by simp [hu])
  ·rw [if_neg hkt]
   rcases zOV (t := t) I.ok I.mid I.off I.pn (fun h => hkt (by rw [h]; exact hk)) (hf t (by simp)) with ⟨a1, a2, a3, a4, a5, a6, a7, a8, a9, a10⟩ | ⟨a1, G⟩
   ·rw [if_pos a1]
    refine zDA hk ⟨a2, a3, a4, a5, a6.trans I.lim, fun h => a7 (I.lft h), Nat.le_trans a8 I.use⟩ hn.2 fun u hu => ?_
    obtain ⟨g, hg⟩ := Option.isSome_iff_exists.1 (hf u (by simp [hu]))
    obtain ⟨g1, g2⟩ := kH hg
    have hut : u ≠ t := fun h => hn.1 (by rw [<- h]; exact hu)
    unfold DS.find
    rw [List.find?_isSome]
    refine ⟨g, ?_, by simp [g2]⟩
    rw [a10]
    refine List.mem_filter.2 ⟨g1, ?_⟩
    rw [g2, beq_false_of_ne hut]; rfl
   ·rw [if_neg a1]
    exact .inr ⟨a1, G.mid, fun h => G.lft (I.lft h)⟩
theorem zO6 (names : List Bs) (O : DOk D) (M : Mid J D.files D.pends s) (ho : D.off = false) (hp : D.pends = []) : ((yJ D names).2.1 = 0 /\ MidI J D (yJ D names).2.2 s) ∨ ((yJ D names).2.1 ≠ 0 /\ zE8 J D (yJ D names).2.2 s) := by
 refine zDA (by unfold vA; simp) ⟨O, M, ho, hp, rfl, id, Nat.le_refl _⟩ kG fun t ht => ?_
 unfold DS.namesL at ht
 rw [xA] at ht
 obtain ⟨f, hf, hn⟩ := List.mem_map.1 ht
 unfold DS.find
 rw [List.find?_isSome]
 exact ⟨f, hf, by simp [hn]⟩
theorem zQC (names : List Bs) (O : DOk D) (M : Mid J D.files D.pends s) (ho : D.off = false) (hp : D.pends = []) (hs : fold J.emp es = some s) (hsz : szs J es <= 2000) (hu : D.used + szs J es <= D.limit)
  (hb : (yJ D names).2.1 = 0 -> (zP (yJ D names).2.2).1 = 0 -> ((zP (yJ D names).2.2).2.create nN b).1 = 0 -> ∀ y ∈ (zP (yJ D names).2.2).2.files, y.b ≠ b) :
  ((yJ D names).2.1 = 0 /\ (layP J (yJ D names).2.2 b 0 es).1 = 0 /\ Idle J (layP J (yJ D names).2.2 b 0 es).2.1 es /\ (layP J (yJ D names).2.2 b 0 es).2.2 = szs J es /\ (layP J (yJ D names).2.2 b 0 es).2.1.off = false /\ (layP J (yJ D names).2.2 b 0 es).2.1.limit = D.limit /\ (D.left = -1 -> (layP J (yJ D names).2.2 b 0 es).2.1.left = -1)) ∨
  ((yJ D names).2.1 = 0 /\ (layP J (yJ D names).2.2 b 0 es).1 ≠ 0 /\ zE8 J D (layP J (yJ D names).2.2 b 0 es).2.1 s) ∨ ((yJ D names).2.1 ≠ 0 /\ zE8 J D (yJ D names).2.2 s) := by
 rcases zO6 names O M ho hp with ⟨h1, I⟩ | ⟨h1, G⟩
 ·rcases lay_mid (b := b) I.ok I.mid I.off I.pn hs hsz (by have := I.use; have := I.lim; omega) 0 (hb h1) with ⟨a1, a2, a3, a4, a5, a6⟩ | ⟨a1, G⟩
  ·exact .inl ⟨h1, a1, a2, a3, a4, a5.trans I.lim, fun h => a6 (I.lft h)⟩
  ·exact .inr (.inl ⟨h1, a1, G.mid, fun h => G.lft (I.lft h)⟩)
 ·exact .inr (.inr ⟨h1, G⟩)
structure ComI (J : Jr) (D0 D : DS) (es : List J.E) (e : J.E) (m : Nat) : Prop where
 ok : DOk D
 mid : Mid2 J D.files D.pends es e m
 off : D.off = false
 lim : D.limit = D0.limit
 lft : D0.left = -1 -> D.left = -1
structure Gone2 (J : Jr) (D0 D : DS) (es : List J.E) (e : J.E) : Prop where
 mid : ∃ m, Mid2 J D.files D.pends es e m
 ok : DOk D
 lft : D0.left ≠ -1
theorem zK2 : ∀ {ps : List Bs} {m : Nat} {D0 D : DS}, ComI J D0 D es e m -> (row (1 + szs J es) (J.enc e)).drop m = ps -> szs J es + sz J e <= D0.limit ->
  ((addP D nJ ps).1 = 0 /\ (addP D nJ ps).2.2 = ps.length /\ ComI J D0 (addP D nJ ps).2.1 es e (m + ps.length)) ∨ ((addP D nJ ps).1 ≠ 0 /\ Gone2 J D0 (addP D nJ ps).2.1 es e)
 | [], m, D0, D, C, _, _ => .inl ⟨rfl, rfl, C⟩
 | p :: ps, m, D0, D, C, hd, hu => by
  have hp : (row (1 + szs J es) (J.enc e))[m]? = some p := by
   have := congrArg (fun l => l[0]?) hd
   simpa using this
  have hd2 : (row (1 + szs J es) (J.enc e)).drop (m + 1) = ps := by
   rw [<- List.drop_drop, hd]; rfl
  have hlen : (row (1 + szs J es) (J.enc e)).length = sz J e := sz_row
  have hm := (List.getElem?_eq_some_iff.1 hp).1
  obtain ⟨f, h1, h2, h3⟩ := C.mid.find
  have hused : D.used < D.limit := by
   obtain ⟨f0, g1, g2, g3, g4, g5⟩ := C.mid.only
   have : D.used = f0.now.length := by unfold DS.used; rw [g1]; simp
   rw [this, g4, List.length_append, vF, List.length_take, C.lim]
   omega
  have h64 : p.length = 64 := (vR _ _ _ (Nat.le_refl _) m p hp).2
  rw [addP]
  rcases zDV h64 C.off h1 hused with ⟨n, ea, hn⟩ | ⟨ea, hz⟩
  ·rw [ea, if_pos rfl]
   have C1 : ComI J D0 { D with left := n, files := upF D.files { f with now := f.now ++ [p] }, pends := D.pends ++ [(f.b, f.now.length, p)] } es e (m + 1) :=
    ⟨C.ok.append (kH h1).1, C.mid.append h1 hp, C.off, C.lim, fun h => hn (C.lft h)⟩
   rcases zK2 (ps := ps) C1 hd2 hu with ⟨a1, a2, a3⟩ | ⟨a1, G⟩
   ·left
    refine ⟨a1, by simp only [List.length_cons]; rw [a2], ?_⟩
    have : m + (p :: ps).length = m + 1 + ps.length := by simp; omega
    rw [this]; exact a3
   ·exact .inr ⟨a1, G⟩
  ·rw [ea, if_neg (by simp)]
   exact .inr ⟨by simp, ⟨m, C.mid⟩, C.ok.cut, fun h => by rw [C.lft h] at hz; cases hz⟩
theorem zJN (O : DOk D) (I : Idle J D es) (ho : D.off = false) (hu : szs J es + sz J e <= D.limit) :
  ((addP D nJ (row (1 + szs J es) (J.enc e))).1 = 0 /\ (addP D nJ (row (1 + szs J es) (J.enc e))).2.2 = sz J e /\ ((addP D nJ (row (1 + szs J es) (J.enc e))).2.1.sync nJ).1 = 0 /\ Idle J ((addP D nJ (row (1 + szs J es) (J.enc e))).2.1.sync nJ).2 (es ++ [e]) /\ ((addP D nJ (row (1 + szs J es) (J.enc e))).2.1.sync nJ).2.off = false /\
   ((addP D nJ (row (1 + szs J es) (J.enc e))).2.1.sync nJ).2.limit = D.limit /\ (D.left = -1 -> ((addP D nJ (row (1 + szs J es) (J.enc e))).2.1.sync nJ).2.left = -1)) ∨
  ((addP D nJ (row (1 + szs J es) (J.enc e))).1 = 0 /\ ((addP D nJ (row (1 + szs J es) (J.enc e))).2.1.sync nJ).1 ≠ 0 /\ Gone2 J D ((addP D nJ (row (1 + szs J es) (J.enc e))).2.1.sync nJ).2 es e) ∨
  ((addP D nJ (row (1 + szs J es) (J.enc e))).1 ≠ 0 /\ Gone2 J D (addP D nJ (row (1 + szs J es) (J.enc e))).2.1 es e) := by
 have hr : (row (1 + szs J es) (J.enc e)).length = sz J e := sz_row
 rcases zK2 (D0 := D) (m := 0) (ps := row (1 + szs J es) (J.enc e)) ⟨O, I.begin, ho, rfl, id⟩ (by simp) hu with ⟨a1, a2, C⟩ | ⟨a1, G⟩
 ·rw [Nat.zero_add, hr] at C
  rw [hr] at a2
  generalize addP D nJ (row (1 + szs J es) (J.enc e)) = R at *
  obtain ⟨v, D2, pg⟩ := R
  simp only at a1 a2 C ⊢
  obtain ⟨f, h1, _, _⟩ := C.mid.find
  rcases zFD C.off h1 with ⟨n, es', hn⟩ | ⟨es', hz⟩
  ·left
   rw [es']
   exact ⟨a1, a2, rfl, Mid2.sync C.ok C.mid h1, C.off, C.lim, fun h => hn (C.lft h)⟩
  ·right; left
   rw [es']
   exact ⟨a1, by simp, ⟨_, C.mid⟩, C.ok.cut, fun h => by rw [C.lft h] at hz; cases hz⟩
 ·exact .inr (.inr ⟨a1, G⟩)
theorem Idle.used (I : Idle J D es) : D.used = szs J es := by
 obtain ⟨f, h1, h2, h3, h4, h5⟩ := I
 unfold DS.used
 rw [h1]
 simp [h3, vF]
end Go.Man
namespace Go.Man
open Go.Page Go.Dsk
set_option linter.unusedVariables false
set_option linter.unusedSimpArgs false
variable {J : Jr} {D : DS} {t u p : Bs} {b : Nat}
theorem zA4 : (D.delete t).2.limit = D.limit := by
 unfold DS.delete
 split
 ·rfl
 ·split
  ·rfl
  ·split
   ·exact xJ
   ·exact xJ
theorem vK : (D.create t b).2.limit = D.limit := by
 unfold DS.create
 split
 ·rfl
 ·split
  ·rfl
  ·split
   ·rfl
   ·split
    ·rfl
    ·split
     ·exact xJ
     ·exact xJ
theorem zDU : (D.append t p).2.limit = D.limit := by
 unfold DS.append
 split
 ·rfl
 ·split
  ·rfl
  ·split
   ·rfl
   ·split
    ·rfl
    ·split
     ·exact xJ
     ·exact xJ
theorem zCT : (D.sync t).2.limit = D.limit := by
 unfold DS.sync
 split
 ·rfl
 ·split
  ·rfl
  ·split
   ·exact xJ
   ·exact xJ
theorem zHM : (D.rename t u).2.limit = D.limit := by
 unfold DS.rename
 split
 ·rfl
 ·split
  ·rfl
  ·split
   ·rfl
   ·split
    ·show (if t = u then D.deed.2 else _ : DS).limit = _
     split
     ·exact xJ
     ·exact xJ
    ·exact xJ
theorem zAA : ∀ {l : List Bs} {D : DS}, (addP D t l).2.1.limit = D.limit
 | [], D => rfl
 | p :: l, D => by
  rw [addP]
  split
  ·exact zAA.trans zDU
  ·exact zDU
theorem zAM : ∀ {es : List J.E} {D : DS} {a : Nat}, (yQ J D a es).2.1.limit = D.limit
 | [], D, a => rfl
 | e :: es, D, a => by
  rw [yQ]
  split
  ·exact zAM.trans zAA
  ·exact zAA
theorem jI : (zP D).2.limit = D.limit := by
 unfold zP
 split
 ·exact zA4
 ·rfl
theorem zLU {pages : Nat} {es : List J.E} : (layP J D b pages es).2.1.limit = D.limit := by
 unfold layP
 split
 ·exact jI
 ·split
  ·exact vK.trans jI
  ·split
   ·exact zAM.trans (vK.trans jI)
   ·split
    ·exact zCT.trans (zAM.trans (vK.trans jI))
    ·exact zHM.trans (zCT.trans (zAM.trans (vK.trans jI)))
theorem zA7 {keep : Bs -> Bool} : ∀ {l : List Bs} {D : DS} {n : Int}, (xR keep D l n).2.2.limit = D.limit
 | [], D, n => rfl
 | t :: l, D, n => by
  rw [xR]
  split
  ·exact zA7
  ·split
   ·exact zA7.trans zA4
   ·exact zA4
theorem zDT {names : List Bs} : (yJ D names).2.2.limit = D.limit := zA7
variable {D D' : DS} {t : Bs} {keep : Bs -> Bool}
theorem vH : ∀ {l1 l2 : List Str}, l1.Pairwise (· < ·) -> l2.Pairwise (· < ·) -> (∀ x, x ∈ l1 ↔ x ∈ l2) -> l1 = l2
 | [], [], _, _, _ => rfl
 | [], y :: l2, _, _, h => absurd ((h y).2 (by simp)) (by simp)
 | x :: l1, [], _, _, h => absurd ((h x).1 (by simp)) (by simp)
 | x :: l1, y :: l2, h1, h2, h => by
  rw [List.pairwise_cons] at h1 h2
  have hxy : x = y := by
   rcases List.mem_cons.1 ((h x).1 (by simp)) with he | hx
   ·exact he
   ·rcases List.mem_cons.1 ((h y).2 (by simp)) with he | hy
    ·exact he.symm
    ·exact absurd (List.lt_trans (h1.1 y hy) (h2.1 x hx)) (List.lt_irrefl _)
  subst hxy
  congr 1
  refine vH h1.2 h2.2 fun z => ?_
  constructor
  ·intro hz
   rcases List.mem_cons.1 ((h z).1 (by simp [hz])) with rfl | hz2
   ·exact absurd (h1.1 z hz) (List.lt_irrefl _)
   ·exact hz2
  ·intro hz
   rcases List.mem_cons.1 ((h z).2 (by simp [hz])) with rfl | hz2
   ·exact absurd (h2.1 z hz) (List.lt_irrefl _)
   ·exact hz2
theorem zER {l : List Str} (p : Str -> Bool) : zN (l.filter p) = (zN l).filter p := by
 refine vH xW (xW.filter _) fun x => ?_
 rw [xA, List.mem_filter, List.mem_filter, xA]
def left (keep : Bs -> Bool) (l : List Bs) (f : FA) : Bool := keep f.name || !l.contains f.name
theorem zL3 {f : FA} (hon : D.off = false) (hl : D.left = -1) (hf : D.find t = some f) : D.delete t = (0, { D with files := D.files.filter (fun g => !(g.b == f.b)), pends := D.pends.filter (notB f.b) }) := by
 unfold DS.delete
 rw [if_neg (by simp [hon]), hf]
 simp only [zD3 hon hl, if_true]
theorem zGY {fs : List FA} {f : FA} (hn : (fs.map (·.name)).Nodup) (hb : (fs.map (·.b)).Nodup) (hf : f ∈ fs) : fs.filter (fun g => !(g.b == f.b)) = fs.filter (fun g => !(g.name == f.name)) := by
 refine List.filter_congr fun g hg => ?_
 by_cases h : g.b = f.b
 ·have := yZ hb hg hf h
  subst this; simp
 ·have : g.name ≠ f.name := fun he => h (by rw [zD9 hn hg hf he])
  rw [beq_eq_false_iff_ne.2 h, beq_eq_false_iff_ne.2 this]
theorem zC9 : ∀ {l : List Bs} {D : DS} {n : Int}, D.off = false -> D.left = -1 -> (D.files.map (·.name)).Nodup -> (D.files.map (·.b)).Nodup -> l.Nodup -> (∀ t ∈ l, t ∈ D.files.map (·.name)) ->
  ∃ k, ∃ D', xR keep D l n = (k, 0, D') /\ D'.files = D.files.filter (left keep l)
 | [], D, n, _, _, _, _, _, _ => ⟨n, D, rfl, (List.filter_eq_self.2 fun f _ => by simp [left]).symm⟩
 | t :: l, D, n, hon, hl, hn, hb, hnd, hin => by
  rw [List.nodup_cons] at hnd
  rw [xR]
  by_cases hk : keep t = true
  ·rw [if_pos hk]
   obtain ⟨k, D', h1, h2⟩ := zC9 (l := l) (n := n) hon hl hn hb hnd.2 fun x hx => hin x (by simp [hx])
   refine ⟨k, D', h1, h2.trans (List.filter_congr fun f _ => ?_)⟩
   unfold left
   by_cases he : f.name = t
   ·subst he; simp [hk]
   ·simp [he]
  ·rw [if_neg hk]
   have hm := hin t (by simp)
   obtain ⟨f, hf⟩ : ∃ f, D.find t = some f := by
    rw [<- Option.isSome_iff_exists]
    unfold DS.find
    rw [List.find?_isSome]
    obtain ⟨f, hf, he⟩ := List.mem_map.1 hm
    exact ⟨f, hf, by simp [he]⟩
   obtain ⟨hfm, hfn⟩ := zOP hf
   rw [zL3 hon hl hf]
   simp only [if_true]
   have hsub := List.filter_sublist (p := fun g : FA => !(g.b == f.b)) (l := D.files)
   have hfe := zGY hn hb hfm
   obtain ⟨k, D', h1, h2⟩ := zC9 (l := l) (n := n + 1) (D := { D with files := D.files.filter (fun g => !(g.b == f.b)), pends := D.pends.filter (notB f.b) }) hon hl (hn.sublist (hsub.map _)) (hb.sublist (hsub.map _)) hnd.2 fun x hx => by
    obtain ⟨g, hg, he⟩ := List.mem_map.1 (hin x (by simp [hx]))
    refine List.mem_map.2 ⟨g, ?_, he⟩
    show g ∈ D.files.filter _
    rw [hfe, List.mem_filter]
    refine ⟨hg, ?_⟩
    have : g.name ≠ f.name := fun h => hnd.1 (by rw [<- hfn, <- h, he]; exact hx)
    simp [this]
   refine ⟨k, D', h1, h2.trans ?_⟩
   simp only
   rw [hfe, List.filter_filter]
   refine List.filter_congr fun g _ => ?_
   unfold left
   rw [hfn]
   by_cases he : g.name = t
   ·subst he
    have : keep g.name = false := by simpa using hk
    simp [this]
   ·simp [he]
theorem zMR {names : List Bs} (hon : D.off = false) (hl : D.left = -1) (hn : (D.files.map (·.name)).Nodup) (hb : (D.files.map (·.b)).Nodup) :
  ∃ k, ∃ D', yJ D names = (k, 0, D') /\ D'.list = D.list.filter fun x => vA names x.1 := by
 obtain ⟨k, D', h1, h2⟩ := zC9 (keep := vA names) (l := D.namesL) (n := 0) hon hl hn hb kG fun t ht => xA.1 ht
 have h3 : D'.files = D.files.filter fun f => vA names f.name := by
  rw [h2]
  refine List.filter_congr fun f hf => ?_
  unfold left
  have : D.namesL.contains f.name = true := by
   rw [List.contains_iff_mem]
   exact xA.2 (List.mem_map_of_mem hf)
  rw [this]; simp
 refine ⟨k, D', h1, ?_⟩
 have hnm : D'.namesL = D.namesL.filter (vA names) := by
  unfold DS.namesL
  rw [h3, <- zER]
  congr 1
  rw [List.filter_map]
  rfl
 unfold DS.list
 rw [hnm, List.filter_map]
 refine List.map_congr_left fun x hx => ?_
 obtain ⟨_, hk⟩ := List.mem_filter.1 hx
 have : D'.find x = D.find x := by
  unfold DS.find
  rw [h3, List.find?_filter]
  congr 1
  funext f
  by_cases he : f.name = x
  ·subst he; simp [hk]
  ·simp [he]
 unfold DS.lenOf
 rw [this]
end Go.Man
