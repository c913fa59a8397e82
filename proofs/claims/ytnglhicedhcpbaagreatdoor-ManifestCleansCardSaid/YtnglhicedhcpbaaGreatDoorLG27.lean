import Derived.Test.YtnglhicedhcpbaaGreatDoorLG12
import Derived.Test.YtnglhicedhcpbaaGreatDoorLG19
import Derived.Test.YtnglhicedhcpbaaGreatDoorLG26
namespace Go.Proofs.YtnglhicedhcpbaaGreatDoor
open Go.Ab
open Go.Dsk hiding Bs
set_option linter.unusedVariables false
set_option linter.unusedSimpArgs false
section
variable {h h' : Heap} {ow ow' : zO} {p m : Nat} {qp : OSl} {es : Ents} {cl : Nat} {D : DS} {f f' : FA} {Q : AHp}
theorem zC8 : ∀ {fs : List FA} {j : Nat} {f : FA}, (fs.map (·.b)).Nodup -> fs[j]? = some f -> fs.eraseIdx j = fs.filter (fun g => !(g.b == f.b))
 | [], j, f, _, h => by simp at h
 | x :: fs, 0, f, hn, h => by
  simp at h; subst h
  simp only [List.map_cons, List.nodup_cons, List.mem_map, not_exists, not_and] at hn
  simp only [List.eraseIdx_cons_zero, List.filter_cons, beq_self_eq_true, Bool.not_true, Bool.false_eq_true, if_false]
  exact (List.filter_eq_self.2 fun g hg => by simpa using hn.1 g hg).symm
 | x :: fs, j + 1, f, hn, h => by
  have hf : fs[j]? = some f := by simpa using h
  simp only [List.map_cons, List.nodup_cons, List.mem_map, not_exists, not_and] at hn
  have hx : ¬ x.b = f.b := fun he => hn.1 f (List.mem_of_getElem? hf) he.symm
  simp only [List.eraseIdx_cons_succ, List.filter_cons]
  rw [zC8 hn.2 hf]
  simp [hx]
theorem zJ9 : ∀ {fs : List FA} {j : Nat} {g f' : FA}, (fs.map (·.b)).Nodup -> fs[j]? = some g -> fs.set j f' = fs.map (fun x => if x.b = g.b then f' else x)
 | [], j, g, f', _, h => by simp at h
 | x :: fs, 0, g, f', hn, h => by
  simp at h; subst h
  simp only [List.map_cons, List.nodup_cons, List.mem_map, not_exists, not_and] at hn
  simp only [List.set_cons_zero, List.map_cons, if_true]
  congr 1
  conv => lhs; rw [<- List.map_id fs]
  apply List.map_congr_left
  intro y hy
  rw [if_neg (hn.1 y hy)]; rfl
 | x :: fs, j + 1, g, f', hn, h => by
  have hf : fs[j]? = some g := by simpa using h
  simp only [List.map_cons, List.nodup_cons, List.mem_map, not_exists, not_and] at hn
  have hx : ¬ x.b = g.b := fun he => hn.1 g (List.mem_of_getElem? hf) he.symm
  simp only [List.set_cons_succ, List.map_cons, if_neg hx]
  rw [zJ9 hn.2 hf]
theorem xH {α β : Type} (g : α -> β) : ∀ (l : List α) (j : Nat), (l.eraseIdx j).map g = (l.map g).eraseIdx j
 | [], _ => rfl
 | x :: l, 0 => rfl
 | x :: l, j + 1 => by simp [xH g l j]
theorem zEB : ∀ {l : List Nat} {j x : Nat}, l[j]? = some x -> (l.eraseIdx j).sum + x = l.sum
 | [], j, x, h => by simp at h
 | y :: l, 0, x, h => by simp at h; subst h; simp; omega
 | y :: l, j + 1, x, h => by
  have := zEB (l := l) (j := j) (x := x) (by simpa using h)
  simp; omega
theorem zNA : ∀ {l : List Nat} {j x y : Nat}, l[j]? = some x -> (l.set j y).sum + x = l.sum + y
 | [], j, x, y, h => by simp at h
 | z :: l, 0, x, y, h => by simp at h; subst h; simp; omega
 | z :: l, j + 1, x, y, h => by
  have := zNA (l := l) (j := j) (x := x) (y := y) (by simpa using h)
  simp; omega
theorem jB {α : Type} {l : List α} (h : l.Nodup) (j : Nat) : (l.eraseIdx j).Nodup := (List.eraseIdx_sublist l j).nodup h
theorem zFJ {α : Type} : ∀ {l : List α} {j : Nat} {a : α}, l.Nodup -> a ∉ l -> (l.set j a).Nodup
 | [], _, _, h, _ => h
 | x :: l, 0, a, h, ha => by
  simp only [List.nodup_cons, List.mem_cons, not_or] at h ha
  simp only [List.set_cons_zero, List.nodup_cons]
  exact ⟨ha.2, h.2⟩
 | x :: l, j + 1, a, h, ha => by
  simp only [List.nodup_cons, List.mem_cons, not_or] at h ha
  simp only [List.set_cons_succ, List.nodup_cons]
  refine ⟨fun hm => ?_, zFJ h.2 ha.2⟩
  rcases List.mem_or_eq_of_mem_set hm with hm | hm
  ·exact h.1 hm
  ·exact ha.1 hm.symm
theorem zKD (C : yS h ow p m qp es cl D) (hf : f ∈ D.files) {to : Bs} (hne : f.name ≠ to) (h24 : to.length <= 24) (hpg : ∀ g, D.find to = some g -> ∀ x ∈ D.pends, x.1 ≠ g.b)
  (hQ : ∀ h' es' cl', yS h' ow p m qp es' cl' { D with files := reN D.files f to } -> yY ow h ow h' -> Q (.int .i64 0) h') :
  vC Tryz.prog 9 (some m) (.str f.name) h fun h25 => vPtr (some ⟨f.b, 0⟩) fun p26 => zI h25 ⟨p26.b, p26.o + 0⟩ [.str to] fun h27 => vPtr (some ⟨p, 0⟩) fun p28 =>
   ∃ m29 : Option Nat, zA h27 ⟨p28.b, p28.o + 0⟩ 1 = some [.map m29] /\ vMap m29 fun a31 => xZ Tryz.prog 9 a31 (.str to) (.ptr (some ⟨f.b, 0⟩)) h27 fun h30 => Q (.int .i64 0) h30 := by
 obtain ⟨qn, qs, c0, c1, c2, c, a1, a2, r1, r2⟩ := (C.file f hf).at
 have hfr := (C.file f hf).role
 have hml := C.live m (by simp [C.mr])
 have hpl := C.live p (by simp [C.pr])
 have hfl := C.live f.b (by simp [hfr])
 have hmf : m ≠ f.b := fun e => by have := C.mr; rw [e, hfr] at this; cases this
 have hpm : m ≠ p := fun e => by have := C.mr; rw [e, C.pr] at this; cases this
 have hpf : f.b ≠ p := fun e => by rw [e, C.pr] at hfr; cases hfr
 unfold vC
 simp only [C.mb]
 have hk : ∀ s, zAR Tryz.prog 9 (.str s) = true := fun s => by simp only [zAR, Tryz.underlying9]
 simp only [hk, need]
 have hff : D.files.find? (fun g => g.name == f.name) = some f := zEO C.names hf
 refine jS Tryz.underlying9 C.ents (fun hn => by rw [hff] at hn; cases hn) fun j f0 n e1 e2 e3 => ?_
 rw [hff] at e1
 obtain rfl : f = f0 := Option.some.inj e1
 simp only [Nat.zero_add]
 have hcf : (h.set m (.mp (es.eraseIdx j) cl))[f.b]? = some (.cells [.str f.name, .sl qn, .sl qs] true) := by rw [List.getElem?_set, if_neg hmf]; exact c
 refine yD hcf (by simp) ?_
 have hsp : splice [AV.str f.name, .sl qn, .sl qs] (0 + 0) [.str to] = [.str to, .sl qn, .sl qs] := rfl
 rw [hsp]
 have hcp : ((h.set m (.mp (es.eraseIdx j) cl)).set f.b (.cells [.str to, .sl qn, .sl qs] true))[p]? = some (.cells [.map (some m), .sl qp, .int .i64 D.limit, .int .i64 D.left, .bool D.off] true) := by
  rw [List.getElem?_set, if_neg hpf, List.getElem?_set, if_neg hpm]; exact C.pb
 refine ⟨some m, by rw [zZ hcp (by simp)]; rfl, ?_⟩
 show xZ _ _ _ _ _ _ _
 have hcm : ((h.set m (.mp (es.eraseIdx j) cl)).set f.b (.cells [.str to, .sl qn, .sl qs] true))[m]? = some (.mp (es.eraseIdx j) cl) := by
  rw [List.getElem?_set, if_neg (Ne.symm hmf), List.getElem?_set_self hml]
 unfold xZ
 rw [hcm]
 simp only [hk, zH4, Bool.not_false, Bool.and_true, need]
 have hfi : D.files.eraseIdx j = D.files.filter (fun g => !(g.b == f.b)) := zC8 C.blocks e2
 have hents1 : (es.eraseIdx j).map (fun e => (e.1, e.2.1)) = (D.files.eraseIdx j).map zBO := by rw [xH, xH, C.ents]
 have hborn1 : ((es.eraseIdx j).map (·.2.2)).Nodup := by rw [xH]; exact jB C.born j
 have hclk1 : ∀ e ∈ es.eraseIdx j, e.2.2 < cl := fun e he => C.clk e (List.mem_of_mem_eraseIdx he)
 have hb1 : ((D.files.eraseIdx j).map (·.b)).Nodup := by rw [xH]; exact jB C.blocks j
 have hn1 : ((D.files.eraseIdx j).map (·.name)).Nodup := by rw [xH]; exact jB C.names j
 have hm1 : ∀ g ∈ D.files.eraseIdx j, g ∈ D.files /\ g.b ≠ f.b := by
  intro g hg
  rw [hfi] at hg
  have := List.mem_filter.1 hg
  exact ⟨this.1, by simpa using this.2⟩
 have hfb1 : f.b ∉ (D.files.eraseIdx j).map (·.b) := by
  intro hh
  obtain ⟨g, hg, he⟩ := List.mem_map.1 hh
  exact (hm1 g hg).2 he
 have hl1 : (D.files.eraseIdx j).length <= 255 := by
  have := zD e2
  have := C.many
  rw [List.length_eraseIdx]; split <;> omega
 have hs1 : ((D.files.eraseIdx j).map (·.now.length)).sum + f.now.length = (D.files.map (·.now.length)).sum := by
  rw [xH]; exact zEB (by rw [List.getElem?_map, e2]; rfl)
 have hu := C.used
 refine jS Tryz.underlying9 hents1 (fun hnf => ?_) fun j2 g n2 g1 g2 g3 => ?_
 ·have hre : reN D.files f to = D.files.eraseIdx j ++ [{ f with name := to }] := by
   unfold reN
   rw [<- hfi, hnf]
  obtain ⟨C2, S2⟩ := C.rename (to := to) (fs' := D.files.eraseIdx j ++ [{ f with name := to }]) (es' := es.eraseIdx j ++ [(.str to, .ptr (some ⟨f.b, 0⟩), cl)]) (cl' := cl + 1) (X := .mp (es.eraseIdx j) cl) hf c a1 a2 r1 r2 (by
    rw [List.map_append, List.map_append, hents1]; rfl) (by
    rw [List.map_append, List.nodup_append]
    refine ⟨hborn1, by simp, fun a ha b hb => ?_⟩
    obtain ⟨e, he, rfl⟩ := List.mem_map.1 ha
    have := hclk1 e he
    simp at hb; omega) (by
    intro e he
    rcases List.mem_append.1 he with he | he
    ·have := hclk1 e he; omega
    ·simp at he; subst he; simp) (by
    intro g hg
    rcases List.mem_append.1 hg with hg | hg
    ·exact .inr (hm1 g hg)
    ·exact .inl (by simpa using hg)) (by
    rw [List.map_append, List.nodup_append]
    refine ⟨hn1, by simp, fun a ha b hb => ?_⟩
    obtain ⟨g, hg, rfl⟩ := List.mem_map.1 ha
    simp at hb; subst hb
    intro he
    have := List.find?_eq_none.1 hnf g hg
    simp [he] at this) (by
    rw [List.map_append, List.nodup_append]
    refine ⟨hb1, by simp, fun a ha b hb => ?_⟩
    simp at hb; subst hb
    intro he; subst he; exact hfb1 ha) (by
    intro x hx
    obtain ⟨g, hg, h1, h2⟩ := C.pfile x hx
    by_cases he : g.b = f.b
    ·have := yZ C.blocks hg hf he
     subst this
     exact ⟨{ g with name := to }, by simp, h1, h2⟩
    ·refine ⟨g, List.mem_append_left _ ?_, h1, h2⟩
     rw [hfi]; exact List.mem_filter.2 ⟨hg, by simpa using he⟩) h24 (by simp only [List.length_append, List.length_cons, List.length_nil]; omega) (by
    simp only [List.map_append, List.sum_append, List.map_cons, List.map_nil, List.sum_cons, List.sum_nil]; omega) (B := .cells [.str to, .sl qn, .sl qs] true) rfl
  rw [<- hre] at C2
  exact hQ _ _ _ C2 S2
 ·simp only [Nat.zero_add]
  have hgm := List.mem_of_getElem? g2
  have hgn : g.name = to := by have := List.find?_some g1; simpa using this
  have hset : (D.files.eraseIdx j).set j2 { f with name := to } = (D.files.eraseIdx j).map (fun x => if x.b = g.b then { f with name := to } else x) := zJ9 hb1 g2
  have hre : reN D.files f to = (D.files.eraseIdx j).set j2 { f with name := to } := by
   unfold reN
   rw [<- hfi, g1, hset]
  have hmn : ((D.files.eraseIdx j).set j2 { f with name := to }).map (·.name) = (D.files.eraseIdx j).map (·.name) := by
   rw [List.map_set]
   show ((D.files.eraseIdx j).map (·.name)).set j2 to = _
   refine zAE ?_
   rw [List.getElem?_map, g2]; simp [hgn]
  have hbset : (es.eraseIdx j).set j2 (.str to, .ptr (some ⟨f.b, 0⟩), n2) = (es.eraseIdx j).set j2 (.str to, .ptr (some ⟨f.b, 0⟩), n2) := rfl
  have hbn : ((es.eraseIdx j).set j2 (.str to, .ptr (some ⟨f.b, 0⟩), n2)).map (·.2.2) = (es.eraseIdx j).map (·.2.2) := by
   rw [List.map_set]
   refine zAE ?_
   rw [List.getElem?_map, g3]; rfl
  have hfg : D.find to = some g := by
   have := zEO C.names (hm1 g hgm).1
   rw [hgn] at this; exact this
  obtain ⟨C2, S2⟩ := C.rename (to := to) (fs' := (D.files.eraseIdx j).set j2 { f with name := to }) (es' := (es.eraseIdx j).set j2 (.str to, .ptr (some ⟨f.b, 0⟩), n2)) (cl' := cl) (X := .mp (es.eraseIdx j) cl) hf c a1 a2 r1 r2 (by
    rw [List.map_set, List.map_set, hents1]; rfl) (by rw [hbn]; exact hborn1) (by
    intro e he
    have : e.2.2 ∈ ((es.eraseIdx j).set j2 (.str to, .ptr (some ⟨f.b, 0⟩), n2)).map (·.2.2) := List.mem_map_of_mem he
    rw [hbn] at this
    obtain ⟨e', he', h'⟩ := List.mem_map.1 this
    rw [<- h']; exact hclk1 e' he') (by
    intro x hx
    rcases List.mem_or_eq_of_mem_set hx with hx | hx
    ·exact .inr (hm1 x hx)
    ·exact .inl hx) (by rw [hmn]; exact hn1) (by
    rw [List.map_set]; exact zFJ hb1 hfb1) (by
    intro x hx
    obtain ⟨g0, hg0, h1, h2⟩ := C.pfile x hx
    by_cases he : g0.b = f.b
    ·have := yZ C.blocks hg0 hf he
     subst this
     refine ⟨{ g0 with name := to }, List.mem_iff_getElem?.2 ⟨j2, List.getElem?_set_self (zD g2)⟩, h1, h2⟩
    ·refine ⟨g0, ?_, h1, h2⟩
     rw [hset]
     refine List.mem_map.2 ⟨g0, by rw [hfi]; exact List.mem_filter.2 ⟨hg0, by simpa using he⟩, ?_⟩
     rw [if_neg]
     intro hb
     exact hpg g hfg x hx (by rw [<- h1, hb])) h24 (by rw [List.length_set]; omega) (by
    rw [List.map_set]
    have := zNA (l := (D.files.eraseIdx j).map (·.now.length)) (j := j2) (x := g.now.length) (y := f.now.length) (by rw [List.getElem?_map, g2]; rfl)
    show (((D.files.eraseIdx j).map (·.now.length)).set j2 f.now.length).sum <= _
    omega) (B := .cells [.str to, .sl qn, .sl qs] true) rfl
  rw [<- hre] at C2
  exact hQ _ _ _ C2 S2
set_option maxRecDepth 20000 in
theorem d182 (R : yX h ow p D) {s to : Bs} (hpl : D.pends.length <= 1000000) (hQ : ∀ h' ow', yX h' ow' p (D.rename s to).2 -> yY ow h ow' h' -> Q (.int .i64 (D.rename s to).1) h') : AC Tryz.prog 182 [.ptr (some ⟨p, 0⟩), .str s, .str to] h Q := ac182 (by
 unfold vc182
 unfold DS.rename at hQ
 refine d104 R ⟨_, rfl, zB (fun _ => ?_) (fun g => by cases g)⟩
 refine d170 ⟨_, rfl, zB (fun g => ?_) (fun g => ?_)⟩
 ·rw [if_pos g] at hQ; exact hQ h ow R (.refl _ _)
 rw [g] at hQ
 simp only [Bool.false_eq_true, if_false] at hQ
 refine d130 R (fun ho => ⟨_, _, rfl, ?_⟩) (fun ho hn => ⟨_, _, rfl, ?_⟩) fun f ho hfd hf hfn => ⟨_, _, rfl, ?_⟩
 ·rw [ho] at hQ; exact hQ h ow R (.refl _ _)
 ·rw [ho, hn] at hQ; exact hQ h ow R (.refl _ _)
 rw [ho, hfd] at hQ
 simp only [Bool.false_eq_true, if_false] at hQ
 show AC Tryz.prog 172 _ _ _
 refine d172 R fun h8 R8 S8 => ⟨_, rfl, zB (fun g1 => ?_) (fun g1 => ?_)⟩
 ·have g1 : ¬ D.deed.1 = 0 := by simpa using g1
  rw [if_neg g1] at hQ
  exact hQ h8 ow R8 S8
 have g1 : D.deed.1 = 0 := by simpa using g1
 rw [if_pos g1] at hQ
 refine zB (fun g2 => ?_) (fun g2 => ?_)
 ·have g2 : s = to := by simpa using g2
  rw [if_pos g2] at hQ
  exact hQ h8 ow R8 S8
 have g2 : ¬ s = to := by simpa using g2
 rw [if_neg g2] at hQ
 have h24 : to.length <= 24 := by
  simp only [mayN, Bool.not_eq_false', Bool.and_eq_true, decide_eq_true_eq] at g; exact g.2
 obtain ⟨m, qp, es, cl, C⟩ := R8
 have hf8 : f ∈ D.deed.2.files := by rw [yN]; exact hf
 have hdf : D.deed.2.find to = D.find to := by unfold DS.find; rw [yN]
 refine ⟨_, C.at (k := 0) rfl, ?_⟩
 subst hfn
 refine C.look (fun hn => ⟨_, rfl, ?_⟩) fun g0 hg hgm hgn => ⟨_, rfl, ?_⟩
 ·rw [hdf] at hn
  refine ⟨_, C.at (k := 0) rfl, ?_⟩
  refine zKD (to := to) C hf8 g2 h24 (fun g hg => by rw [hdf, hn] at hg; cases hg) fun h' es' cl' C' S' => ?_
  simp only [hn] at hQ
  have e : ({ D.deed.2 with files := reN D.files f to, pends := D.pends } : DS) = { D.deed.2 with files := reN D.deed.2.files f to } := by
   rw [yN]; simp only [<- yK (D := D)]
  simp only [e] at hQ
  exact hQ _ _ ⟨_, _, _, _, C'⟩ (S8.trans S')
 ·rw [hdf] at hg
  refine d174 C hgm (by rw [yK]; exact hpl) fun q' h22 ow22 C22 S22 => ⟨rfl, ?_⟩
  refine ⟨_, C22.at (k := 0) rfl, ?_⟩
  refine zKD (to := to) C22 hf8 g2 h24 (fun g hg' x hx => ?_) fun h' es' cl' C' S' => ?_
  ·have hg2 : D.deed.2.find to = some g := hg'
   rw [hdf, hg] at hg2
   cases hg2
   have := (List.mem_filter.1 hx).2
   simpa [notB] using this
  ·simp only [hg] at hQ
   have e : ({ D.deed.2 with files := reN D.files f to, pends := D.pends.filter (notB g0.b) } : DS) = { D.deed.2.forget g0.b with files := reN D.deed.2.files f to } := by
    rw [yN]; simp only [DS.forget, yK (D := D)]
   simp only [e] at hQ
   exact hQ _ _ ⟨_, _, _, _, C'⟩ (S8.trans (S22.trans S')))
end
section
variable {h h' : Heap} {ow ow' : zO} {p m : Nat} {qp : OSl} {es : Ents} {cl : Nat} {D : DS} {f f' : FA} {Q : AHp}
theorem d114 {q : OSl} {l : List Bs} (H : HasL secE h q l) (hl : l.length <= 1000000) (hQ : ∀ q' h', Ext h h' -> AppJ secE h' q' l -> (∀ s, q' = some s -> h.length <= s.b) -> Q (.sl q') h') : AC Tryz.prog 114 [.sl q] h Q := ac114 (by
 unfold vc114 PNew
 refine zB (fun g => ?_) (fun g => ?_)
 ·cases q with
  | none =>
   have : l = [] := H
   subst this
   exact hQ none h (.refl _) (.inl ⟨rfl, rfl⟩) (fun s hs => by cases hs)
  | some s => cases g
 have hx : Ext h (h ++ [Blk.cells [] true]) := .app _ _
 have A : AppJ secE (h ++ [Blk.cells [] true]) (some ⟨h.length, 0, 0, 0, 0⟩) ([] : List Bs) := .inr ⟨h.length, 0, 0, [], rfl, .inl rfl, by simp [Enc.all], by simp, by simp⟩
 refine AppJ.append (E := secE) (l := []) A (H.mono hx) (by simp; omega) fun q' h5 A5 K5 hl5 hq5 => ?_
 simp only [List.length_append, List.length_cons, List.length_nil] at hl5 hq5
 refine hQ q' h5 (fun b B hb => ?_) (by simpa using A5) (fun s hs => ?_)
 ·exact K5 _ _ (fun ⟨s, h1, h2⟩ => by cases h1; have := zD hb; simp only at h2; omega) (hx _ _ hb)
 ·rcases hq5 s hs with h | ⟨s2, h1, h2⟩
  ·omega
  ·cases h1; simp only at h2; omega)
def zEH (fs : List FA) (dn : List Nat) : List FA := fs.map fun f => if f.b ∈ dn then { f with now := f.safe } else f
theorem zLN {fs : List FA} {dn : List Nat} (hn : (fs.map (·.b)).Nodup) (hf : f ∈ fs) (hd : f.b ∉ dn) : upF (zEH fs dn) { f with now := f.safe } = zEH fs (f.b :: dn) := by
 unfold upF zEH
 rw [List.map_map]
 apply List.map_congr_left
 intro g hg
 simp only [Function.comp]
 by_cases he : g.b = f.b
 ·have := yZ hn hg hf he
  subst this
  rw [if_neg hd, if_pos rfl, if_pos List.mem_cons_self]
 ·by_cases h2 : g.b ∈ dn
  ·rw [if_pos h2]
   simp [he, h2]
  ·rw [if_neg h2]
   simp [he, h2]
theorem zNQ {fs : List FA} : zEH fs [] = fs := by
 unfold zEH
 conv => rhs; rw [<- List.map_id fs]
 apply List.map_congr_left
 intro g _; simp
def leftN (h : Heap) (a : Nat) (es : Ents) : Nat := match h[a]? with | some (.it _ _ seen _) => (zB1 es seen).length | _ => 0
theorem zN6 {es : Ents} {seen : List Nat} {e : AV × AV × Nat} (he : e ∈ zB1 es seen) : (zB1 es (seen ++ [e.2.2])).length < (zB1 es seen).length := by
 have h1 := List.mem_filter.1 he
 have h2 : (zB1 es (seen ++ [e.2.2])) = (zB1 es seen).filter (fun x => !(x.2.2 == e.2.2)) := by
  unfold zB1
  rw [List.filter_filter]
  apply List.filter_congr
  intro x _
  simp [List.contains_eq_mem]
  by_cases hx : x.2.2 ∈ seen <;> by_cases hy : x.2.2 = e.2.2 <;> simp [hx, hy]
 rw [h2]
 refine List.length_filter_lt_length_iff_exists.2 ⟨e, he, by simp⟩
theorem zF0 {K : AV × AV × Nat -> Prop} : ∀ {l : Ents}, (∀ e ∈ l, K e) -> allE l K
 | [], _ => trivial
 | [e], h => h e (by simp)
 | e :: e' :: es, h => ⟨h e (by simp), zF0 fun x hx => h x (List.mem_cons_of_mem _ hx)⟩
theorem ent_at {fs : List FA} {es : Ents} (hents : es.map (fun e => (e.1, e.2.1)) = fs.map zBO) {e : AV × AV × Nat} (he : e ∈ es) : ∃ f ∈ fs, e.1 = .str f.name /\ e.2.1 = .ptr (some ⟨f.b, 0⟩) := by
 have : (e.1, e.2.1) ∈ es.map (fun e => (e.1, e.2.1)) := List.mem_map.2 ⟨e, he, rfl⟩
 rw [hents] at this
 obtain ⟨f, hf, h⟩ := List.mem_map.1 this
 simp only [zBO, Prod.mk.injEq] at h
 exact ⟨f, hf, h.1.symm, h.2.symm⟩
theorem zKV : ∀ {fs : List FA} {es : Ents}, es.map (fun e => (e.1, e.2.1)) = fs.map zBO -> (fs.map (·.b)).Nodup -> ∀ {e e' : AV × AV × Nat}, e ∈ es -> e' ∈ es -> e.2.1 = e'.2.1 -> e = e'
 | [], [], _, _, _, _, he, _, _ => by cases he
 | [], _ :: _, h, _, _, _, _, _, _ => by simp at h
 | f :: fs, [], h, _, _, _, _, _, _ => by simp at h
 | f :: fs, x :: es, h, hn, e, e', he, he', hv => by
  simp only [List.map_cons, List.cons.injEq] at h
  simp only [List.map_cons, List.nodup_cons, List.mem_map, not_exists, not_and] at hn
  have hx : x.2.1 = .ptr (some ⟨f.b, 0⟩) := by have := congrArg Prod.snd h.1; simpa [zBO] using this
  have key : ∀ y ∈ es, y.2.1 ≠ x.2.1 := by
   intro y hy hyx
   obtain ⟨g, hg, _, h2⟩ := ent_at h.2 hy
   rw [h2, hx] at hyx
   simp only [AV.ptr.injEq, Option.some.injEq, PA.mk.injEq, and_true] at hyx
   exact hn.1 g hg hyx
  rcases List.mem_cons.1 he with rfl | he1 <;> rcases List.mem_cons.1 he' with rfl | he2
  ·rfl
  ·exact absurd hv.symm (key _ he2)
  ·exact absurd hv (key _ he1)
  ·exact zKV h.2 hn.2 he1 he2 hv
theorem zIJ {es : Ents} (hn : (es.map (·.2.2)).Nodup) {e e' : AV × AV × Nat} (he : e ∈ es) (he' : e' ∈ es) (h : e.2.2 = e'.2.2) : e = e' := by
 induction es with
 | nil => cases he
 | cons x es ih =>
  simp only [List.map_cons, List.nodup_cons, List.mem_map, not_exists, not_and] at hn
  rcases List.mem_cons.1 he with rfl | he1 <;> rcases List.mem_cons.1 he' with rfl | he2
  ·rfl
  ·exact absurd h.symm (hn.1 _ he2)
  ·exact absurd h (hn.1 _ he1)
  ·exact ih hn.2 he1 he2
theorem zPA {es : Ents} (hn : (es.map (·.2.2)).Nodup) {e : AV × AV × Nat} (he : e ∈ es) : es.find? (fun x => x.2.2 == e.2.2) = some e := by
 have : (es.find? (fun x => x.2.2 == e.2.2)).isSome := by rw [List.find?_isSome]; exact ⟨e, he, by simp⟩
 obtain ⟨g, hg⟩ := Option.isSome_iff_exists.1 this
 have h1 := List.mem_of_find?_eq_some hg
 have h2 : g.2.2 = e.2.2 := by simpa using List.find?_some hg
 rw [hg, zIJ hn h1 he h2]
theorem zL4 {ow0 : zO} {h0 : Heap} (C : yS h ow p m none es cl D) (hp : D.pends = []) (hQ : ∀ h' ow', yS h' ow' p m none es cl { D with files := zIG D.files } -> yY ow h ow' h' -> Q (.tup []) h') :
  zFA (some m) h fun a28 h29 => ∃ (I30 : LHp) (m31 : LHn), I30 [] h29 /\ ∀ h32 : Heap, I30 [] h32 ->
   zK4 a28 h32 (fun h33 => Q (.tup []) h33) fun v34 v35 h36 => zBS a28 h36 fun v37 => ∃ s38 : List UInt8, ∃ p39 : OPa, v37 = .tup [.str s38, .ptr p39] /\
    vPtr p39 fun p40 => ∃ q41 : OSl, zA h36 ⟨p40.b, p40.o + 2⟩ 1 = some [.sl q41] /\
     AC Tryz.prog 114 [.sl q41] h36 fun v42 h43 => ∃ q44 : OSl, v42 = .sl q44 /\
      vPtr p39 fun p45 => zI h43 ⟨p45.b, p45.o + 1⟩ [.sl q44] fun h46 => (True) /\ I30 [] h46 /\ m31 [] h46 < m31 [] h32 := by
 unfold zFA
 simp only [C.mb]
 have hx : Ext h (h ++ [Blk.it (some m) cl [] cl]) := .app _ _
 have C1 := C.ext (zK hx) hx.len
 have hoa : ow h.length = none := by
  cases ho : ow h.length with
  | none => rfl
  | some r => have := C.live h.length (by simp [ho]); omega
 have hml := C.live m (by simp [C.mr])
 refine ⟨fun _ h32 => ∃ (seen dn : List Nat) (ow2 : zO), h32[h.length]? = some (.it (some m) cl seen cl) /\ yS h32 ow2 p m none es cl { D with files := zEH D.files dn } /\ yY ow h ow2 h32 /\ ow2 h.length = none /\
   (∀ e ∈ es, ∀ f ∈ D.files, e.2.1 = .ptr (some ⟨f.b, 0⟩) -> (e.2.2 ∈ seen ↔ f.b ∈ dn)), fun _ h32 => leftN h32 h.length es, ⟨[], [], ow, by simp, by rw [zNQ]; exact C1, .ext hx, hoa, by simp⟩, ?_⟩
 rintro h32 ⟨seen, dn, ow2, hit, C32, S32, how, hrel⟩
 unfold zK4
 simp only [hit, C32.mb]
 refine yA (by rw [List.all_eq_true]; intro e he; simp; exact C32.clk e he) ?_
 split
 ·rename_i hl
  have : zEH D.files dn = zIG D.files := by
   unfold zEH zIG
   apply List.map_congr_left
   intro f hf
   rw [if_pos]
   have hm : zBO f ∈ es.map (fun e => (e.1, e.2.1)) := by rw [C.ents]; exact List.mem_map_of_mem hf
   obtain ⟨e, he, hee⟩ := List.mem_map.1 hm
   have hv : e.2.1 = .ptr (some ⟨f.b, 0⟩) := by have := congrArg Prod.snd hee; simpa [zBO] using this
   refine (hrel e he f hf hv).1 ?_
   refine Decidable.byContradiction fun hns => ?_
   have : e ∈ zB1 es seen := List.mem_filter.2 ⟨he, by simp [List.contains_eq_mem, hns]⟩
   rw [hl] at this; cases this
  rw [this] at C32
  exact hQ _ _ C32 S32
 ·rename_i l hne
  refine zF0 fun e he => ?_
  have hem := (List.mem_filter.1 he).1
  have hns : e.2.2 ∉ seen := by have := (List.mem_filter.1 he).2; simpa [List.contains_eq_mem] using this
  generalize hh36 : h32.set h.length (.it (some m) cl (seen ++ [e.2.2]) cl) = h36
  have hlt := zD hit
  have hit36 : h36[h.length]? = some (.it (some m) cl (seen ++ [e.2.2]) cl) := by rw [<- hh36, List.getElem?_set_self hlt]
  have K36 : zM (fun b => b = h.length) h32 h36 := by rw [<- hh36]; exact zT rfl
  have hl36 : h36.length = h32.length := by rw [<- hh36]; simp
  have C36 := C32.ext (fun b B hb hB => K36 _ _ (fun hx => hb (by rw [hx]; exact how)) hB) (by omega)
  obtain ⟨f, hf, hk, hv⟩ := ent_at C.ents hem
  have hfd : f.b ∉ dn := fun hd => hns ((hrel e hem f hf hv).2 hd)
  have hfm : f ∈ zEH D.files dn := List.mem_map.2 ⟨f, hf, by rw [if_neg hfd]⟩
  unfold zBS
  simp only [hit36, List.getLast?_concat, C36.mb]
  refine yA (by simp) ?_
  simp only [zPA C.born hem]
  refine ⟨f.name, some ⟨f.b, 0⟩, by rw [hk, hv], ?_⟩
  obtain ⟨qn, qs, c0, c1, c2, c, a1, a2, r1, r2⟩ := (C36.file f hfm).at
  have hfr := (C36.file f hfm).role
  refine ⟨qs, c2, ?_⟩
  have hsl := C36.safe f hfm
  have hul : f.now.length <= 16384 := by
   have hsum := zCS (fs := D.files) (f := f) (f' := { f with now := [] }) (·.now.length) C.blocks hf rfl
   have := C.used
   simp only [List.length_nil] at hsum; omega
  refine d114 a2.hasL (by omega) fun q44 h43 hx43 A43 hq43 => ⟨q44, rfl, ?_⟩
  refine yD (hx43 _ _ c) (by simp) ?_
  have C43 := C36.ext (zK hx43) hx43.len
  obtain ⟨C46, S46⟩ := C36.setNow hfm (q' := q44) (now' := f.safe) c a2 r2 A43 (zK hx43) hx43.len (fun s hs => .inl (hq43 s hs)) (fun x hx => by
    have hx : x ∈ D.pends := hx
    rw [hp] at hx; cases hx) (Nat.le_refl _) (by
    have hsum := zCS (fs := zEH D.files dn) (f := f) (f' := { f with now := f.safe }) (·.now.length) C36.blocks hfm rfl
    have := C36.used
    simp only at hsum this ⊢
    omega) (B := .cells (splice [.str f.name, .sl qn, .sl qs] (0 + 1) [.sl q44]) true) rfl
  have C46' : yS (h43.set f.b (.cells (splice [.str f.name, .sl qn, .sl qs] (0 + 1) [.sl q44]) true)) (yP ow2 q44 (.now f.b)) p m none es cl { D with files := zEH D.files (f.b :: dn) } := by
   rw [<- zLN C.blocks hf hfd]; exact C46
  have hlb : h.length ≠ f.b := fun he => by rw [he, hfr] at how; cases how
  have hit46 : (h43.set f.b (.cells (splice [.str f.name, .sl qn, .sl qs] (0 + 1) [.sl q44]) true))[h.length]? = some (.it (some m) cl (seen ++ [e.2.2]) cl) := by
   rw [List.getElem?_set, if_neg (Ne.symm hlb)]; exact hx43 _ _ hit36
  have S36 : yY ow h ow2 h36 := ⟨fun b B hb hB => K36 _ _ (fun hx => by have := zD hB; omega) (S32.keeps b B hb hB), by have := S32.len; omega, S32.own⟩
  refine ⟨trivial, ⟨seen ++ [e.2.2], f.b :: dn, yP ow2 q44 (.now f.b), hit46, C46', S36.trans S46, ?_, ?_⟩, ?_⟩
  ·unfold yP
   cases q44 with
   | none => exact how
   | some s =>
    simp only
    rw [if_neg]
    ·exact how
    ·have := hq43 s rfl
     omega
  ·intro e' he' f' hf' hv'
   rw [List.mem_append, List.mem_singleton, List.mem_cons, hrel e' he' f' hf' hv']
   constructor
   ·rintro (h1 | h1)
    ·exact .inr h1
    ·left
     have := zIJ C.born he' hem h1
     subst this
     rw [hv] at hv'
     simpa using hv'.symm
   ·rintro (h1 | h1)
    ·right
     have : e' = e := zKV C.ents C.blocks he' hem (by rw [hv', hv, h1])
     rw [this]
    ·exact .inl h1
  ·unfold leftN
   simp only [hit46, hit]
   exact zN6 he
end
section
variable {h h' : Heap} {ow ow' : zO} {p m : Nat} {qp : OSl} {es : Ents} {cl : Nat} {D : DS} {f f' : FA} {Q : AHp}
set_option maxRecDepth 20000 in
theorem d34 (R : yX h ow p D) {q : OSl} {keep : List Int} (H : HasL intE h q keep) (hqo : ∀ s, q = some s -> ow s.b = none) (hpl : D.pends.length <= 1000000)
  (hQ : ∀ h' ow', yX h' ow' p (D.crash keep) -> yY ow h ow' h' -> Q (.tup []) h') : AC Tryz.prog 34 [.ptr (some ⟨p, 0⟩), .sl q] h Q := ac34 (by
 unfold vc34
 refine d104 R ⟨_, rfl, zB (fun g => by cases g) (fun _ => ?_)⟩
 obtain ⟨m, qp, es, cl, C⟩ := R
 refine ⟨qp, C.at (k := 1) rfl, ?_⟩
 have hlen := C.pnd.hasL.len
 have hkl := H.len
 let St : Heap -> zO -> Nat -> Prop := fun h9 ow9 j => yS h9 ow9 p m qp es cl { D with files := jH D.files (D.pends.take j) keep } /\ yY ow h ow9 h9
 refine ⟨fun xs h11 => ∃ (i : Nat) (ow11 : zO), xs = [.int .i64 i] /\ i <= D.pends.length /\ St h11 ow11 i, fun xs _ => match xs with | [.int _ i] => (D.pends.length - i).toNat | _ => 0, ⟨0, ow, rfl, by omega, C, .refl _ _⟩, ?_⟩
 rintro n8 h11 ⟨i, ow11, hx, hi, C11, S11⟩
 simp only [List.cons.injEq, AV.int.injEq, true_and, and_true] at hx
 subst hx
 refine zB (fun g1 => ?_) (fun g1 => ?_)
 ·replace g1 := of_decide_eq_true g1
  have A11 : AppJ kP h11 qp D.pends := C11.pnd
  refine AppJ.idx (E := kP) A11 (by omega) (by omega) fun pp x hx0 hc hpp => ⟨some ⟨x.1, 0⟩, ((x.2.1 : Nat) : Int), zFU (b := secB x.2.2) ⟨hc, ?_⟩⟩
  have hx' : D.pends[i]? = some x := by simpa using hx0
  have ht : D.pends.take (i + 1) = D.pends.take i ++ [x] := by rw [List.take_add_one, hx']; rfl
  have htl : (D.pends.take i).length = i := by rw [List.length_take]; omega
  obtain ⟨g2, hg2, hg2b, hg2l⟩ := C11.pfile x (List.mem_of_getElem? hx')
  rw [zF ⟨by omega, by omega⟩]
  refine zB (fun g3 => ?_) (fun g3 => ?_)
  ·replace g3 := of_decide_eq_true g3
   have H11 : HasL intE h11 q keep := S11.keeps.hasL (fun s hs => by show ¬ (ow s.b ≠ none); simp [hqo s hs]) H
   refine HasL.idx (E := intE) H11 (by omega) (by omega) fun pp2 n hn hcn => ⟨n, hcn, ?_⟩
   have hn' : keep[i]? = some n := by simpa using hn
   have hd92 := fun (Q : AHp) hQ => d113 (Q := Q) (s := x.2.2) (n := n) C11 hg2 hg2l hQ
   rw [hg2b] at hd92
   refine hd92 _ fun h22 ow22 C22 S22 => ⟨rfl, trivial, ⟨i + 1, ow22, by simp, by omega, ?_, S11.trans S22⟩, by simp only; omega⟩
   show yS h22 ow22 p m qp es cl { D with files := jH D.files (D.pends.take (i + 1)) keep }
   have e : jH D.files (D.pends.take (i + 1)) keep = upF (jH D.files (D.pends.take i) keep) (jJ g2 x.2.1 x.2.2 n) := by
    rw [ht, zES, htl, hn']
    simp only [zOD]
    rw [<- hg2b, find_b C11.blocks hg2]
   rw [e]; exact C22
  ·replace g3 := of_decide_eq_false g3
   refine ⟨trivial, ⟨i + 1, ow11, by simp, by omega, ?_, S11⟩, by simp only; omega⟩
   show yS h11 ow11 p m qp es cl { D with files := jH D.files (D.pends.take (i + 1)) keep }
   have e : jH D.files (D.pends.take (i + 1)) keep = jH D.files (D.pends.take i) keep := by
    rw [ht, zES, htl, List.getElem?_eq_none (by omega)]
   rw [e]; exact C11
 ·replace g1 := of_decide_eq_false g1
  have : i = D.pends.length := by omega
  subst this
  have C11 : yS h11 ow11 p m qp es cl { D with files := jH D.files D.pends keep } := by rw [List.take_length] at C11; exact C11
  refine yD C11.pb (by simp) ?_
  obtain ⟨C21, S21⟩ := C11.setPend (l' := []) (q' := none) (.inl ⟨rfl, rfl⟩) (.refl _ _) (Nat.le_refl _) (by simp) (by simp) (B := .cells (splice [.map (some m), .sl qp, .int .i64 D.limit, .int .i64 D.left, .bool D.off] (0 + 1) [.sl none]) true) rfl
  generalize h11.set p (.cells (splice [.map (some m), .sl qp, .int .i64 D.limit, .int .i64 D.left, .bool D.off] (0 + 1) [.sl none]) true) = h21 at *
  refine yD C21.pb (by simp) ?_
  obtain ⟨C23, S23⟩ := C21.put (D' := { D with files := jH D.files D.pends keep, pends := [], left := -1 }) (B := .cells (splice [.map (some m), .sl none, .int .i64 D.limit, .int .i64 D.left, .bool D.off] (0 + 3) [.int .i64 (-1)]) true) rfl rfl rfl rfl (by simp)
  generalize h21.set p (.cells (splice [.map (some m), .sl none, .int .i64 D.limit, .int .i64 D.left, .bool D.off] (0 + 3) [.int .i64 (-1)]) true) = h23 at *
  refine yD C23.pb (by simp) ?_
  obtain ⟨C25, S25⟩ := C23.put (D' := { D with files := jH D.files D.pends keep, pends := [], left := -1, off := false }) (B := .cells (splice [.map (some m), .sl none, .int .i64 D.limit, .int .i64 (-1), .bool D.off] (0 + 4) [.bool false]) true) rfl rfl rfl rfl (by simp)
  generalize h23.set p (.cells (splice [.map (some m), .sl none, .int .i64 D.limit, .int .i64 (-1), .bool D.off] (0 + 4) [.bool false]) true) = h25 at *
  refine ⟨some m, C25.at (k := 0) rfl, ?_⟩
  refine zL4 (ow0 := ow) (h0 := h) C25 rfl fun h' ow' C' S' => ?_
  exact hQ _ _ ⟨_, _, _, _, C'⟩ (S11.trans (S21.trans (S23.trans (S25.trans S')))))
structure Base (h0 : Heap) (ow : zO) (h : Heap) : Prop where
 new : ∀ b, ow b ≠ none -> h0.length <= b
 ext : Ext h0 h
theorem Base.step {h0 : Heap} (B : Base h0 ow h) (S : yY ow h ow' h') : Base h0 ow' h' := by
 refine ⟨fun b hb => ?_, fun b X hX => ?_⟩
 ·rcases S.own b hb with h1 | h1
  ·exact B.new b h1
  ·have := B.ext.len; omega
 ·exact S.keeps b X (fun hb => by have := B.new b hb; have := zD hX; omega) (B.ext b X hX)
end
section
attribute [local irreducible] vB zCM
section
variable {h h' : Heap} {ow ow' : zO} {p m : Nat} {qp : OSl} {es : Ents} {cl : Nat} {D : DS} {f f' : FA} {Q : AHp}
theorem yS.drop (C : yS h ow p m qp es cl D) (hf : f ∈ D.files) {j : Nat} (hj : D.files[j]? = some f) (hpg : ∀ x ∈ D.pends, x.1 ≠ f.b) :
  yS (h.set m (.mp (es.eraseIdx j) cl)) ow p m qp (es.eraseIdx j) cl { D with files := D.files.filter (fun g => !(g.b == f.b)) } /\ yY ow h ow (h.set m (.mp (es.eraseIdx j) cl)) := by
 have hfi : D.files.eraseIdx j = D.files.filter (fun g => !(g.b == f.b)) := zC8 C.blocks hj
 have hml := C.live m (by simp [C.mr])
 have hpm : m ≠ p := fun e => by have := C.mr; rw [e, C.pr] at this; cases this
 have K : zM (fun b => b = m) h (h.set m (.mp (es.eraseIdx j) cl)) := zT rfl
 have hm1 : ∀ g ∈ D.files.filter (fun g => !(g.b == f.b)), g ∈ D.files /\ g.b ≠ f.b := fun g hg => by
  have := List.mem_filter.1 hg
  exact ⟨this.1, by simpa using this.2⟩
 have hs1 : ((D.files.eraseIdx j).map (·.now.length)).sum + f.now.length = (D.files.map (·.now.length)).sum := by
  rw [xH]; exact zEB (by rw [List.getElem?_map, hj]; rfl)
 have hu := C.used
 have hmr := C.mr
 refine ⟨⟨fun b hb => by rw [List.length_set]; exact C.live b hb, C.pr, C.mr, K _ _ (fun e => hpm e.symm) C.pb, by rw [List.getElem?_set_self hml], ?_, ?_, ?_, ?_, C.pndr, ?_, ?_, ?_, ?_, ?_, ?_, ?_, ?_, C.lim, C.lft⟩, ?_⟩
 ·show _ = List.map zBO (List.filter _ _)
  rw [<- hfi, xH, xH, C.ents]
 ·rw [xH]; exact jB C.born j
 ·exact fun e he => C.clk e (List.mem_of_mem_eraseIdx he)
 ·refine C.pnd.keeps K fun s hs e => ?_
  have := C.pndr s hs
  rw [e, hmr] at this; cases this
 ·intro g hg
  refine (C.file g (hm1 g hg).1).keeps K (fun b hb e => ?_) fun b r h => h
  subst e
  rcases hb with ⟨h1, _⟩ | h1 | h1 <;> · rw [hmr] at h1; cases h1
 ·show (List.map _ (List.filter _ _)).Nodup
  rw [<- hfi, xH]; exact jB C.names j
 ·show (List.map _ (List.filter _ _)).Nodup
  rw [<- hfi, xH]; exact jB C.blocks j
 ·intro x hx
  obtain ⟨g, g1, g2, g3⟩ := C.pfile x hx
  exact ⟨g, List.mem_filter.2 ⟨g1, by have := hpg x hx; rw [<- g2] at this; simpa using this⟩, g2, g3⟩
 ·exact fun g hg => C.safe g (hm1 g hg).1
 ·exact fun g hg => C.nlen g (hm1 g hg).1
 ·have := C.many
  have h2 := List.length_filter_le (fun g : FA => !(g.b == f.b)) D.files
  show (List.filter _ _).length <= 256
  omega
 ·show (List.map _ (List.filter _ _)).sum <= _
  rw [<- hfi]; omega
 ·refine ⟨fun b B hb hB => K b B (fun e => hb (by have e : b = m := e; show ow b ≠ none; rw [e, hmr]; simp)) hB, by simp, fun b hb => .inl hb⟩
theorem d126 (R : yX h ow p D) {s : Bs} (hpl : D.pends.length <= 1000000) (hQ : ∀ h' ow', yX h' ow' p (D.delete s).2 -> yY ow h ow' h' -> Q (.int .i64 (D.delete s).1) h') : AC Tryz.prog 126 [.ptr (some ⟨p, 0⟩), .str s] h Q := ac126 (by
 unfold vc126
 unfold DS.delete at hQ
 refine d130 R (fun ho => ⟨_, _, rfl, ?_⟩) (fun ho hn => ⟨_, _, rfl, ?_⟩) fun f ho hfd hf hfn => ⟨_, _, rfl, ?_⟩
 ·rw [ho] at hQ; exact hQ h ow R (.refl _ _)
 ·rw [ho, hn] at hQ; exact hQ h ow R (.refl _ _)
 rw [ho, hfd] at hQ
 simp only [Bool.false_eq_true, if_false] at hQ
 show AC Tryz.prog 172 _ _ _
 refine d172 R fun h8 R8 S8 => ⟨_, rfl, zB (fun g => ?_) (fun g => ?_)⟩
 ·have g : ¬ D.deed.1 = 0 := by simpa using g
  rw [if_neg g] at hQ; exact hQ h8 ow R8 S8
 have g : D.deed.1 = 0 := by simpa using g
 rw [if_pos g] at hQ
 obtain ⟨m, qp, es, cl, C8⟩ := R8
 have hf8 : f ∈ D.deed.2.files := by rw [yN]; exact hf
 refine d174 C8 hf8 (by rw [yK]; exact hpl) fun q' h11 ow11 C11 S11 => ⟨rfl, ?_⟩
 refine ⟨some m, C11.at (k := 0) rfl, ?_⟩
 unfold vC
 simp only [C11.mb]
 have hk : ∀ s, zAR Tryz.prog 9 (.str s) = true := fun s => by simp only [zAR, Tryz.underlying9]
 simp only [hk, need]
 have hff : (D.deed.2.forget f.b).files.find? (fun g => g.name == s) = some f := by
  show D.deed.2.files.find? _ = _
  rw [yN]; exact hfd
 refine jS Tryz.underlying9 C11.ents (fun hn => by rw [hff] at hn; cases hn) fun j f0 n e1 e2 e3 => ?_
 rw [hff] at e1
 obtain rfl : f = f0 := Option.some.inj e1
 simp only [Nat.zero_add]
 obtain ⟨C12, S12⟩ := C11.drop (f := f) hf8 e2 (fun x hx => by
  have hx : x ∈ D.deed.2.pends.filter (notB f.b) := hx
  have := (List.mem_filter.1 hx).2
  simpa [notB] using this)
 have e4 : ({ D.deed.2.forget f.b with files := (D.deed.2.forget f.b).files.filter (fun g => !(g.b == f.b)) } : DS) = { D.deed.2 with files := D.files.filter (fun g => !(g.b == f.b)), pends := D.pends.filter (notB f.b) } := by
  unfold DS.forget
  rw [yN, yK]
 rw [e4] at C12
 exact hQ _ ow11 ⟨_, _, _, _, C12⟩ ((S8.trans S11).trans S12))
end
end
def plE : Enc Nat := ⟨1, fun b => [.ptr (some ⟨b, 0⟩)], fun _ => rfl, by omega, fun _ => rfl⟩
def pdE : Enc (Nat × Nat × OSl) := ⟨3, fun x => [.ptr (some ⟨x.1, 0⟩), .int .i64 (x.2.1 : Nat), .sl x.2.2], fun _ => rfl, by omega, fun _ => rfl⟩
def SecL (h : Heap) (ow : zO) (q : OSl) (l : List Bs) : Prop :=
 ∃ qs : List (OSl), Apd slE h q qs /\ qs.length = l.length /\ ∀ (k : Nat) (t : OSl) (x : Bs), qs[k]? = some t -> l[k]? = some x -> HasL byE h t x /\ x.length = 64 /\ ∀ s, t = some s -> ow s.b = none
structure RFile (h : Heap) (ow : zO) (f : FA) : Prop where
 role : ow f.b = some .file
 cells : ∃ qn qs, h[f.b]? = some (.cells [.str f.name, .sl qn, .sl qs] true) /\ SecL h ow qn f.now /\ SecL h ow qs f.safe /\ (∀ s, qn = some s -> ow s.b = some (.now f.b)) /\ (∀ s, qs = some s -> ow s.b = some (.safe f.b))
structure RDC (h : Heap) (ow : zO) (p : Nat) (qL qP : OSl) (D : DS) : Prop where
 live : ∀ b, ow b ≠ none -> b < h.length
 pr : ow p = some .disk
 pb : h[p]? = some (.cells [.sl qL, .sl qP, .int .i64 D.limit, .int .i64 D.left, .bool D.off] true)
 lst : HasL plE h qL (D.files.map (·.b))
 lstr : ∀ s, qL = some s -> ow s.b = none
 pnd : ∃ ps : List (Nat × Nat × OSl), Apd pdE h qP ps /\ ps.length = D.pends.length /\ ∀ (k : Nat) (x : Nat × Nat × OSl) (y : PD), ps[k]? = some x -> D.pends[k]? = some y -> x.1 = y.1 /\ x.2.1 = y.2.1 /\ HasL byE h x.2.2 y.2.2 /\ y.2.2.length = 64 /\ ∀ s, x.2.2 = some s -> ow s.b = none
 pndr : ∀ s, qP = some s -> ow s.b = some .pends
 file : ∀ f ∈ D.files, RFile h ow f
 names : (D.files.map (·.name)).Nodup
 blocks : (D.files.map (·.b)).Nodup
 pfile : ∀ x ∈ D.pends, ∃ f ∈ D.files, f.b = x.1 /\ x.2.1 < f.now.length
 many : D.files.length <= 256
 used : (D.files.map (·.now.length)).sum <= 16384
 lim : D.limit <= 16384
 lft : -1 <= D.left /\ D.left <= 9223372036854775807
def RDR (h : Heap) (ow : zO) (p : Nat) (D : DS) : Prop := ∃ qL qP, RDC h ow p qL qP D
def dskR (ow : zO) : Nat -> Prop := fun b => ow b ≠ none /\ ow b ≠ some .map
structure yV (ow : zO) (h : Heap) (ow' : zO) (h' : Heap) : Prop where
 keeps : zM (dskR ow) h h'
 len : h.length <= h'.length
 own : ∀ b, ow' b ≠ none -> ow b ≠ none ∨ h.length <= b
 fgn : ∀ b, ow b = some .map -> ow' b = some .map
theorem yV.refl (ow : zO) (h : Heap) : yV ow h ow h := ⟨.refl _ _, Nat.le_refl _, fun b hb => .inl hb, fun b h => h⟩
theorem yV.trans {ow0 ow1 ow2 : zO} {h0 h1 h2 : Heap} (a : yV ow0 h0 ow1 h1) (b : yV ow1 h1 ow2 h2) : yV ow0 h0 ow2 h2 := by
 refine ⟨fun k B hk hB => ?_, Nat.le_trans a.len b.len, fun k hk => ?_, fun k hk => b.fgn k (a.fgn k hk)⟩
 ·refine b.keeps k B (fun hn => ?_) (a.keeps k B hk hB)
  rcases a.own k hn.1 with h | h
  ·exact hk ⟨h, fun hm => hn.2 (a.fgn k hm)⟩
  ·have := zD hB; omega
 ·rcases b.own k hk with h | h
  ·exact a.own k h
  ·exact .inr (Nat.le_trans a.len h)
theorem yV.ext {ow : zO} {h h' : Heap} (e : Ext h h') : yV ow h ow h' := ⟨zK e, e.len, fun b hb => .inl hb, fun b h => h⟩
section
variable {h h' : Heap} {ow ow' : zO} {p : Nat} {qL qP : OSl} {D : DS} {f : FA} {Q : AHp}
theorem SecL.keeps {X : Nat -> Prop} {q : OSl} {l : List Bs} (S : SecL h ow q l) (K : zM X h h') (hq : ∀ s, q = some s -> ¬ X s.b) (hX : ∀ b, ow b = none -> b < h.length -> ¬ X b) (ho : ∀ b, ow b = none -> b < h.length -> ow' b = none) : SecL h' ow' q l := by
 obtain ⟨qs, A, hl, hel⟩ := S
 refine ⟨qs, A.keeps K hq, hl, fun k t x h1 h2 => ?_⟩
 obtain ⟨a, b, c⟩ := hel k t x h1 h2
 exact ⟨K.hasL (fun s hs => hX _ (c s hs) (HasL.live a s hs)) a, b, fun s hs => ho _ (c s hs) (HasL.live a s hs)⟩
theorem RDC.ext (C : RDC h ow p qL qP D) (K : zM (fun b => b ≥ h.length) h h') (hl : h.length <= h'.length) : RDC h' ow p qL qP D := by
 have lt : ∀ b, b < h.length -> ¬ b ≥ h.length := fun b hb => by omega
 have lv : ∀ b, ow b ≠ none -> ¬ b ≥ h.length := fun b hb => by have := C.live b hb; omega
 refine { C with live := fun b hb => by have := C.live b hb; omega, pb := K _ _ (lv p (by simp [C.pr])) C.pb, lst := K.hasL (fun s hs => lt _ (HasL.live C.lst s hs)) C.lst, pnd := ?_, file := fun f hf => ?_ }
 ·obtain ⟨ps, A, hl2, hel⟩ := C.pnd
  refine ⟨ps, A.keeps K (fun s hs => lv _ (by simp [C.pndr s hs])), hl2, fun k x y h1 h2 => ?_⟩
  obtain ⟨a, b, c, d, e⟩ := hel k x y h1 h2
  exact ⟨a, b, K.hasL (fun s hs => lt _ (HasL.live c s hs)) c, d, e⟩
 ·obtain ⟨r, qn, qs, c, a1, a2, r1, r2⟩ := C.file f hf
  exact ⟨r, qn, qs, K _ _ (lv _ (by simp [r])) c, a1.keeps K (fun s hs => lv _ (by simp [r1 s hs])) (fun b _ hb => lt b hb) (fun b hb _ => hb), a2.keeps K (fun s hs => lv _ (by simp [r2 s hs])) (fun b _ hb => lt b hb) (fun b hb _ => hb), r1, r2⟩
theorem RDC.grow (C : RDC h ow p qL qP D) (x : Ext h h') : RDC h' ow p qL qP D := C.ext (fun b B _ hB => x b B hB) x.len
theorem RDR.grow (R : RDR h ow p D) (x : Ext h h') : RDR h' ow p D := by
 obtain ⟨qL, qP, C⟩ := R
 exact ⟨qL, qP, C.grow x⟩
theorem RDC.at (C : RDC h ow p qL qP D) {k : Nat} {x : AV} (hx : [AV.sl qL, .sl qP, .int .i64 D.limit, .int .i64 D.left, .bool D.off][k]? = some x) : zA h ⟨p, 0 + k⟩ 1 = some [x] := by
 have hk : k < 5 := by
  have := (List.getElem?_eq_some_iff.1 hx).1
  simpa using this
 rw [zZ C.pb (by simp only [List.length_cons, List.length_nil]; omega)]
 match k, hk with
 | 0, _ | 1, _ | 2, _ | 3, _ | 4, _ => cases hx; rfl
theorem r50 {n : Int} (h0 : 0 <= n) (h1 : n <= 16384) (hQ : ∀ ow, RDR (h ++ [.cells [.sl none, .sl none, .int .i64 n, .int .i64 (-1), .bool false] true]) ow h.length (yB n) -> (∀ b, ow b ≠ none -> b = h.length) -> Q (.ptr (some ⟨h.length, 0⟩)) (h ++ [.cells [.sl none, .sl none, .int .i64 n, .int .i64 (-1), .bool false] true])) : AC Tryz.prog 50 [.int .i64 n] h Q := ac50 (by
 unfold vc50 PNew
 refine zB (fun g => by have := of_decide_eq_true g; omega) (fun _ => zB (fun g => by have := of_decide_eq_true g; omega) (fun _ => ?_))
 refine hQ (fun b => if b = h.length then some .disk else none) ⟨none, none, ?_⟩ (fun b hb => by
  apply Classical.byContradiction
  intro hc
  simp [hc] at hb)
 refine ⟨fun b hb => ?_, by simp, by simp [yB], rfl, by simp, ⟨[], .inl ⟨rfl, rfl⟩, rfl, by simp⟩, by simp, by simp [yB], by simp [yB], by simp [yB], by simp [yB], by simp [yB], by simp [yB], h1, by simp [yB]⟩
 have : b = h.length := by
  apply Classical.byContradiction
  intro hc
  simp [hc] at hb
 subst this
 simp)
theorem r198 {s : Bs} (hQ : Q (.bool (mayN s)) h) : AC Tryz.prog 198 [.str s] h Q := ac198 (by
 unfold vc198
 unfold mayN at hQ
 refine zB (fun g => ?_) (fun g => ?_)
 ·replace g := of_decide_eq_true g
  rw [decide_eq_true (by omega), Bool.true_and] at hQ
  have : decide ((s.length : Int) <= 24) = decide (s.length <= 24) := decide_eq_decide.2 ⟨fun h => by omega, fun h => by omega⟩
  rw [this]; exact hQ
 ·replace g := of_decide_eq_false g
  rw [decide_eq_false (by omega), Bool.false_and] at hQ
  exact hQ)
theorem r199 {e : Int} (C : RDC h ow p qL qP D) (hon : D.off = false) (hl : D.left = -1) (hQ : Q (.int .i64 e) h) : AC Tryz.prog 199 [.ptr (some ⟨p, 0⟩), .int .i64 e] h Q := ac199 (by
 unfold vc199
 refine zB (fun g => hQ) (fun _ => ⟨_, C.at (k := 4) rfl, ?_⟩)
 rw [hon]
 refine zB (fun g => by cases g) (fun _ => zB (fun _ => hQ) (fun g => ?_))
 have g : e = 0 := by simpa using g
 subst g
 refine ac258 ?_
 unfold vc258
 refine ⟨_, C.at (k := 3) rfl, ?_⟩
 rw [hl]
 refine zB (fun g => by simp at g) (fun _ => ⟨_, C.at (k := 3) rfl, ?_⟩)
 rw [hl]
 exact zB (fun g => by simp at g) (fun _ => ⟨_, rfl, zB (fun g => by simp at g) (fun _ => hQ)⟩))
theorem r55 {s : Bs} (C : RDC h ow p qL qP D) (h0 : D.find s = none -> Q (.ptr none) h) (h1 : ∀ f, D.find s = some f -> Q (.ptr (some ⟨f.b, 0⟩)) h) : AC Tryz.prog 55 [.ptr (some ⟨p, 0⟩), .str s] h Q := ac55 (by
 unfold vc55
 have hll := C.lst.len
 rw [List.length_map] at hll
 refine ⟨fun xs h6 => h6 = h /\ ∃ i : Nat, xs = [.int .i64 (i : Nat)] /\ i <= D.files.length /\ ∀ f ∈ D.files.take i, f.name ≠ s, fun xs _ => match xs with | [.int _ i] => (D.files.length - i).toNat | _ => 0, ⟨rfl, 0, rfl, by omega, by simp⟩, ?_⟩
 rintro n3 h6 ⟨rfl, i, hx, hi, hn⟩
 simp only [List.cons.injEq, AV.int.injEq, true_and, and_true] at hx
 subst hx
 have hm := C.many
 refine ⟨_, C.at (k := 0) rfl, ?_⟩
 rw [hll]
 refine zB (fun g => ?_) (fun g => ?_)
 ·replace g := of_decide_eq_true g
  have hil : i < D.files.length := by omega
  have hf : D.files[i]? = some D.files[i] := List.getElem?_eq_getElem hil
  generalize D.files[i] = f at hf
  have hfm := List.mem_of_getElem? hf
  obtain ⟨r, qn, qs, c, _⟩ := C.file f hfm
  refine ⟨_, C.at (k := 0) rfl, ?_⟩
  refine HasL.idx (E := plE) C.lst (by omega) (by rw [List.length_map]; omega) fun p11 b hb hc => ?_
  rw [Int.toNat_natCast, List.getElem?_map, hf] at hb
  cases hb
  refine ⟨_, hc, _, by rw [zZ c (by simp)]; rfl, ?_⟩
  refine zB (fun g2 => ?_) (fun g2 => ?_)
  ·have g2 : f.name = s := by simpa using g2
   refine ⟨_, C.at (k := 0) rfl, ?_⟩
   refine HasL.idx (E := plE) C.lst (by omega) (by rw [List.length_map]; omega) fun p17 b hb hc => ?_
   rw [Int.toNat_natCast, List.getElem?_map, hf] at hb
   cases hb
   refine ⟨_, hc, h1 f ?_⟩
   unfold DS.find
   rw [List.find?_eq_some_iff_getElem]
   obtain ⟨hl, rfl⟩ := List.getElem?_eq_some_iff.1 hf
   refine ⟨by simpa using g2, i, hl, rfl, fun j hj => ?_⟩
   have : D.files[j] ∈ D.files.take i := List.mem_of_getElem? (i := j) (by rw [List.getElem?_take, if_pos hj]; exact List.getElem?_eq_getElem _)
   simpa using hn _ this
  ·have g2 : f.name ≠ s := by simpa using g2
   rw [zF ⟨by omega, by omega⟩]
   refine ⟨trivial, ⟨rfl, i + 1, by simp, by omega, fun g hg => ?_⟩, by simp only; omega⟩
   rw [List.take_add_one, hf] at hg
   rcases List.mem_append.1 hg with hg | hg
   ·exact hn g hg
   ·simp at hg; subst hg; exact g2
 ·replace g := of_decide_eq_false g
  have : i = D.files.length := by omega
  subst this
  rw [List.take_length] at hn
  exact h0 (List.find?_eq_none.2 fun f hf => by simpa using hn f hf))
theorem zPT {fs : List FA} {i : Nat} {f : FA} (hf : fs[i]? = some f) : ((fs.take (i + 1)).map (·.now.length)).sum = ((fs.take i).map (·.now.length)).sum + f.now.length := by
 rw [List.take_add_one, hf]; simp
theorem sumF_le {fs : List FA} {i : Nat} : ((fs.take i).map (·.now.length)).sum <= (fs.map (·.now.length)).sum := by
 have : fs = fs.take i ++ fs.drop i := (List.take_append_drop _ _).symm
 conv => rhs; rw [this]
 rw [List.map_append, List.sum_append]; omega
theorem r53 (C : RDC h ow p qL qP D) (hQ : Q (.int .i64 (D.used : Nat)) h) : AC Tryz.prog 53 [.ptr (some ⟨p, 0⟩)] h Q := ac53 (by
 unfold vc53
 have hll := C.lst.len
 rw [List.length_map] at hll
 have hm := C.many
 have hus := C.used
 refine ⟨fun xs h6 => h6 = h /\ ∃ i : Nat, xs = [.int .i64 (((D.files.take i).map (·.now.length)).sum : Nat), .int .i64 (i : Nat)] /\ i <= D.files.length, fun xs _ => match xs with | [_, .int _ i] => (D.files.length - i).toNat | _ => 0, ⟨rfl, 0, rfl, by omega⟩, ?_⟩
 rintro n2 n3 h6 ⟨rfl, i, hx, hi⟩
 simp only [List.cons.injEq, AV.int.injEq, true_and, and_true] at hx
 obtain ⟨rfl, rfl⟩ := hx
 refine ⟨_, C.at (k := 0) rfl, ?_⟩
 rw [hll]
 refine zB (fun g => ?_) (fun g => ?_)
 ·replace g := of_decide_eq_true g
  have hil : i < D.files.length := by omega
  have hf : D.files[i]? = some D.files[i] := List.getElem?_eq_getElem hil
  generalize D.files[i] = f at hf
  have hfm := List.mem_of_getElem? hf
  obtain ⟨r, qn, qs, c, ⟨qss, A, hql, _⟩, _⟩ := C.file f hfm
  refine ⟨_, C.at (k := 0) rfl, ?_⟩
  refine HasL.idx (E := plE) C.lst (by omega) (by rw [List.length_map]; omega) fun p11 b hb hc => ?_
  rw [Int.toNat_natCast, List.getElem?_map, hf] at hb
  cases hb
  refine ⟨_, hc, _, by rw [zZ c (by simp)]; rfl, trivial, ?_⟩
  have h1 := zPT hf
  have h2 := sumF_le (fs := D.files) (i := i + 1)
  rw [A.hasL.len, hql, zF ⟨by omega, by omega⟩, zF ⟨by omega, by omega⟩]
  exact ⟨⟨rfl, i + 1, by rw [h1]; simp, by omega⟩, by simp only; omega⟩
 ·replace g := of_decide_eq_false g
  have : i = D.files.length := by omega
  subst this
  rw [List.take_length]
  exact hQ)
end
end Go.Proofs.YtnglhicedhcpbaaGreatDoor
