/- The disk: Crash. -/
import Derived.Test.YtceplmmmlindnaaEG19
namespace Go.Proofs.Ytceplmmmlindnaa
open Go.Ab
set_option linter.unusedVariables false
set_option linter.unusedSimpArgs false

section
variable {h h' : Heap} {ow ow' : Roles} {p m : Nat} {qp : Option SL} {es : Ents} {cl : Nat} {D : DS} {f f' : FA} {Q : AV → Heap → Prop}

/-- slices.Clone of sectors. -/
theorem d93 {q : Option SL} {l : List Bs} (H : HasL secE h q l) (hl : l.length ≤ 1000000) (hQ : ∀ q' h', Ext h h' → AppJ secE h' q' l → (∀ s, q' = some s → h.length ≤ s.b) → Q (.sl q') h') : AC Try.prog 93 [.sl q] h Q := ac93 (by
  unfold vc93 PNew
  refine vif_mk (fun g => ?_) (fun g => ?_)
  · cases q with
    | none =>
      have : l = [] := H
      subst this
      exact hQ none h (.refl _) (.inl ⟨rfl, rfl⟩) (fun s hs => by cases hs)
    | some s => cases g
  have hx : Ext h (h ++ [Blk.cells [] true]) := .app _ _
  have A : AppJ secE (h ++ [Blk.cells [] true]) (some ⟨h.length, 0, 0, 0, 0⟩) ([] : List Bs) := .inr ⟨h.length, 0, 0, [], rfl, .inl rfl, by simp [Enc.all], by simp, by simp⟩
  refine AppJ.append (E := secE) (l := []) A (H.mono hx) (by simp; omega) fun q' h5 A5 K5 hl5 hq5 => ?_
  simp only [List.length_append, List.length_cons, List.length_nil] at hl5 hq5
  refine hQ q' h5 (fun b B hb => ?_) (by simpa using A5) (fun s hs => ?_)
  · exact K5 _ _ (fun ⟨s, h1, h2⟩ => by cases h1; have := lt_of_get hb; simp only at h2; omega) (hx _ _ hb)
  · rcases hq5 s hs with h | ⟨s2, h1, h2⟩
    · omega
    · cases h1; simp only at h2; omega)

/-- A pending write is kept, of whichever file. -/
def keepAt (fs : List FA) (x : PD) (n : Int) : List FA := match fs.find? (fun f => f.b == x.1) with | some f => upF fs (keepF f x.2.1 x.2.2 n) | none => fs
def crash1 (fs : List FA) (l : List PD) (keep : List Int) : List FA := (l.zip keep).foldl (fun fs x => keepAt fs x.1 x.2) fs
def crash2 (fs : List FA) : List FA := fs.map fun f => { f with now := f.safe }
def DS.crash (D : DS) (keep : List Int) : DS := ⟨crash2 (crash1 D.files D.pends keep), [], D.limit, -1, false⟩
theorem find_b {fs : List FA} (hn : (fs.map (·.b)).Nodup) (hf : f ∈ fs) : fs.find? (fun g => g.b == f.b) = some f := by
  have : (fs.find? (fun g => g.b == f.b)).isSome := by
    rw [List.find?_isSome]; exact ⟨f, hf, by simp⟩
  obtain ⟨g, hg⟩ := Option.isSome_iff_exists.1 this
  have h1 := List.mem_of_find?_eq_some hg
  have h2 : g.b = f.b := by simpa using List.find?_some hg
  rw [hg, uniq_b hn h1 hf h2]
theorem zip_snoc {α β : Type} : ∀ {l : List α} {k : List β} {x : α}, (l ++ [x]).zip k = l.zip k ++ (match k[l.length]? with | some n => [(x, n)] | none => [])
  | [], [], x => rfl
  | [], n :: k, x => by simp
  | y :: l, [], x => rfl
  | y :: l, n :: k, x => by
    simp only [List.cons_append, List.zip_cons_cons, List.length_cons, List.getElem?_cons_succ]
    rw [zip_snoc]
theorem crash1_snoc {fs : List FA} {l : List PD} {keep : List Int} {x : PD} : crash1 fs (l ++ [x]) keep = match keep[l.length]? with | some n => keepAt (crash1 fs l keep) x n | none => crash1 fs l keep := by
  unfold crash1
  rw [zip_snoc, List.foldl_append]
  cases keep[l.length]? <;> rfl

/-- .. of the files so far. -/
def part2 (fs : List FA) (dn : List Nat) : List FA := fs.map fun f => if f.b ∈ dn then { f with now := f.safe } else f
theorem part2_step {fs : List FA} {dn : List Nat} (hn : (fs.map (·.b)).Nodup) (hf : f ∈ fs) (hd : f.b ∉ dn) : upF (part2 fs dn) { f with now := f.safe } = part2 fs (f.b :: dn) := by
  unfold upF part2
  rw [List.map_map]
  apply List.map_congr_left
  intro g hg
  simp only [Function.comp]
  by_cases he : g.b = f.b
  · have := uniq_b hn hg hf he
    subst this
    rw [if_neg hd, if_pos rfl, if_pos List.mem_cons_self]
  · by_cases h2 : g.b ∈ dn
    · rw [if_pos h2]
      simp [he, h2]
    · rw [if_neg h2]
      simp [he, h2]
theorem part2_nil {fs : List FA} : part2 fs [] = fs := by
  unfold part2
  conv => rhs; rw [← List.map_id fs]
  apply List.map_congr_left
  intro g _; simp
theorem part2_b {fs : List FA} {dn : List Nat} : (part2 fs dn).map entOf = fs.map entOf := by
  unfold part2
  rw [List.map_map]
  apply List.map_congr_left
  intro g _
  simp only [Function.comp]
  split <;> rfl

def leftN (h : Heap) (a : Nat) (es : Ents) : Nat := match h[a]? with | some (.it _ _ seen _) => (leftE es seen).length | _ => 0

theorem left_step {es : Ents} {seen : List Nat} {e : AV × AV × Nat} (he : e ∈ leftE es seen) : (leftE es (seen ++ [e.2.2])).length < (leftE es seen).length := by
  have h1 := List.mem_filter.1 he
  have h2 : (leftE es (seen ++ [e.2.2])) = (leftE es seen).filter (fun x => !(x.2.2 == e.2.2)) := by
    unfold leftE
    rw [List.filter_filter]
    apply List.filter_congr
    intro x _
    simp [List.contains_eq_mem]
    by_cases hx : x.2.2 ∈ seen <;> by_cases hy : x.2.2 = e.2.2 <;> simp [hx, hy]
  rw [h2]
  refine List.length_filter_lt_length_iff_exists.2 ⟨e, he, by simp⟩

theorem allE_intro {K : AV × AV × Nat → Prop} : ∀ {l : Ents}, (∀ e ∈ l, K e) → allE l K
  | [], _ => trivial
  | [e], h => h e (by simp)
  | e :: e' :: es, h => ⟨h e (by simp), allE_intro fun x hx => h x (List.mem_cons_of_mem _ hx)⟩

theorem ent_at {fs : List FA} {es : Ents} (hents : es.map (fun e => (e.1, e.2.1)) = fs.map entOf) {e : AV × AV × Nat} (he : e ∈ es) : ∃ f ∈ fs, e.1 = .str f.name ∧ e.2.1 = .ptr (some ⟨f.b, 0⟩) := by
  have : (e.1, e.2.1) ∈ es.map (fun e => (e.1, e.2.1)) := List.mem_map.2 ⟨e, he, rfl⟩
  rw [hents] at this
  obtain ⟨f, hf, h⟩ := List.mem_map.1 this
  simp only [entOf, Prod.mk.injEq] at h
  exact ⟨f, hf, h.1.symm, h.2.symm⟩
theorem ent_uniq : ∀ {fs : List FA} {es : Ents}, es.map (fun e => (e.1, e.2.1)) = fs.map entOf → (fs.map (·.b)).Nodup → ∀ {e e' : AV × AV × Nat}, e ∈ es → e' ∈ es → e.2.1 = e'.2.1 → e = e'
  | [], [], _, _, _, _, he, _, _ => by cases he
  | [], _ :: _, h, _, _, _, _, _, _ => by simp at h
  | f :: fs, [], h, _, _, _, _, _, _ => by simp at h
  | f :: fs, x :: es, h, hn, e, e', he, he', hv => by
    simp only [List.map_cons, List.cons.injEq] at h
    simp only [List.map_cons, List.nodup_cons, List.mem_map, not_exists, not_and] at hn
    have hx : x.2.1 = .ptr (some ⟨f.b, 0⟩) := by have := congrArg Prod.snd h.1; simpa [entOf] using this
    have key : ∀ y ∈ es, y.2.1 ≠ x.2.1 := by
      intro y hy hyx
      obtain ⟨g, hg, _, h2⟩ := ent_at h.2 hy
      rw [h2, hx] at hyx
      simp only [AV.ptr.injEq, Option.some.injEq, PA.mk.injEq, and_true] at hyx
      exact hn.1 g hg hyx
    rcases List.mem_cons.1 he with rfl | he1 <;> rcases List.mem_cons.1 he' with rfl | he2
    · rfl
    · exact absurd hv.symm (key _ he2)
    · exact absurd hv (key _ he1)
    · exact ent_uniq h.2 hn.2 he1 he2 hv
theorem born_uniq {es : Ents} (hn : (es.map (·.2.2)).Nodup) {e e' : AV × AV × Nat} (he : e ∈ es) (he' : e' ∈ es) (h : e.2.2 = e'.2.2) : e = e' := by
  induction es with
  | nil => cases he
  | cons x es ih =>
    simp only [List.map_cons, List.nodup_cons, List.mem_map, not_exists, not_and] at hn
    rcases List.mem_cons.1 he with rfl | he1 <;> rcases List.mem_cons.1 he' with rfl | he2
    · rfl
    · exact absurd h.symm (hn.1 _ he2)
    · exact absurd h (hn.1 _ he1)
    · exact ih hn.2 he1 he2
theorem born_find {es : Ents} (hn : (es.map (·.2.2)).Nodup) {e : AV × AV × Nat} (he : e ∈ es) : es.find? (fun x => x.2.2 == e.2.2) = some e := by
  have : (es.find? (fun x => x.2.2 == e.2.2)).isSome := by rw [List.find?_isSome]; exact ⟨e, he, by simp⟩
  obtain ⟨g, hg⟩ := Option.isSome_iff_exists.1 this
  have h1 := List.mem_of_find?_eq_some hg
  have h2 : g.2.2 = e.2.2 := by simpa using List.find?_some hg
  rw [hg, born_uniq hn h1 he h2]

/-- The second half: each file is as it is kept. -/
theorem crash_tail {ow0 : Roles} {h0 : Heap} (C : DiskC h ow p m none es cl D) (hp : D.pends = []) (hQ : ∀ h' ow', DiskC h' ow' p m none es cl { D with files := crash2 D.files } → DStep ow h ow' h' → Q (.tup []) h') :
    vRange (some m) h fun a28 h29 => ∃ (I30 : List AV → Heap → Prop) (m31 : List AV → Heap → Nat), I30 [] h29 ∧ ∀ h32 : Heap, I30 [] h32 →
      PNext2 a28 h32 (fun h33 => Q (.tup []) h33) fun v34 v35 h36 => PEntry a28 h36 fun v37 => ∃ s38 : List UInt8, ∃ p39 : Option PA, v37 = .tup [.str s38, .ptr p39] ∧
        vPtr p39 fun p40 => ∃ q41 : Option SL, cellsAt h36 ⟨p40.b, p40.o + 2⟩ 1 = some [.sl q41] ∧
          AC Try.prog 93 [.sl q41] h36 fun v42 h43 => ∃ q44 : Option SL, v42 = .sl q44 ∧
            vPtr p39 fun p45 => PStore h43 ⟨p45.b, p45.o + 1⟩ [.sl q44] fun h46 => (True) ∧ I30 [] h46 ∧ m31 [] h46 < m31 [] h32 := by
  unfold vRange
  simp only [C.mb]
  have hx : Ext h (h ++ [Blk.it (some m) cl [] cl]) := .app _ _
  have C1 := C.ext (keeps_of_ext hx) hx.len
  have hoa : ow h.length = none := by
    cases ho : ow h.length with
    | none => rfl
    | some r => have := C.live h.length (by simp [ho]); omega
  have hml := C.live m (by simp [C.mr])
  refine ⟨fun _ h32 => ∃ (seen dn : List Nat) (ow2 : Roles), h32[h.length]? = some (.it (some m) cl seen cl) ∧ DiskC h32 ow2 p m none es cl { D with files := part2 D.files dn } ∧ DStep ow h ow2 h32 ∧ ow2 h.length = none ∧
      (∀ e ∈ es, ∀ f ∈ D.files, e.2.1 = .ptr (some ⟨f.b, 0⟩) → (e.2.2 ∈ seen ↔ f.b ∈ dn)), fun _ h32 => leftN h32 h.length es, ⟨[], [], ow, by simp, by rw [part2_nil]; exact C1, .ext hx, hoa, by simp⟩, ?_⟩
  rintro h32 ⟨seen, dn, ow2, hit, C32, S32, how, hrel⟩
  unfold PNext2
  simp only [hit, C32.mb]
  refine need_mk (by rw [List.all_eq_true]; intro e he; simp; exact C32.clk e he) ?_
  split
  · rename_i hl
    have : part2 D.files dn = crash2 D.files := by
      unfold part2 crash2
      apply List.map_congr_left
      intro f hf
      rw [if_pos]
      have hm : entOf f ∈ es.map (fun e => (e.1, e.2.1)) := by rw [C.ents]; exact List.mem_map_of_mem hf
      obtain ⟨e, he, hee⟩ := List.mem_map.1 hm
      have hv : e.2.1 = .ptr (some ⟨f.b, 0⟩) := by have := congrArg Prod.snd hee; simpa [entOf] using this
      refine (hrel e he f hf hv).1 ?_
      refine Decidable.byContradiction fun hns => ?_
      have : e ∈ leftE es seen := List.mem_filter.2 ⟨he, by simp [List.contains_eq_mem, hns]⟩
      rw [hl] at this; cases this
    rw [this] at C32
    exact hQ _ _ C32 S32
  · rename_i l hne
    refine allE_intro fun e he => ?_
    have hem := (List.mem_filter.1 he).1
    have hns : e.2.2 ∉ seen := by have := (List.mem_filter.1 he).2; simpa [List.contains_eq_mem] using this
    generalize hh36 : h32.set h.length (.it (some m) cl (seen ++ [e.2.2]) cl) = h36
    have hlt := lt_of_get hit
    have hit36 : h36[h.length]? = some (.it (some m) cl (seen ++ [e.2.2]) cl) := by rw [← hh36, List.getElem?_set_self hlt]
    have K36 : Keeps (fun b => b = h.length) h32 h36 := by rw [← hh36]; exact keeps_set rfl
    have hl36 : h36.length = h32.length := by rw [← hh36]; simp
    have C36 := C32.ext (fun b B hb hB => K36 _ _ (fun hx => hb (by rw [hx]; exact how)) hB) (by omega)
    obtain ⟨f, hf, hk, hv⟩ := ent_at C.ents hem
    have hfd : f.b ∉ dn := fun hd => hns ((hrel e hem f hf hv).2 hd)
    have hfm : f ∈ part2 D.files dn := List.mem_map.2 ⟨f, hf, by rw [if_neg hfd]⟩
    unfold PEntry
    simp only [hit36, List.getLast?_concat, C36.mb]
    refine need_mk (by simp) ?_
    simp only [born_find C.born hem]
    refine ⟨f.name, some ⟨f.b, 0⟩, by rw [hk, hv], ?_⟩
    obtain ⟨qn, qs, c0, c1, c2, c, a1, a2, r1, r2⟩ := (C36.file f hfm).at
    have hfr := (C36.file f hfm).role
    refine ⟨qs, c2, ?_⟩
    have hsl := C36.safe f hfm
    have hul : f.now.length ≤ 16384 := by
      have hsum := upF_sum (fs := D.files) (f := f) (f' := { f with now := [] }) (·.now.length) C.blocks hf rfl
      have := C.used
      simp only [List.length_nil] at hsum; omega
    refine d93 a2.hasL (by omega) fun q44 h43 hx43 A43 hq43 => ⟨q44, rfl, ?_⟩
    refine store6v (hx43 _ _ c) (by simp) ?_
    have C43 := C36.ext (keeps_of_ext hx43) hx43.len
    obtain ⟨C46, S46⟩ := C36.setNow hfm (q' := q44) (now' := f.safe) c a2 r2 A43 (keeps_of_ext hx43) hx43.len (fun s hs => .inl (hq43 s hs)) (fun x hx => by
        have hx : x ∈ D.pends := hx
        rw [hp] at hx; cases hx) (Nat.le_refl _) (by
        have hsum := upF_sum (fs := part2 D.files dn) (f := f) (f' := { f with now := f.safe }) (·.now.length) C36.blocks hfm rfl
        have := C36.used
        simp only at hsum this ⊢
        omega) (B := .cells (splice [.str f.name, .sl qn, .sl qs] (0 + 1) [.sl q44]) true) rfl
    have C46' : DiskC (h43.set f.b (.cells (splice [.str f.name, .sl qn, .sl qs] (0 + 1) [.sl q44]) true)) (setOw ow2 q44 (.now f.b)) p m none es cl { D with files := part2 D.files (f.b :: dn) } := by
      rw [← part2_step C.blocks hf hfd]; exact C46
    have hlb : h.length ≠ f.b := fun he => by rw [he, hfr] at how; cases how
    have hit46 : (h43.set f.b (.cells (splice [.str f.name, .sl qn, .sl qs] (0 + 1) [.sl q44]) true))[h.length]? = some (.it (some m) cl (seen ++ [e.2.2]) cl) := by
      rw [List.getElem?_set, if_neg (Ne.symm hlb)]; exact hx43 _ _ hit36
    have S36 : DStep ow h ow2 h36 := ⟨fun b B hb hB => K36 _ _ (fun hx => by have := lt_of_get hB; omega) (S32.keeps b B hb hB), by have := S32.len; omega, S32.own⟩
    refine ⟨trivial, ⟨seen ++ [e.2.2], f.b :: dn, setOw ow2 q44 (.now f.b), hit46, C46', S36.trans S46, ?_, ?_⟩, ?_⟩
    · unfold setOw
      cases q44 with
      | none => exact how
      | some s =>
        simp only
        rw [if_neg]
        · exact how
        · have := hq43 s rfl
          omega
    · intro e' he' f' hf' hv'
      rw [List.mem_append, List.mem_singleton, List.mem_cons, hrel e' he' f' hf' hv']
      constructor
      · rintro (h1 | h1)
        · exact .inr h1
        · left
          have := born_uniq C.born he' hem h1
          subst this
          rw [hv] at hv'
          simpa using hv'.symm
      · rintro (h1 | h1)
        · right
          have : e' = e := ent_uniq C.ents C.blocks he' hem (by rw [hv', hv, h1])
          rw [this]
        · exact .inl h1
    · unfold leftN
      simp only [hit46, hit]
      exact left_step he
end
end Go.Proofs.Ytceplmmmlindnaa

/- Crash whole; the law of a power that goes. -/
namespace Go.Proofs.Ytceplmmmlindnaa
open Go.Ab
set_option linter.unusedVariables false
set_option linter.unusedSimpArgs false

section
variable {h h' : Heap} {ow ow' : Roles} {p m : Nat} {qp : Option SL} {es : Ents} {cl : Nat} {D : DS} {f f' : FA} {Q : AV → Heap → Prop}

set_option maxRecDepth 20000 in
theorem d39 (R : DiskR h ow p D) {q : Option SL} {keep : List Int} (H : HasL intE h q keep) (hqo : ∀ s, q = some s → ow s.b = none) (hpl : D.pends.length ≤ 1000000)
    (hQ : ∀ h' ow', DiskR h' ow' p (D.crash keep) → DStep ow h ow' h' → Q (.tup []) h') : AC Try.prog 39 [.ptr (some ⟨p, 0⟩), .sl q] h Q := ac39 (by
  unfold vc39
  refine d86 R ⟨_, rfl, vif_mk (fun g => by cases g) (fun _ => ?_)⟩
  obtain ⟨m, qp, es, cl, C⟩ := R
  refine ⟨qp, C.at (k := 1) rfl, ?_⟩
  have hlen := C.pnd.hasL.len
  have hkl := H.len
  let St : Heap → Roles → Nat → Prop := fun h9 ow9 j => DiskC h9 ow9 p m qp es cl { D with files := crash1 D.files (D.pends.take j) keep } ∧ DStep ow h ow9 h9
  refine ⟨fun xs h11 => ∃ (i : Nat) (ow11 : Roles), xs = [.int .i64 i] ∧ i ≤ D.pends.length ∧ St h11 ow11 i, fun xs _ => match xs with | [.int _ i] => (D.pends.length - i).toNat | _ => 0, ⟨0, ow, rfl, by omega, C, .refl _ _⟩, ?_⟩
  rintro n8 h11 ⟨i, ow11, hx, hi, C11, S11⟩
  simp only [List.cons.injEq, AV.int.injEq, true_and, and_true] at hx
  subst hx
  refine vif_mk (fun g1 => ?_) (fun g1 => ?_)
  · replace g1 := of_decide_eq_true g1
    have A11 : AppJ pendE h11 qp D.pends := C11.pnd
    refine AppJ.idx (E := pendE) A11 (by omega) (by omega) fun pp x hx0 hc hpp => ⟨some ⟨x.1, 0⟩, ((x.2.1 : Nat) : Int), exC_mk (b := secB x.2.2) ⟨hc, ?_⟩⟩
    have hx' : D.pends[i]? = some x := by simpa using hx0
    have ht : D.pends.take (i + 1) = D.pends.take i ++ [x] := by rw [List.take_add_one, hx']; rfl
    have htl : (D.pends.take i).length = i := by rw [List.length_take]; omega
    obtain ⟨g2, hg2, hg2b, hg2l⟩ := C11.pfile x (List.mem_of_getElem? hx')
    rw [wrapK_i64 ⟨by omega, by omega⟩]
    refine vif_mk (fun g3 => ?_) (fun g3 => ?_)
    · replace g3 := of_decide_eq_true g3
      have H11 : HasL intE h11 q keep := S11.keeps.hasL (fun s hs => by show ¬ (ow s.b ≠ none); simp [hqo s hs]) H
      refine HasL.idx (E := intE) H11 (by omega) (by omega) fun pp2 n hn hcn => ⟨n, hcn, ?_⟩
      have hn' : keep[i]? = some n := by simpa using hn
      have hd92 := fun (Q : AV → Heap → Prop) hQ => d92 (Q := Q) (s := x.2.2) (n := n) C11 hg2 hg2l hQ
      rw [hg2b] at hd92
      refine hd92 _ fun h22 ow22 C22 S22 => ⟨rfl, trivial, ⟨i + 1, ow22, by simp, by omega, ?_, S11.trans S22⟩, by simp only; omega⟩
      show DiskC h22 ow22 p m qp es cl { D with files := crash1 D.files (D.pends.take (i + 1)) keep }
      have e : crash1 D.files (D.pends.take (i + 1)) keep = upF (crash1 D.files (D.pends.take i) keep) (keepF g2 x.2.1 x.2.2 n) := by
        rw [ht, crash1_snoc, htl, hn']
        simp only [keepAt]
        rw [← hg2b, find_b C11.blocks hg2]
      rw [e]; exact C22
    · replace g3 := of_decide_eq_false g3
      refine ⟨trivial, ⟨i + 1, ow11, by simp, by omega, ?_, S11⟩, by simp only; omega⟩
      show DiskC h11 ow11 p m qp es cl { D with files := crash1 D.files (D.pends.take (i + 1)) keep }
      have e : crash1 D.files (D.pends.take (i + 1)) keep = crash1 D.files (D.pends.take i) keep := by
        rw [ht, crash1_snoc, htl, List.getElem?_eq_none (by omega)]
      rw [e]; exact C11
  · replace g1 := of_decide_eq_false g1
    have : i = D.pends.length := by omega
    subst this
    have C11 : DiskC h11 ow11 p m qp es cl { D with files := crash1 D.files D.pends keep } := by rw [List.take_length] at C11; exact C11
    refine store6v C11.pb (by simp) ?_
    obtain ⟨C21, S21⟩ := C11.setPend (l' := []) (q' := none) (.inl ⟨rfl, rfl⟩) (.refl _ _) (Nat.le_refl _) (by simp) (by simp) (B := .cells (splice [.map (some m), .sl qp, .int .i64 D.limit, .int .i64 D.left, .bool D.off] (0 + 1) [.sl none]) true) rfl
    generalize h11.set p (.cells (splice [.map (some m), .sl qp, .int .i64 D.limit, .int .i64 D.left, .bool D.off] (0 + 1) [.sl none]) true) = h21 at *
    refine store6v C21.pb (by simp) ?_
    obtain ⟨C23, S23⟩ := C21.put (D' := { D with files := crash1 D.files D.pends keep, pends := [], left := -1 }) (B := .cells (splice [.map (some m), .sl none, .int .i64 D.limit, .int .i64 D.left, .bool D.off] (0 + 3) [.int .i64 (-1)]) true) rfl rfl rfl rfl (by simp)
    generalize h21.set p (.cells (splice [.map (some m), .sl none, .int .i64 D.limit, .int .i64 D.left, .bool D.off] (0 + 3) [.int .i64 (-1)]) true) = h23 at *
    refine store6v C23.pb (by simp) ?_
    obtain ⟨C25, S25⟩ := C23.put (D' := { D with files := crash1 D.files D.pends keep, pends := [], left := -1, off := false }) (B := .cells (splice [.map (some m), .sl none, .int .i64 D.limit, .int .i64 (-1), .bool D.off] (0 + 4) [.bool false]) true) rfl rfl rfl rfl (by simp)
    generalize h23.set p (.cells (splice [.map (some m), .sl none, .int .i64 D.limit, .int .i64 (-1), .bool D.off] (0 + 4) [.bool false]) true) = h25 at *
    refine ⟨some m, C25.at (k := 0) rfl, ?_⟩
    refine crash_tail (ow0 := ow) (h0 := h) C25 rfl fun h' ow' C' S' => ?_
    exact hQ _ _ ⟨_, _, _, _, C'⟩ (S11.trans (S21.trans (S23.trans (S25.trans S')))))

/-- What was there before the disk is there. -/
structure Base (h0 : Heap) (ow : Roles) (h : Heap) : Prop where
  new : ∀ b, ow b ≠ none → h0.length ≤ b
  ext : Ext h0 h
theorem Base.step {h0 : Heap} (B : Base h0 ow h) (S : DStep ow h ow' h') : Base h0 ow' h' := by
  refine ⟨fun b hb => ?_, fun b X hX => ?_⟩
  · rcases S.own b hb with h1 | h1
    · exact B.new b h1
    · have := B.ext.len; omega
  · exact S.keeps b X (fun hb => by have := B.new b hb; have := lt_of_get hX; omega) (B.ext b X hX)

set_option maxRecDepth 100000 in
theorem run33 : erun Try.prog slotsOf ovF 60 33 [] ⟨.e, 0⟩ isTrue = true := by kernel_rfl
/-- What lives in every program lives in this one. -/
theorem s33 (hQ : Q (.bool true) h) : AC Try.prog 33 [] h Q :=
  AC_frame (v := .bool true) (erun_ok Try.ovOk 60 33 _ _ _ _ _ HFor_nil (fun v e' h' _ hv => isTrue_ok hv) run33) (fun _ _ h => h) (fun _ _ _ h => h) hQ

/-- A sector made, and appended. -/
theorem app_sec (R : DiskR h ow p D) (hpl : D.pends.length ≤ 1000000) {s : Bs} {c : UInt8} {n : Int} (hn : n = ((c.toNat : Nat) : Int)) {K : Int → Heap → Prop}
    (hQ : ∀ h' ow', DiskR h' ow' p (D.append s (List.replicate 64 c)).2 → DStep ow h ow' h' → K (D.append s (List.replicate 64 c)).1 h') :
    AC Try.prog 37 [.int .u8 n] h fun v41 h42 => ∃ q43 : Option SL, v41 = .sl q43 ∧ AC Try.prog 36 [.ptr (some ⟨p, 0⟩), .str s, .sl q43] h42 fun v44 h45 => ∃ n46 : Int, v44 = .int .i64 n46 ∧ K n46 h45 := by
  subst hn
  refine d37 fun q h42 N => ⟨q, rfl, ?_⟩
  refine d36 (R.grow N.1) N.hasL (fun s' hs' => ?_) hpl fun h' ow' R' S' => ⟨_, rfl, hQ h' ow' R' ((DStep.ext N.1).trans S')⟩
  cases ho : ow s'.b with
  | none => rfl
  | some r =>
    have h1 := R.live s'.b (by simp [ho])
    have h2 := N.2.2 s' hs'
    omega
end

/-- The disk of the law: one file. -/
def one (f : FA) (l : List PD) (left : Int) (off : Bool) : DS := ⟨[f], l, 16384, left, off⟩
theorem one_find {f : FA} {l : List PD} {left : Int} {off : Bool} (hn : f.name = [97]) : (one f l left off).find [97] = some f := by
  simp [DS.find, one, hn]

section
variable {h : Heap} {Q : AV → Heap → Prop}
set_option maxRecDepth 20000 in
/-- FilesStops -/
theorem s8 {n m : Int} : AC Try.prog 8 [.int .i64 n, .int .i64 m] h fun v _ => v = .bool true := ac8 (by
  unfold vc8
  refine d32 (by omega) (by omega) fun ow R B0 => ⟨_, _, rfl, ?_⟩
  have hx4 : Ext h (h ++ [Blk.mp [] 0] ++ [Blk.cells [.map (some h.length), .sl none, .int .i64 16384, .int .i64 (-1), .bool false] true]) := (Ext.app _ _).trans (Ext.app _ _)
  generalize h ++ [Blk.mp [] 0] ++ [Blk.cells [.map (some h.length), .sl none, .int .i64 16384, .int .i64 (-1), .bool false] true] = h4 at *
  have L : ∀ {h : Heap}, AC Try.prog 33 [] h fun v h' => ∃ b : Bool, v = .bool b ∧ AV.bool b = .bool true := s33 ⟨_, rfl, rfl⟩
  refine s33 ⟨_, rfl, vif_mk (fun g => by cases g) (fun _ => ?_)⟩
  refine vif_mk (fun g => by simp at g) (fun _ => ?_)
  refine vif_mk (fun g => by simp at g) (fun _ => ?_)
  refine vif_mk (fun _ => L) (fun g1 => ?_)
  refine vif_mk (fun _ => L) (fun g2 => ?_)
  refine vif_mk (fun _ => L) (fun g3 => ?_)
  refine vif_mk (fun _ => L) (fun g4 => ?_)
  replace g1 := of_decide_eq_false g1
  replace g2 := of_decide_eq_false g2
  replace g3 := of_decide_eq_false g3
  replace g4 := of_decide_eq_false g4
  obtain ⟨n, rfl⟩ := Int.eq_ofNat_of_zero_le (by omega : 0 ≤ n)
  obtain ⟨m, rfl⟩ := Int.eq_ofNat_of_zero_le (by omega : 0 ≤ m)
  refine d34 R fun b h32 ow32 R32 S32 => ⟨_, rfl, ?_⟩
  have e1 : (emptyD 16384).create [97] b = (0, one (mkF b [97]) [] (-1) false) := by
    simp [DS.create, emptyD, mayN, DS.find, DS.deed, one]
  rw [e1] at R32 ⊢
  refine vif_mk (fun g => by simp at g) (fun _ => ?_)
  refine d35 R32 (by omega) (by omega) fun h35 R35 S35 => ⟨_, rfl, vif_mk (fun g => by simp at g) (fun _ => ?_)⟩
  refine ⟨fun xs h40 => ∃ (i : Nat) (ow40 : Roles) (f : FA) (l : List PD), xs = [.int .i64 i] ∧ i ≤ m ∧ DiskR h40 ow40 (h.length + 1) (one f l ((n - min i n : Nat) : Int) (decide (n < i))) ∧ f.name = [97] ∧ f.safe = [] ∧ f.now.length = min i n ∧ l.length ≤ i,
    fun xs _ => match xs with | [.int _ i] => (m - i).toNat | _ => 0, ⟨0, ow32, mkF b [97], [], rfl, by omega, by simpa [one] using R35, rfl, rfl, by simp [mkF], by simp⟩, ?_⟩
  rintro n37 h40 ⟨i, ow40, f, l, hx, hi, R40, hfn, hfs, hfl, hll⟩
  simp only [List.cons.injEq, AV.int.injEq, true_and, and_true] at hx
  subst hx
  have hfind : ∀ left off, (one f l left off).find [97] = some f := fun left off => one_find hfn
  refine vif_mk (fun g5 => ?_) (fun g5 => ?_)
  · replace g5 := of_decide_eq_true g5
    have step : ∀ (v : Int), (v = if n ≤ i then 50 else 0) → AC Try.prog 37 [.int .u8 (wrapK .u8 (i : Int))] h40 fun v41 h42 => ∃ q43 : Option SL, v41 = .sl q43 ∧ AC Try.prog 36 [.ptr (some ⟨h.length + 1, 0⟩), .str [97], .sl q43] h42 fun v44 h45 => ∃ n46 : Int, v44 = .int .i64 n46 ∧
        vif (n46 != v) (AV.bool false = .bool true) ((True) ∧ (∃ (i' : Nat) (ow40 : Roles) (f : FA) (l : List PD), [AV.int .i64 (wrapK .i64 ((i : Int) + 1))] = [.int .i64 i'] ∧ i' ≤ m ∧ DiskR h45 ow40 (h.length + 1) (one f l ((n - min i' n : Nat) : Int) (decide (n < i'))) ∧ f.name = [97] ∧ f.safe = [] ∧ f.now.length = min i' n ∧ l.length ≤ i') ∧ ((m : Int) - wrapK .i64 ((i : Int) + 1)).toNat < ((m : Int) - (i : Int)).toNat) := by
      intro v hv
      refine app_sec R40 (by show l.length ≤ _; omega) (c := UInt8.ofNat (i % 256)) u8c (K := fun n46 h45 => vif (n46 != v) _ _) fun h45 ow45 R45 S45 => ?_
      rw [wrapK_i64 ⟨by omega, by omega⟩]
      have hap : ∃ (f' : FA) (l' : List PD), (one f l ((n - min i n : Nat) : Int) (decide (n < i))).append [97] (List.replicate 64 (UInt8.ofNat (i % 256))) = (v, one f' l' ((n - min (i + 1) n : Nat) : Int) (decide (n < i + 1))) ∧ f'.name = [97] ∧ f'.safe = [] ∧ f'.now.length = min (i + 1) n ∧ l'.length ≤ i + 1 := by
        unfold DS.append
        rw [if_neg (by simp), hfind]
        by_cases hni : n < i
        · obtain rfl : v = 50 := by rw [hv]; exact if_pos (by omega)
          refine ⟨f, l, ?_, hfn, hfs, by omega, by omega⟩
          have e1 : min i n = n := by omega
          have e2 : min (i + 1) n = n := by omega
          have e5 : decide (n < i + 1) = true := decide_eq_true (by omega)
          simp only [one, hni, decide_true, if_true, e1, e2, e5]
        · simp only [one, decide_eq_false hni, Bool.false_eq_true, if_false]
          have hul : ¬ (16384 : Int) ≤ (((⟨[f], l, 16384, ((n - min i n : Nat) : Int), false⟩ : DS).used : Nat) : Int) := by simp [DS.used]; omega
          rw [if_neg hul]
          by_cases hni2 : i = n
          · obtain rfl : v = 50 := by rw [hv]; exact if_pos (by omega)
            refine ⟨f, l, ?_, hfn, hfs, by omega, by omega⟩
            have e1 : min i n = n := by omega
            have e2 : min (i + 1) n = n := by omega
            have e5 : decide (n < i + 1) = true := decide_eq_true (by omega)
            have hd : (DS.deed ⟨[f], l, 16384, ((n - min i n : Nat) : Int), false⟩) = (50, ⟨[f], l, 16384, ((n - min (i + 1) n : Nat) : Int), true⟩) := by
              simp [DS.deed, e1, e2]
            rw [hd, e5]
            simp
          · obtain rfl : v = 0 := by rw [hv]; exact if_neg (by omega)
            have e1 : min i n = i := by omega
            have e2 : min (i + 1) n = i + 1 := by omega
            have e5 : decide (n < i + 1) = false := decide_eq_false (by omega)
            have hd : (DS.deed ⟨[f], l, 16384, ((n - min i n : Nat) : Int), false⟩) = (0, ⟨[f], l, 16384, ((n - min (i + 1) n : Nat) : Int), false⟩) := by
              unfold DS.deed
              simp only [e1, e2]
              rw [if_neg (by omega), if_pos (by omega)]
              congr 2
              omega
            rw [hd, e5]
            refine ⟨{ f with now := f.now ++ [List.replicate 64 (UInt8.ofNat (i % 256))] }, l ++ [(f.b, f.now.length, List.replicate 64 (UInt8.ofNat (i % 256)))], ?_, hfn, hfs, by simp; omega, by simp; omega⟩
            simp [upF]
      obtain ⟨f', l', h1, h2, h3, h4, h5⟩ := hap
      rw [h1] at R45 ⊢
      refine vif_mk (fun g => by simp at g) (fun _ => ?_)
      exact ⟨trivial, ⟨i + 1, ow45, f', l', by simp, by omega, R45, h2, h3, h4, h5⟩, by omega⟩
    refine vif_mk (fun g6 => ?_) (fun g6 => ?_)
    · replace g6 := of_decide_eq_true g6
      exact step 50 (by rw [if_pos (by omega)])
    · replace g6 := of_decide_eq_false g6
      exact step 0 (by rw [if_neg (by omega)])
  · replace g5 := of_decide_eq_false g5
    have : i = m := by omega
    subst this
    refine d38 R40 ⟨_, rfl, ?_⟩
    have e2 : (one f l ((n - min i n : Nat) : Int) (decide (n < i))).off = decide ((i : Int) > (n : Int)) := by
      simp [one]
    rw [e2]
    refine vif_mk (fun g => by simp at g) (fun _ => ?_)
    refine d39 R40 (q := none) (keep := []) rfl (by simp) (by show l.length ≤ _; omega) fun h57 ow57 R57 S57 => ⟨rfl, ?_⟩
    have e3 : (one f l ((n - min i n : Nat) : Int) (decide (n < i))).crash [] = one { f with now := [] } [] (-1) false := by
      simp [DS.crash, one, crash1, crash2, hfs]
    rw [e3] at R57
    have hfind2 : (one { f with now := [] } [] (-1) false).find [97] = some { f with now := [] } := one_find hfn
    refine d40 R57 (fun hn => by rw [hfind2] at hn; cases hn) fun f2 hf2 => ?_
    rw [hfind2] at hf2
    obtain rfl := Option.some.inj hf2
    refine ⟨_, _, rfl, d38 R57 ⟨_, rfl, ?_⟩⟩
    refine vif_mk (fun _ => ?_) (fun g => by simp [one] at g)
    refine vif_mk (fun _ => ?_) (fun g => by simp at g)
    refine vif_mk (fun _ => ?_) (fun g => by simp at g)
    refine app_sec R57 (by simp [one]) (c := 1) (by decide) (K := fun n70 h69 => AV.bool (n70 == 0) = .bool true) fun h69 ow69 R69 S69 => ?_
    have e4 : ((one { f with now := [] } [] (-1) false).append [97] (List.replicate 64 1)).1 = 0 := by
      unfold DS.append
      rw [if_neg (by simp), hfind2]
      simp [one, DS.used, DS.deed]
    rw [e4]; rfl)
end
end Go.Proofs.Ytceplmmmlindnaa

/- The law of a file that is renamed: the last steps. -/
namespace Go.Proofs.Ytceplmmmlindnaa
open Go.Ab
set_option linter.unusedVariables false
set_option linter.unusedSimpArgs false

/-- What follows the renaming. -/
def tailR (p : Nat) (n1 n3 : Int) (q4 : Option SL) (h : Heap) (Q : AV → Heap → Prop) : Prop :=
    AC Try.prog 47 [.ptr (some ⟨p, 0⟩)] h fun v80 h81 => ∃ q82 : Option SL, v80 = .sl q82 ∧
 AC Try.prog 40 [.ptr (some ⟨p, 0⟩), .str [98]] h81 fun v83 h84 => ∃ n85 : Int, ∃ n86 : Int, v83 = .tup [.int .i64 n85, .int .i64 n86] ∧
 AC Try.prog 40 [.ptr (some ⟨p, 0⟩), .str [97]] h84 fun v87 h88 => ∃ n89 : Int, ∃ n90 : Int, v87 = .tup [.int .i64 n89, .int .i64 n90] ∧
 vif (n86 != 0)
 (Q (.bool false) h88)
 (vif (n85 != n1)
 (Q (.bool false) h88)
 (vif (n90 != 4)
 (Q (.bool false) h88)
 (AC Try.prog 46 [.ptr (some ⟨p, 0⟩)] h88 fun v91 h92 => ∃ q93 : Option SL, v91 = .sl q93 ∧
 vif ((slLen q93 : Int) != 1)
 (Q (.bool false) h92)
 (AC Try.prog 48 [.ptr (some ⟨p, 0⟩)] h92 fun v94 h95 => ∃ n96 : Int, v94 = .int .i64 n96 ∧
 vif (n96 != n1)
 (Q (.bool false) h95)
 (∃ (I98 : List AV → Heap → Prop) (m99 : List AV → Heap → Nat), I98 [.int .i64 0] h95 ∧
 ∀ n97 : Int, ∀ h100 : Heap, I98 [.int .i64 n97] h100 →
 vif (decide (n97 < n1))
 (AC Try.prog 41 [.ptr (some ⟨p, 0⟩), .str [98], .int .i64 n97] h100 fun v101 h102 => ∃ q103 : Option SL, ∃ n104 : Int, v101 = .tup [.sl q103, .int .i64 n104] ∧
 vif (n104 != 0)
 (Q (.bool false) h102)
 (vIdx q103 0 1 fun p105 =>
 ∃ n106 : Int, cellsAt h102 p105 1 = some [.int .u8 n106] ∧
 vif (n106 != (wrapK .u8 n97))
 (Q (.bool false) h102)
 ((True) ∧ I98 [.int .i64 (wrapK .i64 (n97 + 1))] h102 ∧ m99 [.int .i64 (wrapK .i64 (n97 + 1))] h102 < m99 [.int .i64 n97] h100)))
 (∃ (I108 : List AV → Heap → Prop) (m109 : List AV → Heap → Nat), I108 [.int .i64 0] h100 ∧
 ∀ n107 : Int, ∀ h110 : Heap, I108 [.int .i64 n107] h110 →
 vif (decide (n107 < (slLen q82 : Int)))
 (vIdx q82 n107 2 fun p111 =>
 ∃ s112 : List UInt8, cellsAt h110 ⟨p111.b, p111.o + 0⟩ 1 = some [.str s112] ∧
 vif (!(s112 == [98]))
 (Q (.bool false) h110)
 ((True) ∧ I108 [.int .i64 (wrapK .i64 (n107 + 1))] h110 ∧ m109 [.int .i64 (wrapK .i64 (n107 + 1))] h110 < m109 [.int .i64 n107] h110))
 (AC Try.prog 39 [.ptr (some ⟨p, 0⟩), .sl q4] h110 fun v113 h114 => v113 = .tup [] ∧
 AC Try.prog 40 [.ptr (some ⟨p, 0⟩), .str [98]] h114 fun v115 h116 => ∃ n117 : Int, ∃ n118 : Int, v115 = .tup [.int .i64 n117, .int .i64 n118] ∧
 vif (n118 == 0)
 (vif (decide (n117 ≤ n1))
 (vif (decide (n3 ≥ n1))
 (Q (.bool true) h116)
 (Q (.bool (decide (n117 ≥ n3))) h116))
 (Q (.bool false) h116))
 (Q (.bool false) h116))))))))

section
variable {h h' : Heap} {ow ow' : Roles} {p m : Nat} {qp : Option SL} {es : Ents} {cl : Nat} {D : DS} {f f' : FA} {Q : AV → Heap → Prop}

def secOf (j : Nat) : Bs := List.replicate 64 (UInt8.ofNat (j % 256))
theorem keepF_safe {i N : Nat} {s : Bs} {n : Int} (hi : i < N) (hs : f.safe.length ≤ N) : f.safe.length ≤ (keepF f i s n).safe.length ∧ (keepF f i s n).safe.length ≤ N := by
  unfold keepF
  split
  · exact ⟨Nat.le_refl _, hs⟩
  · simp only [List.length_set, padTo_len]; omega
theorem crash1_one {N : Nat} : ∀ {l : List PD} {keep : List Int} {A : FA}, (∀ x ∈ l, x.1 = A.b ∧ x.2.1 < N) → A.safe.length ≤ N → ∃ A2, crash1 [A] l keep = [A2] ∧ A2.b = A.b ∧ A2.name = A.name ∧ A.safe.length ≤ A2.safe.length ∧ A2.safe.length ≤ N
  | [], keep, A, _, hs => ⟨A, by simp [crash1], rfl, rfl, Nat.le_refl _, hs⟩
  | x :: l, [], A, _, hs => ⟨A, by simp [crash1], rfl, rfl, Nat.le_refl _, hs⟩
  | x :: l, n :: keep, A, hx, hs => by
    obtain ⟨h1, h2⟩ := hx x (by simp)
    have hk := keepF_safe (f := A) (s := x.2.2) (n := n) h2 hs
    have hb := @keepF_b A x.2.1 x.2.2 n
    have e : crash1 [A] (x :: l) (n :: keep) = crash1 [keepF A x.2.1 x.2.2 n] l keep := by
      simp only [crash1, List.zip_cons_cons, List.foldl_cons]
      congr 1
      simp only [keepAt, List.find?_cons, h1, beq_self_eq_true, upF, List.map_cons, List.map_nil, hb.1, if_true]
    obtain ⟨A2, k1, k2, k3, k4, k5⟩ := crash1_one (l := l) (keep := keep) (A := keepF A x.2.1 x.2.2 n) (fun y hy => by rw [hb.1]; exact hx y (by simp [hy])) hk.2
    exact ⟨A2, by rw [e, k1], by rw [k2, hb.1], by rw [k3, hb.2.1], by omega, k5⟩

theorem docNames_one {s : Bs} : docNames [s] = [s] := rfl

def ones (A : FA) (l : List PD) : DS := ⟨[A], l, 16384, -1, false⟩
set_option maxRecDepth 20000 in
theorem tailR_ok {A : FA} {l : List PD} {n k : Nat} {q4 : Option SL} {keep : List Int} (R : DiskR h ow p (ones A l)) (hA : A.name = [98]) (hn : A.now = (List.range n).map secOf) (hl : ∀ x ∈ l, x.1 = A.b) (hll : l.length ≤ 100) (hn5 : n ≤ 50)
    (hk : k < n → k ≤ A.safe.length) (H : HasL intE h q4 keep) (hqo : ∀ s, q4 = some s → ow s.b = none) : tailR p (n : Nat) (k : Nat) q4 h fun v _ => v = .bool true := by
  unfold tailR
  have hfA : (ones A l).find [98] = some A := by simp [DS.find, ones, hA]
  have hf0 : (ones A l).find [97] = none := by simp [DS.find, ones, hA]
  have hnl : A.now.length = n := by rw [hn]; simp
  have hfacts : A.safe.length ≤ n ∧ ∀ x ∈ l, x.2.1 < n := by
    obtain ⟨m, qp, es, cl, C⟩ := R
    refine ⟨by have := C.safe A (by simp [ones]); omega, fun x hx => ?_⟩
    obtain ⟨g, hg, h1, h2⟩ := C.pfile x hx
    simp only [ones, List.mem_singleton] at hg
    subst hg; omega
  have hname : (ones A l).nameOf A.b = [98] := by simp [DS.nameOf, ones, hA]
  refine d47 R (by show l.length ≤ _; omega) fun q82 h81 N81 => ⟨q82, rfl, ?_⟩
  have hpl : (ones A l).pendL.length = l.length := by simp [DS.pendL, ones]
  have R81 := R.grow N81.1
  refine d40 R81 (fun hh => by rw [hfA] at hh; cases hh) fun f2 hf2 => ⟨_, _, rfl, ?_⟩
  rw [hfA] at hf2
  obtain rfl := Option.some.inj hf2
  refine d40 R81 (fun hh => ⟨_, _, rfl, ?_⟩) (fun f3 hf3 => by rw [hf0] at hf3; cases hf3)
  refine vif_mk (fun g => by simp at g) (fun _ => ?_)
  refine vif_mk (fun g => by simp [hnl] at g) (fun _ => ?_)
  refine vif_mk (fun g => by simp at g) (fun _ => ?_)
  refine d46 R81 fun q93 h92 N92 => ⟨q93, rfl, ?_⟩
  have hl93 := N92.hasL.len
  have hll93 : (ones A l).list.length = 1 := by simp [DS.list, DS.namesL, ones, docNames_one]
  refine vif_mk (fun g => by simp [hl93, hll93] at g) (fun _ => ?_)
  have R92 := R81.grow N92.1
  refine d48 R92 fun h95 x95 => ⟨_, rfl, ?_⟩
  have hu : (ones A l).used = n := by simp [DS.used, ones, hnl]
  rw [hu]
  refine vif_mk (fun g => by simp at g) (fun _ => ?_)
  have X95 := N81.1.trans (N92.1.trans x95)
  refine ⟨fun xs h100 => ∃ i : Nat, xs = [.int .i64 i] ∧ i ≤ n ∧ Ext h95 h100, fun xs _ => match xs with | [.int _ i] => (n - i).toNat | _ => 0, ⟨0, rfl, by omega, .refl _⟩, ?_⟩
  rintro n97 h100 ⟨i, hx, hi, x100⟩
  simp only [List.cons.injEq, AV.int.injEq, true_and, and_true] at hx
  subst hx
  have X100 := X95.trans x100
  have R100 := R.grow X100
  refine vif_mk (fun g => ?_) (fun g => ?_)
  · replace g := of_decide_eq_true g
    have hget : A.now[i]? = some (secOf i) := by rw [hn, List.getElem?_map, List.getElem?_range (by omega)]; rfl
    refine d41 R100 (fun v _ _ hv => ?_) fun f4 x q103 h102 ho hf4 h0 hx4 x102 H102 _ => ⟨_, _, rfl, ?_⟩
    · exact (hv rfl A hfA ⟨by omega, by omega⟩).elim
    · rw [hfA] at hf4
      obtain rfl := Option.some.inj hf4
      have hx5 : x = secOf i := by
        have : A.now[i]? = some x := by simpa using hx4
        rw [hget] at this; exact (Option.some.inj this).symm
      subst hx5
      refine vif_mk (fun g => by simp at g) (fun _ => ?_)
      refine HasL.idx (E := byE) H102 (by omega) (by rw [pad_len]; omega) fun pp b hb hc => ⟨_, hc, ?_⟩
      have hb' : b = UInt8.ofNat (i % 256) := by
        rw [pad_self (by simp [secOf])] at hb
        simp [secOf] at hb
        exact hb.symm
      subst hb'
      rw [u8c, wrapK_i64 ⟨by omega, by omega⟩]
      refine vif_mk (fun g => by simp at g) (fun _ => ?_)
      exact ⟨trivial, ⟨i + 1, by simp, by omega, x100.trans x102⟩, by simp only; omega⟩
  · replace g := of_decide_eq_false g
    have H100 : HasL lisE h100 q82 (ones A l).pendL := N81.hasL.mono (N92.1.trans (x95.trans x100))
    have hl82 := H100.len
    refine ⟨fun xs h110 => h110 = h100 ∧ ∃ j : Nat, xs = [.int .i64 j] ∧ j ≤ l.length, fun xs _ => match xs with | [.int _ i] => (l.length - i).toNat | _ => 0, ⟨rfl, 0, rfl, by omega⟩, ?_⟩
    rintro n107 h110 ⟨rfl, j, hx, hj⟩
    simp only [List.cons.injEq, AV.int.injEq, true_and, and_true] at hx
    subst hx
    refine vif_mk (fun g1 => ?_) (fun g1 => ?_)
    · replace g1 := of_decide_eq_true g1
      refine HasL.idx (E := lisE) H100 (by omega) (by omega) fun pp y hy hc => ⟨y.1, ?_, ?_⟩
      · have := cellsAt_sub (k := 0) (m := 1) hc (by show 0 + 1 ≤ 2; omega)
        simpa [lisE] using this
      · have hy' : (ones A l).pendL[j]? = some y := by simpa using hy
        have hy1 : y.1 = [98] := by
          simp only [DS.pendL, List.getElem?_map, Option.map_eq_some_iff] at hy'
          obtain ⟨x, hx, rfl⟩ := hy'
          have := hl x (List.mem_of_getElem? hx)
          simp only [this, hname]
        rw [hy1, wrapK_i64 ⟨by omega, by omega⟩]
        refine vif_mk (fun g => by simp at g) (fun _ => ?_)
        exact ⟨trivial, ⟨rfl, j + 1, by simp, by omega⟩, by simp only; omega⟩
    · replace g1 := of_decide_eq_false g1
      refine d39 R100 (H.mono X100) hqo (by show l.length ≤ _; omega) fun h114 ow114 R114 S114 => ⟨rfl, ?_⟩
      obtain ⟨A2, k1, k2, k3, k4, k5⟩ := crash1_one (N := n) (l := l) (keep := keep) (A := A) (fun x hx => ⟨hl x hx, hfacts.2 x hx⟩) hfacts.1
      have hcr : (ones A l).crash keep = ones { A2 with now := A2.safe } [] := by
        simp only [DS.crash, ones, k1, crash2, List.map_cons, List.map_nil]
      rw [hcr] at R114
      have hf5 : (ones { A2 with now := A2.safe } []).find [98] = some { A2 with now := A2.safe } := by simp [DS.find, ones, k3, hA]
      refine d40 R114 (fun hh => by rw [hf5] at hh; cases hh) fun f6 hf6 => ⟨_, _, rfl, ?_⟩
      rw [hf5] at hf6
      obtain rfl := Option.some.inj hf6
      refine vif_mk (fun _ => ?_) (fun g => by simp at g)
      refine vif_mk (fun _ => ?_) (fun g => by simp at g; omega)
      refine vif_mk (fun _ => rfl) (fun g => ?_)
      replace g := of_decide_eq_false g
      have := hk (by omega)
      have : decide (((A2.safe.length : Nat) : Int) ≥ (k : Nat)) = true := decide_eq_true (by omega)
      rw [this]
end
end Go.Proofs.Ytceplmmmlindnaa
